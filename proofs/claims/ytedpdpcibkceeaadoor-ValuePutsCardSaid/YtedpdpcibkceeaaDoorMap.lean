import Derived.Test.YtedpdpcibkceeaaDoorPut
import Derived.Test.YtedpdpcibkceeaaDoorPcmp

import Derived.Test.YtedpdpcibkceeaaDoorSortl
import Derived.Deep.RegionLaw
/-
  The program's List, the closure of Map, and own rows of keys and items that grow together. Conditions: those ahead of each theorem.
-/
namespace Go.Proofs.YtedpdpcibkceeaaDoor
open Go.RowKit Go.Sort Go.Lib
open Go.Lib (hid)
set_option linter.unusedVariables false
set_option linter.unusedSimpArgs false

set_option maxRecDepth 100000 in
set_option maxHeartbeats 2000000 in
theorem plist_any (is : List Val) (r : Option Addr) (c : Nat) (w : World) (hI : Sl VR 5 w (.slice r is.length c) is) (hno : nodesL is ≤ 1000000) (hnk : nkeysL is ≤ 1000000) :
    Calls Tryd.prog 39 #[.slice r is.length c] w (PutP w (.mk 4 0 ⟨#[]⟩ is [])) := by
  have h3 := nodesL_len is
  have CPS := hid (fun (W : World) (hW : Below w.heap.size w W) => copies_of is (fun y hy r c rk ck w' h5 => copied_any y r c rk ck w' h5 (by have := nodes_mem hy; omega) (by have := nkeys_mem hy; omega)) r c W (slv_mono hI hW) (by omega))
  obtain ⟨_, hlc, hcm⟩ := sl_len hI
  clear hI
  go_enter Tryd.func39, Tryd.ntmps39
  go_wp2_with fail
  have hb1 : Below w.heap.size w (w.alloc (.cells #[.int .i64 0, .int .i64 0, .string { data := #[] }, .slice none 0 0, .slice none 0 0] 26)) := (Below.refl _ _).alloc (Nat.le_refl _) _
  have t0 : (w.alloc (.cells #[.int .i64 0, .int .i64 0, .string { data := #[] }, .slice none 0 0, .slice none 0 0] 26)).cell? ⟨w.heap.size, 0, none⟩ = some (.int .i64 0) := cell_at rfl rfl
  have t1 : (w.alloc (.cells #[.int .i64 0, .int .i64 0, .string { data := #[] }, .slice none 0 0, .slice none 0 0] 26)).cell? ⟨w.heap.size, 1, none⟩ = some (.int .i64 0) := cell_at rfl rfl
  have t2 : (w.alloc (.cells #[.int .i64 0, .int .i64 0, .string { data := #[] }, .slice none 0 0, .slice none 0 0] 26)).cell? ⟨w.heap.size, 2, none⟩ = some (.string { data := #[] }) := cell_at rfl rfl
  have t3 : (w.alloc (.cells #[.int .i64 0, .int .i64 0, .string { data := #[] }, .slice none 0 0, .slice none 0 0] 26)).cell? ⟨w.heap.size, 3, none⟩ = some (.slice none 0 0) := cell_at rfl rfl
  have t4 : (w.alloc (.cells #[.int .i64 0, .int .i64 0, .string { data := #[] }, .slice none 0 0, .slice none 0 0] 26)).cell? ⟨w.heap.size, 4, none⟩ = some (.slice none 0 0) := cell_at rfl rfl
  have hf1 : ∀ o, (w.alloc (.cells #[.int .i64 0, .int .i64 0, .string { data := #[] }, .slice none 0 0, .slice none 0 0] 26)).frozen? ⟨w.heap.size, o, none⟩ = false := fun o => by simp
  have z1 : (w.alloc (.cells #[.int .i64 0, .int .i64 0, .string { data := #[] }, .slice none 0 0, .slice none 0 0] 26)).heap.size = w.heap.size + 1 := by simp
  generalize (w.alloc (.cells #[.int .i64 0, .int .i64 0, .string { data := #[] }, .slice none 0 0, .slice none 0 0] 26)) = W1 at *
  refine (CPS.out W1 hb1).mono ?_
  rintro e w2 ⟨r2, c2, rfl, ho, hb2⟩
  have B2 := hid (hb1.trans (hb2.mono hb1.size))
  have u0 := bget hb2 t0
  have u1 := bget hb2 t1
  have u2 := bget hb2 t2
  have u3 := bget hb2 t3
  have u4 := bget hb2 t4
  have hf2 : ∀ o, w2.frozen? ⟨w.heap.size, o, none⟩ = false := fun o => (hb2.frozen (p := ⟨w.heap.size, o, none⟩) (by simp only; omega)).trans (hf1 o)
  have HO := hid ho
  have HZ := hid z1
  clear hb1 hb2 t0 t1 t2 t3 t4 hf1 ho z1 CPS
  have hk : ∀ b, W1.heap.size ≤ b → (((((w2.setCell ⟨w.heap.size, 0, none⟩ (.int .i64 4)).setCell ⟨w.heap.size, 1, none⟩ (.int .i64 0)).setCell ⟨w.heap.size, 2, none⟩ (.string { data := #[] })).setCell ⟨w.heap.size, 3, none⟩ (.slice r2 is.length c2)).setCell ⟨w.heap.size, 4, none⟩ (.slice none 0 0)).heap[b]? = w2.heap[b]? := fun b hb => five_heap _ _ 0 _ _ _ _ _ (by have := HZ.out; omega)
  have HV : VK (fromB w.heap.size) (((((w2.setCell ⟨w.heap.size, 0, none⟩ (.int .i64 4)).setCell ⟨w.heap.size, 1, none⟩ (.int .i64 0)).setCell ⟨w.heap.size, 2, none⟩ (.string { data := #[] })).setCell ⟨w.heap.size, 3, none⟩ (.slice r2 is.length c2)).setCell ⟨w.heap.size, 4, none⟩ (.slice none 0 0)) r2 c2 none 0 (.mk 4 0 ⟨#[]⟩ is []) :=
    VR.make (x := .mk 4 0 ⟨#[]⟩ is []) ((OwnV.to HO.out fun b hb _ => hk b hb).slK fun b hb => decide_eq_true (by have := HZ.out; omega)) ⟨none, 0, rfl, by simp [Val.keys], by simp, fun i h => absurd h (by simp [Val.keys])⟩ (by unfold i64B; simp [Val.kind]) (by unfold i64B; simp [Val.num]) (Nat.zero_le _) (by simp [Val.keys]) (by simp only [Val.items]; omega)
  have HB := (((((B2.out.setCell (p := ⟨w.heap.size, 0, none⟩) (Nat.le_refl _) (.int .i64 4)).setCell (p := ⟨w.heap.size, 1, none⟩) (Nat.le_refl _) (.int .i64 0)).setCell (p := ⟨w.heap.size, 2, none⟩) (Nat.le_refl _) (.string { data := #[] })).setCell (p := ⟨w.heap.size, 3, none⟩) (Nat.le_refl _) (.slice r2 is.length c2)).setCell (p := ⟨w.heap.size, 4, none⟩) (Nat.le_refl _) (.slice none 0 0))
  have HV2 := hid HV
  have HB2 := hid HB
  clear hk HV HB
  go_wp2
  exact bodyPost_ret (v := .agg #[.int .i64 4, .int .i64 0, .string ⟨#[]⟩, .slice r2 is.length c2, .slice none 0 0]) (by simp [results, Tryd.results39, go_sem, u0, u1, u2, u3, u4]) rfl ⟨r2, c2, none, 0, rfl, HV2.out, HB2.out⟩

theorem mapcl_any (ks : List ByteArray) (i j : Nat) (hi : i < ks.length) (hj : j < ks.length) (B : Nat) (r : Option Addr) (c : Nat) (W : World) (h0 : W.cell? ⟨B, 0, none⟩ = some (.slice r ks.length c)) (hK : Sl StrR 1 W (.slice r ks.length c) ks) (hn : ks.length ≤ 10000000000000) :
    Calls Tryd.prog 62 #[.int .i64 (i : Nat), .int .i64 (j : Nat), .pointer (some ⟨B, 0, none⟩)] W fun e w' => e = .returned (.int .i64 (cmpS ks[i] ks[j])) ∧ ∃ q, w' = W.drewN q := by
  obtain ⟨b, off, rfl, hb, g1, _⟩ := str_at hK i hi
  obtain ⟨b', off', hr, hb', g2, _⟩ := str_at hK j hj
  simp only [Option.some.injEq, Addr.mk.injEq, and_true] at hr
  obtain ⟨rfl, rfl⟩ := hr
  have C := hid (fun (w : World) => scmp_any ks[i] ks[j] w)
  have y1 : (0 : Int) ≤ (i : Int) := Int.natCast_nonneg _
  have y2 : (i : Int) < (ks.length : Int) := by omega
  have y3 : (0 : Int) ≤ (j : Int) := Int.natCast_nonneg _
  have y4 : (j : Int) < (ks.length : Int) := by omega
  clear hK hb hb'
  generalize ks[i] = ki at *
  generalize ks[j] = kj at *
  generalize cmpS ki kj = res at *
  go_enter Tryd.func62, Tryd.ntmps62
  go_wp2
  go_quiet ((go_at_call 53; exact Calls.quiet_of_same ((C.out _).mono fun _ _ ⟨h1, h2⟩ => ⟨h1, h2.symm⟩)))
  go_wp2
  go_ret
  exact ⟨rfl, _, rfl⟩
end Go.Proofs.YtedpdpcibkceeaaDoor
