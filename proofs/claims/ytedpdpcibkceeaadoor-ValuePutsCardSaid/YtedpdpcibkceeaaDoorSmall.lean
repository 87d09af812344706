import Derived.Test.YtedpdpcibkceeaaDoorVal
/-
  Contract of the reference's Small. Conditions: those ahead of the theorem.
-/
namespace Go.Proofs.YtedpdpcibkceeaaDoor
open Go.RowKit Go.Sort Go.Lib
open Go.Lib (hid)
set_option linter.unusedVariables false
set_option linter.unusedSimpArgs false

set_option maxRecDepth 100000 in
theorem rsmall_any (x : Val) (k : Nat) (r : Option Addr) (c : Nat) (rk : Option Addr) (ck : Nat) (w : World) (hx : VR5 w r c rk ck x) (hk : k ≤ 1000) :
    Calls Tryd.prog 10 #[.agg #[.int .i64 x.kind, .int .i64 x.num, .string x.str, .slice r x.items.length c, .slice rk x.keys.length ck], .int .i64 (k : Int)] w fun e w' => e = .returned (.bool (smallB x k)) ∧ Below w.heap.size w w' := by
  have L := hid (fun (W : World) (hW : Below w.heap.size w W) => rleft_any x k 40 r c rk ck W (hx.below hW) (by omega) (by omega) (by omega) (by omega))
  have KK := hid (fun (W : World) (hW : Below w.heap.size w W) (h : nkeys x ≤ 10000000000000000) => rkeys_any x r c rk ck W (hx.below hW) h)
  have HB := hid (show ∀ l : Int, leftV x k 40 = l → 0 ≤ l → nkeys x ≤ 10000000000000000 from fun l e hl => by
    have h1 := vr_nkeys x w _ hx
    have h2 := ((left_spec x k 40).1 (by rw [e]; exact hl)).1
    have : nodes x ≤ 1000 := by omega
    have : nodes x * 10000000000000 ≤ 1000 * 10000000000000 := Nat.mul_le_mul_right _ this
    omega)
  have HV := hid (show ∀ l : Int, leftV x k 40 = l → smallB x k = (decide (0 ≤ l) && decide (nkeys x ≤ 2 * k)) from fun l e => by rw [← e]; rfl)
  generalize leftV x k 40 = l at *
  have HB2 := hid (HB.out l rfl)
  have HV2 := hid (HV.out l rfl)
  clear HB HV
  generalize smallB x k = res at *
  generalize nkeys x = nk at *
  clear hx
  go_enter Tryd.func10, Tryd.ntmps10
  go_wp2_with fail
  have hb1 : Below w.heap.size w (w.alloc (.cells #[.int .i64 x.kind, .int .i64 x.num, .string x.str, .slice r x.items.length c, .slice rk x.keys.length ck] 26)) := (Below.refl _ _).alloc (Nat.le_refl _) _
  have x0 : (w.alloc (.cells #[.int .i64 x.kind, .int .i64 x.num, .string x.str, .slice r x.items.length c, .slice rk x.keys.length ck] 26)).cell? ⟨w.heap.size, 0, none⟩ = some (.int .i64 x.kind) := cell_at rfl rfl
  have x1 : (w.alloc (.cells #[.int .i64 x.kind, .int .i64 x.num, .string x.str, .slice r x.items.length c, .slice rk x.keys.length ck] 26)).cell? ⟨w.heap.size, 1, none⟩ = some (.int .i64 x.num) := cell_at rfl rfl
  have x2 : (w.alloc (.cells #[.int .i64 x.kind, .int .i64 x.num, .string x.str, .slice r x.items.length c, .slice rk x.keys.length ck] 26)).cell? ⟨w.heap.size, 2, none⟩ = some (.string x.str) := cell_at rfl rfl
  have x3 : (w.alloc (.cells #[.int .i64 x.kind, .int .i64 x.num, .string x.str, .slice r x.items.length c, .slice rk x.keys.length ck] 26)).cell? ⟨w.heap.size, 3, none⟩ = some (.slice r x.items.length c) := cell_at rfl rfl
  have x4 : (w.alloc (.cells #[.int .i64 x.kind, .int .i64 x.num, .string x.str, .slice r x.items.length c, .slice rk x.keys.length ck] 26)).cell? ⟨w.heap.size, 4, none⟩ = some (.slice rk x.keys.length ck) := cell_at rfl rfl
  generalize (w.alloc (.cells #[.int .i64 x.kind, .int .i64 x.num, .string x.str, .slice r x.items.length c, .slice rk x.keys.length ck] 26)) = w1 at *
  refine (L.out _ hb1).mono ?_
  rintro e w3 ⟨rfl, hb3⟩
  have y0 := bget hb3 x0
  have y1 := bget hb3 x1
  have y2 := bget hb3 x2
  have y3 := bget hb3 x3
  have y4 := bget hb3 x4
  have B3 := hid (hb1.trans (hb3.mono hb1.size))
  clear hb1 hb3 x0 x1 x2 x3 x4
  by_cases hl : 0 ≤ l
  · have KK2 := hid (KK.out _ B3.out (HB2.out hl))
    have HR := hid (show res = decide (nk ≤ 2 * k) from by rw [HV2.out]; simp [hl])
    clear HB2 HV2 KK L
    go_wp2_with fail
    refine KK2.out.mono ?_
    rintro e w4 ⟨rfl, hb4⟩
    have B4 := hid (B3.out.trans (hb4.mono B3.out.size))
    have hr : i64B (2 * (k : Int)) := by unfold i64B; omega
    clear hb4 y0 y1 y2 y3 y4
    go_wp2
    refine bodyPost_ret (v := .bool res) (by simp [results, Tryd.results10, go_sem, HR.out]; omega) rfl ⟨rfl, B4.out⟩
  · have HR := hid (show res = false from by rw [HV2.out]; simp [hl])
    have hl' : l < 0 := by omega
    clear HB2 HV2 KK L
    go_wp2
    refine bodyPost_ret (v := .bool res) (by simp [results, Tryd.results10, go_sem, HR.out]) rfl ⟨rfl, B3.out⟩
end Go.Proofs.YtedpdpcibkceeaaDoor
