import Derived.Test.YtedpdpcibkceeaaDoorGet
import Derived.Test.YtedpdpcibkceeaaDoorEq
/-
  Contract of the reference's Get. Conditions: those ahead of the theorem.
-/
namespace Go.Proofs.YtedpdpcibkceeaaDoor
open Go.RowKit Go.Sort Go.Lib
open Go.Lib (hid)
set_option linter.unusedVariables false
set_option linter.unusedSimpArgs false

def findL : List ByteArray → List Val → ByteArray → Option Val
  | k :: ks, y :: is, key => if k = key then some y else findL ks is key
  | _, _, _ => none
theorem findL_nil_k (is : List Val) (key : ByteArray) : findL [] is key = none := by unfold findL; rfl
theorem findL_nil_i (ks : List ByteArray) (key : ByteArray) : findL ks [] key = none := by cases ks <;> (unfold findL; rfl)
theorem findL_drop {ks : List ByteArray} {is : List Val} {key : ByteArray} (i : Nat) (h : i < ks.length) (h' : i < is.length) : findL (ks.drop i) (is.drop i) key = if ks[i] = key then some is[i] else findL (ks.drop (i + 1)) (is.drop (i + 1)) key := by
  rw [List.drop_eq_getElem_cons h, List.drop_eq_getElem_cons h']
  rw [findL]
theorem findL_end {ks : List ByteArray} {is : List Val} {key : ByteArray} (i : Nat) (h : ks.length ≤ i ∨ is.length ≤ i) : findL (ks.drop i) (is.drop i) key = none := by
  rcases h with h | h
  · rw [List.drop_eq_nil_of_le h, findL_nil_k]
  · rw [List.drop_eq_nil_of_le h, findL_nil_i]
def rgetV (x : Val) (key : ByteArray) : Option Val := if x.kind = 5 then findL x.keys x.items key else none

set_option maxRecDepth 100000 in
set_option maxHeartbeats 1000000 in
theorem rget_any (x : Val) (key : ByteArray) (r : Option Addr) (c : Nat) (rk : Option Addr) (ck : Nat) (w : World) (hx : VR5 w r c rk ck x) :
    Calls Tryd.prog 16 #[.agg #[.int .i64 x.kind, .int .i64 x.num, .string x.str, .slice r x.items.length c, .slice rk x.keys.length ck], .string key] w (GetP w (rgetV x key)) := by
  obtain ⟨hI, hK, hk, hnu, hs, hkl, hil⟩ := hx.parts
  obtain ⟨_, hlc, hcm⟩ := sl_len hI
  obtain ⟨_, hlk, hkm⟩ := sl_len hK
  have HI := hid hI
  have HKS := hid hK
  have HN := hid (show ∀ w', Below w.heap.size w w' → rgetV x key = none → GetP w (rgetV x key) (.returned (.tuple #[.agg #[.int .i64 0, .int .i64 0, .string ⟨#[]⟩, .slice none 0 0, .slice none 0 0], .bool false])) w' from fun w' hb h => by
    rw [h]; exact ⟨none, 0, none, 0, rfl, zeroV_vr w', hb⟩)
  have HS := hid (show ∀ y w' r c rk ck, Below w.heap.size w w' → rgetV x key = some y → VR5 w' r c rk ck y → GetP w (rgetV x key) (.returned (.tuple #[.agg #[.int .i64 y.kind, .int .i64 y.num, .string y.str, .slice r y.items.length c, .slice rk y.keys.length ck], .bool true])) w' from fun y w' r c rk ck hb h hv => by
    rw [h]; exact ⟨r, c, rk, ck, rfl, hv, hb⟩)
  have HG1 := hid (show x.kind ≠ 5 → rgetV x key = none from fun h => if_neg h)
  have HG2 := hid (show x.kind = 5 → rgetV x key = findL (x.keys.drop 0) (x.items.drop 0) key from fun h => by unfold rgetV; rw [if_pos h]; rfl)
  clear hI hK hk hnu hs hx
  generalize hgv : rgetV x key = gv at *
  clear hgv
  obtain ⟨xk, xn, xs, is, ks⟩ := x
  simp only [Val.kind, Val.num, Val.str, Val.items, Val.keys] at *
  have hb2 : Below w.heap.size w ((w.alloc (.cells #[.int .i64 xk, .int .i64 xn, .string xs, .slice r is.length c, .slice rk ks.length ck] 26)).alloc (.cells #[.int .i64 0, .int .i64 0, .string { data := #[] }, .slice none 0 0, .slice none 0 0] 26)) := ((Below.refl _ _).alloc (Nat.le_refl _) _).alloc (by simp) _
  go_enter Tryd.func16, Tryd.ntmps16
  have B2 := hid hb2
  have q0 : ((w.alloc (.cells #[.int .i64 xk, .int .i64 xn, .string xs, .slice r is.length c, .slice rk ks.length ck] 26)).alloc (.cells #[.int .i64 0, .int .i64 0, .string { data := #[] }, .slice none 0 0, .slice none 0 0] 26)).cell? ⟨w.heap.size, 0, none⟩ = some (.int .i64 xk) := bget ((Below.refl _ _).alloc (Nat.le_refl _) _) (cell_at rfl rfl)
  have q3 : ((w.alloc (.cells #[.int .i64 xk, .int .i64 xn, .string xs, .slice r is.length c, .slice rk ks.length ck] 26)).alloc (.cells #[.int .i64 0, .int .i64 0, .string { data := #[] }, .slice none 0 0, .slice none 0 0] 26)).cell? ⟨w.heap.size, 3, none⟩ = some (.slice r is.length c) := bget ((Below.refl _ _).alloc (Nat.le_refl _) _) (cell_at rfl rfl)
  have q4 : ((w.alloc (.cells #[.int .i64 xk, .int .i64 xn, .string xs, .slice r is.length c, .slice rk ks.length ck] 26)).alloc (.cells #[.int .i64 0, .int .i64 0, .string { data := #[] }, .slice none 0 0, .slice none 0 0] 26)).cell? ⟨w.heap.size, 4, none⟩ = some (.slice rk ks.length ck) := bget ((Below.refl _ _).alloc (Nat.le_refl _) _) (cell_at rfl rfl)
  have t0 : ((w.alloc (.cells #[.int .i64 xk, .int .i64 xn, .string xs, .slice r is.length c, .slice rk ks.length ck] 26)).alloc (.cells #[.int .i64 0, .int .i64 0, .string { data := #[] }, .slice none 0 0, .slice none 0 0] 26)).cell? ⟨w.heap.size + 1, 0, none⟩ = some (.int .i64 0) := cell_at (by simp) rfl
  have t1 : ((w.alloc (.cells #[.int .i64 xk, .int .i64 xn, .string xs, .slice r is.length c, .slice rk ks.length ck] 26)).alloc (.cells #[.int .i64 0, .int .i64 0, .string { data := #[] }, .slice none 0 0, .slice none 0 0] 26)).cell? ⟨w.heap.size + 1, 1, none⟩ = some (.int .i64 0) := cell_at (by simp) rfl
  have t2 : ((w.alloc (.cells #[.int .i64 xk, .int .i64 xn, .string xs, .slice r is.length c, .slice rk ks.length ck] 26)).alloc (.cells #[.int .i64 0, .int .i64 0, .string { data := #[] }, .slice none 0 0, .slice none 0 0] 26)).cell? ⟨w.heap.size + 1, 2, none⟩ = some (.string { data := #[] }) := cell_at (by simp) rfl
  have t3 : ((w.alloc (.cells #[.int .i64 xk, .int .i64 xn, .string xs, .slice r is.length c, .slice rk ks.length ck] 26)).alloc (.cells #[.int .i64 0, .int .i64 0, .string { data := #[] }, .slice none 0 0, .slice none 0 0] 26)).cell? ⟨w.heap.size + 1, 3, none⟩ = some (.slice none 0 0) := cell_at (by simp) rfl
  have t4 : ((w.alloc (.cells #[.int .i64 xk, .int .i64 xn, .string xs, .slice r is.length c, .slice rk ks.length ck] 26)).alloc (.cells #[.int .i64 0, .int .i64 0, .string { data := #[] }, .slice none 0 0, .slice none 0 0] 26)).cell? ⟨w.heap.size + 1, 4, none⟩ = some (.slice none 0 0) := cell_at (by simp) rfl
  have hfs : ∀ o, ((w.alloc (.cells #[.int .i64 xk, .int .i64 xn, .string xs, .slice r is.length c, .slice rk ks.length ck] 26)).alloc (.cells #[.int .i64 0, .int .i64 0, .string { data := #[] }, .slice none 0 0, .slice none 0 0] 26)).frozen? ⟨w.heap.size + 1, o, none⟩ = false := fun o => by simp
  clear hb2
  have HD := hid (show xk = 5 ∨ gv = none from (Classical.em (xk = 5)).imp id HG1.out)
  go_wp2
  all_goals generalize ((w.alloc (.cells #[.int .i64 xk, .int .i64 xn, .string xs, .slice r is.length c, .slice rk ks.length ck] 26)).alloc (.cells #[.int .i64 0, .int .i64 0, .string { data := #[] }, .slice none 0 0, .slice none 0 0] 26)) = W2 at *
  · have HF := hid (show gv = none by
      rcases HD.out with h | h
      · exfalso; simp_all
      · exact h)
    first | (exact bodyPost_ret (v := .tuple #[.agg #[.int .i64 0, .int .i64 0, .string ⟨#[]⟩, .slice none 0 0, .slice none 0 0], .bool false]) (by simp [results, Tryd.results16, go_sem, t0, t1, t2, t3, t4]) rfl (HN.out _ (((((B2.out.setCell (by simp) _).setCell (by simp) _).setCell (by simp) _).setCell (by simp) _).setCell (by simp) _) HF.out)) | (exact bodyPost_ret (v := .tuple #[.agg #[.int .i64 0, .int .i64 0, .string ⟨#[]⟩, .slice none 0 0, .slice none 0 0], .bool false]) (by simp [results, Tryd.results16, go_sem, t0, t1, t2, t3, t4]) rfl (HN.out _ B2.out HF.out)) | fail
  have h5 : xk = 5 := by simp_all
  have HF0 := hid (HG2.out h5)
  clear HG1 HG2 HD
  go_loopg [6] is.length (fun gg s6 wr => ∃ k : Nat, k ≤ is.length ∧ is.length - k ≤ gg ∧ s6 = .int .i64 k ∧ Aside (gv = findL (ks.drop k) (is.drop k) key) ∧ wr = W2)
  case atStart => exact ⟨0, Nat.zero_le _, by omega, rfl, HF0.out, rfl⟩
  case round =>
    obtain ⟨k, hk, hg, rfl, A, rfl⟩ := hrel
    by_cases hlk2 : k < ks.length
    case neg =>
      have HF := hid (A.out.trans (findL_end k (by omega)))
      have hltk : ¬ (k : Int) < (ks.length : Int) := by omega
      clear A HF0
      go_wp2
      first | (exact bodyPost_ret (v := .tuple #[.agg #[.int .i64 0, .int .i64 0, .string ⟨#[]⟩, .slice none 0 0, .slice none 0 0], .bool false]) (by simp [results, Tryd.results16, go_sem, t0, t1, t2, t3, t4]) rfl (HN.out _ (((((B2.out.setCell (by simp) _).setCell (by simp) _).setCell (by simp) _).setCell (by simp) _).setCell (by simp) _) HF.out)) | (exact bodyPost_ret (v := .tuple #[.agg #[.int .i64 0, .int .i64 0, .string ⟨#[]⟩, .slice none 0 0, .slice none 0 0], .bool false]) (by simp [results, Tryd.results16, go_sem, t0, t1, t2, t3, t4]) rfl (HN.out _ B2.out HF.out)) | fail
    case pos =>
    have hltk : (k : Int) < (ks.length : Int) := by omega
    by_cases hlt : k < is.length
    case neg =>
      have HF := hid (A.out.trans (findL_end k (by omega)))
      have hltz : ¬ (k : Int) < (is.length : Int) := by omega
      clear A HF0
      go_wp2
      first | (exact bodyPost_ret (v := .tuple #[.agg #[.int .i64 0, .int .i64 0, .string ⟨#[]⟩, .slice none 0 0, .slice none 0 0], .bool false]) (by simp [results, Tryd.results16, go_sem, t0, t1, t2, t3, t4]) rfl (HN.out _ (((((B2.out.setCell (by simp) _).setCell (by simp) _).setCell (by simp) _).setCell (by simp) _).setCell (by simp) _) HF.out)) | (exact bodyPost_ret (v := .tuple #[.agg #[.int .i64 0, .int .i64 0, .string ⟨#[]⟩, .slice none 0 0, .slice none 0 0], .bool false]) (by simp [results, Tryd.results16, go_sem, t0, t1, t2, t3, t4]) rfl (HN.out _ B2.out HF.out)) | fail
    case pos =>
    have hltz : (k : Int) < (is.length : Int) := by omega
    obtain ⟨b, off, ri, ci, rk', ck', rfl, hb', g0, g1, g2, g3, g4, hv⟩ := val_at HI.out k hlt
    have g0 := bget B2.out g0
    have g1 := bget B2.out g1
    have g2 := bget B2.out g2
    have g3 := bget B2.out g3
    have g4 := bget B2.out g4
    obtain ⟨b2, off2, rfl, hb2', k0, _⟩ := str_at (HKS.out.below strR_mono B2.out) k hlk2
    have HD := hid (A.out.trans (findL_drop k hlk2 hlt))
    have HV := hid hv
    clear A HF0 hv
    generalize ks[k] = sk at *
    generalize is[k] = y at *
    obtain ⟨yk, yn, ys, yi, yks⟩ := y
    simp only [Val.kind, Val.num, Val.str, Val.items, Val.keys] at g0 g1 g2 g3 g4
    by_cases he : sk = key
    case pos =>
      have HF := hid (HD.out.trans (if_pos he))
      have he1 : (sk.toList == key.toList) = true := by rw [he]; simp
      have V4 := hid (show VR5 (((((wr.setCell ⟨w.heap.size + 1, 0, none⟩ (.int .i64 yk)).setCell ⟨w.heap.size + 1, 1, none⟩ (.int .i64 yn)).setCell ⟨w.heap.size + 1, 2, none⟩ (.string ys)).setCell ⟨w.heap.size + 1, 3, none⟩ (.slice ri yi.length ci)).setCell ⟨w.heap.size + 1, 4, none⟩ (.slice rk' yks.length ck')) ri ci rk' ck' (.mk yk yn ys yi yks) from HV.out.below (((((B2.out.setCell (by simp) _).setCell (by simp) _).setCell (by simp) _).setCell (by simp) _).setCell (by simp) _))
      clear he HD
      go_wp2
      exact bodyPost_ret (v := .tuple #[.agg #[.int .i64 yk, .int .i64 yn, .string ys, .slice ri yi.length ci, .slice rk' yks.length ck'], .bool true]) (by simp [results, Tryd.results16, go_sem, t0, t1, t2, t3, t4, Val.kind, Val.num, Val.str, Val.items, Val.keys]) rfl (HS.out _ _ _ _ _ _ (((((B2.out.setCell (by simp) _).setCell (by simp) _).setCell (by simp) _).setCell (by simp) _).setCell (by simp) _) HF.out V4.out)
    case neg =>
      have HF := hid (HD.out.trans (if_neg he))
      have he1 : (sk.toList == key.toList) = false := str_ne he
      clear he HD
      go_wp2
      go_roundg (is.length - (k + 1))
      case measure => omega
      case rel => exact ⟨k + 1, by omega, by omega, by go_num, HF.out, rfl⟩
end Go.Proofs.YtedpdpcibkceeaaDoor
