import Derived.Test.YtpnogmicfomofaaGreatDoorZk
import Derived.Lib.QuietBelow
import Derived.BigQuiet
/-
  Addresses: the program's reader: key. Conditions: those ahead of each theorem.
-/
namespace Go.Proofs.YtpnogmicfomofaaGreatDoor.Adr
open Go.RowKit Go.Sort Go.Lib Go.Maps
open Go.Lib (hid)
set_option linter.unusedVariables false
set_option linter.unusedSimpArgs false

/-- A key in memory of the call's own. -/
def kO (k n : Int) (t : List UInt8) : Obj := .cells #[.int .i64 k, .int .i64 n, .string ⟨t.toArray⟩] 58 (0, 0)
theorem ko_cells {W : World} {r : Nat} {k n : Int} {t : List UInt8} (h : W.heap[r]? = some (kO k n t)) : W.cell? ⟨r, 0, none⟩ = some (.int .i64 k) ∧ W.cell? ⟨r, 1, none⟩ = some (.int .i64 n) ∧ W.cell? ⟨r, 2, none⟩ = some (.string ⟨t.toArray⟩) ∧ (∀ o, W.frozen? ⟨r, o, none⟩ = false) ∧ r < W.heap.size := by
  unfold kO at h
  refine ⟨by unfold World.cell?; simp [h], by unfold World.cell?; simp [h], by unfold World.cell?; simp [h], fun o => by unfold World.frozen?; simp [h], lt_of_block h⟩
theorem ko_kept {W W' : World} {r b : Nat} {o : Obj} (h : W.heap[r]? = some o) (hg : W.grownBy W' (some b)) (hne : r ≠ b) : W'.heap[r]? = some o := (hg.block r (lt_of_block h) (by simpa using hne)).trans h
theorem ko_new (w : World) (o : Obj) : (w.alloc o).heap[w.heap.size]? = some o := by
  show (w.heap.push o)[w.heap.size]? = _
  simp
theorem ko_set {W : World} {r : Nat} {k n : Int} {t : List UInt8} (h : W.heap[r]? = some (kO k n t)) (k' n' : Int) (t' : List UInt8) : (((W.setCell ⟨r, 0, none⟩ (.int .i64 k')).setCell ⟨r, 1, none⟩ (.int .i64 n')).setCell ⟨r, 2, none⟩ (.string ⟨t'.toArray⟩)).heap[r]? = some (kO k' n' t') := by
  unfold World.setCell kO at *
  simp only [Array.getElem?_modify, if_true, h, Option.map_some]
  rfl
theorem ko_rd {W : World} {r b : Nat} {s : ByteArray} {bad : Bool} (h : Rd b W s bad) (hne : r ≠ b) (i : Nat) (v : Value) : Rd b (W.setCell ⟨r, i, none⟩ v) s bad := by
  unfold Rd at *
  rw [← h]
  exact Below.heap_setCell _ _ _ _ (fun e => hne e.symm)
theorem rd_alloc {W : World} {b : Nat} {s : ByteArray} {bad : Bool} (h : Rd b W s bad) (o : Obj) : Rd b (W.alloc o) s bad := h.kept ((Below.refl _ _).alloc (Nat.le_refl _) _)
theorem rd_grown {W W' : World} {b r : Nat} {s : ByteArray} {bad : Bool} (h : Rd b W s bad) (hg : W.grownBy W' (some r)) (hne : b ≠ r) : Rd b W' s bad := ko_kept h hg hne

theorem grown_setO {w W : World} {row : Option Nat} (h : w.grownBy W row) (a : Addr) (u : Value) (hle : w.heap.size ≤ a.block) : w.grownBy (W.setCell a u) row :=
  ⟨h.os, h.tape, h.output, by simp [World.setCell]; exact h.size, fun k hk hne => (Below.heap_setCell _ _ _ _ (fun e => by subst e; omega)).trans (h.block k hk hne)⟩
theorem key_end {w W : World} {r b : Nat} {s : ByteArray} {bad : Bool} {k n : Int} {t : List UInt8} (h : W.heap[r]? = some (kO k n t)) (hr : Rd b W s bad) (hg : w.grownBy W (some b)) (hne : r ≠ b) (hle : w.heap.size ≤ r) (k' n' : Int) (t' : ByteArray) (W' : World) (e : W' = ((W.setCell ⟨r, 0, none⟩ (.int .i64 k')).setCell ⟨r, 1, none⟩ (.int .i64 n')).setCell ⟨r, 2, none⟩ (.string t')) :
    (W'.cell? ⟨r, 0, none⟩ = some (.int .i64 k') ∧ W'.cell? ⟨r, 1, none⟩ = some (.int .i64 n') ∧ W'.cell? ⟨r, 2, none⟩ = some (.string t')) ∧ Rd b W' s bad ∧ w.grownBy W' (some b) := by
  have e2 : (⟨t'.data.toList.toArray⟩ : ByteArray) = t' := by simp
  subst e
  have h2 := ko_cells (ko_set h k' n' t'.data.toList)
  rw [e2] at h2
  exact ⟨⟨h2.1, h2.2.1, h2.2.2.1⟩, ko_rd (ko_rd (ko_rd hr hne _ _) hne _ _) hne _ _, grown_setO (grown_setO (grown_setO hg _ _ hle) _ _ hle) _ _ hle⟩
theorem key_mid {w w1 : World} {b : Nat} {s : ByteArray} {bad : Bool} (h0 : w.grownBy (w.alloc (kO 0 0 [])) (some b)) (hg : (w.alloc (kO 0 0 [])).grownBy w1 (some b)) (hr : Rd b w1 s bad) (ho : (w.alloc (kO 0 0 [])).heap[w.heap.size]? = some (kO 0 0 [])) (hne : w.heap.size ≠ b) :
    w.grownBy (w1.alloc (kO 0 0 [])) (some b) ∧ Rd b (w1.alloc (kO 0 0 [])) s bad ∧ (w1.alloc (kO 0 0 [])).heap[w.heap.size]? = some (kO 0 0 []) ∧ (w1.alloc (kO 0 0 [])).heap[w1.heap.size]? = some (kO 0 0 []) := by
  have hb : Below w1.heap.size w1 (w1.alloc (kO 0 0 [])) := (Below.refl _ _).alloc (Nat.le_refl _) _
  have h1 := ko_kept ho hg hne
  exact ⟨grown_trans (grown_trans h0 hg) (grown_of hb _), rd_alloc hr _, (hb.block _ (lt_of_block h1)).trans h1, ko_new _ _⟩
theorem unqL_ok : ∀ (n : Nat) (l out : List UInt8), l.length ≤ n → (unqL l out).1 = 0 → (unqL l out).2.1.length ≤ 4096 ∧ (unqL l out).2.2.length ≤ l.length
  | n, [], out, _, h => by rw [unqL_nil] at h; exact absurd h (by simp)
  | 0, c :: r, out, hn, h => by simp at hn
  | n + 1, c :: r, out, hn, h => by
    rw [unqL] at h ⊢
    by_cases hq : c.toNat = 34
    · rw [if_pos hq] at h ⊢
      by_cases h4 : 4096 < out.length
      · rw [if_pos h4] at h; exact absurd h (by simp)
      · rw [if_neg h4]; exact ⟨by show out.length ≤ 4096; omega, by simp⟩
    · rw [if_neg hq] at h ⊢
      by_cases h1 : (oneS (c :: r)).1 ≠ 0
      · rw [if_pos h1] at h; exact absurd h h1
      · rw [if_neg h1] at h ⊢
        have hl : (r.drop ((oneS (c :: r)).2.2 - 1)).length ≤ r.length := by rw [List.length_drop]; omega
        obtain ⟨a, b⟩ := unqL_ok n _ _ (by simp at hn; omega) h
        exact ⟨a, by simp; omega⟩
theorem unqS_ok (l : List UInt8) : (unqS l).2.1.length ≤ 4096 ∧ (unqS l).2.2 ≤ l.length := by
  unfold unqS
  split
  · simp
  · split
    · simp
    · split
      · simp
      · have := unqL_ok _ l.tail [] (Nat.le_refl _) (by simp_all)
        exact ⟨this.1, by simp⟩

set_option maxHeartbeats 4000000 in
theorem key_bad (s : ByteArray) (b : Nat) (w : World) (h : Rd b w s true) : Calls Tryz.prog 124 #[.pointer (some ⟨b, 0, none⟩)] w fun e w' =>
    e = .returned (.agg #[.int .i64 0, .int .i64 0, .string ⟨#[]⟩]) ∧ Rd b w' s true ∧ w.grownBy w' (some b) := by
  obtain ⟨c0, c1, c2, c3⟩ := h.cells
  have HE := hid (⟨rd_alloc h (kO 0 0 []), grown_of ((Below.refl _ _).alloc (Nat.le_refl _) _) (some b)⟩ : Rd b (w.alloc (kO 0 0 [])) s true ∧ w.grownBy (w.alloc (kO 0 0 [])) (some b))
  clear h
  go_enter Tryz.func124, Tryz.ntmps124
  go_wp2
  obtain ⟨d0, d1, d2, d3, d4⟩ := ko_cells (W := w.alloc (kO 0 0 [])) (r := w.heap.size) (k := 0) (n := 0) (t := []) (ko_new w _)
  unfold kO at d0 d1 d2 HE
  exact bodyPost_ret (v := .agg #[.int .i64 0, .int .i64 0, .string ⟨#[]⟩]) (by simp [results, Tryz.results124, go_sem, d0, d1, d2]) rfl ⟨rfl, HE.out⟩
theorem key_no (s : ByteArray) (b : Nat) (w : World) (h : Rd b w s false) (hp : hasP [91] s = false) : Calls Tryz.prog 124 #[.pointer (some ⟨b, 0, none⟩)] w fun e w' =>
    e = .returned (.agg #[.int .i64 0, .int .i64 0, .string ⟨#[]⟩]) ∧ Rd b w' (cutS [91] s) false ∧ w.grownBy w' (some b) := by
  have HA := hid (fun (W : World) (hW : Rd b W s false) => has_any ⟨#[91]⟩ s b false W hW)
  have HR := hid (rd_alloc h (kO 0 0 []))
  have HG := hid (grown_of ((Below.refl w.heap.size w).alloc (Nat.le_refl _) (kO 0 0 [])) (some b))
  have HO := hid (show (w.alloc (kO 0 0 [])).heap[w.heap.size]? = some (kO 0 0 []) from ko_new w _)
  obtain ⟨c0, c1, c2, c3⟩ := h.cells
  have hne : w.heap.size ≠ b := by omega
  clear h
  unfold kO at HR HG
  go_enter Tryz.func124, Tryz.ntmps124
  go_wp2_with (go_at_call 120; refine (HA.out _ HR.out).mono ?_; rintro e w1 ⟨rfl, hr, hg⟩; rw [hp]; obtain ⟨d0, d1, d2, d3, d4⟩ := ko_cells (ko_kept HO.out hg hne); have f0 := d3 0; have f1 := d3 1; have f2 := d3 2)
  obtain ⟨⟨k0, k1, k2⟩, hE⟩ := key_end (ko_kept HO.out hg hne) hr (grown_trans HG.out hg) hne (Nat.le_refl _) 0 0 ⟨#[]⟩ _ rfl
  exact bodyPost_ret (v := .agg #[.int .i64 0, .int .i64 0, .string ⟨#[]⟩]) (by simp [results, Tryz.results124, go_sem, k0, k1, k2]) rfl ⟨rfl, hE⟩
set_option maxHeartbeats 4000000 in
theorem key_se (s s1 : ByteArray) (b : Nat) (w w0 : World) (hT : WT w0) (hB : Below w0.heap.size w0 w) (hb0 : w0.heap.size ≤ b) (hs : s1.size ≤ 1000000) (h : Rd b w s false) (hp : hasP [91] s = true) (e1 : cutS [91] s = s1) (hq : Lib.hasPrefix s1.data.toList [34] = true) (he : (unqS s1.data.toList).1 ≠ 0) : Calls Tryz.prog 124 #[.pointer (some ⟨b, 0, none⟩)] w fun e w' =>
    e = .returned (.agg #[.int .i64 0, .int .i64 0, .string ⟨#[]⟩]) ∧ Rd b w' s1 true ∧ w.grownBy w' (some b) := by
  have HA := hid (fun (W : World) (hW : Rd b W s false) => has_any ⟨#[91]⟩ s b false W hW)
  rw [show cutS (⟨#[91]⟩ : ByteArray).data.toList s = s1 from e1] at HA
  have HR := hid (rd_alloc h (kO 0 0 []))
  have HG := hid (grown_of ((Below.refl w.heap.size w).alloc (Nat.le_refl _) (kO 0 0 [])) (some b))
  have HO := hid (show (w.alloc (kO 0 0 [])).heap[w.heap.size]? = some (kO 0 0 []) from ko_new w _)
  have HH := hid (fun (W : World) => Tryz.strings_HasPrefix s1 ⟨#[34]⟩ W)
  have HU := hid (fun (W : World) (hW : WT W) => punq_any s1 W hW hs)
  generalize unqS s1.data.toList = x at HU he
  obtain ⟨c0, c1, c2, c3⟩ := h.cells
  have hne : w.heap.size ≠ b := by omega
  have hge : w0.heap.size ≤ w.heap.size := hB.size
  have HW := hid (fun (W : World) (hg : w.grownBy W (some b)) => hB.grown hg hge (fun k hk => by cases hk; exact hb0))
  clear h
  unfold kO at HR HG
  have g0 : decide (x.1 = 0) = false := decide_eq_false he
  go_enter Tryz.func124, Tryz.ntmps124
  go_wp2_with (go_at_call 120; refine (HA.out _ HR.out).mono ?_; rintro e w1 ⟨rfl, hr, hg⟩; rw [hp]; obtain ⟨d0, d1, d2, d3⟩ := hr.cells; have hne1 : w1.heap.size ≠ b := by omega)
  obtain ⟨HY, HR2, HO2, HV2⟩ := key_mid (HG.out) hg hr HO.out hne
  unfold kO at HY HR2 HO2 HV2
  go_at_call 157
  refine (HH.out _).mono ?_
  rintro e w2 ⟨rfl, rfl⟩
  rw [show Lib.hasPrefix s1.data.toList (⟨#[34]⟩ : ByteArray).data.toList = true from hq]
  go_wp2_with (go_at_call 158; refine (HU.out _ (hT.below (HW.out _ HY))).mono ?_; rintro e w3 ⟨rfl, hb3⟩; simp only [UqR])
  have HR3 := HR2.kept hb3
  have HO3 := (hb3.block _ (lt_of_block HO2)).trans HO2
  have HV3 := (hb3.block _ (lt_of_block HV2)).trans HV2
  have HG3 := grown_trans HY (grown_of hb3 (some b))
  obtain ⟨d0, d1, d2, d3⟩ := HR3.cells
  have f1 := d2 1
  go_quiet (fail)
  have hb4 := bel_drewN (Below.refl w3.heap.size w3) nq
  generalize w3.drewN nq = w4 at *
  have HR4 := HR3.kept hb4
  have HO4 := (hb4.block _ (lt_of_block HO3)).trans HO3
  have HV4 := (hb4.block _ (lt_of_block HV3)).trans HV3
  have HG4 := grown_trans HG3 (grown_of hb4 (some b))
  clear d0 d1 d2 d3 f1
  obtain ⟨d0, d1, d2, d3⟩ := HR4.cells
  have f1 := d2 1
  have HRb := HR4.set1 true
  have HOb := ko_kept HO4 (grown_setC w4 ⟨b, 1, none⟩ (.bool true)) hne
  have HVb := ko_kept HV4 (grown_setC w4 ⟨b, 1, none⟩ (.bool true)) hne1
  have HGb := grown_trans HG4 (grown_setC w4 ⟨b, 1, none⟩ (.bool true))
  obtain ⟨v0, v1, v2, v3, v4⟩ := ko_cells (k := 0) (n := 0) (t := []) HVb
  obtain ⟨o0, o1, o2, o3, o4⟩ := ko_cells (k := 0) (n := 0) (t := []) HOb
  have q0 := o3 0
  have q1 := o3 1
  have q2 := o3 2
  go_wp2
  obtain ⟨⟨k0, k1, k2⟩, hE⟩ := key_end (k := 0) (n := 0) (t := []) HOb HRb HGb hne (Nat.le_refl _) 0 0 ⟨#[]⟩ _ rfl
  exact bodyPost_ret (v := .agg #[.int .i64 0, .int .i64 0, .string ⟨#[]⟩]) (by simp [results, Tryz.results124, go_sem, k0, k1, k2]) rfl ⟨rfl, hE⟩
set_option maxHeartbeats 4000000 in
theorem key_sq (s s1 : ByteArray) (b : Nat) (w w0 : World) (hT : WT w0) (hB : Below w0.heap.size w0 w) (hb0 : w0.heap.size ≤ b) (hs : s1.size ≤ 1000000) (h : Rd b w s false) (hp : hasP [91] s = true) (e1 : cutS [91] s = s1) (hq : Lib.hasPrefix s1.data.toList [34] = true) (he : (unqS s1.data.toList).1 = 0) (hv : quo (unqS s1.data.toList).2.1 ≠ s1.data.toList.take (unqS s1.data.toList).2.2) : Calls Tryz.prog 124 #[.pointer (some ⟨b, 0, none⟩)] w fun e w' =>
    e = .returned (.agg #[.int .i64 0, .int .i64 0, .string ⟨#[]⟩]) ∧ Rd b w' s1 true ∧ w.grownBy w' (some b) := by
  have HA := hid (fun (W : World) (hW : Rd b W s false) => has_any ⟨#[91]⟩ s b false W hW)
  rw [show cutS (⟨#[91]⟩ : ByteArray).data.toList s = s1 from e1] at HA
  have HR := hid (rd_alloc h (kO 0 0 []))
  have HG := hid (grown_of ((Below.refl w.heap.size w).alloc (Nat.le_refl _) (kO 0 0 [])) (some b))
  have HO := hid (show (w.alloc (kO 0 0 [])).heap[w.heap.size]? = some (kO 0 0 []) from ko_new w _)
  have HH := hid (fun (W : World) => Tryz.strings_HasPrefix s1 ⟨#[34]⟩ W)
  have HU := hid (fun (W : World) (hW : WT W) => punq_any s1 W hW hs)
  have hx := unqS_ok s1.data.toList
  rw [size_list] at hx
  generalize unqS s1.data.toList = x at HU he hx hv 
  obtain ⟨x1, x2, n⟩ := x
  obtain rfl : x1 = 0 := he
  have HQ := hid (fun (W : World) (hW : WT W) => pquote_any ⟨x2.toArray⟩ W hW (by rw [ba_size]; have := hx.1; simp only at this; omega))
  have hn : (n : Int) ≤ s1.size := by have := hx.2; simp only at this; omega
  have ht : (s1.extract 0 n).toList = s1.data.toList.take n := by
    have := Lib.extract_data s1 0 n
    rw [ByteArray.toList_eq, this]; simp
  have hbv : (quo x2 == (s1.extract 0 n).toList) = false := by rw [ht]; simpa using hv
  clear hx hv ht
  obtain ⟨c0, c1, c2, c3⟩ := h.cells
  have hne : w.heap.size ≠ b := by omega
  have hge : w0.heap.size ≤ w.heap.size := hB.size
  have HW := hid (fun (W : World) (hg : w.grownBy W (some b)) => hB.grown hg hge (fun k hk => by cases hk; exact hb0))
  clear h
  unfold kO at HR HG
  go_enter Tryz.func124, Tryz.ntmps124
  go_wp2_with (go_at_call 120; refine (HA.out _ HR.out).mono ?_; rintro e w1 ⟨rfl, hr, hg⟩; rw [hp]; obtain ⟨d0, d1, d2, d3⟩ := hr.cells; have hne1 : w1.heap.size ≠ b := by omega)
  obtain ⟨HY, HR2, HO2, HV2⟩ := key_mid (HG.out) hg hr HO.out hne
  unfold kO at HY HR2 HO2 HV2
  go_at_call 157
  refine (HH.out _).mono ?_
  rintro e w2 ⟨rfl, rfl⟩
  rw [show Lib.hasPrefix s1.data.toList (⟨#[34]⟩ : ByteArray).data.toList = true from hq]
  go_wp2_with (go_at_call 158; refine (HU.out _ (hT.below (HW.out _ HY))).mono ?_; rintro e w3 ⟨rfl, hb3⟩; simp only [UqR])
  have HR3 := HR2.kept hb3
  have HO3 := (hb3.block _ (lt_of_block HO2)).trans HO2
  have HV3 := (hb3.block _ (lt_of_block HV2)).trans HV2
  have HG3 := grown_trans HY (grown_of hb3 (some b))
  obtain ⟨d0, d1, d2, d3⟩ := HR3.cells
  have f1 := d2 1
  have dr := fun d os => cell_regrown d0 d os
  have HQR := hid (fun d os => Calls.regrown_of (HQ.out _ (hT.below (HW.out _ (grown_trans HG3 (grown_of (below_regrown w3 d os) (some b)))))))
  refine wp_region_quiet_below (by kernel_rfl) (by kernel_rfl) ?_
  repeat (go_big_quiet_step (exact HQR.out _ _))
  refine wpQuiet_nil ?_
  intro _ hw'
  obtain ⟨⟨dq, osq⟩, hw''⟩ := hw'
  subst hw''
  simp only [hbv, Bool.not_false, Bool.not_true]
  have hb4 := below_regrown w3 dq osq
  clear dr HQR
  generalize grow (redrawn w3 dq) osq = w4 at *
  have HR4 := HR3.kept hb4
  have HO4 := (hb4.block _ (lt_of_block HO3)).trans HO3
  have HV4 := (hb4.block _ (lt_of_block HV3)).trans HV3
  have HG4 := grown_trans HG3 (grown_of hb4 (some b))
  clear d0 d1 d2 d3 f1
  obtain ⟨d0, d1, d2, d3⟩ := HR4.cells
  have f1 := d2 1
  have HRb := HR4.set1 true
  have HOb := ko_kept HO4 (grown_setC w4 ⟨b, 1, none⟩ (.bool true)) hne
  have HVb := ko_kept HV4 (grown_setC w4 ⟨b, 1, none⟩ (.bool true)) hne1
  have HGb := grown_trans HG4 (grown_setC w4 ⟨b, 1, none⟩ (.bool true))
  obtain ⟨v0, v1, v2, v3, v4⟩ := ko_cells (k := 0) (n := 0) (t := []) HVb
  obtain ⟨o0, o1, o2, o3, o4⟩ := ko_cells (k := 0) (n := 0) (t := []) HOb
  have q0 := o3 0
  have q1 := o3 1
  have q2 := o3 2
  go_wp2
  obtain ⟨⟨k0, k1, k2⟩, hE⟩ := key_end (k := 0) (n := 0) (t := []) HOb HRb HGb hne (Nat.le_refl _) 0 0 ⟨#[]⟩ _ rfl
  exact bodyPost_ret (v := .agg #[.int .i64 0, .int .i64 0, .string ⟨#[]⟩]) (by simp [results, Tryz.results124, go_sem, k0, k1, k2]) rfl ⟨rfl, hE⟩
end Go.Proofs.YtpnogmicfomofaaGreatDoor.Adr
/-
  Addresses: the program's reader: key, where it ends well. Conditions: those ahead of each theorem.
-/
namespace Go.Proofs.YtpnogmicfomofaaGreatDoor.Adr
open Go.RowKit Go.Sort Go.Lib Go.Maps
open Go.Lib (hid)
set_option linter.unusedVariables false
set_option linter.unusedSimpArgs false

theorem key_put {w w1 w4 : World} {b : Nat} {s : ByteArray} {bad : Bool} (HR4 : Rd b w4 s bad) (HO4 : w4.heap[w.heap.size]? = some (kO 0 0 [])) (HV4 : w4.heap[w1.heap.size]? = some (kO 0 0 [])) (HG4 : w.grownBy w4 (some b)) (hne : w.heap.size ≠ b) (hne1 : w1.heap.size ≠ b) (hlt : w.heap.size < w1.heap.size) (k n : Int) (x t : List UInt8) (s2 : ByteArray) (W : World)
    (e : W = (((w4.setCell ⟨w1.heap.size, 0, none⟩ (.int .i64 k)).setCell ⟨w1.heap.size, 1, none⟩ (.int .i64 n)).setCell ⟨w1.heap.size, 2, none⟩ (.string ⟨x.toArray⟩)).setCell ⟨b, 0, none⟩ (.string s2)) :
    Rd b W s2 bad ∧ W.heap[w.heap.size]? = some (kO 0 0 []) ∧ W.heap[w1.heap.size]? = some (kO k n x) ∧ w.grownBy W (some b) := by
  subst e
  have h1 : ∀ (X : World) (i : Nat) (v : Value), (X.setCell ⟨w1.heap.size, i, none⟩ v).heap[w.heap.size]? = X.heap[w.heap.size]? := fun X i v => Below.heap_setCell _ _ _ _ (fun e => by simp only at e; omega)
  have hw := HG4.size
  refine ⟨(ko_rd (ko_rd (ko_rd HR4 hne1 _ _) hne1 _ _) hne1 _ _).set0 s2, ?_, ?_, ?_⟩
  · exact ko_kept (((h1 _ _ _).trans ((h1 _ _ _).trans (h1 _ _ _))).trans HO4) (grown_setC _ ⟨b, 0, none⟩ _) hne
  · exact ko_kept (ko_set HV4 k n x) (grown_setC _ ⟨b, 0, none⟩ _) hne1
  · exact grown_trans (grown_setO (grown_setO (grown_setO HG4 _ _ (Nat.le_of_lt hlt)) _ _ (Nat.le_of_lt hlt)) _ _ (Nat.le_of_lt hlt)) (grown_setC _ ⟨b, 0, none⟩ _)
set_option maxHeartbeats 4000000 in
theorem key_so (s s1 : ByteArray) (b : Nat) (w w0 : World) (hT : WT w0) (hB : Below w0.heap.size w0 w) (hb0 : w0.heap.size ≤ b) (hs : s1.size ≤ 1000000) (h : Rd b w s false) (hp : hasP [91] s = true) (e1 : cutS [91] s = s1) (hq : Lib.hasPrefix s1.data.toList [34] = true) (he : (unqS s1.data.toList).1 = 0) (hv : quo (unqS s1.data.toList).2.1 = s1.data.toList.take (unqS s1.data.toList).2.2) : Calls Tryz.prog 124 #[.pointer (some ⟨b, 0, none⟩)] w fun e w' =>
    e = .returned (.agg #[.int .i64 2, .int .i64 0, .string ⟨(unqS s1.data.toList).2.1.toArray⟩]) ∧ Rd b w' (cutS [93] (s1.extract (unqS s1.data.toList).2.2 s1.size)) (false || !hasP [93] (s1.extract (unqS s1.data.toList).2.2 s1.size)) ∧ w.grownBy w' (some b) := by
  have HA := hid (fun (W : World) (hW : Rd b W s false) => has_any ⟨#[91]⟩ s b false W hW)
  rw [show cutS (⟨#[91]⟩ : ByteArray).data.toList s = s1 from e1] at HA
  have HR := hid (rd_alloc h (kO 0 0 []))
  have HG := hid (grown_of ((Below.refl w.heap.size w).alloc (Nat.le_refl _) (kO 0 0 [])) (some b))
  have HO := hid (show (w.alloc (kO 0 0 [])).heap[w.heap.size]? = some (kO 0 0 []) from ko_new w _)
  have HH := hid (fun (W : World) => Tryz.strings_HasPrefix s1 ⟨#[34]⟩ W)
  have HU := hid (fun (W : World) (hW : WT W) => punq_any s1 W hW hs)
  have hx := unqS_ok s1.data.toList
  rw [size_list] at hx
  generalize unqS s1.data.toList = x at HU he hx hv ⊢
  obtain ⟨x1, x2, n⟩ := x
  obtain rfl : x1 = 0 := he
  have HQ := hid (fun (W : World) (hW : WT W) => pquote_any ⟨x2.toArray⟩ W hW (by rw [ba_size]; have := hx.1; simp only at this; omega))
  have hn : (n : Int) ≤ s1.size := by have := hx.2; simp only at this; omega
  have ht : (s1.extract 0 n).toList = s1.data.toList.take n := by
    have := Lib.extract_data s1 0 n
    rw [ByteArray.toList_eq, this]; simp
  have hbv : (quo x2 == (s1.extract 0 n).toList) = true := by rw [ht]; simpa using hv
  clear hx hv ht
  have HS := hid (fun (W : World) (hW : Rd b W (s1.extract n s1.size) false) => skip_any ⟨#[93]⟩ (s1.extract n s1.size) b false W hW)
  rw [show (⟨#[93]⟩ : ByteArray).data.toList = [93] from rfl] at HS
  obtain ⟨c0, c1, c2, c3⟩ := h.cells
  have hne : w.heap.size ≠ b := by omega
  have hge : w0.heap.size ≤ w.heap.size := hB.size
  have HW := hid (fun (W : World) (hg : w.grownBy W (some b)) => hB.grown hg hge (fun k hk => by cases hk; exact hb0))
  clear h
  unfold kO at HR HG
  go_enter Tryz.func124, Tryz.ntmps124
  go_wp2_with (go_at_call 120; refine (HA.out _ HR.out).mono ?_; rintro e w1 ⟨rfl, hr, hg⟩; rw [hp]; obtain ⟨d0, d1, d2, d3⟩ := hr.cells; have hne1 : w1.heap.size ≠ b := by omega)
  obtain ⟨HY, HR2, HO2, HV2⟩ := key_mid (HG.out) hg hr HO.out hne
  unfold kO at HY HR2 HO2 HV2
  go_at_call 157
  refine (HH.out _).mono ?_
  rintro e w2 ⟨rfl, rfl⟩
  rw [show Lib.hasPrefix s1.data.toList (⟨#[34]⟩ : ByteArray).data.toList = true from hq]
  go_wp2_with (go_at_call 158; refine (HU.out _ (hT.below (HW.out _ HY))).mono ?_; rintro e w3 ⟨rfl, hb3⟩; simp only [UqR])
  have HR3 := HR2.kept hb3
  have HO3 := (hb3.block _ (lt_of_block HO2)).trans HO2
  have HV3 := (hb3.block _ (lt_of_block HV2)).trans HV2
  have HG3 := grown_trans HY (grown_of hb3 (some b))
  obtain ⟨d0, d1, d2, d3⟩ := HR3.cells
  have f1 := d2 1
  have dr := fun d os => cell_regrown d0 d os
  have HQR := hid (fun d os => Calls.regrown_of (HQ.out _ (hT.below (HW.out _ (grown_trans HG3 (grown_of (below_regrown w3 d os) (some b)))))))
  refine wp_region_quiet_below (by kernel_rfl) (by kernel_rfl) ?_
  repeat (go_big_quiet_step (exact HQR.out _ _))
  refine wpQuiet_nil ?_
  intro _ hw'
  obtain ⟨⟨dq, osq⟩, hw''⟩ := hw'
  subst hw''
  simp only [hbv, Bool.not_false, Bool.not_true]
  have hb4 := below_regrown w3 dq osq
  clear dr HQR
  generalize grow (redrawn w3 dq) osq = w4 at *
  have HR4 := HR3.kept hb4
  have HO4 := (hb4.block _ (lt_of_block HO3)).trans HO3
  have HV4 := (hb4.block _ (lt_of_block HV3)).trans HV3
  have HG4 := grown_trans HG3 (grown_of hb4 (some b))
  clear d0 d1 d2 d3 f1
  obtain ⟨d0, d1, d2, d3⟩ := HR4.cells
  have f1 := d2 1
  have f0 := d2 0
  have hlt : w.heap.size < w1.heap.size := by have := hg.size; simp [World.size_alloc] at this; omega
  obtain ⟨v0, v1, v2, v3, v4⟩ := ko_cells (k := 0) (n := 0) (t := []) HV4
  have p0 := v3 0
  have p1 := v3 1
  have p2 := v3 2
  go_wp2_with (go_at_call 122; obtain ⟨HR6, HO6, HV6, HG6⟩ := key_put HR4 HO4 HV4 HG4 hne hne1 hlt 2 0 x2 [] (s1.extract n s1.size) _ rfl; refine (HS.out _ HR6).mono ?_; rintro e w7 ⟨rfl, hr7, hg7⟩; obtain ⟨v0, v1, v2, v3, v4⟩ := ko_cells (ko_kept HV6 hg7 hne1); have HO7 := ko_kept HO6 hg7 hne; obtain ⟨o0, o1, o2, o3, o4⟩ := ko_cells (k := 0) (n := 0) (t := []) HO7; have HG7 := grown_trans HG6 hg7; have q0 := o3 0; have q1 := o3 1; have q2 := o3 2)
  obtain ⟨⟨k0, k1, k2⟩, hE⟩ := key_end (k := 0) (n := 0) (t := []) HO7 hr7 HG7 hne (Nat.le_refl _) 2 0 ⟨x2.toArray⟩ _ rfl
  exact bodyPost_ret (v := .agg #[.int .i64 2, .int .i64 0, .string ⟨x2.toArray⟩]) (by simp [results, Tryz.results124, go_sem, k0, k1, k2]) rfl ⟨rfl, hE⟩
end Go.Proofs.YtpnogmicfomofaaGreatDoor.Adr
/-
  Addresses: the program's reader: key with a number. Conditions: those ahead of each theorem.
-/
namespace Go.Proofs.YtpnogmicfomofaaGreatDoor.Adr
open Go.RowKit Go.Sort Go.Lib Go.Maps
open Go.Lib (hid)
set_option linter.unusedVariables false
set_option linter.unusedSimpArgs false

/-- How many bytes stand ahead of the first closing bracket; none where there is none. -/
def nmAt (l : List UInt8) : Nat := (max (Lib.indexByte l 93) 0).toNat
theorem nmAt_le (l : List UInt8) : nmAt l ≤ l.length := by
  have hg := Lib.indexByte_ge l 93
  unfold nmAt
  by_cases h : Lib.indexByte l 93 < 0
  · omega
  · have hk : Lib.indexByte l 93 = ((Lib.indexByte l 93).toNat : Int) := by omega
    have := (List.getElem?_eq_some_iff.mp (Lib.indexByte_some hk).1).1
    omega
set_option maxHeartbeats 4000000 in
theorem key_nu (s s1 : ByteArray) (b : Nat) (w w0 : World) (hT : WT w0) (hB : Below w0.heap.size w0 w) (hb0 : w0.heap.size ≤ b) (hs : s1.size ≤ 1000000) (h : Rd b w s false) (hp : hasP [91] s = true) (e1 : cutS [91] s = s1) (v : Bool) (hq : Lib.hasPrefix s1.data.toList [34] = false) (hv : (decide ((numS (s1.data.toList.take (nmAt s1.data.toList))).2 ≠ 0) || decide ((numS (s1.data.toList.take (nmAt s1.data.toList))).1 < 0)) = v) : Calls Tryz.prog 124 #[.pointer (some ⟨b, 0, none⟩)] w fun e w' =>
    e = .returned (.agg #[.int .i64 1, .int .i64 (numS (s1.data.toList.take (nmAt s1.data.toList))).1, .string ⟨#[]⟩]) ∧ Rd b w' (cutS [93] (s1.extract (nmAt s1.data.toList) s1.size)) (v || !hasP [93] (s1.extract (nmAt s1.data.toList) s1.size)) ∧ w.grownBy w' (some b) := by
  have HA := hid (fun (W : World) (hW : Rd b W s false) => has_any ⟨#[91]⟩ s b false W hW)
  rw [show cutS (⟨#[91]⟩ : ByteArray).data.toList s = s1 from e1] at HA
  have HR := hid (rd_alloc h (kO 0 0 []))
  have HG := hid (grown_of ((Below.refl w.heap.size w).alloc (Nat.le_refl _) (kO 0 0 [])) (some b))
  have HO := hid (show (w.alloc (kO 0 0 [])).heap[w.heap.size]? = some (kO 0 0 []) from ko_new w _)
  have HH := hid (fun (W : World) => Tryz.strings_HasPrefix s1 ⟨#[34]⟩ W)
  have HI := hid (fun (W : World) => Tryz.strings_IndexByte s1 93 W)
  have hz : ∃ z : Int, ∃ m : Nat, Lib.indexByte s1.data.toList 93 = z ∧ nmAt s1.data.toList = m ∧ (z = (m : Int) ∨ (z = -1 ∧ m = 0)) ∧ m ≤ s1.size := by
    have hg := Lib.indexByte_ge s1.data.toList 93
    refine ⟨_, _, rfl, rfl, ?_, ?_⟩
    · unfold nmAt; omega
    · rw [← size_list]; exact nmAt_le _
  obtain ⟨z, m, hz1, hz2, hz3, hm⟩ := hz
  rw [show (93 : Int).toNat.toUInt8 = 93 from rfl, hz1] at HI
  rw [hz2] at hv ⊢
  have ht : (s1.extract 0 m).data.toList = s1.data.toList.take m := by
    have := Lib.extract_data s1 0 m
    rw [this]; simp
  have HN := hid (fun (W : World) (hW : WT W) => pnum_any (s1.extract 0 m) W hW (by rw [← size_list, ht, List.length_take, size_list]; omega))
  rw [ht] at HN
  have hm2 : (m : Int) ≤ s1.size := by omega
  generalize numS (s1.data.toList.take m) = x at HN hv ⊢
  obtain ⟨num, er⟩ := x
  have HS := hid (fun (W : World) (hW : Rd b W (s1.extract m s1.size) v) => skip_any ⟨#[93]⟩ (s1.extract m s1.size) b v W hW)
  rw [show (⟨#[93]⟩ : ByteArray).data.toList = [93] from rfl] at HS
  simp only at hv
  clear hz1 hz2 ht hm
  have hv3 : (((er != 0) = true ∧ (er == 0) = false ∧ decide (er = 0) = false) ∧ v = true) ∨ (er = 0 ∧ v = decide (num < 0)) := by
    subst hv
    by_cases h1 : er = 0 <;> simp [h1]
  clear hv
  obtain ⟨c0, c1, c2, c3⟩ := h.cells
  have hne : w.heap.size ≠ b := by omega
  have hge : w0.heap.size ≤ w.heap.size := hB.size
  have HW := hid (fun (W : World) (hg : w.grownBy W (some b)) => hB.grown hg hge (fun k hk => by cases hk; exact hb0))
  clear h
  unfold kO at HR HG
  rcases hz3 with rfl | ⟨rfl, rfl⟩ <;> rcases hv3 with ⟨⟨g1, g2, g3⟩, rfl⟩ | ⟨rfl, rfl⟩
  · go_enter Tryz.func124, Tryz.ntmps124
    go_wp2_with (go_at_call 120; refine (HA.out _ HR.out).mono ?_; rintro e w1 ⟨rfl, hr, hg⟩; rw [hp]; obtain ⟨d0, d1, d2, d3⟩ := hr.cells; have hne1 : w1.heap.size ≠ b := by omega)
    obtain ⟨HY, HR2, HO2, HV2⟩ := key_mid (HG.out) hg hr HO.out hne
    unfold kO at HY HR2 HO2 HV2
    go_at_call 157
    refine (HH.out _).mono ?_
    rintro e w2 ⟨rfl, rfl⟩
    rw [show Lib.hasPrefix s1.data.toList (⟨#[34]⟩ : ByteArray).data.toList = false from hq]
    go_wp2_with (go_at_call 160; refine (HI.out _).mono ?_; rintro e wq ⟨rfl, rfl⟩)
    go_wp2_with (go_at_call 161; refine (HN.out _ (hT.below (HW.out _ HY))).mono ?_; rintro e w4 ⟨rfl, hb4⟩; simp only [NmR]; have HR4 := HR2.kept hb4; have HO4 := (hb4.block _ (lt_of_block HO2)).trans HO2; have HV4 := (hb4.block _ (lt_of_block HV2)).trans HV2; have HG4 := grown_trans HY (grown_of hb4 (some b)); obtain ⟨d0, d1, d2, d3⟩ := HR4.cells; have f1 := d2 1; have f0 := d2 0; have hlt : w.heap.size < w1.heap.size := (by have := hg.size; simp [World.size_alloc] at this; omega); obtain ⟨v0, v1, v2, v3, v4⟩ := ko_cells (k := 0) (n := 0) (t := []) HV4; have p0 := v3 0; have p1 := v3 1; have p2 := v3 2)
    go_at_call 122
    obtain ⟨HR6, HO6, HV6, HG6⟩ := key_put (HR4.set1 _) (ko_kept HO4 (grown_setC w4 ⟨b, 1, none⟩ (.bool _)) hne) (ko_kept HV4 (grown_setC w4 ⟨b, 1, none⟩ (.bool _)) hne1) (grown_trans HG4 (grown_setC w4 ⟨b, 1, none⟩ (.bool _))) hne hne1 hlt 1 num [] [] _ _ rfl
    refine (HS.out _ HR6).mono ?_
    rintro e w7 ⟨rfl, hr7, hg7⟩
    obtain ⟨v0, v1, v2, v3, v4⟩ := ko_cells (ko_kept HV6 hg7 hne1)
    have HO7 := ko_kept HO6 hg7 hne
    obtain ⟨o0, o1, o2, o3, o4⟩ := ko_cells (k := 0) (n := 0) (t := []) HO7
    have HG7 := grown_trans HG6 hg7
    have q0 := o3 0
    have q1 := o3 1
    have q2 := o3 2
    go_wp2
    obtain ⟨⟨k0, k1, k2⟩, hE⟩ := key_end (k := 0) (n := 0) (t := []) HO7 hr7 HG7 hne (Nat.le_refl _) 1 num ⟨#[]⟩ _ rfl
    exact bodyPost_ret (v := .agg #[.int .i64 1, .int .i64 num, .string ⟨#[]⟩]) (by simp [results, Tryz.results124, go_sem, k0, k1, k2]) rfl ⟨rfl, hE⟩
  · go_enter Tryz.func124, Tryz.ntmps124
    go_wp2_with (go_at_call 120; refine (HA.out _ HR.out).mono ?_; rintro e w1 ⟨rfl, hr, hg⟩; rw [hp]; obtain ⟨d0, d1, d2, d3⟩ := hr.cells; have hne1 : w1.heap.size ≠ b := by omega)
    obtain ⟨HY, HR2, HO2, HV2⟩ := key_mid (HG.out) hg hr HO.out hne
    unfold kO at HY HR2 HO2 HV2
    go_at_call 157
    refine (HH.out _).mono ?_
    rintro e w2 ⟨rfl, rfl⟩
    rw [show Lib.hasPrefix s1.data.toList (⟨#[34]⟩ : ByteArray).data.toList = false from hq]
    go_wp2_with (go_at_call 160; refine (HI.out _).mono ?_; rintro e wq ⟨rfl, rfl⟩)
    go_wp2_with (go_at_call 161; refine (HN.out _ (hT.below (HW.out _ HY))).mono ?_; rintro e w4 ⟨rfl, hb4⟩; simp only [NmR]; have HR4 := HR2.kept hb4; have HO4 := (hb4.block _ (lt_of_block HO2)).trans HO2; have HV4 := (hb4.block _ (lt_of_block HV2)).trans HV2; have HG4 := grown_trans HY (grown_of hb4 (some b)); obtain ⟨d0, d1, d2, d3⟩ := HR4.cells; have f1 := d2 1; have f0 := d2 0; have hlt : w.heap.size < w1.heap.size := (by have := hg.size; simp [World.size_alloc] at this; omega); obtain ⟨v0, v1, v2, v3, v4⟩ := ko_cells (k := 0) (n := 0) (t := []) HV4; have p0 := v3 0; have p1 := v3 1; have p2 := v3 2)
    go_at_call 122
    obtain ⟨HR6, HO6, HV6, HG6⟩ := key_put (HR4.set1 _) (ko_kept HO4 (grown_setC w4 ⟨b, 1, none⟩ (.bool _)) hne) (ko_kept HV4 (grown_setC w4 ⟨b, 1, none⟩ (.bool _)) hne1) (grown_trans HG4 (grown_setC w4 ⟨b, 1, none⟩ (.bool _))) hne hne1 hlt 1 num [] [] _ _ rfl
    refine (HS.out _ HR6).mono ?_
    rintro e w7 ⟨rfl, hr7, hg7⟩
    obtain ⟨v0, v1, v2, v3, v4⟩ := ko_cells (ko_kept HV6 hg7 hne1)
    have HO7 := ko_kept HO6 hg7 hne
    obtain ⟨o0, o1, o2, o3, o4⟩ := ko_cells (k := 0) (n := 0) (t := []) HO7
    have HG7 := grown_trans HG6 hg7
    have q0 := o3 0
    have q1 := o3 1
    have q2 := o3 2
    go_wp2
    obtain ⟨⟨k0, k1, k2⟩, hE⟩ := key_end (k := 0) (n := 0) (t := []) HO7 hr7 HG7 hne (Nat.le_refl _) 1 num ⟨#[]⟩ _ rfl
    exact bodyPost_ret (v := .agg #[.int .i64 1, .int .i64 num, .string ⟨#[]⟩]) (by simp [results, Tryz.results124, go_sem, k0, k1, k2]) rfl ⟨rfl, hE⟩
  · go_enter Tryz.func124, Tryz.ntmps124
    go_wp2_with (go_at_call 120; refine (HA.out _ HR.out).mono ?_; rintro e w1 ⟨rfl, hr, hg⟩; rw [hp]; obtain ⟨d0, d1, d2, d3⟩ := hr.cells; have hne1 : w1.heap.size ≠ b := by omega)
    obtain ⟨HY, HR2, HO2, HV2⟩ := key_mid (HG.out) hg hr HO.out hne
    unfold kO at HY HR2 HO2 HV2
    go_at_call 157
    refine (HH.out _).mono ?_
    rintro e w2 ⟨rfl, rfl⟩
    rw [show Lib.hasPrefix s1.data.toList (⟨#[34]⟩ : ByteArray).data.toList = false from hq]
    go_wp2_with (go_at_call 160; refine (HI.out _).mono ?_; rintro e wq ⟨rfl, rfl⟩)
    go_wp2_with (go_at_call 161; refine (HN.out _ (hT.below (HW.out _ HY))).mono ?_; rintro e w4 ⟨rfl, hb4⟩; simp only [NmR]; have HR4 := HR2.kept hb4; have HO4 := (hb4.block _ (lt_of_block HO2)).trans HO2; have HV4 := (hb4.block _ (lt_of_block HV2)).trans HV2; have HG4 := grown_trans HY (grown_of hb4 (some b)); obtain ⟨d0, d1, d2, d3⟩ := HR4.cells; have f1 := d2 1; have f0 := d2 0; have hlt : w.heap.size < w1.heap.size := (by have := hg.size; simp [World.size_alloc] at this; omega); obtain ⟨v0, v1, v2, v3, v4⟩ := ko_cells (k := 0) (n := 0) (t := []) HV4; have p0 := v3 0; have p1 := v3 1; have p2 := v3 2)
    go_at_call 122
    obtain ⟨HR6, HO6, HV6, HG6⟩ := key_put (HR4.set1 _) (ko_kept HO4 (grown_setC w4 ⟨b, 1, none⟩ (.bool _)) hne) (ko_kept HV4 (grown_setC w4 ⟨b, 1, none⟩ (.bool _)) hne1) (grown_trans HG4 (grown_setC w4 ⟨b, 1, none⟩ (.bool _))) hne hne1 hlt 1 num [] [] _ _ rfl
    refine (HS.out _ HR6).mono ?_
    rintro e w7 ⟨rfl, hr7, hg7⟩
    obtain ⟨v0, v1, v2, v3, v4⟩ := ko_cells (ko_kept HV6 hg7 hne1)
    have HO7 := ko_kept HO6 hg7 hne
    obtain ⟨o0, o1, o2, o3, o4⟩ := ko_cells (k := 0) (n := 0) (t := []) HO7
    have HG7 := grown_trans HG6 hg7
    have q0 := o3 0
    have q1 := o3 1
    have q2 := o3 2
    go_wp2
    obtain ⟨⟨k0, k1, k2⟩, hE⟩ := key_end (k := 0) (n := 0) (t := []) HO7 hr7 HG7 hne (Nat.le_refl _) 1 num ⟨#[]⟩ _ rfl
    exact bodyPost_ret (v := .agg #[.int .i64 1, .int .i64 num, .string ⟨#[]⟩]) (by simp [results, Tryz.results124, go_sem, k0, k1, k2]) rfl ⟨rfl, hE⟩
  · go_enter Tryz.func124, Tryz.ntmps124
    go_wp2_with (go_at_call 120; refine (HA.out _ HR.out).mono ?_; rintro e w1 ⟨rfl, hr, hg⟩; rw [hp]; obtain ⟨d0, d1, d2, d3⟩ := hr.cells; have hne1 : w1.heap.size ≠ b := by omega)
    obtain ⟨HY, HR2, HO2, HV2⟩ := key_mid (HG.out) hg hr HO.out hne
    unfold kO at HY HR2 HO2 HV2
    go_at_call 157
    refine (HH.out _).mono ?_
    rintro e w2 ⟨rfl, rfl⟩
    rw [show Lib.hasPrefix s1.data.toList (⟨#[34]⟩ : ByteArray).data.toList = false from hq]
    go_wp2_with (go_at_call 160; refine (HI.out _).mono ?_; rintro e wq ⟨rfl, rfl⟩)
    go_wp2_with (go_at_call 161; refine (HN.out _ (hT.below (HW.out _ HY))).mono ?_; rintro e w4 ⟨rfl, hb4⟩; simp only [NmR]; have HR4 := HR2.kept hb4; have HO4 := (hb4.block _ (lt_of_block HO2)).trans HO2; have HV4 := (hb4.block _ (lt_of_block HV2)).trans HV2; have HG4 := grown_trans HY (grown_of hb4 (some b)); obtain ⟨d0, d1, d2, d3⟩ := HR4.cells; have f1 := d2 1; have f0 := d2 0; have hlt : w.heap.size < w1.heap.size := (by have := hg.size; simp [World.size_alloc] at this; omega); obtain ⟨v0, v1, v2, v3, v4⟩ := ko_cells (k := 0) (n := 0) (t := []) HV4; have p0 := v3 0; have p1 := v3 1; have p2 := v3 2)
    go_at_call 122
    obtain ⟨HR6, HO6, HV6, HG6⟩ := key_put (HR4.set1 _) (ko_kept HO4 (grown_setC w4 ⟨b, 1, none⟩ (.bool _)) hne) (ko_kept HV4 (grown_setC w4 ⟨b, 1, none⟩ (.bool _)) hne1) (grown_trans HG4 (grown_setC w4 ⟨b, 1, none⟩ (.bool _))) hne hne1 hlt 1 num [] [] _ _ rfl
    refine (HS.out _ HR6).mono ?_
    rintro e w7 ⟨rfl, hr7, hg7⟩
    obtain ⟨v0, v1, v2, v3, v4⟩ := ko_cells (ko_kept HV6 hg7 hne1)
    have HO7 := ko_kept HO6 hg7 hne
    obtain ⟨o0, o1, o2, o3, o4⟩ := ko_cells (k := 0) (n := 0) (t := []) HO7
    have HG7 := grown_trans HG6 hg7
    have q0 := o3 0
    have q1 := o3 1
    have q2 := o3 2
    go_wp2
    obtain ⟨⟨k0, k1, k2⟩, hE⟩ := key_end (k := 0) (n := 0) (t := []) HO7 hr7 HG7 hne (Nat.le_refl _) 1 num ⟨#[]⟩ _ rfl
    exact bodyPost_ret (v := .agg #[.int .i64 1, .int .i64 num, .string ⟨#[]⟩]) (by simp [results, Tryz.results124, go_sem, k0, k1, k2]) rfl ⟨rfl, hE⟩
end Go.Proofs.YtpnogmicfomofaaGreatDoor.Adr
