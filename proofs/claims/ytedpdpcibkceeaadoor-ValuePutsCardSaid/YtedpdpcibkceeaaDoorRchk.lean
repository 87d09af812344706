import Derived.Test.YtedpdpcibkceeaaDoorNode
/-
  Contracts of the reference's check and Check. Conditions: those ahead of each theorem.
-/
namespace Go.Proofs.YtedpdpcibkceeaaDoor
open Go.RowKit Go.Sort Go.Lib
open Go.Lib (hid)
set_option linter.unusedVariables false
set_option linter.unusedSimpArgs false

theorem ret_int2 {a b c d : Int} (h : a = c) (h' : b = d) : Ending.returned (.tuple #[.int .i64 c, .int .i64 d]) = .returned (.tuple #[.int .i64 a, .int .i64 b]) := by rw [h, h']
theorem chkL_append (vld : ByteArray → Bool) (a c : List Val) (lv : Int) (b : Nat) : chkL vld (a ++ c) lv b = if (chkL vld a lv b).1 ≠ 0 then chkL vld a lv b else chkL vld c lv (chkL vld a lv b).2 := by
  induction a generalizing b with
  | nil => simp [chkL]
  | cons x xs ih =>
    rw [List.cons_append, chkL, chkL]
    by_cases h : (chkV vld x lv b).1 ≠ 0
    · rw [if_pos h, if_pos h, if_pos h]
    · rw [if_neg h, if_neg h, ih]
theorem chkL_snoc (vld : ByteArray → Bool) {is : List Val} {k : Nat} (h : k < is.length) {lv : Int} {b m : Nat} (hm : chkL vld (is.take k) lv b = (0, m)) (h0 : (chkV vld is[k] lv m).1 = 0) : chkL vld (is.take (k + 1)) lv b = (0, (chkV vld is[k] lv m).2) := by
  rw [List.take_succ_eq_append_getElem h, chkL_append, hm, if_neg (by simp), chkL, if_neg (by rw [h0]; simp), chkL]
theorem chkL_stop (vld : ByteArray → Bool) {is : List Val} {k : Nat} (h : k < is.length) {lv : Int} {b m : Nat} (hm : chkL vld (is.take k) lv b = (0, m)) (h0 : (chkV vld is[k] lv m).1 ≠ 0) : chkL vld is lv b = chkV vld is[k] lv m := by
  have e : chkL vld is lv b = chkL vld (is.take k ++ is.drop k) lv b := by rw [List.take_append_drop]
  rw [e, chkL_append, hm, if_neg (by simp), List.drop_eq_getElem_cons h, chkL, if_pos h0]
theorem chk_bd (vld : ByteArray → Bool) (x : Val) : ∀ (lv : Int) (b : Nat), b ≤ 4096 → (chkV vld x lv b).2 ≤ 4096 := by
  refine Val.ind (P := fun x => ∀ (lv : Int) (b : Nat), b ≤ 4096 → (chkV vld x lv b).2 ≤ 4096) ?_ x
  intro x ih lv b hb
  rw [chkV_eq]
  by_cases h1 : 32 < lv
  · rw [if_pos h1]; exact hb
  rw [if_neg h1]
  by_cases h2 : 4096 ≤ b
  · rw [if_pos h2]; exact hb
  rw [if_neg h2]
  by_cases h3 : nodeV vld x ≠ 0
  · rw [if_pos h3]; exact hb
  rw [if_neg h3]
  have key : ∀ (is : List Val), (∀ y ∈ is, ∀ (lv : Int) (b : Nat), b ≤ 4096 → (chkV vld y lv b).2 ≤ 4096) → ∀ (lv : Int) (b : Nat), b ≤ 4096 → (chkL vld is lv b).2 ≤ 4096 := by
    intro is
    induction is with
    | nil => intro _ lv b hb; rw [chkL]; exact hb
    | cons y ys ihy =>
      intro h lv b hb
      rw [chkL]
      split
      · exact h y List.mem_cons_self lv b hb
      · exact ihy (fun z hz => h z (List.mem_cons_of_mem _ hz)) lv _ (h y List.mem_cons_self lv b hb)
  exact key x.items ih _ _ (by omega)

set_option maxRecDepth 100000 in
set_option maxHeartbeats 4000000 in
theorem rcheck_any (x : Val) : ∀ (lv : Int) (n : Nat) (r : Option Addr) (c : Nat) (rk : Option Addr) (ck : Nat) (w : World), VR5 w r c rk ck x → 0 ≤ lv → lv ≤ 33 → n ≤ 4096 →
    Calls Tryd.prog 45 #[.agg #[.int .i64 x.kind, .int .i64 x.num, .string x.str, .slice r x.items.length c, .slice rk x.keys.length ck], .int .i64 lv, .int .i64 n] w fun e w' => e = .returned (.tuple #[.int .i64 (chkV vU x lv n).1, .int .i64 (chkV vU x lv n).2]) ∧ Below w.heap.size w w' := by
  refine Val.ind (P := fun x => ∀ (lv : Int) (n : Nat) (r : Option Addr) (c : Nat) (rk : Option Addr) (ck : Nat) (w : World), VR5 w r c rk ck x → 0 ≤ lv → lv ≤ 33 → n ≤ 4096 →
    Calls Tryd.prog 45 #[.agg #[.int .i64 x.kind, .int .i64 x.num, .string x.str, .slice r x.items.length c, .slice rk x.keys.length ck], .int .i64 lv, .int .i64 n] w fun e w' => e = .returned (.tuple #[.int .i64 (chkV vU x lv n).1, .int .i64 (chkV vU x lv n).2]) ∧ Below w.heap.size w w') ?_ x
  intro x ih lv n r c rk ck w hx hl0 hl1 hn
  obtain ⟨hI, hK, _, _, hs, hkl, hil⟩ := hx.parts
  obtain ⟨_, hlc, hcm⟩ := sl_len hI
  have HI := hid hI
  have hb0 : Below w.heap.size w (w.alloc (.cells #[.int .i64 x.kind, .int .i64 x.num, .string x.str, .slice r x.items.length c, .slice rk x.keys.length ck] 26)) := (Below.refl _ _).alloc (Nat.le_refl _) _
  have ND := hid (rnode_any x r c rk ck _ (hx.below hb0))
  have HN := hid (chkV_eq vU x lv n)
  have B0 := hid hb0
  have IH := hid ih
  clear hb0 hI hK hx ih
  generalize hnv : nodeV vU x = nv at *
  clear hnv
  generalize hnx : chkV vU x lv n = nx at *
  clear hnx
  obtain ⟨nx1, nx2⟩ := nx
  simp only at *
  generalize x.kind = xk at *
  generalize x.num = xn at *
  generalize x.str = xs at *
  generalize x.keys.length = nk at *
  generalize hxi : x.items = is at *
  clear hxi
  by_cases h1 : 32 < lv
  · have HF := hid (show nx1 = 4 ∧ nx2 = n by have := HN.out; rw [if_pos h1] at this; simpa using this)
    go_enter Tryd.func45, Tryd.ntmps45
    go_wp2
    go_ret2
    exact ⟨ret_int2 HF.out.1 (by rw [HF.out.2]), B0.out⟩
  have HN1 := hid (HN.out.trans (if_neg h1))
  clear HN
  by_cases h2 : 4096 ≤ n
  · have HF := hid (show nx1 = 14 ∧ nx2 = n by have := HN1.out; rw [if_pos h2] at this; simpa using this)
    have h2z : 4096 ≤ (n : Int) := by omega
    go_enter Tryd.func45, Tryd.ntmps45
    go_wp2
    go_ret2
    exact ⟨ret_int2 HF.out.1 (by rw [HF.out.2]), B0.out⟩
  have HN2 := hid (HN1.out.trans (if_neg h2))
  have h2z : ¬ 4096 ≤ (n : Int) := by omega
  clear HN1 h2
  have key : ∀ (w1 : World) (hb : Below (w.alloc (.cells #[.int .i64 xk, .int .i64 xn, .string xs, .slice r is.length c, .slice rk nk ck] 26)).heap.size (w.alloc (.cells #[.int .i64 xk, .int .i64 xn, .string xs, .slice r is.length c, .slice rk nk ck] 26)) w1),
      w1.cell? ⟨w.heap.size, 3, none⟩ = some (.slice r is.length c) := fun w1 hb => bget hb (cell_at rfl rfl)
  have KEY := hid key
  clear key
  by_cases h3 : nv = 0
  case neg =>
    have HF := hid (show nx1 = nv ∧ nx2 = n by have := HN2.out; rw [if_pos h3] at this; simpa using this)
    have e1 : (nv != 0) = true := by simpa using h3
    have e2 : (nv == 0) = false := by simpa using h3
    clear h3 HN2
    go_enter Tryd.func45, Tryd.ntmps45
    go_wp2_with fail
    refine ND.out.mono ?_
    rintro e w1 ⟨rfl, hb1⟩
    have B1 := hid (B0.out.trans (hb1.mono B0.out.size))
    clear hb1
    go_wp2
    go_ret2
    exact ⟨ret_int2 HF.out.1 (by rw [HF.out.2]), B1.out⟩
  case pos =>
  subst h3
  have HN3 := hid (HN2.out.trans (if_neg (by simp)))
  clear HN2
  go_enter Tryd.func45, Tryd.ntmps45
  go_wp2_with fail
  refine ND.out.mono ?_
  rintro e w1 ⟨rfl, hb1⟩
  have B1 := hid (B0.out.trans (hb1.mono B0.out.size))
  have K3 := hid (KEY.out w1 hb1)
  clear hb1 KEY
  go_wp2
  go_loopg [9, 10] is.length (fun gg s9 s10 wr => ∃ k m : Nat, k ≤ is.length ∧ is.length - k ≤ gg ∧ s10 = .int .i64 k ∧ s9 = .int .i64 m ∧ m ≤ 4096 ∧ Aside (Below w1.heap.size w1 wr) ∧ Aside (chkL vU (is.take k) (lv + 1) (n + 1) = (0, m)))
  case atStart => exact ⟨0, n + 1, Nat.zero_le _, by omega, rfl, rfl, by omega, Below.refl _ _, by show chkL vU (is.take 0) (lv + 1) (n + 1) = (0, n + 1); rw [List.take_zero, chkL]⟩
  case round =>
    obtain ⟨k, m, hk, hg, rfl, rfl, hm, BW, AL⟩ := hrel
    have k3 := bget BW.out K3.out
    have hz1 := World.block_lt_of_cell? _ _ k3
    simp only at hz1
    have BX := hid (B1.out.trans (BW.out.mono B1.out.size))
    have BW2 := hid BW.out
    clear BW
    by_cases hlt : k < is.length
    case neg =>
      have hltz : ¬ (k : Int) < (is.length : Int) := by omega
      have HF := hid (show nx1 = 0 ∧ nx2 = m by
        have := AL.out
        rw [show k = is.length by omega, List.take_length, ← HN3.out] at this
        simpa using this)
      clear AL
      go_wp2
      go_ret2
      exact ⟨ret_int2 HF.out.1 (by rw [HF.out.2]), BX.out⟩
    have hltz : (k : Int) < (is.length : Int) := by omega
    obtain ⟨b, off, ri, ci, rk', ck', rfl, hb, g0, g1, g2, g3, g4, h5⟩ := val_at (slv_mono HI.out BX.out) k hlt
    have C := hid (IH.out _ (List.getElem_mem hlt) (lv + 1) m ri ci rk' ck' wr h5 (by omega) (by omega) hm)
    have HS := hid (fun h0 => chkL_snoc vU hlt AL.out h0)
    have HP := hid (fun h0 => chkL_stop vU hlt AL.out h0)
    have hbd := chk_bd vU is[k] (lv + 1) m hm
    clear h5 AL
    generalize is[k] = y at *
    generalize chkV vU y (lv + 1) m = cv at *
    obtain ⟨c1, c2⟩ := cv
    obtain ⟨yk, yn, ys, yi, yks⟩ := y
    simp only [Val.kind, Val.num, Val.str, Val.items, Val.keys] at g0 g1 g2 g3 g4 C HS HP hbd
    by_cases h0 : c1 = 0
    case pos =>
      subst h0
      have HT := hid (HS.out rfl)
      clear HS HP
      go_wp2_with fail
      refine C.out.mono ?_
      rintro e w2 ⟨rfl, hb2⟩
      have B2 := hid (BW2.out.trans (hb2.mono BW2.out.size))
      clear hb2
      go_wp2
      go_roundg (is.length - (k + 1))
      case measure => omega
      case rel => exact ⟨k + 1, c2, by omega, by omega, by go_num, rfl, hbd, B2.out, HT.out⟩
    case neg =>
      have HF := hid (show nx1 = c1 ∧ nx2 = c2 by have := HN3.out.trans (HP.out h0); simpa using this)
      have e1 : (c1 != 0) = true := by simpa using h0
      have e2 : (c1 == 0) = false := by simpa using h0
      clear HS HP h0
      go_wp2_with fail
      refine C.out.mono ?_
      rintro e w2 ⟨rfl, hb2⟩
      have B2 := hid (BX.out.trans (hb2.mono BX.out.size))
      clear hb2
      go_wp2
      go_ret2
      exact ⟨ret_int2 HF.out.1 (by rw [HF.out.2]), B2.out⟩

theorem rCheck_any (x : Val) (r : Option Addr) (c : Nat) (rk : Option Addr) (ck : Nat) (w : World) (hx : VR5 w r c rk ck x) :
    Calls Tryd.prog 13 #[.agg #[.int .i64 x.kind, .int .i64 x.num, .string x.str, .slice r x.items.length c, .slice rk x.keys.length ck]] w fun e w' => e = .returned (.int .i64 (checkV vU x)) ∧ Below w.heap.size w w' := by
  have hb0 : Below w.heap.size w (w.alloc (.cells #[.int .i64 x.kind, .int .i64 x.num, .string x.str, .slice r x.items.length c, .slice rk x.keys.length ck] 26)) := (Below.refl _ _).alloc (Nat.le_refl _) _
  have C := hid (rcheck_any x 1 0 r c rk ck _ (hx.below hb0) (by omega) (by omega) (by omega))
  have HN := hid (show checkV vU x = (chkV vU x 1 0).1 from rfl)
  have B0 := hid hb0
  clear hb0 hx
  generalize chkV vU x 1 0 = cv at *
  obtain ⟨c1, c2⟩ := cv
  simp only at *
  generalize checkV vU x = nx at *
  generalize x.kind = xk at *
  generalize x.num = xn at *
  generalize x.str = xs at *
  generalize x.keys.length = nk at *
  generalize x.items.length = ni at *
  go_enter Tryd.func13, Tryd.ntmps13
  go_wp2_with fail
  refine C.out.mono ?_
  rintro e w1 ⟨rfl, hb1⟩
  have B1 := hid (B0.out.trans (hb1.mono B0.out.size))
  clear hb1
  go_wp2
  go_ret
  exact ⟨ret_int HN.out, B1.out⟩
end Go.Proofs.YtedpdpcibkceeaaDoor
