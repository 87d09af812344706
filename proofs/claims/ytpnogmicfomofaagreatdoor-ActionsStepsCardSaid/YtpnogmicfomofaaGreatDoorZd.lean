import Derived.Test.YtpnogmicfomofaaGreatDoorZc
/-
  Layer 44: the reference's ready. Conditions: those ahead of each theorem.
-/
namespace Go.Proofs.YtpnogmicfomofaaGreatDoor.Stp
open Go.RowKit Go.Sort Go.Lib Go.Maps
open Go.Lib (hid)
set_option linter.unusedVariables false
set_option linter.unusedSimpArgs false

/-- A step can be done now: it is not done, and all it needs is. -/
def rdyS (N : List (List Nat)) (out : List Nat) (i : Nat) : Bool := !hasN i out && (nd N i).all fun y => hasN y out
theorem rdyB_eq {N : List (List Nat)} {out : List Nat} {i : Nat} (hi : i < N.length) : rdyB (esN N) out i = (nd N i).all fun y => hasN y out := by
  unfold rdyB
  rw [cnt_esN N out hi]
  induction nd N i with
  | nil => rfl
  | cons y l ih =>
    rw [List.filter_cons, List.all_cons]
    cases h : hasN y out
    · simp
    · simpa using ih
theorem rdyS_eq {N : List (List Nat)} {out : List Nat} {i : Nat} (hi : i < N.length) : rdyS N out i = (!hasN i out && rdyB (esN N) out i) := by rw [rdyB_eq hi]; rfl
theorem rdyS_done {N : List (List Nat)} {out : List Nat} {i : Nat} (h : hasN i out = true) : rdyS N out i = false := by unfold rdyS; rw [h]; rfl
theorem rdyS_no {N : List (List Nat)} {out : List Nat} {i k : Nat} (hk : k < (nd N i).length) (h : hasN (nd N i)[k] out = false) : rdyS N out i = false := by
  unfold rdyS
  rw [Bool.and_eq_false_iff]
  exact Or.inr (List.all_eq_false.2 ⟨_, List.getElem_mem hk, by rw [h]; simp⟩)
theorem rdyS_yes {N : List (List Nat)} {out : List Nat} {i : Nat} (h : hasN i out = false) (ha : ∀ k (hk : k < (nd N i).length), hasN (nd N i)[k] out = true) : rdyS N out i = true := by
  unfold rdyS
  rw [h, Bool.not_false, Bool.true_and, List.all_eq_true]
  intro y hy
  obtain ⟨k, hk, rfl⟩ := List.mem_iff_getElem.1 hy
  exact ha k hk

set_option maxHeartbeats 4000000 in
theorem rready_any (v : Value) (ss : List St) (i M : Nat) (out : List Nat) (w : World) (hS : Sl StR 3 w v ss) (hr : rightS ss = true) (hi : i < ss.length) (hM : Mk M ss.length out w) :
    Calls Tryz.prog 36 #[v, .int .i64 i, .slice (some ⟨M, 0, none⟩) ss.length ss.length] w fun e w' => e = .returned (.bool (rdyS (nls ss) out i)) ∧ w' = w := by
  obtain ⟨r, c, rfl, _⟩ := id hS
  obtain ⟨_, hl, hm⟩ := sl_len hS
  obtain ⟨b3, o3, rn, cn, rfl, hb3, gx, hl3, hm3, hnx⟩ := need_at hS hr i hi
  have g0 := hM.cell i hi
  have f0 := hM.lt
  have HM := hid hM.cell
  have HSL := hid (hnx w (Below.refl _ _))
  have HNo := hid (fun k hk h => rdyS_no (N := nls ss) (out := out) (i := i) (k := k) hk h)
  have HYes := hid (fun h ha => rdyS_yes (N := nls ss) (out := out) (i := i) h ha)
  have HDo := hid (fun h => rdyS_done (N := nls ss) (out := out) (i := i) h)
  clear hS hM hnx hr
  generalize hT : nd (nls ss) i = T at *
  clear hT
  cases hd : hasN i out
  case true =>
    rw [hd] at g0
    have HR := hid (HDo.out hd)
    go_enter Tryz.func36, Tryz.ntmps36
    go_wp2
    go_ret
    exact ⟨ret_bool HR.out, rfl⟩
  case false =>
    rw [hd] at g0
    have HY := hid (HYes.out hd)
    clear hd HDo HYes
    go_enter Tryz.func36, Tryz.ntmps36
    go_wp2
    go_loop [7] (fun s => ∃ k : Nat, k ≤ T.length ∧ s = .int .i64 k ∧ Hid (∀ j (hj : j < T.length), j < k → hasN T[j] out = true)) (fun s => T.length - (RowKit.intOf s).toNat)
    case atStart => exact ⟨0, by omega, rfl, hid (fun j hj h => absurd h (by omega))⟩
    case round =>
      obtain ⟨k, hk, rfl, HA⟩ := hrel
      by_cases hlt : k < T.length
      · obtain ⟨b4, o4, rfl, hb4, g4, hyn⟩ := HSL.out k hlt
        have hmk := HM.out T[k] hyn
        have HN := hid (HNo.out k hlt)
        have HX := hid (fun (h : hasN T[k] out = true) => show ∀ j (hj : j < T.length), j < k + 1 → hasN T[j] out = true from fun j hj hjk => by
          by_cases e : j < k
          · exact HA.out j hj e
          · obtain rfl : j = k := by omega
            exact h)
        generalize T[k] = y at *
        cases hy : hasN y out
        · rw [hy] at hmk
          have HR := hid (HN.out hy)
          clear HN HX hy
          go_wp2
          go_ret
          exact ⟨ret_bool HR.out, rfl⟩
        · rw [hy] at hmk
          have HR := hid (HX.out hy)
          clear HN HX hy
          go_wp2
          go_round
          case rel => exact ⟨k + 1, by omega, by go_num, HR⟩
          case measure => simp [RowKit.intOf]; omega
      · have hke : k = T.length := by omega
        have HR := hid (HY.out fun j hj => HA.out j hj (by omega))
        clear hke
        go_wp2
        go_ret
        exact ⟨ret_bool HR.out, rfl⟩
end Go.Proofs.YtpnogmicfomofaaGreatDoor.Stp
/-
  Layer 44: the reference's Order. Conditions: those ahead of each theorem.
-/
namespace Go.Proofs.YtpnogmicfomofaaGreatDoor.Stp
open Go.RowKit Go.Sort Go.Lib Go.Maps
open Go.Lib (hid)
set_option linter.unusedVariables false
set_option linter.unusedSimpArgs false

theorem ret_pair {v : Value} {a b : Int} (h : a = b) : Ending.returned (.tuple #[v, .int .i64 b]) = .returned (.tuple #[v, .int .i64 a]) := by rw [h]
def ordL (ss : List St) : List Nat := if rightS ss = true then ordOn (List.range ss.length) (esN (nls ss)) else []
def ordR (ss : List St) : Int := if rightS ss = true then ordEn (List.range ss.length) (esN (nls ss)) else 1
def OrdPN (ss : List St) (w : World) (e : Ending) (w' : World) : Prop :=
  ∃ v, e = .returned (.tuple #[v, .int .i64 (ordR ss)]) ∧ Sl IntR 1 w' v ((ordL ss).map Nat.cast) ∧ Below w.heap.size w w'
abbrev OrdU (ss : List St) (out : List Nat) : Prop := OrdW (List.range ss.length) (esN (nls ss)) out
theorem ordU_bad {ss : List St} (h : rightS ss = false) : ordL ss = [] ∧ ordR ss = 1 := by unfold ordL ordR; rw [h]; exact ⟨rfl, rfl⟩
theorem ordU_fin {ss : List St} {out : List Nat} (hr : rightS ss = true) (h : OrdU ss out) (hl : ¬ out.length < ss.length) : ordL ss = out ∧ ordR ss = 0 := by
  unfold ordL ordR
  rw [if_pos hr, if_pos hr]
  exact OrdW.fin h (by simpa using hl)
theorem rdy_or {ss : List St} {out : List Nat} {j : Nat} (hj : j < ss.length) (h : rdyS (nls ss) out j = false) : hasN j out = true ∨ rdyB (esN (nls ss)) out j = false := by
  rw [rdyS_eq (by rw [nls_len]; exact hj)] at h
  cases h1 : hasN j out
  · right; rw [h1] at h; simpa using h
  · exact Or.inl rfl
theorem ordU_stuck {ss : List St} {out : List Nat} (hr : rightS ss = true) (h : OrdU ss out) (hl : out.length < ss.length) (hp : ∀ j, j < ss.length → rdyS (nls ss) out j = false) : ordL ss = [] ∧ ordR ss = 10 := by
  unfold ordL ordR
  rw [if_pos hr, if_pos hr]
  refine OrdW.stuck h (by simpa using hl) (pick_no fun j hj => ?_)
  rw [List.getElem_range]
  exact rdy_or (by simpa using hj) (hp j (by simpa using hj))
theorem ordU_more {ss : List St} {out : List Nat} {k : Nat} (h : OrdU ss out) (hl : out.length < ss.length) (hk : k < ss.length) (hp : ∀ j, j < k → rdyS (nls ss) out j = false) (h1 : rdyS (nls ss) out k = true) : OrdU ss (out ++ [k]) := by
  have hkr : k < (List.range ss.length).length := by simpa using hk
  have e : (List.range ss.length)[k] = k := List.getElem_range ..
  rw [rdyS_eq (by rw [nls_len]; exact hk)] at h1
  rw [Bool.and_eq_true] at h1
  have := pick_at (ns := List.range ss.length) (es := esN (nls ss)) (out := out) hkr (fun j hj hjk => by
    rw [List.getElem_range]
    exact rdy_or (by simpa using hj) (hp j hjk)) (by rw [e]; simpa using h1.1) (by rw [e]; exact h1.2)
  rw [e] at this
  exact OrdW.more h this (by simpa using hl)
theorem ordU_start (ss : List St) : OrdU ss [] := ⟨by simp, by simp, by simp⟩
theorem OwnI.setBelow {B : Nat} {w : World} {v : Value} {xs : List Int} (h : OwnI B w v xs) {a : Addr} (ha : a.block < B) (u : Value) : OwnI B (w.setCell a u) v xs := by
  refine h.kept (row := some a.block) ⟨rfl, rfl, rfl, by simp [World.setCell], fun k hk hne => Below.heap_setCell _ _ _ _ (fun e => hne (by rw [e]))⟩ fun g hg e => ?_
  have := (h.lt g hg).1
  cases e
  omega

set_option maxRecDepth 100000 in
set_option maxHeartbeats 4000000 in
theorem rorder_any (v : Value) (ss : List St) (w : World) (hS : Sl StR 3 w v ss) (hn : ss.length ≤ 900000) :
    Calls Tryz.prog 14 #[v] w (OrdPN ss w) := by
  obtain ⟨r, c, rfl, _⟩ := id hS
  obtain ⟨_, hl, hm⟩ := sl_len hS
  have HIX := hid (rright_any _ ss w hS)
  have HSS := hid (fun (W : World) (hW : Below w.heap.size w W) => hS.below stR_mono hW)
  obtain ⟨i0, hi, hz0, hz1, hz2⟩ := info_parts boolinfo
  obtain ⟨C, hC, hCc, hmk⟩ := make_fact (P := Tryz.prog) Tryz.underlying82 hi hz0 hz1 hz2 rfl ss.length (by omega) (by omega)
  have HCC := hid hCc
  clear hS hCc hC hi hz0 hz1 hz2
  cases hr : rightS ss
  · rw [hr] at HIX
    have HR := hid (ordU_bad hr)
    go_enter Tryz.func14, Tryz.ntmps14
    go_wp2_with fail
    refine HIX.out.mono ?_
    rintro e w1 ⟨rfl, hw0⟩
    obtain rfl := hw0
    go_wp2
    go_ret2
    exact ⟨.slice none 0 0, ret_pair HR.out.2, by rw [HR.out.1]; exact (ownI_nil 0 _).sl, Below.refl _ _⟩
  rw [hr] at HIX
  have HRT := hid hr
  clear hr
  go_enter Tryz.func14, Tryz.ntmps14
  go_wp2_with fail
  refine HIX.out.mono ?_
  rintro e w1 ⟨rfl, hw0⟩
  have HB1 := hid (show Below w.heap.size w (w1.alloc (.cells C 4)) from by rw [hw0]; exact (Below.refl _ _).alloc (Nat.le_refl _) _)
  have HM1 := hid (show Mk w1.heap.size ss.length [] (w1.alloc (.cells C 4)) from Mk.made HCC.out)
  have HSZ := hid (show w1.heap.size + 1 ≤ (w1.alloc (.cells C 4)).heap.size by simp)
  have HMl := hid (show w.heap.size ≤ w1.heap.size by rw [hw0]; exact Nat.le_refl _)
  clear hw0 HIX HCC
  go_wp2
  generalize w1.heap.size = M at *
  clear hmk
  generalize w1.alloc (.cells C 4) = W1 at *
  go_loopg [4] ss.length (fun gg s4 wr => ∃ out : List Nat, ss.length - out.length ≤ gg ∧ Hid (OrdU ss out) ∧ Hid (Below w.heap.size w wr) ∧ Hid (Mk M ss.length out wr) ∧ Hid (M + 1 ≤ wr.heap.size) ∧ Hid (OwnI (M + 1) wr s4 (out.map Nat.cast)))
  case atStart => exact ⟨[], by simp, hid (ordU_start ss), HB1, HM1, HSZ, hid (ownI_nil _ _)⟩
  case round =>
    obtain ⟨out, hgg, HO, HB, HM, HZ, HW⟩ := hrel
    have hol := HO.out.2.1
    rw [List.length_range] at hol
    obtain ⟨ro, co, hv, hro1, hro2⟩ := HW.out.form
    rw [List.length_map] at hv hro1
    subst hv
    by_cases hlt : out.length < ss.length
    case neg =>
      have HF := hid (ordU_fin HRT.out HO.out hlt)
      go_wp2
      go_ret2
      exact ⟨.slice ro out.length co, ret_pair HF.out.2, by rw [HF.out.1]; exact HW.out.sl, HB.out⟩
    have HP := hid (fun k hk h h1 => ordU_more (k := k) HO.out hlt hk h h1)
    have HQ := hid (fun h => ordU_stuck HRT.out HO.out hlt h)
    have HRD := hid (fun (k : Nat) (hk : k < ss.length) => rready_any _ ss k M out _ (HSS.out _ HB.out) HRT.out hk HM.out)
    go_wp2
    go_loop [6] (fun s => ∃ k : Nat, k ≤ ss.length ∧ s = .int .i64 k ∧ Hid (∀ j, j < k → rdyS (nls ss) out j = false)) (fun s => ss.length - (RowKit.intOf s).toNat)
    case atStart => exact ⟨0, by omega, rfl, hid (fun j hj => absurd hj (by omega))⟩
    case round =>
      obtain ⟨k, hk, rfl, HK⟩ := hrel
      by_cases hkl : k < ss.length
      · have HR1 := hid (HRD.out k hkl)
        have HPk := hid (HP.out k hkl HK.out)
        have HNx := hid (fun (h : rdyS (nls ss) out k = false) => show ∀ j, j < k + 1 → rdyS (nls ss) out j = false from fun j hjk => by
          by_cases e : j < k
          · exact HK.out j e
          · obtain rfl : j = k := by omega
            exact h)
        have k4 : ¬ (k : Int) = (ss.length : Int) := by omega
        have m0 := HM.out.cell k hkl
        have m1 := HM.out.free k
        have m2 := HM.out.lt
        cases hrd : rdyS (nls ss) out k
        · have HN2 := hid (HNx.out hrd)
          rw [hrd] at HR1
          clear hrd HPk HNx m0 m1
          go_wp2_with fail
          refine HR1.out.mono ?_
          rintro e w3 ⟨rfl, hw3⟩
          obtain rfl := hw3
          go_wp2
          go_round
          case rel => exact ⟨k + 1, by omega, by go_num, HN2⟩
          case measure => simp [RowKit.intOf]; omega
        · have HON := hid (HPk.out hrd)
          rw [hrd] at HR1
          clear hrd HPk HNx
          obtain ⟨wo, hwo⟩ : ∃ wo : World, wo = wr := ⟨_, rfl⟩
          have HKL := hid hkl
          go_wp2_with fail
          refine HR1.out.mono ?_
          rintro e w3 ⟨rfl, hw3⟩
          obtain rfl := hw3
          subst hwo
          have HOw3 := hid ((HW.out.setBelow (a := ⟨M, k, none⟩) (by simp) (.bool true)).below ((Below.refl _ _).alloc (Nat.le_refl _) (.cells #[.int .i64 (k : Int)] 3)))
          have HMk3 := hid ((HM.out.set HKL.out).below ((Below.refl _ _).alloc (Nat.le_refl _) (.cells #[.int .i64 (k : Int)] 3)))
          have HB3 := hid (show Below w.heap.size w ((wo.setCell ⟨M, k, none⟩ (.bool true)).alloc (.cells #[.int .i64 (k : Int)] 3)) from (HB.out.setCell (by simpa using HMl.out) _).alloc (by have := HB.out.size; simpa [World.setCell] using this) _)
          have HBL : Hid (((wo.setCell ⟨M, k, none⟩ (.bool true)).alloc (.cells #[.int .i64 (k : Int)] 3)).heap[wo.heap.size]? = some (.cells #[.int .i64 (k : Int)] 3 (0, 0))) := hid (by
            have h1 := (MapKept.heap_alloc (wo.setCell ⟨M, k, none⟩ (.bool true)) (.cells #[.int .i64 (k : Int)] 3)).1
            have h2 : (wo.setCell ⟨M, k, none⟩ (.bool true)).heap.size = wo.heap.size := by simp [World.setCell]
            rw [h2] at h1
            exact h1)
          have HL := hid HW.out.lt
          have HLn := hid (show (out.map Nat.cast : List Int).length + 1 ≤ 1000000 by rw [List.length_map]; omega)
          go_wp2_with (at_builtin
                       go_loud (refine app_int rfl _ _ rfl (M + 1) _ (out.map Nat.cast) rfl HOw3.out wo.heap.size 1 k rfl (fr := (0, 0)) HBL.out (ib_nat (by have := HKL.out; omega)) HLn.out (by have := HZ.out; simp [World.setCell]; omega) (wo.heap.size + 1) (by simp [World.setCell]) ?_)
                       intro g cap w7 hm7
                       have HM7 := hid hm7
                       clear hm7
                       rw [List.length_map])
          go_roundg (ss.length - (out ++ [k]).length)
          case measure => simp; omega
          case rel =>
            obtain ⟨n1, n2, n3, n4⟩ := HM7.out
            have e2 : (out.map Nat.cast ++ [(k : Int)]).length = out.length + 1 := by simp
            rw [e2] at n1
            exact ⟨out ++ [k], Nat.le_refl _, HON, hid (Below.grown HB3.out n2 HB3.out.size (fun g hg => by have := (HL.out g hg).1; have := HMl.out; omega)), hid (HMk3.out.grown n2 (fun e => by have := (HL.out _ e).1; omega)), hid (by have := n2.size; have := HZ.out; simp [World.setCell] at *; omega), hid (by rw [List.map_append, List.map_singleton]; exact n1)⟩
      · obtain rfl : k = ss.length := by omega
        have HR := hid (HQ.out HK.out)
        go_wp2
        go_ret2
        exact ⟨.slice none 0 0, ret_pair HR.out.2, by rw [HR.out.1]; exact (ownI_nil 0 _).sl, HB.out⟩
end Go.Proofs.YtpnogmicfomofaaGreatDoor.Stp
