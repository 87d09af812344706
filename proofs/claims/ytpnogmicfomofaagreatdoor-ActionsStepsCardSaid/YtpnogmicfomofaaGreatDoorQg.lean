import Derived.Test.YtpnogmicfomofaaGreatDoorZv
import Derived.Test.YtpnogmicfomofaaGreatDoorZw
import Derived.Test.YtpnogmicfomofaaGreatDoorHi
import Derived.Test.YtpnogmicfomofaaGreatDoorIb
import Derived.Test.YtpnogmicfomofaaGreatDoorSB
/-
  Layer 44: the reference's many, Steps and Check; the program's Check; the law ActionsSteps. Conditions: those ahead of each theorem.
-/
namespace Go.Proofs.YtpnogmicfomofaaGreatDoor.Stp
open Go.RowKit Go.Sort Go.Lib Go.Maps
open Go.Lib (hid)
open Adr (WT)
attribute [local go_sem] frUpon
attribute [local go_sem ↓] ldC_eq
attribute [local go_sem] ldC_run lies_drew rd22_drew lies_drewN rd22_drewN
set_option linter.unusedVariables false
set_option linter.unusedSimpArgs false

set_option maxRecDepth 100000 in
set_option maxHeartbeats 8000000 in
theorem rmany_any (rc : Option Addr) (cc : Nat) (cs : List Ch) (w : World) (hS : Sl ChR 22 w (.slice rc cs.length cc) cs) (hn : cs.length ≤ 1000000) :
    Calls Tryz.prog 38 #[.slice rc cs.length cc] w fun e w' => e = .returned (.int .i64 ((psF cs).length : Nat)) ∧ Below w.heap.size w w' := by
  have HCH := hid (fun (W : World) (hW : Below w.heap.size w W) => ch_at (hS.below chR_mono hW))
  obtain ⟨_, hl, hm⟩ := sl_len hS
  clear hS
  go_enter Tryz.func38, Tryz.ntmps38
  go_wp2
  go_loopg [3, 4] cs.length (fun gg s3 s4 wr => ∃ i : Nat, i ≤ cs.length ∧ cs.length - i ≤ gg ∧ s4 = .int .i64 i ∧ s3 = .int .i64 ((psK cs i).length : Nat) ∧ Hid (Below w.heap.size w wr))
  case atStart => exact ⟨0, by omega, by omega, rfl, by simp [psK], hid (Below.refl _ _)⟩
  case round =>
    obtain ⟨i, hi, hgg, rfl, rfl, HB⟩ := hrel
    by_cases hlt : i < cs.length
    · obtain ⟨cb, coff, x, rfl, hcb, hcell, hx⟩ := HCH.out wr HB.out i hlt
      obtain ⟨l1, l2⟩ := lies_of (cells22 x) hcell
      have HXO := hid (show opV x.ac x.cf = opl cs[i] by rw [hx.2.1, hx.2.2.1, opV_eq])
      have HOP := hid (fun W => rops_any x W)
      rw [HXO.out] at HOP
      have HLN := hid (show (psK cs (i + 1)).length = (psK cs i).length + (opl cs[i]).length by rw [psK_succ, plusK_at hlt, List.length_append, List.length_map])
      have HL2 := hid (show (opl cs[i]).length ≤ 2 from opl_len _)
      have HPK := hid (psK_len cs i)
      clear hcell hx HXO
      generalize opl cs[i] = xs at *
      generalize x.arr = X at *
      unfold OpsP at HOP
      have hii : (0 : Int) ≤ (i : Int) := by omega
      have hii2 : (i : Int) < (cs.length : Int) := by omega
      have hxl := HL2.out
      have hpl := HPK.out
      have hwr : IntKind.i64.wrap (((psK cs i).length : Int) + (xs.length : Int)) = ((psK cs i).length : Int) + (xs.length : Int) := IntWalk.i64_in _ (by omega)
      go_wp2_with (go_at_call 66; refine (HOP.out _).mono ?_; rintro e w1 ⟨r1, c1, rfl, hs1, _, hb1⟩; have HB1 := hid (HB.out.trans (hb1.mono HB.out.size)); clear hs1 hb1)
      go_roundg (cs.length - (i + 1))
      case measure => omega
      case rel => exact ⟨i + 1, by omega, by omega, by go_num, by rw [HLN.out]; simp, HB1⟩
    · obtain rfl : i = cs.length := by omega
      go_wp2
      go_ret
      exact ⟨rfl, HB.out⟩
/-- The reference answers as the program. -/
theorem ordR_two (ss : List St) (h : rightS ss = true) : ordR ss = 0 ∨ ordR ss = 10 := by
  unfold ordR
  rw [if_pos h]
  unfold ordEn
  split
  · exact Or.inr rfl
  · exact Or.inl rfl
set_option maxHeartbeats 8000000 in
theorem rsteps44_any (rc : Option Addr) (cc : Nat) (cs : List Ch) (w : World) (hS : Sl ChR 22 w (.slice rc cs.length cc) cs) (hn : cs.length ≤ 2000) (had : ∀ c ∈ cs, c.addr.size ≤ 100001) :
    Calls Tryz.prog 21 #[.slice rc cs.length cc] w (StpP cs w) := by
  have HM := hid (rmany_any rc cc cs w hS (by omega))
  have HL := hid (fun (W : World) (hW : Below w.heap.size w W) => rlist_any rc cc cs W (hS.below chR_mono hW) hn had)
  have HN := hid (show (stF cs).length ≤ 900000 by have := psK_len cs cs.length; rw [stF_len]; unfold psF; omega)
  have HO := hid (fun (v : Value) (W : World) (h : Sl StR 3 W v (stF cs)) => rorder_any v (stF cs) W h HN.out)
  have HLE := hid (psK_len cs cs.length)
  clear hS had
  unfold LstP at HL
  unfold OrdPN at HO
  by_cases hbig : 2048 < (psF cs).length
  · have HSE := hid (show stE cs = 14 by unfold stE; rw [if_pos hbig])
    have hb2 : (2048 : Int) < ((psF cs).length : Int) := by omega
    clear hbig
    go_enter Tryz.func21, Tryz.ntmps21
    go_wp2_with (go_at_call 38; refine HM.out.mono ?_; rintro e w1 ⟨rfl, hb1⟩)
    go_ret2
    exact ⟨.slice none 0 0, ret_pair HSE.out, by rw [show stL cs = [] by unfold stL; rw [HSE.out, if_neg (by decide)]]; exact ⟨none, 0, rfl, Nat.le_refl _, by unfold maxLen; omega, fun i hi => by simp at hi⟩, hb1⟩
  · have HSE := hid (show stE cs = ordR (stF cs) by unfold stE; rw [if_neg hbig])
    have hb2 : ¬ (2048 : Int) < ((psF cs).length : Int) := by omega
    have H2 := hid (ordR_two (stF cs) (stF_right cs))
    clear hbig
    by_cases hE : ordR (stF cs) = 0
    · have HSL := hid (show stL cs = stF cs by unfold stL; rw [HSE.out, if_pos hE])
      have HS0 := hid (show stE cs = 0 by rw [HSE.out, hE])
      rw [hE] at HO
      clear hE HSE H2
      go_enter Tryz.func21, Tryz.ntmps21
      go_wp2_with (first
        | (go_at_call 38; refine HM.out.mono ?_; rintro e w1 ⟨rfl, hb1⟩; have HB1 := hid hb1; clear hb1)
        | (go_at_call 39; refine (HL.out _ HB1.out).mono ?_; rintro e w2 ⟨v2, rfl, hs2, hb2⟩; have HB2 := hid (HB1.out.trans (hb2.mono HB1.out.size)); have HS2 := hid hs2; clear hs2 hb2)
        | (go_at_call 14; refine (HO.out _ _ HS2.out).mono ?_; rintro e w3 ⟨v3, rfl, hs3, hb3⟩; have HB3 := hid hb3; clear hs3 hb3))
      go_ret2
      exact ⟨_, ret_pair HS0.out, by rw [HSL.out]; exact HS2.out.below stR_mono HB3.out, HB2.out.trans (HB3.out.mono HB2.out.size)⟩
    · have HSL := hid (show stL cs = [] by unfold stL; rw [HSE.out, if_neg hE])
      have HS0 := hid (show stE cs = 10 by rw [HSE.out]; exact H2.out.resolve_left hE)
      have eE : (ordR (stF cs) != 0) = true := by simp [hE]
      clear hE HSE H2
      generalize ordR (stF cs) = E at *
      go_enter Tryz.func21, Tryz.ntmps21
      go_wp2_with (first
        | (go_at_call 38; refine HM.out.mono ?_; rintro e w1 ⟨rfl, hb1⟩; have HB1 := hid hb1; clear hb1)
        | (go_at_call 39; refine (HL.out _ HB1.out).mono ?_; rintro e w2 ⟨v2, rfl, hs2, hb2⟩; have HB2 := hid (HB1.out.trans (hb2.mono HB1.out.size)); have HS2 := hid hs2; clear hs2 hb2)
        | (go_at_call 14; refine (HO.out _ _ HS2.out).mono ?_; rintro e w3 ⟨v3, rfl, hs3, hb3⟩; have HB3 := hid hb3; clear hs3 hb3))
      go_ret2
      exact ⟨.slice none 0 0, ret_pair HS0.out, by rw [HSL.out]; exact ⟨none, 0, rfl, Nat.le_refl _, by unfold maxLen; omega, fun i hi => by simp at hi⟩, HB2.out.trans (HB3.out.mono HB2.out.size)⟩
/-- What Check answers. -/
noncomputable def chE (cs : List Ch) (x : List St) : Int := if stE cs = 0 then (if stL cs = x then 0 else 1) else stE cs
theorem chE_own (cs : List Ch) : chE cs (stL cs) = stE cs := by
  unfold chE
  by_cases h : stE cs = 0
  · rw [if_pos h, if_pos rfl, h]
  · rw [if_neg h]
set_option maxHeartbeats 8000000 in
theorem rcheck44_any (rc : Option Addr) (cc : Nat) (cs : List Ch) (v : Value) (x : List St) (w : World) (hS : Sl ChR 22 w (.slice rc cs.length cc) cs) (hn : cs.length ≤ 60) (had : ∀ c ∈ cs, c.addr.size ≤ 500) (hx : Sl StR 3 w v x) :
    Calls Tryz.prog 24 #[.slice rc cs.length cc, v] w fun e w' => e = .returned (.int .i64 (chE cs x)) ∧ Below w.heap.size w w' := by
  have HC := hid (show chE cs x = if stE cs = 0 then (if stL cs = x then 0 else 1) else stE cs from rfl)
  have HT := hid (rsteps44_any rc cc cs w hS (by omega) (fun c hc => Nat.le_trans (had c hc) (by omega)))
  have HQ := hid (fun (v1 : Value) (W : World) (hW : Below w.heap.size w W) (h1 : Sl StR 3 W v1 (stL cs)) => rsame_any (stL cs) x v1 v W h1 (hx.below stR_mono hW))
  obtain ⟨rx, cx, rfl, _⟩ := id hx
  clear hS had hx
  obtain ⟨R, hR⟩ : ∃ R, chE cs x = R := ⟨_, rfl⟩
  rw [hR] at HC ⊢
  clear hR
  unfold StpP at HT
  by_cases hE : stE cs = 0
  · rw [hE] at HT
    have HC1 := hid (show R = if stL cs = x then 0 else 1 by rw [HC.out, if_pos hE])
    clear HC hE
    by_cases hx : stL cs = x
    · rw [decide_eq_true hx] at HQ
      have HR := hid (show R = 0 by rw [HC1.out, if_pos hx])
      clear HC1 hx
      go_enter Tryz.func24, Tryz.ntmps24
      go_wp2_with (first
        | (go_at_call 21; refine HT.out.mono ?_; rintro e w1 ⟨v1, rfl, hs1, hb1⟩; obtain ⟨r1, c1, rfl, _⟩ := id hs1; have HS1 := hid hs1; have HB1 := hid hb1; clear hs1 hb1)
        | (go_at_call 43; refine (HQ.out _ _ HB1.out HS1.out).mono ?_; rintro e w2 ⟨rfl, hb2⟩; have HB2 := hid (HB1.out.trans (hb2.mono HB1.out.size)); clear hb2))
      go_ret
      exact ⟨ret_int HR.out, HB2.out⟩
    · rw [decide_eq_false hx] at HQ
      have HR := hid (show R = 1 by rw [HC1.out, if_neg hx])
      clear HC1 hx
      go_enter Tryz.func24, Tryz.ntmps24
      go_wp2_with (first
        | (go_at_call 21; refine HT.out.mono ?_; rintro e w1 ⟨v1, rfl, hs1, hb1⟩; obtain ⟨r1, c1, rfl, _⟩ := id hs1; have HS1 := hid hs1; have HB1 := hid hb1; clear hs1 hb1)
        | (go_at_call 43; refine (HQ.out _ _ HB1.out HS1.out).mono ?_; rintro e w2 ⟨rfl, hb2⟩; have HB2 := hid (HB1.out.trans (hb2.mono HB1.out.size)); clear hb2))
      go_ret
      exact ⟨ret_int HR.out, HB2.out⟩
  · have HR := hid (show R = stE cs by rw [HC.out, if_neg hE])
    have eE : (stE cs != 0) = true := by simp [hE]
    clear HC hE
    generalize stE cs = E at *
    go_enter Tryz.func24, Tryz.ntmps24
    go_wp2_with (go_at_call 21; refine HT.out.mono ?_; rintro e w1 ⟨v1, rfl, hs1, hb1⟩; have HB1 := hid hb1; clear hs1 hb1)
    go_ret
    exact ⟨ret_int HR.out, HB1.out⟩
set_option maxHeartbeats 8000000 in
theorem pcheck44_any (rc : Option Addr) (cc : Nat) (cs : List Ch) (v : Value) (x : List St) (w : World) (hT : WT w) (hS : Sl ChR 22 w (.slice rc cs.length cc) cs) (hn : cs.length ≤ 60) (had : ∀ c ∈ cs, c.addr.size ≤ 500) (hx : Sl StR 3 w v x) :
    Calls Tryz.prog 23 #[.slice rc cs.length cc, v] w fun e w' => e = .returned (.int .i64 (chE cs x)) ∧ Below w.heap.size w w' := by
  have HC := hid (show chE cs x = if stE cs = 0 then (if stL cs = x then 0 else 1) else stE cs from rfl)
  have HT := hid (steps_any rc cc cs w hT hS (by omega) (fun c hc => Nat.le_trans (had c hc) (by omega)) (Or.inr hn))
  have HQ := hid (fun (v1 : Value) (W : World) (hW : Below w.heap.size w W) (h1 : Sl StR 3 W v1 (stL cs)) => eqf_any (stL cs) x v1 v W h1 (hx.below stR_mono hW))
  obtain ⟨rx, cx, rfl, _⟩ := id hx
  clear hS had hx hT
  obtain ⟨R, hR⟩ : ∃ R, chE cs x = R := ⟨_, rfl⟩
  rw [hR] at HC ⊢
  clear hR
  unfold StpP at HT
  by_cases hE : stE cs = 0
  · rw [hE] at HT
    have HC1 := hid (show R = if stL cs = x then 0 else 1 by rw [HC.out, if_pos hE])
    clear HC hE
    by_cases hx : stL cs = x
    · rw [decide_eq_true hx] at HQ
      have HR := hid (show R = 0 by rw [HC1.out, if_pos hx])
      clear HC1 hx
      go_enter Tryz.func23, Tryz.ntmps23
      go_wp2_with (first
        | (go_at_call 11; refine HT.out.mono ?_; rintro e w1 ⟨v1, rfl, hs1, hb1⟩; obtain ⟨r1, c1, rfl, _⟩ := id hs1; have HS1 := hid hs1; have HB1 := hid hb1; clear hs1 hb1)
        | (go_at_call 40; refine (HQ.out _ _ HB1.out HS1.out).mono ?_; rintro e w2 ⟨rfl, hb2⟩; have HB2 := hid (HB1.out.trans (hb2.mono HB1.out.size)); clear hb2))
      go_ret
      exact ⟨ret_int HR.out, HB2.out⟩
    · rw [decide_eq_false hx] at HQ
      have HR := hid (show R = 1 by rw [HC1.out, if_neg hx])
      clear HC1 hx
      go_enter Tryz.func23, Tryz.ntmps23
      go_wp2_with (first
        | (go_at_call 11; refine HT.out.mono ?_; rintro e w1 ⟨v1, rfl, hs1, hb1⟩; obtain ⟨r1, c1, rfl, _⟩ := id hs1; have HS1 := hid hs1; have HB1 := hid hb1; clear hs1 hb1)
        | (go_at_call 40; refine (HQ.out _ _ HB1.out HS1.out).mono ?_; rintro e w2 ⟨rfl, hb2⟩; have HB2 := hid (HB1.out.trans (hb2.mono HB1.out.size)); clear hb2))
      go_ret
      exact ⟨ret_int HR.out, HB2.out⟩
  · have HR := hid (show R = stE cs by rw [HC.out, if_neg hE])
    have eE : (stE cs != 0) = true := by simp [hE]
    clear HC hE
    generalize stE cs = E at *
    go_enter Tryz.func23, Tryz.ntmps23
    go_wp2_with (go_at_call 11; refine HT.out.mono ?_; rintro e w1 ⟨v1, rfl, hs1, hb1⟩; have HB1 := hid hb1; clear hs1 hb1)
    go_ret
    exact ⟨ret_int HR.out, HB1.out⟩
set_option maxRecDepth 100000 in
set_option maxHeartbeats 40000000 in
theorem asteps_any (v vx : Value) (cs : List Ch) (x : List St) (w : World) (hS : Sl ChR 22 w v cs) (hx : Sl StR 3 w vx x) (hT : WT w) :
    Calls Tryz.prog 7 #[v, vx] w fun e w' => e = .returned (.bool true) ∧ Below w.heap.size w w' := by
  have HL := hid (light_any v cs w hS)
  have HF := hid (few_any vx x w hx)
  have HA := hid (fun (W : World) (hW : Below w.heap.size w W) => awake_any W (hT.below hW))
  obtain ⟨r, c, rfl, _⟩ := id hS
  obtain ⟨rx, cx, rfl, _⟩ := id hx
  have HS := hid hS
  have HX := hid hx
  have HT := hid hT
  clear hS hx hT
  cases hl : lightB cs with
  | false =>
    rw [hl] at HL
    clear hl
    go_enter Tryz.func7, Tryz.ntmps7
    go_wp2_with (first
      | (go_at_call 18; refine HL.out.mono ?_; rintro e w1 ⟨rfl, rfl⟩)
      | (go_at_call 10; refine (HA.out _ (Below.refl _ _)).mono ?_; rintro e w9 ⟨rfl, hb9⟩))
    go_ret
    exact ⟨rfl, hb9⟩
  | true =>
    rw [hl] at HL
    have HLB := hid (lightB_bd hl)
    clear hl
    cases hf : fewB x with
    | false =>
      rw [hf] at HF
      clear hf
      go_enter Tryz.func7, Tryz.ntmps7
      go_wp2_with (first
        | (go_at_call 18; refine HL.out.mono ?_; rintro e w1 ⟨rfl, rfl⟩)
        | (go_at_call 12; refine HF.out.mono ?_; rintro e w1 ⟨rfl, rfl⟩)
        | (go_at_call 10; refine (HA.out _ (Below.refl _ _)).mono ?_; rintro e w9 ⟨rfl, hb9⟩))
      go_ret
      exact ⟨rfl, hb9⟩
    | true =>
      rw [hf] at HF
      clear hf
      have HP := hid (steps_any r c cs w HT.out HS.out (by have := HLB.out.1; omega) (fun d hd => Nat.le_trans (HLB.out.2 d hd).1 (by omega)) (Or.inr HLB.out.1))
      have HR := hid (fun (W : World) (hW : Below w.heap.size w W) => rsteps44_any r c cs W (HS.out.below chR_mono hW) (by have := HLB.out.1; omega) (fun d hd => Nat.le_trans (HLB.out.2 d hd).1 (by omega)))
      have HQ1 := hid (fun (v1 : Value) (y : List St) (W : World) (hW : Below w.heap.size w W) (h1 : Sl StR 3 W v1 y) => pcheck44_any r c cs v1 y W (HT.out.below hW) (HS.out.below chR_mono hW) HLB.out.1 (fun d hd => (HLB.out.2 d hd).1) h1)
      have HQ2 := hid (fun (v1 : Value) (y : List St) (W : World) (hW : Below w.heap.size w W) (h1 : Sl StR 3 W v1 y) => rcheck44_any r c cs v1 y W (HS.out.below chR_mono hW) HLB.out.1 (fun d hd => (HLB.out.2 d hd).1) h1)
      unfold StpP at HP HR
      go_enter Tryz.func7, Tryz.ntmps7
      go_wp2_with (first
        | (go_at_call 18; refine HL.out.mono ?_; rintro e w1 ⟨rfl, rfl⟩)
        | (go_at_call 12; refine HF.out.mono ?_; rintro e w1 ⟨rfl, rfl⟩)
        | (go_at_call 11; refine HP.out.mono ?_; rintro e w1 ⟨v1, rfl, hs1, hb1⟩; obtain ⟨r1, c1, rfl, _⟩ := id hs1; have HS1 := hid hs1; have HB1 := hid hb1; clear hs1 hb1)
        | (go_at_call 21
           refine (HR.out _ HB1.out).mono ?_
           rintro e w2 ⟨v2, rfl, hs2, hb2⟩
           obtain ⟨r2, c2, rfl, _⟩ := id hs2
           have HB2 := hid (HB1.out.trans (hb2.mono HB1.out.size))
           have HSA := hid (fun (W : World) (hW : Below w2.heap.size w2 W) => lsame_any (stL cs) (stL cs) _ _ W ((HS1.out.below stR_mono hb2).below stR_mono hW) (hs2.below stR_mono hW))
           rw [decide_eq_true rfl] at HSA
           have HC1 := hid (fun (W : World) (hW : Below w2.heap.size w2 W) => HQ1.out _ (stL cs) W (HB2.out.trans (hW.mono HB2.out.size)) ((HS1.out.below stR_mono hb2).below stR_mono hW))
           rw [chE_own] at HC1
           have HC2 := hid (fun (W : World) (hW : Below w2.heap.size w2 W) => HQ1.out _ x W (HB2.out.trans (hW.mono HB2.out.size)) (HX.out.below stR_mono (HB2.out.trans (hW.mono HB2.out.size))))
           have HC3 := hid (fun (W : World) (hW : Below w2.heap.size w2 W) => HQ2.out _ x W (HB2.out.trans (hW.mono HB2.out.size)) (HX.out.below stR_mono (HB2.out.trans (hW.mono HB2.out.size))))
           have HAW := hid (fun (W : World) (hW : Below w2.heap.size w2 W) => HA.out W (HB2.out.trans (hW.mono HB2.out.size)))
           clear hs2 hb2))
      refine Calls.mono (HSA.out _ (Below.refl _ _)) ?_
      rintro e w3 ⟨rfl, hb3⟩
      have HB3 := hid hb3
      clear hb3
      go_wp2_with fail
      refine Calls.mono (HC1.out _ HB3.out) ?_
      rintro e w4 ⟨rfl, hb4⟩
      have HB4 := hid (HB3.out.trans (hb4.mono HB3.out.size))
      clear hb4
      go_wp2_with fail
      refine Calls.mono (HC2.out _ HB4.out) ?_
      rintro e w5 ⟨rfl, hb5⟩
      have HB5 := hid (HB4.out.trans (hb5.mono HB4.out.size))
      clear hb5
      go_wp2_with fail
      refine Calls.mono (HC3.out _ HB5.out) ?_
      rintro e w6 ⟨rfl, hb6⟩
      have HB6 := hid (HB5.out.trans (hb6.mono HB5.out.size))
      clear hb6
      go_wp2_with fail
      refine Calls.mono (HAW.out _ HB6.out) ?_
      rintro e w7 ⟨rfl, hb7⟩
      have HB7 := hid (HB2.out.trans ((HB6.out.trans (hb7.mono HB6.out.size)).mono HB2.out.size))
      clear hb7
      go_wp2
      go_ret
      exact ⟨rfl, HB7.out⟩
end Go.Proofs.YtpnogmicfomofaaGreatDoor.Stp
