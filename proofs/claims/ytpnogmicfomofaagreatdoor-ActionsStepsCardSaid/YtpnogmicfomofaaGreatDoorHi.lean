import Derived.Test.YtpnogmicfomofaaGreatDoorZq
import Derived.Test.YtpnogmicfomofaaGreatDoorFq
/-
  Layer 44: the program's Steps. Conditions: those ahead of each theorem.
-/
namespace Go.Proofs.YtpnogmicfomofaaGreatDoor.Stp
open Go.RowKit Go.Sort Go.Lib Go.Maps
open Go.Lib (hid)
open Adr (WT)
set_option linter.unusedVariables false
set_option linter.unusedSimpArgs false

attribute [local go_sem] frUpon
attribute [local go_sem ↓] ldC_eq
attribute [local go_sem] ldC_run
attribute [local go_sem ↓] stC_eq
attribute [local go_sem] stC_run there_drew there_new there_past put22_drew put22_new put22_past lies_new rd22_new lies_drew rd22_drew lies_drewN rd22_drewN
/-- The steps of one change after q of its two operations, the first of which is not 0. -/
def pq (k : Nat) (a b : Int) (q : Nat) : List (Nat × Int) := if q = 0 then [] else if q = 1 then [(k, a)] else if b = 0 then [(k, a)] else [(k, a), (k, b)]
theorem pq_two {cs : List Ch} {k : Nat} (hk : k < cs.length) {a b : Int} (ha : opA (cs[k]).act (cs[k]).cf = a) (hb : opB (cs[k]).act (cs[k]).cf = b) (h : a ≠ 0) : plusK cs k = pq k a b 2 := by
  rw [plusK_at hk]
  unfold opl pq
  rw [ha, hb, if_neg h]
  by_cases h0 : b = 0 <;> simp [h0]
theorem plus_nil {cs : List Ch} {k : Nat} (hk : k < cs.length) (ha : opA (cs[k]).act (cs[k]).cf = 0) : plusK cs k = [] := by
  rw [plusK_at hk]
  unfold opl
  rw [ha, opB_of ha]
  rfl
/-- The form of own steps. -/
theorem ownT_form {B : Nat} {w : World} {v : Value} {xs : List (Nat × Int)} (h : OwnT B w v xs) : ∃ r c, v = .slice r xs.length c ∧ xs.length ≤ c ∧ c ≤ maxLen := own_form h
theorem two_idx (a b : Int) (W : World) : (Instr.index 75 (.agg #[.int .i64 a, .int .i64 b]) (.int .i64 0)).run Tryz.prog W = .ok (.int .i64 a) W ∧ (Instr.index 75 (.agg #[.int .i64 a, .int .i64 b]) (.int .i64 1)).run Tryz.prog W = .ok (.int .i64 b) W := by
  obtain ⟨i, hi, h1, h2, h3⟩ := info_parts stepopinfo
  have hc : Tryz.prog.cellsOf 46 = 1 := by kernel_rfl
  constructor <;> simp [Instr.index, hc, run_underlying Tryz.underlying75, run_sizeOf W hi, asIntOf, go_sem]
set_option maxRecDepth 100000 in
set_option maxHeartbeats 40000000 in
theorem steps_any (rc : Option Addr) (cc : Nat) (cs : List Ch) (w : World) (hT : WT w) (hS : Sl ChR 22 w (.slice rc cs.length cc) cs) (hn : cs.length ≤ 900000) (had : ∀ c ∈ cs, c.addr.size ≤ 1000000) (hlim : 2048 < (psF cs).length ∨ cs.length ≤ 60) :
    Calls Tryz.prog 11 #[.slice rc cs.length cc] w (StpP cs w) := by
  obtain ⟨i0, hi, hz0, hz1, hz2⟩ := info_parts strinfo
  obtain ⟨C, hC, hCc, hmk⟩ := make_fact (P := Tryz.prog) Tryz.underlying27 hi hz0 hz1 hz2 rfl cs.length (by omega) (by omega)
  have M0 := hid (MkS.start w rc cc cs.length hCc)
  have HS := hid hS
  have HCH := hid (fun (W : World) (hW : Below w.heap.size w W) => ch_at (hS.below chR_mono hW))
  have HT := hid hT
  have HAD := hid had
  have HLM := hid hlim
  clear hCc hC hi hz0 hz1 hz2 hS hT had hlim
  go_enter Tryz.func11, Tryz.ntmps11
  go_wp2
  clear hmk
  generalize (w.alloc (.cells C 9)).alloc (.cells #[.slice rc cs.length cc, .slice (some ⟨w.heap.size, 0, none⟩) cs.length cs.length, .slice none 0 0] 74) = W0 at *
  have HM0 := hid (show MkS w rc cc cs.length W0 (rsK cs 0) (.slice none 0 0) (psK cs 0) from by
    have h := M0.out
    rw [show rsK cs 0 = fun _ => ByteArray.empty from funext (rsK_zero cs)]
    exact h)
  clear M0
  go_loopg [21] cs.length (fun gg s21 wr => ∃ (k : Nat) (v : Value), k ≤ cs.length ∧ cs.length - k ≤ gg ∧ s21 = .int .i64 k ∧ Hid (MkS w rc cc cs.length wr (rsK cs k) v (psK cs k)) ∧ Hid ((psK cs k).length ≤ 2048))
  case atStart => exact ⟨0, _, by omega, by omega, rfl, HM0, hid (by simp [psK])⟩
  case round =>
    clear HM0
    obtain ⟨k, v, hk, hgg, rfl, HM, HL⟩ := hrel
    by_cases hlt : k < cs.length
    · obtain ⟨cb, coff, x, rfl, hcb, hcell, hx⟩ := HCH.out wr HM.out.bel k hlt
      have HX22 := cells22 x
      obtain ⟨l1, l2⟩ := lies_of HX22 hcell
      have hkk : (0 : Int) ≤ (k : Int) := by omega
      have hkk2 : (k : Int) < (cs.length : Int) := by omega
      have HXS := hid (show x.ad.size ≤ 1000000 by rw [hx.1]; exact HAD.out _ (List.getElem_mem hlt))
      have HRX := hid (fun (W : World) (hW : WT W) => resource_any x W hW HXS.out)
      have HOP := hid (fun W => op_any x W)
      have HRP0 := hid (fun (h : opA x.ac x.cf ≠ 0) => show resB x.ad = rsK cs (k + 1) k by
        rw [rsK_put hlt (by rw [← hx.2.1, ← hx.2.2.1]; exact h), hx.1])
      have HRS0 := hid (fun (h : opA x.ac x.cf = 0) => show rsK cs (k + 1) = rsK cs k from rsK_skip hlt (by rw [← hx.2.1, ← hx.2.2.1]; exact h))
      have HPN := hid (fun (h : opA x.ac x.cf = 0) => show psK cs (k + 1) = psK cs k by
        rw [psK_succ, plus_nil hlt (by rw [← hx.2.1, ← hx.2.2.1]; exact h), List.append_nil])
      have HPT := hid (fun (h : opA x.ac x.cf ≠ 0) => show psK cs (k + 1) = psK cs k ++ pq k (opA x.ac x.cf) (opB x.ac x.cf) 2 by
        rw [psK_succ, pq_two hlt (a := opA x.ac x.cf) (b := opB x.ac x.cf) (by rw [hx.2.1, hx.2.2.1]) (by rw [hx.2.1, hx.2.2.1]) h])
      have HRK := hid (fun j (hj : j ≠ k) => rsK_same cs k j hj)
      have hE := fun W => two_eql (opA x.ac x.cf) (opB x.ac x.cf) 0 0 W
      have HB0 := hid (fun (h : opA x.ac x.cf = 0) => show opB x.ac x.cf = 0 from opB_of h)
      have hsz : x.arr.size = 22 := rfl
      clear hcell hx HXS
      generalize resB x.ad = RS at *
      generalize x.arr = X at *
      generalize opA x.ac x.cf = oa at *
      generalize opB x.ac x.cf = ob at *
      unfold Two at *
      have HM1 := hid (HM.out.below ((Below.refl wr.heap.size wr).alloc (Nat.le_refl _) (.cells X 31)))
      have HX1 := hid (And.intro (lies_new wr X 31 _ rfl HX22) (rd22_new wr X 31 _ rfl HX22))
      by_cases ha : oa = 0
      · subst ha
        have hb := HB0.out rfl
        subst hb
        have HRS1 := hid (HRS0.out rfl)
        have HPN1 := hid (HPN.out rfl)
        clear HRS0 HPN HRP0 HPT HB0
        go_wp2_with (go_at_call 29
                     refine (HOP.out _).mono ?_
                     rintro e w1 ⟨rfl, hb1⟩
                     have HB2 := hid (hb1.trans ((show Below w1.heap.size w1 (w1.alloc (.cells #[.int .i64 0, .int .i64 0] 75)) from (Below.refl _ _).alloc (Nat.le_refl _) _).mono hb1.size))
                     have HM2 := hid (HM1.out.below HB2.out)
                     have HLX := hid (show Lies (wr.alloc (.cells X 31)) wr.heap.size 0 ∧ rd22 (wr.alloc (.cells X 31)) wr.heap.size 0 = X from ⟨of_eq_true HX1.out.1, HX1.out.2⟩)
                     have HLY := hid (show Lies (w1.alloc (.cells #[.int .i64 0, .int .i64 0] 75)) wr.heap.size 0 ∧ rd22 (w1.alloc (.cells #[.int .i64 0, .int .i64 0] 75)) wr.heap.size 0 = X from ⟨(HLX.out.1.below HB2.out).1, (HLX.out.1.below HB2.out).2.trans HLX.out.2⟩)
                     have hb1s : wr.heap.size ≤ w1.heap.size := by have := hb1.size; simp at this; omega
                     clear hb1)
        go_roundg (cs.length - (k + 1))
        case measure => omega
        case rel => exact ⟨k + 1, v, by omega, by omega, by go_num, hid (by rw [HRS1.out, HPN1.out]; exact HM2.out), hid (by rw [HPN1.out]; exact HL.out)⟩
      · have ea : decide (oa = 0) = false := by simp [ha]
        have HRP := hid (HRP0.out ha)
        have HPQ := hid (HPT.out ha)
        have hna := hid ha
        clear ha HRS0 HPN HRP0 HPT HB0
        go_wp2_with (go_at_call 29
                     refine (HOP.out _).mono ?_
                     rintro e w1 ⟨rfl, hb1⟩
                     have HB2 := hid (hb1.trans ((show Below w1.heap.size w1 (w1.alloc (.cells #[.int .i64 oa, .int .i64 ob] 75)) from (Below.refl _ _).alloc (Nat.le_refl _) _).mono hb1.size))
                     have HM2 := hid (HM1.out.below HB2.out)
                     have HLX := hid (show Lies (wr.alloc (.cells X 31)) wr.heap.size 0 ∧ rd22 (wr.alloc (.cells X 31)) wr.heap.size 0 = X from ⟨of_eq_true HX1.out.1, HX1.out.2⟩)
                     have HLY := hid (show Lies (w1.alloc (.cells #[.int .i64 oa, .int .i64 ob] 75)) wr.heap.size 0 ∧ rd22 (w1.alloc (.cells #[.int .i64 oa, .int .i64 ob] 75)) wr.heap.size 0 = X from ⟨(HLX.out.1.below HB2.out).1, (HLX.out.1.below HB2.out).2.trans HLX.out.2⟩)
                     have hb1s : wr.heap.size ≤ w1.heap.size := by have := hb1.size; simp at this; omega
                     clear hb1)
        clear HM1 HX1 HLX l1 l2
        have y7 : (w1.alloc (.cells #[.int .i64 oa, .int .i64 ob] 75)).cell? ⟨w1.heap.size, 0, none⟩ = some (.int .i64 oa) := cell_at rfl rfl
        have y8 : (w1.alloc (.cells #[.int .i64 oa, .int .i64 ob] 75)).cell? ⟨w1.heap.size, 1, none⟩ = some (.int .i64 ob) := cell_at rfl rfl
        have HY := hid (And.intro y7 y8)
        have hw8 : w1.heap.size < (w1.alloc (.cells #[.int .i64 oa, .int .i64 ob] 75)).heap.size := by simp
        clear HB2 y7 y8
        have HS1 := hid (show w.heap.size + 2 ≤ w1.heap.size by have := HM.out.sz; have := hb1s; omega)
        clear HM hb1s
        generalize w1.heap.size = S1 at *
        generalize w1.alloc (.cells #[.int .i64 oa, .int .i64 ob] 75) = W2 at *
        have mc1 := fun d os => cell_regrown HM2.out.c1 d os
        have hml : w.heap.size + 2 ≤ W2.heap.size := HM2.out.sz
        have HLD := hid (fun (W : World) (hW : Below W2.heap.size W2 W) => show Lies W wr.heap.size 0 ∧ rd22 W wr.heap.size 0 = X from ⟨(HLY.out.1.below hW).1, (HLY.out.1.below hW).2.trans HLY.out.2⟩)
        have HRS := hid (fun (W : World) (hW : Below W2.heap.size W2 W) => HRX.out W (HT.out.below (HM2.out.bel.trans (hW.mono HM2.out.bel.size))))
        generalize wr.heap.size = XB at *
        refine wp_region_last9 (fun k => match k with | 5 => some (sVal (.agg X)) | 6 => some (sVal (.string RS)) | _ => none) (by kernel_rfl) (by kernel_rfl) (by kernel_rfl) ?_
        (refine wpF_quiet (grw_ex _) (by kernel_rfl) rfl (noEnter_op (by rfl)) ?_; intro K hK; go_big_quiet_op; go_big_quiet_on)
        (refine wpF_quiet (grw_ex _) (by kernel_rfl) rfl (by intro w f args w'; go_simp) ?_; intro K hK; go_big_quiet_op; go_big_quiet_on)
        (refine wpF_quiet (grw_ex _) (by kernel_rfl) rfl (noEnter_op (by rfl)) ?_; intro K hK; go_big_quiet_op; go_big_quiet_on)
        (refine wpF_quiet (grw_ex _) (by kernel_rfl) rfl (noEnter_op (by rfl)) ?_; intro K hK; go_big_quiet_op; go_big_quiet_on)
        (refine wpF_quiet (grw_ex _) (by kernel_rfl) rfl (noEnter_op (by rfl)) ?_; intro K hK; go_big_quiet_op; go_big_quiet_on)
        refine wpF_told (sVal (.agg X)) (by kernel_rfl) rfl ⟨_, rfl⟩ stTrue (fun w4 hw4 hE4 => ?_) ?_
        · have hb4 := grw_below hw4
          obtain ⟨l1, l2⟩ := HLD.out w4 hb4
          clear hw4 hE4 hb4
          go_simp
          exact ⟨Lat.refl _, rfl, trivial⟩
        rintro _ rfl
        (refine wpF_put ?_; intro K hK; go_simp; refine hK _ ?_; clear hK K)
        refine wpF_told (sVal (.string RS)) (by kernel_rfl) rfl ⟨_, rfl⟩ stTrue (fun w4 hw4 hE4 => ?_) ?_
        · have hb4 := grw_below hw4
          have hh := HRS.out w4 hb4
          clear hw4 hE4 hb4
          go_simp
          go_at_call 30
          refine Calls.mono hh ?_
          rintro e w5 ⟨rfl, hb5⟩
          exact ⟨_, rfl, hb5, rfl, trivial⟩
        rintro _ rfl
        (refine wpF_put ?_; intro K hK; go_simp; refine hK _ ?_; clear hK K)
        (refine wpF_quiet (grw_ex _) (by kernel_rfl) rfl (noEnter_op (by rfl)) ?_; intro K hK; go_big_quiet_op; go_big_quiet_on)
        refine wpF_nil ?_
        intro w6 hw6 hE6
        have hb6 := grw_below hw6
        clear hw6 hE6
        have HM6 := hid (HM2.out.below hb6)
        have m0 := HM6.out.rs k hlt
        have m1 := HM6.out.fr k
        go_simp
        have HM7 := hid (HM6.out.res hlt (fun j hj => HRK.out j hj) HRP.out)
        have HB6 := hid hb6
        clear hb6 m0 m1 HM6
        have HMP := hid (show MkS w (some ⟨cb, coff, none⟩) cc cs.length (w6.setCell ⟨w.heap.size, k, none⟩ (.string RS)) (rsK cs (k + 1)) v (psK cs k ++ pq k oa ob 0) by
          rw [show pq k oa ob 0 = [] from rfl, List.append_nil]
          exact HM7.out)
        have b70 := bget HB6.out HY.out.1
        have b71 := bget HB6.out HY.out.2
        have hsz6 := HB6.out.size
        have hS1 := HS1.out
        have yy0 := grown_cell (grown_set w6 ⟨w.heap.size, k, none⟩ (.string RS)) (by omega) (fun q hq => by cases hq; show w.heap.size ≠ S1; omega) b70
        have yy1 := grown_cell (grown_set w6 ⟨w.heap.size, k, none⟩ (.string RS)) (by omega) (fun q hq => by cases hq; show w.heap.size ≠ S1; omega) b71
        clear HM7 b70 b71 hsz6 hS1
        generalize w6.setCell ⟨w.heap.size, k, none⟩ (.string RS) = W6 at *
        go_wp2_with fail
        clear yy0 yy1
        have hti := fun W => (two_idx oa ob W).1
        have htj := fun W => (two_idx oa ob W).2
        go_loopg [40] 2 (fun gg s40 wr => ∃ (q : Nat) (v' : Value), q ≤ 2 ∧ 2 - q ≤ gg ∧ s40 = .int .i64 q ∧ Hid (MkS w (some ⟨cb, coff, none⟩) cc cs.length wr (rsK cs (k + 1)) v' (psK cs k ++ pq k oa ob q)))
        case atStart => exact ⟨0, v, by omega, by omega, rfl, HMP⟩
        case round =>
          clear HMP
          obtain ⟨q, v', hq, hgq, rfl, HJ⟩ := hrel
          obtain ⟨ro, co, hv', ho1, ho2⟩ := ownT_form HJ.out.own
          subst hv'
          have hc2 := HJ.out.c2
          have hf2 := HJ.out.f2
          by_cases hq2 : q < 2
          · rcases (show q = 0 ∨ q = 1 by omega) with rfl | rfl
            · have ea2 : (oa != 0) = true := by simp [hna.out]
              have HPL := hid (show (psK cs k ++ pq k oa ob 0).length + 1 ≤ 1000000 by have := HL.out; rw [show pq k oa ob 0 = [] from rfl, List.append_nil]; omega)
              have HQ1 := hid (show psK cs k ++ pq k oa ob 1 = psK cs k ++ pq k oa ob 0 ++ [(k, oa)] by rw [show pq k oa ob 0 = [] from rfl, List.append_nil]; rfl)
              generalize psK cs k ++ pq k oa ob 0 = PS at *
              have HBA := hid (show Below wr.heap.size wr (wr.alloc (.cells #[.int .i64 (k : Int), .int .i64 oa, .slice none 0 0] 48)) from (Below.refl _ _).alloc (Nat.le_refl _) _)
              have HO6 := hid (show OwnT (w.heap.size + 2) (wr.alloc (.cells #[.int .i64 (k : Int), .int .i64 oa, .slice none 0 0] 48)) (.slice ro PS.length co) PS from kept_off HJ.out.own (grown_below HBA.out) (fun _ _ e => by cases e))
              have HZ6 := hid (show w.heap.size + 2 ≤ (wr.alloc (.cells #[.int .i64 (k : Int), .int .i64 oa, .slice none 0 0] 48)).heap.size from Nat.le_trans HJ.out.sz HBA.out.size)
              go_wp2_with (at_builtin
                           refine app_t rfl _ _ rfl (w.heap.size + 2) (.slice ro PS.length co) PS rfl HO6.out wr.heap.size 1 (k, oa) rfl (fr := (0, 0)) (by exact (MapKept.heap_alloc wr _).1) HPL.out HZ6.out (wr.heap.size + 1) (by simp) ?_
                           intro g cap w8 hm8
                           have HM8 := hid (HJ.out.app HBA.out rfl hm8)
                           obtain ⟨⟨u1, u2⟩, _⟩ := HM8.out
                           clear hm8)
              go_roundg (2 - 1)
              case measure => omega
              case rel => exact ⟨1, _, by omega, by omega, by go_num, hid (by rw [HQ1.out]; exact HM8.out.2)⟩
            · by_cases hb0 : ob = 0
              · have HQ2 := hid (show psK cs k ++ pq k oa ob 2 = psK cs k ++ pq k oa ob 1 by rw [hb0]; rfl)
                have eb0 : (ob != 0) = false := by simp [hb0]
                clear hb0
                go_wp2
                go_roundg (2 - 2)
                case measure => omega
                case rel => exact ⟨2, _, by omega, by omega, by go_num, hid (by rw [HQ2.out]; exact HJ.out)⟩
              · have eb2 : (ob != 0) = true := by simp [hb0]
                have HPL := hid (show (psK cs k ++ pq k oa ob 1).length + 1 ≤ 1000000 by have := HL.out; rw [show pq k oa ob 1 = [(k, oa)] from rfl, List.length_append, List.length_singleton]; omega)
                have HQ1 := hid (show psK cs k ++ pq k oa ob 2 = psK cs k ++ pq k oa ob 1 ++ [(k, ob)] by rw [show pq k oa ob 1 = [(k, oa)] from rfl, show pq k oa ob 2 = [(k, oa), (k, ob)] from by unfold pq; simp [hb0], List.append_assoc]; rfl)
                clear hb0
                generalize psK cs k ++ pq k oa ob 1 = PS at *
                have HBA := hid (show Below wr.heap.size wr (wr.alloc (.cells #[.int .i64 (k : Int), .int .i64 ob, .slice none 0 0] 48)) from (Below.refl _ _).alloc (Nat.le_refl _) _)
                have HO6 := hid (show OwnT (w.heap.size + 2) (wr.alloc (.cells #[.int .i64 (k : Int), .int .i64 ob, .slice none 0 0] 48)) (.slice ro PS.length co) PS from kept_off HJ.out.own (grown_below HBA.out) (fun _ _ e => by cases e))
                have HZ6 := hid (show w.heap.size + 2 ≤ (wr.alloc (.cells #[.int .i64 (k : Int), .int .i64 ob, .slice none 0 0] 48)).heap.size from Nat.le_trans HJ.out.sz HBA.out.size)
                go_wp2_with (at_builtin
                             refine app_t rfl _ _ rfl (w.heap.size + 2) (.slice ro PS.length co) PS rfl HO6.out wr.heap.size 1 (k, ob) rfl (fr := (0, 0)) (by exact (MapKept.heap_alloc wr _).1) HPL.out HZ6.out (wr.heap.size + 1) (by simp) ?_
                             intro g cap w8 hm8
                             have HM8 := hid (HJ.out.app HBA.out rfl hm8)
                             obtain ⟨⟨u1, u2⟩, _⟩ := HM8.out
                             clear hm8)
                go_roundg (2 - 2)
                case measure => omega
                case rel => exact ⟨2, _, by omega, by omega, by go_num, hid (by rw [HQ1.out]; exact HM8.out.2)⟩
          · obtain rfl : q = 2 := by omega
            rw [← HPQ.out] at HJ hc2
            clear hq2 hf2 ho1
            by_cases hlm : 2048 < (psK cs (k + 1)).length
            · have HSE := hid (show stE cs = 14 by unfold stE; rw [if_pos (show 2048 < (psF cs).length from Nat.lt_of_lt_of_le hlm (psK_mono cs (show k + 1 ≤ cs.length by omega)))])
              have hlm2 : (2048 : Int) < ((psK cs (k + 1)).length : Int) := by omega
              go_wp2
              go_ret2
              exact ⟨.slice none 0 0, ret_pair HSE.out, by rw [show stL cs = [] by unfold stL; rw [HSE.out, if_neg (by decide)]]; exact ⟨none, 0, rfl, Nat.le_refl _, by unfold maxLen; omega, fun i hi => by simp at hi⟩, HJ.out.bel⟩
            · have hlm2 : ¬ (2048 : Int) < ((psK cs (k + 1)).length : Int) := by omega
              have HL2 := hid (show (psK cs (k + 1)).length ≤ 2048 by omega)
              clear hlm
              go_wp2
              go_roundg (cs.length - (k + 1))
              case measure => omega
              case rel => exact ⟨k + 1, _, by omega, by omega, by go_num, HJ, HL2⟩
    · obtain rfl : k = cs.length := by omega
      obtain ⟨g, rs, cp, hv, hN⟩ := HM.out.next (ndF cs)
      subst hv
      have hlm := HLM.out
      have hl2 := HL.out
      rw [show psK cs cs.length = psF cs from rfl] at hN hl2 HM
      have HSE := hid (show stE cs = ordR (stF cs) by unfold stE; rw [if_neg (by omega)])
      have h60 : cs.length ≤ 60 := by omega
      have HF := hid (esN_few cs h60)
      have H60 := hid h60
      have HNN := hid hN
      have hc2 := HM.out.c2
      clear hlm hN HLM HAD hlt HL
      go_wp2
      clear HM hc2
      generalize wr.heap.size = G at *
      go_loopg [70] (psF cs).length (fun gg s70 wr => ∃ (j : Nat) (vs : Nat → SV), j ≤ (psF cs).length ∧ (psF cs).length - j ≤ gg ∧ s70 = .int .i64 j ∧ Hid (MkN w rc cc cs.length G g wr (rsK cs cs.length) rs cp (psF cs) vs (ndF cs) j))
      case atStart => exact ⟨0, _, by omega, by omega, rfl, HNN⟩
      case round =>
        clear HNN
        obtain ⟨j, vs, hj, hgj, rfl, HN⟩ := hrel
        by_cases hjl : j < (psF cs).length
        · have HND := hid (fun (W : World) (hW : Below wr.heap.size wr W) => needs_any (w.heap.size + 1) w.heap.size rc cc cs (rsK cs cs.length) rs cp (psF cs) j W ((HN.out.below hW).mkp HS.out) (HN.out.below hW).c2 (HN.out.below hW).stp (fun p hp => (psK_lt cs cs.length p hp).2) hjl (by have := H60.out; omega) (by omega))
          rw [show ndK cs (rsK cs cs.length) (psF cs) (psF cs)[j] (psF cs).length = ndF cs j by unfold ndF; rw [List.getD_eq_getElem?_getD, List.getElem?_eq_getElem hjl]; rfl] at HND
          have hrg := (HN.out.rsg (by omega)).1
          subst hrg
          have hgl : g < wr.heap.size := by have := (HN.out.rsg (by omega)).2.2; have := HN.out.sz; omega
          have hmb : w.heap.size + 1 < wr.heap.size := by have := HN.out.sz; have := HN.out.gs; omega
          have hc2 := HN.out.c2
          have hjj : (0 : Int) ≤ (j : Int) := by omega
          have hjj2 : (j : Int) < ((psF cs).length : Int) := by omega
          go_wp2_with fail
          have hc3 := fun d os => cell_regrown hc2 d os
          obtain ⟨W3, rfl⟩ : ∃ W3 : World, W3 = wr := ⟨_, rfl⟩
          refine wp_region_last11 (fun k => match k with | 7 => some (sOwn W3.heap.size ((ndF cs j).map Nat.cast)) | _ => none) (by kernel_rfl) (by kernel_rfl) (by kernel_rfl) ?_
          (refine wpF_quiet (grw_ex _) (by kernel_rfl) rfl (noEnter_op (by rfl)) ?_; intro K hK; go_big_quiet_op; go_big_quiet_on)
          (refine wpF_quiet (grw_ex _) (by kernel_rfl) rfl (by intro w f args w'; go_simp) ?_; intro K hK; go_big_quiet_op; go_big_quiet_on)
          (refine wpF_quiet (grw_ex _) (by kernel_rfl) rfl (noEnter_op (by rfl)) ?_; intro K hK; go_big_quiet_op; go_big_quiet_on)
          (refine wpF_quiet (grw_ex _) (by kernel_rfl) rfl (noEnter_op (by rfl)) ?_; intro K hK; go_big_quiet_op; go_big_quiet_on)
          (refine wpF_quiet (grw_ex _) (by kernel_rfl) rfl (noEnter_op (by rfl)) ?_; intro K hK; go_big_quiet_op; go_big_quiet_on)
          (refine wpF_quiet (grw_ex _) (by kernel_rfl) rfl (noEnter_op (by rfl)) ?_; intro K hK; go_big_quiet_op; go_big_quiet_on)
          (refine wpF_quiet (grw_ex _) (by kernel_rfl) rfl (noEnter_op (by rfl)) ?_; intro K hK; go_big_quiet_op; go_big_quiet_on)
          refine wpF_told (sOwn W3.heap.size ((ndF cs j).map Nat.cast)) (by kernel_rfl) rfl ⟨.slice none (ndF cs j).length 0, none, 0, by rw [List.length_map]⟩ (stOwn _ _) (fun w4 hw4 hE4 => ?_) ?_
          · have hb4 := grw_below hw4
            have hh := HND.out w4 hb4
            have hz := hb4.size
            clear hw4 hE4
            go_simp
            go_at_call 31
            refine Calls.mono hh ?_
            rintro e w5 ⟨v5, rfl, ho5, hb5⟩
            obtain ⟨r5, c5, e5, _⟩ := ho5.form
            exact ⟨_, rfl, hb5, ⟨r5, c5, e5⟩, ⟨Adr.row_le ho5.1 hz, ho5.2⟩⟩
          rintro _ ⟨r7, c7, rfl⟩
          (refine wpF_put ?_; intro K hK; go_simp; refine hK _ ?_; clear hK K)
          (refine wpF_quiet (grw_ex _) (by kernel_rfl) rfl (noEnter_op (by rfl)) ?_; intro K hK; go_big_quiet_op; go_big_quiet_on)
          (refine wpF_quiet (grw_ex _) (by kernel_rfl) rfl (noEnter_op (by rfl)) ?_; intro K hK; go_big_quiet_op; go_big_quiet_on)
          refine wpF_nil ?_
          intro w6 hw6 hE6
          have hb6 := grw_below hw6
          have ho6 : OwnI W3.heap.size w6 (.slice r7 ((ndF cs j).map Nat.cast).length c7) ((ndF cs j).map Nat.cast) := hE6 7
          clear hw6 hE6
          obtain ⟨_, _, q3, q4⟩ := (HN.out.below hb6).el j hjl
          rw [List.length_map] at ho6
          have HP := hid (HN.out.put hb6 hjl (sv := ⟨r7, (ndF cs j).length, c7⟩) ho6)
          go_simp
          go_wp2
          go_roundg ((psF cs).length - (j + 1))
          case measure => omega
          case rel => exact ⟨j + 1, _, by omega, by omega, by go_num, HP⟩
        · obtain rfl : j = (psF cs).length := by omega
          have HFI := hid (HN.out.fin (fun p hp => ⟨by have := (psK_lt cs cs.length p hp).2; have := H60.out; omega, psK_ib cs cs.length p hp⟩) (stF cs) (stF_len cs) (fun j hj hj' => stF_at cs j hj hj'))
          have hc2 := HN.out.c2
          have hmb : w.heap.size + 1 < wr.heap.size := by have := HN.out.sz; have := HN.out.gs; omega
          have HOR := hid (porder_any _ (stF cs) wr HFI.out HF.out.1 HF.out.2)
          unfold OrdPN at HOR
          by_cases hE : ordR (stF cs) = 0
          · have HSL := hid (show stL cs = stF cs by unfold stL; rw [HSE.out, if_pos hE])
            have HS0 := hid (show stE cs = 0 by rw [HSE.out, hE])
            rw [hE] at HOR
            clear hE HSE
            go_wp2_with (go_at_call 13
                         refine HOR.out.mono ?_
                         rintro e w7 ⟨v7, rfl, hs7, hb7⟩
                         have hd2 := bget hb7 hc2
                         have HB7 := hid hb7
                         clear hs7 hb7)
            go_ret2
            exact ⟨_, ret_pair HS0.out, by rw [HSL.out]; exact HFI.out.below stR_mono HB7.out, HN.out.bel.trans (HB7.out.mono HN.out.bel.size)⟩
          · have HSL := hid (show stL cs = [] by unfold stL; rw [HSE.out, if_neg hE])
            have eE : (ordR (stF cs) != 0) = true := by simp [hE]
            clear hE
            generalize ordR (stF cs) = E at *
            go_wp2_with (go_at_call 13
                         refine HOR.out.mono ?_
                         rintro e w7 ⟨v7, rfl, hs7, hb7⟩
                         have HB7 := hid hb7
                         clear hs7 hb7)
            go_ret2
            exact ⟨.slice none 0 0, ret_pair HSE.out, by rw [HSL.out]; exact ⟨none, 0, rfl, Nat.le_refl _, by unfold maxLen; omega, fun i hi => by simp at hi⟩, HN.out.bel.trans (HB7.out.mono HN.out.bel.size)⟩
end Go.Proofs.YtpnogmicfomofaaGreatDoor.Stp
