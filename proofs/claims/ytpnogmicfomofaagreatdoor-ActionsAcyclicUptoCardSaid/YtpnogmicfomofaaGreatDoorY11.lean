import Derived.Test.YtpnogmicfomofaaGreatDoorY10
import Derived.Test.YtpnogmicfomofaaGreatDoorY2
import Derived.Great.BuildSlice
import Derived.Test.YtpnogmicfomofaaGreatDoorY1
set_option linter.unusedVariables false
set_option linter.unusedSimpArgs false
namespace Go.Proofs.YtpnogmicfomofaaGreatDoor.Stp
open Go.RowKit Go.Sort Go.Lib Go.Maps
open Go.Lib (hid)
open Adr (WT)
attribute [local go_sem] frUpon
attribute [local go_sem ↓] ldC_eq
attribute [local go_sem] ldC_run
attribute [local go_sem ↓] stC_eq
attribute [local go_sem] stC_run there_drew there_new there_past put22_drew put22_new put22_past lies_new rd22_new lies_drew rd22_drew lies_drewN rd22_drewN
def pq (k : Nat) (a b : Int) (q : Nat) : List (Nat × Int) := if q = 0 then [] else if q = 1 then [(k, a)] else if b = 0 then [(k, a)] else [(k, a), (k, b)]
theorem pq_two {cs : List Ch} {k : Nat} (hk : k < cs.length) {a b : Int} (ha : opA (cs[k]).act (cs[k]).cf = a) (hb : opB (cs[k]).act (cs[k]).cf = b) (h : a ≠ 0) : plusK cs k = pq k a b 2 := by
 rw [plusK_at hk];unfold opl pq;rw [ha, hb, if_neg h]
 by_cases h0 : b = 0 <;> simp [h0]
theorem plus_nil {cs : List Ch} {k : Nat} (hk : k < cs.length) (ha : opA (cs[k]).act (cs[k]).cf = 0) : plusK cs k = [] := by
 rw [plusK_at hk];unfold opl;rw [ha, opB_of ha];rfl
theorem ownT_form {B : Nat} {w : World} {v : Value} {xs : List (Nat × Int)} (h : OwnT B w v xs) : ∃ r c, v = .slice r xs.length c /\ xs.length <= c /\ c <= maxLen := own_form h
theorem two_idx (a b : Int) (W : World) : (Instr.index 75 (.agg #[.int .i64 a, .int .i64 b]) (.int .i64 0)).run Tryz.prog W = .ok (.int .i64 a) W /\ (Instr.index 75 (.agg #[.int .i64 a, .int .i64 b]) (.int .i64 1)).run Tryz.prog W = .ok (.int .i64 b) W := by
 obtain ⟨i, hi, h1, h2, h3⟩ := info_parts stepopinfo;have hc : Tryz.prog.cellsOf 46 = 1 := by kernel_rfl
 constructor <;> simp [Instr.index, hc, run_underlying Tryz.underlying75, run_sizeOf W hi, asIntOf, go_sem]
set_option maxRecDepth 100000 in
set_option maxHeartbeats 40000000 in
theorem steps_any (rc : Option Addr) (cc : Nat) (cs : List Ch) (w : World) (hT : WT w) (hS : Sl ChR 22 w (.slice rc cs.length cc) cs) (hn : cs.length <= 900000) (had : ∀ c ∈ cs, c.addr.size <= 1000000) (hlim : 2048 < (psF cs).length ∨ cs.length <= 60) :
  Calls Tryz.prog 11 #[.slice rc cs.length cc] w (StpP cs w) := by
 obtain ⟨i0, hi, hz0, hz1, hz2⟩ := info_parts strinfo;obtain ⟨C, hC, hCc, hmk⟩ := make_fact (P := Tryz.prog) Tryz.underlying27 hi hz0 hz1 hz2 rfl cs.length (by omega) (by omega);have M0 := hid (MkS.start w rc cc cs.length hCc);have HS := hid hS;have HCH := hid (fun (W : World) (hW : Below w.heap.size w W) => ch_at (hS.below chR_mono hW));have HT := hid hT;have HAD := hid had;have HLM := hid hlim;clear hCc hC hi hz0 hz1 hz2 hS hT had hlim;go_enter Tryz.func11, Tryz.ntmps11;go_wp2
 clear hmk;generalize (w.alloc (.cells C 9)).alloc (.cells #[.slice rc cs.length cc, .slice (some ⟨w.heap.size, 0, none⟩) cs.length cs.length, .slice none 0 0] 74) = W0 at *
 have HM0 := hid (show MkS w rc cc cs.length W0 (rsK cs 0) (.slice none 0 0) (psK cs 0) from by
  have h := M0.out;rw [show rsK cs 0 = fun _ => ByteArray.empty from funext (rsK_zero cs)];exact h)
 clear M0;go_loopg [21] cs.length (fun gg s21 wr => ∃ (k : Nat) (v : Value), k <= cs.length /\ cs.length - k <= gg /\ s21 = .int .i64 k /\ Hid (MkS w rc cc cs.length wr (rsK cs k) v (psK cs k)) /\ Hid ((psK cs k).length <= 2048))
 case atStart => exact ⟨0, _, by omega, by omega, rfl, HM0, hid (by simp [psK])⟩
 case round =>
  clear HM0;obtain ⟨k, v, hk, hgg, rfl, HM, HL⟩ := hrel
  by_cases hlt : k < cs.length
  . obtain ⟨cb, coff, x, rfl, hcb, hcell, hx⟩ := HCH.out wr HM.out.bel k hlt
    have HX22 := cells22 x;obtain ⟨l1, l2⟩ := lies_of HX22 hcell;have hkk : (0 : Int) <= (k : Int) := by omega
    have hkk2 : (k : Int) < (cs.length : Int) := by omega
    have HXS := hid (show x.ad.size <= 1000000 by rw [hx.1]; exact HAD.out _ (List.getElem_mem hlt));have HRX := hid (fun (W : World) (hW : WT W) => resource_any x W hW HXS.out);have HOP := hid (fun W => op_any x W)
    have HRP0 := hid (fun (h : opA x.ac x.cf ≠ 0) => show resB x.ad = rsK cs (k + 1) k by
     rw [rsK_put hlt (by rw [<- hx.2.1, <- hx.2.2.1]; exact h), hx.1])
    have HRS0 := hid (fun (h : opA x.ac x.cf = 0) => show rsK cs (k + 1) = rsK cs k from rsK_skip hlt (by rw [<- hx.2.1, <- hx.2.2.1]; exact h))
    have HPN := hid (fun (h : opA x.ac x.cf = 0) => show psK cs (k + 1) = psK cs k by
     rw [psK_succ, plus_nil hlt (by rw [<- hx.2.1, <- hx.2.2.1]; exact h), List.append_nil])
    have HPT := hid (fun (h : opA x.ac x.cf ≠ 0) => show psK cs (k + 1) = psK cs k ++ pq k (opA x.ac x.cf) (opB x.ac x.cf) 2 by
     rw [psK_succ, pq_two hlt (a := opA x.ac x.cf) (b := opB x.ac x.cf) (by rw [hx.2.1, hx.2.2.1]) (by rw [hx.2.1, hx.2.2.1]) h])
    have HRK := hid (fun j (hj : j ≠ k) => rsK_same cs k j hj);have hE := fun W => two_eql (opA x.ac x.cf) (opB x.ac x.cf) 0 0 W;have HB0 := hid (fun (h : opA x.ac x.cf = 0) => show opB x.ac x.cf = 0 from opB_of h);have hsz : x.arr.size = 22 := rfl;clear hcell hx HXS;generalize resB x.ad = RS at *;generalize x.arr = X at *;generalize opA x.ac x.cf = oa at *;generalize opB x.ac x.cf = ob at *;unfold Two at *;have HM1 := hid (HM.out.below ((Below.refl wr.heap.size wr).alloc (Nat.le_refl _) (.cells X 31)));have HX1 := hid (And.intro (lies_new wr X 31 _ rfl HX22) (rd22_new wr X 31 _ rfl HX22))
    by_cases ha : oa = 0
    . subst ha
      have hb := HB0.out rfl;subst hb;have HRS1 := hid (HRS0.out rfl);have HPN1 := hid (HPN.out rfl);clear HRS0 HPN HRP0 HPT HB0
      go_wp2_with (go_at_call 29
                   refine (HOP.out _).mono ?_;rintro e w1 ⟨rfl, hb1⟩;have HB2 := hid (hb1.trans ((show Below w1.heap.size w1 (w1.alloc (.cells #[.int .i64 0, .int .i64 0] 75)) from (Below.refl _ _).alloc (Nat.le_refl _) _).mono hb1.size));have HM2 := hid (HM1.out.below HB2.out);have HLX := hid (show Lies (wr.alloc (.cells X 31)) wr.heap.size 0 /\ rd22 (wr.alloc (.cells X 31)) wr.heap.size 0 = X from ⟨of_eq_true HX1.out.1, HX1.out.2⟩);have HLY := hid (show Lies (w1.alloc (.cells #[.int .i64 0, .int .i64 0] 75)) wr.heap.size 0 /\ rd22 (w1.alloc (.cells #[.int .i64 0, .int .i64 0] 75)) wr.heap.size 0 = X from ⟨(HLX.out.1.below HB2.out).1, (HLX.out.1.below HB2.out).2.trans HLX.out.2⟩);have hb1s : wr.heap.size <= w1.heap.size := by have := hb1.size; simp at this; omega
                   clear hb1)
      go_roundg (cs.length - (k + 1))
      case measure => omega
      case rel => exact ⟨k + 1, v, by omega, by omega, by go_num, hid (by rw [HRS1.out, HPN1.out]; exact HM2.out), hid (by rw [HPN1.out]; exact HL.out)⟩
    . have ea : decide (oa = 0) = false := by simp [ha]
      have HRP := hid (HRP0.out ha);have HPQ := hid (HPT.out ha);have hna := hid ha;clear ha HRS0 HPN HRP0 HPT HB0
      go_wp2_with (go_at_call 29
                   refine (HOP.out _).mono ?_;rintro e w1 ⟨rfl, hb1⟩;have HB2 := hid (hb1.trans ((show Below w1.heap.size w1 (w1.alloc (.cells #[.int .i64 oa, .int .i64 ob] 75)) from (Below.refl _ _).alloc (Nat.le_refl _) _).mono hb1.size));have HM2 := hid (HM1.out.below HB2.out);have HLX := hid (show Lies (wr.alloc (.cells X 31)) wr.heap.size 0 /\ rd22 (wr.alloc (.cells X 31)) wr.heap.size 0 = X from ⟨of_eq_true HX1.out.1, HX1.out.2⟩);have HLY := hid (show Lies (w1.alloc (.cells #[.int .i64 oa, .int .i64 ob] 75)) wr.heap.size 0 /\ rd22 (w1.alloc (.cells #[.int .i64 oa, .int .i64 ob] 75)) wr.heap.size 0 = X from ⟨(HLX.out.1.below HB2.out).1, (HLX.out.1.below HB2.out).2.trans HLX.out.2⟩);have hb1s : wr.heap.size <= w1.heap.size := by have := hb1.size; simp at this; omega
                   clear hb1)
      clear HM1 HX1 HLX l1 l2;have y7 : (w1.alloc (.cells #[.int .i64 oa, .int .i64 ob] 75)).cell? ⟨w1.heap.size, 0, none⟩ = some (.int .i64 oa) := cell_at rfl rfl;have y8 : (w1.alloc (.cells #[.int .i64 oa, .int .i64 ob] 75)).cell? ⟨w1.heap.size, 1, none⟩ = some (.int .i64 ob) := cell_at rfl rfl;have HY := hid (And.intro y7 y8);have hw8 : w1.heap.size < (w1.alloc (.cells #[.int .i64 oa, .int .i64 ob] 75)).heap.size := by simp
      clear HB2 y7 y8;have HS1 := hid (show w.heap.size + 2 <= w1.heap.size by have := HM.out.sz; have := hb1s; omega);clear HM hb1s;generalize w1.heap.size = S1 at *;generalize w1.alloc (.cells #[.int .i64 oa, .int .i64 ob] 75) = W2 at *;have mc1 := fun d os => cell_regrown HM2.out.c1 d os;have hml : w.heap.size + 2 <= W2.heap.size := HM2.out.sz;have HLD := hid (fun (W : World) (hW : Below W2.heap.size W2 W) => show Lies W wr.heap.size 0 /\ rd22 W wr.heap.size 0 = X from ⟨(HLY.out.1.below hW).1, (HLY.out.1.below hW).2.trans HLY.out.2⟩);have HRS := hid (fun (W : World) (hW : Below W2.heap.size W2 W) => HRX.out W (HT.out.below (HM2.out.bel.trans (hW.mono HM2.out.bel.size))));generalize wr.heap.size = XB at *;refine wp_region_last9 (fun k => match k with | 5 => some (sVal (.agg X)) | 6 => some (sVal (.string RS)) | _ => none) (by kernel_rfl) (by kernel_rfl) (by kernel_rfl) ?_
      (refine wpF_quiet (grw_ex _) (by kernel_rfl) rfl (noEnter_op (by rfl)) ?_; intro K hK; go_big_quiet_op; go_big_quiet_on)
      (refine wpF_quiet (grw_ex _) (by kernel_rfl) rfl (by intro w f args w'; go_simp) ?_; intro K hK; go_big_quiet_op; go_big_quiet_on)
      (refine wpF_quiet (grw_ex _) (by kernel_rfl) rfl (noEnter_op (by rfl)) ?_; intro K hK; go_big_quiet_op; go_big_quiet_on)
      (refine wpF_quiet (grw_ex _) (by kernel_rfl) rfl (noEnter_op (by rfl)) ?_; intro K hK; go_big_quiet_op; go_big_quiet_on)
      (refine wpF_quiet (grw_ex _) (by kernel_rfl) rfl (noEnter_op (by rfl)) ?_; intro K hK; go_big_quiet_op; go_big_quiet_on)
      refine wpF_told (sVal (.agg X)) (by kernel_rfl) rfl ⟨_, rfl⟩ stTrue (fun w4 hw4 hE4 => ?_) ?_
      . have hb4 := grw_below hw4
        obtain ⟨l1, l2⟩ := HLD.out w4 hb4;clear hw4 hE4 hb4;go_simp
        exact ⟨Lat.refl _, rfl, trivial⟩
      rintro _ rfl
      (refine wpF_put ?_; intro K hK; go_simp; refine hK _ ?_; clear hK K)
      refine wpF_told (sVal (.string RS)) (by kernel_rfl) rfl ⟨_, rfl⟩ stTrue (fun w4 hw4 hE4 => ?_) ?_
      . have hb4 := grw_below hw4
        have hh := HRS.out w4 hb4;clear hw4 hE4 hb4;go_simp
        go_at_call 30;refine Calls.mono hh ?_;rintro e w5 ⟨rfl, hb5⟩;exact ⟨_, rfl, hb5, rfl, trivial⟩
      rintro _ rfl
      (refine wpF_put ?_; intro K hK; go_simp; refine hK _ ?_; clear hK K)
      (refine wpF_quiet (grw_ex _) (by kernel_rfl) rfl (noEnter_op (by rfl)) ?_; intro K hK; go_big_quiet_op; go_big_quiet_on)
      refine wpF_nil ?_;intro w6 hw6 hE6;have hb6 := grw_below hw6;clear hw6 hE6;have HM6 := hid (HM2.out.below hb6);have m0 := HM6.out.rs k hlt;have m1 := HM6.out.fr k;go_simp
      have HM7 := hid (HM6.out.res hlt (fun j hj => HRK.out j hj) HRP.out);have HB6 := hid hb6;clear hb6 m0 m1 HM6
      have HMP := hid (show MkS w (some ⟨cb, coff, none⟩) cc cs.length (w6.setCell ⟨w.heap.size, k, none⟩ (.string RS)) (rsK cs (k + 1)) v (psK cs k ++ pq k oa ob 0) by
       rw [show pq k oa ob 0 = [] from rfl, List.append_nil];exact HM7.out)
      have b70 := bget HB6.out HY.out.1;have b71 := bget HB6.out HY.out.2;have hsz6 := HB6.out.size;have hS1 := HS1.out;have yy0 := grown_cell (grown_set w6 ⟨w.heap.size, k, none⟩ (.string RS)) (by omega) (fun q hq => by cases hq; show w.heap.size ≠ S1; omega) b70;have yy1 := grown_cell (grown_set w6 ⟨w.heap.size, k, none⟩ (.string RS)) (by omega) (fun q hq => by cases hq; show w.heap.size ≠ S1; omega) b71;clear HM7 b70 b71 hsz6 hS1;generalize w6.setCell ⟨w.heap.size, k, none⟩ (.string RS) = W6 at *;go_wp2_with fail
      clear yy0 yy1;have hti := fun W => (two_idx oa ob W).1;have htj := fun W => (two_idx oa ob W).2;go_loopg [40] 2 (fun gg s40 wr => ∃ (q : Nat) (v' : Value), q <= 2 /\ 2 - q <= gg /\ s40 = .int .i64 q /\ Hid (MkS w (some ⟨cb, coff, none⟩) cc cs.length wr (rsK cs (k + 1)) v' (psK cs k ++ pq k oa ob q)))
      case atStart => exact ⟨0, v, by omega, by omega, rfl, HMP⟩
      case round =>
       clear HMP;obtain ⟨q, v', hq, hgq, rfl, HJ⟩ := hrel;obtain ⟨ro, co, hv', ho1, ho2⟩ := ownT_form HJ.out.own;subst hv';have hc2 := HJ.out.c2;have hf2 := HJ.out.f2
       by_cases hq2 : q < 2
       . rcases (show q = 0 ∨ q = 1 by omega) with rfl | rfl
         . have ea2 : (oa != 0) = true := by simp [hna.out]
           have HPL := hid (show (psK cs k ++ pq k oa ob 0).length + 1 <= 1000000 by have := HL.out; rw [show pq k oa ob 0 = [] from rfl, List.append_nil]; omega);have HQ1 := hid (show psK cs k ++ pq k oa ob 1 = psK cs k ++ pq k oa ob 0 ++ [(k, oa)] by rw [show pq k oa ob 0 = [] from rfl, List.append_nil]; rfl);generalize psK cs k ++ pq k oa ob 0 = PS at *;have HBA := hid (show Below wr.heap.size wr (wr.alloc (.cells #[.int .i64 (k : Int), .int .i64 oa, .slice none 0 0] 48)) from (Below.refl _ _).alloc (Nat.le_refl _) _);have HO6 := hid (show OwnT (w.heap.size + 2) (wr.alloc (.cells #[.int .i64 (k : Int), .int .i64 oa, .slice none 0 0] 48)) (.slice ro PS.length co) PS from kept_off HJ.out.own (grown_below HBA.out) (fun _ _ e => by cases e));have HZ6 := hid (show w.heap.size + 2 <= (wr.alloc (.cells #[.int .i64 (k : Int), .int .i64 oa, .slice none 0 0] 48)).heap.size from Nat.le_trans HJ.out.sz HBA.out.size)
           go_wp2_with (at_builtin
                        refine app_t rfl _ _ rfl (w.heap.size + 2) (.slice ro PS.length co) PS rfl HO6.out wr.heap.size 1 (k, oa) rfl (fr := (0, 0)) (by exact (MapKept.heap_alloc wr _).1) HPL.out HZ6.out (wr.heap.size + 1) (by simp) ?_;intro g cap w8 hm8;have HM8 := hid (HJ.out.app HBA.out rfl hm8);obtain ⟨⟨u1, u2⟩, _⟩ := HM8.out;clear hm8)
           go_roundg (2 - 1)
           case measure => omega
           case rel => exact ⟨1, _, by omega, by omega, by go_num, hid (by rw [HQ1.out]; exact HM8.out.2)⟩
         . by_cases hb0 : ob = 0
           . have HQ2 := hid (show psK cs k ++ pq k oa ob 2 = psK cs k ++ pq k oa ob 1 by rw [hb0]; rfl)
             have eb0 : (ob != 0) = false := by simp [hb0]
             clear hb0;go_wp2
             go_roundg (2 - 2)
             case measure => omega
             case rel => exact ⟨2, _, by omega, by omega, by go_num, hid (by rw [HQ2.out]; exact HJ.out)⟩
           . have eb2 : (ob != 0) = true := by simp [hb0]
             have HPL := hid (show (psK cs k ++ pq k oa ob 1).length + 1 <= 1000000 by have := HL.out; rw [show pq k oa ob 1 = [(k, oa)] from rfl, List.length_append, List.length_singleton]; omega);have HQ1 := hid (show psK cs k ++ pq k oa ob 2 = psK cs k ++ pq k oa ob 1 ++ [(k, ob)] by rw [show pq k oa ob 1 = [(k, oa)] from rfl, show pq k oa ob 2 = [(k, oa), (k, ob)] from by unfold pq; simp [hb0], List.append_assoc]; rfl);clear hb0;generalize psK cs k ++ pq k oa ob 1 = PS at *;have HBA := hid (show Below wr.heap.size wr (wr.alloc (.cells #[.int .i64 (k : Int), .int .i64 ob, .slice none 0 0] 48)) from (Below.refl _ _).alloc (Nat.le_refl _) _);have HO6 := hid (show OwnT (w.heap.size + 2) (wr.alloc (.cells #[.int .i64 (k : Int), .int .i64 ob, .slice none 0 0] 48)) (.slice ro PS.length co) PS from kept_off HJ.out.own (grown_below HBA.out) (fun _ _ e => by cases e));have HZ6 := hid (show w.heap.size + 2 <= (wr.alloc (.cells #[.int .i64 (k : Int), .int .i64 ob, .slice none 0 0] 48)).heap.size from Nat.le_trans HJ.out.sz HBA.out.size)
             go_wp2_with (at_builtin
                          refine app_t rfl _ _ rfl (w.heap.size + 2) (.slice ro PS.length co) PS rfl HO6.out wr.heap.size 1 (k, ob) rfl (fr := (0, 0)) (by exact (MapKept.heap_alloc wr _).1) HPL.out HZ6.out (wr.heap.size + 1) (by simp) ?_;intro g cap w8 hm8;have HM8 := hid (HJ.out.app HBA.out rfl hm8);obtain ⟨⟨u1, u2⟩, _⟩ := HM8.out;clear hm8)
             go_roundg (2 - 2)
             case measure => omega
             case rel => exact ⟨2, _, by omega, by omega, by go_num, hid (by rw [HQ1.out]; exact HM8.out.2)⟩
       . obtain rfl : q = 2 := by omega
         rw [<- HPQ.out] at HJ hc2;clear hq2 hf2 ho1
         by_cases hlm : 2048 < (psK cs (k + 1)).length
         . have HSE := hid (show stE cs = 14 by unfold stE; rw [if_pos (show 2048 < (psF cs).length from Nat.lt_of_lt_of_le hlm (psK_mono cs (show k + 1 <= cs.length by omega)))])
           have hlm2 : (2048 : Int) < ((psK cs (k + 1)).length : Int) := by omega
           go_wp2
           go_ret2
           exact ⟨.slice none 0 0, ret_pair HSE.out, by rw [show stL cs = [] by unfold stL; rw [HSE.out, if_neg (by decide)]]; exact ⟨none, 0, rfl, Nat.le_refl _, by unfold maxLen; omega, fun i hi => by simp at hi⟩, HJ.out.bel⟩
         . have hlm2 : ¬ (2048 : Int) < ((psK cs (k + 1)).length : Int) := by omega
           have HL2 := hid (show (psK cs (k + 1)).length <= 2048 by omega);clear hlm;go_wp2
           go_roundg (cs.length - (k + 1))
           case measure => omega
           case rel => exact ⟨k + 1, _, by omega, by omega, by go_num, HJ, HL2⟩
  . obtain rfl : k = cs.length := by omega
    obtain ⟨g, rs, cp, hv, hN⟩ := HM.out.next (ndF cs);subst hv;have hlm := HLM.out;have hl2 := HL.out;rw [show psK cs cs.length = psF cs from rfl] at hN hl2 HM;have HSE := hid (show stE cs = ordR (stF cs) by unfold stE; rw [if_neg (by omega)]);have h60 : cs.length <= 60 := by omega
    have HF := hid (esN_few cs h60);have H60 := hid h60;have HNN := hid hN;have hc2 := HM.out.c2;clear hlm hN HLM HAD hlt HL;go_wp2
    clear HM hc2;generalize wr.heap.size = G at *;go_loopg [70] (psF cs).length (fun gg s70 wr => ∃ (j : Nat) (vs : Nat -> SV), j <= (psF cs).length /\ (psF cs).length - j <= gg /\ s70 = .int .i64 j /\ Hid (MkN w rc cc cs.length G g wr (rsK cs cs.length) rs cp (psF cs) vs (ndF cs) j))
    case atStart => exact ⟨0, _, by omega, by omega, rfl, HNN⟩
    case round =>
     clear HNN;obtain ⟨j, vs, hj, hgj, rfl, HN⟩ := hrel
     by_cases hjl : j < (psF cs).length
     . have HND := hid (fun (W : World) (hW : Below wr.heap.size wr W) => needs_any (w.heap.size + 1) w.heap.size rc cc cs (rsK cs cs.length) rs cp (psF cs) j W ((HN.out.below hW).mkp HS.out) (HN.out.below hW).c2 (HN.out.below hW).stp (fun p hp => (psK_lt cs cs.length p hp).2) hjl (by have := H60.out; omega) (by omega))
       rw [show ndK cs (rsK cs cs.length) (psF cs) (psF cs)[j] (psF cs).length = ndF cs j by unfold ndF; rw [List.getD_eq_getElem?_getD, List.getElem?_eq_getElem hjl]; rfl] at HND;have hrg := (HN.out.rsg (by omega)).1;subst hrg;have hgl : g < wr.heap.size := by have := (HN.out.rsg (by omega)).2.2; have := HN.out.sz; omega
       have hmb : w.heap.size + 1 < wr.heap.size := by have := HN.out.sz; have := HN.out.gs; omega
       have hc2 := HN.out.c2;have hjj : (0 : Int) <= (j : Int) := by omega
       have hjj2 : (j : Int) < ((psF cs).length : Int) := by omega
       go_wp2_with fail
       have hc3 := fun d os => cell_regrown hc2 d os;obtain ⟨W3, rfl⟩ : ∃ W3 : World, W3 = wr := ⟨_, rfl⟩;refine wp_region_last11 (fun k => match k with | 7 => some (sOwn W3.heap.size ((ndF cs j).map Nat.cast)) | _ => none) (by kernel_rfl) (by kernel_rfl) (by kernel_rfl) ?_
       (refine wpF_quiet (grw_ex _) (by kernel_rfl) rfl (noEnter_op (by rfl)) ?_; intro K hK; go_big_quiet_op; go_big_quiet_on)
       (refine wpF_quiet (grw_ex _) (by kernel_rfl) rfl (by intro w f args w'; go_simp) ?_; intro K hK; go_big_quiet_op; go_big_quiet_on)
       (refine wpF_quiet (grw_ex _) (by kernel_rfl) rfl (noEnter_op (by rfl)) ?_; intro K hK; go_big_quiet_op; go_big_quiet_on)
       (refine wpF_quiet (grw_ex _) (by kernel_rfl) rfl (noEnter_op (by rfl)) ?_; intro K hK; go_big_quiet_op; go_big_quiet_on)
       (refine wpF_quiet (grw_ex _) (by kernel_rfl) rfl (noEnter_op (by rfl)) ?_; intro K hK; go_big_quiet_op; go_big_quiet_on)
       (refine wpF_quiet (grw_ex _) (by kernel_rfl) rfl (noEnter_op (by rfl)) ?_; intro K hK; go_big_quiet_op; go_big_quiet_on)
       (refine wpF_quiet (grw_ex _) (by kernel_rfl) rfl (noEnter_op (by rfl)) ?_; intro K hK; go_big_quiet_op; go_big_quiet_on)
       refine wpF_told (sOwn W3.heap.size ((ndF cs j).map Nat.cast)) (by kernel_rfl) rfl ⟨.slice none (ndF cs j).length 0, none, 0, by rw [List.length_map]⟩ (stOwn _ _) (fun w4 hw4 hE4 => ?_) ?_
       . have hb4 := grw_below hw4
         have hh := HND.out w4 hb4;have hz := hb4.size;clear hw4 hE4;go_simp
         go_at_call 31;refine Calls.mono hh ?_;rintro e w5 ⟨v5, rfl, ho5, hb5⟩;obtain ⟨r5, c5, e5, _⟩ := ho5.form;exact ⟨_, rfl, hb5, ⟨r5, c5, e5⟩, ⟨Adr.row_le ho5.1 hz, ho5.2⟩⟩
       rintro _ ⟨r7, c7, rfl⟩
       (refine wpF_put ?_; intro K hK; go_simp; refine hK _ ?_; clear hK K)
       (refine wpF_quiet (grw_ex _) (by kernel_rfl) rfl (noEnter_op (by rfl)) ?_; intro K hK; go_big_quiet_op; go_big_quiet_on)
       (refine wpF_quiet (grw_ex _) (by kernel_rfl) rfl (noEnter_op (by rfl)) ?_; intro K hK; go_big_quiet_op; go_big_quiet_on)
       refine wpF_nil ?_;intro w6 hw6 hE6;have hb6 := grw_below hw6;have ho6 : OwnI W3.heap.size w6 (.slice r7 ((ndF cs j).map Nat.cast).length c7) ((ndF cs j).map Nat.cast) := hE6 7;clear hw6 hE6;obtain ⟨_, _, q3, q4⟩ := (HN.out.below hb6).el j hjl;rw [List.length_map] at ho6;have HP := hid (HN.out.put hb6 hjl (sv := ⟨r7, (ndF cs j).length, c7⟩) ho6);go_simp
       go_wp2
       go_roundg ((psF cs).length - (j + 1))
       case measure => omega
       case rel => exact ⟨j + 1, _, by omega, by omega, by go_num, HP⟩
     . obtain rfl : j = (psF cs).length := by omega
       have HFI := hid (HN.out.fin (fun p hp => ⟨by have := (psK_lt cs cs.length p hp).2; have := H60.out; omega, psK_ib cs cs.length p hp⟩) (stF cs) (stF_len cs) (fun j hj hj' => stF_at cs j hj hj'));have hc2 := HN.out.c2;have hmb : w.heap.size + 1 < wr.heap.size := by have := HN.out.sz; have := HN.out.gs; omega
       have HOR := hid (porder_any _ (stF cs) wr HFI.out HF.out.1 HF.out.2);unfold OrdPN at HOR
       by_cases hE : ordR (stF cs) = 0
       . have HSL := hid (show stL cs = stF cs by unfold stL; rw [HSE.out, if_pos hE])
         have HS0 := hid (show stE cs = 0 by rw [HSE.out, hE]);rw [hE] at HOR;clear hE HSE
         go_wp2_with (go_at_call 13
                      refine HOR.out.mono ?_;rintro e w7 ⟨v7, rfl, hs7, hb7⟩;have hd2 := bget hb7 hc2;have HB7 := hid hb7;clear hs7 hb7)
         go_ret2
         exact ⟨_, ret_pair HS0.out, by rw [HSL.out]; exact HFI.out.below stR_mono HB7.out, HN.out.bel.trans (HB7.out.mono HN.out.bel.size)⟩
       . have HSL := hid (show stL cs = [] by unfold stL; rw [HSE.out, if_neg hE])
         have eE : (ordR (stF cs) != 0) = true := by simp [hE]
         clear hE;generalize ordR (stF cs) = E at *
         go_wp2_with (go_at_call 13
                      refine HOR.out.mono ?_;rintro e w7 ⟨v7, rfl, hs7, hb7⟩;have HB7 := hid hb7;clear hs7 hb7)
         go_ret2
         exact ⟨.slice none 0 0, ret_pair HSE.out, by rw [HSL.out]; exact ⟨none, 0, rfl, Nat.le_refl _, by unfold maxLen; omega, fun i hi => by simp at hi⟩, HN.out.bel.trans (HB7.out.mono HN.out.bel.size)⟩
end Go.Proofs.YtpnogmicfomofaaGreatDoor.Stp
namespace Go.Proofs.YtpnogmicfomofaaGreatDoor.Stp
open Go.RowKit Go.Sort Go.Lib Go.Maps
open Go.Lib (hid)
attribute [local go_sem ↓] ldC_eq
attribute [local go_sem] ldC_run
attribute [local go_sem ↓] stC_eq
attribute [local go_sem] stC_run there_drew there_new there_past put22_drew put22_new put22_past lies_new rd22_new lies_drew rd22_drew lies_drewN rd22_drewN
theorem cat2 (w : World) (a b : List UInt8) (h : a.length + b.length <= 1000000000000) : (Op.stringOp .add ⟨a.toArray⟩ ⟨b.toArray⟩).run Tryz.prog w = .ok (.string ⟨(a ++ b).toArray⟩) w := by
 have e : (⟨a.toArray⟩ : ByteArray) ++ ⟨b.toArray⟩ = ⟨(a ++ b).toArray⟩ := by
  apply ByteArray.ext;simp [ByteArray.data_append]
 rw [<- e];exact run_string_add_sum w _ _ (by show a.toArray.size + b.toArray.size <= _; simp; omega)
theorem results_cell {fn : Func} {t : Tmp} {tmps : Array Value} {ad : Addr} {v : Value} {w : World} (h : fn.results = #[.cell t 31]) (hp : tmps.getD t undef = .pointer (some ad)) (hl : (ldC ad).run Tryz.prog w = .ok v w) :
  (results fn tmps).run Tryz.prog w = .ok v w := by
 unfold results;rw [h];simp only [List.mapM_toArray, List.mapM_cons, List.mapM_nil];simp [go_sem, hp, hl]
def chV (nm : List UInt8) (a : Int) (f : Bool) (d : SV) : CV := ⟨⟨(([110, 101, 116, 46] : List UInt8) ++ nm).toArray⟩, ByteArray.empty, ⟨#[110, 101, 116]⟩, a, 0, 0, 0, ByteArray.empty, ⟨none, 0, 0⟩, ⟨none, 0, 0⟩, 0, 0, ByteArray.empty, ⟨none, 0, 0⟩, ⟨none, 0, 0⟩, ByteArray.empty, ⟨none, 0, 0⟩, f, false, false, d, d⟩
set_option maxRecDepth 100000 in
set_option maxHeartbeats 4000000 in
theorem change_any (nm : List UInt8) (a : Int) (f : Bool) (d : SV) (w : World) (h : nm.length <= 1000) :
  Calls Tryz.prog 9 #[.string ⟨nm.toArray⟩, .int .i64 a, .bool f, .slice d.r d.n d.c] w fun e w' => e = .returned (.agg (chV nm a f d).arr) /\ Below w.heap.size w w' := by
 have hC := fun W => cat2 W [110, 101, 116, 46] nm (by simp; omega);have HX : Cells22 #[Value.string ⟨(110 :: 101 :: 116 :: 46 :: nm).toArray⟩, Value.string ⟨#[]⟩, Value.string ⟨#[110, 101, 116]⟩, Value.int IntKind.i64 a, Value.int IntKind.i64 0, Value.int IntKind.i64 0, Value.int IntKind.i64 0, Value.string ⟨#[]⟩, Value.slice none 0 0, Value.slice none 0 0, Value.int IntKind.i64 0, Value.int IntKind.i64 0, Value.string ⟨#[]⟩, Value.slice none 0 0, Value.slice none 0 0, Value.string ⟨#[]⟩, Value.slice none 0 0, Value.bool f, Value.bool false, Value.bool false, Value.slice d.r d.n d.c, Value.slice d.r d.n d.c] := cells22 (chV nm a f d);have HZ := hid (show (chV nm a f d).arr = #[Value.string ⟨(110 :: 101 :: 116 :: 46 :: nm).toArray⟩, Value.string ⟨#[]⟩, Value.string ⟨#[110, 101, 116]⟩, Value.int IntKind.i64 a, Value.int IntKind.i64 0, Value.int IntKind.i64 0, Value.int IntKind.i64 0, Value.string ⟨#[]⟩, Value.slice none 0 0, Value.slice none 0 0, Value.int IntKind.i64 0, Value.int IntKind.i64 0, Value.string ⟨#[]⟩, Value.slice none 0 0, Value.slice none 0 0, Value.string ⟨#[]⟩, Value.slice none 0 0, Value.bool f, Value.bool false, Value.bool false, Value.slice d.r d.n d.c, Value.slice d.r d.n d.c] from rfl);rw [HZ.out];go_enter Tryz.func9, Tryz.ntmps9;go_wp2
 clear HZ;generalize #[Value.string ⟨(110 :: 101 :: 116 :: 46 :: nm).toArray⟩, Value.string ⟨#[]⟩, Value.string ⟨#[110, 101, 116]⟩, Value.int IntKind.i64 a, Value.int IntKind.i64 0, Value.int IntKind.i64 0, Value.int IntKind.i64 0, Value.string ⟨#[]⟩, Value.slice none 0 0, Value.slice none 0 0, Value.int IntKind.i64 0, Value.int IntKind.i64 0, Value.string ⟨#[]⟩, Value.slice none 0 0, Value.slice none 0 0, Value.string ⟨#[]⟩, Value.slice none 0 0, Value.bool f, Value.bool false, Value.bool false, Value.slice d.r d.n d.c, Value.slice d.r d.n d.c] = X at *;exact bodyPost_ret (v := .agg X) (results_cell (ad := ⟨w.heap.size, 0, none⟩) rfl rfl (by rw [ldC_run _ _ _ (of_eq_true (lies_new w X _ _ rfl HX)), rd22_new w X _ _ rfl HX])) rfl ⟨rfl, (Below.refl _ _).alloc (Nat.le_refl _) _⟩
end Go.Proofs.YtpnogmicfomofaaGreatDoor.Stp
namespace Go.Proofs.YtpnogmicfomofaaGreatDoor.Stp
open Go.RowKit Go.Sort Go.Lib Go.Maps
def bsC (n : Nat) (parts : Array (Nat × Value)) : Sem Value := Instr.buildSlice 22 n parts
theorem bsC_eq (n : Nat) (parts : Array (Nat × Value)) : Instr.buildSlice 22 n parts = bsC n parts := rfl
theorem bsC_run (vs : List Value) (hne : 0 < vs.length) (hsm : vs.length <= 1000) (hv : ∀ v ∈ vs, v.cells.size = 22) (W : World) :
  ∃ C : Array Value, C.size = vs.length * 22 /\ (∀ k, k < vs.length * 22 -> C[k]? = (vs[k / 22]?).bind fun v => v.cells[k % 22]?) /\
   (Instr.buildSlice 22 vs.length ((vs.zipIdx 0).map fun x => (x.2, x.1)).toArray).run Tryz.prog W = .ok (.slice (some ⟨W.heap.size, 0, none⟩) vs.length vs.length) (W.alloc (.cells C 31)) := by
 have hz : (Tryz.prog.info? 31).map (fun i => (i.size, i.zero.isSome)) = some (22, true) := by kernel_rfl
 cases hi : Tryz.prog.info? 31 with
 | none => rw [hi] at hz; cases hz
 | some ie =>
   rw [hi] at hz;simp at hz;obtain ⟨hs, hz⟩ := hz;obtain ⟨z, hz⟩ := Option.isSome_iff_exists.1 hz;obtain ⟨r, h1, h2, h3⟩ := Great.fill_dense (s := 22) (by decide) vs 0 ((Array.range (vs.length * ie.size)).map (z.cells[· % z.cells.size]!)) hv (by simp [hs]);refine ⟨r, by rw [h2]; simp [hs], fun k hk => ?_, ?_⟩
   . rw [h3, if_pos ⟨by omega, by omega⟩, Nat.sub_zero]
   . exact run_buildSlice W _ _ _ _ r ie z Tryz.underlying22 hi hz (by rw [hs]; omega) (by rw [hs]; omega) (by rw [hs] at h1 ⊢; exact h1)
theorem bsC_run1 (W : World) (X : Array Value) (hX : Cells22 X) : (bsC 1 #[(0, .agg X)]).run Tryz.prog W = .ok (.slice (some ⟨W.heap.size, 0, none⟩) 1 1) (W.alloc (.cells X 31)) := by
 obtain ⟨C, h1, h2, h3⟩ := bsC_run [.agg X] (by simp) (by simp) (fun v hv => by rw [List.mem_singleton.1 hv]; exact hX.1) W
 have e : C = X := by
  apply Array.ext_getElem?;intro k
  by_cases hk : k < 22
  . rw [h2 k (by simpa using hk), show k / 22 = 0 by omega, show k % 22 = k by omega]
    rfl
  . rw [Array.getElem?_eq_none (by rw [h1]; simp; omega), Array.getElem?_eq_none (by rw [hX.1]; omega)]
 rw [e] at h3;exact h3
theorem bsC_run2 (W : World) (X Y : Array Value) (hX : Cells22 X) (hY : Cells22 Y) : (bsC 2 #[(0, .agg X), (1, .agg Y)]).run Tryz.prog W = .ok (.slice (some ⟨W.heap.size, 0, none⟩) 2 2) (W.alloc (.cells (X ++ Y) 31)) := by
 obtain ⟨C, h1, h2, h3⟩ := bsC_run [.agg X, .agg Y] (by simp) (by simp) (fun v hv => by
  rcases List.mem_cons.1 hv with rfl | hv
  . exact hX.1
  . rw [List.mem_singleton.1 hv]; exact hY.1) W
 have e : C = X ++ Y := by
  apply Array.ext_getElem?;intro k;rw [Array.getElem?_append, hX.1]
  by_cases hk : k < 22
  . rw [h2 k (by simp; omega), if_pos hk, show k / 22 = 0 by omega, show k % 22 = k by omega]
    rfl
  . rw [if_neg hk]
    by_cases hk2 : k < 44
    . rw [h2 k (by simp; omega), show k / 22 = 1 by omega, show k % 22 = k - 22 by omega]
      rfl
    . rw [Array.getElem?_eq_none (by rw [h1]; simp; omega), Array.getElem?_eq_none (by rw [hY.1]; omega)]
 rw [e] at h3;exact h3
end Go.Proofs.YtpnogmicfomofaaGreatDoor.Stp
namespace Go.Proofs.YtpnogmicfomofaaGreatDoor.Stp
open Go.RowKit Go.Sort Go.Lib Go.Maps
open Go.Lib (hid)
open Adr (WT)
def netS (l : List UInt8) : ByteArray := ⟨(([110, 101, 116, 46] : List UInt8) ++ l).toArray⟩
def ex1 : List Ch := [⟨netS [97], 3, true, [], []⟩, ⟨netS [98], 2, false, [netS [97]], [netS [97]]⟩]
def ex2 : List Ch := [⟨netS [97], 3, false, [], []⟩]
def ex3 : List Ch := [⟨netS [97], 1, false, [netS [98]], [netS [98]]⟩, ⟨netS [98], 1, false, [netS [97]], [netS [97]]⟩]
def st1 : List St := [⟨0, 1, []⟩, ⟨0, 3, [0, 2]⟩, ⟨1, 2, [0]⟩]
def st2 : List St := [⟨0, 3, []⟩, ⟨0, 1, [0]⟩]
def st4 : List St := [⟨0, 0, [1]⟩, ⟨0, 0, []⟩]
theorem sl_lit {α : Type} {R : World -> List Value -> α -> Prop} {sz : Nat} {W : World} {b : Nat} {C : Array Value} {T : TypeId} {fr : Nat × Nat} {xs : List α} (hh : W.heap[b]? = some (.cells C T fr)) (hn : xs.length <= 1000)
  (h : ∀ i (hi : i < xs.length), ∃ cs : List Value, cs.length = sz /\ (∀ (j : Nat) (u : Value), cs[j]? = some u -> C[i * sz + j]? = some u) /\ R W cs xs[i]) : Sl R sz W (.slice (some ⟨b, 0, none⟩) xs.length xs.length) xs := by
 refine ⟨_, _, rfl, Nat.le_refl _, by unfold maxLen; omega, fun i hi => ?_⟩;obtain ⟨cs, h1, h2, h3⟩ := h i hi;refine ⟨b, 0, cs, rfl, h1, fun j u hj => ?_, h3⟩;have := h2 j u hj;unfold World.cell?;rw [Nat.zero_add];simp only [hh];exact this
theorem str_lit1 {W : World} {b : Nat} {T : TypeId} {fr : Nat × Nat} {s : ByteArray} (hh : W.heap[b]? = some (.cells #[.string s] T fr)) (hs : s.size <= 1000) : Sl StrR 1 W (.slice (some ⟨b, 0, none⟩) 1 1) [s] :=
 sl_lit (xs := [s]) hh (by simp) (fun i hi => by
  obtain rfl : i = 0 := by simp at hi; exact hi
  exact ⟨[.string s], rfl, fun j u hj => by simpa using hj, rfl, by unfold maxLen; simp only [List.getElem_cons_zero]; omega⟩)
theorem str_lit0 (W : World) : Sl StrR 1 W (.slice none 0 0) [] := ⟨none, 0, rfl, Nat.le_refl _, by unfold maxLen; omega, fun i hi => by simp at hi⟩
theorem int_lit1 {W : World} {b : Nat} {T : TypeId} {fr : Nat × Nat} {s : Int} (hh : W.heap[b]? = some (.cells #[.int .i64 s] T fr)) (hs : IB s) : Sl IntR 1 W (.slice (some ⟨b, 0, none⟩) 1 1) [s] :=
 sl_lit (xs := [s]) hh (by simp) (fun i hi => by
  obtain rfl : i = 0 := by simp at hi; exact hi
  exact ⟨[.int .i64 s], rfl, fun j u hj => by simpa using hj, rfl, hs⟩)
theorem int_lit2 {W : World} {b : Nat} {T : TypeId} {fr : Nat × Nat} {s t : Int} (hh : W.heap[b]? = some (.cells #[.int .i64 s, .int .i64 t] T fr)) (hs : IB s) (ht : IB t) : Sl IntR 1 W (.slice (some ⟨b, 0, none⟩) 2 2) [s, t] :=
 sl_lit (xs := [s, t]) hh (by simp) (fun i hi => by
  rcases (show i = 0 ∨ i = 1 by simp at hi; omega) with rfl | rfl
  . exact ⟨[.int .i64 s], rfl, fun j u hj => (by
     match j, hj with
     | 0, hj => exact hj
     | j + 1, hj => cases hj), rfl, hs⟩
  . exact ⟨[.int .i64 t], rfl, fun j u hj => (by
     match j, hj with
     | 0, hj => exact hj
     | j + 1, hj => cases hj), rfl, ht⟩)
theorem int_lit0 (W : World) : Sl IntR 1 W (.slice none 0 0) [] := ⟨none, 0, rfl, Nat.le_refl _, by unfold maxLen; omega, fun i hi => by simp at hi⟩
theorem cv_of {W : World} (nm : List UInt8) (a : Int) (f : Bool) (d : SV) (l : List ByteArray) (hl : Sl StrR 1 W (.slice d.r d.n d.c) l) (ha : IB a) : CvR W (chV nm a f d) ⟨netS nm, a, f, l, l⟩ := ⟨rfl, rfl, rfl, ha, hl, hl⟩
theorem ch_lit1 {W : World} {b : Nat} {T : TypeId} {fr : Nat × Nat} {x : CV} {c : Ch} {X : Array Value} (hX : X = x.arr) (hh : W.heap[b]? = some (.cells X T fr)) (h : CvR W x c) : Sl ChR 22 W (.slice (some ⟨b, 0, none⟩) 1 1) [c] :=
 sl_lit (xs := [c]) hh (by simp) (fun i hi => by
  obtain rfl : i = 0 := by simp at hi; exact hi
  exact ⟨x.arr.toList, rfl, fun j u hj => by rw [hX, Nat.zero_mul, Nat.zero_add]; simpa using hj, x, rfl, h⟩)
theorem ch_lit2 {W : World} {b : Nat} {T : TypeId} {fr : Nat × Nat} {x y : CV} {c d : Ch} {X Y : Array Value} (hX : X = x.arr) (hY : Y = y.arr) (hh : W.heap[b]? = some (.cells (X ++ Y) T fr)) (h : CvR W x c) (h2 : CvR W y d) : Sl ChR 22 W (.slice (some ⟨b, 0, none⟩) 2 2) [c, d] :=
 sl_lit (xs := [c, d]) hh (by simp) (fun i hi => by
  rcases (show i = 0 ∨ i = 1 by simp at hi; omega) with rfl | rfl
  . exact ⟨x.arr.toList, rfl, fun j u hj => by
     have hj2 := (List.getElem?_eq_some_iff.1 hj).1;rw [Array.length_toList, show x.arr.size = 22 from rfl] at hj2;rw [hX, hY, Nat.zero_mul, Nat.zero_add, Array.getElem?_append, if_pos (by rw [show x.arr.size = 22 from rfl]; exact hj2)];simpa using hj, x, rfl, h⟩
  . exact ⟨y.arr.toList, rfl, fun j u hj => by
     rw [hX, hY, Nat.one_mul, Array.getElem?_append, if_neg (by rw [show x.arr.size = 22 from rfl]; omega), show x.arr.size = 22 from rfl, Nat.add_sub_cancel_left];simpa using hj, y, rfl, h2⟩)
theorem st_lit4 {W : World} {b g : Nat} {T : TypeId} {fr : Nat × Nat} (hh : W.heap[b]? = some (.cells #[.int .i64 0, .int .i64 0, .slice (some ⟨g, 0, none⟩) 1 1, .int .i64 0, .int .i64 0, .slice none 0 0] T fr)) (hg : Sl IntR 1 W (.slice (some ⟨g, 0, none⟩) 1 1) [1]) : Sl StR 3 W (.slice (some ⟨b, 0, none⟩) 2 2) st4 :=
 sl_lit (xs := st4) hh (by unfold st4; simp) (fun i hi => by
  rcases (show i = 0 ∨ i = 1 by unfold st4 at hi; simp at hi; omega) with rfl | rfl
  . exact ⟨[.int .i64 0, .int .i64 0, .slice (some ⟨g, 0, none⟩) 1 1], rfl, fun j u hj => (by
     match j, hj with
     | 0, hj => exact hj
     | 1, hj => exact hj
     | 2, hj => exact hj
     | j + 3, hj => cases hj), _, rfl, hg, (show IB (0 : Int) from ⟨by decide, by decide⟩), (show IB (0 : Int) from ⟨by decide, by decide⟩)⟩
  . exact ⟨[.int .i64 0, .int .i64 0, .slice none 0 0], rfl, fun j u hj => (by
     match j, hj with
     | 0, hj => exact hj
     | 1, hj => exact hj
     | 2, hj => exact hj
     | j + 3, hj => cases hj), _, rfl, int_lit0 W, (show IB (0 : Int) from ⟨by decide, by decide⟩), (show IB (0 : Int) from ⟨by decide, by decide⟩)⟩)
theorem ex_bef : befS st1 0 1 = true /\ befS st1 1 0 = false := by
 have hr : rightS st1 = true := by kernel_rfl
 have h1 : befN (nls st1) 0 1 = true := bef_need (by decide);have h2 : befN (nls st1) 1 0 = false := bef_asym (by kernel_rfl) (by decide) (by decide) h1;exact ⟨(befS_ok (a := 0) (b := 1) hr (by decide) (by decide)).trans h1, (befS_ok (a := 1) (b := 0) hr (by decide) (by decide)).trans h2⟩
theorem ex_facts : (stE ex1 = 0 /\ stL ex1 = st1) /\ (stE ex2 = 0 /\ stL ex2 = st2) /\ stE ex3 = 10 /\ (ordR st4 = 0 /\ ordL st4 = [1, 0]) /\ befS st1 0 1 = true /\ befS st1 1 0 = false :=
 ⟨⟨by kernel_rfl, by kernel_rfl⟩, ⟨by kernel_rfl, by kernel_rfl⟩, by kernel_rfl, ⟨by kernel_rfl, by kernel_rfl⟩, ex_bef⟩
theorem few_ex {cs : List Ch} (h : cs = ex1 ∨ cs = ex2 ∨ cs = ex3) : cs.length <= 2 /\ ∀ c ∈ cs, c.addr.size <= 1000000 := by
 rcases h with rfl | rfl | rfl <;> exact ⟨by decide, by decide⟩
theorem ex_steps (cs : List Ch) (h : cs = ex1 ∨ cs = ex2 ∨ cs = ex3) (v : Value) (w : World) (hT : WT w) (hS : Sl ChR 22 w v cs) : Calls Tryz.prog 11 #[v] w (StpP cs w) := by
 obtain ⟨rc, cc, rfl, _⟩ := id hS;obtain ⟨h1, h2⟩ := few_ex h;exact steps_any rc cc cs w hT hS (by omega) h2 (Or.inr (by omega))
attribute [local go_sem ↓] bsC_eq
attribute [local go_sem] bsC_run1 bsC_run2
set_option maxRecDepth 100000 in
set_option maxHeartbeats 40000000 in
theorem awake_any (w : World) (hT : WT w) : Calls Tryz.prog 10 #[] w fun e w' => e = .returned (.bool true) /\ Below w.heap.size w w' := by
 obtain ⟨X1, hX1⟩ : ∃ X, X = (chV [97] 3 true ⟨none, 0, 0⟩).arr := ⟨_, rfl⟩;have HC1 := hid (fun W => change_any [97] 3 true ⟨none, 0, 0⟩ W (by decide));have HX1 := cells22 (chV [97] 3 true ⟨none, 0, 0⟩);rw [<- hX1] at HC1 HX1;obtain ⟨F2, hF2⟩ : ∃ F : SV -> Array Value, ∀ d, F d = (chV [98] 2 false d).arr := ⟨_, fun _ => rfl⟩;have HC2 := hid (fun (d : SV) W => change_any [98] 2 false d W (by decide));have HX2 := fun d => cells22 (chV [98] 2 false d);simp only [<- hF2] at HC2 HX2;obtain ⟨X3, hX3⟩ : ∃ X, X = (chV [97] 3 false ⟨none, 0, 0⟩).arr := ⟨_, rfl⟩;have HC3 := hid (fun W => change_any [97] 3 false ⟨none, 0, 0⟩ W (by decide));have HX3 := cells22 (chV [97] 3 false ⟨none, 0, 0⟩);rw [<- hX3] at HC3 HX3;obtain ⟨F4, hF4⟩ : ∃ F : SV -> Array Value, ∀ d, F d = (chV [97] 1 false d).arr := ⟨_, fun _ => rfl⟩;have HC4 := hid (fun (d : SV) W => change_any [97] 1 false d W (by decide));have HX4 := fun d => cells22 (chV [97] 1 false d);simp only [<- hF4] at HC4 HX4;obtain ⟨F5, hF5⟩ : ∃ F : SV -> Array Value, ∀ d, F d = (chV [98] 1 false d).arr := ⟨_, fun _ => rfl⟩;have HC5 := hid (fun (d : SV) W => change_any [98] 1 false d W (by decide));have HX5 := fun d => cells22 (chV [98] 1 false d);simp only [<- hF5] at HC5 HX5;have HD := hid (And.intro hX1 (And.intro hF2 (And.intro hX3 (And.intro hF4 hF5))));have HT := hid (fun (W : World) (hW : Below w.heap.size w W) => hT.below hW);clear hX1 hF2 hX3 hF4 hF5 hT;go_enter Tryz.func10, Tryz.ntmps10;go_wp2_with fail
 refine (HC1.out _).mono ?_;rintro e w1 ⟨rfl, hb1⟩;have HB1 := hid hb1;clear hb1;go_wp2_with fail
 have HB1a := hid (HB1.out.trans ((show Below w1.heap.size w1 (w1.alloc (.cells #[.string ⟨#[110, 101, 116, 46, 97]⟩] 9)) from (Below.refl _ _).alloc (Nat.le_refl _) _).mono HB1.out.size));have HS1a := hid (str_lit1 (MapKept.heap_alloc w1 (.cells #[.string ⟨#[110, 101, 116, 46, 97]⟩] 9)).1 (by decide));refine (HC2.out ⟨some ⟨w1.heap.size, 0, none⟩, 1, 1⟩ _).mono ?_;rintro e w2 ⟨rfl, hb2⟩;have HB2 := hid (HB1a.out.trans (hb2.mono HB1a.out.size));have HS2 := hid (HS1a.out.below strR_mono hb2);clear hb2 HB1 HB1a HS1a;generalize w1.heap.size = B1 at *;have HF2 := HX2 ⟨some ⟨B1, 0, none⟩, 1, 1⟩;have HD2 := hid (HD.out.2.1 ⟨some ⟨B1, 0, none⟩, 1, 1⟩);generalize F2 ⟨some ⟨B1, 0, none⟩, 1, 1⟩ = X2 at *;go_wp2_with fail
 have HA2 := hid (show Below w2.heap.size w2 (w2.alloc (.cells (X1 ++ X2) 31)) from (Below.refl _ _).alloc (Nat.le_refl _) _);have HB3 := hid (HB2.out.trans (HA2.out.mono HB2.out.size));have HS3 := hid (ch_lit2 HD.out.1 HD2.out (MapKept.heap_alloc w2 (.cells (X1 ++ X2) 31)).1 (cv_of [97] 3 true ⟨none, 0, 0⟩ [] (str_lit0 _) ⟨by decide, by decide⟩) (cv_of [98] 2 false _ [netS [97]] (HS2.out.below strR_mono HA2.out) ⟨by decide, by decide⟩));refine (ex_steps ex1 (Or.inl rfl) _ _ (HT.out _ HB3.out) HS3.out).mono ?_;rintro e w3 ⟨v3, rfl, hs3, hb3⟩;rw [ex_facts.1.1];rw [ex_facts.1.2] at hs3;obtain ⟨r3, c3, hv3, _⟩ := id hs3;rw [show st1.length = 3 from rfl] at hv3;subst hv3;have HB4 := hid (HB3.out.trans (hb3.mono HB3.out.size));have HL4 := hid hs3;clear hb3 hs3 HB2 HS2 HB3 HS3 HA2 HF2 HD2 HX1;go_wp2_with fail
 refine (HC3.out _).mono ?_;rintro e w5 ⟨rfl, hb5⟩;have HB5 := hid (HB4.out.trans (hb5.mono HB4.out.size));have HL5 := hid (HL4.out.below stR_mono hb5);clear hb5 HB4 HL4;go_wp2_with fail
 have HA5 := hid (show Below w5.heap.size w5 (w5.alloc (.cells X3 31)) from (Below.refl _ _).alloc (Nat.le_refl _) _);have HB6 := hid (HB5.out.trans (HA5.out.mono HB5.out.size));have HL6 := hid (HL5.out.below stR_mono HA5.out);have HS6 := hid (ch_lit1 HD.out.2.2.1 (MapKept.heap_alloc w5 (.cells X3 31)).1 (cv_of [97] 3 false ⟨none, 0, 0⟩ [] (str_lit0 _) ⟨by decide, by decide⟩));refine (ex_steps ex2 (Or.inr (Or.inl rfl)) _ _ (HT.out _ HB6.out) HS6.out).mono ?_;rintro e w7 ⟨v7, rfl, hs7, hb7⟩;rw [ex_facts.2.1.1];rw [ex_facts.2.1.2] at hs7;obtain ⟨r7, c7, hv7, _⟩ := id hs7;rw [show st2.length = 2 from rfl] at hv7;subst hv7;have HB7 := hid (HB6.out.trans (hb7.mono HB6.out.size));have HL7 := hid (HL6.out.below stR_mono hb7);have HM7 := hid hs7;clear hb7 hs7 HB5 HB6 HL5 HL6 HS6 HA5 HX3;go_wp2_with fail
 have HA7 := hid (show Below w7.heap.size w7 (w7.alloc (.cells #[.string ⟨#[110, 101, 116, 46, 98]⟩] 9)) from (Below.refl _ _).alloc (Nat.le_refl _) _);have HS8 := hid (str_lit1 (MapKept.heap_alloc w7 (.cells #[.string ⟨#[110, 101, 116, 46, 98]⟩] 9)).1 (by decide));refine (HC4.out ⟨some ⟨w7.heap.size, 0, none⟩, 1, 1⟩ _).mono ?_;rintro e w8 ⟨rfl, hb8⟩;have HA8 := hid (HA7.out.trans (hb8.mono HA7.out.size));have HB8 := hid (HB7.out.trans (HA8.out.mono HB7.out.size));have HL8 := hid (HL7.out.below stR_mono HA8.out);have HM8 := hid (HM7.out.below stR_mono HA8.out);have HS9 := hid (HS8.out.below strR_mono hb8);clear hb8 HB7 HL7 HM7 HS8 HA7 HA8;generalize w7.heap.size = B7 at *;have HF4 := HX4 ⟨some ⟨B7, 0, none⟩, 1, 1⟩;have HD4 := hid (HD.out.2.2.2.1 ⟨some ⟨B7, 0, none⟩, 1, 1⟩);generalize F4 ⟨some ⟨B7, 0, none⟩, 1, 1⟩ = X4 at *;go_wp2_with fail
 have HA9 := hid (show Below w8.heap.size w8 (w8.alloc (.cells #[.string ⟨#[110, 101, 116, 46, 97]⟩] 9)) from (Below.refl _ _).alloc (Nat.le_refl _) _);have HS10 := hid (str_lit1 (MapKept.heap_alloc w8 (.cells #[.string ⟨#[110, 101, 116, 46, 97]⟩] 9)).1 (by decide));refine (HC5.out ⟨some ⟨w8.heap.size, 0, none⟩, 1, 1⟩ _).mono ?_;rintro e w9 ⟨rfl, hb9⟩;have HA10 := hid (HA9.out.trans (hb9.mono HA9.out.size));have HB9 := hid (HB8.out.trans (HA10.out.mono HB8.out.size));have HL9 := hid (HL8.out.below stR_mono HA10.out);have HM9 := hid (HM8.out.below stR_mono HA10.out);have HS11 := hid (HS9.out.below strR_mono HA10.out);have HS12 := hid (HS10.out.below strR_mono hb9);clear hb9 HB8 HL8 HM8 HS9 HS10 HA9 HA10;generalize w8.heap.size = B8 at *;have HF5 := HX5 ⟨some ⟨B8, 0, none⟩, 1, 1⟩;have HD5 := hid (HD.out.2.2.2.2 ⟨some ⟨B8, 0, none⟩, 1, 1⟩);generalize F5 ⟨some ⟨B8, 0, none⟩, 1, 1⟩ = X5 at *;go_wp2_with fail
 have HA11 := hid (show Below w9.heap.size w9 (w9.alloc (.cells (X4 ++ X5) 31)) from (Below.refl _ _).alloc (Nat.le_refl _) _);have HB11 := hid (HB9.out.trans (HA11.out.mono HB9.out.size));have HL11 := hid (HL9.out.below stR_mono HA11.out);have HM11 := hid (HM9.out.below stR_mono HA11.out);have HS13 := hid (ch_lit2 HD4.out HD5.out (MapKept.heap_alloc w9 (.cells (X4 ++ X5) 31)).1 (cv_of [97] 1 false _ [netS [98]] (HS11.out.below strR_mono HA11.out) ⟨by decide, by decide⟩) (cv_of [98] 1 false _ [netS [97]] (HS12.out.below strR_mono HA11.out) ⟨by decide, by decide⟩));refine (ex_steps ex3 (Or.inr (Or.inr rfl)) _ _ (HT.out _ HB11.out) HS13.out).mono ?_;rintro e w12 ⟨v12, rfl, _, hb12⟩;rw [ex_facts.2.2.1];have HB12 := hid (HB11.out.trans (hb12.mono HB11.out.size));have HL12 := hid (HL11.out.below stR_mono hb12);have HM12 := hid (HM11.out.below stR_mono hb12);clear hb12 HB9 HB11 HL9 HL11 HM9 HM11 HS11 HS12 HS13 HA11 HF4 HF5 HD4 HD5 HD HX2 HX4 HX5 HC1 HC2 HC3 HC4 HC5 HT;go_wp2_with fail
 have HA13 := hid (((Below.refl w12.heap.size w12).alloc (Nat.le_refl _) (.cells #[.int .i64 1] 3)).alloc (by simp) (.cells #[.int .i64 0, .int .i64 0, .slice (some ⟨w12.heap.size, 0, none⟩) 1 1, .int .i64 0, .int .i64 0, .slice none 0 0] 48));have HB13 := hid (HB12.out.trans (HA13.out.mono HB12.out.size));have HL13 := hid (HL12.out.below stR_mono HA13.out);have HM13 := hid (HM12.out.below stR_mono HA13.out)
 have HO13 := hid (st_lit4 (W := (w12.alloc (.cells #[.int .i64 1] 3)).alloc (.cells #[.int .i64 0, .int .i64 0, .slice (some ⟨w12.heap.size, 0, none⟩) 1 1, .int .i64 0, .int .i64 0, .slice none 0 0] 48)) (b := w12.heap.size + 1) (g := w12.heap.size)
  (by have := (MapKept.heap_alloc (w12.alloc (.cells #[.int .i64 1] 3)) (.cells #[.int .i64 0, .int .i64 0, .slice (some ⟨w12.heap.size, 0, none⟩) 1 1, .int .i64 0, .int .i64 0, .slice none 0 0] 48)).1; rw [show (w12.alloc (.cells #[.int .i64 1] 3)).heap.size = w12.heap.size + 1 by simp] at this; exact this)
  ((int_lit1 (MapKept.heap_alloc w12 (.cells #[.int .i64 1] 3)).1 (show IB (1 : Int) from ⟨by decide, by decide⟩)).below intR_mono ((Below.refl _ _).alloc (Nat.le_refl _) _)))
 refine (porder_any _ st4 _ HO13.out (by decide) (by decide)).mono ?_;rintro e w14 ⟨v14, rfl, hs14, hb14⟩;rw [ex_facts.2.2.2.1.1];rw [ex_facts.2.2.2.1.2] at hs14;have HB14 := hid (HB13.out.trans (hb14.mono HB13.out.size));have HL14 := hid (HL13.out.below stR_mono hb14);have HM14 := hid (HM13.out.below stR_mono hb14);obtain ⟨r14, c14, hv14, _⟩ := id hs14;rw [show (([1, 0] : List Nat).map (Nat.cast : Nat -> Int)).length = 2 from rfl] at hv14;subst hv14;have HN14 := hid (show Sl IntR 1 w14 (.slice r14 2 c14) [1, 0] from hs14);clear hb14 hs14 HB12 HB13 HL12 HL13 HM12 HM13 HO13 HA13;obtain ⟨b, o, rn0, cn0, rfl, hb, _, q01, _⟩ := st_at HL14.out 0 (by decide);obtain ⟨b', o', rn1, cn1, e, _, _, q11, q12, n1, _⟩ := st_at HL14.out 1 (by decide);cases e;obtain ⟨b', o', rn2, cn2, e, _, _, _, q22, n2, _⟩ := st_at HL14.out 2 (by decide);cases e;obtain ⟨bm, om, rm0, cm0, rfl, hbm, _, p01, _⟩ := st_at HM14.out 0 (by decide);obtain ⟨b', o', rm1, cm1, e, _, _, _, p12, n3, _⟩ := st_at HM14.out 1 (by decide);cases e;have l01 : w14.cell? ⟨b, o + 0 * 3 + 1, none⟩ = some (.int .i64 1) := q01;rw [Nat.zero_mul, Nat.add_zero] at l01;have l11 : w14.cell? ⟨b, o + 3 + 1, none⟩ = some (.int .i64 3) := q11;have l12 : w14.cell? ⟨b, o + 3 + 2, none⟩ = some (.slice rn1 2 cn1) := q12;have l22 : w14.cell? ⟨b, o + 6 + 2, none⟩ = some (.slice rn2 1 cn2) := q22;have m01 : w14.cell? ⟨bm, om + 0 * 3 + 1, none⟩ = some (.int .i64 3) := p01;rw [Nat.zero_mul, Nat.add_zero] at m01;have m12 : w14.cell? ⟨bm, om + 3 + 2, none⟩ = some (.slice rm1 1 cm1) := p12;clear q01 q11 q12 q22 p01 p12;have HN1 := hid (show Sl IntR 1 w14 (.slice rn1 2 cn1) [0, 2] from n1);have HN2 := hid (show Sl IntR 1 w14 (.slice rn2 1 cn2) [0] from n2);have HN3 := hid (show Sl IntR 1 w14 (.slice rm1 1 cm1) [0] from n3);clear n1 n2 n3;go_wp2_with fail
 have hal : Below w14.heap.size w14 (w14.alloc (.cells #[.int .i64 0, .int .i64 2] 3)) := (Below.refl _ _).alloc (Nat.le_refl _) _;have HK21 := hid (hal);refine (numbers_any _ _ _ _ _ (HN1.out.below intR_mono HK21.out) (int_lit2 (MapKept.heap_alloc w14 (.cells #[.int .i64 0, .int .i64 2] 3)).1 (show IB (0 : Int) from ⟨by decide, by decide⟩) (show IB (2 : Int) from ⟨by decide, by decide⟩))).mono ?_;rintro e w21 ⟨rfl, hb⟩;rw [decide_eq_true rfl];have HW21 := hid (HK21.out.trans (hb.mono HK21.out.size));have l2221 := bget HW21.out l22;have m0121 := bget HW21.out m01;have m1221 := bget HW21.out m12;clear hal hb;go_wp2_with fail
 have hal : Below w21.heap.size w21 (w21.alloc (.cells #[.int .i64 0] 3)) := (Below.refl _ _).alloc (Nat.le_refl _) _;have HK22 := hid (HW21.out.trans (hal.mono HW21.out.size));refine (numbers_any _ _ _ _ _ (HN2.out.below intR_mono HK22.out) (int_lit1 (MapKept.heap_alloc w21 (.cells #[.int .i64 0] 3)).1 (show IB (0 : Int) from ⟨by decide, by decide⟩))).mono ?_;rintro e w22 ⟨rfl, hb⟩;rw [decide_eq_true rfl];have HW22 := hid (HK22.out.trans (hb.mono HK22.out.size));have m0122 := bget HW22.out m01;have m1222 := bget HW22.out m12;clear hal hb;go_wp2_with fail
 have hal : Below w22.heap.size w22 (w22.alloc (.cells #[.int .i64 0] 3)) := (Below.refl _ _).alloc (Nat.le_refl _) _;have HK23 := hid (HW22.out.trans (hal.mono HW22.out.size));refine (numbers_any _ _ _ _ _ (HN3.out.below intR_mono HK23.out) (int_lit1 (MapKept.heap_alloc w22 (.cells #[.int .i64 0] 3)).1 (show IB (0 : Int) from ⟨by decide, by decide⟩))).mono ?_;rintro e w23 ⟨rfl, hb⟩;rw [decide_eq_true rfl];have HW23 := hid (HK23.out.trans (hb.mono HK23.out.size));clear hal hb;go_wp2_with fail
 have hal : Below w23.heap.size w23 (w23.alloc (.cells #[.int .i64 1, .int .i64 0] 3)) := (Below.refl _ _).alloc (Nat.le_refl _) _;have HK24 := hid (HW23.out.trans (hal.mono HW23.out.size));refine (numbers_any _ _ _ _ _ (HN14.out.below intR_mono HK24.out) (int_lit2 (MapKept.heap_alloc w23 (.cells #[.int .i64 1, .int .i64 0] 3)).1 (show IB (1 : Int) from ⟨by decide, by decide⟩) (show IB (0 : Int) from ⟨by decide, by decide⟩))).mono ?_;rintro e w24 ⟨rfl, hb⟩;rw [decide_eq_true rfl];have HW24 := hid (HK24.out.trans (hb.mono HK24.out.size));clear hal hb;go_wp2_with fail
 refine (before_any _ st1 0 1 _ (HL14.out.below stR_mono HW24.out) (by decide)).mono ?_;rintro e w25 ⟨rfl, hb25⟩;rw [ex_facts.2.2.2.2.1];have HW25 := hid (HW24.out.trans (hb25.mono HW24.out.size));clear hb25;go_wp2_with fail
 refine (before_any _ st1 1 0 _ (HL14.out.below stR_mono HW25.out) (by decide)).mono ?_;rintro e w26 ⟨rfl, hb26⟩;rw [ex_facts.2.2.2.2.2];have HW26 := hid (HW25.out.trans (hb26.mono HW25.out.size));clear hb26;go_wp2
 go_ret
 exact ⟨rfl, HB14.out.trans (HW26.out.mono HB14.out.size)⟩
end Go.Proofs.YtpnogmicfomofaaGreatDoor.Stp
namespace Go.Proofs.YtpnogmicfomofaaGreatDoor.Stp
open Go.RowKit Go.Sort Go.Lib Go.Maps
open Go.Lib (hid)
open Adr (WT)
attribute [local go_sem] frUpon
end Go.Proofs.YtpnogmicfomofaaGreatDoor.Stp
namespace Go.Proofs.YtpnogmicfomofaaGreatDoor.Stp
open Go.RowKit Go.Sort Go.Lib Go.Maps
theorem firstB_iff {a : Int} {c : Bool} : firstB a c = true ↔ a = 3 /\ c = true := by
 unfold firstB opA opB
 by_cases h3 : a = 3
 . subst h3
   cases c <;> simp
 . by_cases h1 : a = 1
   . subst h1; simp
   . simp [h3]
theorem lastB_iff {a : Int} {c : Bool} : lastB a c = true ↔ a = 3 /\ c = false := by
 unfold lastB opA opB
 by_cases h3 : a = 3
 . subst h3
   cases c <;> simp
 . by_cases h4 : a = 4
   . subst h4; simp
   . simp [h3]
theorem plusK_mem {cs : List Ch} {k : Nat} {p : Nat × Int} (h : p ∈ plusK cs k) : ∃ hk : k < cs.length, p.1 = k /\ p.2 ∈ opl cs[k] := by
 unfold plusK at h;cases hc : cs[k]? with
 | none => rw [hc] at h; simp at h
 | some c =>
   rw [hc] at h;obtain ⟨hk, e⟩ := List.getElem?_eq_some_iff.1 hc;simp only [List.mem_map] at h;obtain ⟨o, ho, rfl⟩ := h;exact ⟨hk, rfl, by rw [e]; exact ho⟩
theorem psK_mem {cs : List Ch} {k : Nat} {p : Nat × Int} (h : p ∈ psK cs k) : ∃ hk : p.1 < cs.length, p.1 < k /\ p.2 ∈ opl cs[p.1] := by
 unfold psK at h;obtain ⟨i, hi, hp⟩ := List.mem_flatMap.1 h;obtain ⟨h1, h2, h3⟩ := plusK_mem hp;obtain ⟨p1, p2⟩ := p;simp only at h2 h3 ⊢;subst h2;exact ⟨h1, List.mem_range.1 hi, h3⟩
theorem psF_at {cs : List Ch} {j : Nat} (hj : j < (psF cs).length) : ∃ hk : ((psF cs)[j]).1 < cs.length, ((psF cs)[j]).2 ∈ opl cs[((psF cs)[j]).1] := by
 obtain ⟨h1, _, h2⟩ := psK_mem (cs := cs) (k := cs.length) (List.getElem_mem hj);exact ⟨h1, h2⟩
theorem rsK_all {cs : List Ch} {k : Nat} (hk : k < cs.length) {o : Int} (h : o ∈ opl cs[k]) : rsK cs cs.length k = resB (cs[k]).addr := by
 unfold rsK;rw [if_pos hk, List.getElem?_eq_getElem hk];simp only;rw [if_neg];intro e;unfold opl at h;rw [e, opB_of e] at h;simp at h
theorem ndK_mem {cs : List Ch} {f : Nat -> ByteArray} {ps : List (Nat × Int)} {a : Nat × Int} {i : Nat} : i ∈ ndK cs f ps a ps.length ↔ ∃ hi : i < ps.length, ndB cs f a ps[i] = true := by
 unfold ndK;rw [List.mem_filter, List.mem_range];constructor
 . rintro ⟨h1, h2⟩
   rw [List.getD_eq_getElem?_getD, List.getElem?_eq_getElem h1] at h2;exact ⟨h1, h2⟩
 . rintro ⟨h1, h2⟩
   rw [List.getD_eq_getElem?_getD, List.getElem?_eq_getElem h1];exact ⟨h1, h2⟩
theorem stF_needs {cs : List Ch} {b : Nat} (hb : b < (psF cs).length) (hb' : b < (stF cs).length) : ((stF cs)[b]).needs = (ndK cs (rsK cs cs.length) (psF cs) (psF cs)[b] (psF cs).length).map Nat.cast := by
 rw [stF_at cs b hb hb'];unfold ndF;rw [List.getD_eq_getElem?_getD, List.getElem?_eq_getElem hb];rfl
theorem stF_nd {cs : List Ch} {a b : Nat} (hb : b < (psF cs).length) : a ∈ nd (nls (stF cs)) b ↔ ∃ ha : a < (psF cs).length, ndB cs (rsK cs cs.length) (psF cs)[b] (psF cs)[a] = true := by
 have hb' : b < (stF cs).length := by rw [stF_len]; exact hb
 rw [nd_nls hb', stF_needs hb hb', List.map_map, <- ndK_mem];simp
theorem stF_right (cs : List Ch) : rightS (stF cs) = true := by
 unfold rightS;rw [List.all_eq_true];intro s hs;obtain ⟨b, hb', rfl⟩ := List.mem_iff_getElem.1 hs;have hb : b < (psF cs).length := by rw [<- stF_len]; exact hb'
 rw [stF_needs hb hb'];rw [List.all_eq_true];intro k hk;obtain ⟨i, hi, rfl⟩ := List.mem_map.1 hk;obtain ⟨h1, _⟩ := ndK_mem.1 hi;have := stF_len cs;simp [inR];omega
end Go.Proofs.YtpnogmicfomofaaGreatDoor.Stp
namespace Go.Proofs.YtpnogmicfomofaaGreatDoor.Stp
open Go.RowKit Go.Sort Go.Lib Go.Maps
theorem rank_order {N : List (List Nat)} (r : Nat -> Nat) (hlt : ∀ i k, k ∈ nd N i -> k < N.length) (hr : ∀ i k, k ∈ nd N i -> r k < r i) : ordEn (List.range N.length) (esN N) = 0 := by
 obtain ⟨h1, _, h3⟩ := ord_fin (List.range N.length) (esN N);rw [ordE_zero];generalize ordF (List.range N.length) (esN N) (List.range N.length).length [] = o at *
 have hall : ∀ (m x : Nat), x < N.length -> r x <= m -> x ∈ o := by
  intro m
  induction m with
  | zero =>
    intro x hx hm;refine Classical.byContradiction fun hn => ?_;have h4 : x ∉ rdL (List.range N.length) o (cnt (esN N) o) := by rw [h3]; simp
    rw [mem_rdL] at h4;have h5 : cnt (esN N) o x ≠ 0 := fun e => h4 ⟨List.mem_range.2 hx, hn, e⟩;refine h5 (cnt_zero.2 fun e he e1 => ?_);obtain ⟨i, k⟩ := e;simp only at e1;subst e1;have := hr i k (mem_esN.1 he);omega
  | succ m ih =>
    intro x hx hm;refine Classical.byContradiction fun hn => ?_;have h4 : x ∉ rdL (List.range N.length) o (cnt (esN N) o) := by rw [h3]; simp
    rw [mem_rdL] at h4;have h5 : cnt (esN N) o x ≠ 0 := fun e => h4 ⟨List.mem_range.2 hx, hn, e⟩;refine h5 (cnt_zero.2 fun e he e1 => ?_);obtain ⟨i, k⟩ := e;simp only at e1;subst e1;have h6 := hr i k (mem_esN.1 he);exact ih k (hlt i k (mem_esN.1 he)) (by omega)
 have h7 := nodup_len (a := List.range N.length) (b := o) List.nodup_range (fun x hx => hall (r x) x (List.mem_range.1 hx) (Nat.le_refl _));have h8 := h1.len;omega
theorem stF_rank {cs : List Ch} (r : Nat × Int -> Nat) (hr : ∀ a b (ha : a < (psF cs).length) (hb : b < (psF cs).length), ndB cs (rsK cs cs.length) (psF cs)[b] (psF cs)[a] = true -> r (psF cs)[a] < r (psF cs)[b]) : ordR (stF cs) = 0 := by
 have hl := stF_len cs;unfold ordR;rw [if_pos (stF_right cs)]
 have h := rank_order (N := nls (stF cs)) (fun i => r ((psF cs).getD i (0, 0))) (fun i k hk => by rw [nls_len]; exact nd_lt (stF_right cs) i k hk) (fun i k hk => by
  have hi : i < (psF cs).length := by
   rcases Nat.lt_or_ge i (psF cs).length with h | h
   . exact h
   . rw [nd_out (by omega)] at hk; cases hk
  obtain ⟨h1, h2⟩ := (stF_nd hi).1 hk;simp only [List.getD_eq_getElem?_getD, List.getElem?_eq_getElem h1, List.getElem?_eq_getElem hi, Option.getD_some];exact hr k i h1 hi h2)
 rw [nls_len] at h;exact h
def prop1 (c : Ch) (b : Bool) : Ch := { c with cf := c.cf || (b && decide (c.act = 3)) }
def propL (cs : List Ch) (g : Nat -> Bool) : List Ch := cs.zipIdx.map fun x => prop1 x.1 (g x.2)
theorem propL_len (cs : List Ch) (g : Nat -> Bool) : (propL cs g).length = cs.length := by simp [propL]
theorem propL_at {cs : List Ch} {g : Nat -> Bool} {i : Nat} (hi : i < cs.length) (hi' : i < (propL cs g).length) : (propL cs g)[i] = prop1 cs[i] (g i) := by simp [propL]
def cfB (c : Ch) : Bool := decide (c.act = 3) && c.cf
def Clo (cs : List Ch) (g : Nat -> Bool) : Prop := ∀ i (hi : i < cs.length), (cfB cs[i] || g i) = true -> ∀ k (hk : k < cs.length), resB (cs[k]).addr ∈ (cs[i]).deps ++ (cs[i]).old -> g k = true
theorem prop_order {cs : List Ch} {g : Nat -> Bool} (hg : Clo cs g) (ρ : ByteArray -> Nat) (M : Nat) (hM : ∀ s, ρ s <= M) (hρ : ∀ i (hi : i < cs.length), ∀ s ∈ (cs[i]).deps ++ (cs[i]).old, ρ s < ρ (resB (cs[i]).addr)) : ordR (stF (propL cs g)) = 0 := by
 let φ : Nat -> Bool := fun i => g i || (match cs[i]? with | some c => cfB c | none => false);let R : Nat -> Nat := fun i => match cs[i]? with | some c => ρ (resB c.addr) | none => 0
 have hφ : ∀ i (hi : i < cs.length), φ i = (g i || cfB cs[i]) := fun i hi => by show (g i || _) = _; rw [List.getElem?_eq_getElem hi]
 have hR : ∀ i (hi : i < cs.length), R i = ρ (resB (cs[i]).addr) := fun i hi => by show (match cs[i]? with | some c => ρ (resB c.addr) | none => 0) = _; rw [List.getElem?_eq_getElem hi]
 have hRM : ∀ i, i < cs.length -> R i <= M := fun i hi => by rw [hR i hi]; exact hM _
 refine stF_rank (fun p => if p.2 = 3 then (if φ p.1 = true then 2 * M + 2 + (M - R p.1) else M - R p.1) else M + 1 + R p.1) ?_;intro a b ha hb hn;obtain ⟨hka, hoa⟩ := psF_at ha;obtain ⟨hkb, hob⟩ := psF_at hb;have hra := rsK_all hka hoa;have hrb := rsK_all hkb hob;generalize hpa : (psF (propL cs g))[a] = pa at *;generalize hpb : (psF (propL cs g))[b] = pb at *;obtain ⟨i, oi⟩ := pa;obtain ⟨j, oj⟩ := pb;simp only at *;have hi : i < cs.length := by rw [<- propL_len cs g]; exact hka
 have hj : j < cs.length := by rw [<- propL_len cs g]; exact hkb
 have hMi := hRM i hi;have hMj := hRM j hj;unfold ndB at hn;simp only at hn
 by_cases h3 : oj = 3
 . rw [if_pos h3] at hn ⊢
   unfold removesB at hn;rw [List.getElem?_eq_getElem hkb, List.getElem?_eq_getElem hka] at hn;simp only at hn
   by_cases hij : j = i
   . subst hij
     rw [if_pos rfl, Bool.and_eq_true] at hn;have h1 : oi = 1 := by simpa using hn.1
     have h2 := firstB_iff.1 hn.2;rw [propL_at hj hkb] at h2
     have hf : φ j = true := by
       rw [hφ j hj];obtain ⟨x1, x2⟩ := h2;have x1 : (cs[j]).act = 3 := x1;have x2 : ((cs[j]).cf || (g j && decide ((cs[j]).act = 3))) = true := x2;rw [x1] at x2;unfold cfB;rw [x1];cases hc : (cs[j]).cf <;> cases hgj : g j <;> simp_all
     rw [if_neg (by omega), if_pos hf];omega
   . rw [if_neg hij] at hn
     by_cases h4 : oi = 3
     . rw [if_pos h4] at hn ⊢
       rw [hrb, inS_iff, propL_at hi hka, propL_at hj hkb] at hn;have hn : resB (cs[j]).addr ∈ (cs[i]).old := hn;have h5 := hρ i hi _ (List.mem_append_right _ hn);rw [<- hR i hi, <- hR j hj] at h5
       by_cases h6 : φ i = true
       . have h7 : φ j = true := by
           rw [hφ j hj];rw [hφ i hi, Bool.or_comm] at h6;rw [hg i hi h6 j hj (List.mem_append_right _ hn)];rfl
         rw [if_pos h6, if_pos h7];omega
       . rw [if_neg h6]
         split <;> omega
     . rw [if_neg h4] at hn ⊢
       rw [Bool.and_eq_true, Bool.and_eq_true] at hn;have h2 := firstB_iff.1 hn.1.1;rw [propL_at hj hkb] at h2
       have hf : φ j = true := by
         rw [hφ j hj];obtain ⟨x1, x2⟩ := h2;have x1 : (cs[j]).act = 3 := x1;have x2 : ((cs[j]).cf || (g j && decide ((cs[j]).act = 3))) = true := x2;rw [x1] at x2;unfold cfB;rw [x1];cases hc : (cs[j]).cf <;> cases hgj : g j <;> simp_all
       rw [if_pos hf];omega
 . rw [if_neg h3] at hn ⊢
   unfold makesB at hn;rw [List.getElem?_eq_getElem hkb] at hn;simp only at hn
   by_cases hij : j = i
   . subst hij
     rw [if_pos rfl, Bool.and_eq_true, Bool.and_eq_true] at hn;have h4 : oi = 3 := by simpa using hn.1.2
     have h2 := lastB_iff.1 hn.2;rw [propL_at hj hkb] at h2
     have hf : ¬ φ j = true := by
       rw [hφ j hj];obtain ⟨x1, x2⟩ := h2;have x1 : (cs[j]).act = 3 := x1;have x2 : ((cs[j]).cf || (g j && decide ((cs[j]).act = 3))) = false := x2;rw [x1] at x2;unfold cfB;rw [x1];cases hc : (cs[j]).cf <;> cases hgj : g j <;> simp_all
     rw [if_pos h4, if_neg hf];omega
   . rw [if_neg hij, Bool.and_eq_true] at hn
     have h4 : oi ≠ 3 := by simpa using hn.1
     have hn2 := hn.2;rw [hra, inS_iff, propL_at hi hka, propL_at hj hkb] at hn2;have hn2 : resB (cs[i]).addr ∈ (cs[j]).deps := hn2;have h5 := hρ j hj _ (List.mem_append_left _ hn2);rw [<- hR i hi, <- hR j hj] at h5;rw [if_neg h4];omega
end Go.Proofs.YtpnogmicfomofaaGreatDoor.Stp
namespace Go.Proofs.YtpnogmicfomofaaGreatDoor.Stp
open Go.RowKit Go.Sort Go.Lib Go.Maps
open Go.Lib (hid)
def isR (cs : List Ch) (r : ByteArray) (i : Nat) : Bool := match cs[i]? with | some c => decide (resB c.addr = r) | none => false
def atN (cs : List Ch) (k : Nat) (r : ByteArray) : List Nat := (List.range k).filter (isR cs r)
theorem isR_at {cs : List Ch} {r : ByteArray} {i : Nat} (hi : i < cs.length) : isR cs r i = decide (resB (cs[i]).addr = r) := by unfold isR; rw [List.getElem?_eq_getElem hi]
theorem atN_succ {cs : List Ch} {k : Nat} (hk : k < cs.length) (r : ByteArray) : atN cs (k + 1) r = if resB (cs[k]).addr = r then atN cs k r ++ [k] else atN cs k r := by
 unfold atN;rw [List.range_succ, List.filter_append]
 by_cases h : resB (cs[k]).addr = r
 . rw [if_pos h]; simp [List.filter_cons, isR_at hk, h]
 . rw [if_neg h]; simp [List.filter_cons, isR_at hk, h]
theorem atN_len (cs : List Ch) (k : Nat) (r : ByteArray) : (atN cs k r).length <= k := by
 unfold atN;have := List.length_filter_le (isR cs r) (List.range k);simpa using this
theorem atN_lt {cs : List Ch} {k : Nat} {r : ByteArray} : ∀ i ∈ atN cs k r, i < k := fun i hi => List.mem_range.1 (List.mem_filter.1 hi).1
theorem mem_atN {cs : List Ch} {r : ByteArray} {i : Nat} (hi : i < cs.length) (h : resB (cs[i]).addr = r) : i ∈ atN cs cs.length r := List.mem_filter.2 ⟨List.mem_range.2 hi, by rw [isR_at hi]; exact decide_eq_true h⟩
def isC (cs : List Ch) (i : Nat) : Bool := match cs[i]? with | some c => cfB c | none => false
theorem isC_at {cs : List Ch} {i : Nat} (hi : i < cs.length) : isC cs i = cfB cs[i] := by unfold isC; rw [List.getElem?_eq_getElem hi]
def cfN (cs : List Ch) (k : Nat) : List Nat := (List.range k).filter (isC cs)
theorem cfN_succ {cs : List Ch} {k : Nat} (hk : k < cs.length) : cfN cs (k + 1) = if cfB cs[k] = true then cfN cs k ++ [k] else cfN cs k := by
 unfold cfN;rw [List.range_succ, List.filter_append]
 by_cases h : cfB cs[k] = true
 . rw [if_pos h]; simp [List.filter_cons, isC_at hk, h]
 . rw [if_neg h]; simp [List.filter_cons, isC_at hk, h]
theorem cfN_len (cs : List Ch) (k : Nat) : (cfN cs k).length <= k := by
 unfold cfN;have := List.length_filter_le (isC cs) (List.range k);simpa using this
theorem cfN_lt {cs : List Ch} {k : Nat} : ∀ i ∈ cfN cs k, i < k := fun i hi => List.mem_range.1 (List.mem_filter.1 hi).1
def Suc (cs : List Ch) (i k : Nat) : Prop := ∃ (hi : i < cs.length) (hk : k < cs.length), resB (cs[k]).addr ∈ (cs[i]).deps ++ (cs[i]).old
def Wk (cs : List Ch) (sn L : List Nat) : Prop := ∀ i (hi : i < cs.length), (cfB cs[i] = true ∨ i ∈ sn) -> i ∈ L ∨ ∀ k, Suc cs i k -> k ∈ sn
def WkX (cs : List Ch) (x : Nat) (sn L : List Nat) : Prop := ∀ i (hi : i < cs.length), (cfB cs[i] = true ∨ i ∈ sn) -> i ∈ L ∨ i = x ∨ ∀ k, Suc cs i k -> k ∈ sn
theorem Wk.start (cs : List Ch) : Wk cs [] (cfN cs cs.length) := fun i hi h => by
 rcases h with h | h
 . exact .inl (List.mem_filter.2 ⟨List.mem_range.2 hi, by rw [isC_at hi]; exact h⟩)
 . cases h
theorem Wk.pop {cs : List Ch} {sn L : List Nat} {x : Nat} (h : Wk cs sn (L ++ [x])) : WkX cs x sn L := fun i hi hh => by
 rcases h i hi hh with h1 | h1
 . rcases List.mem_append.1 h1 with h1 | h1
   . exact .inl h1
   . exact .inr (.inl (by simpa using h1))
 . exact .inr (.inr h1)
theorem WkX.push {cs : List Ch} {sn L : List Nat} {x : Nat} (h : WkX cs x sn L) (y : Nat) : WkX cs x (sn ++ [y]) (L ++ [y]) := fun i hi hh => by
 by_cases e : i = y
 . exact .inl (by simp [e])
 . have hh : cfB cs[i] = true ∨ i ∈ sn := hh.imp_right fun h2 => by
    rcases List.mem_append.1 h2 with h2 | h2
    . exact h2
    . simp at h2; exact absurd h2 e
   rcases h i hi hh with h1 | h1 | h1
   . exact .inl (List.mem_append_left _ h1)
   . exact .inr (.inl h1)
   . exact .inr (.inr fun k hk => List.mem_append_left _ (h1 k hk))
theorem WkX.done {cs : List Ch} {sn L : List Nat} {x : Nat} (h : WkX cs x sn L) (hx : ∀ k, Suc cs x k -> k ∈ sn) : Wk cs sn L := fun i hi hh => by
 rcases h i hi hh with h1 | h1 | h1
 . exact .inl h1
 . subst h1; exact .inr hx
 . exact .inr h1
def Dn (cs : List Ch) (ns : List ByteArray) (q : Nat) (sn : List Nat) : Prop := ∀ j (hj : j < ns.length), j < q -> ∀ k ∈ atN cs cs.length ns[j], k ∈ sn
theorem Dn.push {cs : List Ch} {ns : List ByteArray} {q : Nat} {sn : List Nat} (h : Dn cs ns q sn) (y : Nat) : Dn cs ns q (sn ++ [y]) := fun j hj hq k hk => List.mem_append_left _ (h j hj hq k hk)
theorem Dn.next {cs : List Ch} {ns : List ByteArray} {q : Nat} {sn : List Nat} (h : Dn cs ns q sn) (hq : q < ns.length) (h2 : ∀ p (hp : p < (atN cs cs.length ns[q]).length), (atN cs cs.length ns[q])[p] ∈ sn) : Dn cs ns (q + 1) sn := fun j hj hjq k hk => by
 by_cases e : j = q
 . subst e
   obtain ⟨p, hp, rfl⟩ := List.mem_iff_getElem.1 hk;exact h2 p hp
 . exact h j hj (by omega) k hk
theorem Dn.suc {cs : List Ch} {x : Nat} {sn : List Nat} (hx : x < cs.length) (h : Dn cs ((cs[x]).deps ++ (cs[x]).old) ((cs[x]).deps ++ (cs[x]).old).length sn) : ∀ k, Suc cs x k -> k ∈ sn := fun k ⟨_, hk, hm⟩ => by
 obtain ⟨j, hj, e⟩ := List.mem_iff_getElem.1 hm;exact h j hj hj k (by rw [e]; exact mem_atN hk rfl)
theorem Wk.clo {cs : List Ch} {sn : List Nat} (h : Wk cs sn []) : Clo cs (fun k => hasN k sn) := fun i hi hh k hk hm => by
 have hh : cfB cs[i] = true ∨ i ∈ sn := by
  rw [Bool.or_eq_true] at hh;exact hh.imp_right fun h => hasN_iff.1 h
 rcases h i hi hh with h1 | h1
 . cases h1
 . exact hasN_iff.2 (h1 k ⟨hi, hk, hm⟩)
def nilJ : Value := .slice none 0 0
structure GrJ (B : Nat) (w : World) (b n : Nat) (F : ByteArray -> List Nat) (vo : Value) : Prop where
 ex : ∃ c f, OwnF w Tryz.prog 9 strLit b n c f /\ (∀ x, OwnI B w ((f x).getD nilJ) ((F x).map Nat.cast)) /\ (∀ x y, x ≠ y -> Apart ((f x).getD nilJ) ((f y).getD nilJ)) /\ ∀ x, Apart ((f x).getD nilJ) vo
 lt : b < B
theorem ownF_below {κ : Type} {P : Program} {k : TypeId} {lit : κ -> Lit} {w w' : World} {b n c : Nat} {f : κ -> Option Value} (h : OwnF w P k lit b n c f) (hb : Below w.heap.size w w') : OwnF w' P k lit b n c f := h.kept (grown_below hb) (by simp)
theorem zslJ (w : World) : (zeroValue 40).run Tryz.prog w = .ok nilJ w := by kernel_rfl
theorem GrJ.start (w : World) (B : Nat) (hB : w.heap.size < B) : GrJ B (w.alloc (.map #[] 0)) w.heap.size 0 (fun _ => []) nilJ :=
 ⟨⟨0, _, OwnF.made w Tryz.prog 9 strLit, fun x => ownI_nil _ _, fun x y _ => Apart.nil' _, fun x => Apart.nil _⟩, hB⟩
theorem GrJ.below {B : Nat} {w w' : World} {b n : Nat} {F : ByteArray -> List Nat} {vo : Value} (h : GrJ B w b n F vo) (hb : Below w.heap.size w w') : GrJ B w' b n F vo := by
 obtain ⟨c, f, h1, h2, h3, h4⟩ := h.ex;exact ⟨⟨c, f, ownF_below h1 hb, fun x => (h2 x).below hb, h3, h4⟩, h.lt⟩
theorem apart_newJ {a b : Value} {H g n cap : Nat} (hl : ∀ k, a.ownBlock = some k -> k < H) (h : Apart a b) (hat : b.ownBlock = some g ∨ H <= g) : Apart a (.slice (some ⟨g, 0, none⟩) n cap) := by
 intro k hk e;simp [Value.ownBlock] at e;subst e;rcases hat with hat | hat
 . exact h g hk hat
 . have := hl _ hk; omega
theorem GrJ.push {B : Nat} {W w3 w4 : World} {b n cc : Nat} {f : ByteArray -> Option Value} {F : ByteArray -> List Nat} {x : ByteArray} {y : Nat} {v vo : Value} {g cap H : Nat} (hv : (f x).getD nilJ = v) (hrow : ∀ z, OwnI B W ((f z).getD nilJ) ((F z).map Nat.cast))
  (hap : ∀ x y, x ≠ y -> Apart ((f x).getD nilJ) ((f y).getD nilJ)) (hvo : ∀ x, Apart ((f x).getD nilJ) vo) (hol : ∀ k, vo.ownBlock = some k -> k < W.heap.size)
  (hm : MoreI B W v ((F x).map Nat.cast ++ [(y : Int)]) H g cap w3) (hH : W.heap.size <= H) (ho4 : OwnF w4 Tryz.prog 9 strLit b (n + 1) cc (upd f x (some (.slice (some ⟨g, 0, none⟩) ((F x).length + 1) cap)))) (hg4 : w3.grownBy w4 (some b)) (hb : b < B) :
  GrJ B w4 b (n + 1) (fun z => if x = z then F z ++ [y] else F z) vo := by
 subst hv;obtain ⟨m1, m2, m3, m4⟩ := hm;rw [List.length_append, List.length_singleton, List.length_map] at m1;have hlt : ∀ z k, ((f z).getD nilJ).ownBlock = some k -> k < W.heap.size := fun z k hk => ((hrow z).lt k hk).2;have m3' : ((f x).getD nilJ).ownBlock = some g ∨ W.heap.size <= g := m3.imp_right fun e => by omega
 refine ⟨⟨cc, _, ho4, fun z => ?_, fun z z' hzz => ?_, fun z => ?_⟩, hb⟩
 . by_cases e : x = z
   . subst e
     rw [if_pos rfl, upd_same, List.map_append, List.map_singleton];exact m1.kept hg4 fun k hk e => by cases e; have := (m1.lt _ hk).1; omega
   . rw [if_neg e, upd_other _ _ (fun h => e h.symm)]
     have h1 := (hrow z).kept m2 fun k hk e' => hap z x (fun h => e h.symm) k hk e';exact h1.kept hg4 fun k hk e => by cases e; have := (h1.lt _ hk).1; omega
 . by_cases e : x = z
   . subst e
     rw [upd_same, upd_other _ _ (fun h => hzz h.symm)];exact (apart_newJ (hlt z') (hap z' x (fun h => hzz h.symm)) m3').symm
   . by_cases e' : x = z'
     . subst e'
       rw [upd_same, upd_other _ _ hzz];exact apart_newJ (hlt z) (hap z x hzz) m3'
     . rw [upd_other _ _ (fun h => e h.symm), upd_other _ _ (fun h => e' h.symm)]
       exact hap z z' hzz
 . by_cases e : x = z
   . subst e
     rw [upd_same];exact (apart_newJ hol (hvo x).symm m3').symm
   . rw [upd_other _ _ (fun h => e h.symm)]
     exact hvo z
theorem GrJ.todo {B B' : Nat} {W w' : World} {b n : Nat} {F : ByteArray -> List Nat} {vo v' : Value} {xs : List Int} (h : GrJ B W b n F vo) (hb : vo.ownBlock ≠ some b) (hm : MoreJ B' W vo xs v' w') : GrJ B w' b n F v' := by
 obtain ⟨c, f, h1, h2, h3, h4⟩ := h.ex;obtain ⟨m1, m2, m3⟩ := hm;refine ⟨⟨c, f, h1.kept m2 (fun e => hb e.symm), fun x => (h2 x).kept m2 fun g hg e => h4 x g hg e, h3, fun x g hg e => ?_⟩, h.lt⟩;rcases m3 g e with e2 | e2
 . exact h4 x g hg e2
 . have := ((h2 x).lt g hg).2; omega
structure NdI (B b M n : Nat) (f : ByteArray -> Option Value) (F : ByteArray -> List Nat) (w wr : World) (vo : Value) (sn L : List Nat) : Prop where
 bel : Below w.heap.size w wr
 sz : M + 1 <= wr.heap.size
 mks : Mk M n sn wr
 own : OwnJ B wr vo (L.map Nat.cast)
 nm : vo.ownBlock ≠ some M
 grp : ∃ nn c, OwnF wr Tryz.prog 9 strLit b nn c f /\ (∀ x, OwnI B wr ((f x).getD nilJ) ((F x).map Nat.cast)) /\ ∀ x g, ((f x).getD nilJ).ownBlock = some g -> g < M /\ vo.ownBlock ≠ some g
 hb : w.heap.size <= b /\ b < B /\ B <= M
 inb : ∀ x ∈ L, x < n
 len : L.length + remN (List.range n) sn <= 2 * n
theorem NdI.below {B b M n : Nat} {f : ByteArray -> Option Value} {F : ByteArray -> List Nat} {w wr wr' : World} {vo : Value} {sn L : List Nat} (h : NdI B b M n f F w wr vo sn L) (hb : Below wr.heap.size wr wr') : NdI B b M n f F w wr' vo sn L := by
 obtain ⟨nn, c, g1, g2, g3⟩ := h.grp;exact ⟨h.bel.trans (hb.mono h.bel.size), by have := h.sz; have := hb.size; omega, h.mks.below hb, h.own.below hb, h.nm, ⟨nn, c, ownF_below g1 hb, fun x => (g2 x).below hb, g3⟩, h.hb, h.inb, h.len⟩
theorem NdI.pop {B b M n : Nat} {f : ByteArray -> Option Value} {F : ByteArray -> List Nat} {w wr : World} {r : Option Addr} {cap m x : Nat} {sn L : List Nat} (h : NdI B b M n f F w wr (.slice r m cap) sn (L ++ [x])) : NdI B b M n f F w wr (.slice r L.length cap) sn L := by
 have ho := h.own;rw [List.map_append, List.map_singleton] at ho;have hi := ho.init;rw [List.length_map] at hi;have hsame : (Value.slice r L.length cap).ownBlock = (Value.slice r m cap).ownBlock := by cases r <;> rfl
 obtain ⟨nn, c, g1, g2, g3⟩ := h.grp;exact ⟨h.bel, h.sz, h.mks, hi, by rw [hsame]; exact h.nm, ⟨nn, c, g1, g2, fun x g hg => by rw [hsame]; exact g3 x g hg⟩, h.hb, fun y hy => h.inb y (by simp [hy]), by have := h.len; simp at this; omega⟩
theorem NdI.push {B b M n : Nat} {f : ByteArray -> Option Value} {F : ByteArray -> List Nat} {w wr w4 : World} {vo v4 : Value} {sn L : List Nat} {y : Nat} {ob : Obj} (h : NdI B b M n f F w wr vo sn L) (hy : y < n) (hn : y ∉ sn) (hm : MoreJ B ((wr.setCell ⟨M, y, none⟩ (.bool true)).alloc ob) vo (L.map Nat.cast ++ [(y : Int)]) v4 w4) :
  NdI B b M n f F w w4 v4 (sn ++ [y]) (L ++ [y]) := by
 obtain ⟨m1, m2, m3⟩ := hm;obtain ⟨hb1, hb2, hb3⟩ := h.hb;have hs : ((wr.setCell ⟨M, y, none⟩ (.bool true)).alloc ob).heap.size = wr.heap.size + 1 := by simp [World.setCell]
 have hB3 : Below w.heap.size w ((wr.setCell ⟨M, y, none⟩ (.bool true)).alloc ob) := (h.bel.setCell (by show w.heap.size <= M; omega) _).alloc (by have := h.bel.size; simpa [World.setCell] using this) _;have hal : Below (wr.setCell ⟨M, y, none⟩ (.bool true)).heap.size (wr.setCell ⟨M, y, none⟩ (.bool true)) ((wr.setCell ⟨M, y, none⟩ (.bool true)).alloc ob) := (Below.refl _ _).alloc (Nat.le_refl _) _;have hgs : wr.grownBy (wr.setCell ⟨M, y, none⟩ (.bool true)) (some M) := ⟨rfl, rfl, rfl, by simp [World.setCell], fun k hk hne => Below.heap_setCell _ _ _ _ (fun e => hne (by rw [e]))⟩;obtain ⟨nn, c, g1, g2, g3⟩ := h.grp;have hvl : ∀ g, vo.ownBlock = some g -> B <= g /\ g < wr.heap.size := h.own.lt;have hsz := h.sz;refine ⟨Below.grown hB3 m2 hB3.size (fun g hg => by have := (hvl g hg).1; omega), by have := m2.size; omega, ((h.mks.set hy).below hal).grown m2 h.nm, by rw [List.map_append, List.map_singleton]; exact m1, fun e => ?_, ⟨nn, c, ?_, fun x => ?_, fun x g hg => ⟨(g3 x g hg).1, fun e => ?_⟩⟩, h.hb, ?_, ?_⟩
 . rcases m3 M e with e2 | e2
   . exact h.nm e2
   . omega
 . exact ((ownF_below (g1.kept hgs (by simp; omega)) hal)).kept m2 (fun e => by have := (hvl _ e.symm).1; omega)
 . exact (((g2 x).kept hgs fun g hg e => by cases e; have := (g3 x _ hg).1; omega).below hal).kept m2 fun g hg e => (g3 x g hg).2 e
 . rcases m3 g e with e2 | e2
   . exact (g3 x g hg).2 e2
   . have := (g3 x g hg).1; omega
 . intro z hz
   rw [List.mem_append, List.mem_singleton] at hz;rcases hz with hz | rfl
   . exact h.inb z hz
   . exact hy
 . have h1 := h.len
   have h2 := remN_add (U := List.range n) (List.mem_range.2 hy) hn;simp; omega
end Go.Proofs.YtpnogmicfomofaaGreatDoor.Stp
namespace Go.Proofs.YtpnogmicfomofaaGreatDoor.Stp
open Go.RowKit Go.Sort Go.Lib Go.Maps
def QS (Q : Exit -> Act -> World -> Prop) (N : Act -> World -> Prop) : Exit -> Act -> World -> Prop
 | .normal, a, w => N a w
 | e, a, w => Q e a w
theorem QS_self (Q : Exit -> Act -> World -> Prop) : QS Q (fun a w => Q .normal a w) = Q := by
 funext e a w;cases e <;> rfl
theorem lets_QS {Q : Exit -> Act -> World -> Prop} {N M : Act -> World -> Prop} (h : LetsOut (QS Q N)) : LetsOut (QS Q M) := by
 obtain ⟨a, w, h⟩ := h;exact ⟨a, w, h⟩
theorem upon_QS {P : Program} {o : Oper} {a : Act} {K : Act -> World -> Prop} {Q : Exit -> Act -> World -> Prop} {N M : Act -> World -> Prop} {r : Result Next} (h : o.upon P a K (QS Q N) r) : o.upon P a K (QS Q M) r := by
 cases r with
 | ok x w' =>
   cases x with
   | enter f args =>
     exact Calls.mono h fun e w'' he => by
      cases e with
      | returned v => exact he
      | panicked c => exact he
      | outgrown => exact lets_QS he
   | value v => exact h
   | skip => exact h
   | defer d => exact h
   | row r args => exact h
   | _ => exact h
 | halt x w' =>
   cases x <;> exact h
theorem wp_QS {P : Program} {o : Oper} {a : Act} {w : World} {K : Act -> World -> Prop} {Q : Exit -> Act -> World -> Prop} {N M : Act -> World -> Prop} (h : o.wp P a w K (QS Q N)) : o.wp P a w K (QS Q M) := upon_QS h
theorem wpAny_snoc {P : Program} {md : Region.Mode} {l : List Oper} {o : Oper} {Q : Exit -> Act -> World -> Prop} {N M : Act -> World -> Prop} (hog : o.guard = none)
  (hQ : ∀ a w, N a w -> o.wp P a w M (QS Q M))
  (hac : ∀ (i : Nat) (x : Oper), l[i]? = some x -> ∀ e ∈ x.after, e.on < i) (hgd : ∀ (i : Nat) (x : Oper), l[i]? = some x -> ∀ g b, x.guard = some (g, b) -> g < l.length) (hon : ∀ e ∈ o.after, e.on < l.length)
  (hall : ∀ j, j < l.length -> Bef md (l ++ [o]).toArray j l.length) :
  ∀ (m : Nat) (listed : Array Bool) (a : Act) (w : World), listed.size = l.length -> Dwn md (l ++ [o]).toArray (listed.push false) ->
   wpAny P md l.toArray (QS Q N) m listed a w -> wpAny P md (l ++ [o]).toArray (QS Q M) (m + 1) (listed.push false) a w := by
 have endc : ∀ (m : Nat) (listed : Array Bool) (a : Act) (w : World), listed.size = l.length -> Region.ready md l.toArray listed = [] -> N a w -> wpAny P md (l ++ [o]).toArray (QS Q M) (m + 1) (listed.push false) a w := by
  intro m listed a w hs hr hq;have hl := all_listed hs hac hr
  have hlt : ∀ i, i < l.length -> listed.getD i true = true := fun i hi => by
   have h1 := hl i hi;have h2 : i < listed.size := by omega
   simp [h2] at h1 ⊢;exact h1
  have hmem : l.length ∈ Region.ready md (l ++ [o]).toArray (listed.push false) := mem_ready.2 ⟨by rw [getD_push, if_neg (by omega), if_pos hs.symm], o, by simp, fun e he _ => by
   have := hon e he;rw [getD_push, if_pos (by omega)];exact hl _ this⟩
  have hnone : ∀ i, i ∈ Region.ready md (l ++ [o]).toArray (listed.push false) -> i = l.length := fun i hi => by
   obtain ⟨h0, x, hx, _⟩ := mem_ready.1 hi;refine Classical.byContradiction fun hne => ?_
   have h1 : i < l.length := by
    have := (Array.getElem?_eq_some_iff.1 hx).1;simp at this;omega
   rw [getD_push, if_pos (by omega), hlt i h1] at h0;cases h0
  have hdone : Region.ready md (l ++ [o]).toArray ((listed.push false).setIfInBounds l.length true) = [] := by
   refine List.eq_nil_iff_forall_not_mem.2 fun i hi => ?_;obtain ⟨h0, x, hx, hall2⟩ := mem_ready.1 hi
   by_cases e : l.length = i
   . subst e
     simp [hs] at h0
   . rw [getD_set_ne true e] at h0
     have h1 : i < l.length := by
      have := (Array.getElem?_eq_some_iff.1 hx).1;simp at this;omega
     rw [getD_push, if_pos (by omega), hlt i h1] at h0;cases h0
  refine ⟨fun h => (by rw [h] at hmem; cases hmem), fun i hi => ?_⟩;obtain rfl := hnone i hi;unfold wpOp;have hget : ((l ++ [o]).toArray)[l.length]? = some o := by simp
  rw [hget];simp only;have hwt : Region.wanted o (yielded (l ++ [o]).toArray a.tmps) = true := by unfold Region.wanted; rw [hog]
  rw [if_pos hwt];exact Or.inl (Oper.wp_mono (fun a' w' h => wpAny_done (Q' := QS Q M) hdone h m) (hQ a w hq))
 intro m
 induction m with
 | zero =>
   intro listed a w hs hD h;exact endc 0 listed a w hs h.1 h.2
 | succ m ih =>
   intro listed a w hs hD h
   by_cases hr : Region.ready md l.toArray listed = []
   . exact endc (m + 1) listed a w hs hr (h.1 hr)
   obtain ⟨i0, hi0⟩ := List.exists_mem_of_ne_nil _ hr
   have hsub : ∀ i, i ∈ Region.ready md l.toArray listed -> i < l.length /\ i ∈ Region.ready md (l ++ [o]).toArray (listed.push false) := fun i hi => by
    obtain ⟨h0, x, hx, hall2⟩ := mem_ready.1 hi
    have h1 : i < l.length := by
     have := (Array.getElem?_eq_some_iff.1 hx).1;simpa using this
    refine ⟨h1, mem_ready.2 ⟨by rw [getD_push, if_pos (by omega)]; exact h0, x, by rw [<- hx]; simp [List.getElem?_append_left h1], fun e he hb => ?_⟩⟩;have := hall2 e he hb;have h3 := hac i x (by simpa using hx) e he;rw [getD_push, if_pos (by omega)];exact this
   have hlast : ∀ i, i ∈ Region.ready md (l ++ [o]).toArray (listed.push false) -> i ∈ Region.ready md l.toArray listed := fun i hi => by
    obtain ⟨h0, x, hx, hall2⟩ := mem_ready.1 hi
    by_cases h1 : i < l.length
    . rw [getD_push, if_pos (by omega)] at h0
      have hx' : l.toArray[i]? = some x := by rw [<- hx]; simp [List.getElem?_append_left h1]
      refine mem_ready.2 ⟨h0, x, hx', fun e he hb => ?_⟩;have := hall2 e he hb;have h3 := hac i x (by simpa using hx') e he;rw [getD_push, if_pos (by omega)] at this;exact this
    . have h2 : i = l.length := by
       have := (Array.getElem?_eq_some_iff.1 hx).1;simp at this;omega
      subst h2;have h4 := bef_ready hD hi (hall i0 (hsub i0 hi0).1);rw [getD_push, if_pos (by have := (hsub i0 hi0).1; omega)] at h4;exact absurd h4 (not_listed (mem_ready.1 hi0).1)
   refine ⟨fun h0 => (by have := (hsub i0 hi0).2; rw [h0] at this; cases this), fun i hi => ?_⟩;have hi' := hlast i hi;have hin := (hsub i hi').1;obtain ⟨_, x, hx, _⟩ := mem_ready.1 hi';have h2 := h.2 i hi';have hDn := hD.add hi;rw [set_push (by omega)] at hDn ⊢;have key : ∀ a' w', wpAny P md l.toArray (QS Q N) m (listed.setIfInBounds i true) a' w' -> wpAny P md (l ++ [o]).toArray (QS Q M) (m + 1) ((listed.setIfInBounds i true).push false) a' w' := fun a' w' hh => ih _ _ _ (by simpa using hs) hDn hh;have hx1 : (l ++ [o]).toArray[i]? = some x := by rw [<- hx]; simp [List.getElem?_append_left hin]
   unfold wpOp at h2 ⊢;rw [hx] at h2;rw [hx1];simp only at h2 ⊢;rw [wanted_snoc (hgd i x (by simpa using hx))];split
   . rename_i hwt
     rw [if_pos hwt] at h2;rcases h2 with h2 | ⟨h2, h3⟩
     . exact Or.inl (wp_QS (Oper.wp_mono key h2))
     . exact Or.inr ⟨h2, lets_QS h3⟩
   . rename_i hwt
     rw [if_neg hwt] at h2;exact key _ _ h2
def seqW (P : Program) (Q : Exit -> Act -> World -> Prop) : List Oper -> Act -> World -> Prop
 | [], a, w => Q .normal a w
 | o :: s, a, w => o.wp P a w (seqW P Q s) Q
def tailB : List Oper -> List Oper -> Bool
 | l, [] => true
 | l, o :: s => endB l o && tailB (l ++ [o]) s
theorem dwn_none {md : Region.Mode} {ops : Array Oper} (n : Nat) : Dwn md ops (Array.replicate n false) := fun j k _ hk => by
 exfalso;unfold Array.getD at hk;split at hk <;> simp at hk
theorem wpAny_tail {P : Program} {Q : Exit -> Act -> World -> Prop} : ∀ (s l : List Oper) (m : Nat) (a : Act) (w : World), tailB l s = true -> wpAny P .any l.toArray (QS Q (seqW P Q s)) m (Array.replicate l.length false) a w -> wpAny P .any (l ++ s).toArray Q (m + s.length) (Array.replicate (l ++ s).length false) a w
 | [], l, m, a, w, _, h => by
   rw [show QS Q (seqW P Q []) = Q from QS_self Q] at h;simpa using h
 | o :: s, l, m, a, w, ht, h => by
   unfold tailB at ht;rw [Bool.and_eq_true] at ht;have hL := ht.1;unfold endB at hL;simp only [Bool.and_eq_true] at hL;obtain ⟨⟨⟨hL1, hL2⟩, hL3⟩, hL4⟩ := hL;have hb := backB_spec hL1
   have hall : ∀ j, j < l.length -> Bef .any (l ++ [o]).toArray j l.length := fun j hj => befB_spec _ _ (by
    rw [List.all_eq_true] at hL4;exact hL4 j (List.mem_range.2 hj))
   have hon : ∀ e ∈ o.after, e.on < l.length := fun e he => by
    have := Array.all_eq_true_iff_forall_mem.1 hL3 e he;simpa using this
   have h2 := wpAny_snoc (P := P) (md := .any) (l := l) (o := o) (Q := Q) (N := seqW P Q (o :: s)) (M := seqW P Q s) (by simpa using hL2) (fun a w hh => by
    have hh : o.wp P a w (seqW P Q s) Q := hh;have h9 : o.wp P a w (seqW P Q s) (QS Q (fun a w => Q .normal a w)) := by rw [QS_self]; exact hh
    exact wp_QS h9) (fun i x hx => (hb i x hx).1) (fun i x hx => (hb i x hx).2) hon hall m (Array.replicate l.length false) a w (by simp) (by rw [<- Array.replicate_succ]; exact dwn_none _) h
   rw [<- Array.replicate_succ] at h2;have h3 := wpAny_tail s (l ++ [o]) (m + 1) a w ht.2 (by simpa using h2);rw [List.append_assoc] at h3;simpa [Nat.add_assoc, Nat.add_comm 1] using h3
theorem wp_region_tail {P : Program} {id : Nat} {Q : Exit -> Act -> World -> Prop} {a : Act} {w : World} {l s ops : List Oper} (sp : Nat -> Option Spc) (ho : ops = l ++ s) (hm : P.follows .mixedOrders = true) (hB : Region.lexB .any l.toArray = true) (hL : tailB l s = true)
  (h : wpF P .any l.toArray (fun w' => ∃ p : Regrown, w' = grow (redrawn w p.d) p.os) sp (fun E a' => ∀ w', Grw w w' -> (∀ j, E j w') -> seqW P Q s a' w') l 0 (fun _ _ => True) a) : (Code.region id ops.toArray true).wp P Q a w := by
 subst ho;simp only [Region.lexB, Bool.and_eq_true] at hB;refine wp_region_any hm ?_;have hF := wpAnyF_lex (P := P) (md := .any) hB.1 l 0 (Array.replicate l.toArray.size false) (fun _ _ => True) a (by simp) (by simpa using hB.2) (dwn_none _) h;have h1 := wpAny_of_F (Q := fun E a' => ∀ w', Grw w w' -> (∀ j, E j w') -> seqW P Q s a' w') (Q' := QS Q (seqW P Q s)) (C := fun w' => ∃ p : Regrown, w' = grow (redrawn w p.d) p.os) (sp := sp) (fun w1 w2 h1 h2 => grw_lat h1 h2) (fun E a w' hw' hE h => h w' hw' hE) _ _ (fun _ _ => True) a { w with drawn := w.drawn + 1 } ⟨⟨w.drawn + 1, #[]⟩, by rw [grow_empty]; rfl⟩ (fun _ => trivial) (fun _ _ _ _ _ => trivial) hF;have h2 := wpAny_tail s l l.length a { w with drawn := w.drawn + 1 } hL (by simpa using h1);simpa using h2
end Go.Proofs.YtpnogmicfomofaaGreatDoor.Stp
namespace Go.Proofs.YtpnogmicfomofaaGreatDoor.Stp
open Go.RowKit Go.Sort Go.Lib Go.Maps
open Go.Lib (hid)
open Adr (WT)
attribute [local go_sem] frUpon
attribute [local go_sem ↓] ldC_eq
attribute [local go_sem] ldC_run
attribute [local go_sem ↓] stC_eq
attribute [local go_sem] stC_run there_drew there_new put22_drew put22_new lies_new rd22_new lies_drew rd22_drew lies_drewN rd22_drewN
theorem setCells_other (l : List Value) : ∀ (W : World) (b o : Nat) {b' : Nat}, b' ≠ b -> (W.setCells b o l).heap[b']? = W.heap[b']? := by
 induction l with
 | nil => intros; rfl
 | cons v l ih =>
   intro W b o b' h;show ((W.setCell ⟨b, o, none⟩ v).setCells b (o + 1) l).heap[b']? = _;rw [ih _ _ _ h, Below.heap_setCell _ _ _ _ h]
theorem setCells_size (l : List Value) : ∀ (W : World) (b o : Nat), (W.setCells b o l).heap.size = W.heap.size := by
 induction l with
 | nil => intros; rfl
 | cons v l ih =>
   intro W b o;show ((W.setCell ⟨b, o, none⟩ v).setCells b (o + 1) l).heap.size = _;rw [ih];simp [World.setCell]
theorem setCells_below {B : Nat} {w0 : World} (l : List Value) : ∀ (W : World) (b o : Nat), Below B w0 W -> B <= b -> Below B w0 (W.setCells b o l) := by
 induction l with
 | nil => intro W b o h _; exact h
 | cons v l ih =>
   intro W b o h hb;exact ih _ _ _ (h.setCell hb _) hb
theorem setCells_block (l : List Value) (T : TypeId) : ∀ (W : World) (b o : Nat) (Z : Array Value), W.heap[b]? = some (.cells Z T) -> o + l.length <= Z.size -> (W.setCells b o l).heap[b]? = some (.cells (Z.toList.take o ++ l ++ Z.toList.drop (o + l.length)).toArray T) := by
 induction l with
 | nil =>
   intro W b o Z h _;rw [List.append_nil, List.length_nil, Nat.add_zero, List.take_append_drop];exact h
 | cons v l ih =>
   intro W b o Z h hl;rw [List.length_cons] at hl;show ((W.setCell ⟨b, o, none⟩ v).setCells b (o + 1) l).heap[b]? = _;rw [ih (W.setCell ⟨b, o, none⟩ v) b (o + 1) (Z.setIfInBounds o v) (by unfold World.setCell; simp [Array.getElem?_modify, h]) (by simp; omega)];rw [Array.toList_setIfInBounds, splice_set Z.toList o v l (by rw [Array.length_toList]; omega), List.length_cons]
def stV (a : Addr) (v : Value) : Sem Unit := storeVar 29 a v
theorem stV_eq (a : Addr) (v : Value) : storeVar 29 a v = stV a v := rfl
def put5V (W : World) (b o : Nat) (X : Array Value) : World := W.setCells b o X.toList
def ThereV (W : World) (b o : Nat) : Prop := W.there b o 5
def Cells5 (X : Array Value) : Prop := X.size = 5 /\ X.all (·.oneCell') = true
theorem stV_run (W : World) (b o : Nat) (X : Array Value) (h : ThereV W b o) (hX : Cells5 X) : (stV ⟨b, o, none⟩ (.agg X)).run Tryz.prog W = .ok () (put5V W b o X) :=
 run_storeVar_mid W b o _ X (by rw [hX.1]; exact h) (by rw [hX.1]; kernel_rfl) hX.2
theorem there_blk {W : World} {b o n : Nat} {Z : Array Value} {T : TypeId} (h : W.heap[b]? = some (.cells Z T)) (ho : o + n <= Z.size) : W.there b o n := fun j hj => ⟨by
 unfold World.cell?;simp only [h];simp [show o + j < Z.size by omega], by
 unfold World.frozen?;simp only [h];simp⟩
theorem wp_region_tail_7_3 {P : Program} {id : Nat} {Q : Exit -> Act -> World -> Prop} {a : Act} {w : World} {x0 x1 x2 x3 x4 x5 x6 x7 x8 x9 : Oper} (sp : Nat -> Option Spc) (hm : P.follows .mixedOrders = true) (hB : Region.lexB .any [x0, x1, x2, x3, x4, x5, x6].toArray = true) (hL : tailB [x0, x1, x2, x3, x4, x5, x6] [x7, x8, x9] = true)
  (h : wpF P .any [x0, x1, x2, x3, x4, x5, x6].toArray (fun w' => ∃ p : Regrown, w' = grow (redrawn w p.d) p.os) sp (fun E a' => ∀ w', Grw w w' -> (∀ j, E j w') -> seqW P Q [x7, x8, x9] a' w') [x0, x1, x2, x3, x4, x5, x6] 0 (fun _ _ => True) a) : (Code.region id [x0, x1, x2, x3, x4, x5, x6, x7, x8, x9].toArray true).wp P Q a w :=
 wp_region_tail (l := [x0, x1, x2, x3, x4, x5, x6]) (s := [x7, x8, x9]) sp rfl hm hB hL h
theorem wp_region_tail_10_5 {P : Program} {id : Nat} {Q : Exit -> Act -> World -> Prop} {a : Act} {w : World} {x0 x1 x2 x3 x4 x5 x6 x7 x8 x9 x10 x11 x12 x13 x14 : Oper} (sp : Nat -> Option Spc) (hm : P.follows .mixedOrders = true) (hB : Region.lexB .any [x0, x1, x2, x3, x4, x5, x6, x7, x8, x9].toArray = true) (hL : tailB [x0, x1, x2, x3, x4, x5, x6, x7, x8, x9] [x10, x11, x12, x13, x14] = true)
  (h : wpF P .any [x0, x1, x2, x3, x4, x5, x6, x7, x8, x9].toArray (fun w' => ∃ p : Regrown, w' = grow (redrawn w p.d) p.os) sp (fun E a' => ∀ w', Grw w w' -> (∀ j, E j w') -> seqW P Q [x10, x11, x12, x13, x14] a' w') [x0, x1, x2, x3, x4, x5, x6, x7, x8, x9] 0 (fun _ _ => True) a) : (Code.region id [x0, x1, x2, x3, x4, x5, x6, x7, x8, x9, x10, x11, x12, x13, x14].toArray true).wp P Q a w :=
 wp_region_tail (l := [x0, x1, x2, x3, x4, x5, x6, x7, x8, x9]) (s := [x10, x11, x12, x13, x14]) sp rfl hm hB hL h
attribute [local go_sem ↓] stV_eq
structure CvF (w : World) (x : CV) (c : Ch) : Prop where
 cv : CvR w x c
 vb : ∃ v : Val, x.bk = v.kind /\ x.bn = v.num /\ x.bs = v.str /\ x.bi.n = v.items.length /\ x.bl.n = v.keys.length /\ VR5 w x.bi.r x.bi.c x.bl.r x.bl.c v /\ nodes v <= 1000000 /\ nkeys v <= 1100000
 va : ∃ v : Val, x.ak = v.kind /\ x.an = v.num /\ x.at_ = v.str /\ x.ai.n = v.items.length /\ x.al.n = v.keys.length /\ VR5 w x.ai.r x.ai.c x.al.r x.al.c v /\ nodes v <= 1000000 /\ nkeys v <= 1100000
 rp : ∃ xs : List ByteArray, Sl StrR 1 w (.slice x.rp.r x.rp.n x.rp.c) xs /\ xs.length <= 1100000
 dl : c.deps.length <= 1100000 /\ c.old.length <= 1100000
theorem CvF.below {w w' : World} {x : CV} {c : Ch} (hb : Below w.heap.size w w') (h : CvF w x c) : CvF w' x c := by
 obtain ⟨v, a1, a2, a3, a4, a5, a6, a7⟩ := h.vb;obtain ⟨u, b1, b2, b3, b4, b5, b6, b7⟩ := h.va;obtain ⟨xs, c1, c2⟩ := h.rp;exact ⟨cvR_below hb h.cv, ⟨v, a1, a2, a3, a4, a5, a6.below hb, a7⟩, ⟨u, b1, b2, b3, b4, b5, b6.below hb, b7⟩, ⟨xs, c1.below strR_mono hb, c2⟩, h.dl⟩
theorem lies_blk {W : World} {b : Nat} {X : Array Value} {T : TypeId} (h : W.heap[b]? = some (.cells X T)) (hX : Cells22 X) : Lies W b 0 /\ rd22 W b 0 = X := lies_of hX fun j u hj => by
 unfold World.cell?;simp only [h, Nat.zero_add];rw [Array.getElem?_toList] at hj;exact hj
def sAgV (x : Val) : Spc := ⟨fun v => ∃ r c rk ck, v = .agg #[.int .i64 x.kind, .int .i64 x.num, .string x.str, .slice r x.items.length c, .slice rk x.keys.length ck], fun _ _ => True⟩
def sStS (B : Nat) (xs : List ByteArray) : Spc := ⟨fun v => ∃ r c, v = .slice r xs.length c, fun v w => OwnK B w v xs⟩
theorem stStS (B : Nat) (xs : List ByteArray) : ∀ v, Stb ((sStS B xs).R v) := fun v w w' h hl => own_keep h fun g hg => hl.block g (own_lt h hg).2
set_option maxRecDepth 100000 in
set_option maxHeartbeats 16000000 in
theorem lchange_any (x : CV) (c : Ch) (w : World) (h : CvF w x c) :
  Calls Tryz.prog 56 #[.agg x.arr] w fun e w' => ∃ x', e = .returned (.agg x'.arr) /\ CvR (mask (fromB w.heap.size) w') x' c /\ Below w.heap.size w w' := by
 obtain ⟨vb, a1, a2, a3, a4, a5, a6, a7, a8⟩ := h.vb;obtain ⟨va, b1, b2, b3, b4, b5, b6, b7, b8⟩ := h.va;obtain ⟨rp, c1, c2⟩ := h.rp;obtain ⟨d1, d2⟩ := h.dl;obtain ⟨ec1, ec2, ec3, ec4, hdp, hod⟩ := h.cv;have hrn := (sl_len c1).1;have hdn := (sl_len hdp).1;have hon := (sl_len hod).1;rw [hrn] at c1;rw [hdn] at hdp;rw [hon] at hod;have HC1 := hid (fun (W : World) (hW : Below w.heap.size w W) => copied_any vb x.bi.r x.bi.c x.bl.r x.bl.c W (a6.below hW) a7 a8);have HC2 := hid (fun (W : World) (hW : Below w.heap.size w W) => copied_any va x.ai.r x.ai.c x.al.r x.al.c W (b6.below hW) b7 b8);have HS1 := hid (fun (W : World) (hW : Below w.heap.size w W) => clone_any rp x.rp.r x.rp.c W (c1.below strR_mono hW) c2);have HS2 := hid (fun (W : World) (hW : Below w.heap.size w W) => clone_any c.deps x.dp.r x.dp.c W (hdp.below strR_mono hW) d1);have HS3 := hid (fun (W : World) (hW : Below w.heap.size w W) => clone_any c.old x.od.r x.od.c W (hod.below strR_mono hW) d2);have HLD := hid (strs_le hdp);have HLO := hid (strs_le hod);have HEC := hid (And.intro ec1 (And.intro ec2 (And.intro ec3 ec4)))
 have hX : x.arr = #[.string x.ad, .string x.de, .string x.ty, .int .i64 x.ac, .int .i64 x.re, .int .i64 vb.kind, .int .i64 vb.num, .string vb.str, .slice x.bi.r vb.items.length x.bi.c, .slice x.bl.r vb.keys.length x.bl.c, .int .i64 va.kind, .int .i64 va.num, .string va.str, .slice x.ai.r va.items.length x.ai.c, .slice x.al.r va.keys.length x.al.c, .string x.id, .slice x.rp.r rp.length x.rp.c, .bool x.cf, .bool x.pr, .bool x.im, .slice x.dp.r c.deps.length x.dp.c, .slice x.od.r c.old.length x.od.c] := by
  unfold CV.arr;rw [a1, a2, a3, a4, a5, b1, b2, b3, b4, b5, hrn, hdn, hon]
 clear a1 a2 a3 a4 a5 a6 a7 a8 b1 b2 b3 b4 b5 b6 b7 b8 c1 c2 d1 d2 ec1 ec2 ec3 ec4 hdp hod hrn hdn hon h;rw [hX];generalize hdl : c.deps = dl at *;generalize hol : c.old = ol at *;have HDL := hid (And.intro hdl hol);clear hdl hol hX;go_enter Tryz.func56, Tryz.ntmps56;go_wp2_with fail
 have hb2 : Below w.heap.size w ((w.alloc (.cells #[.string x.ad, .string x.de, .string x.ty, .int .i64 x.ac, .int .i64 x.re, .int .i64 vb.kind, .int .i64 vb.num, .string vb.str, .slice x.bi.r vb.items.length x.bi.c, .slice x.bl.r vb.keys.length x.bl.c, .int .i64 va.kind, .int .i64 va.num, .string va.str, .slice x.ai.r va.items.length x.ai.c, .slice x.al.r va.keys.length x.al.c, .string x.id, .slice x.rp.r rp.length x.rp.c, .bool x.cf, .bool x.pr, .bool x.im, .slice x.dp.r dl.length x.dp.c, .slice x.od.r ol.length x.od.c] 31)).alloc (.cells #[.string { data := #[] }, .string { data := #[] }, .string { data := #[] }, .int .i64 0, .int .i64 0, .int .i64 0, .int .i64 0, .string { data := #[] }, .slice none 0 0, .slice none 0 0, .int .i64 0, .int .i64 0, .string { data := #[] }, .slice none 0 0, .slice none 0 0, .string { data := #[] }, .slice none 0 0, .bool false, .bool false, .bool false, .slice none 0 0, .slice none 0 0] 31)) := ((Below.refl _ _).alloc (Nat.le_refl _) _).alloc (by simp) _;have hk0 := two_blk0 w (.cells #[.string x.ad, .string x.de, .string x.ty, .int .i64 x.ac, .int .i64 x.re, .int .i64 vb.kind, .int .i64 vb.num, .string vb.str, .slice x.bi.r vb.items.length x.bi.c, .slice x.bl.r vb.keys.length x.bl.c, .int .i64 va.kind, .int .i64 va.num, .string va.str, .slice x.ai.r va.items.length x.ai.c, .slice x.al.r va.keys.length x.al.c, .string x.id, .slice x.rp.r rp.length x.rp.c, .bool x.cf, .bool x.pr, .bool x.im, .slice x.dp.r dl.length x.dp.c, .slice x.od.r ol.length x.od.c] 31) (.cells #[.string { data := #[] }, .string { data := #[] }, .string { data := #[] }, .int .i64 0, .int .i64 0, .int .i64 0, .int .i64 0, .string { data := #[] }, .slice none 0 0, .slice none 0 0, .int .i64 0, .int .i64 0, .string { data := #[] }, .slice none 0 0, .slice none 0 0, .string { data := #[] }, .slice none 0 0, .bool false, .bool false, .bool false, .slice none 0 0, .slice none 0 0] 31);have hk1 := two_blk1 w (.cells #[.string x.ad, .string x.de, .string x.ty, .int .i64 x.ac, .int .i64 x.re, .int .i64 vb.kind, .int .i64 vb.num, .string vb.str, .slice x.bi.r vb.items.length x.bi.c, .slice x.bl.r vb.keys.length x.bl.c, .int .i64 va.kind, .int .i64 va.num, .string va.str, .slice x.ai.r va.items.length x.ai.c, .slice x.al.r va.keys.length x.al.c, .string x.id, .slice x.rp.r rp.length x.rp.c, .bool x.cf, .bool x.pr, .bool x.im, .slice x.dp.r dl.length x.dp.c, .slice x.od.r ol.length x.od.c] 31) (.cells #[.string { data := #[] }, .string { data := #[] }, .string { data := #[] }, .int .i64 0, .int .i64 0, .int .i64 0, .int .i64 0, .string { data := #[] }, .slice none 0 0, .slice none 0 0, .int .i64 0, .int .i64 0, .string { data := #[] }, .slice none 0 0, .slice none 0 0, .string { data := #[] }, .slice none 0 0, .bool false, .bool false, .bool false, .slice none 0 0, .slice none 0 0] 31);have HZ0 := hid (show ((w.alloc (.cells #[.string x.ad, .string x.de, .string x.ty, .int .i64 x.ac, .int .i64 x.re, .int .i64 vb.kind, .int .i64 vb.num, .string vb.str, .slice x.bi.r vb.items.length x.bi.c, .slice x.bl.r vb.keys.length x.bl.c, .int .i64 va.kind, .int .i64 va.num, .string va.str, .slice x.ai.r va.items.length x.ai.c, .slice x.al.r va.keys.length x.al.c, .string x.id, .slice x.rp.r rp.length x.rp.c, .bool x.cf, .bool x.pr, .bool x.im, .slice x.dp.r dl.length x.dp.c, .slice x.od.r ol.length x.od.c] 31)).alloc (.cells #[.string { data := #[] }, .string { data := #[] }, .string { data := #[] }, .int .i64 0, .int .i64 0, .int .i64 0, .int .i64 0, .string { data := #[] }, .slice none 0 0, .slice none 0 0, .int .i64 0, .int .i64 0, .string { data := #[] }, .slice none 0 0, .slice none 0 0, .string { data := #[] }, .slice none 0 0, .bool false, .bool false, .bool false, .slice none 0 0, .slice none 0 0] 31)).heap.size = w.heap.size + 1 + 1 by simp);generalize (w.alloc (.cells #[.string x.ad, .string x.de, .string x.ty, .int .i64 x.ac, .int .i64 x.re, .int .i64 vb.kind, .int .i64 vb.num, .string vb.str, .slice x.bi.r vb.items.length x.bi.c, .slice x.bl.r vb.keys.length x.bl.c, .int .i64 va.kind, .int .i64 va.num, .string va.str, .slice x.ai.r va.items.length x.ai.c, .slice x.al.r va.keys.length x.al.c, .string x.id, .slice x.rp.r rp.length x.rp.c, .bool x.cf, .bool x.pr, .bool x.im, .slice x.dp.r dl.length x.dp.c, .slice x.od.r ol.length x.od.c] 31)).alloc (.cells #[.string { data := #[] }, .string { data := #[] }, .string { data := #[] }, .int .i64 0, .int .i64 0, .int .i64 0, .int .i64 0, .string { data := #[] }, .slice none 0 0, .slice none 0 0, .int .i64 0, .int .i64 0, .string { data := #[] }, .slice none 0 0, .slice none 0 0, .string { data := #[] }, .slice none 0 0, .bool false, .bool false, .bool false, .slice none 0 0, .slice none 0 0] 31) = W0 at *;have e5 : W0.cell? ⟨w.heap.size, 5, none⟩ = some (.int .i64 vb.kind) := by unfold World.cell?; rw [hk0]; rfl
 have g5 := fun d os => cell_regrown e5 d os;have e6 : W0.cell? ⟨w.heap.size, 6, none⟩ = some (.int .i64 vb.num) := by unfold World.cell?; rw [hk0]; rfl
 have g6 := fun d os => cell_regrown e6 d os;have e7 : W0.cell? ⟨w.heap.size, 7, none⟩ = some (.string vb.str) := by unfold World.cell?; rw [hk0]; rfl
 have g7 := fun d os => cell_regrown e7 d os;have e8 : W0.cell? ⟨w.heap.size, 8, none⟩ = some (.slice x.bi.r vb.items.length x.bi.c) := by unfold World.cell?; rw [hk0]; rfl
 have g8 := fun d os => cell_regrown e8 d os;have e9 : W0.cell? ⟨w.heap.size, 9, none⟩ = some (.slice x.bl.r vb.keys.length x.bl.c) := by unfold World.cell?; rw [hk0]; rfl
 have g9 := fun d os => cell_regrown e9 d os;have e10 : W0.cell? ⟨w.heap.size, 10, none⟩ = some (.int .i64 va.kind) := by unfold World.cell?; rw [hk0]; rfl
 have g10 := fun d os => cell_regrown e10 d os;have e11 : W0.cell? ⟨w.heap.size, 11, none⟩ = some (.int .i64 va.num) := by unfold World.cell?; rw [hk0]; rfl
 have g11 := fun d os => cell_regrown e11 d os;have e12 : W0.cell? ⟨w.heap.size, 12, none⟩ = some (.string va.str) := by unfold World.cell?; rw [hk0]; rfl
 have g12 := fun d os => cell_regrown e12 d os;have e13 : W0.cell? ⟨w.heap.size, 13, none⟩ = some (.slice x.ai.r va.items.length x.ai.c) := by unfold World.cell?; rw [hk0]; rfl
 have g13 := fun d os => cell_regrown e13 d os;have e14 : W0.cell? ⟨w.heap.size, 14, none⟩ = some (.slice x.al.r va.keys.length x.al.c) := by unfold World.cell?; rw [hk0]; rfl
 have g14 := fun d os => cell_regrown e14 d os;have HK0 := hid hk0;have HK1 := hid hk1;have HB2 := hid hb2;have HC1b := hid (fun (W : World) (hW : Below W0.heap.size W0 W) => HC1.out W (hb2.trans (hW.mono hb2.size)));have HC2b := hid (fun (W : World) (hW : Below W0.heap.size W0 W) => HC2.out W (hb2.trans (hW.mono hb2.size)));clear hk0 hk1 hb2 HC1 HC2 e5 e6 e7 e8 e9 e10 e11 e12 e13 e14;refine wp_region_tail_7_3 (fun qq => match qq with | 2 => some (sAgV vb) | 5 => some (sAgV va) | _ => none) (by kernel_rfl) (by kernel_rfl) (by kernel_rfl) ?_
 iterate 2 (refine wpF_quiet (grw_ex _) (by kernel_rfl) rfl (noEnter_op (by rfl)) ?_; intro K hK; go_big_quiet_op; go_big_quiet_on)
 refine wpF_told (sAgV vb) (by kernel_rfl) rfl ⟨_, none, 0, none, 0, rfl⟩ stTrue (fun w4 hw4 hE4 => ?_) ?_
 . have hb4 := grw_below hw4
   have hh := HC1b.out w4 hb4;clear hw4 hE4;go_simp
   go_at_call 84;refine Calls.mono hh ?_;rintro e w5 ⟨r5, c5, rk5, ck5, M5, rfl, _, hb5⟩;exact ⟨_, rfl, hb5, ⟨r5, c5, rk5, ck5, rfl⟩, trivial⟩
 rintro _ ⟨r1, c1, rk1, ck1, rfl⟩
 (refine wpF_put ?_; intro K hK; go_simp; refine hK _ ?_; clear hK K)
 iterate 2 (refine wpF_quiet (grw_ex _) (by kernel_rfl) rfl (noEnter_op (by rfl)) ?_; intro K hK; go_big_quiet_op; go_big_quiet_on)
 refine wpF_told (sAgV va) (by kernel_rfl) rfl ⟨_, none, 0, none, 0, rfl⟩ stTrue (fun w4 hw4 hE4 => ?_) ?_
 . have hb4 := grw_below hw4
   have hh := HC2b.out w4 hb4;clear hw4 hE4;go_simp
   go_at_call 84;refine Calls.mono hh ?_;rintro e w5 ⟨r5, c5, rk5, ck5, M5, rfl, _, hb5⟩;exact ⟨_, rfl, hb5, ⟨r5, c5, rk5, ck5, rfl⟩, trivial⟩
 rintro _ ⟨r2, c2, rk2, ck2, rfl⟩
 (refine wpF_put ?_; intro K hK; go_simp; refine hK _ ?_; clear hK K)
 (refine wpF_quiet (grw_ex _) (by kernel_rfl) rfl (noEnter_op (by rfl)) ?_; intro K hK; go_big_quiet_op; go_big_quiet_on)
 refine wpF_nil ?_;intro w6 hw6 hE6;have hb6 := grw_below hw6;clear hw6 hE6;have hk6 := (hb6.block w.heap.size (by have := HZ0.out; omega)).trans HK0.out;have hk6b := (hb6.block (w.heap.size + 1) (by have := HZ0.out; omega)).trans HK1.out;have hz6 := hb6.size;have HB6 := hid (HB2.out.trans (hb6.mono HB2.out.size));clear hb6 HC1b HC2b;have hc1 : Cells5 #[.int .i64 vb.kind, .int .i64 vb.num, .string vb.str, .slice r1 vb.items.length c1, .slice rk1 vb.keys.length ck1] := ⟨rfl, by simp [Value.oneCell']⟩;have hc2 : Cells5 #[.int .i64 va.kind, .int .i64 va.num, .string va.str, .slice r2 va.items.length c2, .slice rk2 va.keys.length ck2] := ⟨rfl, by simp [Value.oneCell']⟩;have ht6 : ThereV w6 w.heap.size 5 := there_blk hk6 (by simp);have hs1 := stV_run w6 w.heap.size 5 _ ht6 hc1
 have hk7 : (put5V w6 w.heap.size 5 #[.int .i64 vb.kind, .int .i64 vb.num, .string vb.str, .slice r1 vb.items.length c1, .slice rk1 vb.keys.length ck1]).heap[w.heap.size]? = some (.cells #[.string x.ad, .string x.de, .string x.ty, .int .i64 x.ac, .int .i64 x.re, .int .i64 vb.kind, .int .i64 vb.num, .string vb.str, .slice r1 vb.items.length c1, .slice rk1 vb.keys.length ck1, .int .i64 va.kind, .int .i64 va.num, .string va.str, .slice x.ai.r va.items.length x.ai.c, .slice x.al.r va.keys.length x.al.c, .string x.id, .slice x.rp.r rp.length x.rp.c, .bool x.cf, .bool x.pr, .bool x.im, .slice x.dp.r dl.length x.dp.c, .slice x.od.r ol.length x.od.c] 31) := by
  have hh := setCells_block #[.int .i64 vb.kind, .int .i64 vb.num, .string vb.str, .slice r1 vb.items.length c1, .slice rk1 vb.keys.length ck1].toList _ w6 w.heap.size 5 _ hk6 (by simp);refine Eq.trans hh ?_
  kernel_rfl
 have hk7b : (put5V w6 w.heap.size 5 #[.int .i64 vb.kind, .int .i64 vb.num, .string vb.str, .slice r1 vb.items.length c1, .slice rk1 vb.keys.length ck1]).heap[w.heap.size + 1]? = some (.cells #[.string { data := #[] }, .string { data := #[] }, .string { data := #[] }, .int .i64 0, .int .i64 0, .int .i64 0, .int .i64 0, .string { data := #[] }, .slice none 0 0, .slice none 0 0, .int .i64 0, .int .i64 0, .string { data := #[] }, .slice none 0 0, .slice none 0 0, .string { data := #[] }, .slice none 0 0, .bool false, .bool false, .bool false, .slice none 0 0, .slice none 0 0] 31) := by
  have hh := (setCells_other #[.int .i64 vb.kind, .int .i64 vb.num, .string vb.str, .slice r1 vb.items.length c1, .slice rk1 vb.keys.length ck1].toList w6 w.heap.size 5 (b' := w.heap.size + 1) (by omega));unfold put5V;exact hh.trans hk6b
 have hz7 : (put5V w6 w.heap.size 5 #[.int .i64 vb.kind, .int .i64 vb.num, .string vb.str, .slice r1 vb.items.length c1, .slice rk1 vb.keys.length ck1]).heap.size = w6.heap.size := by
  have hh := setCells_size #[.int .i64 vb.kind, .int .i64 vb.num, .string vb.str, .slice r1 vb.items.length c1, .slice rk1 vb.keys.length ck1].toList w6 w.heap.size 5;unfold put5V;exact hh
 have hb7 : Below w.heap.size w (put5V w6 w.heap.size 5 #[.int .i64 vb.kind, .int .i64 vb.num, .string vb.str, .slice r1 vb.items.length c1, .slice rk1 vb.keys.length ck1]) := by
  have hh := setCells_below (B := w.heap.size) (w0 := w) #[.int .i64 vb.kind, .int .i64 vb.num, .string vb.str, .slice r1 vb.items.length c1, .slice rk1 vb.keys.length ck1].toList w6 w.heap.size 5 HB6.out (Nat.le_refl _);unfold put5V;exact hh
 generalize put5V w6 w.heap.size 5 #[.int .i64 vb.kind, .int .i64 vb.num, .string vb.str, .slice r1 vb.items.length c1, .slice rk1 vb.keys.length ck1] = W7 at *;have ht7 : ThereV W7 w.heap.size 10 := there_blk hk7 (by simp);have hs2 := stV_run W7 w.heap.size 10 _ ht7 hc2
 have hk8 : (put5V W7 w.heap.size 10 #[.int .i64 va.kind, .int .i64 va.num, .string va.str, .slice r2 va.items.length c2, .slice rk2 va.keys.length ck2]).heap[w.heap.size]? = some (.cells #[.string x.ad, .string x.de, .string x.ty, .int .i64 x.ac, .int .i64 x.re, .int .i64 vb.kind, .int .i64 vb.num, .string vb.str, .slice r1 vb.items.length c1, .slice rk1 vb.keys.length ck1, .int .i64 va.kind, .int .i64 va.num, .string va.str, .slice r2 va.items.length c2, .slice rk2 va.keys.length ck2, .string x.id, .slice x.rp.r rp.length x.rp.c, .bool x.cf, .bool x.pr, .bool x.im, .slice x.dp.r dl.length x.dp.c, .slice x.od.r ol.length x.od.c] 31) := by
  have hh := setCells_block #[.int .i64 va.kind, .int .i64 va.num, .string va.str, .slice r2 va.items.length c2, .slice rk2 va.keys.length ck2].toList _ W7 w.heap.size 10 _ hk7 (by simp);refine Eq.trans hh ?_
  kernel_rfl
 have hk8b : (put5V W7 w.heap.size 10 #[.int .i64 va.kind, .int .i64 va.num, .string va.str, .slice r2 va.items.length c2, .slice rk2 va.keys.length ck2]).heap[w.heap.size + 1]? = some (.cells #[.string { data := #[] }, .string { data := #[] }, .string { data := #[] }, .int .i64 0, .int .i64 0, .int .i64 0, .int .i64 0, .string { data := #[] }, .slice none 0 0, .slice none 0 0, .int .i64 0, .int .i64 0, .string { data := #[] }, .slice none 0 0, .slice none 0 0, .string { data := #[] }, .slice none 0 0, .bool false, .bool false, .bool false, .slice none 0 0, .slice none 0 0] 31) := by
  have hh := (setCells_other #[.int .i64 va.kind, .int .i64 va.num, .string va.str, .slice r2 va.items.length c2, .slice rk2 va.keys.length ck2].toList W7 w.heap.size 10 (b' := w.heap.size + 1) (by omega));unfold put5V;exact hh.trans hk7b
 have hz8 : (put5V W7 w.heap.size 10 #[.int .i64 va.kind, .int .i64 va.num, .string va.str, .slice r2 va.items.length c2, .slice rk2 va.keys.length ck2]).heap.size = W7.heap.size := by
  have hh := setCells_size #[.int .i64 va.kind, .int .i64 va.num, .string va.str, .slice r2 va.items.length c2, .slice rk2 va.keys.length ck2].toList W7 w.heap.size 10;unfold put5V;exact hh
 have hb8 : Below w.heap.size w (put5V W7 w.heap.size 10 #[.int .i64 va.kind, .int .i64 va.num, .string va.str, .slice r2 va.items.length c2, .slice rk2 va.keys.length ck2]) := by
  have hh := setCells_below (B := w.heap.size) (w0 := w) #[.int .i64 va.kind, .int .i64 va.num, .string va.str, .slice r2 va.items.length c2, .slice rk2 va.keys.length ck2].toList W7 w.heap.size 10 hb7 (Nat.le_refl _);unfold put5V;exact hh
 generalize put5V W7 w.heap.size 10 #[.int .i64 va.kind, .int .i64 va.num, .string va.str, .slice r2 va.items.length c2, .slice rk2 va.keys.length ck2] = W8 at *;have HK8 := hid hk8;have HK8b := hid hk8b;have HB8 := hid hb8;have HZ8 := hid (show w.heap.size + 2 <= W8.heap.size by rw [hz8, hz7]; have := HZ0.out; omega);clear hk8 hk8b hb8 hk7 hk7b hb7 hk6 hk6b ht6 ht7 hz6 hz7 hz8 hc1 hc2;simp only [seqW];go_simp
 have e16 : W8.cell? ⟨w.heap.size, 16, none⟩ = some (.slice x.rp.r rp.length x.rp.c) := by unfold World.cell?; rw [HK8.out]; rfl
 have e20 : W8.cell? ⟨w.heap.size, 20, none⟩ = some (.slice x.dp.r dl.length x.dp.c) := by unfold World.cell?; rw [HK8.out]; rfl
 have e21 : W8.cell? ⟨w.heap.size, 21, none⟩ = some (.slice x.od.r ol.length x.od.c) := by unfold World.cell?; rw [HK8.out]; rfl
 have g16 := fun d os => cell_regrown e16 d os;have g20 := fun d os => cell_regrown e20 d os;have g21 := fun d os => cell_regrown e21 d os;clear hs1 hs2 e16 e20 e21;have HS1b := hid (fun (W : World) (hW : Below W8.heap.size W8 W) => HS1.out W (HB8.out.trans (hW.mono HB8.out.size)));have HS2b := hid (fun (W : World) (hW : Below W8.heap.size W8 W) => HS2.out W (HB8.out.trans (hW.mono HB8.out.size)));have HS3b := hid (fun (W : World) (hW : Below W8.heap.size W8 W) => HS3.out W (HB8.out.trans (hW.mono HB8.out.size)));clear HS1 HS2 HS3;go_wp2_with fail
 refine wp_region_tail_10_5 (fun qq => match qq with | 2 => some (sStS W8.heap.size rp) | 5 => some (sStS W8.heap.size dl) | 8 => some (sStS W8.heap.size ol) | _ => none) (by kernel_rfl) (by kernel_rfl) (by kernel_rfl) ?_
 iterate 2 (refine wpF_quiet (grw_ex _) (by kernel_rfl) rfl (noEnter_op (by rfl)) ?_; intro K hK; go_big_quiet_op; go_big_quiet_on)
 refine wpF_told (sStS W8.heap.size rp) (by kernel_rfl) rfl ⟨_, none, 0, rfl⟩ (stStS _ _) (fun w4 hw4 hE4 => ?_) ?_
 . have hb4 := grw_below hw4
   have hh := HS1b.out w4 hb4;have hz := hb4.size;clear hw4 hE4;go_simp
   go_at_call 45;refine Calls.mono hh ?_;rintro e w5 ⟨v5, rfl, ho5, hb5⟩;obtain ⟨r5, c5, rfl, _⟩ := own_form ho5;exact ⟨_, rfl, hb5, ⟨r5, c5, rfl⟩, own_base ho5 hz⟩
 rintro _ ⟨s1, d1, rfl⟩
 (refine wpF_put ?_; intro K hK; go_simp; refine hK _ ?_; clear hK K)
 iterate 2 (refine wpF_quiet (grw_ex _) (by kernel_rfl) rfl (noEnter_op (by rfl)) ?_; intro K hK; go_big_quiet_op; go_big_quiet_on)
 refine wpF_told (sStS W8.heap.size dl) (by kernel_rfl) rfl ⟨_, none, 0, rfl⟩ (stStS _ _) (fun w4 hw4 hE4 => ?_) ?_
 . have hb4 := grw_below hw4
   have hh := HS2b.out w4 hb4;have hz := hb4.size;clear hw4 hE4;go_simp
   go_at_call 45;refine Calls.mono hh ?_;rintro e w5 ⟨v5, rfl, ho5, hb5⟩;obtain ⟨r5, c5, rfl, _⟩ := own_form ho5;exact ⟨_, rfl, hb5, ⟨r5, c5, rfl⟩, own_base ho5 hz⟩
 rintro _ ⟨s2, d2, rfl⟩
 (refine wpF_put ?_; intro K hK; go_simp; refine hK _ ?_; clear hK K)
 iterate 2 (refine wpF_quiet (grw_ex _) (by kernel_rfl) rfl (noEnter_op (by rfl)) ?_; intro K hK; go_big_quiet_op; go_big_quiet_on)
 refine wpF_told (sStS W8.heap.size ol) (by kernel_rfl) rfl ⟨_, none, 0, rfl⟩ (stStS _ _) (fun w4 hw4 hE4 => ?_) ?_
 . have hb4 := grw_below hw4
   have hh := HS3b.out w4 hb4;have hz := hb4.size;clear hw4 hE4;go_simp
   go_at_call 45;refine Calls.mono hh ?_;rintro e w5 ⟨v5, rfl, ho5, hb5⟩;obtain ⟨r5, c5, rfl, _⟩ := own_form ho5;exact ⟨_, rfl, hb5, ⟨r5, c5, rfl⟩, own_base ho5 hz⟩
 rintro _ ⟨s3, d3, rfl⟩
 (refine wpF_put ?_; intro K hK; go_simp; refine hK _ ?_; clear hK K)
 (refine wpF_quiet (grw_ex _) (by kernel_rfl) rfl (noEnter_op (by rfl)) ?_; intro K hK; go_big_quiet_op; go_big_quiet_on)
 refine wpF_nil ?_;intro w9 hw9 hE9;have hb9 := grw_below hw9;have o2 : OwnK W8.heap.size w9 (.slice s2 dl.length d2) dl := hE9 5;have o3 : OwnK W8.heap.size w9 (.slice s3 ol.length d3) ol := hE9 8;have hk9 := (hb9.block w.heap.size (by have := HZ8.out; omega)).trans HK8.out;have hk9b := (hb9.block (w.heap.size + 1) (by have := HZ8.out; omega)).trans HK8b.out;have HB9 := hid (HB8.out.trans (hb9.mono HB8.out.size));have hz9 := hb9.size;have f16 : w9.frozen? ⟨w.heap.size, 16, none⟩ = false := by unfold World.frozen?; rw [hk9]; rfl
 have f20 : w9.frozen? ⟨w.heap.size, 20, none⟩ = false := by unfold World.frozen?; rw [hk9]; rfl
 have f21 : w9.frozen? ⟨w.heap.size, 21, none⟩ = false := by unfold World.frozen?; rw [hk9]; rfl
 have u16 : w9.cell? ⟨w.heap.size, 16, none⟩ = some (.slice x.rp.r rp.length x.rp.c) := by unfold World.cell?; rw [hk9]; rfl
 have u20 : w9.cell? ⟨w.heap.size, 20, none⟩ = some (.slice x.dp.r dl.length x.dp.c) := by unfold World.cell?; rw [hk9]; rfl
 have u21 : w9.cell? ⟨w.heap.size, 21, none⟩ = some (.slice x.od.r ol.length x.od.c) := by unfold World.cell?; rw [hk9]; rfl
 have hsA : (w9.setCell ⟨w.heap.size, 16, none⟩ (.slice s1 rp.length d1)).heap[w.heap.size]? = some (.cells #[.string x.ad, .string x.de, .string x.ty, .int .i64 x.ac, .int .i64 x.re, .int .i64 vb.kind, .int .i64 vb.num, .string vb.str, .slice r1 vb.items.length c1, .slice rk1 vb.keys.length ck1, .int .i64 va.kind, .int .i64 va.num, .string va.str, .slice r2 va.items.length c2, .slice rk2 va.keys.length ck2, .string x.id, .slice s1 rp.length d1, .bool x.cf, .bool x.pr, .bool x.im, .slice x.dp.r dl.length x.dp.c, .slice x.od.r ol.length x.od.c] 31) := by
  have hh := setCells_block [.slice s1 rp.length d1] _ w9 w.heap.size 16 _ hk9 (by simp);exact Eq.trans (show (w9.setCell ⟨w.heap.size, 16, none⟩ (.slice s1 rp.length d1)).heap[w.heap.size]? = _ from hh) (by kernel_rfl)
 have hsB : ((w9.setCell ⟨w.heap.size, 16, none⟩ (.slice s1 rp.length d1)).setCell ⟨w.heap.size, 20, none⟩ (.slice s2 dl.length d2)).heap[w.heap.size]? = some (.cells #[.string x.ad, .string x.de, .string x.ty, .int .i64 x.ac, .int .i64 x.re, .int .i64 vb.kind, .int .i64 vb.num, .string vb.str, .slice r1 vb.items.length c1, .slice rk1 vb.keys.length ck1, .int .i64 va.kind, .int .i64 va.num, .string va.str, .slice r2 va.items.length c2, .slice rk2 va.keys.length ck2, .string x.id, .slice s1 rp.length d1, .bool x.cf, .bool x.pr, .bool x.im, .slice s2 dl.length d2, .slice x.od.r ol.length x.od.c] 31) := by
  have hh := setCells_block [.slice s2 dl.length d2] _ (w9.setCell ⟨w.heap.size, 16, none⟩ (.slice s1 rp.length d1)) w.heap.size 20 _ hsA (by simp);exact Eq.trans (show ((w9.setCell ⟨w.heap.size, 16, none⟩ (.slice s1 rp.length d1)).setCell ⟨w.heap.size, 20, none⟩ (.slice s2 dl.length d2)).heap[w.heap.size]? = _ from hh) (by kernel_rfl)
 have hsC : (((w9.setCell ⟨w.heap.size, 16, none⟩ (.slice s1 rp.length d1)).setCell ⟨w.heap.size, 20, none⟩ (.slice s2 dl.length d2)).setCell ⟨w.heap.size, 21, none⟩ (.slice s3 ol.length d3)).heap[w.heap.size]? = some (.cells #[.string x.ad, .string x.de, .string x.ty, .int .i64 x.ac, .int .i64 x.re, .int .i64 vb.kind, .int .i64 vb.num, .string vb.str, .slice r1 vb.items.length c1, .slice rk1 vb.keys.length ck1, .int .i64 va.kind, .int .i64 va.num, .string va.str, .slice r2 va.items.length c2, .slice rk2 va.keys.length ck2, .string x.id, .slice s1 rp.length d1, .bool x.cf, .bool x.pr, .bool x.im, .slice s2 dl.length d2, .slice s3 ol.length d3] 31) := by
  have hh := setCells_block [.slice s3 ol.length d3] _ ((w9.setCell ⟨w.heap.size, 16, none⟩ (.slice s1 rp.length d1)).setCell ⟨w.heap.size, 20, none⟩ (.slice s2 dl.length d2)) w.heap.size 21 _ hsB (by simp);exact Eq.trans (show (((w9.setCell ⟨w.heap.size, 16, none⟩ (.slice s1 rp.length d1)).setCell ⟨w.heap.size, 20, none⟩ (.slice s2 dl.length d2)).setCell ⟨w.heap.size, 21, none⟩ (.slice s3 ol.length d3)).heap[w.heap.size]? = _ from hh) (by kernel_rfl)
 have hoC : ∀ b, b ≠ w.heap.size -> (((w9.setCell ⟨w.heap.size, 16, none⟩ (.slice s1 rp.length d1)).setCell ⟨w.heap.size, 20, none⟩ (.slice s2 dl.length d2)).setCell ⟨w.heap.size, 21, none⟩ (.slice s3 ol.length d3)).heap[b]? = w9.heap[b]? := fun b hb => by
  rw [Below.heap_setCell _ _ _ _ hb, Below.heap_setCell _ _ _ _ hb, Below.heap_setCell _ _ _ _ hb]
 have HBC := hid (show Below w.heap.size w (((w9.setCell ⟨w.heap.size, 16, none⟩ (.slice s1 rp.length d1)).setCell ⟨w.heap.size, 20, none⟩ (.slice s2 dl.length d2)).setCell ⟨w.heap.size, 21, none⟩ (.slice s3 ol.length d3)) from ((HB9.out.setCell (Nat.le_refl _) _).setCell (Nat.le_refl _) _).setCell (Nat.le_refl _) _);have hzC : (((w9.setCell ⟨w.heap.size, 16, none⟩ (.slice s1 rp.length d1)).setCell ⟨w.heap.size, 20, none⟩ (.slice s2 dl.length d2)).setCell ⟨w.heap.size, 21, none⟩ (.slice s3 ol.length d3)).heap.size = w9.heap.size := by simp [World.setCell]
 have hkCb := (hoC (w.heap.size + 1) (by omega)).trans hk9b;have HSC := hid hsC;have HOC := hid hoC;have HO2 := hid o2;have HO3 := hid o3;have HCB := hid hkCb;have HZC := hid (And.intro hz9 hzC);clear hE9 hw9 hb9 hsA hsB hsC hoC o2 o3 hk9 hk9b hkCb hz9 hzC;simp only [seqW];go_simp
 generalize (((w9.setCell ⟨w.heap.size, 16, none⟩ (.slice s1 rp.length d1)).setCell ⟨w.heap.size, 20, none⟩ (.slice s2 dl.length d2)).setCell ⟨w.heap.size, 21, none⟩ (.slice s3 ol.length d3)) = WC at *;clear f16 f20 f21 u16 u20 u21;obtain ⟨x', hx', hx2⟩ : ∃ x' : CV, x'.arr = #[.string x.ad, .string x.de, .string x.ty, .int .i64 x.ac, .int .i64 x.re, .int .i64 vb.kind, .int .i64 vb.num, .string vb.str, .slice r1 vb.items.length c1, .slice rk1 vb.keys.length ck1, .int .i64 va.kind, .int .i64 va.num, .string va.str, .slice r2 va.items.length c2, .slice rk2 va.keys.length ck2, .string x.id, .slice s1 rp.length d1, .bool x.cf, .bool x.pr, .bool x.im, .slice s2 dl.length d2, .slice s3 ol.length d3] /\ x' = ⟨x.ad, x.de, x.ty, x.ac, x.re, vb.kind, vb.num, vb.str, ⟨r1, vb.items.length, c1⟩, ⟨rk1, vb.keys.length, ck1⟩, va.kind, va.num, va.str, ⟨r2, va.items.length, c2⟩, ⟨rk2, va.keys.length, ck2⟩, x.id, ⟨s1, rp.length, d1⟩, x.cf, x.pr, x.im, ⟨s2, dl.length, d2⟩, ⟨s3, ol.length, d3⟩⟩ := ⟨_, rfl, rfl⟩;have hkC := HSC.out;rw [<- hx'] at hkC;have HX2 := hid hx2;clear HSC hx' hx2;have hX22 := cells22 x';obtain ⟨l0, l1⟩ := lies_blk hkC hX22;have htC : There WC (w.heap.size + 1) 0 := there_blk HCB.out (by simp);have hsF := stC_run WC (w.heap.size + 1) 0 _ htC hX22
 have hkF : (put22 WC (w.heap.size + 1) 0 x'.arr).heap[w.heap.size + 1]? = some (.cells x'.arr 31) := by
  have hh := setCells_block x'.arr.toList _ WC (w.heap.size + 1) 0 _ HCB.out (by simp [CV.arr]);unfold put22;exact Eq.trans hh (by kernel_rfl)
 have hoF : ∀ b, b ≠ w.heap.size + 1 -> (put22 WC (w.heap.size + 1) 0 x'.arr).heap[b]? = WC.heap[b]? := fun b hb => by
  have hh := setCells_other x'.arr.toList WC (w.heap.size + 1) 0 hb;unfold put22;exact hh
 have hbF : Below w.heap.size w (put22 WC (w.heap.size + 1) 0 x'.arr) := by
  have hh := setCells_below (B := w.heap.size) (w0 := w) x'.arr.toList WC (w.heap.size + 1) 0 HBC.out (by omega);unfold put22;exact hh
 have HBF := hid hbF;have HOF := hid hoF;generalize put22 WC (w.heap.size + 1) 0 x'.arr = WF at *;obtain ⟨m0, m1⟩ := lies_blk hkF hX22;have HM := hid (And.intro m0 m1);clear hkC hkF hoF hbF htC hX22 m0 m1;generalize hXX : x'.arr = XX at *;go_wp2_with fail
 refine bodyPost_ret (v := .agg XX) (results_cell (ad := ⟨w.heap.size + 1, 0, none⟩) rfl rfl (by rw [ldC_run _ _ _ HM.out.1, HM.out.2])) rfl ⟨x', by rw [hXX], ?_, HBF.out⟩;have hx2 := HX2.out;obtain ⟨e1, e2, e3, e4⟩ := HEC.out;obtain ⟨hdl, hol⟩ := HDL.out;have hz8 := HZ8.out;obtain ⟨z1, z2⟩ := HZC.out;have hkeep : ∀ g, W8.heap.size <= g -> WF.heap[g]? = w9.heap[g]? := fun g hg => (HOF.out g (by omega)).trans (HOC.out g (by omega));subst hx2;refine ⟨e1, e2, e3, e4, ?_, ?_⟩
 . rw [hdl]
   exact ownK_sl (B := w.heap.size) (own_mask (own_keep (own_base HO2.out (by omega)) fun g hg => hkeep g (own_lt HO2.out hg).1) fun g hg => by
    have := (own_lt HO2.out hg).1;simp only [fromB, decide_eq_true_eq]; omega) HLD.out
 . rw [hol]
   exact ownK_sl (B := w.heap.size) (own_mask (own_keep (own_base HO3.out (by omega)) fun g hg => hkeep g (own_lt HO3.out hg).1) fun g hg => by
    have := (own_lt HO3.out hg).1;simp only [fromB, decide_eq_true_eq]; omega) HLO.out
end Go.Proofs.YtpnogmicfomofaaGreatDoor.Stp
