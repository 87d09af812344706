import Derived.Test.YtlhekldlfmdmiaaNrd
import Derived.Test.YtlhekldlfmdmiaaNrv
import Derived.Test.YtlhekldlfmdmiaaNon
/-
  GraphShapes: the law's walk. Conditions: those ahead of each theorem.
-/
namespace Go.Proofs.Ytlhekldlfmdmiaa
open Go.RowKit Go.Sort Go.Lib Go.Maps
open Go.Lib (hid)
attribute [local go_sem] frUpon
set_option linter.unusedVariables false
set_option linter.unusedSimpArgs false

set_option maxRecDepth 100000 in
set_option maxHeartbeats 40000000 in
theorem rreach_any (vn ve vf : Value) (ns : List ByteArray) (es : List Ed) (frm : List ByteArray) (w : World) (hN : Sl StrR 1 w vn ns) (hS : Sl EdR 2 w ve es) (hF : Sl StrR 1 w vf frm) (he : endsIn ns es = true) (hnn : ns.length ≤ 10000) (hn : es.length ≤ 10000) (hfn : frm.length ≤ 10000) :
    Calls Try.prog 22 #[.agg #[vn, ve], vf] w (CloP ns es frm w) := by
  obtain ⟨r, c, rfl, _⟩ := id hS
  obtain ⟨rn, cn, rfl, _⟩ := id hN
  obtain ⟨rf, cf, rfl, _⟩ := id hF
  have hB0 : Below w.heap.size w (w.alloc (.cells #[.slice rn ns.length cn, .slice r es.length c] 25)) := (Below.refl _ _).alloc (Nat.le_refl _) _
  have CC := hid (rclosure_any _ _ _ ns es frm (w.alloc (.cells #[.slice rn ns.length cn, .slice r es.length c] 25)) (hN.below strR_mono hB0) (hS.below edR_mono hB0) (hF.below strR_mono hB0) he hnn hn hfn)
  have HB0 := hid hB0
  have HC0 := hid (show (w.alloc (.cells #[.slice rn ns.length cn, .slice r es.length c] 25)).heap[w.heap.size]? = some (.cells #[.slice rn ns.length cn, .slice r es.length c] 25 (0, 0)) from (MapKept.heap_alloc w _).1)
  clear hN hS hF he hB0
  go_enter Try.func22, Try.ntmps22
  go_wp2_with fail
  generalize (w.alloc (.cells #[.slice rn ns.length cn, .slice r es.length c] 25)) = W0 at *
  have z0 := cellv HC0.out 0 rfl
  have z1 := cellv HC0.out 1 rfl
  go_wp2_with fail
  refine CC.out.mono ?_
  rintro e w1 ⟨v1, l1, rfl, hl1, hp1, hb1, hf1⟩
  have HX := hid (show CloP ns es frm w (.returned v1) w1 from ⟨_, l1, rfl, hl1, hp1, HB0.out.trans (hb1.mono HB0.out.size), fun g hg => Nat.le_trans HB0.out.size (hf1 g hg)⟩)
  obtain ⟨r1, c1, rfl, _⟩ := hl1.form
  clear hl1 hp1 hb1 hf1 z0 z1
  go_wp2
  go_ret
  exact HX.out
set_option maxRecDepth 100000 in
set_option maxHeartbeats 40000000 in
theorem gshapes_any (vn ve vl : Value) (ns : List ByteArray) (es : List Ed) (l : List ByteArray) (w : World) (hN : Sl StrR 1 w vn ns) (hS : Sl EdR 2 w ve es) (hL : Sl StrR 1 w vl l) :
    Calls Try.prog 4 #[.agg #[vn, ve], vl] w fun e w' => e = .returned (.bool true) ∧ Below w.heap.size w w' := by
  obtain ⟨r, c, rfl, _⟩ := id hS
  obtain ⟨rn, cn, rfl, _⟩ := id hN
  obtain ⟨_, hl1, hm1⟩ := sl_len hN
  obtain ⟨_, hl2, hm2⟩ := sl_len hS
  have HN := hid (fun (W : World) (hW : Below w.heap.size w W) => hN.below strR_mono hW)
  have HE := hid (fun (W : World) (hW : Below w.heap.size w W) => hS.below edR_mono hW)
  have HB0 := hid (show Below w.heap.size w (w.alloc (.cells #[.slice rn ns.length cn, .slice r es.length c] 25)) from (Below.refl _ _).alloc (Nat.le_refl _) _)
  have HC0 := hid (show (w.alloc (.cells #[.slice rn ns.length cn, .slice r es.length c] 25)).heap[w.heap.size]? = some (.cells #[.slice rn ns.length cn, .slice r es.length c] 25 (0, 0)) from (MapKept.heap_alloc w _).1)
  have HOK := hid (fun h => rightB_ok (ns := ns) (es := es) h)
  obtain ⟨rl, cl, rfl, _⟩ := id hL
  have HL := hid (fun (W : World) (hW : Below w.heap.size w W) => hL.below strR_mono hW)
  have HBd := hid (fun h => lightB_bd (ns := l) (es := []) h)
  clear hL
  clear hN hS
  go_enter Try.func4, Try.ntmps4
  go_wp2_with fail
  generalize (w.alloc (.cells #[.slice rn ns.length cn, .slice r es.length c] 25)) = W0 at *
  have z0 := cellv HC0.out 0 rfl
  have z1 := cellv HC0.out 1 rfl
  go_wp2_with fail
  refine (right_any _ ns es _ W0 (HN.out _ HB0.out) (HE.out _ HB0.out)).mono ?_
  rintro e w1 ⟨rfl, hb1⟩
  have HB1 := hid (HB0.out.trans (hb1.mono HB0.out.size))
  have HC1 := hid ((hb1.block w.heap.size (lt_of_block HC0.out)).trans HC0.out)
  clear hb1 z0 z1
  cases hr : rightB ns es with
  | false =>
    clear hr
    go_wp2_with fail
    refine (awake_any _).mono ?_
    rintro e w9 ⟨rfl, hb9⟩
    have HB9 := hid (HB1.out.trans (hb9.mono HB1.out.size))
    clear hb9
    go_wp2
    go_ret
    exact ⟨rfl, HB9.out⟩
  | true =>
    have hok := HOK.out hr
    have HCH := hid hok.2.2
    clear hr HOK
    obtain ⟨hok1, hok2, _⟩ := hok
    have HNA := hid (chk_iff.1 HCH.out).2.1
    have HAE := hid (chk_iff.1 HCH.out).2.2.2
    have HEN := hid (chk_ends HCH.out)
    have CL := hid (light_any _ l [] _ w1 (HL.out _ HB1.out) (sl_nilE _))
    go_wp2_with fail
    refine CL.out.mono ?_
    rintro e w0 ⟨rfl, rfl⟩
    cases hr2 : lightB l [] with
    | false =>
      clear hr2
      go_wp2_with fail
      refine (awake_any w0).mono ?_
      rintro e w9 ⟨rfl, hb9⟩
      have HB9 := hid (HB1.out.trans (hb9.mono HB1.out.size))
      clear hb9
      go_wp2
      go_ret
      exact ⟨rfl, HB9.out⟩
    | true =>
      have hll := (HBd.out hr2).1
      clear hr2 HBd CL
      have y0 := cellv HC1.out 0 rfl
      have y1 := cellv HC1.out 1 rfl
      go_wp2_with fail
      refine (reduce_any _ ns es _ w0 (HN.out _ HB1.out) (HE.out _ HB1.out) HNA.out HEN.out (by omega) (by omega)).mono ?_
      rintro e w1 ⟨vn1, ve1, rfl, hn1, he1, hb1⟩
      have HRR := hid (fun (W : World) (hn : Sl StrR 1 W _ ns) (he : Sl EdR 2 W _ es) => rreduce_any (.slice rn ns.length cn) (.slice r es.length c) ns es W hn he HCH.out (by omega) (by omega))
      generalize redG ns es = G at *
      obtain ⟨N, E, ge⟩ := G
      simp only at hn1 he1
      obtain ⟨ra, ca, rfl, _⟩ := id hn1
      obtain ⟨sa, da, rfl, _⟩ := id he1
      have hb1' := HB1.out.trans (hb1.mono HB1.out.size)
      have HB2 := hid (show Below w.heap.size w (w1.alloc (.cells #[.slice ra N.length ca, .slice sa E.length da] 25)) from hb1'.alloc hb1'.size _)
      have HN1 := hid (fun (W : World) (hW : Below w1.heap.size w1 W) => hn1.below strR_mono hW)
      have HE1 := hid (fun (W : World) (hW : Below w1.heap.size w1 W) => he1.below edR_mono hW)
      have HA1 := hid (show Below w1.heap.size w1 (w1.alloc (.cells #[.slice ra N.length ca, .slice sa E.length da] 25)) from (Below.refl _ _).alloc (Nat.le_refl _) _)
      have HCa := hid (show (w1.alloc (.cells #[.slice ra N.length ca, .slice sa E.length da] 25)).heap[w1.heap.size]? = some (.cells #[.slice ra N.length ca, .slice sa E.length da] 25 (0, 0)) from (MapKept.heap_alloc w1 _).1)
      have HC2 := hid ((HA1.out.block w.heap.size (by have := hb1.block w.heap.size (lt_of_block HC1.out); exact lt_of_block (this.trans HC1.out))).trans ((hb1.block w.heap.size (lt_of_block HC1.out)).trans HC1.out))
      clear hb1 hb1' hn1 he1 y0 y1
      have y0 := cellv HC2.out 0 rfl
      have y1 := cellv HC2.out 1 rfl
      go_wp2_with fail
      generalize (w1.alloc (.cells #[.slice ra N.length ca, .slice sa E.length da] 25)) = W1 at *
      refine (HRR.out W1 (HN.out _ HB2.out) (HE.out _ HB2.out)).mono ?_
      rintro e w2 ⟨vn2, ve2, rfl, hn2, he2, hb2⟩
      simp only at hn2 he2
      obtain ⟨rb, cb, rfl, _⟩ := id hn2
      obtain ⟨sb, db, rfl, _⟩ := id he2
      have hbw2 := HB2.out.trans (hb2.mono HB2.out.size)
      have hX : Below w2.heap.size w2 (w2.alloc (.cells #[.slice rb N.length cb, .slice sb E.length db] 25)) := (Below.refl _ _).alloc (Nat.le_refl _) _
      have hY := hb2.trans (hX.mono hb2.size)
      have HB3 := hid (show Below w.heap.size w (w2.alloc (.cells #[.slice rb N.length cb, .slice sb E.length db] 25)) from hbw2.trans (hX.mono hbw2.size))
      have HA3 := hid (HA1.out.trans (hY.mono HA1.out.size))
      have HX3 := hid hX
      have HCa3 := hid ((hY.block w1.heap.size (lt_of_block HCa.out)).trans HCa.out)
      have HCg3 := hid ((hY.block w.heap.size (lt_of_block HC2.out)).trans HC2.out)
      have HCb3 := hid (show (w2.alloc (.cells #[.slice rb N.length cb, .slice sb E.length db] 25)).heap[w2.heap.size]? = some (.cells #[.slice rb N.length cb, .slice sb E.length db] 25 (0, 0)) from (MapKept.heap_alloc w2 _).1)
      have HNx := hid (fun (W : World) (hW : Below w2.heap.size w2 W) => hn2.below strR_mono hW)
      have HEx := hid (fun (W : World) (hW : Below w2.heap.size w2 W) => he2.below edR_mono hW)
      clear hb2 hn2 he2 hbw2 hX hY HRR y0 y1
      go_wp2_with fail
      generalize (w2.alloc (.cells #[.slice rb N.length cb, .slice sb E.length db] 25)) = W3 at *
      have HNa := hid (fun (W : World) (hW : Below W3.heap.size W3 W) => HN1.out W (HA3.out.trans (hW.mono HA3.out.size)))
      have HEa := hid (fun (W : World) (hW : Below W3.heap.size W3 W) => HE1.out W (HA3.out.trans (hW.mono HA3.out.size)))
      have HNb := hid (fun (W : World) (hW : Below W3.heap.size W3 W) => HNx.out W (HX3.out.trans (hW.mono HX3.out.size)))
      have HEb := hid (fun (W : World) (hW : Below W3.heap.size W3 W) => HEx.out W (HX3.out.trans (hW.mono HX3.out.size)))
      have HNw := hid (fun (W : World) (hW : Below W3.heap.size W3 W) => HN.out W (HB3.out.trans (hW.mono HB3.out.size)))
      have HEw := hid (fun (W : World) (hW : Below W3.heap.size W3 W) => HE.out W (HB3.out.trans (hW.mono HB3.out.size)))
      have HLw := hid (fun (W : World) (hW : Below W3.heap.size W3 W) => HL.out W (HB3.out.trans (hW.mono HB3.out.size)))
      have COa := hid (fun (W : World) (hW : Below W3.heap.size W3 W) => ponly_any _ ns es _ _ l W (HNw.out W hW) (HEw.out W hW) (HLw.out W hW) (by omega) (by omega) (by omega))
      have COb := hid (fun (W : World) (hW : Below W3.heap.size W3 W) => ronly_any _ _ _ ns es l W (HNw.out W hW) (HEw.out W hW) (HLw.out W hW) HNA.out HEN.out (by omega) (by omega) (by omega))
      unfold OnlP at COa COb
      generalize onlE (tgt es) (ns.filter fun x => hasS x l) (ns.filter fun x => hasS x l) = OE at *
      generalize (ns.filter fun x => hasS x l) = ON at *
      have a0 := cell_regrown (cellv HCa3.out 0 rfl)
      have a1 := cell_regrown (cellv HCa3.out 1 rfl)
      have b0 := cell_regrown (cellv HCb3.out 0 rfl)
      have b1 := cell_regrown (cellv HCb3.out 1 rfl)
      have g0 := cell_regrown (cellv HCg3.out 0 rfl)
      have g1 := cell_regrown (cellv HCg3.out 1 rfl)
      refine wp_region_fresh (fun k => match k with | 6 => some (sBool true) | 11 => some (sLis 60 ns (RchN ns es l)) | 14 => some (sLis 60 ns (RchN ns es l)) | 15 => some (sBool true) | 19 => some (sGr ns (canE (es.map swapE))) | 21 => some (sGr ns (canE (es.map swapE))) | 22 => some (sBool true) | 27 => some (sGr ON OE) | 30 => some (sGr ON OE) | 31 => some (sBool true) | 34 => some (sBool true) | _ => none) (by kernel_rfl) (by kernel_rfl) ?_
      (refine wpF_quiet (grw_ex _) (by kernel_rfl) rfl (noEnter_op (by rfl)) ?_; intro K hK; go_big_quiet_op; go_big_quiet_on)
      (refine wpF_quiet (grw_ex _) (by kernel_rfl) rfl (noEnter_op (by rfl)) ?_; intro K hK; go_big_quiet_op; go_big_quiet_on)
      (refine wpF_quiet (grw_ex _) (by kernel_rfl) rfl (noEnter_op (by rfl)) ?_; intro K hK; go_big_quiet_op; go_big_quiet_on)
      (refine wpF_quiet (grw_ex _) (by kernel_rfl) rfl (noEnter_op (by rfl)) ?_; intro K hK; go_big_quiet_op; go_big_quiet_on)
      (refine wpF_quiet (grw_ex _) (by kernel_rfl) rfl (noEnter_op (by rfl)) ?_; intro K hK; go_big_quiet_op; go_big_quiet_on)
      (refine wpF_quiet (grw_ex _) (by kernel_rfl) rfl (noEnter_op (by rfl)) ?_; intro K hK; go_big_quiet_op; go_big_quiet_on)
      refine wpF_told (sBool true) (by kernel_rfl) rfl ⟨_, rfl⟩ stTrue (fun w4 hw4 hE4 => ?_) ?_
      · have hb4 := grw_below hw4
        clear hw4 hE4
        go_simp
        go_at_call 20
        refine (same_any _ _ _ _ N N E E w4 (HNa.out _ hb4) (HNb.out _ hb4) (HEa.out _ hb4) (HEb.out _ hb4)).mono ?_
        rintro e w5 ⟨rfl, hb5⟩
        rw [same_true]
        exact ⟨_, rfl, hb5, rfl, trivial⟩
      rintro _ rfl
      (refine wpF_put ?_; intro K hK; go_simp; refine hK _ ?_; clear hK K)
      (refine wpF_quiet (grw_ex _) (by kernel_rfl) rfl (noEnter_op (by rfl)) ?_; intro K hK; go_big_quiet_op; go_big_quiet_on)
      (refine wpF_quiet (grw_ex _) (by kernel_rfl) rfl (noEnter_op (by rfl)) ?_; intro K hK; go_big_quiet_op; go_big_quiet_on)
      (refine wpF_quiet (grw_ex _) (by kernel_rfl) rfl (noEnter_op (by rfl)) ?_; intro K hK; go_big_quiet_op; go_big_quiet_on)
      (refine wpF_quiet (grw_ex _) (by kernel_rfl) rfl (noEnter_op (by rfl)) ?_; intro K hK; go_big_quiet_op; go_big_quiet_on)
      refine wpF_told (sLis 60 ns (RchN ns es l)) (by kernel_rfl) rfl ⟨.slice none 0 0, _, _, _, rfl, Nat.zero_le _⟩ (stLis _ _ _) (fun w4 hw4 hE4 => ?_) ?_
      · have hb4 := grw_below hw4
        clear hw4 hE4
        go_simp
        go_at_call 21
        refine (reach_any _ ns es _ _ l w4 (HNw.out _ hb4) (HEw.out _ hb4) (HLw.out _ hb4) HNA.out (by omega) (by omega) (by omega)).mono ?_
        rintro e w5 ⟨v5, l5, rfl, hl5, hp5, hb5⟩
        have h5 := sLis_of (n := 60) (by omega) hl5 hp5
        exact ⟨_, rfl, hb5, h5.1, h5.2⟩
      rintro _ ⟨r11, k11, c11, rfl, _⟩
      (refine wpF_put ?_; intro K hK; go_simp; refine hK _ ?_; clear hK K)
      (refine wpF_quiet (grw_ex _) (by kernel_rfl) rfl (noEnter_op (by rfl)) ?_; intro K hK; go_big_quiet_op; go_big_quiet_on)
      (refine wpF_quiet (grw_ex _) (by kernel_rfl) rfl (noEnter_op (by rfl)) ?_; intro K hK; go_big_quiet_op; go_big_quiet_on)
      refine wpF_told (sLis 60 ns (RchN ns es l)) (by kernel_rfl) rfl ⟨.slice none 0 0, _, _, _, rfl, Nat.zero_le _⟩ (stLis _ _ _) (fun w4 hw4 hE4 => ?_) ?_
      · have hb4 := grw_below hw4
        clear hw4 hE4
        go_simp
        go_at_call 22
        refine (rreach_any _ _ _ ns es l w4 (HNw.out _ hb4) (HEw.out _ hb4) (HLw.out _ hb4) HEN.out (by omega) (by omega) (by omega)).mono ?_
        rintro e w5 ⟨v5, l5, rfl, hl5, hp5, hb5, _⟩
        have h5 := sLis_of (n := 60) (by omega) hl5.1 hp5
        exact ⟨_, rfl, hb5, h5.1, h5.2⟩
      rintro _ ⟨r14, k14, c14, rfl, _⟩
      (refine wpF_put ?_; intro K hK; go_simp; refine hK _ ?_; clear hK K)
      refine wpF_told (sBool true) (by kernel_rfl) rfl ⟨_, rfl⟩ stTrue (fun w4 hw4 hE4 => ?_) ?_
      · have hb4 := grw_below hw4
        obtain ⟨l1, q1, q2⟩ : (sLis 60 ns (RchN ns es l)).R (.slice r11 k11 c11) w4 := hE4 11 (Bef.one (e := ⟨11, .data⟩) rfl (by simp) rfl rfl)
        obtain ⟨l2, q3, q4⟩ : (sLis 60 ns (RchN ns es l)).R (.slice r14 k14 c14) w4 := hE4 14 (Bef.one (e := ⟨14, .data⟩) rfl (by simp) rfl rfl)
        clear hw4 hE4
        go_simp
        go_at_call 14
        refine (words_any _ _ _ _ w4 q1 q3).mono ?_
        rintro e w5 ⟨rfl, hb5⟩
        rw [decide_eq_true (q2.uniq q4)]
        exact ⟨_, rfl, hb5, rfl, trivial⟩
      rintro _ rfl
      (refine wpF_put ?_; intro K hK; go_simp; refine hK _ ?_; clear hK K)
      (refine wpF_quiet (grw_ex _) (by kernel_rfl) rfl (noEnter_op (by rfl)) ?_; intro K hK; go_big_quiet_op; go_big_quiet_on)
      (refine wpF_quiet (grw_ex _) (by kernel_rfl) rfl (noEnter_op (by rfl)) ?_; intro K hK; go_big_quiet_op; go_big_quiet_on)
      (refine wpF_quiet (grw_ex _) (by kernel_rfl) rfl (noEnter_op (by rfl)) ?_; intro K hK; go_big_quiet_op; go_big_quiet_on)
      refine wpF_told (sGr ns (canE (es.map swapE))) (by kernel_rfl) rfl ⟨.agg #[.tuple #[], .tuple #[]], _, _, rfl⟩ (stGr _ _) (fun w4 hw4 hE4 => ?_) ?_
      · have hb4 := grw_below hw4
        clear hw4 hE4
        go_simp
        go_at_call 23
        refine (reverse_any _ ns es _ w4 (HNw.out _ hb4) (HEw.out _ hb4) (by omega) (by omega)).mono ?_
        rintro e w5 ⟨vn5, ve5, rs5, rfl, hn5, he5, hp5, hs5, hb5⟩
        rw [rev_can HAE.out hp5 hs5] at he5
        exact ⟨_, rfl, hb5, ⟨_, _, rfl⟩, _, _, rfl, hn5, he5⟩
      rintro _ ⟨vn19, ve19, rfl⟩
      (refine wpF_put ?_; intro K hK; go_simp; refine hK _ ?_; clear hK K)
      (refine wpF_quiet (grw_ex _) (by kernel_rfl) rfl (noEnter_op (by rfl)) ?_; intro K hK; go_big_quiet_op; go_big_quiet_on)
      refine wpF_told (sGr ns (canE (es.map swapE))) (by kernel_rfl) rfl ⟨.agg #[.tuple #[], .tuple #[]], _, _, rfl⟩ (stGr _ _) (fun w4 hw4 hE4 => ?_) ?_
      · have hb4 := grw_below hw4
        clear hw4 hE4
        go_simp
        go_at_call 24
        refine (rreverse_any _ _ ns es w4 (HNw.out _ hb4) (HEw.out _ hb4) (by omega)).mono ?_
        rintro e w5 ⟨vn5, ve5, rfl, hn5, he5, hb5⟩
        exact ⟨_, rfl, hb5, ⟨_, _, rfl⟩, _, _, rfl, hn5, he5⟩
      rintro _ ⟨vn21, ve21, rfl⟩
      (refine wpF_put ?_; intro K hK; go_simp; refine hK _ ?_; clear hK K)
      refine wpF_told (sBool true) (by kernel_rfl) rfl ⟨_, rfl⟩ stTrue (fun w4 hw4 hE4 => ?_) ?_
      · have hb4 := grw_below hw4
        have q1 := sGr_at (hE4 19 (Bef.one (e := ⟨19, .data⟩) rfl (by simp) rfl rfl))
        have q2 := sGr_at (hE4 21 (Bef.one (e := ⟨21, .data⟩) rfl (by simp) rfl rfl))
        clear hw4 hE4
        go_simp
        go_at_call 20
        refine (same_any _ _ _ _ _ _ _ _ w4 q1.1 q2.1 q1.2 q2.2).mono ?_
        rintro e w5 ⟨rfl, hb5⟩
        rw [same_true]
        exact ⟨_, rfl, hb5, rfl, trivial⟩
      rintro _ rfl
      (refine wpF_put ?_; intro K hK; go_simp; refine hK _ ?_; clear hK K)
      (refine wpF_quiet (grw_ex _) (by kernel_rfl) rfl (noEnter_op (by rfl)) ?_; intro K hK; go_big_quiet_op; go_big_quiet_on)
      (refine wpF_quiet (grw_ex _) (by kernel_rfl) rfl (noEnter_op (by rfl)) ?_; intro K hK; go_big_quiet_op; go_big_quiet_on)
      (refine wpF_quiet (grw_ex _) (by kernel_rfl) rfl (noEnter_op (by rfl)) ?_; intro K hK; go_big_quiet_op; go_big_quiet_on)
      (refine wpF_quiet (grw_ex _) (by kernel_rfl) rfl (noEnter_op (by rfl)) ?_; intro K hK; go_big_quiet_op; go_big_quiet_on)
      refine wpF_told (sGr ON OE) (by kernel_rfl) rfl ⟨.agg #[.tuple #[], .tuple #[]], _, _, rfl⟩ (stGr _ _) (fun w4 hw4 hE4 => ?_) ?_
      · have hb4 := grw_below hw4
        clear hw4 hE4
        go_simp
        go_at_call 25
        refine (COa.out w4 hb4).mono ?_
        rintro e w5 ⟨vn5, ve5, rfl, hn5, he5, hb5⟩
        exact ⟨_, rfl, hb5, ⟨_, _, rfl⟩, _, _, rfl, hn5, he5⟩
      rintro _ ⟨vn27, ve27, rfl⟩
      (refine wpF_put ?_; intro K hK; go_simp; refine hK _ ?_; clear hK K)
      (refine wpF_quiet (grw_ex _) (by kernel_rfl) rfl (noEnter_op (by rfl)) ?_; intro K hK; go_big_quiet_op; go_big_quiet_on)
      (refine wpF_quiet (grw_ex _) (by kernel_rfl) rfl (noEnter_op (by rfl)) ?_; intro K hK; go_big_quiet_op; go_big_quiet_on)
      refine wpF_told (sGr ON OE) (by kernel_rfl) rfl ⟨.agg #[.tuple #[], .tuple #[]], _, _, rfl⟩ (stGr _ _) (fun w4 hw4 hE4 => ?_) ?_
      · have hb4 := grw_below hw4
        clear hw4 hE4
        go_simp
        go_at_call 26
        refine (COb.out w4 hb4).mono ?_
        rintro e w5 ⟨vn5, ve5, rfl, hn5, he5, hb5⟩
        exact ⟨_, rfl, hb5, ⟨_, _, rfl⟩, _, _, rfl, hn5, he5⟩
      rintro _ ⟨vn30, ve30, rfl⟩
      (refine wpF_put ?_; intro K hK; go_simp; refine hK _ ?_; clear hK K)
      refine wpF_told (sBool true) (by kernel_rfl) rfl ⟨_, rfl⟩ stTrue (fun w4 hw4 hE4 => ?_) ?_
      · have hb4 := grw_below hw4
        have q1 := sGr_at (hE4 27 (Bef.one (e := ⟨27, .data⟩) rfl (by simp) rfl rfl))
        have q2 := sGr_at (hE4 30 (Bef.one (e := ⟨30, .data⟩) rfl (by simp) rfl rfl))
        clear hw4 hE4
        go_simp
        go_at_call 20
        refine (same_any _ _ _ _ _ _ _ _ w4 q1.1 q2.1 q1.2 q2.2).mono ?_
        rintro e w5 ⟨rfl, hb5⟩
        rw [same_true]
        exact ⟨_, rfl, hb5, rfl, trivial⟩
      rintro _ rfl
      (refine wpF_put ?_; intro K hK; go_simp; refine hK _ ?_; clear hK K)
      (refine wpF_quiet (grw_ex _) (by kernel_rfl) rfl (noEnter_op (by rfl)) ?_; intro K hK; go_big_quiet_op; go_big_quiet_on)
      (refine wpF_quiet (grw_ex _) (by kernel_rfl) rfl (noEnter_op (by rfl)) ?_; intro K hK; go_big_quiet_op; go_big_quiet_on)
      refine wpF_told (sBool true) (by kernel_rfl) rfl ⟨_, rfl⟩ stTrue (fun w4 hw4 hE4 => ?_) ?_
      · have hb4 := grw_below hw4
        clear hw4 hE4
        go_simp
        go_at_call 11
        refine (awake_any w4).mono ?_
        rintro e w5 ⟨rfl, hb5⟩
        exact ⟨_, rfl, hb5, rfl, trivial⟩
      rintro _ rfl
      (refine wpF_put ?_; intro K hK; go_simp; refine hK _ ?_; clear hK K)
      (refine wpF_quiet (grw_ex _) (by kernel_rfl) rfl (noEnter_op (by rfl)) ?_; intro K hK; go_big_quiet_op; go_big_quiet_on)
      (refine wpF_quiet (grw_ex _) (by kernel_rfl) rfl (noEnter_op (by rfl)) ?_; intro K hK; go_big_quiet_op; go_big_quiet_on)
      refine wpF_nil ?_
      intro w9 hw9 _
      have hb9 := grw_below hw9
      clear hw9
      have HB9 := hid (HB3.out.trans (hb9.mono HB3.out.size))
      clear hb9
      go_wp2
      go_ret
      exact ⟨rfl, HB9.out⟩
end Go.Proofs.Ytlhekldlfmdmiaa
