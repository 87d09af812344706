import Derived.Test.YtlhekldlfmdmiaaNcy
import Derived.Test.YtlhekldlfmdmiaaNor
import Derived.Test.YtlhekldlfmdmiaaFsp
/-
  GraphOrders: the law's walk. Conditions: those ahead of each theorem.
-/
namespace Go.Proofs.Ytlhekldlfmdmiaa
open Go.RowKit Go.Sort Go.Lib Go.Maps
open Go.Lib (hid)
attribute [local go_sem] frUpon
set_option linter.unusedVariables false
set_option linter.unusedSimpArgs false

set_option maxRecDepth 100000 in
set_option maxHeartbeats 40000000 in
theorem gorders_any (vn ve : Value) (ns : List ByteArray) (es : List Ed) (w : World) (hN : Sl StrR 1 w vn ns) (hS : Sl EdR 2 w ve es) :
    Calls Try.prog 3 #[.agg #[vn, ve]] w fun e w' => e = .returned (.bool true) ∧ Below w.heap.size w w' := by
  obtain ⟨r, c, rfl, _⟩ := id hS
  obtain ⟨rn, cn, rfl, _⟩ := id hN
  obtain ⟨_, hl1, hm1⟩ := sl_len hN
  obtain ⟨_, hl2, hm2⟩ := sl_len hS
  have HN := hid (fun (W : World) (hW : Below w.heap.size w W) => hN.below strR_mono hW)
  have HE := hid (fun (W : World) (hW : Below w.heap.size w W) => hS.below edR_mono hW)
  have HB0 := hid (show Below w.heap.size w (w.alloc (.cells #[.slice rn ns.length cn, .slice r es.length c] 25)) from (Below.refl _ _).alloc (Nat.le_refl _) _)
  have HC0 := hid (show (w.alloc (.cells #[.slice rn ns.length cn, .slice r es.length c] 25)).heap[w.heap.size]? = some (.cells #[.slice rn ns.length cn, .slice r es.length c] 25 (0, 0)) from (MapKept.heap_alloc w _).1)
  have HOK := hid (fun h => rightB_ok (ns := ns) (es := es) h)
  clear hN hS
  go_enter Try.func3, Try.ntmps3
  go_wp2_with fail
  generalize (w.alloc (.cells #[.slice rn ns.length cn, .slice r es.length c] 25)) = W0 at *
  have z0 := cellv HC0.out 0 rfl
  have z1 := cellv HC0.out 1 rfl
  go_wp2_with fail
  refine (right_any _ ns es _ W0 (HN.out _ HB0.out) (HE.out _ HB0.out)).mono ?_
  rintro e w1 ⟨rfl, hb1⟩
  have HB1 := hid (HB0.out.trans (hb1.mono HB0.out.size))
  have HC1 := hid ((hb1.block w.heap.size (lt_of_block HC0.out)).trans HC0.out)
  clear hb1 z0 z1
  cases hr : rightB ns es with
  | false =>
    clear hr
    go_wp2_with fail
    refine (awake_any _).mono ?_
    rintro e w9 ⟨rfl, hb9⟩
    have HB9 := hid (HB1.out.trans (hb9.mono HB1.out.size))
    clear hb9
    go_wp2
    go_ret
    exact ⟨rfl, HB9.out⟩
  | true =>
    have hok := HOK.out hr
    have HCH := hid hok.2.2
    clear hr HOK
    obtain ⟨hok1, hok2, _⟩ := hok
    have HNA := hid (chk_iff.1 HCH.out).2.1
    have HAE := hid (chk_iff.1 HCH.out).2.2.2
    have HEN := hid (chk_ends HCH.out)
    have y0 := cellv HC1.out 0 rfl
    have y1 := cellv HC1.out 1 rfl
    go_wp2_with fail
    refine (order_any _ ns es _ w1 (HN.out _ HB1.out) (HE.out _ HB1.out) HNA.out HEN.out (by omega) (by omega)).mono ?_
    rintro e w2 ⟨vo, rfl, ho2, hb2⟩
    have HB2 := hid (HB1.out.trans (hb2.mono HB1.out.size))
    have HC2 := hid ((hb2.block w.heap.size (lt_of_block HC1.out)).trans HC1.out)
    have HOa := hid (fun (W : World) (hW : Below w2.heap.size w2 W) => ho2.below strR_mono hW)
    obtain ⟨ro, co, rfl, _⟩ := id ho2
    clear hb2 ho2 y0 y1 HC1 HB1
    have y0 := cellv HC2.out 0 rfl
    have y1 := cellv HC2.out 1 rfl
    go_wp2_with fail
    refine (rorder_any _ _ ns es w2 (HN.out _ HB2.out) (HE.out _ HB2.out) (by omega)).mono ?_
    rintro e w3 ⟨vq, rfl, ho3, hb3⟩
    have HB3 := hid (HB2.out.trans (hb3.mono HB2.out.size))
    have HC3 := hid ((hb3.block w.heap.size (lt_of_block HC2.out)).trans HC2.out)
    have HO2 := hid (fun (W : World) (hW : Below w3.heap.size w3 W) => HOa.out W (hb3.trans (hW.mono hb3.size)))
    have HO3 := hid (fun (W : World) (hW : Below w3.heap.size w3 W) => ho3.below strR_mono hW)
    obtain ⟨rq, cq, rfl, _⟩ := id ho3
    clear hb3 ho3 y0 y1 HC2 HB2 HOa
    generalize ordO ns es = L at *
    generalize ordE ns es = oe at *
    have y0 := cell_regrown (cellv HC3.out 0 rfl)
    have y1 := cell_regrown (cellv HC3.out 1 rfl)
    have HNw := hid (fun (W : World) (hW : Below w3.heap.size w3 W) => HN.out W (HB3.out.trans (hW.mono HB3.out.size)))
    have HEw := hid (fun (W : World) (hW : Below w3.heap.size w3 W) => HE.out W (HB3.out.trans (hW.mono HB3.out.size)))
    have y2 := cellv HC3.out 0 rfl
    go_wp2_with fail
    refine wp_region_fresh (fun k => match k with | 6 => some (sBool true) | 10 => some (sWl (cycF (tgt es) ns)) | 12 => some (sWl (cycF (tgt es) ns)) | 13 => some (sBool true) | 16 => some (sBool true) | _ => none) (by kernel_rfl) (by kernel_rfl) ?_
    (refine wpF_quiet (grw_ex _) (by kernel_rfl) rfl (noEnter_op (by rfl)) ?_; intro K hK; go_big_quiet_op; go_big_quiet_on)
    (refine wpF_quiet (grw_ex _) (by kernel_rfl) rfl (noEnter_op (by rfl)) ?_; intro K hK; go_big_quiet_op; go_big_quiet_on)
    (refine wpF_quiet (grw_ex _) (by kernel_rfl) rfl (noEnter_op (by rfl)) ?_; intro K hK; go_big_quiet_op; go_big_quiet_on)
    (refine wpF_quiet (grw_ex _) (by kernel_rfl) rfl (noEnter_op (by rfl)) ?_; intro K hK; go_big_quiet_op; go_big_quiet_on)
    (refine wpF_quiet (grw_ex _) (by kernel_rfl) rfl (noEnter_op (by rfl)) ?_; intro K hK; go_big_quiet_op; go_big_quiet_on)
    (refine wpF_quiet (grw_ex _) (by kernel_rfl) rfl (noEnter_op (by rfl)) ?_; intro K hK; go_big_quiet_op; go_big_quiet_on)
    refine wpF_told (sBool true) (by kernel_rfl) rfl ⟨_, rfl⟩ stTrue (fun w4 hw4 hE4 => ?_) ?_
    · have hb4 := grw_below hw4
      clear hw4 hE4
      go_simp
      go_at_call 14
      refine (words_any L L _ _ w4 (HO2.out _ hb4) (HO3.out _ hb4)).mono ?_
      rintro e w5 ⟨rfl, hb5⟩
      rw [decide_eq_true rfl]
      exact ⟨_, rfl, hb5, rfl, trivial⟩
    rintro _ rfl
    (refine wpF_put ?_; intro K hK; go_simp; refine hK _ ?_; clear hK K)
    (refine wpF_quiet (grw_ex _) (by kernel_rfl) rfl (noEnter_op (by rfl)) ?_; intro K hK; go_big_quiet_op; go_big_quiet_on)
    (refine wpF_quiet (grw_ex _) (by kernel_rfl) rfl (noEnter_op (by rfl)) ?_; intro K hK; go_big_quiet_op; go_big_quiet_on)
    (refine wpF_quiet (grw_ex _) (by kernel_rfl) rfl (noEnter_op (by rfl)) ?_; intro K hK; go_big_quiet_op; go_big_quiet_on)
    refine wpF_told (sWl (cycF (tgt es) ns)) (by kernel_rfl) rfl ⟨.slice none 0 0, _, _, _, rfl⟩ (stWl _) (fun w4 hw4 hE4 => ?_) ?_
    · have hb4 := grw_below hw4
      clear hw4 hE4
      go_simp
      go_at_call 15
      refine (cycle_any _ ns es _ w4 (HNw.out _ hb4) (HEw.out _ hb4) (by omega) (by omega)).mono ?_
      rintro e w5 ⟨v5, rfl, hv5, hb5⟩
      have h5 := sWl_of hv5
      exact ⟨_, rfl, hb5, h5.1, h5.2⟩
    rintro _ ⟨r10, k10, c10, rfl⟩
    (refine wpF_put ?_; intro K hK; go_simp; refine hK _ ?_; clear hK K)
    (refine wpF_quiet (grw_ex _) (by kernel_rfl) rfl (noEnter_op (by rfl)) ?_; intro K hK; go_big_quiet_op; go_big_quiet_on)
    refine wpF_told (sWl (cycF (tgt es) ns)) (by kernel_rfl) rfl ⟨.slice none 0 0, _, _, _, rfl⟩ (stWl _) (fun w4 hw4 hE4 => ?_) ?_
    · have hb4 := grw_below hw4
      clear hw4 hE4
      go_simp
      go_at_call 16
      refine (rcycle_any _ _ ns es w4 (HNw.out _ hb4) (HEw.out _ hb4) HAE.out (by omega) (by omega)).mono ?_
      rintro e w5 ⟨v5, rfl, hv5, hb5⟩
      have h5 := sWl_of hv5
      exact ⟨_, rfl, hb5, h5.1, h5.2⟩
    rintro _ ⟨r12, k12, c12, rfl⟩
    (refine wpF_put ?_; intro K hK; go_simp; refine hK _ ?_; clear hK K)
    refine wpF_told (sBool true) (by kernel_rfl) rfl ⟨_, rfl⟩ stTrue (fun w4 hw4 hE4 => ?_) ?_
    · have hb4 := grw_below hw4
      have h10 : Sl StrR 1 w4 (.slice r10 k10 c10) (cycF (tgt es) ns) := hE4 10 (Bef.one (e := ⟨10, .data⟩) rfl (by simp) rfl rfl)
      have h12 : Sl StrR 1 w4 (.slice r12 k12 c12) (cycF (tgt es) ns) := hE4 12 (Bef.one (e := ⟨12, .data⟩) rfl (by simp) rfl rfl)
      clear hw4 hE4
      go_simp
      go_at_call 14
      refine (words_any _ _ _ _ w4 h10 h12).mono ?_
      rintro e w5 ⟨rfl, hb5⟩
      rw [decide_eq_true rfl]
      exact ⟨_, rfl, hb5, rfl, trivial⟩
    rintro _ rfl
    (refine wpF_put ?_; intro K hK; go_simp; refine hK _ ?_; clear hK K)
    (refine wpF_quiet (grw_ex _) (by kernel_rfl) rfl (noEnter_op (by rfl)) ?_; intro K hK; go_big_quiet_op; go_big_quiet_on)
    (refine wpF_quiet (grw_ex _) (by kernel_rfl) rfl (noEnter_op (by rfl)) ?_; intro K hK; go_big_quiet_op; go_big_quiet_on)
    refine wpF_told (sBool true) (by kernel_rfl) rfl ⟨_, rfl⟩ stTrue (fun w4 hw4 hE4 => ?_) ?_
    · have hb4 := grw_below hw4
      clear hw4 hE4
      go_simp
      go_at_call 11
      refine (awake_any w4).mono ?_
      rintro e w5 ⟨rfl, hb5⟩
      exact ⟨_, rfl, hb5, rfl, trivial⟩
    rintro _ rfl
    (refine wpF_put ?_; intro K hK; go_simp; refine hK _ ?_; clear hK K)
    (refine wpF_quiet (grw_ex _) (by kernel_rfl) rfl (noEnter_op (by rfl)) ?_; intro K hK; go_big_quiet_op; go_big_quiet_on)
    (refine wpF_quiet (grw_ex _) (by kernel_rfl) rfl (noEnter_op (by rfl)) ?_; intro K hK; go_big_quiet_op; go_big_quiet_on)
    refine wpF_nil ?_
    intro w9 hw9 _
    have hb9 := grw_below hw9
    clear hw9
    have HB9 := hid (HB3.out.trans (hb9.mono HB3.out.size))
    clear hb9
    go_wp2
    go_ret
    exact ⟨rfl, HB9.out⟩
end Go.Proofs.Ytlhekldlfmdmiaa
