import Derived.Test.YtlhekldlfmdmiaaNof
import Derived.Test.YtlhekldlfmdmiaaFsp
/-
  GraphBuilds: the law's walk. Conditions: those ahead of each theorem.
-/
namespace Go.Proofs.Ytlhekldlfmdmiaa
open Go.RowKit Go.Sort Go.Lib Go.Maps
open Go.Lib (hid)
attribute [local go_sem] frUpon
set_option linter.unusedVariables false
set_option linter.unusedSimpArgs false

set_option maxRecDepth 100000 in
set_option maxHeartbeats 40000000 in
theorem gbuilds_any (vn ve : Value) (ns : List ByteArray) (es : List Ed) (w : World) (hN : Sl StrR 1 w vn ns) (hS : Sl EdR 2 w ve es) :
    Calls Try.prog 6 #[vn, ve] w fun e w' => e = .returned (.bool true) ∧ Below w.heap.size w w' := by
  have CL := hid (light_any vn ns es ve w hN hS)
  have HN := hid (fun (W : World) (hW : Below w.heap.size w W) => hN.below strR_mono hW)
  have HE := hid (fun (W : World) (hW : Below w.heap.size w W) => hS.below edR_mono hW)
  obtain ⟨r, c, rfl, _⟩ := id hS
  obtain ⟨rn, cn, rfl, _⟩ := id hN
  have HBd := hid (fun h => lightB_bd (ns := ns) (es := es) h)
  have HB0 := hid (Below.refl w.heap.size w)
  clear hN hS
  go_enter Try.func6, Try.ntmps6
  go_wp2_with fail
  refine CL.out.mono ?_
  rintro e w0 ⟨rfl, rfl⟩
  cases hr : lightB ns es with
  | false =>
    clear hr
    go_wp2_with fail
    refine (awake_any w0).mono ?_
    rintro e w9 ⟨rfl, hb9⟩
    have HB9 := hid (HB0.out.trans (hb9.mono HB0.out.size))
    clear hb9
    go_wp2
    go_ret
    exact ⟨rfl, HB9.out⟩
  | true =>
    have hok := HBd.out hr
    clear hr HBd CL
    obtain ⟨hok1, hok2⟩ := hok
    go_wp2_with fail
    refine (of_any ns es _ _ w0 (HN.out _ HB0.out) (HE.out _ HB0.out) (by omega) (by omega)).mono ?_
    rintro e w1 ⟨vn1, ve1, rfl, hn1, he1, hb1⟩
    have CR := hid (rof_any _ _ ns es (w1.alloc (.cells #[vn1, ve1] 25)) (HN.out _ ((HB0.out.trans hb1).alloc (HB0.out.trans hb1).size _)) (HE.out _ ((HB0.out.trans hb1).alloc (HB0.out.trans hb1).size _)) (by omega) (by omega))
    have HGb := hid (show (ofG ns es).1 = (ofG ns es).1 from rfl)
    generalize ofG ns es = G at *
    obtain ⟨N, E, ge⟩ := G
    simp only at hn1 he1
    obtain ⟨ra, ca, rfl, _⟩ := id hn1
    obtain ⟨sa, da, rfl, _⟩ := id he1
    have HB1 := hid (show Below w0.heap.size w0 (w1.alloc (.cells #[.slice ra N.length ca, .slice sa E.length da] 25)) from hb1.alloc hb1.size _)
    have HN1 := hid (fun (W : World) (hW : Below w1.heap.size w1 W) => hn1.below strR_mono hW)
    have HE1 := hid (fun (W : World) (hW : Below w1.heap.size w1 W) => he1.below edR_mono hW)
    have HA1 := hid (show Below w1.heap.size w1 (w1.alloc (.cells #[.slice ra N.length ca, .slice sa E.length da] 25)) from (Below.refl _ _).alloc (Nat.le_refl _) _)
    have HC1 := hid (show (w1.alloc (.cells #[.slice ra N.length ca, .slice sa E.length da] 25)).heap[w1.heap.size]? = some (.cells #[.slice ra N.length ca, .slice sa E.length da] 25 (0, 0)) from (MapKept.heap_alloc w1 _).1)
    clear hb1 hn1 he1 HGb
    go_wp2_with fail
    generalize (w1.alloc (.cells #[.slice ra N.length ca, .slice sa E.length da] 25)) = W1 at *
    refine CR.out.mono ?_
    rintro e w2 ⟨vn2, ve2, rfl, hn2, he2, hb2⟩
    simp only at hn2 he2
    obtain ⟨rb, cb, rfl, _⟩ := id hn2
    obtain ⟨sb, db, rfl, _⟩ := id he2
    have hbw2 := HB1.out.trans (hb2.mono HB1.out.size)
    have hX : Below w2.heap.size w2 ((w2.alloc (.cells #[.slice rb N.length cb, .slice sb E.length db] 25)).alloc (.cells #[.slice rn ns.length cn, .slice r es.length c] 25)) := ((Below.refl _ _).alloc (Nat.le_refl _) _).alloc (by simp) _
    have HB3 := hid (show Below w0.heap.size w0 ((w2.alloc (.cells #[.slice rb N.length cb, .slice sb E.length db] 25)).alloc (.cells #[.slice rn ns.length cn, .slice r es.length c] 25)) from hbw2.trans (hX.mono hbw2.size))
    have HA3 := hid (HA1.out.trans ((hb2.trans (hX.mono hb2.size)).mono HA1.out.size))
    have HX3 := hid hX
    have HCa := hid (((hb2.trans (hX.mono hb2.size)).block w1.heap.size (lt_of_block HC1.out)).trans HC1.out)
    have HCb := hid (show ((w2.alloc (.cells #[.slice rb N.length cb, .slice sb E.length db] 25)).alloc (.cells #[.slice rn ns.length cn, .slice r es.length c] 25)).heap[w2.heap.size]? = some (.cells #[.slice rb N.length cb, .slice sb E.length db] 25 (0, 0)) from heap_fst w2 _ _)
    have HCg := hid (show ((w2.alloc (.cells #[.slice rb N.length cb, .slice sb E.length db] 25)).alloc (.cells #[.slice rn ns.length cn, .slice r es.length c] 25)).heap[w2.heap.size + 1]? = some (.cells #[.slice rn ns.length cn, .slice r es.length c] 25 (0, 0)) from heap_snd w2 _ _)
    have HNx := hid (fun (W : World) (hW : Below w2.heap.size w2 W) => hn2.below strR_mono hW)
    have HEx := hid (fun (W : World) (hW : Below w2.heap.size w2 W) => he2.below edR_mono hW)
    clear hb2 hn2 he2 hbw2 hX CR
    go_wp2_with fail
    generalize ((w2.alloc (.cells #[.slice rb N.length cb, .slice sb E.length db] 25)).alloc (.cells #[.slice rn ns.length cn, .slice r es.length c] 25)) = W3 at *
    have HNa := hid (fun (W : World) (hW : Below W3.heap.size W3 W) => HN1.out W (HA3.out.trans (hW.mono HA3.out.size)))
    have HEa := hid (fun (W : World) (hW : Below W3.heap.size W3 W) => HE1.out W (HA3.out.trans (hW.mono HA3.out.size)))
    have HNb := hid (fun (W : World) (hW : Below W3.heap.size W3 W) => HNx.out W (HX3.out.trans (hW.mono HX3.out.size)))
    have HEb := hid (fun (W : World) (hW : Below W3.heap.size W3 W) => HEx.out W (HX3.out.trans (hW.mono HX3.out.size)))
    have CK1 := hid (fun (W : World) (hW : Below W3.heap.size W3 W) => check_any _ ns es _ W (HN.out W (HB3.out.trans (hW.mono HB3.out.size))) (HE.out W (HB3.out.trans (hW.mono HB3.out.size))) (by omega))
    have CK2 := hid (fun (W : World) (hW : Below W3.heap.size W3 W) => rcheck_any _ ns es _ W (HN.out W (HB3.out.trans (hW.mono HB3.out.size))) (HE.out W (HB3.out.trans (hW.mono HB3.out.size))) (by omega))
    generalize chkG ns es = ck at *
    have a0 := cell_regrown (cellv HCa.out 0 rfl)
    have a1 := cell_regrown (cellv HCa.out 1 rfl)
    have b0 := cell_regrown (cellv HCb.out 0 rfl)
    have b1 := cell_regrown (cellv HCb.out 1 rfl)
    have g0 := cell_regrown (cellv HCg.out 0 rfl)
    have g1 := cell_regrown (cellv HCg.out 1 rfl)
    refine wp_region_fresh (fun k => match k with | 6 => some (sBool true) | 10 => some (sInt ck) | 12 => some (sInt ck) | 16 => some (sBool true) | _ => none) (by kernel_rfl) (by kernel_rfl) ?_
    (refine wpF_quiet (grw_ex _) (by kernel_rfl) rfl (noEnter_op (by rfl)) ?_; intro K hK; go_big_quiet_op; go_big_quiet_on)
    (refine wpF_quiet (grw_ex _) (by kernel_rfl) rfl (noEnter_op (by rfl)) ?_; intro K hK; go_big_quiet_op; go_big_quiet_on)
    (refine wpF_quiet (grw_ex _) (by kernel_rfl) rfl (noEnter_op (by rfl)) ?_; intro K hK; go_big_quiet_op; go_big_quiet_on)
    (refine wpF_quiet (grw_ex _) (by kernel_rfl) rfl (noEnter_op (by rfl)) ?_; intro K hK; go_big_quiet_op; go_big_quiet_on)
    (refine wpF_quiet (grw_ex _) (by kernel_rfl) rfl (noEnter_op (by rfl)) ?_; intro K hK; go_big_quiet_op; go_big_quiet_on)
    (refine wpF_quiet (grw_ex _) (by kernel_rfl) rfl (noEnter_op (by rfl)) ?_; intro K hK; go_big_quiet_op; go_big_quiet_on)
    refine wpF_told (sBool true) (by kernel_rfl) rfl ⟨_, rfl⟩ stTrue (fun w4 hw4 hE4 => ?_) ?_
    · have hb4 := grw_below hw4
      clear hw4 hE4
      go_simp
      go_at_call 20
      refine (same_any _ _ _ _ N N E E w4 (HNa.out _ hb4) (HNb.out _ hb4) (HEa.out _ hb4) (HEb.out _ hb4)).mono ?_
      rintro e w5 ⟨rfl, hb5⟩
      rw [same_true]
      exact ⟨_, rfl, hb5, rfl, trivial⟩
    rintro _ rfl
    (refine wpF_put ?_; intro K hK; go_simp; refine hK _ ?_; clear hK K)
    (refine wpF_quiet (grw_ex _) (by kernel_rfl) rfl (noEnter_op (by rfl)) ?_; intro K hK; go_big_quiet_op; go_big_quiet_on)
    (refine wpF_quiet (grw_ex _) (by kernel_rfl) rfl (noEnter_op (by rfl)) ?_; intro K hK; go_big_quiet_op; go_big_quiet_on)
    (refine wpF_quiet (grw_ex _) (by kernel_rfl) rfl (noEnter_op (by rfl)) ?_; intro K hK; go_big_quiet_op; go_big_quiet_on)
    refine wpF_told (sInt ck) (by kernel_rfl) rfl ⟨_, rfl⟩ stTrue (fun w4 hw4 hE4 => ?_) ?_
    · have hb4 := grw_below hw4
      clear hw4 hE4
      go_simp
      go_at_call 30
      refine (CK1.out w4 hb4).mono ?_
      rintro e w5 ⟨rfl, hb5⟩
      exact ⟨_, rfl, hb5, rfl, trivial⟩
    rintro _ rfl
    (refine wpF_put ?_; intro K hK; go_simp; refine hK _ ?_; clear hK K)
    (refine wpF_quiet (grw_ex _) (by kernel_rfl) rfl (noEnter_op (by rfl)) ?_; intro K hK; go_big_quiet_op; go_big_quiet_on)
    refine wpF_told (sInt ck) (by kernel_rfl) rfl ⟨_, rfl⟩ stTrue (fun w4 hw4 hE4 => ?_) ?_
    · have hb4 := grw_below hw4
      clear hw4 hE4
      go_simp
      go_at_call 31
      refine (CK2.out w4 hb4).mono ?_
      rintro e w5 ⟨rfl, hb5⟩
      exact ⟨_, rfl, hb5, rfl, trivial⟩
    rintro _ rfl
    (refine wpF_put ?_; intro K hK; go_simp; refine hK _ ?_; clear hK K)
    (refine wpF_quiet (grw_ex _) (by kernel_rfl) rfl (noEnter_op (by rfl)) ?_; intro K hK; go_big_quiet_op; go_big_quiet_on)
    (refine wpF_quiet (grw_ex _) (by kernel_rfl) rfl (noEnter_op (by rfl)) ?_; intro K hK; go_big_quiet_op; go_big_quiet_on)
    (refine wpF_quiet (grw_ex _) (by kernel_rfl) rfl (noEnter_op (by rfl)) ?_; intro K hK; go_big_quiet_op; go_big_quiet_on)
    refine wpF_told (sBool true) (by kernel_rfl) rfl ⟨_, rfl⟩ stTrue (fun w4 hw4 hE4 => ?_) ?_
    · have hb4 := grw_below hw4
      clear hw4 hE4
      go_simp
      go_at_call 11
      refine (awake_any w4).mono ?_
      rintro e w5 ⟨rfl, hb5⟩
      exact ⟨_, rfl, hb5, rfl, trivial⟩
    rintro _ rfl
    (refine wpF_put ?_; intro K hK; go_simp; refine hK _ ?_; clear hK K)
    (refine wpF_quiet (grw_ex _) (by kernel_rfl) rfl (noEnter_op (by rfl)) ?_; intro K hK; go_big_quiet_op; go_big_quiet_on)
    (refine wpF_quiet (grw_ex _) (by kernel_rfl) rfl (noEnter_op (by rfl)) ?_; intro K hK; go_big_quiet_op; go_big_quiet_on)
    refine wpF_nil ?_
    intro w9 hw9 _
    have hb9 := grw_below hw9
    clear hw9
    have HB9 := hid (HB3.out.trans (hb9.mono HB3.out.size))
    clear hb9
    go_wp2
    go_ret
    exact ⟨rfl, HB9.out⟩
end Go.Proofs.Ytlhekldlfmdmiaa
