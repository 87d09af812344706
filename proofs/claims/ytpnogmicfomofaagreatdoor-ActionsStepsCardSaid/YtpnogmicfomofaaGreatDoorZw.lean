import Derived.Test.YtpnogmicfomofaaGreatDoorZo
import Derived.Test.YtpnogmicfomofaaGreatDoorFq
/-
  Layer 44: light, many, the reference's Steps; equal steps; Check on both sides. Conditions: those ahead of each theorem.
-/
namespace Go.Proofs.YtpnogmicfomofaaGreatDoor.Stp
open Go.RowKit Go.Sort Go.Lib Go.Maps
open Go.Lib (hid)
attribute [local go_sem] frUpon
set_option linter.unusedVariables false
set_option linter.unusedSimpArgs false

theorem St.same {s t : St} (h1 : s.change = t.change) (h2 : s.op = t.op) (h3 : s.needs = t.needs) : s = t := by cases s; cases t; simp_all
noncomputable instance : DecidableEq St := fun _ _ => Classical.propDecidable _
set_option maxRecDepth 100000 in
set_option maxHeartbeats 16000000 in
/-- Are two lists of steps equal? -/
theorem lsame_any (a b : List St) (va vb : Value) (w : World) (ha : Sl StR 3 w va a) (hb : Sl StR 3 w vb b) :
    Calls Tryz.prog 22 #[va, vb] w fun r w' => r = .returned (.bool (decide (a = b))) ∧ Below w.heap.size w w' := by
  obtain ⟨ra, ca, rfl, _⟩ := id ha
  obtain ⟨rb, cb, rfl, _⟩ := id hb
  obtain ⟨_, hl, hm⟩ := sl_len ha
  obtain ⟨_, hl2, hm2⟩ := sl_len hb
  have HA := hid (fun (W : World) (hW : Below w.heap.size w W) => st_at (ha.below stR_mono hW))
  have HB := hid (fun (W : World) (hW : Below w.heap.size w W) => st_at (hb.below stR_mono hW))
  clear ha hb
  by_cases hlen : a.length = b.length
  case neg =>
    have h1 : ((a.length : Int) == (b.length : Int)) = false := by simp; omega
    have h2 : ((a.length : Int) != (b.length : Int)) = true := by rw [bne, h1]; rfl
    have HF := hid (show decide (a = b) = false from decide_eq_false fun e => hlen (by rw [e]))
    clear hlen
    go_enter Tryz.func22, Tryz.ntmps22
    go_wp2
    go_ret
    exact ⟨ret_bool HF.out, Below.refl _ _⟩
  case pos =>
    have h1 : ((a.length : Int) == (b.length : Int)) = true := by simp; omega
    have h2 : ((a.length : Int) != (b.length : Int)) = false := by rw [bne, h1]; rfl
    have HL := hid hlen
    clear hlen
    go_enter Tryz.func22, Tryz.ntmps22
    go_wp2
    go_loopg [5] a.length (fun gg s5 wr => ∃ k : Nat, k ≤ a.length ∧ a.length - k ≤ gg ∧ s5 = .int .i64 k ∧ Hid (a.take k = b.take k) ∧ Hid (Below w.heap.size w wr))
    case atStart => exact ⟨0, by omega, by omega, rfl, hid rfl, hid (Below.refl _ _)⟩
    case round =>
      obtain ⟨k, hk, hgg, rfl, HT, HW⟩ := hrel
      by_cases hlt : k < a.length
      · have hltb : k < b.length := by rw [← HL.out]; exact hlt
        obtain ⟨b1, o1, rn1, cn1, rfl, hb1, x1, x2, x3, hn1, hi1, hi2⟩ := HA.out _ HW.out k hlt
        obtain ⟨b2, o2, rn2, cn2, rfl, hb2, y1, y2, y3, hn2, hi3, hi4⟩ := HB.out _ HW.out k hltb
        have HN := hid (show a[k] ≠ b[k] → decide (a = b) = false from fun h => decide_eq_false fun e => h (by subst e; rfl))
        have HS := hid (show a[k] = b[k] → a.take (k + 1) = b.take (k + 1) from fun h => by rw [List.take_succ_eq_append_getElem hlt, List.take_succ_eq_append_getElem hltb, HT.out, h])
        have k2 : (0 : Int) ≤ (k : Int) := by omega
        have k3 : (k : Int) < (a.length : Int) := by omega
        have k4 : (k : Int) < (b.length : Int) := by omega
        have HNU := hid (fun (W : World) (hW : Below wr.heap.size wr W) => numbers_any (a[k]).needs (b[k]).needs _ _ W (hn1.below intR_mono hW) (hn2.below intR_mono hW))
        clear HT hi1 hi2 hi3 hi4 hn1 hn2
        generalize a[k] = s at *
        generalize b[k] = t at *
        obtain ⟨sc, so, sn⟩ := s
        obtain ⟨tc, to, tn⟩ := t
        simp only at x1 x2 x3 y1 y2 y3 HNU
        have c1 := fun d os => cell_regrown x1 d os
        have c2 := fun d os => cell_regrown x2 d os
        have c3 := fun d os => cell_regrown x3 d os
        have c4 := fun d os => cell_regrown y1 d os
        have c5 := fun d os => cell_regrown y2 d os
        have c6 := fun d os => cell_regrown y3 d os
        by_cases hc : sc = tc
        · subst hc
          by_cases ho : so = to
          · subst ho
            by_cases hn : sn = tn
            · rw [decide_eq_true hn] at HNU
              have HS2 := hid (HS.out (St.same rfl rfl hn))
              clear HS HN hn
              go_wp2_with fail
              refine wp_region_fresh (fun k => match k with | 35 => some (sBool true) | _ => none) (by kernel_rfl) (by kernel_rfl) ?_
              iterate 35 (refine wpF_quiet (grw_ex _) (by kernel_rfl) rfl (noEnter_op (by rfl)) ?_; intro K hK; go_big_quiet_op; go_big_quiet_on)
              refine wpF_told (sBool true) (by kernel_rfl) rfl ⟨_, rfl⟩ stTrue (fun w4 hw4 hE4 => ?_) ?_
              · have hb4 := grw_below hw4
                have hh := HNU.out w4 hb4
                clear hw4 hE4 hb4
                go_simp
                go_at_call 15
                refine Calls.mono hh ?_
                rintro e w5 ⟨rfl, hb5⟩
                exact ⟨_, rfl, hb5, rfl, trivial⟩
              rintro _ rfl
              (refine wpF_put ?_; intro K hK; go_simp; refine hK _ ?_; clear hK K)
              iterate 2 (refine wpF_quiet (grw_ex _) (by kernel_rfl) rfl (noEnter_op (by rfl)) ?_; intro K hK; go_big_quiet_op; go_big_quiet_on)
              refine wpF_nil ?_
              intro w6 hw6 hE6
              have hb6 := grw_below hw6
              clear hw6 hE6
              have HB6 := hid (HW.out.trans (hb6.mono HW.out.size))
              clear hb6
              go_wp2
              go_roundg (a.length - (k + 1))
              case measure => omega
              case rel => exact ⟨k + 1, by omega, by omega, by go_num, HS2, HB6⟩
            · rw [decide_eq_false hn] at HNU
              have HN2 := hid (HN.out (fun e => hn (by injection e)))
              clear HS HN hn
              go_wp2_with fail
              refine wp_region_fresh (fun k => match k with | 35 => some (sBool false) | _ => none) (by kernel_rfl) (by kernel_rfl) ?_
              iterate 35 (refine wpF_quiet (grw_ex _) (by kernel_rfl) rfl (noEnter_op (by rfl)) ?_; intro K hK; go_big_quiet_op; go_big_quiet_on)
              refine wpF_told (sBool false) (by kernel_rfl) rfl ⟨_, rfl⟩ stTrue (fun w4 hw4 hE4 => ?_) ?_
              · have hb4 := grw_below hw4
                have hh := HNU.out w4 hb4
                clear hw4 hE4 hb4
                go_simp
                go_at_call 15
                refine Calls.mono hh ?_
                rintro e w5 ⟨rfl, hb5⟩
                exact ⟨_, rfl, hb5, rfl, trivial⟩
              rintro _ rfl
              (refine wpF_put ?_; intro K hK; go_simp; refine hK _ ?_; clear hK K)
              iterate 2 (refine wpF_quiet (grw_ex _) (by kernel_rfl) rfl (noEnter_op (by rfl)) ?_; intro K hK; go_big_quiet_op; go_big_quiet_on)
              refine wpF_nil ?_
              intro w6 hw6 hE6
              have hb6 := grw_below hw6
              clear hw6 hE6
              have HB6 := hid (HW.out.trans (hb6.mono HW.out.size))
              clear hb6
              go_wp2
              go_ret
              exact ⟨ret_bool HN2.out, HB6.out⟩
          · have HN2 := hid (HN.out (fun e => ho (by injection e)))
            have e1 : (so != to) = true := by simp [ho]
            clear HS HN ho HNU
            go_wp2_with fail
            refine wp_region_fresh (fun _ => none) (by kernel_rfl) (by kernel_rfl) ?_
            iterate 25 (refine wpF_quiet (grw_ex _) (by kernel_rfl) rfl (noEnter_op (by rfl)) ?_; intro K hK; go_big_quiet_op; go_big_quiet_on)
            iterate 12 (refine wpF_skip (by kernel_rfl) ?_)
            (refine wpF_put ?_; intro K hK; go_simp; refine hK _ ?_; clear hK K)
            (refine wpF_quiet (grw_ex _) (by kernel_rfl) rfl (noEnter_op (by rfl)) ?_; intro K hK; go_big_quiet_op; go_big_quiet_on)
            refine wpF_nil ?_
            intro w6 hw6 hE6
            have hb6 := grw_below hw6
            clear hw6 hE6
            have HB6 := hid (HW.out.trans (hb6.mono HW.out.size))
            clear hb6
            go_wp2
            go_ret
            exact ⟨ret_bool HN2.out, HB6.out⟩
        · have HN2 := hid (HN.out (fun e => hc (by injection e)))
          have e1 : (sc != tc) = true := by simp [hc]
          clear HS HN hc HNU
          go_wp2_with fail
          refine wp_region_fresh (fun _ => none) (by kernel_rfl) (by kernel_rfl) ?_
          iterate 12 (refine wpF_quiet (grw_ex _) (by kernel_rfl) rfl (noEnter_op (by rfl)) ?_; intro K hK; go_big_quiet_op; go_big_quiet_on)
          iterate 11 (refine wpF_skip (by kernel_rfl) ?_)
          (refine wpF_put ?_; intro K hK; go_simp; refine hK _ ?_; clear hK K)
          iterate 2 (refine wpF_quiet (grw_ex _) (by kernel_rfl) rfl (noEnter_op (by rfl)) ?_; intro K hK; go_big_quiet_op; go_big_quiet_on)
          iterate 12 (refine wpF_skip (by kernel_rfl) ?_)
          (refine wpF_put ?_; intro K hK; go_simp; refine hK _ ?_; clear hK K)
          (refine wpF_quiet (grw_ex _) (by kernel_rfl) rfl (noEnter_op (by rfl)) ?_; intro K hK; go_big_quiet_op; go_big_quiet_on)
          refine wpF_nil ?_
          intro w6 hw6 hE6
          have hb6 := grw_below hw6
          clear hw6 hE6
          have HB6 := hid (HW.out.trans (hb6.mono HW.out.size))
          clear hb6
          go_wp2
          go_ret
          exact ⟨ret_bool HN2.out, HB6.out⟩
      · obtain rfl : k = a.length := by omega
        have HR := hid (show decide (a = b) = true from decide_eq_true (by have h := HT.out; rw [List.take_length, HL.out, List.take_length] at h; exact h))
        go_wp2
        go_ret
        exact ⟨ret_bool HR.out, HW.out⟩
set_option maxRecDepth 100000 in
set_option maxHeartbeats 16000000 in
/-- Are two lists of steps equal? -/
theorem rsame_any (a b : List St) (va vb : Value) (w : World) (ha : Sl StR 3 w va a) (hb : Sl StR 3 w vb b) :
    Calls Tryz.prog 43 #[va, vb] w fun r w' => r = .returned (.bool (decide (a = b))) ∧ Below w.heap.size w w' := by
  obtain ⟨ra, ca, rfl, _⟩ := id ha
  obtain ⟨rb, cb, rfl, _⟩ := id hb
  obtain ⟨_, hl, hm⟩ := sl_len ha
  obtain ⟨_, hl2, hm2⟩ := sl_len hb
  have HA := hid (fun (W : World) (hW : Below w.heap.size w W) => st_at (ha.below stR_mono hW))
  have HB := hid (fun (W : World) (hW : Below w.heap.size w W) => st_at (hb.below stR_mono hW))
  clear ha hb
  by_cases hlen : a.length = b.length
  case neg =>
    have h1 : ((a.length : Int) == (b.length : Int)) = false := by simp; omega
    have h2 : ((a.length : Int) != (b.length : Int)) = true := by rw [bne, h1]; rfl
    have HF := hid (show decide (a = b) = false from decide_eq_false fun e => hlen (by rw [e]))
    clear hlen
    go_enter Tryz.func43, Tryz.ntmps43
    go_wp2
    go_ret
    exact ⟨ret_bool HF.out, Below.refl _ _⟩
  case pos =>
    have h1 : ((a.length : Int) == (b.length : Int)) = true := by simp; omega
    have h2 : ((a.length : Int) != (b.length : Int)) = false := by rw [bne, h1]; rfl
    have HL := hid hlen
    clear hlen
    go_enter Tryz.func43, Tryz.ntmps43
    go_wp2
    go_loopg [5] a.length (fun gg s5 wr => ∃ k : Nat, k ≤ a.length ∧ a.length - k ≤ gg ∧ s5 = .int .i64 k ∧ Hid (a.take k = b.take k) ∧ Hid (Below w.heap.size w wr))
    case atStart => exact ⟨0, by omega, by omega, rfl, hid rfl, hid (Below.refl _ _)⟩
    case round =>
      obtain ⟨k, hk, hgg, rfl, HT, HW⟩ := hrel
      by_cases hlt : k < a.length
      · have hltb : k < b.length := by rw [← HL.out]; exact hlt
        obtain ⟨b1, o1, rn1, cn1, rfl, hb1, x1, x2, x3, hn1, hi1, hi2⟩ := HA.out _ HW.out k hlt
        obtain ⟨b2, o2, rn2, cn2, rfl, hb2, y1, y2, y3, hn2, hi3, hi4⟩ := HB.out _ HW.out k hltb
        have HN := hid (show a[k] ≠ b[k] → decide (a = b) = false from fun h => decide_eq_false fun e => h (by subst e; rfl))
        have HS := hid (show a[k] = b[k] → a.take (k + 1) = b.take (k + 1) from fun h => by rw [List.take_succ_eq_append_getElem hlt, List.take_succ_eq_append_getElem hltb, HT.out, h])
        have k2 : (0 : Int) ≤ (k : Int) := by omega
        have k3 : (k : Int) < (a.length : Int) := by omega
        have k4 : (k : Int) < (b.length : Int) := by omega
        have HN1 := hid (fun (W : World) (hW : Below wr.heap.size wr W) => int_at (hn1.below intR_mono hW))
        have HN2 := hid (fun (W : World) (hW : Below wr.heap.size wr W) => int_at (hn2.below intR_mono hW))
        obtain ⟨_, hn3, hn4⟩ := sl_len hn1
        obtain ⟨_, hn5, hn6⟩ := sl_len hn2
        clear HT hi1 hi2 hi3 hi4 hn1 hn2
        generalize a[k] = s at *
        generalize b[k] = t at *
        obtain ⟨sc, so, sn⟩ := s
        obtain ⟨tc, to, tn⟩ := t
        simp only at x1 x2 x3 y1 y2 y3 HN1 HN2 hn3 hn4 hn5 hn6
        have c1 := fun d os => cell_regrown x1 d os
        have c2 := fun d os => cell_regrown x2 d os
        have c3 := fun d os => cell_regrown x3 d os
        have c4 := fun d os => cell_regrown y1 d os
        have c5 := fun d os => cell_regrown y2 d os
        have c6 := fun d os => cell_regrown y3 d os
        by_cases hc : sc = tc
        · subst hc
          by_cases ho : so = to
          · subst ho
            by_cases hnl : sn.length = tn.length
            · have HNL := hid hnl
              have e1 : ((sn.length : Int) != (tn.length : Int)) = false := by simp; omega
              have e2 : (sn.length != tn.length) = false := by simp [hnl]
              have x3' := x3
              have y3' := y3
              clear hnl
              go_wp2_with fail
              refine wp_region_fresh (fun _ => none) (by kernel_rfl) (by kernel_rfl) ?_
              iterate 30 (refine wpF_quiet (grw_ex _) (by kernel_rfl) rfl (noEnter_op (by rfl)) ?_; intro K hK; go_big_quiet_op; go_big_quiet_on)
              (refine wpF_quiet (grw_ex _) (by kernel_rfl) rfl (by intro w f args w'; go_simp) ?_; intro K hK; go_big_quiet_op; go_big_quiet_on)
              iterate 5 (refine wpF_quiet (grw_ex _) (by kernel_rfl) rfl (noEnter_op (by rfl)) ?_; intro K hK; go_big_quiet_op; go_big_quiet_on)
              (refine wpF_quiet (grw_ex _) (by kernel_rfl) rfl (by intro w f args w'; go_simp) ?_; intro K hK; go_big_quiet_op; go_big_quiet_on)
              iterate 2 (refine wpF_quiet (grw_ex _) (by kernel_rfl) rfl (noEnter_op (by rfl)) ?_; intro K hK; go_big_quiet_op; go_big_quiet_on)
              refine wpF_nil ?_
              intro w6 hw6 hE6
              have hb6 := grw_below hw6
              clear hw6 hE6
              have HB6 := hid (HW.out.trans (hb6.mono HW.out.size))
              have x36 := bget hb6 x3
              have y36 := bget hb6 y3
              have HBX := hid hb6
              clear hb6
              go_wp2
              clear x1 x2 x3 y1 y2 y3 c1 c2 c3 c4 c5 c6 e1 e2 x3' y3'
              go_loopg [6] sn.length (fun gg s6 wr => ∃ q : Nat, q ≤ sn.length ∧ sn.length - q ≤ gg ∧ s6 = .int .i64 q ∧ Hid (sn.take q = tn.take q) ∧ Hid (Below w6.heap.size w6 wr))
              case atStart => exact ⟨0, by omega, by omega, rfl, hid rfl, hid (Below.refl _ _)⟩
              case round =>
                obtain ⟨q, hq, hgq, rfl, HTQ, HWQ⟩ := hrel
                have z3 := bget HWQ.out x36
                have z6 := bget HWQ.out y36
                have HBY := hid (HBX.out.trans (HWQ.out.mono HBX.out.size))
                have HBZ := hid (HB6.out.trans (HWQ.out.mono HB6.out.size))
                by_cases hql : q < sn.length
                · have hqt : q < tn.length := by rw [← HNL.out]; exact hql
                  obtain ⟨b4, o4, rfl, hb4, g4, _⟩ := HN1.out wr HBY.out q hql
                  obtain ⟨b5, o5, rfl, hb5, g5, _⟩ := HN2.out wr HBY.out q hqt
                  have HNN := hid (show sn[q] ≠ tn[q] → decide (a = b) = false from fun h => HN.out (fun e => h (by injection e with _ _ e3; subst e3; rfl)))
                  have HSS := hid (show sn[q] = tn[q] → sn.take (q + 1) = tn.take (q + 1) from fun h => by rw [List.take_succ_eq_append_getElem hql, List.take_succ_eq_append_getElem hqt, HTQ.out, h])
                  have q2 : (0 : Int) ≤ (q : Int) := by omega
                  have q3 : (q : Int) < (sn.length : Int) := by omega
                  have q4 : (q : Int) < (tn.length : Int) := by omega
                  generalize sn[q] = y at *
                  generalize tn[q] = z at *
                  by_cases hy : y = z
                  · subst hy
                    have HS2 := hid (HSS.out rfl)
                    clear HSS HNN
                    go_wp2
                    go_quiet (fail)
                    go_wp2
                    go_roundg (sn.length - (q + 1))
                    case measure => omega
                    case rel => exact ⟨q + 1, by omega, by omega, by go_num, HS2, hid (bel_drewN HWQ.out _)⟩
                  · have HN2 := hid (HNN.out hy)
                    have e1 : (y != z) = true := by simp [hy]
                    clear HSS HNN hy
                    go_wp2
                    go_quiet (fail)
                    go_wp2
                    go_ret
                    exact ⟨ret_bool HN2.out, bel_drewN HBZ.out _⟩
                · obtain rfl : q = sn.length := by omega
                  have HE := hid (HS.out (St.same rfl rfl (by have h := HTQ.out; rw [List.take_length, HNL.out, List.take_length] at h; exact h)))
                  clear HTQ
                  go_wp2
                  go_roundg (a.length - (k + 1))
                  case measure => omega
                  case rel => exact ⟨k + 1, by omega, by omega, by go_num, HE, HBZ⟩
            · have HN3 := hid (HN.out (fun e => hnl (by injection e with _ _ e3; rw [e3])))
              have e1 : ((sn.length : Int) != (tn.length : Int)) = true := by simp; omega
              have e2 : (sn.length != tn.length) = true := by simp [hnl]
              clear HS HN hnl
              go_wp2_with fail
              refine wp_region_fresh (fun _ => none) (by kernel_rfl) (by kernel_rfl) ?_
              iterate 30 (refine wpF_quiet (grw_ex _) (by kernel_rfl) rfl (noEnter_op (by rfl)) ?_; intro K hK; go_big_quiet_op; go_big_quiet_on)
              (refine wpF_quiet (grw_ex _) (by kernel_rfl) rfl (by intro w f args w'; go_simp) ?_; intro K hK; go_big_quiet_op; go_big_quiet_on)
              iterate 5 (refine wpF_quiet (grw_ex _) (by kernel_rfl) rfl (noEnter_op (by rfl)) ?_; intro K hK; go_big_quiet_op; go_big_quiet_on)
              (refine wpF_quiet (grw_ex _) (by kernel_rfl) rfl (by intro w f args w'; go_simp) ?_; intro K hK; go_big_quiet_op; go_big_quiet_on)
              iterate 2 (refine wpF_quiet (grw_ex _) (by kernel_rfl) rfl (noEnter_op (by rfl)) ?_; intro K hK; go_big_quiet_op; go_big_quiet_on)
              refine wpF_nil ?_
              intro w6 hw6 hE6
              have hb6 := grw_below hw6
              clear hw6 hE6
              have HB6 := hid (HW.out.trans (hb6.mono HW.out.size))
              clear hb6
              go_wp2
              go_ret
              exact ⟨ret_bool HN3.out, HB6.out⟩
          · have HN3 := hid (HN.out (fun e => ho (by injection e)))
            have e1 : (so != to) = true := by simp [ho]
            clear HS HN ho
            go_wp2_with fail
            refine wp_region_fresh (fun _ => none) (by kernel_rfl) (by kernel_rfl) ?_
            iterate 25 (refine wpF_quiet (grw_ex _) (by kernel_rfl) rfl (noEnter_op (by rfl)) ?_; intro K hK; go_big_quiet_op; go_big_quiet_on)
            iterate 13 (refine wpF_skip (by kernel_rfl) ?_)
            (refine wpF_put ?_; intro K hK; go_simp; refine hK _ ?_; clear hK K)
            (refine wpF_quiet (grw_ex _) (by kernel_rfl) rfl (noEnter_op (by rfl)) ?_; intro K hK; go_big_quiet_op; go_big_quiet_on)
            refine wpF_nil ?_
            intro w6 hw6 hE6
            have hb6 := grw_below hw6
            clear hw6 hE6
            have HB6 := hid (HW.out.trans (hb6.mono HW.out.size))
            clear hb6
            go_wp2
            go_ret
            exact ⟨ret_bool HN3.out, HB6.out⟩
        · have HN3 := hid (HN.out (fun e => hc (by injection e)))
          have e1 : (sc != tc) = true := by simp [hc]
          clear HS HN hc
          go_wp2_with fail
          refine wp_region_fresh (fun _ => none) (by kernel_rfl) (by kernel_rfl) ?_
          iterate 12 (refine wpF_quiet (grw_ex _) (by kernel_rfl) rfl (noEnter_op (by rfl)) ?_; intro K hK; go_big_quiet_op; go_big_quiet_on)
          iterate 11 (refine wpF_skip (by kernel_rfl) ?_)
          (refine wpF_put ?_; intro K hK; go_simp; refine hK _ ?_; clear hK K)
          iterate 2 (refine wpF_quiet (grw_ex _) (by kernel_rfl) rfl (noEnter_op (by rfl)) ?_; intro K hK; go_big_quiet_op; go_big_quiet_on)
          iterate 13 (refine wpF_skip (by kernel_rfl) ?_)
          (refine wpF_put ?_; intro K hK; go_simp; refine hK _ ?_; clear hK K)
          (refine wpF_quiet (grw_ex _) (by kernel_rfl) rfl (noEnter_op (by rfl)) ?_; intro K hK; go_big_quiet_op; go_big_quiet_on)
          refine wpF_nil ?_
          intro w6 hw6 hE6
          have hb6 := grw_below hw6
          clear hw6 hE6
          have HB6 := hid (HW.out.trans (hb6.mono HW.out.size))
          clear hb6
          go_wp2
          go_ret
          exact ⟨ret_bool HN3.out, HB6.out⟩
      · obtain rfl : k = a.length := by omega
        have HR := hid (show decide (a = b) = true from decide_eq_true (by have h := HT.out; rw [List.take_length, HL.out, List.take_length] at h; exact h))
        go_wp2
        go_ret
        exact ⟨ret_bool HR.out, HW.out⟩
def lightB (cs : List Ch) : Bool := decide (cs.length ≤ 60) && cs.all fun c => decide (c.addr.size ≤ 500) && decide (c.deps.length ≤ 60) && decide (c.old.length ≤ 60)
theorem lightB_no {cs : List Ch} {k : Nat} (hk : k < cs.length) (h : ¬ ((cs[k]).addr.size ≤ 500 ∧ (cs[k]).deps.length ≤ 60 ∧ (cs[k]).old.length ≤ 60)) : lightB cs = false := by
  unfold lightB
  rw [Bool.and_eq_false_iff]
  exact Or.inr (List.all_eq_false.2 ⟨_, List.getElem_mem hk, by simpa [and_assoc] using h⟩)
theorem lightB_big {cs : List Ch} (h : 60 < cs.length) : lightB cs = false := by
  unfold lightB
  rw [Bool.and_eq_false_iff]
  exact Or.inl (decide_eq_false (by omega))
theorem lightB_ok {cs : List Ch} (h : cs.length ≤ 60) (ha : ∀ j (hj : j < cs.length), (cs[j]).addr.size ≤ 500 ∧ (cs[j]).deps.length ≤ 60 ∧ (cs[j]).old.length ≤ 60) : lightB cs = true := by
  unfold lightB
  rw [Bool.and_eq_true]
  refine ⟨decide_eq_true h, List.all_eq_true.2 fun s hs => ?_⟩
  obtain ⟨j, hj, rfl⟩ := List.mem_iff_getElem.1 hs
  simpa [and_assoc] using ha j hj
theorem lightB_bd {cs : List Ch} (h : lightB cs = true) : cs.length ≤ 60 ∧ ∀ c ∈ cs, c.addr.size ≤ 500 ∧ c.deps.length ≤ 60 ∧ c.old.length ≤ 60 := by
  unfold lightB at h
  rw [Bool.and_eq_true, List.all_eq_true] at h
  exact ⟨of_decide_eq_true h.1, fun s hs => by simpa [and_assoc] using h.2 s hs⟩
set_option maxRecDepth 100000 in
set_option maxHeartbeats 8000000 in
theorem light_any (v : Value) (cs : List Ch) (w : World) (hS : Sl ChR 22 w v cs) :
    Calls Tryz.prog 18 #[v] w fun e w' => e = .returned (.bool (lightB cs)) ∧ w' = w := by
  obtain ⟨r, c, rfl, _⟩ := id hS
  obtain ⟨_, hl, hm⟩ := sl_len hS
  have HE := hid (ch_at hS)
  clear hS
  go_enter Tryz.func18, Tryz.ntmps18
  go_wp2
  go_loop [3] (fun i => ∃ k : Nat, k ≤ cs.length ∧ k ≤ 61 ∧ i = .int .i64 k ∧ Hid (∀ j (hj : j < cs.length), j < k → (cs[j]).addr.size ≤ 500 ∧ (cs[j]).deps.length ≤ 60 ∧ (cs[j]).old.length ≤ 60)) (fun i => 61 - (RowKit.intOf i).toNat)
  case atStart => exact ⟨0, by omega, by omega, rfl, hid (fun j hj h => absurd h (by omega))⟩
  case round =>
    obtain ⟨k, hk, hk1, rfl, HA⟩ := hrel
    by_cases hlt : k < cs.length
    · by_cases hle : k ≤ 60
      · obtain ⟨b, off, x, rfl, hb, hcell, hx⟩ := HE.out k hlt
        have g0 : w.cell? ⟨b, off + k * 22, none⟩ = some (.string x.ad) := hcell 0 _ rfl
        have g20 := hcell 20 _ rfl
        have g21 := hcell 21 _ rfl
        obtain ⟨_, hd1, hd2⟩ := sl_len hx.2.2.2.2.1
        obtain ⟨_, ho1, ho2⟩ := sl_len hx.2.2.2.2.2
        obtain ⟨hxa, _, _, _, hxd, hxo⟩ := hx
        obtain ⟨_, _, hve, _⟩ := hxd
        obtain ⟨_, _, hvo, _⟩ := hxo
        simp at hve hvo
        obtain ⟨_, hve, _⟩ := hve
        obtain ⟨_, hvo, _⟩ := hvo
        rw [hxa] at g0
        rw [hve] at g20
        rw [hvo] at g21
        have HN := hid (fun h => lightB_no hlt h)
        have HX := hid (fun (h : (cs[k]).addr.size ≤ 500 ∧ (cs[k]).deps.length ≤ 60 ∧ (cs[k]).old.length ≤ 60) => show ∀ j (hj : j < cs.length), j < k + 1 → (cs[j]).addr.size ≤ 500 ∧ (cs[j]).deps.length ≤ 60 ∧ (cs[j]).old.length ≤ 60 from fun j hj hjk => by
          by_cases e : j < k
          · exact HA.out j hj e
          · obtain rfl : j = k := by omega
            exact h)
        have k2 : (0 : Int) ≤ (k : Int) := by omega
        have k3 : (k : Int) < (cs.length : Int) := by omega
        have k4 : (k : Int) ≤ 60 := by omega
        clear hcell hxa hve hvo
        generalize cs[k] = s at *
        by_cases h1 : s.addr.size ≤ 500
        · have f1 : ¬ (500 : Int) < (s.addr.size : Int) := by omega
          by_cases h2 : s.deps.length ≤ 60
          · have f2 : ¬ (60 : Int) < (s.deps.length : Int) := by omega
            by_cases h3 : s.old.length ≤ 60
            · have f3 : ¬ (60 : Int) < (s.old.length : Int) := by omega
              have HX2 := hid (HX.out ⟨h1, h2, h3⟩)
              clear HX HN
              go_wp2
              go_round
              case rel => exact ⟨k + 1, by omega, by omega, by go_num, HX2⟩
              case measure => simp [RowKit.intOf]; omega
            · have HR := hid (HN.out (fun h => h3 h.2.2))
              have f3 : (60 : Int) < (s.old.length : Int) := by omega
              clear HX HN h3
              go_wp2
              go_ret
              exact ⟨ret_bool HR.out, rfl⟩
          · have HR := hid (HN.out (fun h => h2 h.2.1))
            have f2 : (60 : Int) < (s.deps.length : Int) := by omega
            clear HX HN h2
            go_wp2
            go_ret
            exact ⟨ret_bool HR.out, rfl⟩
        · have HR := hid (HN.out (fun h => h1 h.1))
          have f1 : (500 : Int) < (s.addr.size : Int) := by omega
          clear HX HN h1
          go_wp2
          go_ret
          exact ⟨ret_bool HR.out, rfl⟩
      · have HR := hid (lightB_big (cs := cs) (by omega))
        have h1 : ¬ (k : Int) ≤ 60 := by omega
        have h2 : ¬ (cs.length : Int) ≤ 60 := by omega
        have k3 : (k : Int) < (cs.length : Int) := by omega
        go_wp2
        go_ret
        exact ⟨ret_bool HR.out, rfl⟩
    · obtain rfl : k = cs.length := by omega
      by_cases hle : cs.length ≤ 60
      · have HR := hid (lightB_ok hle fun j hj => HA.out j hj hj)
        have h2 : (cs.length : Int) ≤ 60 := by omega
        go_wp2
        go_ret
        exact ⟨ret_bool HR.out, rfl⟩
      · have HR := hid (lightB_big (cs := cs) (by omega))
        have h2 : ¬ (cs.length : Int) ≤ 60 := by omega
        go_wp2
        go_ret
        exact ⟨ret_bool HR.out, rfl⟩
end Go.Proofs.YtpnogmicfomofaaGreatDoor.Stp
/-
  Layer 44: slices.Equal of numbers, the comparison of steps, slices.EqualFunc of steps. Conditions: those ahead of each theorem.
-/
namespace Go.Proofs.YtpnogmicfomofaaGreatDoor.Stp
open Go.RowKit Go.Sort Go.Lib Go.Maps
open Go.Lib (hid)
set_option linter.unusedVariables false
set_option linter.unusedSimpArgs false

set_option maxHeartbeats 4000000 in
theorem eqints_any (a b : List Int) (va vb : Value) (w : World) (ha : Sl IntR 1 w va a) (hb : Sl IntR 1 w vb b) :
    Calls Tryz.prog 42 #[va, vb] w fun r w' => r = .returned (.bool (decide (a = b))) ∧ Below w.heap.size w w' := by
  obtain ⟨ra, ca, rfl, _⟩ := id ha
  obtain ⟨rb, cb, rfl, _⟩ := id hb
  obtain ⟨_, hl, hm⟩ := sl_len ha
  obtain ⟨_, hl2, hm2⟩ := sl_len hb
  have HA := hid (fun (W : World) (hW : Below w.heap.size w W) => int_at (ha.below intR_mono hW))
  have HB := hid (fun (W : World) (hW : Below w.heap.size w W) => int_at (hb.below intR_mono hW))
  clear ha hb
  by_cases hlen : a.length = b.length
  case neg =>
    have h1 : ((a.length : Int) == (b.length : Int)) = false := by simp; omega
    have h2 : ((a.length : Int) != (b.length : Int)) = true := by rw [bne, h1]; rfl
    have HF := hid (show decide (a = b) = false from decide_eq_false fun e => hlen (by rw [e]))
    clear hlen
    go_enter Tryz.func42, Tryz.ntmps42
    go_wp2
    go_ret
    exact ⟨ret_bool HF.out, Below.refl _ _⟩
  case pos =>
    have h1 : ((a.length : Int) == (b.length : Int)) = true := by simp; omega
    have h2 : ((a.length : Int) != (b.length : Int)) = false := by rw [bne, h1]; rfl
    have HL := hid hlen
    clear hlen
    go_enter Tryz.func42, Tryz.ntmps42
    go_wp2
    go_loopg [13] a.length (fun gg s13 wr => ∃ k : Nat, k ≤ a.length ∧ a.length - k ≤ gg ∧ s13 = .int .i64 k ∧ Hid (a.take k = b.take k) ∧ Hid (Below w.heap.size w wr))
    case atStart => exact ⟨0, by omega, by omega, rfl, hid rfl, hid (Below.refl _ _)⟩
    case round =>
      obtain ⟨k, hk, hgg, rfl, HT, HW⟩ := hrel
      by_cases hlt : k < a.length
      · have hltb : k < b.length := by rw [← HL.out]; exact hlt
        obtain ⟨b1, o1, rfl, hb1, g1, _⟩ := HA.out _ HW.out k hlt
        obtain ⟨b2, o2, rfl, hb2, g2, _⟩ := HB.out _ HW.out k hltb
        have HN := hid (show a[k] ≠ b[k] → decide (a = b) = false from fun h => decide_eq_false fun e => h (by subst e; rfl))
        have HS := hid (show a[k] = b[k] → a.take (k + 1) = b.take (k + 1) from fun h => by rw [List.take_succ_eq_append_getElem hlt, List.take_succ_eq_append_getElem hltb, HT.out, h])
        have k2 : (0 : Int) ≤ (k : Int) := by omega
        have k3 : (k : Int) < (a.length : Int) := by omega
        have k4 : (k : Int) < (b.length : Int) := by omega
        clear HA HB HT
        generalize a[k] = y at *
        generalize b[k] = z at *
        by_cases hy : y = z
        · subst hy
          have HS2 := hid (HS.out rfl)
          clear HS HN
          go_wp2
          go_quiet (fail)
          go_wp2
          go_roundg (a.length - (k + 1))
          case measure => omega
          case rel => exact ⟨k + 1, by omega, by omega, by go_num, HS2, hid (bel_drewN HW.out _)⟩
        · have HN2 := hid (HN.out hy)
          have e2 : (y != z) = true := by simp [hy]
          clear HS HN hy
          go_wp2
          go_quiet (fail)
          go_wp2
          go_ret
          exact ⟨ret_bool HN2.out, bel_drewN HW.out _⟩
      · obtain rfl : k = a.length := by omega
        have HR := hid (show decide (a = b) = true from decide_eq_true (by have h := HT.out; rw [List.take_length, HL.out, List.take_length] at h; exact h))
        go_wp2
        go_ret
        exact ⟨ret_bool HR.out, HW.out⟩
theorem dec_St (s t : St) : decide (s = t) = (decide (s.change = t.change) && decide (s.op = t.op) && decide (s.needs = t.needs)) := by
  rw [Bool.eq_iff_iff]
  simp only [Bool.and_eq_true, decide_eq_true_eq]
  exact ⟨fun e => by subst e; simp, fun h => St.same h.1.1 h.1.2 h.2⟩
set_option maxHeartbeats 4000000 in
/-- The comparison of two steps. -/
theorem chk1_any (s t : St) (sv tv : SV) (w : World) (hs : Sl IntR 1 w (.slice sv.r sv.n sv.c) s.needs) (ht : Sl IntR 1 w (.slice tv.r tv.n tv.c) t.needs) :
    Calls Tryz.prog 41 #[.agg #[.int .i64 s.change, .int .i64 s.op, .slice sv.r sv.n sv.c], .agg #[.int .i64 t.change, .int .i64 t.op, .slice tv.r tv.n tv.c]] w fun e w' => e = .returned (.bool (decide (s = t))) ∧ Below w.heap.size w w' := by
  have HD := hid (dec_St s t)
  have HQ := hid (fun (W : World) (hW : Below w.heap.size w W) => eqints_any s.needs t.needs _ _ W (hs.below intR_mono hW) (ht.below intR_mono hW))
  have HB0 := hid (show Below w.heap.size w ((w.alloc (.cells #[.int .i64 s.change, .int .i64 s.op, .slice sv.r sv.n sv.c] 48)).alloc (.cells #[.int .i64 t.change, .int .i64 t.op, .slice tv.r tv.n tv.c] 48)) from ((Below.refl _ _).alloc (Nat.le_refl _) _).alloc (by simp) _)
  obtain ⟨R, hR⟩ : ∃ R, decide (s = t) = R := ⟨_, rfl⟩
  rw [hR] at HD ⊢
  clear hR hs ht
  generalize decide (s.needs = t.needs) = ND at *
  generalize s.change = sc at *
  generalize t.change = tc at *
  generalize s.op = so at *
  generalize t.op = to at *
  by_cases hc : sc = tc
  · subst hc
    by_cases ho : so = to
    · subst ho
      go_enter Tryz.func41, Tryz.ntmps41
      go_wp2_with (go_at_call 42; refine (HQ.out _ HB0.out).mono ?_; rintro e w5 ⟨rfl, hb5⟩; have HB5 := hid (HB0.out.trans (hb5.mono HB0.out.size)); clear hb5)
      go_ret
      exact ⟨ret_bool (by rw [HD.out]; simp), HB5.out⟩
    · have e1 : (so == to) = false := by simpa using ho
      have H1 := hid ho
      clear ho
      go_enter Tryz.func41, Tryz.ntmps41
      go_wp2
      go_ret
      exact ⟨ret_bool (by rw [HD.out]; simp [H1.out]), HB0.out⟩
  · have e1 : (sc == tc) = false := by simpa using hc
    have H1 := hid hc
    clear hc
    go_enter Tryz.func41, Tryz.ntmps41
    go_wp2
    go_ret
    exact ⟨ret_bool (by rw [HD.out]; simp [H1.out]), HB0.out⟩
set_option maxRecDepth 100000 in
set_option maxHeartbeats 16000000 in
theorem eqf_any (a b : List St) (va vb : Value) (w : World) (ha : Sl StR 3 w va a) (hb : Sl StR 3 w vb b) :
    Calls Tryz.prog 40 #[va, vb, .func (.func 41) #[] #[]] w fun r w' => r = .returned (.bool (decide (a = b))) ∧ Below w.heap.size w w' := by
  obtain ⟨ra, ca, rfl, _⟩ := id ha
  obtain ⟨rb, cb, rfl, _⟩ := id hb
  obtain ⟨_, hl, hm⟩ := sl_len ha
  obtain ⟨_, hl2, hm2⟩ := sl_len hb
  have HA := hid (fun (W : World) (hW : Below w.heap.size w W) => st_at (ha.below stR_mono hW))
  have HB := hid (fun (W : World) (hW : Below w.heap.size w W) => st_at (hb.below stR_mono hW))
  clear ha hb
  by_cases hlen : a.length = b.length
  case neg =>
    have h1 : ((a.length : Int) == (b.length : Int)) = false := by simp; omega
    have h2 : ((a.length : Int) != (b.length : Int)) = true := by rw [bne, h1]; rfl
    have HF := hid (show decide (a = b) = false from decide_eq_false fun e => hlen (by rw [e]))
    clear hlen
    go_enter Tryz.func40, Tryz.ntmps40
    go_wp2
    go_ret
    exact ⟨ret_bool HF.out, Below.refl _ _⟩
  case pos =>
    have h1 : ((a.length : Int) == (b.length : Int)) = true := by simp; omega
    have h2 : ((a.length : Int) != (b.length : Int)) = false := by rw [bne, h1]; rfl
    have HL := hid hlen
    clear hlen
    go_enter Tryz.func40, Tryz.ntmps40
    go_wp2
    go_loopg [17] a.length (fun gg s17 wr => ∃ k : Nat, k ≤ a.length ∧ a.length - k ≤ gg ∧ s17 = .int .i64 k ∧ Hid (a.take k = b.take k) ∧ Hid (Below w.heap.size w wr))
    case atStart => exact ⟨0, by omega, by omega, rfl, hid rfl, hid (Below.refl _ _)⟩
    case round =>
      obtain ⟨k, hk, hgg, rfl, HT, HW⟩ := hrel
      by_cases hlt : k < a.length
      · have hltb : k < b.length := by rw [← HL.out]; exact hlt
        obtain ⟨b1, o1, rn1, cn1, rfl, hb1, x1, x2, x3, hn1, _⟩ := HA.out _ HW.out k hlt
        obtain ⟨b2, o2, rn2, cn2, rfl, hb2, y1, y2, y3, hn2, _⟩ := HB.out _ HW.out k hltb
        have HN := hid (show a[k] ≠ b[k] → decide (a = b) = false from fun h => decide_eq_false fun e => h (by subst e; rfl))
        have HS := hid (show a[k] = b[k] → a.take (k + 1) = b.take (k + 1) from fun h => by rw [List.take_succ_eq_append_getElem hlt, List.take_succ_eq_append_getElem hltb, HT.out, h])
        have HCH := hid (fun (W : World) (hW : Below wr.heap.size wr W) => chk1_any a[k] b[k] ⟨rn1, (a[k]).needs.length, cn1⟩ ⟨rn2, (b[k]).needs.length, cn2⟩ W (hn1.below intR_mono hW) (hn2.below intR_mono hW))
        have k2 : (0 : Int) ≤ (k : Int) := by omega
        have k3 : (k : Int) < (a.length : Int) := by omega
        have k4 : (k : Int) < (b.length : Int) := by omega
        clear HA HB HT hn1 hn2
        generalize a[k] = s at *
        generalize b[k] = t at *
        have HB0 := hid (show Below wr.heap.size wr ((wr.alloc (.cells #[.int .i64 s.change, .int .i64 s.op, .slice rn1 s.needs.length cn1] 48)).alloc (.cells #[.int .i64 t.change, .int .i64 t.op, .slice rn2 t.needs.length cn2] 48)) from ((Below.refl _ _).alloc (Nat.le_refl _) _).alloc (by simp) _)
        by_cases hy : s = t
        · rw [decide_eq_true hy] at HCH
          have HS2 := hid (HS.out hy)
          clear HS HN hy
          go_wp2_with (go_at_call 41; refine (HCH.out _ HB0.out).mono ?_; rintro e w5 ⟨rfl, hb5⟩; have HB5 := hid (HW.out.trans ((HB0.out.trans (hb5.mono HB0.out.size)).mono HW.out.size)); clear hb5)
          go_roundg (a.length - (k + 1))
          case measure => omega
          case rel => exact ⟨k + 1, by omega, by omega, by go_num, HS2, HB5⟩
        · rw [decide_eq_false hy] at HCH
          have HN2 := hid (HN.out hy)
          clear HS HN hy
          go_wp2_with (go_at_call 41; refine (HCH.out _ HB0.out).mono ?_; rintro e w5 ⟨rfl, hb5⟩; have HB5 := hid (HW.out.trans ((HB0.out.trans (hb5.mono HB0.out.size)).mono HW.out.size)); clear hb5)
          go_ret
          exact ⟨ret_bool HN2.out, HB5.out⟩
      · obtain rfl : k = a.length := by omega
        have HR := hid (show decide (a = b) = true from decide_eq_true (by have h := HT.out; rw [List.take_length, HL.out, List.take_length] at h; exact h))
        go_wp2
        go_ret
        exact ⟨ret_bool HR.out, HW.out⟩
end Go.Proofs.YtpnogmicfomofaaGreatDoor.Stp
