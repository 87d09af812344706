import Derived.Test.YtlhekldlfmdmiaaNor
import Derived.Test.YtlhekldlfmdmiaaNds
import Derived.Test.YtlhekldlfmdmiaaPt
/-
  The reference's Reduce. Conditions: those ahead of each theorem.
-/
namespace Go.Proofs.Ytlhekldlfmdmiaa
open Go.RowKit Go.Sort Go.Lib Go.Maps
open Go.Lib (hid)
attribute [local go_sem ↓] Go.wp_at_zero Go.wp_at_succ
set_option linter.unusedVariables false
set_option linter.unusedSimpArgs false

open Classical in
noncomputable def rqB (ns : List ByteArray) (es : List Ed) (x m : ByteArray) : Bool := decide (m ≠ x) && decide (RchN ns es [m] x)
noncomputable def rqE (ns : List ByteArray) (es : List Ed) (e : Ed) : Bool := !(nxtL es [e.1]).any (rqB ns es e.2)
open Classical in
theorem refR_eq {ns : List ByteArray} {es : List Ed} (hc : chkG ns es = 0) (ho : ordE ns es = 0) : es.filter (rqE ns es) = redL (tgt es) ns := by
  obtain ⟨_, hN, hin, hE⟩ := chk_iff.1 hc
  have hcy := (ord_cyc (asc_nodup stoB hN) (chk_ends hc)).1 ho
  rw [cyc_nil] at hcy
  refine ascE_eq (asc_filter hE _) (redL_asc hE hN) fun x => ?_
  obtain ⟨a, b⟩ := x
  have key : (a, b) ∈ es → (nxtL es [a]).any (rqB ns es b) = farB (tgt es) a b := fun hx => by
    rw [Bool.eq_iff_iff, List.any_eq_true, farB_iff]
    unfold FarP
    constructor
    · rintro ⟨m, hm, h⟩
      unfold rqB at h
      rw [Bool.and_eq_true, decide_eq_true_iff, decide_eq_true_iff] at h
      obtain ⟨hmb, c, hc, hcn, n, hw⟩ := h
      have : c = m := by simpa using hc
      subst this
      cases n with
      | zero => exact absurd hw hmb
      | succ n => exact ⟨c, nxt_one.1 hm, n, hw⟩
    · rintro ⟨m, hm, k, hw⟩
      refine ⟨m, nxt_one.2 hm, ?_⟩
      have hmn := (hin (a, m) (mem_tgt.1 hm)).2
      unfold rqB
      rw [Bool.and_eq_true, decide_eq_true_iff, decide_eq_true_iff]
      refine ⟨fun e => ?_, m, by simp, hmn, k + 1, hw⟩
      subst e
      exact hcy m hmn k hw
  rw [mem_redL, List.mem_filter]
  unfold rqE
  constructor
  · rintro ⟨h1, h2⟩
    rw [key h1] at h2
    exact ⟨(hin _ h1).1, mem_tgt.2 h1, by simpa using h2⟩
  · rintro ⟨h1, h2, h3⟩
    have h4 := mem_tgt.1 h2
    refine ⟨h4, ?_⟩
    simp only
    rw [key h4, h3]; rfl
theorem any_take {α : Type} {p : α → Bool} {l : List α} {j : Nat} (hj : j < l.length) : (l.take (j + 1)).any p = ((l.take j).any p || p l[j]) := by
  rw [List.take_succ_eq_append_getElem hj, List.any_append]; simp
theorem filter_take {α : Type} {p : α → Bool} {l : List α} {j : Nat} (hj : j < l.length) : (l.take (j + 1)).filter p = if p l[j] = true then (l.take j).filter p ++ [l[j]] else (l.take j).filter p := by
  rw [List.take_succ_eq_append_getElem hj, List.filter_append]
  cases h : p l[j] <;> simp [List.filter_cons, h]
open Classical in
theorem rq_no {ns : List ByteArray} {es : List Ed} {x : ByteArray} : rqB ns es x x = false := by unfold rqB; simp
open Classical in
theorem rq_has {ns : List ByteArray} {es : List Ed} {x m : ByteArray} {l : List ByteArray} (hx : x ∈ ns) (h : m ≠ x) (hl : LisP ns (RchN ns es [m]) l) : hasS x l = rqB ns es x m := by
  rw [Bool.eq_iff_iff, hasS_iff, hl.2]
  unfold rqB
  rw [Bool.and_eq_true, decide_eq_true_iff, decide_eq_true_iff]
  exact ⟨fun h1 => ⟨h, h1.2⟩, fun h1 => ⟨hx, h1.2⟩⟩

set_option maxRecDepth 100000 in
set_option maxHeartbeats 4000000 in
theorem rreduce_any (vn ve : Value) (ns : List ByteArray) (es : List Ed) (w : World) (hN : Sl StrR 1 w vn ns) (hS : Sl EdR 2 w ve es) (hc : chkG ns es = 0) (hnn : ns.length ≤ 10000) (hn : es.length ≤ 10000) :
    Calls Try.prog 19 #[.agg #[vn, ve]] w (GrP (redG ns es) w) := by
  obtain ⟨r, c, rfl, _⟩ := id hS
  obtain ⟨rn, cn, rfl, _⟩ := id hN
  obtain ⟨_, hl1, hm1⟩ := sl_len hN
  have hB0 : Below w.heap.size w ((w.alloc (.cells #[.slice rn ns.length cn, .slice r es.length c] 25)).alloc (.cells #[.slice none 0 0, .slice none 0 0] 25)) := ((Below.refl _ _).alloc (Nat.le_refl _) _).alloc (by simp) _
  have HC0 := hid (show ((w.alloc (.cells #[.slice rn ns.length cn, .slice r es.length c] 25)).alloc (.cells #[.slice none 0 0, .slice none 0 0] 25)).heap[w.heap.size]? = some (.cells #[.slice rn ns.length cn, .slice r es.length c] 25 (0, 0)) from (Below.heap_alloc _ _ _ (by simp)).trans (MapKept.heap_alloc w _).1)
  have HD0 := hid (show ((w.alloc (.cells #[.slice rn ns.length cn, .slice r es.length c] 25)).alloc (.cells #[.slice none 0 0, .slice none 0 0] 25)).heap[w.heap.size + 1]? = some (.cells #[.slice none 0 0, .slice none 0 0] 25 (0, 0)) from (congrArg _ (by simp)).trans (MapKept.heap_alloc _ _).1)
  have hsz0 : w.heap.size + 2 = ((w.alloc (.cells #[.slice rn ns.length cn, .slice r es.length c] 25)).alloc (.cells #[.slice none 0 0, .slice none 0 0] 25)).heap.size := by simp
  have HZ0 := hid hsz0
  have HNs := hid (fun (W : World) (hW : Below w.heap.size w W) => hN.below strR_mono hW)
  have HEs := hid (fun (W : World) (hW : Below w.heap.size w W) => hS.below edR_mono hW)
  have HB0 := hid hB0
  have HOrd := hid (rorder_any (.slice rn ns.length cn) (.slice r es.length c) ns es _ (HNs.out _ hB0) (HEs.out _ hB0) hnn)
  have HIn := hid (chk_iff.1 hc).2.2.1
  have HEi := hid (chk_ends hc)
  have HRf := hid (fun h => refR_eq hc h)
  clear hN hS hB0 hsz0 hc
  go_enter Try.func19, Try.ntmps19
  go_wp2_with fail
  generalize ((w.alloc (.cells #[.slice rn ns.length cn, .slice r es.length c] 25)).alloc (.cells #[.slice none 0 0, .slice none 0 0] 25)) = W0 at *
  have z0 := cellv HC0.out 0 rfl
  have z1 := cellv HC0.out 1 rfl
  go_wp2_with fail
  refine HOrd.out.mono ?_
  rintro e w1 ⟨v1, rfl, _, hb1⟩
  have C1 := hid ((hb1.block w.heap.size (by have := HZ0.out; omega)).trans HC0.out)
  have D1 := hid ((hb1.block (w.heap.size + 1) (by have := HZ0.out; omega)).trans HD0.out)
  have B1 := hid (HB0.out.trans (hb1.mono HB0.out.size))
  have hz1 : w.heap.size + 2 ≤ w1.heap.size := by have := hb1.size; have := HZ0.out; omega
  clear z0 z1
  have z0 := cellv C1.out 0 rfl
  have z1 := cellv C1.out 1 rfl
  have u0 := cellv D1.out 0 rfl
  have u1 := cellv D1.out 1 rfl
  have f0 := frozen_of D1.out 0
  have f1 := frozen_of D1.out 1
  have HOE := hid (ordE_cases ns es)
  have HRG := hid (show redG ns es = if ordE ns es = 0 then (ns, redL (tgt es) ns, 0) else ([], [], ordE ns es) from rfl)
  clear HC0 HD0 hb1 HB0 HOrd HZ0
  generalize redG ns es = R at *
  generalize ordE ns es = oe at *
  rcases HOE.out with h0 | h0
  case inr =>
    subst h0
    have HR := hid (show R = ([], [], 10) by rw [HRG.out]; rfl)
    go_wp2
    rw [HR.out]
    exact bodyPost_ret (v := .tuple #[.agg #[.slice none 0 0, .slice none 0 0], .int .i64 10]) (by simp [results, Try.results19, go_sem, u0, u1]) rfl ⟨_, _, rfl, sl_nilS _, sl_nilE _, (B1.out.setCell (p := ⟨w.heap.size + 1, 0, none⟩) (by simp) _).setCell (p := ⟨w.heap.size + 1, 1, none⟩) (by simp) _⟩
  case inl =>
  subst h0
  have HR := hid (show R = (ns, es.filter (rqE ns es), 0) by rw [HRG.out, HRf.out rfl]; rfl)
  have HBa := hid (show Below w1.heap.size w1 (w1.alloc (.cells #[.slice rn ns.length cn, .slice none 0 0] 25)) from (Below.refl _ _).alloc (Nat.le_refl _) _)
  have HWc := hid (show (w1.alloc (.cells #[.slice rn ns.length cn, .slice none 0 0] 25)).heap[w1.heap.size]? = some (.cells #[.slice rn ns.length cn, .slice none 0 0] 25 (0, 0)) from (MapKept.heap_alloc w1 _).1)
  clear HOE HRG u0 u1 f0 f1 HRf
  go_wp2
  clear z0 z1
  go_loopw [7] (fun i wr => ∃ (k : Nat) (vo : Value), k ≤ es.length ∧ i = .int .i64 k ∧ Hid (Below w1.heap.size w1 wr) ∧ w1.heap.size + 1 ≤ wr.heap.size ∧ Hid (wr.heap[w1.heap.size]? = some (.cells #[.slice rn ns.length cn, vo] 25 (0, 0))) ∧ Hid (OwnE (w1.heap.size + 1) wr vo ((es.take k).filter (rqE ns es)))) (fun i _ => es.length - (RowKit.intOf i).toNat)
  case atStart => exact ⟨0, _, by omega, rfl, HBa, by simp, HWc, ownE_nil _ _⟩
  case round =>
    clear HBa HWc
    obtain ⟨k, vo, hk, rfl, HB, hz, HC, HO⟩ := hrel
    have HBW := hid (B1.out.trans (HB.out.mono B1.out.size))
    have HCg := hid ((HB.out.block w.heap.size (by omega)).trans C1.out)
    have z0 := cellv HCg.out 0 rfl
    have z1 := cellv HCg.out 1 rfl
    by_cases hlt : k < es.length
    · obtain ⟨b, off, rfl, hb, g0, g1, hs0, hs1⟩ := ed_at (HEs.out _ HBW.out) k hlt
      have HTk := hid (filter_take (p := rqE ns es) hlt)
      have HIk := hid (HIn.out _ (List.getElem_mem hlt))
      have HLn := hid (show ((es.take k).filter (rqE ns es)).length + 1 ≤ 1000000 by have := List.length_filter_le (rqE ns es) (es.take k); simp at this; omega)
      generalize (es.take k).filter (rqE ns es) = F0 at *
      generalize es[k] = y at *
      obtain ⟨y1, y2⟩ := y
      simp only at g0 g1 hs0 hs1 HIk
      have HSz := hid (And.intro hs0 hs1)
      have HRq := hid (show rqE ns es (y1, y2) = !(nxtL es [y1]).any (rqB ns es y2) from rfl)
      clear hs0 hs1
      have k2 : (0 : Int) ≤ (k : Int) := by omega
      have k3 : (k : Int) < (es.length : Int) := by omega
      have hW1 : Below wr.heap.size wr (wr.alloc (.cells #[.string y1, .string y2] 43)) := (Below.refl _ _).alloc (Nat.le_refl _) _
      have HW2 := hid (show Below wr.heap.size wr ((wr.alloc (.cells #[.string y1, .string y2] 43)).alloc (.cells #[.string y1] 9)) from hW1.alloc (by simp) _)
      have HX2 := hid (show ((wr.alloc (.cells #[.string y1, .string y2] 43)).alloc (.cells #[.string y1] 9)).heap[wr.heap.size]? = some (.cells #[.string y1, .string y2] 43 (0, 0)) from heap_fst wr _ _)
      have HY2 := hid (show ((wr.alloc (.cells #[.string y1, .string y2] 43)).alloc (.cells #[.string y1] 9)).heap[wr.heap.size + 1]? = some (.cells #[.string y1] 9 (0, 0)) from heap_snd wr _ _)
      have q0 := bget hW1 z0
      have q1 := bget hW1 z1
      clear hW1
      go_wp2_with fail
      clear q0 q1
      generalize ((wr.alloc (.cells #[.string y1, .string y2] 43)).alloc (.cells #[.string y1] 9)) = W2 at *
      have HBW2 := hid (HBW.out.trans (HW2.out.mono HBW.out.size))
      refine (rnext_any _ _ _ ns es [y1] _ (HNs.out _ HBW2.out) (HEs.out _ HBW2.out) (lit_at HY2.out HSz.out.1) (by omega)).mono ?_
      rintro e w5 ⟨v5, rfl, hns5, hb5⟩
      have hb5' := HW2.out.trans (hb5.mono HW2.out.size)
      have HBx := hid hb5'
      have hsx : wr.heap.size + 1 ≤ w5.heap.size := by
        have h1 := hb5.size
        have h2 := lt_of_block HX2.out
        omega
      have HX5 := hid ((hb5.block wr.heap.size (lt_of_block HX2.out)).trans HX2.out)
      have HBW5 := hid (HBW.out.trans (hb5'.mono HBW.out.size))
      have HL5 := hid (fun (W : World) (hW : Below w5.heap.size w5 W) => hns5.below hW)
      obtain ⟨rt, ct, rfl, hrt1, hrt2⟩ := hns5.form
      have hTl := nxtL_len es [y1]
      clear hb5 hb5' hns5 z0 z1 g0 g1 HW2 HX2 HY2 HBW2
      generalize nxtL es [y1] = T at *
      obtain ⟨wo, rfl⟩ : ∃ wo : World, wo = wr := ⟨_, rfl⟩
      go_wp2
      go_loopw [10, 11] (fun s10 i wr => ∃ j : Nat, j ≤ T.length ∧ i = .int .i64 j ∧ s10 = .bool (!(T.take j).any (rqB ns es y2)) ∧ Hid (Below w5.heap.size w5 wr)) (fun _ i _ => T.length - (RowKit.intOf i).toNat)
      case atStart => exact ⟨0, by omega, rfl, rfl, hid (Below.refl _ _)⟩
      case round =>
        obtain ⟨j, hj, rfl, rfl, HBj⟩ := hrel
        have HBWj := hid (HBW5.out.trans (HBj.out.mono HBW5.out.size))
        have HBo := hid (HBx.out.trans (HBj.out.mono HBx.out.size))
        have HCj := hid ((HBo.out.block w.heap.size (by omega)).trans HCg.out)
        have HXj := hid ((HBj.out.block wo.heap.size (by omega)).trans HX5.out)
        have x1 := cellv HXj.out 1 rfl
        by_cases hltj : j < T.length
        · obtain ⟨b6, o6, rfl, hb6, g6, hms⟩ := str_at (HL5.out _ HBj.out).1 j hltj
          have HTj := hid (any_take (p := rqB ns es y2) hltj)
          generalize (T.take j).any (rqB ns es y2) = P0 at *
          generalize T[j] = m at *
          have HMs := hid hms
          have j2 : (0 : Int) ≤ (j : Int) := by omega
          have j3 : (j : Int) < (T.length : Int) := by omega
          clear hms
          by_cases hmx : m = y2
          · subst hmx
            have HN := hid (show (T.take (j + 1)).any (rqB ns es m) = P0 by rw [HTj.out, rq_no, Bool.or_false])
            go_wp2
            go_quiet (fail)
            go_wp2
            go_roundw
            case rel => exact ⟨j + 1, by omega, by go_num, by rw [HN.out], hid (HBj.out.drewN _)⟩
            case measure => simp [RowKit.intOf]; omega
          · have HMx := hid hmx
            have e1 := str_ne hmx
            have e2 : (m.toList != y2.toList) = true := by rw [bne, e1]; rfl
            have z0 := cellv HCj.out 0 rfl
            have z1 := cellv HCj.out 1 rfl
            have CC := hid (fun (W : World) (vf : Value) (hW : Below wr.heap.size wr W) (hf : Sl StrR 1 W vf [m]) => rclosure_any _ _ vf ns es [m] W (HNs.out _ (HBWj.out.trans (hW.mono HBWj.out.size))) (HEs.out _ (HBWj.out.trans (hW.mono HBWj.out.size))) hf HEi.out hnn hn (by simp))
            have hB : Below wr.heap.size wr wr.drew := (Below.refl _ _).drew
            clear hmx
            go_wp2
            go_region_held3 (fun w' => w'.cell? ⟨w.heap.size, 0, none⟩ = some (.slice rn ns.length cn) ∧ w'.cell? ⟨w.heap.size, 1, none⟩ = some (.slice (some ⟨b, off, none⟩) es.length c) ∧ w'.cell? ⟨wo.heap.size, 1, none⟩ = some (.string y2) ∧ w'.cell? ⟨b6, o6 + j, none⟩ = some (.string m))
              (first | go_keep | exact ⟨bget hB z0, bget hB z1, bget hB x1, bget hB g6⟩)
              ((first
                | (go_at_call 45
                   with_reducible refine (CC.out _ _ (by first | exact hB.alloc hB.size _ | exact ((Below.refl _ _).alloc (Nat.le_refl _) _).drew) (by first | exact lit_at (heap_one _ _) HMs.out)).mono ?_
                   rintro e wc ⟨vC, lC, rfl, hlC, hpC, hbc, _⟩
                   have HhC := hid (rq_has HIk.out.2 HMx.out hpC)
                   have HlC := hid hlC
                   replace hB := (show Below wr.heap.size wr _ by first | exact hB.alloc hB.size _ | exact ((Below.refl _ _).alloc (Nat.le_refl _) _).drew).trans (hbc.mono (by first | (simp; exact Nat.le_succ_of_le hB.size) | (simp; done) | (simp; omega)))
                   clear hlC hpC hbc)
                | (go_at_call 37
                   refine (has_any lC y2 _ _ HlC.out.1).mono ?_
                   rintro r' w' ⟨rfl, rfl⟩
                   rw [HhC.out])))
            all_goals
              have HBn := hid (HBj.out.trans (hB.mono HBj.out.size))
              clear z0 z1 x1 g6 hB CC e1 e2
              cases hq : rqB ns es y2 m with
              | true =>
                have HN := hid (show (T.take (j + 1)).any (rqB ns es y2) = true by rw [HTj.out, hq, Bool.or_true])
                clear hq
                go_wp2
                go_roundw
                case rel => exact ⟨j + 1, by omega, by go_num, by rw [HN.out]; rfl, HBn⟩
                case measure => simp [RowKit.intOf]; omega
              | false =>
                have HN := hid (show (T.take (j + 1)).any (rqB ns es y2) = P0 by rw [HTj.out, hq, Bool.or_false])
                clear hq
                go_wp2
                go_roundw
                case rel => exact ⟨j + 1, by omega, by go_num, by rw [HN.out], HBn⟩
                case measure => simp [RowKit.intOf]; omega
        · have hje : j = T.length := by omega
          have HRq2 := hid (show rqE ns es (y1, y2) = !(T.take j).any (rqB ns es y2) by rw [HRq.out, hje, List.take_length])
          generalize (T.take j).any (rqB ns es y2) = P0 at *
          have hzw : w1.heap.size + 1 ≤ wr.heap.size := by have := HBo.out.size; omega
          have HC2 := hid ((HBo.out.block w1.heap.size (by omega)).trans HC.out)
          have HO2 := hid (HO.out.below HBo.out)
          have HB2 := hid (HB.out.trans (HBo.out.mono (by exact HB.out.size)))
          clear hje
          cases P0 with
          | true =>
            have HN := hid (HTk.out.trans (if_neg (by rw [HRq2.out]; simp)))
            go_wp2
            go_roundw
            case rel => exact ⟨k + 1, vo, by omega, by go_num, HB2, hzw, HC2, by rw [HN.out]; exact HO2⟩
            case measure => simp [RowKit.intOf]; omega
          | false =>
            have HN := hid (HTk.out.trans (if_pos (by rw [HRq2.out]; rfl)))
            obtain ⟨rx, cx, rfl, hcx1, hcx2⟩ := HO2.out.form
            have x0 := cellv HXj.out 0 rfl
            have c1 := cellv HC2.out 1 rfl
            have hal : Below wr.heap.size wr (wr.alloc (.cells #[.string y1, .string y2] 43)) := (Below.refl _ _).alloc (Nat.le_refl _) _
            have HOa := hid (HO2.out.below hal)
            have HCa := hid ((hal.block w1.heap.size (by omega)).trans HC2.out)
            have HBa := hid (HB2.out.trans (hal.mono HB2.out.size))
            have HL := hid HO2.out.lt
            clear hal
            go_wp2_with (at_builtin
                         refine app_ed rfl _ _ rfl (w1.heap.size + 1) _ F0 rfl HOa.out wr.heap.size 1 (y1, y2) rfl (fr := (0, 0)) (by exact (MapKept.heap_alloc wr _).1) HSz.out HLn.out (by simp; omega) (wr.heap.size + 1) (by simp) ?_
                         intro g cap w7 hm7
                         have hne : ∀ g, (Value.slice rx F0.length cx).ownBlock = some g → g ≠ w1.heap.size := fun g hg => by have := (HL.out g hg).1; omega
                         have HC7 := hid (own_block hm7.2.1 hne HCa.out)
                         have q1 := cellv HC7.out 1 rfl
                         have f1 := frozen_of HC7.out 1
                         have HM7 := hid hm7
                         clear hm7 hne)
            go_roundw
            case measure => simp [RowKit.intOf]; omega
            case rel =>
              obtain ⟨m1, m2, m3, m4⟩ := HM7.out
              rw [List.length_append, List.length_singleton] at m1
              refine ⟨k + 1, _, by omega, by go_num, hid ((Below.grown HBa.out m2 HBa.out.size (fun g hg => by have := (HL.out g hg).1; omega)).setCell (Nat.le_refl _) _), ?_, heap_setCell_at HC7.out, ?_⟩
              · have := m2.size; simp [World.setCell] at this ⊢; omega
              · rw [HN.out]
                exact m1.setBelow (by simp) _
    · have hke : k = es.length := by omega
      have HOE2 := hid (show OwnE (w1.heap.size + 1) wr vo (es.filter (rqE ns es)) from by have h := HO.out; rwa [hke, List.take_length] at h)
      obtain ⟨ro, co, rfl, hro1, hro2⟩ := HOE2.out.form
      have E2 := hid ((HB.out.block (w.heap.size + 1) (by omega)).trans D1.out)
      have c0 := cellv HC.out 0 rfl
      have c1 := cellv HC.out 1 rfl
      have u0 := cellv E2.out 0 rfl
      have u1 := cellv E2.out 1 rfl
      have f0 := frozen_of E2.out 0
      have f1 := frozen_of E2.out 1
      clear hke HO
      generalize es.filter (rqE ns es) = F0 at *
      go_wp2
      rw [HR.out]
      have hB5 := (HBW.out.setCell (p := ⟨w.heap.size + 1, 0, none⟩) (by simp) (.slice rn ns.length cn)).setCell (p := ⟨w.heap.size + 1, 1, none⟩) (by simp) (.slice ro F0.length co)
      have hE := (HOE2.out.setBelow (a := ⟨w.heap.size + 1, 0, none⟩) (by simp only; omega) (.slice rn ns.length cn)).setBelow (a := ⟨w.heap.size + 1, 1, none⟩) (by simp only; omega) (.slice ro F0.length co)
      exact bodyPost_ret (v := .tuple #[.agg #[.slice rn ns.length cn, .slice ro F0.length co], .int .i64 0]) (by simp [results, Try.results19, go_sem, u0, u1]) rfl ⟨_, _, rfl, HNs.out _ hB5, hE.sl, hB5⟩
end Go.Proofs.Ytlhekldlfmdmiaa
