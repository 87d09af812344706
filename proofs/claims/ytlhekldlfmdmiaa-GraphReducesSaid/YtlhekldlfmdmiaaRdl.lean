import Derived.Test.YtlhekldlfmdmiaaPt
/-
  GraphReduces: the law's walk. Conditions: those ahead of each theorem.
-/
namespace Go.Proofs.Ytlhekldlfmdmiaa
open Go.RowKit Go.Sort Go.Lib Go.Maps
open Go.Lib (hid)
set_option linter.unusedVariables false
set_option linter.unusedSimpArgs false

set_option maxRecDepth 100000 in
set_option maxHeartbeats 4000000 in
theorem reduces_any (vn ve : Value) (ns : List ByteArray) (es : List Ed) (w : World) (hN : Sl StrR 1 w vn ns) (hS : Sl EdR 2 w ve es) :
    Calls Try.prog 8 #[.agg #[vn, ve]] w fun e w' => e = .returned (.bool true) ∧ Below w.heap.size w w' := by
  obtain ⟨r, c, rfl, _⟩ := id hS
  obtain ⟨rn, cn, rfl, _⟩ := id hN
  have HN := hid (fun (W : World) (hW : Below w.heap.size w W) => hN.below strR_mono hW)
  have HE := hid (fun (W : World) (hW : Below w.heap.size w W) => hS.below edR_mono hW)
  have HB0 := hid (show Below w.heap.size w (w.alloc (.cells #[.slice rn ns.length cn, .slice r es.length c] 25)) from (Below.refl _ _).alloc (Nat.le_refl _) _)
  have HC0 := hid (show (w.alloc (.cells #[.slice rn ns.length cn, .slice r es.length c] 25)).heap[w.heap.size]? = some (.cells #[.slice rn ns.length cn, .slice r es.length c] 25 (0, 0)) from (MapKept.heap_alloc w _).1)
  have HOK := hid (fun h => rightB_ok (ns := ns) (es := es) h)
  clear hN hS
  go_enter Try.func8, Try.ntmps8
  go_wp2_with fail
  generalize (w.alloc (.cells #[.slice rn ns.length cn, .slice r es.length c] 25)) = W0 at *
  have z0 := cellv HC0.out 0 rfl
  have z1 := cellv HC0.out 1 rfl
  go_wp2_with fail
  refine (right_any _ ns es _ W0 (HN.out _ HB0.out) (HE.out _ HB0.out)).mono ?_
  rintro e w1 ⟨rfl, hb1⟩
  have HB1 := hid (HB0.out.trans (hb1.mono HB0.out.size))
  have HC1 := hid ((hb1.block w.heap.size (lt_of_block HC0.out)).trans HC0.out)
  clear hb1 z0 z1
  cases hr : rightB ns es with
  | false =>
    clear hr
    go_wp2_with fail
    refine (awake_any w1).mono ?_
    rintro e w2 ⟨rfl, hb2⟩
    have HB2 := hid (HB1.out.trans (hb2.mono HB1.out.size))
    clear hb2
    go_wp2
    go_ret
    exact ⟨rfl, HB2.out⟩
  | true =>
    have hok := HOK.out hr
    have HCH := hid hok.2.2
    clear hr HOK
    obtain ⟨hok1, hok2, _⟩ := hok
    have y0 := cellv HC1.out 0 rfl
    have y1 := cellv HC1.out 1 rfl
    by_cases hbig : (40 : Int) < (ns.length : Int)
    · go_wp2_with fail
      refine (awake_any w1).mono ?_
      rintro e w2 ⟨rfl, hb2⟩
      have HB2 := hid (HB1.out.trans (hb2.mono HB1.out.size))
      clear hb2
      go_wp2
      go_ret
      exact ⟨rfl, HB2.out⟩
    have hbd : decide ((40 : Int) < (ns.length : Int)) = false := decide_eq_false hbig
    go_wp2_with fail
    refine (reduce_any _ ns es _ w1 (HN.out _ HB1.out) (HE.out _ HB1.out) (chk_iff.1 HCH.out).2.1 (chk_ends HCH.out) (by omega) (by omega)).mono ?_
    by_cases ho : ordE ns es = 0
    case neg =>
      have hz := redG_no ho
      rintro e w2 ⟨vn2, ve2, rfl, hn2, he2, hb2⟩
      generalize (redG ns es).2.2 = z at *
      obtain ⟨r2, c2, rfl, _⟩ := id he2
      obtain ⟨rn2, cn2, rfl, _⟩ := id hn2
      have HB2 := hid (HB1.out.trans (hb2.mono HB1.out.size))
      clear hb2 hn2 he2 y0 y1
      have HBa := hid (HB2.out.alloc HB2.out.size (.cells #[.slice rn2 (redG ns es).1.length cn2, .slice r2 (redG ns es).2.1.length c2] 25))
      go_wp2_with fail
      refine (awake_any _).mono ?_
      rintro e w3 ⟨rfl, hb3⟩
      have HB3 := hid (HBa.out.trans (hb3.mono HBa.out.size))
      clear hb3
      go_wp2
      go_ret
      exact ⟨rfl, HB3.out⟩
    have HNA := hid (chk_iff.1 HCH.out).2.1
    have HEN := hid (chk_ends HCH.out)
    have HCX := hid (red_chk HCH.out)
    have HEX := hid (chk_ends HCX.out)
    have HGX := hid (show redG ns (redL (tgt es) ns) = (ns, redL (tgt es) ns, 0) by rw [redG_ok (red_ord (asc_nodup stoB HNA.out) HEN.out HEX.out ho), red_twice HCH.out])
    have HLX := hid (red_len HCH.out)
    have HRX := hid (fun frm l m (h1 : LisP ns (RchN ns es frm) l) (h2 : LisP ns (RchN ns (redL (tgt es) ns) frm) m) => red_reach HEN.out ho h1 h2)
    rw [redG_ok ho]
    clear ho
    rintro e w2 ⟨vn2, ve2, rfl, hn2, he2, hb2⟩
    simp only at hn2 he2
    simp only
    generalize redL (tgt es) ns = xs at *
    have hlx : xs.length ≤ 200 := Nat.le_trans HLX.out hok2
    obtain ⟨r2, c2, rfl, _⟩ := id he2
    obtain ⟨rn2, cn2, rfl, _⟩ := id hn2
    have HB2 := hid (HB1.out.trans (hb2.mono HB1.out.size))
    have HN2 := hid (fun (W : World) (hW : Below w2.heap.size w2 W) => hn2.below strR_mono hW)
    have HE2 := hid (fun (W : World) (hW : Below w2.heap.size w2 W) => he2.below edR_mono hW)
    have HC2 := hid ((hb2.block w.heap.size (lt_of_block HC1.out)).trans HC1.out)
    have HBa := hid (HB2.out.alloc HB2.out.size (.cells #[.slice rn2 ns.length cn2, .slice r2 xs.length c2] 25))
    have HAa := hid ((Below.refl w2.heap.size w2).alloc (Nat.le_refl _) (.cells #[.slice rn2 ns.length cn2, .slice r2 xs.length c2] 25))
    have HXa := hid (show (w2.alloc (.cells #[.slice rn2 ns.length cn2, .slice r2 xs.length c2] 25)).heap[w2.heap.size]? = some (.cells #[.slice rn2 ns.length cn2, .slice r2 xs.length c2] 25 (0, 0)) from (MapKept.heap_alloc w2 _).1)
    have HCa := hid ((HAa.out.block w.heap.size (lt_of_block HC2.out)).trans HC2.out)
    clear hb2 hn2 he2 y0 y1 HC1 HC2
    go_wp2_with fail
    generalize (w2.alloc (.cells #[.slice rn2 ns.length cn2, .slice r2 xs.length c2] 25)) = W2 at *
    refine (reduce_any _ ns xs _ W2 (HN2.out _ HAa.out) (HE2.out _ HAa.out) HNA.out HEX.out (by omega) (by omega)).mono ?_
    rw [HGX.out]
    rintro e w3 ⟨vn3, ve3, rfl, hn3, he3, hb3⟩
    simp only at hn3 he3
    simp only
    obtain ⟨r3, c3, rfl, _⟩ := id he3
    obtain ⟨rn3, cn3, rfl, _⟩ := id hn3
    have HB3 := hid (HBa.out.trans (hb3.mono HBa.out.size))
    have HA3 := hid (HAa.out.trans (hb3.mono HAa.out.size))
    have HN3 := hid (fun (W : World) (hW : Below w3.heap.size w3 W) => hn3.below strR_mono hW)
    have HE3 := hid (fun (W : World) (hW : Below w3.heap.size w3 W) => he3.below edR_mono hW)
    have HX3 := hid ((hb3.block _ (lt_of_block HXa.out)).trans HXa.out)
    have HC3 := hid ((hb3.block _ (lt_of_block HCa.out)).trans HCa.out)
    have hal3 : Below w3.heap.size w3 (w3.alloc (.cells #[.slice rn3 ns.length cn3, .slice r3 xs.length c3] 25)) := (Below.refl _ _).alloc (Nat.le_refl _) _
    have HB4 := hid (HB3.out.trans (hal3.mono HB3.out.size))
    have HA4 := hid (HA3.out.trans (hal3.mono HA3.out.size))
    have HL3 := hid hal3
    have HY4 := hid (show (w3.alloc (.cells #[.slice rn3 ns.length cn3, .slice r3 xs.length c3] 25)).heap[w3.heap.size]? = some (.cells #[.slice rn3 ns.length cn3, .slice r3 xs.length c3] 25 (0, 0)) from (MapKept.heap_alloc w3 _).1)
    have HX4 := hid ((hal3.block _ (lt_of_block HX3.out)).trans HX3.out)
    have HC4 := hid ((hal3.block _ (lt_of_block HC3.out)).trans HC3.out)
    have HSB := hid (show sameB ns ns xs xs = true by simp [sameB])
    clear hb3 hn3 he3 hal3 HXa HCa HX3 HC3 HB3 HA3
    have x0 := cellv HX4.out 0 rfl
    have x1 := cellv HX4.out 1 rfl
    have t0 := cellv HY4.out 0 rfl
    have t1 := cellv HY4.out 1 rfl
    go_wp2_with fail
    generalize (w3.alloc (.cells #[.slice rn3 ns.length cn3, .slice r3 xs.length c3] 25)) = W4 at *
    refine (same_any _ _ _ _ ns ns xs xs W4 (HN2.out _ HA4.out) (HN3.out _ HL3.out) (HE2.out _ HA4.out) (HE3.out _ HL3.out)).mono ?_
    rintro e w5 ⟨rfl, hb5⟩
    rw [HSB.out]
    have HB5 := hid (HB4.out.trans (hb5.mono HB4.out.size))
    have HA5 := hid (HA4.out.trans (hb5.mono HA4.out.size))
    have HX5 := hid ((hb5.block _ (lt_of_block HX4.out)).trans HX4.out)
    have HC5 := hid ((hb5.block _ (lt_of_block HC4.out)).trans HC4.out)
    clear hb5 x0 x1 t0 t1 HX4 HC4 HY4 HL3 HN3 HE3 HB4 HA4
    have x0 := cellv HX5.out 0 rfl
    have x1 := cellv HX5.out 1 rfl
    go_wp2_with fail
    refine (check_any _ ns xs _ w5 (HN2.out _ HA5.out) (HE2.out _ HA5.out) (by omega)).mono ?_
    rintro e w6 ⟨rfl, hb6⟩
    rw [HCX.out]
    have HB6 := hid (HB5.out.trans (hb6.mono HB5.out.size))
    have HA6 := hid (HA5.out.trans (hb6.mono HA5.out.size))
    have HX6 := hid ((hb6.block _ (lt_of_block HX5.out)).trans HX5.out)
    have HC6 := hid ((hb6.block _ (lt_of_block HC5.out)).trans HC5.out)
    have hxl : ¬ (es.length : Int) < (xs.length : Int) := by have := HLX.out; omega
    have hxd : decide (es.length < xs.length) = false := decide_eq_false (by omega)
    clear hb6 x0 x1 HX5 HC5 HB5 HA5
    have x0 := cellv HX6.out 0 rfl
    have x1 := cellv HX6.out 1 rfl
    have y0 := cellv HC6.out 0 rfl
    have y1 := cellv HC6.out 1 rfl
    go_wp2
    clear x0 x1 y0 y1
    go_loopw [7] (fun i wr => ∃ k : Nat, k ≤ ns.length ∧ i = .int .i64 k ∧ Hid (Below w6.heap.size w6 wr)) (fun i _ => ns.length - (RowKit.intOf i).toNat)
    case atStart => exact ⟨0, by omega, rfl, hid (Below.refl _ _)⟩
    case round =>
      obtain ⟨k, hk, rfl, HBL⟩ := hrel
      have HBW := hid (HB6.out.trans (HBL.out.mono HB6.out.size))
      have HAW := hid (HA6.out.trans (HBL.out.mono HA6.out.size))
      have HXW := hid ((HBL.out.block _ (lt_of_block HX6.out)).trans HX6.out)
      have HCW := hid ((HBL.out.block _ (lt_of_block HC6.out)).trans HC6.out)
      have x0 := cellv HXW.out 0 rfl
      have x1 := cellv HXW.out 1 rfl
      have y0 := cellv HCW.out 0 rfl
      have y1 := cellv HCW.out 1 rfl
      by_cases hlt : k < ns.length
      · obtain ⟨b, off, rfl, hb, g0, hz0⟩ := str_at (HN.out _ HBW.out) k hlt
        have k2 : (0 : Int) ≤ (k : Int) := by omega
        have k3 : (k : Int) < (ns.length : Int) := by omega
        generalize ns[k] = y at *
        have HZ := hid hz0
        clear hz0
        have CG := hid (fun (W : World) (vf : Value) (hW : Below wr.heap.size wr W) (hf : Sl StrR 1 W vf [y]) => reach_any _ ns es _ vf [y] W (HN.out _ (HBW.out.trans (hW.mono HBW.out.size))) (HE.out _ (HBW.out.trans (hW.mono HBW.out.size))) hf HNA.out (by omega) (by omega) (by simp))
        have CX := hid (fun (W : World) (vf : Value) (hW : Below wr.heap.size wr W) (hf : Sl StrR 1 W vf [y]) => reach_any _ ns xs _ vf [y] W (HN2.out _ (HAW.out.trans (hW.mono HAW.out.size))) (HE2.out _ (HAW.out.trans (hW.mono HAW.out.size))) hf HNA.out (by omega) (by omega) (by simp))
        have hB : Below wr.heap.size wr wr.drew := (Below.refl _ _).drew
        go_wp2
        go_region_held3 (fun w' => w'.cell? ⟨w.heap.size, 0, none⟩ = some (.slice (some ⟨b, off, none⟩) ns.length cn) ∧ w'.cell? ⟨w.heap.size, 1, none⟩ = some (.slice r es.length c) ∧ w'.cell? ⟨w2.heap.size, 0, none⟩ = some (.slice rn2 ns.length cn2) ∧ w'.cell? ⟨w2.heap.size, 1, none⟩ = some (.slice r2 xs.length c2) ∧ w'.cell? ⟨b, off + k, none⟩ = some (.string y))
          (first | go_keep | exact ⟨bget hB y0, bget hB y1, bget hB x0, bget hB x1, bget hB g0⟩)
          ((first
            | (go_at_call 21
               with_reducible refine (CG.out _ _ (by first | exact hB | exact hB.alloc hB.size _ | exact ((Below.refl _ _).alloc (Nat.le_refl _) _).drew | exact (((Below.refl _ _).alloc (Nat.le_refl _) _).alloc (by simp) _).drew) (by first | exact lit_at hq0 HZ.out | exact lit_at hq1 HZ.out | exact lit_at (heap_one _ _) HZ.out | exact lit_at (heap_fst _ _ _) HZ.out | exact lit_at (heap_snd _ _ _) HZ.out)).mono ?_
               rintro e wg ⟨vG, lG, rfl, hlG, hpG, hbg⟩
               try have hq0 : wg.heap[wr.heap.size]? = some (.cells #[.string y] 9 (0, 0)) := (hbg.block wr.heap.size (by simp; try omega)).trans (by first | exact heap_one _ _ | exact heap_fst _ _ _)
               try have hq1 : wg.heap[wr.heap.size + 1]? = some (.cells #[.string y] 9 (0, 0)) := (hbg.block (wr.heap.size + 1) (by simp; try omega)).trans (by exact heap_snd _ _ _)
               try replace hlX := hlX.below strR_mono (by first | exact hbg | exact ((Below.refl _ _).alloc (Nat.le_refl _) _).trans (hbg.mono (by simp)))
               replace hB := (show Below wr.heap.size wr _ by first | exact hB | exact hB.alloc hB.size _ | exact ((Below.refl _ _).alloc (Nat.le_refl _) _).drew | exact (((Below.refl _ _).alloc (Nat.le_refl _) _).alloc (by simp) _).drew).trans (hbg.mono (by first | exact hB.size | (simp; exact Nat.le_succ_of_le hB.size) | (simp; done) | (simp; omega)))
               clear hbg)
            | (go_at_call 21
               with_reducible refine (CX.out _ _ (by first | exact hB | exact hB.alloc hB.size _ | exact ((Below.refl _ _).alloc (Nat.le_refl _) _).drew | exact (((Below.refl _ _).alloc (Nat.le_refl _) _).alloc (by simp) _).drew) (by first | exact lit_at hq0 HZ.out | exact lit_at hq1 HZ.out | exact lit_at (heap_one _ _) HZ.out | exact lit_at (heap_fst _ _ _) HZ.out | exact lit_at (heap_snd _ _ _) HZ.out)).mono ?_
               rintro e wx ⟨vX, lX, rfl, hlX, hpX, hbx⟩
               try have hq0 : wx.heap[wr.heap.size]? = some (.cells #[.string y] 9 (0, 0)) := (hbx.block wr.heap.size (by simp; try omega)).trans (by first | exact heap_one _ _ | exact heap_fst _ _ _)
               try have hq1 : wx.heap[wr.heap.size + 1]? = some (.cells #[.string y] 9 (0, 0)) := (hbx.block (wr.heap.size + 1) (by simp; try omega)).trans (by exact heap_snd _ _ _)
               try replace hlG := hlG.below strR_mono (by first | exact hbx | exact ((Below.refl _ _).alloc (Nat.le_refl _) _).trans (hbx.mono (by simp)))
               replace hB := (show Below wr.heap.size wr _ by first | exact hB | exact hB.alloc hB.size _ | exact ((Below.refl _ _).alloc (Nat.le_refl _) _).drew | exact (((Below.refl _ _).alloc (Nat.le_refl _) _).alloc (by simp) _).drew).trans (hbx.mono (by first | exact hB.size | (simp; exact Nat.le_succ_of_le hB.size) | (simp; done) | (simp; omega)))
               clear hbx)
            | (go_at_call 14
               refine (words_any lG lX _ _ _ hlG hlX).mono ?_
               have hw : decide (lG = lX) = true := decide_eq_true (HRX.out _ _ _ hpG hpX)
               rw [hw]
               rintro e wz ⟨rfl, hbz⟩
               replace hB := hB.trans (hbz.mono hB.size)
               clear hbz)))
        all_goals
          have HBn := hid (HBL.out.trans (hB.mono HBL.out.size))
          clear hB
          go_wp2
          go_roundw
          case rel => exact ⟨k + 1, by omega, by go_num, HBn⟩
          case measure => simp [RowKit.intOf]; omega
      · obtain rfl : k = ns.length := by omega
        go_wp2_with fail
        refine (awake_any _).mono ?_
        rintro e w7 ⟨rfl, hb7⟩
        have HB7 := hid (HBW.out.trans (hb7.mono HBW.out.size))
        clear hb7
        go_wp2
        go_ret
        exact ⟨rfl, HB7.out⟩
end Go.Proofs.Ytlhekldlfmdmiaa
