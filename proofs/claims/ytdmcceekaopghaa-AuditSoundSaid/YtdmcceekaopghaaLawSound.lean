/-
  The walk of the statement AuditSound. Conditions: the readings.
-/
import Derived.Test.YtdmcceekaopghaaPlS
import Derived.Test.YtdmcceekaopghaaSteps2
import Derived.Test.YtdmcceekaopghaaLawCounts
import Derived.Test.YtdmcceekaopghaaLawPrefix
import Derived.Deep.DeepCutAuto
import Derived.Deep.RegionLaw
import Derived.Deep.RegionHeld3
namespace Go.Proofs.Ytdmcceekaopghaa
open Go.RowKit Go.Sort Go.ChangeShapes Go.WideShapes Go.ChangeAt

def okN (i : Nat) (x : List Int) : Prop := ∀ q ∈ x, 0 ≤ q ∧ q < (i : Int)
def pre (ns : List (List Int)) (k : Nat) : Prop := ∀ (i : Nat) (h : i < ns.length), i < k → (ns[i]).length ≤ 40 ∧ okN i ns[i]

set_option maxRecDepth 100000 in
set_option maxHeartbeats 4000000 in
theorem sound_law (r : Option Addr) (c : Nat) (ns : List (List Int)) (at_ : Nat) (w : World) (hN : Sl NsR 1 w (.slice r ns.length c) ns) (hat : at_ ≤ 255) :
    Calls Try.prog 5 #[.slice r ns.length c, .int .u8 at_] w fun r w' => r = .returned (.bool true) ∧ Below w.heap.size w w' := by
  have HN := Lib.hid hN
  obtain ⟨r', cap, hv, hl, hm, he⟩ := hN
  simp at hv
  obtain ⟨rfl, rfl⟩ := hv
  unfold maxLen at hm
  have hsv : ∀ i (hi : i < ns.length), ∃ s : Sv, ∃ b off, r = some ⟨b, off, none⟩ ∧ w.cell? ⟨b, off + i, none⟩ = some s.val ∧ Sl IntR 1 w s.val (ns[i]) := fun i hi => by
    obtain ⟨b, off, cs, hr, hs, hc, s, hx, hS⟩ := he i hi
    subst hx
    have := hc 0 _ rfl
    simp only [Nat.mul_one, Nat.add_zero] at this
    exact ⟨s, b, off, hr, this, hS⟩
  have HS := Lib.hid hsv
  clear hsv he
  by_cases h40 : ns.length ≤ 40
  case neg =>
    have h41 : 40 < ns.length := by omega
    clear h40
    go_enter Try.func5, Try.ntmps5
    go_wp2_with fail
    refine (awake_any _).mono ?_
    rintro r w' ⟨rfl, hb⟩
    go_wp2
    go_ret
    exact ⟨rfl, hb⟩
  case pos =>
  go_enter Try.func5, Try.ntmps5
  go_wp2
  go_loopg [5, 6] ns.length (fun gg s5 s6 wr => ∃ kk : Nat, kk ≤ ns.length ∧ ns.length - kk ≤ gg ∧ s6 = .int .i64 kk ∧ Aside (Below w.heap.size w wr) ∧ Aside (wr.ownsRow w.heap.size 34 6 s5 (evs kk).length ((evs kk).flatMap Ev.cells)) ∧ Aside (pre ns kk))
  case atStart => exact ⟨0, Nat.zero_le _, by omega, rfl, Below.refl _ _, World.ownsRow_nil _ _ _ _, fun i _ h => absurd h (by omega)⟩
  case round =>
    obtain ⟨kk, hkk, hg, rfl, BW, OW, PR⟩ := hrel
    by_cases hlt : kk < ns.length
    · obtain ⟨s, b, off, rfl, hc, hS⟩ := HS.out kk hlt
      have hc := bget BW.out hc
      have hbb := World.block_lt_of_cell? wr _ hc
      simp at hbb
      have PX := Lib.hid (show (ns[kk]).length ≤ 40 → okN kk ns[kk] → pre ns (kk + 1) from fun h1 h2 i hi hik => by
        by_cases h : i < kk
        · exact PR.out i hi h
        · obtain rfl : i = kk := by omega
          exact ⟨h1, h2⟩)
      have hS := hS.below intR_mono BW.out
      have HX := Lib.hid hS
      generalize ns[kk] = x at *
      obtain ⟨sa, sn, sc⟩ := s
      simp only [Sv.val] at hc HX hS
      obtain ⟨hsn, hEl⟩ := sl_get_int hS rfl
      obtain ⟨_, _, hv2, hl2, hm2, _⟩ := hS
      simp at hv2
      obtain ⟨rfl, rfl, rfl⟩ := hv2
      unfold maxLen at hm2
      have HE := Lib.hid hEl
      clear hEl hsn
      by_cases hx40 : x.length ≤ 40
      case neg =>
        have hx41 : 40 < x.length := by omega
        clear hx40
        go_wp2_with fail
        refine (awake_any _).mono ?_
        rintro r w' ⟨rfl, hb⟩
        have HB := Lib.hid (BW.out.trans (hb.mono BW.out.size))
        clear hb BW
        go_wp2
        go_ret
        exact ⟨rfl, HB.out⟩
      case pos =>
      obtain ⟨wo, rfl⟩ : ∃ wo : World, wo = wr := ⟨_, rfl⟩
      go_wp2
      go_loop [7] (fun i => ∃ j : Nat, j ≤ x.length ∧ i = .int .i64 j ∧ Aside (okN kk (x.take j))) (fun i => x.length - (intOf i).toNat)
      case atStart => exact ⟨0, by omega, rfl, fun q hq => by simp at hq⟩
      case round =>
        obtain ⟨j, hj, rfl, hall⟩ := hrel
        by_cases hj2 : j < x.length
        · obtain ⟨bn, on, rfl, kn, hbn, hw1, hw2⟩ := HE.out j hj2
          have HT := Lib.hid (show 0 ≤ x[j] → x[j] < kk → okN kk (x.take (j + 1)) by
            intro h0 h1 n hn
            rw [List.take_succ_eq_append_getElem hj2, List.mem_append] at hn
            rcases hn with hn | hn
            · exact hall.out n hn
            · simp at hn; subst hn; exact ⟨h0, h1⟩)
          generalize x[j] = q at *
          by_cases hq : 0 ≤ q ∧ q < kk
          · obtain ⟨hq0, hq1⟩ := hq
            go_wp2
            go_round
            case rel => exact ⟨j + 1, by omega, by go_num, HT.out hq0 hq1⟩
            case measure => simp [intOf]; omega
          · by_cases hq0 : q < 0
            · clear hq
              go_wp2_with fail
              refine (awake_any _).mono ?_
              rintro r w' ⟨rfl, hb⟩
              have HB := Lib.hid (BW.out.trans (hb.mono BW.out.size))
              clear hb BW
              go_wp2
              go_ret
              exact ⟨rfl, HB.out⟩
            · have hq1 : (kk : Int) ≤ q := by omega
              clear hq
              go_wp2_with fail
              refine (awake_any _).mono ?_
              rintro r w' ⟨rfl, hb⟩
              have HB := Lib.hid (BW.out.trans (hb.mono BW.out.size))
              clear hb BW
              go_wp2
              go_ret
              exact ⟨rfl, HB.out⟩
        · have hje : j = x.length := by omega
          have P2 := Lib.hid (PX.out hx40 (by have := hall.out; rwa [hje, List.take_length] at this))
          have hown1 : ∀ q, u5.ownBlock = some q → w.heap.size ≤ q := fun q hq => (OW.out.lt q hq).1
          clear hje hall PX PR HE HX
          go_wp2_with fail
          refine (event_any 1 kk _).mono ?_
          rintro r1 w1 ⟨rfl, hb1⟩
          have B1 := Lib.hid (BW.out.trans (hb1.mono BW.out.size))
          have O1 := Lib.hid (OW.out.kept (row := none) ⟨hb1.os, hb1.tape, hb1.output, hb1.size, fun k hk _ => hb1.block k hk⟩ (by cases u5.ownBlock <;> simp))
          clear hb1 BW OW
          go_wp2_with fail
          refine (event_any 3 kk _).mono ?_
          rintro r2 w2 ⟨rfl, hb2⟩
          have B2 := Lib.hid (B1.out.trans (hb2.mono B1.out.size))
          have O2 := Lib.hid (O1.out.kept (row := none) ⟨hb2.os, hb2.tape, hb2.output, hb2.size, fun k hk _ => hb2.block k hk⟩ (by cases u5.ownBlock <;> simp))
          clear hb2 B1 O1
          simp only [evOf, Ev.cells]
          have hwb : Below w2.heap.size w2 (w2.alloc (.cells (([evOf 1 kk, evOf 3 kk] : List Ev).flatMap Ev.cells).toArray 34)) := (Below.refl _ _).alloc (Nat.le_refl _) _
          have O3 := Lib.hid (O2.out.alloc (.cells (([evOf 1 kk, evOf 3 kk] : List Ev).flatMap Ev.cells).toArray 34))
          have B3 := Lib.hid (B2.out.trans (hwb.mono B2.out.size))
          have d5 := Lib.hid (heap_alloc_new w2 (.cells (([evOf 1 kk, evOf 3 kk] : List Ev).flatMap Ev.cells).toArray 34))
          have y5 := Lib.hid (show w.heap.size ≤ (w2.alloc (.cells (([evOf 1 kk, evOf 3 kk] : List Ev).flatMap Ev.cells).toArray 34)).heap.size by have := B2.out.size; simp; omega)
          have y7 := Lib.hid (show (evs kk).length + 2 ≤ 1000000 by rw [evs_len]; omega)
          clear hwb
          go_wp2_with (at_builtin; go_loud (refine wpList_append_rows Ev.cells ev_len ev_one Try.underlying23 evinfo rfl (by omega) (by omega) rfl (.tmp 57) (.tmp 62) rfl w.heap.size u5 (evs kk) rfl O3.out w2.heap.size 2 2 [evOf 1 kk, evOf 3 kk] rfl (by omega) rfl d5.out y7.out y5.out ?_); intro gm capm w4 ho4 hg4 hat4 hl4)
          have O4 := Lib.hid (show w4.ownsRow w.heap.size 34 6 (.slice (some ⟨gm, 0, none⟩) ((evs kk).length + 2) capm) (evs (kk + 1)).length ((evs (kk + 1)).flatMap Ev.cells) by rw [evs_succ]; exact ho4)
          have B4 := Lib.hid (B3.out.grown hg4 y5.out hown1)
          clear ho4 hg4 hat4 hl4 O3 B3 d5 y5 y7 O2 B2
          go_roundg (ns.length - (kk + 1))
          case measure => omega
          case rel => exact ⟨kk + 1, by omega, by omega, by go_num, B4.out, O4.out, P2.out⟩
    · have hke : kk = ns.length := by omega
      subst hke
      have GD : good ns := fun i hi => (PR.out i hi hi).2
      have GD := Lib.hid GD
      have O0 := Lib.hid OW.out
      have B0 := Lib.hid BW.out
      clear PR OW BW hg hkk hlt
      go_wp2_with fail
      refine (steps_own ns _ _ (HN.out.below nsR_mono B0.out) (by omega)).mono ?_
      rintro r1 w1 ⟨v1, svs, rfl, hS1, hsvs, hb1⟩
      have hlt0 : ∀ q, u5.ownBlock = some q → q < wr.heap.size := fun q hq => (O0.out.lt q hq).2
      have B1 := Lib.hid (B0.out.trans (hb1.mono B0.out.size))
      have O1 := Lib.hid (O0.out.kept (row := none) ⟨hb1.os, hb1.tape, hb1.output, hb1.size, fun k hk _ => hb1.block k hk⟩ (by cases u5.ownBlock <;> simp))
      have P1 := Lib.hid hS1
      have hsv2 : svs.length = ns.length ∧ ∀ (i : Nat) (h1 : i < ns.length) (h2 : i < svs.length), Sl IntR 1 w (svs[i]).val (ns[i]) := ⟨hsvs.1, fun i h1 h2 => by
        obtain ⟨_, b, off, c2, e1, e2⟩ := hsvs.2 i h1 h2
        obtain ⟨s, b', off', e3, e4, e5⟩ := HS.out i h1
        simp at e1
        obtain ⟨e1, rfl⟩ := e1
        rw [e1] at e3
        simp at e3
        obtain ⟨rfl, rfl⟩ := e3
        have e6 := bget B0.out e4
        rw [e2] at e6
        rw [Option.some.inj e6]
        exact e5⟩
      have S1 := Lib.hid (steps_read hS1 ⟨hsvs.1, fun i h1 h2 => (hsvs.2 i h1 h2).1⟩ hb1)
      have V1 := Lib.hid hsv2
      have HL0 := Lib.hid hlt0
      have Z1 := Lib.hid hb1.size
      have BW1 := Lib.hid hb1
      clear hS1 hb1 O0 hsvs hlt0 hsv2
      go_wp2_with fail
      refine (order_any (mkSt ns) (evs ns.length) _ _ _ S1.out (sl_of_own Ev.cells ev_len O1.out) (by rw [mkSt_len]; exact h40) (by rw [evs_len]; omega)).mono ?_
      rintro r2 w2 ⟨rfl, hb2⟩
      have B2 := Lib.hid (B1.out.trans (hb2.mono B1.out.size))
      have O2 := Lib.hid (O1.out.kept (row := none) ⟨hb2.os, hb2.tape, hb2.output, hb2.size, fun k hk _ => hb2.block k hk⟩ (by cases u5.ownBlock <;> simp))
      have BW2 := Lib.hid (BW1.out.trans (hb2.mono BW1.out.size))
      have P2 := Lib.hid (P1.out.kept (row := none) ⟨hb2.os, hb2.tape, hb2.output, hb2.size, fun k hk _ => hb2.block k hk⟩ (by cases v1.ownBlock <;> simp))
      clear S1 hb2 B1 O1 P1 BW1
      rw [sound_ok GD.out]
      by_cases hn : at_ < ns.length
      case neg =>
        have hn2 : ns.length ≤ at_ := by omega
        clear hn
        go_wp2_with fail
        refine (awake_any _).mono ?_
        rintro r w' ⟨rfl, hb⟩
        have HB := Lib.hid (B2.out.trans (hb.mono B2.out.size))
        clear hb
        go_wp2
        go_ret
        exact ⟨rfl, HB.out⟩
      case pos =>
      obtain ⟨s, b, off, rfl, hc, hS⟩ := HS.out at_ hn
      have hc := bget B2.out hc
      have hbb := World.block_lt_of_cell? w2 _ hc
      simp at hbb
      have hS := hS.below intR_mono B2.out
      have SB := Lib.hid (fun (k : Nat) (h : (k : Int) ∈ ns[at_]) => sound_bad GD.out hn h)
      have SN := Lib.hid (GD.out at_ hn)
      generalize ns[at_] = x at *
      obtain ⟨sa, sn, sc⟩ := s
      simp only [Sv.val] at hc hS
      obtain ⟨hsn, hEl⟩ := sl_get_int hS rfl
      obtain ⟨_, _, hv2, hl2, hm2, _⟩ := hS
      simp at hv2
      obtain ⟨rfl, rfl, rfl⟩ := hv2
      unfold maxLen at hm2
      by_cases hx : x.length = 0
      case pos =>
        have e1 : ((x.length : Int) == 0) = true := by simp [hx]
        clear hEl hx
        go_wp2_with fail
        refine (awake_any _).mono ?_
        rintro r w' ⟨rfl, hb⟩
        have HB := Lib.hid (B2.out.trans (hb.mono B2.out.size))
        clear hb
        go_wp2
        go_ret
        exact ⟨rfl, HB.out⟩
      case neg =>
      have hx0 : 0 < x.length := by omega
      have e1 : ((x.length : Int) == 0) = false := by simpa using hx
      obtain ⟨bn, on, rfl, kn, hbn, _, _⟩ := hEl 0 hx0
      simp only [Nat.add_zero] at kn
      obtain ⟨hq0, hq1⟩ := SN.out _ (List.getElem_mem hx0)
      have SB2 := Lib.hid (fun (k : Nat) (h : (k : Int) = x[0]) => SB.out k (by rw [h]; exact List.getElem_mem hx0))
      clear hEl hx SB SN hsn
      generalize x[0] = q at *
      obtain ⟨K, rfl⟩ : ∃ K : Nat, q = K := ⟨q.toNat, by omega⟩
      have SB3 := Lib.hid (SB2.out K rfl)
      clear SB2
      obtain ⟨_, ho⟩ := O2.out
      rcases ho with ⟨rfl, h0⟩ | ⟨g, cap, cur, rfl, hbg, hg, hnc, hcc, hcs, ht⟩
      · rw [evs_len] at h0; exfalso; omega
      rw [evs_len] at *
      unfold maxLen at hcc
      go_upto_region 22 with (fail)
      have hSl : Sl EvR 6 w2 (.slice (some ⟨g, 0, none⟩) (2 * ns.length) cap) (evs ns.length) := sl_of_own Ev.cells ev_len (by rw [evs_len]; exact O2.out)
      obtain ⟨eN, eN1⟩ := evs_get ns.length at_ hn
      obtain ⟨eK0, eK⟩ := evs_get ns.length K (by omega)
      obtain ⟨_, _, hvS, _, _, hSe⟩ := id hSl
      have cN : ∀ (j : Nat) (u : Value), (evOf 1 at_).cells[j]? = some u → w2.cell? ⟨g, 2 * at_ * 6 + j, none⟩ = some u := by
        have hl : 2 * at_ < (evs ns.length).length := by rw [evs_len]; omega
        obtain ⟨b', off', cs, hr, _, hc, hR⟩ := hSe (2 * at_) hl
        simp at hvS
        rw [← hvS.1] at hr
        simp at hr
        obtain ⟨rfl, rfl⟩ := hr
        rw [List.getElem?_eq_getElem hl] at eN
        rw [Option.some.inj eN] at hR
        subst hR
        simpa using hc
      have cK : ∀ (j : Nat) (u : Value), (evOf 3 K).cells[j]? = some u → w2.cell? ⟨g, (2 * K + 1) * 6 + j, none⟩ = some u := by
        have hl : 2 * K + 1 < (evs ns.length).length := by rw [evs_len]; omega
        obtain ⟨b', off', cs, hr, _, hc, hR⟩ := hSe (2 * K + 1) hl
        simp at hvS
        rw [← hvS.1] at hr
        simp at hr
        obtain ⟨rfl, rfl⟩ := hr
        rw [List.getElem?_eq_getElem hl] at eK
        rw [Option.some.inj eK] at hR
        subst hR
        simpa using hc
      have fz : ∀ o, w2.frozen? ⟨g, o, none⟩ = false := fun o => by simp [World.frozen?, hg]
      have HSL := Lib.hid hSl
      obtain ⟨N2, hN2⟩ : ∃ N2 : Nat, N2 = 2 * at_ := ⟨_, rfl⟩
      obtain ⟨K1, hK1⟩ : ∃ K1 : Nat, K1 = 2 * K + 1 := ⟨_, rfl⟩
      have HN2 := Lib.hid hN2
      have HK1 := Lib.hid hK1
      have i1 : (2 : Int) * (at_ : Int) = (N2 : Int) := by omega
      have i2 : (2 : Int) * (K : Int) + 1 = (K1 : Int) := by omega
      have i3 : K1 < N2 := by omega
      have i4 : N2 < 2 * ns.length := by omega
      have i5 : (0 : Int) ≤ (N2 : Int) := by omega
      have i6 : (N2 : Int) < (2 : Int) * (ns.length : Int) := by omega
      have i7 : (0 : Int) ≤ (K1 : Int) := by omega
      have i8 : (K1 : Int) < (2 : Int) * (ns.length : Int) := by omega
      rw [← hN2] at cN
      rw [← hK1] at cK
      have a0 := cN 0 _ rfl
      have a1 := cN 1 _ rfl
      have a2 := cN 2 _ rfl
      have a3 := cN 3 _ rfl
      have a4 := cN 4 _ rfl
      have a5 := cN 5 _ rfl
      have d0 := cK 0 _ rfl
      have d1 := cK 1 _ rfl
      have d2 := cK 2 _ rfl
      have d3 := cK 3 _ rfl
      have d4 := cK 4 _ rfl
      have d5 := cK 5 _ rfl
      simp only [Nat.add_zero] at a0 d0
      have hgb : g < w2.heap.size := by have := World.block_lt_of_cell? w2 _ a0; simpa using this
      clear cN cK hSe hvS eN eN1 eK0 eK hN2 hK1 hSl hg ht hc kn e1
      have hgx : g < wr.heap.size := HL0.out g rfl
      have hgw : w.heap.size ≤ g := hbg
      clear HL0
      go_region
      all_goals
        go_wp2_with fail
        have hL1 : Sl EvR 6 (put6 (put6 w2 g (K1 * 6) (evOf 1 at_)) g (N2 * 6) (evOf 3 K)) (.slice (some ⟨g, 0, none⟩) (2 * ns.length) cap) (swapped ns.length K at_) := by
          have h1 := put6_sl HSL.out K1 (by rw [evs_len]; omega) (evOf 1 at_)
          have h2 := put6_sl h1 N2 (by rw [List.length_set, evs_len]; omega) (evOf 3 K)
          rw [HK1.out, HN2.out] at h2
          rw [HK1.out, HN2.out]
          exact h2
        have hB3 : Below w.heap.size w (put6 (put6 w2 g (K1 * 6) (evOf 1 at_)) g (N2 * 6) (evOf 3 K)) := put6_below (put6_below B2.out hgw) hgw
        have hP3 := (P2.out.kept (grown_put6 (g := g) (o := K1 * 6) (e := evOf 1 at_)) (by
          cases hv : v1.ownBlock with
          | none => exact .inl rfl
          | some q => exact .inr (by simp; exact fun e => by have := (P2.out.lt q hv).1; omega))).kept (grown_put6 (g := g) (o := N2 * 6) (e := evOf 3 K)) (by
          cases hv : v1.ownBlock with
          | none => exact .inl rfl
          | some q => exact .inr (by simp; exact fun e => by have := (P2.out.lt q hv).1; omega))
        have hS3 := steps_read hP3 V1.out hB3
        have hD := (Below.refl (put6 (put6 w2 g (K1 * 6) (evOf 1 at_)) g (N2 * 6) (evOf 3 K)).heap.size (put6 (put6 w2 g (K1 * 6) (evOf 1 at_)) g (N2 * 6) (evOf 3 K))).drew
        have hS4 := Lib.hid (hS3.below stR_mono hD)
        have hL4 := Lib.hid (hL1.below evR_mono hD)
        have hB4 := Lib.hid (hB3.trans (hD.mono hB3.size))
        clear hS3 hL1 hB3 hD hP3 a0 a1 a2 a3 a4 a5 d0 d1 d2 d3 d4 d5 fz P2 BW2 B2 HSL
        refine (order_any (mkSt ns) (swapped ns.length K at_) _ _ _ hS4.out hL4.out (by rw [mkSt_len]; exact h40) (by unfold swapped; rw [List.length_set, List.length_set, evs_len]; omega)).mono ?_
        rintro r5 w5 ⟨rfl, hb5⟩
        have B5 := Lib.hid (hB4.out.trans (hb5.mono hB4.out.size))
        rw [SB3.out]
        clear hb5 hB4 hL4 hS4
        go_wp2_with fail
        refine (awake_any _).mono ?_
        rintro r6 w6 ⟨rfl, hb6⟩
        have B6 := Lib.hid (B5.out.trans (hb6.mono B5.out.size))
        clear hb6 B5
        go_wp2
        go_ret
        exact ⟨rfl, B6.out⟩

set_option maxRecDepth 100000 in
theorem auditSound_from (H : Type) (enc : TypeId × Value → H) (W : World) (base : Nat) (v0 v1 : Value) (d0 d1 : DataW H) (p0 p1 : List MemPlace)
    (o0 : Value.okWide Try.prog W .any base 29 v0) (o1 : Value.okWide Try.prog W .any base 5 v1)
    (h0 : DataW.Trod enc Try.prog W 0 (fun _ => true) true 29 v0 d0 p0) (h1 : DataW.Trod enc Try.prog W 0 (fun _ => true) true 5 v1 d1 p1) :
    Calls Try.prog 5 #[v0, v1] W fun e W' => e = .returned (.bool true) ∧ Below W.heap.size W W' := by
  obtain ⟨n, hn, rfl⟩ := open_u8 o1 h1
  obtain ⟨a, len, cap, rfl⟩ := okWide_slice Try.underlying29 o0
  obtain ⟨fuel, hf⟩ := h0
  obtain ⟨ns, hS⟩ := sl_of_trod NsR Try.underlying29 cInts (by omega) (fun fuel cs y hl h => by
    have h' : DataW.trod enc Try.prog W 0 (fun _ => true) true fuel 30 ((cs.drop 0).take 1) = some y := by
      rw [List.drop_zero, List.take_of_length_le (by omega)]; exact h
    obtain ⟨v, xs, e, hs⟩ := field_slice IntR Try.underlying30 cInt (by omega) (by omega) (intR_of_trod Try.underlying3) h'
    match cs, hl with
    | [u], _ =>
      simp at e
      subst e
      obtain ⟨r, c, rfl, _⟩ := id hs
      exact ⟨xs, ⟨r, _, c⟩, rfl, hs⟩) hf
  obtain ⟨r, c, hv, _⟩ := id hS
  simp at hv
  obtain ⟨rfl, rfl, rfl⟩ := hv
  exact sound_law _ _ ns n W hS hn
end Go.Proofs.Ytdmcceekaopghaa
