/-
  Contract of audit.Order at lists of at most 40 steps and 120 events. Conditions: those ahead of each theorem.
-/
import Derived.Test.YtdmcceekaopghaaNext
namespace Go.Proofs.Ytdmcceekaopghaa
open Go.RowKit Go.Sort

theorem sl_get_int {w : World} {v : Value} {xs : List Int} (h : Sl IntR 1 w v xs) {r : Option Addr} {n cap : Nat} (hv : v = .slice r n cap) :
    n = xs.length ∧ ∀ i (hi : i < xs.length), ∃ b off, r = some ⟨b, off, none⟩ ∧ w.cell? ⟨b, off + i, none⟩ = some (.int .i64 (xs[i])) ∧ b < w.heap.size ∧ -9223372036854775808 ≤ xs[i] ∧ xs[i] ≤ 9223372036854775807 := by
  obtain ⟨r', cap', rfl, _, _, he⟩ := h
  simp at hv
  obtain ⟨rfl, rfl, rfl⟩ := hv
  refine ⟨rfl, fun i hi => ?_⟩
  obtain ⟨b, off, cs, hr, _, hc, hx, h1, h2⟩ := he i hi
  have := hc 0 _ hx
  simp only [Nat.mul_one, Nat.add_zero] at this
  exact ⟨b, off, hr, this, World.block_lt_of_cell? w _ this, h1, h2⟩

theorem order_needs (ss : List St) (l : List Ev) (vS vL : Value) (w : World) (hS : Sl StR 3 w vS ss) (hL : Sl EvR 6 w vL l) (hbad : okNeeds ss = false) :
    Calls Try.prog 12 #[vS, vL] w fun r w' => r = .returned (.int .i64 1) ∧ Below w.heap.size w w' := by
  obtain ⟨rS, capS, rfl, hlS, hmS, hS⟩ := hS
  obtain ⟨rL, capL, rfl, hlL, hmL, hL⟩ := hL
  unfold maxLen at hmS hmL
  have HB := Lib.hid hbad
  clear hbad
  go_enter Try.func12, Try.ntmps12
  go_wp2
  go_loopw [15] (fun i wr => ∃ k : Nat, k ≤ ss.length ∧ i = .int .i64 k ∧ (∀ j (h : j < ss.length), j < k → ∀ n ∈ (ss[j]).needs, 0 ≤ n ∧ n < ss.length) ∧ Below w.heap.size w wr) (fun i _ => ss.length - (intOf i).toNat)
  case atStart => exact ⟨0, by omega, rfl, by omega, Below.refl _ _⟩
  case round =>
    obtain ⟨k, hk, rfl, hok, hb⟩ := hrel
    by_cases hlt : k < ss.length
    · have hSk := hS k hlt
      obtain ⟨b, off, cs, rfl, _, hc, v, hcs, hneeds⟩ := hSk
      subst hcs
      have g0 := bget hb (hc 0 _ rfl)
      have g1 := bget hb (hc 1 _ rfl)
      have g2 := bget hb (hc 2 _ rfl)
      simp only [Nat.add_zero] at g0
      have hbb := World.block_lt_of_cell? wr _ g0
      simp at hbb
      have hneeds := hneeds.below intR_mono hb
      clear hc
      obtain ⟨rn, capn, rfl, hln, hmn, _⟩ := id hneeds
      obtain ⟨_, hN⟩ := sl_get_int hneeds rfl
      unfold maxLen at hmn
      obtain ⟨wo, rfl⟩ : ∃ wo : World, wo = wr := ⟨_, rfl⟩
      generalize hsk : ss[k] = s at *
      obtain ⟨sc, so, needs⟩ := s
      simp only at g0 g1 g2 hneeds hN hln
      have HSK := Lib.hid hsk
      have HOK := Lib.hid hok
      have HBW := Lib.hid hb
      clear hsk hok hb hneeds
      go_wp2
      go_loop [22] (fun i => ∃ j : Nat, j ≤ needs.length ∧ i = .int .i64 j ∧ (∀ n ∈ needs.take j, 0 ≤ n ∧ n < ss.length)) (fun i => needs.length - (intOf i).toNat)
      case atStart => exact ⟨0, by omega, rfl, by simp⟩
      case round =>
        obtain ⟨j, hj, rfl, hall⟩ := hrel
        have HA := Lib.hid hall
        clear hall
        by_cases hj2 : j < needs.length
        · obtain ⟨bn, on, rfl, kn, hbn, hw1, hw2⟩ := hN j hj2
          have HT := Lib.hid (show 0 ≤ needs[j] → needs[j] < ss.length → ∀ n ∈ needs.take (j + 1), 0 ≤ n ∧ n < ss.length by
            intro h0 h1 n hn
            rw [List.take_succ_eq_append_getElem hj2, List.mem_append] at hn
            rcases hn with hn | hn
            · exact HA.out n hn
            · simp at hn; subst hn; exact ⟨h0, h1⟩)
          clear hN
          generalize needs[j] = q at *
          by_cases hq : 0 ≤ q ∧ q < ss.length
          · obtain ⟨hq0, hq1⟩ := hq
            go_wp2
            go_round
            case rel => exact ⟨j + 1, by omega, by go_num, HT.out hq0 hq1⟩
            case measure => simp [intOf]; omega
          · have HB2 := HBW.out
            by_cases hq0 : q < 0
            · go_wp2
              go_ret
              exact ⟨rfl, HB2.alloc HB2.size _⟩
            · have hq1 : (ss.length : Int) ≤ q := by omega
              clear hq
              go_wp2
              go_ret
              exact ⟨rfl, HB2.alloc HB2.size _⟩
        · have hje : j = needs.length := by omega
          have HA2 := Lib.hid (show ∀ n ∈ needs, 0 ≤ n ∧ n < ss.length by have := HA.out; rwa [hje, List.take_length] at this)
          clear hje HA
          go_wp2
          go_roundw
          case rel =>
            refine ⟨k + 1, by omega, by go_num, ?_, HBW.out.alloc HBW.out.size _⟩
            intro i hi hik n hn
            by_cases h : i < k
            · exact HOK.out i hi h n hn
            · obtain rfl : i = k := by omega
              rw [HSK.out] at hn
              exact HA2.out n hn
          case measure => simp [intOf]; omega
    · exfalso
      have hke : k = ss.length := by omega
      have : okNeeds ss = true := by
        unfold okNeeds
        rw [List.all_eq_true]
        intro s hs
        rw [List.all_eq_true]
        intro n hn
        obtain ⟨i, hi, rfl⟩ := List.mem_iff_getElem.1 hs
        have := hok i hi (by omega) n hn
        simp; omega
      rw [HB.out] at this
      cases this
end Go.Proofs.Ytdmcceekaopghaa
