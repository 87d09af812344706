/-
  The walk of the statement RetryBounds: it returns true for every policy. No conditions.
-/
import Derived.Test.YtngoeikdlbccoaaE
namespace Go.Proofs.Ytngoeikdlbccoaa
open Go.RowKit Go.Sort

theorem tot_zero {a d f m : Int} (h : Bad a d f m) : tot a d f m 15 = 0 := tot_same a d f m 15 0 (.inl h)

theorem dl_mono (d f m : Int) (h1 : 0 ≤ d) (h2 : d ≤ m) (h3 : 1 ≤ f) (k : Nat) : dl d f m k ≤ dl d f m (k + 1) := by
  have hb := dl_bd d f m h1 h2 h3 k
  have : dl d f m k ≤ dl d f m k * f := by
    have := Int.mul_le_mul_of_nonneg_left h3 (show 0 ≤ dl d f m k by omega)
    omega
  simp only [dl]; omega

theorem bounds_bad (a d f m : Int) (w : World) (hG : Bad a d f m) :
    Calls Try.prog 6 #[.agg #[.int .i64 a, .int .i64 d, .int .i64 f, .int .i64 m]] w fun e w' => e = .returned (.bool true) ∧ Below w.heap.size w w' := by
  have hGG := Lib.hid hG
  clear hG
  go_enter Try.func6, Try.ntmps6
  go_wp2_with fail
  refine (check_bad _ _ _ _ _ hGG.out).mono ?_
  rintro e w1 ⟨rfl, hb1⟩
  have H1 : Below (w.heap.size + 1) (w.alloc (.cells #[.int .i64 a, .int .i64 d, .int .i64 f, .int .i64 m] 23)) w1 := hb1.mono (by simp)
  clear hb1
  obtain ⟨hc, hf⟩ := bcellB H1
  go_wp2_with fail
  refine (total_any _ _ _ _ _).mono ?_
  rintro e w2 ⟨rfl, hb2⟩
  rw [tot_zero hGG.out]
  have H2 := H1.trans (hb2.mono (by have := H1.size; simpa using this))
  clear H1 hb2 hc hf
  go_wp2_with fail
  refine (awake_any _).mono ?_
  rintro e w3 ⟨rfl, hb3⟩
  have H3 := H2.trans (hb3.mono (by have := H2.size; simpa using this))
  go_wp2
  go_ret
  exact ⟨rfl, ((Below.refl _ _).alloc (Nat.le_refl _) _).trans (H3.mono (by simp))⟩

theorem bounds_good (a d f m : Int) (w : World) (hG : Good a d f m) :
    Calls Try.prog 6 #[.agg #[.int .i64 a, .int .i64 d, .int .i64 f, .int .i64 m]] w fun e w' => e = .returned (.bool true) ∧ Below w.heap.size w w' := by
  have hGG := Lib.hid hG
  obtain ⟨g1, g2, g3, g4, g5, g6, g7, g8⟩ := hG
  go_enter Try.func6, Try.ntmps6
  go_wp2_with fail
  refine (check_good _ _ _ _ _ hGG.out).mono ?_
  rintro e w1 ⟨rfl, hb1⟩
  have H1 : Below (w.heap.size + 1) (w.alloc (.cells #[.int .i64 a, .int .i64 d, .int .i64 f, .int .i64 m] 23)) w1 := hb1.mono (by simp)
  clear hb1
  obtain ⟨hc, hf⟩ := bcellB H1
  go_wp2_with fail
  clear hc hf
  go_loopw [3, 4, 5] (fun s n _ wr => ∃ k j : Nat, k ≤ 17 ∧ (j ≤ k) ∧ ((k : Int) + 1 ≤ a → k ≤ j) ∧ (a ≤ (k : Int) + 1 → a = (j : Int) + 1) ∧ n = .int .i64 ((k : Int) + 1) ∧ s = .int .i64 (tot a d f m j) ∧ Below (w.heap.size + 1) (w.alloc (.cells #[.int .i64 a, .int .i64 d, .int .i64 f, .int .i64 m] 23)) wr) (fun _ i _ _ => 19 - (intOf i).toNat)
  case atStart => exact ⟨0, 0, by omega, by omega, by omega, by omega, rfl, rfl, H1⟩
  case round =>
    obtain ⟨k, j, hk, hj1, hj2, hj3, rfl, rfl, hb⟩ := hrel
    have hs := tot_bd a d f m j
    obtain ⟨hc, hf⟩ := bcellB hb
    by_cases hlt : k < 17
    · go_wp2_with fail
      refine (delay_any _ _ _ _ _ _).mono ?_
      rintro e w' ⟨rfl, hb2⟩
      have hb3 := hb.trans (hb2.mono (by have := hb.size; simpa using this))
      clear hb hb2 hc hf
      obtain ⟨hc, hf⟩ := bcellB hb3
      by_cases hka : a ≤ (k : Int) + 1
      · rw [dly_zero (.inr (.inr hka))]
        have e := hj3 hka
        clear hj2 hj3
        have E := Lib.hid e
        clear e
        go_wp2
        go_roundw
        case rel => exact ⟨k + 1, j, by omega, by omega, fun h => by omega, fun _ => E.out, by go_num, rfl, hb3⟩
        case measure => simp [intOf]; omega
      · have hjk : j = k := by have := hj2 (by omega); omega
        subst hjk
        clear hj1 hj2 hj3
        have hd := dl_bd d f m g3 g7 g5 j
        have hdl := dly_at (K := j) hGG.out (by omega)
        have hT := Lib.hid (show tot a d f m (j + 1) = tot a d f m j + dl d f m j by rw [tot, hdl])
        rw [hdl]
        clear hdl
        by_cases hk0 : j = 0
        · subst hk0
          go_wp2
          go_roundw
          case rel => exact ⟨1, 1, by omega, by omega, fun h => by omega, fun h => by omega, by go_num, by rw [hT.out], hb3⟩
          case measure => simp [intOf]
        · obtain ⟨i, rfl⟩ : ∃ i, j = i + 1 := ⟨j - 1, by omega⟩
          have hm := dl_mono d f m g3 g7 g5 i
          go_wp2_with fail
          refine (delay_any _ _ _ _ _ _).mono ?_
          rintro e w2 ⟨rfl, hb2⟩
          have hb4 := hb3.trans (hb2.mono (by have := hb3.size; simpa using this))
          clear hb3 hb2 hc hf
          rw [dly_at (K := i) hGG.out (by omega)]
          go_wp2
          go_roundw
          case rel => exact ⟨i + 1 + 1, i + 1 + 1, by omega, by omega, fun h => by omega, fun h => by omega, by go_num, by rw [hT.out], hb4⟩
          case measure => simp [intOf]; omega
    · have hk17 : k = 17 := by omega
      have e := hj3 (by omega)
      have hT := Lib.hid (show tot a d f m j = tot a d f m 15 from tot_same a d f m j 15 (.inr ⟨by omega, by omega⟩))
      clear hj1 hj2 hj3 e
      subst hk17
      go_wp2_with fail
      refine (total_any _ _ _ _ _).mono ?_
      rintro e w2 ⟨rfl, hb2⟩
      rw [← hT.out]
      have H2 := hb.trans (hb2.mono (by have := hb.size; simpa using this))
      clear hb hb2 hc hf
      go_wp2_with fail
      refine (awake_any _).mono ?_
      rintro e w3 ⟨rfl, hb3⟩
      have H3 := H2.trans (hb3.mono (by have := H2.size; simpa using this))
      go_wp2
      go_ret
      exact ⟨rfl, ((Below.refl _ _).alloc (Nat.le_refl _) _).trans (H3.mono (by simp))⟩

theorem bounds_walk (a d f m : Int) (w : World) :
    Calls Try.prog 6 #[.agg #[.int .i64 a, .int .i64 d, .int .i64 f, .int .i64 m]] w fun e w' => e = .returned (.bool true) ∧ Below w.heap.size w w' := by
  by_cases hB : Bad a d f m
  · exact bounds_bad _ _ _ _ _ hB
  · exact bounds_good _ _ _ _ _ (good_of hB)
end Go.Proofs.Ytngoeikdlbccoaa
