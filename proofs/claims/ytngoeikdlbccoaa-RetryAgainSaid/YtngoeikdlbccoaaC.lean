/-
  Contracts of the reference Delay, and of Total in both texts: the sum of the delays, for every policy. No conditions.
-/
import Derived.Test.YtngoeikdlbccoaaB
namespace Go.Proofs.Ytngoeikdlbccoaa
open Go.RowKit

theorem rdelay_bad (a d f m n : Int) (w : World) (h : Bad a d f m) :
    Calls Try.prog 14 #[.agg #[.int .i64 a, .int .i64 d, .int .i64 f, .int .i64 m], .int .i64 n] w fun e w' => e = .returned (.int .i64 0) ∧ Below w.heap.size w w' := by
  go_enter Try.func14, Try.ntmps14
  go_wp2_with fail
  refine (rcheck_bad _ _ _ _ _ h).mono ?_
  rintro e w' ⟨rfl, hb⟩
  obtain ⟨hc, hf⟩ := bcell hb
  go_wp2
  go_ret
  exact ⟨rfl, ((Below.refl _ _).alloc (Nat.le_refl _) _).trans (hb.mono (by simp))⟩

theorem rdelay_zero (a d f m n : Int) (w : World) (h : Good a d f m) (hn : n < 1 ∨ a ≤ n) :
    Calls Try.prog 14 #[.agg #[.int .i64 a, .int .i64 d, .int .i64 f, .int .i64 m], .int .i64 n] w fun e w' => e = .returned (.int .i64 0) ∧ Below w.heap.size w w' := by
  go_enter Try.func14, Try.ntmps14
  go_wp2_with fail
  refine (rcheck_good _ _ _ _ _ h).mono ?_
  rintro e w' ⟨rfl, hb⟩
  obtain ⟨hc, hf⟩ := bcell hb
  by_cases h1 : n < 1
  · go_wp2
    go_ret
    exact ⟨rfl, ((Below.refl _ _).alloc (Nat.le_refl _) _).trans (hb.mono (by simp))⟩
  · have h2 : a ≤ n := by omega
    clear hn
    go_wp2
    go_ret
    exact ⟨rfl, ((Below.refl _ _).alloc (Nat.le_refl _) _).trans (hb.mono (by simp))⟩

theorem rdelay_at (a d f m : Int) (K : Nat) (w : World) (h : Good a d f m) (h2 : (K : Int) + 1 < a) :
    Calls Try.prog 14 #[.agg #[.int .i64 a, .int .i64 d, .int .i64 f, .int .i64 m], .int .i64 ((K : Int) + 1)] w fun e w' => e = .returned (.int .i64 (dl d f m K)) ∧ Below w.heap.size w w' := by
  have h1 : 1 ≤ (K : Int) + 1 := by omega
  have hG := h
  obtain ⟨g1, g2, g3, g4, g5, g6, g7, g8⟩ := h
  go_enter Try.func14, Try.ntmps14
  go_wp2_with fail
  refine (rcheck_good _ _ _ _ _ hG).mono ?_
  rintro e w' ⟨rfl, hb⟩
  obtain ⟨hc, hf⟩ := bcell hb
  go_wp2
  clear hG
  go_loop [5, 6] (fun x i => ∃ k : Nat, k ≤ K ∧ i = .int .i64 ((k : Int) + 1) ∧ x = .int .i64 (dl d f m k)) (fun _ i => K + 1 - (intOf i).toNat)
  case atStart => exact ⟨0, by omega, rfl, rfl⟩
  case round =>
    obtain ⟨k, hk, rfl, rfl⟩ := hrel
    have hd := dl_bd d f m g3 g7 g5 k
    by_cases hlt : k < K
    · have hd2 : dl d f m k * f ≤ 1024 * 16 := Int.mul_le_mul (by omega) g6 (by omega) (by omega)
      have hd3 : 0 ≤ dl d f m k * f := Int.mul_nonneg (by omega) (by omega)
      go_wp2
      go_round
      case rel => exact ⟨k + 1, by omega, by go_num, rfl⟩
      case measure => simp [intOf]; omega
    · have : k = K := by omega
      subst this
      clear hk hlt
      go_wp2
      go_ret
      exact ⟨rfl, ((Below.refl _ _).alloc (Nat.le_refl _) _).trans (hb.mono (by simp))⟩

def dly (a d f m n : Int) : Int := if (a < 1 ∨ 16 < a ∨ d < 0 ∨ 1024 < d ∨ f < 1 ∨ 16 < f ∨ m < d ∨ 1024 < m) ∨ n < 1 ∨ a ≤ n then 0 else dl d f m (n - 1).toNat

theorem dly_zero {a d f m n : Int} (h : Bad a d f m ∨ n < 1 ∨ a ≤ n) : dly a d f m n = 0 := if_pos h
theorem dly_at {a d f m : Int} {K : Nat} (h : Good a d f m) (h2 : (K : Int) + 1 < a) : dly a d f m (K + 1) = dl d f m K := by
  unfold dly
  rw [if_neg (by unfold Good at h; omega), show ((K : Int) + 1 - 1).toNat = K from by omega]

theorem delay_any (a d f m n : Int) (w : World) :
    Calls Try.prog 13 #[.agg #[.int .i64 a, .int .i64 d, .int .i64 f, .int .i64 m], .int .i64 n] w fun e w' => e = .returned (.int .i64 (dly a d f m n)) ∧ Below w.heap.size w w' := by
  by_cases h : Bad a d f m
  · rw [dly_zero (.inl h)]; exact delay_bad _ _ _ _ _ _ h
  by_cases hn : n < 1 ∨ a ≤ n
  · rw [dly_zero (.inr hn)]; exact delay_zero _ _ _ _ _ _ (good_of h) hn
  obtain ⟨K, rfl⟩ : ∃ K : Nat, n = K + 1 := ⟨(n - 1).toNat, by omega⟩
  rw [dly_at (good_of h) (by omega)]; exact delay_at _ _ _ _ _ _ (good_of h) (by omega)
theorem rdelay_any (a d f m n : Int) (w : World) :
    Calls Try.prog 14 #[.agg #[.int .i64 a, .int .i64 d, .int .i64 f, .int .i64 m], .int .i64 n] w fun e w' => e = .returned (.int .i64 (dly a d f m n)) ∧ Below w.heap.size w w' := by
  by_cases h : Bad a d f m
  · rw [dly_zero (.inl h)]; exact rdelay_bad _ _ _ _ _ _ h
  by_cases hn : n < 1 ∨ a ≤ n
  · rw [dly_zero (.inr hn)]; exact rdelay_zero _ _ _ _ _ _ (good_of h) hn
  obtain ⟨K, rfl⟩ : ∃ K : Nat, n = K + 1 := ⟨(n - 1).toNat, by omega⟩
  rw [dly_at (good_of h) (by omega)]; exact rdelay_at _ _ _ _ _ _ (good_of h) (by omega)

def tot (a d f m : Int) : Nat → Int | 0 => 0 | k + 1 => tot a d f m k + dly a d f m ((k : Int) + 1)
theorem dly_bd (a d f m n : Int) : 0 ≤ dly a d f m n ∧ dly a d f m n ≤ 1024 := by
  by_cases h : Bad a d f m ∨ n < 1 ∨ a ≤ n
  · rw [dly_zero h]; omega
  · obtain ⟨K, rfl⟩ : ∃ K : Nat, n = K + 1 := ⟨(n - 1).toNat, by omega⟩
    have hg := good_of (fun hb => h (.inl hb))
    rw [dly_at hg (by omega)]
    obtain ⟨g1, g2, g3, g4, g5, g6, g7, g8⟩ := hg
    have := dl_bd d f m g3 g7 g5 K; omega
theorem tot_bd (a d f m : Int) (k : Nat) : 0 ≤ tot a d f m k ∧ tot a d f m k ≤ 1024 * k := by
  induction k with
  | zero => simp [tot]
  | succ k ih => have := dly_bd a d f m ((k : Int) + 1); simp only [tot]; omega
theorem tot_stay (a d f m : Int) (k j : Nat) (h : Bad a d f m ∨ a ≤ (k : Int) + 1) : tot a d f m (k + j) = tot a d f m k := by
  induction j with
  | zero => rfl
  | succ j ih =>
    rw [show k + (j + 1) = (k + j) + 1 from by omega]
    simp only [tot]
    rw [ih, dly_zero (by rcases h with h | h; exact .inl h; right; right; omega)]; omega
theorem tot_same (a d f m : Int) (k k' : Nat) (h : Bad a d f m ∨ (a ≤ (k : Int) + 1 ∧ a ≤ (k' : Int) + 1)) : tot a d f m k = tot a d f m k' := by
  rcases Nat.le_total k k' with hk | hk
  · have := tot_stay a d f m k (k' - k) (by rcases h with h | h; exact .inl h; right; omega)
    rw [show k + (k' - k) = k' from by omega] at this; exact this.symm
  · have := tot_stay a d f m k' (k - k') (by rcases h with h | h; exact .inl h; right; omega)
    rw [show k' + (k - k') = k from by omega] at this; exact this

theorem rtotal_any (a d f m : Int) (w : World) :
    Calls Try.prog 16 #[.agg #[.int .i64 a, .int .i64 d, .int .i64 f, .int .i64 m]] w fun e w' => e = .returned (.int .i64 (tot a d f m 15)) ∧ Below w.heap.size w w' := by
  go_enter Try.func16, Try.ntmps16
  go_wp2
  go_loopw [3, 4] (fun s i wr => ∃ k : Nat, k ≤ 15 ∧ i = .int .i64 ((k : Int) + 1) ∧ s = .int .i64 (tot a d f m k) ∧ Below (w.heap.size + 1) (w.alloc (.cells #[.int .i64 a, .int .i64 d, .int .i64 f, .int .i64 m] 23)) wr) (fun _ i _ => 16 - (intOf i).toNat)
  case atStart => exact ⟨0, by omega, rfl, rfl, Below.refl _ _⟩
  case round =>
    obtain ⟨k, hk, rfl, rfl, hb⟩ := hrel
    have hs := tot_bd a d f m k
    have hd := dly_bd a d f m ((k : Int) + 1)
    obtain ⟨hc, hf⟩ := bcell (W := w.alloc (.cells #[.int .i64 a, .int .i64 d, .int .i64 f, .int .i64 m] 23)) (by simpa using hb)
    by_cases hlt : k < 15
    · go_wp2_with fail
      refine (rdelay_any _ _ _ _ _ _).mono ?_
      rintro e w' ⟨rfl, hb2⟩
      have hsz := hb.size
      simp at hsz
      have hb3 := hb.trans (hb2.mono (show w.heap.size + 1 ≤ _ by omega))
      clear hb hb2 hc hf
      go_wp2
      go_roundw
      case rel => exact ⟨k + 1, by omega, by go_num, rfl, hb3⟩
      case measure => simp [intOf]; omega
    · have : k = 15 := by omega
      subst this
      clear hk hlt
      go_wp2
      go_ret
      exact ⟨rfl, ((Below.refl _ _).alloc (Nat.le_refl _) _).trans (hb.mono (by simp))⟩

theorem total_any (a d f m : Int) (w : World) :
    Calls Try.prog 15 #[.agg #[.int .i64 a, .int .i64 d, .int .i64 f, .int .i64 m]] w fun e w' => e = .returned (.int .i64 (tot a d f m 15)) ∧ Below w.heap.size w w' := by
  have hT := Lib.hid (tot_same a d f m (min a 17 - 1).toNat 15 (by by_cases h : Bad a d f m; exact .inl h; right; have := good_of h; unfold Good at this; omega))
  go_enter Try.func15, Try.ntmps15
  go_wp2
  go_loopw [3, 4] (fun s i wr => ∃ k : Nat, (k ≤ (min a 17 - 1).toNat) ∧ i = .int .i64 ((k : Int) + 1) ∧ s = .int .i64 (tot a d f m k) ∧ Below (w.heap.size + 1) (w.alloc (.cells #[.int .i64 a, .int .i64 d, .int .i64 f, .int .i64 m] 23)) wr) (fun _ i _ => 18 - (intOf i).toNat)
  case atStart => exact ⟨0, by omega, rfl, rfl, Below.refl _ _⟩
  case round =>
    obtain ⟨k, hk, rfl, rfl, hb⟩ := hrel
    have hs := tot_bd a d f m k
    have hd := dly_bd a d f m ((k : Int) + 1)
    obtain ⟨hc, hf⟩ := bcell (W := w.alloc (.cells #[.int .i64 a, .int .i64 d, .int .i64 f, .int .i64 m] 23)) (by simpa using hb)
    by_cases hlt : (k : Int) + 1 < min a 17
    · have hk17 : k < 16 := by omega
      go_wp2_with fail
      refine (delay_any _ _ _ _ _ _).mono ?_
      rintro e w' ⟨rfl, hb2⟩
      have hsz := hb.size
      simp at hsz
      have hb3 := hb.trans (hb2.mono (show w.heap.size + 1 ≤ _ by omega))
      clear hb hb2 hc hf
      go_wp2
      go_roundw
      case rel => exact ⟨k + 1, by omega, by go_num, rfl, hb3⟩
      case measure => simp [intOf]; omega
    · have hk2 : k = (min a 17 - 1).toNat := by omega
      have hT2 := Lib.hid (show tot a d f m k = tot a d f m 15 by rw [hk2]; exact hT.out)
      clear hk hk2 hT
      go_wp2
      go_ret
      exact ⟨congrArg (fun x => Ending.returned (.int .i64 x)) hT2.out, ((Below.refl _ _).alloc (Nat.le_refl _) _).trans (hb.mono (by simp))⟩
end Go.Proofs.Ytngoeikdlbccoaa
