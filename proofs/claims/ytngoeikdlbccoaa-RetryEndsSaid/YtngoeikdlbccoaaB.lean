/-
  Contract of retry.Delay in its three cases (policy not valid, attempt outside, attempt inside). Conditions: those of the case, ahead of each theorem.
-/
import Derived.Test.YtngoeikdlbccoaaA
import Derived.Lib.QuietBelow
namespace Go.Proofs.Ytngoeikdlbccoaa
open Go.RowKit

theorem bcell {W w1 : World} (hb : Below W.heap.size W w1) : (∀ b o, b < W.heap.size → w1.cell? ⟨b, o, none⟩ = W.cell? ⟨b, o, none⟩) ∧ (∀ b o, b < W.heap.size → w1.frozen? ⟨b, o, none⟩ = W.frozen? ⟨b, o, none⟩) :=
  ⟨fun b o h => hb.cell (p := ⟨b, o, none⟩) h, fun b o h => hb.frozen (p := ⟨b, o, none⟩) h⟩

theorem delay_bad (a d f m n : Int) (w : World) (h : Bad a d f m) :
    Calls Try.prog 13 #[.agg #[.int .i64 a, .int .i64 d, .int .i64 f, .int .i64 m], .int .i64 n] w fun e w' => e = .returned (.int .i64 0) ∧ Below w.heap.size w w' := by
  go_enter Try.func13, Try.ntmps13
  go_wp2_with fail
  refine (check_bad _ _ _ _ _ h).mono ?_
  rintro e w' ⟨rfl, hb⟩
  obtain ⟨hc, hf⟩ := bcell hb
  go_wp2
  go_ret
  exact ⟨rfl, ((Below.refl _ _).alloc (Nat.le_refl _) _).trans (hb.mono (by simp))⟩

theorem delay_zero (a d f m n : Int) (w : World) (h : Good a d f m) (hn : n < 1 ∨ a ≤ n) :
    Calls Try.prog 13 #[.agg #[.int .i64 a, .int .i64 d, .int .i64 f, .int .i64 m], .int .i64 n] w fun e w' => e = .returned (.int .i64 0) ∧ Below w.heap.size w w' := by
  go_enter Try.func13, Try.ntmps13
  go_wp2_with fail
  refine (check_good _ _ _ _ _ h).mono ?_
  rintro e w' ⟨rfl, hb⟩
  obtain ⟨hc, hf⟩ := bcell hb
  by_cases h1 : n < 1
  · go_wp2
    go_ret
    exact ⟨rfl, ((Below.refl _ _).alloc (Nat.le_refl _) _).trans (hb.mono (by simp))⟩
  · have h2 : a ≤ n := by omega
    clear hn
    go_wp2
    go_ret
    exact ⟨rfl, ((Below.refl _ _).alloc (Nat.le_refl _) _).trans (hb.mono (by simp))⟩

theorem delay_at (a d f m : Int) (K : Nat) (w : World) (h : Good a d f m) (h2 : (K : Int) + 1 < a) :
    Calls Try.prog 13 #[.agg #[.int .i64 a, .int .i64 d, .int .i64 f, .int .i64 m], .int .i64 ((K : Int) + 1)] w fun e w' => e = .returned (.int .i64 (dl d f m K)) ∧ Below w.heap.size w w' := by
  have h1 : 1 ≤ (K : Int) + 1 := by omega
  have hG := h
  obtain ⟨g1, g2, g3, g4, g5, g6, g7, g8⟩ := h
  go_enter Try.func13, Try.ntmps13
  go_wp2_with fail
  refine (check_good _ _ _ _ _ hG).mono ?_
  rintro e w' ⟨rfl, hb⟩
  obtain ⟨hc, hf⟩ := bcell hb
  go_wp2
  clear hG
  go_loop [5, 23] (fun x i => ∃ k : Nat, k ≤ K ∧ i = .int .i64 k ∧ x = .int .i64 (dl d f m k)) (fun _ i => K - (intOf i).toNat)
  case atStart => exact ⟨0, by omega, rfl, rfl⟩
  case round =>
    obtain ⟨k, hk, rfl, rfl⟩ := hrel
    have hd := dl_bd d f m g3 g7 g5 k
    by_cases hlt : k < K
    · have hd2 : dl d f m k * f ≤ 1024 * 16 := Int.mul_le_mul (by omega) g6 (by omega) (by omega)
      have hd3 : 0 ≤ dl d f m k * f := Int.mul_nonneg (by omega) (by omega)
      go_wp2
      go_round
      case rel => exact ⟨k + 1, by omega, by go_num, rfl⟩
      case measure => simp [intOf]; omega
    · have : k = K := by omega
      subst this
      clear hk hlt
      go_wp2
      go_ret
      exact ⟨rfl, ((Below.refl _ _).alloc (Nat.le_refl _) _).trans (hb.mono (by simp))⟩
end Go.Proofs.Ytngoeikdlbccoaa
