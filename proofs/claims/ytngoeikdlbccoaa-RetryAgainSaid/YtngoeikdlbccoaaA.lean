/-
  Contracts of retry.Check, retry.Retryable and of their references: what each returns, for every argument; memory that existed before is unchanged. No conditions.
-/
import Derived.Test.YtngoeikdlbccoaaRows
import Derived.WalkKit
import Derived.WalkSpells
import Derived.BigQuiet
import Derived.Deep.QuietTactic
import Derived.Lib.Hide
import Derived.Lib.MinMax
import Derived.Outline
namespace Go.Proofs.Ytngoeikdlbccoaa
open Go.RowKit

def Bad (a d f m : Int) : Prop := a < 1 ∨ 16 < a ∨ d < 0 ∨ 1024 < d ∨ f < 1 ∨ 16 < f ∨ m < d ∨ 1024 < m
def Good (a d f m : Int) : Prop := 1 ≤ a ∧ a ≤ 16 ∧ 0 ≤ d ∧ d ≤ 1024 ∧ 1 ≤ f ∧ f ≤ 16 ∧ d ≤ m ∧ m ≤ 1024
theorem good_of {a d f m : Int} (h : ¬ Bad a d f m) : Good a d f m := by unfold Bad at h; unfold Good; omega
theorem bad_of {a d f m : Int} (h : ¬ Good a d f m) : Bad a d f m := by unfold Good at h; unfold Bad; omega

theorem check_bad (a d f m : Int) (w : World) (h : Bad a d f m) :
    Calls Try.prog 8 #[.agg #[.int .i64 a, .int .i64 d, .int .i64 f, .int .i64 m]] w fun e w' => e = .returned (.int .i64 1) ∧ Below w.heap.size w w' := by
  go_enter Try.func8, Try.ntmps8
  go_wp2
  all_goals first | (exfalso; unfold Bad at h; omega) | skip
  all_goals (go_ret; exact ⟨rfl, (Below.refl _ _).alloc (Nat.le_refl _) _⟩)

theorem check_good (a d f m : Int) (w : World) (h : Good a d f m) :
    Calls Try.prog 8 #[.agg #[.int .i64 a, .int .i64 d, .int .i64 f, .int .i64 m]] w fun e w' => e = .returned (.int .i64 0) ∧ Below w.heap.size w w' := by
  obtain ⟨h1, h2, h3, h4, h5, h6, h7, h8⟩ := h
  go_enter Try.func8, Try.ntmps8
  go_wp2
  go_ret
  exact ⟨rfl, (Below.refl _ _).alloc (Nat.le_refl _) _⟩

theorem rcheck_bad (a d f m : Int) (w : World) (h : Bad a d f m) :
    Calls Try.prog 9 #[.agg #[.int .i64 a, .int .i64 d, .int .i64 f, .int .i64 m]] w fun e w' => e = .returned (.int .i64 1) ∧ Below w.heap.size w w' := by
  go_enter Try.func9, Try.ntmps9
  go_wp2
  all_goals first | (exfalso; unfold Bad at h; omega) | skip
  all_goals (go_ret; exact ⟨rfl, (Below.refl _ _).alloc (Nat.le_refl _) _⟩)

theorem rcheck_good (a d f m : Int) (w : World) (h : Good a d f m) :
    Calls Try.prog 9 #[.agg #[.int .i64 a, .int .i64 d, .int .i64 f, .int .i64 m]] w fun e w' => e = .returned (.int .i64 0) ∧ Below w.heap.size w w' := by
  obtain ⟨h1, h2, h3, h4, h5, h6, h7, h8⟩ := h
  go_enter Try.func9, Try.ntmps9
  go_wp2
  go_ret
  exact ⟨rfl, (Below.refl _ _).alloc (Nat.le_refl _) _⟩

def chk (a d f m : Int) : Int := if a < 1 ∨ 16 < a ∨ d < 0 ∨ 1024 < d ∨ f < 1 ∨ 16 < f ∨ m < d ∨ 1024 < m then 1 else 0
theorem check_any (a d f m : Int) (w : World) :
    Calls Try.prog 8 #[.agg #[.int .i64 a, .int .i64 d, .int .i64 f, .int .i64 m]] w fun e w' => e = .returned (.int .i64 (chk a d f m)) ∧ Below w.heap.size w w' := by
  by_cases h : Bad a d f m
  · rw [show chk a d f m = 1 from if_pos h]; exact check_bad a d f m w h
  · rw [show chk a d f m = 0 from if_neg h]; exact check_good a d f m w (good_of h)
theorem rcheck_any (a d f m : Int) (w : World) :
    Calls Try.prog 9 #[.agg #[.int .i64 a, .int .i64 d, .int .i64 f, .int .i64 m]] w fun e w' => e = .returned (.int .i64 (chk a d f m)) ∧ Below w.heap.size w w' := by
  by_cases h : Bad a d f m
  · rw [show chk a d f m = 1 from if_pos h]; exact rcheck_bad a d f m w h
  · rw [show chk a d f m = 0 from if_neg h]; exact rcheck_good a d f m w (good_of h)

def rtb (e : Int) : Bool := e == 29 || e == 30 || e == 31
theorem retry_any (e : Int) (w : World) : Calls Try.prog 10 #[.int .i64 e] w fun r w' => r = .returned (.bool (rtb e)) ∧ w = w' := by
  by_cases h1 : e = 29
  · subst h1; go_enter Try.func10, Try.ntmps10; go_wp2; go_ret; exact ⟨rfl, rfl⟩
  by_cases h2 : e = 30
  · subst h2; go_enter Try.func10, Try.ntmps10; go_wp2; go_ret; exact ⟨rfl, rfl⟩
  have e1 : (e == 29) = false := by simpa using h1
  have e2 : (e == 30) = false := by simpa using h2
  have e3 : rtb e = (e == 31) := by simp [rtb, e1, e2]
  rw [e3]
  clear h1 h2 e3
  go_enter Try.func10, Try.ntmps10; go_wp2; go_ret; exact ⟨rfl, rfl⟩
theorem rretry_any (e : Int) (w : World) : Calls Try.prog 11 #[.int .i64 e] w fun r w' => r = .returned (.bool (rtb e)) ∧ w = w' := by
  by_cases h1 : e = 29
  · subst h1; go_enter Try.func11, Try.ntmps11; go_wp2; go_ret; exact ⟨rfl, rfl⟩
  by_cases h2 : e = 30
  · subst h2; go_enter Try.func11, Try.ntmps11; go_wp2; go_ret; exact ⟨rfl, rfl⟩
  have e1 : (e == 29) = false := by simpa using h1
  have e2 : (e == 30) = false := by simpa using h2
  have e3 : rtb e = (e == 31) := by simp [rtb, e1, e2]
  rw [e3]
  clear h1 h2 e3
  go_enter Try.func11, Try.ntmps11; go_wp2; go_ret; exact ⟨rfl, rfl⟩

def dl (d f m : Int) : Nat → Int | 0 => d | k + 1 => min (dl d f m k * f) m

theorem dl_bd (d f m : Int) (h1 : 0 ≤ d) (h2 : d ≤ m) (h3 : 1 ≤ f) (k : Nat) : d ≤ dl d f m k ∧ dl d f m k ≤ m := by
  induction k with
  | zero => exact ⟨Int.le_refl _, h2⟩
  | succ k ih =>
    have : dl d f m k ≤ dl d f m k * f := by
      have := Int.mul_le_mul_of_nonneg_left h3 (show 0 ≤ dl d f m k by omega)
      omega
    simp only [dl]; omega

end Go.Proofs.Ytngoeikdlbccoaa
