/-
  The walks of the statements RetryChecks, RetryDelays, RetryAgain and RetryEnds: each returns true for every policy and number. No conditions.
-/
import Derived.Test.YtngoeikdlbccoaaD
namespace Go.Proofs.Ytngoeikdlbccoaa
open Go.RowKit Go.Sort

theorem same_regrown {P : Program} {f : FuncId} {args : Array Value} {w : World} {d : Nat} {os : Array Obj} {v : Value}
    (h : Calls P f args (grow (redrawn w d) os) fun e w' => e = .returned v ∧ (grow (redrawn w d) os) = w') : Calls P f args (grow (redrawn w d) os) fun e w'' => e = .returned v ∧ ∃ p : Regrown, w'' = grow (redrawn w p.d) p.os :=
  h.mono fun _ _ ⟨he, hb⟩ => ⟨he, ⟨d, os⟩, hb.symm⟩
theorem cells_regrown (W : World) : ∀ (d : Nat) (os : Array Obj) (b o : Nat), b < W.heap.size → (grow (redrawn W d) os).cell? ⟨b, o, none⟩ = W.cell? ⟨b, o, none⟩ :=
  fun d os _ _ h => (bcellB (below_regrown W d os)).1 _ _ h

theorem checks_walk (a d f m x : Int) (w : World) :
    Calls Try.prog 3 #[.agg #[.int .i64 a, .int .i64 d, .int .i64 f, .int .i64 m], .int .i64 x] w fun e w' => e = .returned (.bool true) ∧ Below w.heap.size w w' := by
  have hcg := cells_regrown (w.alloc (.cells #[.int .i64 a, .int .i64 d, .int .i64 f, .int .i64 m] 23))
  go_enter Try.func3, Try.ntmps3
  go_wp2_with fail
  refine wp_region_quiet_below (by kernel_rfl) (by kernel_rfl) ?_
  repeat (quiet_step (first | exact Calls.regrown_of (check_any _ _ _ _ _) | exact Calls.regrown_of (rcheck_any _ _ _ _ _) | exact same_regrown (retry_any _ _) | exact same_regrown (rretry_any _ _) | exact Calls.regrown_of (awake_any _)))
  refine wpQuiet_nil ?_
  intro _ hw'
  obtain ⟨⟨dq, osq⟩, hw''⟩ := hw'
  subst hw''
  go_wp2
  go_ret
  exact ⟨rfl, ((Below.refl _ _).alloc (Nat.le_refl _) _).trans ((below_regrown _ _ _).mono (by simp))⟩

theorem delays_walk (a d f m n : Int) (w : World) :
    Calls Try.prog 4 #[.agg #[.int .i64 a, .int .i64 d, .int .i64 f, .int .i64 m], .int .i64 n] w fun e w' => e = .returned (.bool true) ∧ Below w.heap.size w w' := by
  have hcg := cells_regrown (w.alloc (.cells #[.int .i64 a, .int .i64 d, .int .i64 f, .int .i64 m] 23))
  go_enter Try.func4, Try.ntmps4
  go_wp2_with fail
  refine wp_region_quiet_below (by kernel_rfl) (by kernel_rfl) ?_
  repeat (quiet_step (first | exact Calls.regrown_of (delay_any _ _ _ _ _ _) | exact Calls.regrown_of (rdelay_any _ _ _ _ _ _) | exact Calls.regrown_of (total_any _ _ _ _ _) | exact Calls.regrown_of (rtotal_any _ _ _ _ _) | exact Calls.regrown_of (awake_any _)))
  refine wpQuiet_nil ?_
  intro _ hw'
  obtain ⟨⟨dq, osq⟩, hw''⟩ := hw'
  subst hw''
  go_wp2
  go_ret
  exact ⟨rfl, ((Below.refl _ _).alloc (Nat.le_refl _) _).trans ((below_regrown _ _ _).mono (by simp))⟩

theorem agains_walk (a d f m n x : Int) (w : World) :
    Calls Try.prog 5 #[.agg #[.int .i64 a, .int .i64 d, .int .i64 f, .int .i64 m], .int .i64 n, .int .i64 x] w fun e w' => e = .returned (.bool true) ∧ Below w.heap.size w w' := by
  have hcg := cells_regrown (w.alloc (.cells #[.int .i64 a, .int .i64 d, .int .i64 f, .int .i64 m] 23))
  go_enter Try.func5, Try.ntmps5
  go_wp2_with fail
  refine wp_region_quiet_below (by kernel_rfl) (by kernel_rfl) ?_
  repeat (quiet_step (first | exact Calls.regrown_of (again_any _ _ _ _ _ _ _) | exact Calls.regrown_of (ragain_any _ _ _ _ _ _ _) | exact Calls.regrown_of (awake_any _)))
  refine wpQuiet_nil ?_
  intro _ hw'
  obtain ⟨⟨dq, osq⟩, hw''⟩ := hw'
  subst hw''
  go_wp2
  go_ret
  exact ⟨rfl, ((Below.refl _ _).alloc (Nat.le_refl _) _).trans ((below_regrown _ _ _).mono (by simp))⟩

theorem agn_good {a d f m n e : Int} (h : Good a d f m) (hr : rtb e = true) (h1 : 1 ≤ n) (h2 : n < a) : agn a d f m n e = true := by
  simp [agn, chk_good h, hr, h1, h2]
theorem agn_end {a d f m n e : Int} (h : ¬ n < a) : agn a d f m n e = false := by
  simp [agn, h]
theorem agn_bad {a d f m n e : Int} (h : Bad a d f m ∨ rtb e = false) : agn a d f m n e = false := by
  rcases h with h | h <;> simp [agn, h]
  simp [chk_bad h]

theorem ends_yes (a d f m x : Int) (w : World) (hG : Good a d f m) (hr : rtb x = true) :
    Calls Try.prog 7 #[.agg #[.int .i64 a, .int .i64 d, .int .i64 f, .int .i64 m], .int .i64 x] w fun e w' => e = .returned (.bool true) ∧ Below w.heap.size w w' := by
  have hcg := cells_regrown (w.alloc (.cells #[.int .i64 a, .int .i64 d, .int .i64 f, .int .i64 m] 23))
  have hGG := Lib.hid hG
  have hrr := Lib.hid hr
  have ha : a ≤ 16 := hG.2.1
  have ha1 : 1 ≤ a := hG.1
  have ha2 : (a == a) = true := by simp
  clear hG hr
  go_enter Try.func7, Try.ntmps7
  go_wp2_with fail
  go_loopw [5] (fun n wr => ∃ k : Nat, (k : Int) + 1 ≤ a ∧ n = .int .i64 ((k : Int) + 1) ∧ Below (w.heap.size + 1) (w.alloc (.cells #[.int .i64 a, .int .i64 d, .int .i64 f, .int .i64 m] 23)) wr) (fun i _ => 18 - (intOf i).toNat)
  case atStart => exact ⟨0, by omega, rfl, Below.refl _ _⟩
  case round =>
    obtain ⟨k, hk, rfl, hb⟩ := hrel
    obtain ⟨hc, hf⟩ := bcellB hb
    by_cases hlt : (k : Int) + 1 < a
    · go_wp2_with fail
      refine (again_any _ _ _ _ _ _ _).mono ?_
      rintro e w' ⟨rfl, hb2⟩
      rw [agn_good hGG.out hrr.out (by omega) hlt]
      have hb3 := hb.trans (hb2.mono (by have := hb.size; simpa using this))
      clear hb hb2 hc hf
      go_wp2
      go_roundw
      case rel => exact ⟨k + 1, by omega, by go_num, hb3⟩
      case measure => simp [intOf]; omega
    · go_wp2_with fail
      refine (again_any _ _ _ _ _ _ _).mono ?_
      rintro e w' ⟨rfl, hb2⟩
      rw [agn_end (by omega)]
      have hb3 := hb.trans (hb2.mono (by have := hb.size; simpa using this))
      clear hb hb2 hc hf
      have hka : ((k : Int) + 1 == a) = true := by rw [beq_iff_eq]; omega
      obtain ⟨hc, hf⟩ := bcellB hb3
      go_wp2_with fail
      refine (check_any _ _ _ _ _).mono ?_
      rintro e w2 ⟨rfl, hb2⟩
      rw [chk_good hGG.out]
      have hb4 := hb3.trans (hb2.mono (by have := hb3.size; simpa using this))
      clear hb3 hb2 hc hf
      obtain ⟨hc, hf⟩ := bcellB hb4
      go_wp2_with fail
      refine (retry_any _ _).mono ?_
      rintro e w3 ⟨rfl, rfl⟩
      rw [hrr.out]
      go_wp2_with fail
      refine (awake_any _).mono ?_
      rintro e w3 ⟨rfl, hb2⟩
      have hb5 := hb4.trans (hb2.mono (by have := hb4.size; simpa using this))
      go_wp2
      go_ret
      exact ⟨rfl, ((Below.refl _ _).alloc (Nat.le_refl _) _).trans (hb5.mono (by simp))⟩

theorem ends_no (a d f m x : Int) (w : World) (hG : Bad a d f m ∨ rtb x = false) :
    Calls Try.prog 7 #[.agg #[.int .i64 a, .int .i64 d, .int .i64 f, .int .i64 m], .int .i64 x] w fun e w' => e = .returned (.bool true) ∧ Below w.heap.size w w' := by
  have hGG := Lib.hid hG
  clear hG
  go_enter Try.func7, Try.ntmps7
  go_wp2_with fail
  go_loopw [5] (fun n wr => n = .int .i64 1 ∧ Below (w.heap.size + 1) (w.alloc (.cells #[.int .i64 a, .int .i64 d, .int .i64 f, .int .i64 m] 23)) wr) (fun i _ => 18 - (intOf i).toNat)
  case atStart => exact ⟨rfl, Below.refl _ _⟩
  case round =>
    obtain ⟨rfl, hb⟩ := hrel
    obtain ⟨hc, hf⟩ := bcellB hb
    go_wp2_with fail
    refine (again_any _ _ _ _ _ _ _).mono ?_
    rintro e w' ⟨rfl, hb2⟩
    rw [agn_bad hGG.out]
    have hb3 := hb.trans (hb2.mono (by have := hb.size; simpa using this))
    clear hb hb2 hc hf
    obtain ⟨hc, hf⟩ := bcellB hb3
    go_wp2_with fail
    refine (check_any _ _ _ _ _).mono ?_
    rintro e w2 ⟨rfl, hb2⟩
    have hb4 := hb3.trans (hb2.mono (by have := hb3.size; simpa using this))
    clear hb3 hb2 hc hf
    obtain ⟨hc, hf⟩ := bcellB hb4
    by_cases hB : Bad a d f m
    · rw [chk_bad hB]
      go_wp2_with fail
      refine (awake_any _).mono ?_
      rintro e w3 ⟨rfl, hb2⟩
      have hb5 := hb4.trans (hb2.mono (by have := hb4.size; simpa using this))
      go_wp2
      go_ret
      exact ⟨rfl, ((Below.refl _ _).alloc (Nat.le_refl _) _).trans (hb5.mono (by simp))⟩
    · rw [chk_good (good_of hB)]
      have hrr := Lib.hid (hGG.out.resolve_left hB)
      go_wp2_with fail
      refine (retry_any _ _).mono ?_
      rintro e w3 ⟨rfl, rfl⟩
      rw [hrr.out]
      go_wp2_with fail
      refine (awake_any _).mono ?_
      rintro e w3 ⟨rfl, hb2⟩
      have hb5 := hb4.trans (hb2.mono (by have := hb4.size; simpa using this))
      go_wp2
      go_ret
      exact ⟨rfl, ((Below.refl _ _).alloc (Nat.le_refl _) _).trans (hb5.mono (by simp))⟩

theorem ends_walk (a d f m x : Int) (w : World) :
    Calls Try.prog 7 #[.agg #[.int .i64 a, .int .i64 d, .int .i64 f, .int .i64 m], .int .i64 x] w fun e w' => e = .returned (.bool true) ∧ Below w.heap.size w w' := by
  by_cases hB : Bad a d f m
  · exact ends_no _ _ _ _ _ _ (.inl hB)
  · cases hr : rtb x
    · exact ends_no _ _ _ _ _ _ (.inr hr)
    · exact ends_yes _ _ _ _ _ _ (good_of hB) hr
end Go.Proofs.Ytngoeikdlbccoaa
