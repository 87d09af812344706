/-
  Contracts of Again in both texts and of the statement package's example check, which returns true. No conditions.
-/
import Derived.Test.YtngoeikdlbccoaaC
namespace Go.Proofs.Ytngoeikdlbccoaa
open Go.RowKit

def agn (a d f m n e : Int) : Bool := chk a d f m == 0 && (decide (1 ≤ n) && (decide (n < a) && rtb e))
theorem chk_bad {a d f m : Int} (h : Bad a d f m) : chk a d f m = 1 := if_pos h
theorem chk_good {a d f m : Int} (h : Good a d f m) : chk a d f m = 0 := if_neg (by unfold Good at h; omega)

theorem again_any (a d f m n x : Int) (w : World) :
    Calls Try.prog 17 #[.agg #[.int .i64 a, .int .i64 d, .int .i64 f, .int .i64 m], .int .i64 n, .int .i64 x] w fun e w' => e = .returned (.bool (agn a d f m n x)) ∧ Below w.heap.size w w' := by
  by_cases hB : Bad a d f m
  · have hA := Lib.hid (show agn a d f m n x = false by simp [agn, chk_bad hB])
    go_enter Try.func17, Try.ntmps17
    go_wp2_with fail
    refine (check_bad _ _ _ _ _ hB).mono ?_
    rintro e w' ⟨rfl, hb⟩
    go_wp2
    go_ret
    exact ⟨by rw [hA.out]; rfl, ((Below.refl _ _).alloc (Nat.le_refl _) _).trans (hb.mono (by simp))⟩
  have hG := good_of hB
  by_cases h1 : 1 ≤ n
  · by_cases h2 : n < a
    · have hA := Lib.hid (show agn a d f m n x = rtb x by simp [agn, chk_good hG, h1, h2])
      go_enter Try.func17, Try.ntmps17
      go_wp2_with fail
      refine (check_good _ _ _ _ _ hG).mono ?_
      rintro e w' ⟨rfl, hb⟩
      obtain ⟨hc, hf⟩ := bcell hb
      go_wp2_with (go_at_call 10; refine (retry_any _ _).mono ?_; rintro e w' ⟨rfl, rfl⟩)
      go_ret
      exact ⟨by rw [hA.out]; rfl, ((Below.refl _ _).alloc (Nat.le_refl _) _).trans (hb.mono (by simp))⟩
    · have hA := Lib.hid (show agn a d f m n x = false by simp [agn, h2])
      go_enter Try.func17, Try.ntmps17
      go_wp2_with fail
      refine (check_good _ _ _ _ _ hG).mono ?_
      rintro e w' ⟨rfl, hb⟩
      obtain ⟨hc, hf⟩ := bcell hb
      go_wp2
      go_ret
      exact ⟨by rw [hA.out]; rfl, ((Below.refl _ _).alloc (Nat.le_refl _) _).trans (hb.mono (by simp))⟩
  · have hA := Lib.hid (show agn a d f m n x = false by simp [agn, h1])
    go_enter Try.func17, Try.ntmps17
    go_wp2_with fail
    refine (check_good _ _ _ _ _ hG).mono ?_
    rintro e w' ⟨rfl, hb⟩
    obtain ⟨hc, hf⟩ := bcell hb
    go_wp2
    go_ret
    exact ⟨by rw [hA.out]; rfl, ((Below.refl _ _).alloc (Nat.le_refl _) _).trans (hb.mono (by simp))⟩

theorem ragain_any (a d f m n x : Int) (w : World) :
    Calls Try.prog 18 #[.agg #[.int .i64 a, .int .i64 d, .int .i64 f, .int .i64 m], .int .i64 n, .int .i64 x] w fun e w' => e = .returned (.bool (agn a d f m n x)) ∧ Below w.heap.size w w' := by
  by_cases hB : Bad a d f m
  · have hA := Lib.hid (show agn a d f m n x = false by simp [agn, chk_bad hB])
    go_enter Try.func18, Try.ntmps18
    go_wp2_with fail
    refine (rcheck_bad _ _ _ _ _ hB).mono ?_
    rintro e w' ⟨rfl, hb⟩
    go_wp2
    go_ret
    exact ⟨by rw [hA.out]; rfl, ((Below.refl _ _).alloc (Nat.le_refl _) _).trans (hb.mono (by simp))⟩
  have hG := good_of hB
  by_cases h1 : 1 ≤ n
  · by_cases h2 : n < a
    · have hA := Lib.hid (show agn a d f m n x = rtb x by simp [agn, chk_good hG, h1, h2])
      go_enter Try.func18, Try.ntmps18
      go_wp2_with fail
      refine (rcheck_good _ _ _ _ _ hG).mono ?_
      rintro e w' ⟨rfl, hb⟩
      obtain ⟨hc, hf⟩ := bcell hb
      go_wp2_with (go_at_call 11; refine (rretry_any _ _).mono ?_; rintro e w' ⟨rfl, rfl⟩)
      go_ret
      exact ⟨by rw [hA.out]; rfl, ((Below.refl _ _).alloc (Nat.le_refl _) _).trans (hb.mono (by simp))⟩
    · have hA := Lib.hid (show agn a d f m n x = false by simp [agn, h2])
      go_enter Try.func18, Try.ntmps18
      go_wp2_with fail
      refine (rcheck_good _ _ _ _ _ hG).mono ?_
      rintro e w' ⟨rfl, hb⟩
      obtain ⟨hc, hf⟩ := bcell hb
      go_wp2
      go_ret
      exact ⟨by rw [hA.out]; rfl, ((Below.refl _ _).alloc (Nat.le_refl _) _).trans (hb.mono (by simp))⟩
  · have hA := Lib.hid (show agn a d f m n x = false by simp [agn, h1])
    go_enter Try.func18, Try.ntmps18
    go_wp2_with fail
    refine (rcheck_good _ _ _ _ _ hG).mono ?_
    rintro e w' ⟨rfl, hb⟩
    obtain ⟨hc, hf⟩ := bcell hb
    go_wp2
    go_ret
    exact ⟨by rw [hA.out]; rfl, ((Below.refl _ _).alloc (Nat.le_refl _) _).trans (hb.mono (by simp))⟩

theorem bcellB {B : Nat} {W w1 : World} (hb : Below B W w1) : (∀ b o, b < B → w1.cell? ⟨b, o, none⟩ = W.cell? ⟨b, o, none⟩) ∧ (∀ b o, b < B → w1.frozen? ⟨b, o, none⟩ = W.frozen? ⟨b, o, none⟩) :=
  ⟨fun b o h => hb.cell (p := ⟨b, o, none⟩) h, fun b o h => hb.frozen (p := ⟨b, o, none⟩) h⟩

theorem awake_any (w : World) : Calls Try.prog 12 #[] w fun e w' => e = .returned (.bool true) ∧ Below w.heap.size w w' := by
  have e1 := Lib.hid (show chk 4 3 2 10 = 0 by decide)
  have e2 := Lib.hid (show chk 0 0 0 0 = 1 by decide)
  have e3 := Lib.hid (show dly 4 3 2 10 1 = 3 by decide)
  have e4 := Lib.hid (show dly 4 3 2 10 2 = 6 by decide)
  have e5 := Lib.hid (show dly 4 3 2 10 3 = 10 by decide)
  have e6 := Lib.hid (show dly 4 3 2 10 4 = 0 by decide)
  have e7 := Lib.hid (show tot 4 3 2 10 15 = 19 by decide)
  have e8 := Lib.hid (show agn 4 3 2 10 3 30 = true by decide)
  have e9 := Lib.hid (show agn 4 3 2 10 4 30 = false by decide)
  have e10 := Lib.hid (show rtb 32 = false by decide)
  go_enter Try.func12, Try.ntmps12
  go_wp2_with fail
  refine (check_any _ _ _ _ _).mono ?_
  rintro e w1 ⟨rfl, hb1⟩
  rw [e1.out]
  have H1 : Below (w.heap.size + 1) (w.alloc (.cells #[.int .i64 4, .int .i64 3, .int .i64 2, .int .i64 10] 23)) w1 := hb1.mono (by simp)
  clear hb1 e1
  obtain ⟨hc, hf⟩ := bcellB H1
  go_wp2_with fail
  refine (check_any _ _ _ _ _).mono ?_
  rintro e w2 ⟨rfl, hb2⟩
  rw [e2.out]
  have H2 := H1.trans (hb2.mono (by have := H1.size; simpa using this))
  clear hc hf H1 hb2 e2
  obtain ⟨hc, hf⟩ := bcellB H2
  go_wp2_with fail
  refine (delay_any _ _ _ _ _ _).mono ?_
  rintro e w3 ⟨rfl, hb3⟩
  rw [e3.out]
  have H3 := H2.trans (hb3.mono (by have := H2.size; simpa using this))
  clear hc hf H2 hb3 e3
  obtain ⟨hc, hf⟩ := bcellB H3
  go_wp2_with fail
  refine (delay_any _ _ _ _ _ _).mono ?_
  rintro e w4 ⟨rfl, hb4⟩
  rw [e4.out]
  have H4 := H3.trans (hb4.mono (by have := H3.size; simpa using this))
  clear hc hf H3 hb4 e4
  obtain ⟨hc, hf⟩ := bcellB H4
  go_wp2_with fail
  refine (delay_any _ _ _ _ _ _).mono ?_
  rintro e w5 ⟨rfl, hb5⟩
  rw [e5.out]
  have H5 := H4.trans (hb5.mono (by have := H4.size; simpa using this))
  clear hc hf H4 hb5 e5
  obtain ⟨hc, hf⟩ := bcellB H5
  go_wp2_with fail
  refine (delay_any _ _ _ _ _ _).mono ?_
  rintro e w6 ⟨rfl, hb6⟩
  rw [e6.out]
  have H6 := H5.trans (hb6.mono (by have := H5.size; simpa using this))
  clear hc hf H5 hb6 e6
  obtain ⟨hc, hf⟩ := bcellB H6
  go_wp2_with fail
  refine (total_any _ _ _ _ _).mono ?_
  rintro e w7 ⟨rfl, hb7⟩
  rw [e7.out]
  have H7 := H6.trans (hb7.mono (by have := H6.size; simpa using this))
  clear hc hf H6 hb7 e7
  obtain ⟨hc, hf⟩ := bcellB H7
  go_wp2_with fail
  refine (again_any _ _ _ _ _ _ _).mono ?_
  rintro e w8 ⟨rfl, hb8⟩
  rw [e8.out]
  have H8 := H7.trans (hb8.mono (by have := H7.size; simpa using this))
  clear hc hf H7 hb8 e8
  obtain ⟨hc, hf⟩ := bcellB H8
  go_wp2_with fail
  refine (again_any _ _ _ _ _ _ _).mono ?_
  rintro e w9 ⟨rfl, hb9⟩
  rw [e9.out]
  have H9 := H8.trans (hb9.mono (by have := H8.size; simpa using this))
  clear hc hf H8 hb9 e9
  obtain ⟨hc, hf⟩ := bcellB H9
  go_wp2_with fail
  refine (retry_any _ _).mono ?_
  rintro e w' ⟨rfl, rfl⟩
  rw [e10.out]
  go_wp2
  go_ret
  exact ⟨rfl, ((Below.refl _ _).alloc (Nat.le_refl _) _).trans (H9.mono (by omega))⟩
end Go.Proofs.Ytngoeikdlbccoaa
