import Derived.Lib.ValidLaws
/-
  The reference's reading of one code point agrees with the decoder of the shelf: what is valid UTF-8. No program in sight. No conditions beyond those ahead of each theorem.
-/
namespace Go.Proofs.YtpnogmicfomofaaGreatDoor
open Go.Lib
set_option linter.unusedVariables false
set_option linter.unusedSimpArgs false

def decRN (n b0 b1 b2 b3 : Nat) : Nat :=
  if b0 < 128 then 1
  else if 194 ≤ b0 ∧ b0 ≤ 223 ∧ 1 < n ∧ 128 ≤ b1 ∧ b1 ≤ 191 then 2
  else if 224 ≤ b0 ∧ b0 ≤ 239 ∧ 1 < n ∧ (if b0 = 224 then 160 else 128) ≤ b1 ∧ b1 ≤ (if b0 = 237 then 159 else 191) ∧ 2 < n ∧ 128 ≤ b2 ∧ b2 ≤ 191 then 3
  else if 240 ≤ b0 ∧ b0 ≤ 244 ∧ 1 < n ∧ (if b0 = 240 then 144 else 128) ≤ b1 ∧ b1 ≤ (if b0 = 244 then 143 else 191) ∧ 2 < n ∧ 128 ≤ b2 ∧ b2 ≤ 191 ∧ 3 < n ∧ 128 ≤ b3 ∧ b3 ≤ 191 then 4
  else 0
set_option maxHeartbeats 4000000 in
theorem decRN_spec (n b0 b1 b2 b3 : Nat) (_hn : 1 ≤ n) (h0 : b0 < 256) (h1 : b1 < 256) (h2 : b2 < 256) (h3 : b3 < 256) :
    (decRN n b0 b1 b2 b3 = 0 ∧ decodeN n b0 b1 b2 b3 = (65533, 1)) ∨ (0 < decRN n b0 b1 b2 b3 ∧ (decodeN n b0 b1 b2 b3).2 = decRN n b0 b1 b2 b3 ∧ ¬ ((decodeN n b0 b1 b2 b3).1 = 65533 ∧ (decodeN n b0 b1 b2 b3).2 = 1)) := by
  by_cases c : b0 < 128
  · right
    unfold decRN decodeN
    rw [if_pos c, if_pos c]
    simp; omega
  by_cases c2 : b0 < 194
  · left
    refine ⟨?_, decodeN_bad n b0 b1 b2 b3 (.inl ⟨by omega, c2⟩)⟩
    unfold decRN
    rw [if_neg c, if_neg (by omega), if_neg (by omega), if_neg (by omega)]
  by_cases c3 : b0 ≤ 223
  · unfold decRN decodeN
    rw [if_neg c, if_neg c]
    by_cases e : 1 < n ∧ 128 ≤ b1 ∧ b1 ≤ 191
    · right
      rw [if_pos ⟨by omega, c3, e⟩, if_pos ⟨by omega, by omega, by omega⟩, if_pos (by omega)]
      simp
    · left
      rw [if_neg (by omega), if_neg (by omega), if_neg (by omega), if_neg (by omega), if_neg (by omega), if_neg (by omega)]
      exact ⟨rfl, rfl⟩
  by_cases c4 : b0 ≤ 239
  · unfold decRN decodeN
    rw [if_neg c, if_neg c, if_neg (by omega : ¬ (194 ≤ b0 ∧ b0 ≤ 223 ∧ 1 < n ∧ 128 ≤ b1 ∧ b1 ≤ 191)), if_neg (by omega : ¬ (b0 / 32 = 6 ∧ 1 < n ∧ b1 / 64 = 2))]
    rw [if_neg (by omega : ¬ (240 ≤ b0 ∧ b0 ≤ 244 ∧ 1 < n ∧ _))]
    rw [if_neg (by omega : ¬ (b0 / 8 = 30 ∧ (1 < n ∧ b1 / 64 = 2) ∧ (2 < n ∧ b2 / 64 = 2) ∧ (3 < n ∧ b3 / 64 = 2)))]
    by_cases e1 : b0 = 224
    · subst e1
      repeat' split
      all_goals simp_all
      all_goals omega
    by_cases e2 : b0 = 237
    · subst e2
      repeat' split
      all_goals simp_all
      all_goals omega
    · simp only [e1, e2, if_false]
      repeat' split
      all_goals simp_all
      all_goals omega
  by_cases c5 : b0 ≤ 244
  · unfold decRN decodeN
    rw [if_neg c, if_neg c, if_neg (by omega : ¬ (194 ≤ b0 ∧ b0 ≤ 223 ∧ 1 < n ∧ 128 ≤ b1 ∧ b1 ≤ 191)), if_neg (by omega : ¬ (b0 / 32 = 6 ∧ 1 < n ∧ b1 / 64 = 2))]
    rw [if_neg (by omega : ¬ (b0 / 16 = 14 ∧ (1 < n ∧ b1 / 64 = 2) ∧ (2 < n ∧ b2 / 64 = 2)))]
    rw [if_neg (by omega : ¬ (224 ≤ b0 ∧ b0 ≤ 239 ∧ 1 < n ∧ _))]
    by_cases e1 : b0 = 240
    · subst e1
      repeat' split
      all_goals simp_all
      all_goals omega
    by_cases e2 : b0 = 244
    · subst e2
      repeat' split
      all_goals simp_all
      all_goals omega
    · simp only [e1, e2, if_false]
      repeat' split
      all_goals simp_all
      all_goals omega
  · left
    refine ⟨?_, decodeN_bad n b0 b1 b2 b3 (.inr ⟨by omega, h0⟩)⟩
    unfold decRN
    rw [if_neg c, if_neg (by omega), if_neg (by omega), if_neg (by omega)]

def decR (l : List UInt8) : Nat := decRN l.length (l.getD 0 0).toNat (l.getD 1 0).toNat (l.getD 2 0).toNat (l.getD 3 0).toNat
theorem validD_ref (l : List UInt8) (hne : l ≠ []) : validD l = if decR l = 0 then false else validD (l.drop (decR l)) := by
  have hl : 0 < l.length := List.length_pos_iff.2 hne
  rw [validD_step l hne, decodeL_N]
  rcases decRN_spec l.length (l.getD 0 0).toNat (l.getD 1 0).toNat (l.getD 2 0).toNat (l.getD 3 0).toNat hl (l.getD 0 0).toNat_lt (l.getD 1 0).toNat_lt (l.getD 2 0).toNat_lt (l.getD 3 0).toNat_lt with ⟨h1, h2⟩ | ⟨h1, h2, h3⟩
  · rw [h2, if_pos ⟨rfl, rfl⟩, if_pos (show decR l = 0 from h1)]
  · rw [if_neg h3, h2, if_neg (show ¬ decR l = 0 by unfold decR; omega)]; rfl
end Go.Proofs.YtpnogmicfomofaaGreatDoor
