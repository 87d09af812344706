import Derived.Test.YtpnogmicfomofaaGreatDoorU
import Derived.Lib.RuneBytes
import Derived.Lib.MapLaws
/-
  Valid UTF-8: of two texts one behind the other, of encoded runes. No program in sight. Conditions: those ahead of each theorem.
-/
namespace Go.Proofs.YtpnogmicfomofaaGreatDoor.Adr
open Go.RowKit Go.Lib
set_option linter.unusedVariables false
set_option linter.unusedSimpArgs false

theorem uv_getD {a b : List UInt8} {i : Nat} (h : i < a.length) : (a ++ b).getD i 0 = a.getD i 0 := by
  rw [List.getD_eq_getElem?_getD, List.getD_eq_getElem?_getD, List.getElem?_append_left h]
theorem decRN_more {n n' b0 b1 b2 b3 c1 c2 c3 : Nat} (hn : n ≤ n') (h1 : 1 < n → c1 = b1) (h2 : 2 < n → c2 = b2) (h3 : 3 < n → c3 = b3) (h : decRN n b0 b1 b2 b3 ≠ 0) : decRN n' b0 c1 c2 c3 = decRN n b0 b1 b2 b3 := by
  unfold decRN at h ⊢
  by_cases e1 : b0 < 128
  · rw [if_pos e1, if_pos e1]
  rw [if_neg e1] at h ⊢
  rw [if_neg e1]
  by_cases e2 : 194 ≤ b0 ∧ b0 ≤ 223 ∧ 1 < n ∧ 128 ≤ b1 ∧ b1 ≤ 191
  · have := h1 e2.2.2.1
    rw [if_pos e2, if_pos (by omega)]
  rw [if_neg e2] at h ⊢
  by_cases e3 : 224 ≤ b0 ∧ b0 ≤ 239 ∧ 1 < n ∧ (if b0 = 224 then 160 else 128) ≤ b1 ∧ b1 ≤ (if b0 = 237 then 159 else 191) ∧ 2 < n ∧ 128 ≤ b2 ∧ b2 ≤ 191
  · have k1 := h1 e3.2.2.1
    have k2 := h2 e3.2.2.2.2.2.1
    subst k1 k2
    rw [if_pos e3, if_neg (by omega), if_pos ⟨e3.1, e3.2.1, by omega, e3.2.2.2.1, e3.2.2.2.2.1, by omega, e3.2.2.2.2.2.2⟩]
  rw [if_neg e3] at h ⊢
  by_cases e4 : 240 ≤ b0 ∧ b0 ≤ 244 ∧ 1 < n ∧ (if b0 = 240 then 144 else 128) ≤ b1 ∧ b1 ≤ (if b0 = 244 then 143 else 191) ∧ 2 < n ∧ 128 ≤ b2 ∧ b2 ≤ 191 ∧ 3 < n ∧ 128 ≤ b3 ∧ b3 ≤ 191
  · have k1 := h1 e4.2.2.1
    have k2 := h2 e4.2.2.2.2.2.1
    have k3 := h3 e4.2.2.2.2.2.2.2.2.1
    subst k1 k2 k3
    rw [if_pos e4, if_neg (by omega), if_neg (by omega), if_pos ⟨e4.1, e4.2.1, by omega, e4.2.2.2.1, e4.2.2.2.2.1, by omega, e4.2.2.2.2.2.2.1, e4.2.2.2.2.2.2.2.1, by omega, e4.2.2.2.2.2.2.2.2.2⟩]
  · rw [if_neg e4] at h
    exact absurd rfl h
theorem uv_app {a : List UInt8} (b : List UInt8) (hne : a ≠ []) (h : decR a ≠ 0) : decR (a ++ b) = decR a := by
  have hl : 0 < a.length := List.length_pos_iff.2 hne
  unfold decR at h ⊢
  rw [uv_getD hl]
  exact decRN_more (by simp) (fun h1 => by rw [uv_getD h1]) (fun h1 => by rw [uv_getD h1]) (fun h1 => by rw [uv_getD h1]) h
theorem uv_le {a : List UInt8} (hne : a ≠ []) : decR a ≤ a.length := by
  have hl : 0 < a.length := List.length_pos_iff.2 hne
  unfold decR
  generalize a.length = n at *
  generalize (a.getD 0 0).toNat = b0
  generalize (a.getD 1 0).toNat = b1
  generalize (a.getD 2 0).toNat = b2
  generalize (a.getD 3 0).toNat = b3
  unfold decRN
  by_cases e1 : b0 < 128
  · rw [if_pos e1]; omega
  rw [if_neg e1]
  by_cases e2 : 194 ≤ b0 ∧ b0 ≤ 223 ∧ 1 < n ∧ 128 ≤ b1 ∧ b1 ≤ 191
  · rw [if_pos e2]; omega
  rw [if_neg e2]
  by_cases e3 : 224 ≤ b0 ∧ b0 ≤ 239 ∧ 1 < n ∧ (if b0 = 224 then 160 else 128) ≤ b1 ∧ b1 ≤ (if b0 = 237 then 159 else 191) ∧ 2 < n ∧ 128 ≤ b2 ∧ b2 ≤ 191
  · rw [if_pos e3]; have := e3.2.2.2.2.2.1; omega
  rw [if_neg e3]
  by_cases e4 : 240 ≤ b0 ∧ b0 ≤ 244 ∧ 1 < n ∧ (if b0 = 240 then 144 else 128) ≤ b1 ∧ b1 ≤ (if b0 = 244 then 143 else 191) ∧ 2 < n ∧ 128 ≤ b2 ∧ b2 ≤ 191 ∧ 3 < n ∧ 128 ≤ b3 ∧ b3 ≤ 191
  · rw [if_pos e4]; have := e4.2.2.2.2.2.2.2.2.1; omega
  · rw [if_neg e4]; omega
theorem validD_app : ∀ (n : Nat) (a b : List UInt8), a.length ≤ n → validD a = true → validD (a ++ b) = validD b
  | 0, a, b, h, _ => by rw [List.length_eq_zero_iff.1 (Nat.le_zero.1 h)]; rfl
  | n + 1, a, b, h, hv => by
    by_cases hne : a = []
    · rw [hne]; rfl
    have hv2 := hv
    rw [validD_ref a hne] at hv2
    by_cases h0 : decR a = 0
    · rw [if_pos h0] at hv2; cases hv2
    rw [if_neg h0] at hv2
    have hle := uv_le hne
    rw [validD_ref (a ++ b) (by simp [hne]), uv_app b hne h0, if_neg h0, List.drop_append_of_le_length hle]
    exact validD_app n _ b (by rw [List.length_drop]; omega) hv2
theorem validD_both {a b : List UInt8} (h : validD a = true) (h2 : validD b = true) : validD (a ++ b) = true := by rw [validD_app a.length a b (Nat.le_refl _) h]; exact h2
theorem validD_one {p : List UInt8} (hne : p ≠ []) (h : decR p = p.length) : validD p = true := by
  have hl : 0 < p.length := List.length_pos_iff.2 hne
  rw [validD_ref p hne, if_neg (by omega), h, List.drop_length]
  exact validD_nil
theorem u8n {x : Int} (h0 : 0 ≤ x) (h1 : x < 256) : (x.toNat.toUInt8).toNat = x.toNat := by
  rw [Nat.toUInt8_eq, UInt8.toNat_ofNat']
  omega
theorem uv_enc (r : Int) : decR (Lib.encodeRune r) = (Lib.encodeRune r).length ∧ Lib.encodeRune r ≠ [] := by
  have hb := Lib.encodeRuneZ_byte r
  have hz : (0 : UInt8).toNat = 0 := rfl
  unfold Lib.encodeRune
  by_cases h1 : r < 0 ∨ (55296 ≤ r ∧ r ≤ 57343) ∨ 1114111 < r
  · rw [Lib.encodeRuneZ_bad h1]; exact ⟨by decide, by simp⟩
  by_cases h2 : r ≤ 127
  · rw [Lib.encodeRuneZ_one (by omega) h2] at hb ⊢
    have e0 := u8n (hb r (by simp)).1 (hb r (by simp)).2
    refine ⟨?_, by simp⟩
    simp only [List.map_cons, List.map_nil, decR, List.length_cons, List.length_nil, List.getD_cons_zero, e0]
    unfold decRN
    rw [if_pos (by omega)]
  by_cases h3 : r ≤ 2047
  · rw [Lib.encodeRuneZ_two (by omega) h3] at hb ⊢
    have e0 := u8n (hb (192 + r / 64) (by simp)).1 (hb _ (by simp)).2
    have e1 := u8n (hb (128 + r % 64) (by simp)).1 (hb _ (by simp)).2
    refine ⟨?_, by simp⟩
    simp only [List.map_cons, List.map_nil, decR, List.length_cons, List.length_nil, List.getD_cons_zero, List.getD_cons_succ, e0, e1]
    unfold decRN
    rw [if_neg (by omega), if_pos (by omega)]
  by_cases h4 : r ≤ 65535
  · rw [Lib.encodeRuneZ_three (by omega)] at hb ⊢
    have e0 := u8n (hb (224 + r / 4096) (by simp)).1 (hb _ (by simp)).2
    have e1 := u8n (hb (128 + r / 64 % 64) (by simp)).1 (hb _ (by simp)).2
    have e2 := u8n (hb (128 + r % 64) (by simp)).1 (hb _ (by simp)).2
    refine ⟨?_, by simp⟩
    simp only [List.map_cons, List.map_nil, decR, List.length_cons, List.length_nil, List.getD_cons_zero, List.getD_cons_succ, e0, e1, e2]
    unfold decRN
    rw [if_neg (by omega), if_neg (by omega), if_pos ⟨by omega, by omega, by omega, by split <;> omega, by split <;> omega, by omega, by omega, by omega⟩]
  · rw [Lib.encodeRuneZ_four (by omega) (by omega)] at hb ⊢
    have e0 := u8n (hb (240 + r / 262144) (by simp)).1 (hb _ (by simp)).2
    have e1 := u8n (hb (128 + r / 4096 % 64) (by simp)).1 (hb _ (by simp)).2
    have e2 := u8n (hb (128 + r / 64 % 64) (by simp)).1 (hb _ (by simp)).2
    have e3 := u8n (hb (128 + r % 64) (by simp)).1 (hb _ (by simp)).2
    refine ⟨?_, by simp⟩
    simp only [List.map_cons, List.map_nil, decR, List.length_cons, List.length_nil, List.getD_cons_zero, List.getD_cons_succ, e0, e1, e2, e3]
    unfold decRN
    rw [if_neg (by omega), if_neg (by omega), if_neg (by omega), if_pos ⟨by omega, by omega, by omega, by split <;> omega, by split <;> omega, by omega, by omega, by omega, by omega, by omega, by omega⟩]
theorem validD_enc (r : Int) : validD (Lib.encodeRune r) = true := validD_one (uv_enc r).2 (uv_enc r).1
theorem uv_take {l : List UInt8} (hne : l ≠ []) (h : decR l ≠ 0) : decR (l.take (decR l)) = decR l := by
  have hl : 0 < l.length := List.length_pos_iff.2 hne
  have hle := uv_le hne
  have g : ∀ i, i < decR l → (l.take (decR l)).getD i 0 = l.getD i 0 := fun i hi => by
    rw [List.getD_eq_getElem?_getD, List.getD_eq_getElem?_getD, List.getElem?_take, if_pos hi]
  have hlen : (l.take (decR l)).length = decR l := by rw [List.length_take]; omega
  have hb := g 0 (by omega)
  generalize hD : decR l = D at *
  unfold decR at hD ⊢
  rw [hlen, hb]
  generalize l.length = n at *
  have g1 : 1 < D → (l.take D).getD 1 0 = l.getD 1 0 := fun h => g 1 h
  have g2 : 2 < D → (l.take D).getD 2 0 = l.getD 2 0 := fun h => g 2 h
  have g3 : 3 < D → (l.take D).getD 3 0 = l.getD 3 0 := fun h => g 3 h
  generalize (l.take D).getD 1 0 = x1 at *
  generalize (l.take D).getD 2 0 = x2 at *
  generalize (l.take D).getD 3 0 = x3 at *
  clear g
  generalize l.getD 0 0 = b0 at *
  generalize l.getD 1 0 = b1 at *
  generalize l.getD 2 0 = b2 at *
  generalize l.getD 3 0 = b3 at *
  clear hb
  unfold decRN at hD ⊢
  by_cases e1 : b0.toNat < 128
  · rw [if_pos e1] at hD ⊢; omega
  rw [if_neg e1] at hD ⊢
  by_cases e2 : 194 ≤ b0.toNat ∧ b0.toNat ≤ 223 ∧ 1 < n ∧ 128 ≤ b1.toNat ∧ b1.toNat ≤ 191
  · rw [if_pos e2] at hD
    have k1 := g1 (by omega)
    subst k1
    rw [if_pos (by omega)]; exact hD
  rw [if_neg e2] at hD
  by_cases e3 : 224 ≤ b0.toNat ∧ b0.toNat ≤ 239 ∧ 1 < n ∧ (if b0.toNat = 224 then 160 else 128) ≤ b1.toNat ∧ b1.toNat ≤ (if b0.toNat = 237 then 159 else 191) ∧ 2 < n ∧ 128 ≤ b2.toNat ∧ b2.toNat ≤ 191
  · rw [if_pos e3] at hD
    have k1 := g1 (by omega)
    have k2 := g2 (by omega)
    subst k1 k2
    rw [if_neg (by omega), if_pos ⟨e3.1, e3.2.1, by omega, e3.2.2.2.1, e3.2.2.2.2.1, by omega, e3.2.2.2.2.2.2⟩]; exact hD
  rw [if_neg e3] at hD
  by_cases e4 : 240 ≤ b0.toNat ∧ b0.toNat ≤ 244 ∧ 1 < n ∧ (if b0.toNat = 240 then 144 else 128) ≤ b1.toNat ∧ b1.toNat ≤ (if b0.toNat = 244 then 143 else 191) ∧ 2 < n ∧ 128 ≤ b2.toNat ∧ b2.toNat ≤ 191 ∧ 3 < n ∧ 128 ≤ b3.toNat ∧ b3.toNat ≤ 191
  · rw [if_pos e4] at hD
    have k1 := g1 (by omega)
    have k2 := g2 (by omega)
    have k3 := g3 (by omega)
    subst k1 k2 k3
    rw [if_neg (by omega), if_neg (by omega), if_pos ⟨e4.1, e4.2.1, by omega, e4.2.2.2.1, e4.2.2.2.2.1, by omega, e4.2.2.2.2.2.2.1, e4.2.2.2.2.2.2.2.1, by omega, e4.2.2.2.2.2.2.2.2.2⟩]; exact hD
  · rw [if_neg e4] at hD; omega
theorem validD_take {l : List UInt8} (hne : l ≠ []) (h : decR l ≠ 0) : validD (l.take (decR l)) = true := by
  have hl : 0 < l.length := List.length_pos_iff.2 hne
  have hle := uv_le hne
  refine validD_one (fun e => ?_) ?_
  · have := congrArg List.length e
    rw [List.length_take, List.length_nil] at this
    omega
  · rw [uv_take hne h, List.length_take]; omega
end Go.Proofs.YtpnogmicfomofaaGreatDoor.Adr
