import Derived.Test.YtpnogmicfomofaaGreatDoorZh
/-
  Contracts of the reference's reading of UTF-8: cont, Decode, Valid. Conditions: those ahead of each theorem.
-/
namespace Go.Proofs.YtpnogmicfomofaaGreatDoor.Adr
open Go.RowKit Go.Sort Go.Lib
open Go.Lib (hid)
set_option linter.unusedVariables false
set_option linter.unusedSimpArgs false

theorem below_drewN {B : Nat} {a w : World} (h : Below B a w) (n : Nat) : Below B a (w.drewN n) := ⟨h.os, h.tape, h.output, h.size, h.block⟩
def contB (s : ByteArray) (i : Nat) (lo hi : Int) : Bool := if h : i < s.size then decide (lo ≤ (s[i].toNat : Int)) && decide ((s[i].toNat : Int) ≤ hi) else false
theorem rcont_any (s : ByteArray) (j lo hi : Int) (w : World) (h0 : 0 ≤ j) (h1 : j ≤ 1000000) :
    Calls Tryz.prog 194 #[.string s, .int .i64 j, .int .u8 lo, .int .u8 hi] w fun e w' => e = .returned (.bool (contB s j.toNat lo hi)) ∧ w = w' := by
  obtain ⟨i, rfl⟩ := Int.eq_ofNat_of_zero_le h0
  rw [Int.toNat_natCast]
  by_cases hlt : i < s.size
  · have HN := hid (show contB s i lo hi = (decide (lo ≤ (s[i].toNat : Int)) && decide ((s[i].toNat : Int) ≤ hi)) from dif_pos hlt)
    by_cases h2 : lo ≤ (s[i].toNat : Int)
    · by_cases h3 : (s[i].toNat : Int) ≤ hi
      all_goals
        have HN := hid (show contB s i lo hi = decide ((s[i].toNat : Int) ≤ hi) by rw [HN.out]; simp [h2])
        go_enter Tryz.func194, Tryz.ntmps194
        go_wp2
        go_ret
        exact ⟨ret_bool (by rw [HN.out]; simp [*]), rfl⟩
    · have HN := hid (show contB s i lo hi = false by rw [HN.out]; simp [h2])
      go_enter Tryz.func194, Tryz.ntmps194
      go_wp2
      go_ret
      exact ⟨ret_bool HN.out, rfl⟩
  · have HN := hid (show contB s i lo hi = false from dif_neg hlt)
    go_enter Tryz.func194, Tryz.ntmps194
    go_wp2
    go_ret
    exact ⟨ret_bool HN.out, rfl⟩

theorem getD_drop (s : ByteArray) (i j : Nat) (h : i + j < s.size) : ((s.data.toList.drop i).getD j 0) = s[i + j] := by
  rw [List.getD_eq_getElem?_getD, List.getElem?_drop, List.getElem?_eq_getElem (by simpa using h)]
  rfl
theorem contB_eq (s : ByteArray) (i j : Nat) (lo hi : Int) : contB s (i + j) lo hi = decide (j < (s.data.toList.drop i).length ∧ lo ≤ (((s.data.toList.drop i).getD j 0).toNat : Int) ∧ (((s.data.toList.drop i).getD j 0).toNat : Int) ≤ hi) := by
  have hl : (s.data.toList.drop i).length = s.size - i := by rw [List.length_drop, Array.length_toList]; rfl
  unfold contB
  by_cases h : i + j < s.size
  · rw [dif_pos h, getD_drop s i j h, hl]
    have : j < s.size - i := by omega
    simp [this]
  · rw [dif_neg h, hl]
    have : ¬ j < s.size - i := by omega
    simp [this]
theorem decR_c (s : ByteArray) (i : Nat) (h : i < s.size) : decR (s.data.toList.drop i) =
    if s[i].toNat < 128 then 1
    else if 194 ≤ s[i].toNat ∧ s[i].toNat ≤ 223 ∧ contB s (i + 1) 128 191 = true then 2
    else if 224 ≤ s[i].toNat ∧ s[i].toNat ≤ 239 ∧ contB s (i + 1) (if s[i].toNat = 224 then 160 else 128) (if s[i].toNat = 237 then 159 else 191) = true ∧ contB s (i + 2) 128 191 = true then 3
    else if 240 ≤ s[i].toNat ∧ s[i].toNat ≤ 244 ∧ contB s (i + 1) (if s[i].toNat = 240 then 144 else 128) (if s[i].toNat = 244 then 143 else 191) = true ∧ contB s (i + 2) 128 191 = true ∧ contB s (i + 3) 128 191 = true then 4
    else 0 := by
  have h0 := getD_drop s i 0 (by omega)
  simp only [Nat.add_zero] at h0
  simp only [contB_eq, decide_eq_true_eq]
  unfold decR decRN
  rw [h0]
  generalize ((s.data.toList.drop i).getD 1 0).toNat = b1
  generalize ((s.data.toList.drop i).getD 2 0).toNat = b2
  generalize ((s.data.toList.drop i).getD 3 0).toNat = b3
  generalize (s.data.toList.drop i).length = n
  generalize (s[i]).toNat = b0
  by_cases c1 : b0 < 128
  · rw [if_pos c1, if_pos c1]
  rw [if_neg c1, if_neg c1]
  by_cases c2 : 194 ≤ b0 ∧ b0 ≤ 223 ∧ 1 < n ∧ 128 ≤ b1 ∧ b1 ≤ 191
  · rw [if_pos c2, if_pos (by omega)]
  have c2' : ¬ (194 ≤ b0 ∧ b0 ≤ 223 ∧ 1 < n ∧ (128 : Int) ≤ (b1 : Int) ∧ (b1 : Int) ≤ 191) := by omega
  rw [if_neg c2, if_neg c2']
  have e1 : ((if b0 = 224 then 160 else 128 : Int)) = ((if b0 = 224 then 160 else 128 : Nat) : Int) := by split <;> rfl
  have e2 : ((if b0 = 237 then 159 else 191 : Int)) = ((if b0 = 237 then 159 else 191 : Nat) : Int) := by split <;> rfl
  have e3 : ((if b0 = 240 then 144 else 128 : Int)) = ((if b0 = 240 then 144 else 128 : Nat) : Int) := by split <;> rfl
  have e4 : ((if b0 = 244 then 143 else 191 : Int)) = ((if b0 = 244 then 143 else 191 : Nat) : Int) := by split <;> rfl
  rw [e1, e2, e3, e4]
  generalize (if b0 = 224 then 160 else 128) = x1
  generalize (if b0 = 237 then 159 else 191) = x2
  generalize (if b0 = 240 then 144 else 128) = x3
  generalize (if b0 = 244 then 143 else 191) = x4
  by_cases c3 : 224 ≤ b0 ∧ b0 ≤ 239 ∧ 1 < n ∧ x1 ≤ b1 ∧ b1 ≤ x2 ∧ 2 < n ∧ 128 ≤ b2 ∧ b2 ≤ 191
  · rw [if_pos c3, if_pos (by omega)]
  have c3' : ¬ (224 ≤ b0 ∧ b0 ≤ 239 ∧ (1 < n ∧ (x1 : Int) ≤ (b1 : Int) ∧ (b1 : Int) ≤ (x2 : Int)) ∧ 2 < n ∧ (128 : Int) ≤ (b2 : Int) ∧ (b2 : Int) ≤ 191) := by omega
  rw [if_neg c3, if_neg c3']
  by_cases c4 : 240 ≤ b0 ∧ b0 ≤ 244 ∧ 1 < n ∧ x3 ≤ b1 ∧ b1 ≤ x4 ∧ 2 < n ∧ 128 ≤ b2 ∧ b2 ≤ 191 ∧ 3 < n ∧ 128 ≤ b3 ∧ b3 ≤ 191
  · rw [if_pos c4, if_pos (by omega)]
  rw [if_neg c4, if_neg (by omega)]

def DecP (n : Nat) (w : World) (e : Ending) (w' : World) : Prop := ∃ r : Int, e = .returned (.tuple #[.int .i64 r, .int .i64 n]) ∧ Below w.heap.size w w'
/- WALKS -/
theorem decR_le (l : List UInt8) : decR l ≤ 1 + l.length ∧ (decR l = 0 ∨ l = [] ∨ decR l ≤ l.length) := by
  unfold decR decRN
  cases l with
  | nil => simp
  | cons x xs =>
    have : 1 ≤ (x :: xs).length := by simp
    generalize (x :: xs).length = n at *
    generalize (((x :: xs).getD 0 0).toNat) = b0
    generalize (((x :: xs).getD 1 0).toNat) = b1
    generalize (((x :: xs).getD 2 0).toNat) = b2
    generalize (((x :: xs).getD 3 0).toNat) = b3
    refine ⟨?_, ?_⟩
    · repeat' split
      all_goals omega
    · by_cases h : n = 0
      · omega
      · repeat' split
        all_goals omega
set_option maxRecDepth 100000 in
set_option maxHeartbeats 4000000 in
theorem rdecode_any (s : ByteArray) (i : Nat) (w : World) (hi : i < s.size) (hs : s.size ≤ 100000) :
    Calls Tryz.prog 166 #[.string s, .int .i64 i] w (DecP (decR (s.data.toList.drop i)) w) := by
  have HD := hid (decR_c s i hi)
  have hb0 : (0 : Int) ≤ (s[i].toNat : Int) := by omega
  have hb1 : (s[i].toNat : Int) ≤ 255 := by have := s[i].toNat_lt; omega
  generalize hd : decR (s.data.toList.drop i) = D at *
  clear hd
  by_cases c1 : s[i].toNat < 128
  · have HN := hid (show D = 1 by rw [HD.out, if_pos c1])
    have c1z : (s[i].toNat : Int) < 128 := by omega
    clear HD
    go_enter Tryz.func166, Tryz.ntmps166
    go_wp2
    go_ret2
    exact ⟨_, by rw [HN.out]; rfl, Below.refl _ _⟩
  have HD := hid (HD.out.trans (if_neg c1))
  by_cases c2 : s[i].toNat < 194
  · have HN := hid (show D = 0 by rw [HD.out, if_neg (by omega), if_neg (by omega), if_neg (by omega)])
    have c1z : 128 ≤ (s[i].toNat : Int) := by omega
    have c2z : (s[i].toNat : Int) < 194 := by omega
    have n1 : ((s[i].toNat : Int) == 224) = false := by simp; omega
    have n2 : ((s[i].toNat : Int) == 237) = false := by simp; omega
    have n3 : ((s[i].toNat : Int) == 240) = false := by simp; omega
    have n4 : ((s[i].toNat : Int) == 244) = false := by simp; omega
    clear HD
    go_enter Tryz.func166, Tryz.ntmps166
    go_wp2
    go_ret2
    exact ⟨_, by rw [HN.out]; rfl, Below.refl _ _⟩
  by_cases c3 : s[i].toNat < 224
  · have c1z : 194 ≤ (s[i].toNat : Int) := by omega
    have c2z : (s[i].toNat : Int) ≤ 223 := by omega
    have n224 : ((s[i].toNat : Int) == 224) = false := by simp; omega
    have n237 : ((s[i].toNat : Int) == 237) = false := by simp; omega
    have n240 : ((s[i].toNat : Int) == 240) = false := by simp; omega
    have n244 : ((s[i].toNat : Int) == 244) = false := by simp; omega
    cases q1 : contB s (i + 1) 128 191
    · have HN := hid (show D = 0 by rw [HD.out, if_neg (by rw [q1]; simp), if_neg (by omega), if_neg (by omega)])
      have Q1 := hid q1
      clear HD q1
      go_enter Tryz.func166, Tryz.ntmps166
      go_wp2_with fail
      refine (rcont_any s _ _ _ _ (by omega) (by omega)).mono ?_
      rintro e w1 ⟨rfl, rfl⟩
      rw [show ((i : Int) + 1).toNat = i + 1 by omega, Q1.out]
      go_wp2
      go_ret2
      exact ⟨_, by rw [HN.out]; rfl, Below.refl _ _⟩
    · have HN := hid (show D = 2 by rw [HD.out, if_pos ⟨by omega, by omega, q1⟩])
      have hlt : i + 1 < s.size := by
        apply Decidable.byContradiction; intro h
        rw [contB, dif_neg h] at q1; cases q1
      have Q1 := hid q1
      clear HD q1
      go_enter Tryz.func166, Tryz.ntmps166
      go_wp2_with fail
      refine (rcont_any s _ _ _ _ (by omega) (by omega)).mono ?_
      rintro e w1 ⟨rfl, rfl⟩
      rw [show ((i : Int) + 1).toNat = i + 1 by omega, Q1.out]
      go_wp2
      go_ret2
      exact ⟨_, by rw [HN.out]; rfl, Below.refl _ _⟩
  have HD := hid (HD.out.trans (if_neg (by omega)))
  by_cases c4 : s[i].toNat < 240
  · have c1z : 224 ≤ (s[i].toNat : Int) := by omega
    have c2z : (s[i].toNat : Int) ≤ 239 := by omega
    by_cases v224 : s[i].toNat = 224
    · have L : (if s[i].toNat = 224 then 160 else 128 : Int) = 160 := by rw [if_pos (by omega)]
      have H : (if s[i].toNat = 237 then 159 else 191 : Int) = 191 := by rw [if_neg (by omega)]
      have HD2 := HD.out
      rw [L, H] at HD2
      clear HD L H
      have n224 : ((s[i].toNat : Int) == 224) = true := by simp; omega
      have n237 : ((s[i].toNat : Int) == 237) = false := by simp; omega
      have n240 : ((s[i].toNat : Int) == 240) = false := by simp; omega
      have n244 : ((s[i].toNat : Int) == 244) = false := by simp; omega
      cases q1 : contB s (i + 1) 160 191
      · have HN := hid (show D = 0 by rw [HD2, if_neg (by rw [q1]; simp), if_neg (by omega)])
        have Q1 := hid q1
        clear HD2 q1
        go_enter Tryz.func166, Tryz.ntmps166
        go_wp2_with fail
        refine (rcont_any s _ _ _ _ (by omega) (by omega)).mono ?_
        rintro e w1 ⟨rfl, rfl⟩
        rw [show ((i : Int) + 1).toNat = i + 1 by omega, Q1.out]
        go_wp2
        go_ret2
        exact ⟨_, by rw [HN.out]; rfl, Below.refl _ _⟩
      · have hlt1 : i + 1 < s.size := by
          apply Decidable.byContradiction; intro h
          rw [contB, dif_neg h] at q1; cases q1
        cases q2 : contB s (i + 2) 128 191
        · have HN := hid (show D = 0 by rw [HD2, if_neg (by rw [q2]; simp), if_neg (by omega)])
          have Q1 := hid q1
          have Q2 := hid q2
          clear HD2 q1 q2
          go_enter Tryz.func166, Tryz.ntmps166
          go_wp2_with fail
          refine (rcont_any s _ _ _ _ (by omega) (by omega)).mono ?_
          rintro e w1 ⟨rfl, rfl⟩
          rw [show ((i : Int) + 1).toNat = i + 1 by omega, Q1.out]
          go_wp2_with fail
          refine (rcont_any s _ _ _ _ (by omega) (by omega)).mono ?_
          rintro e w1 ⟨rfl, rfl⟩
          rw [show ((i : Int) + 2).toNat = i + 2 by omega, Q2.out]
          go_wp2
          go_ret2
          exact ⟨_, by rw [HN.out]; rfl, Below.refl _ _⟩
        · have hlt2 : i + 2 < s.size := by
            apply Decidable.byContradiction; intro h
            rw [contB, dif_neg h] at q2; cases q2
          have HN := hid (show D = 3 by rw [HD2, if_pos ⟨by omega, by omega, q1, q2⟩])
          have Q1 := hid q1
          have Q2 := hid q2
          clear HD2 q1 q2
          go_enter Tryz.func166, Tryz.ntmps166
          go_wp2_with fail
          refine (rcont_any s _ _ _ _ (by omega) (by omega)).mono ?_
          rintro e w1 ⟨rfl, rfl⟩
          rw [show ((i : Int) + 1).toNat = i + 1 by omega, Q1.out]
          go_wp2_with fail
          refine (rcont_any s _ _ _ _ (by omega) (by omega)).mono ?_
          rintro e w1 ⟨rfl, rfl⟩
          rw [show ((i : Int) + 2).toNat = i + 2 by omega, Q2.out]
          go_wp2
          have y1 : (0 : Int) ≤ (i : Int) + 1 := by omega
          have z1 : (i : Int) + 1 < (s.size : Int) := by omega
          have y2 : (0 : Int) ≤ (i : Int) + 2 := by omega
          have z2 : (i : Int) + 2 < (s.size : Int) := by omega
          have t1 : ((i : Int) + 1).toNat = i + 1 := by omega
          have x1 : IntKind.i64.wrap ((i : Int) + 1) = (i : Int) + 1 := IntWalk.i64_in _ (by omega)
          have t2 : ((i : Int) + 2).toNat = i + 2 := by omega
          have x2 : IntKind.i64.wrap ((i : Int) + 2) = (i : Int) + 2 := IntWalk.i64_in _ (by omega)
          go_quiet (fail)
          go_wp2
          go_ret2
          exact ⟨_, by rw [HN.out]; rfl, below_drewN (Below.refl _ _) _⟩
    by_cases v237 : s[i].toNat = 237
    · have L : (if s[i].toNat = 224 then 160 else 128 : Int) = 128 := by rw [if_neg (by omega)]
      have H : (if s[i].toNat = 237 then 159 else 191 : Int) = 159 := by rw [if_pos (by omega)]
      have HD2 := HD.out
      rw [L, H] at HD2
      clear HD L H
      have n224 : ((s[i].toNat : Int) == 224) = false := by simp; omega
      have n237 : ((s[i].toNat : Int) == 237) = true := by simp; omega
      have n240 : ((s[i].toNat : Int) == 240) = false := by simp; omega
      have n244 : ((s[i].toNat : Int) == 244) = false := by simp; omega
      cases q1 : contB s (i + 1) 128 159
      · have HN := hid (show D = 0 by rw [HD2, if_neg (by rw [q1]; simp), if_neg (by omega)])
        have Q1 := hid q1
        clear HD2 q1
        go_enter Tryz.func166, Tryz.ntmps166
        go_wp2_with fail
        refine (rcont_any s _ _ _ _ (by omega) (by omega)).mono ?_
        rintro e w1 ⟨rfl, rfl⟩
        rw [show ((i : Int) + 1).toNat = i + 1 by omega, Q1.out]
        go_wp2
        go_ret2
        exact ⟨_, by rw [HN.out]; rfl, Below.refl _ _⟩
      · have hlt1 : i + 1 < s.size := by
          apply Decidable.byContradiction; intro h
          rw [contB, dif_neg h] at q1; cases q1
        cases q2 : contB s (i + 2) 128 191
        · have HN := hid (show D = 0 by rw [HD2, if_neg (by rw [q2]; simp), if_neg (by omega)])
          have Q1 := hid q1
          have Q2 := hid q2
          clear HD2 q1 q2
          go_enter Tryz.func166, Tryz.ntmps166
          go_wp2_with fail
          refine (rcont_any s _ _ _ _ (by omega) (by omega)).mono ?_
          rintro e w1 ⟨rfl, rfl⟩
          rw [show ((i : Int) + 1).toNat = i + 1 by omega, Q1.out]
          go_wp2_with fail
          refine (rcont_any s _ _ _ _ (by omega) (by omega)).mono ?_
          rintro e w1 ⟨rfl, rfl⟩
          rw [show ((i : Int) + 2).toNat = i + 2 by omega, Q2.out]
          go_wp2
          go_ret2
          exact ⟨_, by rw [HN.out]; rfl, Below.refl _ _⟩
        · have hlt2 : i + 2 < s.size := by
            apply Decidable.byContradiction; intro h
            rw [contB, dif_neg h] at q2; cases q2
          have HN := hid (show D = 3 by rw [HD2, if_pos ⟨by omega, by omega, q1, q2⟩])
          have Q1 := hid q1
          have Q2 := hid q2
          clear HD2 q1 q2
          go_enter Tryz.func166, Tryz.ntmps166
          go_wp2_with fail
          refine (rcont_any s _ _ _ _ (by omega) (by omega)).mono ?_
          rintro e w1 ⟨rfl, rfl⟩
          rw [show ((i : Int) + 1).toNat = i + 1 by omega, Q1.out]
          go_wp2_with fail
          refine (rcont_any s _ _ _ _ (by omega) (by omega)).mono ?_
          rintro e w1 ⟨rfl, rfl⟩
          rw [show ((i : Int) + 2).toNat = i + 2 by omega, Q2.out]
          go_wp2
          have y1 : (0 : Int) ≤ (i : Int) + 1 := by omega
          have z1 : (i : Int) + 1 < (s.size : Int) := by omega
          have y2 : (0 : Int) ≤ (i : Int) + 2 := by omega
          have z2 : (i : Int) + 2 < (s.size : Int) := by omega
          have t1 : ((i : Int) + 1).toNat = i + 1 := by omega
          have x1 : IntKind.i64.wrap ((i : Int) + 1) = (i : Int) + 1 := IntWalk.i64_in _ (by omega)
          have t2 : ((i : Int) + 2).toNat = i + 2 := by omega
          have x2 : IntKind.i64.wrap ((i : Int) + 2) = (i : Int) + 2 := IntWalk.i64_in _ (by omega)
          go_quiet (fail)
          go_wp2
          go_ret2
          exact ⟨_, by rw [HN.out]; rfl, below_drewN (Below.refl _ _) _⟩
    have L : (if s[i].toNat = 224 then 160 else 128 : Int) = 128 := by rw [if_neg (by omega)]
    have H : (if s[i].toNat = 237 then 159 else 191 : Int) = 191 := by rw [if_neg (by omega)]
    have HD2 := HD.out
    rw [L, H] at HD2
    clear HD L H
    have n224 : ((s[i].toNat : Int) == 224) = false := by simp; omega
    have n237 : ((s[i].toNat : Int) == 237) = false := by simp; omega
    have n240 : ((s[i].toNat : Int) == 240) = false := by simp; omega
    have n244 : ((s[i].toNat : Int) == 244) = false := by simp; omega
    cases q1 : contB s (i + 1) 128 191
    · have HN := hid (show D = 0 by rw [HD2, if_neg (by rw [q1]; simp), if_neg (by omega)])
      have Q1 := hid q1
      clear HD2 q1
      go_enter Tryz.func166, Tryz.ntmps166
      go_wp2_with fail
      refine (rcont_any s _ _ _ _ (by omega) (by omega)).mono ?_
      rintro e w1 ⟨rfl, rfl⟩
      rw [show ((i : Int) + 1).toNat = i + 1 by omega, Q1.out]
      go_wp2
      go_ret2
      exact ⟨_, by rw [HN.out]; rfl, Below.refl _ _⟩
    · have hlt1 : i + 1 < s.size := by
        apply Decidable.byContradiction; intro h
        rw [contB, dif_neg h] at q1; cases q1
      cases q2 : contB s (i + 2) 128 191
      · have HN := hid (show D = 0 by rw [HD2, if_neg (by rw [q2]; simp), if_neg (by omega)])
        have Q1 := hid q1
        have Q2 := hid q2
        clear HD2 q1 q2
        go_enter Tryz.func166, Tryz.ntmps166
        go_wp2_with fail
        refine (rcont_any s _ _ _ _ (by omega) (by omega)).mono ?_
        rintro e w1 ⟨rfl, rfl⟩
        rw [show ((i : Int) + 1).toNat = i + 1 by omega, Q1.out]
        go_wp2_with fail
        refine (rcont_any s _ _ _ _ (by omega) (by omega)).mono ?_
        rintro e w1 ⟨rfl, rfl⟩
        rw [show ((i : Int) + 2).toNat = i + 2 by omega, Q2.out]
        go_wp2
        go_ret2
        exact ⟨_, by rw [HN.out]; rfl, Below.refl _ _⟩
      · have hlt2 : i + 2 < s.size := by
          apply Decidable.byContradiction; intro h
          rw [contB, dif_neg h] at q2; cases q2
        have HN := hid (show D = 3 by rw [HD2, if_pos ⟨by omega, by omega, q1, q2⟩])
        have Q1 := hid q1
        have Q2 := hid q2
        clear HD2 q1 q2
        go_enter Tryz.func166, Tryz.ntmps166
        go_wp2_with fail
        refine (rcont_any s _ _ _ _ (by omega) (by omega)).mono ?_
        rintro e w1 ⟨rfl, rfl⟩
        rw [show ((i : Int) + 1).toNat = i + 1 by omega, Q1.out]
        go_wp2_with fail
        refine (rcont_any s _ _ _ _ (by omega) (by omega)).mono ?_
        rintro e w1 ⟨rfl, rfl⟩
        rw [show ((i : Int) + 2).toNat = i + 2 by omega, Q2.out]
        go_wp2
        have y1 : (0 : Int) ≤ (i : Int) + 1 := by omega
        have z1 : (i : Int) + 1 < (s.size : Int) := by omega
        have y2 : (0 : Int) ≤ (i : Int) + 2 := by omega
        have z2 : (i : Int) + 2 < (s.size : Int) := by omega
        have t1 : ((i : Int) + 1).toNat = i + 1 := by omega
        have x1 : IntKind.i64.wrap ((i : Int) + 1) = (i : Int) + 1 := IntWalk.i64_in _ (by omega)
        have t2 : ((i : Int) + 2).toNat = i + 2 := by omega
        have x2 : IntKind.i64.wrap ((i : Int) + 2) = (i : Int) + 2 := IntWalk.i64_in _ (by omega)
        go_quiet (fail)
        go_wp2
        go_ret2
        exact ⟨_, by rw [HN.out]; rfl, below_drewN (Below.refl _ _) _⟩
  have HD := hid (HD.out.trans (if_neg (by omega)))
  by_cases c5 : 244 < s[i].toNat
  · have HN := hid (show D = 0 by rw [HD.out, if_neg (by omega)])
    have c1z : 244 < (s[i].toNat : Int) := by omega
    have n224 : ((s[i].toNat : Int) == 224) = false := by simp; omega
    have n237 : ((s[i].toNat : Int) == 237) = false := by simp; omega
    have n240 : ((s[i].toNat : Int) == 240) = false := by simp; omega
    have n244 : ((s[i].toNat : Int) == 244) = false := by simp; omega
    clear HD
    go_enter Tryz.func166, Tryz.ntmps166
    go_wp2
    go_ret2
    exact ⟨_, by rw [HN.out]; rfl, Below.refl _ _⟩
  have c1z : 240 ≤ (s[i].toNat : Int) := by omega
  have c2z : (s[i].toNat : Int) ≤ 244 := by omega
  by_cases v240 : s[i].toNat = 240
  · have L : (if s[i].toNat = 240 then 144 else 128 : Int) = 144 := by rw [if_pos (by omega)]
    have H : (if s[i].toNat = 244 then 143 else 191 : Int) = 191 := by rw [if_neg (by omega)]
    have HD2 := HD.out
    rw [L, H] at HD2
    clear HD L H
    have n224 : ((s[i].toNat : Int) == 224) = false := by simp; omega
    have n237 : ((s[i].toNat : Int) == 237) = false := by simp; omega
    have n240 : ((s[i].toNat : Int) == 240) = true := by simp; omega
    have n244 : ((s[i].toNat : Int) == 244) = false := by simp; omega
    cases q1 : contB s (i + 1) 144 191
    · have HN := hid (show D = 0 by rw [HD2, if_neg (by rw [q1]; simp)])
      have Q1 := hid q1
      clear HD2 q1
      go_enter Tryz.func166, Tryz.ntmps166
      go_wp2_with fail
      refine (rcont_any s _ _ _ _ (by omega) (by omega)).mono ?_
      rintro e w1 ⟨rfl, rfl⟩
      rw [show ((i : Int) + 1).toNat = i + 1 by omega, Q1.out]
      go_wp2
      go_ret2
      exact ⟨_, by rw [HN.out]; rfl, Below.refl _ _⟩
    · have hlt1 : i + 1 < s.size := by
        apply Decidable.byContradiction; intro h
        rw [contB, dif_neg h] at q1; cases q1
      cases q2 : contB s (i + 2) 128 191
      · have HN := hid (show D = 0 by rw [HD2, if_neg (by rw [q2]; simp)])
        have Q1 := hid q1
        have Q2 := hid q2
        clear HD2 q1 q2
        go_enter Tryz.func166, Tryz.ntmps166
        go_wp2_with fail
        refine (rcont_any s _ _ _ _ (by omega) (by omega)).mono ?_
        rintro e w1 ⟨rfl, rfl⟩
        rw [show ((i : Int) + 1).toNat = i + 1 by omega, Q1.out]
        go_wp2_with fail
        refine (rcont_any s _ _ _ _ (by omega) (by omega)).mono ?_
        rintro e w1 ⟨rfl, rfl⟩
        rw [show ((i : Int) + 2).toNat = i + 2 by omega, Q2.out]
        go_wp2
        go_ret2
        exact ⟨_, by rw [HN.out]; rfl, Below.refl _ _⟩
      · have hlt2 : i + 2 < s.size := by
          apply Decidable.byContradiction; intro h
          rw [contB, dif_neg h] at q2; cases q2
        cases q3 : contB s (i + 3) 128 191
        · have HN := hid (show D = 0 by rw [HD2, if_neg (by rw [q3]; simp)])
          have Q1 := hid q1
          have Q2 := hid q2
          have Q3 := hid q3
          clear HD2 q1 q2 q3
          go_enter Tryz.func166, Tryz.ntmps166
          go_wp2_with fail
          refine (rcont_any s _ _ _ _ (by omega) (by omega)).mono ?_
          rintro e w1 ⟨rfl, rfl⟩
          rw [show ((i : Int) + 1).toNat = i + 1 by omega, Q1.out]
          go_wp2_with fail
          refine (rcont_any s _ _ _ _ (by omega) (by omega)).mono ?_
          rintro e w1 ⟨rfl, rfl⟩
          rw [show ((i : Int) + 2).toNat = i + 2 by omega, Q2.out]
          go_wp2_with fail
          refine (rcont_any s _ _ _ _ (by omega) (by omega)).mono ?_
          rintro e w1 ⟨rfl, rfl⟩
          rw [show ((i : Int) + 3).toNat = i + 3 by omega, Q3.out]
          go_wp2
          go_ret2
          exact ⟨_, by rw [HN.out]; rfl, Below.refl _ _⟩
        · have hlt3 : i + 3 < s.size := by
            apply Decidable.byContradiction; intro h
            rw [contB, dif_neg h] at q3; cases q3
          have HN := hid (show D = 4 by rw [HD2, if_pos ⟨by omega, by omega, q1, q2, q3⟩])
          have Q1 := hid q1
          have Q2 := hid q2
          have Q3 := hid q3
          clear HD2 q1 q2 q3
          go_enter Tryz.func166, Tryz.ntmps166
          go_wp2_with fail
          refine (rcont_any s _ _ _ _ (by omega) (by omega)).mono ?_
          rintro e w1 ⟨rfl, rfl⟩
          rw [show ((i : Int) + 1).toNat = i + 1 by omega, Q1.out]
          go_wp2_with fail
          refine (rcont_any s _ _ _ _ (by omega) (by omega)).mono ?_
          rintro e w1 ⟨rfl, rfl⟩
          rw [show ((i : Int) + 2).toNat = i + 2 by omega, Q2.out]
          go_wp2_with fail
          refine (rcont_any s _ _ _ _ (by omega) (by omega)).mono ?_
          rintro e w1 ⟨rfl, rfl⟩
          rw [show ((i : Int) + 3).toNat = i + 3 by omega, Q3.out]
          go_wp2
          have y1 : (0 : Int) ≤ (i : Int) + 1 := by omega
          have z1 : (i : Int) + 1 < (s.size : Int) := by omega
          have y2 : (0 : Int) ≤ (i : Int) + 2 := by omega
          have z2 : (i : Int) + 2 < (s.size : Int) := by omega
          have y3 : (0 : Int) ≤ (i : Int) + 3 := by omega
          have z3 : (i : Int) + 3 < (s.size : Int) := by omega
          have t1 : ((i : Int) + 1).toNat = i + 1 := by omega
          have x1 : IntKind.i64.wrap ((i : Int) + 1) = (i : Int) + 1 := IntWalk.i64_in _ (by omega)
          have t2 : ((i : Int) + 2).toNat = i + 2 := by omega
          have x2 : IntKind.i64.wrap ((i : Int) + 2) = (i : Int) + 2 := IntWalk.i64_in _ (by omega)
          have t3 : ((i : Int) + 3).toNat = i + 3 := by omega
          have x3 : IntKind.i64.wrap ((i : Int) + 3) = (i : Int) + 3 := IntWalk.i64_in _ (by omega)
          go_quiet (fail)
          go_wp2
          go_ret2
          exact ⟨_, by rw [HN.out]; rfl, below_drewN (Below.refl _ _) _⟩
  by_cases v244 : s[i].toNat = 244
  · have L : (if s[i].toNat = 240 then 144 else 128 : Int) = 128 := by rw [if_neg (by omega)]
    have H : (if s[i].toNat = 244 then 143 else 191 : Int) = 143 := by rw [if_pos (by omega)]
    have HD2 := HD.out
    rw [L, H] at HD2
    clear HD L H
    have n224 : ((s[i].toNat : Int) == 224) = false := by simp; omega
    have n237 : ((s[i].toNat : Int) == 237) = false := by simp; omega
    have n240 : ((s[i].toNat : Int) == 240) = false := by simp; omega
    have n244 : ((s[i].toNat : Int) == 244) = true := by simp; omega
    cases q1 : contB s (i + 1) 128 143
    · have HN := hid (show D = 0 by rw [HD2, if_neg (by rw [q1]; simp)])
      have Q1 := hid q1
      clear HD2 q1
      go_enter Tryz.func166, Tryz.ntmps166
      go_wp2_with fail
      refine (rcont_any s _ _ _ _ (by omega) (by omega)).mono ?_
      rintro e w1 ⟨rfl, rfl⟩
      rw [show ((i : Int) + 1).toNat = i + 1 by omega, Q1.out]
      go_wp2
      go_ret2
      exact ⟨_, by rw [HN.out]; rfl, Below.refl _ _⟩
    · have hlt1 : i + 1 < s.size := by
        apply Decidable.byContradiction; intro h
        rw [contB, dif_neg h] at q1; cases q1
      cases q2 : contB s (i + 2) 128 191
      · have HN := hid (show D = 0 by rw [HD2, if_neg (by rw [q2]; simp)])
        have Q1 := hid q1
        have Q2 := hid q2
        clear HD2 q1 q2
        go_enter Tryz.func166, Tryz.ntmps166
        go_wp2_with fail
        refine (rcont_any s _ _ _ _ (by omega) (by omega)).mono ?_
        rintro e w1 ⟨rfl, rfl⟩
        rw [show ((i : Int) + 1).toNat = i + 1 by omega, Q1.out]
        go_wp2_with fail
        refine (rcont_any s _ _ _ _ (by omega) (by omega)).mono ?_
        rintro e w1 ⟨rfl, rfl⟩
        rw [show ((i : Int) + 2).toNat = i + 2 by omega, Q2.out]
        go_wp2
        go_ret2
        exact ⟨_, by rw [HN.out]; rfl, Below.refl _ _⟩
      · have hlt2 : i + 2 < s.size := by
          apply Decidable.byContradiction; intro h
          rw [contB, dif_neg h] at q2; cases q2
        cases q3 : contB s (i + 3) 128 191
        · have HN := hid (show D = 0 by rw [HD2, if_neg (by rw [q3]; simp)])
          have Q1 := hid q1
          have Q2 := hid q2
          have Q3 := hid q3
          clear HD2 q1 q2 q3
          go_enter Tryz.func166, Tryz.ntmps166
          go_wp2_with fail
          refine (rcont_any s _ _ _ _ (by omega) (by omega)).mono ?_
          rintro e w1 ⟨rfl, rfl⟩
          rw [show ((i : Int) + 1).toNat = i + 1 by omega, Q1.out]
          go_wp2_with fail
          refine (rcont_any s _ _ _ _ (by omega) (by omega)).mono ?_
          rintro e w1 ⟨rfl, rfl⟩
          rw [show ((i : Int) + 2).toNat = i + 2 by omega, Q2.out]
          go_wp2_with fail
          refine (rcont_any s _ _ _ _ (by omega) (by omega)).mono ?_
          rintro e w1 ⟨rfl, rfl⟩
          rw [show ((i : Int) + 3).toNat = i + 3 by omega, Q3.out]
          go_wp2
          go_ret2
          exact ⟨_, by rw [HN.out]; rfl, Below.refl _ _⟩
        · have hlt3 : i + 3 < s.size := by
            apply Decidable.byContradiction; intro h
            rw [contB, dif_neg h] at q3; cases q3
          have HN := hid (show D = 4 by rw [HD2, if_pos ⟨by omega, by omega, q1, q2, q3⟩])
          have Q1 := hid q1
          have Q2 := hid q2
          have Q3 := hid q3
          clear HD2 q1 q2 q3
          go_enter Tryz.func166, Tryz.ntmps166
          go_wp2_with fail
          refine (rcont_any s _ _ _ _ (by omega) (by omega)).mono ?_
          rintro e w1 ⟨rfl, rfl⟩
          rw [show ((i : Int) + 1).toNat = i + 1 by omega, Q1.out]
          go_wp2_with fail
          refine (rcont_any s _ _ _ _ (by omega) (by omega)).mono ?_
          rintro e w1 ⟨rfl, rfl⟩
          rw [show ((i : Int) + 2).toNat = i + 2 by omega, Q2.out]
          go_wp2_with fail
          refine (rcont_any s _ _ _ _ (by omega) (by omega)).mono ?_
          rintro e w1 ⟨rfl, rfl⟩
          rw [show ((i : Int) + 3).toNat = i + 3 by omega, Q3.out]
          go_wp2
          have y1 : (0 : Int) ≤ (i : Int) + 1 := by omega
          have z1 : (i : Int) + 1 < (s.size : Int) := by omega
          have y2 : (0 : Int) ≤ (i : Int) + 2 := by omega
          have z2 : (i : Int) + 2 < (s.size : Int) := by omega
          have y3 : (0 : Int) ≤ (i : Int) + 3 := by omega
          have z3 : (i : Int) + 3 < (s.size : Int) := by omega
          have t1 : ((i : Int) + 1).toNat = i + 1 := by omega
          have x1 : IntKind.i64.wrap ((i : Int) + 1) = (i : Int) + 1 := IntWalk.i64_in _ (by omega)
          have t2 : ((i : Int) + 2).toNat = i + 2 := by omega
          have x2 : IntKind.i64.wrap ((i : Int) + 2) = (i : Int) + 2 := IntWalk.i64_in _ (by omega)
          have t3 : ((i : Int) + 3).toNat = i + 3 := by omega
          have x3 : IntKind.i64.wrap ((i : Int) + 3) = (i : Int) + 3 := IntWalk.i64_in _ (by omega)
          go_quiet (fail)
          go_wp2
          go_ret2
          exact ⟨_, by rw [HN.out]; rfl, below_drewN (Below.refl _ _) _⟩
  have L : (if s[i].toNat = 240 then 144 else 128 : Int) = 128 := by rw [if_neg (by omega)]
  have H : (if s[i].toNat = 244 then 143 else 191 : Int) = 191 := by rw [if_neg (by omega)]
  have HD2 := HD.out
  rw [L, H] at HD2
  clear HD L H
  have n224 : ((s[i].toNat : Int) == 224) = false := by simp; omega
  have n237 : ((s[i].toNat : Int) == 237) = false := by simp; omega
  have n240 : ((s[i].toNat : Int) == 240) = false := by simp; omega
  have n244 : ((s[i].toNat : Int) == 244) = false := by simp; omega
  cases q1 : contB s (i + 1) 128 191
  · have HN := hid (show D = 0 by rw [HD2, if_neg (by rw [q1]; simp)])
    have Q1 := hid q1
    clear HD2 q1
    go_enter Tryz.func166, Tryz.ntmps166
    go_wp2_with fail
    refine (rcont_any s _ _ _ _ (by omega) (by omega)).mono ?_
    rintro e w1 ⟨rfl, rfl⟩
    rw [show ((i : Int) + 1).toNat = i + 1 by omega, Q1.out]
    go_wp2
    go_ret2
    exact ⟨_, by rw [HN.out]; rfl, Below.refl _ _⟩
  · have hlt1 : i + 1 < s.size := by
      apply Decidable.byContradiction; intro h
      rw [contB, dif_neg h] at q1; cases q1
    cases q2 : contB s (i + 2) 128 191
    · have HN := hid (show D = 0 by rw [HD2, if_neg (by rw [q2]; simp)])
      have Q1 := hid q1
      have Q2 := hid q2
      clear HD2 q1 q2
      go_enter Tryz.func166, Tryz.ntmps166
      go_wp2_with fail
      refine (rcont_any s _ _ _ _ (by omega) (by omega)).mono ?_
      rintro e w1 ⟨rfl, rfl⟩
      rw [show ((i : Int) + 1).toNat = i + 1 by omega, Q1.out]
      go_wp2_with fail
      refine (rcont_any s _ _ _ _ (by omega) (by omega)).mono ?_
      rintro e w1 ⟨rfl, rfl⟩
      rw [show ((i : Int) + 2).toNat = i + 2 by omega, Q2.out]
      go_wp2
      go_ret2
      exact ⟨_, by rw [HN.out]; rfl, Below.refl _ _⟩
    · have hlt2 : i + 2 < s.size := by
        apply Decidable.byContradiction; intro h
        rw [contB, dif_neg h] at q2; cases q2
      cases q3 : contB s (i + 3) 128 191
      · have HN := hid (show D = 0 by rw [HD2, if_neg (by rw [q3]; simp)])
        have Q1 := hid q1
        have Q2 := hid q2
        have Q3 := hid q3
        clear HD2 q1 q2 q3
        go_enter Tryz.func166, Tryz.ntmps166
        go_wp2_with fail
        refine (rcont_any s _ _ _ _ (by omega) (by omega)).mono ?_
        rintro e w1 ⟨rfl, rfl⟩
        rw [show ((i : Int) + 1).toNat = i + 1 by omega, Q1.out]
        go_wp2_with fail
        refine (rcont_any s _ _ _ _ (by omega) (by omega)).mono ?_
        rintro e w1 ⟨rfl, rfl⟩
        rw [show ((i : Int) + 2).toNat = i + 2 by omega, Q2.out]
        go_wp2_with fail
        refine (rcont_any s _ _ _ _ (by omega) (by omega)).mono ?_
        rintro e w1 ⟨rfl, rfl⟩
        rw [show ((i : Int) + 3).toNat = i + 3 by omega, Q3.out]
        go_wp2
        go_ret2
        exact ⟨_, by rw [HN.out]; rfl, Below.refl _ _⟩
      · have hlt3 : i + 3 < s.size := by
          apply Decidable.byContradiction; intro h
          rw [contB, dif_neg h] at q3; cases q3
        have HN := hid (show D = 4 by rw [HD2, if_pos ⟨by omega, by omega, q1, q2, q3⟩])
        have Q1 := hid q1
        have Q2 := hid q2
        have Q3 := hid q3
        clear HD2 q1 q2 q3
        go_enter Tryz.func166, Tryz.ntmps166
        go_wp2_with fail
        refine (rcont_any s _ _ _ _ (by omega) (by omega)).mono ?_
        rintro e w1 ⟨rfl, rfl⟩
        rw [show ((i : Int) + 1).toNat = i + 1 by omega, Q1.out]
        go_wp2_with fail
        refine (rcont_any s _ _ _ _ (by omega) (by omega)).mono ?_
        rintro e w1 ⟨rfl, rfl⟩
        rw [show ((i : Int) + 2).toNat = i + 2 by omega, Q2.out]
        go_wp2_with fail
        refine (rcont_any s _ _ _ _ (by omega) (by omega)).mono ?_
        rintro e w1 ⟨rfl, rfl⟩
        rw [show ((i : Int) + 3).toNat = i + 3 by omega, Q3.out]
        go_wp2
        have y1 : (0 : Int) ≤ (i : Int) + 1 := by omega
        have z1 : (i : Int) + 1 < (s.size : Int) := by omega
        have y2 : (0 : Int) ≤ (i : Int) + 2 := by omega
        have z2 : (i : Int) + 2 < (s.size : Int) := by omega
        have y3 : (0 : Int) ≤ (i : Int) + 3 := by omega
        have z3 : (i : Int) + 3 < (s.size : Int) := by omega
        have t1 : ((i : Int) + 1).toNat = i + 1 := by omega
        have x1 : IntKind.i64.wrap ((i : Int) + 1) = (i : Int) + 1 := IntWalk.i64_in _ (by omega)
        have t2 : ((i : Int) + 2).toNat = i + 2 := by omega
        have x2 : IntKind.i64.wrap ((i : Int) + 2) = (i : Int) + 2 := IntWalk.i64_in _ (by omega)
        have t3 : ((i : Int) + 3).toNat = i + 3 := by omega
        have x3 : IntKind.i64.wrap ((i : Int) + 3) = (i : Int) + 3 := IntWalk.i64_in _ (by omega)
        go_quiet (fail)
        go_wp2
        go_ret2
        exact ⟨_, by rw [HN.out]; rfl, below_drewN (Below.refl _ _) _⟩
end Go.Proofs.YtpnogmicfomofaaGreatDoor.Adr
