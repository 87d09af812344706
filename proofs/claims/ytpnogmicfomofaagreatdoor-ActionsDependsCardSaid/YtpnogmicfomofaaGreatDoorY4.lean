import Derived.Test.YtpnogmicfomofaaGreatDoorY3
import Derived.Laws.BitsLemmas
import Derived.Lib.SmallJoins
import Derived.WalkLawsBesides
set_option linter.unusedVariables false
set_option linter.unusedSimpArgs false
namespace Go.Proofs.YtpnogmicfomofaaGreatDoor.Adr
open Go.RowKit Go.Sort Go.Lib
open Go.Lib (hid)
theorem below_drewN {B : Nat} {a w : World} (h : Below B a w) (n : Nat) : Below B a (w.drewN n) := ⟨h.os, h.tape, h.output, h.size, h.block⟩
def contB (s : ByteArray) (i : Nat) (lo hi : Int) : Bool := if h : i < s.size then decide (lo <= (s[i].toNat : Int)) && decide ((s[i].toNat : Int) <= hi) else false
theorem rcont_any (s : ByteArray) (j lo hi : Int) (w : World) (h0 : 0 <= j) (h1 : j <= 2000000) :
 Calls Tryz.prog 194 #[.string s, .int .i64 j, .int .u8 lo, .int .u8 hi] w fun e w' => e = .returned (.bool (contB s j.toNat lo hi)) /\ w = w' := by
 obtain ⟨i, rfl⟩ := Int.eq_ofNat_of_zero_le h0;rw [Int.toNat_natCast]
 by_cases hlt : i < s.size
 . have HN := hid (show contB s i lo hi = (decide (lo <= (s[i].toNat : Int)) && decide ((s[i].toNat : Int) <= hi)) from dif_pos hlt)
   by_cases h2 : lo <= (s[i].toNat : Int)
   . by_cases h3 : (s[i].toNat : Int) <= hi
     all_goals
      have HN := hid (show contB s i lo hi = decide ((s[i].toNat : Int) <= hi) by rw [HN.out]; simp [h2]);go_enter Tryz.func194, Tryz.ntmps194;go_wp2
      go_ret
      exact ⟨ret_bool (by rw [HN.out]; simp [*]), rfl⟩
   . have HN := hid (show contB s i lo hi = false by rw [HN.out]; simp [h2])
     go_enter Tryz.func194, Tryz.ntmps194;go_wp2
     go_ret
     exact ⟨ret_bool HN.out, rfl⟩
 . have HN := hid (show contB s i lo hi = false from dif_neg hlt)
   go_enter Tryz.func194, Tryz.ntmps194;go_wp2
   go_ret
   exact ⟨ret_bool HN.out, rfl⟩
theorem getD_drop (s : ByteArray) (i j : Nat) (h : i + j < s.size) : ((s.data.toList.drop i).getD j 0) = s[i + j] := by
 rw [List.getD_eq_getElem?_getD, List.getElem?_drop, List.getElem?_eq_getElem (by simpa using h)];rfl
theorem contB_eq (s : ByteArray) (i j : Nat) (lo hi : Int) : contB s (i + j) lo hi = decide (j < (s.data.toList.drop i).length /\ lo <= (((s.data.toList.drop i).getD j 0).toNat : Int) /\ (((s.data.toList.drop i).getD j 0).toNat : Int) <= hi) := by
 have hl : (s.data.toList.drop i).length = s.size - i := by rw [List.length_drop, Array.length_toList]; rfl
 unfold contB
 by_cases h : i + j < s.size
 . rw [dif_pos h, getD_drop s i j h, hl]
   have : j < s.size - i := by omega
   simp [this]
 . rw [dif_neg h, hl]
   have : ¬ j < s.size - i := by omega
   simp [this]
theorem decR_c (s : ByteArray) (i : Nat) (h : i < s.size) : decR (s.data.toList.drop i) =
 if s[i].toNat < 128 then 1
 else if 194 <= s[i].toNat /\ s[i].toNat <= 223 /\ contB s (i + 1) 128 191 = true then 2
 else if 224 <= s[i].toNat /\ s[i].toNat <= 239 /\ contB s (i + 1) (if s[i].toNat = 224 then 160 else 128) (if s[i].toNat = 237 then 159 else 191) = true /\ contB s (i + 2) 128 191 = true then 3
 else if 240 <= s[i].toNat /\ s[i].toNat <= 244 /\ contB s (i + 1) (if s[i].toNat = 240 then 144 else 128) (if s[i].toNat = 244 then 143 else 191) = true /\ contB s (i + 2) 128 191 = true /\ contB s (i + 3) 128 191 = true then 4
 else 0 := by
 have h0 := getD_drop s i 0 (by omega);simp only [Nat.add_zero] at h0;simp only [contB_eq, decide_eq_true_eq];unfold decR decRN;rw [h0];generalize ((s.data.toList.drop i).getD 1 0).toNat = b1;generalize ((s.data.toList.drop i).getD 2 0).toNat = b2;generalize ((s.data.toList.drop i).getD 3 0).toNat = b3;generalize (s.data.toList.drop i).length = n;generalize (s[i]).toNat = b0
 by_cases c1 : b0 < 128
 . rw [if_pos c1, if_pos c1]
 rw [if_neg c1, if_neg c1]
 by_cases c2 : 194 <= b0 /\ b0 <= 223 /\ 1 < n /\ 128 <= b1 /\ b1 <= 191
 . rw [if_pos c2, if_pos (by omega)]
 have c2' : ¬ (194 <= b0 /\ b0 <= 223 /\ 1 < n /\ (128 : Int) <= (b1 : Int) /\ (b1 : Int) <= 191) := by omega
 rw [if_neg c2, if_neg c2'];have e1 : ((if b0 = 224 then 160 else 128 : Int)) = ((if b0 = 224 then 160 else 128 : Nat) : Int) := by split <;> rfl
 have e2 : ((if b0 = 237 then 159 else 191 : Int)) = ((if b0 = 237 then 159 else 191 : Nat) : Int) := by split <;> rfl
 have e3 : ((if b0 = 240 then 144 else 128 : Int)) = ((if b0 = 240 then 144 else 128 : Nat) : Int) := by split <;> rfl
 have e4 : ((if b0 = 244 then 143 else 191 : Int)) = ((if b0 = 244 then 143 else 191 : Nat) : Int) := by split <;> rfl
 rw [e1, e2, e3, e4];generalize (if b0 = 224 then 160 else 128) = x1;generalize (if b0 = 237 then 159 else 191) = x2;generalize (if b0 = 240 then 144 else 128) = x3;generalize (if b0 = 244 then 143 else 191) = x4
 by_cases c3 : 224 <= b0 /\ b0 <= 239 /\ 1 < n /\ x1 <= b1 /\ b1 <= x2 /\ 2 < n /\ 128 <= b2 /\ b2 <= 191
 . rw [if_pos c3, if_pos (by omega)]
 have c3' : ¬ (224 <= b0 /\ b0 <= 239 /\ (1 < n /\ (x1 : Int) <= (b1 : Int) /\ (b1 : Int) <= (x2 : Int)) /\ 2 < n /\ (128 : Int) <= (b2 : Int) /\ (b2 : Int) <= 191) := by omega
 rw [if_neg c3, if_neg c3']
 by_cases c4 : 240 <= b0 /\ b0 <= 244 /\ 1 < n /\ x3 <= b1 /\ b1 <= x4 /\ 2 < n /\ 128 <= b2 /\ b2 <= 191 /\ 3 < n /\ 128 <= b3 /\ b3 <= 191
 . rw [if_pos c4, if_pos (by omega)]
 rw [if_neg c4, if_neg (by omega)]
def DecP (n : Nat) (w : World) (e : Ending) (w' : World) : Prop := ∃ r : Int, e = .returned (.tuple #[.int .i64 r, .int .i64 n]) /\ Below w.heap.size w w'
theorem decR_le (l : List UInt8) : decR l <= 1 + l.length /\ (decR l = 0 ∨ l = [] ∨ decR l <= l.length) := by
 unfold decR decRN;cases l with
 | nil => simp
 | cons x xs =>
   have : 1 <= (x :: xs).length := by simp
   generalize (x :: xs).length = n at *;generalize (((x :: xs).getD 0 0).toNat) = b0;generalize (((x :: xs).getD 1 0).toNat) = b1;generalize (((x :: xs).getD 2 0).toNat) = b2;generalize (((x :: xs).getD 3 0).toNat) = b3;refine ⟨?_, ?_⟩
   . repeat' split
     all_goals omega
   . by_cases h : n = 0
     . omega
     . repeat' split
       all_goals omega
set_option maxRecDepth 100000 in
set_option maxHeartbeats 4000000 in
theorem rdecode_any (s : ByteArray) (i : Nat) (w : World) (hi : i < s.size) (hs : s.size <= 1200000) :
 Calls Tryz.prog 166 #[.string s, .int .i64 i] w (DecP (decR (s.data.toList.drop i)) w) := by
 have HD := hid (decR_c s i hi);have hb0 : (0 : Int) <= (s[i].toNat : Int) := by omega
 have hb1 : (s[i].toNat : Int) <= 255 := by have := s[i].toNat_lt; omega
 generalize hd : decR (s.data.toList.drop i) = D at *;clear hd
 by_cases c1 : s[i].toNat < 128
 . have HN := hid (show D = 1 by rw [HD.out, if_pos c1])
   have c1z : (s[i].toNat : Int) < 128 := by omega
   clear HD;go_enter Tryz.func166, Tryz.ntmps166;go_wp2
   go_ret2
   exact ⟨_, by rw [HN.out]; rfl, Below.refl _ _⟩
 have HD := hid (HD.out.trans (if_neg c1))
 by_cases c2 : s[i].toNat < 194
 . have HN := hid (show D = 0 by rw [HD.out, if_neg (by omega), if_neg (by omega), if_neg (by omega)])
   have c1z : 128 <= (s[i].toNat : Int) := by omega
   have c2z : (s[i].toNat : Int) < 194 := by omega
   have n1 : ((s[i].toNat : Int) == 224) = false := by simp; omega
   have n2 : ((s[i].toNat : Int) == 237) = false := by simp; omega
   have n3 : ((s[i].toNat : Int) == 240) = false := by simp; omega
   have n4 : ((s[i].toNat : Int) == 244) = false := by simp; omega
   clear HD;go_enter Tryz.func166, Tryz.ntmps166;go_wp2
   go_ret2
   exact ⟨_, by rw [HN.out]; rfl, Below.refl _ _⟩
 by_cases c3 : s[i].toNat < 224
 . have c1z : 194 <= (s[i].toNat : Int) := by omega
   have c2z : (s[i].toNat : Int) <= 223 := by omega
   have n224 : ((s[i].toNat : Int) == 224) = false := by simp; omega
   have n237 : ((s[i].toNat : Int) == 237) = false := by simp; omega
   have n240 : ((s[i].toNat : Int) == 240) = false := by simp; omega
   have n244 : ((s[i].toNat : Int) == 244) = false := by simp; omega
   cases q1 : contB s (i + 1) 128 191
   . have HN := hid (show D = 0 by rw [HD.out, if_neg (by rw [q1]; simp), if_neg (by omega), if_neg (by omega)])
     have Q1 := hid q1;clear HD q1;go_enter Tryz.func166, Tryz.ntmps166;go_wp2_with fail
     refine (rcont_any s _ _ _ _ (by omega) (by omega)).mono ?_;rintro e w1 ⟨rfl, rfl⟩;rw [show ((i : Int) + 1).toNat = i + 1 by omega, Q1.out];go_wp2
     go_ret2
     exact ⟨_, by rw [HN.out]; rfl, Below.refl _ _⟩
   . have HN := hid (show D = 2 by rw [HD.out, if_pos ⟨by omega, by omega, q1⟩])
     have hlt : i + 1 < s.size := by
      apply Decidable.byContradiction; intro h;rw [contB, dif_neg h] at q1; cases q1
     have Q1 := hid q1;clear HD q1;go_enter Tryz.func166, Tryz.ntmps166;go_wp2_with fail
     refine (rcont_any s _ _ _ _ (by omega) (by omega)).mono ?_;rintro e w1 ⟨rfl, rfl⟩;rw [show ((i : Int) + 1).toNat = i + 1 by omega, Q1.out];go_wp2
     go_ret2
     exact ⟨_, by rw [HN.out]; rfl, Below.refl _ _⟩
 have HD := hid (HD.out.trans (if_neg (by omega)))
 by_cases c4 : s[i].toNat < 240
 . have c1z : 224 <= (s[i].toNat : Int) := by omega
   have c2z : (s[i].toNat : Int) <= 239 := by omega
   by_cases v224 : s[i].toNat = 224
   . have L : (if s[i].toNat = 224 then 160 else 128 : Int) = 160 := by rw [if_pos (by omega)]
     have H : (if s[i].toNat = 237 then 159 else 191 : Int) = 191 := by rw [if_neg (by omega)]
     have HD2 := HD.out;rw [L, H] at HD2;clear HD L H;have n224 : ((s[i].toNat : Int) == 224) = true := by simp; omega
     have n237 : ((s[i].toNat : Int) == 237) = false := by simp; omega
     have n240 : ((s[i].toNat : Int) == 240) = false := by simp; omega
     have n244 : ((s[i].toNat : Int) == 244) = false := by simp; omega
     cases q1 : contB s (i + 1) 160 191
     . have HN := hid (show D = 0 by rw [HD2, if_neg (by rw [q1]; simp), if_neg (by omega)])
       have Q1 := hid q1;clear HD2 q1;go_enter Tryz.func166, Tryz.ntmps166;go_wp2_with fail
       refine (rcont_any s _ _ _ _ (by omega) (by omega)).mono ?_;rintro e w1 ⟨rfl, rfl⟩;rw [show ((i : Int) + 1).toNat = i + 1 by omega, Q1.out];go_wp2
       go_ret2
       exact ⟨_, by rw [HN.out]; rfl, Below.refl _ _⟩
     . have hlt1 : i + 1 < s.size := by
        apply Decidable.byContradiction; intro h;rw [contB, dif_neg h] at q1; cases q1
       cases q2 : contB s (i + 2) 128 191
       . have HN := hid (show D = 0 by rw [HD2, if_neg (by rw [q2]; simp), if_neg (by omega)])
         have Q1 := hid q1;have Q2 := hid q2;clear HD2 q1 q2;go_enter Tryz.func166, Tryz.ntmps166;go_wp2_with fail
         refine (rcont_any s _ _ _ _ (by omega) (by omega)).mono ?_;rintro e w1 ⟨rfl, rfl⟩;rw [show ((i : Int) + 1).toNat = i + 1 by omega, Q1.out];go_wp2_with fail
         refine (rcont_any s _ _ _ _ (by omega) (by omega)).mono ?_;rintro e w1 ⟨rfl, rfl⟩;rw [show ((i : Int) + 2).toNat = i + 2 by omega, Q2.out];go_wp2
         go_ret2
         exact ⟨_, by rw [HN.out]; rfl, Below.refl _ _⟩
       . have hlt2 : i + 2 < s.size := by
          apply Decidable.byContradiction; intro h;rw [contB, dif_neg h] at q2; cases q2
         have HN := hid (show D = 3 by rw [HD2, if_pos ⟨by omega, by omega, q1, q2⟩]);have Q1 := hid q1;have Q2 := hid q2;clear HD2 q1 q2;go_enter Tryz.func166, Tryz.ntmps166;go_wp2_with fail
         refine (rcont_any s _ _ _ _ (by omega) (by omega)).mono ?_;rintro e w1 ⟨rfl, rfl⟩;rw [show ((i : Int) + 1).toNat = i + 1 by omega, Q1.out];go_wp2_with fail
         refine (rcont_any s _ _ _ _ (by omega) (by omega)).mono ?_;rintro e w1 ⟨rfl, rfl⟩;rw [show ((i : Int) + 2).toNat = i + 2 by omega, Q2.out];go_wp2
         have y1 : (0 : Int) <= (i : Int) + 1 := by omega
         have z1 : (i : Int) + 1 < (s.size : Int) := by omega
         have y2 : (0 : Int) <= (i : Int) + 2 := by omega
         have z2 : (i : Int) + 2 < (s.size : Int) := by omega
         have t1 : ((i : Int) + 1).toNat = i + 1 := by omega
         have x1 : IntKind.i64.wrap ((i : Int) + 1) = (i : Int) + 1 := IntWalk.i64_in _ (by omega);have t2 : ((i : Int) + 2).toNat = i + 2 := by omega
         have x2 : IntKind.i64.wrap ((i : Int) + 2) = (i : Int) + 2 := IntWalk.i64_in _ (by omega);go_quiet (fail)
         go_wp2
         go_ret2
         exact ⟨_, by rw [HN.out]; rfl, below_drewN (Below.refl _ _) _⟩
   by_cases v237 : s[i].toNat = 237
   . have L : (if s[i].toNat = 224 then 160 else 128 : Int) = 128 := by rw [if_neg (by omega)]
     have H : (if s[i].toNat = 237 then 159 else 191 : Int) = 159 := by rw [if_pos (by omega)]
     have HD2 := HD.out;rw [L, H] at HD2;clear HD L H;have n224 : ((s[i].toNat : Int) == 224) = false := by simp; omega
     have n237 : ((s[i].toNat : Int) == 237) = true := by simp; omega
     have n240 : ((s[i].toNat : Int) == 240) = false := by simp; omega
     have n244 : ((s[i].toNat : Int) == 244) = false := by simp; omega
     cases q1 : contB s (i + 1) 128 159
     . have HN := hid (show D = 0 by rw [HD2, if_neg (by rw [q1]; simp), if_neg (by omega)])
       have Q1 := hid q1;clear HD2 q1;go_enter Tryz.func166, Tryz.ntmps166;go_wp2_with fail
       refine (rcont_any s _ _ _ _ (by omega) (by omega)).mono ?_;rintro e w1 ⟨rfl, rfl⟩;rw [show ((i : Int) + 1).toNat = i + 1 by omega, Q1.out];go_wp2
       go_ret2
       exact ⟨_, by rw [HN.out]; rfl, Below.refl _ _⟩
     . have hlt1 : i + 1 < s.size := by
        apply Decidable.byContradiction; intro h;rw [contB, dif_neg h] at q1; cases q1
       cases q2 : contB s (i + 2) 128 191
       . have HN := hid (show D = 0 by rw [HD2, if_neg (by rw [q2]; simp), if_neg (by omega)])
         have Q1 := hid q1;have Q2 := hid q2;clear HD2 q1 q2;go_enter Tryz.func166, Tryz.ntmps166;go_wp2_with fail
         refine (rcont_any s _ _ _ _ (by omega) (by omega)).mono ?_;rintro e w1 ⟨rfl, rfl⟩;rw [show ((i : Int) + 1).toNat = i + 1 by omega, Q1.out];go_wp2_with fail
         refine (rcont_any s _ _ _ _ (by omega) (by omega)).mono ?_;rintro e w1 ⟨rfl, rfl⟩;rw [show ((i : Int) + 2).toNat = i + 2 by omega, Q2.out];go_wp2
         go_ret2
         exact ⟨_, by rw [HN.out]; rfl, Below.refl _ _⟩
       . have hlt2 : i + 2 < s.size := by
          apply Decidable.byContradiction; intro h;rw [contB, dif_neg h] at q2; cases q2
         have HN := hid (show D = 3 by rw [HD2, if_pos ⟨by omega, by omega, q1, q2⟩]);have Q1 := hid q1;have Q2 := hid q2;clear HD2 q1 q2;go_enter Tryz.func166, Tryz.ntmps166;go_wp2_with fail
         refine (rcont_any s _ _ _ _ (by omega) (by omega)).mono ?_;rintro e w1 ⟨rfl, rfl⟩;rw [show ((i : Int) + 1).toNat = i + 1 by omega, Q1.out];go_wp2_with fail
         refine (rcont_any s _ _ _ _ (by omega) (by omega)).mono ?_;rintro e w1 ⟨rfl, rfl⟩;rw [show ((i : Int) + 2).toNat = i + 2 by omega, Q2.out];go_wp2
         have y1 : (0 : Int) <= (i : Int) + 1 := by omega
         have z1 : (i : Int) + 1 < (s.size : Int) := by omega
         have y2 : (0 : Int) <= (i : Int) + 2 := by omega
         have z2 : (i : Int) + 2 < (s.size : Int) := by omega
         have t1 : ((i : Int) + 1).toNat = i + 1 := by omega
         have x1 : IntKind.i64.wrap ((i : Int) + 1) = (i : Int) + 1 := IntWalk.i64_in _ (by omega);have t2 : ((i : Int) + 2).toNat = i + 2 := by omega
         have x2 : IntKind.i64.wrap ((i : Int) + 2) = (i : Int) + 2 := IntWalk.i64_in _ (by omega);go_quiet (fail)
         go_wp2
         go_ret2
         exact ⟨_, by rw [HN.out]; rfl, below_drewN (Below.refl _ _) _⟩
   have L : (if s[i].toNat = 224 then 160 else 128 : Int) = 128 := by rw [if_neg (by omega)]
   have H : (if s[i].toNat = 237 then 159 else 191 : Int) = 191 := by rw [if_neg (by omega)]
   have HD2 := HD.out;rw [L, H] at HD2;clear HD L H;have n224 : ((s[i].toNat : Int) == 224) = false := by simp; omega
   have n237 : ((s[i].toNat : Int) == 237) = false := by simp; omega
   have n240 : ((s[i].toNat : Int) == 240) = false := by simp; omega
   have n244 : ((s[i].toNat : Int) == 244) = false := by simp; omega
   cases q1 : contB s (i + 1) 128 191
   . have HN := hid (show D = 0 by rw [HD2, if_neg (by rw [q1]; simp), if_neg (by omega)])
     have Q1 := hid q1;clear HD2 q1;go_enter Tryz.func166, Tryz.ntmps166;go_wp2_with fail
     refine (rcont_any s _ _ _ _ (by omega) (by omega)).mono ?_;rintro e w1 ⟨rfl, rfl⟩;rw [show ((i : Int) + 1).toNat = i + 1 by omega, Q1.out];go_wp2
     go_ret2
     exact ⟨_, by rw [HN.out]; rfl, Below.refl _ _⟩
   . have hlt1 : i + 1 < s.size := by
      apply Decidable.byContradiction; intro h;rw [contB, dif_neg h] at q1; cases q1
     cases q2 : contB s (i + 2) 128 191
     . have HN := hid (show D = 0 by rw [HD2, if_neg (by rw [q2]; simp), if_neg (by omega)])
       have Q1 := hid q1;have Q2 := hid q2;clear HD2 q1 q2;go_enter Tryz.func166, Tryz.ntmps166;go_wp2_with fail
       refine (rcont_any s _ _ _ _ (by omega) (by omega)).mono ?_;rintro e w1 ⟨rfl, rfl⟩;rw [show ((i : Int) + 1).toNat = i + 1 by omega, Q1.out];go_wp2_with fail
       refine (rcont_any s _ _ _ _ (by omega) (by omega)).mono ?_;rintro e w1 ⟨rfl, rfl⟩;rw [show ((i : Int) + 2).toNat = i + 2 by omega, Q2.out];go_wp2
       go_ret2
       exact ⟨_, by rw [HN.out]; rfl, Below.refl _ _⟩
     . have hlt2 : i + 2 < s.size := by
        apply Decidable.byContradiction; intro h;rw [contB, dif_neg h] at q2; cases q2
       have HN := hid (show D = 3 by rw [HD2, if_pos ⟨by omega, by omega, q1, q2⟩]);have Q1 := hid q1;have Q2 := hid q2;clear HD2 q1 q2;go_enter Tryz.func166, Tryz.ntmps166;go_wp2_with fail
       refine (rcont_any s _ _ _ _ (by omega) (by omega)).mono ?_;rintro e w1 ⟨rfl, rfl⟩;rw [show ((i : Int) + 1).toNat = i + 1 by omega, Q1.out];go_wp2_with fail
       refine (rcont_any s _ _ _ _ (by omega) (by omega)).mono ?_;rintro e w1 ⟨rfl, rfl⟩;rw [show ((i : Int) + 2).toNat = i + 2 by omega, Q2.out];go_wp2
       have y1 : (0 : Int) <= (i : Int) + 1 := by omega
       have z1 : (i : Int) + 1 < (s.size : Int) := by omega
       have y2 : (0 : Int) <= (i : Int) + 2 := by omega
       have z2 : (i : Int) + 2 < (s.size : Int) := by omega
       have t1 : ((i : Int) + 1).toNat = i + 1 := by omega
       have x1 : IntKind.i64.wrap ((i : Int) + 1) = (i : Int) + 1 := IntWalk.i64_in _ (by omega);have t2 : ((i : Int) + 2).toNat = i + 2 := by omega
       have x2 : IntKind.i64.wrap ((i : Int) + 2) = (i : Int) + 2 := IntWalk.i64_in _ (by omega);go_quiet (fail)
       go_wp2
       go_ret2
       exact ⟨_, by rw [HN.out]; rfl, below_drewN (Below.refl _ _) _⟩
 have HD := hid (HD.out.trans (if_neg (by omega)))
 by_cases c5 : 244 < s[i].toNat
 . have HN := hid (show D = 0 by rw [HD.out, if_neg (by omega)])
   have c1z : 244 < (s[i].toNat : Int) := by omega
   have n224 : ((s[i].toNat : Int) == 224) = false := by simp; omega
   have n237 : ((s[i].toNat : Int) == 237) = false := by simp; omega
   have n240 : ((s[i].toNat : Int) == 240) = false := by simp; omega
   have n244 : ((s[i].toNat : Int) == 244) = false := by simp; omega
   clear HD;go_enter Tryz.func166, Tryz.ntmps166;go_wp2
   go_ret2
   exact ⟨_, by rw [HN.out]; rfl, Below.refl _ _⟩
 have c1z : 240 <= (s[i].toNat : Int) := by omega
 have c2z : (s[i].toNat : Int) <= 244 := by omega
 by_cases v240 : s[i].toNat = 240
 . have L : (if s[i].toNat = 240 then 144 else 128 : Int) = 144 := by rw [if_pos (by omega)]
   have H : (if s[i].toNat = 244 then 143 else 191 : Int) = 191 := by rw [if_neg (by omega)]
   have HD2 := HD.out;rw [L, H] at HD2;clear HD L H;have n224 : ((s[i].toNat : Int) == 224) = false := by simp; omega
   have n237 : ((s[i].toNat : Int) == 237) = false := by simp; omega
   have n240 : ((s[i].toNat : Int) == 240) = true := by simp; omega
   have n244 : ((s[i].toNat : Int) == 244) = false := by simp; omega
   cases q1 : contB s (i + 1) 144 191
   . have HN := hid (show D = 0 by rw [HD2, if_neg (by rw [q1]; simp)])
     have Q1 := hid q1;clear HD2 q1;go_enter Tryz.func166, Tryz.ntmps166;go_wp2_with fail
     refine (rcont_any s _ _ _ _ (by omega) (by omega)).mono ?_;rintro e w1 ⟨rfl, rfl⟩;rw [show ((i : Int) + 1).toNat = i + 1 by omega, Q1.out];go_wp2
     go_ret2
     exact ⟨_, by rw [HN.out]; rfl, Below.refl _ _⟩
   . have hlt1 : i + 1 < s.size := by
      apply Decidable.byContradiction; intro h;rw [contB, dif_neg h] at q1; cases q1
     cases q2 : contB s (i + 2) 128 191
     . have HN := hid (show D = 0 by rw [HD2, if_neg (by rw [q2]; simp)])
       have Q1 := hid q1;have Q2 := hid q2;clear HD2 q1 q2;go_enter Tryz.func166, Tryz.ntmps166;go_wp2_with fail
       refine (rcont_any s _ _ _ _ (by omega) (by omega)).mono ?_;rintro e w1 ⟨rfl, rfl⟩;rw [show ((i : Int) + 1).toNat = i + 1 by omega, Q1.out];go_wp2_with fail
       refine (rcont_any s _ _ _ _ (by omega) (by omega)).mono ?_;rintro e w1 ⟨rfl, rfl⟩;rw [show ((i : Int) + 2).toNat = i + 2 by omega, Q2.out];go_wp2
       go_ret2
       exact ⟨_, by rw [HN.out]; rfl, Below.refl _ _⟩
     . have hlt2 : i + 2 < s.size := by
        apply Decidable.byContradiction; intro h;rw [contB, dif_neg h] at q2; cases q2
       cases q3 : contB s (i + 3) 128 191
       . have HN := hid (show D = 0 by rw [HD2, if_neg (by rw [q3]; simp)])
         have Q1 := hid q1;have Q2 := hid q2;have Q3 := hid q3;clear HD2 q1 q2 q3;go_enter Tryz.func166, Tryz.ntmps166;go_wp2_with fail
         refine (rcont_any s _ _ _ _ (by omega) (by omega)).mono ?_;rintro e w1 ⟨rfl, rfl⟩;rw [show ((i : Int) + 1).toNat = i + 1 by omega, Q1.out];go_wp2_with fail
         refine (rcont_any s _ _ _ _ (by omega) (by omega)).mono ?_;rintro e w1 ⟨rfl, rfl⟩;rw [show ((i : Int) + 2).toNat = i + 2 by omega, Q2.out];go_wp2_with fail
         refine (rcont_any s _ _ _ _ (by omega) (by omega)).mono ?_;rintro e w1 ⟨rfl, rfl⟩;rw [show ((i : Int) + 3).toNat = i + 3 by omega, Q3.out];go_wp2
         go_ret2
         exact ⟨_, by rw [HN.out]; rfl, Below.refl _ _⟩
       . have hlt3 : i + 3 < s.size := by
          apply Decidable.byContradiction; intro h;rw [contB, dif_neg h] at q3; cases q3
         have HN := hid (show D = 4 by rw [HD2, if_pos ⟨by omega, by omega, q1, q2, q3⟩]);have Q1 := hid q1;have Q2 := hid q2;have Q3 := hid q3;clear HD2 q1 q2 q3;go_enter Tryz.func166, Tryz.ntmps166;go_wp2_with fail
         refine (rcont_any s _ _ _ _ (by omega) (by omega)).mono ?_;rintro e w1 ⟨rfl, rfl⟩;rw [show ((i : Int) + 1).toNat = i + 1 by omega, Q1.out];go_wp2_with fail
         refine (rcont_any s _ _ _ _ (by omega) (by omega)).mono ?_;rintro e w1 ⟨rfl, rfl⟩;rw [show ((i : Int) + 2).toNat = i + 2 by omega, Q2.out];go_wp2_with fail
         refine (rcont_any s _ _ _ _ (by omega) (by omega)).mono ?_;rintro e w1 ⟨rfl, rfl⟩;rw [show ((i : Int) + 3).toNat = i + 3 by omega, Q3.out];go_wp2
         have y1 : (0 : Int) <= (i : Int) + 1 := by omega
         have z1 : (i : Int) + 1 < (s.size : Int) := by omega
         have y2 : (0 : Int) <= (i : Int) + 2 := by omega
         have z2 : (i : Int) + 2 < (s.size : Int) := by omega
         have y3 : (0 : Int) <= (i : Int) + 3 := by omega
         have z3 : (i : Int) + 3 < (s.size : Int) := by omega
         have t1 : ((i : Int) + 1).toNat = i + 1 := by omega
         have x1 : IntKind.i64.wrap ((i : Int) + 1) = (i : Int) + 1 := IntWalk.i64_in _ (by omega);have t2 : ((i : Int) + 2).toNat = i + 2 := by omega
         have x2 : IntKind.i64.wrap ((i : Int) + 2) = (i : Int) + 2 := IntWalk.i64_in _ (by omega);have t3 : ((i : Int) + 3).toNat = i + 3 := by omega
         have x3 : IntKind.i64.wrap ((i : Int) + 3) = (i : Int) + 3 := IntWalk.i64_in _ (by omega);go_quiet (fail)
         go_wp2
         go_ret2
         exact ⟨_, by rw [HN.out]; rfl, below_drewN (Below.refl _ _) _⟩
 by_cases v244 : s[i].toNat = 244
 . have L : (if s[i].toNat = 240 then 144 else 128 : Int) = 128 := by rw [if_neg (by omega)]
   have H : (if s[i].toNat = 244 then 143 else 191 : Int) = 143 := by rw [if_pos (by omega)]
   have HD2 := HD.out;rw [L, H] at HD2;clear HD L H;have n224 : ((s[i].toNat : Int) == 224) = false := by simp; omega
   have n237 : ((s[i].toNat : Int) == 237) = false := by simp; omega
   have n240 : ((s[i].toNat : Int) == 240) = false := by simp; omega
   have n244 : ((s[i].toNat : Int) == 244) = true := by simp; omega
   cases q1 : contB s (i + 1) 128 143
   . have HN := hid (show D = 0 by rw [HD2, if_neg (by rw [q1]; simp)])
     have Q1 := hid q1;clear HD2 q1;go_enter Tryz.func166, Tryz.ntmps166;go_wp2_with fail
     refine (rcont_any s _ _ _ _ (by omega) (by omega)).mono ?_;rintro e w1 ⟨rfl, rfl⟩;rw [show ((i : Int) + 1).toNat = i + 1 by omega, Q1.out];go_wp2
     go_ret2
     exact ⟨_, by rw [HN.out]; rfl, Below.refl _ _⟩
   . have hlt1 : i + 1 < s.size := by
      apply Decidable.byContradiction; intro h;rw [contB, dif_neg h] at q1; cases q1
     cases q2 : contB s (i + 2) 128 191
     . have HN := hid (show D = 0 by rw [HD2, if_neg (by rw [q2]; simp)])
       have Q1 := hid q1;have Q2 := hid q2;clear HD2 q1 q2;go_enter Tryz.func166, Tryz.ntmps166;go_wp2_with fail
       refine (rcont_any s _ _ _ _ (by omega) (by omega)).mono ?_;rintro e w1 ⟨rfl, rfl⟩;rw [show ((i : Int) + 1).toNat = i + 1 by omega, Q1.out];go_wp2_with fail
       refine (rcont_any s _ _ _ _ (by omega) (by omega)).mono ?_;rintro e w1 ⟨rfl, rfl⟩;rw [show ((i : Int) + 2).toNat = i + 2 by omega, Q2.out];go_wp2
       go_ret2
       exact ⟨_, by rw [HN.out]; rfl, Below.refl _ _⟩
     . have hlt2 : i + 2 < s.size := by
        apply Decidable.byContradiction; intro h;rw [contB, dif_neg h] at q2; cases q2
       cases q3 : contB s (i + 3) 128 191
       . have HN := hid (show D = 0 by rw [HD2, if_neg (by rw [q3]; simp)])
         have Q1 := hid q1;have Q2 := hid q2;have Q3 := hid q3;clear HD2 q1 q2 q3;go_enter Tryz.func166, Tryz.ntmps166;go_wp2_with fail
         refine (rcont_any s _ _ _ _ (by omega) (by omega)).mono ?_;rintro e w1 ⟨rfl, rfl⟩;rw [show ((i : Int) + 1).toNat = i + 1 by omega, Q1.out];go_wp2_with fail
         refine (rcont_any s _ _ _ _ (by omega) (by omega)).mono ?_;rintro e w1 ⟨rfl, rfl⟩;rw [show ((i : Int) + 2).toNat = i + 2 by omega, Q2.out];go_wp2_with fail
         refine (rcont_any s _ _ _ _ (by omega) (by omega)).mono ?_;rintro e w1 ⟨rfl, rfl⟩;rw [show ((i : Int) + 3).toNat = i + 3 by omega, Q3.out];go_wp2
         go_ret2
         exact ⟨_, by rw [HN.out]; rfl, Below.refl _ _⟩
       . have hlt3 : i + 3 < s.size := by
          apply Decidable.byContradiction; intro h;rw [contB, dif_neg h] at q3; cases q3
         have HN := hid (show D = 4 by rw [HD2, if_pos ⟨by omega, by omega, q1, q2, q3⟩]);have Q1 := hid q1;have Q2 := hid q2;have Q3 := hid q3;clear HD2 q1 q2 q3;go_enter Tryz.func166, Tryz.ntmps166;go_wp2_with fail
         refine (rcont_any s _ _ _ _ (by omega) (by omega)).mono ?_;rintro e w1 ⟨rfl, rfl⟩;rw [show ((i : Int) + 1).toNat = i + 1 by omega, Q1.out];go_wp2_with fail
         refine (rcont_any s _ _ _ _ (by omega) (by omega)).mono ?_;rintro e w1 ⟨rfl, rfl⟩;rw [show ((i : Int) + 2).toNat = i + 2 by omega, Q2.out];go_wp2_with fail
         refine (rcont_any s _ _ _ _ (by omega) (by omega)).mono ?_;rintro e w1 ⟨rfl, rfl⟩;rw [show ((i : Int) + 3).toNat = i + 3 by omega, Q3.out];go_wp2
         have y1 : (0 : Int) <= (i : Int) + 1 := by omega
         have z1 : (i : Int) + 1 < (s.size : Int) := by omega
         have y2 : (0 : Int) <= (i : Int) + 2 := by omega
         have z2 : (i : Int) + 2 < (s.size : Int) := by omega
         have y3 : (0 : Int) <= (i : Int) + 3 := by omega
         have z3 : (i : Int) + 3 < (s.size : Int) := by omega
         have t1 : ((i : Int) + 1).toNat = i + 1 := by omega
         have x1 : IntKind.i64.wrap ((i : Int) + 1) = (i : Int) + 1 := IntWalk.i64_in _ (by omega);have t2 : ((i : Int) + 2).toNat = i + 2 := by omega
         have x2 : IntKind.i64.wrap ((i : Int) + 2) = (i : Int) + 2 := IntWalk.i64_in _ (by omega);have t3 : ((i : Int) + 3).toNat = i + 3 := by omega
         have x3 : IntKind.i64.wrap ((i : Int) + 3) = (i : Int) + 3 := IntWalk.i64_in _ (by omega);go_quiet (fail)
         go_wp2
         go_ret2
         exact ⟨_, by rw [HN.out]; rfl, below_drewN (Below.refl _ _) _⟩
 have L : (if s[i].toNat = 240 then 144 else 128 : Int) = 128 := by rw [if_neg (by omega)]
 have H : (if s[i].toNat = 244 then 143 else 191 : Int) = 191 := by rw [if_neg (by omega)]
 have HD2 := HD.out;rw [L, H] at HD2;clear HD L H;have n224 : ((s[i].toNat : Int) == 224) = false := by simp; omega
 have n237 : ((s[i].toNat : Int) == 237) = false := by simp; omega
 have n240 : ((s[i].toNat : Int) == 240) = false := by simp; omega
 have n244 : ((s[i].toNat : Int) == 244) = false := by simp; omega
 cases q1 : contB s (i + 1) 128 191
 . have HN := hid (show D = 0 by rw [HD2, if_neg (by rw [q1]; simp)])
   have Q1 := hid q1;clear HD2 q1;go_enter Tryz.func166, Tryz.ntmps166;go_wp2_with fail
   refine (rcont_any s _ _ _ _ (by omega) (by omega)).mono ?_;rintro e w1 ⟨rfl, rfl⟩;rw [show ((i : Int) + 1).toNat = i + 1 by omega, Q1.out];go_wp2
   go_ret2
   exact ⟨_, by rw [HN.out]; rfl, Below.refl _ _⟩
 . have hlt1 : i + 1 < s.size := by
    apply Decidable.byContradiction; intro h;rw [contB, dif_neg h] at q1; cases q1
   cases q2 : contB s (i + 2) 128 191
   . have HN := hid (show D = 0 by rw [HD2, if_neg (by rw [q2]; simp)])
     have Q1 := hid q1;have Q2 := hid q2;clear HD2 q1 q2;go_enter Tryz.func166, Tryz.ntmps166;go_wp2_with fail
     refine (rcont_any s _ _ _ _ (by omega) (by omega)).mono ?_;rintro e w1 ⟨rfl, rfl⟩;rw [show ((i : Int) + 1).toNat = i + 1 by omega, Q1.out];go_wp2_with fail
     refine (rcont_any s _ _ _ _ (by omega) (by omega)).mono ?_;rintro e w1 ⟨rfl, rfl⟩;rw [show ((i : Int) + 2).toNat = i + 2 by omega, Q2.out];go_wp2
     go_ret2
     exact ⟨_, by rw [HN.out]; rfl, Below.refl _ _⟩
   . have hlt2 : i + 2 < s.size := by
      apply Decidable.byContradiction; intro h;rw [contB, dif_neg h] at q2; cases q2
     cases q3 : contB s (i + 3) 128 191
     . have HN := hid (show D = 0 by rw [HD2, if_neg (by rw [q3]; simp)])
       have Q1 := hid q1;have Q2 := hid q2;have Q3 := hid q3;clear HD2 q1 q2 q3;go_enter Tryz.func166, Tryz.ntmps166;go_wp2_with fail
       refine (rcont_any s _ _ _ _ (by omega) (by omega)).mono ?_;rintro e w1 ⟨rfl, rfl⟩;rw [show ((i : Int) + 1).toNat = i + 1 by omega, Q1.out];go_wp2_with fail
       refine (rcont_any s _ _ _ _ (by omega) (by omega)).mono ?_;rintro e w1 ⟨rfl, rfl⟩;rw [show ((i : Int) + 2).toNat = i + 2 by omega, Q2.out];go_wp2_with fail
       refine (rcont_any s _ _ _ _ (by omega) (by omega)).mono ?_;rintro e w1 ⟨rfl, rfl⟩;rw [show ((i : Int) + 3).toNat = i + 3 by omega, Q3.out];go_wp2
       go_ret2
       exact ⟨_, by rw [HN.out]; rfl, Below.refl _ _⟩
     . have hlt3 : i + 3 < s.size := by
        apply Decidable.byContradiction; intro h;rw [contB, dif_neg h] at q3; cases q3
       have HN := hid (show D = 4 by rw [HD2, if_pos ⟨by omega, by omega, q1, q2, q3⟩]);have Q1 := hid q1;have Q2 := hid q2;have Q3 := hid q3;clear HD2 q1 q2 q3;go_enter Tryz.func166, Tryz.ntmps166;go_wp2_with fail
       refine (rcont_any s _ _ _ _ (by omega) (by omega)).mono ?_;rintro e w1 ⟨rfl, rfl⟩;rw [show ((i : Int) + 1).toNat = i + 1 by omega, Q1.out];go_wp2_with fail
       refine (rcont_any s _ _ _ _ (by omega) (by omega)).mono ?_;rintro e w1 ⟨rfl, rfl⟩;rw [show ((i : Int) + 2).toNat = i + 2 by omega, Q2.out];go_wp2_with fail
       refine (rcont_any s _ _ _ _ (by omega) (by omega)).mono ?_;rintro e w1 ⟨rfl, rfl⟩;rw [show ((i : Int) + 3).toNat = i + 3 by omega, Q3.out];go_wp2
       have y1 : (0 : Int) <= (i : Int) + 1 := by omega
       have z1 : (i : Int) + 1 < (s.size : Int) := by omega
       have y2 : (0 : Int) <= (i : Int) + 2 := by omega
       have z2 : (i : Int) + 2 < (s.size : Int) := by omega
       have y3 : (0 : Int) <= (i : Int) + 3 := by omega
       have z3 : (i : Int) + 3 < (s.size : Int) := by omega
       have t1 : ((i : Int) + 1).toNat = i + 1 := by omega
       have x1 : IntKind.i64.wrap ((i : Int) + 1) = (i : Int) + 1 := IntWalk.i64_in _ (by omega);have t2 : ((i : Int) + 2).toNat = i + 2 := by omega
       have x2 : IntKind.i64.wrap ((i : Int) + 2) = (i : Int) + 2 := IntWalk.i64_in _ (by omega);have t3 : ((i : Int) + 3).toNat = i + 3 := by omega
       have x3 : IntKind.i64.wrap ((i : Int) + 3) = (i : Int) + 3 := IntWalk.i64_in _ (by omega);go_quiet (fail)
       go_wp2
       go_ret2
       exact ⟨_, by rw [HN.out]; rfl, below_drewN (Below.refl _ _) _⟩
open Go.Maps
theorem and63 (c : Nat) (h : c < 4294967296) : bits BinOp.and IntKind.i64 (c : Int) 63 = ((c % 64 : Nat) : Int) := by
 have h1 := (bits_nat .i64 32 (by decide) (fun n h0 h1 => IntWalk.i64_in n (by omega)) c 63 (by omega) (by decide)).1;rw [show ((63 : Nat) : Int) = 63 from rfl] at h1;rw [h1]
 congr 1
 exact Nat.and_two_pow_sub_one_eq_mod c 6
theorem or128 : ∀ x : Fin 64, bits BinOp.or IntKind.i64 128 (x.val : Int) = ((128 + x.val : Nat) : Int) := by decide +kernel
theorem or192 : ∀ x : Fin 32, bits BinOp.or IntKind.i64 192 (x.val : Int) = ((192 + x.val : Nat) : Int) := by decide +kernel
theorem or224 : ∀ x : Fin 16, bits BinOp.or IntKind.i64 224 (x.val : Int) = ((224 + x.val : Nat) : Int) := by decide +kernel
theorem or240 : ∀ x : Fin 8, bits BinOp.or IntKind.i64 240 (x.val : Int) = ((240 + x.val : Nat) : Int) := by decide +kernel
theorem conv_zs (W : World) (b : Nat) (zs : List Nat) (h : ∀ z ∈ zs, z < 256) (hc : ∀ j (hj : j < zs.length), W.cell? ⟨b, j, none⟩ = some (.int .u8 (zs[j] : Nat))) :
 (convert 172 9 (.slice (some ⟨b, 0, none⟩) zs.length zs.length)).run Tryz.prog W = .ok (.string ⟨(zs.map fun z => z.toUInt8).toArray⟩) W := by
 have := run_convert_bytes_back (P := Tryz.prog) W 172 9 5 ⟨b, 0, none⟩ zs.length (zs.map fun z => z.toUInt8) Tryz.underlying172 Tryz.underlying5 Tryz.underlying9 (fun j hj => by
  rw [List.length_map] at hj;rw [Addr.add_lit, Nat.zero_add, hc j hj, List.getElem_map];have hz := h _ (List.getElem_mem hj);generalize zs[j] = z at *
  congr 2
  show (z : Int) = ((UInt8.ofNat z).toNat : Int);rw [UInt8.toNat_ofNat'];omega)
 rw [List.length_map] at this;exact this
set_option maxHeartbeats 4000000 in
set_option maxRecDepth 100000 in
theorem renc_any (c : Nat) (hv : Lib.validRune (c : Int) = true) (w : World) : Calls Tryz.prog 193 #[.int .i64 c] w fun e w' => e = .returned (.string ⟨(Lib.encodeRune (c : Nat)).toArray⟩) /\ Below w.heap.size w w' := by
 have hle := vr_le hv;have hvv : (c < 55296 ∨ (57343 < c /\ c <= 1114111)) := by unfold Lib.validRune at hv; have := of_decide_eq_true hv; omega
 have HBA := hid (fun o => (Below.refl w.heap.size w).alloc (Nat.le_refl _) o);have a63 : bits BinOp.and IntKind.i64 (c : Int) 63 = (c : Int) % 64 := by have h := and63 c (by omega); push_cast at h; exact h
 have b63 : bits BinOp.and IntKind.i64 ((c : Int) / 64) 63 = (c : Int) / 64 % 64 := by have h := and63 (c / 64) (by omega); push_cast at h; exact h
 have c63 : bits BinOp.and IntKind.i64 ((c : Int) / 4096) 63 = (c : Int) / 4096 % 64 := by have h := and63 (c / 4096) (by omega); push_cast at h; exact h
 have a128 : bits BinOp.or IntKind.i64 128 ((c : Int) % 64) = 128 + (c : Int) % 64 := by have h := or128 ⟨c % 64, by omega⟩; push_cast at h; exact h
 have b128 : bits BinOp.or IntKind.i64 128 ((c : Int) / 64 % 64) = 128 + (c : Int) / 64 % 64 := by have h := or128 ⟨c / 64 % 64, by omega⟩; push_cast at h; exact h
 have c128 : bits BinOp.or IntKind.i64 128 ((c : Int) / 4096 % 64) = 128 + (c : Int) / 4096 % 64 := by have h := or128 ⟨c / 4096 % 64, by omega⟩; push_cast at h; exact h
 by_cases h1 : (c : Int) < 128
 . have HX := hid (show Lib.encodeRune (c : Nat) = ([c] : List Nat).map (fun z => z.toUInt8) by
    unfold Lib.encodeRune;rw [Lib.encodeRuneZ_one (by omega) (by omega)];rfl)
   have hcv := conv_zs (w.alloc (.cells #[.int .u8 ((c : Int))] 5)) w.heap.size ([c] : List Nat) (by intro z hz; simp only [List.mem_cons, List.not_mem_nil, or_false] at hz; omega) (fun j hj => by
    have h0 : j = 0 := by simp at hj; omega
    rcases h0 with rfl
    all_goals exact cell_at rfl (by first | rfl | (simp)))
   rw [<- HX.out] at hcv;simp only [List.length_cons, List.length_nil, Nat.zero_add, Nat.reduceAdd] at hcv;generalize Lib.encodeRune (c : Nat) = E at *;clear hv;go_enter Tryz.func193, Tryz.ntmps193;go_wp2
   go_ret
   exact ⟨rfl, HBA.out _⟩
 by_cases h2 : (c : Int) < 2048
 . have a192 : bits BinOp.or IntKind.i64 192 ((c : Int) / 64) = 192 + (c : Int) / 64 := by have h := or192 ⟨c / 64, by omega⟩; push_cast at h; exact h
   have HX := hid (show Lib.encodeRune (c : Nat) = ([192 + c / 64, 128 + c % 64] : List Nat).map (fun z => z.toUInt8) by
    unfold Lib.encodeRune;rw [Lib.encodeRuneZ_two (by omega) (by omega)];rfl)
   have hcv := conv_zs (w.alloc (.cells #[.int .u8 (192 + (c : Int) / 64), .int .u8 (128 + (c : Int) % 64)] 5)) w.heap.size ([192 + c / 64, 128 + c % 64] : List Nat) (by intro z hz; simp only [List.mem_cons, List.not_mem_nil, or_false] at hz; omega) (fun j hj => by
    have h0 : j = 0 ∨ j = 1 := by simp at hj; omega
    rcases h0 with rfl | rfl
    all_goals exact cell_at rfl (by first | rfl | (simp)))
   rw [<- HX.out] at hcv;simp only [List.length_cons, List.length_nil, Nat.zero_add, Nat.reduceAdd] at hcv;generalize Lib.encodeRune (c : Nat) = E at *;clear hv;go_enter Tryz.func193, Tryz.ntmps193;go_wp2
   go_ret
   exact ⟨rfl, HBA.out _⟩
 by_cases h3 : (c : Int) < 65536
 . have a224 : bits BinOp.or IntKind.i64 224 ((c : Int) / 4096) = 224 + (c : Int) / 4096 := by have h := or224 ⟨c / 4096, by omega⟩; push_cast at h; exact h
   have HX := hid (show Lib.encodeRune (c : Nat) = ([224 + c / 4096, 128 + c / 64 % 64, 128 + c % 64] : List Nat).map (fun z => z.toUInt8) by
    unfold Lib.encodeRune;rw [Lib.encodeRuneZ_three (by omega)];rfl)
   have hcv := conv_zs (w.alloc (.cells #[.int .u8 (224 + (c : Int) / 4096), .int .u8 (128 + (c : Int) / 64 % 64), .int .u8 (128 + (c : Int) % 64)] 5)) w.heap.size ([224 + c / 4096, 128 + c / 64 % 64, 128 + c % 64] : List Nat) (by intro z hz; simp only [List.mem_cons, List.not_mem_nil, or_false] at hz; omega) (fun j hj => by
    have h0 : j = 0 ∨ j = 1 ∨ j = 2 := by simp at hj; omega
    rcases h0 with rfl | rfl | rfl
    all_goals exact cell_at rfl (by first | rfl | (simp)))
   rw [<- HX.out] at hcv;simp only [List.length_cons, List.length_nil, Nat.zero_add, Nat.reduceAdd] at hcv;generalize Lib.encodeRune (c : Nat) = E at *;clear hv;go_enter Tryz.func193, Tryz.ntmps193;go_wp2
   go_ret
   exact ⟨rfl, HBA.out _⟩
 . have a240 : bits BinOp.or IntKind.i64 240 ((c : Int) / 262144) = 240 + (c : Int) / 262144 := by have h := or240 ⟨c / 262144, by omega⟩; have e : ((c / 262144 : Nat) : Int) = (c : Int) / 262144 := (by omega); simp only [Int.natCast_add, e] at h; exact h
   have HX := hid (show Lib.encodeRune (c : Nat) = ([240 + c / 262144, 128 + c / 4096 % 64, 128 + c / 64 % 64, 128 + c % 64] : List Nat).map (fun z => z.toUInt8) by
    unfold Lib.encodeRune;rw [Lib.encodeRuneZ_four (by omega) (by omega)];rfl)
   have hcv := conv_zs (w.alloc (.cells #[.int .u8 (240 + (c : Int) / 262144), .int .u8 (128 + (c : Int) / 4096 % 64), .int .u8 (128 + (c : Int) / 64 % 64), .int .u8 (128 + (c : Int) % 64)] 5)) w.heap.size ([240 + c / 262144, 128 + c / 4096 % 64, 128 + c / 64 % 64, 128 + c % 64] : List Nat) (by intro z hz; simp only [List.mem_cons, List.not_mem_nil, or_false] at hz; omega) (fun j hj => by
    have h0 : j = 0 ∨ j = 1 ∨ j = 2 ∨ j = 3 := by simp at hj; omega
    rcases h0 with rfl | rfl | rfl | rfl
    all_goals exact cell_at rfl (by first | rfl | (simp)))
   rw [<- HX.out] at hcv;simp only [List.length_cons, List.length_nil, Nat.zero_add, Nat.reduceAdd] at hcv;generalize Lib.encodeRune (c : Nat) = E at *;clear hv;go_enter Tryz.func193, Tryz.ntmps193;go_wp2
   go_ret
   exact ⟨rfl, HBA.out _⟩
def hxI (c : Nat) : Int := if isHx c = true then (hxv c : Nat) else -1
theorem ret_int {a b : Int} (h : a = b) : Ending.returned (.int .i64 b) = .returned (.int .i64 a) := by rw [h]
set_option maxHeartbeats 4000000 in
theorem rhex_any (c : UInt8) (w : World) : Calls Tryz.prog 208 #[.int .u8 c.toNat] w fun e w' => e = .returned (.int .i64 (hxI c.toNat)) /\ w = w' := by
 have hc := lt256 c;generalize c.toNat = n at *
 by_cases h1 : (48 : Int) <= n <;> by_cases h2 : (n : Int) <= 57 <;> by_cases h3 : (97 : Int) <= n <;> by_cases h4 : (n : Int) <= 102 <;> first
  | (exfalso; omega)
  | (have HR := hid (show hxI n = n - 48 by unfold hxI isHx hxv; rw [decide_eq_true (show 48 <= n /\ n <= 57 by omega), if_pos (by simp), if_pos (by omega)]; omega)
     go_enter Tryz.func208, Tryz.ntmps208;go_wp2
     go_ret
     exact ⟨ret_int HR.out, rfl⟩)
  | (have HR := hid (show hxI n = n - 97 + 10 by unfold hxI isHx hxv; rw [decide_eq_false (show ¬ (48 <= n /\ n <= 57) by omega), decide_eq_true (show 97 <= n /\ n <= 102 by omega), if_pos (by simp), if_neg (by omega)]; omega)
     go_enter Tryz.func208, Tryz.ntmps208;go_wp2
     go_ret
     exact ⟨ret_int HR.out, rfl⟩)
  | (have HR := hid (show hxI n = -1 by unfold hxI isHx; rw [decide_eq_false (show ¬ (48 <= n /\ n <= 57) by omega), decide_eq_false (show ¬ (97 <= n /\ n <= 102) by omega)]; rfl)
     go_enter Tryz.func208, Tryz.ntmps208;go_wp2
     go_ret
     exact ⟨ret_int HR.out, rfl⟩)
theorem ext_get (s : ByteArray) (i k : Nat) (h : i + k < s.size) : ((s.extract i s.size)[k]'(by rw [ext_size s i (by omega)]; omega)) = s[i + k] := by
 have h1 : k < (s.extract i s.size).size := by rw [ext_size s i (by omega)]; omega
 have h2 := getD_at (s.extract i s.size) h1;rw [extract_list] at h2;rw [<- h2, <- getD_at s h, List.getD_eq_getElem?_getD, List.getD_eq_getElem?_getD, List.getElem?_drop]
theorem hxI_yes {c : Nat} (h : isHx c = true) : hxI c = (hxv c : Nat) := by unfold hxI; rw [if_pos h]
theorem hxI_no {c : Nat} (h : isHx c = false) : hxI c = -1 := by unfold hxI; rw [h]; rfl
def PtR (i : Nat) (x : Int × Nat × Nat) : Ending := .returned (.tuple #[.int .i64 (x.2.1 : Nat), .int .i64 ((if x.1 = 0 then i + x.2.2 else 0 : Nat) : Nat), .int .i64 x.1])
set_option maxHeartbeats 8000000 in
set_option maxRecDepth 100000 in
theorem rpoint_any (s : ByteArray) (i : Nat) (w : World) (hi : i <= s.size) (hs : s.size <= 2000000) : Calls Tryz.prog 192 #[.string s, .int .i64 i] w fun e w' => e = PtR i (hxP (s.data.toList.drop i)) /\ w = w' := by
 have hsz := ext_size s i hi
 have HL := hid (fun k (hk : i + k <= s.size) (h6 : k <= 6) (h1 : ∀ j (hj : i + j < s.size), j < k -> isHx s[i + j].toNat = true) (h2 : ∀ h : i + k < s.size, k < 6 -> isHx s[i + k].toNat = false) => show hxL (s.data.toList.drop i) = (s.data.toList.drop i).take k /\ (hxL (s.data.toList.drop i)).length = k from by
  have h := hxL_at (s := s.extract i s.size) (k := k) (by omega) h6 (fun j hj hjk => by rw [ext_get s i j (by omega)]; exact h1 j (by omega) hjk) (fun hh hh6 => by rw [ext_get s i k (by omega)]; exact h2 (by omega) hh6);rw [extract_list] at h;refine ⟨h, ?_⟩;rw [h, List.length_take, List.length_drop, size_list]; omega)
 have hxE : ∀ k, s.size <= i + k -> (hxL (s.data.toList.drop i) = (s.data.toList.drop i).take k /\ (hxL (s.data.toList.drop i)).length = k) -> hxP (s.data.toList.drop i) = (40, 0, 0) := fun k hk h => by
  have := hxP_end (s := s.extract i s.size) (k := k) (by omega) (by rw [extract_list]; exact h)
  rwa [extract_list] at this
 have hxC : ∀ (k : Nat) (hk : i + k < s.size), (hxL (s.data.toList.drop i) = (s.data.toList.drop i).take k /\ (hxL (s.data.toList.drop i)).length = k) -> hxP (s.data.toList.drop i) = if s[i + k].toNat ≠ 125 ∨ k = 0 ∨ (1 < k /\ (s[i]'(by omega)).toNat = 48) ∨ Lib.validRune (hxF ((s.data.toList.drop i).take k) : Nat) = false then (2, 0, 0) else (0, hxF ((s.data.toList.drop i).take k), k + 1) := fun k hk h => by
  have := hxP_cut (s := s.extract i s.size) (k := k) (by omega) (by rw [extract_list]; exact h);rw [ext_get s i k (by omega), ext_get s i 0 (by omega)] at this;simpa only [extract_list, Nat.add_zero] using this
 have HXE := hid hxE;have HXC := hid hxC;clear hxE hxC hsz;go_enter Tryz.func192, Tryz.ntmps192;go_wp2
 go_loop [7, 8] (fun c n => ∃ k : Nat, i + k <= s.size /\ k <= 6 /\ n = .int .i64 k /\ c = .int .i64 (hxF ((s.data.toList.drop i).take k) : Nat) /\ Hid (∀ j (hj : i + j < s.size), j < k -> isHx s[i + j].toNat = true)) (fun _ n => s.size - i - (RowKit.intOf n).toNat)
 case atStart => exact ⟨0, by omega, by omega, rfl, rfl, hid (fun j hj h => absurd h (by omega))⟩
 case round =>
  obtain ⟨k, hk, h6, rfl, rfl, HA⟩ := hrel
  have HBd := hid (show hxF ((s.data.toList.drop i).take k) < 16 ^ 6 from by
   have h1 := hxF_le ((s.data.toList.drop i).take k) (fun c hc => by
    obtain ⟨j, hj, rfl⟩ := List.mem_iff_getElem.1 hc;rw [List.length_take, List.length_drop, size_list] at hj;rw [List.getElem_take, List.getElem_drop, get_list s (i + j) (by omega)];exact HA.out j _ (by omega))
   have h2 : ((s.data.toList.drop i).take k).length = k := by rw [List.length_take, List.length_drop, size_list]; omega
   rw [h2] at h1;exact Nat.lt_of_lt_of_le h1 (Nat.pow_le_pow_right (by decide) h6))
  have hbd := HBd.out;simp only [Nat.reducePow] at hbd;have HFin := hid (fun h2 => HL.out k hk h6 HA.out h2)
  by_cases hlt : i + k < s.size
  case neg =>
   have HR := hid (HXE.out k (by omega) (HFin.out (fun h => absurd h hlt)));have e0 : ¬ (i : Int) + (k : Int) < (s.size : Int) := by omega
   have e0' : (s.size : Int) <= (i : Int) + (k : Int) := by omega
   clear HXE HXC HFin HL HA hlt;go_wp2
   go_ret3
   exact ⟨by rw [HR.out]; rfl, rfl⟩
  have e0 : (i : Int) + (k : Int) < (s.size : Int) := by omega
  have e0' : ¬ (s.size : Int) <= (i : Int) + (k : Int) := by omega
  by_cases h6' : k = 6
  . have HFF := hid (HFin.out (fun _ h => by omega))
    have h6z : ¬ (k : Int) < 6 := by omega
    have hk0 : 1 < k := by omega
    have hxC := HXC.out;clear h6' HFin HL HXE HXC HA;have HC := hid (hxC k hlt HFF.out);clear hxC;generalize hxF ((s.data.toList.drop i).take k) = F at *;clear HFF;have c2 : ¬ k = 0 := by omega
    have e2 : ((k : Int) == 0) = false := by simp; omega
    by_cases c1 : s[i + k].toNat = 125
    case neg =>
     have e1 : ((s[i + k].toNat : Int) != 125) = true := by simp; omega
     have HR := hid (show hxP (s.data.toList.drop i) = (2, 0, 0) from by rw [HC.out, if_pos (Or.inl c1)]);clear c1 c2 HC;go_wp2
     go_ret3
     exact ⟨by rw [HR.out]; rfl, rfl⟩
    have e1 : ((s[i + k].toNat : Int) != 125) = false := by simp; omega
    by_cases c3 : 1 < k
    . have e3 : (1 : Int) < k := by omega
      have hs0 : i < s.size := by omega
      by_cases c4 : s[i].toNat = 48
      . have e4 : ((s[i].toNat : Int) == 48) = true := by simp; omega
        have HR := hid (show hxP (s.data.toList.drop i) = (2, 0, 0) from by rw [HC.out, if_pos (Or.inr (Or.inr (Or.inl ⟨c3, c4⟩)))]);clear c1 c2 c3 c4 HC;go_wp2
        go_ret3
        exact ⟨by rw [HR.out]; rfl, rfl⟩
      have e4 : ((s[i].toNat : Int) == 48) = false := by simp; omega
      by_cases c5 : 1114111 < F
      . have e5 : (1114111 : Int) < (F : Int) := by omega
        have c6 : Lib.validRune (F : Int) = false := by unfold Lib.validRune; exact decide_eq_false (by omega)
        have HR := hid (show hxP (s.data.toList.drop i) = (2, 0, 0) from by rw [HC.out, if_pos (Or.inr (Or.inr (Or.inr c6)))]);clear c5 c6 c1 c2 c3 c4 HC;go_wp2
        go_ret3
        exact ⟨by rw [HR.out]; rfl, rfl⟩
      have e5 : ¬ (1114111 : Int) < (F : Int) := by omega
      by_cases c7 : 55296 <= F
      . have e7 : (55296 : Int) <= (F : Int) := by omega
        by_cases c8 : F <= 57343
        . have e8 : (F : Int) <= 57343 := by omega
          have c6 : Lib.validRune (F : Int) = false := by unfold Lib.validRune; exact decide_eq_false (by omega)
          have HR := hid (show hxP (s.data.toList.drop i) = (2, 0, 0) from by rw [HC.out, if_pos (Or.inr (Or.inr (Or.inr c6)))]);clear c5 c6 c7 c8 c1 c2 c3 c4 HC;go_wp2
          go_ret3
          exact ⟨by rw [HR.out]; rfl, rfl⟩
        . have e8 : ¬ (F : Int) <= 57343 := by omega
          have c6 : Lib.validRune (F : Int) = true := by unfold Lib.validRune; exact decide_eq_true (by omega)
          have HR := hid (show hxP (s.data.toList.drop i) = (0, F, k + 1) from by rw [HC.out, if_neg (by rintro (h | h | h | h); exact h c1; exact c2 h; exact c4 h.2; rw [c6] at h; cases h)]);clear c5 c7 c8 c6 c1 c2 c3 c4 HC;go_wp2
          go_ret3
          exact ⟨by rw [HR.out]; rfl, rfl⟩
      . have e7 : (F : Int) < 55296 := by omega
        have b5 : decide ((1114111 : Int) < (F : Int)) = false := decide_eq_false e5;have b7 : decide ((55296 : Int) <= (F : Int)) = false := decide_eq_false (by omega);have c6 : Lib.validRune (F : Int) = true := by unfold Lib.validRune; exact decide_eq_true (by omega)
        have HR := hid (show hxP (s.data.toList.drop i) = (0, F, k + 1) from by rw [HC.out, if_neg (by rintro (h | h | h | h); exact h c1; exact c2 h; exact c4 h.2; rw [c6] at h; cases h)]);clear c5 c7 e5 e7 hbd HBd c6 c1 c2 c3 c4 HC;go_wp2
        go_ret3
        exact ⟨by rw [HR.out]; rfl, rfl⟩
    . exact absurd c3 (by omega)
  have h6z : (k : Int) < 6 := by omega
  have hc := lt256 s[i + k];have hIB := fun W => rhex_any s[i + k] W;cases hx : isHx s[i + k].toNat
  . have HFF := hid (HFin.out (fun _ _ => hx))
    rw [hxI_no hx] at hIB;have HIB := hid hIB;have hxC := HXC.out;clear hIB hx HFin HL HXE HXC HA h6';have HC := hid (hxC k hlt HFF.out);clear hxC;generalize hxF ((s.data.toList.drop i).take k) = F at *;clear HFF
    by_cases c2 : k = 0
    case pos =>
     have e2 : ((k : Int) == 0) = true := by simp; omega
     have HR := hid (show hxP (s.data.toList.drop i) = (2, 0, 0) from by rw [HC.out, if_pos (Or.inr (Or.inl c2))]);clear c2 HC;go_wp2_with (go_at_call 208; refine (HIB.out _).mono ?_; rintro e w1 ⟨rfl, rfl⟩)
     go_ret3
     exact ⟨by rw [HR.out]; rfl, rfl⟩
    have e2 : ((k : Int) == 0) = false := by simp; omega
    by_cases c1 : s[i + k].toNat = 125
    case neg =>
     have e1 : ((s[i + k].toNat : Int) != 125) = true := by simp; omega
     have HR := hid (show hxP (s.data.toList.drop i) = (2, 0, 0) from by rw [HC.out, if_pos (Or.inl c1)]);clear c1 c2 HC;go_wp2_with (go_at_call 208; refine (HIB.out _).mono ?_; rintro e w1 ⟨rfl, rfl⟩)
     go_ret3
     exact ⟨by rw [HR.out]; rfl, rfl⟩
    have e1 : ((s[i + k].toNat : Int) != 125) = false := by simp; omega
    by_cases c3 : 1 < k
    . have e3 : (1 : Int) < k := by omega
      have hs0 : i < s.size := by omega
      by_cases c4 : s[i].toNat = 48
      . have e4 : ((s[i].toNat : Int) == 48) = true := by simp; omega
        have HR := hid (show hxP (s.data.toList.drop i) = (2, 0, 0) from by rw [HC.out, if_pos (Or.inr (Or.inr (Or.inl ⟨c3, c4⟩)))]);clear c1 c2 c3 c4 HC;go_wp2_with (go_at_call 208; refine (HIB.out _).mono ?_; rintro e w1 ⟨rfl, rfl⟩)
        go_ret3
        exact ⟨by rw [HR.out]; rfl, rfl⟩
      have e4 : ((s[i].toNat : Int) == 48) = false := by simp; omega
      by_cases c5 : 1114111 < F
      . have e5 : (1114111 : Int) < (F : Int) := by omega
        have c6 : Lib.validRune (F : Int) = false := by unfold Lib.validRune; exact decide_eq_false (by omega)
        have HR := hid (show hxP (s.data.toList.drop i) = (2, 0, 0) from by rw [HC.out, if_pos (Or.inr (Or.inr (Or.inr c6)))]);clear c5 c6 c1 c2 c3 c4 HC;go_wp2_with (go_at_call 208; refine (HIB.out _).mono ?_; rintro e w1 ⟨rfl, rfl⟩)
        go_ret3
        exact ⟨by rw [HR.out]; rfl, rfl⟩
      have e5 : ¬ (1114111 : Int) < (F : Int) := by omega
      by_cases c7 : 55296 <= F
      . have e7 : (55296 : Int) <= (F : Int) := by omega
        by_cases c8 : F <= 57343
        . have e8 : (F : Int) <= 57343 := by omega
          have c6 : Lib.validRune (F : Int) = false := by unfold Lib.validRune; exact decide_eq_false (by omega)
          have HR := hid (show hxP (s.data.toList.drop i) = (2, 0, 0) from by rw [HC.out, if_pos (Or.inr (Or.inr (Or.inr c6)))]);clear c5 c6 c7 c8 c1 c2 c3 c4 HC;go_wp2_with (go_at_call 208; refine (HIB.out _).mono ?_; rintro e w1 ⟨rfl, rfl⟩)
          go_ret3
          exact ⟨by rw [HR.out]; rfl, rfl⟩
        . have e8 : ¬ (F : Int) <= 57343 := by omega
          have c6 : Lib.validRune (F : Int) = true := by unfold Lib.validRune; exact decide_eq_true (by omega)
          have HR := hid (show hxP (s.data.toList.drop i) = (0, F, k + 1) from by rw [HC.out, if_neg (by rintro (h | h | h | h); exact h c1; exact c2 h; exact c4 h.2; rw [c6] at h; cases h)]);clear c5 c7 c8 c6 c1 c2 c3 c4 HC;go_wp2_with (go_at_call 208; refine (HIB.out _).mono ?_; rintro e w1 ⟨rfl, rfl⟩)
          go_ret3
          exact ⟨by rw [HR.out]; rfl, rfl⟩
      . have e7 : (F : Int) < 55296 := by omega
        have b5 : decide ((1114111 : Int) < (F : Int)) = false := decide_eq_false e5;have b7 : decide ((55296 : Int) <= (F : Int)) = false := decide_eq_false (by omega);have c6 : Lib.validRune (F : Int) = true := by unfold Lib.validRune; exact decide_eq_true (by omega)
        have HR := hid (show hxP (s.data.toList.drop i) = (0, F, k + 1) from by rw [HC.out, if_neg (by rintro (h | h | h | h); exact h c1; exact c2 h; exact c4 h.2; rw [c6] at h; cases h)]);clear c5 c7 e5 e7 hbd HBd c6 c1 c2 c3 c4 HC;go_wp2_with (go_at_call 208; refine (HIB.out _).mono ?_; rintro e w1 ⟨rfl, rfl⟩)
        go_ret3
        exact ⟨by rw [HR.out]; rfl, rfl⟩
    . have e3 : ¬ (1 : Int) < k := by omega
      have hnn : (k : Int) <= 1 := by omega
      by_cases c5 : 1114111 < F
      . have e5 : (1114111 : Int) < (F : Int) := by omega
        have c6 : Lib.validRune (F : Int) = false := by unfold Lib.validRune; exact decide_eq_false (by omega)
        have HR := hid (show hxP (s.data.toList.drop i) = (2, 0, 0) from by rw [HC.out, if_pos (Or.inr (Or.inr (Or.inr c6)))]);clear c5 c6 c1 c2 c3 HC;go_wp2_with (go_at_call 208; refine (HIB.out _).mono ?_; rintro e w1 ⟨rfl, rfl⟩)
        go_ret3
        exact ⟨by rw [HR.out]; rfl, rfl⟩
      have e5 : ¬ (1114111 : Int) < (F : Int) := by omega
      by_cases c7 : 55296 <= F
      . have e7 : (55296 : Int) <= (F : Int) := by omega
        by_cases c8 : F <= 57343
        . have e8 : (F : Int) <= 57343 := by omega
          have c6 : Lib.validRune (F : Int) = false := by unfold Lib.validRune; exact decide_eq_false (by omega)
          have HR := hid (show hxP (s.data.toList.drop i) = (2, 0, 0) from by rw [HC.out, if_pos (Or.inr (Or.inr (Or.inr c6)))]);clear c5 c6 c7 c8 c1 c2 c3 HC;go_wp2_with (go_at_call 208; refine (HIB.out _).mono ?_; rintro e w1 ⟨rfl, rfl⟩)
          go_ret3
          exact ⟨by rw [HR.out]; rfl, rfl⟩
        . have e8 : ¬ (F : Int) <= 57343 := by omega
          have c6 : Lib.validRune (F : Int) = true := by unfold Lib.validRune; exact decide_eq_true (by omega)
          have HR := hid (show hxP (s.data.toList.drop i) = (0, F, k + 1) from by rw [HC.out, if_neg (by rintro (h | h | h | h); exact h c1; exact c2 h; exact c3 h.1; rw [c6] at h; cases h)]);clear c5 c7 c8 c6 c1 c2 c3 HC;go_wp2_with (go_at_call 208; refine (HIB.out _).mono ?_; rintro e w1 ⟨rfl, rfl⟩)
          go_ret3
          exact ⟨by rw [HR.out]; rfl, rfl⟩
      . have e7 : (F : Int) < 55296 := by omega
        have b5 : decide ((1114111 : Int) < (F : Int)) = false := decide_eq_false e5;have b7 : decide ((55296 : Int) <= (F : Int)) = false := decide_eq_false (by omega);have c6 : Lib.validRune (F : Int) = true := by unfold Lib.validRune; exact decide_eq_true (by omega)
        have HR := hid (show hxP (s.data.toList.drop i) = (0, F, k + 1) from by rw [HC.out, if_neg (by rintro (h | h | h | h); exact h c1; exact c2 h; exact c3 h.1; rw [c6] at h; cases h)]);clear c5 c7 e5 e7 hbd HBd c6 c1 c2 c3 HC;go_wp2_with (go_at_call 208; refine (HIB.out _).mono ?_; rintro e w1 ⟨rfl, rfl⟩)
        go_ret3
        exact ⟨by rw [HR.out]; rfl, rfl⟩
  . rw [hxI_yes hx] at hIB
    have HIB := hid hIB;have hv := hxv_le hx
    have HA2 := hid (show ∀ j (hj : i + j < s.size), j < k + 1 -> isHx s[i + j].toNat = true from fun j hj hjk => by
     by_cases e : j < k
     . exact HA.out j hj e
     . obtain rfl : j = k := by omega
       exact hx)
    have HSn := hid (show hxF ((s.data.toList.drop i).take (k + 1)) = 16 * hxF ((s.data.toList.drop i).take k) + hxv s[i + k].toNat from by
     rw [List.take_succ_eq_append_getElem (by rw [List.length_drop, size_list]; omega), hxF_snoc, List.getElem_drop, get_list s (i + k) hlt])
    clear hIB hx HFin HL HXE HXC HA h6';generalize hxF ((s.data.toList.drop i).take k) = F at *;generalize hxv s[i + k].toNat = V at *;go_wp2_with (go_at_call 208; refine (HIB.out _).mono ?_; rintro e w1 ⟨rfl, rfl⟩)
    go_round
    case rel => exact ⟨k + 1, by omega, by omega, by go_num, by rw [HSn.out]; go_num, HA2⟩
    case measure => (simp [RowKit.intOf] <;> omega)
def OneR (i : Nat) (y : Int × List UInt8 × Nat) : Ending := .returned (.tuple #[.string ⟨y.2.1.toArray⟩, .int .i64 ((if y.1 = 0 then i + y.2.2 else 0 : Nat) : Nat), .int .i64 y.1])
def escO (x : Int × Nat × Nat) : Int × List UInt8 × Nat := if x.1 ≠ 0 then (x.1, [], 0) else (0, Lib.encodeRune (x.2.1 : Nat), x.2.2 + 1)
theorem ext_one (s : ByteArray) (k : Nat) (h : k < s.size) : s.extract k (k + 1) = ⟨[s[k]].toArray⟩ := by
 apply ba_ext;rw [Lib.extract_data, Nat.add_sub_cancel_left, drop_cons s k h];rfl
theorem enc_byte (c : UInt8) (h : c.toNat < 128) : Lib.encodeRune (c.toNat : Nat) = [c] := by
 unfold Lib.encodeRune;rw [Lib.encodeRuneZ_one (by omega) (by omega)];simp
theorem enc_lit : Lib.encodeRune (10 : Nat) = [10] /\ Lib.encodeRune (13 : Nat) = [13] /\ Lib.encodeRune (9 : Nat) = [9] := by decide
set_option maxHeartbeats 8000000 in
set_option maxRecDepth 100000 in
theorem rescd_any (s : ByteArray) (i : Nat) (w : World) (hi : i < s.size) (hs : s.size <= 2000000) : Calls Tryz.prog 165 #[.string s, .int .i64 i] w fun e w' => e = OneR i (escO (escS (s.data.toList.drop (i + 1)))) /\ Below w.heap.size w w' := by
 have HB := hid (Below.refl w.heap.size w)
 by_cases h0 : i + 1 < s.size
 case neg =>
  have HR := hid (show escS (s.data.toList.drop (i + 1)) = (40, 0, 0) by rw [List.drop_eq_nil_of_le (by rw [size_list]; omega)]; rfl);have e0 : (s.size : Int) <= (i : Int) + 1 := by omega
  clear h0;go_enter Tryz.func165, Tryz.ntmps165;go_wp2
  go_ret3
  exact ⟨by rw [HR.out]; rfl, HB.out⟩
 have e0 : ¬ (s.size : Int) <= (i : Int) + 1 := by omega
 have e0' : (i : Int) + 1 < (s.size : Int) := by omega
 have hsz := ext_size s (i + 1) (by omega);have hE := escS_at (s.extract (i + 1) s.size) (by omega);rw [extract_list, ext_get s (i + 1) 0 (by omega)] at hE;simp only [Nat.add_zero] at hE;have HE := hid hE;have hc := lt256 s[i + 1];clear hE
 by_cases h110 : s[i + 1].toNat = 110
 . have e110 : ((s[i + 1].toNat : Int) == 110) = true := by simp; omega
   have HR := hid (show escO (escS (s.data.toList.drop (i + 1))) = (0, [10], 2) by rw [HE.out, if_pos h110]; unfold escO; rw [if_neg (by simp)]; rw [show Lib.encodeRune _ = _ from enc_lit.1]);clear HE h110  hsz;go_enter Tryz.func165, Tryz.ntmps165;go_wp2
   go_ret3
   exact ⟨by rw [HR.out]; rfl, HB.out⟩
 have e110 : ((s[i + 1].toNat : Int) == 110) = false := by simp; omega
 by_cases h114 : s[i + 1].toNat = 114
 . have e114 : ((s[i + 1].toNat : Int) == 114) = true := by simp; omega
   have HR := hid (show escO (escS (s.data.toList.drop (i + 1))) = (0, [13], 2) by rw [HE.out, if_neg h110, if_pos h114]; unfold escO; rw [if_neg (by simp)]; rw [show Lib.encodeRune _ = _ from enc_lit.2.1]);clear HE h114 h110 hsz;go_enter Tryz.func165, Tryz.ntmps165;go_wp2
   go_ret3
   exact ⟨by rw [HR.out]; rfl, HB.out⟩
 have e114 : ((s[i + 1].toNat : Int) == 114) = false := by simp; omega
 by_cases h116 : s[i + 1].toNat = 116
 . have e116 : ((s[i + 1].toNat : Int) == 116) = true := by simp; omega
   have HR := hid (show escO (escS (s.data.toList.drop (i + 1))) = (0, [9], 2) by rw [HE.out, if_neg h110, if_neg h114, if_pos h116]; unfold escO; rw [if_neg (by simp)]; rw [show Lib.encodeRune _ = _ from enc_lit.2.2]);clear HE h116 h110 h114 hsz;go_enter Tryz.func165, Tryz.ntmps165;go_wp2
   go_ret3
   exact ⟨by rw [HR.out]; rfl, HB.out⟩
 have e116 : ((s[i + 1].toNat : Int) == 116) = false := by simp; omega
 by_cases h34 : s[i + 1].toNat = 34
 . have e34 : ((s[i + 1].toNat : Int) == 34) = true := by simp; omega
   have HR := hid (show escO (escS (s.data.toList.drop (i + 1))) = (0, [s[i + 1]], 2) by rw [HE.out, if_neg h110, if_neg h114, if_neg h116, if_pos (Or.inl h34)]; unfold escO; rw [if_neg (by simp)]; rw [show Lib.encodeRune _ = _ from enc_byte s[i + 1] (by omega)]);have HX := hid (ext_one s (i + 1) h0);have hx : s.extract (i + 1) (i + 2) = ⟨[s[i + 1]].toArray⟩ := HX.out;clear HE h34 h110 h114 h116 hsz;go_enter Tryz.func165, Tryz.ntmps165;go_wp2
   go_ret3
   exact ⟨by rw [HR.out, show OneR i (0, [s[i + 1]], 2) = .returned (.tuple #[.string (s.extract (i + 1) (i + 2)), .int .i64 ((i : Int) + 2), .int .i64 0]) from by rw [hx]; rfl]; rfl, HB.out⟩
 have e34 : ((s[i + 1].toNat : Int) == 34) = false := by simp; omega
 by_cases h92 : s[i + 1].toNat = 92
 . have e92 : ((s[i + 1].toNat : Int) == 92) = true := by simp; omega
   have HR := hid (show escO (escS (s.data.toList.drop (i + 1))) = (0, [s[i + 1]], 2) by rw [HE.out, if_neg h110, if_neg h114, if_neg h116, if_pos (Or.inr h92)]; unfold escO; rw [if_neg (by simp)]; rw [show Lib.encodeRune _ = _ from enc_byte s[i + 1] (by omega)]);have HX := hid (ext_one s (i + 1) h0);have hx : s.extract (i + 1) (i + 2) = ⟨[s[i + 1]].toArray⟩ := HX.out;clear HE h92 h110 h114 h116 h34 hsz;go_enter Tryz.func165, Tryz.ntmps165;go_wp2
   go_ret3
   exact ⟨by rw [HR.out, show OneR i (0, [s[i + 1]], 2) = .returned (.tuple #[.string (s.extract (i + 1) (i + 2)), .int .i64 ((i : Int) + 2), .int .i64 0]) from by rw [hx]; rfl]; rfl, HB.out⟩
 have e92 : ((s[i + 1].toNat : Int) == 92) = false := by simp; omega
 have hno : ¬ (s[i + 1].toNat = 34 ∨ s[i + 1].toNat = 92) := by omega
 by_cases h117 : s[i + 1].toNat = 117
 . have e117 : ((s[i + 1].toNat : Int) == 117) = true := by simp; omega
   have HX := hid (HE.out.trans (by rw [if_neg h110, if_neg h114, if_neg h116, if_neg hno, if_pos h117]));clear HE h117 h110 h114 h116 h34 h92 hno
   by_cases h1 : s.size = i + 2
   . have HR := hid (show escS (s.data.toList.drop (i + 1)) = (40, 0, 0) from HX.out.trans (dif_pos (by omega)))
     have e1 : (s.size : Int) <= (i : Int) + 2 := by omega
     clear HX h1 hsz;go_enter Tryz.func165, Tryz.ntmps165;go_wp2
     go_ret3
     exact ⟨by rw [HR.out]; rfl, HB.out⟩
   . have e1 : ¬ (s.size : Int) <= (i : Int) + 2 := by omega
     have h2 : i + 2 < s.size := by omega
     have h2z : (i : Int) + 2 < (s.size : Int) := by omega
     have h3z : (i : Int) + 3 <= (s.size : Int) := by omega
     have hY := HX.out.trans (dif_neg (by omega));rw [ext_get s (i + 1) 1 (by omega), List.drop_drop] at hY;have HY := hid (show _ from hY);clear hY
     by_cases h123 : s[i + 2].toNat = 123
     . have e123 : ((s[i + 2].toNat : Int) != 123) = false := by simp; omega
       have HR := hid (HY.out.trans (if_neg (by simpa using h123)));have HP := hid (rpoint_any s (i + 3) w (by omega) hs);have hok := hxP_ok (l := s.data.toList.drop (i + 3));rw [show i + 1 + 2 = i + 3 from rfl] at HR;generalize hxP (s.data.toList.drop (i + 3)) = x at *;obtain ⟨x1, x2, x3⟩ := x;simp only at HR hok;unfold PtR at HP;simp only at HP
       by_cases hx : x1 = 0
       . subst hx
         obtain ⟨o1, o2, o3⟩ := hok rfl;have HO := hid (fun W => renc_any x2 o1 W);have hR2 : escO (escS (s.data.toList.drop (i + 1))) = (0, Lib.encodeRune (x2 : Nat), x3 + 3) := by rw [HR.out]; rfl
         have HR2 := hid hR2;clear HX HY HR h1 h123 hok hsz hR2 o1;simp only [if_true] at HP;go_enter Tryz.func165, Tryz.ntmps165
         go_wp2_with (first
          | (go_at_call 192; refine HP.out.mono ?_; rintro e w1 ⟨rfl, rfl⟩)
          | (go_at_call 193; refine (HO.out _).mono ?_; rintro e w2 ⟨rfl, hb⟩; have HB2 := hid hb; clear hb))
         go_ret3
         refine ⟨?_, HB2.out⟩;rw [HR2.out];unfold OneR;simp only [if_true];rw [show i + (x3 + 3) = i + 3 + x3 by omega];rfl
       . have e3 : (x1 != 0) = true := by simpa using hx
         have hR2 : escO (escS (s.data.toList.drop (i + 1))) = (x1, [], 0) := by rw [HR.out]; unfold escO; rw [if_pos hx]
         have HR2 := hid hR2;have HNx := hid hx;rw [if_neg hx] at HP;clear HX HY HR h1 h123 hok hsz hR2 hx;go_enter Tryz.func165, Tryz.ntmps165;go_wp2_with (go_at_call 192; refine HP.out.mono ?_; rintro e w1 ⟨rfl, rfl⟩)
         go_ret3
         exact ⟨by rw [HR2.out]; unfold OneR; rw [if_neg HNx.out]; rfl, HB.out⟩
     . have e123 : ((s[i + 2].toNat : Int) != 123) = true := by simp; omega
       have HR := hid (HY.out.trans (if_pos h123));clear HX HY h1 h123 hsz;go_enter Tryz.func165, Tryz.ntmps165;go_wp2
       go_ret3
       exact ⟨by rw [HR.out]; rfl, HB.out⟩
 . have e117 : ((s[i + 1].toNat : Int) == 117) = false := by simp; omega
   have HR := hid (show escS (s.data.toList.drop (i + 1)) = (2, 0, 0) from HE.out.trans (by rw [if_neg h110, if_neg h114, if_neg h116, if_neg hno, if_neg h117]));clear HE h117 h110 h114 h116 h34 h92 hno hsz;go_enter Tryz.func165, Tryz.ntmps165;go_wp2
   go_ret3
   exact ⟨by rw [HR.out]; rfl, HB.out⟩
theorem oneS_at (s : ByteArray) (i : Nat) (hi : i < s.size) : oneS (s.data.toList.drop i) = if s[i].toNat = 92 then escO (escS (s.data.toList.drop (i + 1)))
 else if decR (s.data.toList.drop i) = 0 ∨ s[i].toNat < 32 ∨ s[i].toNat = 127 then (2, [], 0) else (0, (s.data.toList.drop i).take (decR (s.data.toList.drop i)), decR (s.data.toList.drop i)) := by
 unfold oneS escO;rw [getD_drop0 s i hi, show (s.data.toList.drop i).tail = s.data.toList.drop (i + 1) by rw [List.tail_drop]]
theorem ext_mid (s : ByteArray) (i n : Nat) : s.extract i (i + n) = ⟨((s.data.toList.drop i).take n).toArray⟩ := by
 apply ba_ext;rw [Lib.extract_data, Nat.add_sub_cancel_left]
set_option maxHeartbeats 8000000 in
set_option maxRecDepth 100000 in
theorem rone_any (s : ByteArray) (i : Nat) (w : World) (hi : i < s.size) (hs : s.size <= 1200000) : Calls Tryz.prog 134 #[.string s, .int .i64 i] w fun e w' => e = OneR i (oneS (s.data.toList.drop i)) /\ Below w.heap.size w w' := by
 have HO := hid (oneS_at s i hi);have hc := lt256 s[i]
 by_cases h92 : s[i].toNat = 92
 . have e92 : ((s[i].toNat : Int) == 92) = true := by simp; omega
   have HR := hid (HO.out.trans (if_pos h92));have HE := hid (rescd_any s i w hi (by omega));generalize escO (escS (s.data.toList.drop (i + 1))) = y at *;obtain ⟨y1, y2, y3⟩ := y;clear HO h92;unfold OneR at HE;simp only at HE;generalize hN : ((if y1 = 0 then i + y3 else 0 : Nat)) = N at *;have HNn := hid hN;clear hN;go_enter Tryz.func134, Tryz.ntmps134;go_wp2_with (go_at_call 165; refine HE.out.mono ?_; rintro e w1 ⟨rfl, hb⟩; have HB := hid hb; clear hb)
   go_ret3
   exact ⟨by rw [HR.out, <- HNn.out]; rfl, HB.out⟩
 . have e92 : ((s[i].toNat : Int) == 92) = false := by simp; omega
   have HD := hid (rdecode_any s i w hi hs);unfold DecP at HD;have hX := HO.out.trans (if_neg h92);have hle := decR_le (s.data.toList.drop i);rw [List.length_drop, size_list] at hle;have hne : s.data.toList.drop i ≠ [] := by rw [drop_cons s i hi]; simp
   have hdl : decR (s.data.toList.drop i) <= s.size - i := by
    rcases hle.2 with h | h | h
    . omega
    . exact absurd h hne
    . exact h
   have HM := hid (ext_mid s i (decR (s.data.toList.drop i)))
   by_cases hbad : decR (s.data.toList.drop i) = 0 ∨ s[i].toNat < 32 ∨ s[i].toNat = 127
   . have HR := hid (hX.trans (if_pos hbad))
     clear HO hX hle hne HM;generalize decR (s.data.toList.drop i) = D at *
     by_cases c1 : D = 0
     . have f1 : ((D : Int) == 0) = true := by simp; omega
       clear hbad c1 h92;go_enter Tryz.func134, Tryz.ntmps134;go_wp2_with (go_at_call 166; refine HD.out.mono ?_; rintro e w1 ⟨rr, rfl, hb⟩; have HB := hid hb; clear hb)
       go_ret3
       exact ⟨by rw [HR.out]; rfl, HB.out⟩
     . have f1 : ((D : Int) == 0) = false := by simp; omega
       by_cases c3 : (s[i].toNat : Int) < 32
       . clear hbad c1 h92
         go_enter Tryz.func134, Tryz.ntmps134;go_wp2_with (go_at_call 166; refine HD.out.mono ?_; rintro e w1 ⟨rr, rfl, hb⟩; have HB := hid hb; clear hb)
         go_ret3
         exact ⟨by rw [HR.out]; rfl, HB.out⟩
       . have f4 : ((s[i].toNat : Int) == 127) = true := by simp; omega
         clear hbad c1 h92;go_enter Tryz.func134, Tryz.ntmps134;go_wp2_with (go_at_call 166; refine HD.out.mono ?_; rintro e w1 ⟨rr, rfl, hb⟩; have HB := hid hb; clear hb)
         go_ret3
         exact ⟨by rw [HR.out]; rfl, HB.out⟩
   . have HR := hid (hX.trans (if_neg hbad))
     have f1 : ((decR (s.data.toList.drop i) : Int) == 0) = false := by simp; omega
     have f3 : ¬ (s[i].toNat : Int) < 32 := by omega
     have f4 : ((s[i].toNat : Int) == 127) = false := by simp; omega
     have f5 : (i : Int) + (decR (s.data.toList.drop i) : Int) <= (s.size : Int) := by omega
     have f6 : i + decR (s.data.toList.drop i) <= s.size := by omega
     clear HO hX hle hne hbad h92;generalize (s.data.toList.drop i).take (decR (s.data.toList.drop i)) = T at *;generalize decR (s.data.toList.drop i) = D at *;have hm := HM.out;go_enter Tryz.func134, Tryz.ntmps134;go_wp2_with (go_at_call 166; refine HD.out.mono ?_; rintro e w1 ⟨rr, rfl, hb⟩; have HB := hid hb; clear hb)
     go_ret3
     refine ⟨?_, HB.out⟩;rw [HR.out, show OneR i (0, T, D) = .returned (.tuple #[.string (s.extract i (i + D)), .int .i64 ((i : Int) + (D : Int)), .int .i64 0]) from by rw [HM.out]; rfl];rfl
set_option maxHeartbeats 8000000 in
set_option maxRecDepth 100000 in
theorem runq_any (s : ByteArray) (w : World) (hs : s.size <= 1200000) : Calls Tryz.prog 99 #[.string s] w fun e w' => e = UqR (unqS s.data.toList) /\ Below w.heap.size w w' := by
 have HB := hid (Below.refl w.heap.size w)
 by_cases h0 : s.size = 0
 . have HR := hid (show unqS s.data.toList = (40, [], 0) by unfold unqS; rw [size_list, if_pos h0])
   have e0 : ((s.size : Int) == 0) = true := by rw [beq_iff_eq]; omega
   clear h0;go_enter Tryz.func99, Tryz.ntmps99;go_wp2
   go_ret3
   exact ⟨by rw [HR.out]; rfl, HB.out⟩
 have e0 : ((s.size : Int) == 0) = false := by rw [beq_eq_false_iff_ne]; omega
 have hpos : 0 < s.size := by omega
 by_cases hq : s[0].toNat = 34
 case neg =>
  have HR := hid (show unqS s.data.toList = (2, [], 0) by unfold unqS; rw [size_list, if_neg h0, getD_at s hpos, if_pos hq]);have e1 : ((s[0].toNat : Int) != 34) = true := by simp; omega
  clear h0 hq;go_enter Tryz.func99, Tryz.ntmps99;go_wp2
  go_ret3
  exact ⟨by rw [HR.out]; rfl, HB.out⟩
 have HU := hid (unqS_in hpos hq);have e1 : ((s[0].toNat : Int) != 34) = false := by simp; omega
 clear h0 hq;go_enter Tryz.func99, Tryz.ntmps99;go_wp2
 generalize hX : unqL (s.data.toList.drop 1) [] = X at *;have HX := hid hX;clear hX;go_loopg [5, 6] s.size (fun gg s5 s6 wr => ∃ (k : Nat) (acc : List UInt8), 1 <= k /\ k <= s.size /\ s.size - k <= gg /\ s6 = .int .i64 k /\ s5 = .string ⟨acc.toArray⟩ /\ Hid (Below w.heap.size w wr) /\ Hid (unqL (s.data.toList.drop k) acc = X) /\ Hid (acc.length <= 4 * k))
 case atStart => exact ⟨1, [], by omega, by omega, by omega, rfl, rfl, HB, HX, hid (by simp)⟩
 case round =>
  clear HB HX;obtain ⟨k, acc, hk1, hk, hgk, rfl, rfl, HW, HQ, HA⟩ := hrel
  by_cases hlt : k < s.size
  case neg =>
   have hke : (s.data.toList.drop k) = [] := List.drop_eq_nil_of_le (by rw [size_list]; omega)
   have HR := hid (show unqS s.data.toList = (40, [], 0) by
    rw [HU.out];have h := HQ.out;rw [hke, unqL_nil] at h;rw [<- h]; rfl)
   clear hke HU HQ;go_wp2
   go_ret3
   exact ⟨by rw [HR.out]; rfl, HW.out⟩
  have hltz : (k : Int) < (s.size : Int) := by omega
  have HDC := hid (drop_cons s k hlt)
  by_cases h34 : s[k].toNat = 34
  . have e34 : ((s[k].toNat : Int) == 34) = true := by simp; omega
    have HQ2 := hid (show X = if 4096 < acc.length then (3, [], []) else (0, acc, s.data.toList.drop (k + 1)) by rw [<- HQ.out, HDC.out, unqL_quote _ _ _ h34]);have hsa := ba_size acc;clear h34
    by_cases hlong : 4096 < acc.length
    . have HR := hid (show unqS s.data.toList = (3, [], 0) by
       rw [HU.out, HQ2.out, if_pos hlong]; rfl)
      have hlz : (4096 : Int) < (acc.length : Int) := by omega
      clear HU HQ HQ2 hlong hsa;go_wp2
      go_ret3
      exact ⟨by rw [HR.out]; rfl, HW.out⟩
    . have HR := hid (show unqS s.data.toList = (0, acc, k + 1) by
       rw [HU.out, HQ2.out, if_neg hlong, if_neg (by simp)];show (0, acc, s.size - (s.data.toList.drop (k + 1)).length) = _;rw [List.length_drop, size_list, show s.size - (s.size - (k + 1)) = k + 1 by omega])
      have hlz : ¬ (4096 : Int) < (acc.length : Int) := by omega
      clear HU HQ HQ2 hlong hsa;go_wp2
      go_ret3
      exact ⟨by rw [HR.out]; rfl, HW.out⟩
  . have e34 : ((s[k].toNat : Int) == 34) = false := by simp; omega
    have HO := hid (rone_any s k wr hlt hs)
    have HOK := hid (fun (h : (oneS (s.data.toList.drop k)).1 = 0) => show 1 <= (oneS (s.data.toList.drop k)).2.2 /\ k + (oneS (s.data.toList.drop k)).2.2 <= s.size /\ (oneS (s.data.toList.drop k)).2.1.length <= 4 from by
     rw [oneS_at s k hlt] at h ⊢
     by_cases h92 : s[k].toNat = 92
     . rw [if_pos h92] at h ⊢
       unfold escO at h ⊢
       by_cases hx : (escS (s.data.toList.drop (k + 1))).1 = 0
       . rw [if_neg (by rw [hx]; simp)]
         obtain ⟨o1, o2, o3⟩ := escS_ok hx;rw [List.length_drop, size_list] at o3;exact ⟨by show 1 <= _ + 1; omega, by show k + (_ + 1) <= _; omega, (enc_len _).1⟩
       . rw [if_pos hx] at h; exact absurd h hx
     . rw [if_neg h92] at h ⊢
       by_cases hbad : decR (s.data.toList.drop k) = 0 ∨ s[k].toNat < 32 ∨ s[k].toNat = 127
       . rw [if_pos hbad] at h; cases h
       . rw [if_neg hbad]
         have hne : s.data.toList.drop k ≠ [] := by rw [HDC.out]; simp
         have hd := dec_facts hne;rw [getD_drop0 s k hlt] at hd;obtain ⟨g1, g2, g3, g4⟩ := hd.2.2.2.2 hbad;rw [List.length_drop, size_list] at g4;refine ⟨g3, by show k + decR _ <= _; omega, ?_⟩;show (List.take _ _).length <= 4;rw [<- g2]; exact (enc_len _).1)
    have HBAD := hid (fun (h : (oneS (s.data.toList.drop k)).1 ≠ 0) => show X = ((oneS (s.data.toList.drop k)).1, [], []) by
     rw [<- HQ.out];rw [HDC.out] at h ⊢;exact unqL_bad _ _ _ h34 h)
    have HONE := hid (fun (h : (oneS (s.data.toList.drop k)).1 = 0) (h1 : 1 <= (oneS (s.data.toList.drop k)).2.2) => show unqL (s.data.toList.drop (k + (oneS (s.data.toList.drop k)).2.2)) (acc ++ (oneS (s.data.toList.drop k)).2.1) = X by
     have := unqL_one s[k] (s.data.toList.drop (k + 1)) acc h34 (by rw [<- HDC.out]; exact h) (by rw [<- HDC.out]; exact h1);rw [<- HDC.out, HQ.out, List.drop_drop] at this;exact this.symm)
    clear h34 HQ HDC;generalize oneS (s.data.toList.drop k) = y at *;obtain ⟨y1, y2, y3⟩ := y;unfold OneR at HO;simp only at HO HOK HBAD HONE
    by_cases hy : y1 = 0
    . subst hy
      obtain ⟨p1, p2, p3⟩ := HOK.out rfl;have HX1 := hid (HONE.out rfl p1);simp only [if_true] at HO;have hcat := fun W => cat_run W acc y2 (by have := HA.out; omega);have HP3 := hid p3;clear HONE HBAD HOK HU p3;go_wp2_with (go_at_call 134; refine HO.out.mono ?_; rintro e w2 ⟨rfl, hb⟩; have HW2 := hid (HW.out.trans (hb.mono HW.out.size)); clear hb)
      go_roundg (s.size - (k + y3))
      case measure => omega
      case rel => exact ⟨k + y3, acc ++ y2, by omega, by omega, by omega, by go_num, rfl, HW2, HX1, hid (by have := HP3.out; have := HA.out; rw [List.length_append]; omega)⟩
    . have e3 : (y1 != 0) = true := by simpa using hy
      have HX1 := hid (HBAD.out hy);have HR := hid (show unqS s.data.toList = (y1, [], 0) by rw [HU.out, HX1.out, if_pos hy]);rw [if_neg hy] at HO;clear HONE HBAD HOK HU hy HX1;go_wp2_with (go_at_call 134; refine HO.out.mono ?_; rintro e w2 ⟨rfl, hb⟩; have HW2 := hid (HW.out.trans (hb.mono HW.out.size)); clear hb)
      go_ret3
      exact ⟨by rw [HR.out]; rfl, HW2.out⟩
def digB (l : List UInt8) : Bool := (l.all fun c => dig c.toNat) && (!decide (l.length = 0) && (decide ((l.getD 0 0).toNat ≠ 48) || decide (l.length = 1)))
def canS (l : List UInt8) : Bool := if (l.getD 0 0).toNat = 45 then digB l.tail && !(l.tail == [48]) else digB l
theorem digB_no {t : ByteArray} {k : Nat} (hk : k < t.size) (h : dig t[k].toNat = false) : digB t.data.toList = false := by
 unfold digB
 have : (t.data.toList.all fun c => dig c.toNat) = false := by
  rw [List.all_eq_false];refine ⟨t[k], ?_, by rw [h]; simp⟩;rw [<- get_list t k hk]; exact List.getElem_mem _
 rw [this]; rfl
theorem digB_all {t : ByteArray} (h : ∀ j (hj : j < t.size), dig t[j].toNat = true) : digB t.data.toList = (!decide (t.size = 0) && (decide ((t.data.toList.getD 0 0).toNat ≠ 48) || decide (t.size = 1))) := by
 unfold digB
 have : (t.data.toList.all fun c => dig c.toNat) = true := by
  rw [List.all_eq_true];intro c hc;obtain ⟨j, hj, rfl⟩ := List.mem_iff_getElem.1 hc;rw [size_list] at hj;rw [get_list t j hj]; exact h j hj
 rw [this, size_list]; rfl
theorem dig_iff (c : Nat) : dig c = true ↔ 48 <= c /\ c <= 57 := by simp [dig]
theorem canS_neg {s : ByteArray} (h : 0 < s.size) (h1 : s[0].toNat = 45) : canS s.data.toList = (digB (s.extract 1 s.size).data.toList && !((s.extract 1 s.size).data.toList == [48])) := by
 unfold canS;rw [getD_at s h, if_pos h1, extract_list, List.drop_one]
theorem canS_pos {s : ByteArray} (h : ¬ (∃ h : 0 < s.size, s[0].toNat = 45)) : canS s.data.toList = digB s.data.toList := by
 unfold canS
 by_cases h0 : 0 < s.size
 . rw [getD_at s h0, if_neg (fun e => h ⟨h0, e⟩)]
 . have : s.data.toList = [] := List.eq_nil_of_length_eq_zero (by rw [size_list]; omega)
   rw [this]; rfl
theorem one_str {t : ByteArray} (h : 0 < t.size) : (t.toList == [48]) = decide (t.size = 1 /\ t[0].toNat = 48) := by
 rw [ByteArray.toList_eq, Bool.eq_iff_iff, beq_iff_eq, decide_eq_true_eq];have hl := size_list t;constructor
 . intro e
   rw [e] at hl;refine ⟨by simpa using hl.symm, ?_⟩;have := getD_at t h;rw [e] at this;rw [<- this]; rfl
 . rintro ⟨h1, h2⟩
   have := getD_at t h;cases hs : t.data.toList with
   | nil => rw [hs] at hl; simp at hl; omega
   | cons x l =>
     rw [hs] at hl this;have h3 : l = [] := List.eq_nil_of_length_eq_zero (by simp at hl; omega);subst h3;have h4 : x = t[0] := this;have h5 : x = 48 := UInt8.toNat_inj.1 (by rw [h4]; exact h2);rw [h5]
set_option maxHeartbeats 8000000 in
theorem pcan_any (s : ByteArray) (w : World) (hs : s.size <= 2000000) : Calls Tryz.prog 186 #[.string s] w fun e w' => e = .returned (.bool (canS s.data.toList)) /\ w = w' := by
 by_cases hn : ∃ h : 0 < s.size, s[0].toNat = 45
 . obtain ⟨hp, h45⟩ := hn
   have HC := hid (canS_neg hp h45);have e45 : ((s[0].toNat : Int) == 45) = true := by simp; omega
   have hpz0 : (0 : Int) < (s.size : Int) := by omega
   have h1z : (1 : Int) <= (s.size : Int) := by omega
   have hsz := ext_size s 1 (by omega);cases h48 : ((s.extract 1 s.size).toList == [48])
   . have HD := hid (show canS s.data.toList = digB (s.extract 1 s.size).data.toList by
      rw [HC.out, <- ByteArray.toList_eq, h48]; simp)
     clear HC h45;go_enter Tryz.func186, Tryz.ntmps186;go_wp2
     generalize s.extract 1 s.size = t at *;rw [<- hsz];have hts : t.size <= 2000000 := by omega
     have HRES := hid (fun (h : digB t.data.toList = false ∨ False) => show canS s.data.toList = false by rw [HD.out]; rcases h with h | h; exact h; exact h.elim);have HALL := hid (fun h => HD.out.trans (digB_all (t := t) h));clear HD h48 hsz;go_loop [18] (fun i => ∃ k : Nat, k <= t.size /\ i = .int .i64 k /\ Hid (∀ j (hj : j < t.size), j < k -> dig t[j].toNat = true)) (fun i => t.size - (RowKit.intOf i).toNat)
     case atStart => exact ⟨0, by omega, rfl, hid (fun j hj h => absurd h (by omega))⟩
     case round =>
      obtain ⟨k, hk, rfl, HA⟩ := hrel
      by_cases hlt : k < t.size
      . have HNk := hid (fun h => digB_no (t := t) hlt h)
        have hc := lt256 t[k]
        by_cases h1 : (t[k].toNat : Int) < 48
        . have HR := hid (HRES.out (Or.inl (HNk.out (by unfold dig; exact decide_eq_false (by omega)))))
          clear HA HNk HRES HALL;go_wp2
          go_ret
          exact ⟨ret_bool HR.out, rfl⟩
        by_cases h2 : (57 : Int) < (t[k].toNat : Int)
        . have HR := hid (HRES.out (Or.inl (HNk.out (by unfold dig; exact decide_eq_false (by omega)))))
          clear HA HNk HRES HALL;go_wp2
          go_ret
          exact ⟨ret_bool HR.out, rfl⟩
        have HX := hid (show ∀ j (hj : j < t.size), j < k + 1 -> dig t[j].toNat = true from fun j hj hjk => by
           by_cases e : j < k
           . exact HA.out j hj e
           . obtain rfl : j = k := by omega
             unfold dig; exact decide_eq_true (by omega))
        clear HA HNk HRES HALL;go_wp2
        go_round
        case rel => exact ⟨k + 1, by omega, by go_num, HX⟩
        case measure => (simp [RowKit.intOf] <;> omega)
      . have hfin := HALL.out (fun j hj => HA.out j hj (by omega))
        clear HA HALL HRES
        by_cases z0 : t.size = 0
        . have e0 := str_nil z0
          have HR := hid (hfin.trans (show _ = false by rw [decide_eq_true z0]; rfl));clear hfin z0;go_wp2
          go_ret
          exact ⟨ret_bool HR.out, rfl⟩
        have e0 := str_cons z0;have hpz : 0 < t.size := by omega
        rw [getD_at t hpz, decide_eq_false z0] at hfin
        by_cases z1 : t[0].toNat = 48
        . have e1 : ((t[0].toNat : Int) != 48) = false := by simp; omega
          by_cases z2 : t.size = 1
          . have HR := hid (hfin.trans (show _ = true by rw [decide_eq_true z2]; simp))
            have e2 : ((t.size : Int) == 1) = true := by simp; omega
            clear hfin z1 z2 z0;go_wp2
            go_ret
            exact ⟨ret_bool HR.out, rfl⟩
          . have HR := hid (hfin.trans (show _ = false by rw [decide_eq_false z2, decide_eq_false (by simpa using z1)]; rfl))
            have e2 : ((t.size : Int) == 1) = false := by simp; omega
            clear hfin z1 z2 z0;go_wp2
            go_ret
            exact ⟨ret_bool HR.out, rfl⟩
        . have e1 : ((t[0].toNat : Int) != 48) = true := by simp; omega
          have HR := hid (hfin.trans (show _ = true by rw [decide_eq_true (by simpa using z1)]; simp));clear hfin z1 z0;go_wp2
          go_ret
          exact ⟨ret_bool HR.out, rfl⟩
   . have HD := hid (show canS s.data.toList = false by rw [HC.out, <- ByteArray.toList_eq, h48]; simp)
     clear HC h45;go_enter Tryz.func186, Tryz.ntmps186;go_wp2
     go_ret
     exact ⟨ret_bool HD.out, rfl⟩
 . have HC := hid (canS_pos hn)
   have HRES := hid (fun (h : digB s.data.toList = false ∨ False) => show canS s.data.toList = false by rw [HC.out]; rcases h with h | h; exact h; exact h.elim);have HALL := hid (fun h => HC.out.trans (digB_all (t := s) h))
   by_cases h0 : 0 < s.size
   . have e45 : ((s[0].toNat : Int) == 45) = false := by
      have : s[0].toNat ≠ 45 := fun e => hn ⟨h0, e⟩;simp; omega
     have hpz0 : (0 : Int) < (s.size : Int) := by omega
     clear HC hn;go_enter Tryz.func186, Tryz.ntmps186;go_wp2
     go_loop [18] (fun i => ∃ k : Nat, k <= s.size /\ i = .int .i64 k /\ Hid (∀ j (hj : j < s.size), j < k -> dig s[j].toNat = true)) (fun i => s.size - (RowKit.intOf i).toNat)
     case atStart => exact ⟨0, by omega, rfl, hid (fun j hj h => absurd h (by omega))⟩
     case round =>
      obtain ⟨k, hk, rfl, HA⟩ := hrel
      by_cases hlt : k < s.size
      . have HNk := hid (fun h => digB_no (t := s) hlt h)
        have hc := lt256 s[k]
        by_cases h1 : (s[k].toNat : Int) < 48
        . have HR := hid (HRES.out (Or.inl (HNk.out (by unfold dig; exact decide_eq_false (by omega)))))
          clear HA HNk HRES HALL;go_wp2
          go_ret
          exact ⟨ret_bool HR.out, rfl⟩
        by_cases h2 : (57 : Int) < (s[k].toNat : Int)
        . have HR := hid (HRES.out (Or.inl (HNk.out (by unfold dig; exact decide_eq_false (by omega)))))
          clear HA HNk HRES HALL;go_wp2
          go_ret
          exact ⟨ret_bool HR.out, rfl⟩
        have HX := hid (show ∀ j (hj : j < s.size), j < k + 1 -> dig s[j].toNat = true from fun j hj hjk => by
         by_cases e : j < k
         . exact HA.out j hj e
         . obtain rfl : j = k := by omega
           unfold dig; exact decide_eq_true (by omega))
        clear HA HNk HRES HALL;go_wp2
        go_round
        case rel => exact ⟨k + 1, by omega, by go_num, HX⟩
        case measure => (simp [RowKit.intOf] <;> omega)
      . have hfin := HALL.out (fun j hj => HA.out j hj (by omega))
        clear HA HALL HRES
        by_cases z0 : s.size = 0
        . have e0 := str_nil z0
          have HR := hid (hfin.trans (show _ = false by rw [decide_eq_true z0]; rfl));clear hfin z0;go_wp2
          go_ret
          exact ⟨ret_bool HR.out, rfl⟩
        have e0 := str_cons z0;have hpz : 0 < s.size := by omega
        rw [getD_at s hpz, decide_eq_false z0] at hfin
        by_cases z1 : s[0].toNat = 48
        . have e1 : ((s[0].toNat : Int) != 48) = false := by simp; omega
          by_cases z2 : s.size = 1
          . have HR := hid (hfin.trans (show _ = true by rw [decide_eq_true z2]; simp))
            have e2 : ((s.size : Int) == 1) = true := by simp; omega
            clear hfin z1 z2 z0;go_wp2
            go_ret
            exact ⟨ret_bool HR.out, rfl⟩
          . have HR := hid (hfin.trans (show _ = false by rw [decide_eq_false z2, decide_eq_false (by simpa using z1)]; rfl))
            have e2 : ((s.size : Int) == 1) = false := by simp; omega
            clear hfin z1 z2 z0;go_wp2
            go_ret
            exact ⟨ret_bool HR.out, rfl⟩
        . have e1 : ((s[0].toNat : Int) != 48) = true := by simp; omega
          have HR := hid (hfin.trans (show _ = true by rw [decide_eq_true (by simpa using z1)]; simp));clear hfin z1 z0;go_wp2
          go_ret
          exact ⟨ret_bool HR.out, rfl⟩
   . have hpz0 : ¬ (0 : Int) < (s.size : Int) := by omega
     clear HC hn;go_enter Tryz.func186, Tryz.ntmps186;go_wp2
     go_loop [18] (fun i => ∃ k : Nat, k <= s.size /\ i = .int .i64 k /\ Hid (∀ j (hj : j < s.size), j < k -> dig s[j].toNat = true)) (fun i => s.size - (RowKit.intOf i).toNat)
     case atStart => exact ⟨0, by omega, rfl, hid (fun j hj h => absurd h (by omega))⟩
     case round =>
      obtain ⟨k, hk, rfl, HA⟩ := hrel
      by_cases hlt : k < s.size
      . have HNk := hid (fun h => digB_no (t := s) hlt h)
        have hc := lt256 s[k]
        by_cases h1 : (s[k].toNat : Int) < 48
        . have HR := hid (HRES.out (Or.inl (HNk.out (by unfold dig; exact decide_eq_false (by omega)))))
          clear HA HNk HRES HALL;go_wp2
          go_ret
          exact ⟨ret_bool HR.out, rfl⟩
        by_cases h2 : (57 : Int) < (s[k].toNat : Int)
        . have HR := hid (HRES.out (Or.inl (HNk.out (by unfold dig; exact decide_eq_false (by omega)))))
          clear HA HNk HRES HALL;go_wp2
          go_ret
          exact ⟨ret_bool HR.out, rfl⟩
        have HX := hid (show ∀ j (hj : j < s.size), j < k + 1 -> dig s[j].toNat = true from fun j hj hjk => by
         by_cases e : j < k
         . exact HA.out j hj e
         . obtain rfl : j = k := by omega
           unfold dig; exact decide_eq_true (by omega))
        clear HA HNk HRES HALL;go_wp2
        go_round
        case rel => exact ⟨k + 1, by omega, by go_num, HX⟩
        case measure => (simp [RowKit.intOf] <;> omega)
      . have hfin := HALL.out (fun j hj => HA.out j hj (by omega))
        clear HA HALL HRES;have z0 : s.size = 0 := by omega
        have e0 := str_nil z0;have HR := hid (hfin.trans (show _ = false by rw [decide_eq_true z0]; rfl));clear hfin z0;go_wp2
        go_ret
        exact ⟨ret_bool HR.out, rfl⟩
set_option maxHeartbeats 8000000 in
theorem rdigs_any (s : ByteArray) (w : World) (hs : s.size <= 2000000) : Calls Tryz.prog 137 #[.string s] w fun e w' => e = .returned (.bool (digB s.data.toList)) /\ w = w' := by
 have HRES := hid (fun (h : digB s.data.toList = false ∨ False) => show digB s.data.toList = false by rcases h with h | h; exact h; exact h.elim);have HALL := hid (fun h => digB_all (t := s) h);go_enter Tryz.func137, Tryz.ntmps137;go_wp2
 go_loop [3] (fun i => ∃ k : Nat, k <= s.size /\ i = .int .i64 k /\ Hid (∀ j (hj : j < s.size), j < k -> dig s[j].toNat = true)) (fun i => s.size - (RowKit.intOf i).toNat)
 case atStart => exact ⟨0, by omega, rfl, hid (fun j hj h => absurd h (by omega))⟩
 case round =>
  obtain ⟨k, hk, rfl, HA⟩ := hrel
  by_cases hlt : k < s.size
  . have HNk := hid (fun h => digB_no (t := s) hlt h)
    have hc := lt256 s[k]
    by_cases h1 : (s[k].toNat : Int) < 48
    . have HR := hid (HRES.out (Or.inl (HNk.out (by unfold dig; exact decide_eq_false (by omega)))))
      clear HA HNk HRES HALL;go_wp2
      go_ret
      exact ⟨ret_bool HR.out, rfl⟩
    by_cases h2 : (57 : Int) < (s[k].toNat : Int)
    . have HR := hid (HRES.out (Or.inl (HNk.out (by unfold dig; exact decide_eq_false (by omega)))))
      clear HA HNk HRES HALL;go_wp2
      go_ret
      exact ⟨ret_bool HR.out, rfl⟩
    have HX := hid (show ∀ j (hj : j < s.size), j < k + 1 -> dig s[j].toNat = true from fun j hj hjk => by
     by_cases e : j < k
     . exact HA.out j hj e
     . obtain rfl : j = k := by omega
       unfold dig; exact decide_eq_true (by omega))
    clear HA HNk HRES HALL;go_wp2
    go_round
    case rel => exact ⟨k + 1, by omega, by go_num, HX⟩
    case measure => (simp [RowKit.intOf] <;> omega)
  . have hfin := HALL.out (fun j hj => HA.out j hj (by omega))
    clear HA HALL HRES
    by_cases z0 : s.size = 0
    . have e0 := str_nil z0
      have e48 : (s.toList == [48]) = false := by rw [ByteArray.toList_eq, show s.data.toList = [] from List.eq_nil_of_length_eq_zero (by rw [size_list]; exact z0)]; rfl
      have HR := hid (hfin.trans (show _ = false by rw [decide_eq_true z0]; rfl));clear hfin z0;go_wp2
      go_ret
      exact ⟨ret_bool HR.out, rfl⟩
    have e0 := str_cons z0;have hpz : 0 < s.size := by omega
    rw [getD_at s hpz, decide_eq_false z0] at hfin;have h48 := one_str hpz
    by_cases z1 : s[0].toNat = 48
    . have e1 : ((s[0].toNat : Int) != 48) = false := by simp; omega
      by_cases z2 : s.size = 1
      . have HR := hid (hfin.trans (show _ = true by rw [decide_eq_true z2]; simp))
        have e48 : (s.toList == [48]) = true := h48.trans (by rw [decide_eq_true (show _ /\ _ from ⟨z2, z1⟩)]);clear hfin z1 z2 z0 h48;go_wp2
        go_ret
        exact ⟨ret_bool HR.out, rfl⟩
      . have HR := hid (hfin.trans (show _ = false by rw [decide_eq_false z2, decide_eq_false (by simpa using z1)]; rfl))
        have e48 : (s.toList == [48]) = false := h48.trans (by rw [decide_eq_false (fun h => z2 h.1)]);clear hfin z1 z2 z0 h48;go_wp2
        go_ret
        exact ⟨ret_bool HR.out, rfl⟩
    . have e1 : ((s[0].toNat : Int) != 48) = true := by simp; omega
      have e48 : (s.toList == [48]) = false := h48.trans (by rw [decide_eq_false (fun h => z1 h.2)]);have HR := hid (hfin.trans (show _ = true by rw [decide_eq_true (by simpa using z1)]; simp));clear hfin z1 z0 h48;go_wp2
      go_ret
      exact ⟨ret_bool HR.out, rfl⟩
def valL (l : List UInt8) : Nat := l.foldl (fun n c => 10 * n + (c.toNat - 48)) 0
theorem fold_cons (acc : Nat) (c : UInt8) (l : List UInt8) : (c :: l).foldl (fun n c => 10 * n + (c.toNat - 48)) acc = l.foldl (fun n c => 10 * n + (c.toNat - 48)) (10 * acc + (c.toNat - 48)) := List.foldl_cons ..
theorem fold_ge : ∀ (l : List UInt8) (acc : Nat), acc <= l.foldl (fun n c => 10 * n + (c.toNat - 48)) acc
 | [], acc => Nat.le_refl _
 | c :: l, acc => by rw [fold_cons]; exact Nat.le_trans (by omega) (fold_ge l _)
theorem fold_pow : ∀ (l : List UInt8) (acc : Nat), acc * 10 ^ l.length <= l.foldl (fun n c => 10 * n + (c.toNat - 48)) acc
 | [], acc => by simp
 | c :: l, acc => by
   rw [fold_cons];refine Nat.le_trans ?_ (fold_pow l _);rw [List.length_cons, Nat.pow_succ];have : acc * (10 ^ l.length * 10) = (10 * acc) * 10 ^ l.length := by rw [Nat.mul_comm (10 ^ l.length) 10, <- Nat.mul_assoc, Nat.mul_comm acc 10]
   rw [this];exact Nat.mul_le_mul_right _ (by omega)
theorem fold_lt : ∀ (l : List UInt8) (acc : Nat), (l.all fun c => dig c.toNat) = true -> l.foldl (fun n c => 10 * n + (c.toNat - 48)) acc < (acc + 1) * 10 ^ l.length
 | [], acc, _ => by simp
 | c :: l, acc, h => by
   rw [List.all_cons, Bool.and_eq_true] at h;have hc := (dig_iff c.toNat).1 h.1;rw [fold_cons];refine Nat.lt_of_lt_of_le (fold_lt l _ h.2) ?_;rw [List.length_cons, Nat.pow_succ];have : (acc + 1) * (10 ^ l.length * 10) = (10 * (acc + 1)) * 10 ^ l.length := by rw [Nat.mul_comm (10 ^ l.length) 10, <- Nat.mul_assoc, Nat.mul_comm (acc + 1) 10]
   rw [this];exact Nat.mul_le_mul_right _ (by omega)
theorem uint_fold : ∀ (l : List UInt8) (acc : Nat), (l.all fun c => dig c.toNat) = true -> acc <= 18446744073709551615 ->
 Lib.parseUintM 18446744073709551615 acc l = if l.foldl (fun n c => 10 * n + (c.toNat - 48)) acc <= 18446744073709551615 then .ok (l.foldl (fun n c => 10 * n + (c.toNat - 48)) acc) else .range
 | [], acc, _, h => by rw [Lib.parseUintM]; show _ = if acc <= _ then _ else _; rw [if_pos h]; rfl
 | c :: l, acc, hd, h => by
   rw [List.all_cons, Bool.and_eq_true] at hd;have hc := (dig_iff c.toNat).1 hd.1;rw [Lib.parseUintM, if_pos hc, fold_cons];have hg := fold_ge l (10 * acc + (c.toNat - 48))
   by_cases h1 : 1844674407370955162 <= acc
   . rw [if_pos h1, if_neg (by omega)]
   . rw [if_neg h1]
     by_cases h2 : 18446744073709551615 < acc * 10 + (c.toNat - 48)
     . rw [if_pos h2, if_neg (by omega)]
     . rw [if_neg h2, uint_fold l _ hd.2 (by omega), Nat.mul_comm acc 10]
theorem digB_parts {l : List UInt8} (h : digB l = true) : (l.all fun c => dig c.toNat) = true /\ l ≠ [] /\ ((l.getD 0 0).toNat ≠ 48 ∨ l.length = 1) := by
 unfold digB at h;rw [Bool.and_eq_true, Bool.and_eq_true, Bool.or_eq_true] at h;refine ⟨h.1, fun e => ?_, h.2.2.imp of_decide_eq_true of_decide_eq_true⟩;rw [e] at h; simp at h
theorem digB_big {l : List UInt8} (h : digB l = true) (h17 : 16 < l.length) : 10000000000000000 <= valL l := by
 obtain ⟨h1, h2, h3⟩ := digB_parts h;cases l with
 | nil => exact absurd rfl h2
 | cons c l =>
   have hc : c.toNat ≠ 48 := by
    rcases h3 with h3 | h3
    . exact h3
    . simp at h3; subst h3; simp at h17
   rw [List.all_cons, Bool.and_eq_true] at h1;have hd := (dig_iff c.toNat).1 h1.1;unfold valL;rw [fold_cons];refine Nat.le_trans ?_ (fold_pow l _);rw [List.length_cons] at h17;have : 10 ^ 16 <= 10 ^ l.length := Nat.pow_le_pow_right (by decide) (by omega);have h4 : 1 * 10 ^ 16 <= (10 * 0 + (c.toNat - 48)) * 10 ^ l.length := Nat.mul_le_mul (by omega) this;simpa using h4
def tlS (l : List UInt8) : List UInt8 := if (l.getD 0 0).toNat = 45 then l.tail else l
def svS (l : List UInt8) : Int := if (l.getD 0 0).toNat = 45 then -(valL (tlS l) : Int) else valL (tlS l)
def numS (l : List UInt8) : Int × Int :=
 if canS l = false then (0, 2) else if 16 < (tlS l).length then (0, 5) else if -9007199254740992 <= svS l /\ svS l <= 9007199254740992 then (svS l, 0) else (0, 5)
theorem canS_dig {l : List UInt8} (h : canS l = true) : digB (tlS l) = true := by
 unfold canS at h;unfold tlS
 by_cases h1 : (l.getD 0 0).toNat = 45
 . rw [if_pos h1] at h ⊢; rw [Bool.and_eq_true] at h; exact h.1
 . rw [if_neg h1] at h ⊢; exact h
theorem num_parse {l : List UInt8} (h : canS l = true) : (∃ v : Int, Lib.parseIntB 64 l = .ok v /\ numS l = if -9007199254740992 <= v /\ v <= 9007199254740992 then (v, 0) else (0, 5)) ∨ (Lib.parseIntB 64 l = .range /\ numS l = (0, 5)) := by
 have hd := canS_dig h;obtain ⟨h1, h2, h3⟩ := digB_parts hd;have hbig := fun h17 => digB_big hd h17
 have hU : Lib.parseUintB 64 (tlS l) = if valL (tlS l) <= 18446744073709551615 then .ok (valL (tlS l)) else .range := by
  unfold Lib.parseUintB;rw [if_neg h2];exact uint_fold (tlS l) 0 h1 (by decide)
 have hP : Lib.parseIntB 64 l = if valL (tlS l) <= 18446744073709551615 then (if ¬ (l.getD 0 0).toNat = 45 /\ 2 ^ (64 - 1) <= valL (tlS l) then .range else if (l.getD 0 0).toNat = 45 /\ 2 ^ (64 - 1) < valL (tlS l) then .range else .ok (if (l.getD 0 0).toNat = 45 then -(valL (tlS l) : Int) else valL (tlS l))) else .range := by
  cases l with
  | nil => unfold tlS at h2; simp at h2
  | cons c r =>
    have hc : ((c :: r).getD 0 0).toNat = c.toNat := rfl;rw [hc]
    by_cases h45 : c.toNat = 45
    . have ht : tlS (c :: r) = r := by unfold tlS; rw [hc, if_pos h45]; rfl
      rw [ht] at hU ⊢;unfold Lib.parseIntB;simp only [h45, or_true, if_true, hU]
      by_cases hV : valL r <= 18446744073709551615
      . simp only [if_pos hV]
      . simp only [if_neg hV]
    . have ht : tlS (c :: r) = c :: r := by unfold tlS; rw [hc, if_neg h45]
      have h43 : c.toNat ≠ 43 := by
       intro e;have hd2 : digB (c :: r) = true := by rwa [ht] at hd
       have := (digB_parts hd2).1;rw [List.all_cons, Bool.and_eq_true] at this;have := (dig_iff c.toNat).1 this.1;omega
      rw [ht] at hU ⊢;unfold Lib.parseIntB;simp only [h45, h43, or_self, if_false, hU]
      by_cases hV : valL (c :: r) <= 18446744073709551615
      . simp only [if_pos hV]
      . simp only [if_neg hV]
 have hN : numS l = if 16 < (tlS l).length then (0, 5) else if -9007199254740992 <= svS l /\ svS l <= 9007199254740992 then (svS l, 0) else (0, 5) := by
  unfold numS; rw [h, if_neg (by simp)]
 have hS : svS l = if (l.getD 0 0).toNat = 45 then -(valL (tlS l) : Int) else valL (tlS l) := rfl
 clear hU;generalize valL (tlS l) = V at *;generalize (tlS l).length = K at *;generalize svS l = S at *;generalize numS l = N at *;generalize (l.getD 0 0).toNat = b at *;clear h h1 h2 h3 hd
 by_cases hV : V <= 18446744073709551615
 . rw [if_pos hV] at hP
   by_cases hb : b = 45
   . simp only [hb, not_true, false_and, if_false, true_and, if_true] at hP hS
     by_cases h9 : 2 ^ (64 - 1) < V
     . rw [if_pos h9] at hP
       right;refine ⟨hP, ?_⟩;rw [hN];have : ¬ (-9007199254740992 <= S /\ S <= 9007199254740992) := by rw [hS]; omega
       rw [if_neg this]; split <;> rfl
     . rw [if_neg h9] at hP
       left;refine ⟨_, hP, ?_⟩;rw [hN, <- hS]
       by_cases h17 : 16 < K
       . have := hbig h17
         rw [if_pos h17, if_neg (by omega)]
       . rw [if_neg h17]
   . simp only [hb, not_false_eq_true, true_and, false_and, if_false] at hP hS
     by_cases h9 : 2 ^ (64 - 1) <= V
     . rw [if_pos h9] at hP
       right;refine ⟨hP, ?_⟩;rw [hN];have : ¬ (-9007199254740992 <= S /\ S <= 9007199254740992) := by rw [hS]; omega
       rw [if_neg this]; split <;> rfl
     . rw [if_neg h9] at hP
       left;refine ⟨_, hP, ?_⟩;rw [hN, <- hS]
       by_cases h17 : 16 < K
       . have := hbig h17
         rw [if_pos h17, if_neg (by omega)]
       . rw [if_neg h17]
 . rw [if_neg hV] at hP
   right;refine ⟨hP, ?_⟩;rw [hN];have : ¬ (-9007199254740992 <= S /\ S <= 9007199254740992) := by rw [hS]; split <;> omega
   rw [if_neg this]; split <;> rfl
def vldN (n : Int) : Bool := decide (-9007199254740992 <= n) && decide (n <= 9007199254740992)
theorem pvldn_any (n : Int) (w : World) : Calls Tryz.prog 188 #[.int .i64 n] w fun e w' => e = .returned (.bool (vldN n)) /\ w = w' := by
 by_cases h1 : -9007199254740992 <= n
 . have HN := hid (show vldN n = decide (n <= 9007199254740992) by unfold vldN; rw [decide_eq_true h1]; rfl)
   go_enter Tryz.func188, Tryz.ntmps188;go_wp2
   go_ret
   exact ⟨ret_bool HN.out, rfl⟩
 . have HN := hid (show vldN n = false by unfold vldN; rw [decide_eq_false h1]; rfl)
   go_enter Tryz.func188, Tryz.ntmps188;go_wp2
   go_ret
   exact ⟨ret_bool HN.out, rfl⟩
theorem rvldn_any (n : Int) (w : World) : Calls Tryz.prog 138 #[.int .i64 n] w fun e w' => e = .returned (.bool (vldN n)) /\ w = w' := by
 by_cases h1 : -9007199254740992 <= n
 . have HN := hid (show vldN n = decide (n <= 9007199254740992) by unfold vldN; rw [decide_eq_true h1]; rfl)
   go_enter Tryz.func138, Tryz.ntmps138;go_wp2
   go_ret
   exact ⟨ret_bool HN.out, rfl⟩
 . have HN := hid (show vldN n = false by unfold vldN; rw [decide_eq_false h1]; rfl)
   go_enter Tryz.func138, Tryz.ntmps138;go_wp2
   go_ret
   exact ⟨ret_bool HN.out, rfl⟩
def NmR (x : Int × Int) : Ending := .returned (.tuple #[.int .i64 x.1, .int .i64 x.2])
set_option maxHeartbeats 4000000 in
theorem pnum_any (s : ByteArray) (w : World) (hT : WT w) (hs : s.size <= 2000000) : Calls Tryz.prog 161 #[.string s] w fun e w' => e = NmR (numS s.data.toList) /\ Below w.heap.size w w' := by
 have HC := hid (pcan_any s w hs);have HB := hid (Below.refl w.heap.size w);cases hc : canS s.data.toList
 . have HR := hid (show numS s.data.toList = (0, 2) by unfold numS; rw [if_pos hc])
   rw [hc] at HC;clear hc hT;go_enter Tryz.func161, Tryz.ntmps161;go_wp2_with (go_at_call 186; refine HC.out.mono ?_; rintro e w1 ⟨rfl, rfl⟩)
   go_ret2
   exact ⟨by rw [HR.out]; rfl, HB.out⟩
 have hp := num_parse hc;rw [hc] at HC;clear hc;rcases hp with ⟨v, hv, hn⟩ | ⟨hv, hn⟩
 . have HP := hid (Tryz.strconv_ParseInt_10_at64_ok s (by omega) v hv w)
   have HV := hid (fun W => pvldn_any v W);have hvl : vldN v = decide (-9007199254740992 <= v /\ v <= 9007199254740992) := by unfold vldN; rw [Bool.eq_iff_iff]; simp
   have HBW := hid (fun t => Joins.below_bytesWorld w.heap.size w 5 t (Nat.le_refl _));clear hT hv
   by_cases hr : -9007199254740992 <= v /\ v <= 9007199254740992
   . have HR := hid (hn.trans (if_pos hr))
     rw [hvl, decide_eq_true hr] at HV;clear hn hvl hr;go_enter Tryz.func161, Tryz.ntmps161
     go_wp2_with (first
      | (go_at_call 186; refine HC.out.mono ?_; rintro e w1 ⟨rfl, rfl⟩)
      | (go_at_call 187; refine HP.out.mono ?_; rintro e w2 ⟨rfl, hw⟩; have HW := hid (show Below w.heap.size w w2 from by rcases hw with rfl | ⟨t, rfl⟩; exact HB.out; exact HBW.out t); clear hw)
      | (go_at_call 188; refine (HV.out _).mono ?_; rintro e w3 ⟨rfl, rfl⟩))
     go_ret2
     exact ⟨by rw [HR.out]; rfl, HW.out⟩
   . have HR := hid (hn.trans (if_neg hr))
     rw [hvl, decide_eq_false hr] at HV;clear hn hvl hr;go_enter Tryz.func161, Tryz.ntmps161
     go_wp2_with (first
      | (go_at_call 186; refine HC.out.mono ?_; rintro e w1 ⟨rfl, rfl⟩)
      | (go_at_call 187; refine HP.out.mono ?_; rintro e w2 ⟨rfl, hw⟩; have HW := hid (show Below w.heap.size w w2 from by rcases hw with rfl | ⟨t, rfl⟩; exact HB.out; exact HBW.out t); clear hw)
      | (go_at_call 188; refine (HV.out _).mono ?_; rintro e w3 ⟨rfl, rfl⟩))
     go_ret2
     exact ⟨by rw [HR.out]; rfl, HW.out⟩
 . obtain ⟨ev, h1, h2⟩ := hT.r
   have HP := hid (Tryz.strconv_ParseInt_10_at64_range s (by omega) hv ev w h1 h2);have HR := hid hn;clear hT hv hn h1 h2;go_enter Tryz.func161, Tryz.ntmps161
   go_wp2_with (first
    | (go_at_call 186; refine HC.out.mono ?_; rintro e w1 ⟨rfl, rfl⟩)
    | (go_at_call 187; refine HP.out.mono ?_; rintro e w2 ⟨N, rfl, _, _, hw⟩; have HW := hid hw; clear hw))
   go_ret2
   exact ⟨by rw [HR.out]; rfl, HW.out⟩
theorem valL_snoc (l : List UInt8) (c : UInt8) : valL (l ++ [c]) = 10 * valL l + (c.toNat - 48) := by unfold valL; rw [List.foldl_append]; rfl
theorem valL_take (t : ByteArray) (k : Nat) (h : k < t.size) : valL (t.data.toList.take (k + 1)) = 10 * valL (t.data.toList.take k) + (t[k].toNat - 48) := by
 rw [List.take_succ_eq_append_getElem (by rw [size_list]; exact h), valL_snoc];rfl
theorem numS_neg {s : ByteArray} (h : 0 < s.size) (h1 : s[0].toNat = 45) : (digB (s.extract 1 s.size).data.toList = false ∨ ((s.extract 1 s.size).toList == [48]) = true -> numS s.data.toList = (0, 2)) /\
 (digB (s.extract 1 s.size).data.toList = true -> ((s.extract 1 s.size).toList == [48]) = false -> numS s.data.toList = if 16 < (s.extract 1 s.size).size then (0, 5) else if -9007199254740992 <= -(valL (s.extract 1 s.size).data.toList : Int) /\ -(valL (s.extract 1 s.size).data.toList : Int) <= 9007199254740992 then (-(valL (s.extract 1 s.size).data.toList : Int), 0) else (0, 5)) := by
 have hc := canS_neg h h1;have ht : tlS s.data.toList = (s.extract 1 s.size).data.toList := by unfold tlS; rw [getD_at s h, if_pos h1, extract_list, List.drop_one]
 have hv : svS s.data.toList = -(valL (s.extract 1 s.size).data.toList : Int) := by unfold svS; rw [getD_at s h, if_pos h1, ht]
 rw [ByteArray.toList_eq];constructor
 . intro h2
   have : canS s.data.toList = false := by rw [hc]; rcases h2 with h2 | h2 <;> rw [h2] <;> simp
   unfold numS; rw [if_pos this]
 . intro h2 h3
   have : canS s.data.toList = true := by rw [hc, h2, h3]; rfl
   unfold numS; rw [this, if_neg (by simp), ht, hv, size_list]
theorem numS_pos {s : ByteArray} (h : ¬ (∃ h : 0 < s.size, s[0].toNat = 45)) : (digB s.data.toList = false ∨ False -> numS s.data.toList = (0, 2)) /\
 (digB s.data.toList = true -> numS s.data.toList = if 16 < s.size then (0, 5) else if -9007199254740992 <= (valL s.data.toList : Int) /\ (valL s.data.toList : Int) <= 9007199254740992 then ((valL s.data.toList : Int), 0) else (0, 5)) := by
 have hc := canS_pos h
 have hg : ¬ (s.data.toList.getD 0 0).toNat = 45 := by
  by_cases h0 : 0 < s.size
  . rw [getD_at s h0]; exact fun e => h ⟨h0, e⟩
  . rw [show s.data.toList = [] from List.eq_nil_of_length_eq_zero (by rw [size_list]; omega)]; decide
 have ht : tlS s.data.toList = s.data.toList := by unfold tlS; rw [if_neg hg]
 have hv : svS s.data.toList = (valL s.data.toList : Int) := by unfold svS; rw [if_neg hg, ht]
 constructor
 . intro h2
   have : canS s.data.toList = false := by rw [hc]; rcases h2 with h2 | h2; exact h2; exact h2.elim
   unfold numS; rw [if_pos this]
 . intro h2
   have : canS s.data.toList = true := by rw [hc, h2]
   unfold numS; rw [this, if_neg (by simp), ht, hv, size_list]
set_option maxHeartbeats 8000000 in
set_option maxRecDepth 100000 in
theorem rnum_any (s : ByteArray) (w : World) (hs : s.size <= 2000000) : Calls Tryz.prog 102 #[.string s] w fun e w' => e = NmR (numS s.data.toList) /\ w = w' := by
 by_cases hn : ∃ h : 0 < s.size, s[0].toNat = 45
 . obtain ⟨hp, h45⟩ := hn
   have HBAD := hid (numS_neg hp h45).1;have HGOOD := hid (numS_neg hp h45).2;have e45 : ((s[0].toNat : Int) == 45) = true := by simp; omega
   have hpz0 : (0 : Int) < (s.size : Int) := by omega
   have h1z : (1 : Int) <= (s.size : Int) := by omega
   have hsz := ext_size s 1 (by omega);have HC := hid (rdigs_any (s.extract 1 s.size) w (by omega));clear h45;generalize ht : s.extract 1 s.size = t at *;have hts : t.size <= 2000000 := by omega
   have hsz' : s.size - 1 = t.size := hsz.symm;clear hsz;cases hd : digB t.data.toList
   . have HR := hid (HBAD.out (Or.inl hd))
     rw [hd] at HC;clear hd HBAD HGOOD;go_enter Tryz.func102, Tryz.ntmps102;go_wp2_with (go_at_call 137; refine HC.out.mono ?_; rintro e w1 ⟨rfl, rfl⟩)
     go_ret2
     exact ⟨by rw [HR.out]; rfl, rfl⟩
   rw [hd] at HC;cases h48 : (t.toList == [48])
   case true =>
    have HR := hid (HBAD.out (Or.inr h48));clear hd HBAD HGOOD;go_enter Tryz.func102, Tryz.ntmps102;go_wp2_with (go_at_call 137; refine HC.out.mono ?_; rintro e w1 ⟨rfl, rfl⟩)
    go_ret2
    exact ⟨by rw [HR.out]; rfl, rfl⟩
   have hX := HGOOD.out hd h48;have hall := (digB_parts hd).1
   have HAL := hid (show ∀ j (hj : j < t.size), 48 <= t[j].toNat /\ t[j].toNat <= 57 from fun j hj => by
    have := List.all_eq_true.1 hall t[j] (by rw [<- get_list t j hj]; exact List.getElem_mem _);exact (dig_iff _).1 this)
   have HLT := hid (fun k => fold_lt (t.data.toList.take k) 0 (by
    rw [List.all_eq_true];intro c hc;exact List.all_eq_true.1 hall c (List.mem_of_mem_take hc)))
   clear hd hall HBAD HGOOD
   by_cases h17 : 16 < t.size
   . have HR := hid (hX.trans (if_pos h17))
     have h17z : (16 : Int) < (t.size : Int) := by omega
     clear hX h17 HAL HLT;go_enter Tryz.func102, Tryz.ntmps102;go_wp2_with (go_at_call 137; refine HC.out.mono ?_; rintro e w1 ⟨rfl, rfl⟩)
     go_ret2
     exact ⟨by rw [HR.out]; rfl, rfl⟩
   have HX := hid (hX.trans (if_neg h17));have h17z : ¬ (16 : Int) < (t.size : Int) := by omega
   clear hX;go_enter Tryz.func102, Tryz.ntmps102;go_wp2_with (go_at_call 137; refine HC.out.mono ?_; rintro e w1 ⟨rfl, rfl⟩)
   go_loop [6, 7] (fun n i => ∃ k : Nat, k <= t.size /\ i = .int .i64 k /\ n = .int .i64 (valL (t.data.toList.take k) : Nat)) (fun _ i => t.size - (RowKit.intOf i).toNat)
   case atStart => exact ⟨0, by omega, rfl, rfl⟩
   case round =>
    obtain ⟨k, hk, rfl, rfl⟩ := hrel
    have hb : valL (t.data.toList.take k) < 10000000000000000 := by
     have h1 := HLT.out k;rw [take_len t hk] at h1;have h2 : 10 ^ k <= 10 ^ 16 := Nat.pow_le_pow_right (by decide) (by omega);unfold valL; omega
    by_cases hlt : k < t.size
    . obtain ⟨c1, c2⟩ := HAL.out k hlt
      have HS := hid (valL_take t k hlt);have c1z : (48 : Int) <= (t[k].toNat : Int) := by omega
      have c2z : (t[k].toNat : Int) <= 57 := by omega
      generalize valL (t.data.toList.take k) = V at *;clear HX HLT HAL;go_wp2
      go_round
      case rel => exact ⟨k + 1, by omega, by go_num, by rw [HS.out]; go_num⟩
      case measure => (simp [RowKit.intOf] <;> omega)
    . have hke : t.data.toList.take k = t.data.toList := take_all t (by omega)
      have hX := HX.out;rw [show valL t.data.toList = valL (t.data.toList.take k) by rw [hke]] at hX;generalize valL (t.data.toList.take k) = V at *;have HV := hid (fun W => rvldn_any (-(V : Int)) W);have hvl : vldN (-(V : Int)) = decide (-9007199254740992 <= (-(V : Int)) /\ (-(V : Int)) <= 9007199254740992) := by unfold vldN; rw [Bool.eq_iff_iff]; simp
      clear hke HX HLT HAL
      by_cases hr : -9007199254740992 <= (-(V : Int)) /\ (-(V : Int)) <= 9007199254740992
      . have HR := hid (hX.trans (if_pos hr))
        rw [hvl, decide_eq_true hr] at HV;clear hX hvl hr;go_wp2_with (go_at_call 138; refine (HV.out _).mono ?_; rintro e w3 ⟨rfl, rfl⟩)
        go_ret2
        exact ⟨by rw [HR.out]; rfl, rfl⟩
      . have HR := hid (hX.trans (if_neg hr))
        rw [hvl, decide_eq_false hr] at HV;clear hX hvl hr;go_wp2_with (go_at_call 138; refine (HV.out _).mono ?_; rintro e w3 ⟨rfl, rfl⟩)
        go_ret2
        exact ⟨by rw [HR.out]; rfl, rfl⟩
 . have HBAD := hid (numS_pos hn).1
   have HGOOD := hid (numS_pos hn).2;have HC := hid (rdigs_any s w (by omega))
   by_cases h0 : 0 < s.size
   . have e45 : ((s[0].toNat : Int) == 45) = false := by
      have : s[0].toNat ≠ 45 := fun e => hn ⟨h0, e⟩;simp; omega
     have hpz0 : (0 : Int) < (s.size : Int) := by omega
     clear hn;cases hd : digB s.data.toList
     . have HR := hid (HBAD.out (Or.inl hd))
       rw [hd] at HC;clear hd HBAD HGOOD;go_enter Tryz.func102, Tryz.ntmps102;go_wp2_with (go_at_call 137; refine HC.out.mono ?_; rintro e w1 ⟨rfl, rfl⟩)
       go_ret2
       exact ⟨by rw [HR.out]; rfl, rfl⟩
     rw [hd] at HC;have hX := HGOOD.out hd;have hall := (digB_parts hd).1
     have HAL := hid (show ∀ j (hj : j < s.size), 48 <= s[j].toNat /\ s[j].toNat <= 57 from fun j hj => by
      have := List.all_eq_true.1 hall s[j] (by rw [<- get_list s j hj]; exact List.getElem_mem _);exact (dig_iff _).1 this)
     have HLT := hid (fun k => fold_lt (s.data.toList.take k) 0 (by
      rw [List.all_eq_true];intro c hc;exact List.all_eq_true.1 hall c (List.mem_of_mem_take hc)))
     clear hd hall HBAD HGOOD
     by_cases h17 : 16 < s.size
     . have HR := hid (hX.trans (if_pos h17))
       have h17z : (16 : Int) < (s.size : Int) := by omega
       clear hX h17 HAL HLT;go_enter Tryz.func102, Tryz.ntmps102;go_wp2_with (go_at_call 137; refine HC.out.mono ?_; rintro e w1 ⟨rfl, rfl⟩)
       go_ret2
       exact ⟨by rw [HR.out]; rfl, rfl⟩
     have HX := hid (hX.trans (if_neg h17));have h17z : ¬ (16 : Int) < (s.size : Int) := by omega
     clear hX;go_enter Tryz.func102, Tryz.ntmps102;go_wp2_with (go_at_call 137; refine HC.out.mono ?_; rintro e w1 ⟨rfl, rfl⟩)
     go_loop [6, 7] (fun n i => ∃ k : Nat, k <= s.size /\ i = .int .i64 k /\ n = .int .i64 (valL (s.data.toList.take k) : Nat)) (fun _ i => s.size - (RowKit.intOf i).toNat)
     case atStart => exact ⟨0, by omega, rfl, rfl⟩
     case round =>
      obtain ⟨k, hk, rfl, rfl⟩ := hrel
      have hb : valL (s.data.toList.take k) < 10000000000000000 := by
       have h1 := HLT.out k;rw [take_len s hk] at h1;have h2 : 10 ^ k <= 10 ^ 16 := Nat.pow_le_pow_right (by decide) (by omega);unfold valL; omega
      by_cases hlt : k < s.size
      . obtain ⟨c1, c2⟩ := HAL.out k hlt
        have HS := hid (valL_take s k hlt);have c1z : (48 : Int) <= (s[k].toNat : Int) := by omega
        have c2z : (s[k].toNat : Int) <= 57 := by omega
        generalize valL (s.data.toList.take k) = V at *;clear HX HLT HAL;go_wp2
        go_round
        case rel => exact ⟨k + 1, by omega, by go_num, by rw [HS.out]; go_num⟩
        case measure => (simp [RowKit.intOf] <;> omega)
      . have hke : s.data.toList.take k = s.data.toList := take_all s (by omega)
        have hX := HX.out;rw [show valL s.data.toList = valL (s.data.toList.take k) by rw [hke]] at hX;generalize valL (s.data.toList.take k) = V at *;have HV := hid (fun W => rvldn_any (V : Int) W);have hvl : vldN (V : Int) = decide (-9007199254740992 <= (V : Int) /\ (V : Int) <= 9007199254740992) := by unfold vldN; rw [Bool.eq_iff_iff]; simp
        clear hke HX HLT HAL
        by_cases hr : -9007199254740992 <= (V : Int) /\ (V : Int) <= 9007199254740992
        . have HR := hid (hX.trans (if_pos hr))
          rw [hvl, decide_eq_true hr] at HV;clear hX hvl hr;go_wp2_with (go_at_call 138; refine (HV.out _).mono ?_; rintro e w3 ⟨rfl, rfl⟩)
          go_ret2
          exact ⟨by rw [HR.out]; rfl, rfl⟩
        . have HR := hid (hX.trans (if_neg hr))
          rw [hvl, decide_eq_false hr] at HV;clear hX hvl hr;go_wp2_with (go_at_call 138; refine (HV.out _).mono ?_; rintro e w3 ⟨rfl, rfl⟩)
          go_ret2
          exact ⟨by rw [HR.out]; rfl, rfl⟩
   . have hpz0 : ¬ (0 : Int) < (s.size : Int) := by omega
     clear hn;have HR := hid (HBAD.out (Or.inl (by rw [show s.data.toList = [] from List.eq_nil_of_length_eq_zero (by rw [size_list]; omega)]; rfl)));rw [show digB s.data.toList = false by rw [show s.data.toList = [] from List.eq_nil_of_length_eq_zero (by rw [size_list]; omega)]; rfl] at HC;clear HBAD HGOOD;go_enter Tryz.func102, Tryz.ntmps102;go_wp2_with (go_at_call 137; refine HC.out.mono ?_; rintro e w1 ⟨rfl, rfl⟩)
     go_ret2
     exact ⟨by rw [HR.out]; rfl, rfl⟩
end Go.Proofs.YtpnogmicfomofaaGreatDoor.Adr
