import Derived.Test.YtedpdpcibkceeaaDoorChk
import Derived.Deep.DeepCutAuto
/-
  Contract of the reference's shaped. Conditions: those ahead of each theorem.
-/
namespace Go.Proofs.YtedpdpcibkceeaaDoor
open Go.RowKit Go.Sort Go.Lib
open Go.Lib (hid)
set_option linter.unusedSimpArgs false
set_option linter.unusedVariables false

def numB (k n : Int) : Bool := decide (k = 2) || (decide (k = 1) && (decide (n = 0) || decide (n = 1))) || decide (n = 0)
def strB (k : Int) (s : ByteArray) : Bool := decide (k = 3) || decide (s.size = 0)
def itemsB (k : Int) (ni : Nat) : Bool := decide (k = 4) || decide (k = 5) || decide (ni = 0)
def keysB (k : Int) (ni nk : Nat) : Bool := if k = 5 then decide (nk = ni) else decide (nk = 0)
theorem shapedB_eq (k n : Int) (s : ByteArray) (ni nk : Nat) : shapedB k n s ni nk = (decide (0 ≤ k) && decide (k ≤ 6) && numB k n && strB k s && itemsB k ni && keysB k ni nk) := rfl
theorem str_empty {s : ByteArray} (h : s.size = 0) : s.toList = [] := by
  rw [ByteArray.toList_eq]; exact List.eq_nil_of_length_eq_zero (by rw [Array.length_toList]; exact h)
theorem str_empty_no {s : ByteArray} (h : ¬ s.size = 0) : s.toList.isEmpty = false := by
  rw [Bool.eq_false_iff]; intro e
  rw [List.isEmpty_iff, ByteArray.toList_eq] at e
  apply h
  have := congrArg List.length e
  rw [Array.length_toList] at this; exact this

set_option maxRecDepth 100000 in
set_option maxHeartbeats 4000000 in
theorem rshaped_k (k n : Int) (s : ByteArray) (ni nk : Nat) (r : Option Addr) (c : Nat) (rk : Option Addr) (ck : Nat) (w : World) (hni : ni ≤ 10000000000000) (hnk : nk ≤ 10000000000000) (hs : s.size ≤ maxLen) :
    Calls Tryd.prog 81 #[.agg #[.int .i64 k, .int .i64 n, .string s, .slice r ni c, .slice rk nk ck]] w fun e w' => e = .returned (.bool (shapedB k n s ni nk)) ∧ Below w.heap.size w w' := by
  have HN := hid (shapedB_eq k n s ni nk)
  unfold maxLen at hs
  have B0 := hid (show Below w.heap.size w (w.alloc (.cells #[.int .i64 k, .int .i64 n, .string s, .slice r ni c, .slice rk nk ck] 26)) from (Below.refl _ _).alloc (Nat.le_refl _) _)
  go_enter Tryd.func81, Tryd.ntmps81

  go_upto_region 1 with fail
  go_cut [3] (fun s3 wx => s3 = .bool (numB k n) ∧ (w.alloc (.cells #[.int .i64 k, .int .i64 n, .string s, .slice r ni c, .slice rk nk ck] 26)) = wx)
  case first =>
    by_cases k2 : k = 2
    · subst k2
      go_wp2_with fail
      go_meet
      exact ⟨by simp [numB, strB, itemsB, keysB, *], rfl⟩
    · by_cases k1 : k = 1
      · subst k1
        by_cases n0 : n = 0
        · subst n0
          go_wp2_with fail
          go_meet
          exact ⟨by simp [numB, strB, itemsB, keysB, *], rfl⟩
        · by_cases n1 : n = 1
          · subst n1
            go_wp2_with fail
            go_meet
            exact ⟨by simp [numB, strB, itemsB, keysB, *], rfl⟩
          · have qn0 : (n == 0) = false := by simpa using n0
            have qn1 : (n == 1) = false := by simpa using n1
            go_wp2_with fail
            go_meet
            exact ⟨by simp [numB, strB, itemsB, keysB, *], rfl⟩
      · have qk2 : (k == 2) = false := by simpa using k2
        have qk1 : (k == 1) = false := by simpa using k1
        by_cases n0 : n = 0
        · subst n0
          go_wp2_with fail
          go_meet
          exact ⟨by simp [numB, strB, itemsB, keysB, *], rfl⟩
        · have qn0 : (n == 0) = false := by simpa using n0
          go_wp2_with fail
          go_meet
          exact ⟨by simp [numB, strB, itemsB, keysB, *], rfl⟩
  case rest =>
  obtain ⟨rfl, rfl⟩ := hcut
  go_upto_region 2 with fail
  go_cut [4] (fun s3 wx => s3 = .bool (strB k s) ∧ (w.alloc (.cells #[.int .i64 k, .int .i64 n, .string s, .slice r ni c, .slice rk nk ck] 26)) = wx)
  case first =>
    by_cases k3 : k = 3
    · subst k3
      go_wp2_with fail
      go_meet
      exact ⟨by simp [numB, strB, itemsB, keysB, *], rfl⟩
    · have qk3 : (k == 3) = false := by simpa using k3
      by_cases s0 : s.size = 0
      · have e1 := str_empty s0
        go_wp2_with fail
        go_meet
        exact ⟨by simp [numB, strB, itemsB, keysB, *], rfl⟩
      · have e1 := str_empty_no s0
        go_wp2_with fail
        go_meet
        exact ⟨by simp [numB, strB, itemsB, keysB, *], rfl⟩
  case rest =>
  obtain ⟨rfl, rfl⟩ := hcut
  go_upto_region 3 with fail
  go_cut [5] (fun s3 wx => s3 = .bool (itemsB k ni) ∧ (w.alloc (.cells #[.int .i64 k, .int .i64 n, .string s, .slice r ni c, .slice rk nk ck] 26)) = wx)
  case first =>
    by_cases k4 : k = 4
    · subst k4
      go_wp2_with fail
      go_meet
      exact ⟨by simp [numB, strB, itemsB, keysB, *], rfl⟩
    · have qk4 : (k == 4) = false := by simpa using k4
      by_cases k5 : k = 5
      · subst k5
        go_wp2_with fail
        go_meet
        exact ⟨by simp [numB, strB, itemsB, keysB, *], rfl⟩
      · have qk5 : (k == 5) = false := by simpa using k5
        by_cases i0 : ni = 0
        · subst i0
          go_wp2_with fail
          go_meet
          exact ⟨by simp [numB, strB, itemsB, keysB, *], rfl⟩
        · have e1 : ((ni : Int) == 0) = false := by simp; omega
          go_wp2_with fail
          go_meet
          exact ⟨by simp [numB, strB, itemsB, keysB, *], rfl⟩
  case rest =>
  obtain ⟨rfl, rfl⟩ := hcut
  go_upto_region 4 with fail
  go_cut [6] (fun s3 wx => s3 = .bool (keysB k ni nk) ∧ (w.alloc (.cells #[.int .i64 k, .int .i64 n, .string s, .slice r ni c, .slice rk nk ck] 26)) = wx)
  case first =>
    by_cases k5 : k = 5
    · subst k5
      by_cases i0 : nk = ni
      · subst i0
        go_wp2_with fail
        go_meet
        exact ⟨by simp [numB, strB, itemsB, keysB, *], rfl⟩
      · have e1 : ((nk : Int) == (ni : Int)) = false := by simp; omega
        go_wp2_with fail
        go_meet
        exact ⟨by simp [numB, strB, itemsB, keysB, *], rfl⟩
    · have qk5 : (k == 5) = false := by simpa using k5
      have q2' : (k != 5) = true := by simpa using k5
      by_cases i0 : nk = 0
      · subst i0
        go_wp2_with fail
        go_meet
        exact ⟨by simp [numB, strB, itemsB, keysB, *], rfl⟩
      · have e1 : ((nk : Int) == 0) = false := by simp; omega
        go_wp2_with fail
        go_meet
        exact ⟨by simp [numB, strB, itemsB, keysB, *], rfl⟩
  case rest =>
  obtain ⟨rfl, rfl⟩ := hcut
  generalize numB k n = b1 at *
  generalize strB k s = b2 at *
  generalize itemsB k ni = b3 at *
  generalize keysB k ni nk = b4 at *
  generalize hB : (w.alloc (.cells #[.int .i64 k, .int .i64 n, .string s, .slice r ni c, .slice rk nk ck] 26)) = W0 at *
  have c0 : W0.cell? ⟨w.heap.size, 0, none⟩ = some (.int .i64 k) := by rw [← hB]; exact cell_at rfl rfl
  clear hB
  by_cases k0 : 0 ≤ k
  · by_cases k6 : k ≤ 6
    · cases b1
      · have HF := hid (show shapedB k n s ni nk = false by rw [HN.out]; simp [*])
        go_wp2
        go_ret
        exact ⟨ret_bool HF.out, B0.out⟩
      cases b2
      · have HF := hid (show shapedB k n s ni nk = false by rw [HN.out]; simp [*])
        go_wp2
        go_ret
        exact ⟨ret_bool HF.out, B0.out⟩
      cases b3
      · have HF := hid (show shapedB k n s ni nk = false by rw [HN.out]; simp [*])
        go_wp2
        go_ret
        exact ⟨ret_bool HF.out, B0.out⟩
      cases b4
      · have HF := hid (show shapedB k n s ni nk = false by rw [HN.out]; simp [*])
        go_wp2
        go_ret
        exact ⟨ret_bool HF.out, B0.out⟩
      have HF := hid (show shapedB k n s ni nk = true by rw [HN.out]; simp [*])
      go_wp2
      go_ret
      exact ⟨ret_bool HF.out, B0.out⟩
    · have : 6 < k := by omega
      have HF := hid (show shapedB k n s ni nk = false by rw [HN.out]; simp [*])
      go_wp2
      go_ret
      exact ⟨ret_bool HF.out, B0.out⟩
  · have : k < 0 := by omega
    have HF := hid (show shapedB k n s ni nk = false by rw [HN.out]; simp [*])
    go_wp2
    go_ret
    exact ⟨ret_bool HF.out, B0.out⟩

theorem rshaped_any (x : Val) (r : Option Addr) (c : Nat) (rk : Option Addr) (ck : Nat) (w : World) (hx : VR5 w r c rk ck x) :
    Calls Tryd.prog 81 #[.agg #[.int .i64 x.kind, .int .i64 x.num, .string x.str, .slice r x.items.length c, .slice rk x.keys.length ck]] w fun e w' => e = .returned (.bool (shapedB x.kind x.num x.str x.items.length x.keys.length)) ∧ Below w.heap.size w w' := by
  obtain ⟨_, _, _, _, hs, hkl, hil⟩ := hx.parts
  exact rshaped_k _ _ _ _ _ _ _ _ _ _ hil hkl hs
end Go.Proofs.YtedpdpcibkceeaaDoor
