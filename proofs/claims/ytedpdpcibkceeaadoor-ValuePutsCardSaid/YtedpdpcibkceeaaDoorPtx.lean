import Derived.Test.YtedpdpcibkceeaaDoorRchk
import Derived.Test.YtedpdpcibkceeaaDoorShelf
/-
  Contracts of the program's number.Valid, strlit.Valid, text and shaped. Conditions: those ahead of each theorem.
-/
namespace Go.Proofs.YtedpdpcibkceeaaDoor
open Go.RowKit Go.Sort Go.Lib
open Go.Lib (hid)
set_option linter.unusedVariables false
set_option linter.unusedSimpArgs false

/-- The library's two tables stand in the world. -/
def UT (w : World) : Prop := Lib.Utf8Tabs (Tryd.lays196_ren.g 3) (Tryd.lays196_ren.g 4) w
theorem UT.below {w w' : World} (h : UT w) (hb : Below w.heap.size w w') : UT w' :=
  ⟨fun c hc => bget hb (h.1 c hc), fun i hi => ⟨bget hb (h.2 i hi).1, bget hb (h.2 i hi).2⟩⟩
theorem pvalid01_any (n : Int) (w : World) : Calls Tryd.prog 64 #[.int .i64 n] w fun e w' => e = .returned (.bool (decide (-9007199254740992 ≤ n) && decide (n ≤ 9007199254740992))) ∧ w = w' := by
  by_cases h1 : -9007199254740992 ≤ n
  · by_cases h2 : n ≤ 9007199254740992
    · have HN := hid (show (decide (-9007199254740992 ≤ n) && decide (n ≤ 9007199254740992)) = true by simp [h1, h2])
      go_enter Tryd.func64, Tryd.ntmps64
      go_wp2
      go_ret
      exact ⟨ret_bool HN.out, rfl⟩
    · have HN := hid (show decide (n ≤ 9007199254740992) = false by simp [h2])
      go_enter Tryd.func64, Tryd.ntmps64
      go_wp2
      go_ret
      exact ⟨ret_bool (by simp [HN.out]), rfl⟩
  · have HN := hid (show (decide (-9007199254740992 ≤ n) && decide (n ≤ 9007199254740992)) = false by simp [h1])
    go_enter Tryd.func64, Tryd.ntmps64
    go_wp2
    go_ret
    exact ⟨ret_bool HN.out, rfl⟩
theorem pvalid_any (s : ByteArray) (w : World) (hu : UT w) (hs : s.size ≤ 4096) : Calls Tryd.prog 80 #[.string s] w fun e w' => e = .returned (.bool (vU s)) ∧ Below w.heap.size w w' := by
  have C : Hid (Calls Tryd.prog 98 #[.string s] w fun e w' => e = .returned (.bool (vU s)) ∧ Below w.heap.size w w') := hid (Any.utf8_ValidString Tryd.lays196 s w (by omega) hu)
  have hz : (s.size : Int) ≤ 4096 := by omega
  clear hu
  generalize vU s = v at *
  go_enter Tryd.func80, Tryd.ntmps80
  go_wp2_with fail
  refine C.out.mono ?_
  rintro e w1 ⟨rfl, hb1⟩
  have HB := hid hb1
  clear hb1
  go_wp2
  go_ret
  exact ⟨rfl, HB.out⟩
theorem ptext_any (s : ByteArray) (w : World) (hu : UT w) :
    Calls Tryd.prog 65 #[.string s] w fun e w' => e = .returned (.int .i64 (textE vU s)) ∧ Below w.heap.size w w' := by
  have HN := hid (show textE vU s = if 4096 < s.size then 3 else if vU s = true then 0 else 1 from rfl)
  by_cases h1 : 4096 < s.size
  · have HN := hid (HN.out.trans (if_pos h1))
    have h1z : (4096 : Int) < (s.size : Int) := by omega
    go_enter Tryd.func65, Tryd.ntmps65
    go_wp2
    go_ret
    exact ⟨ret_int HN.out, Below.refl _ _⟩
  have HN1 := hid (HN.out.trans (if_neg h1))
  have h1z : (s.size : Int) ≤ 4096 := by omega
  have C := hid (pvalid_any s w hu (by omega))
  clear HN hu
  cases hv : vU s
  all_goals
    rw [hv] at C HN1
    have HF := hid HN1.out
    clear hv HN1
    go_enter Tryd.func65, Tryd.ntmps65
    go_wp2_with fail
    refine C.out.mono ?_
    rintro e w1 ⟨rfl, hb1⟩
    have HB := hid hb1
    clear hb1
    go_wp2
    go_ret
    exact ⟨ret_int (by rw [HF.out]; rfl), HB.out⟩

set_option maxRecDepth 100000 in
set_option maxHeartbeats 8000000 in
theorem pshaped_k (k n : Int) (s : ByteArray) (ni nk : Nat) (r : Option Addr) (c : Nat) (rk : Option Addr) (ck : Nat) (w : World) (hni : ni ≤ 10000000000000) (hnk : nk ≤ 10000000000000) (hs : s.size ≤ 9223372036854775807) :
    Calls Tryd.prog 63 #[.agg #[.int .i64 k, .int .i64 n, .string s, .slice r ni c, .slice rk nk ck]] w fun e w' => e = .returned (.bool (shapedB k n s ni nk)) ∧ Below w.heap.size w w' := by
  have B0 := hid (show Below w.heap.size w (w.alloc (.cells #[.int .i64 k, .int .i64 n, .string s, .slice r ni c, .slice rk nk ck] 26)) from (Below.refl _ _).alloc (Nat.le_refl _) _)
  by_cases k0 : k < 0
  · have HX := hid (show shapedB k n s ni nk = false by rw [shapedB_eq, decide_eq_false (show ¬ 0 ≤ k by omega)]; simp)
    go_enter Tryd.func63, Tryd.ntmps63
    go_wp2
    go_ret
    exact ⟨ret_bool HX.out, B0.out⟩
  by_cases k6 : 6 < k
  · have HX := hid (show shapedB k n s ni nk = false by rw [shapedB_eq, decide_eq_false (show ¬ k ≤ 6 by omega)]; simp)
    go_enter Tryd.func63, Tryd.ntmps63
    go_wp2
    go_ret
    exact ⟨ret_bool HX.out, B0.out⟩
  have hk : k = 0 ∨ k = 1 ∨ k = 2 ∨ k = 3 ∨ k = 4 ∨ k = 5 ∨ k = 6 := by omega
  clear k0 k6
  rcases hk with rfl | rfl | rfl | rfl | rfl | rfl | rfl
  · by_cases n0 : n = 0
    · subst n0
      by_cases s0 : s.size = 0
      · have e4 := str_empty s0
        by_cases i0 : ni = 0
        · have e2 : ¬ 0 < ni := by omega
          have e3 : ¬ (0 : Int) < (ni : Int) := by omega
          by_cases m0 : nk = 0
          · have HX := hid (show shapedB 0 0 s ni nk = true by rw [shapedB_eq]; simp [numB, strB, itemsB, keysB, *])
            have e1 : ((nk : Int) == 0) = true := by simp; omega
            try clear m0
            try clear i0
            try clear s0
            go_enter Tryd.func63, Tryd.ntmps63
            go_wp2
            go_ret
            exact ⟨ret_bool HX.out, B0.out⟩
          · have HX := hid (show shapedB 0 0 s ni nk = false by rw [shapedB_eq]; simp [numB, strB, itemsB, keysB, *])
            have e1 : ((nk : Int) == 0) = false := by simp; omega
            try clear m0
            try clear i0
            try clear s0
            go_enter Tryd.func63, Tryd.ntmps63
            go_wp2
            go_ret
            exact ⟨ret_bool HX.out, B0.out⟩
        · have HX := hid (show shapedB 0 0 s ni nk = false by rw [shapedB_eq]; simp [numB, strB, itemsB, keysB, *])
          have e2 : 0 < ni := by omega
          have e3 : (0 : Int) < (ni : Int) := by omega
          try clear m0
          try clear i0
          try clear s0
          go_enter Tryd.func63, Tryd.ntmps63
          go_wp2
          go_ret
          exact ⟨ret_bool HX.out, B0.out⟩
      · have e4 := str_empty_no s0
        have HX := hid (show shapedB 0 0 s ni nk = false by rw [shapedB_eq]; simp [numB, strB, itemsB, keysB, *])
        try clear m0
        try clear i0
        try clear s0
        go_enter Tryd.func63, Tryd.ntmps63
        go_wp2
        go_ret
        exact ⟨ret_bool HX.out, B0.out⟩
    · have HX := hid (show shapedB 0 n s ni nk = false by rw [shapedB_eq]; simp [numB, strB, itemsB, keysB, *])
      have e5 : (n == 0) = false := by simpa using n0
      have e7 : (n != 0) = true := by simpa using n0
      try clear m0
      try clear i0
      try clear s0
      go_enter Tryd.func63, Tryd.ntmps63
      go_wp2
      go_ret
      exact ⟨ret_bool HX.out, B0.out⟩
  · by_cases n0 : n = 0
    · subst n0
      by_cases s0 : s.size = 0
      · have e4 := str_empty s0
        by_cases i0 : ni = 0
        · have e2 : ¬ 0 < ni := by omega
          have e3 : ¬ (0 : Int) < (ni : Int) := by omega
          by_cases m0 : nk = 0
          · have HX := hid (show shapedB 1 0 s ni nk = true by rw [shapedB_eq]; simp [numB, strB, itemsB, keysB, *])
            have e1 : ((nk : Int) == 0) = true := by simp; omega
            try clear m0
            try clear i0
            try clear s0
            go_enter Tryd.func63, Tryd.ntmps63
            go_wp2
            go_ret
            exact ⟨ret_bool HX.out, B0.out⟩
          · have HX := hid (show shapedB 1 0 s ni nk = false by rw [shapedB_eq]; simp [numB, strB, itemsB, keysB, *])
            have e1 : ((nk : Int) == 0) = false := by simp; omega
            try clear m0
            try clear i0
            try clear s0
            go_enter Tryd.func63, Tryd.ntmps63
            go_wp2
            go_ret
            exact ⟨ret_bool HX.out, B0.out⟩
        · have HX := hid (show shapedB 1 0 s ni nk = false by rw [shapedB_eq]; simp [numB, strB, itemsB, keysB, *])
          have e2 : 0 < ni := by omega
          have e3 : (0 : Int) < (ni : Int) := by omega
          try clear m0
          try clear i0
          try clear s0
          go_enter Tryd.func63, Tryd.ntmps63
          go_wp2
          go_ret
          exact ⟨ret_bool HX.out, B0.out⟩
      · have e4 := str_empty_no s0
        have HX := hid (show shapedB 1 0 s ni nk = false by rw [shapedB_eq]; simp [numB, strB, itemsB, keysB, *])
        try clear m0
        try clear i0
        try clear s0
        go_enter Tryd.func63, Tryd.ntmps63
        go_wp2
        go_ret
        exact ⟨ret_bool HX.out, B0.out⟩
    · by_cases n1 : n = 1
      · subst n1
        by_cases s0 : s.size = 0
        · have e4 := str_empty s0
          by_cases i0 : ni = 0
          · have e2 : ¬ 0 < ni := by omega
            have e3 : ¬ (0 : Int) < (ni : Int) := by omega
            by_cases m0 : nk = 0
            · have HX := hid (show shapedB 1 1 s ni nk = true by rw [shapedB_eq]; simp [numB, strB, itemsB, keysB, *])
              have e1 : ((nk : Int) == 0) = true := by simp; omega
              try clear m0
              try clear i0
              try clear s0
              go_enter Tryd.func63, Tryd.ntmps63
              go_wp2
              go_ret
              exact ⟨ret_bool HX.out, B0.out⟩
            · have HX := hid (show shapedB 1 1 s ni nk = false by rw [shapedB_eq]; simp [numB, strB, itemsB, keysB, *])
              have e1 : ((nk : Int) == 0) = false := by simp; omega
              try clear m0
              try clear i0
              try clear s0
              go_enter Tryd.func63, Tryd.ntmps63
              go_wp2
              go_ret
              exact ⟨ret_bool HX.out, B0.out⟩
          · have HX := hid (show shapedB 1 1 s ni nk = false by rw [shapedB_eq]; simp [numB, strB, itemsB, keysB, *])
            have e2 : 0 < ni := by omega
            have e3 : (0 : Int) < (ni : Int) := by omega
            try clear m0
            try clear i0
            try clear s0
            go_enter Tryd.func63, Tryd.ntmps63
            go_wp2
            go_ret
            exact ⟨ret_bool HX.out, B0.out⟩
        · have e4 := str_empty_no s0
          have HX := hid (show shapedB 1 1 s ni nk = false by rw [shapedB_eq]; simp [numB, strB, itemsB, keysB, *])
          try clear m0
          try clear i0
          try clear s0
          go_enter Tryd.func63, Tryd.ntmps63
          go_wp2
          go_ret
          exact ⟨ret_bool HX.out, B0.out⟩
      · have HX := hid (show shapedB 1 n s ni nk = false by rw [shapedB_eq]; simp [numB, strB, itemsB, keysB, *])
        have e5 : (n == 0) = false := by simpa using n0
        have e6 : (n == 1) = false := by simpa using n1
        have e7 : (n != 0) = true := by simpa using n0
        have e8 : (n != 1) = true := by simpa using n1
        try clear m0
        try clear i0
        try clear s0
        go_enter Tryd.func63, Tryd.ntmps63
        go_wp2
        go_ret
        exact ⟨ret_bool HX.out, B0.out⟩
  · by_cases s0 : s.size = 0
    · have e4 := str_empty s0
      by_cases i0 : ni = 0
      · have e2 : ¬ 0 < ni := by omega
        have e3 : ¬ (0 : Int) < (ni : Int) := by omega
        by_cases m0 : nk = 0
        · have HX := hid (show shapedB 2 n s ni nk = true by rw [shapedB_eq]; simp [numB, strB, itemsB, keysB, *])
          have e1 : ((nk : Int) == 0) = true := by simp; omega
          try clear m0
          try clear i0
          try clear s0
          go_enter Tryd.func63, Tryd.ntmps63
          go_wp2
          go_ret
          exact ⟨ret_bool HX.out, B0.out⟩
        · have HX := hid (show shapedB 2 n s ni nk = false by rw [shapedB_eq]; simp [numB, strB, itemsB, keysB, *])
          have e1 : ((nk : Int) == 0) = false := by simp; omega
          try clear m0
          try clear i0
          try clear s0
          go_enter Tryd.func63, Tryd.ntmps63
          go_wp2
          go_ret
          exact ⟨ret_bool HX.out, B0.out⟩
      · have HX := hid (show shapedB 2 n s ni nk = false by rw [shapedB_eq]; simp [numB, strB, itemsB, keysB, *])
        have e2 : 0 < ni := by omega
        have e3 : (0 : Int) < (ni : Int) := by omega
        try clear m0
        try clear i0
        try clear s0
        go_enter Tryd.func63, Tryd.ntmps63
        go_wp2
        go_ret
        exact ⟨ret_bool HX.out, B0.out⟩
    · have e4 := str_empty_no s0
      have HX := hid (show shapedB 2 n s ni nk = false by rw [shapedB_eq]; simp [numB, strB, itemsB, keysB, *])
      try clear m0
      try clear i0
      try clear s0
      go_enter Tryd.func63, Tryd.ntmps63
      go_wp2
      go_ret
      exact ⟨ret_bool HX.out, B0.out⟩
  · by_cases n0 : n = 0
    · subst n0
      by_cases i0 : ni = 0
      · have e2 : ¬ 0 < ni := by omega
        have e3 : ¬ (0 : Int) < (ni : Int) := by omega
        by_cases m0 : nk = 0
        · have HX := hid (show shapedB 3 0 s ni nk = true by rw [shapedB_eq]; simp [numB, strB, itemsB, keysB, *])
          have e1 : ((nk : Int) == 0) = true := by simp; omega
          try clear m0
          try clear i0
          try clear s0
          go_enter Tryd.func63, Tryd.ntmps63
          go_wp2
          go_ret
          exact ⟨ret_bool HX.out, B0.out⟩
        · have HX := hid (show shapedB 3 0 s ni nk = false by rw [shapedB_eq]; simp [numB, strB, itemsB, keysB, *])
          have e1 : ((nk : Int) == 0) = false := by simp; omega
          try clear m0
          try clear i0
          try clear s0
          go_enter Tryd.func63, Tryd.ntmps63
          go_wp2
          go_ret
          exact ⟨ret_bool HX.out, B0.out⟩
      · have HX := hid (show shapedB 3 0 s ni nk = false by rw [shapedB_eq]; simp [numB, strB, itemsB, keysB, *])
        have e2 : 0 < ni := by omega
        have e3 : (0 : Int) < (ni : Int) := by omega
        try clear m0
        try clear i0
        try clear s0
        go_enter Tryd.func63, Tryd.ntmps63
        go_wp2
        go_ret
        exact ⟨ret_bool HX.out, B0.out⟩
    · have HX := hid (show shapedB 3 n s ni nk = false by rw [shapedB_eq]; simp [numB, strB, itemsB, keysB, *])
      have e5 : (n == 0) = false := by simpa using n0
      have e7 : (n != 0) = true := by simpa using n0
      try clear m0
      try clear i0
      try clear s0
      go_enter Tryd.func63, Tryd.ntmps63
      go_wp2
      go_ret
      exact ⟨ret_bool HX.out, B0.out⟩
  · by_cases n0 : n = 0
    · subst n0
      by_cases s0 : s.size = 0
      · have e4 := str_empty s0
        by_cases m0 : nk = 0
        · have HX := hid (show shapedB 4 0 s ni nk = true by rw [shapedB_eq]; simp [numB, strB, itemsB, keysB, *])
          have e1 : ((nk : Int) == 0) = true := by simp; omega
          try clear m0
          try clear i0
          try clear s0
          go_enter Tryd.func63, Tryd.ntmps63
          go_wp2
          go_ret
          exact ⟨ret_bool HX.out, B0.out⟩
        · have HX := hid (show shapedB 4 0 s ni nk = false by rw [shapedB_eq]; simp [numB, strB, itemsB, keysB, *])
          have e1 : ((nk : Int) == 0) = false := by simp; omega
          try clear m0
          try clear i0
          try clear s0
          go_enter Tryd.func63, Tryd.ntmps63
          go_wp2
          go_ret
          exact ⟨ret_bool HX.out, B0.out⟩
      · have e4 := str_empty_no s0
        have HX := hid (show shapedB 4 0 s ni nk = false by rw [shapedB_eq]; simp [numB, strB, itemsB, keysB, *])
        try clear m0
        try clear i0
        try clear s0
        go_enter Tryd.func63, Tryd.ntmps63
        go_wp2
        go_ret
        exact ⟨ret_bool HX.out, B0.out⟩
    · have HX := hid (show shapedB 4 n s ni nk = false by rw [shapedB_eq]; simp [numB, strB, itemsB, keysB, *])
      have e5 : (n == 0) = false := by simpa using n0
      have e7 : (n != 0) = true := by simpa using n0
      try clear m0
      try clear i0
      try clear s0
      go_enter Tryd.func63, Tryd.ntmps63
      go_wp2
      go_ret
      exact ⟨ret_bool HX.out, B0.out⟩
  · by_cases n0 : n = 0
    · subst n0
      by_cases s0 : s.size = 0
      · have e4 := str_empty s0
        by_cases m0 : nk = ni
        · have HX := hid (show shapedB 5 0 s ni nk = true by rw [shapedB_eq]; simp [numB, strB, itemsB, keysB, *])
          have e1 : ((nk : Int) == (ni : Int)) = true := by simp; omega
          try clear m0
          try clear i0
          try clear s0
          go_enter Tryd.func63, Tryd.ntmps63
          go_wp2
          go_ret
          exact ⟨ret_bool HX.out, B0.out⟩
        · have HX := hid (show shapedB 5 0 s ni nk = false by rw [shapedB_eq]; simp [numB, strB, itemsB, keysB, *])
          have e1 : ((nk : Int) == (ni : Int)) = false := by simp; omega
          try clear m0
          try clear i0
          try clear s0
          go_enter Tryd.func63, Tryd.ntmps63
          go_wp2
          go_ret
          exact ⟨ret_bool HX.out, B0.out⟩
      · have e4 := str_empty_no s0
        have HX := hid (show shapedB 5 0 s ni nk = false by rw [shapedB_eq]; simp [numB, strB, itemsB, keysB, *])
        try clear m0
        try clear i0
        try clear s0
        go_enter Tryd.func63, Tryd.ntmps63
        go_wp2
        go_ret
        exact ⟨ret_bool HX.out, B0.out⟩
    · have HX := hid (show shapedB 5 n s ni nk = false by rw [shapedB_eq]; simp [numB, strB, itemsB, keysB, *])
      have e5 : (n == 0) = false := by simpa using n0
      have e7 : (n != 0) = true := by simpa using n0
      try clear m0
      try clear i0
      try clear s0
      go_enter Tryd.func63, Tryd.ntmps63
      go_wp2
      go_ret
      exact ⟨ret_bool HX.out, B0.out⟩
  · by_cases n0 : n = 0
    · subst n0
      by_cases s0 : s.size = 0
      · have e4 := str_empty s0
        by_cases i0 : ni = 0
        · have e2 : ¬ 0 < ni := by omega
          have e3 : ¬ (0 : Int) < (ni : Int) := by omega
          by_cases m0 : nk = 0
          · have HX := hid (show shapedB 6 0 s ni nk = true by rw [shapedB_eq]; simp [numB, strB, itemsB, keysB, *])
            have e1 : ((nk : Int) == 0) = true := by simp; omega
            try clear m0
            try clear i0
            try clear s0
            go_enter Tryd.func63, Tryd.ntmps63
            go_wp2
            go_ret
            exact ⟨ret_bool HX.out, B0.out⟩
          · have HX := hid (show shapedB 6 0 s ni nk = false by rw [shapedB_eq]; simp [numB, strB, itemsB, keysB, *])
            have e1 : ((nk : Int) == 0) = false := by simp; omega
            try clear m0
            try clear i0
            try clear s0
            go_enter Tryd.func63, Tryd.ntmps63
            go_wp2
            go_ret
            exact ⟨ret_bool HX.out, B0.out⟩
        · have HX := hid (show shapedB 6 0 s ni nk = false by rw [shapedB_eq]; simp [numB, strB, itemsB, keysB, *])
          have e2 : 0 < ni := by omega
          have e3 : (0 : Int) < (ni : Int) := by omega
          try clear m0
          try clear i0
          try clear s0
          go_enter Tryd.func63, Tryd.ntmps63
          go_wp2
          go_ret
          exact ⟨ret_bool HX.out, B0.out⟩
      · have e4 := str_empty_no s0
        have HX := hid (show shapedB 6 0 s ni nk = false by rw [shapedB_eq]; simp [numB, strB, itemsB, keysB, *])
        try clear m0
        try clear i0
        try clear s0
        go_enter Tryd.func63, Tryd.ntmps63
        go_wp2
        go_ret
        exact ⟨ret_bool HX.out, B0.out⟩
    · have HX := hid (show shapedB 6 n s ni nk = false by rw [shapedB_eq]; simp [numB, strB, itemsB, keysB, *])
      have e5 : (n == 0) = false := by simpa using n0
      have e7 : (n != 0) = true := by simpa using n0
      try clear m0
      try clear i0
      try clear s0
      go_enter Tryd.func63, Tryd.ntmps63
      go_wp2
      go_ret
      exact ⟨ret_bool HX.out, B0.out⟩

theorem pshaped_any (x : Val) (r : Option Addr) (c : Nat) (rk : Option Addr) (ck : Nat) (w : World) (hx : VR5 w r c rk ck x) :
    Calls Tryd.prog 63 #[.agg #[.int .i64 x.kind, .int .i64 x.num, .string x.str, .slice r x.items.length c, .slice rk x.keys.length ck]] w fun e w' => e = .returned (.bool (shapedB x.kind x.num x.str x.items.length x.keys.length)) ∧ Below w.heap.size w w' := by
  obtain ⟨_, _, _, _, hs, hkl, hil⟩ := hx.parts
  exact pshaped_k _ _ _ _ _ _ _ _ _ _ hil hkl (by unfold maxLen at hs; omega)
end Go.Proofs.YtedpdpcibkceeaaDoor
