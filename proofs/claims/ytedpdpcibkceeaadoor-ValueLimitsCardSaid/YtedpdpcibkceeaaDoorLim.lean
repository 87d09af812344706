import Derived.Test.YtedpdpcibkceeaaDoorAwp
/-
  The limits of levels, nodes and strings in plain Lean. No program in sight. No conditions beyond those ahead of each theorem.
-/
namespace Go.Proofs.YtedpdpcibkceeaaDoor
open Go.Lib
set_option linter.unusedVariables false
set_option linter.unusedSimpArgs false

def nestV : Nat → Val
  | 0 => litV 0 0 ⟨#[]⟩
  | k + 1 => .mk 4 0 ⟨#[]⟩ [nestV k] []
theorem nest_nodes (k : Nat) : nodes (nestV k) = k + 1 := by
  induction k with
  | zero => simp [nestV, litV, nodes, nodesL]
  | succ k ih => rw [nestV, nodes, nodesL, nodesL, ih]; omega
theorem nest_nkeys (k : Nat) : nkeys (nestV k) = 0 := by
  induction k with
  | zero => simp [nestV, litV, nkeys, nkeysL]
  | succ k ih => rw [nestV, nkeys, nkeysL, nkeysL, ih]; rfl
theorem null_node : nodeV vU (litV 0 0 ⟨#[]⟩) = 0 := by simp [litV, nodeV, nodeE, shapedB, Val.kind, Val.num, Val.str, Val.items, Val.keys, ByteArray.size]
theorem list_node (is : List Val) : nodeV vU (.mk 4 0 ⟨#[]⟩ is []) = 0 := by simp [nodeV, nodeE, shapedB, Val.kind, Val.num, Val.str, Val.items, Val.keys, ByteArray.size]
theorem null_chk (lv : Int) (b : Nat) (h : ¬ 32 < lv) : chkV vU (litV 0 0 ⟨#[]⟩) lv b = if 4096 ≤ b then (14, b) else (0, b + 1) := by
  rw [chkV_eq, if_neg h]
  by_cases hb : 4096 ≤ b
  · rw [if_pos hb, if_pos hb]
  · rw [if_neg hb, if_neg hb, if_neg (by rw [null_node]; simp)]
    simp [litV, Val.items, chkL]
theorem nest_chk (m : Nat) : ∀ (lv : Int) (b : Nat), 1 ≤ lv → lv ≤ 33 → b + m < 4096 → (chkV vU (nestV m) lv b).1 = (if 32 < lv + m then 4 else 0) ∧ (¬ 32 < lv + m → (chkV vU (nestV m) lv b).2 = b + m + 1) := by
  induction m with
  | zero =>
    intro lv b h1 h2 h3
    rw [nestV]
    by_cases h : 32 < lv
    · rw [chkV_eq, if_pos h, if_pos (by simpa using h)]
      exact ⟨rfl, fun h' => absurd (by simpa using h) h'⟩
    · rw [null_chk lv b h, if_neg (by omega), if_neg (by simpa using h)]
      exact ⟨rfl, fun _ => rfl⟩
  | succ m ih =>
    intro lv b h1 h2 h3
    rw [nestV, chkV_eq]
    by_cases h : 32 < lv
    · rw [if_pos h, if_pos (by omega)]
      exact ⟨rfl, fun h' => by omega⟩
    · rw [if_neg h, if_neg (by omega), if_neg (by rw [list_node]; simp)]
      obtain ⟨e1, e2⟩ := ih (lv + 1) (b + 1) (by omega) (by omega) (by omega)
      simp only [Val.items]
      have hk : chkL vU [nestV m] (lv + 1) (b + 1) = if (chkV vU (nestV m) (lv + 1) (b + 1)).1 ≠ 0 then chkV vU (nestV m) (lv + 1) (b + 1) else (0, (chkV vU (nestV m) (lv + 1) (b + 1)).2) := by
        rw [chkL]
        split <;> rfl
      rw [hk]
      by_cases hd : 32 < lv + ((m + 1 : Nat) : Int)
      · rw [if_pos (show 32 < lv + 1 + (m : Int) by omega)] at e1
        rw [if_pos (by rw [e1]; omega), if_pos hd]
        exact ⟨e1, fun h' => absurd hd h'⟩
      · rw [if_neg (show ¬ 32 < lv + 1 + (m : Int) by omega)] at e1
        rw [if_neg (by rw [e1]; omega), if_neg hd]
        exact ⟨rfl, fun _ => by simp only; rw [e2 (by omega)]; omega⟩
theorem nest_check (m : Nat) (h : m ≤ 1000) : checkV vU (nestV m) = if 32 < m + 1 then 4 else 0 := by
  unfold checkV
  rw [(nest_chk m 1 0 (by omega) (by omega) (by omega)).1]
  by_cases h : 32 < m + 1
  · rw [if_pos h, if_pos (by omega)]
  · rw [if_neg h, if_neg (by omega)]
theorem nulls_chk (n : Nat) : ∀ (b : Nat), b ≤ 4096 → (chkL vU (List.replicate n (litV 0 0 ⟨#[]⟩)) 2 b).1 = if 4096 < b + n then 14 else 0 := by
  induction n with
  | zero => intro b hb; rw [List.replicate_zero, chkL, if_neg (by omega)]
  | succ n ih =>
    intro b hb
    rw [List.replicate_succ, chkL, null_chk 2 b (by omega)]
    by_cases h : 4096 ≤ b
    · simp [h]
      omega
    · simp only [if_neg h]
      simp only [ne_eq, not_true_eq_false, if_false]
      rw [ih (b + 1) (by omega)]
      by_cases h2 : 4096 < b + 1 + n
      · rw [if_pos h2, if_pos (by omega)]
      · rw [if_neg h2, if_neg (by omega)]
theorem nulls_check (n : Nat) : checkV vU (.mk 4 0 ⟨#[]⟩ (List.replicate n (litV 0 0 ⟨#[]⟩)) []) = if 4096 < n + 1 then 14 else 0 := by
  unfold checkV
  rw [chkV_eq, if_neg (by omega), if_neg (by omega), if_neg (by rw [list_node]; simp)]
  simp only [Val.items]
  rw [show (1 + 1 : Int) = 2 from rfl, nulls_chk n (0 + 1) (by omega)]
  by_cases h : 4096 < n + 1
  · rw [if_pos h, if_pos (by omega)]
  · rw [if_neg h, if_neg (by omega)]
theorem nulls_nodes (n : Nat) : nodesL (List.replicate n (litV 0 0 ⟨#[]⟩)) = n := by
  induction n with
  | zero => simp [nodesL]
  | succ n ih => rw [List.replicate_succ, nodesL, ih]; simp [litV, nodes, nodesL]; omega
theorem nulls_nkeys (n : Nat) : nkeysL (List.replicate n (litV 0 0 ⟨#[]⟩)) = 0 := by
  induction n with
  | zero => simp [nkeysL]
  | succ n ih => rw [List.replicate_succ, nkeysL, ih]; simp [litV, nkeys, nkeysL]

def zeroS (n : Nat) : ByteArray := ⟨(List.replicate n (0 : UInt8)).toArray⟩
theorem zeroS_size (n : Nat) : (zeroS n).size = n := by simp [zeroS, ByteArray.size]
theorem zeros_valid (n : Nat) : validD (List.replicate n (0 : UInt8)) = true := by
  induction n with
  | zero => exact validD_nil
  | succ n ih => rw [List.replicate_succ, validD_cons _ _ (by decide)]; exact ih
theorem zeroS_text (n : Nat) : textE vU (zeroS n) = if 4096 < n then 3 else 0 := by
  unfold textE
  rw [zeroS_size]
  have : vU (zeroS n) = true := by unfold vU zeroS; simpa using zeros_valid n
  rw [this, if_pos rfl]
theorem str_check (s : ByteArray) : checkV vU (litV 3 0 s) = textE vU s := by
  unfold checkV
  rw [chkV_eq, if_neg (by omega), if_neg (by omega)]
  have hn : nodeV vU (litV 3 0 s) = textE vU s := by simp [litV, nodeV, nodeE, shapedB, Val.kind, Val.num, Val.str, Val.items, Val.keys]
  rw [hn]
  by_cases h : textE vU s = 0
  · rw [if_neg (by simpa using h), h]; simp [litV, Val.items, chkL]
  · rw [if_pos h]
theorem map_check (s : ByteArray) : checkV vU (.mk 5 0 ⟨#[]⟩ [litV 0 0 ⟨#[]⟩] [s]) = textE vU s := by
  unfold checkV
  rw [chkV_eq, if_neg (by omega), if_neg (by omega)]
  have hn : nodeV vU (.mk 5 0 ⟨#[]⟩ [litV 0 0 ⟨#[]⟩] [s]) = textE vU s := by
    simp [nodeV, nodeE, shapedB, Val.kind, Val.num, Val.str, Val.items, Val.keys, ByteArray.size, keysE, orderB]
    exact fun h => h.symm
  rw [hn]
  by_cases h : textE vU s = 0
  · rw [if_neg (by simpa using h), h]
    simp only [Val.items]
    have e := null_chk (1 + 1) (0 + 1) (by omega)
    rw [if_neg (show ¬ 4096 ≤ 0 + 1 by omega)] at e
    rw [chkL, e]
    simp [chkL]
  · rw [if_pos h]
end Go.Proofs.YtedpdpcibkceeaaDoor
