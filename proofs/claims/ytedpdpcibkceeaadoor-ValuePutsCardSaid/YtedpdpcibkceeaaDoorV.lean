/-
  Values of the configuration language in plain Lean (layer 7): sizes, the bound of nodes, equality, order, refinement. No program in sight. No conditions.
-/
namespace Go.Proofs.YtedpdpcibkceeaaDoor
set_option linter.unusedVariables false
set_option linter.unusedSimpArgs false

inductive Val where
  | mk (kind num : Int) (str : ByteArray) (items : List Val) (keys : List ByteArray)
namespace Val
def kind : Val → Int | .mk k _ _ _ _ => k
def num : Val → Int | .mk _ n _ _ _ => n
def str : Val → ByteArray | .mk _ _ s _ _ => s
def items : Val → List Val | .mk _ _ _ is _ => is
def keys : Val → List ByteArray | .mk _ _ _ _ ks => ks
theorem size_items : ∀ (x y : Val), y ∈ x.items → sizeOf y < sizeOf x
  | .mk k n s is ks, y, h => by
    have := List.sizeOf_lt_of_mem (show y ∈ is from h)
    simp; omega
theorem ind {P : Val → Prop} (h : ∀ x : Val, (∀ y ∈ x.items, P y) → P x) (x : Val) : P x :=
  h x fun y hy => have := size_items x y hy; ind h y
termination_by sizeOf x
end Val

mutual
def nodes : Val → Nat
  | .mk _ _ _ is _ => 1 + nodesL is
def nodesL : List Val → Nat
  | [] => 0
  | x :: xs => nodes x + nodesL xs
end
mutual
def nkeys : Val → Nat
  | .mk _ _ _ is ks => ks.length + nkeysL is
def nkeysL : List Val → Nat
  | [] => 0
  | x :: xs => nkeys x + nkeysL xs
end
mutual
def leftV : Val → Int → Int → Int
  | .mk _ _ _ is _, n, l => if n < 1 ∨ l < 1 then -1 else leftL is (n - 1) (l - 1)
def leftL : List Val → Int → Int → Int
  | [], n, _ => n
  | x :: xs, n, l => if 0 ≤ n then leftL xs (leftV x n l) l else n
end
mutual
def depth : Val → Nat
  | .mk _ _ _ is _ => 1 + depthL is
def depthL : List Val → Nat
  | [] => 0
  | x :: xs => max (depth x) (depthL xs)
end

theorem nodes_pos (x : Val) : 1 ≤ nodes x := by cases x; unfold nodes; omega
theorem nodes_eq (x : Val) : nodes x = 1 + nodesL x.items := by cases x; rw [nodes]; rfl
theorem nkeys_eq (x : Val) : nkeys x = x.keys.length + nkeysL x.items := by cases x; rw [nkeys]; rfl
theorem leftV_eq (x : Val) (n l : Int) : leftV x n l = if n < 1 ∨ l < 1 then -1 else leftL x.items (n - 1) (l - 1) := by cases x; rw [leftV]; rfl
theorem depth_eq (x : Val) : depth x = 1 + depthL x.items := by cases x; rw [depth]; rfl
theorem nodes_mem {is : List Val} {x : Val} (h : x ∈ is) : nodes x ≤ nodesL is := by
  induction is with
  | nil => cases h
  | cons y ys ih =>
    rw [nodesL]
    rcases List.mem_cons.1 h with rfl | h
    · omega
    · have := ih h; omega
theorem nodesL_append (a b : List Val) : nodesL (a ++ b) = nodesL a + nodesL b := by
  induction a with
  | nil => simp [nodesL]
  | cons y ys ih => simp only [List.cons_append, nodesL, ih]; omega
theorem nkeysL_append (a b : List Val) : nkeysL (a ++ b) = nkeysL a + nkeysL b := by
  induction a with
  | nil => simp [nkeysL]
  | cons y ys ih => simp only [List.cons_append, nkeysL, ih]; omega
theorem nodesL_len (is : List Val) : is.length ≤ nodesL is := by
  induction is with
  | nil => simp
  | cons y ys ih => have := nodes_pos y; simp [nodesL]; omega
theorem leftL_neg (is : List Val) (n l : Int) (h : n < 0) : leftL is n l = n := by
  cases is with
  | nil => rw [leftL]
  | cons x xs => rw [leftL, if_neg (by omega)]
theorem leftL_append (a b : List Val) (n l : Int) : leftL (a ++ b) n l = leftL b (leftL a n l) l := by
  induction a generalizing n with
  | nil => rw [List.nil_append, leftL]
  | cons x xs ih =>
    rw [List.cons_append, leftL, leftL]
    by_cases h : 0 ≤ n
    · rw [if_pos h, if_pos h, ih]
    · rw [if_neg h, if_neg h, leftL_neg b n l (by omega)]
theorem left_spec (x : Val) : ∀ n l : Int, (0 ≤ leftV x n l → leftV x n l = n - nodes x ∧ (depth x : Int) ≤ l) ∧ -1 ≤ leftV x n l := by
  refine Val.ind (P := fun x => ∀ n l : Int, (0 ≤ leftV x n l → leftV x n l = n - nodes x ∧ (depth x : Int) ≤ l) ∧ -1 ≤ leftV x n l) ?_ x
  intro x ih n l
  rw [leftV_eq, nodes_eq, depth_eq]
  by_cases h : n < 1 ∨ l < 1
  · rw [if_pos h]; exact ⟨fun h => by omega, by omega⟩
  · rw [if_neg h]
    have key : ∀ (is : List Val), (∀ y ∈ is, ∀ n l : Int, (0 ≤ leftV y n l → leftV y n l = n - nodes y ∧ (depth y : Int) ≤ l) ∧ -1 ≤ leftV y n l) → ∀ (m l : Int), -1 ≤ m → 0 ≤ l →
        (0 ≤ leftL is m l → leftL is m l = m - nodesL is ∧ (depthL is : Int) ≤ l) ∧ -1 ≤ leftL is m l := by
      intro is
      induction is with
      | nil => intro _ m l hm hl; rw [leftL, nodesL, depthL]; exact ⟨fun _ => ⟨by simp, by simpa using hl⟩, hm⟩
      | cons y ys ihy =>
        intro hy m l hm hl
        rw [leftL, nodesL, depthL]
        by_cases h0 : 0 ≤ m
        · rw [if_pos h0]
          obtain ⟨h1, h2⟩ := hy y (List.mem_cons_self) m l
          obtain ⟨h3, h4⟩ := ihy (fun z hz => hy z (List.mem_cons_of_mem _ hz)) (leftV y m l) l h2 hl
          refine ⟨fun h5 => ?_, h4⟩
          have h6 : 0 ≤ leftV y m l := by
            apply Decidable.byContradiction
            intro hn
            rw [leftL_neg ys _ l (by omega)] at h5
            omega
          obtain ⟨e1, e2⟩ := h1 h6
          obtain ⟨e3, e4⟩ := h3 h5
          refine ⟨by rw [e3, e1]; omega, by omega⟩
        · rw [if_neg h0]
          exact ⟨fun h => by omega, hm⟩
    obtain ⟨h1, h2⟩ := key x.items ih (n - 1) (l - 1) (by omega) (by omega)
    refine ⟨fun h5 => ?_, h2⟩
    obtain ⟨e1, e2⟩ := h1 h5
    exact ⟨by rw [e1]; omega, by omega⟩

/-- The bound of the statements: at most k nodes on at most 40 levels, and few keys. -/
def smallB (x : Val) (k : Nat) : Bool := decide (0 ≤ leftV x k 40) && decide (nkeys x ≤ 2 * k)
theorem small_of {x : Val} {k : Nat} (h : smallB x k = true) : nodes x ≤ k ∧ nkeys x ≤ 2 * k ∧ depth x ≤ 40 := by
  simp only [smallB, Bool.and_eq_true, decide_eq_true_eq] at h
  obtain ⟨e1, e2⟩ := (left_spec x k 40).1 h.1
  refine ⟨by omega, h.2, by omega⟩
end Go.Proofs.YtedpdpcibkceeaaDoor
