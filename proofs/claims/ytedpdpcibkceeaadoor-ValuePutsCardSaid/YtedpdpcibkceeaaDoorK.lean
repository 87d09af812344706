import Derived.Test.YtedpdpcibkceeaaDoorR
/-
  Validity of values in plain Lean (layer 7): the first error in preorder, what a valid value is like, and the limits. No program in sight. Conditions: those ahead of each theorem.
-/
namespace Go.Proofs.YtedpdpcibkceeaaDoor
set_option linter.unusedSimpArgs false
set_option linter.unusedVariables false

def ltS (a b : ByteArray) : Prop := a.data.toList < b.data.toList
instance (a b : ByteArray) : Decidable (ltS a b) := inferInstanceAs (Decidable (a.data.toList < b.data.toList))

def textE (vld : ByteArray → Bool) (s : ByteArray) : Int := if 4096 < s.size then 3 else if vld s then 0 else 1
def orderB : Option ByteArray → ByteArray → Bool
  | none, _ => true
  | some p, k => decide (ltS p k)
def keysE (vld : ByteArray → Bool) : Option ByteArray → List ByteArray → Int
  | _, [] => 0
  | p, k :: ks => if textE vld k ≠ 0 then textE vld k else if orderB p k then keysE vld (some k) ks else 1
def shapedB (k n : Int) (s : ByteArray) (ni nk : Nat) : Bool :=
  decide (0 ≤ k) && decide (k ≤ 6) && (decide (k = 2) || (decide (k = 1) && (decide (n = 0) || decide (n = 1))) || decide (n = 0)) && (decide (k = 3) || decide (s.size = 0)) && (decide (k = 4) || decide (k = 5) || decide (ni = 0)) && (if k = 5 then decide (nk = ni) else decide (nk = 0))
def nodeE (vld : ByteArray → Bool) (k n : Int) (s : ByteArray) (ni : Nat) (ks : List ByteArray) : Int :=
  if shapedB k n s ni ks.length then (if k = 2 then (if -9007199254740992 ≤ n ∧ n ≤ 9007199254740992 then 0 else 5) else if k = 3 then textE vld s else if k = 5 then keysE vld none ks else 0) else 1
def nodeV (vld : ByteArray → Bool) (x : Val) : Int := nodeE vld x.kind x.num x.str x.items.length x.keys
mutual
def chkV (vld : ByteArray → Bool) : Val → Int → Nat → Int × Nat
  | .mk k n s is ks, lv, b => if 32 < lv then (4, b) else if 4096 ≤ b then (14, b) else if nodeE vld k n s is.length ks ≠ 0 then (nodeE vld k n s is.length ks, b) else chkL vld is (lv + 1) (b + 1)
def chkL (vld : ByteArray → Bool) : List Val → Int → Nat → Int × Nat
  | [], _, b => (0, b)
  | x :: xs, lv, b => if (chkV vld x lv b).1 ≠ 0 then chkV vld x lv b else chkL vld xs lv (chkV vld x lv b).2
end
def checkV (vld : ByteArray → Bool) (x : Val) : Int := (chkV vld x 1 0).1
theorem chkV_eq (vld : ByteArray → Bool) (x : Val) (lv : Int) (b : Nat) : chkV vld x lv b = if 32 < lv then (4, b) else if 4096 ≤ b then (14, b) else if nodeV vld x ≠ 0 then (nodeV vld x, b) else chkL vld x.items (lv + 1) (b + 1) := by cases x; rw [chkV]; rfl

inductive Ok (vld : ByteArray → Bool) : Val → Prop where
  | mk (x : Val) (h1 : nodeV vld x = 0) (h2 : ∀ y ∈ x.items, Ok vld y) : Ok vld x
theorem Ok.items {vld : ByteArray → Bool} {x y : Val} (h : Ok vld x) (hy : y ∈ x.items) : Ok vld y := by cases h; rename_i h1 h2; exact h2 y hy
theorem Ok.self {vld : ByteArray → Bool} {x : Val} (h : Ok vld x) : nodeV vld x = 0 := by cases h; assumption

theorem chkL_mem (vld : ByteArray → Bool) : ∀ (xs : List Val) (lv : Int) (b : Nat), (∀ y ∈ xs, ∀ lv b, (chkV vld y lv b).1 = 0 → Ok vld y ∧ (chkV vld y lv b).2 = b + nodes y ∧ lv + depth y ≤ 33) → (chkL vld xs lv b).1 = 0 → (∀ y ∈ xs, Ok vld y) ∧ (chkL vld xs lv b).2 = b + nodesL xs ∧ (xs = [] ∨ lv + depthL xs ≤ 33)
  | [], lv, b, _, _ => ⟨by simp, by simp [chkL, nodesL], .inl rfl⟩
  | x :: xs, lv, b, h, h0 => by
    rw [chkL] at h0 ⊢
    by_cases hx : (chkV vld x lv b).1 = 0
    · rw [if_neg (by simpa using hx)] at h0 ⊢
      obtain ⟨e1, e2, e3⟩ := h x List.mem_cons_self lv b hx
      obtain ⟨d1, d2, d3⟩ := chkL_mem vld xs lv _ (fun y hy => h y (List.mem_cons_of_mem _ hy)) h0
      refine ⟨fun y hy => ?_, ?_, .inr ?_⟩
      · rcases List.mem_cons.1 hy with rfl | hy
        · exact e1
        · exact d1 y hy
      · rw [d2, e2, nodesL]; omega
      · rw [depthL]
        rcases d3 with rfl | d3
        · simp only [depthL]; omega
        · omega
    · rw [if_pos hx] at h0; exact absurd h0 hx

theorem chk_ok (vld : ByteArray → Bool) (x : Val) : ∀ lv b, (chkV vld x lv b).1 = 0 → Ok vld x ∧ (chkV vld x lv b).2 = b + nodes x ∧ lv + depth x ≤ 33 := by
  refine Val.ind (P := fun x => ∀ lv b, (chkV vld x lv b).1 = 0 → Ok vld x ∧ (chkV vld x lv b).2 = b + nodes x ∧ lv + depth x ≤ 33) ?_ x
  intro x ih lv b h
  rw [chkV_eq] at h ⊢
  by_cases h1 : 32 < lv
  · rw [if_pos h1] at h; simp at h
  · rw [if_neg h1] at h ⊢
    by_cases h2 : 4096 ≤ b
    · rw [if_pos h2] at h; simp at h
    · rw [if_neg h2] at h ⊢
      by_cases h3 : nodeV vld x = 0
      · rw [if_neg (by simpa using h3)] at h ⊢
        obtain ⟨e1, e2, e3⟩ := chkL_mem vld x.items (lv + 1) (b + 1) ih h
        refine ⟨.mk x h3 e1, by rw [e2, nodes_eq]; omega, ?_⟩
        rw [depth_eq]
        rcases e3 with e3 | e3
        · rw [e3]; simp only [depthL]; omega
        · omega
      · rw [if_pos h3] at h; exact absurd h h3

theorem shaped_of {vld : ByteArray → Bool} {x : Val} (h : nodeV vld x = 0) : shapedB x.kind x.num x.str x.items.length x.keys.length = true := by
  unfold nodeV nodeE at h
  cases hs : shapedB x.kind x.num x.str x.items.length x.keys.length
  · rw [hs] at h; simp at h
  · rfl
theorem Ok.shp {vld : ByteArray → Bool} {x : Val} (h : Ok vld x) : Shp x := by
  induction h with
  | mk x h1 h2 ih =>
    have hs := shaped_of h1
    simp only [shapedB, Bool.and_eq_true] at hs
    refine .mk x (fun hk => ?_) (fun hk => ?_) ih
    · have := hs.2; rw [if_pos hk] at this; simpa using this
    · have := hs.2; rw [if_neg hk] at this
      simpa using this
theorem size_zero {s : ByteArray} (h : s.size = 0) : s = ⟨#[]⟩ := by
  apply ba_ext
  have e : s.data.toList.length = 0 := by rw [Array.length_toList]; exact h
  exact List.eq_nil_of_length_eq_zero e
theorem Ok.unk {vld : ByteArray → Bool} {x : Val} (h : Ok vld x) : Unk x := by
  induction h with
  | mk x h1 h2 ih =>
    have hs := shaped_of h1
    simp only [shapedB, Bool.and_eq_true] at hs
    refine .mk x (fun hk => ?_) ih
    simp [hk] at hs
    obtain ⟨⟨⟨h3, h4⟩, h5⟩, h6⟩ := hs
    exact ⟨h3, size_zero (by simpa using h4), h5, h6⟩

/-- Ascending, each before the next. -/
def AscS : List ByteArray → Prop
  | [] => True
  | [_] => True
  | a :: b :: l => ltS a b ∧ AscS (b :: l)
theorem keysE_asc {vld : ByteArray → Bool} : ∀ (ks : List ByteArray) (p : Option ByteArray), keysE vld p ks = 0 → (∀ k ∈ ks, textE vld k = 0) ∧ AscS ks ∧ (match ks with | [] => True | k :: _ => orderB p k = true)
  | [], p, _ => ⟨by simp, trivial, trivial⟩
  | k :: ks, p, h => by
    rw [keysE] at h
    by_cases h1 : textE vld k = 0
    · rw [if_neg (by simpa using h1)] at h
      cases h2 : orderB p k
      · rw [h2] at h; simp at h
      · rw [h2, if_pos rfl] at h
        obtain ⟨e1, e2, e3⟩ := keysE_asc ks (some k) h
        refine ⟨fun x hx => ?_, ?_, h2⟩
        · rcases List.mem_cons.1 hx with rfl | hx
          · exact h1
          · exact e1 x hx
        · cases ks with
          | nil => trivial
          | cons k2 ks => exact ⟨by simpa [orderB] using e3, e2⟩
    · rw [if_pos h1] at h; exact absurd h h1
theorem Ok.asc {vld : ByteArray → Bool} {x : Val} (h : Ok vld x) : AscS x.keys := by
  have h1 := h.self
  have hs := shaped_of h1
  by_cases hk : x.kind = 5
  · unfold nodeV nodeE at h1
    rw [if_pos hs, if_neg (by omega), if_neg (by omega), if_pos hk] at h1
    exact (keysE_asc _ _ h1).2.1
  · simp only [shapedB, Bool.and_eq_true] at hs
    have := hs.2
    rw [if_neg hk] at this
    have : x.keys = [] := by simpa using this
    rw [this]; trivial
end Go.Proofs.YtedpdpcibkceeaaDoor
