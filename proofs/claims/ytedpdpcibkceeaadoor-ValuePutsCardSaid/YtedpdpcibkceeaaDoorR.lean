import Derived.Test.YtedpdpcibkceeaaDoorC
/-
  Refinement and equality of values in plain Lean (layer 7). No program in sight. Conditions: those ahead of each theorem.
-/
namespace Go.Proofs.YtedpdpcibkceeaaDoor
set_option linter.unusedSimpArgs false
set_option linter.unusedVariables false

mutual
def eqV : Val → Val → Bool
  | .mk k n s is ks, .mk k' n' s' is' ks' => decide (k = k') && decide (n = n') && decide (s = s') && decide (ks = ks') && eqL is is'
def eqL : List Val → List Val → Bool
  | [], [] => true
  | x :: xs, y :: ys => eqV x y && eqL xs ys
  | _, _ => false
end
mutual
def rfnV : Val → Val → Bool
  | .mk k n s is ks, .mk k' n' s' is' ks' => decide (k' = 6) || (decide (k = k') && decide (n = n') && decide (s = s') && decide (ks = ks') && rfnL is is')
def rfnL : List Val → List Val → Bool
  | [], [] => true
  | x :: xs, y :: ys => rfnV x y && rfnL xs ys
  | _, _ => false
end
mutual
def knownV : Val → Bool
  | .mk k _ _ is _ => !decide (k = 6) && knownL is
def knownL : List Val → Bool
  | [] => true
  | x :: xs => knownV x && knownL xs
end
theorem eqV_eq (a b : Val) : eqV a b = (decide (a.kind = b.kind) && decide (a.num = b.num) && decide (a.str = b.str) && decide (a.keys = b.keys) && eqL a.items b.items) := by cases a; cases b; rw [eqV]; rfl
theorem rfnV_eq (a b : Val) : rfnV a b = (decide (b.kind = 6) || (decide (a.kind = b.kind) && decide (a.num = b.num) && decide (a.str = b.str) && decide (a.keys = b.keys) && rfnL a.items b.items)) := by cases a; cases b; rw [rfnV]; rfl
theorem knownV_eq (a : Val) : knownV a = (!decide (a.kind = 6) && knownL a.items) := by cases a; rw [knownV]; rfl
theorem Val.ext' {a b : Val} (h1 : a.kind = b.kind) (h2 : a.num = b.num) (h3 : a.str = b.str) (h4 : a.items = b.items) (h5 : a.keys = b.keys) : a = b := by
  cases a; cases b
  simp only [Val.kind, Val.num, Val.str, Val.items, Val.keys] at h1 h2 h3 h4 h5
  subst h1 h2 h3 h4 h5; rfl

theorem eqV_iff (a : Val) : ∀ b, eqV a b = true ↔ a = b := by
  refine Val.ind (P := fun a => ∀ b, eqV a b = true ↔ a = b) ?_ a
  intro a ih b
  have key : ∀ (xs : List Val), (∀ y ∈ xs, ∀ b, eqV y b = true ↔ y = b) → ∀ ys, eqL xs ys = true ↔ xs = ys := by
    intro xs
    induction xs with
    | nil => intro _ ys; cases ys <;> simp [eqL]
    | cons x xs ihx =>
      intro h ys
      cases ys with
      | nil => simp [eqL]
      | cons y ys => rw [eqL, Bool.and_eq_true, h x List.mem_cons_self, ihx (fun z hz => h z (List.mem_cons_of_mem _ hz))]; simp
  rw [eqV_eq]
  simp only [Bool.and_eq_true, decide_eq_true_eq, key a.items ih]
  constructor
  · rintro ⟨⟨⟨⟨h1, h2⟩, h3⟩, h4⟩, h5⟩; exact Val.ext' h1 h2 h3 h5 h4
  · rintro rfl; exact ⟨⟨⟨⟨rfl, rfl⟩, rfl⟩, rfl⟩, rfl⟩

theorem rfn_refl (a : Val) : rfnV a a = true := by
  refine Val.ind (P := fun a => rfnV a a = true) ?_ a
  intro a ih
  have key : ∀ (xs : List Val), (∀ y ∈ xs, rfnV y y = true) → rfnL xs xs = true := by
    intro xs
    induction xs with
    | nil => intro _; rfl
    | cons x xs ihx => intro h; rw [rfnL, h x List.mem_cons_self, ihx (fun z hz => h z (List.mem_cons_of_mem _ hz))]; rfl
  rw [rfnV_eq, key a.items ih]; simp
theorem rfn_unknown (a b : Val) (h : b.kind = 6) : rfnV a b = true := by rw [rfnV_eq]; simp [h]

theorem rfn_trans (a : Val) : ∀ b c, rfnV a b = true → rfnV b c = true → rfnV a c = true := by
  refine Val.ind (P := fun a => ∀ b c, rfnV a b = true → rfnV b c = true → rfnV a c = true) ?_ a
  intro a ih b c hab hbc
  have key : ∀ (xs : List Val), (∀ y ∈ xs, ∀ b c, rfnV y b = true → rfnV b c = true → rfnV y c = true) → ∀ ys zs, rfnL xs ys = true → rfnL ys zs = true → rfnL xs zs = true := by
    intro xs
    induction xs with
    | nil => intro _ ys zs h1 h2; cases ys <;> simp_all [rfnL]
    | cons x xs ihx =>
      intro h ys zs h1 h2
      cases ys with
      | nil => simp [rfnL] at h1
      | cons y ys =>
        cases zs with
        | nil => simp [rfnL] at h2
        | cons z zs =>
          rw [rfnL, Bool.and_eq_true] at h1 h2 ⊢
          exact ⟨h x List.mem_cons_self y z h1.1 h2.1, ihx (fun z hz => h z (List.mem_cons_of_mem _ hz)) ys zs h1.2 h2.2⟩
  rw [rfnV_eq] at hab hbc ⊢
  by_cases hc : c.kind = 6
  · simp [hc]
  · simp only [hc, decide_false, Bool.false_or, Bool.and_eq_true, decide_eq_true_eq] at hbc
    obtain ⟨⟨⟨⟨e1, e2⟩, e3⟩, e4⟩, e5⟩ := hbc
    have hb : ¬ b.kind = 6 := by rw [e1]; exact hc
    simp only [hb, decide_false, Bool.false_or, Bool.and_eq_true, decide_eq_true_eq] at hab
    obtain ⟨⟨⟨⟨d1, d2⟩, d3⟩, d4⟩, d5⟩ := hab
    simp only [hc, decide_false, Bool.false_or, Bool.and_eq_true, decide_eq_true_eq]
    exact ⟨⟨⟨⟨d1.trans e1, d2.trans e2⟩, d3.trans e3⟩, d4.trans e4⟩, key a.items ih _ _ d5 e5⟩

/-- An unknown value has no other field, all the way down. -/
inductive Unk : Val → Prop where
  | mk (x : Val) (h1 : x.kind = 6 → x.num = 0 ∧ x.str = ⟨#[]⟩ ∧ x.items = [] ∧ x.keys = []) (h3 : ∀ y ∈ x.items, Unk y) : Unk x
theorem Unk.items {x y : Val} (h : Unk x) (hy : y ∈ x.items) : Unk y := by cases h; rename_i h1 h3; exact h3 y hy
theorem Unk.self {x : Val} (h : Unk x) (hk : x.kind = 6) : x.num = 0 ∧ x.str = ⟨#[]⟩ ∧ x.items = [] ∧ x.keys = [] := by cases h; rename_i h1 h3; exact h1 hk

theorem rfn_anti (a : Val) : ∀ b, Unk a → Unk b → rfnV a b = true → rfnV b a = true → a = b := by
  refine Val.ind (P := fun a => ∀ b, Unk a → Unk b → rfnV a b = true → rfnV b a = true → a = b) ?_ a
  intro a ih b ua ub hab hba
  have key : ∀ (xs : List Val), (∀ y ∈ xs, ∀ b, Unk y → Unk b → rfnV y b = true → rfnV b y = true → y = b) → ∀ ys, (∀ y ∈ xs, Unk y) → (∀ y ∈ ys, Unk y) → rfnL xs ys = true → rfnL ys xs = true → xs = ys := by
    intro xs
    induction xs with
    | nil => intro _ ys _ _ h1 h2; cases ys <;> simp_all [rfnL]
    | cons x xs ihx =>
      intro h ys u1 u2 h1 h2
      cases ys with
      | nil => simp [rfnL] at h1
      | cons y ys =>
        rw [rfnL, Bool.and_eq_true] at h1 h2
        rw [h x List.mem_cons_self y (u1 x List.mem_cons_self) (u2 y List.mem_cons_self) h1.1 h2.1, ihx (fun z hz => h z (List.mem_cons_of_mem _ hz)) ys (fun z hz => u1 z (List.mem_cons_of_mem _ hz)) (fun z hz => u2 z (List.mem_cons_of_mem _ hz)) h1.2 h2.2]
  rw [rfnV_eq] at hab hba
  by_cases hb : b.kind = 6
  · by_cases ha : a.kind = 6
    · obtain ⟨e1, e2, e3, e4⟩ := ua.self ha
      obtain ⟨d1, d2, d3, d4⟩ := ub.self hb
      exact Val.ext' (ha.trans hb.symm) (e1.trans d1.symm) (e2.trans d2.symm) (e3.trans d3.symm) (e4.trans d4.symm)
    · simp only [ha, decide_false, Bool.false_or, Bool.and_eq_true, decide_eq_true_eq] at hba
      exact absurd (hba.1.1.1.1.symm.trans hb) ha
  · simp only [hb, decide_false, Bool.false_or, Bool.and_eq_true, decide_eq_true_eq] at hab
    obtain ⟨⟨⟨⟨d1, d2⟩, d3⟩, d4⟩, d5⟩ := hab
    have ha : ¬ a.kind = 6 := by rw [d1]; exact hb
    simp only [ha, decide_false, Bool.false_or, Bool.and_eq_true, decide_eq_true_eq] at hba
    exact Val.ext' d1 d2 d3 (key a.items ih b.items (fun y hy => ua.items hy) (fun y hy => ub.items hy) d5 hba.2) d4

theorem rfn_known (a : Val) : ∀ b, knownV b = true → rfnV a b = true → a = b := by
  refine Val.ind (P := fun a => ∀ b, knownV b = true → rfnV a b = true → a = b) ?_ a
  intro a ih b hk hab
  have key : ∀ (xs : List Val), (∀ y ∈ xs, ∀ b, knownV b = true → rfnV y b = true → y = b) → ∀ ys, knownL ys = true → rfnL xs ys = true → xs = ys := by
    intro xs
    induction xs with
    | nil => intro _ ys _ h1; cases ys <;> simp_all [rfnL]
    | cons x xs ihx =>
      intro h ys h2 h1
      cases ys with
      | nil => simp [rfnL] at h1
      | cons y ys =>
        rw [rfnL, Bool.and_eq_true] at h1
        rw [knownL, Bool.and_eq_true] at h2
        rw [h x List.mem_cons_self y h2.1 h1.1, ihx (fun z hz => h z (List.mem_cons_of_mem _ hz)) ys h2.2 h1.2]
  rw [rfnV_eq] at hab
  rw [knownV_eq] at hk
  simp only [Bool.and_eq_true, Bool.not_eq_true', decide_eq_false_iff_not] at hk
  simp only [hk.1, decide_false, Bool.false_or, Bool.and_eq_true, decide_eq_true_eq] at hab
  obtain ⟨⟨⟨⟨d1, d2⟩, d3⟩, d4⟩, d5⟩ := hab
  exact Val.ext' d1 d2 d3 (key a.items ih b.items hk.2 d5) d4

theorem rfn_nodes (a : Val) : ∀ b, Unk b → rfnV a b = true → nodes b ≤ nodes a := by
  refine Val.ind (P := fun a => ∀ b, Unk b → rfnV a b = true → nodes b ≤ nodes a) ?_ a
  intro a ih b ub hab
  have key : ∀ (xs : List Val), (∀ y ∈ xs, ∀ b, Unk b → rfnV y b = true → nodes b ≤ nodes y) → ∀ ys, (∀ y ∈ ys, Unk y) → rfnL xs ys = true → nodesL ys ≤ nodesL xs := by
    intro xs
    induction xs with
    | nil => intro _ ys _ h1; cases ys <;> simp_all [rfnL]
    | cons x xs ihx =>
      intro h ys u h1
      cases ys with
      | nil => simp [rfnL] at h1
      | cons y ys =>
        rw [rfnL, Bool.and_eq_true] at h1
        have e1 := h x List.mem_cons_self y (u y List.mem_cons_self) h1.1
        have e2 := ihx (fun z hz => h z (List.mem_cons_of_mem _ hz)) ys (fun z hz => u z (List.mem_cons_of_mem _ hz)) h1.2
        rw [nodesL, nodesL]; omega
  rw [rfnV_eq] at hab
  rw [nodes_eq, nodes_eq]
  by_cases hb : b.kind = 6
  · rw [(ub.self hb).2.2.1]; simp [nodesL]
  · simp only [hb, decide_false, Bool.false_or, Bool.and_eq_true, decide_eq_true_eq] at hab
    have := key a.items ih b.items (fun y hy => ub.items hy) hab.2
    omega
end Go.Proofs.YtedpdpcibkceeaaDoor
