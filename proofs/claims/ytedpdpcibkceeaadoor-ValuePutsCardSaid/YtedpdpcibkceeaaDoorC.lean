import Derived.Test.YtedpdpcibkceeaaDoorV
/-
  The order of values, equality and refinement in plain Lean (layer 7). No program in sight. Conditions: those ahead of each theorem.
-/
namespace Go.Proofs.YtedpdpcibkceeaaDoor
set_option linter.unusedSimpArgs false
set_option linter.unusedVariables false

def numC (a b : Int) : Int := if a < b then -1 else if b < a then 1 else 0
def cmpS (a b : ByteArray) : Int := if a.data.toList < b.data.toList then -1 else if b.data.toList < a.data.toList then 1 else 0
def lex (x y : Int) : Int := if x = 0 then y else x
mutual
def cmpV : Val → Val → Int
  | .mk k n s is ks, .mk k' n' s' is' ks' => lex (numC k k') (lex (numC n n') (lex (cmpS s s') (cmpL is ks is' ks')))
def cmpL : List Val → List ByteArray → List Val → List ByteArray → Int
  | [], _, [], _ => 0
  | [], _, _ :: _, _ => -1
  | _ :: _, _, [], _ => 1
  | x :: xs, k :: ks, y :: ys, k' :: ks' => lex (cmpS k k') (lex (cmpV x y) (cmpL xs ks ys ks'))
  | x :: xs, [], y :: ys, ks' => lex (cmpV x y) (cmpL xs [] ys ks'.tail)
  | x :: xs, _ :: ks, y :: ys, [] => lex (cmpV x y) (cmpL xs ks ys [])
end

def Tri (x : Int) : Prop := x = -1 ∨ x = 0 ∨ x = 1
theorem numC_tri (a b : Int) : Tri (numC a b) := by unfold numC Tri; split <;> (try split) <;> simp
theorem cmpS_tri (a b : ByteArray) : Tri (cmpS a b) := by unfold cmpS Tri; split <;> (try split) <;> simp
theorem lex_tri {x y : Int} (hx : Tri x) (hy : Tri y) : Tri (lex x y) := by unfold lex; split <;> assumption
theorem numC_anti (a b : Int) : numC b a = -numC a b := by unfold numC; split <;> split <;> omega
theorem lt_asymmL {a b : List UInt8} (h : a < b) : ¬ b < a := List.lt_asymm h
theorem cmpS_anti (a b : ByteArray) : cmpS b a = -cmpS a b := by
  unfold cmpS
  by_cases h1 : a.data.toList < b.data.toList
  · have h2 := lt_asymmL h1
    simp [h1, h2]
  · by_cases h2 : b.data.toList < a.data.toList
    · simp [h1, h2]
    · simp [h1, h2]
theorem lex_anti {x y x' y' : Int} (hx : x' = -x) (hy : y' = -y) : lex x' y' = -lex x y := by
  unfold lex; subst hx hy; split <;> split <;> omega
theorem numC_zero {a b : Int} : numC a b = 0 ↔ a = b := by unfold numC; split <;> (try split) <;> omega
theorem cmpS_self (a : ByteArray) : cmpS a a = 0 := by unfold cmpS; have := List.lt_irrefl a.data.toList; simp [this]
theorem ba_ext {a b : ByteArray} (h : a.data.toList = b.data.toList) : a = b := by
  cases a; cases b; simp at h; subst h; rfl
theorem cmpS_zero {a b : ByteArray} : cmpS a b = 0 ↔ a = b := by
  constructor
  · intro h
    unfold cmpS at h
    split at h
    · omega
    · split at h
      · omega
      · rename_i h1 h2
        exact ba_ext (List.le_antisymm (List.not_lt.1 h2) (List.not_lt.1 h1))
  · rintro rfl; exact cmpS_self a

/-- Three comparisons of three things fit together. -/
def Fit (x y z : Int) : Prop := (x ≤ 0 → y ≤ 0 → z ≤ 0 ∧ (x < 0 ∨ y < 0 → z = -1)) ∧ (x = 0 → y = 0 → z = 0)
theorem numC_fit (a b c : Int) : Fit (numC a b) (numC b c) (numC a c) := by
  unfold Fit numC
  repeat' split
  all_goals omega
theorem cmpS_fit (a b c : ByteArray) : Fit (cmpS a b) (cmpS b c) (cmpS a c) := by
  have key : cmpS a b ≤ 0 → cmpS b c ≤ 0 → cmpS a c ≤ 0 ∧ (cmpS a b < 0 ∨ cmpS b c < 0 → cmpS a c = -1) := by
    intro h1 h2
    by_cases e1 : cmpS a b = 0
    · obtain rfl := cmpS_zero.1 e1
      rcases cmpS_tri a c with h | h | h <;> omega
    · by_cases e2 : cmpS b c = 0
      · obtain rfl := cmpS_zero.1 e2
        rcases cmpS_tri a b with h | h | h <;> omega
      · have l1 : a.data.toList < b.data.toList := by
          apply Decidable.byContradiction; intro h; unfold cmpS at h1 e1; rw [if_neg h] at h1 e1; split at h1 <;> simp_all
        have l2 : b.data.toList < c.data.toList := by
          apply Decidable.byContradiction; intro h; unfold cmpS at h2 e2; rw [if_neg h] at h2 e2; split at h2 <;> simp_all
        have l3 : a.data.toList < c.data.toList := List.lt_trans l1 l2
        have : cmpS a c = -1 := by unfold cmpS; rw [if_pos l3]
        omega
  refine ⟨key, fun h1 h2 => ?_⟩
  obtain rfl := cmpS_zero.1 h1
  exact h2
theorem lex_fit {x y z x' y' z' : Int} (hx : Tri x) (hy : Tri y) (hz : Tri z) (h : Fit x y z) (h' : Fit x' y' z') (hx' : Tri x') (hy' : Tri y') (hz' : Tri z') : Fit (lex x x') (lex y y') (lex z z') := by
  unfold Fit lex at *
  unfold Tri at *
  obtain ⟨h1, h2⟩ := h
  obtain ⟨h3, h4⟩ := h'
  refine ⟨?_, ?_⟩
  · intro a b
    by_cases e1 : x = 0
    · by_cases e2 : y = 0
      · have e3 := h2 e1 e2
        rw [if_pos e1] at a; rw [if_pos e2] at b; rw [if_pos e1, if_pos e2, if_pos e3]
        exact h3 a b
      · rw [if_pos e1] at a; rw [if_neg e2] at b; rw [if_pos e1, if_neg e2]
        have := h1 (by omega) b
        have h5 : z = -1 := this.2 (by omega)
        rw [if_neg (by omega)]
        exact ⟨by omega, fun _ => h5⟩
    · rw [if_neg e1] at a; rw [if_neg e1]
      by_cases e2 : y = 0
      · rw [if_pos e2] at b; rw [if_pos e2]
        have := h1 a (by omega)
        have h5 : z = -1 := this.2 (by omega)
        rw [if_neg (by omega)]
        exact ⟨by omega, fun _ => h5⟩
      · rw [if_neg e2] at b; rw [if_neg e2]
        have := h1 a b
        have h5 : z = -1 := this.2 (by omega)
        rw [if_neg (by omega)]
        exact ⟨by omega, fun _ => h5⟩
  · intro a b
    by_cases e1 : x = 0
    · by_cases e2 : y = 0
      · have e3 := h2 e1 e2
        rw [if_pos e1] at a; rw [if_pos e2] at b; rw [if_pos e3]
        exact h4 a b
      · rw [if_neg e2] at b; omega
    · rw [if_neg e1] at a; omega

theorem cmpV_eq (a b : Val) : cmpV a b = lex (numC a.kind b.kind) (lex (numC a.num b.num) (lex (cmpS a.str b.str) (cmpL a.items a.keys b.items b.keys))) := by
  cases a; cases b; rw [cmpV]; rfl
/-- A node's keys fit its items, all the way down. -/
inductive Shp : Val → Prop where
  | mk (x : Val) (h1 : x.kind = 5 → x.keys.length = x.items.length) (h2 : x.kind ≠ 5 → x.keys = []) (h3 : ∀ y ∈ x.items, Shp y) : Shp x
theorem Shp.items {x y : Val} (h : Shp x) (hy : y ∈ x.items) : Shp y := by cases h; rename_i h1 h2 h3; exact h3 y hy

def KFit (m : Bool) (xs : List Val) (ks : List ByteArray) : Prop := if m then ks.length = xs.length else ks = []
theorem Shp.kfit {x : Val} (h : Shp x) : KFit (x.kind == 5) x.items x.keys := by
  cases h; rename_i h1 h2 h3
  unfold KFit
  by_cases hk : x.kind = 5
  · rw [if_pos (by simpa using hk)]; exact h1 hk
  · rw [if_neg (by simpa using hk)]; exact h2 hk

theorem cmpV_tri (a : Val) : ∀ b, Tri (cmpV a b) := by
  refine Val.ind (P := fun a => ∀ b, Tri (cmpV a b)) ?_ a
  intro a ih b
  rw [cmpV_eq]
  have key : ∀ (xs : List Val), (∀ y ∈ xs, ∀ b, Tri (cmpV y b)) → ∀ ks ys ks', Tri (cmpL xs ks ys ks') := by
    intro xs
    induction xs with
    | nil => intro _ ks ys ks'; cases ys <;> simp [cmpL, Tri]
    | cons x xs ihx =>
      intro h ks ys ks'
      have hx := h x List.mem_cons_self
      have ihx := ihx fun y hy => h y (List.mem_cons_of_mem _ hy)
      cases ys with
      | nil => simp [cmpL, Tri]
      | cons y ys =>
        cases ks with
        | nil => rw [cmpL]; exact lex_tri (hx y) (ihx _ _ _)
        | cons k ks =>
          cases ks' with
          | nil => rw [cmpL]; exact lex_tri (hx y) (ihx _ _ _)
          | cons k' ks' => rw [cmpL]; exact lex_tri (cmpS_tri _ _) (lex_tri (hx y) (ihx _ _ _))
  exact lex_tri (numC_tri _ _) (lex_tri (numC_tri _ _) (lex_tri (cmpS_tri _ _) (key _ ih _ _ _)))

theorem cmpL_tri (xs : List Val) (ks : List ByteArray) (ys : List Val) (ks' : List ByteArray) : Tri (cmpL xs ks ys ks') := by
  have := cmpV_tri (.mk 0 0 ⟨#[]⟩ xs ks) (.mk 0 0 ⟨#[]⟩ ys ks')
  rw [cmpV_eq] at this
  simpa [Val.kind, Val.num, Val.str, Val.items, Val.keys, numC, cmpS_self, lex] using this

theorem cmpV_anti (a : Val) : ∀ b, cmpV b a = -cmpV a b := by
  refine Val.ind (P := fun a => ∀ b, cmpV b a = -cmpV a b) ?_ a
  intro a ih b
  rw [cmpV_eq, cmpV_eq]
  have key : ∀ (xs : List Val), (∀ y ∈ xs, ∀ b, cmpV b y = -cmpV y b) → ∀ ks ys ks', cmpL ys ks' xs ks = -cmpL xs ks ys ks' := by
    intro xs
    induction xs with
    | nil => intro _ ks ys ks'; cases ys <;> simp [cmpL]
    | cons x xs ihx =>
      intro h ks ys ks'
      have hx := h x List.mem_cons_self
      have ihx := ihx fun y hy => h y (List.mem_cons_of_mem _ hy)
      cases ys with
      | nil => simp [cmpL]
      | cons y ys =>
        cases ks with
        | nil =>
          cases ks' with
          | nil => rw [cmpL, cmpL]; exact lex_anti (hx y) (ihx _ _ _)
          | cons k' ks' => rw [cmpL, cmpL]; exact lex_anti (hx y) (ihx _ _ _)
        | cons k ks =>
          cases ks' with
          | nil => rw [cmpL, cmpL]; exact lex_anti (hx y) (ihx _ _ _)
          | cons k' ks' => rw [cmpL, cmpL]; exact lex_anti (cmpS_anti _ _) (lex_anti (hx y) (ihx _ _ _))
  exact lex_anti (numC_anti _ _) (lex_anti (numC_anti _ _) (lex_anti (cmpS_anti _ _) (key _ ih _ _ _)))

theorem lex_zero {x y : Int} : lex x y = 0 ↔ x = 0 ∧ y = 0 := by unfold lex; split <;> omega

theorem cmpV_self (a : Val) : cmpV a a = 0 := by have := cmpV_anti a a; omega

theorem cmpV_zero (a : Val) : ∀ b, Shp a → Shp b → cmpV a b = 0 → a = b := by
  refine Val.ind (P := fun a => ∀ b, Shp a → Shp b → cmpV a b = 0 → a = b) ?_ a
  intro a ih b ha hb h
  rw [cmpV_eq, lex_zero, lex_zero, lex_zero, numC_zero, numC_zero, cmpS_zero] at h
  obtain ⟨e1, e2, e3, e4⟩ := h
  have fa := ha.kfit
  have fb := hb.kfit
  rw [← e1] at fb
  have sa : ∀ y ∈ a.items, Shp y := fun y hy => ha.items hy
  have sb : ∀ y ∈ b.items, Shp y := fun y hy => hb.items hy
  have key : ∀ (m : Bool) (xs : List Val), (∀ y ∈ xs, ∀ b, Shp y → Shp b → cmpV y b = 0 → y = b) → ∀ ks ys ks', (∀ y ∈ xs, Shp y) → (∀ y ∈ ys, Shp y) → KFit m xs ks → KFit m ys ks' → cmpL xs ks ys ks' = 0 → xs = ys ∧ ks = ks' := by
    intro m xs
    induction xs with
    | nil =>
      intro _ ks ys ks' _ _ f1 f2 h
      cases ys with
      | cons y ys => simp [cmpL] at h
      | nil =>
        refine ⟨rfl, ?_⟩
        unfold KFit at f1 f2
        cases m <;> simp_all
    | cons x xs ihx =>
      intro hi ks ys ks' s1 s2 f1 f2 h
      have hx := hi x List.mem_cons_self
      have ihx := ihx fun y hy => hi y (List.mem_cons_of_mem _ hy)
      cases ys with
      | nil => simp [cmpL] at h
      | cons y ys =>
        have s1' : ∀ z ∈ xs, Shp z := fun z hz => s1 z (List.mem_cons_of_mem _ hz)
        have s2' : ∀ z ∈ ys, Shp z := fun z hz => s2 z (List.mem_cons_of_mem _ hz)
        cases m with
        | false =>
          simp only [KFit, Bool.false_eq_true, if_false] at f1 f2
          subst f1 f2
          rw [cmpL, lex_zero] at h
          have h1 := hx y (s1 x List.mem_cons_self) (s2 y List.mem_cons_self) h.1
          have h2 := ihx [] ys [] s1' s2' (by simp [KFit]) (by simp [KFit]) h.2
          exact ⟨by rw [h1, h2.1], rfl⟩
        | true =>
          simp only [KFit, if_true] at f1 f2
          cases ks with
          | nil => simp at f1
          | cons k ks =>
            cases ks' with
            | nil => simp at f2
            | cons k' ks' =>
              rw [cmpL, lex_zero, lex_zero, cmpS_zero] at h
              have h1 := hx y (s1 x List.mem_cons_self) (s2 y List.mem_cons_self) h.2.1
              have h2 := ihx ks ys ks' s1' s2' (by simp [KFit]; simpa using f1) (by simp [KFit]; simpa using f2) h.2.2
              exact ⟨by rw [h1, h2.1], by rw [h.1, h2.2]⟩
  obtain ⟨e5, e6⟩ := key _ a.items ih a.keys b.items b.keys sa sb fa fb e4
  cases a; cases b
  simp only [Val.kind, Val.num, Val.str, Val.items, Val.keys] at e1 e2 e3 e5 e6
  subst e1 e2 e3 e5 e6
  rfl

theorem fit_zero {x y z x' y' z' : Int} (hx : Tri x) (hy : Tri y) (hz : Tri z) (hx' : Tri x') (hy' : Tri y') (hz' : Tri z') (h : Fit x y z) (h' : x = 0 → y = 0 → Fit x' y' z') : Fit (lex x x') (lex y y') (lex z z') := by
  by_cases e : x = 0 ∧ y = 0
  · exact lex_fit hx hy hz h (h' e.1 e.2) hx' hy' hz'
  · unfold Fit lex at *
    unfold Tri at *
    obtain ⟨h1, h2⟩ := h
    refine ⟨?_, ?_⟩
    · intro a b
      have hxl : x ≤ 0 := by split at a <;> omega
      have hyl : y ≤ 0 := by split at b <;> omega
      have h5 : z = -1 := (h1 hxl hyl).2 (by omega)
      rw [if_neg (by omega : ¬ z = 0)]
      exact ⟨by omega, fun _ => h5⟩
    · intro a b
      split at a <;> split at b <;> omega

theorem cmpV_fit (a : Val) : ∀ b c, Shp a → Shp b → Shp c → Fit (cmpV a b) (cmpV b c) (cmpV a c) := by
  refine Val.ind (P := fun a => ∀ b c, Shp a → Shp b → Shp c → Fit (cmpV a b) (cmpV b c) (cmpV a c)) ?_ a
  intro a ih b c ha hb hc
  rw [cmpV_eq a b, cmpV_eq b c, cmpV_eq a c]
  have t4 := cmpL_tri
  have t3 := fun (s s' : ByteArray) xs ks ys ks' => lex_tri (cmpS_tri s s') (t4 xs ks ys ks')
  have t2 := fun (n n' : Int) (s s' : ByteArray) xs ks ys ks' => lex_tri (numC_tri n n') (t3 s s' xs ks ys ks')
  refine fit_zero (numC_tri _ _) (numC_tri _ _) (numC_tri _ _) (t2 _ _ _ _ _ _ _ _) (t2 _ _ _ _ _ _ _ _) (t2 _ _ _ _ _ _ _ _) (numC_fit _ _ _) ?_
  intro k1 k2
  rw [numC_zero] at k1 k2
  refine lex_fit (numC_tri _ _) (numC_tri _ _) (numC_tri _ _) (numC_fit _ _ _) ?_ (t3 _ _ _ _ _ _) (t3 _ _ _ _ _ _) (t3 _ _ _ _ _ _)
  refine lex_fit (cmpS_tri _ _) (cmpS_tri _ _) (cmpS_tri _ _) (cmpS_fit _ _ _) ?_ (t4 _ _ _ _) (t4 _ _ _ _) (t4 _ _ _ _)
  have fa := ha.kfit
  have fb := hb.kfit
  have fc := hc.kfit
  rw [← k1] at fb
  rw [← k2, ← k1] at fc
  have sa : ∀ y ∈ a.items, Shp y := fun y hy => ha.items hy
  have sb : ∀ y ∈ b.items, Shp y := fun y hy => hb.items hy
  have sc : ∀ y ∈ c.items, Shp y := fun y hy => hc.items hy
  have key : ∀ (m : Bool) (xs : List Val), (∀ x ∈ xs, ∀ b c, Shp x → Shp b → Shp c → Fit (cmpV x b) (cmpV b c) (cmpV x c)) → ∀ ks ys ks' zs ks'', (∀ y ∈ xs, Shp y) → (∀ y ∈ ys, Shp y) → (∀ y ∈ zs, Shp y) → KFit m xs ks → KFit m ys ks' → KFit m zs ks'' →
      Fit (cmpL xs ks ys ks') (cmpL ys ks' zs ks'') (cmpL xs ks zs ks'') := by
    intro m xs
    induction xs with
    | nil =>
      intro _ ks ys ks' zs ks'' _ _ _ _ _ _
      cases ys with
      | nil => cases zs <;> simp [cmpL, Fit]
      | cons y ys =>
        cases zs with
        | nil => simp [cmpL, Fit]
        | cons z zs =>
          have := t4 (y :: ys) ks' (z :: zs) ks''
          rw [show cmpL [] ks (y :: ys) ks' = -1 by simp [cmpL], show cmpL [] ks (z :: zs) ks'' = -1 by simp [cmpL]]
          unfold Fit; omega
    | cons x xs ihx =>
      intro hi ks ys ks' zs ks'' s1 s2 s3 f1 f2 f3
      have hx := hi x List.mem_cons_self
      have ihx := ihx fun y hy => hi y (List.mem_cons_of_mem _ hy)
      cases ys with
      | nil =>
        rw [show cmpL (x :: xs) ks [] ks' = 1 by simp [cmpL]]
        unfold Fit; omega
      | cons y ys =>
        cases zs with
        | nil =>
          rw [show cmpL (y :: ys) ks' [] ks'' = 1 by simp [cmpL]]
          unfold Fit; omega
        | cons z zs =>
          have s1' : ∀ u ∈ xs, Shp u := fun u hu => s1 u (List.mem_cons_of_mem _ hu)
          have s2' : ∀ u ∈ ys, Shp u := fun u hu => s2 u (List.mem_cons_of_mem _ hu)
          have s3' : ∀ u ∈ zs, Shp u := fun u hu => s3 u (List.mem_cons_of_mem _ hu)
          have hxx := hx y z (s1 x List.mem_cons_self) (s2 y List.mem_cons_self) (s3 z List.mem_cons_self)
          cases m with
          | false =>
            simp only [KFit, Bool.false_eq_true, if_false] at f1 f2 f3
            subst f1 f2 f3
            rw [cmpL, cmpL, cmpL]
            exact lex_fit (cmpV_tri _ _) (cmpV_tri _ _) (cmpV_tri _ _) hxx (ihx [] ys [] zs [] s1' s2' s3' (by simp [KFit]) (by simp [KFit]) (by simp [KFit])) (t4 _ _ _ _) (t4 _ _ _ _) (t4 _ _ _ _)
          | true =>
            simp only [KFit, if_true] at f1 f2 f3
            cases ks with
            | nil => simp at f1
            | cons k ks =>
              cases ks' with
              | nil => simp at f2
              | cons k' ks' =>
                cases ks'' with
                | nil => simp at f3
                | cons k'' ks'' =>
                  rw [cmpL, cmpL, cmpL]
                  refine lex_fit (cmpS_tri _ _) (cmpS_tri _ _) (cmpS_tri _ _) (cmpS_fit _ _ _) ?_ (lex_tri (cmpV_tri _ _) (t4 _ _ _ _)) (lex_tri (cmpV_tri _ _) (t4 _ _ _ _)) (lex_tri (cmpV_tri _ _) (t4 _ _ _ _))
                  exact lex_fit (cmpV_tri _ _) (cmpV_tri _ _) (cmpV_tri _ _) hxx (ihx ks ys ks' zs ks'' s1' s2' s3' (by simp [KFit]; simpa using f1) (by simp [KFit]; simpa using f2) (by simp [KFit]; simpa using f3)) (t4 _ _ _ _) (t4 _ _ _ _) (t4 _ _ _ _)
  exact key _ a.items ih a.keys b.items b.keys c.items c.keys sa sb sc fa fb fc
end Go.Proofs.YtedpdpcibkceeaaDoor
