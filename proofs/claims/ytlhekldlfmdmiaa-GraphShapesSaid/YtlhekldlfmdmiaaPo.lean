import Derived.Test.YtlhekldlfmdmiaaGc
/-
  Lists in strict order, in plain Lean: insertion, uniqueness; strings and edges. No program in sight. Conditions: those ahead of each theorem.
-/
namespace Go.Proofs.Ytlhekldlfmdmiaa
set_option linter.unusedVariables false
set_option linter.unusedSimpArgs false

/-- A strict total order. -/
structure STO {α : Type} (lt : α → α → Bool) : Prop where
  irr : ∀ a, lt a a = false
  tr : ∀ a b c, lt a b = true → lt b c = true → lt a c = true
  tot : ∀ a b, lt a b = false → lt b a = false → a = b
def AscL {α : Type} (lt : α → α → Bool) (l : List α) : Prop := l.Pairwise fun a b => lt a b = true
section
variable {α : Type} {lt : α → α → Bool} (O : STO lt)
include O
theorem STO.asym {a b : α} (h : lt a b = true) : lt b a = false := by
  cases h' : lt b a with
  | false => rfl
  | true => have := O.tr _ _ _ h h'; rw [O.irr] at this; cases this
theorem asc_uniq : ∀ {a b : List α}, AscL lt a → AscL lt b → (∀ x, x ∈ a ↔ x ∈ b) → a = b
  | [], [], _, _, _ => rfl
  | [], y :: b, _, _, h => by have := (h y).2 (by simp); simp at this
  | x :: a, [], _, _, h => by have := (h x).1 (by simp); simp at this
  | x :: a, y :: b, ha, hb, h => by
    unfold AscL at ha hb
    rw [List.pairwise_cons] at ha hb
    have exy : x = y := by
      rcases List.mem_cons.1 ((h x).1 (by simp)) with e | hx
      · exact e
      · rcases List.mem_cons.1 ((h y).2 (by simp)) with e | hy
        · exact e.symm
        · have h1 := hb.1 x hx
          have h2 := ha.1 y hy
          rw [O.asym h1] at h2; cases h2
    subst exy
    rw [asc_uniq ha.2 hb.2 fun z => ?_]
    constructor
    · intro hz
      rcases List.mem_cons.1 ((h z).1 (List.mem_cons_of_mem _ hz)) with e | h'
      · subst e; have := ha.1 z hz; rw [O.irr] at this; cases this
      · exact h'
    · intro hz
      rcases List.mem_cons.1 ((h z).2 (List.mem_cons_of_mem _ hz)) with e | h'
      · subst e; have := hb.1 z hz; rw [O.irr] at this; cases this
      · exact h'
end
/-- The place of an element. -/
def lowL {α : Type} (lt : α → α → Bool) (x : α) (l : List α) : Nat := (l.takeWhile fun y => lt y x).length
/-- An element put into its place. -/
def putL {α : Type} (lt : α → α → Bool) (x : α) (l : List α) : List α := l.take (lowL lt x l) ++ x :: l.drop (lowL lt x l)
section
variable {α : Type} {lt : α → α → Bool}
theorem lowL_le (x : α) (l : List α) : lowL lt x l ≤ l.length := by unfold lowL; exact (List.takeWhile_sublist _).length_le
theorem lowL_cons (x y : α) (l : List α) : lowL lt x (y :: l) = if lt y x = true then lowL lt x l + 1 else 0 := by
  unfold lowL
  rw [List.takeWhile_cons]
  split <;> simp
theorem lowL_eq (x : α) : ∀ (l : List α) (k : Nat), k ≤ l.length → (∀ j (h : j < l.length), j < k → lt l[j] x = true) → (∀ (h : k < l.length), lt l[k] x = false) → lowL lt x l = k
  | [], k, hk, _, _ => by simp at hk; subst hk; rfl
  | y :: l, 0, hk, _, h2 => by rw [lowL_cons]; have := h2 (by simp); simp at this; simp [this]
  | y :: l, k + 1, hk, h1, h2 => by
    rw [lowL_cons, if_pos (show lt y x = true from h1 0 (by simp) (by omega)), lowL_eq x l k (by simpa using hk) (fun j h hj => h1 (j + 1) (by simpa using h) (by omega)) (fun h => h2 (by simpa using h))]
theorem lowL_low (x : α) : ∀ (l : List α) (j : Nat) (h : j < l.length), j < lowL lt x l → lt l[j] x = true
  | y :: l, 0, h, hj => by
    rw [lowL_cons] at hj
    split at hj
    · assumption
    · omega
  | y :: l, j + 1, h, hj => by
    rw [lowL_cons] at hj
    split at hj
    · exact lowL_low x l j (by simpa using h) (by omega)
    · omega
theorem lowL_at (x : α) : ∀ (l : List α) (h : lowL lt x l < l.length), lt (l[lowL lt x l]) x = false
  | [], h => by simp at h
  | y :: l, h => by
    have e := lowL_cons (lt := lt) x y l
    by_cases hy : lt y x = true
    · rw [if_pos hy] at e
      have h' : lowL lt x l < l.length := by rw [e] at h; simpa using h
      have := lowL_at x l h'
      simp only [e, List.getElem_cons_succ]
      exact this
    · rw [if_neg hy] at e
      simp only [e, List.getElem_cons_zero]
      simpa using hy
theorem putL_cons (x y : α) (l : List α) : putL lt x (y :: l) = if lt y x = true then y :: putL lt x l else x :: y :: l := by
  unfold putL
  rw [lowL_cons]
  split <;> simp
theorem mem_putL (x z : α) (l : List α) : z ∈ putL lt x l ↔ z = x ∨ z ∈ l := by
  unfold putL
  rw [List.mem_append, List.mem_cons]
  have := List.take_append_drop (lowL lt x l) l
  constructor
  · rintro (h | h | h)
    · exact Or.inr (List.mem_of_mem_take h)
    · exact Or.inl h
    · exact Or.inr (List.mem_of_mem_drop h)
  · rintro (h | h)
    · exact Or.inr (Or.inl h)
    · rw [← this, List.mem_append] at h
      rcases h with h | h
      · exact Or.inl h
      · exact Or.inr (Or.inr h)
theorem putL_length (x : α) (l : List α) : (putL lt x l).length = l.length + 1 := by
  unfold putL
  have := lowL_le (lt := lt) x l
  simp; omega
theorem putL_asc (O : STO lt) (x : α) : ∀ (l : List α), AscL lt l → x ∉ l → AscL lt (putL lt x l)
  | [], _, _ => by simp [putL, AscL]
  | y :: l, h, hx => by
    unfold AscL at h
    rw [List.pairwise_cons] at h
    rw [putL_cons]
    by_cases hy : lt y x = true
    · rw [if_pos hy]
      unfold AscL
      rw [List.pairwise_cons]
      refine ⟨fun z hz => ?_, putL_asc O x l h.2 (fun hh => hx (List.mem_cons_of_mem _ hh))⟩
      rcases (mem_putL x z l).1 hz with rfl | hz
      · exact hy
      · exact h.1 z hz
    · rw [if_neg hy]
      have hxy : lt x y = true := by
        cases hh : lt x y with
        | true => rfl
        | false => exact absurd (O.tot _ _ hh (by simpa using hy)) (fun e => hx (by rw [e]; simp))
      unfold AscL
      rw [List.pairwise_cons, List.pairwise_cons]
      refine ⟨fun z hz => ?_, h.1, h.2⟩
      rcases List.mem_cons.1 hz with rfl | hz
      · exact hxy
      · exact O.tr _ _ _ hxy (h.1 z hz)
/-- In an ascending list an element stands at its place. -/
theorem asc_at (O : STO lt) (x : α) : ∀ (l : List α), AscL lt l → x ∈ l → ∃ h : lowL lt x l < l.length, l[lowL lt x l] = x
  | y :: l, ha, hx => by
    unfold AscL at ha
    rw [List.pairwise_cons] at ha
    have e := lowL_cons (lt := lt) x y l
    by_cases hy : lt y x = true
    · rw [if_pos hy] at e
      have hx' : x ∈ l := by
        rcases List.mem_cons.1 hx with rfl | h
        · rw [O.irr] at hy; cases hy
        · exact h
      obtain ⟨h, hg⟩ := asc_at O x l ha.2 hx'
      refine ⟨by rw [e]; simpa using h, ?_⟩
      simp only [e, List.getElem_cons_succ]
      exact hg
    · rw [if_neg hy] at e
      have : y = x := by
        rcases List.mem_cons.1 hx with h | h
        · exact h.symm
        · exact absurd (ha.1 x h) hy
      exact ⟨by rw [e]; simp, by simp only [e, List.getElem_cons_zero]; exact this⟩
theorem asc_getElem {l : List α} (h : AscL lt l) {i j : Nat} (hi : i < l.length) (hj : j < l.length) (hij : i < j) : lt l[i] l[j] = true := List.pairwise_iff_getElem.1 h i j hi hj hij
theorem asc_nodup (O : STO lt) {l : List α} (h : AscL lt l) : l.Nodup := h.imp (by intro x y hxy e; subst e; rw [O.irr] at hxy; cases hxy)
theorem asc_filter {l : List α} (h : AscL lt l) (p : α → Bool) : AscL lt (l.filter p) := h.sublist List.filter_sublist
end

/-- Strings. -/
theorem ltB_iff {a b : ByteArray} : ltB a b = true ↔ a.data.toList < b.data.toList := by unfold ltB; simp
theorem stoB : STO ltB where
  irr a := by
    cases h : ltB a a with
    | false => rfl
    | true => exact absurd (ltB_iff.1 h) (List.lt_irrefl _)
  tr a b c h1 h2 := ltB_iff.2 (List.lt_trans (ltB_iff.1 h1) (ltB_iff.1 h2))
  tot a b h1 h2 := ba_ext (List.le_antisymm (List.not_lt.1 fun h => by rw [ltB_iff.2 h] at h2; cases h2) (List.not_lt.1 fun h => by rw [ltB_iff.2 h] at h1; cases h1))
theorem stoE : STO lessE where
  irr a := by unfold lessE; rw [stoB.irr, stoB.irr]; simp
  tr a b c h1 h2 := by
    unfold lessE at *
    simp only [Bool.or_eq_true, Bool.and_eq_true, decide_eq_true_eq] at *
    rcases h1 with h1 | ⟨e1, h1⟩ <;> rcases h2 with h2 | ⟨e2, h2⟩
    · exact Or.inl (stoB.tr _ _ _ h1 h2)
    · exact Or.inl (e2 ▸ h1)
    · exact Or.inl (e1 ▸ h2)
    · exact Or.inr ⟨e1.trans e2, stoB.tr _ _ _ h1 h2⟩
  tot a b h1 h2 := by
    unfold lessE at *
    simp only [Bool.or_eq_false_iff, Bool.and_eq_false_iff, decide_eq_false_iff_not] at *
    have e1 := stoB.tot _ _ h1.1 h2.1
    have h1' := h1.2.resolve_left (fun h => h e1)
    have h2' := h2.2.resolve_left (fun h => h e1.symm)
    exact Prod.ext e1 (stoB.tot _ _ h1' h2')
abbrev AscB (l : List ByteArray) : Prop := AscL ltB l
abbrev AscE (l : List Ed) : Prop := AscL lessE l

/-- The reference's insertions. -/
def insB (x : ByteArray) (l : List ByteArray) : List ByteArray := if hasS x l then l else putL ltB x l
def insE (e : Ed) (l : List Ed) : List Ed := if l[lowL lessE e l]? = some e then l else putL lessE e l
theorem insB_asc {x : ByteArray} {l : List ByteArray} (h : AscB l) : AscB (insB x l) := by
  unfold insB
  split
  · exact h
  · exact putL_asc stoB x l h (fun hh => by rename_i hn; exact hn (hasS_iff.2 hh))
theorem mem_insB {x z : ByteArray} {l : List ByteArray} : z ∈ insB x l ↔ z = x ∨ z ∈ l := by
  unfold insB
  split
  · rename_i h
    constructor
    · exact Or.inr
    · rintro (rfl | h')
      · exact hasS_iff.1 h
      · exact h'
  · exact mem_putL x z l
theorem mem_insE {e z : Ed} {l : List Ed} : z ∈ insE e l ↔ z = e ∨ z ∈ l := by
  unfold insE
  split
  · rename_i h
    constructor
    · exact Or.inr
    · rintro (rfl | h')
      · exact List.mem_of_getElem? h
      · exact h'
  · exact mem_putL e z l
theorem insE_asc {e : Ed} {l : List Ed} (h : AscE l) : AscE (insE e l) := by
  unfold insE
  split
  · exact h
  · rename_i hn
    refine putL_asc stoE e l h (fun hh => hn ?_)
    obtain ⟨hl, hg⟩ := asc_at stoE e l h hh
    rw [List.getElem?_eq_getElem hl, hg]
theorem insB_len (x : ByteArray) (l : List ByteArray) : (insB x l).length ≤ l.length + 1 := by
  unfold insB
  split
  · omega
  · rw [putL_length]; omega
theorem insB_len' (x : ByteArray) (l : List ByteArray) : l.length ≤ (insB x l).length := by
  unfold insB
  split
  · omega
  · rw [putL_length]; omega
theorem insE_len (x : Ed) (l : List Ed) : (insE x l).length ≤ l.length + 1 := by
  unfold insE
  split
  · omega
  · rw [putL_length]; omega
/-- Lists put in order, each element once. -/
def canB (l : List ByteArray) : List ByteArray := l.foldl (fun a x => insB x a) []
def canE (l : List Ed) : List Ed := l.foldl (fun a x => insE x a) []
theorem fold_insB (l : List ByteArray) : ∀ a, AscB a → AscB (l.foldl (fun a x => insB x a) a) ∧ ∀ z, z ∈ l.foldl (fun a x => insB x a) a ↔ z ∈ a ∨ z ∈ l := by
  induction l with
  | nil => intro a h; exact ⟨h, fun z => by simp⟩
  | cons x l ih =>
    intro a h
    obtain ⟨h1, h2⟩ := ih (insB x a) (insB_asc h)
    refine ⟨h1, fun z => ?_⟩
    rw [List.foldl_cons, h2, mem_insB, List.mem_cons]
    constructor
    · rintro ((h | h) | h)
      · exact Or.inr (Or.inl h)
      · exact Or.inl h
      · exact Or.inr (Or.inr h)
    · rintro (h | h | h)
      · exact Or.inl (Or.inr h)
      · exact Or.inl (Or.inl h)
      · exact Or.inr h
theorem fold_insE (l : List Ed) : ∀ a, AscE a → AscE (l.foldl (fun a x => insE x a) a) ∧ ∀ z, z ∈ l.foldl (fun a x => insE x a) a ↔ z ∈ a ∨ z ∈ l := by
  induction l with
  | nil => intro a h; exact ⟨h, fun z => by simp⟩
  | cons x l ih =>
    intro a h
    obtain ⟨h1, h2⟩ := ih (insE x a) (insE_asc h)
    refine ⟨h1, fun z => ?_⟩
    rw [List.foldl_cons, h2, mem_insE, List.mem_cons]
    constructor
    · rintro ((h | h) | h)
      · exact Or.inr (Or.inl h)
      · exact Or.inl h
      · exact Or.inr (Or.inr h)
    · rintro (h | h | h)
      · exact Or.inl (Or.inr h)
      · exact Or.inl (Or.inl h)
      · exact Or.inr h
theorem canB_asc (l : List ByteArray) : AscB (canB l) := (fold_insB l [] List.Pairwise.nil).1
theorem mem_canB {z : ByteArray} {l : List ByteArray} : z ∈ canB l ↔ z ∈ l := by unfold canB; rw [(fold_insB l [] List.Pairwise.nil).2]; simp
theorem canE_asc (l : List Ed) : AscE (canE l) := (fold_insE l [] List.Pairwise.nil).1
theorem mem_canE {z : Ed} {l : List Ed} : z ∈ canE l ↔ z ∈ l := by unfold canE; rw [(fold_insE l [] List.Pairwise.nil).2]; simp
theorem ascB_eq {a b : List ByteArray} (ha : AscB a) (hb : AscB b) (h : ∀ x, x ∈ a ↔ x ∈ b) : a = b := asc_uniq stoB ha hb h
theorem ascE_eq {a b : List Ed} (ha : AscE a) (hb : AscE b) (h : ∀ x, x ∈ a ↔ x ∈ b) : a = b := asc_uniq stoE ha hb h
theorem canB_of_asc {l : List ByteArray} (h : AscB l) : canB l = l := ascB_eq (canB_asc l) h fun _ => mem_canB
theorem canE_of_asc {l : List Ed} (h : AscE l) : canE l = l := ascE_eq (canE_asc l) h fun _ => mem_canE

theorem nodup_len {α : Type} [DecidableEq α] : ∀ {a b : List α}, a.Nodup → (∀ x ∈ a, x ∈ b) → a.length ≤ b.length
  | [], b, _, _ => by simp
  | x :: a, b, h, hs => by
    rw [List.nodup_cons] at h
    have hx := hs x (by simp)
    have := nodup_len (a := a) (b := b.erase x) h.2 fun y hy => (List.mem_erase_of_ne (by rintro rfl; exact h.1 hy)).2 (hs y (List.mem_cons_of_mem _ hy))
    rw [List.length_erase_of_mem hx] at this
    have := List.length_pos_of_mem hx
    simp; omega
theorem canB_len (l : List ByteArray) : (canB l).length ≤ l.length := nodup_len (asc_nodup stoB (canB_asc l)) fun x hx => mem_canB.1 hx
theorem canE_len (l : List Ed) : (canE l).length ≤ l.length := nodup_len (asc_nodup stoE (canE_asc l)) fun x hx => mem_canE.1 hx
end Go.Proofs.Ytlhekldlfmdmiaa
