import Derived.Test.YtlhekldlfmdmiaaGp
/-
  Breadth first search as the program does it, in plain Lean. No program in sight. Conditions: those ahead of each theorem.
-/
namespace Go.Proofs.Ytlhekldlfmdmiaa
set_option linter.unusedVariables false
set_option linter.unusedSimpArgs false

abbrev DF := ByteArray → Option Nat
def setD (D : DF) (y : ByteArray) (n : Nat) : DF := fun x => if x = y then some n else D x
theorem setD_same (D : DF) (y : ByteArray) (n : Nat) : setD D y n y = some n := by simp [setD]
theorem setD_other (D : DF) {x y : ByteArray} (n : Nat) (h : x ≠ y) : setD D y n x = D x := by simp [setD, h]

/-- Breadth first search at a loop's head: done, queue, distances. -/
structure Bfs (F : ByteArray → List ByteArray) (to : ByteArray) (U P Q : List ByteArray) (D : DF) : Prop where
  dom : ∀ x, (D x).isSome = true ↔ x ∈ P ++ Q
  wk : ∀ x d, D x = some d → Wk F d to x
  cls : ∀ x ∈ P, ∀ y ∈ F x, ∃ e, D y = some e ∧ e ≤ (D x).getD 0 + 1
  ord : Q.Pairwise fun x y => (D x).getD 0 ≤ (D y).getD 0
  rng : ∀ x ∈ P ++ Q, ∀ q ∈ Q, (D x).getD 0 ≤ (D q).getD 0 + 1
  bd : ∀ x d, D x = some d → d + rem U (P ++ Q) ≤ U.length
  str : D to = some 0
/-- .. in the midst of a node's targets. -/
structure BfsI (F : ByteArray → List ByteArray) (to : ByteArray) (U P : List ByteArray) (q : ByteArray) (k : Nat) (Q : List ByteArray) (D : DF) : Prop where
  dom : ∀ x, (D x).isSome = true ↔ x ∈ P ++ q :: Q
  wk : ∀ x d, D x = some d → Wk F d to x
  cls : ∀ x ∈ P, ∀ y ∈ F x, ∃ e, D y = some e ∧ e ≤ (D x).getD 0 + 1
  fst : ∀ y ∈ (F q).take k, ∃ e, D y = some e ∧ e ≤ (D q).getD 0 + 1
  ord : Q.Pairwise fun x y => (D x).getD 0 ≤ (D y).getD 0
  lo : ∀ x ∈ Q, (D q).getD 0 ≤ (D x).getD 0
  hi : ∀ x ∈ P ++ q :: Q, (D x).getD 0 ≤ (D q).getD 0 + 1
  bd : ∀ x d, D x = some d → d + rem U (P ++ q :: Q) ≤ U.length
  str : D to = some 0
section
variable {F : ByteArray → List ByteArray} {to q : ByteArray} {U P Q : List ByteArray} {D : DF} {k : Nat}
theorem Bfs.start (F : ByteArray → List ByteArray) (to : ByteArray) (U : List ByteArray) : Bfs F to U [] [to] (setD (fun _ => none) to 0) where
  dom x := by
    unfold setD
    by_cases h : x = to <;> simp [h]
  wk x d h := by
    unfold setD at h
    by_cases e : x = to
    · rw [if_pos e] at h; cases h; exact e.symm
    · rw [if_neg e] at h; cases h
  cls x hx := by cases hx
  ord := by simp
  rng x hx y hy := by
    simp at hx hy
    subst hx; subst hy; omega
  bd x d h := by
    unfold setD at h
    by_cases e : x = to
    · rw [if_pos e] at h; cases h; have := rem_le U ([] ++ [to]); omega
    · rw [if_neg e] at h; cases h
  str := setD_same _ _ _
theorem Bfs.pop (h : Bfs F to U P (q :: Q) D) : BfsI F to U P q 0 Q D where
  dom := h.dom
  wk := h.wk
  cls := h.cls
  fst := by simp
  ord := (List.pairwise_cons.1 h.ord).2
  lo := (List.pairwise_cons.1 h.ord).1
  hi x hx := h.rng x hx q (by simp)
  bd := h.bd
  str := h.str
theorem BfsI.skip (h : BfsI F to U P q k Q D) (hk : k < (F q).length) (hy : (D (F q)[k]).isSome = true) : BfsI F to U P q (k + 1) Q D :=
  { h with
    fst := fun y hm => by
      rw [List.take_succ_eq_append_getElem hk, List.mem_append, List.mem_singleton] at hm
      rcases hm with hm | rfl
      · exact h.fst y hm
      · obtain ⟨e, he⟩ := Option.isSome_iff_exists.1 hy
        refine ⟨e, he, ?_⟩
        have := h.hi _ ((h.dom _).1 hy)
        rw [he] at this
        exact this }
theorem BfsI.push (h : BfsI F to U P q k Q D) (hk : k < (F q).length) (hy : D (F q)[k] = none) (hU : (F q)[k] ∈ U) : BfsI F to U P q (k + 1) (Q ++ [(F q)[k]]) (setD D (F q)[k] ((D q).getD 0 + 1)) := by
  have hm := List.getElem_mem hk
  have htk : (F q).take (k + 1) = (F q).take k ++ [(F q)[k]] := List.take_succ_eq_append_getElem hk
  generalize (F q)[k] = y at *
  have hnew : y ∉ P ++ q :: Q := fun hh => by rw [(h.dom y).2 hh |> fun e => Option.isSome_iff_exists.1 e |>.choose_spec] at hy; cases hy
  have hmem : ∀ x, x ∈ P ++ q :: (Q ++ [y]) ↔ x = y ∨ x ∈ P ++ q :: Q := fun x => by
    simp only [List.mem_append, List.mem_cons, List.mem_singleton, List.not_mem_nil, or_false]
    constructor
    · rintro (h | h | h | h)
      · exact Or.inr (Or.inl h)
      · exact Or.inr (Or.inr (Or.inl h))
      · exact Or.inr (Or.inr (Or.inr h))
      · exact Or.inl h
    · rintro (h | h | h | h)
      · exact Or.inr (Or.inr (Or.inr h))
      · exact Or.inl h
      · exact Or.inr (Or.inl h)
      · exact Or.inr (Or.inr (Or.inl h))
  have hold : ∀ x, x ∈ P ++ q :: Q → setD D y ((D q).getD 0 + 1) x = D x := fun x hx => setD_other _ _ (fun e => hnew (e ▸ hx))
  have hq : setD D y ((D q).getD 0 + 1) q = D q := hold q (by simp)
  have hsome : ∀ x e, D x = some e → setD D y ((D q).getD 0 + 1) x = some e := fun x e he => by rw [setD_other]; exact he; rintro rfl; rw [hy] at he; cases he
  have hrem : rem U (P ++ q :: (Q ++ [y])) + 1 ≤ rem U (P ++ q :: Q) := by
    have := rem_add (sn := P ++ q :: Q) hU hnew
    simpa using this
  have hqs : ∃ d, D q = some d := Option.isSome_iff_exists.1 ((h.dom q).2 (by simp))
  obtain ⟨dq, hdq⟩ := hqs
  refine ⟨fun x => ?_, fun x d hd => ?_, fun x hx z hz => ?_, fun z hz => ?_, ?_, fun x hx => ?_, fun x hx => ?_, fun x d hd => ?_, ?_⟩
  · rw [hmem]
    by_cases e : x = y
    · subst e; simp [setD_same]
    · rw [setD_other _ _ e, h.dom]; simp [e]
  · by_cases e : x = y
    · subst e
      rw [setD_same] at hd
      cases hd
      rw [wk_snoc]
      exact ⟨q, h.wk q _ (by rw [hdq]; rfl), hm⟩
    · rw [setD_other _ _ e] at hd; exact h.wk x d hd
  · obtain ⟨e, he, hle⟩ := h.cls x hx z hz
    exact ⟨e, hsome z e he, by rw [hold x (by simp [hx])]; exact hle⟩
  · rw [hq]
    rw [htk, List.mem_append, List.mem_singleton] at hz
    rcases hz with hz | rfl
    · obtain ⟨e, he, hle⟩ := h.fst z hz
      exact ⟨e, hsome z e he, hle⟩
    · exact ⟨_, setD_same _ _ _, Nat.le_refl _⟩
  · rw [List.pairwise_append]
    refine ⟨?_, by simp, fun x hx z hz => ?_⟩
    · refine List.Pairwise.imp_of_mem ?_ h.ord
      intro x z hx hz hxz
      rw [hold x (by simp [hx]), hold z (by simp [hz])]; exact hxz
    · simp at hz
      subst hz
      rw [setD_same, hold x (by simp [hx])]
      exact h.hi x (by simp [hx])
  · rw [hq]
    rw [List.mem_append, List.mem_singleton] at hx
    rcases hx with hx | rfl
    · rw [hold x (by simp [hx])]; exact h.lo x hx
    · rw [setD_same]; simp
  · rw [hq]
    rcases (hmem x).1 hx with rfl | hx
    · rw [setD_same]; simp
    · rw [hold x hx]; exact h.hi x hx
  · by_cases e : x = y
    · subst e
      rw [setD_same] at hd
      cases hd
      have := h.bd q dq hdq
      rw [hdq]
      simp only [Option.getD_some]
      omega
    · rw [setD_other _ _ e] at hd
      have := h.bd x d hd
      omega
  · exact hsome _ _ h.str
theorem BfsI.done (h : BfsI F to U P q (F q).length Q D) : Bfs F to U (P ++ [q]) Q D := by
  have e : P ++ [q] ++ Q = P ++ q :: Q := by simp
  refine ⟨by rw [e]; exact h.dom, h.wk, fun x hx y hy => ?_, h.ord, fun x hx z hz => ?_, by rw [e]; exact h.bd, h.str⟩
  · rw [List.mem_append, List.mem_singleton] at hx
    rcases hx with hx | rfl
    · exact h.cls x hx y hy
    · exact h.fst y (by rw [List.take_length]; exact hy)
  · rw [e] at hx
    have h1 := h.hi x hx
    have h2 := h.lo z hz
    omega
/-- What distances are. -/
structure DistP (F : ByteArray → List ByteArray) (to : ByteArray) (D : DF) : Prop where
  wk : ∀ x d, D x = some d → Wk F d to x
  le : ∀ x n, Wk F n to x → ∃ d, D x = some d ∧ d ≤ n
theorem Bfs.fin (h : Bfs F to U P [] D) : DistP F to D := by
  refine ⟨h.wk, fun x n => ?_⟩
  induction n generalizing x with
  | zero => intro hw; cases hw; exact ⟨0, h.str, Nat.le_refl _⟩
  | succ n ih =>
    intro hw
    obtain ⟨c, hc, hx⟩ := wk_snoc.1 hw
    obtain ⟨d, hd, hle⟩ := ih c hc
    have hp : c ∈ P := by have := (h.dom c).1 (by rw [hd]; rfl); simpa using this
    obtain ⟨e, he, hle2⟩ := h.cls c hp x hx
    rw [hd] at hle2
    simp only [Option.getD_some] at hle2
    exact ⟨e, he, by omega⟩
end
end Go.Proofs.Ytlhekldlfmdmiaa
