import Derived.Test.YtedpdpcibkceeaaDoorP
/-
  Ascending lists of keys in plain Lean: prefixes, one more, two equal ones. No program in sight. No conditions beyond those ahead of each theorem.
-/
namespace Go.Proofs.YtedpdpcibkceeaaDoor
set_option linter.unusedVariables false

theorem ascS_iff : ∀ {l : List ByteArray}, AscS l ↔ l.Pairwise ltS
  | [] => by simp [AscS]
  | [a] => by simp [AscS]
  | a :: b :: l => by
    have ih := ascS_iff (l := b :: l)
    constructor
    · intro h
      exact List.pairwise_cons.2 ⟨fun x hx => AscS.lt h x hx, ih.1 h.tail⟩
    · intro h
      obtain ⟨h1, h2⟩ := List.pairwise_cons.1 h
      exact ⟨h1 b List.mem_cons_self, ih.2 h2⟩
/-- Sorted, not less backwards. -/
def SrtS (l : List ByteArray) : Prop := l.Pairwise fun x y => ¬ ltS y x
theorem srt_at {l : List ByteArray} (h : SrtS l) {i j : Nat} (hi : i < l.length) (hj : j < l.length) (hij : i < j) : ¬ ltS l[j] l[i] := List.pairwise_iff_getElem.1 h i j hi hj hij
theorem asc_at {l : List ByteArray} (h : AscS l) {i j : Nat} (hi : i < l.length) (hj : j < l.length) (hij : i < j) : ltS l[i] l[j] := List.pairwise_iff_getElem.1 (ascS_iff.1 h) i j hi hj hij
theorem asc_take_next {l : List ByteArray} (hs : SrtS l) {k : Nat} (hk : k + 1 < l.length) (ha : AscS (l.take (k + 1))) (hne : l[k + 1] ≠ l[k]) : AscS (l.take (k + 1 + 1)) := by
  have hlt : ltS l[k] l[k + 1] := by
    apply Decidable.byContradiction
    intro h
    exact hne (ltS_total (srt_at hs (by omega) hk (by omega)) h)
  rw [List.take_succ_eq_append_getElem hk]
  refine ascS_iff.2 (List.pairwise_append.2 ⟨ascS_iff.1 ha, by simp, fun a ha' b hb => ?_⟩)
  obtain rfl := List.mem_singleton.1 hb
  obtain ⟨i, hi, rfl⟩ := List.mem_iff_getElem.1 ha'
  have hi' : i < k + 1 := by simp at hi; omega
  rw [List.getElem_take]
  by_cases e : i = k
  · subst e; exact hlt
  · have := asc_at ha (i := i) (j := k) (by simp; omega) (by simp; omega) (by omega)
    rw [List.getElem_take, List.getElem_take] at this
    exact ltS_trans this hlt
theorem asc_dup {l : List ByteArray} {k : Nat} (hk : k + 1 < l.length) (he : l[k + 1] = l[k]) : ¬ AscS l := fun h => by
  have := asc_at h (i := k) (j := k + 1) (by omega) hk (by omega)
  rw [he] at this
  exact ltS_irrefl _ this
theorem asc_one (l : List ByteArray) : AscS (l.take 1) := by
  cases l with
  | nil => trivial
  | cons a l => simp [AscS]
end Go.Proofs.YtedpdpcibkceeaaDoor
