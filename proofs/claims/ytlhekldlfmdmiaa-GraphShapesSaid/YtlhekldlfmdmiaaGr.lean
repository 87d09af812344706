import Derived.Test.YtlhekldlfmdmiaaGq
/-
  The order of a graph's nodes, in plain Lean: counts of what is waited for, and who is ready. No program in sight. Conditions: those ahead of each theorem.
-/
namespace Go.Proofs.Ytlhekldlfmdmiaa
set_option linter.unusedVariables false
set_option linter.unusedSimpArgs false

/-- How many edges of a node lead to what is not yet listed. -/
def cnt (es : List Ed) (out : List ByteArray) (x : ByteArray) : Nat := (es.filter fun e => decide (e.1 = x) && !hasS e.2 out).length
def occ (x : ByteArray) (l : List ByteArray) : Nat := (l.filter fun y => decide (y = x)).length
theorem cnt_snoc (es : List Ed) (e : Ed) (out : List ByteArray) (x : ByteArray) : cnt (es ++ [e]) out x = cnt es out x + if (decide (e.1 = x) && !hasS e.2 out) = true then 1 else 0 := by
  unfold cnt
  rw [List.filter_append, List.length_append, List.filter_cons]
  split <;> simp
theorem cnt_le (es : List Ed) (out : List ByteArray) (x : ByteArray) : cnt es out x ≤ es.length := List.length_filter_le _ _
theorem cnt_zero {es : List Ed} {out : List ByteArray} {x : ByteArray} : cnt es out x = 0 ↔ ∀ e ∈ es, e.1 = x → e.2 ∈ out := by
  unfold cnt
  rw [List.length_eq_zero_iff, List.filter_eq_nil_iff]
  constructor
  · intro h e he hx
    have := h e he
    simp [hx] at this
    exact hasS_iff.1 this
  · intro h e he
    by_cases hx : e.1 = x
    · have := hasS_iff.2 (h e he hx); simp [hx, this]
    · simp [hx]
theorem occ_snoc (x y : ByteArray) (l : List ByteArray) : occ x (l ++ [y]) = occ x l + if y = x then 1 else 0 := by
  unfold occ
  rw [List.filter_append, List.length_append]
  by_cases h : y = x <;> simp [List.filter_cons, h]
theorem occ_perm {x : ByteArray} {l m : List ByteArray} (h : l.Perm m) : occ x l = occ x m := (h.filter _).length_eq
theorem occ_take_le (x : ByteArray) (l : List ByteArray) (k : Nat) : occ x (l.take k) ≤ occ x l := by
  unfold occ
  have := ((List.take_sublist k l).filter fun y => decide (y = x)).length_le
  exact this
/-- What goes away with one more listed. -/
theorem cnt_more (es : List Ed) (out : List ByteArray) (n x : ByteArray) (hn : n ∉ out) : cnt es (out ++ [n]) x + (es.filter fun e => decide (e.1 = x) && decide (e.2 = n)).length = cnt es out x := by
  unfold cnt
  induction es with
  | nil => rfl
  | cons e es ih =>
    rw [List.filter_cons, List.filter_cons, List.filter_cons]
    have ha : hasS e.2 (out ++ [n]) = (hasS e.2 out || decide (n = e.2)) := by rw [hasS_app]; simp [hasS]
    rw [ha]
    by_cases h1 : e.1 = x
    · by_cases h2 : e.2 = n
      · have h3 : hasS e.2 out = false := by cases h : hasS e.2 out with | false => rfl | true => exact absurd (h2 ▸ hasS_iff.1 h) hn
        simp [h1, h2] at h3 ⊢
        rw [h3]; simp; omega
      · have h4 : n ≠ e.2 := fun h => h2 h.symm
        cases h3 : hasS e.2 out <;> simp [h1, h2, h4] <;> omega
    · simp [h1]; exact ih
/-- The targets in the reversed graph, counted. -/
def tg (es : List Ed) (x : ByteArray) : List ByteArray := (es.filter fun e => decide (e.1 = x)).map (·.2)
theorem occ_tg (es rs : List Ed) (hp : rs.Perm (es.map fun e => (e.2, e.1))) (n x : ByteArray) : occ x (tg rs n) = (es.filter fun e => decide (e.1 = x) && decide (e.2 = n)).length := by
  have h1 : (tg rs n).Perm (tg (es.map fun e => (e.2, e.1)) n) := (hp.filter _).map _
  rw [occ_perm h1]
  unfold occ tg
  rw [List.filter_map, List.length_map, List.filter_filter, List.filter_map, List.length_map]
  rfl

/-- Who is ready, by a function that counts. -/
def rdL (ns out : List ByteArray) (v : ByteArray → Nat) : List ByteArray := ns.filter fun x => !hasS x out && decide (v x = 0)
def decV (v : ByteArray → Nat) (u : ByteArray) : ByteArray → Nat := fun x => if x = u then v x - 1 else v x
theorem mem_rdL {ns out : List ByteArray} {v : ByteArray → Nat} {x : ByteArray} : x ∈ rdL ns out v ↔ x ∈ ns ∧ x ∉ out ∧ v x = 0 := by
  unfold rdL
  rw [List.mem_filter]
  have : (!hasS x out) = true ↔ x ∉ out := by rw [← hasS_iff]; simp
  rw [Bool.and_eq_true, this, decide_eq_true_eq]
theorem rdL_asc {ns : List ByteArray} (h : AscB ns) (out : List ByteArray) (v : ByteArray → Nat) : AscB (rdL ns out v) := asc_filter h _
theorem rd_put {ns out : List ByteArray} {v : ByteArray → Nat} {u : ByteArray} (h : AscB ns) (hu : u ∈ ns) (ho : u ∉ out) (h1 : v u = 1) : rdL ns out (decV v u) = putL ltB u (rdL ns out v) := by
  have hnu : u ∉ rdL ns out v := fun hh => by have := (mem_rdL.1 hh).2.2; omega
  refine ascB_eq (rdL_asc h _ _) (putL_asc stoB u _ (rdL_asc h _ _) hnu) fun x => ?_
  rw [mem_putL, mem_rdL, mem_rdL]
  unfold decV
  by_cases e : x = u
  · subst e; simp [hu, ho, h1]
  · simp [e]
theorem rd_same {ns out : List ByteArray} {v : ByteArray → Nat} {u : ByteArray} (h1 : 2 ≤ v u) : rdL ns out (decV v u) = rdL ns out v := by
  unfold rdL
  apply List.filter_congr
  intro x _
  unfold decV
  by_cases e : x = u
  · subst e
    have a : ¬ v x - 1 = 0 := by omega
    have b : ¬ v x = 0 := by omega
    simp [a, b]
  · simp [e]
theorem rd_pop {ns out : List ByteArray} {v : ByteArray → Nat} {n : ByteArray} {R : List ByteArray} (h : AscB ns) (hR : rdL ns out v = n :: R) : R = rdL ns (out ++ [n]) v := by
  have ha := rdL_asc h out v
  rw [hR] at ha
  have hn : ∀ x ∈ R, x ≠ n := fun x hx e => by
    have := (List.pairwise_cons.1 ha).1 x hx
    rw [e, stoB.irr] at this; cases this
  refine ascB_eq (List.pairwise_cons.1 ha).2 (rdL_asc h _ _) fun x => ?_
  have hx : x ∈ rdL ns out v ↔ x ∈ n :: R := by rw [hR]
  rw [mem_rdL] at hx
  rw [mem_rdL, List.mem_append, List.mem_singleton]
  constructor
  · intro hm
    obtain ⟨h1, h2, h3⟩ := hx.2 (List.mem_cons_of_mem _ hm)
    exact ⟨h1, fun hh => hh.elim h2 (hn x hm), h3⟩
  · rintro ⟨h1, h2, h3⟩
    rcases List.mem_cons.1 (hx.1 ⟨h1, fun hh => h2 (Or.inl hh), h3⟩) with e | e
    · exact absurd (Or.inr e) h2
    · exact e
theorem putL_insert {α : Type} {lt : α → α → Bool} (x : α) (l : List α) : l.insertIdx (lowL lt x l) x = putL lt x l := by
  have key : ∀ (l : List α) (i : Nat), i ≤ l.length → l.insertIdx i x = l.take i ++ x :: l.drop i := by
    intro l
    induction l with
    | nil =>
      intro i hi
      have h0 : i = 0 := by simpa using hi
      subst h0
      rfl
    | cons y l ih =>
      intro i hi
      cases i with
      | zero => rfl
      | succ i => simp [ih i (by simpa using hi)]
  exact key l _ (lowL_le x l)

/-- The order: ever again the first node that is ready. -/
def pick (ns : List ByteArray) (es : List Ed) (out : List ByteArray) : Option ByteArray := ns.find? fun x => !hasS x out && decide (cnt es out x = 0)
def ordF (ns : List ByteArray) (es : List Ed) : Nat → List ByteArray → List ByteArray
  | 0, out => out
  | n + 1, out => match pick ns es out with
    | none => out
    | some x => ordF ns es n (out ++ [x])
theorem pick_head (ns : List ByteArray) (es : List Ed) (out : List ByteArray) : pick ns es out = (rdL ns out (cnt es out)).head? := by
  unfold pick rdL
  rw [List.head?_filter]
/-- The list under way. -/
structure Lst (ns : List ByteArray) (es : List Ed) (out : List ByteArray) : Prop where
  nod : out.Nodup
  sub : ∀ x ∈ out, x ∈ ns
  cls : ∀ e ∈ es, e.1 ∈ out → e.2 ∈ out
  top : ordF ns es (ns.length - out.length) out = ordF ns es ns.length []
theorem Lst.start (ns : List ByteArray) (es : List Ed) : Lst ns es [] := ⟨List.nodup_nil, by simp, by simp, rfl⟩
theorem Lst.len {ns : List ByteArray} {es : List Ed} {out : List ByteArray} (h : Lst ns es out) : out.length ≤ ns.length := nodup_len h.nod h.sub
theorem Lst.more {ns : List ByteArray} {es : List Ed} {out R : List ByteArray} {n : ByteArray} (h : Lst ns es out) (hR : rdL ns out (cnt es out) = n :: R) : Lst ns es (out ++ [n]) ∧ n ∈ ns ∧ n ∉ out := by
  have hm : n ∈ rdL ns out (cnt es out) := by rw [hR]; simp
  obtain ⟨h1, h2, h3⟩ := mem_rdL.1 hm
  have hnod : (out ++ [n]).Nodup := List.nodup_append.2 ⟨h.nod, by simp, fun a ha b hb => by simp at hb; subst hb; rintro rfl; exact h2 ha⟩
  have hsub : ∀ x ∈ out ++ [n], x ∈ ns := fun x hx => by
    rw [List.mem_append, List.mem_singleton] at hx
    rcases hx with hx | rfl
    · exact h.sub x hx
    · exact h1
  have hl := nodup_len hnod hsub
  refine ⟨⟨hnod, hsub, fun e he hx => ?_, ?_⟩, h1, h2⟩
  · rw [List.mem_append, List.mem_singleton] at hx ⊢
    rcases hx with hx | hx
    · exact Or.inl (h.cls e he hx)
    · exact Or.inl (cnt_zero.1 h3 e he hx)
  · rw [← h.top]
    have e1 : ns.length - out.length = (ns.length - (out ++ [n]).length) + 1 := by simp at hl ⊢; omega
    rw [e1, ordF, pick_head, hR]
    rfl
theorem Lst.fin {ns : List ByteArray} {es : List Ed} {out : List ByteArray} (h : Lst ns es out) (hR : rdL ns out (cnt es out) = []) : ordF ns es ns.length [] = out := by
  rw [← h.top]
  cases ns.length - out.length with
  | zero => rfl
  | succ k => rw [ordF, pick_head, hR]; rfl
end Go.Proofs.Ytlhekldlfmdmiaa
