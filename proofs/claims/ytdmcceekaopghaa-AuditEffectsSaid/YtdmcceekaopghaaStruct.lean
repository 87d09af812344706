/-
  Own slices of structs: as lists, and what an append does. Conditions: those ahead of each theorem.
-/
import Derived.Test.YtdmcceekaopghaaOwnS
namespace Go.Proofs.Ytdmcceekaopghaa
open Go.RowKit Go.Sort

theorem flat_get {α : Type} (enc : α → List Value) (sz : Nat) (hsz : ∀ x, (enc x).length = sz) : ∀ (xs : List α) (i : Nat) (hi : i < xs.length) (j : Nat), j < sz → (xs.flatMap enc)[i * sz + j]? = (enc (xs[i]))[j]? := by
  intro xs
  induction xs with
  | nil => intro i hi; exact absurd hi (by simp)
  | cons x xs ih =>
    intro i hi j hj
    rw [List.flatMap_cons]
    cases i with
    | zero => rw [List.getElem?_append_left (by rw [hsz]; omega)]; simp
    | succ i =>
      have e : (i + 1) * sz + j = (enc x).length + (i * sz + j) := by rw [hsz, Nat.add_mul]; omega
      rw [e, List.getElem?_append_right (by omega), Nat.add_sub_cancel_left]
      simp only [List.getElem_cons_succ]
      exact ih i (by simpa using hi) j hj

theorem flat_len {α : Type} (enc : α → List Value) (sz : Nat) (hsz : ∀ x, (enc x).length = sz) (xs : List α) : (xs.flatMap enc).length = xs.length * sz := by
  induction xs with
  | nil => simp
  | cons x xs ih => rw [List.flatMap_cons, List.length_append, hsz, ih, List.length_cons, Nat.add_mul]; omega

theorem sl_of_own {α : Type} (enc : α → List Value) {sz B : Nat} {e : TypeId} (hsz : ∀ x, (enc x).length = sz) {w : World} {v : Value} {xs : List α} (h : w.ownsRow B e sz v xs.length (xs.flatMap enc)) : Sl (fun _ cs (x : α) => cs = enc x) sz w v xs := by
  rcases h.2 with ⟨rfl, h0⟩ | ⟨g, cap, cur, rfl, hb, hg, hn, hc, hs, ht⟩
  · have : xs = [] := List.eq_nil_of_length_eq_zero h0
    subst this
    exact ⟨none, 0, rfl, by simp, by simp, fun i hi => absurd hi (by simp)⟩
  · refine ⟨some ⟨g, 0, none⟩, cap, rfl, hn, hc, fun i hi => ⟨g, 0, enc xs[i], rfl, hsz _, fun j u hj => ?_, rfl⟩⟩
    have hjs : j < sz := by have := (List.getElem?_eq_some_iff.1 hj).1; rwa [hsz] at this
    have h1 := flat_get enc sz hsz xs i hi j hjs
    have hlt : i * sz + j < xs.length * sz := by
      have : (i + 1) * sz ≤ xs.length * sz := Nat.mul_le_mul_right _ hi
      rw [Nat.add_mul, Nat.one_mul] at this; omega
    rw [← ht, List.getElem?_take, if_pos hlt, Array.getElem?_toList] at h1
    unfold World.cell?
    simp only [hg, Nat.zero_add]
    simp only [Option.isSome_none, Bool.false_eq_true, if_false]
    rw [h1, hj]

/-- append of k structs to an own slice, from a block that is known whole. -/
theorem wpList_append_rows {α : Type} (enc : α → List Value) {sz bytes : Nat} {T E : TypeId} {z : Value} {w : World} {ops : Array Oper} {rest : List Oper} {o : Oper} {a : Act} {Q : Exit → Act → World → Prop} (hsz : ∀ x, (enc x).length = sz) (hone : ∀ x, ∀ u ∈ enc x, u.oneCell' = true)
    (hT : Try.prog.underlying T = some (.slice E)) (hinfo : (Try.prog.info? E).map (fun i => (i.zero, i.size, i.bytes)) = some (some z, sz, bytes)) (hzs : z.cells.size = sz) (hpos : 0 < sz) (hbytes : bytes ≤ 1000)
    (hgd : o.guard = none) (s x : Operand) (ho : o.op = .call { callee := .builtin .append, args := #[s, x], argTypes := #[T, T] })
    (B : Nat) (v : Value) (xs : List α) (hs : a.eval s = v) (hown : w.ownsRow B E sz v xs.length (xs.flatMap enc)) (nb m c : Nat) (ys : List α) (hm : ys.length = m) (hm0 : 0 < m) (hx : a.eval x = .slice (some ⟨nb, 0, none⟩) m c)
    {fr : Nat × Nat} (hy : w.heap[nb]? = some (.cells (ys.flatMap enc).toArray E fr)) (hn : xs.length + m ≤ 1000000) (hbase : B ≤ w.heap.size)
    (h : ∀ g cap w', w'.ownsRow B E sz (.slice (some ⟨g, 0, none⟩) (xs.length + m) cap) (xs ++ ys).length ((xs ++ ys).flatMap enc) → w.grownBy w' v.ownBlock → (v.ownBlock = some g ∨ g = w.heap.size) → g < w'.heap.size →
      wpList Try.prog ops Q rest (a.put o.dst (.slice (some ⟨g, 0, none⟩) (xs.length + m) cap)) w') : wpList Try.prog ops Q (o :: rest) a w := by
  obtain ⟨i0, hi, hz0, hz1, hz2⟩ := info_parts hinfo
  refine wpList_append_lies w hgd s x T ho B E i0 z sz bytes hT hi hz0 hz1 hz2 hzs hpos v xs.length (xs.flatMap enc) hs hown ⟨nb, 0, none⟩ m c (ys.flatMap enc) hx (by rw [flat_len enc sz hsz, hm]) ?_ ?_ hm0 (by unfold maxLen; omega) ?_ hbase _ rfl ?_
  · intro j u hj
    exact World.news_of_block hy j u (by simpa using hj)
  · intro u hu
    obtain ⟨y, _, hy2⟩ := List.mem_flatMap.1 hu
    exact hone y u hy2
  · have : (xs.length + m) * bytes ≤ 1000000 * 1000 := Nat.mul_le_mul hn hbytes
    omega
  · intro g cap w' h1 h2 h3 h4
    refine h g cap w' ?_ h2 h3 h4
    rw [List.flatMap_append, List.length_append, hm]
    exact h1
end Go.Proofs.Ytdmcceekaopghaa
