import Derived.Test.YtlhekldlfmdmiaaGj
/-
  Own slices of strings at whatever offset: cut at the head, cut at the end, appended to. Conditions: those ahead of each theorem.
-/
namespace Go.Proofs.Ytlhekldlfmdmiaa
open Go.RowKit Go.Sort Go.Lib Go.Maps
open Go.Lib (hid)
set_option linter.unusedVariables false
set_option linter.unusedSimpArgs false

/-- An own slice of strings, at whatever offset of its block. -/
structure OwnO (B : Nat) (w : World) (v : Value) (xs : List ByteArray) : Prop where
  ex : ∃ r cap, v = .slice r xs.length cap ∧ xs.length ≤ cap ∧ cap ≤ maxLen ∧ (r = none → cap = 0) ∧ (∀ x ∈ xs, x.size ≤ maxLen) ∧
    ∀ a, r = some a → ∃ g o, a = ⟨g, o, none⟩ ∧ B ≤ g ∧ g < w.heap.size ∧ (∀ i (h : i < xs.length), w.cell? ⟨g, o + i, none⟩ = some (.string xs[i])) ∧ ∀ j, j < cap → (w.cell? ⟨g, o + j, none⟩).isSome = true ∧ w.frozen? ⟨g, o + j, none⟩ = false
theorem OwnO.form {B : Nat} {w : World} {v : Value} {xs : List ByteArray} (h : OwnO B w v xs) : ∃ r cap, v = .slice r xs.length cap ∧ xs.length ≤ cap ∧ cap ≤ 9223372036854775807 := by
  obtain ⟨r, cap, h1, h2, h3, _⟩ := h.ex
  unfold maxLen at h3
  exact ⟨r, cap, h1, h2, by omega⟩
theorem OwnO.lt {B : Nat} {w : World} {v : Value} {xs : List ByteArray} (h : OwnO B w v xs) : ∀ g, v.ownBlock = some g → B ≤ g ∧ g < w.heap.size := by
  obtain ⟨r, cap, rfl, _, _, _, _, h6⟩ := h.ex
  intro g hg
  cases r with
  | none => simp [Value.ownBlock] at hg
  | some a =>
    obtain ⟨g', o, rfl, h7, h8, _⟩ := h6 a rfl
    simp [Value.ownBlock] at hg
    subst hg
    exact ⟨h7, h8⟩
theorem OwnO.kept {B : Nat} {w w' : World} {v : Value} {row : Option Nat} {xs : List ByteArray} (h : OwnO B w v xs) (hg : w.grownBy w' row) (hr : ∀ g, v.ownBlock = some g → row ≠ some g) : OwnO B w' v xs := by
  obtain ⟨r, cap, rfl, h2, h3, h4, h5, h6⟩ := h.ex
  refine ⟨r, cap, rfl, h2, h3, h4, h5, fun a ha => ?_⟩
  subst ha
  obtain ⟨g, o, rfl, h7, h8, h9, h10⟩ := h6 a rfl
  have hne : ∀ k, row = some k → k ≠ g := fun k hk e => hr g rfl (by rw [hk, e])
  refine ⟨g, o, rfl, h7, Nat.lt_of_lt_of_le h8 hg.size, fun i hi => grown_cell hg h8 hne (h9 i hi), fun j hj => ?_⟩
  obtain ⟨k1, k2⟩ := h10 j hj
  obtain ⟨u, hu⟩ := Option.isSome_iff_exists.1 k1
  exact ⟨by rw [grown_cell hg h8 hne hu]; rfl, by rw [grown_frozen hg h8 hne]; exact k2⟩
theorem OwnO.below {B : Nat} {w w' : World} {v : Value} {xs : List ByteArray} (h : OwnO B w v xs) (hb : Below w.heap.size w w') : OwnO B w' v xs := h.kept (grown_below hb) (fun _ _ h => by cases h)
theorem OwnS.toO {B : Nat} {w : World} {v : Value} {xs : List ByteArray} (h : OwnS B w v xs) : OwnO B w v xs := by
  obtain ⟨h1, h2⟩ := h
  rcases h1.2 with ⟨rfl, h0⟩ | ⟨g, cap, cur, rfl, hb, hg, hn, hc, hs, ht⟩
  · have : xs = [] := List.eq_nil_of_length_eq_zero h0
    subst this
    exact ⟨none, 0, rfl, by simp, by simp, fun _ => rfl, by simp, fun a ha => by cases ha⟩
  · refine ⟨some ⟨g, 0, none⟩, cap, rfl, hn, hc, (fun h => by cases h), h2, fun a ha => ?_⟩
    cases ha
    refine ⟨g, 0, rfl, hb, lt_of_block hg, fun i hi => ?_, fun j hj => ⟨?_, frozen_of hg _⟩⟩
    · rw [cell_of hg]
      have h3 := flat_get encS 1 encS_len xs i hi 0 (by omega)
      rw [← ht, List.getElem?_take, if_pos (by omega), Array.getElem?_toList] at h3
      rw [Nat.zero_add]
      simpa [encS] using h3
    · rw [cell_of hg, Array.getElem?_eq_getElem (by omega)]; rfl
theorem OwnO.head {B : Nat} {w : World} {v : Value} {x : ByteArray} {xs : List ByteArray} (h : OwnO B w v (x :: xs)) : ∃ g o cap, v = .slice (some ⟨g, o, none⟩) (xs.length + 1) cap ∧ xs.length + 1 ≤ cap ∧ cap ≤ 9223372036854775807 ∧ w.cell? ⟨g, o, none⟩ = some (.string x) ∧ x.size ≤ maxLen := by
  obtain ⟨r, cap, rfl, h2, h3, h4, h5, h6⟩ := h.ex
  simp only [List.length_cons] at h2
  cases r with
  | none => have := h4 rfl; omega
  | some a =>
    obtain ⟨g, o, rfl, h7, h8, h9, h10⟩ := h6 a rfl
    have := h9 0 (by simp)
    unfold maxLen at h3
    exact ⟨g, o, cap, rfl, h2, by omega, by simpa using this, h5 x (by simp)⟩
theorem OwnO.tail {B : Nat} {w : World} {g o cap n : Nat} {x : ByteArray} {xs : List ByteArray} (h : OwnO B w (.slice (some ⟨g, o, none⟩) n cap) (x :: xs)) :
    (cap ≠ 1 → OwnO B w (.slice (some ⟨g, o + 1, none⟩) xs.length (cap - 1)) xs) ∧ (cap = 1 → xs = [] ∧ OwnO B w (.slice (some ⟨g, o, none⟩) 0 0) xs) := by
  obtain ⟨r, cap', e, h2, h3, h4, h5, h6⟩ := h.ex
  simp only [List.length_cons] at h2
  simp at e
  obtain ⟨rfl, rfl, rfl⟩ := e
  obtain ⟨g', o', e, h7, h8, h9, h10⟩ := h6 _ rfl
  simp at e
  obtain ⟨rfl, rfl⟩ := e
  refine ⟨fun hc => ⟨some ⟨g, o + 1, none⟩, cap - 1, rfl, by omega, by omega, (fun h => by cases h), fun y hy => h5 y (List.mem_cons_of_mem _ hy), fun a ha => ?_⟩, fun hc => ?_⟩
  · cases ha
    refine ⟨g, o + 1, rfl, h7, h8, fun i hi => ?_, fun j hj => ?_⟩
    · have := h9 (i + 1) (by simpa using hi)
      rw [show o + (i + 1) = o + 1 + i by omega] at this
      simpa using this
    · have := h10 (j + 1) (by omega)
      rw [show o + (j + 1) = o + 1 + j by omega] at this
      exact this
  · have h0 : xs = [] := List.eq_nil_of_length_eq_zero (by omega)
    subst h0
    refine ⟨rfl, ⟨some ⟨g, o, none⟩, 0, rfl, by simp, by simp, (fun h => by cases h), by simp, fun a ha => ?_⟩⟩
    cases ha
    exact ⟨g, o, rfl, h7, h8, fun i hi => absurd hi (by simp), fun j hj => absurd hj (by omega)⟩
theorem OwnO.init {B : Nat} {w : World} {r : Option Addr} {cap n : Nat} {x : ByteArray} {xs : List ByteArray} (h : OwnO B w (.slice r n cap) (xs ++ [x])) : OwnO B w (.slice r xs.length cap) xs := by
  obtain ⟨r', cap', e, h2, h3, h4, h5, h6⟩ := h.ex
  simp at e
  obtain ⟨rfl, rfl, rfl⟩ := e
  refine ⟨r, cap, rfl, by simp at h2; omega, h3, h4, fun y hy => h5 y (by simp [hy]), fun a ha => ?_⟩
  obtain ⟨g, o, e, h7, h8, h9, h10⟩ := h6 a ha
  refine ⟨g, o, e, h7, h8, fun i hi => ?_, h10⟩
  have := h9 i (by simp; omega)
  rw [List.getElem_append_left hi] at this
  exact this
theorem OwnO.last {B : Nat} {w : World} {v : Value} {x : ByteArray} {xs : List ByteArray} (h : OwnO B w v (xs ++ [x])) : ∃ g o cap, v = .slice (some ⟨g, o, none⟩) (xs.length + 1) cap ∧ xs.length + 1 ≤ cap ∧ cap ≤ 9223372036854775807 ∧ w.cell? ⟨g, o + xs.length, none⟩ = some (.string x) ∧ x.size ≤ maxLen := by
  obtain ⟨r, cap, rfl, h2, h3, h4, h5, h6⟩ := h.ex
  simp only [List.length_append, List.length_singleton] at h2
  cases r with
  | none => have := h4 rfl; omega
  | some a =>
    obtain ⟨g, o, rfl, h7, h8, h9, h10⟩ := h6 a rfl
    have := h9 xs.length (by simp)
    unfold maxLen at h3
    exact ⟨g, o, cap, by simp, h2, by omega, by simpa using this, h5 x (by simp)⟩
theorem OwnO.setBelow {B : Nat} {w : World} {v : Value} {xs : List ByteArray} (h : OwnO B w v xs) {a : Addr} (ha : a.block < B) (u : Value) : OwnO B (w.setCell a u) v xs := by
  refine h.kept (row := some a.block) ⟨rfl, rfl, rfl, by simp [World.setCell], fun k hk hne => Below.heap_setCell _ _ _ _ (fun e => hne (by rw [e]))⟩ fun g hg e => ?_
  have := (h.lt g hg).1
  cases e
  omega
theorem grown_any {w w' : World} (h : w.grownBy w' none) (row : Option Nat) : w.grownBy w' row := ⟨h.os, h.tape, h.output, h.size, fun k hk _ => h.block k hk (by simp)⟩

/-- What one more leaves. -/
def MoreO (B : Nat) (w : World) (v : Value) (xs : List ByteArray) (v' : Value) (w' : World) : Prop :=
  OwnO B w' v' xs ∧ w.grownBy w' v.ownBlock ∧ ∀ g, v'.ownBlock = some g → v.ownBlock = some g ∨ w.heap.size ≤ g
theorem app_o {w : World} {ops : Array Oper} {rest : List Oper} {o : Oper} {a : Act} {Q : Exit → Act → World → Prop} (hgd : o.guard = none) (s x : Operand) (ho : o.op = .call { callee := .builtin .append, args := #[s, x], argTypes := #[22, 22] })
    (B : Nat) (v : Value) (xs : List ByteArray) (hs : a.eval s = v) (hown : OwnO B w v xs) (nb c : Nat) (y : ByteArray) (hx : a.eval x = .slice (some ⟨nb, 0, none⟩) 1 c) {fr : Nat × Nat} (hy : w.heap[nb]? = some (.cells #[.string y] 9 fr)) (hys : y.size ≤ maxLen)
    (hn : xs.length + 1 ≤ 1000000) (hbase : B ≤ w.heap.size)
    (h : ∀ v' w', MoreO B w v (xs ++ [y]) v' w' → wpList Try.prog ops Q rest (a.put o.dst v') w') : wpList Try.prog ops Q (o :: rest) a w := by
  obtain ⟨i0, hi, hz0, hz1, hz2⟩ := info_parts strinfo
  obtain ⟨r, cap, rfl, h2, h3, h4, h5, h6⟩ := hown.ex
  have hnews : ∀ j u, ([Value.string y] : List Value)[j]? = some u → w.cell? ((⟨nb, 0, none⟩ : Addr).add j) = some u := fun j u hj => World.news_of_block hy j u (by simpa using hj)
  have hone : ∀ u ∈ ([Value.string y] : List Value), u.oneCell' = true := fun u hu => by simp at hu; subst hu; rfl
  have hsz : ∀ z ∈ xs ++ [y], z.size ≤ maxLen := fun z hz => by
    rw [List.mem_append] at hz
    rcases hz with hz | hz
    · exact h5 z hz
    · simp at hz; subst hz; exact hys
  have hadd : ∀ b o j : Nat, (⟨b, o, none⟩ : Addr).add j = ⟨b, o + j, none⟩ := fun b o j => by unfold Addr.add; by_cases h : j = 0 <;> simp [h]
  have grow : ∀ v' w', w'.ownsRow w.heap.size 9 1 v' (xs.length + 1) (xs.map Value.string ++ [.string y]) → w.grownBy w' none → MoreO B w (.slice r xs.length cap) (xs ++ [y]) v' w' := fun v' w' h1 h2 => by
    have ho : OwnS w.heap.size w' v' (xs ++ [y]) := ⟨by rw [encS_flat]; simpa using h1, hsz⟩
    refine ⟨?_, grown_any h2 _, fun g hg => Or.inr (ho.lt g hg).1⟩
    obtain ⟨r', cap', e, k2, k3, k4, k5, k6⟩ := ho.toO.ex
    refine ⟨r', cap', e, k2, k3, k4, k5, fun a ha => ?_⟩
    obtain ⟨g, o, e, k7, k8⟩ := k6 a ha
    exact ⟨g, o, e, by omega, k8⟩
  by_cases hr : xs.length + 1 ≤ cap
  · obtain ⟨a0, rfl⟩ : ∃ a0, r = some a0 := by
      cases r with
      | none => have := h4 rfl; omega
      | some a0 => exact ⟨a0, rfl⟩
    obtain ⟨g, off, rfl, h7, h8, h9, h10⟩ := h6 _ rfl
    refine wpList_append_arg w hgd s x 22 ho 9 i0 (.string ByteArray.empty) 1 16 Try.underlying22 hi hz0 hz1 hz2 rfl (by omega) g off xs.length cap (xs.map Value.string) hs (by simp) (fun j u hj => ?_) ⟨nb, 0, none⟩ 1 c [.string y] hx rfl hnews hone (fun _ j hj => ?_) (by unfold maxLen; omega) (by omega) (fun _ => ?_) (fun hh => by omega)
    · rw [List.getElem?_map] at hj
      cases hx : xs[j]? with
      | none => rw [hx] at hj; cases hj
      | some z =>
        rw [hx] at hj
        obtain ⟨hjl, rfl⟩ := List.getElem?_eq_some_iff.1 hx
        rw [h9 j hjl]; simpa using hj
    · have hj0 : j = 0 := by simpa using hj
      subst hj0
      have := h10 xs.length (by omega)
      simpa using this
    · have hcells : ∀ j, j < ([Value.string y] : List Value).length → (w.cell? ⟨g, off + xs.length * 1 + j, none⟩).isSome = true := fun j hj => by
        have hj0 : j = 0 := by simpa using hj
        subst hj0
        have := (h10 xs.length (by omega)).1
        simpa using this
      refine h _ _ ⟨⟨some ⟨g, off, none⟩, cap, by simp, by simpa using hr, h3, (fun h => by cases h), hsz, fun a ha => ?_⟩, ⟨(same_setCells g _ _ _).1, (same_setCells g _ _ _).2.1, (same_setCells g _ _ _).2.2, by rw [size_setCells']; exact Nat.le_refl _, fun k hk hne => heap_setCells_ne _ _ _ _ (fun e => hne (by rw [e]; rfl))⟩, fun g' hg' => Or.inl hg'⟩
      cases ha
      refine ⟨g, off, rfl, h7, by rw [size_setCells']; exact h8, fun i hi => ?_, fun j hj => ?_⟩
      · by_cases hix : i < xs.length
        · rw [World.cell?_setCells_out _ _ _ _ _ (fun _ _ => Or.inl (by simp only; omega)), h9 i hix, List.getElem_append_left hix]
        · have hie : i = xs.length := by simp at hi; omega
          subst hie
          have := World.cell?_setCells_in g [Value.string y] (off + xs.length * 1) w hcells 0 (by simp)
          simp only [Nat.mul_one, Nat.add_zero] at this
          rw [Nat.mul_one, this]
          simp
      · rw [World.frozen?_setCells]
        refine ⟨?_, (h10 j hj).2⟩
        by_cases hjx : j = xs.length
        · subst hjx
          have := World.cell?_setCells_in g [Value.string y] (off + xs.length * 1) w hcells 0 (by simp)
          simp only [Nat.mul_one, Nat.add_zero] at this
          rw [Nat.mul_one, this]; rfl
        · rw [World.cell?_setCells_out _ _ _ _ _ (fun _ _ => by simp only [List.length_singleton]; omega)]
          exact (h10 j hj).1
  · refine wpList_append_grows w hgd s x 22 ho 9 i0 (.string ByteArray.empty) 1 16 Try.underlying22 hi hz0 hz1 hz2 rfl (by omega) r xs.length cap (xs.map Value.string) hs (fun hr0 => ⟨by have := h4 hr0; omega, h4 hr0⟩) (by simp) (fun b hb j u hj => ?_) ⟨nb, 0, none⟩ 1 c [.string y] hx rfl hnews hone (by omega) (by unfold maxLen; omega) (by omega) (fun v' w' k1 k2 => h v' w' (grow v' w' k1 k2))
    obtain ⟨g, off, rfl, h7, h8, h9, h10⟩ := h6 _ hb
    rw [hadd]
    rw [List.getElem?_map] at hj
    cases hx : xs[j]? with
    | none => rw [hx] at hj; cases hj
    | some z =>
      rw [hx] at hj
      obtain ⟨hjl, rfl⟩ := List.getElem?_eq_some_iff.1 hx
      rw [h9 j hjl]; simpa using hj
end Go.Proofs.Ytlhekldlfmdmiaa
