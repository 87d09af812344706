import Derived.Test.YtlhekldlfmdmiaaGy
/-
  What the examples of the statements come to, in plain Lean. Conditions: none.
-/
namespace Go.Proofs.Ytlhekldlfmdmiaa
set_option linter.unusedVariables false
set_option linter.unusedSimpArgs false

abbrev sa : ByteArray := ⟨#[97]⟩
abbrev sb : ByteArray := ⟨#[98]⟩
abbrev sc : ByteArray := ⟨#[99]⟩
theorem wk_closed {F : ByteArray → List ByteArray} {C : List ByteArray} (hC : ∀ x ∈ C, ∀ y ∈ F x, y ∈ C) : ∀ {n : Nat} {x y : ByteArray}, x ∈ C → Wk F n x y → y ∈ C
  | 0, x, y, hx, h => by cases h; exact hx
  | n + 1, x, y, hx, ⟨c, hc, h⟩ => wk_closed hC (hC x hx c hc) h
theorem g1 : ofG (madeN [⟨#[97, 99]⟩, ⟨#[99, 98]⟩]) (madeE [⟨#[97, 99]⟩, ⟨#[99, 98]⟩]) = ([sa, sb, sc], [(sa, sc), (sc, sb)], 0) := by decide +kernel
theorem g2 : ofG (madeN [⟨#[97, 98]⟩, ⟨#[98, 97]⟩]) (madeE [⟨#[97, 98]⟩, ⟨#[98, 97]⟩]) = ([sa, sb], [(sa, sb), (sb, sa)], 0) := by decide +kernel
theorem g3 : ofG (madeN [⟨#[97, 98]⟩, ⟨#[98, 99]⟩, ⟨#[97, 99]⟩]) (madeE [⟨#[97, 98]⟩, ⟨#[98, 99]⟩, ⟨#[97, 99]⟩]) = ([sa, sb, sc], [(sa, sb), (sa, sc), (sb, sc)], 0) := by decide +kernel
theorem g4 : ofG (madeN [⟨#[97, 98]⟩, ⟨#[98, 97]⟩, ⟨#[99, 99]⟩]) (madeE [⟨#[97, 98]⟩, ⟨#[98, 97]⟩, ⟨#[99, 99]⟩]) = ([sa, sb, sc], [(sa, sb), (sb, sa), (sc, sc)], 0) := by decide +kernel
theorem g5 : ofG (madeN [⟨#[97, 98]⟩, ⟨#[98, 99]⟩]) (madeE [⟨#[97, 98]⟩, ⟨#[98, 99]⟩]) = ([sa, sb, sc], [(sa, sb), (sb, sc)], 0) := by decide +kernel
theorem o1 : ordO [sa, sb, sc] [(sa, sc), (sc, sb)] = [sb, sc, sa] ∧ ordE [sa, sb, sc] [(sa, sc), (sc, sb)] = 0 := by decide +kernel
theorem o2 : ordE [sa, sb] [(sa, sb), (sb, sa)] = 10 := by decide +kernel
theorem o3 : ordE [sa, sb, sc] [(sa, sb), (sa, sc), (sb, sc)] = 0 := by decide +kernel
theorem e1 : endsIn [sa, sb, sc] [(sa, sc), (sc, sb)] = true := by decide +kernel
theorem e2 : endsIn [sa, sb] [(sa, sb), (sb, sa)] = true := by decide +kernel
theorem e3 : endsIn [sa, sb, sc] [(sa, sb), (sa, sc), (sb, sc)] = true := by decide +kernel
theorem a3 : AscB [sa, sb, sc] := by
  unfold AscB AscL
  simp only [List.pairwise_cons, List.mem_cons, List.mem_nil_iff, or_false]
  refine ⟨?_, ?_, ?_, List.Pairwise.nil⟩
  · rintro a (rfl | rfl)
    · decide +kernel
    · decide +kernel
  · rintro a rfl; decide +kernel
  · intro a h; cases h
theorem a2 : AscB [sa, sb] := by
  unfold AscB AscL
  simp only [List.pairwise_cons, List.mem_cons, List.mem_nil_iff, or_false]
  refine ⟨?_, ?_, List.Pairwise.nil⟩
  · rintro a rfl; decide +kernel
  · intro a h; cases h
theorem ab : sa ≠ sb := by decide +kernel
theorem ac : sa ≠ sc := by decide +kernel
theorem bc : sb ≠ sc := by decide +kernel
/-- Reduce. -/
theorem r3 : (redL (tgt [(sa, sb), (sa, sc), (sb, sc)]) [sa, sb, sc]).length = 2 := by
  have ta : tgt [(sa, sb), (sa, sc), (sb, sc)] sa = [sb, sc] := by decide +kernel
  have tb : tgt [(sa, sb), (sa, sc), (sb, sc)] sb = [sc] := by decide +kernel
  have tc : tgt [(sa, sb), (sa, sc), (sb, sc)] sc = [] := by decide +kernel
  generalize tgt [(sa, sb), (sa, sc), (sb, sc)] = F at *
  have n1 : farB F sa sb = false := by
    cases h : farB F sa sb with
    | false => rfl
    | true =>
      rw [farB_iff, ta] at h
      obtain ⟨m, hm, k, c, hc, hw⟩ := h
      have hcc : c ∈ [sc] := by
        simp at hm
        rcases hm with rfl | rfl
        · rw [tb] at hc; exact hc
        · rw [tc] at hc; cases hc
      have := wk_closed (C := [sc]) (by simp [tc]) hcc hw
      exact absurd (hasS_iff.2 this) (by decide +kernel)
  have n2 : farB F sa sc = true := by
    rw [farB_iff, ta]
    exact ⟨sb, by simp, 0, sc, by rw [tb]; simp, rfl⟩
  have n3 : farB F sb sc = false := by
    cases h : farB F sb sc with
    | false => rfl
    | true =>
      rw [farB_iff, tb] at h
      obtain ⟨m, hm, k, c, hc, hw⟩ := h
      simp at hm
      subst hm
      rw [tc] at hc; cases hc
  simp [redL, redN, ta, tb, tc, n1, n2, n3]
/-- Cycle. -/
theorem cy4 : cycF (tgt [(sa, sb), (sb, sa), (sc, sc)]) [sa, sb, sc] = [sc] := by
  have ta : tgt [(sa, sb), (sb, sa), (sc, sc)] sa = [sb] := by decide +kernel
  have tb : tgt [(sa, sb), (sb, sa), (sc, sc)] sb = [sa] := by decide +kernel
  have tc : tgt [(sa, sb), (sb, sa), (sc, sc)] sc = [sc] := by decide +kernel
  generalize tgt [(sa, sb), (sb, sa), (sc, sc)] = F at *
  have n1 : girF F sa ≠ 1 := fun h => by
    obtain ⟨⟨c, hc, hw⟩, _⟩ := gir_pos.1 h
    rw [ta] at hc
    simp at hc
    subst hc
    exact ab hw.symm
  have n2 : girF F sb ≠ 1 := fun h => by
    obtain ⟨⟨c, hc, hw⟩, _⟩ := gir_pos.1 h
    rw [tb] at hc
    simp at hc
    subst hc
    exact ab hw
  have n3 : girF F sc = 1 := gir_pos.2 ⟨⟨sc, by rw [tc]; simp, rfl⟩, fun m hm => by omega⟩
  have hs : stF (girF F) [sa, sb, sc] = (sc, 1) := by
    have h1 := stF_snoc (girF F) [sa, sb] sc
    have h2 : (stF (girF F) [sa, sb]).2 = 0 ∨ 1 < (stF (girF F) [sa, sb]).2 := by
      rcases stF_spec (girF F) [sa, sb] with ⟨h, _⟩ | ⟨h, h3, h4⟩
      · exact Or.inl h
      · right
        have : (stF (girF F) [sa, sb]).2 ≠ 1 := fun e => by
          rw [e] at h4
          simp only [List.mem_cons, List.mem_nil_iff, or_false] at h3
          rcases h3 with h3 | h3 <;> rw [h3] at h4
          · exact n1 h4
          · exact n2 h4
        omega
    rw [n3, if_pos ⟨by omega, h2⟩] at h1
    exact h1
  unfold cycF
  rw [hs]
  simp [pthF]
/-- Reach. -/
theorem p5 : LisP [sa, sb, sc] (RchN [sa, sb, sc] [(sa, sb), (sb, sc)] [sb]) [sb, sc] := by
  have tb : tgt [(sa, sb), (sb, sc)] sb = [sc] := by decide +kernel
  have tc : tgt [(sa, sb), (sb, sc)] sc = [] := by decide +kernel
  refine ⟨(List.pairwise_cons.1 a3).2, fun x => ?_⟩
  unfold RchN
  generalize tgt [(sa, sb), (sb, sc)] = F at *
  constructor
  · intro hx
    simp at hx
    rcases hx with rfl | rfl
    · exact ⟨by simp, sb, by simp, by simp, 0, rfl⟩
    · exact ⟨by simp, sb, by simp, by simp, 1, sc, by rw [tb]; simp, rfl⟩
  · rintro ⟨_, a, ha, _, n, hw⟩
    simp at ha
    subst ha
    exact wk_closed (C := [sb, sc]) (by simp [tb, tc]) (by simp) hw
/-- Only. -/
theorem y5 : (onlE (tgt [(sa, sb), (sb, sc)]) ([sa, sb, sc].filter fun x => hasS x [sa, sc]) ([sa, sb, sc].filter fun x => hasS x [sa, sc])).length = 1 := by
  have hf : ([sa, sb, sc].filter fun x => hasS x [sa, sc]) = [sa, sc] := by decide +kernel
  have ta : tgt [(sa, sb), (sb, sc)] sa = [sb] := by decide +kernel
  have tb : tgt [(sa, sb), (sb, sc)] sb = [sc] := by decide +kernel
  have tc : tgt [(sa, sb), (sb, sc)] sc = [] := by decide +kernel
  rw [hf]
  generalize tgt [(sa, sb), (sb, sc)] = F at *
  have n1 : reB F sa sa = false := by
    cases h : reB F sa sa with
    | false => rfl
    | true =>
      rw [reB_iff] at h
      obtain ⟨k, c, hc, hw⟩ := h
      rw [ta] at hc
      have := wk_closed (C := [sb, sc]) (by simp [tb, tc]) (show c ∈ [sb, sc] by simp at hc; simp [hc]) hw
      exact absurd (hasS_iff.2 this) (by decide +kernel)
  have n2 : reB F sa sc = true := reB_iff.2 ⟨1, sb, by rw [ta]; simp, sc, by rw [tb]; simp, rfl⟩
  have n3 : ∀ x, reB F sc x = false := fun x => by
    cases h : reB F sc x with
    | false => rfl
    | true =>
      rw [reB_iff] at h
      obtain ⟨k, c, hc, hw⟩ := h
      rw [tc] at hc; cases hc
  simp [onlE, n1, n2, n3]
end Go.Proofs.Ytlhekldlfmdmiaa
