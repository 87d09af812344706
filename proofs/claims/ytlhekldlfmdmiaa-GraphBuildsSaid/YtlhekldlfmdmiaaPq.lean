import Derived.Test.YtlhekldlfmdmiaaSm
/-
  What Check's zero says. Conditions: those ahead of each theorem.
-/
namespace Go.Proofs.Ytlhekldlfmdmiaa
set_option linter.unusedVariables false
set_option linter.unusedSimpArgs false

theorem chkE_all {ns : List ByteArray} {es : List Ed} (h : chkE ns es = 0) : ∀ j, j < es.length → errA ns es j = 0 := by
  intro j
  induction j using Nat.strongRecOn with
  | _ j ih =>
    intro hj
    by_cases h0 : errA ns es j = 0
    · exact h0
    · have := chkE_stop hj (fun i hi => ih i hi (by omega)) h0
      rw [this] at h
      exact h
theorem errA_zero {ns : List ByteArray} {es : List Ed} {k : Nat} (hk : k < es.length) (h : errA ns es k = 0) :
    (es[k]).1 ∈ ns ∧ (es[k]).2 ∈ ns ∧ (0 < k → lessE (es[k - 1]'(by omega)) es[k] = true) := by
  rw [errA_in hk] at h
  by_cases h1 : (hasS (es[k]).1 ns && hasS (es[k]).2 ns) = false
  · rw [if_pos h1] at h; omega
  rw [if_neg h1] at h
  have h2 : hasS (es[k]).1 ns = true ∧ hasS (es[k]).2 ns = true := by simpa using h1
  refine ⟨by simpa [hasS] using h2.1, by simpa [hasS] using h2.2, fun h0 => ?_⟩
  cases hl : lessE (es[k - 1]'(by omega)) es[k] with
  | true => rfl
  | false => rw [hl] at h; simp [h0] at h
theorem chk_ok {ns : List ByteArray} {es : List Ed} (h : chkG ns es = 0) : ns.length ≤ 2048 ∧ AscB ns ∧ (∀ e ∈ es, e.1 ∈ ns ∧ e.2 ∈ ns) ∧ ∀ k (hk : k < es.length), 0 < k → lessE (es[k - 1]'(by omega)) es[k] = true := by
  unfold chkG at h
  by_cases h1 : 2048 < ns.length
  · rw [if_pos h1] at h; omega
  rw [if_neg h1] at h
  by_cases h2 : ascI ns = false
  · rw [if_pos h2] at h; omega
  rw [if_neg h2] at h
  have hz := chkE_all h
  refine ⟨by omega, ascI_iff.1 (by simpa using h2), fun e he => ?_, fun k hk h0 => (errA_zero hk (hz k hk)).2.2 h0⟩
  obtain ⟨k, hk, rfl⟩ := List.getElem_of_mem he
  exact ⟨(errA_zero hk (hz k hk)).1, (errA_zero hk (hz k hk)).2.1⟩
theorem chk_of {ns : List ByteArray} {es : List Ed} (h1 : ns.length ≤ 2048) (h2 : AscB ns) (h3 : ∀ e ∈ es, e.1 ∈ ns ∧ e.2 ∈ ns) (h4 : ∀ k (hk : k < es.length), 0 < k → lessE (es[k - 1]'(by omega)) es[k] = true) : chkG ns es = 0 := by
  unfold chkG
  rw [if_neg (by omega), if_neg (by rw [ascI_iff.2 h2]; simp)]
  refine chkE_zero fun j hj => ?_
  have hm := h3 _ (List.getElem_mem hj)
  have e1 : hasS (es[j]).1 ns = true := by simpa [hasS] using hm.1
  have e2 : hasS (es[j]).2 ns = true := by simpa [hasS] using hm.2
  rw [errA_in hj, e1, e2, if_neg (by simp)]
  by_cases h0 : 0 < j
  · rw [h4 j hj h0]; simp
  · simp [h0]
theorem asc_of_next {α : Type} {lt : α → α → Bool} (st : STO lt) {l : List α} (h : ∀ k (hk : k < l.length), 0 < k → lt (l[k - 1]'(by omega)) l[k] = true) : AscL lt l := by
  refine List.pairwise_iff_getElem.2 fun i j hi hj hij => ?_
  induction j with
  | zero => omega
  | succ j ih =>
    have h1 := h (j + 1) hj (by omega)
    by_cases e : i = j
    · subst e; exact h1
    · exact st.tr _ _ _ (ih (by omega) (by omega)) h1
theorem chk_iff {ns : List ByteArray} {es : List Ed} : chkG ns es = 0 ↔ ns.length ≤ 2048 ∧ AscB ns ∧ (∀ e ∈ es, e.1 ∈ ns ∧ e.2 ∈ ns) ∧ AscE es :=
  ⟨fun h => ⟨(chk_ok h).1, (chk_ok h).2.1, (chk_ok h).2.2.1, asc_of_next stoE (chk_ok h).2.2.2⟩,
   fun ⟨h1, h2, h3, h4⟩ => chk_of h1 h2 h3 fun k hk h0 => asc_getElem h4 (by omega) hk (by omega)⟩
theorem swap_swap (e : Ed) : swapE (swapE e) = e := rfl
/-- A reversed graph's edges are in strict order. -/
theorem rev_asc {es rs : List Ed} (h : AscE es) (hp : rs.Perm (es.map swapE)) (hs : rs.Pairwise fun x y => lessE y x = false) : AscE rs := by
  have hn : (es.map swapE).Nodup := List.pairwise_map.2 ((asc_nodup stoE h).imp fun {a b} hab e => hab (by have h5 := congrArg swapE e; rw [swap_swap, swap_swap] at h5; exact h5))
  have hn2 : rs.Nodup := hp.nodup_iff.2 hn
  refine (hs.and hn2).imp fun {x y} ⟨h1, h2⟩ => ?_
  cases h3 : lessE x y with
  | true => rfl
  | false => exact absurd (stoE.tot _ _ h3 h1) h2
/-- Reversed twice a graph is what it was. -/
theorem rev_rev {es rs qs : List Ed} (h : AscE es) (hp : rs.Perm (es.map swapE)) (hs : rs.Pairwise fun x y => lessE y x = false) (hp2 : qs.Perm (rs.map swapE)) (hs2 : qs.Pairwise fun x y => lessE y x = false) : qs = es := by
  refine ascE_eq (rev_asc (rev_asc h hp hs) hp2 hs2) h fun x => ?_
  rw [hp2.mem_iff, List.mem_map]
  constructor
  · rintro ⟨e, he, rfl⟩
    rw [hp.mem_iff, List.mem_map] at he
    obtain ⟨f, hf, rfl⟩ := he
    exact hf
  · intro hx
    exact ⟨swapE x, hp.mem_iff.2 (List.mem_map.2 ⟨x, hx, rfl⟩), rfl⟩
/-- A reversed graph is valid. -/
theorem rev_chk {ns : List ByteArray} {es rs : List Ed} (h : chkG ns es = 0) (hp : rs.Perm (es.map swapE)) (hs : rs.Pairwise fun x y => lessE y x = false) : chkG ns rs = 0 := by
  obtain ⟨h1, h2, h3, h4⟩ := chk_iff.1 h
  refine chk_iff.2 ⟨h1, h2, fun e he => ?_, rev_asc h4 hp hs⟩
  rw [hp.mem_iff, List.mem_map] at he
  obtain ⟨f, hf, rfl⟩ := he
  exact ⟨(h3 f hf).2, (h3 f hf).1⟩
/-- There is no cycle, just where no node walks to itself. -/
theorem cyc_nil {F : ByteArray → List ByteArray} {ns : List ByteArray} : cycF F ns = [] ↔ ∀ x ∈ ns, ∀ n, ¬ Wk F (n + 1) x x := by
  unfold cycF
  constructor
  · intro h x hx
    by_cases h0 : (stF (girF F) ns).2 = 0
    · rcases stF_spec (girF F) ns with h1 | h1
      · exact gir_zero.1 (h1.2 x hx)
      · omega
    · rw [if_neg h0] at h; cases h
  · intro h
    rcases stF_spec (girF F) ns with h1 | h1
    · rw [if_pos h1.1]
    · have h2 := gir_zero.2 (h _ h1.2.1)
      rw [h1.2.2] at h2; omega
/-- Reversing keeps whether there is a cycle. -/
theorem rev_cyc {ns : List ByteArray} {es rs : List Ed} (hp : rs.Perm (es.map swapE)) : cycF (tgt rs) ns = [] ↔ cycF (tgt es) ns = [] := by
  rw [cyc_nil, cyc_nil]
  constructor
  · intro h x hx n hw; exact h x hx n ((wk_rev (tgt_rev hp)).2 hw)
  · intro h x hx n hw; exact h x hx n ((wk_rev (tgt_rev hp)).1 hw)
end Go.Proofs.Ytlhekldlfmdmiaa
