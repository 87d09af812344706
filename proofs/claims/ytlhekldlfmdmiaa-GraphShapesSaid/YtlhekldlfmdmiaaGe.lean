import Derived.Test.YtlhekldlfmdmiaaKe
import Derived.Shelf.SlSortCmp.NoneTotal
import Derived.Test.YtlhekldlfmdmiaaGd
/-
  slices.SortFunc at edges, by the program's compare. Conditions: those ahead of each theorem.
-/
namespace Go.Proofs.Ytlhekldlfmdmiaa
open Go.RowKit Go.Sort Go.Lib Go.Maps
open Go.Lib (hid)
set_option linter.unusedVariables false
set_option linter.unusedSimpArgs false

theorem flatK_eq (ds : List Ed) : (flatK encE 2 ds.toArray).toList = ds.flatMap encE := by
  apply List.ext_getElem?
  intro t
  by_cases h : t < ds.length * 2
  · have h1 : t / 2 < ds.length := by omega
    have h2 := flat_get encE 2 encE_len ds (t / 2) h1 (t % 2) (Nat.mod_lt _ (by omega))
    rw [show t / 2 * 2 + t % 2 = t by omega] at h2
    rw [h2]
    have h3 : t < (flatK encE 2 ds.toArray).size := by simpa using h
    rw [Array.getElem?_toList, Array.getElem?_eq_getElem h3]
    have h4 := get_flatK encE 2 ds.toArray t (by simpa using h)
    rw [getElem!_pos _ t h3] at h4
    rw [h4, getElem!_pos ds.toArray (t / 2) (by simpa using h1)]
    simp only [List.getElem_toArray]
    have h5 : t % 2 < (encE ds[t / 2]).length := by rw [encE_len]; omega
    rw [getElem!_pos _ (t % 2) h5, List.getElem?_eq_getElem h5]
  · have e1 : (ds.flatMap encE)[t]? = none := List.getElem?_eq_none (by rw [flat_len encE 2 encE_len]; omega)
    rw [e1, List.getElem?_eq_none (by simp; omega)]
theorem own_sortK {w : World} {B g n cap q : Nat} {T : TypeId} {es ds : List Ed} {os : Array Obj} (h : w.ownsRow B T 2 (.slice (some ⟨g, 0, none⟩) n cap) n (es.flatMap encE)) (hl : ds.length = n) :
    (sortWorldK encE 2 w g 0 q ds.toArray os).ownsRow B T 2 (.slice (some ⟨g, 0, none⟩) n cap) n (ds.flatMap encE) ∧ w.grownBy (sortWorldK encE 2 w g 0 q ds.toArray os) (some g) := by
  rcases h.2 with ⟨e0, _⟩ | ⟨g', cap', cur, e0, hb, hg, hn, hm, hs, ht⟩
  · cases e0
  simp at e0
  obtain ⟨rfl, rfl⟩ := e0
  have hgl := lt_of_block hg
  have hF : (flatK encE 2 ds.toArray).size = n * 2 := by simp [hl]
  have hblk : (sortWorldK encE 2 w g 0 q ds.toArray os).heap[g]? = some (.cells (putCells id 0 (flatK encE 2 ds.toArray) cur) T (0, 0)) := by
    unfold sortWorldK
    rw [heap_grow_old _ _ (by simpa [putRowK, putRow, mapBlock, Sort.ahead] using hgl)]
    simp [putRowK, putRow, mapBlock, Sort.ahead, Array.getElem?_modify, hg, onCells]
  refine ⟨⟨by rw [flat_len encE 2 encE_len, hl], Or.inr ⟨g, cap, _, rfl, hb, hblk, hn, hm, ?_, ?_⟩⟩, ⟨rfl, rfl, rfl, ?_, fun k hk hne => ?_⟩⟩
  · simp [putCells, hs]
  · rw [← flatK_eq]
    apply List.ext_getElem?
    intro t
    rw [List.getElem?_take]
    split
    · rename_i hlt
      have h1 : t < (putCells id 0 (flatK encE 2 ds.toArray) cur).size := by
        have : n * 2 ≤ cap * 2 := Nat.mul_le_mul_right _ hn
        simp [putCells]; omega
      have h2 : t < (flatK encE 2 ds.toArray).size := by omega
      rw [Array.getElem?_toList, Array.getElem?_toList, Array.getElem?_eq_getElem h1, Array.getElem?_eq_getElem h2]
      simp only [putCells, Array.getElem_mapIdx]
      rw [if_pos (by omega), getElem!_pos _ _ (by omega)]
      simp
    · rename_i hlt
      rw [Array.getElem?_toList, Array.getElem?_eq_none (by omega)]
  · simp [sortWorldK, putRowK, putRow, mapBlock, Sort.ahead]
  · have : g ≠ k := fun e => hne (by rw [e])
    unfold sortWorldK
    rw [heap_grow_old _ _ (by simpa [putRowK, putRow, mapBlock, Sort.ahead] using hk)]
    simp [putRowK, putRow, mapBlock, Sort.ahead, Array.getElem?_modify, this]
theorem own_holdsK {w : World} {B g n cap : Nat} {T : TypeId} {es : List Ed} (h : w.ownsRow B T 2 (.slice (some ⟨g, 0, none⟩) n cap) n (es.flatMap encE)) (hl : es.length = n) : HoldsK encE 2 w g 0 es.toArray ∧ g < w.heap.size := by
  rcases h.2 with ⟨e0, _⟩ | ⟨g', cap', cur, e0, hb, hg, hn, hm, hs, ht⟩
  · cases e0
  simp at e0
  obtain ⟨rfl, rfl⟩ := e0
  refine ⟨fun j hj => ?_, lt_of_block hg⟩
  have hj' : j < n * 2 := by simpa [hl] using hj
  refine ⟨?_, ?_⟩
  · have e1 : (flatK encE 2 es.toArray).toList[j]? = (cur.toList.take (n * 2))[j]? := by rw [ht, flatK_eq]
    rw [List.getElem?_take, if_pos hj', Array.getElem?_toList, Array.getElem?_toList, Array.getElem?_eq_getElem hj] at e1
    unfold World.cell?
    simp only [hg, Nat.zero_add]
    simp only [Option.isSome_none, Bool.false_eq_true, if_false]
    rw [← e1, getElem!_pos _ j hj]; rfl
  · unfold World.frozen?
    simp [hg]

theorem sort_ed (B : Nat) (v : Value) (es : List Ed) (W : World) (hown : OwnE B W v es) (hn : es.length ≤ 1000000) :
    Calls Try.prog 48 #[v, .func (.func 49) #[] #[]] W fun e w' =>
      e = .returned (.tuple #[]) ∧ ∃ ds : List Ed, ds.Perm es ∧ (ds.Pairwise fun x y => lessE y x = false) ∧ OwnE B w' v ds ∧ W.grownBy w' v.ownBlock := by
  by_cases hv : v = .slice none 0 0
  · subst hv
    have hx : es = [] := by
      rcases hown.1.2 with ⟨_, h⟩ | ⟨g, cap, cur, h, _⟩
      · exact List.eq_nil_of_length_eq_zero h
      · cases h
    subst hx
    have h := AnyF.slices_SortFunc_none (P := Try.prog) (ρ := Try.sortE_ren) Try.sortE none 0 (.func (.func 49) #[] #[]) W
    exact h.mono fun e w' ⟨he, hw⟩ => ⟨he, [], List.Perm.refl _, List.Pairwise.nil, by rw [hw]; exact hown, by rw [hw]; exact World.grownBy.refl _ _⟩
  · obtain ⟨g, cap, cur, rfl, hb, hg, hn', hm, hs, ht⟩ : ∃ g cap cur, v = .slice (some ⟨g, 0, none⟩) es.length cap ∧ B ≤ g ∧ W.heap[g]? = some (.cells cur 43 (0, 0)) ∧ es.length ≤ cap ∧ cap ≤ maxLen ∧ cur.size = cap * 2 ∧ cur.toList.take (es.length * 2) = es.flatMap encE := by
      rcases hown.1.2 with ⟨h, _⟩ | h
      · exact absurd h hv
      · exact h
    obtain ⟨hH, hlt⟩ := own_holdsK hown.1 rfl
    have hswo : SWO (ltOf cmpE) := {
      irrefl := fun x => by rw [cmpE_eq]; exact stoE.irr x
      trans := fun x y z h1 h2 => by rw [cmpE_eq] at *; exact stoE.tr _ _ _ h1 h2
      ntrans := fun x y z h1 h2 => by
        rw [cmpE_eq] at *
        cases hh : lessE x z with
        | false => rfl
        | true =>
          cases h3 : lessE y x with
          | true => rw [stoE.tr _ _ _ h3 hh] at h2; cases h2
          | false => rw [stoE.tot _ _ h1 h3, h2] at hh; cases hh }
    have hcmp : CmpLays Try.prog 49 #[] encE 2 cmpE g 0 es.toArray.size W := fun m os dk hs x y => compare_any x y _
    have h := AnyQ.slices_SortFunc (P := Try.prog) (ρ := Try.sortE_ren) Try.sortE 2 Try.isAgg43 Try.sizeOf43 encE encE_len encE_one cmpE hswo 49 #[] g 0 cap es.toArray W (enters_of Try.func49 (by kernel_rfl) rfl) hcmp hH hlt (by simp; omega)
    have hsz : es.toArray.size = es.length := by simp
    rw [hsz] at h
    refine Calls.mono (show Calls Try.prog 48 _ W _ from h) ?_
    rintro e w' ⟨he, d', q, os, hp, hsd, hw⟩
    obtain ⟨d'⟩ := d'
    have hl : d'.length = es.length := by have := hp.1; simpa using this
    have hpl : d'.Perm es := by
      obtain ⟨h1, _, h2⟩ := hp
      have e1 : ((⟨d'⟩ : Array Ed).extract 0 es.length) = ⟨d'⟩ := by rw [← hl]; simp
      have e2 : (es.toArray.extract 0 es.length) = es.toArray := by simp
      rw [e1, e2] at h2
      exact h2
    obtain ⟨k1, k2⟩ := own_sortK (q := q) (os := os) hown.1 hl
    rw [hw]
    refine ⟨he, d', hpl, ?_, ⟨by rw [hl]; exact k1, fun x hx => hown.2 x (hpl.mem_iff.1 hx)⟩, k2⟩
    rw [List.pairwise_iff_getElem]
    intro i j hi hj hij
    have := hsd i j (Nat.zero_le _) hij (by omega)
    rw [getElem!_pos (⟨d'⟩ : Array Ed) i (by simpa using hi), getElem!_pos (⟨d'⟩ : Array Ed) j (by simpa using hj), cmpE_eq] at this
    simpa using this
theorem asc_of_sorted {ds : List Ed} (h : ds.Pairwise fun x y => lessE y x = false) (hn : ds.Nodup) : AscE ds :=
  (h.and hn).imp fun {x y} ⟨h1, h2⟩ => by
    cases hh : lessE x y with
    | true => rfl
    | false => exact absurd (stoE.tot _ _ hh h1) h2
end Go.Proofs.Ytlhekldlfmdmiaa
