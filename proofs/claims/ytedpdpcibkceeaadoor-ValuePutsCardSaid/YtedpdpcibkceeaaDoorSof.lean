import Derived.Test.YtedpdpcibkceeaaDoorMap
import Derived.Test.YtedpdpcibkceeaaDoorSrt
import Derived.Shelf.SlSortCmp.NoneTotal
import Derived.Test.YtedpdpcibkceeaaDoorAsc
/-
  slices.SortFunc at Map's closure: the order of the keys. Conditions: those ahead of each theorem.
-/
namespace Go.Proofs.YtedpdpcibkceeaaDoor
open Go.RowKit Go.Sort Go.Lib
open Go.Lib (hid)
set_option linter.unusedVariables false
set_option linter.unusedSimpArgs false

def keyAt (ks : List ByteArray) (i : Nat) : ByteArray := ks.getD i ⟨#[]⟩
theorem keyAt_eq {ks : List ByteArray} {i : Nat} (h : i < ks.length) : keyAt ks i = ks[i] := by unfold keyAt; simp [h]
theorem cmpS_neg {a b : ByteArray} : cmpS a b < 0 ↔ ltS a b := by
  unfold cmpS ltS
  by_cases h1 : a.data.toList < b.data.toList
  · simp [h1]
  · rw [if_neg h1]
    by_cases h2 : b.data.toList < a.data.toList <;> simp [h1, h2]
theorem entersMap : ∀ args w, (callFunc 62 args).run Tryd.prog w = .ok (.enter 62 args) w := enters_of Tryd.func62 (by kernel_rfl) rfl

theorem ltOf_key {n : Nat} (f : Fin n → ByteArray) (x y : Fin n) : ltOf (fun x y => cmpS (f x) (f y)) x y = decide (ltS (f x) (f y)) := by
  unfold ltOf
  rw [decide_eq_decide]; exact cmpS_neg
theorem swo_key {n : Nat} (f : Fin n → ByteArray) : SWO (ltOf fun x y => cmpS (f x) (f y)) where
  irrefl x := by rw [ltOf_key]; simpa using ltS_irrefl _
  trans x y z h1 h2 := by
    rw [ltOf_key] at *
    simp only [decide_eq_true_eq] at *
    exact ltS_trans h1 h2
  ntrans x y z h1 h2 := by
    rw [ltOf_key] at *
    simp only [decide_eq_false_iff_not] at *
    intro h
    by_cases e : ltS (f y) (f x)
    · exact h2 (ltS_trans e h)
    · have := ltS_total h1 e
      rw [this] at h
      exact h2 h

set_option maxHeartbeats 1000000 in
theorem sort_ord (ks : List ByteArray) (n : Nat) (hn : n = ks.length) (r : Option Addr) (c B B2 : Nat) (W : World) (hB : B < W.heap.size) (hn2 : n ≤ 10000000000000)
    (hcell : ∀ j, j < n → W.cell? ⟨B, j, none⟩ = some (.int .i64 (j : Nat)) ∧ W.frozen? ⟨B, j, none⟩ = false)
    (hS : ∀ W', Below B W W' → W'.cell? ⟨B2, 0, none⟩ = some (.slice r n c) ∧ Sl StrR 1 W' (.slice r n c) ks) :
    Calls Tryd.prog 61 #[.slice (some ⟨B, 0, none⟩) n n, .func (.func 62) #[] #[.pointer (some ⟨B2, 0, none⟩)]] W fun e w' =>
      e = .returned (.tuple #[]) ∧ Below B W w' ∧ ∃ m : List Nat, m.Perm (List.range n) ∧ SrtS (m.map (keyAt ks)) ∧ ∀ j (h : j < m.length), w'.cell? ⟨B, j, none⟩ = some (.int .i64 (m[j] : Nat)) := by
  by_cases h0 : n = 0
  · subst h0
    have h := AnyF.slices_SortFunc_none (P := Tryd.prog) (ρ := Tryd.sortL_ren) { Tryd.sortL with } (some ⟨B, 0, none⟩) 0 (.func (.func 62) #[] #[.pointer (some ⟨B2, 0, none⟩)]) W
    exact h.mono fun e w' ⟨he, hw⟩ => ⟨he, by rw [hw]; exact Below.refl _ _, [], by simp, by simp [SrtS], fun j h => absurd h (by simp)⟩
  · haveI : Inhabited (Fin n) := ⟨⟨0, by omega⟩⟩
    have hd : ((List.finRange n).toArray).size = n := by simp
    have hget : ∀ j (h : j < n), ((List.finRange n).toArray)[j]! = ⟨j, h⟩ := fun j h => by
      rw [getElem!_pos _ j (by rw [hd]; exact h)]; simp
    have hH : Holds (fun i : Fin n => Value.int .i64 (i.val : Nat)) W B 0 (List.finRange n).toArray := fun j hj => by
      rw [hd] at hj
      rw [hget j hj, Nat.zero_add]
      exact hcell j hj
    have hcmp : CmpReads Tryd.prog 62 #[.pointer (some ⟨B2, 0, none⟩)] (fun i : Fin n => Value.int .i64 (i.val : Nat)) (fun x y : Fin n => cmpS (keyAt ks x.val) (keyAt ks y.val)) B 0 ((List.finRange n).toArray).size W := fun m os dk hs x y => by
      have hb := below_sort (B := B) (fun i : Fin n => Value.int .i64 (i.val : Nat)) W B 0 m dk os (Nat.le_refl _) (Nat.le_of_lt hB)
      obtain ⟨h1, h2⟩ := hS _ hb
      have hx := x.isLt
      have hy := y.isLt
      have := mapcl_any ks x.val y.val (by omega) (by omega) B2 r c (sortWorld (fun i : Fin n => Value.int .i64 (i.val : Nat)) W B 0 m dk os) (by rw [← hn]; exact h1) (by rw [← hn]; exact h2) (by omega)
      rw [← keyAt_eq (ks := ks) (i := x.val) (by omega), ← keyAt_eq (ks := ks) (i := y.val) (by omega)] at this
      exact this
    have h := Any.slices_SortFunc (P := Tryd.prog) (ρ := Tryd.sortL_ren) Tryd.sortL (fun i : Fin n => Value.int .i64 (i.val : Nat)) (fun _ => rfl) (fun x y : Fin n => cmpS (keyAt ks x.val) (keyAt ks y.val)) (swo_key fun x : Fin n => keyAt ks x.val) 62 #[.pointer (some ⟨B2, 0, none⟩)] B 0 n (List.finRange n).toArray W entersMap hcmp.lays hH hB (by rw [hd]; omega)
    rw [hd] at h
    refine Calls.mono (show Calls Tryd.prog 61 _ W _ from h) ?_
    rintro e w' ⟨he, d', q, os, hp, hs, hw⟩
    have hsz : d'.size = n := by have := hp.1; rw [hd] at this; exact this
    have hp' := perm_list (d := (List.finRange n).toArray) (d' := d') (by rw [hd]; exact hp)
    have hs' := sorted_list hsz hs
    have hol := holds_sortWorld (fun i : Fin n => Value.int .i64 (i.val : Nat)) W B 0 q (List.finRange n).toArray d' os hB hH (by rw [hsz, hd])
    refine ⟨he, by rw [hw]; exact below_sort _ _ _ _ _ _ _ (Nat.le_refl _) (Nat.le_of_lt hB), d'.toList.map Fin.val, ?_, ?_, ?_⟩
    · have := hp'.map Fin.val
      have e : (List.finRange n).map Fin.val = List.range n := by
        apply List.ext_getElem
        · simp
        · intro i h1 h2; simp
      rw [← e]; exact this
    · unfold SrtS
      rw [List.map_map, List.pairwise_map]
      refine hs'.imp fun {x y} h => ?_
      rw [ltOf_key (fun x : Fin n => keyAt ks x.val)] at h
      simpa using h
    · intro j hj
      have hj' : j < d'.size := by simpa using hj
      have := (hol j hj').1
      rw [getElem!_pos d' j hj', Nat.zero_add] at this
      rw [hw, this]
      simp
end Go.Proofs.YtedpdpcibkceeaaDoor
