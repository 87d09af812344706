import Derived.Test.YtedpdpcibkceeaaDoorMap2
import Derived.Test.YtedpdpcibkceeaaDoorShelf
import Derived.Shelf.Spec.SlicesInsert
import Derived.Lib.AppendZerosOnto
import Derived.Laws.OwnMore
import Derived.Deep.RegionLaw
/-
  copy at elements of several cells; what it leaves of a block; lists of rows with one row put in. Conditions: those ahead of each theorem.
-/
namespace Go.Proofs.YtedpdpcibkceeaaDoor
open Go.RowKit Go.Sort Go.Lib
open Go.Lib (hid)
set_option linter.unusedVariables false
set_option linter.unusedSimpArgs false

theorem run_copy_k {P : Program} (k : Nat) (w : World) (dT sT ty elem : TypeId) (b o dLen dCap : Nat) (a : Addr) (sLen sCap m : Nat) (cs : List Value)
    (hu : P.underlying dT = some (.slice elem)) (hs : (P.info? elem).map (·.size) = some k) (hm : Nat.min sLen dLen = m) (hn : cs.length = m * k)
    (hsrc : ∀ j v, cs[j]? = some v → w.cell? (a.add j) = some v) (hc : ∀ j, j < cs.length → (w.cell? ⟨b, o + j, none⟩).isSome = true) (hf : ∀ j, j < cs.length → w.frozen? ⟨b, o + j, none⟩ = false) (h1 : ∀ v ∈ cs, v.oneCell' = true) :
    (Builtin.copy_ #[dT, sT] ty #[.slice (some ⟨b, o, none⟩) dLen dCap, .slice (some a) sLen sCap]).run P w = .ok (goInt m) (w.setCells b o cs) := by
  have hl := run_loadCells_list (P := P) w a cs hsrc
  have hst := run_storeCells_cells (P := P) b o cs 0 w (by simpa using hc) (by simpa using hf) h1
  cases hq : P.info? elem with
  | none => simp [hq] at hs
  | some i =>
    have hi : i.size = k := by simpa [hq] using hs
    rw [hn] at hl
    simp [Builtin.copy_, run_underlying hu, Builtin.lenOf, Builtin.firstCells, sizeOf, typeInfo, hq, hi, hm, hl, hst]
/-- A list with a part written over. -/
def spl (X : List Value) (o : Nat) (vs : List Value) : List Value := X.take o ++ vs ++ X.drop (o + vs.length)
theorem spl_len {X vs : List Value} {o : Nat} (h : o + vs.length ≤ X.length) : (spl X o vs).length = X.length := by
  unfold spl; simp; omega
theorem heap_setCell_at {w : World} {g o : Nat} {v : Value} {cur : Array Value} {e : TypeId} {fr : Nat × Nat} (h : w.heap[g]? = some (.cells cur e fr)) : (w.setCell ⟨g, o, none⟩ v).heap[g]? = some (.cells (cur.setIfInBounds o v) e fr) := by
  simp only [World.setCell, Array.getElem?_modify, h]
  simp
theorem spl_cons (X : List Value) (o : Nat) (v : Value) (vs : List Value) (h : o < X.length) : spl (X.set o v) (o + 1) vs = spl X o (v :: vs) := by
  unfold spl
  have e1 : (X.set o v).take (o + 1) = X.take o ++ [v] := by
    rw [List.take_succ_eq_append_getElem (by simpa using h), List.take_set_of_le (Nat.le_refl _)]
    simp
  have e2 : (X.set o v).drop (o + 1 + vs.length) = X.drop (o + 1 + vs.length) := by rw [List.drop_set_of_lt (by omega)]
  rw [e1, e2, List.length_cons]
  have e3 : o + 1 + vs.length = o + (vs.length + 1) := by omega
  rw [e3]; simp
theorem heap_setCells_at (g : Nat) {e : TypeId} {fr : Nat × Nat} : ∀ (vs : List Value) (o : Nat) (w : World) (cur : Array Value), w.heap[g]? = some (.cells cur e fr) → o + vs.length ≤ cur.size → (w.setCells g o vs).heap[g]? = some (.cells (spl cur.toList o vs).toArray e fr)
  | [], o, w, cur, h, _ => by
    rw [World.setCells, h]; simp [spl]
  | v :: vs, o, w, cur, h, hl => by
    rw [World.setCells]
    simp only [List.length_cons] at hl
    rw [heap_setCells_at g vs (o + 1) _ (cur.setIfInBounds o v) (heap_setCell_at h) (by simp; omega)]
    rw [Array.toList_setIfInBounds, spl_cons _ _ _ _ (by simpa using (show o < cur.size by omega))]
theorem heap_setCells_ne (g : Nat) {b : Nat} : ∀ (vs : List Value) (o : Nat) (w : World), b ≠ g → (w.setCells g o vs).heap[b]? = w.heap[b]?
  | [], _, _, _ => rfl
  | v :: vs, o, w, h => by rw [World.setCells, heap_setCells_ne g vs (o + 1) _ h, Below.heap_setCell _ _ _ _ h]
theorem size_setCells' (g : Nat) : ∀ (vs : List Value) (o : Nat) (w : World), (w.setCells g o vs).heap.size = w.heap.size
  | [], _, _ => rfl
  | v :: vs, o, w => by rw [World.setCells, size_setCells' g vs (o + 1) _]; simp [World.setCell]
theorem same_setCells (g : Nat) : ∀ (vs : List Value) (o : Nat) (w : World), (w.setCells g o vs).os = w.os ∧ (w.setCells g o vs).tape = w.tape ∧ (w.setCells g o vs).output = w.output
  | [], _, _ => ⟨rfl, rfl, rfl⟩
  | v :: vs, o, w => by rw [World.setCells]; exact same_setCells g vs (o + 1) _
theorem spl_mid (A M R Y : List Value) (h : M.length = Y.length) : spl (A ++ (M ++ R)) A.length Y = A ++ (Y ++ R) := by
  unfold spl
  rw [List.take_left', List.drop_append, List.append_assoc]
  · simp only [← h, Nat.add_sub_cancel_left]
    rw [List.drop_eq_nil_of_le (by omega), List.nil_append, List.drop_left']
    rfl
  · rfl
theorem parts4 (X : List Value) (p s d : Nat) (h : p + s + d ≤ X.length) : ∃ A M1 M2 R, X = A ++ (M1 ++ (M2 ++ R)) ∧ A.length = p ∧ M1.length = s ∧ M2.length = d ∧ A = X.take p :=
  ⟨X.take p, (X.drop p).take s, ((X.drop p).drop s).take d, ((X.drop p).drop s).drop d, by rw [List.take_append_drop, List.take_append_drop, List.take_append_drop], by simp; omega, by simp; omega, by simp; omega, rfl⟩
theorem spl_YD (X Y D : List Value) (p s d : Nat) (h : p + s + d ≤ X.length) (hY : Y.length = s) (hD : D.length = d) : ∃ R, spl (spl X p Y) (p + s) D = X.take p ++ Y ++ D ++ R := by
  obtain ⟨A, M1, M2, R, rfl, h1, h2, h3, hA⟩ := parts4 X p s d h
  refine ⟨R, ?_⟩
  rw [← hA, ← h1, spl_mid A M1 (M2 ++ R) Y (by omega)]
  have e : A ++ (Y ++ (M2 ++ R)) = (A ++ Y) ++ (M2 ++ R) := by simp
  have e2 : A.length + s = (A ++ Y).length := by simp; omega
  rw [e, e2, spl_mid (A ++ Y) M2 R D (by omega)]
  simp
theorem spl_DY (X Y D : List Value) (p s d : Nat) (h : p + s + d ≤ X.length) (hY : Y.length = s) (hD : D.length = d) : ∃ R, spl (spl X (p + s) D) p Y = X.take p ++ Y ++ D ++ R := by
  obtain ⟨A, M1, M2, R, rfl, h1, h2, h3, hA⟩ := parts4 X p s d h
  refine ⟨R, ?_⟩
  rw [← hA]
  have e : A ++ (M1 ++ (M2 ++ R)) = (A ++ M1) ++ (M2 ++ R) := by simp
  have e2 : p + s = (A ++ M1).length := by simp; omega
  rw [e, e2, spl_mid (A ++ M1) M2 R D (by omega)]
  have e3 : (A ++ M1) ++ (D ++ R) = A ++ (M1 ++ (D ++ R)) := by simp
  rw [e3, ← h1, spl_mid A M1 (D ++ R) Y (by omega)]
  simp
theorem insert_flat {α : Type} (enc : α → List Value) {sz : Nat} (hsz : ∀ x, (enc x).length = sz) (ys : List α) (y : α) (i : Nat) (hi : i ≤ ys.length) : (ys.insertIdx i y).flatMap enc = (ys.flatMap enc).take (i * sz) ++ enc y ++ (ys.flatMap enc).drop (i * sz) := by
  have e : ys.insertIdx i y = ys.take i ++ y :: ys.drop i := by
    induction ys generalizing i with
    | nil =>
      have h0 : i = 0 := by simpa using hi
      subst h0
      rfl
    | cons a l ih =>
      cases i with
      | zero => rfl
      | succ i => simp [ih i (by simpa using hi)]
  have hl : ((ys.take i).flatMap enc).length = i * sz := by rw [flat_len enc sz hsz]; simp [Nat.min_eq_left hi]
  have e2 : ys.flatMap enc = (ys.take i).flatMap enc ++ (ys.drop i).flatMap enc := by rw [← List.flatMap_append, List.take_append_drop]
  rw [e, e2, List.flatMap_append, List.flatMap_cons, ← hl, List.take_left', List.drop_left']
  · simp
  · rfl
  · rfl
end Go.Proofs.YtedpdpcibkceeaaDoor
