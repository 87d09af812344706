import Derived.Test.YtlhekldlfmdmiaaRw
import Derived.Test.YtlhekldlfmdmiaaShelf
import Derived.Shelf.Spec.SlicesInsert
import Derived.Lib.AppendZerosOnto
import Derived.Laws.OwnMore
import Derived.Deep.RegionLaw
/-
  copy at elements of several cells; what it leaves of a block; lists of rows with one row put in. Conditions: those ahead of each theorem.
-/
namespace Go.Proofs.Ytlhekldlfmdmiaa
open Go.RowKit Go.Sort Go.Lib
open Go.Lib (hid)
set_option linter.unusedVariables false
set_option linter.unusedSimpArgs false

theorem run_copy_k {P : Program} (k : Nat) (w : World) (dT sT ty elem : TypeId) (b o dLen dCap : Nat) (a : Addr) (sLen sCap m : Nat) (cs : List Value)
    (hu : P.underlying dT = some (.slice elem)) (hs : (P.info? elem).map (·.size) = some k) (hm : Nat.min sLen dLen = m) (hn : cs.length = m * k)
    (hsrc : ∀ j v, cs[j]? = some v → w.cell? (a.add j) = some v) (hc : ∀ j, j < cs.length → (w.cell? ⟨b, o + j, none⟩).isSome = true) (hf : ∀ j, j < cs.length → w.frozen? ⟨b, o + j, none⟩ = false) (h1 : ∀ v ∈ cs, v.oneCell' = true) :
    (Builtin.copy_ #[dT, sT] ty #[.slice (some ⟨b, o, none⟩) dLen dCap, .slice (some a) sLen sCap]).run P w = .ok (goInt m) (w.setCells b o cs) := by
  have hl := run_loadCells_list (P := P) w a cs hsrc
  have hst := run_storeCells_cells (P := P) b o cs 0 w (by simpa using hc) (by simpa using hf) h1
  cases hq : P.info? elem with
  | none => simp [hq] at hs
  | some i =>
    have hi : i.size = k := by simpa [hq] using hs
    rw [hn] at hl
    simp [Builtin.copy_, run_underlying hu, Builtin.lenOf, Builtin.firstCells, sizeOf, typeInfo, hq, hi, hm, hl, hst]
/-- A list with a part written over. -/
def spl (X : List Value) (o : Nat) (vs : List Value) : List Value := X.take o ++ vs ++ X.drop (o + vs.length)
theorem spl_len {X vs : List Value} {o : Nat} (h : o + vs.length ≤ X.length) : (spl X o vs).length = X.length := by
  unfold spl; simp; omega
theorem heap_setCell_at {w : World} {g o : Nat} {v : Value} {cur : Array Value} {e : TypeId} {fr : Nat × Nat} (h : w.heap[g]? = some (.cells cur e fr)) : (w.setCell ⟨g, o, none⟩ v).heap[g]? = some (.cells (cur.setIfInBounds o v) e fr) := by
  simp only [World.setCell, Array.getElem?_modify, h]
  simp
theorem spl_cons (X : List Value) (o : Nat) (v : Value) (vs : List Value) (h : o < X.length) : spl (X.set o v) (o + 1) vs = spl X o (v :: vs) := by
  unfold spl
  have e1 : (X.set o v).take (o + 1) = X.take o ++ [v] := by
    rw [List.take_succ_eq_append_getElem (by simpa using h), List.take_set_of_le (Nat.le_refl _)]
    simp
  have e2 : (X.set o v).drop (o + 1 + vs.length) = X.drop (o + 1 + vs.length) := by rw [List.drop_set_of_lt (by omega)]
  rw [e1, e2, List.length_cons]
  have e3 : o + 1 + vs.length = o + (vs.length + 1) := by omega
  rw [e3]; simp
theorem heap_setCells_at (g : Nat) {e : TypeId} {fr : Nat × Nat} : ∀ (vs : List Value) (o : Nat) (w : World) (cur : Array Value), w.heap[g]? = some (.cells cur e fr) → o + vs.length ≤ cur.size → (w.setCells g o vs).heap[g]? = some (.cells (spl cur.toList o vs).toArray e fr)
  | [], o, w, cur, h, _ => by
    rw [World.setCells, h]; simp [spl]
  | v :: vs, o, w, cur, h, hl => by
    rw [World.setCells]
    simp only [List.length_cons] at hl
    rw [heap_setCells_at g vs (o + 1) _ (cur.setIfInBounds o v) (heap_setCell_at h) (by simp; omega)]
    rw [Array.toList_setIfInBounds, spl_cons _ _ _ _ (by simpa using (show o < cur.size by omega))]
theorem heap_setCells_ne (g : Nat) {b : Nat} : ∀ (vs : List Value) (o : Nat) (w : World), b ≠ g → (w.setCells g o vs).heap[b]? = w.heap[b]?
  | [], _, _, _ => rfl
  | v :: vs, o, w, h => by rw [World.setCells, heap_setCells_ne g vs (o + 1) _ h, Below.heap_setCell _ _ _ _ h]
theorem size_setCells' (g : Nat) : ∀ (vs : List Value) (o : Nat) (w : World), (w.setCells g o vs).heap.size = w.heap.size
  | [], _, _ => rfl
  | v :: vs, o, w => by rw [World.setCells, size_setCells' g vs (o + 1) _]; simp [World.setCell]
theorem same_setCells (g : Nat) : ∀ (vs : List Value) (o : Nat) (w : World), (w.setCells g o vs).os = w.os ∧ (w.setCells g o vs).tape = w.tape ∧ (w.setCells g o vs).output = w.output
  | [], _, _ => ⟨rfl, rfl, rfl⟩
  | v :: vs, o, w => by rw [World.setCells]; exact same_setCells g vs (o + 1) _
theorem spl_mid (A M R Y : List Value) (h : M.length = Y.length) : spl (A ++ (M ++ R)) A.length Y = A ++ (Y ++ R) := by
  unfold spl
  rw [List.take_left', List.drop_append, List.append_assoc]
  · simp only [← h, Nat.add_sub_cancel_left]
    rw [List.drop_eq_nil_of_le (by omega), List.nil_append, List.drop_left']
    rfl
  · rfl
theorem parts4 (X : List Value) (p s d : Nat) (h : p + s + d ≤ X.length) : ∃ A M1 M2 R, X = A ++ (M1 ++ (M2 ++ R)) ∧ A.length = p ∧ M1.length = s ∧ M2.length = d ∧ A = X.take p :=
  ⟨X.take p, (X.drop p).take s, ((X.drop p).drop s).take d, ((X.drop p).drop s).drop d, by rw [List.take_append_drop, List.take_append_drop, List.take_append_drop], by simp; omega, by simp; omega, by simp; omega, rfl⟩
theorem spl_YD (X Y D : List Value) (p s d : Nat) (h : p + s + d ≤ X.length) (hY : Y.length = s) (hD : D.length = d) : ∃ R, spl (spl X p Y) (p + s) D = X.take p ++ Y ++ D ++ R := by
  obtain ⟨A, M1, M2, R, rfl, h1, h2, h3, hA⟩ := parts4 X p s d h
  refine ⟨R, ?_⟩
  rw [← hA, ← h1, spl_mid A M1 (M2 ++ R) Y (by omega)]
  have e : A ++ (Y ++ (M2 ++ R)) = (A ++ Y) ++ (M2 ++ R) := by simp
  have e2 : A.length + s = (A ++ Y).length := by simp; omega
  rw [e, e2, spl_mid (A ++ Y) M2 R D (by omega)]
  simp
theorem spl_DY (X Y D : List Value) (p s d : Nat) (h : p + s + d ≤ X.length) (hY : Y.length = s) (hD : D.length = d) : ∃ R, spl (spl X (p + s) D) p Y = X.take p ++ Y ++ D ++ R := by
  obtain ⟨A, M1, M2, R, rfl, h1, h2, h3, hA⟩ := parts4 X p s d h
  refine ⟨R, ?_⟩
  rw [← hA]
  have e : A ++ (M1 ++ (M2 ++ R)) = (A ++ M1) ++ (M2 ++ R) := by simp
  have e2 : p + s = (A ++ M1).length := by simp; omega
  rw [e, e2, spl_mid (A ++ M1) M2 R D (by omega)]
  have e3 : (A ++ M1) ++ (D ++ R) = A ++ (M1 ++ (D ++ R)) := by simp
  rw [e3, ← h1, spl_mid A M1 (D ++ R) Y (by omega)]
  simp
theorem insert_flat {α : Type} (enc : α → List Value) {sz : Nat} (hsz : ∀ x, (enc x).length = sz) (ys : List α) (y : α) (i : Nat) (hi : i ≤ ys.length) : (ys.insertIdx i y).flatMap enc = (ys.flatMap enc).take (i * sz) ++ enc y ++ (ys.flatMap enc).drop (i * sz) := by
  have e : ys.insertIdx i y = ys.take i ++ y :: ys.drop i := by
    induction ys generalizing i with
    | nil =>
      have h0 : i = 0 := by simpa using hi
      subst h0
      rfl
    | cons a l ih =>
      cases i with
      | zero => rfl
      | succ i => simp [ih i (by simpa using hi)]
  have hl : ((ys.take i).flatMap enc).length = i * sz := by rw [flat_len enc sz hsz]; simp [Nat.min_eq_left hi]
  have e2 : ys.flatMap enc = (ys.take i).flatMap enc ++ (ys.drop i).flatMap enc := by rw [← List.flatMap_append, List.take_append_drop]
  rw [e, e2, List.flatMap_append, List.flatMap_cons, ← hl, List.take_left', List.drop_left']
  · simp
  · rfl
  · rfl
/-- An element put into an own row. -/
def InsP {α : Type} (enc : α → List Value) (E : TypeId) (sz B : Nat) (ys : List α) (y : α) (i : Nat) (v : Value) (w : World) (e : Ending) (w' : World) : Prop :=
  ∃ g cap, e = .returned (.slice (some ⟨g, 0, none⟩) (ys.length + 1) cap) ∧ w'.ownsRow B E sz (.slice (some ⟨g, 0, none⟩) (ys.length + 1) cap) (ys.insertIdx i y).length ((ys.insertIdx i y).flatMap enc) ∧ w.grownBy w' v.ownBlock ∧ (v.ownBlock = some g ∨ g = w.heap.size)
theorem insert_len {α : Type} (ys : List α) (y : α) (i : Nat) (hi : i ≤ ys.length) : (ys.insertIdx i y).length = ys.length + 1 := by rw [List.length_insertIdx]; simp [hi]
theorem insert_end {α : Type} (ys : List α) (y : α) : ys.insertIdx ys.length y = ys ++ [y] := by
  induction ys with
  | nil => rfl
  | cons a l ih => simp [ih]
theorem heap_setCells_congr (g : Nat) : ∀ (vs : List Value) (o : Nat) (W W' : World), W.heap = W'.heap → (W.setCells g o vs).heap = (W'.setCells g o vs).heap
  | [], _, _, _, h => h
  | v :: vs, o, W, W', h => by
    rw [World.setCells, World.setCells]
    exact heap_setCells_congr g vs (o + 1) _ _ (by simp [World.setCell, h])
theorem shape_of {w : World} {b : Nat} {C : Array Value} {E : TypeId} {fr : Nat × Nat} (h : w.heap[b]? = some (.cells C E fr)) : w.shape? b = some (E, C.size) := by unfold World.shape?; rw [h]
theorem frozen_of {w : World} {b : Nat} {C : Array Value} {E : TypeId} (h : w.heap[b]? = some (.cells C E (0, 0))) (o : Nat) : w.frozen? ⟨b, o, none⟩ = false := by unfold World.frozen?; simp [h]
theorem cell_of {w : World} {b : Nat} {C : Array Value} {E : TypeId} {fr : Nat × Nat} (h : w.heap[b]? = some (.cells C E fr)) (o : Nat) : w.cell? ⟨b, o, none⟩ = C[o]? := by unfold World.cell?; simp [h]
theorem own_of {w : World} {g n cap sz B : Nat} {E : TypeId} {X xs : List Value} (h : w.heap[g]? = some (.cells X.toArray E (0, 0))) (hB : B ≤ g) (hn : n ≤ cap) (hc : cap ≤ maxLen) (hX : X.length = cap * sz) (hl : xs.length = n * sz) (ht : X.take (n * sz) = xs) : w.ownsRow B E sz (.slice (some ⟨g, 0, none⟩) n cap) n xs :=
  ⟨hl, Or.inr ⟨g, cap, X.toArray, rfl, hB, h, hn, hc, by simpa using hX, by simpa using ht⟩⟩

set_option maxHeartbeats 4000000 in
set_option maxRecDepth 100000 in
theorem ins_str (B : Nat) (ys : List ByteArray) (y : ByteArray) (i : Nat) (v : Value) (vb : Nat) (w : World) (hi : i ≤ ys.length) (hown : w.ownsRow B 9 1 v ys.length (ys.flatMap encS)) (hy : w.heap[vb]? = some (.cells (encS y).toArray 9 (0, 0))) (hvb : v.ownBlock ≠ some vb) (hn : ys.length + 1 ≤ 1000000) (hB : B ≤ w.heap.size) :
    Calls Try.prog 36 #[v, .int .i64 (i : Nat), .slice (some ⟨vb, 0, none⟩) 1 1] w (InsP encS 9 1 B ys y i v w) := by
  by_cases hin : i = ys.length
  · subst hin
    have HO := hid hown
    obtain ⟨r, c, rfl, hnc, hcm⟩ := own_form hown
    unfold maxLen at hcm
    have hy' : w.heap[vb]? = some (.cells (([y] : List ByteArray).flatMap encS).toArray 9 (0, 0)) := by simpa using hy
    have HY := hid hy'
    have HN := hid hn
    obtain ⟨ob, hob⟩ : ∃ ob, ∀ n k, (Value.slice r n k).ownBlock = ob := ⟨(Value.slice r 0 0).ownBlock, fun n k => by cases r <;> rfl⟩
    have HOB := hid hob
    clear hown hy hy' hvb hi hob
    go_enter Try.func36, Try.ntmps36
    go_wp2_with (at_builtin; refine wpList_append_rows encS encS_len encS_one Try.underlying22 strinfo rfl (by omega) (by omega) rfl (.tmp 23) (.tmp 24) rfl B _ ys rfl HO.out vb 1 1 [y] rfl (by omega) rfl HY.out HN.out hB ?_; intro g cap w' ho hg hat hlt)
    all_goals
      have HO2 := hid ho
      have HG2 := hid (show w.grownBy w' ob from by rw [← HOB.out ys.length c]; exact hg)
      have HA2 := hid (show ob = some g ∨ g = w.heap.size from by rw [← HOB.out ys.length c]; exact hat)
      clear ho hg hat hlt
      go_wp2
      go_ret
      exact ⟨g, cap, rfl, by rw [insert_end]; exact HO2.out, by rw [HOB.out]; exact HG2.out, by rw [HOB.out]; exact HA2.out⟩
  have hlt : i < ys.length := by omega
  have HP := hid (show ∀ g cap w', w'.ownsRow B 9 1 (.slice (some ⟨g, 0, none⟩) (ys.length + 1) cap) (ys.insertIdx i y).length ((ys.insertIdx i y).flatMap encS) → w.grownBy w' v.ownBlock → (v.ownBlock = some g ∨ g = w.heap.size) → InsP encS 9 1 B ys y i v w (.returned (.slice (some ⟨g, 0, none⟩) (ys.length + 1) cap)) w' from fun g cap w' h1 h2 h3 => ⟨g, cap, rfl, h1, h2, h3⟩)
  rw [insert_flat encS encS_len ys y i hi, insert_len ys y i hi] at HP
  simp only [Nat.mul_one] at HP
  obtain ⟨hfl, hr⟩ := hown
  have hone : ∀ u ∈ ys.flatMap encS, u.oneCell' = true := fun u hu => by
    obtain ⟨x, _, hx⟩ := List.mem_flatMap.1 hu
    exact encS_one x u hx
  have hyl := encS_len y
  have hyo := encS_one y
  generalize hYS : ys.flatMap encS = fl at *
  clear hYS
  generalize encS y = ey at *
  generalize ys.length = n at *
  rcases hr with ⟨_, h0⟩ | ⟨g0, cap, cur, rfl, hg0, hh, hnc, hcm, hcs, htk⟩
  · omega
  have hne : g0 ≠ vb := fun e => hvb (by simp [Value.ownBlock, e])
  have hgl : g0 < w.heap.size := lt_of_block hh
  have hvl : vb < w.heap.size := lt_of_block hy
  unfold maxLen at hcm
  have hcell : ∀ (j : Nat) (u : Value), fl[j]? = some u → w.cell? ⟨g0, j, none⟩ = some u := fun j u hj => by
    have hj' : j < n * 1 := by have := (List.getElem?_eq_some_iff.1 hj).1; omega
    rw [cell_of hh, ← hj, ← htk, List.getElem?_take, if_pos hj', Array.getElem?_toList]
  have hvc : ∀ (j : Nat) (u : Value), ey[j]? = some u → w.cell? ⟨vb, j, none⟩ = some u := fun j u hj => by
    rw [cell_of hy]; simpa using hj
  have hsz : (Try.prog.info? 9).map (·.size) = some 1 := by
    obtain ⟨i0, h0, _, h1, _⟩ := info_parts strinfo
    rw [h0]; simp [h1]
  have hdl : (fl.drop (i)).length = (n - i) * 1 := by rw [List.length_drop, hfl]; omega
  have htl : (fl.take (i)).length = i * 1 := by rw [List.length_take, hfl]; omega
  have hdo : ∀ u ∈ fl.drop (i), u.oneCell' = true := fun u hu => hone u (List.mem_of_mem_drop hu)
  have hadd : ∀ b o j : Nat, (⟨b, o, none⟩ : Addr).add j = ⟨b, o + j, none⟩ := fun b o j => by unfold Addr.add; by_cases h : j = 0 <;> simp [h]
  have hz2 : ¬ ((i : Int) = (n : Int)) := by omega
  have hw1 : IntKind.i64.wrap ((i : Int) + 1) = (i : Int) + 1 := by rw [IntKind.wrap_i64]; omega
  have htn : ((i : Int) + 1).toNat = i + 1 := by omega
  have hi0 : (0 : Int) ≤ (i : Int) + 1 := by omega
  have hi3 : (i : Int) ≤ (n : Int) := by omega
  by_cases hroom : cap < n + 1
  · -- a new row
    obtain ⟨i0, hinf, hz0, hzs, hzb⟩ := info_parts strinfo
    have hz3 : (cap : Int) < (n : Int) + 1 := by omega
    have hkk : (n : Int) + 1 - (i : Int) = ((n + 1 - i : Nat) : Int) := by omega
    have hik : i + (n + 1 - i) = n + 1 := by omega
    have hold : (Builtin.firstCells i0.size i (.slice (some ⟨g0, 0, none⟩) i cap)).run Try.prog w.drew = .ok (fl.take (i)).toArray w.drew := by
      rw [hzs]
      exact run_firstCells_some w.drew 1 i ⟨g0, 0, none⟩ i cap (fl.take (i)) htl (fun j u hj => by
        rw [hadd, Nat.zero_add]
        rw [List.getElem?_take] at hj
        split at hj
        · exact hcell j u hj
        · cases hj)
    have hrz : ∀ ty, (Builtin.append_ #[22, 3] ty #[.slice (some ⟨g0, 0, none⟩) i cap, .int .i64 ((n : Int) + 1 - (i : Int))]).run Try.prog w =
        .ok (.slice (some ⟨w.heap.size, 0, none⟩) (n + 1) (grownCap w (n + 1) cap 9)) (w.drew.alloc (.cells ((fl.take (i)).toArray ++ Builtin.zeroCells (.string ByteArray.empty : Value).cells (n + 1 - i) ++ Builtin.zeroCells (.string ByteArray.empty : Value).cells (grownCap w (n + 1) cap 9 - (n + 1))) 9)) := fun ty => by
      have h := Lib.run_append_grow_zeros w 22 3 ty 9 i0 _ .i64 .i64 Try.underlying22 Try.underlying3 hinf hz0 (some ⟨g0, 0, none⟩) i cap (fl.take (i)) hold (n + 1 - i) (by omega) (by omega) (by omega) (by omega) (by rw [hzb]; omega) (by rw [hzb, hik]; exact growslice_fits hroom (by omega))
      rw [hik] at h
      rw [hkk]
      exact h
    have hGn : n + 1 ≤ grownCap w (n + 1) cap 9 := grownCap_ge w _ _ _
    have hG63 : grownCap w (n + 1) cap 9 ≤ 9223372036854775807 := by
      have := grownCap_le_maxLen w (n + 1) cap 9 (by unfold maxLen; omega)
      unfold maxLen at this
      omega
    generalize hG : grownCap w (n + 1) cap 9 = G at *
    clear hG
    obtain ⟨ROW, hROW⟩ : ∃ ROW : Array Value, ROW = (fl.take (i)).toArray ++ Builtin.zeroCells (.string ByteArray.empty : Value).cells (n + 1 - i) ++ Builtin.zeroCells (.string ByteArray.empty : Value).cells (G - (n + 1)) := ⟨_, rfl⟩
    rw [← hROW] at hrz
    have hRl : ROW.size = G * 1 := by
      rw [hROW]
      simp only [Array.size_append, List.size_toArray, htl, Builtin.zeroCells]
      simp [Value.cells]
      omega
    have hRt : ROW.toList.take (i) = fl.take (i) := by
      rw [hROW]
      simp only [Array.toList_append, List.append_assoc]
      rw [List.take_append_of_le_length (by simp [htl] <;> omega), List.take_of_length_le (by simp [htl] <;> omega)]
    clear hROW
    have HW : ∀ W : World, W.heap = (w.alloc (.cells ROW 9)).heap → ∀ ty dc, (Builtin.copy_ #[22, 22] ty #[.slice (some ⟨w.heap.size, i, none⟩) (n + 1 - i) dc, .slice (some ⟨vb, 0, none⟩) 1 1]).run Try.prog W = .ok (goInt 1) (W.setCells w.heap.size (i) ey) := fun W hW ty dc => by
      have hN : W.heap[w.heap.size]? = some (.cells ROW 9 (0, 0)) := by rw [hW]; exact heap_alloc_new w _
      have hV : W.heap[vb]? = some (.cells ey.toArray 9 (0, 0)) := by rw [hW, Below.heap_alloc _ _ _ hvl]; exact hy
      exact run_copy_k 1 W _ _ ty 9 w.heap.size (i) (n + 1 - i) dc ⟨vb, 0, none⟩ 1 1 1 ey Try.underlying22 hsz (by simp only [Nat.min_def]; split <;> omega) (by rw [hyl])
        (fun j u hj => by rw [hadd, Nat.zero_add, cell_of hV]; simpa using hj)
        (fun j hj => by rw [cell_of hN, Array.getElem?_eq_getElem (by omega)]; rfl) (fun j _ => frozen_of hN _) hyo
    have HW2 : ∀ W : World, W.heap = ((w.alloc (.cells ROW 9)).setCells w.heap.size (i) ey).heap → ∀ ty dc sc, (Builtin.copy_ #[22, 22] ty #[.slice (some ⟨w.heap.size, i + 1, none⟩) (n + 1 - (i + 1)) dc, .slice (some ⟨g0, i, none⟩) (n - i) sc]).run Try.prog W = .ok (goInt (n - i : Nat)) (W.setCells w.heap.size (i + 1) (fl.drop (i))) := fun W hW ty dc sc => by
      have hN : W.heap[w.heap.size]? = some (.cells (spl ROW.toList (i) ey).toArray 9 (0, 0)) := by rw [hW]; exact heap_setCells_at _ ey _ _ _ (heap_alloc_new w _) (by omega)
      have hG : W.heap[g0]? = some (.cells cur 9 (0, 0)) := by rw [hW, heap_setCells_ne _ _ _ _ (show g0 ≠ w.heap.size by omega), Below.heap_alloc _ _ _ hgl]; exact hh
      have hl := spl_len (X := ROW.toList) (vs := ey) (o := i) (by simp; omega)
      exact run_copy_k 1 W _ _ ty 9 w.heap.size (i + 1) (n + 1 - (i + 1)) dc ⟨g0, i, none⟩ (n - i) sc (n - i) (fl.drop (i)) Try.underlying22 hsz (by simp only [Nat.min_def]; split <;> omega) hdl
        (fun j u hj => by
          rw [hadd, cell_of hG]
          have := hcell (i + j) u (by rwa [List.getElem?_drop] at hj)
          rwa [cell_of hh] at this)
        (fun j hj => by rw [cell_of hN, Array.getElem?_eq_getElem (by simp at hl ⊢; omega)]; rfl) (fun j _ => frozen_of hN _) hdo
    have HROW : ∃ R, (spl (spl ROW.toList (i) ey) (i + 1) (fl.drop (i))) = fl.take (i) ++ ey ++ fl.drop (i) ++ R := by
      obtain ⟨R, hR⟩ := spl_YD ROW.toList ey (fl.drop (i)) (i) 1 ((n - i) * 1) (by simp; omega) hyl hdl
      exact ⟨R, by rw [show i + 1 = i + 1 by omega, hR, hRt]⟩
    have HFB := hid (show ∀ W : World, W.heap = (((w.alloc (.cells ROW 9)).setCells w.heap.size (i) ey).setCells w.heap.size (i + 1) (fl.drop (i))).heap → W.os = w.os → W.tape = w.tape → W.output = w.output → InsP encS 9 1 B ys y i (.slice (some ⟨g0, 0, none⟩) n cap) w (.returned (.slice (some ⟨w.heap.size, 0, none⟩) (n + 1) G)) W from fun W hW e1 e2 e3 => by
      obtain ⟨R, hR⟩ := HROW
      have hl1 := spl_len (X := ROW.toList) (vs := ey) (o := i) (by simp; omega)
      have hl2 := spl_len (X := spl ROW.toList (i) ey) (vs := fl.drop (i)) (o := i + 1) (by rw [hl1, hdl]; simp; omega)
      have hN : W.heap[w.heap.size]? = some (.cells (spl (spl ROW.toList (i) ey) (i + 1) (fl.drop (i))).toArray 9 (0, 0)) := by
        rw [hW]
        have h1 := heap_setCells_at w.heap.size ey (i) (w.alloc (.cells ROW 9)) ROW (heap_alloc_new w _) (by omega)
        have h2 := heap_setCells_at w.heap.size (fl.drop (i)) (i + 1) _ _ h1 (by simp only [List.size_toArray]; rw [hl1, hdl]; simp; omega)
        simpa using h2
      refine HP.out w.heap.size G W (own_of hN hB hGn (by unfold maxLen; omega) (by rw [hl2, hl1]; simpa using hRl) (by simp only [List.length_append, htl, hdl, hyl]; omega) ?_) ⟨e1, e2, e3, ?_, fun b hb hrow => ?_⟩ (Or.inr rfl)
      · rw [hR, List.take_left' (by simp only [List.length_append, htl, hdl, hyl]; omega)]
      · rw [hW, size_setCells', size_setCells']; simp
      · rw [hW, heap_setCells_ne _ _ _ _ (show b ≠ w.heap.size by omega), heap_setCells_ne _ _ _ _ (show b ≠ w.heap.size by omega), Below.heap_alloc _ _ _ hb])
    have hGi : ¬ (G = i) := by omega
    have hGim : ¬ (G = i + 1) := by omega
    have hci : ¬ (cap = i) := by omega
    obtain ⟨W1, hW1⟩ : ∃ W1, W1 = ((w.alloc (.cells ROW 9)).drew).setCells w.heap.size (i) ey := ⟨_, rfl⟩
    have hS1 := same_setCells w.heap.size ey (i) ((w.alloc (.cells ROW 9)).drew)
    have HC1 := HW ((w.alloc (.cells ROW 9)).drew) rfl
    rw [← hW1] at hS1 HC1
    have hH1 : W1.heap = ((w.alloc (.cells ROW 9)).setCells w.heap.size (i) ey).heap := by rw [hW1]; exact heap_setCells_congr _ _ _ _ _ rfl
    have HC2 := HW2 W1.drew hH1
    obtain ⟨W2, hW2⟩ : ∃ W2, W2 = (W1.drew).setCells w.heap.size (i + 1) (fl.drop (i)) := ⟨_, rfl⟩
    have hS2 := same_setCells w.heap.size (fl.drop (i)) (i + 1) W1.drew
    rw [← hW2] at hS2 HC2
    have HFIN := hid (HFB.out W2 (by rw [hW2]; exact heap_setCells_congr _ _ _ _ _ hH1) (hS2.1.trans hS1.1) (hS2.2.1.trans hS1.2.1) (hS2.2.2.trans hS1.2.2))
    have HC1h := hid HC1
    have HC2h := hid HC2
    have HRZ := hid hrz
    clear HW HW2 hrz HROW hcell hvc hone hyo hdo hadd hRl hRt htl hdl hfl hyl hcs htk hh hy hinf hz0 hzs hzb hold hkk hik hsz hvb hB hg0 HP hS1 hS2 HC1 HC2 hW1 hW2 hH1 HFB
    go_enter Try.func36, Try.ntmps36
    go_wp2_with (first
      | (at_builtin; refine Lib.wpList_append_run _ rfl _ _ _ _ rfl _ _ rfl rfl _ _ (HRZ.out _) ?_)
      | (at_builtin; refine wpList_copy_runI _ rfl _ _ 22 22 rfl _ _ rfl rfl (HC1h.out _ _) ?_)
      | (simp only [HC1h.out, Result.andThen]))
    go_region_law (refine step_copy_runI rfl _ _ 22 22 rfl (.slice (some ⟨w.heap.size, i + 1, none⟩) (n + 1 - (i + 1)) (G - (i + 1))) (.slice (some ⟨g0, i, none⟩) (n - i) (cap - i)) (by simp [Act.eval, Act.put]) (by simp [Act.eval, Act.put]) (HC2h.out 3 (G - (i + 1)) (cap - i)) ?_)
    all_goals
      go_wp2
      go_ret
      exact HFIN.out
  · -- in place
    have hov : ∀ lb cb, (callFunc 58 #[.slice (some ⟨vb, 0, none⟩) 1 1, .slice (some ⟨g0, i + 1, none⟩) lb cb]).run Try.prog w = .ok (.value (.bool false)) w := fun lb cb => by
      rw [run_callFunc_extern Try.func58 (by kernel_rfl) (by kernel_rfl) (by kernel_rfl) (e := Extern.SlicesOverlaps.overlaps #[22, 22] #[4]) (by kernel_rfl),
        Lib.run_overlaps_apart w 22 4 9 Try.underlying22 1 Try.sizeOf9 ⟨vb, 0, none⟩ ⟨g0, i + 1, none⟩ 1 1 lb cb (fun e => hne e.symm) 9 9 _ _ (shape_of hy) (shape_of hh) (by rw [hcs]; omega) (frozen_of hy _) (frozen_of hy _)]
      rfl
    have hct : cur.toList.take (i) = fl.take (i) := by rw [← htk, List.take_take]; congr 1; omega
    have HC1 : ∀ ty dc sc, (Builtin.copy_ #[22, 22] ty #[.slice (some ⟨g0, i + 1, none⟩) (n + 1 - (i + 1)) dc, .slice (some ⟨g0, i, none⟩) (n + 1 - i) sc]).run Try.prog w.drew = .ok (goInt (n - i : Nat)) ((w.drew).setCells g0 (i + 1) (fl.drop (i))) := fun ty dc sc => by
      have hN : w.drew.heap[g0]? = some (.cells cur 9 (0, 0)) := hh
      exact run_copy_k 1 w.drew _ _ ty 9 g0 (i + 1) (n + 1 - (i + 1)) dc ⟨g0, i, none⟩ (n + 1 - i) sc (n - i) (fl.drop (i)) Try.underlying22 hsz (by simp only [Nat.min_def]; split <;> omega) hdl
        (fun j u hj => by
          rw [hadd]
          exact hcell (i + j) u (by rwa [List.getElem?_drop] at hj))
        (fun j hj => by rw [cell_of hN, Array.getElem?_eq_getElem (by omega)]; rfl) (fun j _ => frozen_of hN _) hdo
    obtain ⟨W1, hW1⟩ : ∃ W1, W1 = (w.drew).setCells g0 (i + 1) (fl.drop (i)) := ⟨_, rfl⟩
    have hS1 := same_setCells g0 (fl.drop (i)) (i + 1) w.drew
    have hl1 := spl_len (X := cur.toList) (vs := fl.drop (i)) (o := i + 1) (by rw [hdl]; simp; omega)
    have hN1 : W1.heap[g0]? = some (.cells (spl cur.toList (i + 1) (fl.drop (i))).toArray 9 (0, 0)) := by rw [hW1]; exact heap_setCells_at _ _ _ _ _ hh (by rw [hdl]; omega)
    have hO1 : ∀ b, b ≠ g0 → W1.heap[b]? = w.heap[b]? := fun b hb => by rw [hW1, heap_setCells_ne _ _ _ _ hb]; rfl
    have hZ1 : W1.heap.size = w.heap.size := by rw [hW1, size_setCells']; rfl
    rw [← hW1] at hS1 HC1
    have HC2 : ∀ W : World, W.heap = W1.heap → ∀ ty dc, (Builtin.copy_ #[22, 22] ty #[.slice (some ⟨g0, i, none⟩) (n + 1 - i) dc, .slice (some ⟨vb, 0, none⟩) 1 1]).run Try.prog W = .ok (goInt 1) (W.setCells g0 (i) ey) := fun W hW ty dc => by
      have hN : W.heap[g0]? = some (.cells (spl cur.toList (i + 1) (fl.drop (i))).toArray 9 (0, 0)) := by rw [hW]; exact hN1
      have hV : W.heap[vb]? = some (.cells ey.toArray 9 (0, 0)) := by rw [hW, hO1 vb (fun e => hne e.symm)]; exact hy
      exact run_copy_k 1 W _ _ ty 9 g0 (i) (n + 1 - i) dc ⟨vb, 0, none⟩ 1 1 1 ey Try.underlying22 hsz (by simp only [Nat.min_def]; split <;> omega) (by rw [hyl])
        (fun j u hj => by rw [hadd, Nat.zero_add, cell_of hV]; simpa using hj)
        (fun j hj => by rw [cell_of hN, Array.getElem?_eq_getElem (by simp at hl1 ⊢; omega)]; rfl) (fun j _ => frozen_of hN _) hyo
    have HFC : ∀ W : World, W.heap = W1.heap → W.os = w.os → W.tape = w.tape → W.output = w.output → InsP encS 9 1 B ys y i (.slice (some ⟨g0, 0, none⟩) n cap) w (.returned (.slice (some ⟨g0, 0, none⟩) (n + 1) cap)) (W.setCells g0 (i) ey) := fun W hW e1 e2 e3 => by
      obtain ⟨R, hR⟩ := spl_DY cur.toList ey (fl.drop (i)) (i) 1 ((n - i) * 1) (by simp; omega) hyl hdl
      rw [show i + 1 = i + 1 by omega, hct] at hR
      have hS := same_setCells g0 ey (i) W
      have hN : W.heap[g0]? = some (.cells (spl cur.toList (i + 1) (fl.drop (i))).toArray 9 (0, 0)) := by rw [hW]; exact hN1
      have hN2 := heap_setCells_at g0 ey (i) W _ hN (by simp only [List.size_toArray]; rw [hl1, hyl]; simp; omega)
      have hl2 := spl_len (X := spl cur.toList (i + 1) (fl.drop (i))) (vs := ey) (o := i) (by rw [hl1, hyl]; simp; omega)
      refine HP.out g0 cap _ (own_of (X := spl (spl cur.toList (i + 1) (fl.drop (i))) (i) ey) (by simpa using hN2) hg0 (by omega) (by unfold maxLen; omega) (by rw [hl2, hl1]; simpa using hcs) (by simp only [List.length_append, htl, hdl, hyl]; omega) ?_) ⟨hS.1.trans e1, hS.2.1.trans e2, hS.2.2.trans e3, ?_, fun b hb hrow => ?_⟩ (Or.inl rfl)
      · rw [hR, List.take_left' (by simp only [List.length_append, htl, hdl, hyl]; omega)]
      · rw [size_setCells', hW, hZ1]; exact Nat.le_refl _
      · have hbg : b ≠ g0 := fun e => by subst e; first | exact hrow rfl | exact absurd hrow (by simp [Value.ownBlock])
        rw [heap_setCells_ne _ _ _ _ hbg, hW, hO1 b hbg]
    have HFh := hid (fun W h => HFC W h)
    have HFIN := hid (HFC W1 rfl hS1.1 hS1.2.1 hS1.2.2)
    have HFIN2 := hid (HFC W1.drew rfl hS1.1 hS1.2.1 hS1.2.2)
    have HC1h := hid HC1
    have HC2h := hid (HC2 W1 rfl)
    have HC2d := hid (HC2 W1.drew rfl)
    have hcap : ¬ ((cap : Int) < (n : Int) + 1) := by omega
    have hci : ¬ (cap = i) := by omega
    have hcim : ¬ (cap = i + 1) := by omega
    have hrm : n + 1 ≤ cap := by omega
    have hb3 : (i : Int) ≤ (n : Int) + 1 := by omega
    clear HC1 HC2 HFC hcell hvc hone hyo hdo hadd htl hdl hfl hyl hcs htk hh hy hsz hvb hB hg0 HP hS1 hW1 hN1 hO1 hZ1 hl1 hct HFh
    go_enter Try.func36, Try.ntmps36
    go_wp2_with (first
      | (simp only [hov])
      | (simp only [HC2h.out, Result.andThen])
      | (simp only [HC2d.out, Result.andThen]))
    have mixed : Try.prog.follows Departure.mixedOrders = true := by kernel_rfl
    go_region_law_o (refine step_copy_runI rfl _ _ 22 22 rfl (.slice (some ⟨g0, i + 1, none⟩) (n + 1 - (i + 1)) (cap - (i + 1))) (.slice (some ⟨g0, i, none⟩) (n + 1 - i) (cap - i)) (by simp [Act.eval, Act.put]) (by simp [Act.eval, Act.put]) (HC1h.out 3 (cap - (i + 1)) (cap - i)) ?_)
    all_goals
      go_wp2_with (first
        | (at_builtin; refine wpList_copy_runI _ rfl _ _ 22 22 rfl _ _ rfl rfl (HC2h.out _ _) ?_)
        | (simp only [HC2h.out, Result.andThen])
        | (simp only [HC2d.out, Result.andThen]))
      go_ret
      first | exact HFIN.out | exact HFIN2.out

end Go.Proofs.Ytlhekldlfmdmiaa
