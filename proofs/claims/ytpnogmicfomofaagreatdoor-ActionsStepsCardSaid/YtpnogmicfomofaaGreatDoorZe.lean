import Derived.Test.YtpnogmicfomofaaGreatDoorZd
import Derived.Test.YtpnogmicfomofaaGreatDoorShelf
import Derived.Shelf.Spec.SlicesInsertGrow
/-
  Layer 44: slices.BinarySearch at an own slice of numbers. Conditions: those ahead of each theorem.
-/
namespace Go.Proofs.YtpnogmicfomofaaGreatDoor.Stp
open Go.RowKit Go.Sort Go.Lib Go.Maps
open Go.Lib (hid)
set_option linter.unusedVariables false
set_option linter.unusedSimpArgs false

theorem bs_j (B g o cap : Nat) (xs : List Int) (x : Int) (w : World) (h : OwnJ B w (.slice (some ⟨g, o, none⟩) xs.length cap) xs) (hs : xs.Pairwise (· ≤ ·)) (hn : xs.length ≤ 1000000) :
    Calls Tryz.prog 33 #[.slice (some ⟨g, o, none⟩) xs.length cap, .int .i64 x] w fun e w' =>
      (∃ bb, e = .returned (.tuple #[.int .i64 (xs.countP (· < x) : Nat), .bool bb])) ∧ Below w.heap.size w w' := by
  obtain ⟨r, c, e, h2, h3, h4, h5, h6⟩ := h.ex
  simp at e
  obtain ⟨rfl, rfl⟩ := e
  obtain ⟨g', o', e, h7, h8, h9, h10⟩ := h6 _ rfl
  simp at e
  obtain ⟨rfl, rfl⟩ := e
  refine (Any.slices_BinarySearch_int Tryz.laysB25 g o xs.length cap xs x w (Nat.le_refl _) (by omega) (fun j hj => ?_) (by rw [List.take_length]; exact hs)).mono ?_
  · rw [h9 j hj, List.getD_eq_getElem?_getD, List.getElem?_eq_getElem hj]; rfl
  · rintro e w' ⟨he, q, rfl⟩
    rw [List.take_length] at he
    exact ⟨⟨_, he⟩, bel_drewN (Below.refl _ _) _⟩
end Go.Proofs.YtpnogmicfomofaaGreatDoor.Stp
/-
  Layer 44: slices.Insert of one number into an own slice of numbers, at whatever offset. Conditions: those ahead of each theorem.
-/
namespace Go.Proofs.YtpnogmicfomofaaGreatDoor.Stp
open Go.RowKit Go.Sort Go.Lib Go.Maps
open Go.Lib (hid)
set_option linter.unusedVariables false
set_option linter.unusedSimpArgs false

theorem ins_get {xs : List Int} {i : Nat} {y : Int} (hi : i ≤ xs.length) {j : Nat} (hj : j < (xs.insertIdx i y).length) :
    (j < i → ∃ h : j < xs.length, (xs.insertIdx i y)[j] = xs[j]) ∧ (j = i → (xs.insertIdx i y)[j] = y) ∧ (i < j → ∃ h : j - 1 < xs.length, (xs.insertIdx i y)[j] = xs[j - 1]) := by
  have hl : (xs.insertIdx i y).length = xs.length + 1 := by rw [List.length_insertIdx, if_pos hi]
  refine ⟨fun h => ⟨by omega, List.getElem_insertIdx_of_lt h ..⟩, fun h => by subst h; exact List.getElem_insertIdx_self .., fun h => ⟨by omega, List.getElem_insertIdx_of_gt h ..⟩⟩
theorem ins_mem {xs : List Int} {i : Nat} {y z : Int} (hi : i ≤ xs.length) (h : z ∈ xs.insertIdx i y) : z = y ∨ z ∈ xs := (List.mem_insertIdx hi).1 h
theorem vals_get {xs : List Int} {j : Nat} {u : Value} (h : (xs.map (Value.int .i64))[j]? = some u) : ∃ hj : j < xs.length, u = .int .i64 xs[j] := by
  rw [List.getElem?_map] at h
  cases hx : xs[j]? with
  | none => rw [hx] at h; cases h
  | some z =>
    rw [hx] at h
    obtain ⟨hjl, rfl⟩ := List.getElem?_eq_some_iff.1 hx
    exact ⟨hjl, by simpa using h.symm⟩
/-- What stands in the row after both stores, in whichever order. -/
theorem ins_cells {g o i : Nat} {xs : List Int} {y : Int} {W W2 : World} (hi : i ≤ xs.length)
    (hlow : ∀ j (hj : j < i), W.cell? ⟨g, o + j, none⟩ = some (.int .i64 (xs[j]'(by omega)))) (hsome : ∀ j, j ≤ xs.length → (W.cell? ⟨g, o + j, none⟩).isSome = true)
    (h1 : W2 = (W.setCells g (o + (i + 1)) ((xs.map (Value.int .i64)).drop i)).setCells g (o + i) [.int .i64 y] ∨ W2 = (W.setCells g (o + i) [.int .i64 y]).setCells g (o + (i + 1)) ((xs.map (Value.int .i64)).drop i)) :
    ∀ j (hj : j < (xs.insertIdx i y).length), W2.cell? ⟨g, o + j, none⟩ = some (.int .i64 (xs.insertIdx i y)[j]) := by
  intro j hj
  have hl : (xs.insertIdx i y).length = xs.length + 1 := by rw [List.length_insertIdx, if_pos hi]
  obtain ⟨k1, k2, k3⟩ := ins_get hi hj
  have hdl : ((xs.map (Value.int .i64)).drop i).length = xs.length - i := by simp
  have some1 : ∀ k, k < ((xs.map (Value.int .i64)).drop i).length → (W.cell? ⟨g, o + (i + 1) + k, none⟩).isSome = true := fun k hk => by
    rw [hdl] at hk
    have := hsome (i + 1 + k) (by omega)
    rwa [show o + (i + 1 + k) = o + (i + 1) + k by omega] at this
  have some2 : ∀ k, k < ([Value.int .i64 y] : List Value).length → (W.cell? ⟨g, o + i + k, none⟩).isSome = true := fun k hk => by
    have h0 : k = 0 := by simpa using hk
    subst h0
    exact hsome i hi
  rcases h1 with rfl | rfl
  · by_cases c1 : j = i
    · subst c1
      have := World.cell?_setCells_in g [.int .i64 y] (o + j) (W.setCells g (o + (j + 1)) ((xs.map (Value.int .i64)).drop j)) (fun k hk => isSome_setCells g _ _ _ some1 _ (some2 k hk)) 0 (by simp)
      rw [k2 rfl]
      simpa using this
    · rw [World.cell?_setCells_out _ _ _ _ _ (fun _ _ => by simp only [List.length_singleton]; omega)]
      by_cases c2 : j < i
      · obtain ⟨h, e⟩ := k1 c2
        rw [World.cell?_setCells_out _ _ _ _ _ (fun _ _ => Or.inl (by simp only; omega)), e, hlow j c2]
      · obtain ⟨h, e⟩ := k3 (by omega)
        have := World.cell?_setCells_in g ((xs.map (Value.int .i64)).drop i) (o + (i + 1)) W some1 (j - (i + 1)) (by rw [hdl]; omega)
        rw [show o + (i + 1) + (j - (i + 1)) = o + j by omega] at this
        rw [this, e]
        simp only [List.getElem_drop, List.getElem_map]
        congr 3
        omega
  · by_cases c1 : i < j
    · obtain ⟨h, e⟩ := k3 c1
      have := World.cell?_setCells_in g ((xs.map (Value.int .i64)).drop i) (o + (i + 1)) (W.setCells g (o + i) [.int .i64 y]) (fun k hk => isSome_setCells g _ _ _ some2 _ (some1 k hk)) (j - (i + 1)) (by rw [hdl]; omega)
      rw [show o + (i + 1) + (j - (i + 1)) = o + j by omega] at this
      rw [this, e]
      simp only [List.getElem_drop, List.getElem_map]
      congr 3
      omega
    · rw [World.cell?_setCells_out _ _ _ _ _ (fun _ _ => Or.inl (by simp only; omega))]
      by_cases c2 : j = i
      · subst c2
        have := World.cell?_setCells_in g [.int .i64 y] (o + j) W some2 0 (by simp)
        rw [k2 rfl]
        simpa using this
      · obtain ⟨h, e⟩ := k1 (by omega)
        rw [World.cell?_setCells_out _ _ _ _ _ (fun _ _ => Or.inl (by simp only; omega)), e, hlow j (by omega)]
theorem block_setCells (b : Nat) : ∀ (vs : List Value) (o : Nat) (w : World) {C : Array Value} {E : TypeId} {fr : Nat × Nat}, w.heap[b]? = some (.cells C E fr) → ∃ C', (w.setCells b o vs).heap[b]? = some (.cells C' E fr) ∧ C'.size = C.size
  | [], _, w, C, E, fr, h => ⟨C, h, rfl⟩
  | v :: r, o, w, C, E, fr, h => by
    have h1 : ∃ C', (w.setCell ⟨b, o, none⟩ v).heap[b]? = some (.cells C' E fr) ∧ C'.size = C.size := by
      have hb := (Array.getElem?_eq_some_iff.1 h).1
      refine ⟨C.setIfInBounds o v, ?_, by simp⟩
      show (w.heap.modify b _)[b]? = _
      rw [Array.getElem?_modify, if_pos rfl, h]
      rfl
    obtain ⟨C', h2, h3⟩ := h1
    obtain ⟨C2, h4, h5⟩ := block_setCells b r (o + 1) (w.setCell ⟨b, o, none⟩ v) h2
    exact ⟨C2, by rw [World.setCells]; exact h4, h5.trans h3⟩

set_option maxRecDepth 100000 in
set_option maxHeartbeats 4000000 in
theorem ins_j (B : Nat) (v : Value) (xs : List Int) (i : Nat) (y : Int) (nb : Nat) (w : World) (h : OwnJ B w v xs) (hi : i ≤ xs.length) (hy : w.heap[nb]? = some (.cells #[.int .i64 y] 3 (0, 0))) (hne : v.ownBlock ≠ some nb) (hyb : IB y) (hn : xs.length + 1 ≤ 1000000) (hbase : B ≤ w.heap.size) :
    Calls Tryz.prog 34 #[v, .int .i64 i, .slice (some ⟨nb, 0, none⟩) 1 1] w fun e w' => ∃ g o c, e = .returned (.slice (some ⟨g, o, none⟩) (xs.length + 1) c) ∧ xs.length + 1 ≤ c ∧ c ≤ 9223372036854775807 ∧ MoreJ B w v (xs.insertIdx i y) (.slice (some ⟨g, o, none⟩) (xs.length + 1) c) w' := by
  obtain ⟨r, cap, rfl, h2, h3, h4, h5, h6⟩ := h.ex
  have hl : (xs.insertIdx i y).length = xs.length + 1 := by rw [List.length_insertIdx, if_pos hi]
  have hcl : (xs.map (Value.int .i64)).length = xs.length := by simp
  have hnews : ∀ j u, ([Value.int .i64 y] : List Value)[j]? = some u → w.cell? ⟨nb, 0 + j, none⟩ = some u := fun j u hj => by
    rw [cell_of hy, Nat.zero_add]; simpa using hj
  have hone : ∀ u ∈ ([Value.int .i64 y] : List Value), u.oneCell' = true := fun u hu => by simp at hu; subst hu; rfl
  have honec : ∀ u ∈ xs.map (Value.int .i64), u.oneCell' = true := fun u hu => by
    obtain ⟨x, _, rfl⟩ := List.mem_map.1 hu
    rfl
  have hsz : ∀ z ∈ xs.insertIdx i y, IB z := fun z hz => by
    rcases ins_mem hi hz with rfl | hz
    · exact hyb
    · exact h5 z hz
  have hcap63 : cap ≤ 9223372036854775807 := by unfold maxLen at h3; omega
  by_cases hroom : xs.length + 1 ≤ cap
  · -- in place
    obtain ⟨a0, rfl⟩ : ∃ a0, r = some a0 := by
      cases r with
      | none => have := h4 rfl; omega
      | some a0 => exact ⟨a0, rfl⟩
    obtain ⟨g, o, rfl, h7, h8, h9, h10⟩ := h6 _ rfl
    have hgn : nb ≠ g := fun e => hne (by rw [e]; rfl)
    have place : ∀ W2 : World, W2 = (w.setCells g (o + (i + 1)) ((xs.map (Value.int .i64)).drop i)).setCells g (o + i) [.int .i64 y] ∨ W2 = (w.setCells g (o + i) [.int .i64 y]).setCells g (o + (i + 1)) ((xs.map (Value.int .i64)).drop i) → ∀ W', (∀ a, W'.cell? a = W2.cell? a) → (∀ a, W'.frozen? a = W2.frozen? a) → W'.heap = W2.heap → W'.os = w.os → W'.tape = w.tape → W'.output = w.output →
        MoreJ B w (.slice (some ⟨g, o, none⟩) xs.length cap) (xs.insertIdx i y) (.slice (some ⟨g, o, none⟩) (xs.length + 1) cap) W' := by
      intro W2 hW W' hc' hf' hh' e1 e2 e3
      have hsize : W'.heap.size = w.heap.size := by rw [hh']; rcases hW with rfl | rfl <;> rw [size_setCells', size_setCells']
      have hblk : ∀ k, k ≠ g → W'.heap[k]? = w.heap[k]? := fun k hk => by
        rw [hh']
        rcases hW with rfl | rfl <;> rw [heap_setCells_ne _ _ _ _ hk, heap_setCells_ne _ _ _ _ hk]
      have hcells := ins_cells (W2 := W2) hi (fun j hj => h9 j (by omega)) (fun j hj => (h10 j (by omega)).1) hW
      refine ⟨⟨some ⟨g, o, none⟩, cap, by rw [hl], by omega, h3, (fun h => by cases h), hsz, fun a ha => ?_⟩, ⟨e1, e2, e3, by omega, fun k hk hne' => hblk k (fun e => hne' (by rw [e]; rfl))⟩, fun g' hg' => Or.inl hg'⟩
      cases ha
      refine ⟨g, o, rfl, h7, by omega, fun j hj => (hc' _).trans (hcells j hj), fun j hj => ⟨?_, ?_⟩⟩
      · rw [hc']
        by_cases hjl : j < (xs.insertIdx i y).length
        · rw [hcells j hjl]; rfl
        · have hd : ((xs.map (Value.int .i64)).drop i).length = xs.length - i := by simp
          rcases hW with rfl | rfl
          · rw [World.cell?_setCells_out _ _ _ _ _ (fun _ _ => by simp only [List.length_singleton]; omega), World.cell?_setCells_out _ _ _ _ _ (fun _ _ => by simp only [hd]; omega)]
            exact (h10 j hj).1
          · rw [World.cell?_setCells_out _ _ _ _ _ (fun _ _ => by simp only [hd]; omega), World.cell?_setCells_out _ _ _ _ _ (fun _ _ => by simp only [List.length_singleton]; omega)]
            exact (h10 j hj).1
      · rw [hf']
        rcases hW with rfl | rfl <;> rw [World.frozen?_setCells, World.frozen?_setCells] <;> exact (h10 j hj).2
    by_cases hie : i < xs.length
    · obtain ⟨eB, kB, hsb, hkB, _⟩ := World.shape?_of_cell? (h9 0 (by omega))
      have hsa : w.shape? nb = some (3, 1) := by unfold World.shape?; rw [hy]; rfl
      refine (Any2.slices_Insert_int_shift Tryz.laysB21 g o xs.length cap i nb 0 1 1 (xs.map (Value.int .i64)) [.int .i64 y] w hie (by omega) hroom hcap63 hgn hcl rfl (fun j u hj => ?_) (fun j hj => (h10 j (by omega)).1) (fun j hj => (h10 j (by omega)).2) hnews honec hone _ eB 1 kB hsa hsb (by omega) (frozen_of hy _) (frozen_of hy _)).mono ?_
      · obtain ⟨hjl, rfl⟩ := vals_get hj
        exact h9 j hjl
      · rintro e w' ⟨rfl, rfl⟩
        refine ⟨_, _, _, rfl, hroom, hcap63, place _ (Or.inl rfl) _ (fun a => ?_) (fun a => ?_) ?_ ?_ ?_ ?_⟩
        · rw [← drew_setCells, ← drew_setCells]; rfl
        · rw [← drew_setCells, ← drew_setCells]; rfl
        · rw [← drew_setCells, ← drew_setCells]; rfl
        · exact (same_setCells g _ _ _).1.trans (same_setCells g _ _ _).1
        · exact (same_setCells g _ _ _).2.1.trans (same_setCells g _ _ _).2.1
        · exact (same_setCells g _ _ _).2.2.trans (same_setCells g _ _ _).2.2
    · have hie2 : i = xs.length := by omega
      subst hie2
      refine (Any2.slices_Insert_int_end_room Tryz.laysB21 g o xs.length cap nb 0 1 1 [.int .i64 y] w (by omega) hroom hcap63 rfl (fun j hj => ?_) (fun j hj => ?_) hnews hone).mono ?_
      · have h0 : j = 0 := by omega
        subst h0
        exact (h10 xs.length (by omega)).1
      · have h0 : j = 0 := by omega
        subst h0
        exact (h10 xs.length (by omega)).2
      · rintro e w' ⟨rfl, rfl⟩
        have hd : (xs.map (Value.int .i64)).drop xs.length = [] := by simp
        exact ⟨_, _, _, rfl, hroom, hcap63, place _ (Or.inl rfl) _ (fun a => by rw [hd]; rfl) (fun a => by rw [hd]; rfl) (by rw [hd]; rfl) (same_setCells g _ _ _).1 (same_setCells g _ _ _).2.1 (same_setCells g _ _ _).2.2⟩
  · have hc1 := grownCap_ge w (xs.length + 1) cap 3
    have hc2 := grownCap_le_maxLen w (xs.length + 1) cap 3 (by unfold maxLen; omega)
    have hzc : ∀ n, (Builtin.zeroCells (Value.int .i64 0).cells n).size = n := fun n => by rw [size_zeroCells]; show n * 1 = n; omega
    have fin : ∀ W' C E, W'.heap[w.heap.size]? = some (.cells C E (0, 0)) → C.size = grownCap w (xs.length + 1) cap 3 → (∀ j (hj : j < (xs.insertIdx i y).length), W'.cell? ⟨w.heap.size, 0 + j, none⟩ = some (.int .i64 (xs.insertIdx i y)[j])) → w.grownBy W' none →
        MoreJ B w (.slice r xs.length cap) (xs.insertIdx i y) (.slice (some ⟨w.heap.size, 0, none⟩) (xs.length + 1) (grownCap w (xs.length + 1) cap 3)) W' := by
      intro W' C E hb hC hcells hg
      refine ⟨⟨some ⟨w.heap.size, 0, none⟩, _, by rw [hl], by omega, hc2, (fun h => by cases h), hsz, fun a ha => ?_⟩, grown_any hg _, fun g hg' => ?_⟩
      · cases ha
        exact ⟨w.heap.size, 0, rfl, hbase, lt_of_block hb, hcells, fun j hj => ⟨by rw [cell_of hb, Array.getElem?_eq_getElem (by omega)]; rfl, frozen_of hb _⟩⟩
      · simp [Value.ownBlock] at hg'
        subst hg'
        exact Or.inr (Nat.le_refl _)
    by_cases hie : i < xs.length
    · obtain ⟨a0, rfl⟩ : ∃ a0, r = some a0 := by
        cases r with
        | none => have := h4 rfl; omega
        | some a0 => exact ⟨a0, rfl⟩
      obtain ⟨g, o, rfl, h7, h8, h9, h10⟩ := h6 _ rfl
      refine (Any2.slices_Insert_int_grow Tryz.laysB21 g o xs.length cap i nb 0 1 1 (xs.map (Value.int .i64)) [.int .i64 y] w hie (by omega) h2 (by omega) (by omega) hcl rfl (fun j u hj => ?_) hnews honec hone).mono ?_
      · obtain ⟨hjl, rfl⟩ := vals_get hj
        exact h9 j hjl
      · rintro e w' ⟨rfl, rfl⟩
        refine ⟨_, _, _, rfl, hc1, (show grownCap w (xs.length + 1) cap 3 ≤ 9223372036854775807 from by have := hc2; unfold maxLen at this; omega), ?_⟩
        simp only [← drew_setCells]
        have ht3 : Tryz.laysB21_ren.t 3 = 3 := rfl
        rw [ht3]
        generalize hA : ((xs.map (Value.int .i64)).take i).toArray ++ Builtin.zeroCells (Value.int .i64 0).cells (xs.length + 1 - i) ++ Builtin.zeroCells (Value.int .i64 0).cells (grownCap w (xs.length + 1) cap _ - (xs.length + 1)) = A0
        have hAs : A0.size = grownCap w (xs.length + 1) cap 3 := by
          rw [← hA, Array.size_append, Array.size_append, hzc, hzc, List.size_toArray, List.length_take, hcl]
          have : min i xs.length = i := by omega
          rw [this]
          show i + (xs.length + 1 - i) + (grownCap w (xs.length + 1) cap 3 - (xs.length + 1)) = _
          omega
        have hb0 := (MapKept.heap_alloc w (.cells A0 3)).1
        obtain ⟨C1, hb1, hs1⟩ := block_setCells w.heap.size [Value.int .i64 y] i (w.alloc (.cells A0 3)) hb0
        obtain ⟨C2, hb2, hs2⟩ := block_setCells w.heap.size ((xs.map (Value.int .i64)).drop i) (i + 1) _ hb1
        refine fin _ C2 3 ?_ (by rw [hs2, hs1, hAs]) (fun j hj => ?_) ?_
        · exact hb2
        · have hcs := ins_cells (g := w.heap.size) (o := 0) (i := i) (xs := xs) (y := y) (W := w.alloc (.cells A0 3)) (W2 := ((w.alloc (.cells A0 3)).setCells w.heap.size (0 + i) [.int .i64 y]).setCells w.heap.size (0 + (i + 1)) ((xs.map (Value.int .i64)).drop i)) hi (fun j hj => ?_) (fun j hj => ?_) (Or.inr rfl) j hj
          · rw [Nat.zero_add, Nat.zero_add] at hcs
            exact (congrArg (fun q => World.cell? _ ⟨w.heap.size, q, none⟩) (Nat.zero_add j)).trans (by rw [Nat.zero_add] at hcs; exact hcs)
          · rw [cell_of hb0, ← hA, Nat.zero_add, Array.getElem?_append_left (by rw [Array.size_append, hzc, List.size_toArray, List.length_take, hcl]; omega), Array.getElem?_append_left (by rw [List.size_toArray, List.length_take, hcl]; omega)]
            have hjx : j < xs.length := by omega
            simp [hj, hjx]
          · rw [cell_of hb0, Array.getElem?_eq_getElem (by rw [hAs]; omega)]; rfl
        · refine ⟨(same_setCells _ _ _ _).1.trans (same_setCells _ _ _ _).1, (same_setCells _ _ _ _).2.1.trans (same_setCells _ _ _ _).2.1, (same_setCells _ _ _ _).2.2.trans (same_setCells _ _ _ _).2.2, ?_, fun k hk _ => ?_⟩
          · show _ ≤ (World.setCells _ _ _ _).heap.size
            rw [size_setCells', size_setCells']
            simp
          · have hk' : k ≠ w.heap.size := by omega
            show (World.setCells _ _ _ _).heap[k]? = _
            rw [heap_setCells_ne _ _ _ _ hk', heap_setCells_ne _ _ _ _ hk']
            exact Below.heap_alloc _ _ _ hk
    · have hie2 : i = xs.length := by omega
      subst hie2
      refine (Any2.slices_Insert_int_end_grow Tryz.laysB21 r xs.length cap nb 0 1 1 (xs.map (Value.int .i64)) [.int .i64 y] w (by omega) h2 (by omega) (by omega) hcl rfl (fun e => by have := h4 e; omega) (fun a ha j u hj => ?_) hnews hone).mono ?_
      · obtain ⟨hjl, rfl⟩ := vals_get hj
        obtain ⟨g, o, rfl, h7, h8, h9, h10⟩ := h6 _ ha
        rw [Addr.add_lit]
        exact h9 j hjl
      · rintro e w' ⟨rfl, rfl⟩
        refine ⟨_, _, _, rfl, hc1, (show grownCap w (xs.length + 1) cap 3 ≤ 9223372036854775807 from by have := hc2; unfold maxLen at this; omega), ?_⟩
        have ht3 : Tryz.laysB21_ren.t 3 = 3 := rfl
        rw [ht3]
        generalize hA : (xs.map (Value.int .i64) ++ [Value.int .i64 y]).toArray ++ Builtin.zeroCells (Value.int .i64 0).cells (grownCap w (xs.length + 1) cap _ - (xs.length + 1)) = A0
        have hAs : A0.size = grownCap w (xs.length + 1) cap 3 := by
          rw [← hA, Array.size_append, hzc, List.size_toArray, List.length_append, hcl]
          show xs.length + 1 + (grownCap w (xs.length + 1) cap 3 - (xs.length + 1)) = _
          omega
        have hb0 : (w.drew.alloc (.cells A0 3)).heap[w.heap.size]? = some (.cells A0 3 (0, 0)) := (MapKept.heap_alloc w.drew (.cells A0 3)).1
        refine fin _ A0 3 hb0 hAs (fun j hj => ?_) ?_
        · rw [cell_of hb0, ← hA, Nat.zero_add, Array.getElem?_append_left (by rw [List.size_toArray, List.length_append, hcl]; simp; omega)]
          obtain ⟨k1, k2, k3⟩ := ins_get hi hj
          by_cases c1 : j < xs.length
          · obtain ⟨_, e⟩ := k1 c1
            rw [e]
            simp [c1, List.getElem?_append_left]
          · have hje : j = xs.length := by omega
            rw [k2 hje]
            subst hje
            simp
        · exact grown_below ((show Below w.heap.size w w.drew from (Below.refl _ _).drew).alloc (Nat.le_refl _) _)
end Go.Proofs.YtpnogmicfomofaaGreatDoor.Stp
/-
  Layer 44: what the program's Order holds in memory: the counts, who needs whom, who is ready, what is listed. Conditions: those ahead of each theorem.
-/
namespace Go.Proofs.YtpnogmicfomofaaGreatDoor.Stp
open Go.RowKit Go.Sort Go.Lib Go.Maps
open Go.Lib (hid)
set_option linter.unusedVariables false
set_option linter.unusedSimpArgs false

theorem grown_set (w : World) (a : Addr) (u : Value) : w.grownBy (w.setCell a u) (some a.block) := ⟨rfl, rfl, rfl, by simp [World.setCell], fun k hk hne => Below.heap_setCell _ _ _ _ (fun e => hne (by rw [e]))⟩
/-- Numbers in a block of one's own. -/
structure Lf (M n : Nat) (w : World) (v : Nat → Nat) : Prop where
  lt : M < w.heap.size
  cell : ∀ i, i < n → w.cell? ⟨M, i, none⟩ = some (.int .i64 (v i : Nat))
  free : ∀ o, w.frozen? ⟨M, o, none⟩ = false
theorem Lf.kept {M n : Nat} {w w' : World} {v : Nat → Nat} {row : Option Nat} (h : Lf M n w v) (hg : w.grownBy w' row) (hr : row ≠ some M) : Lf M n w' v := by
  have hne : ∀ k, row = some k → k ≠ M := fun k hk e => hr (by rw [hk, e])
  exact ⟨Nat.lt_of_lt_of_le h.lt hg.size, fun i hi => grown_cell hg h.lt hne (h.cell i hi), fun o => by rw [grown_frozen hg h.lt hne]; exact h.free o⟩
theorem Lf.set {M n : Nat} {w : World} {v v' : Nat → Nat} (h : Lf M n w v) {y : Nat} (hy : y < n) (hv : ∀ i, i ≠ y → v' i = v i) {z : Int} (hz : z = (v' y : Nat)) : Lf M n (w.setCell ⟨M, y, none⟩ (.int .i64 z)) v' := by
  refine ⟨by simpa [World.setCell] using h.lt, fun i hi => ?_, fun o => by simpa using h.free o⟩
  by_cases e : y = i
  · subst e
    rw [scell_same (h.cell y hy), hz]
  · rw [scell_ne e, h.cell i hi, hv i (fun h => e h.symm)]
/-- Rows of numbers, by the headers in a block of one's own. -/
structure Us (B M n : Nat) (w : World) (vs : Nat → Value) (F : Nat → List Nat) : Prop where
  lt : M < w.heap.size
  cell : ∀ i, i < n → w.cell? ⟨M, i, none⟩ = some (vs i)
  free : ∀ o, w.frozen? ⟨M, o, none⟩ = false
  own : ∀ i, i < n → OwnI B w (vs i) ((F i).map Nat.cast)
  ap : ∀ i j, i < n → j < n → i ≠ j → Apart (vs i) (vs j)
theorem Us.kept {B M n : Nat} {w w' : World} {vs : Nat → Value} {F : Nat → List Nat} {row : Option Nat} (h : Us B M n w vs F) (hg : w.grownBy w' row) (hr : row ≠ some M) (hv : ∀ i, i < n → ∀ g, (vs i).ownBlock = some g → row ≠ some g) : Us B M n w' vs F := by
  have hne : ∀ k, row = some k → k ≠ M := fun k hk e => hr (by rw [hk, e])
  exact ⟨Nat.lt_of_lt_of_le h.lt hg.size, fun i hi => grown_cell hg h.lt hne (h.cell i hi), fun o => by rw [grown_frozen hg h.lt hne]; exact h.free o, fun i hi => (h.own i hi).kept hg (hv i hi), h.ap⟩
/-- What stands in memory: the base world, the counts, the rows, the ready ones, the listed ones. -/
structure Og (n M : Nat) (w wr : World) (vs : Nat → Value) (F : Nat → List Nat) (v : Nat → Nat) (vR : Value) (R : List Nat) (vo : Value) (out : List Nat) : Prop where
  hM : w.heap.size ≤ M
  bel : Below w.heap.size w wr
  sz : M + 2 ≤ wr.heap.size
  lf : Lf M n wr v
  us : Us (M + 2) (M + 1) n wr vs F
  oR : OwnJ (M + 2) wr vR (R.map Nat.cast)
  oo : OwnI (M + 2) wr vo (out.map Nat.cast)
  ap : Apart vR vo
  aR : ∀ i, i < n → Apart (vs i) vR
  ao : ∀ i, i < n → Apart (vs i) vo
section
variable {n M : Nat} {w wr : World} {vs : Nat → Value} {F : Nat → List Nat} {v : Nat → Nat} {vR vo : Value} {R out : List Nat}
theorem Og.below {wx : World} (h : Og n M w wr vs F v vR R vo out) (hb : Below wr.heap.size wr wx) : Og n M w wx vs F v vR R vo out :=
  ⟨h.hM, h.bel.trans (hb.mono h.bel.size), Nat.le_trans h.sz hb.size, h.lf.kept (grown_below hb) (fun e => by cases e), h.us.kept (grown_below hb) (fun e => by cases e) (fun _ _ _ _ e => by cases e), h.oR.below hb, h.oo.below hb, h.ap, h.aR, h.ao⟩
theorem Og.setLeft (h : Og n M w wr vs F v vR R vo out) {y : Nat} (hy : y < n) {v' : Nat → Nat} (hv : ∀ i, i ≠ y → v' i = v i) {z : Int} (hz : z = (v' y : Nat)) : Og n M w (wr.setCell ⟨M, y, none⟩ (.int .i64 z)) vs F v' vR R vo out := by
  have hg := grown_set wr ⟨M, y, none⟩ (.int .i64 z)
  have hn : ∀ {g : Nat}, M + 2 ≤ g → (some M : Option Nat) ≠ some g := fun h e => by cases e; omega
  exact ⟨h.hM, Below.grown h.bel hg h.bel.size (fun g e => by cases e; exact h.hM), Nat.le_trans h.sz hg.size, h.lf.set hy hv hz, h.us.kept hg (fun e => by simp at e) (fun i hi g hgg => hn ((h.us.own i hi).lt g hgg).1), h.oR.kept hg (fun g hgg => hn (h.oR.lt g hgg).1), h.oo.kept hg (fun g hgg => hn (h.oo.lt g hgg).1), h.ap, h.aR, h.ao⟩
theorem apart_new {a b : Value} {g : Nat} {len cap : Nat} (h : Apart a b) (hat : b.ownBlock = some g ∨ ∀ k, a.ownBlock = some k → k < g) : Apart a (.slice (some ⟨g, 0, none⟩) len cap) := by
  intro k hk e
  simp [Value.ownBlock] at e
  subst e
  rcases hat with hat | hat
  · exact h g hk hat
  · have := hat _ hk; omega
/-- One more user, its header stored. -/
theorem Og.user (h : Og n M w wr vs F v vR R vo out) {k : Nat} (hk : k < n) {i : Nat} {g cap len : Nat} {w' : World} (hl : len = (F k).length + 1) (hm : MoreI (M + 2) wr (vs k) ((F k).map Nat.cast ++ [(i : Int)]) wr.heap.size g cap w') :
    Og n M w (w'.setCell ⟨M + 1, k, none⟩ (.slice (some ⟨g, 0, none⟩) len cap)) (fun j => if j = k then .slice (some ⟨g, 0, none⟩) len cap else vs j) (fun j => if j = k then F j ++ [i] else F j) v vR R vo out := by
  obtain ⟨m1, m2, m3, m4⟩ := hm
  have hlen : ((F k).map Nat.cast ++ [(i : Int)]).length = len := by simp [hl]
  rw [hlen] at m1
  have hkown := h.us.own k hk
  have hrow : ∀ {g' : Nat}, g' < M + 2 → (vs k).ownBlock ≠ some g' := fun hlt e => by have := (hkown.lt _ e).1; omega
  have hg2 := grown_set w' ⟨M + 1, k, none⟩ (.slice (some ⟨g, 0, none⟩) len cap)
  have hn : ∀ {x : Nat}, M + 2 ≤ x → (some (M + 1) : Option Nat) ≠ some x := fun h e => by cases e; omega
  have lf1 := h.lf.kept m2 (hrow (by omega))
  have oR1 := h.oR.kept m2 (fun x hx e => h.aR k hk x e hx)
  have oo1 := h.oo.kept m2 (fun x hx e => h.ao k hk x e hx)
  have hat : ∀ {b : Value}, (∀ x, b.ownBlock = some x → x < wr.heap.size) → Apart b (vs k) → Apart b (.slice (some ⟨g, 0, none⟩) len cap) := fun hb hap =>
    apart_new hap (m3.imp id fun e x hx => by have := hb x hx; omega)
  have hus : Us (M + 2) (M + 1) n (w'.setCell ⟨M + 1, k, none⟩ (.slice (some ⟨g, 0, none⟩) len cap)) (fun j => if j = k then .slice (some ⟨g, 0, none⟩) len cap else vs j) (fun j => if j = k then F j ++ [i] else F j) := by
    have hne : ∀ x, (vs k).ownBlock = some x → x ≠ M + 1 := fun x hx e => by have := (hkown.lt _ hx).1; omega
    have hc1 : ∀ i, i < n → w'.cell? ⟨M + 1, i, none⟩ = some (vs i) := fun i hi => grown_cell m2 h.us.lt hne (h.us.cell i hi)
    refine ⟨by have := h.us.lt; have := m2.size; simp [World.setCell]; omega, fun j hj => ?_, fun o => ?_, fun j hj => ?_, fun a b ha hb hab => ?_⟩
    · by_cases e : j = k
      · subst e
        rw [scell_same (hc1 j hj)]; simp
      · rw [scell_ne (fun e2 => e e2.symm), hc1 j hj]; simp [e]
    · simp only [World.frozen?_setCell]
      rw [grown_frozen m2 h.us.lt hne]; exact h.us.free o
    · by_cases e : j = k
      · subst e
        simp only [if_pos rfl]
        have := m1.setBelow (a := ⟨M + 1, j, none⟩) (by simp) (.slice (some ⟨g, 0, none⟩) len cap)
        simpa using this
      · simp only [if_neg e]
        exact ((h.us.own j hj).kept m2 (fun x hx e2 => h.us.ap j k hj hk e x hx e2)).setBelow (a := ⟨M + 1, k, none⟩) (by simp) _
    · by_cases e1 : a = k
      · by_cases e2 : b = k
        · omega
        · subst e1
          simp only [if_pos rfl, if_neg e2]
          exact (hat (fun x hx => ((h.us.own b hb).lt x hx).2) (h.us.ap b a hb ha (fun h => hab h.symm))).symm
      · by_cases e2 : b = k
        · subst e2
          simp only [if_pos rfl, if_neg e1]
          exact hat (fun x hx => ((h.us.own a ha).lt x hx).2) (h.us.ap a b ha hb hab)
        · simp only [if_neg e1, if_neg e2]
          exact h.us.ap a b ha hb hab
  refine ⟨h.hM, Below.grown (Below.grown h.bel m2 h.bel.size (fun x hx => by have := (hkown.lt _ hx).1; have := h.hM; omega)) hg2 (by have := h.bel.size; have := m2.size; omega) (fun x e => by cases e; have := h.hM; simp; omega), ?_, lf1.kept hg2 (by simp), hus, oR1.kept hg2 (fun x hx => hn (oR1.lt x hx).1), oo1.kept hg2 (fun x hx => hn (oo1.lt x hx).1), h.ap, fun j hj => ?_, fun j hj => ?_⟩
  · have := h.sz; have := m2.size; simp [World.setCell]; omega
  · by_cases e : j = k
    · simp only [if_pos e]
      exact (hat (fun x hx => (h.oR.lt x hx).2) (h.aR k hk).symm).symm
    · simp only [if_neg e]; exact h.aR j hj
  · by_cases e : j = k
    · simp only [if_pos e]
      exact (hat (fun x hx => (h.oo.lt x hx).2) (h.ao k hk).symm).symm
    · simp only [if_neg e]; exact h.ao j hj
/-- One more ready, or put among the ready ones. -/
theorem Og.ready (h : Og n M w wr vs F v vR R vo out) {R' : List Nat} {vR' : Value} {w' : World} (hm : MoreJ (M + 2) wr vR (R'.map Nat.cast) vR' w') : Og n M w w' vs F v vR' R' vo out := by
  obtain ⟨m1, m2, m3⟩ := hm
  have hrow : ∀ {g' : Nat}, g' < M + 2 → vR.ownBlock ≠ some g' := fun hlt e => by have := (h.oR.lt _ e).1; omega
  have hat : ∀ {b : Value}, (∀ x, b.ownBlock = some x → x < wr.heap.size) → Apart b vR → Apart b vR' := fun hb hap x hx e => by
    rcases m3 x e with h1 | h1
    · exact hap x hx h1
    · have := hb x hx; omega
  exact ⟨h.hM, Below.grown h.bel m2 h.bel.size (fun x hx => by have := (h.oR.lt _ hx).1; have := h.hM; omega), Nat.le_trans h.sz m2.size, h.lf.kept m2 (hrow (by omega)), h.us.kept m2 (hrow (by omega)) (fun i hi g hg e => h.aR i hi g hg e), m1, h.oo.kept m2 (fun g hg e => h.ap g e hg), (hat (fun x hx => (h.oo.lt x hx).2) h.ap.symm).symm, fun i hi => hat (fun x hx => ((h.us.own i hi).lt x hx).2) (h.aR i hi), h.ao⟩
/-- The first of the ready ones is taken. -/
theorem Og.pop {R' : List Nat} {vR' : Value} (h : Og n M w wr vs F v vR R vo out) (ho : OwnJ (M + 2) wr vR' (R'.map Nat.cast)) (hb : vR'.ownBlock = vR.ownBlock) : Og n M w wr vs F v vR' R' vo out :=
  ⟨h.hM, h.bel, h.sz, h.lf, h.us, ho, h.oo, fun g hg => h.ap g (by rw [← hb]; exact hg), fun i hi g hg e => h.aR i hi g hg (by rw [← hb]; exact e), h.ao⟩
/-- One more listed. -/
theorem Og.list (h : Og n M w wr vs F v vR R vo out) {x : Nat} {g cap len : Nat} {w' : World} (hl : len = out.length + 1) (hm : MoreI (M + 2) wr vo (out.map Nat.cast ++ [(x : Int)]) wr.heap.size g cap w') : Og n M w w' vs F v vR R (.slice (some ⟨g, 0, none⟩) len cap) (out ++ [x]) := by
  obtain ⟨m1, m2, m3, m4⟩ := hm
  have hlen : (out.map Nat.cast ++ [(x : Int)]).length = len := by simp [hl]
  rw [hlen] at m1
  have hrow : ∀ {g' : Nat}, g' < M + 2 → vo.ownBlock ≠ some g' := fun hlt e => by have := (h.oo.lt _ e).1; omega
  have hat : ∀ {b : Value}, (∀ x, b.ownBlock = some x → x < wr.heap.size) → Apart b vo → Apart b (.slice (some ⟨g, 0, none⟩) len cap) := fun hb hap =>
    apart_new hap (m3.imp id fun e x hx => by have := hb x hx; omega)
  exact ⟨h.hM, Below.grown h.bel m2 h.bel.size (fun x hx => by have := (h.oo.lt _ hx).1; have := h.hM; omega), Nat.le_trans h.sz m2.size, h.lf.kept m2 (hrow (by omega)), h.us.kept m2 (hrow (by omega)) (fun i hi g hg e => h.ao i hi g hg e), h.oR.kept m2 (fun g hg e => h.ap g hg e), by rw [List.map_append, List.map_singleton]; exact m1, hat (fun x hx => (h.oR.lt x hx).2) h.ap, h.aR, fun i hi => hat (fun x hx => ((h.us.own i hi).lt x hx).2) (h.ao i hi)⟩
end
theorem rdL_snocN (l : List Nat) (y : Nat) (v : Nat → Nat) : rdL (l ++ [y]) [] v = rdL l [] v ++ if v y = 0 then [y] else [] := by
  unfold rdL
  rw [List.filter_append, List.filter_cons]
  have : hasN y [] = false := rfl
  rw [this]
  by_cases h : v y = 0 <;> simp [h]
theorem rdL_lenN (l out : List Nat) (v : Nat → Nat) : (rdL l out v).length ≤ l.length := List.length_filter_le _ _
theorem esN_take {N : List (List Nat)} {k : Nat} (hk : k < N.length) : esN (N.take (k + 1)) = esN (N.take k) ++ (nd N k).map fun y => (k, y) := by
  unfold esN nd
  rw [List.take_succ_eq_append_getElem hk, List.zipIdx_append, List.flatMap_append]
  congr 1
  have : (N.take k).length = k := by simp; omega
  simp [this, List.getElem?_eq_getElem hk]
end Go.Proofs.YtpnogmicfomofaaGreatDoor.Stp
