import Derived.Shelf.SlSortCmp.Whole1
import Derived.Below
/-
  What slices.SortFunc leaves of the world, and of the row, in plain words. No program in sight. Conditions: those ahead of each theorem.
-/
namespace Go.Proofs.YtedpdpcibkceeaaDoor
open Go.RowKit Go.Sort Go.Lib

theorem sort_block {α : Type} [Inhabited α] (enc : α → Value) (w : World) (blk off n : Nat) (d : Array α) (os : Array Obj) {b : Nat} (hne : b ≠ blk) (hb : b < w.heap.size) : (sortWorld enc w blk off n d os).heap[b]? = w.heap[b]? := by
  unfold sortWorld grow putRow mapBlock
  have hs : b < (w.heap.modify blk (onCells (putCells enc off d))).size := by simpa using hb
  show ((w.heap.modify blk (onCells (putCells enc off d))) ++ os)[b]? = _
  rw [Array.getElem?_append_left hs, Array.getElem?_modify, if_neg (fun e => hne e.symm)]
theorem below_sort {α : Type} [Inhabited α] {B : Nat} (enc : α → Value) (w : World) (blk off n : Nat) (d : Array α) (os : Array Obj) (hB : B ≤ blk) (hs : B ≤ w.heap.size) : Below B w (sortWorld enc w blk off n d os) :=
  ⟨rfl, rfl, rfl, by simp [sortWorld, grow, putRow, mapBlock, Sort.ahead], fun k hk => sort_block enc w blk off n d os (by omega) (by omega)⟩
theorem perm_list {α : Type} [Inhabited α] {d d' : Array α} (h : PermIn 0 d.size d d') : d'.toList.Perm d.toList := by
  obtain ⟨h1, _, h2⟩ := h
  have e1 : (d'.extract 0 d.size) = d' := by rw [← h1]; simp
  have e2 : (d.extract 0 d.size) = d := by simp
  rw [e1, e2] at h2
  exact h2
theorem sorted_list {α : Type} [Inhabited α] {lt : α → α → Bool} {d' : Array α} {n : Nat} (hn : d'.size = n) (h : SortedIn lt 0 n d') : d'.toList.Pairwise fun x y => lt y x = false := by
  rw [List.pairwise_iff_getElem]
  intro i j hi hj hij
  have hi' : i < d'.size := by simpa using hi
  have hj' : j < d'.size := by simpa using hj
  have := h i j (Nat.zero_le _) hij (by omega)
  rw [getElem!_pos d' i hi', getElem!_pos d' j hj'] at this
  simpa using this
end Go.Proofs.YtedpdpcibkceeaaDoor
