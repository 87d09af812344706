/-
  The loop of the statement AuditComplete: three own slices that grow side by side. Conditions: those ahead of each theorem.
-/
import Derived.Test.YtdmcceekaopghaaLawOwned
import Derived.Deep.RegionHeld3
namespace Go.Proofs.Ytdmcceekaopghaa
open Go.RowKit Go.Sort

def vl0 : Vl := ⟨0, 0, ib0, ⟨none, 0, 0⟩, ⟨none, 0, 0⟩⟩
def mkI (x : ByteArray) : In := ⟨⟨#[97]⟩, ib0, x, ib0, vl0, 0, false, false, ⟨none, 0, 0⟩⟩
def mkO (x : ByteArray) : Ob := ⟨x, ib0, ib0, vl0, 0⟩
theorem in_len (x : In) : x.cells.length = 13 := rfl
theorem ob_len' (x : Ob) : x.cells.length = 9 := rfl
theorem in_one (x : In) : ∀ u ∈ x.cells, u.oneCell' = true := by
  intro u hu
  simp [In.cells, Sv.val] at hu
  rcases hu with rfl | rfl | rfl | rfl | rfl | rfl | rfl | rfl | rfl | rfl | rfl | rfl | rfl <;> rfl
theorem ob_one' (x : Ob) : ∀ u ∈ x.cells, u.oneCell' = true := by
  intro u hu
  simp [Ob.cells, Sv.val] at hu
  rcases hu with rfl | rfl | rfl | rfl | rfl | rfl | rfl | rfl | rfl <;> rfl
theorem ininfo : (Try.prog.info? 55).map (fun i => (i.zero, i.size, i.bytes)) = some (some (.agg #[.string ByteArray.empty, .string ByteArray.empty, .string ByteArray.empty, .string ByteArray.empty, .int .i64 0, .int .i64 0, .string ByteArray.empty, .slice none 0 0, .slice none 0 0, .int .i64 0, .bool false, .bool false, .slice none 0 0]), 13, 184) := by kernel_rfl
theorem obinfo : (Try.prog.info? 57).map (fun i => (i.zero, i.size, i.bytes)) = some (some (.agg #[.string ByteArray.empty, .string ByteArray.empty, .string ByteArray.empty, .int .i64 0, .int .i64 0, .string ByteArray.empty, .slice none 0 0, .slice none 0 0, .int .i64 0]), 9, 136) := by kernel_rfl

/-- Three own slices that lie apart: the known IDs, the instances, the objects. -/
structure Trip (B : Nat) (w : World) (a b c : Value) (K : List ByteArray) (I : List In) (L : List Ob) : Prop where
  ok : OwnS B w a K
  oi : w.ownsRow B 55 13 b I.length (I.flatMap In.cells)
  ol : w.ownsRow B 57 9 c L.length (L.flatMap Ob.cells)
  ab : Apart a b
  ac : Apart a c
  bc : Apart b c
theorem Trip.nil (B : Nat) (w : World) : Trip B w (.slice none 0 0) (.slice none 0 0) (.slice none 0 0) [] [] [] :=
  ⟨ownS_nil _ _, World.ownsRow_nil _ _ _ _, World.ownsRow_nil _ _ _ _, Apart.nil _, Apart.nil _, Apart.nil _⟩
theorem below_grown {w w' : World} (hb : Below w.heap.size w w') : w.grownBy w' none := ⟨hb.os, hb.tape, hb.output, hb.size, fun k hk _ => hb.block k hk⟩
theorem none_apart (v : Value) : v.ownBlock = none ∨ v.ownBlock ≠ none := by cases v.ownBlock <;> simp
theorem Apart.of {a b : Value} (h : Apart a b) : a.ownBlock = none ∨ a.ownBlock ≠ b.ownBlock := by
  cases hv : a.ownBlock with
  | none => exact .inl rfl
  | some g => right; exact fun e => h g hv e.symm
theorem Trip.grown {B : Nat} {w w' : World} {a b c : Value} {K I L} (h : Trip B w a b c K I L) (hg : w.grownBy w' none) : Trip B w' a b c K I L :=
  ⟨⟨h.ok.1.kept hg (none_apart _), h.ok.2⟩, h.oi.kept hg (none_apart _), h.ol.kept hg (none_apart _), h.ab, h.ac, h.bc⟩
theorem Trip.below {B : Nat} {w w' : World} {a b c : Value} {K I L} (h : Trip B w a b c K I L) (hb : Below w.heap.size w w') : Trip B w' a b c K I L := h.grown (below_grown hb)
theorem Trip.store {B : Nat} {w : World} {a b c : Value} {K I L} (h : Trip B w a b c K I L) {p : Addr} (hp : p.block < B) (u : Value) : Trip B (w.setCell p u) a b c K I L :=
  ⟨⟨ownsRow_setCell_below h.ok.1 hp u, h.ok.2⟩, ownsRow_setCell_below h.oi hp u, ownsRow_setCell_below h.ol hp u, h.ab, h.ac, h.bc⟩
theorem Apart.row {B : Nat} {w : World} {a b : Value} {E : TypeId} {sz n m cap H g : Nat} {xs : List Value} (ha : w.ownsRow B E sz a n xs) (h : Apart a b) (hat : b.ownBlock = some g ∨ g = H) (hH : w.heap.size ≤ H) : Apart a (.slice (some ⟨g, 0, none⟩) m cap) := by
  intro k hk e
  simp [Value.ownBlock] at e
  subst e
  rcases hat with hat | hat
  · exact h g hk hat
  · have := (ha.lt _ hk).2; omega
theorem Trip.appK {B : Nat} {w w' : World} {a b c : Value} {K K' I L} {g n cap : Nat} (h : Trip B w a b c K I L) (hg : w.grownBy w' a.ownBlock) (hat : a.ownBlock = some g ∨ g = w.heap.size)
    (ho : OwnS B w' (.slice (some ⟨g, 0, none⟩) n cap) K') : Trip B w' (.slice (some ⟨g, 0, none⟩) n cap) b c K' I L :=
  ⟨ho, h.oi.kept hg h.ab.symm.of, h.ol.kept hg h.ac.symm.of, (Apart.row h.oi h.ab.symm hat (Nat.le_refl _)).symm, (Apart.row h.ol h.ac.symm hat (Nat.le_refl _)).symm, h.bc⟩
theorem Trip.appI {B : Nat} {w w' : World} {a b c : Value} {K I I' L} {g n cap : Nat} (h : Trip B w a b c K I L) (hg : w.grownBy w' b.ownBlock) (hat : b.ownBlock = some g ∨ g = w.heap.size)
    (ho : w'.ownsRow B 55 13 (.slice (some ⟨g, 0, none⟩) n cap) I'.length (I'.flatMap In.cells)) : Trip B w' a (.slice (some ⟨g, 0, none⟩) n cap) c K I' L :=
  ⟨⟨h.ok.1.kept hg h.ab.of, h.ok.2⟩, ho, h.ol.kept hg h.bc.symm.of, Apart.row h.ok.1 h.ab hat (Nat.le_refl _), h.ac, (Apart.row h.ol h.bc.symm hat (Nat.le_refl _)).symm⟩
theorem Trip.appL {B : Nat} {w w' : World} {a b c : Value} {K I L L'} {g n cap : Nat} (h : Trip B w a b c K I L) (hg : w.grownBy w' c.ownBlock) (hat : c.ownBlock = some g ∨ g = w.heap.size)
    (ho : w'.ownsRow B 57 9 (.slice (some ⟨g, 0, none⟩) n cap) L'.length (L'.flatMap Ob.cells)) : Trip B w' a b (.slice (some ⟨g, 0, none⟩) n cap) K I L' :=
  ⟨⟨h.ok.1.kept hg h.ac.of, h.ok.2⟩, h.oi.kept hg h.bc.of, ho, h.ab, Apart.row h.ok.1 h.ac hat (Nat.le_refl _), Apart.row h.oi h.bc hat (Nat.le_refl _)⟩

/-- append of one struct at a step of a region that draws. -/
theorem step_append_in {w : World} {ops : Array Oper} {o : Oper} {a : Act} {K : Act → World → Prop} {Q : Exit → Act → World → Prop} {E : Prop} (hgd : o.guard = none) (s x : Operand)
    (ho : o.op = .call { callee := .builtin .append, args := #[s, x], argTypes := #[38, 38] })
    (B : Nat) (v : Value) (xs : List In) (hs : a.eval s = v) (hown : w.ownsRow B 55 13 v xs.length (xs.flatMap In.cells)) (nb : Nat) (y : In) (hx : a.eval x = .slice (some ⟨nb, 0, none⟩) 1 1)
    {fr : Nat × Nat} (hy : w.heap[nb]? = some (.cells y.cells.toArray 55 fr)) (hn : xs.length + 1 ≤ 1000000) (hbase : B ≤ w.heap.size) (H : Nat) (hH : w.heap.size = H)
    (h : ∀ g cap w', w'.ownsRow B 55 13 (.slice (some ⟨g, 0, none⟩) (xs.length + 1) cap) (xs ++ [y]).length ((xs ++ [y]).flatMap In.cells) → w.grownBy w' v.ownBlock → (v.ownBlock = some g ∨ g = H) → g < w'.heap.size →
      K (a.put o.dst (.slice (some ⟨g, 0, none⟩) (xs.length + 1) cap)) w') :
    if Region.wanted o (yielded ops a.tmps) = true then Oper.wp Try.prog o a w K Q else E := by
  obtain ⟨i0, hi, hz0, hz1, hz2⟩ := info_parts ininfo
  refine step_append_lies w hgd s x 38 ho B 55 i0 _ 13 184 Try.underlying38 hi hz0 hz1 hz2 rfl (by omega) v xs.length (xs.flatMap In.cells) hs hown ⟨nb, 0, none⟩ 1 1 y.cells hx rfl ?_ (in_one y) (by omega) (by unfold maxLen; omega) (by omega) hbase H hH ?_
  · intro j u hj
    exact World.news_of_block hy j u (by simpa using hj)
  · intro g cap w' h1 h2 h3 h4
    refine h g cap w' ?_ h2 h3 h4
    rw [List.flatMap_append, List.length_append]
    simpa using h1

theorem rhas_any (l : List ByteArray) (x : ByteArray) (v : Value) (w : World) (hS : Sl StrR 1 w v l) :
    Calls Try.prog 19 #[v, .string x] w fun r w' => r = .returned (.bool (hasS l x)) ∧ w = w' := by
  have HS := Lib.hid hS
  obtain ⟨r, c, rfl, _⟩ := hS
  go_enter Try.func19, Try.ntmps19
  go_wp2_with fail
  refine (hasT_any l x _ _ HS.out).mono ?_
  rintro r w' ⟨rfl, rfl⟩
  go_wp2
  go_ret
  exact ⟨rfl, rfl⟩

def dd (ids : List ByteArray) : Nat → List ByteArray
  | 0 => []
  | k + 1 => if hasS (dd ids k) (ids.getD k ib0) then dd ids k else dd ids k ++ [ids.getD k ib0]
theorem dd_len (ids : List ByteArray) (k : Nat) : (dd ids k).length ≤ k := by
  induction k with
  | zero => simp [dd]
  | succ k ih => unfold dd; split
                 · omega
                 · simp; omega
theorem dd_nodup (ids : List ByteArray) (k : Nat) : (dd ids k).Nodup := by
  induction k with
  | zero => simp [dd]
  | succ k ih =>
    unfold dd; split
    · exact ih
    · rename_i h
      rw [List.nodup_append]
      refine ⟨ih, by simp, fun a ha b hb => ?_⟩
      simp at hb; subst hb
      intro e; subst e
      exact h (hasS_iff.2 ha)

/-- The state's box: five cells, of which the third is the slice of the instances. -/
structure BoxS (w : World) (SB : Nat) (vI : Value) : Prop where
  c0 : w.cell? ⟨SB, 0, none⟩ = some (.string ib0)
  c1 : w.cell? ⟨SB, 1, none⟩ = some (.int .i64 0)
  c2 : w.cell? ⟨SB, 2, none⟩ = some vI
  c3 : w.cell? ⟨SB, 3, none⟩ = some (.slice none 0 0)
  c4 : w.cell? ⟨SB, 4, none⟩ = some (.slice none 0 0)
  f2 : w.frozen? ⟨SB, 2, none⟩ = false
theorem BoxS.below {w w' : World} {SB : Nat} {vI : Value} (h : BoxS w SB vI) (hb : Below w.heap.size w w') : BoxS w' SB vI := ⟨bget hb h.c0, bget hb h.c1, bget hb h.c2, bget hb h.c3, bget hb h.c4, (hb.frozen (World.block_lt_of_cell? w _ h.c2)).trans h.f2⟩
theorem BoxS.grown {w w' : World} {SB : Nat} {vI : Value} {row : Option Nat} (h : BoxS w SB vI) (hg : w.grownBy w' row) (hr : ∀ g, row = some g → SB < g) : BoxS w' SB vI := by
  have hne : some SB ≠ row := fun e => by have := hr SB e.symm; omega
  exact ⟨hg.cell h.c0 hne, hg.cell h.c1 hne, hg.cell h.c2 hne, hg.cell h.c3 hne, hg.cell h.c4 hne, (hg.frozen_far _ (World.block_lt_of_cell? w _ h.c2) hne).trans h.f2⟩
theorem BoxS.store {w : World} {SB : Nat} {vI : Value} (h : BoxS w SB vI) (u : Value) : BoxS (w.setCell ⟨SB, 2, none⟩ u) SB u :=
  ⟨by rw [scell_ne (by omega)]; exact h.c0, by rw [scell_ne (by omega)]; exact h.c1, scell_same h.c2, by rw [scell_ne (by omega)]; exact h.c3, by rw [scell_ne (by omega)]; exact h.c4, by simpa using h.f2⟩
theorem cell_alloc_drew {w : World} {o : Obj} {a : Addr} {v : Value} (h : w.cell? a = some v) : ((w.alloc o).drew).cell? a = some v := by
  have : (w.alloc o).cell? a = some v := bget ((Below.refl _ _).alloc (Nat.le_refl _) _) h
  exact this
theorem frozen_alloc_drew {w : World} {o : Obj} {a : Addr} {v : Value} (h : w.cell? a = some v) (hf : w.frozen? a = false) : ((w.alloc o).drew).frozen? a = false := by
  have : (w.alloc o).frozen? a = false := ((show Below w.heap.size w (w.alloc o) from (Below.refl _ _).alloc (Nat.le_refl _) _).frozen (World.block_lt_of_cell? w _ h)).trans hf
  exact this
theorem lt_alloc_drew {w : World} {o : Obj} {n : Nat} (h : n < w.heap.size) : n < ((w.alloc o).drew).heap.size := by
  have : n < (w.alloc o).heap.size := by simp; omega
  exact this
theorem grownBy_alloc_drew (w : World) (o : Obj) (row : Option Nat) : w.grownBy ((w.alloc o).drew) row :=
  have h := World.grownBy_alloc w o row
  ⟨h.os, h.tape, h.output, h.size, h.block⟩
theorem Trip.draw {B : Nat} {w : World} {a b c : Value} {K I L} (h : Trip B w a b c K I L) (o : Obj) : Trip B ((w.alloc o).drew) a b c K I L := h.grown (grownBy_alloc_drew w o none)
theorem size_alloc_drew (w : World) (o : Obj) : ((w.alloc o).drew).heap.size = w.heap.size + 1 := by
  have : (w.alloc o).heap.size = w.heap.size + 1 := by simp
  exact this
end Go.Proofs.Ytdmcceekaopghaa
