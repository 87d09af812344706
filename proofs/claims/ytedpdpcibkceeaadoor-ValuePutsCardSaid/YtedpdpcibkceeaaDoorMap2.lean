import Derived.Test.YtedpdpcibkceeaaDoorCop2
import Derived.Deep.AppendLies
/-
  Own rows of keys and items that grow together in a local map value. Conditions: those ahead of each theorem.
-/
namespace Go.Proofs.YtedpdpcibkceeaaDoor
open Go.RowKit Go.Sort Go.Lib
open Go.Lib (hid)
set_option linter.unusedVariables false
set_option linter.unusedSimpArgs false

/-- append of one struct to an own slice, as a step of a region that draws its order. -/
theorem step_append_row {α : Type} (encf : α → List Value) {sz bytes : Nat} {T E : TypeId} {z : Value} {w : World} {ops : Array Oper} {o : Oper} {a : Act} {K : Act → World → Prop} {Q : Exit → Act → World → Prop} {F : Prop} (hsz : ∀ x, (encf x).length = sz) (hone : ∀ x, ∀ u ∈ encf x, u.oneCell' = true)
    (hT : Tryd.prog.underlying T = some (.slice E)) (hinfo : (Tryd.prog.info? E).map (fun i => (i.zero, i.size, i.bytes)) = some (some z, sz, bytes)) (hzs : z.cells.size = sz) (hpos : 0 < sz) (hbytes : bytes ≤ 1000)
    (hgd : o.guard = none) (s x : Operand) (ho : o.op = .call { callee := .builtin .append, args := #[s, x], argTypes := #[T, T] })
    (B : Nat) (v : Value) (xs : List α) (hs : a.eval s = v) (hown : w.ownsRow B E sz v xs.length (xs.flatMap encf)) (nb c : Nat) (y : α) (hx : a.eval x = .slice (some ⟨nb, 0, none⟩) 1 c)
    {fr : Nat × Nat} (hy : w.heap[nb]? = some (.cells (encf y).toArray E fr)) (hn : xs.length + 1 ≤ 1000000) (hbase : B ≤ w.heap.size) (H : Nat) (hH : w.heap.size = H)
    (h : ∀ g cap w', w'.ownsRow B E sz (.slice (some ⟨g, 0, none⟩) (xs.length + 1) cap) (xs ++ [y]).length ((xs ++ [y]).flatMap encf) → w.grownBy w' v.ownBlock → (v.ownBlock = some g ∨ g = H) → g < w'.heap.size → K (a.put o.dst (.slice (some ⟨g, 0, none⟩) (xs.length + 1) cap)) w') :
    if Region.wanted o (yielded ops a.tmps) = true then Oper.wp Tryd.prog o a w K Q else F := by
  obtain ⟨i0, hi, hz0, hz1, hz2⟩ := info_parts hinfo
  refine step_append_lies w hgd s x T ho B E i0 z sz bytes hT hi hz0 hz1 hz2 hzs hpos v xs.length (xs.flatMap encf) hs hown ⟨nb, 0, none⟩ 1 c (encf y) hx (by rw [hsz]; omega) ?_ (hone y) (by omega) (by unfold maxLen; omega) ?_ hbase H hH ?_
  · intro j u hj
    exact World.news_of_block hy j u (by simpa using hj)
  · have : (xs.length + 1) * bytes ≤ 1000000 * 1000 := Nat.mul_le_mul hn hbytes
    omega
  · intro g cap w' h1 h2 h3 h4
    refine h g cap w' ?_ h2 h3 h4
    rw [List.flatMap_append, List.length_append]
    simpa using h1

def encS (s : ByteArray) : List Value := [.string s]
theorem encS_len : ∀ x, (encS x).length = 1 := fun _ => rfl
theorem encS_one : ∀ x, ∀ u ∈ encS x, u.oneCell' = true := fun x u hu => by
  simp only [encS, List.mem_cons, List.mem_nil_iff, or_false] at hu
  subst hu; rfl
theorem encS_flat (ks : List ByteArray) : ks.flatMap encS = ks.map Value.string := by
  induction ks with
  | nil => rfl
  | cons k ks ih => rw [List.flatMap_cons, ih]; rfl
theorem strinfo : (Tryd.prog.info? 9).map (fun i => (i.zero, i.size, i.bytes)) = some (some (.string ByteArray.empty), 1, 16) := by kernel_rfl

theorem cell_alloc_drew {w : World} {o : Obj} {a : Addr} {v : Value} (h : w.cell? a = some v) : ((w.alloc o).drew).cell? a = some v := by
  have : (w.alloc o).cell? a = some v := bget ((Below.refl _ _).alloc (Nat.le_refl _) _) h
  exact this
theorem frozen_alloc_drew {w : World} {o : Obj} {a : Addr} {v : Value} (h : w.cell? a = some v) (hf : w.frozen? a = false) : ((w.alloc o).drew).frozen? a = false := by
  have : (w.alloc o).frozen? a = false := ((show Below w.heap.size w (w.alloc o) from (Below.refl _ _).alloc (Nat.le_refl _) _).frozen (World.block_lt_of_cell? w _ h)).trans hf
  exact this
theorem lt_alloc_drew {w : World} {o : Obj} {n : Nat} (h : n < w.heap.size) : n < ((w.alloc o).drew).heap.size := by
  have : n < (w.alloc o).heap.size := by simp; omega
  exact this
theorem size_alloc_drew (w : World) (o : Obj) : ((w.alloc o).drew).heap.size = w.heap.size + 1 := by
  have : (w.alloc o).heap.size = w.heap.size + 1 := by simp
  exact this
theorem below_alloc_drew (w : World) (o : Obj) : Below w.heap.size w ((w.alloc o).drew) := ((Below.refl _ _).alloc (Nat.le_refl _) _).drew
/-- A local map value (block B8) in the midst of its building: rows of its own for its items and its keys. -/
structure MapR (B8 : Nat) (ws wr : World) (vI vK : Value) (ys : List Cv) (is : List Val) (ks : List ByteArray) : Prop where
  bel : Below B8 ws wr
  lt : B8 < wr.heap.size
  c0 : wr.cell? ⟨B8, 0, none⟩ = some (.int .i64 5)
  c1 : wr.cell? ⟨B8, 1, none⟩ = some (.int .i64 0)
  c2 : wr.cell? ⟨B8, 2, none⟩ = some (.string ⟨#[]⟩)
  c3 : wr.cell? ⟨B8, 3, none⟩ = some vI
  c4 : wr.cell? ⟨B8, 4, none⟩ = some vK
  fz : ∀ o, wr.frozen? ⟨B8, o, none⟩ = false
  ok : OwnK (B8 + 1) wr vK ks
  oi : wr.ownsRow (B8 + 1) 26 5 vI ys.length (ys.flatMap Cv.enc)
  len : ys.length = is.length
  rs : ∃ K : Nat → Bool, (∀ b, K b = true → B8 + 1 ≤ b ∧ vI.ownBlock ≠ some b ∧ vK.ownBlock ≠ some b ∧ b < wr.heap.size) ∧ ∀ (i : Nat) (h : i < ys.length) (h' : i < is.length), VR (mask K wr) ys[i].enc is[i]
  ap : ∀ g, vI.ownBlock = some g → vK.ownBlock ≠ some g

theorem MapR.below {B8 : Nat} {ws wr w' : World} {vI vK : Value} {ys : List Cv} {is : List Val} {ks : List ByteArray} (h : MapR B8 ws wr vI vK ys is ks) (hb : Below wr.heap.size wr w') : MapR B8 ws w' vI vK ys is ks where
  bel := h.bel.trans (hb.mono (Nat.le_of_lt h.lt))
  lt := Nat.lt_of_lt_of_le h.lt hb.size
  c0 := bget hb h.c0
  c1 := bget hb h.c1
  c2 := bget hb h.c2
  c3 := bget hb h.c3
  c4 := bget hb h.c4
  fz := fun o => (hb.frozen (p := ⟨B8, o, none⟩) h.lt).trans (h.fz o)
  ok := own_keep h.ok fun g hg => hb.block g (own_lt h.ok hg).2
  oi := own_keep h.oi fun g hg => hb.block g (own_lt h.oi hg).2
  len := h.len
  rs := by
    obtain ⟨K, hK, hv⟩ := h.rs
    refine ⟨K, fun b hb' => ?_, fun i h1 h2 => vr_stays (stays_below hb) (hv i h1 h2)⟩
    obtain ⟨q1, q2, q3, q4⟩ := hK b hb'
    exact ⟨q1, q2, q3, Nat.lt_of_lt_of_le q4 hb.size⟩
  ap := h.ap

theorem grown_cell {W W' : World} {row : Option Nat} {b o : Nat} {v : Value} (hg : W.grownBy W' row) (hb : b < W.heap.size) (hr : ∀ g, row = some g → g ≠ b) (h : W.cell? ⟨b, o, none⟩ = some v) : W'.cell? ⟨b, o, none⟩ = some v :=
  (World.cell?_of_block (w := W) (hg.block b hb (fun e => hr b e.symm rfl))).trans h
theorem grown_frozen {W W' : World} {row : Option Nat} {b o : Nat} (hg : W.grownBy W' row) (hb : b < W.heap.size) (hr : ∀ g, row = some g → g ≠ b) : W'.frozen? ⟨b, o, none⟩ = W.frozen? ⟨b, o, none⟩ :=
  World.frozen?_of_block (w := W) (hg.block b hb (fun e => hr b e.symm rfl))

/-- A key more: the row has grown, the field is set. -/
theorem MapR.pushK {B8 : Nat} {ws wr w' : World} {vI vK : Value} {ys : List Cv} {is : List Val} {ks : List ByteArray} {k : ByteArray} {g n cap : Nat} (h : MapR B8 ws wr vI vK ys is ks) (hg : wr.grownBy w' vK.ownBlock)
    (ho : OwnK (B8 + 1) w' (.slice (some ⟨g, 0, none⟩) n cap) (ks ++ [k])) (hat : vK.ownBlock = some g ∨ g = wr.heap.size) :
    MapR B8 ws (w'.setCell ⟨B8, 4, none⟩ (.slice (some ⟨g, 0, none⟩) n cap)) vI (.slice (some ⟨g, 0, none⟩) n cap) ys is (ks ++ [k]) := by
  have hl := h.lt
  have hs := hg.size
  have hne : ∀ q, vK.ownBlock = some q → q ≠ B8 := fun q hq => by have := (own_lt h.ok hq).1; omega
  have hgB : B8 + 1 ≤ g := by
    rcases hat with e | e
    · exact (own_lt h.ok e).1
    · omega
  have hb8 : ∀ b, b ≠ B8 → (w'.setCell ⟨B8, 4, none⟩ (.slice (some ⟨g, 0, none⟩) n cap)).heap[b]? = w'.heap[b]? := fun b hb => Below.heap_setCell _ _ _ _ hb
  have hapI : ∀ q, vI.ownBlock = some q → q ≠ g ∧ q ≠ B8 ∧ vK.ownBlock ≠ some q ∧ q < wr.heap.size := fun q hq => by
    have h1 := own_lt h.oi hq
    have h2 := h.ap q hq
    refine ⟨fun e => ?_, by omega, h2, h1.2⟩
    subst e
    rcases hat with e | e
    · exact h2 e
    · omega
  refine ⟨?_, by simp [World.setCell]; omega, ?_, ?_, ?_, ?_, ?_, ?_, ?_, ?_, h.len, ?_, ?_⟩
  · refine (h.bel.trans ?_).setCell (Nat.le_refl _) _
    exact ⟨hg.os, hg.tape, hg.output, hg.size, fun b hb => hg.block b (by omega) (fun e => by have := (own_lt h.ok e.symm).1; omega)⟩
  · rw [scell_ne (by omega)]; exact grown_cell hg hl hne h.c0
  · rw [scell_ne (by omega)]; exact grown_cell hg hl hne h.c1
  · rw [scell_ne (by omega)]; exact grown_cell hg hl hne h.c2
  · rw [scell_ne (by omega)]; exact grown_cell hg hl hne h.c3
  · exact scell_same (grown_cell hg hl hne h.c4)
  · intro o
    rw [World.frozen?_setCell, grown_frozen hg hl hne]; exact h.fz o
  · exact own_keep ho fun q hq => hb8 q (by have := (own_lt ho hq).1; omega)
  · exact own_keep h.oi fun q hq => by
      obtain ⟨_, q2, q3, q4⟩ := hapI q hq
      rw [hb8 q q2, hg.block q q4 (fun e => q3 e.symm)]
  · obtain ⟨K, hK, hv⟩ := h.rs
    refine ⟨fun b => K b && decide (b ≠ g), fun b hb => ?_, fun i h1 h2 => vr_stays (stays_keep fun b hb hlt => ?_) (hv i h1 h2)⟩
    · rw [Bool.and_eq_true, decide_eq_true_eq] at hb
      obtain ⟨q1, q2, q3, q4⟩ := hK b hb.1
      refine ⟨q1, q2, fun e => hb.2 (by simpa [Value.ownBlock] using e.symm), by simp [World.setCell]; omega⟩
    · obtain ⟨q1, q2, q3, q4⟩ := hK b hb
      refine ⟨?_, ?_⟩
      · rw [Bool.and_eq_true, decide_eq_true_eq]
        refine ⟨hb, fun e => ?_⟩
        subst e
        rcases hat with e | e
        · exact q3 e
        · omega
      · rw [hb8 b (by omega), hg.block b q4 (fun e => q3 e.symm)]
  · intro q hq e
    have e : g = q := by simpa [Value.ownBlock] using e
    exact (hapI q hq).1 e.symm

/-- An item more. -/
theorem MapR.pushI {B8 : Nat} {ws w1 w2 w3 w4 : World} {vI vK : Value} {ys : List Cv} {is : List Val} {ks : List ByteArray} {x : Val} {r : Option Addr} {c : Nat} {rk : Option Addr} {ck g n cap : Nat} (h : MapR B8 ws w1 vI vK ys is ks) (h2 : Below w1.heap.size w1 w2)
    (hx : VK (fromB w1.heap.size) w2 r c rk ck x) (h3 : Below w2.heap.size w2 w3) (hg : w3.grownBy w4 vI.ownBlock)
    (ho : w4.ownsRow (B8 + 1) 26 5 (.slice (some ⟨g, 0, none⟩) n cap) (ys ++ [Cv.of x r c rk ck]).length ((ys ++ [Cv.of x r c rk ck]).flatMap Cv.enc)) (hat : vI.ownBlock = some g ∨ g = w3.heap.size) :
    MapR B8 ws (w4.setCell ⟨B8, 3, none⟩ (.slice (some ⟨g, 0, none⟩) n cap)) (.slice (some ⟨g, 0, none⟩) n cap) vK (ys ++ [Cv.of x r c rk ck]) (is ++ [x]) ks := by
  have s2 := h2.size
  have s3 := h3.size
  have hK1 : ∀ q, vK.ownBlock = some q → q < w1.heap.size := fun q hq => (own_lt h.ok hq).2
  have hI1 : ∀ q, vI.ownBlock = some q → q < w1.heap.size := fun q hq => (own_lt h.oi hq).2
  have hl1 := h.lt
  have h := (h.below h2).below h3
  have hl := h.lt
  have hs := hg.size
  have hne : ∀ q, vI.ownBlock = some q → q ≠ B8 := fun q hq => by have := (own_lt h.oi hq).1; omega
  have hgB : B8 + 1 ≤ g := by
    rcases hat with e | e
    · exact (own_lt h.oi e).1
    · omega
  have hb8 : ∀ b, b ≠ B8 → (w4.setCell ⟨B8, 3, none⟩ (.slice (some ⟨g, 0, none⟩) n cap)).heap[b]? = w4.heap[b]? := fun b hb => Below.heap_setCell _ _ _ _ hb
  have hapK : ∀ q, vK.ownBlock = some q → q ≠ g ∧ q ≠ B8 ∧ vI.ownBlock ≠ some q ∧ q < w3.heap.size := fun q hq => by
    have h1 := own_lt h.ok hq
    have h2 : vI.ownBlock ≠ some q := fun e => h.ap q e hq
    refine ⟨fun e => ?_, by omega, h2, h1.2⟩
    subst e
    rcases hat with e | e
    · exact h2 e
    · have := hK1 q hq; omega
  refine ⟨?_, by simp [World.setCell]; omega, ?_, ?_, ?_, ?_, ?_, ?_, ?_, ?_, by simp [h.len], ?_, ?_⟩
  · refine (h.bel.trans ?_).setCell (Nat.le_refl _) _
    exact ⟨hg.os, hg.tape, hg.output, hg.size, fun b hb => hg.block b (by omega) (fun e => by have := (own_lt h.oi e.symm).1; omega)⟩
  · rw [scell_ne (by omega)]; exact grown_cell hg hl hne h.c0
  · rw [scell_ne (by omega)]; exact grown_cell hg hl hne h.c1
  · rw [scell_ne (by omega)]; exact grown_cell hg hl hne h.c2
  · exact scell_same (grown_cell hg hl hne h.c3)
  · rw [scell_ne (by omega)]; exact grown_cell hg hl hne h.c4
  · intro o
    rw [World.frozen?_setCell, grown_frozen hg hl hne]; exact h.fz o
  · exact own_keep h.ok fun q hq => by
      obtain ⟨_, q2, q3, q4⟩ := hapK q hq
      rw [hb8 q q2, hg.block q q4 (fun e => q3 e.symm)]
  · exact own_keep ho fun q hq => hb8 q (by have := (own_lt ho hq).1; omega)
  · obtain ⟨K, hK, hv⟩ := h.rs
    refine ⟨fun b => (K b && decide (b ≠ g)) || (decide (w1.heap.size ≤ b) && decide (b < w2.heap.size)), fun b hb => ?_, fun i h1 h2 => ?_⟩
    · rw [Bool.or_eq_true, Bool.and_eq_true, Bool.and_eq_true, decide_eq_true_eq, decide_eq_true_eq, decide_eq_true_eq] at hb
      rcases hb with hb | hb
      · obtain ⟨q1, q2, q3, q4⟩ := hK b hb.1
        refine ⟨q1, fun e => hb.2 (by simpa [Value.ownBlock] using e.symm), q3, by simp [World.setCell]; omega⟩
      · refine ⟨by omega, fun e => ?_, fun e => by have := hK1 b e; omega, by simp [World.setCell]; omega⟩
        have e : g = b := by simpa [Value.ownBlock] using e
        subst e
        rcases hat with e | e
        · have := hI1 _ e; omega
        · omega
    · by_cases hlt : i < ys.length
      · have hlt' : i < is.length := by rw [← h.len]; exact hlt
        rw [List.getElem_append_left hlt, List.getElem_append_left hlt']
        refine vr_stays (stays_keep fun b hb hlt => ?_) (hv i hlt hlt')
        obtain ⟨q1, q2, q3, q4⟩ := hK b hb
        refine ⟨?_, ?_⟩
        · rw [Bool.or_eq_true, Bool.and_eq_true, decide_eq_true_eq]
          refine Or.inl ⟨hb, fun e => ?_⟩
          subst e
          rcases hat with e | e
          · exact q2 e
          · omega
        · rw [hb8 b (by omega), hg.block b q4 (fun e => q2 e.symm)]
      · have hie : i = ys.length := by simp at h1; omega
        have hie' : i = is.length := by rw [← h.len]; exact hie
        have e1 : (ys ++ [Cv.of x r c rk ck])[i] = Cv.of x r c rk ck := by rw [List.getElem_append_right (by omega)]; simp [hie]
        have e2 : (is ++ [x])[i] = x := by rw [List.getElem_append_right (by omega)]; simp [hie']
        rw [e1, e2]
        refine vr_stays (stays_keep fun b hk hb => ?_) hx.enc
        simp only [fromB, decide_eq_true_eq] at hk
        refine ⟨?_, ?_⟩
        · rw [Bool.or_eq_true, Bool.and_eq_true, Bool.and_eq_true, decide_eq_true_eq, decide_eq_true_eq, decide_eq_true_eq]
          exact Or.inr ⟨hk, hb⟩
        · rw [hb8 b (by omega), hg.block b (by omega) (fun e => by have := hI1 b e.symm; omega), h3.block b hb]
  · intro q hq e
    have hq : g = q := by simpa [Value.ownBlock] using hq
    exact (hapK q e).1 hq.symm

theorem MapR.vk {B8 : Nat} {ws wr : World} {vI vK : Value} {ys : List Cv} {is : List Val} {ks : List ByteArray} (h : MapR B8 ws wr vI vK ys is ks) (hs : ∀ k ∈ ks, k.size ≤ maxLen) (hkl : ks.length ≤ 10000000000000) (hil : is.length ≤ 10000000000000) :
    ∃ r c rk ck, vI = .slice r is.length c ∧ vK = .slice rk ks.length ck ∧ VK (fromB (B8 + 1)) wr r c rk ck (.mk 5 0 ⟨#[]⟩ is ks) := by
  obtain ⟨K, hK, hv⟩ := h.rs
  have hI := sl_of_rows h.len (own_mask (K := fromB (B8 + 1)) h.oi fun g hg => decide_eq_true (own_lt h.oi hg).1) hv (stays_keep fun b hb _ => ⟨decide_eq_true (hK b hb).1, rfl⟩)
  have hKs := ownK_sl (B := B8 + 1) (own_mask (K := fromB (B8 + 1)) h.ok fun g hg => decide_eq_true (own_lt h.ok hg).1) hs
  obtain ⟨rk, ck, rfl, _⟩ := own_form h.ok
  obtain ⟨r, c, rfl, _⟩ := own_form h.oi
  rw [h.len] at hI
  exact ⟨r, c, rk, ck, by rw [h.len], rfl, VR.make (x := .mk 5 0 ⟨#[]⟩ is ks) hI hKs (by unfold i64B; simp [Val.kind]) (by unfold i64B; simp [Val.num]) (Nat.zero_le _) hkl hil⟩
theorem MapR.start {B8 : Nat} {ws wr : World} (hb : Below B8 ws wr) (hlt : B8 < wr.heap.size) (c0 : wr.cell? ⟨B8, 0, none⟩ = some (.int .i64 5)) (c1 : wr.cell? ⟨B8, 1, none⟩ = some (.int .i64 0)) (c2 : wr.cell? ⟨B8, 2, none⟩ = some (.string ⟨#[]⟩)) (c3 : wr.cell? ⟨B8, 3, none⟩ = some (.slice none 0 0)) (c4 : wr.cell? ⟨B8, 4, none⟩ = some (.slice none 0 0))
    (fz : ∀ o, wr.frozen? ⟨B8, o, none⟩ = false) : MapR B8 ws wr (.slice none 0 0) (.slice none 0 0) [] [] [] :=
  ⟨hb, hlt, c0, c1, c2, c3, c4, fz, ⟨by simp, .inl ⟨rfl, rfl⟩⟩, ⟨by simp, .inl ⟨rfl, rfl⟩⟩, rfl, ⟨fun _ => false, ⟨fun _ h => (by cases h), fun i h => absurd h (Nat.not_lt_zero i)⟩⟩, fun g h => by cases h⟩
end Go.Proofs.YtedpdpcibkceeaaDoor
