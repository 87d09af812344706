import Derived.Test.YtpnogmicfomofaaGreatDoorMem
import Derived.Maps.Ext
import Derived.Deep.AppendLies
import Derived.OwnWalk
import Derived.Laws.AppendOwnNone
import Derived.ArgAppend
/-
  Small facts: elements of slices of strings, unequal strings. Conditions: those ahead of each theorem.
-/
namespace Go.Proofs.YtpnogmicfomofaaGreatDoor
open Go.RowKit Go.Sort Go.Lib Go.Maps
set_option linter.unusedVariables false
set_option linter.unusedSimpArgs false

theorem sl_len {α : Type} {R : World → List Value → α → Prop} {sz : Nat} {w : World} {r : Option Addr} {n c : Nat} {xs : List α} (h : Sl R sz w (.slice r n c) xs) : n = xs.length ∧ n ≤ c ∧ c ≤ 9223372036854775807 := by
  obtain ⟨r', c', e, h1, h2, _⟩ := h
  simp at e
  obtain ⟨rfl, rfl, rfl⟩ := e
  unfold maxLen at h2
  exact ⟨rfl, h1, by omega⟩
theorem str_at {w : World} {r : Option Addr} {n c : Nat} {ks : List ByteArray} (h : Sl StrR 1 w (.slice r n c) ks) (i : Nat) (hi : i < ks.length) :
    ∃ b off, r = some ⟨b, off, none⟩ ∧ b < w.heap.size ∧ w.cell? ⟨b, off + i, none⟩ = some (.string ks[i]) ∧ (ks[i]).size ≤ maxLen := by
  obtain ⟨r', c', e, h1, h2, he⟩ := h
  simp at e
  obtain ⟨rfl, rfl, rfl⟩ := e
  obtain ⟨b, off, cs, hr, _, hc, hR, hs⟩ := he i hi
  have g0 := hc 0 _ hR
  simp only [Nat.add_zero, Nat.mul_one] at g0
  exact ⟨b, off, hr, World.block_lt_of_cell? w _ g0, g0, hs⟩
theorem ba_ext {a b : ByteArray} (h : a.data.toList = b.data.toList) : a = b := by
  cases a; cases b; simp at h; subst h; rfl
theorem str_ne {x y : ByteArray} (h : x ≠ y) : (x.toList == y.toList) = false := by
  rw [beq_eq_false_iff_ne]; intro e; apply h; rw [ByteArray.toList_eq, ByteArray.toList_eq] at e; exact ba_ext e
theorem str_ne' {x y : ByteArray} (h : x ≠ y) : (x.toList != y.toList) = true := by rw [bne, str_ne h]; rfl

theorem eq_bytes (a b : ByteArray) : (a.toList == b.toList) = decide (a = b) := by
  by_cases h : a = b
  · subst h; simp
  · rw [str_ne h, decide_eq_false h]
theorem bel_drewN {B : Nat} {a w : World} (h : Below B a w) (n : Nat) : Below B a (w.drewN n) := h.trans ⟨rfl, rfl, rfl, Nat.le_refl _, fun _ _ => rfl⟩
end Go.Proofs.YtpnogmicfomofaaGreatDoor
/-
  Own rows of strings and edges: as lists; what an append does. Conditions: those ahead of each theorem.
-/
namespace Go.Proofs.YtpnogmicfomofaaGreatDoor
open Go.RowKit Go.Sort Go.Lib
open Go.Lib (hid)
set_option linter.unusedVariables false
set_option linter.unusedSimpArgs false

theorem flat_get {α : Type} (enc : α → List Value) (sz : Nat) (hsz : ∀ x, (enc x).length = sz) : ∀ (xs : List α) (i : Nat) (hi : i < xs.length) (j : Nat), j < sz → (xs.flatMap enc)[i * sz + j]? = (enc (xs[i]))[j]? := by
  intro xs
  induction xs with
  | nil => intro i hi; exact absurd hi (by simp)
  | cons x xs ih =>
    intro i hi j hj
    rw [List.flatMap_cons]
    cases i with
    | zero => rw [List.getElem?_append_left (by rw [hsz]; omega)]; simp
    | succ i =>
      have e : (i + 1) * sz + j = (enc x).length + (i * sz + j) := by rw [hsz, Nat.add_mul]; omega
      rw [e, List.getElem?_append_right (by omega), Nat.add_sub_cancel_left]
      simp only [List.getElem_cons_succ]
      exact ih i (by simpa using hi) j hj

theorem flat_len {α : Type} (enc : α → List Value) (sz : Nat) (hsz : ∀ x, (enc x).length = sz) (xs : List α) : (xs.flatMap enc).length = xs.length * sz := by
  induction xs with
  | nil => simp
  | cons x xs ih => rw [List.flatMap_cons, List.length_append, hsz, ih, List.length_cons, Nat.add_mul]; omega

theorem sl_of_own {α : Type} (enc : α → List Value) {sz B : Nat} {e : TypeId} (hsz : ∀ x, (enc x).length = sz) {w : World} {v : Value} {xs : List α} (h : w.ownsRow B e sz v xs.length (xs.flatMap enc)) : Sl (fun _ cs (x : α) => cs = enc x) sz w v xs := by
  rcases h.2 with ⟨rfl, h0⟩ | ⟨g, cap, cur, rfl, hb, hg, hn, hc, hs, ht⟩
  · have : xs = [] := List.eq_nil_of_length_eq_zero h0
    subst this
    exact ⟨none, 0, rfl, by simp, by simp, fun i hi => absurd hi (by simp)⟩
  · refine ⟨some ⟨g, 0, none⟩, cap, rfl, hn, hc, fun i hi => ⟨g, 0, enc xs[i], rfl, hsz _, fun j u hj => ?_, rfl⟩⟩
    have hjs : j < sz := by have := (List.getElem?_eq_some_iff.1 hj).1; rwa [hsz] at this
    have h1 := flat_get enc sz hsz xs i hi j hjs
    have hlt : i * sz + j < xs.length * sz := by
      have : (i + 1) * sz ≤ xs.length * sz := Nat.mul_le_mul_right _ hi
      rw [Nat.add_mul, Nat.one_mul] at this; omega
    rw [← ht, List.getElem?_take, if_pos hlt, Array.getElem?_toList] at h1
    unfold World.cell?
    simp only [hg, Nat.zero_add]
    simp only [Option.isSome_none, Bool.false_eq_true, if_false]
    rw [h1, hj]

/-- append of k structs to an own slice, from a block that is known whole. -/
theorem wpList_append_rows {α : Type} (enc : α → List Value) {sz bytes : Nat} {T E : TypeId} {z : Value} {w : World} {ops : Array Oper} {rest : List Oper} {o : Oper} {a : Act} {Q : Exit → Act → World → Prop} (hsz : ∀ x, (enc x).length = sz) (hone : ∀ x, ∀ u ∈ enc x, u.oneCell' = true)
    (hT : Tryz.prog.underlying T = some (.slice E)) (hinfo : (Tryz.prog.info? E).map (fun i => (i.zero, i.size, i.bytes)) = some (some z, sz, bytes)) (hzs : z.cells.size = sz) (hpos : 0 < sz) (hbytes : bytes ≤ 1000)
    (hgd : o.guard = none) (s x : Operand) (ho : o.op = .call { callee := .builtin .append, args := #[s, x], argTypes := #[T, T] })
    (B : Nat) (v : Value) (xs : List α) (hs : a.eval s = v) (hown : w.ownsRow B E sz v xs.length (xs.flatMap enc)) (nb m c : Nat) (ys : List α) (hm : ys.length = m) (hm0 : 0 < m) (hx : a.eval x = .slice (some ⟨nb, 0, none⟩) m c)
    {fr : Nat × Nat} (hy : w.heap[nb]? = some (.cells (ys.flatMap enc).toArray E fr)) (hn : xs.length + m ≤ 1000000) (hbase : B ≤ w.heap.size)
    (h : ∀ g cap w', w'.ownsRow B E sz (.slice (some ⟨g, 0, none⟩) (xs.length + m) cap) (xs ++ ys).length ((xs ++ ys).flatMap enc) → w.grownBy w' v.ownBlock → (v.ownBlock = some g ∨ g = w.heap.size) → g < w'.heap.size →
      wpList Tryz.prog ops Q rest (a.put o.dst (.slice (some ⟨g, 0, none⟩) (xs.length + m) cap)) w') : wpList Tryz.prog ops Q (o :: rest) a w := by
  obtain ⟨i0, hi, hz0, hz1, hz2⟩ := info_parts hinfo
  refine wpList_append_lies w hgd s x T ho B E i0 z sz bytes hT hi hz0 hz1 hz2 hzs hpos v xs.length (xs.flatMap enc) hs hown ⟨nb, 0, none⟩ m c (ys.flatMap enc) hx (by rw [flat_len enc sz hsz, hm]) ?_ ?_ hm0 (by unfold maxLen; omega) ?_ hbase _ rfl ?_
  · intro j u hj
    exact World.news_of_block hy j u (by simpa using hj)
  · intro u hu
    obtain ⟨y, _, hy2⟩ := List.mem_flatMap.1 hu
    exact hone y u hy2
  · have : (xs.length + m) * bytes ≤ 1000000 * 1000 := Nat.mul_le_mul hn hbytes
    omega
  · intro g cap w' h1 h2 h3 h4
    refine h g cap w' ?_ h2 h3 h4
    rw [List.flatMap_append, List.length_append, hm]
    exact h1

/-- append of one struct to an own slice, as a step of a region that draws its order. -/
theorem step_append_row {α : Type} (encf : α → List Value) {sz bytes : Nat} {T E : TypeId} {z : Value} {w : World} {ops : Array Oper} {o : Oper} {a : Act} {K : Act → World → Prop} {Q : Exit → Act → World → Prop} {F : Prop} (hsz : ∀ x, (encf x).length = sz) (hone : ∀ x, ∀ u ∈ encf x, u.oneCell' = true)
    (hT : Tryz.prog.underlying T = some (.slice E)) (hinfo : (Tryz.prog.info? E).map (fun i => (i.zero, i.size, i.bytes)) = some (some z, sz, bytes)) (hzs : z.cells.size = sz) (hpos : 0 < sz) (hbytes : bytes ≤ 1000)
    (hgd : o.guard = none) (s x : Operand) (ho : o.op = .call { callee := .builtin .append, args := #[s, x], argTypes := #[T, T] })
    (B : Nat) (v : Value) (xs : List α) (hs : a.eval s = v) (hown : w.ownsRow B E sz v xs.length (xs.flatMap encf)) (nb c : Nat) (y : α) (hx : a.eval x = .slice (some ⟨nb, 0, none⟩) 1 c)
    {fr : Nat × Nat} (hy : w.heap[nb]? = some (.cells (encf y).toArray E fr)) (hn : xs.length + 1 ≤ 1000000) (hbase : B ≤ w.heap.size) (H : Nat) (hH : w.heap.size = H)
    (h : ∀ g cap w', w'.ownsRow B E sz (.slice (some ⟨g, 0, none⟩) (xs.length + 1) cap) (xs ++ [y]).length ((xs ++ [y]).flatMap encf) → w.grownBy w' v.ownBlock → (v.ownBlock = some g ∨ g = H) → g < w'.heap.size → K (a.put o.dst (.slice (some ⟨g, 0, none⟩) (xs.length + 1) cap)) w') :
    if Region.wanted o (yielded ops a.tmps) = true then Oper.wp Tryz.prog o a w K Q else F := by
  obtain ⟨i0, hi, hz0, hz1, hz2⟩ := info_parts hinfo
  refine step_append_lies w hgd s x T ho B E i0 z sz bytes hT hi hz0 hz1 hz2 hzs hpos v xs.length (xs.flatMap encf) hs hown ⟨nb, 0, none⟩ 1 c (encf y) hx (by rw [hsz]; omega) ?_ (hone y) (by omega) (by unfold maxLen; omega) ?_ hbase H hH ?_
  · intro j u hj
    exact World.news_of_block hy j u (by simpa using hj)
  · have : (xs.length + 1) * bytes ≤ 1000000 * 1000 := Nat.mul_le_mul hn hbytes
    omega
  · intro g cap w' h1 h2 h3 h4
    refine h g cap w' ?_ h2 h3 h4
    rw [List.flatMap_append, List.length_append]
    simpa using h1

def encS (s : ByteArray) : List Value := [.string s]
theorem encS_len : ∀ x, (encS x).length = 1 := fun _ => rfl
theorem encS_one : ∀ x, ∀ u ∈ encS x, u.oneCell' = true := fun x u hu => by
  simp only [encS, List.mem_cons, List.mem_nil_iff, or_false] at hu
  subst hu; rfl
theorem encS_flat (ks : List ByteArray) : ks.flatMap encS = ks.map Value.string := by
  induction ks with
  | nil => rfl
  | cons k ks ih => rw [List.flatMap_cons, ih]; rfl
theorem strinfo : (Tryz.prog.info? 9).map (fun i => (i.zero, i.size, i.bytes)) = some (some (.string ByteArray.empty), 1, 16) := by kernel_rfl

theorem cell_alloc_drew {w : World} {o : Obj} {a : Addr} {v : Value} (h : w.cell? a = some v) : ((w.alloc o).drew).cell? a = some v := by
  have : (w.alloc o).cell? a = some v := bget ((Below.refl _ _).alloc (Nat.le_refl _) _) h
  exact this
theorem frozen_alloc_drew {w : World} {o : Obj} {a : Addr} {v : Value} (h : w.cell? a = some v) (hf : w.frozen? a = false) : ((w.alloc o).drew).frozen? a = false := by
  have : (w.alloc o).frozen? a = false := ((show Below w.heap.size w (w.alloc o) from (Below.refl _ _).alloc (Nat.le_refl _) _).frozen (World.block_lt_of_cell? w _ h)).trans hf
  exact this
theorem lt_alloc_drew {w : World} {o : Obj} {n : Nat} (h : n < w.heap.size) : n < ((w.alloc o).drew).heap.size := by
  have : n < (w.alloc o).heap.size := by simp; omega
  exact this
theorem size_alloc_drew (w : World) (o : Obj) : ((w.alloc o).drew).heap.size = w.heap.size + 1 := by
  have : (w.alloc o).heap.size = w.heap.size + 1 := by simp
  exact this
theorem below_alloc_drew (w : World) (o : Obj) : Below w.heap.size w ((w.alloc o).drew) := ((Below.refl _ _).alloc (Nat.le_refl _) _).drew
theorem grown_cell {W W' : World} {row : Option Nat} {b o : Nat} {v : Value} (hg : W.grownBy W' row) (hb : b < W.heap.size) (hr : ∀ g, row = some g → g ≠ b) (h : W.cell? ⟨b, o, none⟩ = some v) : W'.cell? ⟨b, o, none⟩ = some v :=
  (World.cell?_of_block (w := W) (hg.block b hb (fun e => hr b e.symm rfl))).trans h
theorem grown_frozen {W W' : World} {row : Option Nat} {b o : Nat} (hg : W.grownBy W' row) (hb : b < W.heap.size) (hr : ∀ g, row = some g → g ≠ b) : W'.frozen? ⟨b, o, none⟩ = W.frozen? ⟨b, o, none⟩ :=
  World.frozen?_of_block (w := W) (hg.block b hb (fun e => hr b e.symm rfl))

theorem own_form {w : World} {B sz n : Nat} {e : TypeId} {v : Value} {xs : List Value} (h : w.ownsRow B e sz v n xs) : ∃ r c, v = .slice r n c ∧ n ≤ c ∧ c ≤ maxLen := by
  rcases h.2 with ⟨rfl, rfl⟩ | ⟨g, cap, cur, rfl, _, _, h1, h2, _⟩
  · exact ⟨none, 0, rfl, by simp, by simp⟩
  · exact ⟨_, cap, rfl, h1, h2⟩
theorem strs_le {w : World} {v : Value} {ks : List ByteArray} (h : Sl StrR 1 w v ks) : ∀ k ∈ ks, k.size ≤ maxLen := fun k hk => by
  obtain ⟨i, hi, rfl⟩ := List.mem_iff_getElem.1 hk
  obtain ⟨_, _, _, _, _, he⟩ := h
  obtain ⟨_, _, _, _, _, _, _, hs⟩ := he i hi
  exact hs
theorem cell_at {w : World} {cs : Array Value} {T b o : Nat} {v : Value} (hb : b = w.heap.size) (hv : cs[o]? = some v) : (w.alloc (.cells cs T)).cell? ⟨b, o, none⟩ = some v := by
  subst hb
  unfold World.cell?
  rw [(MapKept.heap_alloc w _).1]
  simpa using hv



theorem lt_of_block {w : World} {b : Nat} {o : Obj} (h : w.heap[b]? = some o) : b < w.heap.size := (Array.getElem?_eq_some_iff.1 h).1

/-- Own slices: of strings, of edges. -/
def OwnS (B : Nat) (w : World) (v : Value) (xs : List ByteArray) : Prop := w.ownsRow B 9 1 v xs.length (xs.flatMap encS) ∧ ∀ x ∈ xs, x.size ≤ maxLen
def Apart (a b : Value) : Prop := ∀ g, a.ownBlock = some g → b.ownBlock ≠ some g
theorem Apart.symm {a b : Value} (h : Apart a b) : Apart b a := fun g h1 h2 => h g h2 h1
theorem Apart.nil (a : Value) : Apart a (.slice none 0 0) := fun g _ h => by simp [Value.ownBlock] at h
theorem Apart.nil' (a : Value) : Apart (.slice none 0 0) a := fun g h => by simp [Value.ownBlock] at h
theorem ownS_nil (B : Nat) (w : World) : OwnS B w (.slice none 0 0) [] := ⟨World.ownsRow_nil w B _ 1, by simp⟩
theorem kept_off {B : Nat} {w w' : World} {v : Value} {e : TypeId} {sz n : Nat} {row : Option Nat} {xs : List Value} (h : w.ownsRow B e sz v n xs) (hg : w.grownBy w' row) (hr : ∀ g, v.ownBlock = some g → row ≠ some g) : w'.ownsRow B e sz v n xs :=
  h.kept hg (by
    cases hv : v.ownBlock with
    | none => exact .inl rfl
    | some g => right; exact fun e => hr g hv e.symm)
theorem OwnS.kept {B : Nat} {w w' : World} {v : Value} {row : Option Nat} {xs : List ByteArray} (h : OwnS B w v xs) (hg : w.grownBy w' row) (hr : ∀ g, v.ownBlock = some g → row ≠ some g) : OwnS B w' v xs := ⟨kept_off h.1 hg hr, h.2⟩
theorem grown_below {w w' : World} (hb : Below w.heap.size w w') : w.grownBy w' none := ⟨hb.os, hb.tape, hb.output, hb.size, fun k hk _ => hb.block k hk⟩
theorem OwnS.below {B : Nat} {w w' : World} {v : Value} {xs : List ByteArray} (h : OwnS B w v xs) (hb : Below w.heap.size w w') : OwnS B w' v xs := h.kept (grown_below hb) (fun _ _ h => by cases h)
theorem OwnS.lt {B : Nat} {w : World} {v : Value} {xs : List ByteArray} (h : OwnS B w v xs) : ∀ g, v.ownBlock = some g → B ≤ g ∧ g < w.heap.size := h.1.lt
theorem OwnS.form {B : Nat} {w : World} {v : Value} {xs : List ByteArray} (h : OwnS B w v xs) : ∃ r c, v = .slice r xs.length c ∧ xs.length ≤ c ∧ c ≤ maxLen := own_form h.1
theorem OwnS.sl {B : Nat} {w : World} {v : Value} {xs : List ByteArray} (h : OwnS B w v xs) : Sl StrR 1 w v xs := by
  obtain ⟨r, c, e, h1, h2, he⟩ := sl_of_own encS encS_len h.1
  refine ⟨r, c, e, h1, h2, fun i hi => ?_⟩
  obtain ⟨b, off, cs, hr, hs, hc, hx⟩ := he i hi
  exact ⟨b, off, cs, hr, hs, hc, by rw [hx]; rfl, h.2 _ (List.getElem_mem hi)⟩
theorem Apart.app {B : Nat} {w : World} {a b : Value} {e : TypeId} {sz k : Nat} {xs : List Value} {g n cap H : Nat} (ha : w.ownsRow B e sz a k xs) (h : Apart a b) (hat : b.ownBlock = some g ∨ g = H) (hH : w.heap.size ≤ H) : Apart a (.slice (some ⟨g, 0, none⟩) n cap) := by
  intro k hk e
  simp [Value.ownBlock] at e
  subst e
  rcases hat with hat | hat
  · exact h g hk hat
  · have := (ha.lt _ hk).2; omega

/-- What one more leaves. -/
def MoreS (B : Nat) (w : World) (v : Value) (xs : List ByteArray) (H : Nat) (g cap : Nat) (w' : World) : Prop :=
  OwnS B w' (.slice (some ⟨g, 0, none⟩) xs.length cap) xs ∧ w.grownBy w' v.ownBlock ∧ (v.ownBlock = some g ∨ g = H) ∧ g < w'.heap.size
section
variable {w : World} {ops : Array Oper} {rest : List Oper} {o : Oper} {a : Act} {Q : Exit → Act → World → Prop}
theorem app_str (hgd : o.guard = none) (s x : Operand) (ho : o.op = .call { callee := .builtin .append, args := #[s, x], argTypes := #[27, 27] })
    (B : Nat) (v : Value) (xs : List ByteArray) (hs : a.eval s = v) (hown : OwnS B w v xs) (nb c : Nat) (y : ByteArray) (hx : a.eval x = .slice (some ⟨nb, 0, none⟩) 1 c) {fr : Nat × Nat} (hy : w.heap[nb]? = some (.cells #[.string y] 9 fr)) (hys : y.size ≤ maxLen)
    (hn : xs.length + 1 ≤ 1000000) (hbase : B ≤ w.heap.size) (H : Nat) (hH : w.heap.size = H)
    (h : ∀ g cap w', MoreS B w v (xs ++ [y]) H g cap w' → wpList Tryz.prog ops Q rest (a.put o.dst (.slice (some ⟨g, 0, none⟩) (xs.length + 1) cap)) w') : wpList Tryz.prog ops Q (o :: rest) a w := by
  subst hH
  refine wpList_append_rows encS encS_len encS_one Tryz.underlying27 strinfo rfl (by omega) (by omega) hgd s x ho B v xs hs hown.1 nb 1 c [y] rfl (by omega) hx (fr := fr) hy hn hbase ?_
  intro g cap w' h1 h2 h3 h4
  refine h g cap w' ⟨⟨?_, ?_⟩, h2, h3, h4⟩
  · simpa using h1
  · intro z hz
    rw [List.mem_append] at hz
    rcases hz with hz | hz
    · exact hown.2 z hz
    · simp at hz; subst hz; exact hys
end
section
variable {w : World} {ops : Array Oper} {o : Oper} {a : Act} {K : Act → World → Prop} {Q : Exit → Act → World → Prop} {F : Prop}
theorem step_str (hgd : o.guard = none) (s x : Operand) (ho : o.op = .call { callee := .builtin .append, args := #[s, x], argTypes := #[27, 27] })
    (B : Nat) (v : Value) (xs : List ByteArray) (hs : a.eval s = v) (hown : OwnS B w v xs) (nb c : Nat) (y : ByteArray) (hx : a.eval x = .slice (some ⟨nb, 0, none⟩) 1 c) {fr : Nat × Nat} (hy : w.heap[nb]? = some (.cells #[.string y] 9 fr)) (hys : y.size ≤ maxLen)
    (hn : xs.length + 1 ≤ 1000000) (hbase : B ≤ w.heap.size) (H : Nat) (hH : w.heap.size = H)
    (h : ∀ g cap w', MoreS B w v (xs ++ [y]) H g cap w' → K (a.put o.dst (.slice (some ⟨g, 0, none⟩) (xs.length + 1) cap)) w') :
    if Region.wanted o (yielded ops a.tmps) = true then Oper.wp Tryz.prog o a w K Q else F := by
  refine step_append_row encS encS_len encS_one Tryz.underlying27 strinfo rfl (by omega) (by omega) hgd s x ho B v xs hs hown.1 nb c y hx (fr := fr) hy hn hbase H hH ?_
  intro g cap w' h1 h2 h3 h4
  refine h g cap w' ⟨⟨?_, ?_⟩, h2, h3, h4⟩
  · simpa using h1
  · intro z hz
    rw [List.mem_append] at hz
    rcases hz with hz | hz
    · exact hown.2 z hz
    · simp at hz; subst hz; exact hys
end
end Go.Proofs.YtpnogmicfomofaaGreatDoor
