/-
  Own slices of structs and of values: as lists, and what an append does. Conditions: those ahead of each theorem.
-/
import Derived.Test.YtedpdpcibkceeaaDoorMask
import Derived.Deep.AppendLies
import Derived.OwnWalk
namespace Go.Proofs.YtedpdpcibkceeaaDoor
open Go.RowKit Go.Sort Go.Lib
open Go.Lib (hid)
set_option linter.unusedSimpArgs false
set_option linter.unusedVariables false

theorem flat_get {α : Type} (enc : α → List Value) (sz : Nat) (hsz : ∀ x, (enc x).length = sz) : ∀ (xs : List α) (i : Nat) (hi : i < xs.length) (j : Nat), j < sz → (xs.flatMap enc)[i * sz + j]? = (enc (xs[i]))[j]? := by
  intro xs
  induction xs with
  | nil => intro i hi; exact absurd hi (by simp)
  | cons x xs ih =>
    intro i hi j hj
    rw [List.flatMap_cons]
    cases i with
    | zero => rw [List.getElem?_append_left (by rw [hsz]; omega)]; simp
    | succ i =>
      have e : (i + 1) * sz + j = (enc x).length + (i * sz + j) := by rw [hsz, Nat.add_mul]; omega
      rw [e, List.getElem?_append_right (by omega), Nat.add_sub_cancel_left]
      simp only [List.getElem_cons_succ]
      exact ih i (by simpa using hi) j hj

theorem flat_len {α : Type} (enc : α → List Value) (sz : Nat) (hsz : ∀ x, (enc x).length = sz) (xs : List α) : (xs.flatMap enc).length = xs.length * sz := by
  induction xs with
  | nil => simp
  | cons x xs ih => rw [List.flatMap_cons, List.length_append, hsz, ih, List.length_cons, Nat.add_mul]; omega

theorem sl_of_own {α : Type} (enc : α → List Value) {sz B : Nat} {e : TypeId} (hsz : ∀ x, (enc x).length = sz) {w : World} {v : Value} {xs : List α} (h : w.ownsRow B e sz v xs.length (xs.flatMap enc)) : Sl (fun _ cs (x : α) => cs = enc x) sz w v xs := by
  rcases h.2 with ⟨rfl, h0⟩ | ⟨g, cap, cur, rfl, hb, hg, hn, hc, hs, ht⟩
  · have : xs = [] := List.eq_nil_of_length_eq_zero h0
    subst this
    exact ⟨none, 0, rfl, by simp, by simp, fun i hi => absurd hi (by simp)⟩
  · refine ⟨some ⟨g, 0, none⟩, cap, rfl, hn, hc, fun i hi => ⟨g, 0, enc xs[i], rfl, hsz _, fun j u hj => ?_, rfl⟩⟩
    have hjs : j < sz := by have := (List.getElem?_eq_some_iff.1 hj).1; rwa [hsz] at this
    have h1 := flat_get enc sz hsz xs i hi j hjs
    have hlt : i * sz + j < xs.length * sz := by
      have : (i + 1) * sz ≤ xs.length * sz := Nat.mul_le_mul_right _ hi
      rw [Nat.add_mul, Nat.one_mul] at this; omega
    rw [← ht, List.getElem?_take, if_pos hlt, Array.getElem?_toList] at h1
    unfold World.cell?
    simp only [hg, Nat.zero_add]
    simp only [Option.isSome_none, Bool.false_eq_true, if_false]
    rw [h1, hj]

/-- append of k structs to an own slice, from a block that is known whole. -/
theorem wpList_append_rows {α : Type} (enc : α → List Value) {sz bytes : Nat} {T E : TypeId} {z : Value} {w : World} {ops : Array Oper} {rest : List Oper} {o : Oper} {a : Act} {Q : Exit → Act → World → Prop} (hsz : ∀ x, (enc x).length = sz) (hone : ∀ x, ∀ u ∈ enc x, u.oneCell' = true)
    (hT : Tryd.prog.underlying T = some (.slice E)) (hinfo : (Tryd.prog.info? E).map (fun i => (i.zero, i.size, i.bytes)) = some (some z, sz, bytes)) (hzs : z.cells.size = sz) (hpos : 0 < sz) (hbytes : bytes ≤ 1000)
    (hgd : o.guard = none) (s x : Operand) (ho : o.op = .call { callee := .builtin .append, args := #[s, x], argTypes := #[T, T] })
    (B : Nat) (v : Value) (xs : List α) (hs : a.eval s = v) (hown : w.ownsRow B E sz v xs.length (xs.flatMap enc)) (nb m c : Nat) (ys : List α) (hm : ys.length = m) (hm0 : 0 < m) (hx : a.eval x = .slice (some ⟨nb, 0, none⟩) m c)
    {fr : Nat × Nat} (hy : w.heap[nb]? = some (.cells (ys.flatMap enc).toArray E fr)) (hn : xs.length + m ≤ 1000000) (hbase : B ≤ w.heap.size)
    (h : ∀ g cap w', w'.ownsRow B E sz (.slice (some ⟨g, 0, none⟩) (xs.length + m) cap) (xs ++ ys).length ((xs ++ ys).flatMap enc) → w.grownBy w' v.ownBlock → (v.ownBlock = some g ∨ g = w.heap.size) → g < w'.heap.size →
      wpList Tryd.prog ops Q rest (a.put o.dst (.slice (some ⟨g, 0, none⟩) (xs.length + m) cap)) w') : wpList Tryd.prog ops Q (o :: rest) a w := by
  obtain ⟨i0, hi, hz0, hz1, hz2⟩ := info_parts hinfo
  refine wpList_append_lies w hgd s x T ho B E i0 z sz bytes hT hi hz0 hz1 hz2 hzs hpos v xs.length (xs.flatMap enc) hs hown ⟨nb, 0, none⟩ m c (ys.flatMap enc) hx (by rw [flat_len enc sz hsz, hm]) ?_ ?_ hm0 (by unfold maxLen; omega) ?_ hbase _ rfl ?_
  · intro j u hj
    exact World.news_of_block hy j u (by simpa using hj)
  · intro u hu
    obtain ⟨y, _, hy2⟩ := List.mem_flatMap.1 hu
    exact hone y u hy2
  · have : (xs.length + m) * bytes ≤ 1000000 * 1000 := Nat.mul_le_mul hn hbytes
    omega
  · intro g cap w' h1 h2 h3 h4
    refine h g cap w' ?_ h2 h3 h4
    rw [List.flatMap_append, List.length_append, hm]
    exact h1

/-- The five cells of a value in memory. -/
structure Cv where
  k : Int
  n : Int
  s : ByteArray
  r : Option Addr
  ni : Nat
  c : Nat
  rk : Option Addr
  nk : Nat
  ck : Nat
def Cv.enc (y : Cv) : List Value := [.int .i64 y.k, .int .i64 y.n, .string y.s, .slice y.r y.ni y.c, .slice y.rk y.nk y.ck]
theorem cv_len : ∀ y : Cv, y.enc.length = 5 := fun _ => rfl
theorem cv_one : ∀ y : Cv, ∀ u ∈ y.enc, u.oneCell' = true := fun y u hu => by
  simp only [Cv.enc, List.mem_cons, List.mem_nil_iff, or_false] at hu
  rcases hu with rfl | rfl | rfl | rfl | rfl <;> rfl
def Cv.of (x : Val) (r : Option Addr) (c : Nat) (rk : Option Addr) (ck : Nat) : Cv := ⟨x.kind, x.num, x.str, r, x.items.length, c, rk, x.keys.length, ck⟩
theorem VK.enc {K : Nat → Bool} {w : World} {r : Option Addr} {c : Nat} {rk : Option Addr} {ck : Nat} {x : Val} (h : VK K w r c rk ck x) : VR (mask K w) (Cv.of x r c rk ck).enc x := h

/-- What a slice's elements rest on: not on the row itself. -/
def keepB (B : Nat) (v : Value) : Nat → Bool := fun b => decide (B ≤ b) && decide (v.ownBlock ≠ some b)
/-- A slice of the call's own, of values of its own. -/
structure OwnV (B : Nat) (w : World) (v : Value) (is : List Val) : Prop where
  ex : ∃ ys : List Cv, ys.length = is.length ∧ w.ownsRow B 26 5 v ys.length (ys.flatMap Cv.enc) ∧ ∀ (i : Nat) (h : i < ys.length) (h' : i < is.length), VR (mask (keepB B v) w) ys[i].enc is[i]
theorem sl_of_rows {w W : World} {v : Value} {B : Nat} {ys : List Cv} {is : List Val} (hl : ys.length = is.length) (h : w.ownsRow B 26 5 v ys.length (ys.flatMap Cv.enc)) (hv : ∀ (i : Nat) (h : i < ys.length) (h' : i < is.length), VR W ys[i].enc is[i]) (hst : Stays W w) : Sl VR 5 w v is := by
  obtain ⟨r, cap, rfl, h1, h2, he⟩ := sl_of_own Cv.enc cv_len h
  refine ⟨r, cap, by rw [hl], by omega, h2, fun i hi => ?_⟩
  obtain ⟨b, off, cs, hr, hsz, hcell, hx⟩ := he i (by omega)
  subst hx
  exact ⟨b, off, _, hr, hsz, hcell, vr_stays hst (hv i (by omega) hi)⟩
theorem OwnV.sl {B : Nat} {w : World} {v : Value} {is : List Val} (h : OwnV B w v is) : Sl VR 5 w v is := by
  obtain ⟨ys, hl, ho, hv⟩ := h.ex
  exact sl_of_rows hl ho hv (stays_mask _ _)
theorem OwnV.nil (B : Nat) (w : World) : OwnV B w (.slice none 0 0) [] := ⟨[], rfl, ⟨by simp, Or.inl ⟨rfl, rfl⟩⟩, fun i h => absurd h (by simp)⟩
end Go.Proofs.YtedpdpcibkceeaaDoor
