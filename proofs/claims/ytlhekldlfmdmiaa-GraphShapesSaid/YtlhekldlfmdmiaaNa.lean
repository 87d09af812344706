import Derived.Test.YtlhekldlfmdmiaaGa
import Derived.Test.YtlhekldlfmdmiaaRw
import Derived.Test.YtlhekldlfmdmiaaGc
import Derived.Test.YtlhekldlfmdmiaaPo
import Derived.Laws.AppendOwnNone
import Derived.Deep.DeepCutAuto
/-
  The reference's node: one more node in its place. Conditions: those ahead of each theorem.
-/
namespace Go.Proofs.Ytlhekldlfmdmiaa
open Go.RowKit Go.Sort Go.Lib Go.Maps
open Go.Lib (hid)
set_option linter.unusedVariables false
set_option linter.unusedSimpArgs false

theorem wpList_append_sl {α : Type} (enc : α → List Value) {sz bytes : Nat} {T E : TypeId} {z : Value} {w : World} {ops : Array Oper} {rest : List Oper} {o : Oper} {a : Act} {Q : Exit → Act → World → Prop} (hsz : ∀ x, (enc x).length = sz) (hone : ∀ x, ∀ u ∈ enc x, u.oneCell' = true)
    (hT : Try.prog.underlying T = some (.slice E)) (hinfo : (Try.prog.info? E).map (fun i => (i.zero, i.size, i.bytes)) = some (some z, sz, bytes)) (hzs : z.cells.size = sz) (hpos : 0 < sz) (hbytes : bytes ≤ 1000)
    (hgd : o.guard = none) (s x : Operand) (ho : o.op = .call { callee := .builtin .append, args := #[s, x], argTypes := #[T, T] })
    (B : Nat) (v : Value) (xs : List α) (hs : a.eval s = v) (hown : w.ownsRow B E sz v xs.length (xs.flatMap enc)) (r : Option Addr) (m c : Nat) (ys : List α) (hx : a.eval x = .slice r m c) (hc0 : r = none → c = 0)
    (hy : Sl (fun _ cs (x : α) => cs = enc x) sz w (.slice r m c) ys) (hn : xs.length + m ≤ 1000000) (hbase : B ≤ w.heap.size)
    (h : ∀ v' w', w'.ownsRow B E sz v' (xs ++ ys).length ((xs ++ ys).flatMap enc) → w.grownBy w' v.ownBlock → wpList Try.prog ops Q rest (a.put o.dst v') w') : wpList Try.prog ops Q (o :: rest) a w := by
  obtain ⟨i0, hi, hz0, hz1, hz2⟩ := info_parts hinfo
  obtain ⟨r', cap', hv, hl, hcm, he⟩ := hy
  simp at hv
  obtain ⟨rfl, rfl, rfl⟩ := hv
  cases hr : r with
  | none =>
    subst hr
    have hy0 : ys = [] := by
      cases ys with
      | nil => rfl
      | cons y ys => obtain ⟨b, off, cs, h1, _⟩ := he 0 (by simp); cases h1
    subst hy0
    have := hc0 rfl
    subst this
    refine wpList_append_own_none hgd s x T ho B E i0 sz hT hi v xs.length (xs.flatMap enc) hs hown hx ?_
    refine h v w (by simpa using hown) ⟨rfl, rfl, rfl, Nat.le_refl _, fun _ _ _ => rfl⟩
  | some ad =>
    subst hr
    refine wpList_append_own w hgd s x T ho B E i0 z sz bytes hT hi hz0 hz1 hz2 hzs hpos v xs.length (xs.flatMap enc) hs hown ad ys.length c (ys.flatMap enc) hx (flat_len enc sz hsz ys) ?_ ?_ (by unfold maxLen; omega) ?_ hbase ?_
    · intro j u hj
      have hjl : j < ys.length * sz := by have := (List.getElem?_eq_some_iff.1 hj).1; rwa [flat_len enc sz hsz] at this
      have hi1 : j / sz < ys.length := by rw [Nat.div_lt_iff_lt_mul hpos]; exact hjl
      obtain ⟨b, off, cs, h1, h2, h3, h4⟩ := he (j / sz) hi1
      simp at h1
      subst h1
      subst h4
      have hmod : j % sz < sz := Nat.mod_lt _ hpos
      have e : j / sz * sz + j % sz = j := by rw [Nat.mul_comm]; exact Nat.div_add_mod j sz
      have hg := flat_get enc sz hsz ys (j / sz) hi1 (j % sz) hmod
      rw [e, hj] at hg
      have := h3 (j % sz) u hg.symm
      rw [Nat.add_assoc, e] at this
      have hadd : (⟨b, off, none⟩ : Addr).add j = ⟨b, off + j, none⟩ := by unfold Addr.add; split <;> simp_all
      rw [hadd]; exact this
    · intro u hu
      obtain ⟨y, _, hy2⟩ := List.mem_flatMap.1 hu
      exact hone y u hy2
    · have : (xs.length + ys.length) * bytes ≤ 1000000 * 1000 := Nat.mul_le_mul hn hbytes
      omega
    · intro v' w' h1 h2 _
      refine h v' w' ?_ h2
      rw [List.flatMap_append, List.length_append]
      exact h1

theorem sl_encS {w : World} {v : Value} {l : List ByteArray} (h : Sl StrR 1 w v l) : Sl (fun _ cs (x : ByteArray) => cs = encS x) 1 w v l := by
  obtain ⟨r, c, hv, hl, hm, he⟩ := h
  refine ⟨r, c, hv, hl, hm, fun i hi => ?_⟩
  obtain ⟨b, off, cs, h1, h2, h3, h4, _⟩ := he i hi
  refine ⟨b, off, cs, h1, h2, h3, ?_⟩
  match cs, h2 with
  | [c], _ => simp at h4; subst h4; rfl
theorem sl_encE {w : World} {v : Value} {l : List Ed} (h : Sl EdR 2 w v l) : Sl (fun _ cs (x : Ed) => cs = encE x) 2 w v l := by
  obtain ⟨r, c, hv, hl, hm, he⟩ := h
  refine ⟨r, c, hv, hl, hm, fun i hi => ?_⟩
  obtain ⟨b, off, cs, h1, h2, h3, h4, _⟩ := he i hi
  exact ⟨b, off, cs, h1, h2, h3, h4⟩
theorem sl_take {α : Type} {R : World → List Value → α → Prop} {sz : Nat} {w : World} {r : Option Addr} {n cap : Nat} {xs : List α} (h : Sl R sz w (.slice r n cap) xs) (k : Nat) (hk : k ≤ xs.length) : Sl R sz w (.slice r k cap) (xs.take k) := by
  obtain ⟨r', cap', hv, hl, hc, he⟩ := h
  simp at hv
  obtain ⟨rfl, rfl, rfl⟩ := hv
  refine ⟨r, cap, by simp [Nat.min_eq_left hk], by simp; omega, hc, fun i hi => ?_⟩
  have hi2 : i < k := by simp at hi; omega
  obtain ⟨b, off, cs, h1, h2, h3, h4⟩ := he i (by omega)
  exact ⟨b, off, cs, h1, h2, h3, by simpa using h4⟩
theorem sl_empty {α : Type} {R : World → List Value → α → Prop} {sz : Nat} {w : World} (r : Option Addr) (c : Nat) (h : c ≤ maxLen) : Sl R sz w (.slice r 0 c) [] :=
  ⟨r, c, rfl, by simp, h, fun i hi => absurd hi (by simp)⟩
theorem sl_drop {α : Type} {R : World → List Value → α → Prop} {sz : Nat} {w : World} {b off n cap : Nat} {xs : List α} (h : Sl R sz w (.slice (some ⟨b, off, none⟩) n cap) xs) (k : Nat) (hk : k ≤ xs.length) : Sl R sz w (.slice (some ⟨b, off + k * sz, none⟩) (n - k) (cap - k)) (xs.drop k) := by
  obtain ⟨r', cap', hv, hl, hc, he⟩ := h
  simp at hv
  obtain ⟨rfl, rfl, rfl⟩ := hv
  refine ⟨some ⟨b, off + k * sz, none⟩, cap - k, by simp, by simp; omega, by omega, fun i hi => ?_⟩
  simp only [List.length_drop] at hi
  obtain ⟨b', off', cs, h1, h2, h3, h4⟩ := he (k + i) (by omega)
  simp at h1
  obtain ⟨rfl, rfl⟩ := h1
  refine ⟨b, off + k * sz, cs, rfl, h2, fun j u hj => ?_, by simpa using h4⟩
  have := h3 j u hj
  rw [Nat.add_mul] at this
  rw [show off + k * sz + i * sz + j = off + (k * sz + i * sz) + j by omega]
  exact this
/-- A list that is nil, or lies at a plain address. -/
def PlainA (v : Value) (n : Nat) : Prop := v = .slice none 0 0 ∨ ∃ b off c, v = .slice (some ⟨b, off, none⟩) n c
def NS (w : World) (v : Value) (l : List ByteArray) : Prop := Sl StrR 1 w v l ∧ PlainA v l.length
def NE (w : World) (v : Value) (l : List Ed) : Prop := Sl EdR 2 w v l ∧ PlainA v l.length
theorem NS.below {w w' : World} {v : Value} {l : List ByteArray} (h : NS w v l) (hb : Below w.heap.size w w') : NS w' v l := ⟨h.1.below strR_mono hb, h.2⟩
theorem NE.below {w w' : World} {v : Value} {l : List Ed} (h : NE w v l) (hb : Below w.heap.size w w') : NE w' v l := ⟨h.1.below edR_mono hb, h.2⟩
theorem own_plain {w : World} {B sz n : Nat} {e : TypeId} {v : Value} {xs : List Value} (h : w.ownsRow B e sz v n xs) : PlainA v n := by
  rcases h.2 with ⟨rfl, rfl⟩ | ⟨g, cap, cur, rfl, _, _, h1, h2, _⟩
  · exact Or.inl rfl
  · exact Or.inr ⟨_, _, _, rfl⟩
theorem OwnS.ns {B : Nat} {w : World} {v : Value} {xs : List ByteArray} (h : OwnS B w v xs) : NS w v xs := ⟨h.sl, own_plain h.1⟩
theorem OwnE.ne {B : Nat} {w : World} {v : Value} {xs : List Ed} (h : OwnE B w v xs) : NE w v xs := ⟨h.sl, own_plain h.1⟩
theorem nsNil (w : World) : NS w (.slice none 0 0) [] := (ownS_nil 0 w).ns
theorem neNil (w : World) : NE w (.slice none 0 0) [] := (ownE_nil 0 w).ne
theorem below_app {B : Nat} {W0 w w' : World} {v : Value} {e : TypeId} {sz n : Nat} {xs : List Value} (ho : w.ownsRow B e sz v n xs) (hb : Below B W0 w) (hB : B ≤ w.heap.size) (hg : w.grownBy w' v.ownBlock) : Below B W0 w' :=
  hb.grown hg hB (fun k hk => (ho.lt k hk).1)

end Go.Proofs.Ytlhekldlfmdmiaa
