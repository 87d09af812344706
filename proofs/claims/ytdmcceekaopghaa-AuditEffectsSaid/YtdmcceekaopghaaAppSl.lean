/-
  append of a whole slice to an own slice of structs. Conditions: those ahead of each theorem.
-/
import Derived.Test.YtdmcceekaopghaaStruct
import Derived.Laws.AppendOwnNone
namespace Go.Proofs.Ytdmcceekaopghaa
open Go.RowKit Go.Sort

theorem wpList_append_sl {α : Type} (enc : α → List Value) {sz bytes : Nat} {T E : TypeId} {z : Value} {w : World} {ops : Array Oper} {rest : List Oper} {o : Oper} {a : Act} {Q : Exit → Act → World → Prop} (hsz : ∀ x, (enc x).length = sz) (hone : ∀ x, ∀ u ∈ enc x, u.oneCell' = true)
    (hT : Try.prog.underlying T = some (.slice E)) (hinfo : (Try.prog.info? E).map (fun i => (i.zero, i.size, i.bytes)) = some (some z, sz, bytes)) (hzs : z.cells.size = sz) (hpos : 0 < sz) (hbytes : bytes ≤ 1000)
    (hgd : o.guard = none) (s x : Operand) (ho : o.op = .call { callee := .builtin .append, args := #[s, x], argTypes := #[T, T] })
    (B : Nat) (v : Value) (xs : List α) (hs : a.eval s = v) (hown : w.ownsRow B E sz v xs.length (xs.flatMap enc)) (r : Option Addr) (m c : Nat) (ys : List α) (hx : a.eval x = .slice r m c) (hc0 : r = none → c = 0)
    (hy : Sl (fun _ cs (x : α) => cs = enc x) sz w (.slice r m c) ys) (hn : xs.length + m ≤ 1000000) (hbase : B ≤ w.heap.size)
    (h : ∀ v' w', w'.ownsRow B E sz v' (xs ++ ys).length ((xs ++ ys).flatMap enc) → w.grownBy w' v.ownBlock → wpList Try.prog ops Q rest (a.put o.dst v') w') : wpList Try.prog ops Q (o :: rest) a w := by
  obtain ⟨i0, hi, hz0, hz1, hz2⟩ := info_parts hinfo
  obtain ⟨r', cap', hv, hl, hcm, he⟩ := hy
  simp at hv
  obtain ⟨rfl, rfl, rfl⟩ := hv
  cases hr : r with
  | none =>
    subst hr
    have hy0 : ys = [] := by
      cases ys with
      | nil => rfl
      | cons y ys => obtain ⟨b, off, cs, h1, _⟩ := he 0 (by simp); cases h1
    subst hy0
    have := hc0 rfl
    subst this
    refine wpList_append_own_none hgd s x T ho B E i0 sz hT hi v xs.length (xs.flatMap enc) hs hown hx ?_
    refine h v w (by simpa using hown) ⟨rfl, rfl, rfl, Nat.le_refl _, fun _ _ _ => rfl⟩
  | some ad =>
    subst hr
    refine wpList_append_own w hgd s x T ho B E i0 z sz bytes hT hi hz0 hz1 hz2 hzs hpos v xs.length (xs.flatMap enc) hs hown ad ys.length c (ys.flatMap enc) hx (flat_len enc sz hsz ys) ?_ ?_ (by unfold maxLen; omega) ?_ hbase ?_
    · intro j u hj
      have hjl : j < ys.length * sz := by have := (List.getElem?_eq_some_iff.1 hj).1; rwa [flat_len enc sz hsz] at this
      have hi1 : j / sz < ys.length := by rw [Nat.div_lt_iff_lt_mul hpos]; exact hjl
      obtain ⟨b, off, cs, h1, h2, h3, h4⟩ := he (j / sz) hi1
      simp at h1
      subst h1
      subst h4
      have hmod : j % sz < sz := Nat.mod_lt _ hpos
      have e : j / sz * sz + j % sz = j := by rw [Nat.mul_comm]; exact Nat.div_add_mod j sz
      have hg := flat_get enc sz hsz ys (j / sz) hi1 (j % sz) hmod
      rw [e, hj] at hg
      have := h3 (j % sz) u hg.symm
      rw [Nat.add_assoc, e] at this
      have hadd : (⟨b, off, none⟩ : Addr).add j = ⟨b, off + j, none⟩ := by unfold Addr.add; split <;> simp_all
      rw [hadd]; exact this
    · intro u hu
      obtain ⟨y, _, hy2⟩ := List.mem_flatMap.1 hu
      exact hone y u hy2
    · have : (xs.length + ys.length) * bytes ≤ 1000000 * 1000 := Nat.mul_le_mul hn hbytes
      omega
    · intro v' w' h1 h2 _
      refine h v' w' ?_ h2
      rw [List.flatMap_append, List.length_append]
      exact h1
end Go.Proofs.Ytdmcceekaopghaa
