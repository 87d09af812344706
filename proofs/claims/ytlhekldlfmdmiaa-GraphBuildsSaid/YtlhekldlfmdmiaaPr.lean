import Derived.Test.YtlhekldlfmdmiaaPq
/-
  GraphReverses, plain: what is reached. Conditions: those ahead of each theorem.
-/
namespace Go.Proofs.Ytlhekldlfmdmiaa
set_option linter.unusedVariables false
set_option linter.unusedSimpArgs false

variable {ns : List ByteArray} {es rs : List Ed} {a b : ByteArray} {x y both : List ByteArray}
/-- What is reached is closed. -/
theorem rch_closed {z frm : List ByteArray} (hb : LisP ns (RchN ns es frm) both) (hz : LisP ns (RchN ns es both) z) : z = both := by
  refine ascB_eq hz.1 hb.1 fun t => ?_
  rw [hz.2, hb.2]
  constructor
  · rintro ⟨ht, c, hc, hcn, n, hw⟩
    obtain ⟨_, d, hd, hdn, m, hw2⟩ := (hb.2 c).1 hc
    exact ⟨ht, d, hd, hdn, _, wk_add hw2 hw⟩
  · rintro ⟨ht, h⟩
    exact ⟨ht, t, (hb.2 t).2 ⟨ht, h⟩, ht, 0, rfl⟩
/-- A node reaches itself. -/
theorem rch_self (hx : LisP ns (RchN ns es [a]) x) (ha : a ∈ ns) : a ∈ x := (hx.2 a).2 ⟨ha, a, by simp, ha, 0, rfl⟩
/-- What two reach, one of them reaches. -/
theorem rch_two (hx : LisP ns (RchN ns es [a]) x) (hy : LisP ns (RchN ns es [b]) y) (hb : LisP ns (RchN ns es [a, b]) both) {z : ByteArray} (hz : z ∈ both) : z ∈ x ∨ z ∈ y := by
  obtain ⟨hn, c, hc, hcn, n, hw⟩ := (hb.2 z).1 hz
  rcases List.mem_cons.1 hc with rfl | hc
  · exact Or.inl ((hx.2 z).2 ⟨hn, c, by simp, hcn, n, hw⟩)
  · have : c = b := by simpa using hc
    subst this
    exact Or.inr ((hy.2 z).2 ⟨hn, c, by simp, hcn, n, hw⟩)
/-- What one reaches, the two reach. -/
theorem rch_left (hx : LisP ns (RchN ns es [a]) x) (hb : LisP ns (RchN ns es [a, b]) both) {z : ByteArray} (hz : z ∈ x) : z ∈ both := by
  obtain ⟨hn, c, hc, hcn, n, hw⟩ := (hx.2 z).1 hz
  have : c = a := by simpa using hc
  subst this
  exact (hb.2 z).2 ⟨hn, c, by simp, hcn, n, hw⟩
/-- In the reversed graph the way back is there. -/
theorem rch_back (hp : rs.Perm (es.map swapE)) (hx : LisP ns (RchN ns es [a]) x) (ha : a ∈ ns) {z : ByteArray} (hz : z ∈ x) (hy : LisP ns (RchN ns rs [z]) y) : a ∈ y := by
  obtain ⟨hn, c, hc, hcn, n, hw⟩ := (hx.2 z).1 hz
  have : c = a := by simpa using hc
  subst this
  exact (hy.2 c).2 ⟨ha, z, by simp, hn, n, (wk_rev (tgt_rev hp)).2 hw⟩
end Go.Proofs.Ytlhekldlfmdmiaa
