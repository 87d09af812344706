import Derived.Test.YtlhekldlfmdmiaaGb
import Derived.Sort.Walk0
/-
  Layer 27: edges; the reference's less. Conditions: those ahead of each theorem.
-/
namespace Go.Proofs.Ytlhekldlfmdmiaa
open Go.RowKit Go.Sort Go.Lib
open Go.Lib (hid)
set_option linter.unusedVariables false
set_option linter.unusedSimpArgs false

abbrev Ed := ByteArray × ByteArray
def EdR (_ : World) (cs : List Value) (e : Ed) : Prop := cs = [.string e.1, .string e.2] ∧ e.1.size ≤ maxLen ∧ e.2.size ≤ maxLen
theorem edR_mono : Mono EdR := fun _ _ _ _ _ h => h
theorem ed_at {w : World} {r : Option Addr} {n c : Nat} {es : List Ed} (h : Sl EdR 2 w (.slice r n c) es) (i : Nat) (hi : i < es.length) :
    ∃ b off, r = some ⟨b, off, none⟩ ∧ b < w.heap.size ∧ w.cell? ⟨b, off + i * 2, none⟩ = some (.string (es[i]).1) ∧ w.cell? ⟨b, off + i * 2 + 1, none⟩ = some (.string (es[i]).2) ∧ (es[i]).1.size ≤ maxLen ∧ (es[i]).2.size ≤ maxLen := by
  obtain ⟨r', c', e, h1, h2, he⟩ := h
  simp at e
  obtain ⟨rfl, rfl, rfl⟩ := e
  obtain ⟨b, off, cs, hr, _, hc, rfl, hs, ht⟩ := he i hi
  have g0 := hc 0 _ rfl
  simp only [Nat.add_zero] at g0
  exact ⟨b, off, hr, World.block_lt_of_cell? w _ g0, g0, hc 1 _ rfl, hs, ht⟩
/-- Strings and edges in order. -/
def ltB (a b : ByteArray) : Bool := decide (a.data.toList < b.data.toList)
def lessE (a b : Ed) : Bool := ltB a.1 b.1 || (decide (a.1 = b.1) && ltB a.2 b.2)
theorem less_bytes (a b : ByteArray) : Op.bytesLess a.toList b.toList = ltB a b := by
  rw [Go.Proofs.bytesLess_eq, ByteArray.toList_eq, ByteArray.toList_eq]; rfl
theorem eq_bytes (a b : ByteArray) : (a.toList == b.toList) = decide (a = b) := by
  by_cases h : a = b
  · subst h; simp
  · rw [str_ne h, decide_eq_false h]

theorem less_any (a b : Ed) (w : World) :
    Calls Try.prog 55 #[.agg #[.string a.1, .string a.2], .agg #[.string b.1, .string b.2]] w fun r w' => r = .returned (.bool (lessE a b)) ∧ Below w.heap.size w w' := by
  have HB := hid (show Below w.heap.size w ((w.alloc (.cells #[.string a.1, .string a.2] 43)).alloc (.cells #[.string b.1, .string b.2] 43)) from ((Below.refl _ _).alloc (Nat.le_refl _) _).alloc (by simp) _)
  obtain ⟨a1, a2⟩ := a
  obtain ⟨b1, b2⟩ := b
  have HR := hid (show lessE (a1, a2) (b1, b2) = (ltB a1 b1 || (decide (a1 = b1) && ltB a2 b2)) from rfl)
  have h1 := less_bytes a1 b1
  have h2 := less_bytes a2 b2
  have h3 := eq_bytes a1 b1
  generalize ltB a1 b1 = p at *
  generalize ltB a2 b2 = q at *
  generalize decide (a1 = b1) = e at *
  generalize lessE (a1, a2) (b1, b2) = res at *
  cases p <;> cases e <;> cases q
  all_goals
    go_enter Try.func55, Try.ntmps55
    go_wp2
    go_ret
    exact ⟨ret_bool (by rw [HR.out]; rfl), HB.out⟩
end Go.Proofs.Ytlhekldlfmdmiaa
