import Derived.Test.YtlhekldlfmdmiaaGd
import Derived.DeepKeys4
/-
  Edges as a map's keys. Conditions: those ahead of each theorem.
-/
namespace Go.Proofs.Ytlhekldlfmdmiaa
open Go.RowKit Go.Sort Go.Lib Go.Maps
open Go.Lib (hid)
set_option linter.unusedVariables false
set_option linter.unusedSimpArgs false

abbrev GEd := {e : Ed // e.1.size ≤ maxLen ∧ e.2.size ≤ maxLen}
def edVal (e : GEd) : Value := .agg (encE e.1).toArray
def edLit (e : GEd) : Lit := .string (keyBytes [.string e.1.1.data.toList, .string e.1.2.data.toList])
theorem laidOut : laidOutB Try.prog = true := by kernel_rfl
theorem kwide : (match Try.prog.underlying 43 with | some (.array _ _) | some (.struct _) => true | _ => false) = true := by rw [Try.underlying43]
theorem krow : (43 : TypeId) < Try.prog.types.size := of_decide_eq_true (by kernel_rfl)
theorem kty2 : Try.prog.keyTypeAt 2 43 = true := by kernel_rfl
set_option maxRecDepth 100000 in
theorem klaw : WideMaps.KeyLaw Try.prog 43 := deep_law_laid laidOut (m := 2) (by omega) krow kty2 kwide
theorem kcells : Try.prog.cellsOf 43 = 2 := by kernel_rfl
theorem kcell1 : Try.prog.cellsOf 9 = 1 := by kernel_rfl
theorem ktype : Try.prog.keyType 43 = true := by kernel_rfl
theorem lits_ed (n : Nat) (c0 c1 : Value) : Try.prog.keyLits (n + 2) 43 [c0, c1] = (do let a ← Try.prog.keyLits (n + 1) 9 [c0]; let b ← Try.prog.keyLits (n + 1) 9 [c1]; some (a ++ b)) := by
  conv => lhs; unfold Program.keyLits
  simp [Try.underlying43, kcells, kcell1]
  cases Try.prog.keyLits (n + 1) 9 [c0] with
  | none => simp
  | some a =>
    cases Try.prog.keyLits (n + 1) 9 [c1] with
    | none => simp
    | some b => simp
theorem lits_str (n : Nat) (s : ByteArray) (h : s.size ≤ maxLen) : Try.prog.keyLits (n + 1) 9 [.string s] = some [.string s.data.toList] := by
  conv => lhs; unfold Program.keyLits
  simp [Try.underlying9, h]
theorem lits_str_inv (n : Nat) (c : Value) (L : List Lit) (h : Try.prog.keyLits (n + 1) 9 [c] = some L) : ∃ s, c = .string s ∧ s.size ≤ maxLen ∧ L = [.string s.data.toList] := by
  unfold Program.keyLits at h
  simp only [Try.underlying9] at h
  cases c <;> simp at h
  exact ⟨_, rfl, h.1, h.2.symm⟩
theorem keyOf_ed (e : GEd) : keyOf Try.prog 43 (edVal e) = some (edLit e) := by
  obtain ⟨⟨a, b⟩, ha, hb⟩ := e
  have hn : ∃ n, Try.prog.types.size + 1 = n + 2 := ⟨Try.prog.types.size - 1, by have : 0 < Try.prog.types.size := of_decide_eq_true (by kernel_rfl); omega⟩
  obtain ⟨n, hn⟩ := hn
  have hf : (edVal ⟨(a, b), ha, hb⟩).formed Try.prog 43 = true := by simp [edVal, encE, Value.formed, Try.underlying43, kcells]
  unfold keyOf
  rw [Try.underlying43]
  simp only [ktype, hf, Bool.and_self, if_true]
  show (Try.prog.keyLits (Try.prog.types.size + 1) 43 [.string a, .string b]).map _ = _
  rw [hn, lits_ed, lits_str n a ha, lits_str n b hb]
  rfl
set_option maxRecDepth 100000 in
theorem edT : KeyT Try.prog 43 (fun _ : GEd => True) edVal edLit where
  K := Keyed.of_law klaw
  key x _ := keyOf_ed x
  inj x y h := by
    have := klaw.inj (keyOf_ed x) (by rw [h]; exact keyOf_ed y)
    obtain ⟨⟨a, b⟩, ha⟩ := x
    obtain ⟨⟨c, d⟩, hc⟩ := y
    simp [edVal, encE] at this
    obtain ⟨rfl, rfl⟩ := this
    rfl
  isKey x := by simp [edLit, WideAt.IsKeyLit]
  inv v l h := by
    have hn : ∃ n, Try.prog.types.size + 1 = n + 2 := ⟨Try.prog.types.size - 1, by have : 0 < Try.prog.types.size := of_decide_eq_true (by kernel_rfl); omega⟩
    obtain ⟨n, hn⟩ := hn
    obtain ⟨xs, L, rfl, hL, rfl⟩ := keyOf_top kwide h
    obtain ⟨xs⟩ := xs
    rw [hn] at hL
    have hlen : xs.length = 2 := by
      unfold Program.keyLits at hL
      simp only [Try.underlying43, kcells] at hL
      split at hL
      · rename_i hh; exact hh.1
      · cases hL
    obtain ⟨c0, c1, rfl⟩ : ∃ c0 c1, xs = [c0, c1] := by
      match xs, hlen with
      | [c0, c1], _ => exact ⟨c0, c1, rfl⟩
    rw [lits_ed] at hL
    cases h0 : Try.prog.keyLits (n + 1) 9 [c0] with
    | none => rw [h0] at hL; cases hL
    | some L0 =>
      cases h1 : Try.prog.keyLits (n + 1) 9 [c1] with
      | none => rw [h0, h1] at hL; cases hL
      | some L1 =>
        rw [h0, h1] at hL
        obtain ⟨s, rfl, hs, rfl⟩ := lits_str_inv n c0 L0 h0
        obtain ⟨t, rfl, ht, rfl⟩ := lits_str_inv n c1 L1 h1
        have : L = [.string s.data.toList, .string t.data.toList] := by simpa using hL.symm
        subst this
        exact ⟨⟨(s, t), hs, ht⟩, rfl, rfl, trivial⟩
end Go.Proofs.Ytlhekldlfmdmiaa
