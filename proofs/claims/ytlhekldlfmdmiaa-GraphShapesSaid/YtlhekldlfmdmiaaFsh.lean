import Derived.Test.YtlhekldlfmdmiaaLsh
import Derived.WalkKit
import Derived.ProofKit
import Derived.OpenShut
/-
  Arguments of layer 27 that can be read as data: graphs and lists of strings and edges. Conditions: the readings.
-/
namespace Go.Proofs.Ytlhekldlfmdmiaa
open Go.RowKit Go.Sort Go.ChangeShapes Go.WideShapes Go.ChangeAt
set_option linter.unusedVariables false
set_option linter.unusedSimpArgs false

theorem oStr : Try.prog.cellsOf 9 = 1 := by kernel_rfl
theorem oStrs : Try.prog.cellsOf 22 = 1 := by kernel_rfl
theorem oEds : Try.prog.cellsOf 23 = 1 := by kernel_rfl
theorem oEd : Try.prog.cellsOf 43 = 2 := by kernel_rfl
theorem oGr : Try.prog.cellsOf 25 = 2 := by kernel_rfl
theorem olist2 {cs : List Value} {a b : Value} (h : cs.length = 2) (h0 : cs[0]? = some a) (h1 : cs[1]? = some b) : cs = [a, b] := by
  match cs, h with
  | [x, y], _ => simp at h0 h1; subst h0 h1; rfl
theorem edR_of_trod {H : Type} {enc : TypeId × Value → H} {w : World} : ∀ fuel cs (y : DataW H × List MemPlace), cs.length = 2 → DataW.trod enc Try.prog w 0 (fun _ => true) true fuel 43 cs = some y → ∃ z, EdR w cs z := by
  intro fuel cs y hl h
  obtain ⟨_, hf⟩ := struct_of_trod Try.underlying43 h
  obtain ⟨_, _, h0⟩ : ∃ fuel' y', DataW.trod enc Try.prog w 0 (fun _ => true) true fuel' 9 ((cs.drop 0).take (Try.prog.cellsOf 9)) = some y' := hf 0 _ rfl
  rw [oStr] at h0
  obtain ⟨_, _, h1⟩ : ∃ fuel' y', DataW.trod enc Try.prog w 0 (fun _ => true) true fuel' 9 ((cs.drop 1).take (Try.prog.cellsOf 9)) = some y' := hf 1 _ rfl
  rw [oStr] at h1
  obtain ⟨a, e0, wa⟩ := field_str Try.underlying9 h0
  obtain ⟨b, e1, wb⟩ := field_str Try.underlying9 h1
  exact ⟨(a, b), olist2 hl e0 e1, wa, wb⟩
set_option maxRecDepth 100000 in
theorem open_strs {H : Type} {enc : TypeId × Value → H} {W : World} {base : Nat} {v : Value} {d : DataW H} {p : List MemPlace}
    (o : Value.okWide Try.prog W .any base 22 v) (h : DataW.Trod enc Try.prog W 0 (fun _ => true) true 22 v d p) : ∃ ss, Sl StrR 1 W v ss := by
  obtain ⟨a, len, cap, rfl⟩ := okWide_slice Try.underlying22 o
  obtain ⟨fuel, hf⟩ := h
  exact sl_of_trod StrR Try.underlying22 oStr (by omega) (strR_of_trod Try.underlying9) hf
set_option maxRecDepth 100000 in
theorem open_edges {H : Type} {enc : TypeId × Value → H} {W : World} {base : Nat} {v : Value} {d : DataW H} {p : List MemPlace}
    (o : Value.okWide Try.prog W .any base 23 v) (h : DataW.Trod enc Try.prog W 0 (fun _ => true) true 23 v d p) : ∃ ss, Sl EdR 2 W v ss := by
  obtain ⟨a, len, cap, rfl⟩ := okWide_slice Try.underlying23 o
  obtain ⟨fuel, hf⟩ := h
  exact sl_of_trod EdR Try.underlying23 oEd (by omega) edR_of_trod hf
set_option maxRecDepth 100000 in
theorem open_string {H : Type} {enc : TypeId × Value → H} {W : World} {base : Nat} {v : Value} {d : DataW H} {p : List MemPlace}
    (o : Value.okWide Try.prog W .any base 9 v) (h : DataW.Trod enc Try.prog W 0 (fun _ => true) true 9 v d p) : ∃ s : ByteArray, v = .string s ∧ s.size ≤ maxLen := by
  obtain ⟨x, rfl⟩ := okWide_string Try.underlying9 o
  obtain ⟨fuel, h⟩ := h
  obtain ⟨s, h1, _, h3⟩ := DataW.trod_string Try.underlying9 h
  have e : x = s := by simpa [Value.cells] using h1
  exact ⟨x, rfl, e ▸ h3⟩
set_option maxRecDepth 100000 in
theorem open_graph {H : Type} {enc : TypeId × Value → H} {W : World} {base : Nat} {v : Value} {d : DataW H} {p : List MemPlace}
    (o : Value.okWide Try.prog W .any base 25 v) (h : DataW.Trod enc Try.prog W 0 (fun _ => true) true 25 v d p) :
    ∃ vn ve ns es, v = .agg #[vn, ve] ∧ Sl StrR 1 W vn ns ∧ Sl EdR 2 W ve es := by
  obtain ⟨cs, rfl, hsz⟩ := okWide_struct Try.underlying25 o
  obtain ⟨fuel, h⟩ := h
  have hcs : (Value.agg cs).cells = cs := rfl
  rw [hcs] at h
  have hl : cs.toList.length = 2 := by rw [← oGr, ← hsz]; simp
  obtain ⟨_, hf⟩ := struct_of_trod Try.underlying25 h
  obtain ⟨_, _, h0⟩ : ∃ fuel' y', DataW.trod enc Try.prog W 0 (fun _ => true) true fuel' 22 ((cs.toList.drop 0).take (Try.prog.cellsOf 22)) = some y' := hf 0 _ rfl
  rw [oStrs] at h0
  obtain ⟨_, _, h1⟩ : ∃ fuel' y', DataW.trod enc Try.prog W 0 (fun _ => true) true fuel' 23 ((cs.toList.drop 1).take (Try.prog.cellsOf 23)) = some y' := hf 1 _ rfl
  rw [oEds] at h1
  obtain ⟨vn, ns, e0, hN⟩ := field_slice StrR Try.underlying22 oStr (by omega) (by omega) (strR_of_trod Try.underlying9) h0
  obtain ⟨ve, es, e1, hE⟩ := field_slice EdR Try.underlying23 oEd (by omega) (by omega) edR_of_trod h1
  refine ⟨vn, ve, ns, es, ?_, hN, hE⟩
  have := olist2 hl e0 e1
  obtain ⟨l⟩ := cs
  simp at this
  rw [this]
end Go.Proofs.Ytlhekldlfmdmiaa
/-
  GraphShapes from the row's reading. Conditions: those ahead of the theorem.
-/
namespace Go.Proofs.Ytlhekldlfmdmiaa
open Go.ChangeShapes Go.WideShapes Go.ChangeAt Go.RowKit
set_option linter.unusedVariables false
set_option linter.unusedSimpArgs false

set_option maxRecDepth 100000 in
theorem gshapes_from (H : Type) (enc : TypeId × Value → H) (W : World) (base : Nat) (v0 v1 : Value) (d0 d1 : DataW H) (p0 p1 : List MemPlace)
    (o0 : Value.okWide Try.prog W .any base 25 v0) (o1 : Value.okWide Try.prog W .any base 22 v1)
    (h0 : DataW.Trod enc Try.prog W 0 (fun _ => true) true 25 v0 d0 p0) (h1 : DataW.Trod enc Try.prog W 0 (fun _ => true) true 22 v1 d1 p1) :
    Calls Try.prog 4 #[v0, v1] W fun e W' => e = .returned (.bool true) ∧ Below W.heap.size W W' := by
  obtain ⟨vn, ve, ns, es, rfl, hN, hS⟩ := open_graph o0 h0
  obtain ⟨l, hL⟩ := open_strs o1 h1
  exact gshapes_any vn ve v1 ns es l W hN hS hL
end Go.Proofs.Ytlhekldlfmdmiaa
