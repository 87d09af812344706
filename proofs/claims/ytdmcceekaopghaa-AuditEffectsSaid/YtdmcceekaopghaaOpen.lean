/-
  Arguments of layer 52 that can be read as data lie in memory as steps and events. Conditions: the readings.
-/
import Derived.Test.YtdmcceekaopghaaAwake
namespace Go.Proofs.Ytdmcceekaopghaa
open Go.RowKit Go.Sort Go.ChangeShapes Go.WideShapes Go.ChangeAt

theorem cInt : Try.prog.cellsOf 3 = 1 := by kernel_rfl
theorem cStr : Try.prog.cellsOf 9 = 1 := by kernel_rfl
theorem cOp : Try.prog.cellsOf 32 = 1 := by kernel_rfl
theorem cKind : Try.prog.cellsOf 31 = 1 := by kernel_rfl
theorem cErr : Try.prog.cellsOf 26 = 1 := by kernel_rfl
theorem cInts : Try.prog.cellsOf 30 = 1 := by kernel_rfl
theorem cStep : Try.prog.cellsOf 70 = 3 := by kernel_rfl
theorem cEvent : Try.prog.cellsOf 34 = 6 := by kernel_rfl

theorem list3 {cs : List Value} {a b c : Value} (h : cs.length = 3) (h0 : cs[0]? = some a) (h1 : cs[1]? = some b) (h2 : cs[2]? = some c) : cs = [a, b, c] := by
  match cs, h with
  | [x, y, z], _ => simp at h0 h1 h2; subst h0 h1 h2; rfl
theorem list6 {cs : List Value} {a b c d e f : Value} (h : cs.length = 6) (h0 : cs[0]? = some a) (h1 : cs[1]? = some b) (h2 : cs[2]? = some c) (h3 : cs[3]? = some d) (h4 : cs[4]? = some e) (h5 : cs[5]? = some f) : cs = [a, b, c, d, e, f] := by
  match cs, h with
  | [x, y, z, u, v, t], _ => simp at h0 h1 h2 h3 h4 h5; subst h0 h1 h2 h3 h4 h5; rfl

theorem stR_of_trod {H : Type} {enc : TypeId × Value → H} {w : World} : ∀ fuel cs (y : DataW H × List MemPlace), cs.length = 3 → DataW.trod enc Try.prog w 0 (fun _ => true) true fuel 70 cs = some y → ∃ z, StR w cs z := by
  intro fuel cs y hl h
  obtain ⟨_, hf⟩ := struct_of_trod Try.underlying70 h
  obtain ⟨_, _, h0⟩ : ∃ fuel' y', DataW.trod enc Try.prog w 0 (fun _ => true) true fuel' 3 ((cs.drop 0).take (Try.prog.cellsOf 3)) = some y' := hf 0 _ rfl
  rw [cInt] at h0
  obtain ⟨_, _, h1⟩ : ∃ fuel' y', DataW.trod enc Try.prog w 0 (fun _ => true) true fuel' 32 ((cs.drop 1).take (Try.prog.cellsOf 32)) = some y' := hf 1 _ rfl
  rw [cOp] at h1
  obtain ⟨_, _, h2⟩ : ∃ fuel' y', DataW.trod enc Try.prog w 0 (fun _ => true) true fuel' 30 ((cs.drop 2).take (Try.prog.cellsOf 30)) = some y' := hf 2 _ rfl
  rw [cInts] at h2
  obtain ⟨a, e0, _⟩ := field_int Try.underlying3 h0
  obtain ⟨b, e1, _⟩ := field_int Try.underlying32 h1
  obtain ⟨v, xs, e2, hS⟩ := field_slice IntR Try.underlying30 cInt (by omega) (by omega) (intR_of_trod Try.underlying3) h2
  exact ⟨⟨a, b, xs⟩, v, list3 hl e0 e1 e2, hS⟩

theorem evR_of_trod {H : Type} {enc : TypeId × Value → H} {w : World} : ∀ fuel cs (y : DataW H × List MemPlace), cs.length = 6 → DataW.trod enc Try.prog w 0 (fun _ => true) true fuel 34 cs = some y → ∃ z, EvR w cs z := by
  intro fuel cs y hl h
  obtain ⟨_, hf⟩ := struct_of_trod Try.underlying34 h
  obtain ⟨_, _, h0⟩ : ∃ fuel' y', DataW.trod enc Try.prog w 0 (fun _ => true) true fuel' 31 ((cs.drop 0).take (Try.prog.cellsOf 31)) = some y' := hf 0 _ rfl
  rw [cKind] at h0
  obtain ⟨_, _, h1⟩ : ∃ fuel' y', DataW.trod enc Try.prog w 0 (fun _ => true) true fuel' 3 ((cs.drop 1).take (Try.prog.cellsOf 3)) = some y' := hf 1 _ rfl
  rw [cInt] at h1
  obtain ⟨_, _, h2⟩ : ∃ fuel' y', DataW.trod enc Try.prog w 0 (fun _ => true) true fuel' 32 ((cs.drop 2).take (Try.prog.cellsOf 32)) = some y' := hf 2 _ rfl
  rw [cOp] at h2
  obtain ⟨_, _, h3⟩ : ∃ fuel' y', DataW.trod enc Try.prog w 0 (fun _ => true) true fuel' 9 ((cs.drop 3).take (Try.prog.cellsOf 9)) = some y' := hf 3 _ rfl
  rw [cStr] at h3
  obtain ⟨_, _, h4⟩ : ∃ fuel' y', DataW.trod enc Try.prog w 0 (fun _ => true) true fuel' 9 ((cs.drop 4).take (Try.prog.cellsOf 9)) = some y' := hf 4 _ rfl
  rw [cStr] at h4
  obtain ⟨_, _, h5⟩ : ∃ fuel' y', DataW.trod enc Try.prog w 0 (fun _ => true) true fuel' 26 ((cs.drop 5).take (Try.prog.cellsOf 26)) = some y' := hf 5 _ rfl
  rw [cErr] at h5
  obtain ⟨a, e0, _⟩ := field_int Try.underlying31 h0
  obtain ⟨b, e1, _⟩ := field_int Try.underlying3 h1
  obtain ⟨c, e2, _⟩ := field_int Try.underlying32 h2
  obtain ⟨d, e3, _⟩ := field_str Try.underlying9 h3
  obtain ⟨e, e4, _⟩ := field_str Try.underlying9 h4
  obtain ⟨f, e5, _⟩ := field_int Try.underlying26 h5
  exact ⟨⟨a, b, c, d, e, f⟩, list6 hl e0 e1 e2 e3 e4 e5⟩

set_option maxRecDepth 100000 in
theorem open_steps {H : Type} {enc : TypeId × Value → H} {W : World} {base : Nat} {v : Value} {d : DataW H} {p : List MemPlace}
    (o : Value.okWide Try.prog W .any base 22 v) (h : DataW.Trod enc Try.prog W 0 (fun _ => true) true 22 v d p) : ∃ ss, Sl StR 3 W v ss := by
  obtain ⟨a, len, cap, rfl⟩ := okWide_slice Try.underlying22 o
  obtain ⟨fuel, hf⟩ := h
  exact sl_of_trod StR Try.underlying22 cStep (by omega) stR_of_trod hf
set_option maxRecDepth 100000 in
theorem open_events {H : Type} {enc : TypeId × Value → H} {W : World} {base : Nat} {v : Value} {d : DataW H} {p : List MemPlace}
    (o : Value.okWide Try.prog W .any base 23 v) (h : DataW.Trod enc Try.prog W 0 (fun _ => true) true 23 v d p) : ∃ es, Sl EvR 6 W v es := by
  obtain ⟨a, len, cap, rfl⟩ := okWide_slice Try.underlying23 o
  obtain ⟨fuel, hf⟩ := h
  exact sl_of_trod EvR Try.underlying23 cEvent (by omega) evR_of_trod hf
end Go.Proofs.Ytdmcceekaopghaa
