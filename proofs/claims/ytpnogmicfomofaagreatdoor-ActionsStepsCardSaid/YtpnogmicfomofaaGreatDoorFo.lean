import Derived.Test.YtpnogmicfomofaaGreatDoorFt
import Derived.Test.YtpnogmicfomofaaGreatDoorZc
/-
  Arguments of layer 44 that can be read as data lie in memory as steps. Conditions: the readings.
-/
namespace Go.Proofs.YtpnogmicfomofaaGreatDoor.Stp
open Go.RowKit Go.Sort Go.ChangeShapes Go.WideShapes Go.ChangeAt
set_option linter.unusedVariables false
set_option linter.unusedSimpArgs false

theorem cInt : Tryz.prog.cellsOf 3 = 1 := by kernel_rfl
theorem cOp : Tryz.prog.cellsOf 46 = 1 := by kernel_rfl
theorem cInts : Tryz.prog.cellsOf 40 = 1 := by kernel_rfl
theorem cStep : Tryz.prog.cellsOf 48 = 3 := by kernel_rfl
theorem list3 {cs : List Value} {a b c : Value} (h : cs.length = 3) (h0 : cs[0]? = some a) (h1 : cs[1]? = some b) (h2 : cs[2]? = some c) : cs = [a, b, c] := by
  match cs, h with
  | [x, y, z], _ => simp at h0 h1 h2; subst h0 h1 h2; rfl
theorem stR_of_trod {H : Type} {enc : TypeId × Value → H} {w : World} : ∀ fuel cs (y : DataW H × List MemPlace), cs.length = 3 → DataW.trod enc Tryz.prog w 0 (fun _ => true) true fuel 48 cs = some y → ∃ z, StR w cs z := by
  intro fuel cs y hl h
  obtain ⟨_, hf⟩ := struct_of_trod Tryz.underlying48 h
  obtain ⟨_, _, h0⟩ : ∃ fuel' y', DataW.trod enc Tryz.prog w 0 (fun _ => true) true fuel' 3 ((cs.drop 0).take (Tryz.prog.cellsOf 3)) = some y' := hf 0 _ rfl
  rw [cInt] at h0
  obtain ⟨_, _, h1⟩ : ∃ fuel' y', DataW.trod enc Tryz.prog w 0 (fun _ => true) true fuel' 46 ((cs.drop 1).take (Tryz.prog.cellsOf 46)) = some y' := hf 1 _ rfl
  rw [cOp] at h1
  obtain ⟨_, _, h2⟩ : ∃ fuel' y', DataW.trod enc Tryz.prog w 0 (fun _ => true) true fuel' 40 ((cs.drop 2).take (Tryz.prog.cellsOf 40)) = some y' := hf 2 _ rfl
  rw [cInts] at h2
  obtain ⟨a, e0, w0⟩ := field_int Tryz.underlying3 h0
  obtain ⟨b, e1, w1⟩ := field_int Tryz.underlying46 h1
  obtain ⟨v, xs, e2, hS⟩ := field_slice IntR Tryz.underlying40 cInt (by omega) (by omega) (intR_of_trod Tryz.underlying3) h2
  exact ⟨⟨a, b, xs⟩, v, list3 hl e0 e1 e2, hS, bounds_i64 w0, bounds_i64 w1⟩
set_option maxRecDepth 100000 in
theorem open_steps {H : Type} {enc : TypeId × Value → H} {W : World} {base : Nat} {v : Value} {d : DataW H} {p : List MemPlace}
    (o : Value.okWide Tryz.prog W .any base 34 v) (h : DataW.Trod enc Tryz.prog W 0 (fun _ => true) true 34 v d p) : ∃ ss, Sl StR 3 W v ss := by
  obtain ⟨a, len, cap, rfl⟩ := okWide_slice Tryz.underlying34 o
  obtain ⟨fuel, hf⟩ := h
  exact sl_of_trod StR Tryz.underlying34 cStep (by omega) stR_of_trod hf
end Go.Proofs.YtpnogmicfomofaaGreatDoor.Stp
