import Derived.Test.YtedpdpcibkceeaaDoorTie
import Derived.Test.YtedpdpcibkceeaaDoorCards
import Derived.Test.YtedpdpcibkceeaaDoorLawK
import Derived.Lib.LaidIn
import Derived.Lib.LaidU8T
import Derived.ProofKit
import Derived.OpenShut
import Derived.ShutString
import Derived.ChangeOld
import Derived.SevenTiedAt
/-
  What all statements of the layer share: the two tables of the library lie in the world when the call begins; a world in which they lie; a value argument that can be read. No conditions beyond those ahead of each theorem.
-/
namespace Go.Proofs.YtedpdpcibkceeaaDoor
open Go.ChangeShapes Go.WideShapes Go.ChangeAt Go.RowKit Go.Lib
set_option linter.unusedVariables false
set_option linter.unusedSimpArgs false

theorem own7 : ownKnob Tryd.prog.godebug = none := by kernel_rfl
theorem laidOut7 : laidOutB Tryd.prog = true := by kernel_rfl
def LD : List (String × DataW Unit) := Rows.valueCheckRow.laid
theorem first_eq : Rows.laid_unicode_utf8_first = Lib.firstData := by kernel_rfl
theorem accept_eq : (Rows.laid_unicode_utf8_acceptRanges : DataW Unit) = Lib.acceptData := by kernel_rfl
theorem ut_of_laid {W : World} (h : laidMet Tryd.prog LD W) : UT W := by
  have h1 : VarReads Tryd.prog W _ Rows.laid_unicode_utf8_first := Lib.laidMet.reads h (.tail _ (.head _))
  have h2 : VarReads Tryd.prog W _ Rows.laid_unicode_utf8_acceptRanges := Lib.laidMet.reads h (.head _)
  rw [first_eq] at h1
  rw [accept_eq] at h2
  exact utf8Tabs_of_readsT (U8Types.of196 Tryd.lays196) ⟨by kernel_rfl, by kernel_rfl, by kernel_rfl, by kernel_rfl, by kernel_rfl, by kernel_rfl, by kernel_rfl⟩ h1 h2

/-- A world in which the two tables lie as their initialisers lay them. -/
noncomputable def laidWorld (os : Os) : World :=
  let w0 := World.holding Tryd.prog os ⟨#[], #[], []⟩
  let put (h : Array Obj) (g : Nat) (cs : Array Value) : Array Obj := h.modify g fun
    | .cells _ t frozen => .cells cs t frozen
    | o => o
  let h1 := put w0.heap 1 (Lib.firstTab.map fun z => Value.int .u8 z).toArray
  let h2 := put h1 2 ((List.range 16).flatMap fun i => [Value.int .u8 (Lib.accLo i), Value.int .u8 (Lib.accHi i)]).toArray
  { w0 with heap := h2 }
theorem laid_met (os : Os) (args : Array Value) : laidMet Tryd.prog LD ((laidWorld os).forCall (fun _ _ => 0) ⟨#[], args, []⟩).memory :=
  (LaidIn.of_run (l := LD) [1, 2] 8 (by kernel_rfl) (by kernel_rfl) (by kernel_rfl) (by kernel_rfl)).met
theorem laid_shaped (os : Os) (args : Array Value) : ((laidWorld os).forCall (fun _ _ => 0) ⟨#[], args, []⟩).Shaped Tryd.prog := World.shaped_of_RefB (by kernel_rfl) (by kernel_rfl)

theorem reach_eq : reachBytes = 140737488351232 := by kernel_rfl
theorem weights_of {H : Type} {P : Program} {ts : List TypeId} {l : List (DataW H)} (h : (DataW.weightsEach P ts l).all (· ≤ reachBytes) = true) {k : Nat} {t : TypeId} {d : DataW H} (h1 : ts[k]? = some t) (h2 : l[k]? = some d) : Wt P t d := fun m hm => by
  have h3 := List.all_eq_true.1 h m (weightsEach_mem h1 h2 hm)
  rw [decide_eq_true_eq, reach_eq] at h3
  exact h3
theorem value_cells {W : World} : ∀ (fuel : Nat) (cs : List Value) {H : Type} {enc : TypeId × Value → H} (y : DataW H × List MemPlace), cs.length = 5 → Wt Tryd.prog 26 y.1 → DataW.trod enc Tryd.prog W 0 (fun _ => true) true fuel 26 cs = some y → ∃ x, VR W cs x := fun fuel cs H enc y =>
  vr_of_trod Tryd.underlying26 (by kernel_rfl) ⟨_, rfl, rfl, rfl⟩ ⟨_, rfl, rfl, rfl⟩ ⟨_, rfl, rfl, rfl⟩ ⟨_, rfl, rfl, rfl⟩ ⟨_, rfl, rfl, rfl⟩ Tryd.underlying22 (by kernel_rfl) Tryd.underlying3 (by kernel_rfl) Tryd.underlying9 (by kernel_rfl) Tryd.underlying23 (by kernel_rfl) Tryd.underlying24 (by kernel_rfl) (by kernel_rfl) (by kernel_rfl) fuel cs y
set_option maxRecDepth 100000 in
/-- A value argument. -/
theorem value_arg {H : Type} {enc : TypeId × Value → H} {W : World} {base : Nat} {v : Value} {d : DataW H} {p : List MemPlace} (o : Value.okWide Tryd.prog W .any base 26 v) (h : DataW.Trod enc Tryd.prog W 0 (fun _ => true) true 26 v d p) (hw : Wt Tryd.prog 26 d) :
    ∃ x r c rk ck, v = .agg #[.int .i64 x.kind, .int .i64 x.num, .string x.str, .slice r x.items.length c, .slice rk x.keys.length ck] ∧ VR5 W r c rk ck x := by
  obtain ⟨cs, rfl, hsz⟩ := okWide_struct Tryd.underlying26 o
  obtain ⟨fuel, hf⟩ := h
  have hc : Tryd.prog.cellsOf 26 = 5 := by kernel_rfl
  have hcs : (Value.agg cs).cells = cs := rfl
  rw [hcs] at hf
  obtain ⟨x, hx⟩ := value_cells fuel cs.toList (d, p) (by simpa [hc] using hsz) hw hf
  obtain ⟨r, c, rk, ck, e, h5⟩ := hx.five
  refine ⟨x, r, c, rk, ck, ?_, h5⟩
  have : cs = #[.int .i64 x.kind, .int .i64 x.num, .string x.str, .slice r x.items.length c, .slice rk x.keys.length ck] := by
    cases cs; simpa using e
  rw [this]
end Go.Proofs.YtedpdpcibkceeaaDoor
