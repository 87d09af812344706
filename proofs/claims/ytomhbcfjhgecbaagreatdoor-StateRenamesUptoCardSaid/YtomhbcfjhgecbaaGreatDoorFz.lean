import Derived.Test.YtomhbcfjhgecbaaGreatDoorTie
import Derived.Test.YtomhbcfjhgecbaaGreatDoorCards
import Derived.Test.YtomhbcfjhgecbaaGreatDoorN2
import Derived.Test.YtomhbcfjhgecbaaGreatDoorShelx
import Derived.Lib.LaidIn
import Derived.Lib.LaidU8T
import Derived.ProofKit
import Derived.OpenShut
import Derived.ShutString
import Derived.ChangeOld
import Derived.SevenTiedAt
/-
  What all statements of the layer share: the library's tables and errors lie in the world when the call begins; a world in which they lie; arguments that can be read. No conditions beyond those ahead of each theorem.
-/
namespace Go.Proofs.YtomhbcfjhgecbaaGreatDoor
open Go.ChangeShapes Go.WideShapes Go.ChangeAt Go.RowKit Go.Lib Go.Shelf
open Adr (WT)
set_option linter.unusedVariables false
set_option linter.unusedSimpArgs false

theorem own7 : ownKnob Tryz.prog.godebug = none := by kernel_rfl
theorem laidOut7 : laidOutB Tryz.prog = true := by kernel_rfl
def LD : List (String × DataW Unit) := Rows.stateEqualRow.laid
theorem first_eq : Rows.laid_unicode_utf8_first = Lib.firstData := by kernel_rfl
theorem accept_eq : (Rows.laid_unicode_utf8_acceptRanges : DataW Unit) = Lib.acceptData := by kernel_rfl
theorem bruijn_eq : (Rows.laid_math_bits_deBruijn64tab : DataW Unit) = Lib.tabData .u8 (Lib.deBruijn64tab.map fun (n : Nat) => (n : Int)) := by kernel_rfl
theorem iface_of_trod {H : Type} {enc : TypeId × Value → H} {P : Program} {w : World} {base : Nat} {sp : Nat → Bool} {held : Bool} {t : TypeId} {ms : Array (String × TypeId)} {fuel : Nat} {cs : List Value} {y : DataW H × List MemPlace}
    (hi : P.underlying t = some (.interface ms)) (h : DataW.trod enc P w base sp held fuel t cs = some y) : ∃ v, cs = [v] ∧ (v = .nilIface ∨ ∃ u x, v = .iface u x) := by
  cases fuel with
  | zero => simp [DataW.trod] at h
  | succ n =>
    unfold DataW.trod at h
    simp only [hi] at h
    split at h
    all_goals first
      | exact ⟨_, rfl, Or.inl rfl⟩
      | exact ⟨_, rfl, Or.inr ⟨_, _, rfl⟩⟩
      | (exfalso; simp at *; done)
      | (cases h; done)
theorem ut_of_laid {W : World} (h : laidMet Tryz.prog LD W) : WT W := by
  have h1 : VarReads Tryz.prog W _ Rows.laid_unicode_utf8_first := Lib.laidMet.reads h (.tail _ (.tail _ (.tail _ (.tail _ (.tail _ (.tail _ (.head _)))))))
  have h2 : VarReads Tryz.prog W _ Rows.laid_unicode_utf8_acceptRanges := Lib.laidMet.reads h (.tail _ (.tail _ (.tail _ (.head _))))
  have h3 : VarReads Tryz.prog W _ Rows.laid_math_bits_deBruijn64tab := Lib.laidMet.reads h (.tail _ (.head _))
  have h4 : VarReads Tryz.prog W _ Rows.laid_strconv_ErrRange := Lib.laidMet.reads h (.tail _ (.tail _ (.tail _ (.tail _ (.head _)))))
  rw [first_eq] at h1
  rw [accept_eq] at h2
  rw [bruijn_eq] at h3
  refine ⟨utf8Tabs_of_readsT (U8Types.of260 Tryz.lays260) ⟨by kernel_rfl, by kernel_rfl, by kernel_rfl, by kernel_rfl, by kernel_rfl, by kernel_rfl, by kernel_rfl⟩ h1 h2, ?_, ?_⟩
  · obtain ⟨g, t, cs, fuel, p, hg, hty, hvar, hd⟩ := h3
    obtain rfl := Option.some.inj ((show Tryz.prog.globalNamed "math/bits.deBruijn64tab" = some 7 by kernel_rfl).symm.trans hg)
    obtain rfl := Option.some.inj ((show (Tryz.prog.globals[7]?).map (·.type) = some 267 by kernel_rfl).symm.trans hty)
    have hcs := Lib.cells_of_tab Tryz.underlying267 Tryz.underlying5 (by kernel_rfl) (by kernel_rfl) hd
    intro j hj
    rw [World.var?_cell hg hvar j, ← Array.getElem?_toList, hcs, List.getElem?_map, List.getElem?_map, List.getD_eq_getElem?_getD, List.getElem?_eq_getElem hj]
    rfl
  · obtain ⟨g, t, cs, fuel, p, hg, hty, hvar, hd⟩ := h4
    obtain rfl := Option.some.inj ((show Tryz.prog.globalNamed "strconv.ErrRange" = some 5 by kernel_rfl).symm.trans hg)
    obtain rfl := Option.some.inj ((show (Tryz.prog.globals[5]?).map (·.type) = some 188 by kernel_rfl).symm.trans hty)
    obtain ⟨v, hv, h5⟩ := iface_of_trod Tryz.underlying188 hd
    exact ⟨v, by rw [World.var?_cell hg hvar 0, ← Array.getElem?_toList, hv]; rfl, h5⟩

/-- A world in which the tables and the errors lie as their initialisers lay them. -/
noncomputable def laidWorld (os : Os) : World :=
  let w0 := World.holding Tryz.prog os ⟨#[], #[], []⟩
  let put (h : Array Obj) (g : Nat) (cs : Array Value) : Array Obj := h.modify g fun
    | .cells _ t frozen => .cells cs t frozen
    | o => o
  let tab (l : List Nat) : Array Value := (l.map fun (z : Nat) => Value.int .u8 z).toArray
  let h1 := put w0.heap 0 (Lib.firstTab.map fun z => Value.int .u8 z).toArray
  let h2 := put h1 1 ((List.range 16).flatMap fun i => [Value.int .u8 (Lib.accLo i), Value.int .u8 (Lib.accHi i)]).toArray
  let h3 := put h2 7 (tab Lib.deBruijn64tab)
  let h4 := put h3 6 (tab Lib.deBruijn32tab)
  let h5 := put h4 3 ((List.range 20).map fun i => Value.int .u64 ((10 ^ i : Nat) : Int)).toArray
  let n := h5.size
  let h6 := put h5 5 #[.iface 263 (.pointer (some ⟨n, 0, none⟩))]
  let h7 := put h6 4 #[.iface 263 (.pointer (some ⟨n + 1, 0, none⟩))]
  let h8 := (h7.push (.cells #[.string ⟨#[118, 97, 108, 117, 101, 32, 111, 117, 116, 32, 111, 102, 32, 114, 97, 110, 103, 101]⟩] 265 (0, 0))).push (.cells #[.string ⟨#[105, 110, 118, 97, 108, 105, 100, 32, 115, 121, 110, 116, 97, 120]⟩] 265 (0, 0))
  { w0 with heap := h8 }
def laidBlocks : List Nat := List.range 40
theorem laid_met (os : Os) (args : Array Value) : laidMet Tryz.prog LD ((laidWorld os).forCall (fun _ _ => 0) ⟨#[], args, []⟩).memory :=
  (LaidIn.of_run (l := LD) laidBlocks 8 (by kernel_rfl) (by kernel_rfl) (by kernel_rfl) (by kernel_rfl)).met
theorem laid_shaped (os : Os) (args : Array Value) : ((laidWorld os).forCall (fun _ _ => 0) ⟨#[], args, []⟩).Shaped Tryz.prog := World.shaped_of_RefB (by kernel_rfl) (by kernel_rfl)

end Go.Proofs.YtomhbcfjhgecbaaGreatDoor
