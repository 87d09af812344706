/-
  Arguments of layer 52 that can be read as data: states and objects. Conditions: the readings.
-/
import Derived.Test.YtdmcceekaopghaaOpen
import Derived.Test.YtdmcceekaopghaaOwnBy
import Derived.Lib.SmallJoins
namespace Go.Proofs.Ytdmcceekaopghaa
open Go.RowKit Go.Sort Go.ChangeShapes Go.WideShapes Go.ChangeAt

theorem cInst : Try.prog.cellsOf 55 = 13 := by kernel_rfl
theorem cObj : Try.prog.cellsOf 57 = 9 := by kernel_rfl
theorem cPend : Try.prog.cellsOf 81 = 3 := by kernel_rfl
theorem cState : Try.prog.cellsOf 42 = 5 := by kernel_rfl
theorem cVal : Try.prog.cellsOf 53 = 5 := by kernel_rfl
theorem cBool : Try.prog.cellsOf 4 = 1 := by kernel_rfl
theorem cVKind : Try.prog.cellsOf 50 = 1 := by kernel_rfl
theorem cVals : Try.prog.cellsOf 51 = 1 := by kernel_rfl
theorem cStrs : Try.prog.cellsOf 44 = 1 := by kernel_rfl
theorem cInsts : Try.prog.cellsOf 38 = 1 := by kernel_rfl
theorem cPends : Try.prog.cellsOf 39 = 1 := by kernel_rfl
theorem cOuts : Try.prog.cellsOf 40 = 1 := by kernel_rfl

theorem list_fit {cs l : List Value} (hl : cs.length = l.length) (h : ∀ i, i < l.length → cs[i]? = l[i]?) : cs = l := by
  apply List.ext_getElem?
  intro i
  by_cases hi : i < l.length
  · exact h i hi
  · rw [List.getElem?_eq_none (by omega), List.getElem?_eq_none (by omega)]
theorem sub_cell {cs : List Value} {o n k : Nat} {v : Value} (hk : k < n) (h : ((cs.drop o).take n)[k]? = some v) : cs[o + k]? = some v := by
  rw [List.getElem?_take, if_pos hk, List.getElem?_drop] at h
  exact h
theorem field_sv {H : Type} {enc : TypeId × Value → H} {P : Program} {w : World} {T E : TypeId} {fuel o : Nat} {cs : List Value} {y : DataW H × List MemPlace}
    (hT : P.underlying T = some (.slice E)) (h : DataW.trod enc P w 0 (fun _ => true) true fuel T ((cs.drop o).take 1) = some y) : ∃ s : Sv, cs[o]? = some s.val := by
  obtain ⟨a, l, c, e⟩ := Go.Joins.slice_form hT h
  exact ⟨⟨a, l, c⟩, cell_of_field e⟩
def Vl.cells (x : Vl) : List Value := [.int .i64 x.kind, .int .i64 x.num, .string x.str, x.items.val, x.keys.val]

theorem vl_of_trod {H : Type} {enc : TypeId × Value → H} {w : World} : ∀ fuel cs (y : DataW H × List MemPlace), cs.length = 5 → DataW.trod enc Try.prog w 0 (fun _ => true) true fuel 53 cs = some y → ∃ z : Vl, cs = z.cells := by
  intro fuel cs y hl h
  obtain ⟨_, hf⟩ := struct_of_trod Try.underlying53 h
  obtain ⟨_, _, h0⟩ : ∃ fuel' y', DataW.trod enc Try.prog w 0 (fun _ => true) true fuel' 50 ((cs.drop 0).take (Try.prog.cellsOf 50)) = some y' := hf 0 _ rfl
  rw [cVKind] at h0
  obtain ⟨_, _, h1⟩ : ∃ fuel' y', DataW.trod enc Try.prog w 0 (fun _ => true) true fuel' 3 ((cs.drop 1).take (Try.prog.cellsOf 3)) = some y' := hf 1 _ rfl
  rw [cInt] at h1
  obtain ⟨_, _, h2⟩ : ∃ fuel' y', DataW.trod enc Try.prog w 0 (fun _ => true) true fuel' 9 ((cs.drop 2).take (Try.prog.cellsOf 9)) = some y' := hf 2 _ rfl
  rw [cStr] at h2
  obtain ⟨_, _, h3⟩ : ∃ fuel' y', DataW.trod enc Try.prog w 0 (fun _ => true) true fuel' 51 ((cs.drop 3).take (Try.prog.cellsOf 51)) = some y' := hf 3 _ rfl
  rw [cVals] at h3
  obtain ⟨_, _, h4⟩ : ∃ fuel' y', DataW.trod enc Try.prog w 0 (fun _ => true) true fuel' 44 ((cs.drop 4).take (Try.prog.cellsOf 44)) = some y' := hf 4 _ rfl
  rw [cStrs] at h4
  obtain ⟨v0, e0, _⟩ := field_int Try.underlying50 h0
  obtain ⟨v1, e1, _⟩ := field_int Try.underlying3 h1
  obtain ⟨v2, e2, s2⟩ := field_str Try.underlying9 h2
  obtain ⟨v3, e3⟩ := field_sv Try.underlying51 h3
  obtain ⟨v4, e4⟩ := field_sv Try.underlying44 h4
  refine ⟨⟨v0, v1, v2, v3, v4⟩, list_fit (by rw [hl]; rfl) (fun i hi => ?_)⟩
  match i, hi with
  | 0, _ => exact e0
  | 1, _ => exact e1
  | 2, _ => exact e2
  | 3, _ => exact e3
  | 4, _ => exact e4
  | k + 5, hi => exact absurd (show k + 5 < 5 from hi) (by omega)

def ObX (w : World) (cs : List Value) (x : Ob) : Prop := ObR w cs x ∧ x.id.size ≤ maxLen
def InX (w : World) (cs : List Value) (x : In) : Prop := InR w cs x ∧ x.id.size ≤ maxLen

theorem obX_of_trod {H : Type} {enc : TypeId × Value → H} {w : World} : ∀ fuel cs (y : DataW H × List MemPlace), cs.length = 9 → DataW.trod enc Try.prog w 0 (fun _ => true) true fuel 57 cs = some y → ∃ z, ObX w cs z := by
  intro fuel cs y hl h
  obtain ⟨_, hf⟩ := struct_of_trod Try.underlying57 h
  obtain ⟨_, _, h0⟩ : ∃ fuel' y', DataW.trod enc Try.prog w 0 (fun _ => true) true fuel' 9 ((cs.drop 0).take (Try.prog.cellsOf 9)) = some y' := hf 0 _ rfl
  rw [cStr] at h0
  obtain ⟨_, _, h1⟩ : ∃ fuel' y', DataW.trod enc Try.prog w 0 (fun _ => true) true fuel' 9 ((cs.drop 1).take (Try.prog.cellsOf 9)) = some y' := hf 1 _ rfl
  rw [cStr] at h1
  obtain ⟨_, _, h2⟩ : ∃ fuel' y', DataW.trod enc Try.prog w 0 (fun _ => true) true fuel' 9 ((cs.drop 2).take (Try.prog.cellsOf 9)) = some y' := hf 2 _ rfl
  rw [cStr] at h2
  obtain ⟨_, _, h3⟩ : ∃ fuel' y', DataW.trod enc Try.prog w 0 (fun _ => true) true fuel' 53 ((cs.drop 3).take (Try.prog.cellsOf 53)) = some y' := hf 3 _ rfl
  rw [cVal] at h3
  obtain ⟨_, _, h4⟩ : ∃ fuel' y', DataW.trod enc Try.prog w 0 (fun _ => true) true fuel' 3 ((cs.drop 8).take (Try.prog.cellsOf 3)) = some y' := hf 4 _ rfl
  rw [cInt] at h4
  obtain ⟨v0, e0, s0⟩ := field_str Try.underlying9 h0
  obtain ⟨v1, e1, s1⟩ := field_str Try.underlying9 h1
  obtain ⟨v2, e2, s2⟩ := field_str Try.underlying9 h2
  obtain ⟨v3, e3⟩ := vl_of_trod _ _ _ (by simp; omega) h3
  obtain ⟨v4, e4, _⟩ := field_int Try.underlying3 h4
  refine ⟨⟨v0, v1, v2, v3, v4⟩, list_fit (by rw [hl]; rfl) (fun i hi => ?_), s0⟩
  match i, hi with
  | 0, _ => exact e0
  | 1, _ => exact e1
  | 2, _ => exact e2
  | 3, _ => exact sub_cell (o := 3) (k := 0) (n := 5) (by omega) (by rw [e3]; rfl)
  | 4, _ => exact sub_cell (o := 3) (k := 1) (n := 5) (by omega) (by rw [e3]; rfl)
  | 5, _ => exact sub_cell (o := 3) (k := 2) (n := 5) (by omega) (by rw [e3]; rfl)
  | 6, _ => exact sub_cell (o := 3) (k := 3) (n := 5) (by omega) (by rw [e3]; rfl)
  | 7, _ => exact sub_cell (o := 3) (k := 4) (n := 5) (by omega) (by rw [e3]; rfl)
  | 8, _ => exact e4
  | k + 9, hi => exact absurd (show k + 9 < 9 from hi) (by omega)

theorem peR_of_trod {H : Type} {enc : TypeId × Value → H} {w : World} : ∀ fuel cs (y : DataW H × List MemPlace), cs.length = 3 → DataW.trod enc Try.prog w 0 (fun _ => true) true fuel 81 cs = some y → ∃ z, PeR w cs z := by
  intro fuel cs y hl h
  obtain ⟨_, hf⟩ := struct_of_trod Try.underlying81 h
  obtain ⟨_, _, h0⟩ : ∃ fuel' y', DataW.trod enc Try.prog w 0 (fun _ => true) true fuel' 9 ((cs.drop 0).take (Try.prog.cellsOf 9)) = some y' := hf 0 _ rfl
  rw [cStr] at h0
  obtain ⟨_, _, h1⟩ : ∃ fuel' y', DataW.trod enc Try.prog w 0 (fun _ => true) true fuel' 9 ((cs.drop 1).take (Try.prog.cellsOf 9)) = some y' := hf 1 _ rfl
  rw [cStr] at h1
  obtain ⟨_, _, h2⟩ : ∃ fuel' y', DataW.trod enc Try.prog w 0 (fun _ => true) true fuel' 9 ((cs.drop 2).take (Try.prog.cellsOf 9)) = some y' := hf 2 _ rfl
  rw [cStr] at h2
  obtain ⟨v0, e0, s0⟩ := field_str Try.underlying9 h0
  obtain ⟨v1, e1, s1⟩ := field_str Try.underlying9 h1
  obtain ⟨v2, e2, s2⟩ := field_str Try.underlying9 h2
  refine ⟨⟨v0, v1, v2⟩, list_fit (by rw [hl]; rfl) (fun i hi => ?_)⟩
  match i, hi with
  | 0, _ => exact e0
  | 1, _ => exact e1
  | 2, _ => exact e2
  | k + 3, hi => exact absurd (show k + 3 < 3 from hi) (by omega)

theorem inX_of_trod {H : Type} {enc : TypeId × Value → H} {w : World} : ∀ fuel cs (y : DataW H × List MemPlace), cs.length = 13 → DataW.trod enc Try.prog w 0 (fun _ => true) true fuel 55 cs = some y → ∃ z, InX w cs z := by
  intro fuel cs y hl h
  obtain ⟨_, hf⟩ := struct_of_trod Try.underlying55 h
  obtain ⟨_, _, h0⟩ : ∃ fuel' y', DataW.trod enc Try.prog w 0 (fun _ => true) true fuel' 9 ((cs.drop 0).take (Try.prog.cellsOf 9)) = some y' := hf 0 _ rfl
  rw [cStr] at h0
  obtain ⟨_, _, h1⟩ : ∃ fuel' y', DataW.trod enc Try.prog w 0 (fun _ => true) true fuel' 9 ((cs.drop 1).take (Try.prog.cellsOf 9)) = some y' := hf 1 _ rfl
  rw [cStr] at h1
  obtain ⟨_, _, h2⟩ : ∃ fuel' y', DataW.trod enc Try.prog w 0 (fun _ => true) true fuel' 9 ((cs.drop 2).take (Try.prog.cellsOf 9)) = some y' := hf 2 _ rfl
  rw [cStr] at h2
  obtain ⟨_, _, h3⟩ : ∃ fuel' y', DataW.trod enc Try.prog w 0 (fun _ => true) true fuel' 9 ((cs.drop 3).take (Try.prog.cellsOf 9)) = some y' := hf 3 _ rfl
  rw [cStr] at h3
  obtain ⟨_, _, h4⟩ : ∃ fuel' y', DataW.trod enc Try.prog w 0 (fun _ => true) true fuel' 53 ((cs.drop 4).take (Try.prog.cellsOf 53)) = some y' := hf 4 _ rfl
  rw [cVal] at h4
  obtain ⟨_, _, h5⟩ : ∃ fuel' y', DataW.trod enc Try.prog w 0 (fun _ => true) true fuel' 3 ((cs.drop 9).take (Try.prog.cellsOf 3)) = some y' := hf 5 _ rfl
  rw [cInt] at h5
  obtain ⟨_, _, h6⟩ : ∃ fuel' y', DataW.trod enc Try.prog w 0 (fun _ => true) true fuel' 4 ((cs.drop 10).take (Try.prog.cellsOf 4)) = some y' := hf 6 _ rfl
  rw [cBool] at h6
  obtain ⟨_, _, h7⟩ : ∃ fuel' y', DataW.trod enc Try.prog w 0 (fun _ => true) true fuel' 4 ((cs.drop 11).take (Try.prog.cellsOf 4)) = some y' := hf 7 _ rfl
  rw [cBool] at h7
  obtain ⟨_, _, h8⟩ : ∃ fuel' y', DataW.trod enc Try.prog w 0 (fun _ => true) true fuel' 44 ((cs.drop 12).take (Try.prog.cellsOf 44)) = some y' := hf 8 _ rfl
  rw [cStrs] at h8
  obtain ⟨v0, e0, s0⟩ := field_str Try.underlying9 h0
  obtain ⟨v1, e1, s1⟩ := field_str Try.underlying9 h1
  obtain ⟨v2, e2, s2⟩ := field_str Try.underlying9 h2
  obtain ⟨v3, e3, s3⟩ := field_str Try.underlying9 h3
  obtain ⟨v4, e4⟩ := vl_of_trod _ _ _ (by simp; omega) h4
  obtain ⟨v5, e5, _⟩ := field_int Try.underlying3 h5
  obtain ⟨v6, e6⟩ := field_bool Try.underlying4 h6
  obtain ⟨v7, e7⟩ := field_bool Try.underlying4 h7
  obtain ⟨v8, e8⟩ := field_sv Try.underlying44 h8
  refine ⟨⟨v0, v1, v2, v3, v4, v5, v6, v7, v8⟩, list_fit (by rw [hl]; rfl) (fun i hi => ?_), s2⟩
  match i, hi with
  | 0, _ => exact e0
  | 1, _ => exact e1
  | 2, _ => exact e2
  | 3, _ => exact e3
  | 4, _ => exact sub_cell (o := 4) (k := 0) (n := 5) (by omega) (by rw [e4]; rfl)
  | 5, _ => exact sub_cell (o := 4) (k := 1) (n := 5) (by omega) (by rw [e4]; rfl)
  | 6, _ => exact sub_cell (o := 4) (k := 2) (n := 5) (by omega) (by rw [e4]; rfl)
  | 7, _ => exact sub_cell (o := 4) (k := 3) (n := 5) (by omega) (by rw [e4]; rfl)
  | 8, _ => exact sub_cell (o := 4) (k := 4) (n := 5) (by omega) (by rw [e4]; rfl)
  | 9, _ => exact e5
  | 10, _ => exact e6
  | 11, _ => exact e7
  | 12, _ => exact e8
  | k + 13, hi => exact absurd (show k + 13 < 13 from hi) (by omega)

theorem Sl.split {α : Type} {R : World → List Value → α → Prop} {Q : α → Prop} {sz : Nat} {w : World} {v : Value} {xs : List α} (h : Sl (fun w cs x => R w cs x ∧ Q x) sz w v xs) : Sl R sz w v xs ∧ ∀ x ∈ xs, Q x := by
  obtain ⟨r, cap, hv, hl, hc, he⟩ := h
  refine ⟨⟨r, cap, hv, hl, hc, fun i hi => ?_⟩, fun x hx => ?_⟩
  · obtain ⟨b, off, cs, h1, h2, h3, h4, _⟩ := he i hi
    exact ⟨b, off, cs, h1, h2, h3, h4⟩
  · obtain ⟨i, hi, rfl⟩ := List.mem_iff_getElem.1 hx
    obtain ⟨b, off, cs, h1, h2, h3, h4, h5⟩ := he i hi
    exact h5

set_option maxRecDepth 100000 in
theorem open_objects {H : Type} {enc : TypeId × Value → H} {W : World} {base : Nat} {v : Value} {d : DataW H} {p : List MemPlace}
    (o : Value.okWide Try.prog W .any base 43 v) (h : DataW.Trod enc Try.prog W 0 (fun _ => true) true 43 v d p) : ∃ os, Sl ObR 9 W v os ∧ ∀ x ∈ os, x.id.size ≤ maxLen := by
  obtain ⟨a, len, cap, rfl⟩ := okWide_slice Try.underlying43 o
  obtain ⟨fuel, hf⟩ := h
  obtain ⟨os, hS⟩ := sl_of_trod ObX Try.underlying43 cObj (by omega) obX_of_trod hf
  exact ⟨os, hS.split⟩

set_option maxRecDepth 100000 in
theorem state_cells {H : Type} {enc : TypeId × Value → H} {w : World} (fuel : Nat) (cs : List Value) (y : DataW H × List MemPlace) (hl : cs.length = 5) (h : DataW.trod enc Try.prog w 0 (fun _ => true) true fuel 42 cs = some y) :
    ∃ lin ser vI vP vO is ps, cs = [.string lin, .int .i64 ser, vI, vP, vO] ∧ Sl InR 13 w vI is ∧ (∀ x ∈ is, x.id.size ≤ maxLen) ∧ Sl PeR 3 w vP ps ∧ ∃ r n c, vO = .slice r n c := by
  obtain ⟨_, hf⟩ := struct_of_trod Try.underlying42 h
  obtain ⟨_, _, h0⟩ : ∃ fuel' y', DataW.trod enc Try.prog w 0 (fun _ => true) true fuel' 9 ((cs.drop 0).take (Try.prog.cellsOf 9)) = some y' := hf 0 _ rfl
  rw [cStr] at h0
  obtain ⟨_, _, h1⟩ : ∃ fuel' y', DataW.trod enc Try.prog w 0 (fun _ => true) true fuel' 3 ((cs.drop 1).take (Try.prog.cellsOf 3)) = some y' := hf 1 _ rfl
  rw [cInt] at h1
  obtain ⟨_, _, h2⟩ : ∃ fuel' y', DataW.trod enc Try.prog w 0 (fun _ => true) true fuel' 38 ((cs.drop 2).take (Try.prog.cellsOf 38)) = some y' := hf 2 _ rfl
  rw [cInsts] at h2
  obtain ⟨_, _, h3⟩ : ∃ fuel' y', DataW.trod enc Try.prog w 0 (fun _ => true) true fuel' 39 ((cs.drop 3).take (Try.prog.cellsOf 39)) = some y' := hf 3 _ rfl
  rw [cPends] at h3
  obtain ⟨_, _, h4⟩ : ∃ fuel' y', DataW.trod enc Try.prog w 0 (fun _ => true) true fuel' 40 ((cs.drop 4).take (Try.prog.cellsOf 40)) = some y' := hf 4 _ rfl
  rw [cOuts] at h4
  obtain ⟨v0, e0, _⟩ := field_str Try.underlying9 h0
  obtain ⟨v1, e1, _⟩ := field_int Try.underlying3 h1
  obtain ⟨v2, is, e2, hI⟩ := field_slice InX Try.underlying38 cInst (by omega) (by omega) inX_of_trod h2
  obtain ⟨v3, ps, e3, hP⟩ := field_slice PeR Try.underlying39 cPend (by omega) (by omega) peR_of_trod h3
  obtain ⟨v4, e4⟩ := field_sv Try.underlying40 h4
  refine ⟨v0, v1, v2, v3, v4.val, is, ps, list_fit (by rw [hl]; rfl) (fun i hi => ?_), hI.split.1, hI.split.2, hP, _, _, _, rfl⟩
  match i, hi with
  | 0, _ => exact e0
  | 1, _ => exact e1
  | 2, _ => exact e2
  | 3, _ => exact e3
  | 4, _ => exact e4
  | k + 5, hi => exact absurd (show k + 5 < 5 from hi) (by omega)

set_option maxRecDepth 100000 in
theorem open_state {H : Type} {enc : TypeId × Value → H} {W : World} {base : Nat} {v : Value} {d : DataW H} {p : List MemPlace}
    (o : Value.okWide Try.prog W .any base 42 v) (h : DataW.Trod enc Try.prog W 0 (fun _ => true) true 42 v d p) :
    ∃ lin ser vI vP vO is ps, v = .agg #[.string lin, .int .i64 ser, vI, vP, vO] ∧ Sl InR 13 W vI is ∧ (∀ x ∈ is, x.id.size ≤ maxLen) ∧ Sl PeR 3 W vP ps ∧ ∃ r n c, vO = .slice r n c := by
  obtain ⟨cs, rfl, hsz⟩ := okWide_struct Try.underlying42 o
  obtain ⟨fuel, hf⟩ := h
  rw [cState] at hsz
  have hcs : (Value.agg cs).cells.toList = cs.toList := by simp [Value.cells]
  rw [hcs] at hf
  obtain ⟨lin, ser, vI, vP, vO, is, ps, hc, r⟩ := state_cells fuel cs.toList _ (by simpa using hsz) hf
  refine ⟨lin, ser, vI, vP, vO, is, ps, ?_, r⟩
  rw [← Array.toArray_toList (xs := cs), hc]
end Go.Proofs.Ytdmcceekaopghaa
