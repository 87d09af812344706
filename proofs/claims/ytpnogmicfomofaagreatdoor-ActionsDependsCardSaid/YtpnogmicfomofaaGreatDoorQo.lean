import Derived.Test.YtpnogmicfomofaaGreatDoorYd
import Derived.Lib.SmallJoins
import Derived.ShutString
import Derived.ChangeOld
/-
  Arguments of layer 44 that can be read as data lie in memory as changes. Conditions: the readings.
-/
namespace Go.Proofs.YtpnogmicfomofaaGreatDoor.Stp
open Go.RowKit Go.Sort Go.ChangeShapes Go.WideShapes Go.ChangeAt
set_option linter.unusedVariables false
set_option linter.unusedSimpArgs false

theorem kC0 : Tryz.prog.cellsOf 26 = 1 := by kernel_rfl
theorem kC1 : Tryz.prog.cellsOf 27 = 1 := by kernel_rfl
theorem kC2 : Tryz.prog.cellsOf 4 = 1 := by kernel_rfl
theorem kC3 : Tryz.prog.cellsOf 3 = 1 := by kernel_rfl
theorem kC4 : Tryz.prog.cellsOf 23 = 1 := by kernel_rfl
theorem kC5 : Tryz.prog.cellsOf 25 = 1 := by kernel_rfl
theorem kC6 : Tryz.prog.cellsOf 24 = 1 := by kernel_rfl
theorem kC7 : Tryz.prog.cellsOf 9 = 1 := by kernel_rfl
theorem kCV : Tryz.prog.cellsOf 29 = 5 := by kernel_rfl
theorem kCC : Tryz.prog.cellsOf 31 = 22 := by kernel_rfl
theorem list_fit {cs l : List Value} (hl : cs.length = l.length) (h : ∀ i, i < l.length → cs[i]? = l[i]?) : cs = l := by
  apply List.ext_getElem?
  intro i
  by_cases hi : i < l.length
  · exact h i hi
  · rw [List.getElem?_eq_none (by omega), List.getElem?_eq_none (by omega)]
theorem sub_cell {cs : List Value} {o n k : Nat} {v : Value} (hk : k < n) (h : ((cs.drop o).take n)[k]? = some v) : cs[o + k]? = some v := by
  rw [List.getElem?_take, if_pos hk, List.getElem?_drop] at h
  exact h
theorem field_sv {H : Type} {enc : TypeId × Value → H} {P : Program} {w : World} {T E : TypeId} {fuel o : Nat} {cs : List Value} {y : DataW H × List MemPlace}
    (hT : P.underlying T = some (.slice E)) (h : DataW.trod enc P w 0 (fun _ => true) true fuel T ((cs.drop o).take 1) = some y) : ∃ s : SV, cs[o]? = some (.slice s.r s.n s.c) := by
  obtain ⟨a, l, c, e⟩ := Go.Joins.slice_form hT h
  exact ⟨⟨a, l, c⟩, cell_of_field e⟩
/-- The five cells of a value. -/
def vcells (k n : Int) (s : ByteArray) (i l : SV) : List Value := [.int .i64 k, .int .i64 n, .string s, .slice i.r i.n i.c, .slice l.r l.n l.c]
theorem val_of_trod {H : Type} {enc : TypeId × Value → H} {w : World} {fuel : Nat} {cs : List Value} {y : DataW H × List MemPlace} (hl : cs.length = 5) (h : DataW.trod enc Tryz.prog w 0 (fun _ => true) true fuel 29 cs = some y) : ∃ k n s i l, cs = vcells k n s i l := by
  obtain ⟨_, hf⟩ := struct_of_trod Tryz.underlying29 h
  obtain ⟨_, _, h0⟩ : ∃ fuel' y', DataW.trod enc Tryz.prog w 0 (fun _ => true) true fuel' 25 ((cs.drop 0).take (Tryz.prog.cellsOf 25)) = some y' := hf 0 _ rfl
  rw [kC5] at h0
  obtain ⟨_, _, h1⟩ : ∃ fuel' y', DataW.trod enc Tryz.prog w 0 (fun _ => true) true fuel' 3 ((cs.drop 1).take (Tryz.prog.cellsOf 3)) = some y' := hf 1 _ rfl
  rw [kC3] at h1
  obtain ⟨_, _, h2⟩ : ∃ fuel' y', DataW.trod enc Tryz.prog w 0 (fun _ => true) true fuel' 9 ((cs.drop 2).take (Tryz.prog.cellsOf 9)) = some y' := hf 2 _ rfl
  rw [kC7] at h2
  obtain ⟨_, _, h3⟩ : ∃ fuel' y', DataW.trod enc Tryz.prog w 0 (fun _ => true) true fuel' 26 ((cs.drop 3).take (Tryz.prog.cellsOf 26)) = some y' := hf 3 _ rfl
  rw [kC0] at h3
  obtain ⟨_, _, h4⟩ : ∃ fuel' y', DataW.trod enc Tryz.prog w 0 (fun _ => true) true fuel' 27 ((cs.drop 4).take (Tryz.prog.cellsOf 27)) = some y' := hf 4 _ rfl
  rw [kC1] at h4
  obtain ⟨v0, e0, _⟩ := field_int Tryz.underlying25 h0
  obtain ⟨v1, e1, _⟩ := field_int Tryz.underlying3 h1
  obtain ⟨v2, e2, _⟩ := field_str Tryz.underlying9 h2
  obtain ⟨v3, e3⟩ := field_sv Tryz.underlying26 h3
  obtain ⟨v4, e4⟩ := field_sv Tryz.underlying27 h4
  refine ⟨v0, v1, v2, v3, v4, list_fit (by rw [hl]; rfl) (fun i hi => ?_)⟩
  match i, hi with
  | 0, _ => exact e0
  | 1, _ => exact e1
  | 2, _ => exact e2
  | 3, _ => exact e3
  | 4, _ => exact e4
theorem chR_of_trod {H : Type} {enc : TypeId × Value → H} {w : World} : ∀ fuel cs (y : DataW H × List MemPlace), cs.length = 22 → DataW.trod enc Tryz.prog w 0 (fun _ => true) true fuel 31 cs = some y → ∃ z, ChR w cs z := by
  intro fuel cs y hl h
  obtain ⟨_, hf⟩ := struct_of_trod Tryz.underlying31 h
  obtain ⟨_, _, h0⟩ : ∃ fuel' y', DataW.trod enc Tryz.prog w 0 (fun _ => true) true fuel' 9 ((cs.drop 0).take (Tryz.prog.cellsOf 9)) = some y' := hf 0 _ rfl
  rw [kC7] at h0
  obtain ⟨_, _, h1⟩ : ∃ fuel' y', DataW.trod enc Tryz.prog w 0 (fun _ => true) true fuel' 9 ((cs.drop 1).take (Tryz.prog.cellsOf 9)) = some y' := hf 1 _ rfl
  rw [kC7] at h1
  obtain ⟨_, _, h2⟩ : ∃ fuel' y', DataW.trod enc Tryz.prog w 0 (fun _ => true) true fuel' 9 ((cs.drop 2).take (Tryz.prog.cellsOf 9)) = some y' := hf 2 _ rfl
  rw [kC7] at h2
  obtain ⟨_, _, h3⟩ : ∃ fuel' y', DataW.trod enc Tryz.prog w 0 (fun _ => true) true fuel' 23 ((cs.drop 3).take (Tryz.prog.cellsOf 23)) = some y' := hf 3 _ rfl
  rw [kC4] at h3
  obtain ⟨_, _, h4⟩ : ∃ fuel' y', DataW.trod enc Tryz.prog w 0 (fun _ => true) true fuel' 24 ((cs.drop 4).take (Tryz.prog.cellsOf 24)) = some y' := hf 4 _ rfl
  rw [kC6] at h4
  obtain ⟨_, _, h5⟩ : ∃ fuel' y', DataW.trod enc Tryz.prog w 0 (fun _ => true) true fuel' 29 ((cs.drop 5).take (Tryz.prog.cellsOf 29)) = some y' := hf 5 _ rfl
  rw [kCV] at h5
  obtain ⟨_, _, h6⟩ : ∃ fuel' y', DataW.trod enc Tryz.prog w 0 (fun _ => true) true fuel' 29 ((cs.drop 10).take (Tryz.prog.cellsOf 29)) = some y' := hf 6 _ rfl
  rw [kCV] at h6
  obtain ⟨_, _, h7⟩ : ∃ fuel' y', DataW.trod enc Tryz.prog w 0 (fun _ => true) true fuel' 9 ((cs.drop 15).take (Tryz.prog.cellsOf 9)) = some y' := hf 7 _ rfl
  rw [kC7] at h7
  obtain ⟨_, _, h8⟩ : ∃ fuel' y', DataW.trod enc Tryz.prog w 0 (fun _ => true) true fuel' 27 ((cs.drop 16).take (Tryz.prog.cellsOf 27)) = some y' := hf 8 _ rfl
  rw [kC1] at h8
  obtain ⟨_, _, h9⟩ : ∃ fuel' y', DataW.trod enc Tryz.prog w 0 (fun _ => true) true fuel' 4 ((cs.drop 17).take (Tryz.prog.cellsOf 4)) = some y' := hf 9 _ rfl
  rw [kC2] at h9
  obtain ⟨_, _, h10⟩ : ∃ fuel' y', DataW.trod enc Tryz.prog w 0 (fun _ => true) true fuel' 4 ((cs.drop 18).take (Tryz.prog.cellsOf 4)) = some y' := hf 10 _ rfl
  rw [kC2] at h10
  obtain ⟨_, _, h11⟩ : ∃ fuel' y', DataW.trod enc Tryz.prog w 0 (fun _ => true) true fuel' 4 ((cs.drop 19).take (Tryz.prog.cellsOf 4)) = some y' := hf 11 _ rfl
  rw [kC2] at h11
  obtain ⟨_, _, h12⟩ : ∃ fuel' y', DataW.trod enc Tryz.prog w 0 (fun _ => true) true fuel' 27 ((cs.drop 20).take (Tryz.prog.cellsOf 27)) = some y' := hf 12 _ rfl
  rw [kC1] at h12
  obtain ⟨_, _, h13⟩ : ∃ fuel' y', DataW.trod enc Tryz.prog w 0 (fun _ => true) true fuel' 27 ((cs.drop 21).take (Tryz.prog.cellsOf 27)) = some y' := hf 13 _ rfl
  rw [kC1] at h13
  obtain ⟨v0, e0, w0⟩ := field_str Tryz.underlying9 h0
  obtain ⟨v1, e1, w1⟩ := field_str Tryz.underlying9 h1
  obtain ⟨v2, e2, w2⟩ := field_str Tryz.underlying9 h2
  obtain ⟨v3, e3, w3⟩ := field_int Tryz.underlying23 h3
  obtain ⟨v4, e4, w4⟩ := field_int Tryz.underlying24 h4
  obtain ⟨a5, b5, c5, d5, f5, e5⟩ := val_of_trod (by rw [List.length_take, List.length_drop, hl]; decide) h5
  have e5_0 := sub_cell (k := 0) (by decide) (show ((cs.drop 5).take 5)[0]? = _ by rw [e5]; rfl)
  have e5_1 := sub_cell (k := 1) (by decide) (show ((cs.drop 5).take 5)[1]? = _ by rw [e5]; rfl)
  have e5_2 := sub_cell (k := 2) (by decide) (show ((cs.drop 5).take 5)[2]? = _ by rw [e5]; rfl)
  have e5_3 := sub_cell (k := 3) (by decide) (show ((cs.drop 5).take 5)[3]? = _ by rw [e5]; rfl)
  have e5_4 := sub_cell (k := 4) (by decide) (show ((cs.drop 5).take 5)[4]? = _ by rw [e5]; rfl)
  obtain ⟨a6, b6, c6, d6, f6, e6⟩ := val_of_trod (by rw [List.length_take, List.length_drop, hl]; decide) h6
  have e6_0 := sub_cell (k := 0) (by decide) (show ((cs.drop 10).take 5)[0]? = _ by rw [e6]; rfl)
  have e6_1 := sub_cell (k := 1) (by decide) (show ((cs.drop 10).take 5)[1]? = _ by rw [e6]; rfl)
  have e6_2 := sub_cell (k := 2) (by decide) (show ((cs.drop 10).take 5)[2]? = _ by rw [e6]; rfl)
  have e6_3 := sub_cell (k := 3) (by decide) (show ((cs.drop 10).take 5)[3]? = _ by rw [e6]; rfl)
  have e6_4 := sub_cell (k := 4) (by decide) (show ((cs.drop 10).take 5)[4]? = _ by rw [e6]; rfl)
  obtain ⟨v7, e7, w7⟩ := field_str Tryz.underlying9 h7
  obtain ⟨v8, e8⟩ := field_sv Tryz.underlying27 h8
  obtain ⟨v9, e9⟩ := field_bool Tryz.underlying4 h9
  obtain ⟨v10, e10⟩ := field_bool Tryz.underlying4 h10
  obtain ⟨v11, e11⟩ := field_bool Tryz.underlying4 h11
  obtain ⟨u12, xs12, g12, S12⟩ := field_slice StrR Tryz.underlying27 (show Tryz.prog.cellsOf 9 = 1 by kernel_rfl) (by omega) (by omega) (strR_of_trod Tryz.underlying9) h12
  obtain ⟨v12, e12⟩ := field_sv Tryz.underlying27 h12
  rw [e12] at g12
  obtain rfl := Option.some.inj g12
  obtain ⟨u13, xs13, g13, S13⟩ := field_slice StrR Tryz.underlying27 (show Tryz.prog.cellsOf 9 = 1 by kernel_rfl) (by omega) (by omega) (strR_of_trod Tryz.underlying9) h13
  obtain ⟨v13, e13⟩ := field_sv Tryz.underlying27 h13
  rw [e13] at g13
  obtain rfl := Option.some.inj g13
  refine ⟨⟨v0, v3, v9, xs12, xs13⟩, ⟨v0, v1, v2, v3, v4, a5, b5, c5, d5, f5, a6, b6, c6, d6, f6, v7, v8, v9, v10, v11, v12, v13⟩, list_fit (by rw [hl]; rfl) (fun i hi => ?_), rfl, rfl, rfl, bounds_i64 w3, S12, S13⟩
  match i, hi with
  | 0, _ => exact e0
  | 1, _ => exact e1
  | 2, _ => exact e2
  | 3, _ => exact e3
  | 4, _ => exact e4
  | 5, _ => exact e5_0
  | 6, _ => exact e5_1
  | 7, _ => exact e5_2
  | 8, _ => exact e5_3
  | 9, _ => exact e5_4
  | 10, _ => exact e6_0
  | 11, _ => exact e6_1
  | 12, _ => exact e6_2
  | 13, _ => exact e6_3
  | 14, _ => exact e6_4
  | 15, _ => exact e7
  | 16, _ => exact e8
  | 17, _ => exact e9
  | 18, _ => exact e10
  | 19, _ => exact e11
  | 20, _ => exact e12
  | 21, _ => exact e13
  | k + 22, h => exact absurd (show k + 22 < 22 from h) (by omega)
set_option maxRecDepth 100000 in
theorem open_changes {H : Type} {enc : TypeId × Value → H} {W : World} {base : Nat} {v : Value} {d : DataW H} {p : List MemPlace}
    (o : Value.okWide Tryz.prog W .any base 22 v) (h : DataW.Trod enc Tryz.prog W 0 (fun _ => true) true 22 v d p) : ∃ cs, Sl ChR 22 W v cs := by
  obtain ⟨a, len, cap, rfl⟩ := okWide_slice Tryz.underlying22 o
  obtain ⟨fuel, hf⟩ := h
  exact sl_of_trod ChR Tryz.underlying22 kCC (by omega) chR_of_trod hf
end Go.Proofs.YtpnogmicfomofaaGreatDoor.Stp
