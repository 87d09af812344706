import Derived.Test.YtpnogmicfomofaaGreatDoorZo
import Derived.Great.BuildSlice
/-
  Layer 44: the law's change. Conditions: those ahead of each theorem.
-/
namespace Go.Proofs.YtpnogmicfomofaaGreatDoor.Stp
open Go.RowKit Go.Sort Go.Lib Go.Maps
open Go.Lib (hid)
set_option linter.unusedVariables false
set_option linter.unusedSimpArgs false

attribute [local go_sem ↓] ldC_eq
attribute [local go_sem] ldC_run
attribute [local go_sem ↓] stC_eq
attribute [local go_sem] stC_run there_drew there_new there_past put22_drew put22_new put22_past lies_new rd22_new lies_drew rd22_drew lies_drewN rd22_drewN
theorem cat2 (w : World) (a b : List UInt8) (h : a.length + b.length ≤ 1000000000000) : (Op.stringOp .add ⟨a.toArray⟩ ⟨b.toArray⟩).run Tryz.prog w = .ok (.string ⟨(a ++ b).toArray⟩) w := by
  have e : (⟨a.toArray⟩ : ByteArray) ++ ⟨b.toArray⟩ = ⟨(a ++ b).toArray⟩ := by
    apply ByteArray.ext
    simp [ByteArray.data_append]
  rw [← e]
  exact run_string_add_sum w _ _ (by show a.toArray.size + b.toArray.size ≤ _; simp; omega)
theorem results_cell {fn : Func} {t : Tmp} {tmps : Array Value} {ad : Addr} {v : Value} {w : World} (h : fn.results = #[.cell t 31]) (hp : tmps.getD t undef = .pointer (some ad)) (hl : (ldC ad).run Tryz.prog w = .ok v w) :
    (results fn tmps).run Tryz.prog w = .ok v w := by
  unfold results
  rw [h]
  simp only [List.mapM_toArray, List.mapM_cons, List.mapM_nil]
  simp [go_sem, hp, hl]
/-- A change of a resource of the type net. -/
def chV (nm : List UInt8) (a : Int) (f : Bool) (d : SV) : CV := ⟨⟨(([110, 101, 116, 46] : List UInt8) ++ nm).toArray⟩, ByteArray.empty, ⟨#[110, 101, 116]⟩, a, 0, 0, 0, ByteArray.empty, ⟨none, 0, 0⟩, ⟨none, 0, 0⟩, 0, 0, ByteArray.empty, ⟨none, 0, 0⟩, ⟨none, 0, 0⟩, ByteArray.empty, ⟨none, 0, 0⟩, f, false, false, d, d⟩
set_option maxRecDepth 100000 in
set_option maxHeartbeats 4000000 in
theorem change_any (nm : List UInt8) (a : Int) (f : Bool) (d : SV) (w : World) (h : nm.length ≤ 1000) :
    Calls Tryz.prog 9 #[.string ⟨nm.toArray⟩, .int .i64 a, .bool f, .slice d.r d.n d.c] w fun e w' => e = .returned (.agg (chV nm a f d).arr) ∧ Below w.heap.size w w' := by
  have hC := fun W => cat2 W [110, 101, 116, 46] nm (by simp; omega)
  have HX : Cells22 #[Value.string ⟨(110 :: 101 :: 116 :: 46 :: nm).toArray⟩, Value.string ⟨#[]⟩, Value.string ⟨#[110, 101, 116]⟩, Value.int IntKind.i64 a, Value.int IntKind.i64 0, Value.int IntKind.i64 0, Value.int IntKind.i64 0, Value.string ⟨#[]⟩, Value.slice none 0 0, Value.slice none 0 0, Value.int IntKind.i64 0, Value.int IntKind.i64 0, Value.string ⟨#[]⟩, Value.slice none 0 0, Value.slice none 0 0, Value.string ⟨#[]⟩, Value.slice none 0 0, Value.bool f, Value.bool false, Value.bool false, Value.slice d.r d.n d.c, Value.slice d.r d.n d.c] := cells22 (chV nm a f d)
  have HZ := hid (show (chV nm a f d).arr = #[Value.string ⟨(110 :: 101 :: 116 :: 46 :: nm).toArray⟩, Value.string ⟨#[]⟩, Value.string ⟨#[110, 101, 116]⟩, Value.int IntKind.i64 a, Value.int IntKind.i64 0, Value.int IntKind.i64 0, Value.int IntKind.i64 0, Value.string ⟨#[]⟩, Value.slice none 0 0, Value.slice none 0 0, Value.int IntKind.i64 0, Value.int IntKind.i64 0, Value.string ⟨#[]⟩, Value.slice none 0 0, Value.slice none 0 0, Value.string ⟨#[]⟩, Value.slice none 0 0, Value.bool f, Value.bool false, Value.bool false, Value.slice d.r d.n d.c, Value.slice d.r d.n d.c] from rfl)
  rw [HZ.out]
  go_enter Tryz.func9, Tryz.ntmps9
  go_wp2

  clear HZ
  generalize #[Value.string ⟨(110 :: 101 :: 116 :: 46 :: nm).toArray⟩, Value.string ⟨#[]⟩, Value.string ⟨#[110, 101, 116]⟩, Value.int IntKind.i64 a, Value.int IntKind.i64 0, Value.int IntKind.i64 0, Value.int IntKind.i64 0, Value.string ⟨#[]⟩, Value.slice none 0 0, Value.slice none 0 0, Value.int IntKind.i64 0, Value.int IntKind.i64 0, Value.string ⟨#[]⟩, Value.slice none 0 0, Value.slice none 0 0, Value.string ⟨#[]⟩, Value.slice none 0 0, Value.bool f, Value.bool false, Value.bool false, Value.slice d.r d.n d.c, Value.slice d.r d.n d.c] = X at *
  exact bodyPost_ret (v := .agg X) (results_cell (ad := ⟨w.heap.size, 0, none⟩) rfl rfl (by rw [ldC_run _ _ _ (of_eq_true (lies_new w X _ _ rfl HX)), rd22_new w X _ _ rfl HX])) rfl ⟨rfl, (Below.refl _ _).alloc (Nat.le_refl _) _⟩
end Go.Proofs.YtpnogmicfomofaaGreatDoor.Stp
/-
  Layer 44: slice literals of changes. Conditions: those ahead of each theorem.
-/
namespace Go.Proofs.YtpnogmicfomofaaGreatDoor.Stp
open Go.RowKit Go.Sort Go.Lib Go.Maps
set_option linter.unusedVariables false
set_option linter.unusedSimpArgs false
/-- A slice literal of changes, not opened. -/
def bsC (n : Nat) (parts : Array (Nat × Value)) : Sem Value := Instr.buildSlice 22 n parts
theorem bsC_eq (n : Nat) (parts : Array (Nat × Value)) : Instr.buildSlice 22 n parts = bsC n parts := rfl
theorem bsC_run (vs : List Value) (hne : 0 < vs.length) (hsm : vs.length ≤ 1000) (hv : ∀ v ∈ vs, v.cells.size = 22) (W : World) :
    ∃ C : Array Value, C.size = vs.length * 22 ∧ (∀ k, k < vs.length * 22 → C[k]? = (vs[k / 22]?).bind fun v => v.cells[k % 22]?) ∧
      (Instr.buildSlice 22 vs.length ((vs.zipIdx 0).map fun x => (x.2, x.1)).toArray).run Tryz.prog W = .ok (.slice (some ⟨W.heap.size, 0, none⟩) vs.length vs.length) (W.alloc (.cells C 31)) := by
  have hz : (Tryz.prog.info? 31).map (fun i => (i.size, i.zero.isSome)) = some (22, true) := by kernel_rfl
  cases hi : Tryz.prog.info? 31 with
  | none => rw [hi] at hz; cases hz
  | some ie =>
    rw [hi] at hz
    simp at hz
    obtain ⟨hs, hz⟩ := hz
    obtain ⟨z, hz⟩ := Option.isSome_iff_exists.1 hz
    obtain ⟨r, h1, h2, h3⟩ := Great.fill_dense (s := 22) (by decide) vs 0 ((Array.range (vs.length * ie.size)).map (z.cells[· % z.cells.size]!)) hv (by simp [hs])
    refine ⟨r, by rw [h2]; simp [hs], fun k hk => ?_, ?_⟩
    · rw [h3, if_pos ⟨by omega, by omega⟩, Nat.sub_zero]
    · exact run_buildSlice W _ _ _ _ r ie z Tryz.underlying22 hi hz (by rw [hs]; omega) (by rw [hs]; omega) (by rw [hs] at h1 ⊢; exact h1)
theorem arr_of {C : Array Value} {l : List Value} (h1 : C.size = l.length) (h2 : ∀ k, k < l.length → C[k]? = l[k]?) : C = l.toArray := by
  apply Array.ext_getElem?
  intro k
  by_cases hk : k < l.length
  · rw [h2 k hk, List.getElem?_toArray]
  · rw [Array.getElem?_eq_none (by omega), List.getElem?_toArray, List.getElem?_eq_none (by omega)]
theorem bsC_run1 (W : World) (X : Array Value) (hX : Cells22 X) : (bsC 1 #[(0, .agg X)]).run Tryz.prog W = .ok (.slice (some ⟨W.heap.size, 0, none⟩) 1 1) (W.alloc (.cells X 31)) := by
  obtain ⟨C, h1, h2, h3⟩ := bsC_run [.agg X] (by simp) (by simp) (fun v hv => by rw [List.mem_singleton.1 hv]; exact hX.1) W
  have e : C = X := by
    apply Array.ext_getElem?
    intro k
    by_cases hk : k < 22
    · rw [h2 k (by simpa using hk), show k / 22 = 0 by omega, show k % 22 = k by omega]
      rfl
    · rw [Array.getElem?_eq_none (by rw [h1]; simp; omega), Array.getElem?_eq_none (by rw [hX.1]; omega)]
  rw [e] at h3
  exact h3
theorem bsC_run2 (W : World) (X Y : Array Value) (hX : Cells22 X) (hY : Cells22 Y) : (bsC 2 #[(0, .agg X), (1, .agg Y)]).run Tryz.prog W = .ok (.slice (some ⟨W.heap.size, 0, none⟩) 2 2) (W.alloc (.cells (X ++ Y) 31)) := by
  obtain ⟨C, h1, h2, h3⟩ := bsC_run [.agg X, .agg Y] (by simp) (by simp) (fun v hv => by
    rcases List.mem_cons.1 hv with rfl | hv
    · exact hX.1
    · rw [List.mem_singleton.1 hv]; exact hY.1) W
  have e : C = X ++ Y := by
    apply Array.ext_getElem?
    intro k
    rw [Array.getElem?_append, hX.1]
    by_cases hk : k < 22
    · rw [h2 k (by simp; omega), if_pos hk, show k / 22 = 0 by omega, show k % 22 = k by omega]
      rfl
    · rw [if_neg hk]
      by_cases hk2 : k < 44
      · rw [h2 k (by simp; omega), show k / 22 = 1 by omega, show k % 22 = k - 22 by omega]
        rfl
      · rw [Array.getElem?_eq_none (by rw [h1]; simp; omega), Array.getElem?_eq_none (by rw [hY.1]; omega)]
  rw [e] at h3
  exact h3
end Go.Proofs.YtpnogmicfomofaaGreatDoor.Stp
