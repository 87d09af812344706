/-
  StateRecords: for every input of bulk at most 1048576 the Go function provision provisionlaw31.StateRecords returns true, and each argument reads afterwards as it read before; the tables of the library that it reads are tied to the program's text.
  Conditions: none but the card's own.
-/
import Derived.Test.YtomhbcfjhgecbaaGreatDoorN14
import Derived.Test.YtomhbcfjhgecbaaGreatDoorFz
import Derived.Test.YtomhbcfjhgecbaaGreatDoorN1
import Derived.Deep.DeepWitnessRowRef
namespace Go.Proofs.YtomhbcfjhgecbaaGreatDoor.stateRecords
open Go.ChangeShapes Go.WideShapes Go.ChangeAt Go.RowKit
set_option linter.unusedVariables false

set_option maxRecDepth 100000 in
theorem contract (H : Type) (enc : TypeId × Value → H) (W : World) (base : Nat) (args : Array Value) (ds gs : List (DataW H)) (before : List MemPlace)
    (hval : ∀ (j : Nat) t v, Tryz.f6.params[j]? = some t → args[j]? = some v → Value.okWide Tryz.prog W .any base t v)
    (hW : DataW.Whole enc Tryz.prog Tryz.f6.params.toList Rows.stateRecordsSpec.vars false W args.toList ds gs before)
    (hk : Rows.uptoSmall H (ds ++ gs) = true) (hL : laidMet Tryz.prog LD W) :
    Calls Tryz.prog 6 args W fun e W' => ∃ v, e = .returned v ∧ Rows.stateRecordsSpec.post enc Tryz.prog Tryz.f6 false true false false W args v W' := by
  have hW' := hW
  obtain ⟨p, q, hA0, hV, rfl, hfz, hnd⟩ := hW
  have hA : DataW.TrodAll enc Tryz.prog W 0 (fun _ => true) true Tryz.f6.params.toList args.toList ds p := hA0
  rw [Tryz.params6] at hA hval
  obtain ⟨v0, vs0, d0, ds0, p0, q0, hargs, rfl, rfl, h0, r0⟩ := trodAll_cons hA
  obtain ⟨v1, vs1, d1, ds1, p1, q1, rfl, rfl, rfl, h1, r1⟩ := trodAll_cons r0
  obtain ⟨v2, vs2, d2, ds2, p2, q2, rfl, rfl, rfl, h2, r2⟩ := trodAll_cons r1
  obtain ⟨rfl, rfl, rfl⟩ := trodAll_nil r2
  obtain rfl : args = #[v0, v1, v2] := by cases args; simp_all
  obtain ⟨rfl, rfl⟩ := trodVars_none hV
  have hk : Rows.uptoBulkAll (d0 :: d1 :: d2 :: [] ++ []) ≤ 1048576 := of_decide_eq_true hk
  simp only [Rows.uptoBulkAll, List.append_nil] at hk
  have b0 : Blk.Bk 1048576 d0 := by show Rows.uptoBulk d0 ≤ 1048576; omega
  have b1 : Blk.Bk 1048576 d1 := by show Rows.uptoBulk d1 ≤ 1048576; omega
  have b2 : Blk.Bk 1048576 d2 := by show Rows.uptoBulk d2 ≤ 1048576; omega
  have lt0 : ∀ x ∈ p0, x.block < W.heap.size := by obtain ⟨m, hm⟩ := h0; exact DataW.trod_lt m _ _ _ hm
  have lt1 : ∀ x ∈ p1, x.block < W.heap.size := by obtain ⟨m, hm⟩ := h1; exact DataW.trod_lt m _ _ _ hm
  have lt2 : ∀ x ∈ p2, x.block < W.heap.size := by obtain ⟨m, hm⟩ := h2; exact DataW.trod_lt m _ _ _ hm
  refine (records_from H enc W base v0 v1 v2 d0 d1 d2 p0 p1 p2 (hval 0 26 v0 rfl rfl) (hval 1 41 v1 rfl rfl) (hval 2 47 v2 rfl rfl) h0 h1 h2 b0 b1 b2 (ut_of_laid hL)).mono fun e W' ⟨he, bel⟩ => ?_
  subst he
  exact ⟨_, rfl, _, _, _, [], _, [], hW', trodAll_mk1 (shut_bool Tryz.underlying4 _), (trodAll_cons_mk (Below.trod laidOut7 (by kernel_rfl) (of_decide_eq_true (by kernel_rfl)) h0 bel lt0) (trodAll_cons_mk (Below.trod laidOut7 (by kernel_rfl) (of_decide_eq_true (by kernel_rfl)) h1 bel lt1) (trodAll_cons_mk (Below.trod laidOut7 (by kernel_rfl) (of_decide_eq_true (by kernel_rfl)) h2 bel lt2) trodAll_mk0))), rfl, bel.frame _, fun h => by cases h⟩

theorem reads (os : Os) {H : Type} (enc : TypeId × Value → H) : ∃ places, DataW.whole enc Tryz.prog ((laidWorld os).forCall (fun _ _ => 0) ⟨#[], #[.agg #[.string ByteArray.empty, .int .i64 0, .slice none 0 0, .slice none 0 0, .slice none 0 0], .agg #[.string ByteArray.empty, .string ByteArray.empty, .string ByteArray.empty, .string ByteArray.empty, .int .i64 0, .int .i64 0, .string ByteArray.empty, .slice none 0 0, .slice none 0 0, .int .i64 0, .bool false, .bool false, .slice none 0 0], .agg #[.string ByteArray.empty, .string ByteArray.empty]], []⟩).memory Tryz.f6.params.toList Rows.stateRecordsSpec.vars false #[.agg #[.string ByteArray.empty, .int .i64 0, .slice none 0 0, .slice none 0 0, .slice none 0 0], .agg #[.string ByteArray.empty, .string ByteArray.empty, .string ByteArray.empty, .string ByteArray.empty, .int .i64 0, .int .i64 0, .string ByteArray.empty, .slice none 0 0, .slice none 0 0, .int .i64 0, .bool false, .bool false, .slice none 0 0], .agg #[.string ByteArray.empty, .string ByteArray.empty]].toList 8 = some ([.agg [.lit (.string []), .lit (.int .i64 0), .nil, .nil, .nil], .agg [.lit (.string []), .lit (.string []), .lit (.string []), .lit (.string []), .agg [.lit (.int .i64 0), .lit (.int .i64 0), .lit (.string []), .nil, .nil], .lit (.int .i64 0), .lit (.bool false), .lit (.bool false), .nil], .agg [.lit (.string []), .lit (.string [])]], [], places) := ⟨[], by kernel_rfl⟩
set_option maxRecDepth 100000 in
theorem lifted (os : Os) (started : os.Started) (H : Type) (enc : TypeId × Value → H) (F : Stop.Interp) :
    ReturnsInHanded {} Tryz.checked os 6 .any ((Rows.OpenSpec.upto Rows.stateRecordsSpec).preRow enc Tryz.prog Tryz.f6 Rows.stateRecordsUptoRow.domain false Rows.stateRecordsUptoRow.laid) (((Rows.OpenSpec.upto Rows.stateRecordsSpec).at F).post enc Tryz.prog Tryz.f6 false true false false) := by
  obtain ⟨places, hx⟩ := reads os enc
  refine returnsInHanded_of_row (C := Tryz.checked) (s := Rows.OpenSpec.upto Rows.stateRecordsSpec) own7 started (by kernel_rfl) Tryz.func6
    (witness_row_atRef (enc := enc) (C := Tryz.checked) false (laidWorld os) #[.agg #[.string ByteArray.empty, .int .i64 0, .slice none 0 0, .slice none 0 0, .slice none 0 0], .agg #[.string ByteArray.empty, .string ByteArray.empty, .string ByteArray.empty, .string ByteArray.empty, .int .i64 0, .int .i64 0, .string ByteArray.empty, .slice none 0 0, .slice none 0 0, .int .i64 0, .bool false, .bool false, .slice none 0 0], .agg #[.string ByteArray.empty, .string ByteArray.empty]] rfl (by kernel_rfl) (by kernel_rfl) (by kernel_rfl)
      (OpenSpec.preRow_of_cond 8 hx (by kernel_rfl) (fun k hk => by cases hk; kernel_rfl) (by kernel_rfl) (laid_met os _))) ?_
  intro W base args ds gs before hval hW _ hc _ hL _ _
  exact contract H enc W base args ds gs before hval hW (hc _ rfl) hL

theorem over : Rows.stateRecordsUptoRow.holds Tryz.pinned (Rows.OpenSpec.upto Rows.stateRecordsSpec) :=
  OpenClaim.holds_of_cond 6 Tryz.f6 rfl rfl rfl rfl rfl rfl rfl ⟨rfl, rfl, rfl, rfl, rfl⟩ rfl rfl rfl rfl rfl (by kernel_rfl) Tryz.func6 (by kernel_rfl)
    (of_decide_eq_true (by kernel_rfl)) (by unfold Func.isWrapper; first | (rw [if_pos (by decide +kernel)]; kernel_rfl) | (rw [if_neg (by decide +kernel)]; exact ⟨rfl, rfl⟩))
    (fun os started H enc _ F => by rw [OpenClaim.pre_eq_preRow]; exact lifted os started H enc F)

theorem params_plain : ∀ (j : Nat) t, Tryz.f6.params[j]? = some t → Tryz.prog.wantsStandIn t = false := by
  intro j t ht
  rw [Tryz.params6] at ht
  match j, ht with
  | 0, ht =>
    obtain rfl : 26 = t := by simpa using ht
    exact (show Tryz.prog.wantsStandIn 26 = false by kernel_rfl)
  | 1, ht =>
    obtain rfl : 41 = t := by simpa using ht
    exact (show Tryz.prog.wantsStandIn 41 = false by kernel_rfl)
  | 2, ht =>
    obtain rfl : 47 = t := by simpa using ht
    exact (show Tryz.prog.wantsStandIn 47 = false by kernel_rfl)
  | k + 3, ht => simp at ht

theorem proved : Rows.StateRecordsUptoCardSaid :=
  Claim7.holds_tied_plain_at .later [] [.data, .data, .data, .data, .sentinel, .sentinel, .pinned] true (true, "362d6e536599003e45333cce0248469311ab25f08c3c575a7968cc861e8702eb") true
    over (fun _ h => by cases h) (by kernel_rfl) (fun _ h => by cases h) stateRecordsUpto_row_tie rfl ⟨rfl, rfl⟩ (by kernel_rfl) rfl
    (fun f fn hf hfn => by
      obtain rfl : 6 = f := Option.some.inj ((show Tryz.prog.funcNamed Rows.stateRecordsUptoRow.func = some 6 by kernel_rfl).symm.trans hf)
      obtain rfl : Tryz.f6 = fn := Option.some.inj (Tryz.func6.symm.trans hfn)
      exact ⟨by kernel_rfl, params_plain⟩)
    (by kernel_rfl)
end Go.Proofs.YtomhbcfjhgecbaaGreatDoor.stateRecords
