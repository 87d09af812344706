/-
  ActionsDepends: for every input the Go function provision provisionlaw44.ActionsDepends returns true, and each argument reads afterwards as it read before; the tables of the library that it reads are tied to the program's text.
  Conditions: none but the card's own.
-/
import Derived.Test.YtpnogmicfomofaaGreatDoorQi
import Derived.Test.YtpnogmicfomofaaGreatDoorFt
namespace Go.Proofs.YtpnogmicfomofaaGreatDoor.actionsDepends
open Go.ChangeShapes Go.WideShapes Go.ChangeAt Go.RowKit
set_option linter.unusedVariables false

set_option maxRecDepth 100000 in
theorem contract (H : Type) (enc : TypeId × Value → H) (W : World) (base : Nat) (args : Array Value) (ds gs : List (DataW H)) (before : List MemPlace)
    (hval : ∀ (j : Nat) t v, Tryz.f5.params[j]? = some t → args[j]? = some v → Value.okWide Tryz.prog W .any base t v)
    (hW : DataW.Whole enc Tryz.prog Tryz.f5.params.toList Rows.actionsDependsSpec.vars false W args.toList ds gs before)
    (hw : (DataW.weightsEach Tryz.prog (Tryz.f5.params.toList ++ Rows.actionsDependsSpec.plain.varTypes Tryz.prog) (ds ++ gs)).all (· ≤ reachBytes) = true) (hL : laidMet Tryz.prog LD W) :
    Calls Tryz.prog 5 args W fun e W' => ∃ v, e = .returned v ∧ Rows.actionsDependsSpec.post enc Tryz.prog Tryz.f5 false true false false W args v W' := by
  have hW' := hW
  obtain ⟨p, q, hA0, hV, rfl, hfz, hnd⟩ := hW
  have hA : DataW.TrodAll enc Tryz.prog W 0 (fun _ => true) true Tryz.f5.params.toList args.toList ds p := hA0
  rw [Tryz.params5] at hA hval hw
  obtain ⟨v0, vs0, d0, ds0, p0, q0, hargs, rfl, rfl, h0, r0⟩ := trodAll_cons hA
  obtain ⟨rfl, rfl, rfl⟩ := trodAll_nil r0
  obtain rfl : args = #[v0] := by cases args; simp_all
  obtain ⟨rfl, rfl⟩ := trodVars_none hV
  have lt0 : ∀ x ∈ p0, x.block < W.heap.size := by obtain ⟨m, hm⟩ := h0; exact DataW.trod_lt m _ _ _ hm
  refine (depends_from H enc W base v0 d0 p0 (hval 0 22 v0 rfl rfl) h0 (weights_of hw (k := 0) rfl rfl) (ut_of_laid hL)).mono fun e W' ⟨he, bel⟩ => ?_
  subst he
  exact ⟨_, rfl, _, _, _, [], _, [], hW', trodAll_mk1 (shut_bool Tryz.underlying4 _), (trodAll_cons_mk (Below.trod laidOut7 (by kernel_rfl) (of_decide_eq_true (by kernel_rfl)) h0 bel lt0) trodAll_mk0), rfl, bel.frame _, fun h => by cases h⟩

set_option maxRecDepth 100000 in
theorem lifted (os : Os) (started : os.Started) (H : Type) (enc : TypeId × Value → H) :
    ReturnsInHanded {} Tryz.checked os 5 .any (fun w args => (Rows.actionsDependsSpec.pre enc Tryz.prog Tryz.f5 [] false w args ∧ laidMet Tryz.prog LD w) ∧ sizedMet enc Tryz.prog Tryz.f5 (OpenSpec.ofChange Rows.actionsDependsSpec) false w args) (Rows.actionsDependsSpec.post enc Tryz.prog Tryz.f5 false true false false) := by
  refine returnsInHanded_of_change_and (C := Tryz.checked) (X := fun w _ => laidMet Tryz.prog LD w) (fun _ _ _ hh h => h.of_heap hh) own7 started (by kernel_rfl) Tryz.func5
    (ChangeSpec.witness_shaped (enc := enc) (C := Tryz.checked) (os := os) (X := fun w _ => laidMet Tryz.prog LD w) false (laidWorld os) #[.slice none 0 0] 8 rfl (laid_shaped os _) (by kernel_rfl) (by kernel_rfl) (by kernel_rfl) (laid_met os _)) ?_
  intro W base args ds gs before hval hW _ hw hL _
  exact contract H enc W base args ds gs before hval hW hw hL

theorem over : Rows.actionsDependsRow.holds Tryz.pinned (OpenSpec.ofChange Rows.actionsDependsSpec) :=
  OpenClaim.holds_of_wide 5 Tryz.f5 rfl rfl rfl rfl rfl rfl rfl ⟨rfl, rfl, rfl, rfl, rfl⟩ rfl rfl rfl rfl rfl (by kernel_rfl) Tryz.func5 (by kernel_rfl)
    (of_decide_eq_true (by kernel_rfl)) (by unfold Func.isWrapper; first | (rw [if_pos (by decide +kernel)]; kernel_rfl) | (rw [if_neg (by decide +kernel)]; exact ⟨rfl, rfl⟩))
    (fun os started H enc _ => lifted os started H enc)

theorem params_plain : ∀ (j : Nat) t, Tryz.f5.params[j]? = some t → Tryz.prog.wantsStandIn t = false := by
  intro j t ht
  rw [Tryz.params5] at ht
  match j, ht with
  | 0, ht =>
    obtain rfl : 22 = t := by simpa using ht
    exact (show Tryz.prog.wantsStandIn 22 = false by kernel_rfl)
  | k + 1, ht => simp at ht

theorem proved : Rows.ActionsDependsCardSaid :=
  Claim7.holds_tied_plain_at .later [] [.data, .data, .data, .data, .sentinel, .sentinel, .pinned] true (true, "6698089895bd5614aec2e3e71eb16dd2ce9271c62a8da2f5758d73d35f177373") true
    over (fun _ h => by cases h) (by kernel_rfl) (fun _ h => by cases h) actionsDepends_row_tie rfl ⟨rfl, rfl⟩ (by kernel_rfl) rfl
    (fun f fn hf hfn => by
      obtain rfl : 5 = f := Option.some.inj ((show Tryz.prog.funcNamed Rows.actionsDependsRow.func = some 5 by kernel_rfl).symm.trans hf)
      obtain rfl : Tryz.f5 = fn := Option.some.inj (Tryz.func5.symm.trans hfn)
      exact ⟨by kernel_rfl, params_plain⟩)
    (by kernel_rfl)
end Go.Proofs.YtpnogmicfomofaaGreatDoor.actionsDepends
