/-
  The walk of the statement AuditOrder: it returns true for every list of steps and events that can be read as data. Conditions: the readings.
-/
import Derived.Test.YtdmcceekaopghaaOpen
namespace Go.Proofs.Ytdmcceekaopghaa
open Go.RowKit Go.Sort

theorem auditOrder_walk (ss : List St) (l : List Ev) (vS vL : Value) (w : World) (hS : Sl StR 3 w vS ss) (hL : Sl EvR 6 w vL l) :
    Calls Try.prog 3 #[vS, vL] w fun r w' => r = .returned (.bool true) ∧ Below w.heap.size w w' := by
  have HS := Lib.hid hS
  have HL := Lib.hid hL
  obtain ⟨rS, capS, rfl, _⟩ := hS
  obtain ⟨rL, capL, rfl, _⟩ := hL
  cases hfew : fewB ss l
  case false =>
    go_enter Try.func3, Try.ntmps3
    go_wp2_with fail
    refine (few_any ss l _ _ _ HS.out HL.out).mono ?_
    rintro r w' ⟨rfl, rfl⟩
    rw [hfew]
    clear hfew
    go_wp2_with fail
    refine (awake_any _).mono ?_
    rintro r w' ⟨rfl, hb⟩
    go_wp2
    go_ret
    exact ⟨rfl, hb⟩
  case true =>
    obtain ⟨h40, h120⟩ := few_of hfew
    go_enter Try.func3, Try.ntmps3
    go_wp2_with fail
    refine (few_any ss l _ _ _ HS.out HL.out).mono ?_
    rintro r w' ⟨rfl, rfl⟩
    rw [hfew]
    clear hfew
    go_wp2_with fail
    refine (order_any ss l _ _ _ HS.out HL.out h40 (by omega)).mono ?_
    rintro r w1 ⟨rfl, hb1⟩
    go_wp2_with fail
    refine (rorder_any ss l _ _ _ (HS.out.below stR_mono hb1) (HL.out.below evR_mono hb1)).mono ?_
    rintro r w2 ⟨rfl, hb2⟩
    go_wp2_with fail
    refine (awake_any _).mono ?_
    rintro r w3 ⟨rfl, hb3⟩
    have hz1 := hb1.size
    have hz2 := hb2.size
    go_wp2
    go_ret
    exact ⟨rfl, (hb1.trans (hb2.mono hz1)).trans (hb3.mono (by omega))⟩

set_option maxRecDepth 100000 in
theorem auditOrder_from (H : Type) (enc : TypeId × Value → H) (W : World) (base : Nat) (v0 v1 : Value) (d0 d1 : DataW H) (p0 p1 : List MemPlace)
    (o0 : Value.okWide Try.prog W .any base 22 v0) (o1 : Value.okWide Try.prog W .any base 23 v1)
    (h0 : DataW.Trod enc Try.prog W 0 (fun _ => true) true 22 v0 d0 p0) (h1 : DataW.Trod enc Try.prog W 0 (fun _ => true) true 23 v1 d1 p1) :
    Calls Try.prog 3 #[v0, v1] W fun e W' => e = .returned (.bool true) ∧ Below W.heap.size W W' := by
  obtain ⟨ss, hS⟩ := open_steps o0 h0
  obtain ⟨es, hL⟩ := open_events o1 h1
  exact auditOrder_walk ss es v0 v1 W hS hL
end Go.Proofs.Ytdmcceekaopghaa
