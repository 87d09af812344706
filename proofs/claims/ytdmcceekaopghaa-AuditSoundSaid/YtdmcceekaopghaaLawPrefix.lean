/-
  The walk of the statement AuditPrefix: it returns true for every list of steps and events and every number that can be read as data. Conditions: the readings.
-/
import Derived.Test.YtdmcceekaopghaaOpen
namespace Go.Proofs.Ytdmcceekaopghaa
open Go.RowKit Go.Sort

theorem sl_take {α : Type} {R : World → List Value → α → Prop} {sz : Nat} {w : World} {r : Option Addr} {n cap : Nat} {xs : List α} (h : Sl R sz w (.slice r n cap) xs) (k : Nat) (hk : k ≤ xs.length) : Sl R sz w (.slice r k cap) (xs.take k) := by
  obtain ⟨r', cap', hv, hl, hc, he⟩ := h
  simp at hv
  obtain ⟨rfl, rfl, rfl⟩ := hv
  refine ⟨r, cap, by simp [Nat.min_eq_left hk], by simp; omega, hc, fun i hi => ?_⟩
  have hi2 : i < k := by simp at hi; omega
  obtain ⟨b, off, cs, h1, h2, h3, h4⟩ := he i (by omega)
  exact ⟨b, off, cs, h1, h2, h3, by simpa using h4⟩

theorem auditPrefix_walk (ss : List St) (l : List Ev) (n : Nat) (vS vL : Value) (w : World) (hS : Sl StR 3 w vS ss) (hL : Sl EvR 6 w vL l) (hn : n ≤ 255) :
    Calls Try.prog 4 #[vS, vL, .int .u8 n] w fun r w' => r = .returned (.bool true) ∧ Below w.heap.size w w' := by
  have HS := Lib.hid hS
  have HL := Lib.hid hL
  obtain ⟨rS, capS, rfl, hlS, hmS, _⟩ := hS
  obtain ⟨rL, capL, rfl, hlL, hmL, _⟩ := hL
  unfold maxLen at hmS hmL
  cases hfew : fewB ss l
  case false =>
    go_enter Try.func4, Try.ntmps4
    go_wp2_with fail
    refine (few_any ss l _ _ _ HS.out HL.out).mono ?_
    rintro r w' ⟨rfl, rfl⟩
    rw [hfew]
    clear hfew
    go_wp2_with fail
    refine (awake_any _).mono ?_
    rintro r w' ⟨rfl, hb⟩
    go_wp2
    go_ret
    exact ⟨rfl, hb⟩
  case true =>
    obtain ⟨h40, h120⟩ := few_of hfew
    by_cases ho : ord ss l = 0
    case neg =>
      have e1 : (ord ss l == 0) = false := by simpa using ho
      have e2 : (ord ss l != 0) = true := by simpa using ho
      clear ho
      go_enter Try.func4, Try.ntmps4
      go_wp2_with fail
      refine (few_any ss l _ _ _ HS.out HL.out).mono ?_
      rintro r w' ⟨rfl, rfl⟩
      rw [hfew]
      clear hfew
      go_wp2_with fail
      refine (order_any ss l _ _ _ HS.out HL.out h40 (by omega)).mono ?_
      rintro r w1 ⟨rfl, hb1⟩
      go_wp2_with fail
      refine (awake_any _).mono ?_
      rintro r w2 ⟨rfl, hb2⟩
      go_wp2
      go_ret
      exact ⟨rfl, hb1.trans (hb2.mono hb1.size)⟩
    case pos =>
      have HO := Lib.hid ho
      clear ho
      by_cases hnl : n ≤ l.length
      · go_enter Try.func4, Try.ntmps4
        go_wp2_with fail
        refine (few_any ss l _ _ _ HS.out HL.out).mono ?_
        rintro r w' ⟨rfl, rfl⟩
        rw [hfew]
        clear hfew
        go_wp2_with fail
        refine (order_any ss l _ _ _ HS.out HL.out h40 (by omega)).mono ?_
        rintro r w1 ⟨rfl, hb1⟩
        rw [HO.out]
        go_wp2_with fail
        refine (order_any ss (l.take n) _ _ _ (HS.out.below stR_mono hb1) (sl_take (HL.out.below evR_mono hb1) n hnl) h40 (by simp; omega)).mono ?_
        rintro r w2 ⟨rfl, hb2⟩
        rw [ord_take n HO.out]
        go_wp2_with fail
        refine (awake_any _).mono ?_
        rintro r w3 ⟨rfl, hb3⟩
        have hz1 := hb1.size
        have hz2 := hb2.size
        go_wp2
        go_ret
        exact ⟨rfl, (hb1.trans (hb2.mono hz1)).trans (hb3.mono (by omega))⟩
      · have hnl2 : l.length < n := by omega
        clear hnl
        go_enter Try.func4, Try.ntmps4
        go_wp2_with fail
        refine (few_any ss l _ _ _ HS.out HL.out).mono ?_
        rintro r w' ⟨rfl, rfl⟩
        rw [hfew]
        clear hfew
        go_wp2_with fail
        refine (order_any ss l _ _ _ HS.out HL.out h40 (by omega)).mono ?_
        rintro r w1 ⟨rfl, hb1⟩
        rw [HO.out]
        go_wp2_with fail
        refine (awake_any _).mono ?_
        rintro r w2 ⟨rfl, hb2⟩
        go_wp2
        go_ret
        exact ⟨rfl, hb1.trans (hb2.mono hb1.size)⟩

open Go.ChangeShapes Go.WideShapes Go.ChangeAt in
set_option maxRecDepth 100000 in
theorem open_u8 {H : Type} {enc : TypeId × Value → H} {W : World} {base : Nat} {v : Value} {d : DataW H} {p : List MemPlace}
    (o : Value.okWide Try.prog W .any base 5 v) (h : DataW.Trod enc Try.prog W 0 (fun _ => true) true 5 v d p) : ∃ n : Nat, n ≤ 255 ∧ v = .int .u8 n := by
  obtain ⟨x, rfl, _, _, hw⟩ := open_int Try.underlying5 o h
  have hb : 0 ≤ x ∧ x ≤ 255 := by simpa [Lit.wf, IntKind.min, IntKind.max, IntKind.signed, IntKind.bits] using hw
  exact ⟨x.toNat, by omega, by rw [Int.toNat_of_nonneg hb.1]⟩

set_option maxRecDepth 100000 in
theorem auditPrefix_from (H : Type) (enc : TypeId × Value → H) (W : World) (base : Nat) (v0 v1 v2 : Value) (d0 d1 d2 : DataW H) (p0 p1 p2 : List MemPlace)
    (o0 : Value.okWide Try.prog W .any base 22 v0) (o1 : Value.okWide Try.prog W .any base 23 v1) (o2 : Value.okWide Try.prog W .any base 5 v2)
    (h0 : DataW.Trod enc Try.prog W 0 (fun _ => true) true 22 v0 d0 p0) (h1 : DataW.Trod enc Try.prog W 0 (fun _ => true) true 23 v1 d1 p1) (h2 : DataW.Trod enc Try.prog W 0 (fun _ => true) true 5 v2 d2 p2) :
    Calls Try.prog 4 #[v0, v1, v2] W fun e W' => e = .returned (.bool true) ∧ Below W.heap.size W W' := by
  obtain ⟨ss, hS⟩ := open_steps o0 h0
  obtain ⟨es, hL⟩ := open_events o1 h1
  obtain ⟨n, hn, rfl⟩ := open_u8 o2 h2
  exact auditPrefix_walk ss es n v0 v1 W hS hL hn
end Go.Proofs.Ytdmcceekaopghaa
