import Derived.Test.YtpnogmicfomofaaGreatDoorIb
import Derived.Test.YtpnogmicfomofaaGreatDoorSB
import Derived.Test.YtpnogmicfomofaaGreatDoorZd
import Derived.Test.YtpnogmicfomofaaGreatDoorSH
import Derived.Test.YtpnogmicfomofaaGreatDoorZc
/-
  Layer 44: ActionsOrders: the law's walk. Conditions: those ahead of each theorem.
-/
namespace Go.Proofs.YtpnogmicfomofaaGreatDoor.Stp
open Go.RowKit Go.Sort Go.Lib Go.Maps
open Go.Lib (hid)
open Adr (WT)
set_option linter.unusedVariables false
set_option linter.unusedSimpArgs false

theorem few_len {ss : List St} (h : fewB ss = true) : ss.length ≤ 900000 ∧ (esN (nls ss)).length ≤ 900000 := by
  unfold fewB at h
  rw [Bool.and_eq_true, decide_eq_true_eq, List.all_eq_true] at h
  obtain ⟨h1, h2⟩ := h
  refine ⟨by omega, ?_⟩
  have h3 := esN_le (nls ss) 100 (fun l hl => by
    unfold nls at hl
    obtain ⟨s, hs, rfl⟩ := List.mem_map.1 hl
    have := h2 s hs
    rw [decide_eq_true_eq] at this
    rw [List.length_map]
    exact this) (nls ss).length (Nat.le_refl _)
  rw [List.take_length, nls_len] at h3
  have : ss.length * 100 ≤ 100 * 100 := Nat.mul_le_mul_right _ (by omega)
  omega
set_option maxRecDepth 100000 in
set_option maxHeartbeats 8000000 in
theorem aorders_any (v : Value) (ss : List St) (a b : Int) (w : World) (hS : Sl StR 3 w v ss) (hT : WT w) :
    Calls Tryz.prog 4 #[v, .int .i64 a, .int .i64 b] w fun e w' => e = .returned (.bool true) ∧ Below w.heap.size w w' := by
  have HF := hid (few_any v ss w hS)
  have HL := hid (fun h => few_len (ss := ss) h)
  have HS := hid (fun (W : World) (hW : Below w.heap.size w W) => hS.below stR_mono hW)
  have HA := hid (fun (W : World) (hW : Below w.heap.size w W) => awake_any W (hT.below hW))
  clear hS hT
  cases hf : fewB ss with
  | false =>
    rw [hf] at HF
    clear hf HL
    go_enter Tryz.func4, Tryz.ntmps4
    go_wp2_with (first
      | (go_at_call 12; refine HF.out.mono ?_; rintro e w1 ⟨rfl, rfl⟩)
      | (go_at_call 10; refine (HA.out _ (Below.refl _ _)).mono ?_; rintro e w9 ⟨rfl, hb9⟩))
    go_ret
    exact ⟨rfl, hb9⟩
  | true =>
    rw [hf] at HF
    have hlen := HL.out hf
    have HO := hid (fun (W : World) (hW : Below w.heap.size w W) => porder_any v ss W (HS.out W hW) hlen.1 hlen.2)
    have HR := hid (fun (W : World) (hW : Below w.heap.size w W) => rorder_any v ss W (HS.out W hW) hlen.1)
    have HB := hid (fun (W : World) (hW : Below w.heap.size w W) => before_any v ss a b W (HS.out W hW) hlen.1)
    have HC := hid (fun (W : World) (hW : Below w.heap.size w W) => rbefore_any v ss a b W (HS.out W hW) hlen.1)
    unfold OrdPN at HO HR
    have HN := hid (fun (va vb : Value) (W : World) (h1 : Sl IntR 1 W va ((ordL ss).map Nat.cast)) (h2 : Sl IntR 1 W vb ((ordL ss).map Nat.cast)) => numbers_any _ _ va vb W h1 h2)
    rw [decide_eq_true (rfl : ((ordL ss).map (Nat.cast : Nat → Int)) = (ordL ss).map Nat.cast)] at HN
    clear hlen hf HL HS
    generalize (ordL ss).map (Nat.cast : Nat → Int) = L at *
    generalize ordR ss = E at *
    generalize befS ss a b = BB at *
    go_enter Tryz.func4, Tryz.ntmps4
    go_wp2_with (first
      | (go_at_call 12; refine HF.out.mono ?_; rintro e w1 ⟨rfl, rfl⟩)
      | (go_at_call 13; refine (HO.out _ (Below.refl _ _)).mono ?_; rintro e w2 ⟨v2, rfl, hs2, hb2⟩; have HS2 := hid hs2; have HB2 := hid hb2; clear hs2 hb2)
      | (go_at_call 14; refine (HR.out _ HB2.out).mono ?_; rintro e w3 ⟨v3, rfl, hs3, hb3⟩; have HS3 := hid hs3; have HS23 := hid (HS2.out.below intR_mono hb3); have HB3 := hid (HB2.out.trans (hb3.mono HB2.out.size)); clear hs3 hb3)
      | (go_at_call 15; refine (HN.out _ _ _ HS23.out HS3.out).mono ?_; rintro e w4 ⟨rfl, hb4⟩; have HB4 := hid (HB3.out.trans (hb4.mono HB3.out.size)); clear hb4)
      | (go_at_call 16; refine (HB.out _ HB4.out).mono ?_; rintro e w5 ⟨rfl, hb5⟩; have HB5 := hid (HB4.out.trans (hb5.mono HB4.out.size)); clear hb5)
      | (go_at_call 17; refine (HC.out _ HB5.out).mono ?_; rintro e w6 ⟨rfl, hb6⟩; have HB6 := hid (HB5.out.trans (hb6.mono HB5.out.size)); clear hb6)
      | (go_at_call 10; refine (HA.out _ HB6.out).mono ?_; rintro e w9 ⟨rfl, hb9⟩; have HB9 := hid (HB6.out.trans (hb9.mono HB6.out.size)); clear hb9))
    go_ret
    exact ⟨rfl, HB9.out⟩
end Go.Proofs.YtpnogmicfomofaaGreatDoor.Stp
