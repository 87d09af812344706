import Derived.Test.YtlhekldlfmdmiaaCk
/-
  The reference's Check; light; right. Conditions: those ahead of each theorem.
-/
namespace Go.Proofs.Ytlhekldlfmdmiaa
open Go.RowKit Go.Sort Go.Lib Go.Maps
open Go.Lib (hid)
set_option linter.unusedVariables false
set_option linter.unusedSimpArgs false

set_option maxRecDepth 100000 in
set_option maxHeartbeats 4000000 in
theorem rcheck_any (vn : Value) (ns : List ByteArray) (es : List Ed) (ve : Value) (w : World) (hN : Sl StrR 1 w vn ns) (hS : Sl EdR 2 w ve es) (hn : es.length ≤ 1000000) :
    Calls Try.prog 31 #[.agg #[vn, ve]] w fun e w' => e = .returned (.int .i64 (chkG ns es)) ∧ Below w.heap.size w w' := by
  obtain ⟨r, c, rfl, _⟩ := id hS
  obtain ⟨rn, cn, rfl, _⟩ := id hN
  obtain ⟨_, hl, hm⟩ := sl_len hS
  obtain ⟨_, hl1, hm1⟩ := sl_len hN
  have HN := hid (fun (W : World) (hW : Below w.heap.size w W) => str_at (hN.below strR_mono hW))
  have HNs := hid (fun (W : World) (hW : Below w.heap.size w W) => hN.below strR_mono hW)
  have HE := hid (fun (W : World) (hW : Below w.heap.size w W) => ed_at (hS.below edR_mono hW))
  have HB0 := hid (show Below w.heap.size w (w.alloc (.cells #[.slice rn ns.length cn, .slice r es.length c] 25)) from (Below.refl _ _).alloc (Nat.le_refl _) _)
  have HC0 := hid (show (w.alloc (.cells #[.slice rn ns.length cn, .slice r es.length c] 25)).heap[w.heap.size]? = some (.cells #[.slice rn ns.length cn, .slice r es.length c] 25 (0, 0)) from (MapKept.heap_alloc w _).1)
  have HR := hid (show chkG ns es = if 2048 < ns.length then 14 else if ascI ns = false then 1 else chkE ns es from rfl)
  generalize chkG ns es = R at *
  have hNq := hN
  clear hN hS
  by_cases hlim : 2048 < ns.length
  · have hlz : (2048 : Int) < (ns.length : Int) := by omega
    have HR1 := hid (HR.out.trans (if_pos hlim))
    go_enter Try.func31, Try.ntmps31
    go_wp2
    go_ret
    exact ⟨ret_int HR1.out, HB0.out⟩
  have hlz : ¬ (2048 : Int) < (ns.length : Int) := by omega
  have HR1 := hid (HR.out.trans (if_neg hlim))
  clear hlim HR
  go_enter Try.func31, Try.ntmps31
  go_wp2
  generalize (w.alloc (.cells #[.slice rn ns.length cn, .slice r es.length c] 25)) = W0 at *
  go_loopw [3] (fun i wr => ∃ k : Nat, 1 ≤ k ∧ k ≤ 1 + ns.length ∧ i = .int .i64 k ∧ Hid (Below W0.heap.size W0 wr) ∧ Hid (∀ j (hj : j < ns.length), 0 < j → j < k → ltB (ns[j - 1]'(by omega)) ns[j] = true)) (fun i _ => 1 + ns.length - (intOf i).toNat)
  case atStart => exact ⟨1, by omega, by omega, rfl, Below.refl _ _, hid (fun j hj h0 h1 => by omega)⟩
  case round =>
    obtain ⟨k, hk1, hk, rfl, HB, HA⟩ := hrel
    have hbw := HB0.out.trans (HB.out.mono HB0.out.size)
    have HC := hid ((HB.out.block _ (lt_of_block HC0.out)).trans HC0.out)
    have z0 := cellv HC.out 0 rfl
    by_cases hlt : k < ns.length
    · obtain ⟨b, off, rfl, hb, g0, hs⟩ := HN.out _ hbw k hlt
      obtain ⟨b', off', e, hb', g1, hs1⟩ := HN.out _ hbw (k - 1) (by omega)
      simp at e
      obtain ⟨rfl, rfl⟩ := e
      have HNo := hid (ascI_no (k := k) hlt (by omega))
      have HY := hid (fun (h : ltB (ns[k - 1]'(by omega)) ns[k] = true) => show ∀ j (hj : j < ns.length), 0 < j → j < k + 1 → ltB (ns[j - 1]'(by omega)) ns[j] = true from fun j hj h0 h1 => by
        by_cases e : j < k
        · exact HA.out j hj h0 e
        · obtain rfl : j = k := by omega
          exact h)
      have k0 : (0 : Int) ≤ (k : Int) - 1 := by omega
      have k1 : (k : Int) - 1 < (ns.length : Int) := by omega
      have k2 : (0 : Int) ≤ (k : Int) := by omega
      have k3 : (k : Int) < (ns.length : Int) := by omega
      have k4 : ((k : Int) - 1).toNat = k - 1 := by omega
      have k5 : IntKind.i64.wrap ((k : Int) - 1) = (k : Int) - 1 := by rw [IntKind.wrap_i64]; omega
      have HBw := hid hbw
      clear hbw HN HA hs hs1
      generalize ns[k] = y at *
      generalize ns[k - 1] = x at *
      have h1 := less_bytes x y
      have h3 := less_bytes y x
      have h4 := eq_bytes y x
      have h5 := eq_bytes x y
      cases hxy : ltB x y with
      | true =>
        have HY2 := hid (HY.out hxy)
        have hyx := stoB.asym hxy
        have hne : decide (y = x) = false := decide_eq_false (by rintro rfl; rw [stoB.irr] at hxy; cases hxy)
        have hne2 : decide (x = y) = false := decide_eq_false (by rintro rfl; rw [stoB.irr] at hxy; cases hxy)
        rw [hxy] at h1
        rw [hyx] at h3
        rw [hne] at h4
        rw [hne2] at h5
        clear hxy hyx hne hne2 HY HNo
        go_wp2
        go_quiet (fail)
        go_wp2
        go_roundw
        case rel => exact ⟨k + 1, by omega, by omega, by go_num, HB.out.drewN _, HY2⟩
        case measure => simp [intOf]; omega
      | false =>
        have HR2 := hid (HR1.out.trans (if_pos (HNo.out hxy)))
        rw [hxy] at h1
        clear hxy h3 h4 h5 HY HNo
        go_wp2
        go_quiet (fail)
        go_wp2
        go_ret
        exact ⟨ret_int HR2.out, HBw.out.drewN _⟩
    · have hke : ns.length ≤ k := by omega
      have HR2 := hid (HR1.out.trans (if_neg (by rw [ascI_yes (fun j hj h0 => HA.out j hj h0 (by omega))]; simp)))
      have HBw := hid hbw
      have HNw := hid (HNs.out _ hbw)
      clear HR1 HA hke hbw
      clear HNw HNs HN
      have HNq := hid (fun (W : World) (hW : Below w.heap.size w W) => hNq.below strR_mono hW)
      have HC2 := HC
      have B2 := HBw
      have hsz2 : w.heap.size + 1 ≤ wr.heap.size := by have := HB.out.size; have := lt_of_block HC0.out; omega
      clear HB HB0 HC0 HC HBw hNq
      obtain ⟨w2, rfl⟩ : ∃ w2 : World, w2 = wr := ⟨_, rfl⟩
      go_wp2
      go_loopw [4] (fun i wr => ∃ k : Nat, k ≤ es.length ∧ i = .int .i64 k ∧ Below w2.heap.size w2 wr ∧ Hid (∀ j, j < k → errA ns es j = 0)) (fun i _ => es.length - (intOf i).toNat)
      case atStart => exact ⟨0, by omega, rfl, Below.refl _ _, hid (fun j hj => by omega)⟩
      case round =>
        obtain ⟨k, hk, rfl, hbl, HZ⟩ := hrel
        have hbw := B2.out.trans (hbl.mono B2.out.size)
        have HC4 := hid ((hbl.block w.heap.size (by omega)).trans HC2.out)
        have u0 := cellv HC4.out 0 rfl
        have u1 := cellv HC4.out 1 rfl
        by_cases hlt : k < es.length
        · obtain ⟨b, off, rfl, hb, g0, g1, hs0, hs1⟩ := HE.out _ hbw k hlt
          have HX := hid (errA_in (ns := ns) hlt)
          have HNo := hid (fun (h : errA ns es k ≠ 0) => chkE_stop hlt HZ.out h)
          have HY := hid (fun (h : errA ns es k = 0) => show ∀ j, j < k + 1 → errA ns es j = 0 from fun j hj => by
            by_cases e : j < k
            · exact HZ.out j e
            · obtain rfl : j = k := by omega
              exact h)
          have BW1 := hid hbw
          have BL1 := hid hbl
          have HPr := hid (fun (h : k ≠ 0) => HE.out _ hbw (k - 1) (by omega))
          have CH := hid (fun (n : Nat) (y : ByteArray) => has_any ns y (.slice rn ns.length cn) (wr.drewN n) (HNq.out _ (hbw.drewN n)))
          clear HE hbl hbw hs0 hs1 HZ HNq
          have k2 : (0 : Int) ≤ (k : Int) := by omega
          have k3 : (k : Int) < (es.length : Int) := by omega
          generalize errA ns es k = er at *
          generalize es[k] = y at *
          have HX2 := hid (fun (h : k ≠ 0) x (hx : es[k - 1]'(by omega) = x) => (show er = if (hasS y.1 ns && hasS y.2 ns) = false then 9 else if (decide (0 < k) && !lessE x y) = true then 1 else 0 by rw [HX.out, hx]))
          obtain ⟨y1, y2⟩ := y
          simp only at HX HX2 g0 g1
          have CH1 := hid (fun (n : Nat) => (CH.out n y1).mono fun e w' ⟨h1, h2⟩ => (show e = Ending.returned (.bool (hasS y1 ns)) ∧ w' = wr.drewN n from ⟨h1, h2.symm⟩))
          have CH2 := hid (fun (n : Nat) => (CH.out n y2).mono fun e w' ⟨h1, h2⟩ => (show e = Ending.returned (.bool (hasS y2 ns)) ∧ w' = wr.drewN n from ⟨h1, h2.symm⟩))
          clear CH
          generalize hasS y1 ns = p1 at *
          generalize hasS y2 ns = p2 at *
          cases p1
          case false =>
            have h9 : er = 9 := by rw [HX.out]; rfl
            have HR := hid (HR2.out.trans ((HNo.out (by omega)).trans h9))
            go_wp2
            go_quiet (exact Calls.quiet_of_same (CH1.out _))
            go_wp2
            go_ret
            exact ⟨ret_int HR.out, BW1.out.drewN _⟩
          case true =>
            cases p2
            case false =>
              have h9 : er = 9 := by rw [HX.out]; rfl
              have HR := hid (HR2.out.trans ((HNo.out (by omega)).trans h9))
              go_wp2
              go_quiet (first | with_reducible exact Calls.quiet_of_same (CH1.out _) | with_reducible exact Calls.quiet_of_same (CH2.out _))
              go_wp2
              go_ret
              exact ⟨ret_int HR.out, BW1.out.drewN _⟩
            case true =>
              by_cases h0 : k = 0
              · subst h0
                have HY2 := hid (HY.out (by rw [HX.out]; rfl))
                clear HX HX2 HY HNo HPr
                simp only [Nat.zero_mul, Nat.add_zero] at g0 g1
                go_wp2
                go_quiet (first | with_reducible exact Calls.quiet_of_same (CH1.out _) | with_reducible exact Calls.quiet_of_same (CH2.out _))
                go_wp2
                go_quiet (fail)
                go_wp2
                go_roundw
                case rel => exact ⟨1, by omega, rfl, BL1.out.drewN _, HY2⟩
                case measure => simp [intOf]; omega
              · obtain ⟨b', off', e, hb', f0, f1, _, _⟩ := HPr.out h0
                simp at e
                obtain ⟨rfl, rfl⟩ := e
                have HX3 := hid (HX2.out h0 _ rfl)
                clear HX HX2 HPr
                generalize es[k - 1] = x at *
                obtain ⟨x1, x2⟩ := x
                simp only at f0 f1
                have k0 : (0 : Int) ≤ (k : Int) - 1 := by omega
                have k1 : (k : Int) - 1 < (es.length : Int) := by omega
                have k4 : ((k : Int) - 1).toNat = k - 1 := by omega
                have k5 : IntKind.i64.wrap ((k : Int) - 1) = (k : Int) - 1 := by rw [IntKind.wrap_i64]; omega
                have k6 : (0 : Int) < (k : Int) := by omega
                have hpos : 0 < k := by omega
                have HX4 := hid (show er = if (!lessE (x1, x2) (y1, y2)) = true then 1 else 0 by rw [HX3.out]; simp [hpos])
                have hd : decide ((0 : Int) < (k : Int)) = true := decide_eq_true k6
                have k7 : (1 : Int) ≤ (k : Int) := by omega
                have k8 : 1 ≤ k := hpos
                have k9 : (k : Int) ≤ (es.length : Int) := by omega
                have HCM := hid (fun (W : World) => less_any (x1, x2) (y1, y2) W)
                clear HX3
                generalize lessE (x1, x2) (y1, y2) = lv at *
                go_wp2
                go_quiet (first | with_reducible exact Calls.quiet_of_same (CH1.out _) | with_reducible exact Calls.quiet_of_same (CH2.out _))
                clear CH1 CH2
                have u1' := bget ((Below.refl wr.heap.size wr).drewN nq) u1
                have g0' := bget ((Below.refl wr.heap.size wr).drewN nq) g0
                have g1' := bget ((Below.refl wr.heap.size wr).drewN nq) g1
                have f0' := bget ((Below.refl wr.heap.size wr).drewN nq) f0
                have f1' := bget ((Below.refl wr.heap.size wr).drewN nq) f1
                have BL2 := hid (BL1.out.drewN nq)
                have BW2 := hid (BW1.out.drewN nq)
                clear u0 u1 g0 g1 f0 f1
                go_wp2
                generalize wr.drewN nq = W1 at *
                go_region_held3 (fun w' => w'.cell? ⟨w.heap.size, 1, none⟩ = some (.slice (some ⟨b, off, none⟩) es.length c) ∧ w'.cell? ⟨b, off + (k - 1) * 2, none⟩ = some (.string x1) ∧ w'.cell? ⟨b, off + (k - 1) * 2 + 1, none⟩ = some (.string x2) ∧ w'.cell? ⟨b, off + k * 2, none⟩ = some (.string y1) ∧ w'.cell? ⟨b, off + k * 2 + 1, none⟩ = some (.string y2))
                  (first | go_keep | exact ⟨bget hq u1', bget hq f0', bget hq f1', bget hq g0', bget hq g1'⟩)
                  ((go_at_call 55
                    refine (HCM.out _).mono ?_
                    rintro e w3 ⟨rfl, hb3⟩
                    have hq : Below W1.heap.size W1 w3 := Below.trans (by first | exact (Below.refl _ _).drewN _ | exact (Below.refl _ _).drew) hb3
                    clear hb3))
                all_goals
                  have BLe := hid (BL2.out.trans (hq.mono BL2.out.size))
                  have BWe := hid (BW2.out.trans (hq.mono BW2.out.size))
                  cases lv with
                  | false =>
                    have h1 : er = 1 := by rw [HX4.out]; rfl
                    have HR := hid (HR2.out.trans ((HNo.out (by omega)).trans h1))
                    go_wp2
                    go_ret
                    exact ⟨ret_int HR.out, BWe.out⟩
                  | true =>
                    have HY2 := hid (HY.out (by rw [HX4.out]; rfl))
                    go_wp2
                    go_roundw
                    case rel => exact ⟨k + 1, by omega, by go_num, BLe.out, HY2⟩
                    case measure => simp [intOf]; omega
        · have hke : k = es.length := by omega
          have HR := hid (HR2.out.trans (chkE_zero fun j hj => HZ.out j (by omega)))
          have HBw := hid hbw
          clear hke HZ HE hbl hbw
          go_wp2
          go_ret
          exact ⟨ret_int HR.out, HBw.out⟩
end Go.Proofs.Ytlhekldlfmdmiaa
