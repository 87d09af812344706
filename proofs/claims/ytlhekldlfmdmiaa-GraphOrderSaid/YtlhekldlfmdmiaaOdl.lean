import Derived.Test.YtlhekldlfmdmiaaPt
/-
  GraphOrder: the law's walk. Conditions: those ahead of each theorem.
-/
namespace Go.Proofs.Ytlhekldlfmdmiaa
open Go.RowKit Go.Sort Go.Lib Go.Maps
open Go.Lib (hid)
set_option linter.unusedVariables false
set_option linter.unusedSimpArgs false

theorem any_snoc {α : Type} {p : α → Bool} {l : List α} {j : Nat} (hj : j < l.length) : (l.take (j + 1)).any p = ((l.take j).any p || p l[j]) := by
  rw [List.take_succ_eq_append_getElem hj, List.any_append]; simp
def isE (a b : ByteArray) (e : Ed) : Bool := decide (e.1 = a) && decide (e.2 = b)
theorem any_isE {es : List Ed} {a b : ByteArray} (h : (a, b) ∈ es) : es.any (isE a b) = true := List.any_eq_true.2 ⟨_, h, by simp [isE]⟩

set_option maxRecDepth 100000 in
set_option maxHeartbeats 8000000 in
theorem gorder_any (vn ve : Value) (ns : List ByteArray) (es : List Ed) (w : World) (hN : Sl StrR 1 w vn ns) (hS : Sl EdR 2 w ve es) :
    Calls Try.prog 5 #[.agg #[vn, ve]] w fun e w' => e = .returned (.bool true) ∧ Below w.heap.size w w' := by
  obtain ⟨r, c, rfl, _⟩ := id hS
  obtain ⟨rn, cn, rfl, _⟩ := id hN
  obtain ⟨_, hl1, hm1⟩ := sl_len hN
  obtain ⟨_, hl2, hm2⟩ := sl_len hS
  have HN := hid (fun (W : World) (hW : Below w.heap.size w W) => hN.below strR_mono hW)
  have HE := hid (fun (W : World) (hW : Below w.heap.size w W) => hS.below edR_mono hW)
  have HB0 := hid (show Below w.heap.size w (w.alloc (.cells #[.slice rn ns.length cn, .slice r es.length c] 25)) from (Below.refl _ _).alloc (Nat.le_refl _) _)
  have HC0 := hid (show (w.alloc (.cells #[.slice rn ns.length cn, .slice r es.length c] 25)).heap[w.heap.size]? = some (.cells #[.slice rn ns.length cn, .slice r es.length c] 25 (0, 0)) from (MapKept.heap_alloc w _).1)
  have HOK := hid (fun h => rightB_ok (ns := ns) (es := es) h)
  clear hN hS
  go_enter Try.func5, Try.ntmps5
  go_wp2_with fail
  generalize (w.alloc (.cells #[.slice rn ns.length cn, .slice r es.length c] 25)) = W0 at *
  have z0 := cellv HC0.out 0 rfl
  have z1 := cellv HC0.out 1 rfl
  go_wp2_with fail
  refine (right_any _ ns es _ W0 (HN.out _ HB0.out) (HE.out _ HB0.out)).mono ?_
  rintro e w1 ⟨rfl, hb1⟩
  have HB1 := hid (HB0.out.trans (hb1.mono HB0.out.size))
  have HC1 := hid ((hb1.block w.heap.size (lt_of_block HC0.out)).trans HC0.out)
  clear hb1 z0 z1
  cases hr : rightB ns es with
  | false =>
    clear hr
    go_wp2_with fail
    refine (awake_any w1).mono ?_
    rintro e w2 ⟨rfl, hb2⟩
    have HB2 := hid (HB1.out.trans (hb2.mono HB1.out.size))
    clear hb2
    go_wp2
    go_ret
    exact ⟨rfl, HB2.out⟩
  | true =>
    have hok := HOK.out hr
    have HCH := hid hok.2.2
    clear hr HOK
    obtain ⟨hok1, hok2, _⟩ := hok
    have HNA := hid (chk_iff.1 HCH.out).2.1
    have HEN := hid (chk_ends HCH.out)
    have y0 := cellv HC1.out 0 rfl
    have y1 := cellv HC1.out 1 rfl
    go_wp2_with fail
    refine (order_any _ ns es _ w1 (HN.out _ HB1.out) (HE.out _ HB1.out) HNA.out HEN.out (by omega) (by omega)).mono ?_
    rintro e w2 ⟨vo, rfl, ho2, hb2⟩
    have HB2 := hid (HB1.out.trans (hb2.mono HB1.out.size))
    have HC2 := hid ((hb2.block w.heap.size (lt_of_block HC1.out)).trans HC1.out)
    have HO2 := hid (fun (W : World) (hW : Below w2.heap.size w2 W) => ho2.below strR_mono hW)
    clear hb2 ho2 y0 y1 HC1 HB1
    have y0 := cellv HC2.out 0 rfl
    have y1 := cellv HC2.out 1 rfl
    go_wp2_with fail
    refine (cycle_any _ ns es _ w2 (HN.out _ HB2.out) (HE.out _ HB2.out) (by omega) (by omega)).mono ?_
    rintro e w3 ⟨vc, rfl, hc3, hb3⟩
    have HB3 := hid (HB2.out.trans (hb3.mono HB2.out.size))
    have HC3 := hid ((hb3.block w.heap.size (lt_of_block HC2.out)).trans HC2.out)
    have HO3 := hid (fun (W : World) (hW : Below w3.heap.size w3 W) => HO2.out W (hb3.trans (hW.mono hb3.size)))
    have HY3 := hid (fun (W : World) (hW : Below w3.heap.size w3 W) => hc3.below strR_mono hW)
    clear hb3 hc3 y0 y1 HC2 HB2 HO2
    have HOC := hid (ord_cyc (asc_nodup stoB HNA.out) HEN.out)
    by_cases ho : ordE ns es = 0
    · have hcy := HOC.out.1 ho
      have HAl := hid (ordO_all ho)
      have HEd := hid (fun (k : Nat) (hk : k < es.length) => ordO_edge ho HEN.out (List.getElem_mem hk))
      have HBd := hid (fun x => atS_bd x (ordO ns es))
      have HAt := hid (fun (k : Nat) (hk : k < ns.length) => show (0 : Int) ≤ atS ns[k] (ordO ns es) from by
        rw [atS_in ((ordO_all ho).2 _ (List.getElem_mem hk))]; omega)
      rw [hcy] at HY3
      rw [ho]
      have hol : (ordO ns es).length = ns.length := (ordO_all ho).1
      clear hcy HOC ho HAl
      generalize ordO ns es = L at *
      obtain ⟨ro, co, rfl, hro1, hro2, _⟩ := id (HO3.out w3 (Below.refl _ _))
      obtain ⟨rc, cc, rfl, hrc1, hrc2, _⟩ := id (HY3.out w3 (Below.refl _ _))
      rw [hol] at HO3 hro1 ⊢
      have HOL := hid hol
      clear hol hro2 hrc2
      have y0 := cellv HC3.out 0 rfl
      have y1 := cellv HC3.out 1 rfl
      simp only [List.length_nil]
      go_wp2
      go_loop [6] (fun i => i = .int .i64 0) (fun _ => 0)
      case atStart => rfl
      case round =>
        obtain rfl := hrel
        go_wp2
        go_loop [9] (fun i => ∃ k : Nat, k ≤ ns.length ∧ i = .int .i64 k) (fun i => ns.length - (RowKit.intOf i).toNat)
        case atStart => exact ⟨0, by omega, rfl⟩
        case round =>
          obtain ⟨k, hk, rfl⟩ := hrel
          by_cases hlt : k < ns.length
          · obtain ⟨b, off, rfl, hb, g0, hz0⟩ := str_at (HN.out _ HB3.out) k hlt
            have HK := hid (HAt.out k hlt)
            have k2 : (0 : Int) ≤ (k : Int) := by omega
            have k3 : (k : Int) < (ns.length : Int) := by omega
            generalize ns[k] = y at *
            have HQ := hid (at_any L y _ w3 (HO3.out _ (Below.refl _ _)))
            have hkk := HK.out
            clear hz0
            generalize atS y L = q at *
            have hq : ¬ q < 0 := by omega
            go_wp2_with fail
            refine HQ.out.mono ?_
            rintro r' w' ⟨rfl, rfl⟩
            go_wp2
            go_round
            case rel => exact ⟨k + 1, by omega, by go_num⟩
            case measure => simp [RowKit.intOf]; omega
          · obtain rfl : k = ns.length := by omega
            go_wp2
            go_loopw [10] (fun i wr => ∃ k : Nat, k ≤ es.length ∧ i = .int .i64 k ∧ Hid (Below w3.heap.size w3 wr)) (fun i _ => es.length - (RowKit.intOf i).toNat)
            case atStart => exact ⟨0, by omega, rfl, hid (Below.refl _ _)⟩
            case round =>
              obtain ⟨k, hk, rfl, HBk⟩ := hrel
              have HBw := hid (HB3.out.trans (HBk.out.mono HB3.out.size))
              have HCk := hid ((HBk.out.block _ (lt_of_block HC3.out)).trans HC3.out)
              have x1 := cellv HCk.out 1 rfl
              by_cases hlt : k < es.length
              · obtain ⟨b, off, rfl, hb, g0, g1, hs0, hs1⟩ := ed_at (HE.out _ HBw.out) k hlt
                have hee := HEd.out k hlt
                have k2 : (0 : Int) ≤ (k : Int) := by omega
                have k3 : (k : Int) < (es.length : Int) := by omega
                generalize es[k] = y at *
                obtain ⟨u1, u2⟩ := y
                simp only at g0 g1 hee
                have CA1 := hid (fun (n : Nat) => (at_any L u1 _ (wr.drewN n) (HO3.out _ (HBk.out.drewN n))).mono fun e w' ⟨h1, h2⟩ => (show e = Ending.returned (.int .i64 (atS u1 L)) ∧ w' = wr.drewN n from ⟨h1, h2.symm⟩))
                have CA2 := hid (fun (n : Nat) => (at_any L u2 _ (wr.drewN n) (HO3.out _ (HBk.out.drewN n))).mono fun e w' ⟨h1, h2⟩ => (show e = Ending.returned (.int .i64 (atS u2 L)) ∧ w' = wr.drewN n from ⟨h1, h2.symm⟩))
                generalize atS u1 L = q1 at *
                generalize atS u2 L = q2 at *
                have hq : ¬ q1 ≤ q2 := by omega
                clear hs0 hs1
                go_wp2
                go_quiet (first | with_reducible exact Calls.quiet_of_same (CA1.out _) | with_reducible exact Calls.quiet_of_same (CA2.out _))
                go_wp2
                go_roundw
                case rel => exact ⟨k + 1, by omega, by go_num, hid (HBk.out.drewN _)⟩
                case measure => simp [RowKit.intOf]; omega
              · obtain rfl : k = es.length := by omega
                go_wp2_with fail
                refine (awake_any _).mono ?_
                rintro e w7 ⟨rfl, hb7⟩
                have HB7 := hid (HBw.out.trans (hb7.mono HBw.out.size))
                clear hb7
                go_wp2
                go_ret
                exact ⟨rfl, HB7.out⟩
    · have hcy : cycF (tgt es) ns ≠ [] := fun h => ho (HOC.out.2 h)
      obtain ⟨hoo, hoe⟩ := ordO_no ho
      have HCe := hid (fun (i : Nat) (h : i < (cycF (tgt es) ns).length) => any_isE (cyc_edge (es := es) (ns := ns) h))
      have HCa := hid (fun (i : Nat) (h : i < (cycF (tgt es) ns).length) => cyc_at (es := es) (ns := ns) h)
      rw [hoo] at HO3
      rw [hoe]
      have hpos := List.length_pos_iff.2 hcy
      clear hcy HOC ho hoo hoe
      generalize cycF (tgt es) ns = C at *
      obtain ⟨ro, co, rfl, hro1, hro2, _⟩ := id (HO3.out w3 (Below.refl _ _))
      obtain ⟨rc, cc, rfl, hrc1, hrc2, _⟩ := id (HY3.out w3 (Below.refl _ _))
      unfold maxLen at hrc2 hro2
      simp only [List.length_nil]
      have y0 := cellv HC3.out 0 rfl
      have y1 := cellv HC3.out 1 rfl
      have hp1 : ¬ (C.length : Int) = 0 := by omega
      have hp2 : ((C.length : Int) == 0) = false := by rw [beq_eq_false_iff_ne]; omega
      clear hro2
      go_wp2
      clear y0 y1
      go_loopw [6] (fun i wr => ∃ k : Nat, k ≤ C.length ∧ i = .int .i64 k ∧ Hid (Below w3.heap.size w3 wr)) (fun i _ => C.length - (RowKit.intOf i).toNat)
      case atStart => exact ⟨0, by omega, rfl, hid (Below.refl _ _)⟩
      case round =>
        obtain ⟨i, hi, rfl, HBi⟩ := hrel
        by_cases hlti : i < C.length
        · obtain ⟨b1, o1, rfl, hb1, _, _⟩ := str_at (HY3.out _ HBi.out) i hlti
          have hmod : (i + 1) % C.length < C.length := Nat.mod_lt _ hpos
          have HCi := hid (HCe.out i hlti)
          have HAi := hid (HCa.out i hlti)
          have HQ1 := hid (fun (W : World) (hW : Below w3.heap.size w3 W) => str_at (HY3.out W hW) i hlti)
          have HQ2 := hid (fun (W : World) (hW : Below w3.heap.size w3 W) => str_at (HY3.out W hW) ((i + 1) % C.length) hmod)
          have ht2 : ((i : Int) + 1).tmod (C.length : Int) = (((i + 1) % C.length : Nat) : Int) := by
            rw [Int.tmod_eq_emod_of_nonneg (by omega)]; push_cast; rfl
          have i2 : (0 : Int) ≤ (i : Int) := by omega
          have i3 : (i : Int) < (C.length : Int) := by omega
          generalize C[(i + 1) % C.length] = cn' at *
          generalize (i + 1) % C.length = m at *
          generalize C[i] = ci at *
          have m2 : (0 : Int) ≤ (m : Int) := by omega
          have m3 : (m : Int) < (C.length : Int) := by omega
          have HT2 := hid ht2
          obtain ⟨wo, rfl⟩ : ∃ wo : World, wo = wr := ⟨_, rfl⟩
          clear ht2
          go_wp2
          go_loopw [7, 8] (fun s7 i wr => ∃ k : Nat, k ≤ es.length ∧ i = .int .i64 k ∧ s7 = .bool ((es.take k).any (isE ci cn')) ∧ Hid (Below wo.heap.size wo wr)) (fun _ i _ => es.length - (RowKit.intOf i).toNat)
          case atStart => exact ⟨0, by omega, rfl, rfl, hid (Below.refl _ _)⟩
          case round =>
            obtain ⟨k, hk, rfl, rfl, HBk⟩ := hrel
            have HB3k := hid (HBi.out.trans (HBk.out.mono HBi.out.size))
            have HBw := hid (HB3.out.trans (HB3k.out.mono HB3.out.size))
            have HCk := hid ((HB3k.out.block _ (lt_of_block HC3.out)).trans HC3.out)
            have x1 := cellv HCk.out 1 rfl
            by_cases hlt : k < es.length
            · obtain ⟨b, off, rfl, hb, g0, g1, hs0, hs1⟩ := ed_at (HE.out _ HBw.out) k hlt
              obtain ⟨b5, o5, e5, hb5, p5, _⟩ := HQ1.out _ HB3k.out
              obtain ⟨b6, o6, e6, hb6, p6, _⟩ := HQ2.out _ HB3k.out
              simp only [Option.some.injEq, Addr.mk.injEq, and_true] at e5 e6
              obtain ⟨rfl, rfl⟩ := e5
              obtain ⟨rfl, rfl⟩ := e6
              have HTk := hid (any_snoc (p := isE ci cn') hlt)
              have k2 : (0 : Int) ≤ (k : Int) := by omega
              have k3 : (k : Int) < (es.length : Int) := by omega
              generalize (es.take k).any (isE ci cn') = P0 at *
              generalize es[k] = y at *
              obtain ⟨u1, u2⟩ := y
              simp only at g0 g1
              clear hs0 hs1
              cases P0 with
              | true =>
                have HN := hid (show (es.take (k + 1)).any (isE ci cn') = true by rw [HTk.out, Bool.true_or])
                go_wp2
                go_quiet (fail)
                go_wp2
                go_roundw
                case rel => exact ⟨k + 1, by omega, by go_num, by rw [HN.out], hid (HBk.out.drewN _)⟩
                case measure => simp [RowKit.intOf]; omega
              | false =>
                have e1 := eq_bytes u1 ci
                have e2 := eq_bytes u2 cn'
                have HN := hid (show (es.take (k + 1)).any (isE ci cn') = (decide (u1 = ci) && decide (u2 = cn')) by rw [HTk.out, Bool.false_or]; rfl)
                generalize decide (u1 = ci) = q1 at *
                generalize decide (u2 = cn') = q2 at *
                cases q1 with
                | false =>
                  clear e2
                  go_wp2
                  go_quiet (fail)
                  go_wp2
                  go_roundw
                  case rel => exact ⟨k + 1, by omega, by go_num, by rw [HN.out]; rfl, hid (HBk.out.drewN _)⟩
                  case measure => simp [RowKit.intOf]; omega
                | true =>
                  have ht1 : IntKind.i64.wrap ((i : Int) + 1) = (i : Int) + 1 := IntWalk.i64_in _ (by omega)
                  have ht2 := HT2.out
                  go_wp2
                  go_quiet (fail)
                  go_wp2
                  clear ht1 ht2
                  go_roundw
                  case rel => exact ⟨k + 1, by omega, by go_num, by rw [HN.out]; rfl, hid (HBk.out.drewN _)⟩
                  case measure => simp [RowKit.intOf]; omega
            · obtain rfl : k = es.length := by omega
              rw [List.take_length, HCi.out]
              obtain ⟨b5, o5, e5, hb5, p5, _⟩ := HQ1.out _ HB3k.out
              simp only [Option.some.injEq, Addr.mk.injEq, and_true] at e5
              obtain ⟨rfl, rfl⟩ := e5
              have CA := hid (at_any C ci _ wr (HY3.out _ HB3k.out))
              rw [HAi.out] at CA
              go_wp2_with fail
              refine CA.out.mono ?_
              rintro r' w' ⟨rfl, rfl⟩
              go_wp2
              go_roundw
              case rel => exact ⟨i + 1, by omega, by go_num, HB3k⟩
              case measure => simp [RowKit.intOf]; omega
        · obtain rfl : i = C.length := by omega
          have HBw := hid (HB3.out.trans (HBi.out.mono HB3.out.size))
          go_wp2_with fail
          refine (awake_any _).mono ?_
          rintro e w7 ⟨rfl, hb7⟩
          have HB7 := hid (HBw.out.trans (hb7.mono HBw.out.size))
          clear hb7
          go_wp2
          go_ret
          exact ⟨rfl, HB7.out⟩
end Go.Proofs.Ytlhekldlfmdmiaa
