import Derived.Test.YtpnogmicfomofaaGreatDoorYd
import Derived.Deep.DeepCutAuto
import Derived.Test.YtpnogmicfomofaaGreatDoorQr
/-
  Layer 44: the law ActionsDepends. Conditions: those ahead of each theorem.
-/
namespace Go.Proofs.YtpnogmicfomofaaGreatDoor.Stp
open Go.RowKit Go.Sort Go.Lib Go.Maps
open Go.Lib (hid)
open Adr (WT prE stcB rstatic_any)
attribute [local go_sem] frUpon
attribute [local go_sem ↓] ldC_eq
attribute [local go_sem] ldC_run
attribute [local go_sem ↓] stC_eq
attribute [local go_sem] stC_run there_drew there_new there_past put22_drew put22_new put22_past lies_new rd22_new lies_drew rd22_drew lies_drewN rd22_drewN
set_option linter.unusedVariables false
set_option linter.unusedSimpArgs false

/-- Two changes in memory, made one behind the other. -/
theorem two_new0 {w : World} {X Y : Array Value} {T1 T2 : TypeId} (h : Below w.heap.size w (((w.alloc (.cells X T1)).alloc (.cells Y T2)).drew)) (hX : Cells22 X) (hY : Cells22 Y) :
    ∃ W3, W3 = ((w.alloc (.cells X T1)).alloc (.cells Y T2)).drew ∧ Below w.heap.size w W3 ∧ (∀ k, W3.cell? ⟨w.heap.size, k, none⟩ = X[k]?) ∧ (∀ k, W3.cell? ⟨w.heap.size + 1, k, none⟩ = Y[k]?) ∧ (Lies W3 w.heap.size 0 ∧ rd22 W3 w.heap.size 0 = X) ∧ (Lies W3 (w.heap.size + 1) 0 ∧ rd22 W3 (w.heap.size + 1) 0 = Y) := by
  have k2 : ∀ k, (((w.alloc (.cells X T1)).alloc (.cells Y T2)).drew).cell? ⟨w.heap.size, k, none⟩ = X[k]? := fun k => by
    show ((w.alloc (.cells X T1)).alloc (.cells Y T2)).cell? _ = _
    rw [cell_old (by simp), cell_new']
  have k3 : ∀ k, (((w.alloc (.cells X T1)).alloc (.cells Y T2)).drew).cell? ⟨w.heap.size + 1, k, none⟩ = Y[k]? := fun k => by
    show ((w.alloc (.cells X T1)).alloc (.cells Y T2)).cell? _ = _
    have := cell_new' (w.alloc (.cells X T1)) Y T2 k
    rw [show (w.alloc (.cells X T1)).heap.size = w.heap.size + 1 by simp] at this
    exact this
  refine ⟨_, rfl, h, k2, k3, ?_, ?_⟩
  · exact lies_of hX (fun j u hu => by rw [k2, Nat.zero_add]; simpa using hu)
  · exact lies_of hY (fun j u hu => by rw [k3, Nat.zero_add]; simpa using hu)
set_option maxRecDepth 100000 in
set_option maxHeartbeats 80000000 in
theorem adepends_any (v : Value) (cs : List Ch) (w : World) (hS : Sl ChR 22 w v cs) (hT : WT w) :
    Calls Tryz.prog 5 #[v] w fun e w' => e = .returned (.bool true) ∧ Below w.heap.size w w' := by
  have HL := hid (light_any v cs w hS)
  have HA := hid (fun (W : World) (hW : Below w.heap.size w W) => awake_any W (hT.below hW))
  obtain ⟨r, c, rfl, _⟩ := id hS
  obtain ⟨_, hcl, hcm⟩ := sl_len hS
  have HCH := hid (fun (W : World) (hW : Below w.heap.size w W) => ch_at (hS.below chR_mono hW))
  cases hl : lightB cs with
  | false =>
    rw [hl] at HL
    clear hl hS hT HCH
    go_enter Tryz.func5, Tryz.ntmps5
    go_wp2_with (first
      | (go_at_call 18; refine HL.out.mono ?_; rintro e w1 ⟨rfl, rfl⟩)
      | (go_at_call 10; refine (HA.out _ (Below.refl _ _)).mono ?_; rintro e w9 ⟨rfl, hb9⟩))
    go_ret
    exact ⟨rfl, hb9⟩
  | true =>
    rw [hl] at HL
    have HLB := hid (lightB_bd hl)
    have HP := hid (steps_any r c cs w hT hS (by have := HLB.out.1; omega) (fun d hd => Nat.le_trans (HLB.out.2 d hd).1 (by omega)) (Or.inr HLB.out.1))
    unfold StpP at HP
    clear hl hS hT
    by_cases hE : stE cs = 0
    case neg =>
      have eE : (stE cs != 0) = true := by simp [hE]
      clear hE HCH
      generalize stE cs = E at *
      go_enter Tryz.func5, Tryz.ntmps5
      go_wp2_with (first
        | (go_at_call 18; refine HL.out.mono ?_; rintro e w1 ⟨rfl, rfl⟩)
        | (go_at_call 11; refine HP.out.mono ?_; rintro e w1 ⟨v1, rfl, hs1, hb1⟩; have HB1 := hid hb1; clear hs1 hb1)
        | (go_at_call 10; refine (HA.out _ HB1.out).mono ?_; rintro e w9 ⟨rfl, hb9⟩; have HB9 := hid (HB1.out.trans (hb9.mono HB1.out.size)); clear hb9))
      go_ret
      exact ⟨rfl, HB9.out⟩
    case pos =>
      have HSL := hid (show stL cs = stF cs by unfold stL; rw [if_pos hE])
      have HOR := hid (show ordR (stF cs) = 0 by
        unfold stE at hE
        by_cases hb : 2048 < (psF cs).length
        · rw [if_pos hb] at hE; cases hE
        · rw [if_neg hb] at hE; exact hE)
      rw [hE, HSL.out] at HP
      have HDP := hid (fun (a b : Nat) (ha : a < (stF cs).length) (hb : b < (stF cs).length) => dep_all HOR.out ha hb)
      have HCG := hid (fun (i : Nat) (hi : i < (stF cs).length) => stF_change hi)
      have HF9 := hid (show (stF cs).length ≤ 900000 ∧ (esN (nls (stF cs))).length ≤ 900000 from esN_few cs HLB.out.1)
      clear hE HSL
      unfold plO at HDP
      obtain ⟨o1, o2, o3⟩ := ord_list HOR.out
      have HOA := hid (fun x (hx : x < (stF cs).length) => show x ∈ ordL (stF cs) from by
        have := (ordO_all (ord_en HOR.out).1).2 x (List.mem_range.2 (by rw [nls_len]; exact hx))
        rw [← (ord_en HOR.out).2] at this
        exact this)
      have HO := hid (fun (v : Value) (W : World) (h : Sl StR 3 W v (stF cs)) => porder_any v (stF cs) W h HF9.out.1 HF9.out.2)
      unfold OrdPN at HO
      rw [HOR.out] at HO
      generalize stF cs = ss at *
      obtain ⟨i0, hi, hz0, hz1, hz2⟩ := info_parts intinfo
      obtain ⟨C, hC, hCc, hmk⟩ := make_fact (P := Tryz.prog) Tryz.underlying40 hi hz0 hz1 hz2 rfl ss.length (by have := HF9.out.1; omega) (by have := HF9.out.1; omega)
      have HCC := hid hCc
      have HO1 := hid o1
      have HO2 := hid o2
      have HO3 := hid o3
      have h09 : ss.length ≤ 9223372036854775807 := by have := HF9.out.1; omega
      clear hC hCc hi hz0 hz1 hz2 o1 o2 o3
      go_enter Tryz.func5, Tryz.ntmps5
      go_upto_region 10 with (first
        | (go_at_call 18; refine HL.out.mono ?_; rintro e w1 ⟨rfl, rfl⟩)
        | (go_at_call 11
           refine HP.out.mono ?_
           rintro e w1 ⟨v1, rfl, hs1, hb1⟩
           obtain ⟨r1, c1, rfl, _⟩ := id hs1
           have HS1 := hid hs1
           have HB1 := hid hb1
           have HOO := hid (HO.out _ _ hs1)
           clear hs1 hb1)
        | (go_at_call 13
           refine HOO.out.mono ?_
           rintro e w2 ⟨v2, rfl, hs2, hb2⟩
           obtain ⟨r2, c2, hv2, _⟩ := id hs2
           rw [List.length_map, HO1.out] at hv2
           subst hv2
           have HS2 := hid hs2
           have HS3 := hid (HS1.out.below stR_mono hb2)
           have HB2 := hid (HB1.out.trans (hb2.mono HB1.out.size))
           have HM2 := hid (Lf.made (w := w2) HCC.out)
           clear hs2 hb2))
      clear hmk
      generalize hout : ordL ss = out at *
      have HW2 := hid (show Below w2.heap.size w2 (w2.alloc (.cells C 3)) from (Below.refl _ _).alloc (Nat.le_refl _) _)
      generalize hM : w2.heap.size = M at *
      generalize w2.alloc (.cells C 3) = W3 at *
      have HMM := hid hM
      clear hM hout
      go_cut [8] from 13 (fun s8 wx => s8 = .int .i64 0 ∧ wx = W3)
      case first =>
        go_wp2
        go_meet
        exact ⟨rfl, rfl⟩
      obtain ⟨rfl, rfl⟩ := hcut
      go_wp2_with fail
      go_loopg [8] ss.length (fun gg s8 wr => ∃ i : Nat, i ≤ ss.length ∧ ss.length - i ≤ gg ∧ s8 = .int .i64 i ∧ Hid (Lf M ss.length wr (plc out i)) ∧ Hid (Below M w2 wr))
      case atStart => exact ⟨0, by omega, by omega, rfl, hid (by rw [show plc out 0 = fun _ => 0 by funext x; simp [plc]]; exact HM2.out), HW2⟩
      case round =>
        clear HM2 HW2
        obtain ⟨i, hi, hgg, rfl, HLf, HBM⟩ := hrel
        have HBQ := hid (show Below w2.heap.size w2 wr by rw [HMM.out]; exact HBM.out)
        have HB3 := hid (HB2.out.trans (HBQ.out.mono HB2.out.size))
        by_cases hlt : i < ss.length
        · have hol : i < out.length := by rw [HO1.out]; exact hlt
          obtain ⟨b2, f2, rfl, hb2l, g2, _⟩ := int_at (HS2.out.below intR_mono HBQ.out) i (by rw [List.length_map]; exact hol)
          obtain ⟨b1, f1, rn1, cn1, rfl, hb1l, x1, _⟩ := st_at (HS3.out.below stR_mono HBQ.out) i hlt
          obtain ⟨kc, hkc, hkk⟩ := HCG.out i hlt
          rw [hkk] at x1
          rw [List.getElem_map] at g2
          have hy := HO3.out out[i] (List.getElem_mem hol)
          have HPS := hid (fun x (hx : x ≠ out[i]) => plc_same hol hx)
          have HPN := hid (plc_new HO2.out hol)
          generalize out[i] = y at *
          have hii : (0 : Int) ≤ (i : Int) := by omega
          have hii2 : (i : Int) < (ss.length : Int) := by omega
          have hy0 : ¬ ((y : Nat) : Int) < 0 := by omega
          have hy1 : ¬ ((ss.length : Nat) : Int) ≤ ((y : Nat) : Int) := by omega
          have hy2 : (0 : Int) ≤ (y : Int) := by omega
          have hy3 : (y : Int) < (ss.length : Int) := by omega
          have hk0 : ¬ ((kc : Nat) : Int) < 0 := by omega
          have hk1 : ¬ ((cs.length : Nat) : Int) ≤ ((kc : Nat) : Int) := by omega
          have l0 := HLf.out.cell y hy
          have l1 := HLf.out.free y
          have HN := hid (HLf.out.set hy (v' := plc out (i + 1)) (z := (i : Nat)) (fun x hx => HPS.out x hx) (by rw [HPN.out]))
          have HBN := hid (show Below M w2 (wr.setCell ⟨M, y, none⟩ (.int .i64 (i : Nat))) from HBM.out.setCell (Nat.le_refl _) _)
          clear HLf hkk hkc
          go_wp2
          go_roundg (ss.length - (i + 1))
          case measure => omega
          case rel => exact ⟨i + 1, by omega, by omega, by go_num, HN, HBN⟩
        · obtain rfl : i = ss.length := by omega
          have HPL := hid (fun (W : World) (hW : Below wr.heap.size wr W) => show Lf M ss.length W (fun x => pos x out) from by
            have h := HLf.out.kept (grown_below hW) (fun e => by cases e)
            refine ⟨h.lt, fun x hx => ?_, h.free⟩
            have h2 := h.cell x hx
            have hmem : x ∈ out := HOA.out x hx
            rw [← HO1.out, plc_all hmem] at h2
            exact h2)
          have HS4 := hid (HS3.out.below stR_mono HBQ.out)
          clear HLf
          obtain ⟨W4, hW4⟩ : ∃ W4 : World, W4 = wr := ⟨_, rfl⟩
          go_wp2
          subst hW4
          clear HBM HBQ HS2 HB2 HS3 HS1
          go_loopg [9] ss.length (fun gg s9 wr => ∃ b : Nat, b ≤ ss.length ∧ ss.length - b ≤ gg ∧ s9 = .int .i64 b ∧ Hid (Below W4.heap.size W4 wr))
          case atStart => exact ⟨0, by omega, by omega, rfl, hid (Below.refl _ _)⟩
          case round =>
            obtain ⟨b, hb, hgb, rfl, HBB⟩ := hrel
            by_cases hbl : b < ss.length
            · have hbi : (b : Int) < (ss.length : Int) := by omega
              have hb0 : (0 : Int) ≤ (b : Int) := by omega
              obtain ⟨wo, hwo⟩ : ∃ wo : World, wo = wr := ⟨_, rfl⟩
              go_wp2
              subst hwo
              go_loopg [10] ss.length (fun gg s10 wr => ∃ a : Nat, a ≤ ss.length ∧ ss.length - a ≤ gg ∧ s10 = .int .i64 a ∧ Hid (Below W4.heap.size W4 wr))
              case atStart => exact ⟨0, by omega, by omega, rfl, HBB⟩
              case round =>
                clear HBB
                obtain ⟨a, ha, hga, rfl, HBA⟩ := hrel
                have HBU := hid (HB3.out.trans (HBA.out.mono HB3.out.size))
                by_cases hal : a < ss.length
                · have hai : (a : Int) < (ss.length : Int) := by omega
                  have ha0 : (0 : Int) ≤ (a : Int) := by omega
                  obtain ⟨sb, so, rn1, cn1, rfl, hsb, x1, x2, _⟩ := st_at (HS4.out.below stR_mono HBA.out) a hal
                  obtain ⟨sb2, so2, rn2, cn2, he2, _, y1, y2, _⟩ := st_at (HS4.out.below stR_mono HBA.out) b hbl
                  cases he2
                  obtain ⟨ia, ib, oa, ob, hia, hib, e1, e2, e3, e4, hd1, hd2, hd3⟩ := HDP.out a b hal hbl
                  rw [e1] at x1
                  rw [e2] at x2
                  rw [e3] at y1
                  rw [e4] at y2
                  obtain ⟨cb, coff, x, rfl, hcb, hcell, hx⟩ := HCH.out _ HBU.out ib hib
                  obtain ⟨cb2, coff2, y, he3, _, hcell2, hy⟩ := HCH.out _ HBU.out ia hia
                  cases he3
                  have hlf := HPL.out wr HBA.out
                  have p1 := hlf.cell a hal
                  have p2 := hlf.cell b hbl
                  have hMlt := hlf.lt
                  have HX22 := cells22 x
                  have HY22 := cells22 y
                  obtain ⟨l1, l2⟩ := lies_of HX22 hcell
                  obtain ⟨k1, k2⟩ := lies_of HY22 hcell2
                  have HS := hid (fun (W : World) (hb : Below wr.heap.size wr W) => show W.cell? ⟨sb, so + a * 3, none⟩ = some (.int .i64 (ia : Int)) ∧ W.cell? ⟨sb, so + b * 3, none⟩ = some (.int .i64 (ib : Int)) ∧ Lies W cb (coff + ib * 22) ∧ rd22 W cb (coff + ib * 22) = x.arr ∧ Lies W cb (coff + ia * 22) ∧ rd22 W cb (coff + ia * 22) = y.arr from ⟨bget hb x1, bget hb y1, (l1.below hb).1, ((l1.below hb).2).trans l2, (k1.below hb).1, ((k1.below hb).2).trans k2⟩)
                  have hii : (0 : Int) ≤ (ia : Int) := by omega
                  have hii2 : (ia : Int) < (cs.length : Int) := by omega
                  have hjj : (0 : Int) ≤ (ib : Int) := by omega
                  have hjj2 : (ib : Int) < (cs.length : Int) := by omega
                  have HRX := hid (fun W => lstatic_any x W (by rw [hx.1]; have := (HLB.out.2 _ (List.getElem_mem hib)).1; omega))
                  have HRY := hid (fun W => lstatic_any y W (by rw [hy.1]; have := (HLB.out.2 _ (List.getElem_mem hia)).1; omega))
                  have HC1 := hid (fun (W : World) (hb : Below wr.heap.size wr W) => lhas_any (.slice x.dp.r x.dp.n x.dp.c) (cs[ib]).deps (resB y.ad) W (hx.2.2.2.2.1.below strR_mono hb))
                  have HC2 := hid (fun (W : World) (hb : Below wr.heap.size wr W) => lhas_any (.slice y.od.r y.od.n y.od.c) (cs[ia]).old (resB x.ad) W (hy.2.2.2.2.2.below strR_mono hb))
                  rw [← hx.2.2.1] at hd1
                  rw [← hy.1] at hd2
                  rw [← hx.1] at hd3
                  have HD1 := hid hd1
                  have HD2 := hid hd2
                  have HD3 := hid hd3
                  have i17 : x.arr[17]? = some (.bool x.cf) := rfl
                  have i20 : x.arr[20]? = some (.slice x.dp.r x.dp.n x.dp.c) := rfl
                  have h21 : y.arr[21]? = some (.slice y.od.r y.od.n y.od.c) := rfl
                  clear hcell hcell2 l1 l2 k1 k2 hx hy hd1 hd2 hd3 e1 e2 e3 e4 hlf
                  generalize inS (cs[ib]).deps (resB y.ad) = I1 at *
                  generalize inS (cs[ia]).old (resB x.ad) = I2 at *
                  generalize resB x.ad = RX at *
                  generalize resB y.ad = RY at *
                  generalize x.arr = X at *
                  generalize y.arr = Y at *
                  generalize x.cf = CF at *
                  generalize x.dp = xd at *
                  generalize y.od = yo at *
                  generalize pos a out = pa at *
                  generalize pos b out = pb at *
                  go_upto_region 22 with (fail)
                  go_cut [11, 12] (fun s11 s12 wx => ∃ bx by3, s11 = .pointer (some ⟨bx, 0, none⟩) ∧ s12 = .pointer (some ⟨by3, 0, none⟩) ∧ Hid (Below wr.heap.size wr wx) ∧ Hid ((Lies wx bx 0 ∧ rd22 wx bx 0 = X) ∧ (Lies wx by3 0 ∧ rd22 wx by3 0 = Y) ∧ wx.cell? ⟨bx, 17, none⟩ = some (.bool CF) ∧ wx.cell? ⟨bx, 20, none⟩ = some (.slice xd.r xd.n xd.c) ∧ wx.cell? ⟨by3, 21, none⟩ = some (.slice yo.r yo.n yo.c)))
                  case first =>
                    clear_value *
                    as_aux_lemma =>
                      go_region_held3 (fun w' => Below wr.heap.size wr w' ∧ w'.cell? ⟨sb, so + a * 3, none⟩ = some (.int .i64 (ia : Int)) ∧ w'.cell? ⟨sb, so + b * 3, none⟩ = some (.int .i64 (ib : Int)) ∧ Lies w' cb (coff + ib * 22) ∧ rd22 w' cb (coff + ib * 22) = X ∧ Lies w' cb (coff + ia * 22) ∧ rd22 w' cb (coff + ia * 22) = Y)
                        (refine ⟨?_, (HS.out _ ?_).1, (HS.out _ ?_).2.1, (HS.out _ ?_).2.2.1, (HS.out _ ?_).2.2.2.1, (HS.out _ ?_).2.2.2.2.1, (HS.out _ ?_).2.2.2.2.2⟩ <;> first | ((repeat (first | exact Below.refl _ _ | refine Below.drew ?_ | refine Below.alloc ?_ (by simp <;> omega) _)); done) | (go_simp; done)) (fail)
                      all_goals
                        rename_i hHeld
                        have hw3 := hHeld.1
                        clear hHeld HS
                        first
                        | (obtain ⟨W5, hW5, hb5, g2, g3, ⟨gx1, gx2⟩, ⟨gy1, gy2⟩⟩ := two_new0 hw3 HX22 HY22
                           rw [← hW5]
                           have z17 := (g2 17).trans i17
                           have z20 := (g2 20).trans i20
                           have z21 := (g3 21).trans h21
                           clear g2 g3 hW5)
                        | (obtain ⟨W5, hW5, hb5, g2, g3, ⟨gy1, gy2⟩, ⟨gx1, gx2⟩⟩ := two_new0 hw3 HY22 HX22
                           rw [← hW5]
                           have z17 := (g3 17).trans i17
                           have z20 := (g3 20).trans i20
                           have z21 := (g2 21).trans h21
                           clear g2 g3 hW5)
                        go_wp2
                        go_meet
                        exact ⟨_, _, rfl, rfl, hid hb5, hid ⟨⟨gx1, gx2⟩, ⟨gy1, gy2⟩, z17, z20, z21⟩⟩
                  case rest =>
                    obtain ⟨bx, by3, rfl, rfl, HBv, HLL⟩ := hcut
                    have hb5 := HBv.out
                    have HBW := hid (HBA.out.trans (hb5.mono HBA.out.size))
                    have HF := hid (fun (W : World) (hW : Below wc.heap.size wc W) => show W.cell? ⟨sb, so + a * 3, none⟩ = some (.int .i64 (ia : Int)) ∧ W.cell? ⟨sb, so + a * 3 + 1, none⟩ = some (.int .i64 oa) ∧ W.cell? ⟨sb, so + b * 3, none⟩ = some (.int .i64 (ib : Int)) ∧ W.cell? ⟨sb, so + b * 3 + 1, none⟩ = some (.int .i64 ob) ∧ W.cell? ⟨M, a, none⟩ = some (.int .i64 (pa : Nat)) ∧ W.cell? ⟨M, b, none⟩ = some (.int .i64 (pb : Nat)) ∧ W.cell? ⟨bx, 17, none⟩ = some (.bool CF) ∧ W.cell? ⟨bx, 20, none⟩ = some (.slice xd.r xd.n xd.c) ∧ W.cell? ⟨by3, 21, none⟩ = some (.slice yo.r yo.n yo.c) from
                      have hh : Below wr.heap.size wr W := hb5.trans (hW.mono hb5.size)
                      ⟨bget hh x1, bget hh x2, bget hh y1, bget hh y2, bget hh p1, bget hh p2, bget hW HLL.out.2.2.1, bget hW HLL.out.2.2.2.1, bget hW HLL.out.2.2.2.2⟩)
                    have HLX := hid (fun (W : World) (hW : Below wc.heap.size wc W) => show Lies W bx 0 ∧ rd22 W bx 0 = X from ⟨(HLL.out.1.1.below hW).1, ((HLL.out.1.1.below hW).2).trans HLL.out.1.2⟩)
                    have HLY := hid (fun (W : World) (hW : Below wc.heap.size wc W) => show Lies W by3 0 ∧ rd22 W by3 0 = Y from ⟨(HLL.out.2.1.1.below hW).1, ((HLL.out.2.1.1.below hW).2).trans HLL.out.2.1.2⟩)
                    have HH1 := hid (fun (W : World) (hW : Below wc.heap.size wc W) => HC1.out W (hb5.trans (hW.mono hb5.size)))
                    have HH2 := hid (fun (W : World) (hW : Below wc.heap.size wc W) => HC2.out W (hb5.trans (hW.mono hb5.size)))
                    have HBc := hid (Below.refl wc.heap.size wc)
                    clear hb5 HC1 HC2 x1 x2 y1 y2 p1 p2 HX22 HY22 HS h21 i17 i20 HBv HLL
                    rename_i hK1 K0 hK0
                    refine hK0 _ _ (wp_mono (dep_rest (Q := fun e a' w' => (e = .normal ∨ e = .exit 5) ∧ DR wc sb so ss.length c1 M a b bx by3 _ _ _ _ _ _ _ _ _ _ _ _ _ _ _ _ _ _ _ _ _ _ _ _ _ _ _ _ _ _ _ _ _ _ _ _ _ _ _ _ _ _ _ _ _ _ _ _ _ _ _ _ _ _ _ _ _ _ _ _ _ _ _ _ _ _ _ _ _ _ _ _ _ _ _ _ _ _ _ _ _ _ _ _ _ _ _ _ _ _ _ _ _ _ _ _ _ _ _ _ _ _ _ _ _ _ _ _ _ _ _ _ _ _ _ _ _ _ _ _ _ _ _ _ _ _ _ _ _ _ _ _ _ _ _ _ _ _ _ _ _ _ _ _ _ _ _ _ _ _ _ _ _ _ _ _ _ _ _ _ _ _ _ _ _ _ _ _ _ _ _ _ _ _ _ _ _ _ _ _ _ _ _ _ _ _ _ _ _ _ _ _ _ _ _ _ _ _ _ _ _ _ _ _ _ _ _ _ _ _ a' w') wc sb so ss.length c1 M a b bx by3 ia ib pa pb oa ob CF I1 I2 X Y RX RY xd yo _ _ _ _ _ _ _ _ _ _ _ _ _ _ _ _ _ _ _ _ _ _ _ _ _ _ _ _ _ _ _ _ _ _ _ _ _ _ _ _ _ _ _ _ _ _ _ _ _ _ _ _ _ _ _ _ _ _ _ _ _ _ _ _ _ _ _ _ _ _ _ _ _ _ _ _ _ _ _ _ _ _ _ _ _ _ _ _ _ _ _ _ _ _ _ _ _ _ _ _ _ _ _ _ _ _ _ _ _ _ _ _ _ _ _ _ _ _ _ _ _ _ _ _ _ _ _ _ _ _ _ _ _ _ _ _ _ _ _ _ _ _ _ _ _ _ _ _ _ _ _ _ _ _ _ _ _ _ _ _ _ _ _ _ _ _ _ _ _ _ _ _ _ _ _ _ _ _ _ _ _ _ _ _ _ _ _ _ _ _ _ _ _ _ _ _ _ _ _ _ _ _ _ _ _ _ _ _ _ _ HF HLX HLY HH1 HH2 HRX HRY HD1 HD2 HD3 hal hbl h09 (hid fun a' w' h => ⟨⟨.inl rfl, h⟩, ⟨.inr rfl, h⟩⟩)) ?_)
                    intro e a' w' hh
                    obtain ⟨he, hdr⟩ := hh
                    unfold DR at hdr
                    obtain ⟨u2, hdr⟩ := hdr
                    obtain ⟨u115, hdr⟩ := hdr
                    obtain ⟨u116, hdr⟩ := hdr
                    obtain ⟨u117, hdr⟩ := hdr
                    obtain ⟨u118, hdr⟩ := hdr
                    obtain ⟨u119, hdr⟩ := hdr
                    obtain ⟨u120, hdr⟩ := hdr
                    obtain ⟨u121, hdr⟩ := hdr
                    obtain ⟨u122, hdr⟩ := hdr
                    obtain ⟨u123, hdr⟩ := hdr
                    obtain ⟨u124, hdr⟩ := hdr
                    obtain ⟨u125, hdr⟩ := hdr
                    obtain ⟨u126, hdr⟩ := hdr
                    obtain ⟨u127, hdr⟩ := hdr
                    obtain ⟨u128, hdr⟩ := hdr
                    obtain ⟨u129, hdr⟩ := hdr
                    obtain ⟨u130, hdr⟩ := hdr
                    obtain ⟨u131, hdr⟩ := hdr
                    obtain ⟨u132, hdr⟩ := hdr
                    obtain ⟨u133, hdr⟩ := hdr
                    obtain ⟨u134, hdr⟩ := hdr
                    obtain ⟨u135, hdr⟩ := hdr
                    obtain ⟨u136, hdr⟩ := hdr
                    obtain ⟨u137, hdr⟩ := hdr
                    obtain ⟨u138, hdr⟩ := hdr
                    obtain ⟨u139, hdr⟩ := hdr
                    obtain ⟨u140, hdr⟩ := hdr
                    obtain ⟨u141, hdr⟩ := hdr
                    obtain ⟨u142, hdr⟩ := hdr
                    obtain ⟨u143, hdr⟩ := hdr
                    obtain ⟨u144, hdr⟩ := hdr
                    obtain ⟨u145, hdr⟩ := hdr
                    obtain ⟨u146, hdr⟩ := hdr
                    obtain ⟨u147, hdr⟩ := hdr
                    obtain ⟨u148, hdr⟩ := hdr
                    obtain ⟨u149, hdr⟩ := hdr
                    obtain ⟨u150, hdr⟩ := hdr
                    obtain ⟨u151, hdr⟩ := hdr
                    obtain ⟨u152, hdr⟩ := hdr
                    obtain ⟨u153, hdr⟩ := hdr
                    obtain ⟨u154, hdr⟩ := hdr
                    obtain ⟨u155, hdr⟩ := hdr
                    obtain ⟨u156, hdr⟩ := hdr
                    obtain ⟨u157, hdr⟩ := hdr
                    obtain ⟨u158, hdr⟩ := hdr
                    obtain ⟨u159, hdr⟩ := hdr
                    obtain ⟨u160, hdr⟩ := hdr
                    obtain ⟨u161, hdr⟩ := hdr
                    obtain ⟨u162, hdr⟩ := hdr
                    obtain ⟨u163, hdr⟩ := hdr
                    obtain ⟨u164, hdr⟩ := hdr
                    obtain ⟨u165, hdr⟩ := hdr
                    obtain ⟨u166, hdr⟩ := hdr
                    obtain ⟨u167, hdr⟩ := hdr
                    obtain ⟨u168, hdr⟩ := hdr
                    obtain ⟨u169, hdr⟩ := hdr
                    obtain ⟨u170, hdr⟩ := hdr
                    obtain ⟨u171, hdr⟩ := hdr
                    obtain ⟨u172, hdr⟩ := hdr
                    obtain ⟨u173, hdr⟩ := hdr
                    obtain ⟨u174, hdr⟩ := hdr
                    obtain ⟨u175, hdr⟩ := hdr
                    obtain ⟨u176, hdr⟩ := hdr
                    obtain ⟨u177, hdr⟩ := hdr
                    obtain ⟨u178, hdr⟩ := hdr
                    obtain ⟨u179, hdr⟩ := hdr
                    obtain ⟨u180, hdr⟩ := hdr
                    obtain ⟨u181, hdr⟩ := hdr
                    obtain ⟨u182, hdr⟩ := hdr
                    obtain ⟨u183, hdr⟩ := hdr
                    obtain ⟨u184, hdr⟩ := hdr
                    obtain ⟨u185, hdr⟩ := hdr
                    obtain ⟨u186, hdr⟩ := hdr
                    obtain ⟨u187, hdr⟩ := hdr
                    obtain ⟨u188, hdr⟩ := hdr
                    obtain ⟨u189, hdr⟩ := hdr
                    obtain ⟨u190, hdr⟩ := hdr
                    obtain ⟨u191, hdr⟩ := hdr
                    obtain ⟨u192, hdr⟩ := hdr
                    obtain ⟨u193, hdr⟩ := hdr
                    obtain ⟨u194, hdr⟩ := hdr
                    obtain ⟨u195, hdr⟩ := hdr
                    obtain ⟨u196, hdr⟩ := hdr
                    obtain ⟨u197, hdr⟩ := hdr
                    obtain ⟨u198, hdr⟩ := hdr
                    obtain ⟨u199, hdr⟩ := hdr
                    obtain ⟨u200, hdr⟩ := hdr
                    obtain ⟨u201, hdr⟩ := hdr
                    obtain ⟨u202, hdr⟩ := hdr
                    obtain ⟨u203, hdr⟩ := hdr
                    obtain ⟨u204, hdr⟩ := hdr
                    obtain ⟨u205, hdr⟩ := hdr
                    obtain ⟨u206, hdr⟩ := hdr
                    obtain ⟨u207, hdr⟩ := hdr
                    obtain ⟨u208, hdr⟩ := hdr
                    obtain ⟨u209, hdr⟩ := hdr
                    obtain ⟨u210, hdr⟩ := hdr
                    obtain ⟨u211, hdr⟩ := hdr
                    obtain ⟨u212, hdr⟩ := hdr
                    obtain ⟨u213, hdr⟩ := hdr
                    obtain ⟨u214, hdr⟩ := hdr
                    obtain ⟨ha', HBn⟩ := hdr
                    subst ha'
                    clear HF HLX HLY HH1 HH2
                    rcases he with rfl | rfl
                    all_goals
                      refine hK1 _ _ ?_
                      have HBy := hid (HBW.out.trans (HBn.out.mono HBW.out.size))
                      clear HBn
                      go_wp2
                      go_roundg (ss.length - (a + 1))
                      case measure => omega
                      case rel => exact ⟨a + 1, by omega, by omega, by go_num, HBy⟩
                · obtain rfl : a = ss.length := by omega
                  go_wp2
                  go_roundg (ss.length - (b + 1))
                  case measure => omega
                  case rel => exact ⟨b + 1, by omega, by omega, by go_num, HBA⟩
            · obtain rfl : b = ss.length := by omega
              have HBU := hid (HB3.out.trans (HBB.out.mono HB3.out.size))
              go_wp2_with (go_at_call 10; refine (HA.out _ HBU.out).mono ?_; rintro e w9 ⟨rfl, hb9⟩; have HB9 := hid (HBU.out.trans (hb9.mono HBU.out.size)); clear hb9)
              go_ret
              exact ⟨rfl, HB9.out⟩
end Go.Proofs.YtpnogmicfomofaaGreatDoor.Stp
