import Derived.Test.YtpnogmicfomofaaGreatDoorIb
import Derived.Test.YtpnogmicfomofaaGreatDoorIo
import Derived.Test.YtpnogmicfomofaaGreatDoorFq
/-
  Layer 44: ActionsBefore: the law's walk. Conditions: those ahead of each theorem.
-/
namespace Go.Proofs.YtpnogmicfomofaaGreatDoor.Stp
open Go.RowKit Go.Sort Go.Lib Go.Maps
open Go.Lib (hid)
open Adr (WT)
attribute [local go_sem] frUpon
set_option linter.unusedVariables false
set_option linter.unusedSimpArgs false

theorem ord_right {ss : List St} (h : ordR ss = 0) : rightS ss = true := by
  unfold ordR at h
  cases hr : rightS ss with
  | true => rfl
  | false => rw [hr] at h; simp at h
theorem ord_en {ss : List St} (h : ordR ss = 0) : ordEn (List.range (nls ss).length) (esN (nls ss)) = 0 ∧ ordL ss = ordOn (List.range (nls ss).length) (esN (nls ss)) := by
  have hr := ord_right h
  unfold ordR at h
  unfold ordL
  rw [if_pos hr] at h ⊢
  rw [nls_len]
  exact ⟨h, rfl⟩
theorem ord_list {ss : List St} (h : ordR ss = 0) : (ordL ss).length = ss.length ∧ (ordL ss).Nodup ∧ (∀ x ∈ ordL ss, x < ss.length) := by
  obtain ⟨h1, h2⟩ := ord_en h
  have h3 := ord_nodup h1
  have h4 := ordO_all h1
  rw [nls_len, List.length_range] at h4
  rw [nls_len] at h3 h2
  rw [h2]
  exact ⟨h4.1, h3.1, fun x hx => h3.2 x hx⟩
theorem ord_bef {ss : List St} (h : ordR ss = 0) {a b : Nat} (ha : a < ss.length) (hb : b < ss.length) (hab : befS ss a b = true) : pos a (ordL ss) < pos b (ordL ss) ∧ befS ss b a = false := by
  obtain ⟨h1, h2⟩ := ord_en h
  have hr := ord_right h
  rw [befS_ok hr ha hb] at hab
  rw [befS_ok hr hb ha, h2]
  exact ⟨bef_pos h1 (by rw [nls_len]; exact hb) hab, bef_asym h1 (by rw [nls_len]; exact ha) (by rw [nls_len]; exact hb) hab⟩
theorem ord_need {ss : List St} (h : ordR ss = 0) {a k : Nat} (ha : a < ss.length) (hk : k ∈ nd (nls ss) a) : befS ss k a = true := by
  have hr := ord_right h
  rw [befS_ok hr (nd_lt hr a k hk) ha]
  exact bef_need hk
/-- The places of those that have been written. -/
def plc (out : List Nat) (i : Nat) (x : Nat) : Nat := if x ∈ out.take i then pos x out else 0
theorem plc_same {out : List Nat} {i : Nat} (hi : i < out.length) {x : Nat} (hx : x ≠ out[i]) : plc out (i + 1) x = plc out i x := by
  unfold plc
  rw [List.take_succ_eq_append_getElem hi]
  have : x ∈ out.take i ++ [out[i]] ↔ x ∈ out.take i := by rw [List.mem_append, List.mem_singleton]; exact ⟨fun h => h.resolve_right hx, Or.inl⟩
  simp only [this]
theorem plc_new {out : List Nat} (hn : out.Nodup) {i : Nat} (hi : i < out.length) : plc out (i + 1) out[i] = i := by
  have h : out[i] ∈ out.take (i + 1) := by rw [List.take_succ_eq_append_getElem hi]; exact List.mem_append_right _ (List.mem_singleton.2 rfl)
  unfold plc
  rw [if_pos h, pos_at hn hi]
theorem plc_all {out : List Nat} {x : Nat} (hx : x ∈ out) : plc out out.length x = pos x out := by
  unfold plc
  rw [List.take_length, if_pos hx]
theorem pos_le (x : Nat) : ∀ l : List Nat, pos x l ≤ l.length
  | [] => Nat.le_refl _
  | y :: l => by
    unfold pos
    split
    · exact Nat.zero_le _
    · have := pos_le x l; simp; omega
set_option maxRecDepth 100000 in
set_option maxHeartbeats 40000000 in
theorem abefore_any (v : Value) (ss : List St) (w : World) (hS : Sl StR 3 w v ss) (hT : WT w) :
    Calls Tryz.prog 6 #[v] w fun e w' => e = .returned (.bool true) ∧ Below w.heap.size w w' := by
  have HF := hid (few_any v ss w hS)
  have HL := hid (fun h => few_len (ss := ss) h)
  have HS := hid (fun (W : World) (hW : Below w.heap.size w W) => hS.below stR_mono hW)
  have HA := hid (fun (W : World) (hW : Below w.heap.size w W) => awake_any W (hT.below hW))
  obtain ⟨r, c, rfl, _⟩ := id hS
  obtain ⟨_, hl, hm⟩ := sl_len hS
  clear hS hT
  cases hf : fewB ss with
  | false =>
    rw [hf] at HF
    clear hf HL
    go_enter Tryz.func6, Tryz.ntmps6
    go_wp2_with (first
      | (go_at_call 12; refine HF.out.mono ?_; rintro e w1 ⟨rfl, rfl⟩)
      | (go_at_call 10; refine (HA.out _ (Below.refl _ _)).mono ?_; rintro e w9 ⟨rfl, hb9⟩))
    go_ret
    exact ⟨rfl, hb9⟩
  | true =>
    rw [hf] at HF
    have hlen := hid (HL.out hf)
    clear hf HL
    by_cases h30 : 30 < ss.length
    · have h31 : (30 : Int) < (ss.length : Int) := by omega
      go_enter Tryz.func6, Tryz.ntmps6
      go_wp2_with (first
        | (go_at_call 12; refine HF.out.mono ?_; rintro e w1 ⟨rfl, rfl⟩)
        | (go_at_call 10; refine (HA.out _ (Below.refl _ _)).mono ?_; rintro e w9 ⟨rfl, hb9⟩))
      go_ret
      exact ⟨rfl, hb9⟩
    have h31 : ¬ (30 : Int) < (ss.length : Int) := by omega
    have HO := hid (porder_any _ ss w (HS.out w (Below.refl _ _)) hlen.out.1 hlen.out.2)
    unfold OrdPN at HO
    by_cases hE : ordR ss = 0
    · have H0 := hid hE
      obtain ⟨o1, o2, o3⟩ := ord_list hE
      rw [hE] at HO
      have HBE := hid (fun (a b : Nat) (W : World) (hW : Below w.heap.size w W) => before_any (.slice r ss.length c) ss a b W (HS.out W hW) hlen.out.1)
      have HST := hid (fun (W : World) (hW : Below w.heap.size w W) (x : Nat) (hx : x < ss.length) => need_at (HS.out W hW) (ord_right hE) x hx)
      obtain ⟨i0, hi, hz0, hz1, hz2⟩ := info_parts intinfo
      obtain ⟨C, hC, hCc, hmk⟩ := make_fact (P := Tryz.prog) Tryz.underlying40 hi hz0 hz1 hz2 rfl ss.length (by omega) (by omega)
      have HCC := hid hCc
      have HO1 := hid o1
      have HO2 := hid o2
      have HO3 := hid o3
      clear hC hCc hi hz0 hz1 hz2 hE o1 o2 o3
      go_enter Tryz.func6, Tryz.ntmps6
      go_wp2_with (first
        | (go_at_call 12; refine HF.out.mono ?_; rintro e w1 ⟨rfl, rfl⟩)
        | (go_at_call 13
           refine HO.out.mono ?_
           rintro e w2 ⟨v2, rfl, hs2, hb2⟩
           obtain ⟨r2, c2, hv2, _⟩ := id hs2
           rw [List.length_map, HO1.out] at hv2
           subst hv2
           have HS2 := hid hs2
           have HB2 := hid hb2
           have HM2 := hid (Lf.made (w := w2) HCC.out)
           clear hs2 hb2))
      clear hmk
      generalize hout : ordL ss = out at *
      have HW2 := hid (show Below w2.heap.size w2 (w2.alloc (.cells C 3)) from (Below.refl _ _).alloc (Nat.le_refl _) _)
      generalize hM : w2.heap.size = M at *
      generalize w2.alloc (.cells C 3) = W3 at *
      have HMM := hid hM
      have HOU := hid hout
      clear hM hout
      go_loopg [6] ss.length (fun gg s6 wr => ∃ i : Nat, i ≤ ss.length ∧ ss.length - i ≤ gg ∧ s6 = .int .i64 i ∧ Hid (Lf M ss.length wr (plc out i)) ∧ Hid (Below M w2 wr))
      case atStart => exact ⟨0, by omega, by omega, rfl, hid (by rw [show plc out 0 = fun _ => 0 by funext x; simp [plc]]; exact HM2.out), HW2⟩
      case round =>
        clear HM2 HW2
        obtain ⟨i, hi, hgg, rfl, HLf, HBM⟩ := hrel
        have HB3 := hid (HB2.out.trans (HBM.out.mono (by rw [← HMM.out]; exact HB2.out.size)))
        by_cases hlt : i < ss.length
        · have hol : i < out.length := by rw [HO1.out]; exact hlt
          obtain ⟨b2, f2, rfl, hb2l, g2, _⟩ := int_at (HS2.out.below intR_mono (HBM.out.mono (by rw [HMM.out]; exact Nat.le_refl _))) i (by rw [List.length_map]; exact hol)
          rw [List.getElem_map] at g2
          have hy := HO3.out out[i] (List.getElem_mem hol)
          have HPS := hid (fun x (hx : x ≠ out[i]) => plc_same hol hx)
          have HPN := hid (plc_new HO2.out hol)
          generalize out[i] = y at *
          have hii : (0 : Int) ≤ (i : Int) := by omega
          have hii2 : (i : Int) < (ss.length : Int) := by omega
          have hy0 : ¬ ((y : Nat) : Int) < 0 := by omega
          have hy1 : ¬ ((ss.length : Nat) : Int) ≤ ((y : Nat) : Int) := by omega
          have hy2 : (0 : Int) ≤ (y : Int) := by omega
          have hy3 : (y : Int) < (ss.length : Int) := by omega
          have l0 := HLf.out.cell y hy
          have l1 := HLf.out.free y
          have HN := hid (HLf.out.set hy (v' := plc out (i + 1)) (z := (i : Nat)) (fun x hx => HPS.out x hx) (by rw [HPN.out]))
          have HBN := hid (show Below M w2 (wr.setCell ⟨M, y, none⟩ (.int .i64 (i : Nat))) from HBM.out.setCell (Nat.le_refl _) _)
          clear HLf
          go_wp2
          go_roundg (ss.length - (i + 1))
          case measure => omega
          case rel => exact ⟨i + 1, by omega, by omega, by go_num, HN, HBN⟩
        · obtain rfl : i = ss.length := by omega
          have HPL := hid (fun (W : World) (hW : Below wr.heap.size wr W) => show Lf M ss.length W (fun x => pos x out) from by
            have h := HLf.out.kept (grown_below hW) (fun e => by cases e)
            refine ⟨h.lt, fun x hx => ?_, h.free⟩
            have h2 := h.cell x hx
            have hmem : x ∈ out := by
              have := (ordO_all (ord_en H0.out).1).2 x (List.mem_range.2 (by rw [nls_len]; exact hx))
              rw [← (ord_en H0.out).2, HOU.out] at this
              exact this
            rw [← HO1.out, plc_all hmem] at h2
            exact h2)
          clear HLf
          obtain ⟨W4, hW4⟩ : ∃ W4 : World, W4 = wr := ⟨_, rfl⟩
          go_wp2
          subst hW4
          clear HBM HS2 HB2
          go_loopg [7] ss.length (fun gg s7 wr => ∃ a : Nat, a ≤ ss.length ∧ ss.length - a ≤ gg ∧ s7 = .int .i64 a ∧ Hid (Below W4.heap.size W4 wr))
          case atStart => exact ⟨0, by omega, by omega, rfl, hid (Below.refl _ _)⟩
          case round =>
            obtain ⟨a, ha, hga, rfl, HBA⟩ := hrel
            by_cases hal : a < ss.length
            · have hai : (a : Int) < (ss.length : Int) := by omega
              have ha0 : (0 : Int) ≤ (a : Int) := by omega
              obtain ⟨wo, hwo⟩ : ∃ wo : World, wo = wr := ⟨_, rfl⟩
              go_wp2
              subst hwo
              go_loopg [8] ss.length (fun gg s8 wr => ∃ b : Nat, b ≤ ss.length ∧ ss.length - b ≤ gg ∧ s8 = .int .i64 b ∧ Hid (Below W4.heap.size W4 wr))
              case atStart => exact ⟨0, by omega, by omega, rfl, HBA⟩
              case round =>
                clear HBA
                obtain ⟨b, hb, hgb, rfl, HBB⟩ := hrel
                have HBW := hid (HB3.out.trans (HBB.out.mono HB3.out.size))
                by_cases hbl : b < ss.length
                · have hbi : (b : Int) < (ss.length : Int) := by omega
                  have hb0 : (0 : Int) ≤ (b : Int) := by omega
                  have HE1 := hid (fun (W : World) (hW : Below wr.heap.size wr W) => HBE.out a b W (HBW.out.trans (hW.mono HBW.out.size)))
                  have hlf := HPL.out wr HBB.out
                  have la := fun d os => cell_regrown (hlf.cell a hal) d os
                  have lb := fun d os => cell_regrown (hlf.cell b hbl) d os
                  have hlfM := hlf.lt
                  clear hlf
                  cases hab : befS ss a b with
                  | false =>
                    rw [hab] at HE1
                    clear hab la lb
                    go_wp2_with fail
                    refine wp_region_fresh (fun k => match k with | 3 => some (sBool false) | _ => none) (by kernel_rfl) (by kernel_rfl) ?_
                    (refine wpF_quiet (grw_ex _) (by kernel_rfl) rfl (noEnter_op (by rfl)) ?_; intro K hK; go_big_quiet_op; go_big_quiet_on)
                    (refine wpF_quiet (grw_ex _) (by kernel_rfl) rfl (noEnter_op (by rfl)) ?_; intro K hK; go_big_quiet_op; go_big_quiet_on)
                    (refine wpF_quiet (grw_ex _) (by kernel_rfl) rfl (noEnter_op (by rfl)) ?_; intro K hK; go_big_quiet_op; go_big_quiet_on)
                    refine wpF_told (sBool false) (by kernel_rfl) rfl ⟨_, rfl⟩ stTrue (fun w4 hw4 hE4 => ?_) ?_
                    · have hb4 := grw_below hw4
                      have hh := HE1.out w4 hb4
                      clear hw4 hE4 hb4
                      go_simp
                      go_at_call 16
                      refine Calls.mono hh ?_
                      rintro e w5 ⟨rfl, hb5⟩
                      exact ⟨_, rfl, hb5, rfl, trivial⟩
                    rintro _ rfl
                    (refine wpF_put ?_; intro K hK; go_simp; refine hK _ ?_; clear hK K)
                    (refine wpF_quiet (grw_ex _) (by kernel_rfl) rfl (noEnter_op (by rfl)) ?_; intro K hK; go_big_quiet_op; go_big_quiet_on)
                    (refine wpF_skip (by kernel_rfl) ?_)
                    (refine wpF_skip (by kernel_rfl) ?_)
                    (refine wpF_skip (by kernel_rfl) ?_)
                    (refine wpF_skip (by kernel_rfl) ?_)
                    (refine wpF_skip (by kernel_rfl) ?_)
                    (refine wpF_skip (by kernel_rfl) ?_)
                    (refine wpF_skip (by kernel_rfl) ?_)
                    (refine wpF_skip (by kernel_rfl) ?_)
                    (refine wpF_skip (by kernel_rfl) ?_)
                    (refine wpF_skip (by kernel_rfl) ?_)
                    (refine wpF_skip (by kernel_rfl) ?_)
                    (refine wpF_skip (by kernel_rfl) ?_)
                    (refine wpF_skip (by kernel_rfl) ?_)
                    (refine wpF_skip (by kernel_rfl) ?_)
                    (refine wpF_skip (by kernel_rfl) ?_)
                    (refine wpF_put ?_; intro K hK; go_simp; refine hK _ ?_; clear hK K)
                    (refine wpF_quiet (grw_ex _) (by kernel_rfl) rfl (noEnter_op (by rfl)) ?_; intro K hK; go_big_quiet_op; go_big_quiet_on)
                    refine wpF_nil ?_
                    intro w6 hw6 hE6
                    have hb6 := grw_below hw6
                    clear hw6 hE6
                    have HB6 := hid (HBB.out.trans (hb6.mono HBB.out.size))
                    clear hb6
                    go_wp2
                    go_roundg (ss.length - (b + 1))
                    case measure => omega
                    case rel => exact ⟨b + 1, by omega, by omega, by go_num, HB6⟩
                  | true =>
                    obtain ⟨hp1, hp2⟩ := ord_bef H0.out hal hbl hab
                    rw [hab] at HE1
                    rw [HOU.out] at hp1
                    have HE2 := hid (fun (W : World) (hW : Below wr.heap.size wr W) => HBE.out b a W (HBW.out.trans (hW.mono HBW.out.size)))
                    rw [hp2] at HE2
                    have hq := pos_le b out
                    rw [HO1.out] at hq
                    have hge : ¬ ((pos b out : Nat) : Int) ≤ ((pos a out : Nat) : Int) := by omega
                    have hge2 : ¬ pos b out ≤ pos a out := by omega
                    clear hab hp2 hp1 hq
                    generalize pos a out = pa at *
                    generalize pos b out = pb at *
                    go_wp2_with fail
                    refine wp_region_fresh (fun k => match k with | 3 => some (sBool true) | 18 => some (sBool false) | _ => none) (by kernel_rfl) (by kernel_rfl) ?_
                    (refine wpF_quiet (grw_ex _) (by kernel_rfl) rfl (noEnter_op (by rfl)) ?_; intro K hK; go_big_quiet_op; go_big_quiet_on)
                    (refine wpF_quiet (grw_ex _) (by kernel_rfl) rfl (noEnter_op (by rfl)) ?_; intro K hK; go_big_quiet_op; go_big_quiet_on)
                    (refine wpF_quiet (grw_ex _) (by kernel_rfl) rfl (noEnter_op (by rfl)) ?_; intro K hK; go_big_quiet_op; go_big_quiet_on)
                    refine wpF_told (sBool true) (by kernel_rfl) rfl ⟨_, rfl⟩ stTrue (fun w4 hw4 hE4 => ?_) ?_
                    · have hb4 := grw_below hw4
                      have hh := HE1.out w4 hb4
                      clear hw4 hE4 hb4
                      go_simp
                      go_at_call 16
                      refine Calls.mono hh ?_
                      rintro e w5 ⟨rfl, hb5⟩
                      exact ⟨_, rfl, hb5, rfl, trivial⟩
                    rintro _ rfl
                    (refine wpF_put ?_; intro K hK; go_simp; refine hK _ ?_; clear hK K)
                    (refine wpF_quiet (grw_ex _) (by kernel_rfl) rfl (noEnter_op (by rfl)) ?_; intro K hK; go_big_quiet_op; go_big_quiet_on)
                    (refine wpF_quiet (grw_ex _) (by kernel_rfl) rfl (noEnter_op (by rfl)) ?_; intro K hK; go_big_quiet_op; go_big_quiet_on)
                    (refine wpF_quiet (grw_ex _) (by kernel_rfl) rfl (noEnter_op (by rfl)) ?_; intro K hK; go_big_quiet_op; go_big_quiet_on)
                    (refine wpF_quiet (grw_ex _) (by kernel_rfl) rfl (noEnter_op (by rfl)) ?_; intro K hK; go_big_quiet_op; go_big_quiet_on)
                    (refine wpF_quiet (grw_ex _) (by kernel_rfl) rfl (noEnter_op (by rfl)) ?_; intro K hK; go_big_quiet_op; go_big_quiet_on)
                    (refine wpF_quiet (grw_ex _) (by kernel_rfl) rfl (noEnter_op (by rfl)) ?_; intro K hK; go_big_quiet_op; go_big_quiet_on)
                    (refine wpF_quiet (grw_ex _) (by kernel_rfl) rfl (noEnter_op (by rfl)) ?_; intro K hK; go_big_quiet_op; go_big_quiet_on)
                    (refine wpF_quiet (grw_ex _) (by kernel_rfl) rfl (noEnter_op (by rfl)) ?_; intro K hK; go_big_quiet_op; go_big_quiet_on)
                    (refine wpF_quiet (grw_ex _) (by kernel_rfl) rfl (noEnter_op (by rfl)) ?_; intro K hK; go_big_quiet_op; go_big_quiet_on)
                    (refine wpF_quiet (grw_ex _) (by kernel_rfl) rfl (noEnter_op (by rfl)) ?_; intro K hK; go_big_quiet_op; go_big_quiet_on)
                    (refine wpF_quiet (grw_ex _) (by kernel_rfl) rfl (noEnter_op (by rfl)) ?_; intro K hK; go_big_quiet_op; go_big_quiet_on)
                    (refine wpF_quiet (grw_ex _) (by kernel_rfl) rfl (noEnter_op (by rfl)) ?_; intro K hK; go_big_quiet_op; go_big_quiet_on)
                    (refine wpF_quiet (grw_ex _) (by kernel_rfl) rfl (noEnter_op (by rfl)) ?_; intro K hK; go_big_quiet_op; go_big_quiet_on)
                    (refine wpF_quiet (grw_ex _) (by kernel_rfl) rfl (noEnter_op (by rfl)) ?_; intro K hK; go_big_quiet_op; go_big_quiet_on)
                    refine wpF_told (sBool false) (by kernel_rfl) rfl ⟨_, rfl⟩ stTrue (fun w4 hw4 hE4 => ?_) ?_
                    · have hb4 := grw_below hw4
                      have hh := HE2.out w4 hb4
                      clear hw4 hE4 hb4
                      go_simp
                      go_at_call 16
                      refine Calls.mono hh ?_
                      rintro e w5 ⟨rfl, hb5⟩
                      exact ⟨_, rfl, hb5, rfl, trivial⟩
                    rintro _ rfl
                    (refine wpF_put ?_; intro K hK; go_simp; refine hK _ ?_; clear hK K)
                    (refine wpF_quiet (grw_ex _) (by kernel_rfl) rfl (noEnter_op (by rfl)) ?_; intro K hK; go_big_quiet_op; go_big_quiet_on)
                    (refine wpF_quiet (grw_ex _) (by kernel_rfl) rfl (noEnter_op (by rfl)) ?_; intro K hK; go_big_quiet_op; go_big_quiet_on)
                    refine wpF_nil ?_
                    intro w6 hw6 hE6
                    have hb6 := grw_below hw6
                    clear hw6 hE6
                    have HB6 := hid (HBB.out.trans (hb6.mono HBB.out.size))
                    clear hb6
                    go_wp2
                    go_roundg (ss.length - (b + 1))
                    case measure => omega
                    case rel => exact ⟨b + 1, by omega, by omega, by go_num, HB6⟩
                · obtain rfl : b = ss.length := by omega
                  obtain ⟨nb, noff, rn, cn, rfl, hnb, n2, hn3, hn4, hnx⟩ := HST.out wr HBW.out a hal
                  have HNX := hid hnx
                  have HND := hid (fun k (hk : k < (nd (nls ss) a).length) => ord_need H0.out hal (List.getElem_mem hk))
                  have hnl : (nd (nls ss) a).length ≤ 9223372036854775807 := Nat.le_trans hn3 hn4
                  clear hnx
                  generalize hT : nd (nls ss) a = T at *
                  obtain ⟨wo, hwo⟩ : ∃ wo : World, wo = wr := ⟨_, rfl⟩
                  go_wp2
                  subst hwo
                  go_loopg [9] T.length (fun gg s9 wr => ∃ k : Nat, k ≤ T.length ∧ T.length - k ≤ gg ∧ s9 = .int .i64 k ∧ Hid (Below wo.heap.size wo wr))
                  case atStart => exact ⟨0, by omega, by omega, rfl, hid (Below.refl _ _)⟩
                  case round =>
                    obtain ⟨k, hk, hgk, rfl, HBK⟩ := hrel
                    have HBU := hid (HBW.out.trans (HBK.out.mono HBW.out.size))
                    have HBV := hid (HBB.out.trans (HBK.out.mono HBB.out.size))
                    have n3 := bget HBK.out n2
                    by_cases hkl : k < T.length
                    · obtain ⟨b5, o5, rfl, hb5, g5, hlt5⟩ := HNX.out wr HBK.out k hkl
                      have HB5 := hid (HBE.out T[k] a wr HBU.out)
                      rw [HND.out k hkl] at HB5
                      have hki : (k : Int) < (T.length : Int) := by omega
                      have hk0 : (0 : Int) ≤ (k : Int) := by omega
                      generalize T[k] = y at *
                      go_wp2_with (go_at_call 16; refine HB5.out.mono ?_; rintro e w7 ⟨rfl, hb7⟩; have HB7 := hid (HBK.out.trans (hb7.mono HBK.out.size)); clear hb7)
                      go_roundg (T.length - (k + 1))
                      case measure => omega
                      case rel => exact ⟨k + 1, by omega, by omega, by go_num, HB7⟩
                    · have hkn : ¬ (k : Int) < (T.length : Int) := by omega
                      go_wp2
                      go_roundg (ss.length - (a + 1))
                      case measure => omega
                      case rel => exact ⟨a + 1, by omega, by omega, by go_num, HBV⟩
            · have HBU := hid (HB3.out.trans (HBA.out.mono HB3.out.size))
              have hai : ¬ (a : Int) < (ss.length : Int) := by omega
              go_wp2_with (go_at_call 10; refine (HA.out _ HBU.out).mono ?_; rintro e w9 ⟨rfl, hb9⟩; have HB9 := hid (HBU.out.trans (hb9.mono HBU.out.size)); clear hb9)
              go_ret
              exact ⟨rfl, HB9.out⟩
    · have eE : (ordR ss != 0) = true := by simp [hE]
      clear hE
      generalize ordR ss = E at *
      go_enter Tryz.func6, Tryz.ntmps6
      go_wp2_with (first
        | (go_at_call 12; refine HF.out.mono ?_; rintro e w1 ⟨rfl, rfl⟩)
        | (go_at_call 13; refine HO.out.mono ?_; rintro e w2 ⟨v2, rfl, hs2, hb2⟩; have HB2 := hid hb2; clear hs2 hb2)
        | (go_at_call 10; refine (HA.out _ HB2.out).mono ?_; rintro e w9 ⟨rfl, hb9⟩; have HB9 := hid (HB2.out.trans (hb9.mono HB2.out.size)); clear hb9))
      go_ret
      exact ⟨rfl, HB9.out⟩
end Go.Proofs.YtpnogmicfomofaaGreatDoor.Stp
