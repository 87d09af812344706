import Derived.Test.YtlhekldlfmdmiaaCk
/-
  GraphMany: two thousand nodes and more. Conditions: those ahead of each theorem.
-/
namespace Go.Proofs.Ytlhekldlfmdmiaa
open Go.RowKit Go.Sort Go.Lib Go.Maps
open Go.Lib (hid)
set_option linter.unusedVariables false
set_option linter.unusedSimpArgs false

def dg (q : Nat) : UInt8 := UInt8.ofNat (48 + q)
def nmI (i : Nat) : ByteArray := ⟨#[110, dg (i / 1000 % 10), dg (i / 100 % 10), dg (i / 10 % 10), dg (i % 10)]⟩
def mnL (k : Nat) : List ByteArray := (List.range k).map nmI
def digs : ByteArray := ⟨#[48, 49, 50, 51, 52, 53, 54, 55, 56, 57]⟩
theorem digs_at : ∀ q, q < 10 → digs.extract q (q + 1) = ⟨#[dg q]⟩ := by decide +kernel
theorem nm_lt : ∀ i, i < 2100 → ltB (nmI i) (nmI (i + 1)) = true := by decide +kernel
theorem mn_len (k : Nat) : (mnL k).length = k := by simp [mnL]
theorem mn_snoc (k : Nat) : mnL (k + 1) = mnL k ++ [nmI k] := by simp [mnL, List.range_succ]
theorem mn_get {k i : Nat} (h : i < (mnL k).length) : (mnL k)[i] = nmI i := by simp [mnL]
theorem mn_asc {k : Nat} (hk : k ≤ 2100) : AscB (mnL k) := by
  refine ascI_iff.1 (ascI_yes fun j hj h0 => ?_)
  rw [mn_get, mn_get]
  have hj' : j < k := by rwa [mn_len] at hj
  have := nm_lt (j - 1) (by omega)
  rwa [show j - 1 + 1 = j by omega] at this
theorem mn_of {k : Nat} (hk : k ≤ 2100) : ofG (mnL k) [] = if 2048 < k then ([], [], 14) else (mnL k, [], 0) := by
  unfold ofG
  rw [canB_of_asc (mn_asc hk), mn_len]
  by_cases h : 2048 < k
  · rw [if_pos h, if_pos h]
  · rw [if_neg h, if_neg h]; rfl
theorem mn_chk {k : Nat} (hk : k ≤ 2100) : chkG (mnL k) [] = if 2048 < k then 14 else 0 := by
  unfold chkG
  rw [mn_len, ascI_iff.2 (mn_asc hk)]; rfl
theorem sl_digs {d : Nat} (h : d < 10) (w : World) : (Instr.slice 9 (.string ⟨#[48, 49, 50, 51, 52, 53, 54, 55, 56, 57]⟩) (some (.int .i64 (d : Int))) (some (.int .i64 ((d : Int) + 1))) none).run Try.prog w = .ok (.string ⟨#[dg d]⟩) w := by
  rw [run_slice_string (h := Try.underlying9) (h0 := by omega) (h1 := by omega) (h2 := by
    have : (⟨#[48, 49, 50, 51, 52, 53, 54, 55, 56, 57]⟩ : ByteArray).size = 10 := rfl
    rw [this]; omega)]
  have e := digs_at d h
  unfold digs at e
  rw [show ((d : Int)).toNat = d from rfl, show ((d : Int) + 1).toNat = d + 1 by omega, e]

theorem sl_digsI {d : Nat} {i : Int} (h : d < 10) (e : i = (d : Int)) (w : World) : (Instr.slice 9 (.string ⟨#[48, 49, 50, 51, 52, 53, 54, 55, 56, 57]⟩) (some (.int .i64 i)) (some (.int .i64 (i + 1))) none).run Try.prog w = .ok (.string ⟨#[dg d]⟩) w := by
  subst e; exact sl_digs h w
set_option maxRecDepth 100000 in
set_option maxHeartbeats 4000000 in
theorem many_any (x : Nat) (hx : x < 65536) (w : World) :
    Calls Try.prog 7 #[.int .u16 x] w fun e w' => e = .returned (.bool true) ∧ Below w.heap.size w w' := by
  have HK := hid (show ∃ m : Nat, m = 2000 + x % 100 ∧ m ≤ 2100 from ⟨_, rfl, by omega⟩)
  have k1 : IntKind.i64.wrap ((x : Int).tmod 100) = ((x % 100 : Nat) : Int) := by rw [Int.tmod_eq_emod_of_nonneg (by omega), IntKind.wrap_i64]; omega
  have k2 : IntKind.i64.wrap (2000 + ((x % 100 : Nat) : Int)) = ((2000 + x % 100 : Nat) : Int) := by rw [IntKind.wrap_i64]; omega
  have k3 : IntKind.i64.wrap (x : Int) = (x : Int) := by rw [IntKind.wrap_i64]; omega
  go_enter Try.func7, Try.ntmps7
  go_wp2
  obtain ⟨m, hm, hm2⟩ := HK.out
  have hm' : 2000 + (x : Int) % 100 = (m : Int) := by omega
  rw [hm']
  clear hm hm' k1 k2 k3 HK
  go_loopw [4, 5, 6] (fun s4 i s6 wr => ∃ k : Nat, k ≤ m ∧ i = .int .i64 k ∧ Hid (Below w.heap.size w wr) ∧ Hid (OwnS w.heap.size wr s4 (mnL k))) (fun _ i _ _ => m - (intOf i).toNat)
  case atStart => exact ⟨0, by omega, rfl, Below.refl _ _, ownS_nil _ _⟩
  case round =>
    obtain ⟨k, hk, rfl, HB, HO⟩ := hrel
    obtain ⟨r4, c4, rfl, hc41, hc42⟩ := HO.out.form
    by_cases hlt : k < m
    · have HN := hid (show nmI k = ⟨#[110, dg (k / 1000 % 10), dg (k / 100 % 10), dg (k / 10 % 10), dg (k % 10)]⟩ from rfl)
      have q1 : IntKind.i64.wrap ((k : Int) / 1000) = ((k / 1000 : Nat) : Int) := by rw [IntKind.wrap_i64]; omega
      have q2 : IntKind.i64.wrap ((k : Int) / 100) = ((k / 100 : Nat) : Int) := by rw [IntKind.wrap_i64]; omega
      have q3 : IntKind.i64.wrap ((k : Int) / 10) = ((k / 10 : Nat) : Int) := by rw [IntKind.wrap_i64]; omega
      have HT := hid (fun (n d : Nat) (e : n % 10 = d) => show ((n : Int)).tmod 10 = (d : Int) by rw [Int.tmod_eq_emod_of_nonneg (by omega)]; omega)
      have HM := hid (fun (n d : Nat) (e : n % 10 = d) => show ((n : Int)) % 10 = (d : Int) by omega)
      have t1 := HT.out (k / 1000) _ rfl
      have t2 := HT.out (k / 100) _ rfl
      have t3 := HT.out (k / 10) _ rfl
      have t4 := HT.out k _ rfl
      have v1 := HM.out (k / 1000) _ rfl
      have v2 := HM.out (k / 100) _ rfl
      have v3 := HM.out (k / 10) _ rfl
      have v4 := HM.out k _ rfl
      have l1 : k / 1000 % 10 < 10 := by omega
      have l2 : k / 100 % 10 < 10 := by omega
      have l3 : k / 10 % 10 < 10 := by omega
      have l4 : k % 10 < 10 := by omega
      generalize hd1 : k / 1000 % 10 = d1 at *
      generalize hd2 : k / 100 % 10 = d2 at *
      generalize hd3 : k / 10 % 10 = d3 at *
      generalize hd4 : k % 10 = d4 at *
      clear hd1 hd2 hd3 hd4
      generalize k / 1000 = m1 at *
      generalize k / 100 = m2 at *
      generalize k / 10 = m3 at *
      have HE := hid (fun (d : Nat) (h : d < 10) => show (⟨#[48, 49, 50, 51, 52, 53, 54, 55, 56, 57]⟩ : ByteArray).extract d (d + 1) = ⟨#[dg d]⟩ from digs_at d h)
      have e1 := HE.out d1 l1
      have e2 := HE.out d2 l2
      have e3 := HE.out d3 l3
      have e4 := HE.out d4 l4
      have HW := hid (fun (d : Nat) (h : d < 10) => show IntKind.i64.wrap ((d : Int) + 1) = (d : Int) + 1 by rw [IntKind.wrap_i64]; omega)
      have w1 := HW.out d1 l1
      have w2 := HW.out d2 l2
      have w3 := HW.out d3 l3
      have w4 := HW.out d4 l4
      have HX := hid (fun (d : Nat) => show ((d : Int) + 1).toNat = d + 1 by omega)
      have x1 := HX.out d1
      have x2 := HX.out d2
      have x3 := HX.out d3
      have x4 := HX.out d4
      have HI := hid (fun (d : Nat) (h : d < 10) => show (0 : Int) ≤ (d : Int) ∧ (0 : Int) ≤ (d : Int) + 1 ∧ (d : Int) + 1 ≤ 10 ∧ (d : Int) ≤ (d : Int) + 1 by omega)
      obtain ⟨i11, i12, i13, i14⟩ := HI.out d1 l1
      obtain ⟨i21, i22, i23, i24⟩ := HI.out d2 l2
      obtain ⟨i31, i32, i33, i34⟩ := HI.out d3 l3
      obtain ⟨i41, i42, i43, i44⟩ := HI.out d4 l4
      have HS := hid (fun (d : Nat) (h : d < 10) => sl_digs h)
      have s1 := HS.out d1 l1
      have s2 := HS.out d2 l2
      have s3 := HS.out d3 l3
      have s4 := HS.out d4 l4
      have hBs := HB.out.size
      have c1 : (⟨#[110]⟩ : ByteArray) ++ ⟨#[dg d1]⟩ = ⟨#[110, dg d1]⟩ := rfl
      have c2 : (⟨#[110, dg d1]⟩ : ByteArray) ++ ⟨#[dg d2]⟩ = ⟨#[110, dg d1, dg d2]⟩ := rfl
      have c3 : (⟨#[110, dg d1, dg d2]⟩ : ByteArray) ++ ⟨#[dg d3]⟩ = ⟨#[110, dg d1, dg d2, dg d3]⟩ := rfl
      have c4' : (⟨#[110, dg d1, dg d2, dg d3]⟩ : ByteArray) ++ ⟨#[dg d4]⟩ = nmI k := HN.out.symm
      have HO1 := hid (HO.out.below (below_alloc_drew wr (.cells #[.string (nmI k)] 9)))
      have HSz := hid (show (nmI k).size ≤ maxLen by rw [HN.out]; unfold maxLen; simp [ByteArray.size])
      have HLn := hid (show (mnL k).length + 1 ≤ 1000000 by rw [mn_len]; omega)
      go_wp2
      go_region_held3 (fun w' => True) (trivial)
        ((refine step_str (by rfl) _ _ (by rfl) w.heap.size (.slice r4 (mnL k).length c4) (mnL k) (by rfl) HO1.out wr.heap.size 1 (nmI k) (by rfl) (fr := (0, 0)) (by exact (MapKept.heap_alloc wr _).1) HSz.out HLn.out (by simp; omega) (wr.heap.size + 1) (by simp) ?_
          intro g cap w3 hm3
          have HM3 := hid hm3
          clear hm3))
      go_wp2
      go_roundw
      case rel =>
        have m1 := HM3.out.1
        rw [← mn_snoc, mn_len] at m1
        refine ⟨k + 1, by omega, by go_num, ?_, ?_⟩
        · exact Below.grown ((HB.out.alloc hBs (.cells #[.string (nmI k)] 9)).drew) HM3.out.2.1 (by simp; omega) (fun g hg => (HO.out.lt g hg).1)
        · rw [mn_len]; exact hid m1
      case measure => simp [intOf]; omega
    · obtain rfl : k = m := by omega
      have HOF := hid (mn_of hm2)
      have HCK := hid (mn_chk hm2)
      have HLn := hid (mn_len k)
      have HSl := hid HO.out.sl
      have HBw := hid HB.out
      have HG0 := hid (of_any (mnL k) [] _ _ wr HO.out.sl (sl_nilE _) (by rw [mn_len]; omega) (by simp))
      generalize mnL k = L at *
      by_cases hlim : 2048 < k
      · have hlz : (2048 : Int) < (k : Int) := by omega
        have hof := HOF.out.trans (if_pos hlim)
        have HG := HG0.out
        rw [hof] at HG
        have HG1 := hid HG
        have HC1 := hid (HCK.out.trans (if_pos hlim))
        clear HOF HCK HG0 HG hof
        go_wp2_with fail
        refine HG1.out.mono ?_
        rintro e w2 ⟨vn, ve, rfl, hsn, hse, hb2⟩
        obtain ⟨rn, cn, rfl, _⟩ := id hsn
        obtain ⟨re, ce, rfl, _⟩ := id hse
        have HSe := hid hse
        have HSn := hid hsn
        have HB2 := hid hb2
        clear hsn hse HG1 hb2
        go_wp2_with fail
        have HL2 := hid ((HSl.out.below strR_mono HB2.out).below strR_mono ((Below.refl _ _).alloc (Nat.le_refl _) (.cells #[.slice rn 0 cn, .slice re 0 ce] 25)))
        refine (check_any _ L [] _ _ HL2.out (sl_nilE _) (by simp)).mono ?_
        rintro e w3 ⟨rfl, hb3⟩
        have HB3 := hid (HBw.out.trans (((HB2.out.alloc HB2.out.size (.cells #[.slice rn 0 cn, .slice re 0 ce] 25)).trans (hb3.mono (by have := HB2.out.size; simp; omega))).mono HBw.out.size))
        clear hb3 HL2
        rw [HC1.out]
        go_wp2_with fail
        refine (awake_any w3).mono ?_
        rintro e w4 ⟨rfl, hb4⟩
        have HB4 := hid (HB3.out.trans (hb4.mono HB3.out.size))
        clear hb4
        go_wp2
        go_ret
        exact ⟨rfl, HB4.out⟩
      · have hlz : ¬ (2048 : Int) < (k : Int) := by omega
        have hof := HOF.out.trans (if_neg hlim)
        have HG := HG0.out
        rw [hof] at HG
        have HG1 := hid HG
        have HC1 := hid (HCK.out.trans (if_neg hlim))
        clear HOF HCK HG0 HG hof
        go_wp2_with fail
        refine HG1.out.mono ?_
        rintro e w2 ⟨vn, ve, rfl, hsn, hse, hb2⟩
        obtain ⟨rn, cn, rfl, _⟩ := id hsn
        obtain ⟨re, ce, rfl, _⟩ := id hse
        have HSe := hid hse
        have HSn := hid hsn
        have HB2 := hid hb2
        have hll := HLn.out
        clear hsn hse HG1 hb2
        go_wp2_with fail
        have hL2 := (HSn.out.below strR_mono ((Below.refl _ _).alloc (Nat.le_refl _) (.cells #[.slice rn L.length cn, .slice re 0 ce] 25)))
        rw [hll] at hL2
        have HL2 := hid hL2
        have HE2 := hid (HSe.out.below edR_mono ((Below.refl _ _).alloc (Nat.le_refl _) (.cells #[.slice rn k cn, .slice re 0 ce] 25)))
        clear hL2
        refine (check_any _ L [] _ _ HL2.out HE2.out (by simp)).mono ?_
        rintro e w3 ⟨rfl, hb3⟩
        have HB3 := hid (HBw.out.trans (((HB2.out.alloc HB2.out.size (.cells #[.slice rn k cn, .slice re 0 ce] 25)).trans (hb3.mono (by have := HB2.out.size; simp; omega))).mono HBw.out.size))
        clear hb3 HL2 HE2
        rw [HC1.out]
        go_wp2_with fail
        refine (awake_any w3).mono ?_
        rintro e w4 ⟨rfl, hb4⟩
        have HB4 := hid (HB3.out.trans (hb4.mono HB3.out.size))
        clear hb4
        go_wp2
        go_ret
        exact ⟨rfl, HB4.out⟩
end Go.Proofs.Ytlhekldlfmdmiaa
