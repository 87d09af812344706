import Derived.Test.YtpnogmicfomofaaGreatDoorZc
/-
  Layer 44: the program's Before. Conditions: those ahead of each theorem.
-/
namespace Go.Proofs.YtpnogmicfomofaaGreatDoor.Stp
open Go.RowKit Go.Sort Go.Lib Go.Maps
open Go.Lib (hid)
set_option linter.unusedVariables false
set_option linter.unusedSimpArgs false

set_option maxRecDepth 100000 in
set_option maxHeartbeats 4000000 in
theorem before_any (v : Value) (ss : List St) (a b : Int) (w : World) (hS : Sl StR 3 w v ss) (hn : ss.length ≤ 900000) :
    Calls Tryz.prog 16 #[v, .int .i64 a, .int .i64 b] w fun e w' => e = .returned (.bool (befS ss a b)) ∧ Below w.heap.size w w' := by
  obtain ⟨r, c, rfl, _⟩ := id hS
  obtain ⟨_, hl, hm⟩ := sl_len hS
  have HIX := hid (indexes_any _ ss w hS)
  have HNE := hid (fun (hr : rightS ss = true) (W : World) (hW : Below w.heap.size w W) (x : Nat) (hx : x < ss.length) => need_at (hS.below stR_mono hW) hr x hx)
  obtain ⟨i0, hi, hz0, hz1, hz2⟩ := info_parts boolinfo
  obtain ⟨C, hC, hCc, hmk⟩ := make_fact (P := Tryz.prog) Tryz.underlying82 hi hz0 hz1 hz2 rfl ss.length (by omega) (by omega)
  have HCC := hid hCc
  clear hS hCc hC hi hz0 hz1 hz2
  by_cases a0 : a < 0
  · have HR := hid (befS_no (ss := ss) (a := a) (b := b) (Or.inr (Or.inl (inR_no (Or.inl a0)))))
    go_enter Tryz.func16, Tryz.ntmps16
    go_wp2
    go_ret
    exact ⟨ret_bool HR.out, Below.refl _ _⟩
  by_cases b0 : b < 0
  · have HR := hid (befS_no (ss := ss) (a := a) (b := b) (Or.inr (Or.inr (inR_no (Or.inl b0)))))
    go_enter Tryz.func16, Tryz.ntmps16
    go_wp2
    go_ret
    exact ⟨ret_bool HR.out, Below.refl _ _⟩
  by_cases a1 : (ss.length : Int) ≤ a
  · have HR := hid (befS_no (ss := ss) (a := a) (b := b) (Or.inr (Or.inl (inR_no (Or.inr a1)))))
    go_enter Tryz.func16, Tryz.ntmps16
    go_wp2
    go_ret
    exact ⟨ret_bool HR.out, Below.refl _ _⟩
  by_cases b1 : (ss.length : Int) ≤ b
  · have HR := hid (befS_no (ss := ss) (a := a) (b := b) (Or.inr (Or.inr (inR_no (Or.inr b1)))))
    go_enter Tryz.func16, Tryz.ntmps16
    go_wp2
    go_ret
    exact ⟨ret_bool HR.out, Below.refl _ _⟩
  obtain ⟨A, rfl⟩ : ∃ A : Nat, a = A := ⟨a.toNat, by omega⟩
  obtain ⟨D, rfl⟩ : ∃ D : Nat, b = D := ⟨b.toNat, by omega⟩
  have hA : A < ss.length := by omega
  have hD : D < ss.length := by omega
  go_enter Tryz.func16, Tryz.ntmps16
  go_wp2_with fail
  refine HIX.out.mono ?_
  rintro e w1 ⟨rfl, hb1⟩
  have HB1 := hid hb1
  clear hb1 HIX
  cases hr : rightS ss
  · have HR := hid (befS_no (ss := ss) (a := (A : Int)) (b := (D : Int)) (Or.inl hr))
    go_wp2
    go_ret
    exact ⟨ret_bool HR.out, HB1.out⟩
  · have HOK := hid (befS_ok hr hA hD)
    have HN := hid (HNE.out hr)
    have HLT := hid (nd_lt hr)
    have I0 := hid (show BefI ss.length w1.heap.size (2 * ss.length + 1) w ((w1.alloc (.cells C 4)).alloc (.cells #[.int .i64 (D : Int)] 3)) (.slice (some ⟨w1.heap.size + 1, 0, none⟩) 1 1) [] [D] from by
      have hs : (w1.alloc (.cells C 4)).heap.size = w1.heap.size + 1 := by simp
      have hrem : remN (List.range ss.length) [] ≤ ss.length := by simpa using remN_le (List.range ss.length) []
      have ho := (own_int1 (w1.alloc (.cells C 4)) (w1.heap.size + 1) (D : Int) (by simp) (ib_nat (by omega))).toJ
      rw [hs] at ho
      have hal : Below w.heap.size (w1.alloc (.cells C 4)) ((w1.alloc (.cells C 4)).alloc (.cells #[.int .i64 (D : Int)] 3)) := (Below.refl _ _).alloc (by have := HB1.out.size; simp; omega) _
      exact ⟨(HB1.out.alloc HB1.out.size (.cells C 4)).trans hal, by simp, (Mk.made HCC.out).below ((Below.refl _ _).alloc (Nat.le_refl _) _), ho, by simp; exact hD, by simp; omega, by simp; omega⟩)
    have D0 := hid (Bf.start (nd (nls ss)) A D)
    have HMl := hid HB1.out.size
    clear HNE HCC hr
    go_wp2
    generalize w1.heap.size = M at *
    clear hmk HB1
    go_loopg [8] (2 * ss.length + 1) (fun gg s8 wr => ∃ sn L, Hid (BefI ss.length M gg w wr s8 sn L) ∧ Hid (Bf (nd (nls ss)) A D sn L))
    case atStart => exact ⟨[], [D], I0, D0⟩
    case round =>
      obtain ⟨sn, L, HI, HD⟩ := hrel
      rcases List.eq_nil_or_concat L with hnil | ⟨L0, x, hcat⟩
      · subst hnil
        obtain ⟨r6, c6, rfl, h61, h62⟩ := HI.out.own.form
        have HR := hid (HOK.out.trans (befN_none HD.out.fin))
        go_wp2
        go_ret
        exact ⟨ret_bool HR.out, HI.out.bel⟩
      · rw [List.concat_eq_append] at hcat
        subst hcat
        have hown := HI.out.own
        rw [List.map_append, List.map_singleton] at hown
        obtain ⟨g, o, cap, rfl, hc1, hc2, hcell, hxs⟩ := hown.last
        rw [List.length_map] at hc1 hcell hown
        have hms := HI.out.ms
        simp only [List.length_append, List.length_singleton] at hms
        have hxn : x < ss.length := HI.out.inb x (by simp)
        obtain ⟨b3, o3, rn, cn, rfl, hb3, gx0, hl3, hm3, hnx⟩ := HN.out w (Below.refl _ _) x hxn
        have gx := bget HI.out.bel gx0
        have hb3' : b3 < wr.heap.size := by have := HI.out.bel.size; omega
        have HSL := hid hnx
        have hini := hown.init
        rw [List.length_map] at hini
        have HI1 := hid (show BefI ss.length M (2 * remN (List.range ss.length) sn + L0.length) w wr (.slice (some ⟨g, o, none⟩) L0.length cap) sn L0 from
          ⟨HI.out.bel, HI.out.sz, HI.out.mks, hini, fun y hy => HI.out.inb y (by simp [hy]), by have := HI.out.len; simp at this; omega, Nat.le_refl _⟩)
        have HD1 := hid HD.out.pop
        have HMS := hid hms
        have HT := hid (HLT.out x)
        clear hnx hini hown HI HD hms gx0
        simp only [List.length_map]
        generalize hT : nd (nls ss) x = T at *
        have HFT := hid hT
        clear hT
        go_wp2
        go_loopg [8, 60] T.length (fun gg s8 s60 wx => ∃ (k : Nat) (sm Lm : List Nat), k ≤ T.length ∧ T.length - k ≤ gg ∧ s60 = .int .i64 k ∧ Hid (BefI ss.length M (2 * remN (List.range ss.length) sn + L0.length) w wx s8 sm Lm) ∧ Hid (BfI (nd (nls ss)) A D x k sm Lm))
        case atStart => exact ⟨0, sn, L0, by omega, by omega, rfl, HI1, HD1⟩
        case round =>
          obtain ⟨k, sm, Lm, hk, hg, rfl, HJ, HE⟩ := hrel
          obtain ⟨r7, c7, hv7, h71, h72⟩ := HJ.out.own.form
          rw [List.length_map] at hv7 h71
          subst hv7
          by_cases hlt : k < T.length
          · obtain ⟨b4, o4, rfl, hb4, g4, hyn⟩ := HSL.out _ HJ.out.bel k hlt
            have hmk := HJ.out.mks.cell T[k] hyn
            have hmf := HJ.out.mks.free T[k]
            have HHIT := hid (fun (h : T[k] = A) => HE.out.hit (by rw [HFT.out]; exact hlt) (by simp only [HFT.out]; exact h))
            have HSK := hid (fun (h : T[k] ∈ sm) (h2 : T[k] ≠ A) => HE.out.skip (by rw [HFT.out]; exact hlt) (by simpa only [HFT.out] using h) (by simpa only [HFT.out] using h2))
            have HPU : Hid (T[k] ≠ A → BfI (nd (nls ss)) A D x (k + 1) (sm ++ [T[k]]) (Lm ++ [T[k]])) := hid (fun h2 => by
              have := HE.out.push (by rw [HFT.out]; exact hlt) (by simpa only [HFT.out] using h2)
              simp only [HFT.out] at this
              exact this)
            have HST := hid (fun (h : T[k] ∉ sm) => remN_add (U := List.range ss.length) (by simpa using hyn) h)
            clear HE
            generalize T[k] = y at *
            by_cases hya : y = A
            · subst hya
              have HR := hid (HOK.out.trans (befN_yes (HHIT.out rfl)))
              clear HHIT HSK HPU HST hmk hmf
              go_wp2
              go_ret
              exact ⟨ret_bool HR.out, HJ.out.bel⟩
            · have hne : ((y : Int) == (A : Int)) = false := by simpa using (by omega : (y : Int) ≠ A)
              have HYA := hid hya
              clear hya HHIT
              cases hy : hasN y sm
              case true =>
                have HS1 := hid (HSK.out (hasN_iff.1 hy) HYA.out)
                rw [hy] at hmk
                clear HSK HPU HST hmf
                go_wp2
                go_roundg (T.length - (k + 1))
                case measure => omega
                case rel => exact ⟨k + 1, sm, Lm, by omega, by omega, by go_num, HJ, HS1⟩
              case false =>
                have hno : y ∉ sm := fun h => by rw [hasN_iff.2 h] at hy; cases hy
                have HS1 := hid (HPU.out HYA.out)
                have HR := hid (HST.out hno)
                rw [hy] at hmk
                have HYN := hid hyn
                have HL := hid HJ.out.own.lt
                have HLl := hid (show (Lm.map Nat.cast : List Int).length + 1 ≤ 1000000 by have := HJ.out.len; have := HR.out; rw [List.length_map]; omega)
                have HZ := hid HJ.out.sz
                have HOw3 := hid ((HJ.out.own.setBelow (a := ⟨M, y, none⟩) (by simp) (.bool true)).below ((Below.refl _ _).alloc (Nat.le_refl _) (.cells #[.int .i64 (y : Int)] 3)))
                have HMk3 := hid ((HJ.out.mks.set hyn).below ((Below.refl _ _).alloc (Nat.le_refl _) (.cells #[.int .i64 (y : Int)] 3)))
                have HB3 := hid (show Below w.heap.size w ((wr.setCell ⟨M, y, none⟩ (.bool true)).alloc (.cells #[.int .i64 (y : Int)] 3)) from (HJ.out.bel.setCell (by simpa using HMl.out) _).alloc (by have := HJ.out.bel.size; simpa [World.setCell] using this) _)
                have HBL : Hid (((wr.setCell ⟨M, y, none⟩ (.bool true)).alloc (.cells #[.int .i64 (y : Int)] 3)).heap[wr.heap.size]? = some (.cells #[.int .i64 (y : Int)] 3 (0, 0))) := hid (by
                  have h1 := (MapKept.heap_alloc (wr.setCell ⟨M, y, none⟩ (.bool true)) (.cells #[.int .i64 (y : Int)] 3)).1
                  have h2 : (wr.setCell ⟨M, y, none⟩ (.bool true)).heap.size = wr.heap.size := by simp [World.setCell]
                  rw [h2] at h1
                  exact h1)
                clear HSK HPU HST hno hy
                go_wp2_with (at_builtin
                             go_loud (refine app_j rfl _ _ rfl (M + 1) _ (Lm.map Nat.cast) rfl HOw3.out wr.heap.size 1 y rfl (fr := (0, 0)) HBL.out (ib_nat (by have := HYN.out; omega)) HLl.out (by have := HZ.out; simp [World.setCell]; omega) ?_)
                             intro v4 w4 hm4
                             have HM4 := hid hm4
                             clear hm4)
                go_roundg (T.length - (k + 1))
                case measure => omega
                case rel =>
                  obtain ⟨m1, m2, m3⟩ := HM4.out
                  have hr := HR.out
                  refine ⟨k + 1, sm ++ [y], Lm ++ [y], by omega, by omega, by go_num, hid ⟨Below.grown HB3.out m2 HB3.out.size (fun g hg => by have := (HL.out g hg).1; have := HMl.out; omega), ?_, HMk3.out.grown m2 (fun e => by have := (HL.out _ e).1; omega), ?_, ?_, ?_, ?_⟩, HS1⟩
                  · have := m2.size; have := HZ.out; simp [World.setCell] at *; omega
                  · rw [List.map_append, List.map_singleton]; exact m1
                  · intro z hz
                    rw [List.mem_append, List.mem_singleton] at hz
                    rcases hz with hz | rfl
                    · exact HJ.out.inb z hz
                    · exact HYN.out
                  · have := HJ.out.len; simp; omega
                  · have := HJ.out.ms; simp; omega
          · have hke : k = T.length := by omega
            have HK := hid hke
            have hms2 := HJ.out.ms
            have HM2 := hid hms2
            clear hke hms2
            go_wp2
            go_roundg (2 * remN (List.range ss.length) sm + Lm.length)
            case measure => have h1 := HM2.out; have h2 := HMS.out; omega
            case rel =>
              have hk2 := HK.out
              have he := HE.out
              rw [hk2, ← HFT.out] at he
              exact ⟨sm, Lm, hid ⟨HJ.out.bel, HJ.out.sz, HJ.out.mks, HJ.out.own, HJ.out.inb, HJ.out.len, Nat.le_refl _⟩, hid he.done⟩
end Go.Proofs.YtpnogmicfomofaaGreatDoor.Stp
