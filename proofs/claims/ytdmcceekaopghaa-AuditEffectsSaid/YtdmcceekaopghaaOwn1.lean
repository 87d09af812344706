/-
  Contract of audit.Owned. Conditions: those ahead of each theorem.
-/
import Derived.Test.YtdmcceekaopghaaOwned
import Derived.Deep.DeepCutAuto
namespace Go.Proofs.Ytdmcceekaopghaa
open Go.RowKit Go.Sort

set_option maxRecDepth 100000 in
set_option maxHeartbeats 2000000 in
theorem owned_any (lin : ByteArray) (ser : Int) (vI vP vO vL : Value) (is : List In) (ps : List Pe) (os : List Ob) (w : World) (hI : Sl InR 13 w vI is) (hP : Sl PeR 3 w vP ps) (hL : Sl ObR 9 w vL os)
    (hIn : is.length ≤ 1000) (hOn : os.length ≤ 1000) (hIs : ∀ x ∈ is, x.id.size ≤ maxLen) (hOs : ∀ x ∈ os, x.id.size ≤ maxLen) :
    Calls Try.prog 16 #[.agg #[.string lin, .int .i64 ser, vI, vP, vO], vL] w fun r w' => ∃ a b c, r = .returned (.tuple #[a, b, c]) ∧ Below w.heap.size w w' ∧
      Sl StrR 1 w' a (canon (ms os (is.map (·.id)) is.length)) ∧ Sl StrR 1 w' b (canon (un ps os (is.map (·.id)) os.length)) ∧ Sl StrR 1 w' c (canon (tw (is.map (·.id)) is.length)) := by
  have hI0 := hI
  have hP0 := hP
  have hL0 := hL
  obtain ⟨rI, capI, rfl, hlI, hmI, hI⟩ := hI
  obtain ⟨rP, capP, rfl, hlP, hmP, hP⟩ := hP
  obtain ⟨rL, capL, rfl, hlL, hmL, hL⟩ := hL
  unfold maxLen at hmI hmP hmL
  obtain ⟨SB, hSB⟩ : ∃ SB, SB = w.heap.size := ⟨_, rfl⟩
  have HB0 := Lib.hid (show Below w.heap.size w (w.alloc (.cells #[.string lin, .int .i64 ser, .slice rI is.length capI, .slice rP ps.length capP, vO] 42)) from (Below.refl _ _).alloc (Nat.le_refl _) _)
  have hs2 : (w.alloc (.cells #[.string lin, .int .i64 ser, .slice rI is.length capI, .slice rP ps.length capP, vO] 42)).cell? ⟨w.heap.size, 2, none⟩ = some (.slice rI is.length capI) := by simp
  have hs3 : (w.alloc (.cells #[.string lin, .int .i64 ser, .slice rI is.length capI, .slice rP ps.length capP, vO] 42)).cell? ⟨w.heap.size, 3, none⟩ = some (.slice rP ps.length capP) := by simp
  have HSZ := Lib.hid (show (w.alloc (.cells #[.string lin, .int .i64 ser, .slice rI is.length capI, .slice rP ps.length capP, vO] 42)).heap.size = w.heap.size + 1 by simp)
  go_enter Try.func16, Try.ntmps16
  go_wp2_with fail
  generalize w.alloc (.cells #[.string lin, .int .i64 ser, .slice rI is.length capI, .slice rP ps.length capP, vO] 42) = W0 at *
  have HI := Lib.hid hI
  have HL := Lib.hid hL
  clear hI hP hL
  go_loopg [4, 6, 7, 16] is.length (fun gg s4 s6 s7 s16 wr => ∃ kk : Nat, kk ≤ is.length ∧ is.length - kk ≤ gg ∧ s16 = .int .i64 kk ∧ Aside (Below (w.heap.size + 1) W0 wr) ∧
      Aside (Four (w.heap.size + 1) wr s4 s6 s7 (.slice none 0 0) (ms os (is.map (·.id)) kk) (tw (is.map (·.id)) kk) ((is.map (·.id)).take kk) []))
  case atStart => exact ⟨0, Nat.zero_le _, by omega, rfl, Below.refl _ _, ⟨ownS_nil _ _, ownS_nil _ _, ownS_nil _ _, ownS_nil _ _, Apart.nil _, Apart.nil _, Apart.nil _, Apart.nil _, Apart.nil _, Apart.nil _⟩⟩
  case round =>
    obtain ⟨kk, hkk, hg, rfl, BW, F4⟩ := hrel
    by_cases hlt : kk < is.length
    · obtain ⟨b, off, cs, rfl, _, hc, hx⟩ := HI.out kk hlt
      simp only [InR] at hx
      subst hx
      have hBw : Below w.heap.size w wr := HB0.out.trans (BW.out.mono (by omega))
      have hgd : (is.map (·.id)).getD kk ib0 = (is[kk]).id := by simp [hlt]
      have hidm := hIs _ (List.getElem_mem hlt)
      have HC := Lib.hid (fun j u hj => bget hBw (hc j u hj))
      have HT := Lib.hid (show tw (is.map (·.id)) (kk + 1) = if hasS ((is.map (·.id)).take kk) (is[kk]).id then tw (is.map (·.id)) kk ++ [(is[kk]).id] else tw (is.map (·.id)) kk by rw [tw, hgd])
      have HM := Lib.hid (show ms os (is.map (·.id)) (kk + 1) = if os.any fun o => eqS o.id (is[kk]).id then ms os (is.map (·.id)) kk else ms os (is.map (·.id)) kk ++ [(is[kk]).id] by rw [ms, hgd])
      have HR := Lib.hid (show (is.map (·.id)).take (kk + 1) = (is.map (·.id)).take kk ++ [(is[kk]).id] by
        rw [List.take_succ_eq_append_getElem (by simpa using hlt)]; simp)
      have HLK := Lib.hid (show ((is.map (·.id)).take kk).length = kk by simp; omega)
      have htl := tw_len (is.map (·.id)) kk
      have hml := ms_len os (is.map (·.id)) kk
      have hrl : ((is.map (·.id)).take kk).length ≤ kk := List.length_take_le _ _
      have HID := Lib.hid hidm
      clear hc hgd hidm
      generalize is[kk] = y at *
      obtain ⟨ya, yd, yid, yt, ⟨yk, yn, ys, ⟨yi1, yi2, yi3⟩, ⟨ye1, ye2, ye3⟩⟩, yv, yta, ycf, ⟨yd1, yd2, yd3⟩⟩ := y
      have g0 := HC.out 0 _ rfl
      have g1 := HC.out 1 _ rfl
      have g2 := HC.out 2 _ rfl
      have g3 := HC.out 3 _ rfl
      have g4 := HC.out 4 _ rfl
      have g5 := HC.out 5 _ rfl
      have g6 := HC.out 6 _ rfl
      have g7 := HC.out 7 _ rfl
      have g8 := HC.out 8 _ rfl
      have g9 := HC.out 9 _ rfl
      have g10 := HC.out 10 _ rfl
      have g11 := HC.out 11 _ rfl
      have g12 := HC.out 12 _ rfl
      simp only [Nat.add_zero] at g0
      simp only at HT HM HR HID
      simp only [Sv.val] at g7 g8 g12
      have hbb := World.block_lt_of_cell? wr _ g0
      simp at hbb
      have hVB : w.heap.size + 1 ≤ wr.heap.size := by have := BW.out.size; rw [HSZ.out] at this; exact this
      have hwa : Below wr.heap.size wr (wr.alloc (.cells #[.string ya, .string yd, .string yid, .string yt, .int .i64 yk, .int .i64 yn, .string ys, .slice yi1 yi2 yi3, .slice ye1 ye2 ye3, .int .i64 yv, .bool yta, .bool ycf, .slice yd1 yd2 yd3] 55)) := (Below.refl _ _).alloc (Nat.le_refl _) _
      have HF1 := Lib.hid (F4.out.below hwa)
      have HB1 := Lib.hid (BW.out.trans (hwa.mono hVB))
      have HN1 := Lib.hid (show NotAt wr.heap.size u4 ∧ NotAt wr.heap.size u6 ∧ NotAt wr.heap.size u7 from ⟨NotAt.of F4.out.oa (Nat.le_refl _), NotAt.of F4.out.ob (Nat.le_refl _), NotAt.of F4.out.oc (Nat.le_refl _)⟩)
      clear BW F4 hBw HC
      go_wp2_with fail
      refine (has_any _ _ _ _ HF1.out.oc.sl).mono ?_
      rintro r w1 ⟨rfl, hw1⟩
      subst hw1
      have c2 : (wr.alloc (.cells #[.string ya, .string yd, .string yid, .string yt, .int .i64 yk, .int .i64 yn, .string ys, .slice yi1 yi2 yi3, .slice ye1 ye2 ye3, .int .i64 yv, .bool yta, .bool ycf, .slice yd1 yd2 yd3] 55)).cell? ⟨wr.heap.size, 2, none⟩ = some (.string yid) := by simp
      have hVlt : wr.heap.size < (wr.alloc (.cells #[.string ya, .string yd, .string yid, .string yt, .int .i64 yk, .int .i64 yn, .string ys, .slice yi1 yi2 yi3, .slice ye1 ye2 ye3, .int .i64 yv, .bool yta, .bool ycf, .slice yd1 yd2 yd3] 55)).heap.size := by simp
      clear hwa g0 g1 g2 g3 g4 g5 g6 g7 g8 g9 g10 g11 g12 hbb
      generalize wr.alloc (.cells #[.string ya, .string yd, .string yid, .string yt, .int .i64 yk, .int .i64 yn, .string ys, .slice yi1 yi2 yi3, .slice ye1 ye2 ye3, .int .i64 yv, .bool yta, .bool ycf, .slice yd1 yd2 yd3] 55) = w1 at *
      generalize wr.heap.size = V at *
      go_upto_if 23 with fail
      go_cut [6] (fun s6 wx => Aside (Below (w.heap.size + 1) W0 wx) ∧ Aside (Four (w.heap.size + 1) wx u4 s6 u7 (.slice none 0 0) (ms os (is.map (·.id)) kk) (tw (is.map (·.id)) (kk + 1)) ((is.map (·.id)).take kk) []) ∧ Aside (NotAt V u4 ∧ NotAt V s6 ∧ NotAt V u7) ∧ wx.cell? ⟨V, 2, none⟩ = some (.string yid) ∧ V < wx.heap.size)
      case first =>
        cases hh : hasS ((is.map (·.id)).take kk) yid
        · have HT2 := Lib.hid (show tw (is.map (·.id)) (kk + 1) = tw (is.map (·.id)) kk by rw [HT.out, hh]; rfl)
          clear hh
          go_wp2_with fail
          go_meet
          exact ⟨HB1.out, by rw [HT2.out]; exact HF1.out, HN1.out, c2, hVlt⟩
        · have HT2 := Lib.hid (show tw (is.map (·.id)) (kk + 1) = tw (is.map (·.id)) kk ++ [yid] by rw [HT.out, hh]; rfl)
          have hwb : Below w1.heap.size w1 (w1.alloc (.cells #[.string yid] 9)) := (Below.refl _ _).alloc (Nat.le_refl _) _
          have HF2 := Lib.hid (HF1.out.below hwb)
          have HB2 := Lib.hid (HB1.out.trans (hwb.mono (by omega)))
          have c3 := bget hwb c2
          have c5 := Lib.hid (show (w1.alloc (.cells #[.string yid] 9)).cell? ⟨w1.heap.size, 0, none⟩ = some (.string yid) by simp)
          have z5 := Lib.hid (show w.heap.size + 1 ≤ (w1.alloc (.cells #[.string yid] 9)).heap.size by simp; omega)
          have z6 := Lib.hid (show V < (w1.alloc (.cells #[.string yid] 9)).heap.size by simp; omega)
          have z7 := Lib.hid (show (tw (is.map (·.id)) kk).length ≤ 1000000 by omega)
          clear hh hwb
          go_wp2_with (at_builtin; go_loud (refine wpList_append_str (xs := tw (is.map (·.id)) kk) rfl (.tmp 24) (.tmp 27) rfl (w.heap.size + 1) u6 rfl HF2.out.ob ⟨w1.heap.size, 0, none⟩ yid rfl c5.out HID.out z7.out z5.out ?_); intro gn capn w2 ho2 hg2 hat2 hl2)
          have hn1 := HN1.out
          have c4 := cell_app hn1.2.1 hg2 c3
          have HF3 := Lib.hid ((HF2.out.swapAB.appA hg2 hat2 ho2).swapAB)
          have HB3 := Lib.hid (below_app HF2.out.ob HB2.out z5.out hg2)
          have hV2 := World.block_lt_of_cell? _ _ c4
          have HN3 := Lib.hid (show NotAt V u4 ∧ NotAt V (.slice (some ⟨gn, 0, none⟩) ((tw (is.map (·.id)) kk).length + 1) capn) ∧ NotAt V u7 from ⟨hn1.1, hn1.2.1.app z6.out hat2, hn1.2.2⟩)
          go_meet
          exact ⟨HB3.out, by rw [HT2.out]; exact HF3.out, HN3.out, c4, hV2⟩
      case rest =>
        obtain ⟨HB1x, HF1x, HN1x, c2x, hVx⟩ := hcut
        clear HB1 HF1 HN1 c2 hVlt
        have hwb : Below wc.heap.size wc (wc.alloc (.cells #[.string yid] 9)) := (Below.refl _ _).alloc (Nat.le_refl _) _
        have hVB2 : w.heap.size + 1 ≤ wc.heap.size := by have := HB1x.out.size; rw [HSZ.out] at this; exact this
        have HF2 := Lib.hid (HF1x.out.below hwb)
        have HB2 := Lib.hid (HB1x.out.trans (hwb.mono hVB2))
        have c3 := Lib.hid (bget hwb c2x)
        have c5 := Lib.hid (show (wc.alloc (.cells #[.string yid] 9)).cell? ⟨wc.heap.size, 0, none⟩ = some (.string yid) by simp)
        have z5 := Lib.hid (show w.heap.size + 1 ≤ (wc.alloc (.cells #[.string yid] 9)).heap.size by simp; omega)
        have z6 := Lib.hid (show V < (wc.alloc (.cells #[.string yid] 9)).heap.size by simp; omega)
        have z7 := Lib.hid (show ((is.map (·.id)).take kk).length ≤ 1000000 by omega)
        clear hwb HB1x HF1x
        go_wp2_with (at_builtin; go_loud (refine wpList_append_str (xs := (is.map (·.id)).take kk) rfl (.tmp 29) (.tmp 32) rfl (w.heap.size + 1) u7 rfl HF2.out.oc ⟨wc.heap.size, 0, none⟩ yid rfl c5.out HID.out z7.out z5.out ?_); intro gn capn w2 ho2 hg2 hat2 hl2)
        have hn1 := HN1x.out
        have c4 := cell_app hn1.2.2 hg2 c3.out
        rw [← HR.out] at ho2
        have HF3 := Lib.hid ((HF2.out.swapAC.appA hg2 hat2 ho2).swapAC)
        have HB3 := Lib.hid (below_app HF2.out.oc HB2.out z5.out hg2)
        have hn3 := hn1.2.2.app (n := ((is.map (·.id)).take kk).length + 1) (cap := capn) z6.out hat2
        have hBw2 : Below w.heap.size w w2 := HB0.out.trans (HB3.out.mono (by omega))
        have hL2 := hL0.below obR_mono hBw2
        clear hg2 hat2 ho2 hl2
        refine (contains_ob (fun o => eqS o.id yid) _ _ enters1 _ os _ hL2 (clo1 V yid w2 c4)).mono ?_
        rintro r w3 ⟨rfl, hb3⟩
        have hw23 : w.heap.size + 1 ≤ w2.heap.size := by have := HB3.out.size; rw [HSZ.out] at this; exact this
        have HF4 := Lib.hid (HF3.out.below hb3)
        have HB4 := Lib.hid (HB3.out.trans (hb3.mono hw23))
        have c6 := bget hb3 c4
        have hV6 := World.block_lt_of_cell? _ _ c6
        simp at hV6
        have hw33 : w.heap.size + 1 ≤ w3.heap.size := by have := hb3.size; omega
        clear hb3 c4 hL2 hBw2 HF3 HB3 HF2 HB2
        cases hh : os.any fun o => eqS o.id yid
        · have HM2 := Lib.hid (show ms os (is.map (·.id)) (kk + 1) = ms os (is.map (·.id)) kk ++ [yid] by rw [HM.out, hh]; rfl)
          have hwb : Below w3.heap.size w3 (w3.alloc (.cells #[.string yid] 9)) := (Below.refl _ _).alloc (Nat.le_refl _) _
          have HF5 := Lib.hid (HF4.out.below hwb)
          have HB5 := Lib.hid (HB4.out.trans (hwb.mono hw33))
          have d5 := Lib.hid (show (w3.alloc (.cells #[.string yid] 9)).cell? ⟨w3.heap.size, 0, none⟩ = some (.string yid) by simp)
          have y5 := Lib.hid (show w.heap.size + 1 ≤ (w3.alloc (.cells #[.string yid] 9)).heap.size by simp; omega)
          have y7 := Lib.hid (show (ms os (is.map (·.id)) kk).length ≤ 1000000 by omega)
          clear hh hwb
          go_wp2_with (at_builtin; go_loud (refine wpList_append_str (xs := ms os (is.map (·.id)) kk) rfl (.tmp 38) (.tmp 41) rfl (w.heap.size + 1) u4 rfl HF5.out.oa ⟨w3.heap.size, 0, none⟩ yid rfl d5.out HID.out y7.out y5.out ?_); intro gm capm w4 ho4 hg4 hat4 hl4)
          have HF6 := Lib.hid (HF5.out.appA hg4 hat4 ho4)
          have HB6 := Lib.hid (below_app HF5.out.oa HB5.out y5.out hg4)
          go_roundg (is.length - (kk + 1))
          case measure => omega
          case rel => exact ⟨kk + 1, by omega, by omega, by go_num, HB6.out, by rw [HM2.out]; have h := HF6.out; rw [HLK.out] at h; exact h⟩
        · have HM2 := Lib.hid (show ms os (is.map (·.id)) (kk + 1) = ms os (is.map (·.id)) kk by rw [HM.out, hh]; rfl)
          clear hh
          go_wp2_with fail
          go_roundg (is.length - (kk + 1))
          case measure => omega
          case rel => exact ⟨kk + 1, by omega, by omega, by go_num, HB4.out, by rw [HM2.out]; have h := HF4.out; rw [HLK.out] at h; exact h⟩
    · have hke : kk = is.length := by omega
      have HF := Lib.hid F4.out
      have HB := Lib.hid BW.out
      subst hke
      clear BW F4 hg hkk hlt
      go_wp2_with fail
      have HIDS := Lib.hid (show (is.map (·.id)).take is.length = is.map (·.id) by rw [List.take_of_length_le]; simp)
      go_loopg [5, 46] os.length (fun gg s5 s46 wr => ∃ kk : Nat, kk ≤ os.length ∧ os.length - kk ≤ gg ∧ s46 = .int .i64 kk ∧ Aside (Below (w.heap.size + 1) W0 wr) ∧
          Aside (Four (w.heap.size + 1) wr u4 u6 u7 s5 (ms os (is.map (·.id)) is.length) (tw (is.map (·.id)) is.length) (is.map (·.id)) (un ps os (is.map (·.id)) kk)))
      case atStart => exact ⟨0, Nat.zero_le _, by omega, rfl, HB.out, by have h := HF.out; rw [HIDS.out] at h; exact h⟩
      case round =>
        obtain ⟨kk, hkk, hg, rfl, BW, F4⟩ := hrel
        clear HF HB
        by_cases hlt : kk < os.length
        · obtain ⟨b, off, cs, rfl, _, hc, hx⟩ := HL.out kk hlt
          simp only [ObR] at hx
          subst hx
          have hBw : Below w.heap.size w wr := HB0.out.trans (BW.out.mono (by omega))
          have hgd : os.getD kk o0 = os[kk] := by simp [hlt]
          have hidm := hOs _ (List.getElem_mem hlt)
          have HC := Lib.hid (fun j u hj => bget hBw (hc j u hj))
          have HU := Lib.hid (show un ps os (is.map (·.id)) (kk + 1) = if (ps.any fun p => eqS p.tok (os[kk]).tok) || hasS (is.map (·.id)) (os[kk]).id then un ps os (is.map (·.id)) kk else un ps os (is.map (·.id)) kk ++ [(os[kk]).id] by rw [un, hgd])
          have hul := un_len ps os (is.map (·.id)) kk
          have HID := Lib.hid hidm
          clear hc hgd hidm
          generalize os[kk] = y at *
          obtain ⟨yid, yt, ytk, ⟨yk, yn, ys, ⟨yi1, yi2, yi3⟩, ⟨ye1, ye2, ye3⟩⟩, yv⟩ := y
          have g0 := HC.out 0 _ rfl
          have g1 := HC.out 1 _ rfl
          have g2 := HC.out 2 _ rfl
          have g3 := HC.out 3 _ rfl
          have g4 := HC.out 4 _ rfl
          have g5 := HC.out 5 _ rfl
          have g6 := HC.out 6 _ rfl
          have g7 := HC.out 7 _ rfl
          have g8 := HC.out 8 _ rfl
          simp only [Nat.add_zero] at g0
          simp only [Sv.val] at g6 g7
          simp only at HU HID
          have hbb := World.block_lt_of_cell? wr _ g0
          simp at hbb
          have hVB : w.heap.size + 1 ≤ wr.heap.size := by have := BW.out.size; rw [HSZ.out] at this; exact this
          have hwa : Below wr.heap.size wr (wr.alloc (.cells #[.string yid, .string yt, .string ytk, .int .i64 yk, .int .i64 yn, .string ys, .slice yi1 yi2 yi3, .slice ye1 ye2 ye3, .int .i64 yv] 57)) := (Below.refl _ _).alloc (Nat.le_refl _) _
          have k3 := bget (W := W0) (w1 := wr.alloc (.cells #[.string yid, .string yt, .string ytk, .int .i64 yk, .int .i64 yn, .string ys, .slice yi1 yi2 yi3, .slice ye1 ye2 ye3, .int .i64 yv] 57)) (by rw [HSZ.out]; exact BW.out.trans (hwa.mono hVB)) hs3
          have k4 := bget (W := W0) (w1 := wr) (by rw [HSZ.out]; exact BW.out) hs3
          have hSl := World.block_lt_of_cell? _ _ k4
          simp at hSl
          have HF1 := Lib.hid (F4.out.below hwa)
          have HB1 := Lib.hid (BW.out.trans (hwa.mono hVB))
          have c2 : (wr.alloc (.cells #[.string yid, .string yt, .string ytk, .int .i64 yk, .int .i64 yn, .string ys, .slice yi1 yi2 yi3, .slice ye1 ye2 ye3, .int .i64 yv] 57)).cell? ⟨wr.heap.size, 2, none⟩ = some (.string ytk) := by simp
          have c0 : (wr.alloc (.cells #[.string yid, .string yt, .string ytk, .int .i64 yk, .int .i64 yn, .string ys, .slice yi1 yi2 yi3, .slice ye1 ye2 ye3, .int .i64 yv] 57)).cell? ⟨wr.heap.size, 0, none⟩ = some (.string yid) := by simp
          have hP1 := hP0.below peR_mono (hBw.trans (hwa.mono (by omega)))
          have C2 := Lib.hid c2
          have C0 := Lib.hid c0
          have HP1 := Lib.hid hP1
          have K3 := Lib.hid k3
          clear BW F4 hBw HC hP1 c2 c0 hwa k3
          go_wp2_with fail
          refine (contains_pe (fun p => eqS p.tok ytk) _ _ enters2 _ ps _ HP1.out (clo2 wr.heap.size ytk _ C2.out)).mono ?_
          rintro r w3 ⟨rfl, hb3⟩
          have hz3 := hb3.size
          simp at hz3
          have HF3 := Lib.hid (HF1.out.below hb3)
          have HB3 := Lib.hid (HB1.out.trans (hb3.mono (by simp; omega)))
          have c0 := bget hb3 C0.out
          have hV0 := World.block_lt_of_cell? _ _ c0
          simp at hV0
          clear hb3 HF1 HB1 C2 C0 HP1 K3 g0 g1 g2 g3 g4 g5 g6 g7 g8 hbb k4 hSl
          generalize wr.heap.size = V at *
          cases hp : ps.any fun p => eqS p.tok ytk
          case true =>
            have HU2 := Lib.hid (show un ps os (is.map (·.id)) (kk + 1) = un ps os (is.map (·.id)) kk by rw [HU.out, hp]; rfl)
            clear hp
            go_wp2_with fail
            go_roundg (os.length - (kk + 1))
            case measure => omega
            case rel => exact ⟨kk + 1, by omega, by omega, by go_num, HB3.out, by rw [HU2.out]; exact HF3.out⟩
          case false =>
            have HU1 := Lib.hid (show un ps os (is.map (·.id)) (kk + 1) = if hasS (is.map (·.id)) yid then un ps os (is.map (·.id)) kk else un ps os (is.map (·.id)) kk ++ [yid] by rw [HU.out, hp]; rfl)
            clear hp HU
            go_wp2_with fail
            refine (has_any _ _ _ _ HF3.out.oc.sl).mono ?_
            rintro r w4 ⟨rfl, hw4⟩
            obtain rfl : w3 = w4 := hw4.symm
            cases hh : hasS (is.map (·.id)) yid
            case true =>
              have HU2 := Lib.hid (show un ps os (is.map (·.id)) (kk + 1) = un ps os (is.map (·.id)) kk by rw [HU1.out, hh]; rfl)
              clear hh
              go_wp2_with fail
              go_roundg (os.length - (kk + 1))
              case measure => omega
              case rel => exact ⟨kk + 1, by omega, by omega, by go_num, HB3.out, by rw [HU2.out]; exact HF3.out⟩
            case false =>
              have HU2 := Lib.hid (show un ps os (is.map (·.id)) (kk + 1) = un ps os (is.map (·.id)) kk ++ [yid] by rw [HU1.out, hh]; rfl)
              have hwb : Below w3.heap.size w3 (w3.alloc (.cells #[.string yid] 9)) := (Below.refl _ _).alloc (Nat.le_refl _) _
              have HF5 := Lib.hid (HF3.out.below hwb)
              have HB5 := Lib.hid (HB3.out.trans (hwb.mono (by omega)))
              have d5 := Lib.hid (show (w3.alloc (.cells #[.string yid] 9)).cell? ⟨w3.heap.size, 0, none⟩ = some (.string yid) by simp)
              have y5 := Lib.hid (show w.heap.size + 1 ≤ (w3.alloc (.cells #[.string yid] 9)).heap.size by simp; omega)
              have y7 := Lib.hid (show (un ps os (is.map (·.id)) kk).length ≤ 1000000 by omega)
              clear hh hwb
              go_wp2_with (at_builtin; go_loud (refine wpList_append_str (xs := un ps os (is.map (·.id)) kk) rfl (.tmp 63) (.tmp 66) rfl (w.heap.size + 1) u5 rfl HF5.out.od ⟨w3.heap.size, 0, none⟩ yid rfl d5.out HID.out y7.out y5.out ?_); intro gm capm w4 ho4 hg4 hat4 hl4)
              have HF6 := Lib.hid ((HF5.out.swapAD.appA hg4 hat4 ho4).swapAD)
              have HB6 := Lib.hid (below_app HF5.out.od HB5.out y5.out hg4)
              go_roundg (os.length - (kk + 1))
              case measure => omega
              case rel => exact ⟨kk + 1, by omega, by omega, by go_num, HB6.out, by rw [HU2.out]; exact HF6.out⟩
        · have hke : kk = os.length := by omega
          have HF := Lib.hid F4.out
          have HB := Lib.hid BW.out
          subst hke
          have hml := ms_len os (is.map (·.id)) is.length
          have htl := tw_len (is.map (·.id)) is.length
          have hul := un_len ps os (is.map (·.id)) os.length
          have hwz : w.heap.size + 1 ≤ wr.heap.size := by have := BW.out.size; rw [HSZ.out] at this; exact this
          clear BW F4 hg hkk hlt HL HI
          go_wp2_with fail
          refine (sorted_own (w.heap.size + 1) _ _ _ HF.out.oa.1 hwz (by omega)).mono ?_
          rintro r w1 ⟨va, rfl, hoa, hga, hba⟩
          have hFa := HF.out
          have ob1 := hFa.ob.kept hga hFa.ab.symm
          have oc1 := hFa.oc.kept hga hFa.ac.symm
          have od1 := hFa.od.kept hga hFa.ad.symm
          have oa1 : OwnS (w.heap.size + 1) w1 va (canon (ms os (is.map (·.id)) is.length)) := ⟨hoa, fun x hx => hFa.oa.2 x (mem_canon.1 hx)⟩
          have hb1 := below_app hFa.oa HB.out hwz hga
          have hz1 := hga.size
          have ab1 : Apart va u6 := fun g h1 h2 => hFa.ab g (by rw [← hba]; exact h1) h2
          have ad1 : Apart va u5 := fun g h1 h2 => hFa.ad g (by rw [← hba]; exact h1) h2
          have A1 := Lib.hid (show OwnS (w.heap.size + 1) w1 va (canon (ms os (is.map (·.id)) is.length)) ∧ OwnS (w.heap.size + 1) w1 u6 (tw (is.map (·.id)) is.length) ∧ OwnS (w.heap.size + 1) w1 u5 (un ps os (is.map (·.id)) os.length) ∧ Below (w.heap.size + 1) W0 w1 ∧ Apart va u6 ∧ Apart va u5 ∧ Apart u6 u5 from ⟨oa1, ob1, od1, hb1, ab1, ad1, hFa.bd⟩)
          clear hFa ob1 oc1 od1 oa1 hb1 ab1 ad1 hoa hga hba HF HB
          go_wp2_with fail
          refine (sorted_own (w.heap.size + 1) _ _ _ A1.out.2.2.1.1 (by omega) (by omega)).mono ?_
          rintro r w2 ⟨vb, rfl, hob, hgb, hbb⟩
          obtain ⟨a1, a2, a3, a4, a5, a6, a7⟩ := A1.out
          have oa2 := a1.kept hgb a6
          have oc2 := a2.kept hgb a7
          have ob2 : OwnS (w.heap.size + 1) w2 vb (canon (un ps os (is.map (·.id)) os.length)) := ⟨hob, fun x hx => a3.2 x (mem_canon.1 hx)⟩
          have hb2 := below_app a3 a4 (by omega) hgb
          have hz2 := hgb.size
          have bc2 : Apart vb u6 := fun g h1 h2 => a7 g h2 (by rw [← hbb]; exact h1)
          have A2 := Lib.hid (show OwnS (w.heap.size + 1) w2 va (canon (ms os (is.map (·.id)) is.length)) ∧ OwnS (w.heap.size + 1) w2 u6 (tw (is.map (·.id)) is.length) ∧ OwnS (w.heap.size + 1) w2 vb (canon (un ps os (is.map (·.id)) os.length)) ∧ Below (w.heap.size + 1) W0 w2 ∧ Apart va u6 ∧ Apart vb u6 from ⟨oa2, oc2, ob2, hb2, a5, bc2⟩)
          clear a1 a2 a3 a4 a5 a6 a7 oa2 oc2 ob2 hb2 bc2 hob hgb hbb A1
          go_wp2_with fail
          refine (sorted_own (w.heap.size + 1) _ _ _ A2.out.2.1.1 (by omega) (by omega)).mono ?_
          rintro r w3 ⟨vc, rfl, hoc, hgc, hbc⟩
          obtain ⟨a1, a2, a3, a4, a5, a6⟩ := A2.out
          have A3 := Lib.hid (show OwnS (w.heap.size + 1) w3 va (canon (ms os (is.map (·.id)) is.length)) ∧ OwnS (w.heap.size + 1) w3 vb (canon (un ps os (is.map (·.id)) os.length)) ∧ OwnS (w.heap.size + 1) w3 vc (canon (tw (is.map (·.id)) is.length)) ∧ Below (w.heap.size + 1) W0 w3 from
            ⟨a1.kept hgc a5, a3.kept hgc a6, ⟨hoc, fun x hx => a2.2 x (mem_canon.1 hx)⟩, below_app a2 a4 (by omega) hgc⟩)
          clear a1 a2 a3 a4 a5 a6 hoc hgc hbc A2
          go_wp2_with fail
          go_ret3
          exact ⟨va, vb, vc, rfl, HB0.out.trans (A3.out.2.2.2.mono (by omega)), A3.out.1.sl, A3.out.2.1.sl, A3.out.2.2.1.sl⟩
end Go.Proofs.Ytdmcceekaopghaa
