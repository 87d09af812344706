/-
  The walk of the statement AuditComplete. Conditions: the readings.
-/
import Derived.Test.YtdmcceekaopghaaCompPl
import Derived.Test.YtdmcceekaopghaaLawPrefix
import Derived.Deep.DeepCutAuto
import Derived.Deep.RegionLaw
namespace Go.Proofs.Ytdmcceekaopghaa
open Go.RowKit Go.Sort Go.ChangeShapes Go.WideShapes Go.ChangeAt

set_option maxRecDepth 100000 in
set_option maxHeartbeats 4000000 in
theorem comp_law (r : Option Addr) (c : Nat) (ids : List ByteArray) (at_ : Nat) (w : World) (hS : Sl StrR 1 w (.slice r ids.length c) ids) (h60 : ids.length ≤ 60) (hat : at_ ≤ 255) :
    Calls Try.prog 7 #[.slice r ids.length c, .int .u8 at_] w fun r w' => r = .returned (.bool true) ∧ Below w.heap.size w w' := by
  obtain ⟨_, hlc, hmc, hE⟩ := str_cells hS rfl
  have HE := Lib.hid hE
  have HB0 := Lib.hid (show Below w.heap.size w (w.alloc (.cells #[.string ⟨#[]⟩, .int .i64 0, .slice none 0 0, .slice none 0 0, .slice none 0 0] 42)) from (Below.refl _ _).alloc (Nat.le_refl _) _)
  have HSZ := Lib.hid (show (w.alloc (.cells #[.string ⟨#[]⟩, .int .i64 0, .slice none 0 0, .slice none 0 0, .slice none 0 0] 42)).heap.size = w.heap.size + 1 by simp)
  have HBX := Lib.hid (show BoxS (w.alloc (.cells #[.string ⟨#[]⟩, .int .i64 0, .slice none 0 0, .slice none 0 0, .slice none 0 0] 42)) w.heap.size (.slice none 0 0) from ⟨by simp [ib0], by simp, by simp, by simp, by simp, by simp⟩)
  clear hE hS
  go_enter Try.func7, Try.ntmps7
  go_wp2_with fail
  generalize w.alloc (.cells #[.string ⟨#[]⟩, .int .i64 0, .slice none 0 0, .slice none 0 0, .slice none 0 0] 42) = W0 at *
  go_loopg [6, 8, 9] ids.length (fun gg s6 s8 s9 wr => ∃ k : Nat, k ≤ ids.length ∧ ids.length - k ≤ gg ∧ s9 = .int .i64 k ∧ Aside (Below w.heap.size w wr) ∧ Aside (w.heap.size + 1 ≤ wr.heap.size) ∧
      Aside (∃ vI, BoxS wr w.heap.size vI ∧ Trip (w.heap.size + 1) wr s8 vI s6 (dd ids k) ((dd ids k).map mkI) ((dd ids k).map mkO)))
  case atStart => exact ⟨0, Nat.zero_le _, by omega, rfl, HB0.out, by show _ ≤ _; rw [HSZ.out]; omega, _, HBX.out, Trip.nil _ _⟩
  case round =>
    clear HBX HB0 HSZ
    obtain ⟨k, hk, hg, rfl, BW, SW, TT⟩ := hrel
    by_cases hlt : k < ids.length
    · obtain ⟨vI, BX, TR⟩ := TT.out
      obtain ⟨b, off, rfl, hb, gc, hxs⟩ := HE.out k hlt
      have hgd : ids.getD k ib0 = ids[k] := by simp [hlt]
      have HD := Lib.hid (show dd ids (k + 1) = if hasS (dd ids k) ids[k] then dd ids k else dd ids k ++ [ids[k]] by rw [dd, hgd])
      have g0 := bget BW.out gc
      have hbb := World.block_lt_of_cell? wr _ g0
      simp only at hbb
      have HXS := Lib.hid hxs
      have HTR := Lib.hid TR
      have HBX := Lib.hid BX
      have HLB := Lib.hid hb
      have hdl := dd_len ids k
      clear gc hgd hxs TT TR BX hb
      generalize ids[k] = x at *
      go_wp2_with fail
      refine (rhas_any (dd ids k) x _ _ HTR.out.ok.sl).mono ?_
      rintro r1 w1 ⟨rfl, hw1⟩
      obtain rfl : wr = w1 := hw1
      cases hh : hasS (dd ids k) x
      · have HD2 := Lib.hid (show dd ids (k + 1) = dd ids k ++ [x] by rw [HD.out, hh]; simp)
        clear hh
        have hwb : Below wr.heap.size wr (wr.alloc (.cells #[.string x] 9)) := (Below.refl _ _).alloc (Nat.le_refl _) _
        have T1 := Lib.hid (HTR.out.below hwb)
        have X1 := Lib.hid (HBX.out.below hwb)
        have B1 := Lib.hid (BW.out.trans (hwb.mono BW.out.size))
        have g1 := Lib.hid (bget hwb g0)
        have d5 := Lib.hid (show (wr.alloc (.cells #[.string x] 9)).cell? ⟨wr.heap.size, 0, none⟩ = some (.string x) by simp)
        have y5 := Lib.hid (show w.heap.size + 1 ≤ (wr.alloc (.cells #[.string x] 9)).heap.size by have := SW.out; simp; omega)
        have y7 := Lib.hid (show (dd ids k).length ≤ 1000000 by omega)
        clear hwb BW SW HTR HBX HD
        go_upto_region 11 with (at_builtin; go_loud (refine wpList_append_str (xs := dd ids k) rfl (.tmp 33) (.tmp 38) rfl (w.heap.size + 1) u8 rfl T1.out.ok ⟨wr.heap.size, 0, none⟩ x rfl d5.out HXS.out y7.out y5.out ?_); intro gm capm w4 ho4 hg4 hat4 hl4)
        have hown1 : ∀ q, u8.ownBlock = some q → w.heap.size + 1 ≤ q := fun q hq => (T1.out.ok.1.lt q hq).1
        have hT4 := T1.out.appK hg4 hat4 ho4
        have hX4 := X1.out.grown hg4 (fun q hq => by have := hown1 q hq; omega)
        have g4 : w4.cell? ⟨b, off + k, none⟩ = some (.string x) := hg4.cell g1.out (fun e => by have := hown1 b e.symm; have := HLB.out; omega)
        have hB4 : Below w.heap.size w w4 := B1.out.grown hg4 (by have := y5.out; omega) (fun q hq => by have := hown1 q hq; omega)
        have hS4 : w.heap.size + 1 ≤ w4.heap.size := by have := y5.out; have := hg4.size; omega
        have HT4 := Lib.hid hT4
        have HX4 := Lib.hid hX4
        have B4 := Lib.hid hB4
        have S4 := Lib.hid hS4
        have i2 := hX4.c2
        have n1 := World.new_ne w4 _ i2
        have n2 := World.new_ne w4 _ g4
        have k0 : (0 : Int) ≤ (k : Int) := Int.natCast_nonneg _
        have k1 : (k : Int) < (ids.length : Int) := by omega
        have z7 := Lib.hid (show ((dd ids k).map mkI).length + 1 ≤ 1000000 by simp; omega)
        have hml : ((dd ids k).map mkI).length = (dd ids k).length := by simp
        have hneI : some w.heap.size ≠ vI.ownBlock := fun e => by have := (hT4.oi.lt _ e.symm).1; omega
        have hneb : some b ≠ vI.ownBlock := fun e => by have := (hT4.oi.lt _ e.symm).1; have := HLB.out; omega
        have hbl := World.block_lt_of_cell? w4 _ g4
        simp only at hbl
        have hsl : w.heap.size < w4.heap.size := by omega
        have f2 := hX4.f2
        have hSb : w.heap.size ≠ b := by have := HLB.out; omega
        clear hT4 hX4 hB4 hS4 hown1 hg4 hat4 ho4 hl4 T1 X1 B1 g1 d5 y5 y7
        simp only at n1 n2
        go_region_law ((refine step_append_in (by rfl) _ _ (by rfl) (w.heap.size + 1) vI ((dd ids k).map mkI) (by rfl) ((HT4.out.oi.alloc _).drew) w4.heap.size (mkI x) (by rfl) (heap_alloc_new w4 _) z7.out (by have := S4.out; simp; omega) (w4.heap.size + 1) (by simp) ?_; intro g2 cap2 w5 hown5 hgrow hat5 hlt5; have c5 := (hgrow.cell_far ⟨w.heap.size, 2, none⟩ (lt_alloc_drew hsl) hneI).trans (cell_alloc_drew i2); have f5 := (hgrow.frozen_far ⟨w.heap.size, 2, none⟩ (lt_alloc_drew hsl) hneI).trans (frozen_alloc_drew i2 f2)))
        all_goals
          rw [List.length_map] at hown5
          have hat6 : vI.ownBlock = some g2 ∨ g2 = ((w4.alloc (.cells (mkI x).cells.toArray 55)).drew).heap.size := by rw [size_alloc_drew]; exact hat5
          have T5 := (HT4.out.draw _).appI hgrow hat6 hown5
          have T6 := T5.store (p := ⟨w.heap.size, 2, none⟩) (by simp) (.slice (some ⟨g2, 0, none⟩) ((dd ids k).length + 1) cap2)
          have X6 := ((HX4.out.grown (grownBy_alloc_drew w4 (.cells (mkI x).cells.toArray 55) none) (fun q hq => by cases hq)).grown hgrow (fun q hq => by have := (HT4.out.oi.lt q hq).1; omega)).store (.slice (some ⟨g2, 0, none⟩) ((dd ids k).length + 1) cap2)
          have g6 : (w5.setCell ⟨w.heap.size, 2, none⟩ (.slice (some ⟨g2, 0, none⟩) ((dd ids k).length + 1) cap2)).cell? ⟨b, off + k, none⟩ = some (.string x) := by
            rw [World.cell?_setCell_far _ _ _ _ hSb, hgrow.cell_far _ (lt_alloc_drew hbl) hneb]; exact cell_alloc_drew g4
          have B5 : Below w.heap.size w w5 := ((B4.out.alloc (by omega) (.cells (mkI x).cells.toArray 55)).drew).grown hgrow (by rw [size_alloc_drew]; omega) (fun q hq => by have := (HT4.out.oi.lt q hq).1; omega)
          have B6 := B5.setCell (p := ⟨w.heap.size, 2, none⟩) (Nat.le_refl _) (.slice (some ⟨g2, 0, none⟩) ((dd ids k).length + 1) cap2)
          have s6 : w.heap.size + 1 ≤ (w5.setCell ⟨w.heap.size, 2, none⟩ (.slice (some ⟨g2, 0, none⟩) ((dd ids k).length + 1) cap2)).heap.size := by
            have := hgrow.size; rw [size_alloc_drew] at this; simp; omega
          clear hown5 hgrow hat5 hat6 hlt5 c5 f5 T5 B5 i2 g4 n1 n2 f2 hbl hneI hneb hsl B4 HT4 HX4 S4
          generalize w5.setCell ⟨w.heap.size, 2, none⟩ (.slice (some ⟨g2, 0, none⟩) ((dd ids k).length + 1) cap2) = w6 at *
          have hbl := World.block_lt_of_cell? w6 _ g6
          simp only at hbl
          have hwb : Below w6.heap.size w6 (w6.alloc (.cells (mkO x).cells.toArray 57)) := (Below.refl _ _).alloc (Nat.le_refl _) _
          have T7 := Lib.hid (T6.below hwb)
          have X7 := Lib.hid (X6.below hwb)
          have B7 := Lib.hid (B6.alloc (by omega) (.cells (mkO x).cells.toArray 57))
          have d7 := Lib.hid (show (w6.alloc (.cells (mkO x).cells.toArray 57)).heap[w6.heap.size]? = some (.cells (([mkO x] : List Ob).flatMap Ob.cells).toArray 57 (0, 0)) by simpa using heap_alloc_new w6 _)
          have y7 := Lib.hid (show w.heap.size + 1 ≤ (w6.alloc (.cells (mkO x).cells.toArray 57)).heap.size by simp; omega)
          have v7 := Lib.hid (show ((dd ids k).map mkO).length + 1 ≤ 1000000 by simp; omega)
          have L7 := Lib.hid (show ((dd ids k).map mkO).length = (dd ids k).length by simp)
          clear hwb T6 X6 B6 s6
          go_wp2_with (at_builtin; go_loud (refine wpList_append_rows Ob.cells ob_len' ob_one' Try.underlying43 obinfo rfl (by omega) (by omega) rfl (.tmp 50) (.tmp 56) rfl (w.heap.size + 1) u6 ((dd ids k).map mkO) rfl T7.out.ol w6.heap.size 1 1 [mkO x] rfl (by omega) rfl d7.out v7.out y7.out ?_); intro g8 cap8 w8 hown8 hgrow8 hat8 hlt8)
          rw [List.length_map] at hown8
          have T8 := Lib.hid (T7.out.appL hgrow8 hat8 hown8)
          have X8 := Lib.hid (X7.out.grown hgrow8 (fun q hq => by have := (T7.out.ol.lt q hq).1; omega))
          have B8 := Lib.hid (B7.out.grown hgrow8 (by have := y7.out; omega) (fun q hq => by have := (T7.out.ol.lt q hq).1; omega))
          have S8 := Lib.hid (Nat.le_trans y7.out hgrow8.size)
          clear hown8 hgrow8 hat8 hlt8
          go_roundg (ids.length - (k + 1))
          case measure => omega
          case rel => exact ⟨k + 1, by omega, by omega, by go_num, B8.out, S8.out, _, X8.out, by rw [HD2.out, List.map_append, List.map_append]; exact T8.out⟩
      · have HD2 := Lib.hid (show dd ids (k + 1) = dd ids k by rw [HD.out, hh]; simp)
        clear hh
        go_wp2_with fail
        go_roundg (ids.length - (k + 1))
        case measure => omega
        case rel => exact ⟨k + 1, by omega, by omega, by go_num, BW.out, SW.out, vI, HBX.out, by rw [HD2.out]; exact HTR.out⟩
    · have hke : k = ids.length := by omega
      subst hke
      obtain ⟨vI, BX, TR⟩ := TT.out
      have hnod := Lib.hid (dd_nodup ids ids.length)
      have hdl := dd_len ids ids.length
      clear TT HE hg hlt
      generalize dd ids ids.length = kn at *
      have BW := Lib.hid BW.out
      have TR := Lib.hid TR
      have BXH := Lib.hid BX
      obtain ⟨rI, cI, hvI, hlI, hmI, _⟩ := own_in TR.out.oi
      obtain ⟨rL, cL, hvL, hlL, hmL, _⟩ := own_ob TR.out.ol
      obtain ⟨rK, cK, hvK, hlK, hmK, _⟩ := TR.out.ok.sl
      rw [List.length_map] at hvI hvL hlI hlL
      subst hvI hvL hvK
      unfold maxLen at hmI hmL hmK
      have c0 := BX.c0
      have c1 := BX.c1
      have c2 := BX.c2
      have c3 := BX.c3
      have c4 := BX.c4
      have hSB := World.block_lt_of_cell? _ _ c0
      simp only at hSB
      clear BX
      go_wp2_with fail
      have hsz := Lib.hid (fun x hx => TR.out.ok.2 x hx)
      refine (owned_any ib0 0 _ _ _ _ (kn.map mkI) [] (kn.map mkO) wr (own_in TR.out.oi) sl_none (own_ob TR.out.ol) (by simp; omega) (by simp; omega) (fun x hx => by obtain ⟨y, hy, rfl⟩ := List.mem_map.1 hx; exact hsz.out y hy) (fun x hx => by obtain ⟨y, hy, rfl⟩ := List.mem_map.1 hx; exact hsz.out y hy)).mono ?_
      rintro r w1 ⟨a, bb, cc, rfl, hb1, g1, g2, g3⟩
      rw [map_mkI, mkI_slen, comp_ms] at g1
      rw [map_mkI, comp_un (fun x h => h)] at g2
      rw [map_mkI, mkI_slen, comp_tw hnod.out] at g3
      obtain ⟨ra, ca, hva, _, hma, _⟩ := g1
      obtain ⟨rb, cb, hvb, _, hmb, _⟩ := g2
      obtain ⟨rc, cc2, hvc, _, hmc2, _⟩ := g3
      simp only [List.length_nil] at hva hvb hvc
      subst hva hvb hvc
      unfold maxLen at hma hmb hmc2
      have TR1 := Lib.hid (TR.out.below hb1)
      have BX1 := Lib.hid (BXH.out.below hb1)
      have BW1 := Lib.hid (BW.out.trans (hb1.mono (by omega)))
      have hS1 : w.heap.size < w1.heap.size := by have := hb1.size; omega
      clear hb1 c0 c1 c2 c3 c4 hSB TR BXH BW
      by_cases hn : at_ < kn.length
      · have hnz : (at_ : Int) < (kn.length : Int) := by omega
        obtain ⟨gl, cpl, hL2, _⟩ := World.ownsRow.form TR1.out.ol (by simp; omega)
        rw [List.length_map] at hL2
        simp only [Value.slice.injEq] at hL2
        obtain ⟨rfl, _, rfl⟩ := hL2
        have SLL := Lib.hid (sl_of_own Ob.cells ob_len' TR1.out.ol)
        have n0 := Lib.hid (show w1.ownsRow w1.heap.size 57 9 (.slice none 0 0) ([] : List Ob).length (([] : List Ob).flatMap Ob.cells) from World.ownsRow_nil _ _ _ _)
        have e1 : ((kn.map mkO).take at_).length = at_ := by simp; omega
        have T1 := Lib.hid (sl_takeO SLL.out at_ (by simp; omega))
        have z1 := Lib.hid (show ([] : List Ob).length + at_ ≤ 1000000 by simp; omega)
        have A0 := Lib.hid e1
        clear e1
        go_upto_region 20 with (at_builtin; (refine wpList_append_sl Ob.cells ob_len' ob_one' Try.underlying43 obinfo rfl (by omega) (by omega) rfl (.tmp 81) (.tmp 84) rfl w1.heap.size (.slice none 0 0) [] rfl n0.out (some ⟨gl, 0, none⟩) at_ cL ((kn.map mkO).take at_) rfl (fun h => by cases h) T1.out z1.out (Nat.le_refl _) ?_); intro v2 w2 ho2 hg2)
        have hB2 : Below w1.heap.size w1 w2 := (Below.refl _ _).grown hg2 (Nat.le_refl _) (fun q hq => by simp [Value.ownBlock] at hq)
        rw [List.nil_append] at ho2
        have O2 := Lib.hid ho2
        have B2 := Lib.hid hB2
        have SL2 := Lib.hid (SLL.out.below (R := fun _ cs (x : Ob) => cs = x.cells) (fun _ _ _ _ _ h => h) hB2)
        have s2 := Lib.hid hB2.size
        have z2 := Lib.hid (show ((kn.map mkO).take at_).length + (kn.length - (at_ + 1)) ≤ 1000000 by simp; omega)
        clear ho2 hg2 hB2 T1 z1 n0
        go_cut [7] (fun s7 wx => Aside (Below w1.heap.size w1 wx) ∧ Aside (wx.ownsRow w1.heap.size 57 9 s7 ((kn.take at_ ++ kn.drop (at_ + 1)).map mkO).length (((kn.take at_ ++ kn.drop (at_ + 1)).map mkO).flatMap Ob.cells)))
        case first =>
          by_cases hcl : at_ + 1 < cL
          · have D2 := sl_drop SL2.out (at_ + 1) (by simp; omega)
            rw [Nat.zero_add] at D2
            have D3 := Lib.hid D2
            clear D2
            go_wp2_with (at_builtin; go_loud (refine wpList_append_sl Ob.cells ob_len' ob_one' Try.underlying43 obinfo rfl (by omega) (by omega) rfl (.tmp 86) (.tmp 90) rfl w1.heap.size v2 ((kn.map mkO).take at_) rfl O2.out (some ⟨gl, (at_ + 1) * 9, none⟩) (kn.length - (at_ + 1)) (cL - (at_ + 1)) ((kn.map mkO).drop (at_ + 1)) rfl (fun h => by cases h) D3.out z2.out s2.out ?_); intro v3 w3 ho3 hg3)
            have B3 := Lib.hid (B2.out.grown hg3 s2.out (fun q hq => (O2.out.lt q hq).1))
            have O3 := Lib.hid ho3
            clear ho3 hg3
            go_meet
            exact ⟨B3.out, by have h := O3.out; rw [rest_map] at h; exact h⟩
          · obtain rfl : cL = at_ + 1 := by omega
            have hkl := Lib.hid (show kn.length - (at_ + 1) = 0 by omega)
            have HKL := Lib.hid (show kn.drop (at_ + 1) = [] from List.drop_eq_nil_of_le (by omega))
            have hEm := Lib.hid (sl_empty (α := Ob) (R := fun _ cs x => cs = x.cells) (sz := 9) (w := w2) (some ⟨gl, 0, none⟩) 0 (by unfold maxLen; omega))
            have z3 := Lib.hid (show ((kn.map mkO).take at_).length + 0 ≤ 1000000 by simp; omega)
            go_wp2_with (at_builtin; go_loud (refine wpList_append_sl Ob.cells ob_len' ob_one' Try.underlying43 obinfo rfl (by omega) (by omega) rfl (.tmp 86) (.tmp 90) rfl w1.heap.size v2 ((kn.map mkO).take at_) rfl O2.out (some ⟨gl, 0, none⟩) 0 0 [] rfl (fun h => by cases h) hEm.out z3.out s2.out ?_); intro v3 w3 ho3 hg3)
            have B3 := Lib.hid (B2.out.grown hg3 s2.out (fun q hq => (O2.out.lt q hq).1))
            have O3 := Lib.hid ho3
            clear ho3 hg3
            go_meet
            exact ⟨B3.out, by have h := O3.out; rw [List.append_nil] at h; rw [HKL.out, List.append_nil, List.map_take]; exact h⟩
        case rest =>
          obtain ⟨B3, O3⟩ := hcut
          have TR3 := Lib.hid (TR1.out.below B3.out)
          have BX3 := BX1.out.below B3.out
          have BW3 := Lib.hid (BW1.out.trans (B3.out.mono (by omega)))
          have hS3 : w.heap.size < wc.heap.size := by have := B3.out.size; omega
          have c0 := BX3.c0
          have c1 := BX3.c1
          have c2 := BX3.c2
          have c3 := BX3.c3
          have c4 := BX3.c4
          have L3 := own_ob O3.out
          obtain ⟨rR, cR, hvR, _⟩ := id L3
          generalize ((kn.take at_ ++ kn.drop (at_ + 1)).map mkO).length = nR at hvR
          subst hvR
          have HL3 := Lib.hid L3
          clear BX3 L3 B2 O2 SL2 SLL s2 z2 A0
          go_wp2_with fail
          refine (owned_any ib0 0 _ _ _ _ (kn.map mkI) [] ((kn.take at_ ++ kn.drop (at_ + 1)).map mkO) wc (own_in TR3.out.oi) sl_none HL3.out (by simp; omega) (by simp; omega) (fun x hx => by obtain ⟨y, hy, rfl⟩ := List.mem_map.1 hx; exact hsz.out y hy) (fun x hx => by
            obtain ⟨y, hy, rfl⟩ := List.mem_map.1 hx
            exact hsz.out y ((mem_rest hn hnod.out y).1 hy).1)).mono ?_
          rintro r w4 ⟨d, ee, ff, rfl, hb4, g1, g2, g3⟩
          rw [map_mkI, mkI_slen, comp_one hn hnod.out] at g1
          rw [map_mkI, comp_un (fun x h => ((mem_rest hn hnod.out x).1 h).1)] at g2
          rw [map_mkI, mkI_slen, comp_tw hnod.out] at g3
          obtain ⟨re, ce, hve, _, hme, _⟩ := g2
          obtain ⟨rf, cf, hvf, _, hmf, _⟩ := g3
          simp only [List.length_nil] at hve hvf
          subst hve hvf
          unfold maxLen at hme hmf
          have G1 := Lib.hid g1
          have TR4 := Lib.hid (TR3.out.below hb4)
          have BW4 := Lib.hid (BW3.out.trans (hb4.mono (by omega)))
          have hS4 : w.heap.size < w4.heap.size := by have := hb4.size; omega
          clear g1 hb4 c0 c1 c2 c3 c4 HL3 B3 O3 TR3 BW3
          obtain ⟨gk, cpk, hK2, _⟩ := World.ownsRow.form TR4.out.ok.1 (by omega)
          simp only [Value.slice.injEq] at hK2
          obtain ⟨rfl, _, rfl⟩ := hK2
          have hKd := sl_takeO (sl_drop TR4.out.ok.sl at_ (by omega)) 1 (by simp; omega)
          rw [Nat.zero_add, Nat.mul_one] at hKd
          have hK1 : (kn.drop at_).take 1 = [kn[at_]] := by rw [List.drop_eq_getElem_cons hn]; rfl
          rw [hK1] at hKd
          have HKd := Lib.hid hKd
          clear hK1 hKd
          generalize kn[at_] = xn at *
          have hak : at_ < cK := by omega
          go_wp2_with fail
          refine (rsame_any [xn] [xn] _ _ _ G1.out HKd.out).mono ?_
          rintro r w5 ⟨rfl, hb5⟩
          rw [sameS_iff.2 rfl]
          have BW5 := Lib.hid (BW4.out.trans (hb5.mono (by omega)))
          have hS5 : w.heap.size < w5.heap.size := by have := hb5.size; omega
          clear hb5
          go_wp2_with fail
          refine (awake_any _).mono ?_
          rintro r w6 ⟨rfl, hb6⟩
          go_wp2
          go_ret
          exact ⟨rfl, BW5.out.trans (hb6.mono (by omega))⟩
      · have hnz : (kn.length : Int) ≤ (at_ : Int) := by omega
        go_wp2_with fail
        refine (awake_any _).mono ?_
        rintro r w2 ⟨rfl, hb2⟩
        go_wp2
        go_ret
        exact ⟨rfl, BW1.out.trans (hb2.mono (by omega))⟩

theorem comp_big (r : Option Addr) (c : Nat) (ids : List ByteArray) (at_ : Nat) (w : World) (hS : Sl StrR 1 w (.slice r ids.length c) ids) (h60 : 60 < ids.length) :
    Calls Try.prog 7 #[.slice r ids.length c, .int .u8 at_] w fun r w' => r = .returned (.bool true) ∧ Below w.heap.size w w' := by
  obtain ⟨_, hlc, hmc, _⟩ := str_cells hS rfl
  clear hS
  go_enter Try.func7, Try.ntmps7
  go_wp2_with fail
  refine (awake_any _).mono ?_
  rintro r w' ⟨rfl, hb⟩
  go_wp2
  go_ret
  exact ⟨rfl, hb⟩

set_option maxRecDepth 100000 in
theorem auditComplete_from (H : Type) (enc : TypeId × Value → H) (W : World) (base : Nat) (v0 v1 : Value) (d0 d1 : DataW H) (p0 p1 : List MemPlace)
    (o0 : Value.okWide Try.prog W .any base 44 v0) (o1 : Value.okWide Try.prog W .any base 5 v1)
    (h0 : DataW.Trod enc Try.prog W 0 (fun _ => true) true 44 v0 d0 p0) (h1 : DataW.Trod enc Try.prog W 0 (fun _ => true) true 5 v1 d1 p1) :
    Calls Try.prog 7 #[v0, v1] W fun e W' => e = .returned (.bool true) ∧ Below W.heap.size W W' := by
  obtain ⟨a, len, cap, rfl⟩ := okWide_slice Try.underlying44 o0
  obtain ⟨fuel, hf⟩ := h0
  obtain ⟨ids, hS⟩ := sl_of_trod StrR Try.underlying44 cStr (by omega) (strR_of_trod Try.underlying9) hf
  obtain ⟨k, hk, rfl⟩ := open_u8 o1 h1
  obtain ⟨r, c, hv, _⟩ := id hS
  rw [hv] at hS ⊢
  by_cases h : ids.length ≤ 60
  · exact comp_law r c ids k W hS h hk
  · exact comp_big r c ids k W hS (by omega)
end Go.Proofs.Ytdmcceekaopghaa
