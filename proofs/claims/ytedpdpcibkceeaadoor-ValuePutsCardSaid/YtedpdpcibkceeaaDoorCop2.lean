import Derived.Test.YtedpdpcibkceeaaDoorCop
/-
  Contracts of the program's copies and copied. Conditions: those ahead of each theorem.
-/
namespace Go.Proofs.YtedpdpcibkceeaaDoor
open Go.RowKit Go.Sort Go.Lib
open Go.Lib (hid)
set_option linter.unusedVariables false
set_option linter.unusedSimpArgs false

theorem valinfo : (Tryd.prog.info? 26).map (fun i => (i.zero, i.size, i.bytes)) = some (some (.agg #[.int .i64 0, .int .i64 0, .string ByteArray.empty, .slice none 0 0, .slice none 0 0]), 5, 80) := by kernel_rfl

set_option maxRecDepth 100000 in
set_option maxHeartbeats 4000000 in
theorem copies_of (is : List Val) (ih : ∀ x ∈ is, ∀ (r : Option Addr) (c : Nat) (rk : Option Addr) (ck : Nat) (w : World), VR5 w r c rk ck x → Calls Tryd.prog 47 #[.agg #[.int .i64 x.kind, .int .i64 x.num, .string x.str, .slice r x.items.length c, .slice rk x.keys.length ck]] w (CopP w x)) (r : Option Addr) (c : Nat) (w : World) (hI : Sl VR 5 w (.slice r is.length c) is) (hn : is.length ≤ 1000000) :
    Calls Tryd.prog 60 #[.slice r is.length c] w (CopsP w is) := by
  obtain ⟨_, hlc, hcm⟩ := sl_len hI
  have HI := hid hI
  have IH := hid ih
  clear hI ih
  by_cases h0 : is = []
  · subst h0
    have HF := hid (show CopsP w [] (.returned (.slice none 0 0)) w from ⟨none, 0, rfl, OwnV.nil _ _, Below.refl _ _⟩)
    go_enter Tryd.func60, Tryd.ntmps60
    go_wp2
    go_ret
    exact HF.out
  have hpos : 0 < is.length := List.length_pos_iff.2 h0
  have hne : ((is.length : Int) == 0) = false := by simp; omega
  clear h0
  obtain ⟨i0, hi, hz0, hz1, hz2⟩ := info_parts valinfo
  go_enter Tryd.func60, Tryd.ntmps60
  go_wp2_with (at_make; refine wpList_make_own _ rfl _ _ 23 rfl w.heap.size 26 i0 _ 5 Tryd.underlying23 hi hz0 hz1 .i64 .i64 _ is.length rfl rfl rfl (by rw [hz2]; omega) (by unfold maxLen; omega) (Nat.le_refl _) ?_; intro w0 hown0 hgrow0)
  have BW0 := hid ((Below.refl w.heap.size w).grown hgrow0 (Nat.le_refl _) (fun k hk => by cases hk))
  have RW0 := hid (show ∃ ys, RowsV w.heap.size w0 (.slice (some ⟨w.heap.size, 0, none⟩) 0 is.length) ys (is.take 0) from ⟨[], rfl, hown0, fun i h => absurd h (by simp)⟩)
  clear hown0 hgrow0 hi hz0 hz1 hz2
  go_loopg [3, 14] is.length (fun gg s3 s14 wr => ∃ k : Nat, k ≤ is.length ∧ is.length - k ≤ gg ∧ s14 = .int .i64 k ∧ Aside (Below w.heap.size w wr) ∧ Aside (∃ ys, RowsV w.heap.size wr s3 ys (is.take k)))
  case atStart => exact ⟨0, Nat.zero_le _, by omega, rfl, BW0.out, RW0.out⟩
  case round =>
    clear BW0 RW0
    obtain ⟨k, hk, hg, rfl, BW, RW⟩ := hrel
    have BX := hid BW.out
    clear BW
    by_cases hlt : k < is.length
    case pos =>
      have hltz : (k : Int) < (is.length : Int) := by omega
      obtain ⟨b, off, ri, ci, rk', ck', rfl, hb, g0, g1, g2, g3, g4, h5⟩ := val_at (slv_mono HI.out BX.out) k hlt
      obtain ⟨ys, RY⟩ := RW.out
      have RX := hid RY
      have HT := hid (List.take_succ_eq_append_getElem hlt)
      have hyl : ys.length = k := by have := RX.out.len; simp at this; omega
      have BA := hid (show Below wr.heap.size wr (wr.alloc (.cells #[.int .i64 (is[k]).kind, .int .i64 (is[k]).num, .string (is[k]).str, .slice ri (is[k]).items.length ci, .slice rk' (is[k]).keys.length ck'] 26)) from (Below.refl _ _).alloc (Nat.le_refl _) _)
      have C := hid (IH.out _ (List.getElem_mem hlt) ri ci rk' ck' _ (h5.below BA.out))
      have YL := hid (show ys.length + 1 ≤ 1000000 by omega)
      have HY := hid hyl
      clear h5 RY RW hyl
      generalize is[k] = y at *
      generalize hyk : y.kind = yk at *
      generalize hyn : y.num = yn at *
      generalize hys : y.str = ysr at *
      generalize hyi : y.items.length = yi at *
      generalize hyks : y.keys.length = yks at *
      have E1 := hid hyk
      have E2 := hid hyn
      have E3 := hid hys
      have E4 := hid hyi
      have E5 := hid hyks
      clear hyk hyn hys hyi hyks
      go_wp2_with fail
      refine C.out.mono ?_
      rintro e w2 ⟨r', c', rk2, ck2, M, rfl, hx, hb2⟩
      rw [E1.out, E2.out, E3.out, E4.out, E5.out]
      have X2 := hid hx
      have B2 := hid hb2
      have BB := hid (show Below w.heap.size w w2 from BX.out.trans ((BA.out.trans (hb2.mono BA.out.size)).mono BX.out.size))
      clear hx hb2
      have BN := hid (show Below w2.heap.size w2 (w2.alloc (.cells #[.int .i64 yk, .int .i64 yn, .string ysr, .slice r' yi c', .slice rk2 yks ck2] 26)) from (Below.refl _ _).alloc (Nat.le_refl _) _)
      have d5 := hid (show (w2.alloc (.cells #[.int .i64 yk, .int .i64 yn, .string ysr, .slice r' yi c', .slice rk2 yks ck2] 26)).heap[w2.heap.size]? = some (.cells (([Cv.of y r' c' rk2 ck2] : List Cv).flatMap Cv.enc).toArray 26 (0, 0)) by
        simp only [Cv.of, List.flatMap_cons, List.flatMap_nil, List.append_nil, Cv.enc, E1.out, E2.out, E3.out, E4.out, E5.out]
        exact (MapKept.heap_alloc w2 _).1)
      have O2 := hid (show (w2.alloc (.cells #[.int .i64 yk, .int .i64 yn, .string ysr, .slice r' yi c', .slice rk2 yks ck2] 26)).ownsRow w.heap.size 26 5 _ ys.length (ys.flatMap Cv.enc) from own_keep RX.out.own fun g hg => by
        have h1 := (own_lt RX.out.own hg).2
        have h2 := Nat.lt_of_lt_of_le h1 BA.out.size
        rw [BN.out.block g (Nat.lt_of_lt_of_le h2 B2.out.size), B2.out.block g h2, BA.out.block g h1])
      have y5 := hid (show w.heap.size ≤ (w2.alloc (.cells #[.int .i64 yk, .int .i64 yn, .string ysr, .slice r' yi c', .slice rk2 yks ck2] 26)).heap.size from Nat.le_trans BB.out.size BN.out.size)
      go_wp2_with (at_builtin; go_loud (refine wpList_append_rows Cv.enc cv_len cv_one Tryd.underlying23 valinfo rfl (by omega) (by omega) rfl (.tmp 18) (.tmp 21) rfl w.heap.size u3 ys rfl O2.out w2.heap.size 1 1 [Cv.of y r' c' rk2 ck2] rfl (by omega) rfl d5.out YL.out y5.out ?_); intro gm capm w4 ho4 hg4 hat4 hl4)
      have R4 := hid (RX.out.push BX.out.size BA.out B2.out X2.out.vk BN.out ho4 hg4 hat4)
      have B4 := hid ((BB.out.trans (BN.out.mono BB.out.size)).grown hg4 y5.out (fun k hk => (own_lt O2.out hk).1))
      clear ho4 hg4 hat4 hl4
      go_roundg (is.length - (k + 1))
      case measure => omega
      case rel => exact ⟨k + 1, by omega, by omega, by go_num, B4.out, ⟨_, by rw [HT.out]; exact R4.out⟩⟩
    case neg =>
      have hltz : ¬ (k : Int) < (is.length : Int) := by omega
      have HF := hid (show CopsP w is (.returned u3) wr by
        obtain ⟨ys, RY⟩ := RW.out
        rw [show k = is.length by omega, List.take_length] at RY
        obtain ⟨r', c', e, _⟩ := own_form RY.own
        rw [RY.len] at e
        exact ⟨r', c', by rw [e], by rw [← e]; exact ⟨ys, RY.len, RY.own, RY.vr⟩, BX.out⟩)
      clear RW
      go_wp2
      go_ret
      exact HF.out
end Go.Proofs.YtedpdpcibkceeaaDoor
