/-
  The contract of the helper steps with the place of its result, and one event written anew in an array. Conditions: those ahead of each theorem.
-/
import Derived.Test.YtdmcceekaopghaaSteps
namespace Go.Proofs.Ytdmcceekaopghaa
open Go.RowKit Go.Sort

set_option maxHeartbeats 1000000 in
theorem steps_own (ns : List (List Int)) (vN : Value) (w : World) (hN : Sl NsR 1 w vN ns) (h1000 : ns.length ≤ 1000) :
    Calls Try.prog 15 #[vN] w fun r w' => ∃ v, ∃ svs : List Sv, r = .returned v ∧ w'.ownsRow w.heap.size 70 3 v (mkP svs ns.length).length ((mkP svs ns.length).flatMap stc) ∧ (svs.length = ns.length ∧ ∀ (i : Nat) (h1 : i < ns.length) (h2 : i < svs.length), Sl IntR 1 w (svs[i]).val (ns[i]) ∧ ∃ b off c, vN = .slice (some ⟨b, off, none⟩) ns.length c ∧ w.cell? ⟨b, off + i, none⟩ = some (svs[i]).val) ∧ Below w.heap.size w w' := by
  have hN0 := hN
  obtain ⟨r, cap, rfl, hl, hm, he⟩ := hN
  unfold maxLen at hm
  obtain ⟨svs, hsl, hsv⟩ := list_of (α := Sv) ns.length (fun i s => ∃ (h : i < ns.length), ∃ b off, r = some ⟨b, off, none⟩ ∧ w.cell? ⟨b, off + i, none⟩ = some s.val ∧ Sl IntR 1 w s.val (ns[i])) (fun i hi => by
    obtain ⟨b, off, cs, hr, hs, hc, s, hx, hS⟩ := he i hi
    subst hx
    have := hc 0 _ rfl
    simp only [Nat.mul_one, Nat.add_zero] at this
    exact ⟨s, hi, b, off, hr, this, hS⟩)
  have HS := Lib.hid hsv
  clear hsv he
  go_enter Try.func15, Try.ntmps15
  go_wp2
  go_loopg [3, 4] ns.length (fun gg s3 s4 wr => ∃ kk : Nat, kk ≤ ns.length ∧ ns.length - kk ≤ gg ∧ s4 = .int .i64 kk ∧ Aside (Below w.heap.size w wr) ∧ Aside (wr.ownsRow w.heap.size 70 3 s3 (mkP svs kk).length ((mkP svs kk).flatMap stc)))
  case atStart => exact ⟨0, Nat.zero_le _, by omega, rfl, Below.refl _ _, World.ownsRow_nil _ _ _ _⟩
  case round =>
    obtain ⟨kk, hkk, hg, rfl, BW, OW⟩ := hrel
    by_cases hlt : kk < ns.length
    · obtain ⟨_, b, off, rfl, hc, _⟩ := HS.out kk (by omega)
      have hc := bget BW.out hc
      have hbb := World.block_lt_of_cell? wr _ hc
      simp at hbb
      have hgd : svs.getD kk sv0 = svs[kk]'(by omega) := by rw [List.getD_eq_getElem?_getD, List.getElem?_eq_getElem (by omega)]; rfl
      have HP := Lib.hid (show mkP svs (kk + 1) = mkP svs kk ++ [((kk : Int), svs[kk]'(by omega))] by rw [mkP_succ, hgd])
      generalize svs[kk]'(by omega) = s at *
      obtain ⟨sa, sn, sc⟩ := s
      simp only [Sv.val] at hc
      have hwb : Below wr.heap.size wr (wr.alloc (.cells #[.int .i64 kk, .int .i64 1, .slice sa sn sc] 70)) := (Below.refl _ _).alloc (Nat.le_refl _) _
      have O2 := Lib.hid (OW.out.alloc (.cells #[.int .i64 kk, .int .i64 1, .slice sa sn sc] 70))
      have B2 := Lib.hid (BW.out.trans (hwb.mono BW.out.size))
      have d5 := Lib.hid (show (wr.alloc (.cells #[.int .i64 kk, .int .i64 1, .slice sa sn sc] 70)).heap[wr.heap.size]? = some (.cells (([((kk : Int), (⟨sa, sn, sc⟩ : Sv))] : List (Int × Sv)).flatMap stc).toArray 70 (0, 0)) by simpa [stc, Sv.val] using heap_alloc_new wr _)
      have y5 := Lib.hid (show w.heap.size ≤ (wr.alloc (.cells #[.int .i64 kk, .int .i64 1, .slice sa sn sc] 70)).heap.size by have := BW.out.size; simp; omega)
      have y7 := Lib.hid (show (mkP svs kk).length + 1 ≤ 1000000 by rw [mkP_len]; omega)
      clear BW OW hwb hgd
      go_wp2_with (at_builtin; go_loud (refine wpList_append_rows stc stc_len stc_one Try.underlying22 stinfo rfl (by omega) (by omega) rfl (.tmp 11) (.tmp 18) rfl w.heap.size u3 (mkP svs kk) rfl O2.out wr.heap.size 1 1 [((kk : Int), (⟨sa, sn, sc⟩ : Sv))] rfl (by omega) rfl d5.out y7.out y5.out ?_); intro gm capm w4 ho4 hg4 hat4 hl4)
      have O3 := Lib.hid ho4
      have B3 := Lib.hid (B2.out.grown hg4 y5.out (fun k hk => (O2.out.lt k hk).1))
      go_roundg (ns.length - (kk + 1))
      case measure => omega
      case rel => exact ⟨kk + 1, by omega, by omega, by go_num, B3.out, by rw [HP.out]; exact O3.out⟩
    · have hke : kk = ns.length := by omega
      have OW2 := Lib.hid OW.out
      have BW2 := Lib.hid BW.out
      subst hke
      clear BW OW hg hkk hlt
      go_wp2_with fail
      go_ret
      exact ⟨_, svs, rfl, OW2.out, ⟨hsl, fun i h1 h2 => by obtain ⟨_, b, off, hr, hc, h⟩ := HS.out i h2; exact ⟨h, b, off, _, by rw [hr], hc⟩⟩, BW2.out⟩

theorem steps_read {ns : List (List Int)} {svs : List Sv} {w w' : World} {B : Nat} {v : Value} (ho : w'.ownsRow B 70 3 v (mkP svs ns.length).length ((mkP svs ns.length).flatMap stc))
    (hs : svs.length = ns.length ∧ ∀ (i : Nat) (h1 : i < ns.length) (h2 : i < svs.length), Sl IntR 1 w (svs[i]).val (ns[i])) (hb : Below w.heap.size w w') : Sl StR 3 w' v (mkSt ns) := by
  have h1 := sl_of_own stc stc_len ho
  refine h1.map (by simp [mkSt, mkP_len]) ?_
  intro i hi1 hi2 cs hcs
  rw [mkP_len] at hi1
  have hS := hs.2 i hi1 (by omega)
  subst hcs
  refine ⟨(svs[i]'(by omega)).val, ?_, ?_⟩
  · simp [mkP, stc, mkSt, show i < svs.length by omega]
  · have e : ((mkSt ns)[i]).needs = ns[i] := by simp [mkSt, hi1]
    rw [e]
    exact hS.below intR_mono hb

/-- The six cells of one event are written. -/
def put6 (W : World) (g o : Nat) (e : Ev) : World :=
  (((((W.setCell ⟨g, o, none⟩ (.int .i64 e.kind)).setCell ⟨g, o + 1, none⟩ (.int .i64 e.step)).setCell ⟨g, o + 2, none⟩ (.int .i64 e.op)).setCell ⟨g, o + 3, none⟩ (.string e.addr)).setCell ⟨g, o + 4, none⟩ (.string e.id)).setCell ⟨g, o + 5, none⟩ (.int .i64 e.err)
theorem put6_out {W : World} {g o : Nat} {e : Ev} {o' : Nat} (h : o' < o ∨ o + 6 ≤ o') : (put6 W g o e).cell? ⟨g, o', none⟩ = W.cell? ⟨g, o', none⟩ := by
  unfold put6
  rw [scell_ne (by omega), scell_ne (by omega), scell_ne (by omega), scell_ne (by omega), scell_ne (by omega), scell_ne (by omega)]
theorem put6_in {W : World} {g o : Nat} {e : Ev} (h : ∀ j, j < 6 → ∃ u, W.cell? ⟨g, o + j, none⟩ = some u) : ∀ (j : Nat) (u : Value), e.cells[j]? = some u → (put6 W g o e).cell? ⟨g, o + j, none⟩ = some u := by
  intro j u hj
  have hj6 : j < 6 := by have := (List.getElem?_eq_some_iff.1 hj).1; simpa [Ev.cells] using this
  obtain ⟨u0, c0⟩ := h 0 (by omega)
  obtain ⟨u1, c1⟩ := h 1 (by omega)
  obtain ⟨u2, c2⟩ := h 2 (by omega)
  obtain ⟨u3, c3⟩ := h 3 (by omega)
  obtain ⟨u4, c4⟩ := h 4 (by omega)
  obtain ⟨u5, c5⟩ := h 5 (by omega)
  simp only [Nat.add_zero] at c0
  unfold put6
  have hh : j = 0 ∨ j = 1 ∨ j = 2 ∨ j = 3 ∨ j = 4 ∨ j = 5 := by omega
  rcases hh with rfl | rfl | rfl | rfl | rfl | rfl
  · simp [Ev.cells] at hj; subst hj
    rw [scell_ne (by omega), scell_ne (by omega), scell_ne (by omega), scell_ne (by omega), scell_ne (by omega)]
    exact scell_same c0
  · simp [Ev.cells] at hj; subst hj
    rw [scell_ne (by omega), scell_ne (by omega), scell_ne (by omega), scell_ne (by omega)]
    exact scell_same (by rw [scell_ne (by omega)]; exact c1)
  · simp [Ev.cells] at hj; subst hj
    rw [scell_ne (by omega), scell_ne (by omega), scell_ne (by omega)]
    exact scell_same (by rw [scell_ne (by omega), scell_ne (by omega)]; exact c2)
  · simp [Ev.cells] at hj; subst hj
    rw [scell_ne (by omega), scell_ne (by omega)]
    exact scell_same (by rw [scell_ne (by omega), scell_ne (by omega), scell_ne (by omega)]; exact c3)
  · simp [Ev.cells] at hj; subst hj
    rw [scell_ne (by omega)]
    exact scell_same (by rw [scell_ne (by omega), scell_ne (by omega), scell_ne (by omega), scell_ne (by omega)]; exact c4)
  · simp [Ev.cells] at hj; subst hj
    exact scell_same (by rw [scell_ne (by omega), scell_ne (by omega), scell_ne (by omega), scell_ne (by omega), scell_ne (by omega)]; exact c5)
theorem put6_below {W w : World} {g o B : Nat} {e : Ev} (h : Below B w W) (hg : B ≤ g) : Below B w (put6 W g o e) := by
  unfold put6
  exact (((((h.setCell (p := ⟨g, o, none⟩) hg _).setCell (p := ⟨g, o + 1, none⟩) hg _).setCell (p := ⟨g, o + 2, none⟩) hg _).setCell (p := ⟨g, o + 3, none⟩) hg _).setCell (p := ⟨g, o + 4, none⟩) hg _).setCell (p := ⟨g, o + 5, none⟩) hg _
/-- One event of an array of events is written anew. -/
theorem put6_sl {W : World} {g n cap : Nat} {xs : List Ev} (h : Sl EvR 6 W (.slice (some ⟨g, 0, none⟩) n cap) xs) (k : Nat) (hk : k < xs.length) (e : Ev) : Sl EvR 6 (put6 W g (k * 6) e) (.slice (some ⟨g, 0, none⟩) n cap) (xs.set k e) := by
  have hc : ∀ j, j < 6 → ∃ u, W.cell? ⟨g, k * 6 + j, none⟩ = some u := fun j hj => by
    obtain ⟨_, _, hv, _, _, he⟩ := h
    simp at hv
    obtain ⟨rfl, rfl, rfl⟩ := hv
    obtain ⟨b, off, cs, hr, hl, hc, _⟩ := he k hk
    simp at hr
    obtain ⟨rfl, rfl⟩ := hr
    exact ⟨cs[j]'(by omega), by have := hc j _ (List.getElem?_eq_getElem (by omega)); simpa using this⟩
  have hin : ∀ (j : Nat) (u : Value), e.cells[j]? = some u → (put6 W g (k * 6) e).cell? ⟨g, 0 + k * 6 + j, none⟩ = some u := by
    intro j u hj
    rw [Nat.zero_add]
    exact put6_in hc j u hj
  have hout : ∀ o, (o < 0 + k * 6 ∨ 0 + k * 6 + 6 ≤ o) → (put6 W g (k * 6) e).cell? ⟨g, o, none⟩ = W.cell? ⟨g, o, none⟩ := by
    intro o ho
    rw [Nat.zero_add] at ho
    exact put6_out ho
  generalize put6 W g (k * 6) e = W' at *
  exact sl_set h k hk e e.cells rfl (fun _ _ h => h) (show EvR W' e.cells e from rfl) hin hout
theorem grown_set {W : World} {g o : Nat} {v : Value} : W.grownBy (W.setCell ⟨g, o, none⟩ v) (some g) :=
  ⟨rfl, rfl, rfl, by simp, fun k hk hne => by
    have hne : k ≠ g := fun h => hne (by rw [h])
    unfold World.setCell
    simp [Array.getElem?_modify, Ne.symm hne]⟩
theorem grown_put6 {W : World} {g o : Nat} {e : Ev} : W.grownBy (put6 W g o e) (some g) := by
  unfold put6
  exact ((((grown_set.trans grown_set).trans grown_set).trans grown_set).trans grown_set).trans grown_set
end Go.Proofs.Ytdmcceekaopghaa
