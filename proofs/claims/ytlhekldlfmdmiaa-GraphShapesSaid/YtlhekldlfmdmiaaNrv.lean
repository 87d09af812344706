import Derived.Test.YtlhekldlfmdmiaaNof
import Derived.Test.YtlhekldlfmdmiaaPs
/-
  The reference's Reverse. Conditions: those ahead of each theorem.
-/
namespace Go.Proofs.Ytlhekldlfmdmiaa
open Go.RowKit Go.Sort Go.Lib Go.Maps
open Go.Lib (hid)
attribute [local go_sem ↓] Go.wp_at_zero Go.wp_at_succ
set_option linter.unusedVariables false
set_option linter.unusedSimpArgs false

/-- A graph under way: its nodes' value stays, its edges grow. -/
structure RBox (w wr : World) (g : Nat) (vn : Option Addr × Nat × Nat) (E : List Ed) : Prop where
  bel : Below w.heap.size w wr
  lo : w.heap.size ≤ g
  ex : ∃ b m d, wr.heap[g]? = some (.cells #[.slice vn.1 vn.2.1 vn.2.2, .slice b m d] 25 (0, 0)) ∧ NE wr (.slice b m d) E
theorem RBox.below {w wr w' : World} {g : Nat} {vn : Option Addr × Nat × Nat} {E : List Ed} (h : RBox w wr g vn E) (hb : Below wr.heap.size wr w') : RBox w w' g vn E := by
  obtain ⟨b, m, d, h1, h3⟩ := h.ex
  exact ⟨h.bel.trans (hb.mono h.bel.size), h.lo, b, m, d, (hb.block g (lt_of_block h1)).trans h1, h3.below hb⟩
theorem RBox.setE {w wr : World} {g : Nat} {vn : Option Addr × Nat × Nat} {E E' : List Ed} {v : Value} (h : RBox w wr g vn E) (hv : NE wr v E') : RBox w (wr.setCell ⟨g, 1, none⟩ v) g vn E' := by
  obtain ⟨b, m, d, h1, h3⟩ := h.ex
  obtain ⟨a', n', c', rfl⟩ := hv.slice
  exact ⟨h.bel.setCell h.lo _, h.lo, a', n', c', heap_setCell_at h1, hv.set h1⟩
theorem swap_take {es : List Ed} {k : Nat} (hk : k < es.length) : canE ((es.take (k + 1)).map swapE) = insE (swapE es[k]) (canE ((es.take k).map swapE)) := by
  rw [List.take_succ_eq_append_getElem hk, List.map_append]
  unfold canE
  rw [List.foldl_append]; rfl
/-- Both Reverses are one. -/
theorem rev_can {es rs : List Ed} (h : AscE es) (hp : rs.Perm (es.map swapE)) (hs : rs.Pairwise fun x y => lessE y x = false) : rs = canE (es.map swapE) :=
  ascE_eq (rev_asc h hp hs) (canE_asc _) fun x => by rw [mem_canE, hp.mem_iff]
def RrvP (ns : List ByteArray) (es : List Ed) (w : World) (e : Ending) (w' : World) : Prop :=
  ∃ vn ve, e = .returned (.agg #[vn, ve]) ∧ Sl StrR 1 w' vn ns ∧ Sl EdR 2 w' ve (canE (es.map swapE)) ∧ Below w.heap.size w w'

set_option maxRecDepth 100000 in
set_option maxHeartbeats 4000000 in
theorem rreverse_any (vn ve : Value) (ns : List ByteArray) (es : List Ed) (w : World) (hN : Sl StrR 1 w vn ns) (hS : Sl EdR 2 w ve es) (hn : es.length ≤ 10000) :
    Calls Try.prog 24 #[.agg #[vn, ve]] w (RrvP ns es w) := by
  obtain ⟨r, c, rfl, _⟩ := id hS
  obtain ⟨rn, cn, rfl, _⟩ := id hN
  obtain ⟨_, hl, hm⟩ := sl_len hS
  have HE := hid (fun (W : World) (hW : Below w.heap.size w W) => ed_at (hS.below edR_mono hW))
  have HNs := hid (fun (W : World) (hW : Below w.heap.size w W) => hN.below strR_mono hW)
  clear hS hN
  have hB0 : Below w.heap.size w (((w.alloc (.cells #[.slice rn ns.length cn, .slice r es.length c] 25)).alloc (.cells #[.slice none 0 0, .slice none 0 0] 25)).alloc (.cells #[.slice rn ns.length cn, .slice none 0 0] 25)) := (((Below.refl _ _).alloc (Nat.le_refl _) _).alloc (by simp) _).alloc (by simp; omega) _
  have HC0 := hid (show (((w.alloc (.cells #[.slice rn ns.length cn, .slice r es.length c] 25)).alloc (.cells #[.slice none 0 0, .slice none 0 0] 25)).alloc (.cells #[.slice rn ns.length cn, .slice none 0 0] 25)).heap[w.heap.size]? = some (.cells #[.slice rn ns.length cn, .slice r es.length c] 25 (0, 0)) from (Below.heap_alloc _ _ _ (by simp; omega)).trans ((Below.heap_alloc _ _ _ (by simp)).trans (MapKept.heap_alloc w _).1))
  have HQ0 := hid (show (((w.alloc (.cells #[.slice rn ns.length cn, .slice r es.length c] 25)).alloc (.cells #[.slice none 0 0, .slice none 0 0] 25)).alloc (.cells #[.slice rn ns.length cn, .slice none 0 0] 25)).heap[w.heap.size + 1]? = some (.cells #[.slice none 0 0, .slice none 0 0] 25 (0, 0)) from (Below.heap_alloc _ _ _ (by simp)).trans ((congrArg _ (by simp)).trans (MapKept.heap_alloc _ _).1))
  have HG0 := hid (show RBox w (((w.alloc (.cells #[.slice rn ns.length cn, .slice r es.length c] 25)).alloc (.cells #[.slice none 0 0, .slice none 0 0] 25)).alloc (.cells #[.slice rn ns.length cn, .slice none 0 0] 25)) (w.heap.size + 2) (rn, ns.length, cn) [] from ⟨hB0, by omega, none, 0, 0, (congrArg _ (by simp)).trans (MapKept.heap_alloc _ _).1, neNil _⟩)
  clear hB0
  go_enter Try.func24, Try.ntmps24
  go_wp2
  generalize (((w.alloc (.cells #[.slice rn ns.length cn, .slice r es.length c] 25)).alloc (.cells #[.slice none 0 0, .slice none 0 0] 25)).alloc (.cells #[.slice rn ns.length cn, .slice none 0 0] 25)) = W0 at *
  obtain ⟨g, hg⟩ : ∃ g, g = w.heap.size + 2 := ⟨_, rfl⟩
  rw [← hg] at HG0 ⊢
  have HGne := hid (show w.heap.size ≠ g ∧ w.heap.size + 1 ≠ g by omega)
  clear hg
  go_loopw [4] (fun i wr => ∃ k : Nat, k ≤ es.length ∧ i = .int .i64 k ∧ Hid (RBox w wr g (rn, ns.length, cn) (canE ((es.take k).map swapE))) ∧ Hid (wr.heap[w.heap.size]? = some (.cells #[.slice rn ns.length cn, .slice r es.length c] 25 (0, 0))) ∧ Hid (wr.heap[w.heap.size + 1]? = some (.cells #[.slice none 0 0, .slice none 0 0] 25 (0, 0)))) (fun i _ => es.length - (RowKit.intOf i).toNat)
  case atStart => exact ⟨0, by omega, rfl, HG0, HC0, HQ0⟩
  case round =>
    clear HG0 HC0 HQ0
    obtain ⟨k, hk, rfl, HG, HC, HQ⟩ := hrel
    have HBW := hid HG.out.bel
    obtain ⟨b1, m1, d1, h1, h3⟩ := HG.out.ex
    have z1 := cellv HC.out 1 rfl
    by_cases hlt : k < es.length
    · obtain ⟨b, off, rfl, hb, g0, g1, hz0, hz1⟩ := HE.out _ HBW.out k hlt
      have HT := hid (swap_take hlt)
      have HLn := hid (show (canE ((es.take k).map swapE)).length ≤ 100000 by have := canE_len ((es.take k).map swapE); rw [List.length_map, List.length_take] at this; omega)
      generalize canE ((es.take k).map swapE) = L at *
      have k2 : (0 : Int) ≤ (k : Int) := by omega
      have k3 : (k : Int) < (es.length : Int) := by omega
      generalize es[k] = z at *
      obtain ⟨y1, y2⟩ := z
      simp only at g0 g1 hz0 hz1 HT
      have HZ := hid (And.intro hz0 hz1)
      have y0 := cellv h1 1 rfl
      have yf0 := frozen_of h1 1
      have HE1 := hid h3
      have CE := hid (fun (W : World) (hW : Below wr.heap.size wr W) => edge_any _ L y2 y1 W (HE1.out.below hW) HLn.out ⟨HZ.out.2, HZ.out.1⟩)
      clear hz0 hz1 h3
      have hB : Below wr.heap.size wr wr.drew := (Below.refl _ _).drew
      go_wp2
      go_region_law (first
        | (go_simp
           go_at_call 50
           refine (CE.out _ hB).mono ?_
           rintro e w3 ⟨v3, rfl, hns3, hb3⟩
           obtain ⟨a3, n3, c3, rfl⟩ := hns3.slice
           have hb3' := hB.trans (hb3.mono hB.size)
           have hf3 := (hb3'.block g (lt_of_block h1)).trans h1
           have yf3 := frozen_of hf3 1
           have y3 := cellv hf3 1 rfl))
      all_goals
        simp only [swapE] at HT
        have HG3 := hid ((HG.out.below hb3').setE hns3)
        have HC3 := hid ((block_set (o := 1) (u := .slice a3 n3 c3) HGne.out.1).trans ((hb3'.block _ (lt_of_block HC.out)).trans HC.out))
        have HQ3 := hid ((block_set (o := 1) (u := .slice a3 n3 c3) HGne.out.2).trans ((hb3'.block _ (lt_of_block HQ.out)).trans HQ.out))
        rw [← HT.out] at HG3
        generalize (w3.setCell ⟨g, 1, none⟩ (.slice a3 n3 c3)) = W3 at *
        clear hns3 hf3 yf3 y3 hB hb3 hb3' g0 g1 y0 yf0 z1 h1
        go_wp2
        go_roundw
        case rel => exact ⟨k + 1, by omega, by go_num, HG3, HC3, HQ3⟩
        case measure => simp [RowKit.intOf]; omega
    · obtain rfl : k = es.length := by omega
      rw [List.take_length] at h3
      have y0 := cellv h1 0 rfl
      have y1 := cellv h1 1 rfl
      have u0 := cellv HQ.out 0 rfl
      have u1 := cellv HQ.out 1 rfl
      have uf0 := frozen_of HQ.out 0
      have uf1 := frozen_of HQ.out 1
      have K0 := hid (heap_setCell_at (o := 0) (v := .slice rn ns.length cn) HQ.out)
      have E5 := hid ((h3.set (o := 0) (u := .slice rn ns.length cn) HQ.out).set (o := 1) (u := .slice b1 m1 d1) K0.out)
      have B5 := hid ((HBW.out.setCell (p := ⟨w.heap.size + 1, 0, none⟩) (by simp) (.slice rn ns.length cn)).setCell (p := ⟨w.heap.size + 1, 1, none⟩) (by simp) (.slice b1 m1 d1))
      have N5 := hid (HNs.out _ B5.out)
      clear h1 h3
      go_wp2
      exact bodyPost_ret (v := .agg #[.slice rn ns.length cn, .slice b1 m1 d1]) (by simp [results, Try.results24, go_sem, u0, u1]) rfl ⟨_, _, rfl, N5.out, E5.out.1, B5.out⟩
end Go.Proofs.Ytlhekldlfmdmiaa
