import Derived.Test.YtlhekldlfmdmiaaGi
/-
  The program's Reverse. Conditions: those ahead of each theorem.
-/
namespace Go.Proofs.Ytlhekldlfmdmiaa
open Go.RowKit Go.Sort Go.Lib Go.Maps
open Go.Lib (hid)
set_option linter.unusedVariables false
set_option linter.unusedSimpArgs false

theorem OwnS.setBelow {B : Nat} {w : World} {v : Value} {xs : List ByteArray} (h : OwnS B w v xs) {a : Addr} (ha : a.block < B) (u : Value) : OwnS B (w.setCell a u) v xs := ⟨ownsRow_setCell_below h.1 ha u, h.2⟩
theorem OwnE.setBelow {B : Nat} {w : World} {v : Value} {xs : List Ed} (h : OwnE B w v xs) {a : Addr} (ha : a.block < B) (u : Value) : OwnE B (w.setCell a u) v xs := ⟨ownsRow_setCell_below h.1 ha u, h.2⟩
def swapE (e : Ed) : Ed := (e.2, e.1)
theorem own_block {w w' : World} {row : Option Nat} {b : Nat} {o : Obj} (hg : w.grownBy w' row) (hr : ∀ g, row = some g → g ≠ b) (h : w.heap[b]? = some o) : w'.heap[b]? = some o :=
  (hg.block b (lt_of_block h) (fun e => hr b e.symm rfl)).trans h

theorem cellv {w : World} {b : Nat} {C : Array Value} {E : TypeId} {fr : Nat × Nat} (h : w.heap[b]? = some (.cells C E fr)) (o : Nat) {v : Value} (hv : C[o]? = some v) : w.cell? ⟨b, o, none⟩ = some v := (cell_of h o).trans hv
/-- What Reverse hands back. -/
def RevP (ns : List ByteArray) (es : List Ed) (w : World) (e : Ending) (w' : World) : Prop :=
  ∃ vn ve rs, e = .returned (.agg #[vn, ve]) ∧ Sl StrR 1 w' vn ns ∧ Sl EdR 2 w' ve rs ∧ rs.Perm (es.map swapE) ∧ (rs.Pairwise fun x y => lessE y x = false) ∧ Below w.heap.size w w'

set_option maxRecDepth 100000 in
set_option maxHeartbeats 1000000 in
theorem reverse_any (vn : Value) (ns : List ByteArray) (es : List Ed) (ve : Value) (w : World) (hN : Sl StrR 1 w vn ns) (hS : Sl EdR 2 w ve es) (hn : es.length ≤ 1000000) (hnn : ns.length ≤ 1000000) :
    Calls Try.prog 23 #[.agg #[vn, ve]] w (RevP ns es w) := by
  obtain ⟨r, c, rfl, _⟩ := id hS
  obtain ⟨rn, cn, rfl, _⟩ := id hN
  obtain ⟨_, hl, hm⟩ := sl_len hS
  obtain ⟨_, hl1, hm1⟩ := sl_len hN
  have HE := hid (fun (W : World) (hW : Below w.heap.size w W) => ed_at (hS.below edR_mono hW))
  have HNs := hid (fun (W : World) (hW : Below w.heap.size w W) => hN.below strR_mono hW)
  clear hS hN
  have hB0 : Below w.heap.size w ((w.alloc (.cells #[.slice rn ns.length cn, .slice r es.length c] 25)).alloc (.cells #[.slice none 0 0, .slice none 0 0] 25)) := ((Below.refl _ _).alloc (Nat.le_refl _) _).alloc (by simp) _
  have HB0 := hid hB0
  clear hB0
  have HC1 := hid (show ((w.alloc (.cells #[.slice rn ns.length cn, .slice r es.length c] 25)).alloc (.cells #[.slice none 0 0, .slice none 0 0] 25)).heap[w.heap.size]? = some (.cells #[.slice rn ns.length cn, .slice r es.length c] 25 (0, 0)) from ((Below.heap_alloc _ _ _ (by simp)).trans (MapKept.heap_alloc w _).1))
  have HC2 := hid (show ((w.alloc (.cells #[.slice rn ns.length cn, .slice r es.length c] 25)).alloc (.cells #[.slice none 0 0, .slice none 0 0] 25)).heap[w.heap.size + 1]? = some (.cells #[.slice none 0 0, .slice none 0 0] 25 (0, 0)) from (congrArg _ (by simp)).trans (MapKept.heap_alloc _ _).1)
  go_enter Try.func23, Try.ntmps23
  go_wp2_with fail
  refine (clone_s ns _ _ (HNs.out _ HB0.out) hnn).mono ?_
  rintro e w1 ⟨vn2, rfl, ho1, hb1⟩
  have hsz : ((w.alloc (.cells #[.slice rn ns.length cn, .slice r es.length c] 25)).alloc (.cells #[.slice none 0 0, .slice none 0 0] 25)).heap.size = w.heap.size + 2 := by simp
  have hz1 : w.heap.size + 2 ≤ w1.heap.size := by have := hb1.size; rw [hsz] at this; exact this
  rw [hsz] at ho1 hb1
  have D1 := hid ((hb1.block w.heap.size (by omega)).trans HC1.out)
  have D2 := hid ((hb1.block (w.heap.size + 1) (by omega)).trans HC2.out)
  have O1 := hid ho1
  have B1 := hid (HB0.out.trans (hb1.mono (by omega)))
  obtain ⟨rv, cv, rfl, hcv1, hcv2⟩ := ho1.form
  clear HC1 HC2 ho1 hb1 hsz HB0
  have q1 := cellv D1.out 1 rfl
  have HW := hid (show Below w1.heap.size w1 (w1.alloc (.cells #[.slice rv ns.length cv, .slice none 0 0] 25)) from (Below.refl _ _).alloc (Nat.le_refl _) _)
  have q2 := bget HW.out q1
  have HWc := hid (show (w1.alloc (.cells #[.slice rv ns.length cv, .slice none 0 0] 25)).heap[w1.heap.size]? = some (.cells #[.slice rv ns.length cv, .slice none 0 0] 25 (0, 0)) from (MapKept.heap_alloc w1 _).1)
  go_wp2
  go_loopw [13] (fun i wr => ∃ (k : Nat) (vo : Value), k ≤ es.length ∧ i = .int .i64 k ∧ Hid (Below w1.heap.size w1 wr) ∧ w1.heap.size + 1 ≤ wr.heap.size ∧ Hid (wr.heap[w1.heap.size]? = some (.cells #[.slice rv ns.length cv, vo] 25 (0, 0))) ∧ Hid (OwnE (w1.heap.size + 1) wr vo ((es.take k).map swapE))) (fun i _ => es.length - (intOf i).toNat)
  case atStart => exact ⟨0, _, by omega, rfl, HW, by simp, HWc, ownE_nil _ _⟩
  case round =>
    obtain ⟨k, vo, hk, rfl, HB, hz, HC, HO⟩ := hrel
    have hbw := B1.out.trans (HB.out.mono (by omega))
    obtain ⟨r2, c2, rfl, hc21, hc22⟩ := HO.out.form
    by_cases hlt : k < es.length
    · obtain ⟨b, off, rfl, hb, g0, g1, hs0, hs1⟩ := HE.out _ hbw k hlt
      have HT := hid (show (es.take (k + 1)).map swapE = (es.take k).map swapE ++ [swapE es[k]] by rw [List.take_succ_eq_append_getElem hlt, List.map_append]; rfl)
      have HLn := hid (show ((es.take k).map swapE).length + 1 ≤ 1000000 by simp; omega)
      clear HE hbw
      generalize es[k] = y at *
      obtain ⟨y1, y2⟩ := y
      have HS := hid (show y2.size ≤ maxLen ∧ y1.size ≤ maxLen from ⟨hs1, hs0⟩)
      clear hs0 hs1
      have c0 : (wr.alloc (.cells #[.string y1, .string y2] 43)).cell? ⟨wr.heap.size, 0, none⟩ = some (.string y1) := cell_at rfl rfl
      have c1 : (wr.alloc (.cells #[.string y1, .string y2] 43)).cell? ⟨wr.heap.size, 1, none⟩ = some (.string y2) := cell_at rfl rfl
      have HCx := hid (show (wr.alloc (.cells #[.string y1, .string y2] 43)).heap[w1.heap.size]? = some (.cells #[.slice rv ns.length cv, .slice r2 ((es.take k).map swapE).length c2] 25 (0, 0)) from (Below.heap_alloc _ _ _ (by omega)).trans HC.out)
      have c2x := cellv HCx.out 1 rfl
      have HOx := hid ((HO.out.below ((Below.refl _ _).alloc (Nat.le_refl _) (.cells #[.string y1, .string y2] 43))).below ((Below.refl _ _).alloc (Nat.le_refl _) (.cells #[.string y2, .string y1] 43)))
      have HCy := hid (show ((wr.alloc (.cells #[.string y1, .string y2] 43)).alloc (.cells #[.string y2, .string y1] 43)).heap[w1.heap.size]? = some (.cells #[.slice rv ns.length cv, .slice r2 ((es.take k).map swapE).length c2] 25 (0, 0)) from (Below.heap_alloc _ _ _ (by simp; omega)).trans HCx.out)
      have HBy := hid (show Below w1.heap.size w1 ((wr.alloc (.cells #[.string y1, .string y2] 43)).alloc (.cells #[.string y2, .string y1] 43)) from (HB.out.alloc HB.out.size _).alloc (by simp; omega) _)
      have HL := hid HO.out.lt
      generalize hF0 : (es.take k).map swapE = F0 at *
      clear hF0
      go_wp2_with (at_builtin
                   refine app_ed rfl _ _ rfl (w1.heap.size + 1) _ F0 rfl HOx.out (wr.heap.size + 1) 1 (y2, y1) rfl (fr := (0, 0)) (by exact (congrArg _ (by simp)).trans (MapKept.heap_alloc _ _).1) HS.out HLn.out (by simp; omega) (wr.heap.size + 1 + 1) (by simp) ?_
                   intro g cap w3 hm3
                   have hne : ∀ g, (Value.slice r2 F0.length c2).ownBlock = some g → g ≠ w1.heap.size := fun g hg => by have := HL.out g hg; omega
                   have HC3 := hid (own_block hm3.2.1 hne HCy.out)
                   have z1 := cellv HC3.out 1 rfl
                   have f1 := frozen_of HC3.out 1
                   have HM3 := hid hm3
                   clear hm3 hne)
      go_round
      case rel =>
        obtain ⟨m1, m2, m3, m4⟩ := HM3.out
        rw [List.length_append, List.length_singleton] at m1
        refine ⟨k + 1, _, by omega, by go_num, (Below.grown HBy.out m2 HBy.out.size (fun g hg => by have := (HL.out g hg).1; omega)).setCell (Nat.le_refl _) _, ?_, heap_setCell_at HC3.out, ?_⟩
        · have := m2.size; simp at this ⊢; omega
        · rw [HT.out]
          exact m1.setBelow (by simp) _
      case measure => simp [intOf]; omega
    · have hke : k = es.length := by omega
      have HK := hid hke
      have HLn := hid (show ((es.take k).map swapE).length ≤ 1000000 by simp; omega)
      have HL := hid HO.out.lt
      have D2r := hid ((HB.out.block (w.heap.size + 1) (by omega)).trans D2.out)
      have c2x := cellv HC.out 1 rfl
      have HOn := hid (O1.out.below HB.out)
      have HBw := hid hbw
      clear hke HE hbw
      generalize hF0 : (es.take k).map swapE = F0 at *
      have HF0 := hid hF0
      clear hF0
      go_wp2_with (go_at_call 48
                   refine (sort_ed (w1.heap.size + 1) _ F0 _ HO.out HLn.out).mono ?_
                   rintro e w4 ⟨rfl, ds, h1, h2, h3, h4⟩
                   have hne : ∀ j, j < w1.heap.size + 1 → ∀ g, (Value.slice r2 F0.length c2).ownBlock = some g → g ≠ j := fun j hj g hg => by have := HL.out g hg; omega
                   have E1 := hid (own_block h4 (hne _ (by omega)) HC.out)
                   have E2 := hid (own_block h4 (hne _ (by omega)) D2r.out)
                   have z0 := cellv E1.out 0 rfl
                   have z1 := cellv E1.out 1 rfl
                   have t0 := cellv E2.out 0 rfl
                   have t1 := cellv E2.out 1 rfl
                   have f0 := frozen_of E2.out 0
                   have f1 := frozen_of E2.out 1
                   have H1 := hid h1
                   have H2 := hid h2
                   have H3 := hid h3
                   have H4 := hid h4
                   clear h1 h2 h3 h4 hne)
      have hk2 := HK.out
      subst hk2
      have hf := HF0.out
      rw [List.take_length] at hf
      have hB4 := (Below.grown HBw.out H4.out HBw.out.size (fun g hg => by have := (HL.out g hg).1; omega))
      have hO4 := HOn.out.kept H4.out (fun g hg e => by have h1 := (HL.out g e).1; have h2 := (O1.out.lt g hg).2; omega)
      refine bodyPost_ret (v := .agg #[.slice rv ns.length cv, .slice r2 F0.length c2]) (by simp [results, Try.results23, go_sem, t0, t1]) rfl ⟨_, _, ds, rfl, ((hO4.setBelow (by simp) _).setBelow (by simp) _).sl, ?_, by rw [hf]; exact H1.out, H2.out, (hB4.setCell (by simp) _).setCell (by simp) _⟩
      have := ((H3.out.setBelow (a := ⟨w.heap.size + 1, 0, none⟩) (by simp; omega) (.slice rv ns.length cv)).setBelow (a := ⟨w.heap.size + 1, 1, none⟩) (by simp; omega) (.slice r2 F0.length c2)).sl
      exact this
end Go.Proofs.Ytlhekldlfmdmiaa
