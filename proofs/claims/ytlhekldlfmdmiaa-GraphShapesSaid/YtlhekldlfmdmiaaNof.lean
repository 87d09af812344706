import Derived.Test.YtlhekldlfmdmiaaNcl
import Derived.Deep.RegionLaw

/-
  The reference's Of. Conditions: those ahead of each theorem.
-/
namespace Go.Proofs.Ytlhekldlfmdmiaa
open Go.RowKit Go.Sort Go.Lib Go.Maps
open Go.Lib (hid)
set_option linter.unusedVariables false
set_option linter.unusedSimpArgs false

/-- A box of a graph that the call made. -/
structure GBox (w wr : World) (g : Nat) (N : List ByteArray) (E : List Ed) : Prop where
  bel : Below w.heap.size w wr
  lo : w.heap.size ≤ g
  ex : ∃ a n c b m d, wr.heap[g]? = some (.cells #[.slice a n c, .slice b m d] 25 (0, 0)) ∧ NS wr (.slice a n c) N ∧ NE wr (.slice b m d) E
theorem GBox.below {w wr w' : World} {g : Nat} {N : List ByteArray} {E : List Ed} (h : GBox w wr g N E) (hb : Below wr.heap.size wr w') : GBox w w' g N E := by
  obtain ⟨a, n, c, b, m, d, h1, h2, h3⟩ := h.ex
  exact ⟨h.bel.trans (hb.mono h.bel.size), h.lo, a, n, c, b, m, d, (hb.block g (lt_of_block h1)).trans h1, h2.below hb, h3.below hb⟩
theorem NS.slice {w : World} {v : Value} {l : List ByteArray} (h : NS w v l) : ∃ a n c, v = .slice a n c := by
  rcases h.2 with rfl | ⟨b, o, c, rfl⟩ <;> exact ⟨_, _, _, rfl⟩
theorem NE.slice {w : World} {v : Value} {l : List Ed} (h : NE w v l) : ∃ a n c, v = .slice a n c := by
  rcases h.2 with rfl | ⟨b, o, c, rfl⟩ <;> exact ⟨_, _, _, rfl⟩
theorem NS.set {w : World} {v u : Value} {l : List ByteArray} {g o : Nat} {a b : Option Addr} {n c m d : Nat} (hg : w.heap[g]? = some (.cells #[.slice a n c, .slice b m d] 25 (0, 0))) (h : NS w v l) : NS (w.setCell ⟨g, o, none⟩ u) v l :=
  ⟨slS_keep hg no_str (fun k hk => Below.heap_setCell _ _ _ _ hk) h.1, h.2⟩
theorem NE.set {w : World} {v u : Value} {l : List Ed} {g o : Nat} {a b : Option Addr} {n c m d : Nat} (hg : w.heap[g]? = some (.cells #[.slice a n c, .slice b m d] 25 (0, 0))) (h : NE w v l) : NE (w.setCell ⟨g, o, none⟩ u) v l :=
  ⟨slE_keep hg no_str (fun k hk => Below.heap_setCell _ _ _ _ hk) h.1, h.2⟩
theorem GBox.setN {w wr : World} {g : Nat} {N N' : List ByteArray} {E : List Ed} {v : Value} (h : GBox w wr g N E) (hv : NS wr v N') : GBox w (wr.setCell ⟨g, 0, none⟩ v) g N' E := by
  obtain ⟨a, n, c, b, m, d, h1, h2, h3⟩ := h.ex
  obtain ⟨a', n', c', rfl⟩ := hv.slice
  exact ⟨h.bel.setCell h.lo _, h.lo, a', n', c', b, m, d, heap_setCell_at h1, hv.set h1, h3.set h1⟩
theorem GBox.setE {w wr : World} {g : Nat} {N : List ByteArray} {E E' : List Ed} {v : Value} (h : GBox w wr g N E) (hv : NE wr v E') : GBox w (wr.setCell ⟨g, 1, none⟩ v) g N E' := by
  obtain ⟨a, n, c, b, m, d, h1, h2, h3⟩ := h.ex
  obtain ⟨a', n', c', rfl⟩ := hv.slice
  exact ⟨h.bel.setCell h.lo _, h.lo, a, n, c, a', n', c', heap_setCell_at h1, h2.set h1, hv.set h1⟩
theorem block_set {w : World} {g b o : Nat} {u : Value} (h : b ≠ g) : (w.setCell ⟨g, o, none⟩ u).heap[b]? = w.heap[b]? := Below.heap_setCell _ _ _ _ h
theorem canB_take {l : List ByteArray} {k : Nat} (hk : k < l.length) : canB (l.take (k + 1)) = insB l[k] (canB (l.take k)) := by
  unfold canB
  rw [List.take_succ_eq_append_getElem hk, List.foldl_append]; rfl
theorem canE_take {l : List Ed} {k : Nat} (hk : k < l.length) : canE (l.take (k + 1)) = insE l[k] (canE (l.take k)) := by
  unfold canE
  rw [List.take_succ_eq_append_getElem hk, List.foldl_append]; rfl
theorem ofG_small {nodes : List ByteArray} {l : List Ed} (h : nodes.length ≤ 2048) : ofG nodes l = if endsIn (canB nodes) l = true then (canB nodes, canE l, 0) else ([], [], 9) := by
  unfold ofG
  rw [if_neg (by have := canB_len nodes; omega)]

set_option maxRecDepth 100000 in
set_option maxHeartbeats 4000000 in
theorem rof_any (vn ve : Value) (ns : List ByteArray) (es : List Ed) (w : World) (hN : Sl StrR 1 w vn ns) (hS : Sl EdR 2 w ve es) (hnn : ns.length ≤ 2000) (hn : es.length ≤ 10000) :
    Calls Try.prog 29 #[vn, ve] w (GrP (ofG ns es) w) := by
  obtain ⟨r, c, rfl, _⟩ := id hS
  obtain ⟨rn, cn, rfl, _⟩ := id hN
  have HN := hid (fun (W : World) (hW : Below w.heap.size w W) => str_at (hN.below strR_mono hW))
  have HE := hid (fun (W : World) (hW : Below w.heap.size w W) => ed_at (hS.below edR_mono hW))
  have HR0 := hid (show ((w.alloc (.cells #[.slice none 0 0, .slice none 0 0] 25)).alloc (.cells #[.slice none 0 0, .slice none 0 0] 25)).heap[w.heap.size]? = some (.cells #[.slice none 0 0, .slice none 0 0] 25 (0, 0)) from (Below.heap_alloc _ _ _ (by simp)).trans (MapKept.heap_alloc w _).1)
  have HG0 := hid (show GBox w ((w.alloc (.cells #[.slice none 0 0, .slice none 0 0] 25)).alloc (.cells #[.slice none 0 0, .slice none 0 0] 25)) (w.heap.size + 1) [] [] from
    ⟨((Below.refl _ _).alloc (Nat.le_refl _) _).alloc (by simp) _, by omega, _, _, _, _, _, _, (congrArg _ (by simp)).trans (MapKept.heap_alloc _ _).1, nsNil _, neNil _⟩)
  clear hN hS
  go_enter Try.func29, Try.ntmps29
  go_wp2
  generalize ((w.alloc (.cells #[.slice none 0 0, .slice none 0 0] 25)).alloc (.cells #[.slice none 0 0, .slice none 0 0] 25)) = W0 at *
  obtain ⟨g, hg⟩ : ∃ g, g = w.heap.size + 1 := ⟨_, rfl⟩
  rw [← hg] at HG0 ⊢
  have HGne := hid (show w.heap.size ≠ g by omega)
  clear hg
  go_loopw [7] (fun i wr => ∃ k : Nat, k ≤ ns.length ∧ i = .int .i64 k ∧ Hid (GBox w wr g (canB (ns.take k)) []) ∧ Hid (wr.heap[w.heap.size]? = some (.cells #[.slice none 0 0, .slice none 0 0] 25 (0, 0)))) (fun i _ => ns.length - (RowKit.intOf i).toNat)
  case atStart => exact ⟨0, by omega, rfl, HG0, HR0⟩
  case round =>
    obtain ⟨k, hk, rfl, HG, HR⟩ := hrel
    have HBW := hid HG.out.bel
    by_cases hlt : k < ns.length
    · obtain ⟨b, off, rfl, hb, g0, hz0⟩ := HN.out _ HBW.out k hlt
      have HT := hid (canB_take hlt)
      have hlen := Nat.le_trans (canB_len (ns.take k)) (show (ns.take k).length ≤ ns.length by simp; omega)
      have HL2 := hid (show (canB (ns.take (k + 1))).length ≤ 2000 by have := canB_len (ns.take (k + 1)); simp at this; omega)
      generalize canB (ns.take k) = L at *
      have HLn := hid (show L.length ≤ 100000 by omega)
      generalize ns[k] = y at *
      have HZ := hid hz0
      obtain ⟨a1, n1, c1, b1, m1, d1, h1, h2, h3⟩ := HG.out.ex
      have y0 := cellv h1 0 rfl
      have yf0 := frozen_of h1 0
      have HN1 := hid h2
      clear hz0 h2 h3 hlen
      have k2 : (0 : Int) ≤ (k : Int) := by omega
      have k3 : (k : Int) < (ns.length : Int) := by omega
      go_wp2
      go_region_law (first
        | (go_simp
           go_at_call 51
           refine (node_any _ L y _ (HN1.out.below (Below.refl wr.heap.size wr).drew) HLn.out HZ.out).mono ?_
           rintro e w3 ⟨v3, rfl, hns3, hb3, _⟩
           obtain ⟨a3, n3, c3, rfl⟩ := hns3.slice
           have hf3 := (hb3.block g (lt_of_block h1)).trans h1
           have yf3 := frozen_of hf3 0
           have y3 := cellv hf3 0 rfl))
      all_goals
        have hbX : Below wr.heap.size wr w3 := ((Below.refl _ _).drew).trans hb3
        have HG3 := hid ((HG.out.below hbX).setN hns3)
        have HR3 := hid ((block_set (o := 0) (u := .slice a3 n3 c3) HGne.out).trans ((hbX.block _ (lt_of_block HR.out)).trans HR.out))
        rw [← HT.out] at HG3
        generalize (w3.setCell ⟨g, 0, none⟩ (.slice a3 n3 c3)) = W3 at *
        clear hb3 hns3 hf3 yf3 y3 hbX g0 y0 yf0 h1 HG HR HBW HN1 HT HZ
        obtain ⟨a4, n4, c4, b4, m4, d4, h4, h5, h6⟩ := HG3.out.ex
        obtain ⟨hn4, _, _⟩ := sl_len h5.1
        have hl2 := HL2.out
        have y0 := cellv h4 0 rfl
        have hn5 : ¬ (2048 : Int) < (n4 : Int) := by omega
        clear h4 h5 h6 hn4 HL2
        go_wp2
        go_roundw
        case rel => exact ⟨k + 1, by omega, by go_num, HG3, HR3⟩
        case measure => simp [RowKit.intOf]; omega
    · obtain rfl : k = ns.length := by omega
      have HG2 := HG
      rw [List.take_length] at HG2
      have HNl := hid (canB_len ns)
      generalize hNN : canB ns = N at *
      have HNN := hid hNN
      have HOF := hid (ofG_small (nodes := ns) (l := es) (by omega))
      rw [hNN] at HOF
      obtain ⟨wa, rfl⟩ : ∃ wa : World, wa = wr := ⟨_, rfl⟩
      clear HG hNN
      go_wp2
      go_loopw [8] (fun i wr => ∃ k : Nat, k ≤ es.length ∧ i = .int .i64 k ∧ Hid (GBox w wr g N (canE (es.take k))) ∧ Hid (wr.heap[w.heap.size]? = some (.cells #[.slice none 0 0, .slice none 0 0] 25 (0, 0))) ∧ Hid (endsIn N (es.take k) = true)) (fun i _ => es.length - (RowKit.intOf i).toNat)
      case atStart => exact ⟨0, by omega, rfl, HG2, HR, hid rfl⟩
      case round =>
        clear HG2 HR HBW
        obtain ⟨k, hk, rfl, HG, HR, HEn⟩ := hrel
        have HBW := hid HG.out.bel
        obtain ⟨a1, n1, c1, b1, m1, d1, h1, h2, h3⟩ := HG.out.ex
        have y0 := cellv h1 0 rfl
        have y1 := cellv h1 1 rfl
        have u0 := cellv HR.out 0 rfl
        have u1 := cellv HR.out 1 rfl
        have uf0 := frozen_of HR.out 0
        have uf1 := frozen_of HR.out 1
        have HN1 := hid h2
        have HE1 := hid h3
        by_cases hlt : k < es.length
        · obtain ⟨b, off, rfl, hb, g0, g1, hz0, hz1⟩ := HE.out _ HBW.out k hlt
          have HT := hid (endsIn_take (ns := N) hlt)
          have HNo := hid (endsIn_no (ns := N) hlt)
          have HTE := hid (canE_take hlt)
          have HLn := hid (show (canE (es.take k)).length ≤ 100000 by have := canE_len (es.take k); simp at this; omega)
          generalize canE (es.take k) = L at *
          have k2 : (0 : Int) ≤ (k : Int) := by omega
          have k3 : (k : Int) < (es.length : Int) := by omega
          generalize es[k] = z at *
          obtain ⟨z1, z2⟩ := z
          simp only at g0 g1 hz0 hz1 HT HNo
          have HZ := hid (And.intro hz0 hz1)
          have CH1 := hid (fun (n : Nat) => (has_any N z1 _ (wr.drewN n) (HN1.out.1.below strR_mono ((Below.refl wr.heap.size wr).drewN n))).mono fun e w' ⟨h1, h2⟩ => (show e = Ending.returned (.bool (hasS z1 N)) ∧ w' = wr.drewN n from ⟨h1, h2.symm⟩))
          have CH2 := hid (fun (n : Nat) => (has_any N z2 _ (wr.drewN n) (HN1.out.1.below strR_mono ((Below.refl wr.heap.size wr).drewN n))).mono fun e w' ⟨h1, h2⟩ => (show e = Ending.returned (.bool (hasS z2 N)) ∧ w' = wr.drewN n from ⟨h1, h2.symm⟩))
          clear hz0 hz1 h2 h3
          generalize hasS z1 N = p1 at *
          generalize hasS z2 N = p2 at *
          cases p1
          case false =>
            have HRs := hid (HOF.out.trans (if_neg (by rw [HNo.out rfl]; simp)))
            go_wp2
            go_quiet (exact Calls.quiet_of_same (CH1.out _))
            have HB9 := hid (HBW.out.drewN nq)
            go_wp2
            rw [HRs.out]
            exact bodyPost_ret (v := .tuple #[.agg #[.slice none 0 0, .slice none 0 0], .int .i64 9]) (by simp [results, Try.results29, go_sem, u0, u1]) rfl ⟨_, _, rfl, sl_nilS _, sl_nilE _, (HB9.out.setCell (p := ⟨w.heap.size, 0, none⟩) (Nat.le_refl _) _).setCell (p := ⟨w.heap.size, 1, none⟩) (Nat.le_refl _) _⟩
          case true =>
            cases p2
            case false =>
              have HRs := hid (HOF.out.trans (if_neg (by rw [HNo.out rfl]; simp)))
              go_wp2
              go_quiet (first | with_reducible exact Calls.quiet_of_same (CH1.out _) | with_reducible exact Calls.quiet_of_same (CH2.out _))
              have HB9 := hid (HBW.out.drewN nq)
              go_wp2
              rw [HRs.out]
              exact bodyPost_ret (v := .tuple #[.agg #[.slice none 0 0, .slice none 0 0], .int .i64 9]) (by simp [results, Try.results29, go_sem, u0, u1]) rfl ⟨_, _, rfl, sl_nilS _, sl_nilE _, (HB9.out.setCell (p := ⟨w.heap.size, 0, none⟩) (Nat.le_refl _) _).setCell (p := ⟨w.heap.size, 1, none⟩) (Nat.le_refl _) _⟩
            case true =>
              have HT2 := hid (show endsIn N (es.take (k + 1)) = true by rw [HT.out, HEn.out]; rfl)
              go_wp2
              go_quiet (first | with_reducible exact Calls.quiet_of_same (CH1.out _) | with_reducible exact Calls.quiet_of_same (CH2.out _))
              have HGd := hid (HG.out.below ((Below.refl wr.heap.size wr).drewN nq))
              have HRd := hid ((((Below.refl wr.heap.size wr).drewN nq).block _ (lt_of_block HR.out)).trans HR.out)
              have HEd := hid (HE1.out.below ((Below.refl wr.heap.size wr).drewN nq))
              have x1' := bget ((Below.refl wr.heap.size wr).drewN nq) y1
              have g0' := bget ((Below.refl wr.heap.size wr).drewN nq) g0
              have g1' := bget ((Below.refl wr.heap.size wr).drewN nq) g1
              have h1' := (((Below.refl wr.heap.size wr).drewN nq).block _ (lt_of_block h1)).trans h1
              generalize wr.drewN nq = W2 at *
              clear y0 y1 u0 u1 uf0 uf1 g0 g1 h1 CH1 CH2 HG HR HE1 HN1 HBW HEn HT HNo
              go_wp2
              go_region_law (first
                | (go_simp
                   go_at_call 50
                   refine (edge_any _ L z1 z2 _ (HEd.out.below (Below.refl W2.heap.size W2).drew) HLn.out HZ.out).mono ?_
                   rintro e w3 ⟨v3, rfl, hns3, hb3⟩
                   obtain ⟨a3, n3, c3, rfl⟩ := hns3.slice
                   have hf3 := (hb3.block g (lt_of_block h1')).trans h1'
                   have yf3 := frozen_of hf3 1
                   have y3 := cellv hf3 1 rfl))
              all_goals
                have hbX : Below W2.heap.size W2 w3 := ((Below.refl _ _).drew).trans hb3
                have HG3 := hid ((HGd.out.below hbX).setE hns3)
                have HR3 := hid ((block_set (o := 1) (u := .slice a3 n3 c3) HGne.out).trans ((hbX.block _ (lt_of_block HRd.out)).trans HRd.out))
                rw [← HTE.out] at HG3
                generalize (w3.setCell ⟨g, 1, none⟩ (.slice a3 n3 c3)) = W3 at *
                clear hb3 hns3 hf3 yf3 y3 hbX
                go_wp2
                go_roundw
                case rel => exact ⟨k + 1, by omega, by go_num, HG3, HR3, HT2⟩
                case measure => simp [RowKit.intOf]; omega
        · obtain rfl : k = es.length := by omega
          have HRs := hid (HOF.out.trans (if_pos (by have := HEn.out; rwa [List.take_length] at this)))
          rw [List.take_length] at HE1
          have K0 := hid (heap_setCell_at (o := 0) (v := .slice a1 n1 c1) HR.out)
          have N5 := hid ((HN1.out.set (o := 0) (u := .slice a1 n1 c1) HR.out).set (o := 1) (u := .slice b1 m1 d1) K0.out)
          have E5 := hid ((HE1.out.set (o := 0) (u := .slice a1 n1 c1) HR.out).set (o := 1) (u := .slice b1 m1 d1) K0.out)
          have B5 := hid ((HBW.out.setCell (p := ⟨w.heap.size, 0, none⟩) (Nat.le_refl _) (.slice a1 n1 c1)).setCell (p := ⟨w.heap.size, 1, none⟩) (Nat.le_refl _) (.slice b1 m1 d1))
          clear h1 h2 h3
          go_wp2
          rw [HRs.out]
          exact bodyPost_ret (v := .tuple #[.agg #[.slice a1 n1 c1, .slice b1 m1 d1], .int .i64 0]) (by simp [results, Try.results29, go_sem, u0, u1]) rfl ⟨_, _, rfl, N5.out.1, E5.out.1, B5.out⟩
end Go.Proofs.Ytlhekldlfmdmiaa
