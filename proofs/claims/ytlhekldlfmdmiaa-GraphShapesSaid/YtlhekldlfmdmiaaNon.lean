import Derived.Test.YtlhekldlfmdmiaaNof
import Derived.Test.YtlhekldlfmdmiaaNds
import Derived.Test.YtlhekldlfmdmiaaPt
import Derived.Test.YtlhekldlfmdmiaaFsp
/-
  The reference's Only. Conditions: those ahead of each theorem.
-/
namespace Go.Proofs.Ytlhekldlfmdmiaa
open Go.RowKit Go.Sort Go.Lib Go.Maps
open Go.Lib (hid)
attribute [local go_sem ↓] Go.wp_at_zero Go.wp_at_succ
attribute [local go_sem] frUpon
set_option linter.unusedVariables false
set_option linter.unusedSimpArgs false

theorem stL_filter {ns nodes : List ByteArray} (h : AscB ns) : stL ns nodes = ns.filter fun x => hasS x nodes :=
  ascB_eq (stL_asc _ _) (asc_filter h _) fun x => by rw [mem_stL, List.mem_filter, hasS_iff]; exact ⟨fun h => ⟨h.2, h.1⟩, fun h => ⟨h.2, h.1⟩⟩
theorem re_has {ns : List ByteArray} {es : List Ed} {n m : ByteArray} {l : List ByteArray} (hin : endsIn ns es = true) (hm : m ∈ ns) (hl : LisP ns (RchN ns es (nxtL es [n])) l) : hasS m l = reB (tgt es) n m := by
  rw [Bool.eq_iff_iff, hasS_iff, hl.2, reB_iff]
  constructor
  · rintro ⟨_, c, hc, _, k, hw⟩
    exact ⟨k, c, nxt_one.1 hc, hw⟩
  · rintro ⟨k, c, hc, hw⟩
    exact ⟨hm, c, nxt_one.2 hc, (ends_mem hin _ (mem_tgt.1 hc)).2, k, hw⟩
theorem slS_grown {w w' : World} {v : Value} {xs : List ByteArray} {b : Nat} {C : Array Value} {E : TypeId} {fr : Nat × Nat} (hb : w.heap[b]? = some (.cells C E fr)) (hC : ∀ (s : ByteArray) (o : Nat), C[o]? ≠ some (.string s)) (hg : w.grownBy w' (some b)) (h : Sl StrR 1 w v xs) : Sl StrR 1 w' v xs := by
  obtain ⟨r, c, hv, h1, h2, he⟩ := h
  refine ⟨r, c, hv, h1, h2, fun i hi => ?_⟩
  obtain ⟨b', off, cs, hr, hs, hc, hx⟩ := he i hi
  have hs0 : cs[0]? = some (.string xs[i]) := by rw [hx.1]
  have h0 := hc 0 _ hs0
  have hne : b' ≠ b := fun e => by
    subst e
    rw [cell_of hb] at h0
    exact hC _ _ h0
  have hlt := World.block_lt_of_cell? _ _ h0
  exact ⟨b', off, cs, hr, hs, fun j u hj => by rw [World.cell?_of_block (w := w) (hg.block b' hlt (fun e => hne (by injection e)))]; exact hc j u hj, hx⟩
theorem onl_take {F : ByteArray → List ByteArray} {N : List ByteArray} {k : Nat} (hk : k < N.length) : onlE F N (N.take (k + 1)) = onlE F N (N.take k) ++ (N.filter (reB F N[k])).map fun m => (N[k], m) := by
  rw [List.take_succ_eq_append_getElem hk, onlE_snoc]
theorem flt_take {p : ByteArray → Bool} {n : ByteArray} {l : List ByteArray} {j : Nat} (hj : j < l.length) : ((l.take (j + 1)).filter p).map (fun m => (n, m)) = if p l[j] = true then ((l.take j).filter p).map (fun m => (n, m)) ++ [(n, l[j])] else ((l.take j).filter p).map (fun m => (n, m)) := by
  rw [List.take_succ_eq_append_getElem hj, List.filter_append]
  cases h : p l[j] <;> simp [List.filter_cons, h]

def sNx (l : List ByteArray) : Spc := ⟨fun v => ∃ r k c, v = .slice r k c, fun v w => NS w v l⟩
def sClo (B : Nat) (ns : List ByteArray) (p : ByteArray → Prop) : Spc := ⟨fun v => ∃ r k c, v = .slice r k c, fun v w => ∃ l, NS w v l ∧ LisP ns p l ∧ ∀ g, v.ownBlock = some g → B ≤ g⟩
theorem stNx (l : List ByteArray) : ∀ v, Stb ((sNx l).R v) := fun _ _ _ h hl => NS.below h hl
theorem stClo (B : Nat) (ns : List ByteArray) (p : ByteArray → Prop) : ∀ v, Stb ((sClo B ns p).R v) := fun _ _ _ ⟨l, h1, h2, h3⟩ hl => ⟨l, h1.below hl, h2, h3⟩
theorem NS.kept {w w' : World} {v : Value} {xs : List ByteArray} {row : Option Nat} (h : NS w v xs) (hg : w.grownBy w' row) (hr : xs.length ≠ 0 → ∀ g, v.ownBlock = some g → row ≠ some g) : NS w' v xs := by
  refine ⟨?_, h.2⟩
  rcases h.2 with rfl | ⟨b, off, c, rfl⟩
  · obtain ⟨r, c, hv, h1, h2, he⟩ := h.1
    refine ⟨r, c, hv, h1, h2, fun i hi => ?_⟩
    have : xs.length = 0 := by have := (sl_len h.1).1; omega
    omega
  · obtain ⟨r, c', hv, h1, h2, he⟩ := h.1
    refine ⟨r, c', hv, h1, h2, fun i hi => ?_⟩
    obtain ⟨b', off', cs, hr', hs, hc, hx⟩ := he i hi
    have hb' : b' = b := by
      simp at hv
      rw [hr'] at hv
      simp at hv
      exact hv.1.1.symm
    subst hb'
    refine ⟨b', off', cs, hr', hs, fun j u hj => ?_, hx⟩
    have h0 := hc j u hj
    have hlt := World.block_lt_of_cell? _ _ h0
    rw [World.cell?_of_block (w := w) (hg.block b' hlt (fun e => hr (by omega) b' rfl e.symm))]
    exact h0

set_option maxRecDepth 100000 in
set_option maxHeartbeats 40000000 in
theorem ronly_any (vn ve vl : Value) (ns : List ByteArray) (es : List Ed) (nodes : List ByteArray) (w : World) (hN : Sl StrR 1 w vn ns) (hS : Sl EdR 2 w ve es) (hL : Sl StrR 1 w vl nodes) (hA : AscB ns) (hin : endsIn ns es = true) (hnn : ns.length ≤ 900) (hn : es.length ≤ 10000) (hnl : nodes.length ≤ 10000) :
    Calls Try.prog 26 #[.agg #[vn, ve], vl] w (OnlP ns es nodes w) := by
  obtain ⟨r, c, rfl, _⟩ := id hS
  obtain ⟨rn, cn, rfl, _⟩ := id hN
  obtain ⟨rl, cl, rfl, _⟩ := id hL
  obtain ⟨_, hl1, hm1⟩ := sl_len hL
  have HN := hid (fun (W : World) (hW : Below w.heap.size w W) => hN.below strR_mono hW)
  have HE := hid (fun (W : World) (hW : Below w.heap.size w W) => hS.below edR_mono hW)
  have HNd := hid (fun (W : World) (hW : Below w.heap.size w W) => str_at (hL.below strR_mono hW))
  have HA := hid hA
  have HIn := hid hin
  clear hN hS hL hA hin
  have hB0 : Below w.heap.size w (((w.alloc (.cells #[.slice rn ns.length cn, .slice r es.length c] 25)).alloc (.cells #[.slice none 0 0, .slice none 0 0] 25)).alloc (.cells #[.slice none 0 0, .slice none 0 0] 25)) := (((Below.refl _ _).alloc (Nat.le_refl _) _).alloc (by simp) _).alloc (by simp; omega) _
  have HC0 := hid (show (((w.alloc (.cells #[.slice rn ns.length cn, .slice r es.length c] 25)).alloc (.cells #[.slice none 0 0, .slice none 0 0] 25)).alloc (.cells #[.slice none 0 0, .slice none 0 0] 25)).heap[w.heap.size]? = some (.cells #[.slice rn ns.length cn, .slice r es.length c] 25 (0, 0)) from (Below.heap_alloc _ _ _ (by simp; omega)).trans ((Below.heap_alloc _ _ _ (by simp)).trans (MapKept.heap_alloc w _).1))
  have HQ0 := hid (show (((w.alloc (.cells #[.slice rn ns.length cn, .slice r es.length c] 25)).alloc (.cells #[.slice none 0 0, .slice none 0 0] 25)).alloc (.cells #[.slice none 0 0, .slice none 0 0] 25)).heap[w.heap.size + 1]? = some (.cells #[.slice none 0 0, .slice none 0 0] 25 (0, 0)) from (Below.heap_alloc _ _ _ (by simp)).trans ((congrArg _ (by simp)).trans (MapKept.heap_alloc _ _).1))
  have HG0 := hid (show (((w.alloc (.cells #[.slice rn ns.length cn, .slice r es.length c] 25)).alloc (.cells #[.slice none 0 0, .slice none 0 0] 25)).alloc (.cells #[.slice none 0 0, .slice none 0 0] 25)).heap[w.heap.size + 2]? = some (.cells #[.slice none 0 0, .slice none 0 0] 25 (0, 0)) from (congrArg _ (by simp)).trans (MapKept.heap_alloc _ _).1)
  have HB0 := hid hB0
  clear hB0
  go_enter Try.func26, Try.ntmps26
  go_wp2
  generalize (((w.alloc (.cells #[.slice rn ns.length cn, .slice r es.length c] 25)).alloc (.cells #[.slice none 0 0, .slice none 0 0] 25)).alloc (.cells #[.slice none 0 0, .slice none 0 0] 25)) = W0 at *
  obtain ⟨g, hg⟩ : ∃ g, g = w.heap.size + 2 := ⟨_, rfl⟩
  rw [← hg] at HG0 ⊢
  have HGne := hid (show w.heap.size ≠ g ∧ w.heap.size + 1 ≠ g ∧ w.heap.size + 2 ≤ g by omega)
  clear hg
  go_loopw [6] (fun i wr => ∃ (k : Nat) (a : Option Addr) (n c' : Nat), k ≤ nodes.length ∧ i = .int .i64 k ∧ Hid (Below w.heap.size w wr) ∧ Hid (wr.heap[g]? = some (.cells #[.slice a n c', .slice none 0 0] 25 (0, 0))) ∧ Hid (NS wr (.slice a n c') (stL ns (nodes.take k))) ∧ Hid (wr.heap[w.heap.size]? = some (.cells #[.slice rn ns.length cn, .slice r es.length c] 25 (0, 0))) ∧ Hid (wr.heap[w.heap.size + 1]? = some (.cells #[.slice none 0 0, .slice none 0 0] 25 (0, 0)))) (fun i _ => nodes.length - (RowKit.intOf i).toNat)
  case atStart => exact ⟨0, none, 0, 0, by omega, rfl, HB0, HG0, hid (nsNil _), HC0, HQ0⟩
  case round =>
    clear HB0 HG0 HC0 HQ0
    obtain ⟨k, a1, n1, c1, hk, rfl, HBW, HG, HNS, HC, HQ⟩ := hrel
    have z0 := cellv HC.out 0 rfl
    by_cases hlt : k < nodes.length
    · obtain ⟨b, off, rfl, hb, g0, hz0⟩ := HNd.out _ HBW.out k hlt
      have HT := hid (stL_take (ns := ns) hlt)
      have HLn := hid (show (stL ns (nodes.take k)).length ≤ 100000 by have := asc_sub_len (stL_asc ns (nodes.take k)) (b := ns) (fun x hx => (mem_stL.1 hx).2); omega)
      generalize stL ns (nodes.take k) = L at *
      have k2 : (0 : Int) ≤ (k : Int) := by omega
      have k3 : (k : Int) < (nodes.length : Int) := by omega
      generalize nodes[k] = y at *
      have HZ := hid hz0
      have CH1 := hid (fun (n : Nat) => (has_any ns y _ (wr.drewN n) (HN.out _ (HBW.out.drewN n))).mono fun e w' ⟨h1, h2⟩ => (show e = Ending.returned (.bool (hasS y ns)) ∧ w' = wr.drewN n from ⟨h1, h2.symm⟩))
      clear hz0
      cases hh : hasS y ns with
      | false =>
        rw [hh] at CH1
        have HT2 := hid (HT.out.trans (if_neg (by rw [hh]; simp)))
        clear hh HT
        go_wp2
        go_quiet (exact Calls.quiet_of_same (CH1.out _))
        have hD : Below wr.heap.size wr (wr.drewN nq) := (Below.refl _ _).drewN nq
        have HD := hid hD
        clear hD
        go_wp2
        go_roundw
        case rel => exact ⟨k + 1, a1, n1, c1, by omega, by go_num, hid (HBW.out.drewN _), hid ((HD.out.block _ (lt_of_block HG.out)).trans HG.out), hid (by rw [HT2.out]; exact HNS.out.below HD.out), hid ((HD.out.block _ (lt_of_block HC.out)).trans HC.out), hid ((HD.out.block _ (lt_of_block HQ.out)).trans HQ.out)⟩
        case measure => simp [RowKit.intOf]; omega
      | true =>
        rw [hh] at CH1
        have HT2 := hid (HT.out.trans (if_pos hh))
        clear hh HT
        go_wp2
        go_quiet (exact Calls.quiet_of_same (CH1.out _))
        have hD : Below wr.heap.size wr (wr.drewN nq) := (Below.refl _ _).drewN nq
        have g1 := bget hD g0
        have HG1 := hid ((hD.block _ (lt_of_block HG.out)).trans HG.out)
        have HNS1 := hid (HNS.out.below hD)
        have HC1 := hid ((hD.block _ (lt_of_block HC.out)).trans HC.out)
        have HQ1 := hid ((hD.block _ (lt_of_block HQ.out)).trans HQ.out)
        have HB1 := hid (HBW.out.drewN nq)
        generalize wr.drewN nq = W2 at *
        have y0 := cellv HG1.out 0 rfl
        have yf0 := frozen_of HG1.out 0
        clear g0 z0 HBW HG HNS HC HQ CH1 hD
        go_wp2
        go_region_law (first
          | (go_simp
             go_at_call 51
             refine (node_any _ L y _ (HNS1.out.below (Below.refl W2.heap.size W2).drew) HLn.out HZ.out).mono ?_
             rintro e w3 ⟨v3, rfl, hns3, hb3, _⟩
             obtain ⟨a3, n3, c3, rfl⟩ := hns3.slice
             have hf3 := (hb3.block g (lt_of_block HG1.out)).trans HG1.out
             have yf3 := frozen_of hf3 0
             have y3 := cellv hf3 0 rfl))
        all_goals
          have hbX : Below W2.heap.size W2 w3 := ((Below.refl _ _).drew).trans hb3
          have HG3 := hid (heap_setCell_at (o := 0) (v := .slice a3 n3 c3) hf3)
          have HN3 := hid (hns3.set (o := 0) (u := .slice a3 n3 c3) hf3)
          have HB3 := hid ((HB1.out.trans (hbX.mono HB1.out.size)).setCell (p := ⟨g, 0, none⟩) (by have := HGne.out.2.2; simp only; omega) (.slice a3 n3 c3))
          have HC3 := hid ((block_set (o := 0) (u := .slice a3 n3 c3) HGne.out.1).trans ((hbX.block _ (lt_of_block HC1.out)).trans HC1.out))
          have HQ3 := hid ((block_set (o := 0) (u := .slice a3 n3 c3) HGne.out.2.1).trans ((hbX.block _ (lt_of_block HQ1.out)).trans HQ1.out))
          rw [← HT2.out] at HN3
          generalize (w3.setCell ⟨g, 0, none⟩ (.slice a3 n3 c3)) = W3 at *
          clear hb3 hns3 hf3 yf3 y3 hbX g1 y0 yf0 HB1 HG1 HNS1 HC1 HQ1
          go_wp2
          go_roundw
          case rel => exact ⟨k + 1, a3, n3, c3, by omega, by go_num, HB3, HG3, HN3, HC3, HQ3⟩
          case measure => simp [RowKit.intOf]; omega
    · obtain rfl : k = nodes.length := by omega
      rw [List.take_length, stL_filter HA.out] at HNS
      have HNm := hid (fun x (hx : x ∈ ns.filter fun x => hasS x nodes) => (List.mem_filter.1 hx).1)
      have HNl := hid (show (ns.filter fun x => hasS x nodes).length ≤ 900 from Nat.le_trans (List.length_filter_le _ _) hnn)
      generalize hNN : (ns.filter fun x => hasS x nodes) = N at *
      have HNN := hid hNN
      clear hNN
      have hNl := HNl.out
      have hN1 := (sl_len HNS.out.1).1
      subst hN1
      obtain ⟨wf, rfl⟩ : ∃ wf : World, wf = wr := ⟨_, rfl⟩
      have HGs := hid (lt_of_block HG.out)
      clear z0
      go_wp2
      go_loopw [7] (fun i wr => ∃ (k : Nat) (vo : Value), k ≤ N.length ∧ i = .int .i64 k ∧ Hid (wf.grownBy wr (some g)) ∧ Hid (wr.heap[g]? = some (.cells #[.slice a1 N.length c1, vo] 25 (0, 0))) ∧ Hid (OwnE wf.heap.size wr vo (onlE (tgt es) N (N.take k)))) (fun i _ => N.length - (RowKit.intOf i).toNat)
      case atStart => exact ⟨0, _, by omega, rfl, hid (World.grownBy.refl _ _), HG, hid (ownE_nil _ _)⟩
      case round =>
        obtain ⟨k, vo, hk, rfl, HGr, HGk, HO⟩ := hrel
        have HBk := hid (Below.grown HBW.out HGr.out HBW.out.size (fun g' hg' => by cases hg'; have := HGne.out.2.2; omega))
        have HNk := hid (slS_grown HG.out no_str HGr.out HNS.out.1)
        have HCk := hid ((HGr.out.block w.heap.size (lt_of_block HC.out) (fun e => HGne.out.1 (by simp at e; omega))).trans HC.out)
        have HQk := hid ((HGr.out.block (w.heap.size + 1) (lt_of_block HQ.out) (fun e => HGne.out.2.1 (by simp at e; omega))).trans HQ.out)
        obtain ⟨ro, co, rfl, hro1, hro2⟩ := HO.out.form
        by_cases hlt : k < N.length
        · obtain ⟨b, off, rfl, hb, g0, hz0⟩ := str_at HNk.out k hlt
          have HT := hid (onl_take (F := tgt es) hlt)
          have HOl := hid (onlE_len (tgt es) N (N.take k))
          have k2 : (0 : Int) ≤ (k : Int) := by omega
          have k3 : (k : Int) < (N.length : Int) := by omega
          have HYk := hid (fun (W : World) (h : Sl StrR 1 W (.slice (some ⟨b, off, none⟩) N.length c1) N) => show W.cell? ⟨b, off + k, none⟩ = some (.string N[k]) from by
            obtain ⟨b', o', e', hb', h', _⟩ := str_at h k hlt
            simp only [Option.some.injEq, Addr.mk.injEq, and_true] at e'
            obtain ⟨rfl, rfl⟩ := e'
            exact h')
          generalize N[k] = y at *
          have HSy := hid hz0
          have z0 := cell_regrown (cellv HCk.out 0 rfl)
          have z1 := cell_regrown (cellv HCk.out 1 rfl)
          have q0 := cell_regrown (cellv HGk.out 0 rfl)
          have q00 := cellv HGk.out 0 rfl
          have g1 := cell_regrown g0
          have HNw := hid (fun (W : World) (hW : Below wr.heap.size wr W) => HN.out W (HBk.out.trans (hW.mono HBk.out.size)))
          have HEw := hid (fun (W : World) (hW : Below wr.heap.size wr W) => HE.out W (HBk.out.trans (hW.mono HBk.out.size)))
          clear hz0 g0
          go_wp2_with fail
          refine wp_region_fresh (fun k => match k with | 7 => some (sNew 1 (.cells #[.string y] 9)) | 8 => some (sNx (nxtL es [y])) | 9 => some (sClo wr.heap.size ns (RchN ns es (nxtL es [y]))) | _ => none) (by kernel_rfl) (by kernel_rfl) ?_
          (refine wpF_quiet (grw_ex _) (by kernel_rfl) rfl (noEnter_op (by rfl)) ?_; intro K hK; go_big_quiet_op; go_big_quiet_on)
          (refine wpF_quiet (grw_ex _) (by kernel_rfl) rfl (noEnter_op (by rfl)) ?_; intro K hK; go_big_quiet_op; go_big_quiet_on)
          (refine wpF_quiet (grw_ex _) (by kernel_rfl) rfl (noEnter_op (by rfl)) ?_; intro K hK; go_big_quiet_op; go_big_quiet_on)
          (refine wpF_quiet (grw_ex _) (by kernel_rfl) rfl (noEnter_op (by rfl)) ?_; intro K hK; go_big_quiet_op; go_big_quiet_on)
          (refine wpF_quiet (grw_ex _) (by kernel_rfl) rfl (noEnter_op (by rfl)) ?_; intro K hK; go_big_quiet_op; go_big_quiet_on)
          (refine wpF_quiet (grw_ex _) (by kernel_rfl) rfl (noEnter_op (by rfl)) ?_; intro K hK; go_big_quiet_op; go_big_quiet_on)
          (refine wpF_quiet (grw_ex _) (by kernel_rfl) rfl (noEnter_op (by rfl)) ?_; intro K hK; go_big_quiet_op; go_big_quiet_on)
          refine wpF_told (sNew 1 (.cells #[.string y] 9)) (by kernel_rfl) rfl ⟨_, 0, rfl⟩ (stNew _ _) (fun w4 hw4 hE4 => ?_) ?_
          · have hb4 := grw_below hw4
            clear hw4 hE4
            go_simp
            exact ⟨(Below.refl _ _).alloc (Nat.le_refl _) _, ⟨_, rfl⟩, _, rfl, (MapKept.heap_alloc _ _).1⟩
          rintro _ ⟨b7, rfl⟩
          (refine wpF_put ?_; intro K hK; go_simp; refine hK _ ?_; clear hK K)
          refine wpF_told (sNx (nxtL es [y])) (by kernel_rfl) rfl ⟨.slice none 0 0, _, _, _, rfl⟩ (stNx _) (fun w4 hw4 hE4 => ?_) ?_
          · have hb4 := grw_below hw4
            have hl4 := sNew_at (hE4 7 (Bef.one (e := ⟨7, .data⟩) rfl (by simp) rfl rfl))
            clear hw4 hE4
            go_simp
            go_at_call 42
            refine (rnext_any _ _ _ ns es [y] w4 (HNw.out _ hb4) (HEw.out _ hb4) (lit_at hl4 HSy.out) (by omega)).mono ?_
            rintro e w5 ⟨v5, rfl, hn5, hb5⟩
            obtain ⟨r5, c5, rfl, _⟩ := hn5.form
            exact ⟨_, rfl, hb5, ⟨_, _, _, rfl⟩, hn5⟩
          rintro _ ⟨r8, k8, c8, rfl⟩
          (refine wpF_put ?_; intro K hK; go_simp; refine hK _ ?_; clear hK K)
          refine wpF_told (sClo wr.heap.size ns (RchN ns es (nxtL es [y]))) (by kernel_rfl) rfl ⟨.slice none 0 0, _, _, _, rfl⟩ (stClo _ _ _) (fun w4 hw4 hE4 => ?_) ?_
          · have hb4 := grw_below hw4
            have hn4 : NS w4 (.slice r8 k8 c8) (nxtL es [y]) := hE4 8 (Bef.one (e := ⟨8, .data⟩) rfl (by simp) rfl rfl)
            clear hw4 hE4
            go_simp
            go_at_call 45
            refine (rclosure_any _ _ _ ns es _ w4 (HNw.out _ hb4) (HEw.out _ hb4) hn4.1 HIn.out (by omega) (by omega) (by have := nxtL_len es [y]; omega)).mono ?_
            rintro e w5 ⟨v5, l5, rfl, hn5, hp5, hb5, hf5⟩
            obtain ⟨r5, c5, rfl, _⟩ := hn5.form
            exact ⟨_, rfl, hb5, ⟨_, _, _, rfl⟩, l5, hn5, hp5, fun g hg => Nat.le_trans hb4.size (hf5 g hg)⟩
          rintro _ ⟨r9, k9, c9, rfl⟩
          (refine wpF_put ?_; intro K hK; go_simp; refine hK _ ?_; clear hK K)
          (refine wpF_quiet (grw_ex _) (by kernel_rfl) rfl (noEnter_op (by rfl)) ?_; intro K hK; go_big_quiet_op; go_big_quiet_on)
          refine wpF_nil ?_
          intro w6 hw6 hE6
          have hb6 := grw_below hw6
          obtain ⟨l, hl, pl, fl⟩ : (sClo wr.heap.size ns (RchN ns es (nxtL es [y]))).R (.slice r9 k9 c9) w6 := hE6 9
          clear hw6 hE6
          have hs6 := hb6.size
          have hlk := (sl_len hl.1).1
          subst hlk
          have hll := lis_len pl
          have HPl := hid (fun m (hm : m ∈ N) => re_has HIn.out (HNm.out m hm) pl)
          have HG6 := hid (grown_two HGr.out (grown_below hb6) (fun g' hg' => by cases hg'))
          have HGk6 := hid ((hb6.block _ (lt_of_block HGk.out)).trans HGk.out)
          have HO6 := hid (show OwnE wf.heap.size w6 (.slice ro (onlE (tgt es) N (N.take k)).length co) (onlE (tgt es) N (N.take k) ++ ((N.take 0).filter (reB (tgt es) y)).map fun m => (y, m)) by simpa using HO.out.below hb6)
          have HL6 := hid hl
          have HFl := hid (show l.length ≠ 0 → ∀ g', (Value.slice r9 l.length c9).ownBlock = some g' → wr.heap.size ≤ g' ∧ g' < w6.heap.size from fun hne g' hg' => ⟨fl g' hg', by
            obtain ⟨b', o', e', hb', _⟩ := str_at hl.1 0 (by omega)
            subst e'
            simp [Value.ownBlock] at hg'
            omega⟩)
          have HLv := hid HO.out.lt
          have hbf : b < wf.heap.size := by
            obtain ⟨b', o', e', hb', _⟩ := str_at HNS.out.1 k hlt
            simp only [Option.some.injEq, Addr.mk.injEq, and_true] at e'
            obtain ⟨rfl, rfl⟩ := e'
            exact hb'
          have hbg : b ≠ g := fun e => by
            obtain ⟨b', o', e', hb', h', _⟩ := str_at HNS.out.1 k hlt
            simp only [Option.some.injEq, Addr.mk.injEq, and_true] at e'
            obtain ⟨rfl, rfl⟩ := e'
            rw [e, cell_of HG.out] at h'
            exact no_str _ _ h'
          have HKy := hid (fun (W : World) (h : Sl StrR 1 W (.slice (some ⟨b, off, none⟩) N.length c1) N) => HYk.out W h)
          obtain ⟨wo, rfl⟩ : ∃ wo : World, wo = wr := ⟨_, rfl⟩
          have hgl := HGs.out
          have hzf := HGr.out.size
          clear hb6 hl pl fl z0 z1 q0 q00 g1 HNw HEw HYk
          have q0 := cellv HGk6.out 0 rfl
          go_wp2
          clear q0
          go_loopw [9] (fun i wr => ∃ (j : Nat) (vo : Value), j ≤ N.length ∧ i = .int .i64 j ∧ Hid (wf.grownBy wr (some g)) ∧ Hid (wr.heap[g]? = some (.cells #[.slice (some ⟨b, off, none⟩) N.length c1, vo] 25 (0, 0))) ∧ Hid (OwnE wf.heap.size wr vo (onlE (tgt es) N (N.take k) ++ ((N.take j).filter (reB (tgt es) y)).map fun m => (y, m))) ∧ Hid (NS wr (.slice r9 l.length c9) l) ∧ w6.heap.size ≤ wr.heap.size ∧ Hid (∀ g', vo.ownBlock = some g' → g' < wo.heap.size ∨ w6.heap.size ≤ g')) (fun i _ => N.length - (RowKit.intOf i).toNat)
          case atStart => exact ⟨0, _, by omega, rfl, HG6, HGk6, HO6, HL6, Nat.le_refl _, hid (fun g' hg' => Or.inl (HLv.out g' hg').2)⟩
          case round =>
            clear HG6 HGk6 HO6 HL6
            obtain ⟨j, vo, hj, rfl, HGj, HCj, HOj, HLj, hszj, HVj⟩ := hrel
            have HNj := hid (slS_grown HG.out no_str HGj.out HNS.out.1)
            obtain ⟨rx, cx, rfl, hrx1, hrx2⟩ := HOj.out.form
            have q0 := cellv HCj.out 0 rfl
            have q1 := cellv HCj.out 1 rfl
            have qf1 := frozen_of HCj.out 1
            have hsj := HGj.out.size
            by_cases hltj : j < N.length
            · have gk := HKy.out _ HNj.out
              obtain ⟨b', off', e', hb', gj, hzj⟩ := str_at HNj.out j hltj
              simp only [Option.some.injEq, Addr.mk.injEq, and_true] at e'
              obtain ⟨rfl, rfl⟩ := e'
              have HTj := hid (flt_take (p := reB (tgt es) y) (n := y) hltj)
              have HRe := hid (HPl.out _ (List.getElem_mem hltj))
              have HLn := hid (show (onlE (tgt es) N (N.take k) ++ ((N.take j).filter (reB (tgt es) y)).map fun m => (y, m)).length + 1 ≤ 1000000 from by
                have h1 := HOl.out
                have h2 : (N.take k).length ≤ 900 := by simp; omega
                have h3 : (N.take k).length * N.length ≤ 900 * 900 := Nat.mul_le_mul h2 HNl.out
                have h4 := List.length_filter_le (reB (tgt es) y) (N.take j)
                simp at h4 ⊢
                omega)
              have j2 : (0 : Int) ≤ (j : Int) := by omega
              have j3 : (j : Int) < (N.length : Int) := by omega
              generalize N[j] = m at *
              have HYs := hid (show y.size ≤ maxLen ∧ m.size ≤ maxLen from ⟨HSy.out, hzj⟩)
              clear hzj
              go_wp2_with fail
              refine (has_any l m _ _ HLj.out.1).mono ?_
              rintro r' w' ⟨rfl, rfl⟩
              rw [HRe.out]
              cases hre : reB (tgt es) y m with
              | false =>
                have HN2 := hid (HTj.out.trans (if_neg (by rw [hre]; simp)))
                clear hre
                go_wp2
                go_roundw
                case rel => exact ⟨j + 1, _, by omega, by go_num, HGj, HCj, by rw [HN2.out]; exact HOj, HLj, hszj, HVj⟩
                case measure => simp [RowKit.intOf]; omega
              | true =>
                have HN2 := hid (show (onlE (tgt es) N (N.take k) ++ ((N.take (j + 1)).filter (reB (tgt es) y)).map fun m => (y, m)) = (onlE (tgt es) N (N.take k) ++ ((N.take j).filter (reB (tgt es) y)).map fun m => (y, m)) ++ [(y, m)] by rw [HTj.out, if_pos hre, List.append_assoc])
                clear hre
                generalize (onlE (tgt es) N (N.take k) ++ ((N.take j).filter (reB (tgt es) y)).map fun m => (y, m)) = F0 at *
                have HOa := hid (HOj.out.below (below_alloc_drew wr (.cells #[.string y, .string m] 43)))
                have HL := hid HOj.out.lt
                have HGa := hid (grown_two HGj.out (grown_below (below_alloc_drew wr (.cells #[.string y, .string m] 43))) (fun g' hg' => by cases hg'))
                have HCa := hid (((below_alloc_drew wr (.cells #[.string y, .string m] 43)).block g (by omega)).trans HCj.out)
                have HLa := hid (HLj.out.below (below_alloc_drew wr (.cells #[.string y, .string m] 43)))
                have hgb : g ≠ b := fun e => hbg e.symm
                have ka0 := cell_alloc_drew (o := .cells #[.string y, .string m] 43) q0
                have ka1 := cell_alloc_drew (o := .cells #[.string y, .string m] 43) q1
                have kak := cell_alloc_drew (o := .cells #[.string y, .string m] 43) gk
                have kaj := cell_alloc_drew (o := .cells #[.string y, .string m] 43) gj
                go_wp2
                go_region_law
                  ((refine step_ed (by rfl) _ _ (by rfl) wf.heap.size (.slice rx F0.length cx) F0 (by rfl) HOa.out wr.heap.size 1 (y, m) (by rfl) (fr := (0, 0)) (by exact (MapKept.heap_alloc wr _).1) HYs.out HLn.out (by simp; omega) (wr.heap.size + 1) (by simp) ?_
                    intro g7 cap w7 hm7
                    have HM7 := hid hm7
                    have hne : ∀ g', (Value.slice rx F0.length cx).ownBlock = some g' → g' ≠ g := fun g' hg' => by have := (HL.out g' hg').1; omega
                    have hC7 := own_block hm7.2.1 hne HCa.out
                    have u0 := cellv hC7 0 rfl
                    have u1 := cellv hC7 1 rfl
                    have uf := frozen_of hC7 1
                    have uk := grown_cell (o := off + k) hm7.2.1 (lt_alloc_drew (by omega)) (fun g' hg' e => by have := (HL.out g' hg').1; omega) (cell_alloc_drew gk)
                    have uj := grown_cell (o := off + j) hm7.2.1 (lt_alloc_drew (by omega)) (fun g' hg' e => by have := (HL.out g' hg').1; omega) (cell_alloc_drew gj)
                    have HC7 := hid hC7
                    clear hm7 hne hC7))
                all_goals
                  clear q0 q1 qf1 gk gj u0 u1 uf uk uj ka0 ka1 kak kaj
                  go_wp2
                  go_roundw
                  case measure => simp [RowKit.intOf]; omega
                  case rel =>
                    obtain ⟨m1, m2, m3, m4⟩ := HM7.out
                    rw [List.length_append, List.length_singleton] at m1
                    refine ⟨j + 1, _, by omega, by go_num, hid (grown_two (grown_two HGa.out m2 (fun g' hg' => Or.inr (HL.out g' hg').1)) (grown_set w7 _ _) (fun g' hg' => Or.inl (by cases hg'; rfl))), heap_setCell_at HC7.out, ?_, ?_, ?_, ?_⟩
                    · rw [HN2.out]
                      exact m1.setNe (fun g' hg' => by have := (m1.lt g' hg').1; simp only; omega) _
                    · refine NS.kept (NS.kept HLa.out m2 (fun hn g' hg' e => ?_)) (grown_set w7 _ _) (fun hn g' hg' e => ?_)
                      · have h1 := HFl.out hn g' hg'
                        have h2 := HVj.out g' e
                        omega
                      · have h1 := HFl.out hn g' hg'
                        simp at e
                        omega
                    · have := m2.size; simp [World.setCell] at this ⊢; omega
                    · intro g' hg'
                      simp [Value.ownBlock] at hg'
                      subst hg'
                      rcases m3 with m3 | m3
                      · exact HVj.out g7 m3
                      · exact Or.inr (by omega)
            · have hje : j = N.length := by omega
              have HOf2 := hid (show onlE (tgt es) N (N.take (k + 1)) = onlE (tgt es) N (N.take k) ++ ((N.take j).filter (reB (tgt es) y)).map fun m => (y, m) by rw [HT.out, hje, List.take_length])
              clear hje
              go_wp2
              go_roundw
              case rel => exact ⟨k + 1, _, by omega, by go_num, HGj, HCj, by rw [HOf2.out]; exact HOj⟩
              case measure => simp [RowKit.intOf]; omega
        · have hke : k = N.length := by omega
          have HOE2 := hid (show OwnE wf.heap.size wr (.slice ro (onlE (tgt es) N (N.take k)).length co) (onlE (tgt es) N N) from by
            have h := HO.out
            have e : N.take k = N := by rw [hke, List.take_length]
            rw [e] at h ⊢
            exact h)
          have c0 := cellv HGk.out 0 rfl
          have c1' := cellv HGk.out 1 rfl
          have u0 := cellv HQk.out 0 rfl
          have u1 := cellv HQk.out 1 rfl
          have f0 := frozen_of HQk.out 0
          have f1 := frozen_of HQk.out 1
          have hqs := lt_of_block HQ.out
          clear hke HO
          generalize hln : (onlE (tgt es) N (N.take k)).length = ln at *
          clear hln
          go_wp2
          have K0 := heap_setCell_at (o := 0) (v := .slice a1 N.length c1) HQk.out
          have hN := slS_keep K0 no_str (fun k hk => Below.heap_setCell _ ⟨w.heap.size + 1, 1, none⟩ (.slice ro ln co) _ hk) (slS_keep HQk.out no_str (fun k hk => Below.heap_setCell _ ⟨w.heap.size + 1, 0, none⟩ (.slice a1 N.length c1) _ hk) HNk.out)
          have hE := (HOE2.out.setBelow (a := ⟨w.heap.size + 1, 0, none⟩) (by simp only; omega) (.slice a1 N.length c1)).setBelow (a := ⟨w.heap.size + 1, 1, none⟩) (by simp only; omega) (.slice ro ln co)
          exact bodyPost_ret (v := .agg #[.slice a1 N.length c1, .slice ro ln co]) (by simp [results, Try.results26, go_sem, u0, u1]) rfl ⟨_, _, rfl, by rw [HNN.out]; exact hN, by rw [HNN.out]; exact hE.sl, (HBk.out.setCell (p := ⟨w.heap.size + 1, 0, none⟩) (by simp) _).setCell (p := ⟨w.heap.size + 1, 1, none⟩) (by simp) _⟩
end Go.Proofs.Ytlhekldlfmdmiaa
