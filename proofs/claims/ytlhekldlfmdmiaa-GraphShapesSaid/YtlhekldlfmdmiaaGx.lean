import Derived.Test.YtlhekldlfmdmiaaGw
/-
  The program's Only. Conditions: those ahead of each theorem.
-/
namespace Go.Proofs.Ytlhekldlfmdmiaa
open Go.RowKit Go.Sort Go.Lib Go.Maps
open Go.Lib (hid)
set_option linter.unusedVariables false
set_option linter.unusedSimpArgs false

open Classical in
noncomputable def reB (F : ByteArray → List ByteArray) (n m : ByteArray) : Bool := decide (∃ k, Wk F (k + 1) n m)
theorem reB_iff {F : ByteArray → List ByteArray} {n m : ByteArray} : reB F n m = true ↔ ∃ k, Wk F (k + 1) n m := by unfold reB; simp
noncomputable def onlE (F : ByteArray → List ByteArray) (N l : List ByteArray) : List Ed := l.flatMap fun n => (N.filter (reB F n)).map fun m => (n, m)
theorem onlE_snoc (F : ByteArray → List ByteArray) (N l : List ByteArray) (n : ByteArray) : onlE F N (l ++ [n]) = onlE F N l ++ (N.filter (reB F n)).map fun m => (n, m) := by simp [onlE, List.flatMap_append]
theorem onlE_len (F : ByteArray → List ByteArray) (N l : List ByteArray) : (onlE F N l).length ≤ l.length * N.length := by
  unfold onlE
  induction l with
  | nil => simp
  | cons n l ih =>
    rw [List.flatMap_cons, List.length_append, List.length_map, List.length_cons, Nat.add_mul, Nat.one_mul]
    have := List.length_filter_le (reB F n) N
    omega
theorem set_ex (l : List ByteArray) (v : Value) (w : World) (hS : Sl StrR 1 w v l) (hn : l.length ≤ 1000000) :
    Calls Try.prog 47 #[v] w fun r w' => ∃ b, r = .returned (.map (some b)) ∧ SetM w' b (fun x => hasS x l) ∧ Below w.heap.size w w' :=
  (set_any l v w hS hn).mono fun e w' ⟨he, ⟨n, c, hn, ho⟩, hb⟩ => ⟨_, he, setM_of ho, hb⟩
def OnlP (ns : List ByteArray) (es : List Ed) (nodes : List ByteArray) (w : World) (e : Ending) (w' : World) : Prop :=
  ∃ vn ve, e = .returned (.agg #[vn, ve]) ∧ Sl StrR 1 w' vn (ns.filter fun x => hasS x nodes) ∧ Sl EdR 2 w' ve (onlE (tgt es) (ns.filter fun x => hasS x nodes) (ns.filter fun x => hasS x nodes)) ∧ Below w.heap.size w w'

set_option maxRecDepth 100000 in
set_option maxHeartbeats 4000000 in
theorem ponly_any (vn : Value) (ns : List ByteArray) (es : List Ed) (ve vl : Value) (nodes : List ByteArray) (w : World) (hN : Sl StrR 1 w vn ns) (hS : Sl EdR 2 w ve es) (hL : Sl StrR 1 w vl nodes) (hnn : ns.length ≤ 900) (hn : es.length ≤ 100000) (hnl : nodes.length ≤ 100000) :
    Calls Try.prog 25 #[.agg #[vn, ve], vl] w (OnlP ns es nodes w) := by
  obtain ⟨r, c, rfl, _⟩ := id hS
  obtain ⟨rn, cn, rfl, _⟩ := id hN
  obtain ⟨rl, cl, rfl, _⟩ := id hL
  obtain ⟨_, hl1, hm1⟩ := sl_len hN
  have hB0 : Below w.heap.size w ((w.alloc (.cells #[.slice rn ns.length cn, .slice r es.length c] 25)).alloc (.cells #[.slice none 0 0, .slice none 0 0] 25)) := ((Below.refl _ _).alloc (Nat.le_refl _) _).alloc (by simp) _
  have HC0 := hid (show ((w.alloc (.cells #[.slice rn ns.length cn, .slice r es.length c] 25)).alloc (.cells #[.slice none 0 0, .slice none 0 0] 25)).heap[w.heap.size]? = some (.cells #[.slice rn ns.length cn, .slice r es.length c] 25 (0, 0)) from (Below.heap_alloc _ _ _ (by simp)).trans (MapKept.heap_alloc w _).1)
  have HD0 := hid (show ((w.alloc (.cells #[.slice rn ns.length cn, .slice r es.length c] 25)).alloc (.cells #[.slice none 0 0, .slice none 0 0] 25)).heap[w.heap.size + 1]? = some (.cells #[.slice none 0 0, .slice none 0 0] 25 (0, 0)) from (congrArg _ (by simp)).trans (MapKept.heap_alloc _ _).1)
  have hsz0 : w.heap.size + 2 = ((w.alloc (.cells #[.slice rn ns.length cn, .slice r es.length c] 25)).alloc (.cells #[.slice none 0 0, .slice none 0 0] 25)).heap.size := by simp
  have HZ0 := hid hsz0
  have HNs := hid (fun (W : World) (hW : Below w.heap.size w W) => hN.below strR_mono hW)
  have HLs := hid (fun (W : World) (hW : Below w.heap.size w W) => hL.below strR_mono hW)
  have HB0 := hid hB0
  have HNX := hid (next_adj (.slice rn ns.length cn) ns es (.slice r es.length c) _ (hN.below strR_mono hB0) (hS.below edR_mono hB0) (by omega))
  clear hN hS hL hB0 hsz0
  go_enter Try.func25, Try.ntmps25
  go_wp2_with fail
  generalize ((w.alloc (.cells #[.slice rn ns.length cn, .slice r es.length c] 25)).alloc (.cells #[.slice none 0 0, .slice none 0 0] 25)) = W0 at *
  refine HNX.out.mono ?_
  rintro e w1 ⟨b2, rfl, hAd, hb1⟩
  have C1 := hid ((hb1.block w.heap.size (by have := HZ0.out; omega)).trans HC0.out)
  have D1 := hid ((hb1.block (w.heap.size + 1) (by have := HZ0.out; omega)).trans HD0.out)
  have B1 := hid (HB0.out.trans (hb1.mono HB0.out.size))
  have hz1 : w.heap.size + 2 ≤ w1.heap.size := by have := hb1.size; have := HZ0.out; omega
  have HAd := hid hAd
  have z0 := cellv C1.out 0 rfl
  clear HC0 HD0 hb1 HB0 HZ0 HNX hAd
  go_wp2
  have hB : Below w1.heap.size w1 w1.drew := (Below.refl _ _).drew
  have hlt1 : w.heap.size < w1.heap.size := by omega
  go_region_held3 (fun w' => w'.cell? ⟨w.heap.size, 0, none⟩ = some (.slice rn ns.length cn))
    (first | go_keep | exact (World.cell?_of_block ((Below.heap_setCell _ _ _ _ (by simp only; omega)).trans (Below.heap_setCell _ _ _ _ (by simp only; omega)))).trans zc3)
    ((first
      | (go_at_call 47
         refine (set_ex nodes _ _ (HLs.out _ (B1.out.trans (Below.mono (by first | exact hB | exact hB.alloc hB.size _ | exact ((Below.refl _ _).alloc (Nat.le_refl _) _).drew) B1.out.size))) (by omega)).mono ?_
         rintro e w2 ⟨bs, rfl, hSM, hb2⟩
         try have hbo := (hb2.block w1.heap.size (by simp)).trans (MapKept.heap_alloc w1 _).1
         replace hB := (show Below w1.heap.size w1 _ by first | exact hB | exact hB.alloc hB.size _ | exact ((Below.refl _ _).alloc (Nat.le_refl _) _).drew).trans (hb2.mono (by first | exact hB.size | (simp; exact Nat.le_succ_of_le hB.size) | (simp)))
         have hs2 := hB.size
         have zc2 := cellv ((hB.block _ hlt1).trans C1.out) 0 rfl
         clear hb2)
      | (go_at_call 46
         refine (only_any ns _ _ (fun x => hasS x nodes) _ (HNs.out _ (B1.out.trans (Below.mono (by first | exact hB | exact hB.alloc hB.size _ | exact ((Below.refl _ _).alloc (Nat.le_refl _) _).drew) B1.out.size))) (by first | exact hSM | exact hSM.below ((Below.refl _ _).alloc (Nat.le_refl _) _)) (by omega)).mono ?_
         rintro e w3 ⟨v3, rfl, ho3, hb3⟩
         obtain ⟨r3, c3, rfl, hc31, hc32⟩ := ho3.form
         try have hbo3 := (hb3.block w1.heap.size (lt_of_block hbo)).trans hbo
         try have hbo3 := (hb3.block w2.heap.size (by simp)).trans (MapKept.heap_alloc w2 _).1
         try have y0 := cellv hbo3 0 rfl
         try have y1 := cellv hbo3 1 rfl
         try have yf0 := frozen_of hbo3 0
         try have yf1 := frozen_of hbo3 1
         have hO3 := ho3
         replace hB := (show Below w1.heap.size w1 _ by first | exact hB | exact hB.alloc hB.size _ | exact ((Below.refl _ _).alloc (Nat.le_refl _) _).drew).trans (hb3.mono (by first | exact hB.size | (simp; exact Nat.le_succ_of_le hB.size) | (simp)))
         have hs3 := hB.size
         have zc3 := cellv ((hB.block _ hlt1).trans C1.out) 0 rfl
         clear hb3 ho3)))
  all_goals
    first
      | (
       have hE := heap_setCell_at (o := 1) (v := .slice none 0 0) (heap_setCell_at (o := 0) (v := (.slice r3 (ns.filter fun x => hasS x nodes).length c3)) (show w3.heap[w1.heap.size]? = some (.cells #[.slice none 0 0, .slice none 0 0] 25 (0, 0)) from hbo3))
       have hBf := (hB.setCell (p := ⟨w1.heap.size, 0, none⟩) (Nat.le_refl _) (.slice r3 (ns.filter fun x => hasS x nodes).length c3)).setCell (p := ⟨w1.heap.size, 1, none⟩) (Nat.le_refl _) (.slice none 0 0)
       have hlo : ∀ g, (Value.slice r3 (ns.filter fun x => hasS x nodes).length c3).ownBlock = some g → w1.heap.size ≤ g ∧ g ≠ w1.heap.size := fun g hg => by have h1 := hO3.lt g hg; have h2 := lt_of_block hbo; omega
       have hOf : ∃ B', OwnS B' _ (.slice r3 (ns.filter fun x => hasS x nodes).length c3) (ns.filter fun x => hasS x nodes) := ⟨_, (hO3.setNe (a := ⟨w1.heap.size, 0, none⟩) (fun g hg => (hlo g hg).2) (.slice r3 (ns.filter fun x => hasS x nodes).length c3)).setNe (a := ⟨w1.heap.size, 1, none⟩) (fun g hg => (hlo g hg).2) (.slice none 0 0)⟩
       have hbw : w1.heap.size ≤ w1.heap.size := Nat.le_refl _
       generalize ((w3.setCell ⟨w1.heap.size, 0, none⟩ (.slice r3 (ns.filter fun x => hasS x nodes).length c3)).setCell ⟨w1.heap.size, 1, none⟩ (.slice none 0 0)) = Wf at *
       obtain ⟨bo, hbo'⟩ : ∃ bo, bo = w1.heap.size := ⟨_, rfl⟩
       have hbw2 : w1.heap.size ≤ bo := by rw [hbo']; exact hbw
       replace hlo := fun g hg => And.intro (hlo g hg).1 (show g ≠ bo by rw [hbo']; exact (hlo g hg).2)
       rw [← hbo'] at hE ⊢
       clear hbo' hbw
       have hbw := hbw2
       clear hbw2)
      | (
       have hE := heap_setCell_at (o := 1) (v := .slice none 0 0) (heap_setCell_at (o := 0) (v := (.slice r3 (ns.filter fun x => hasS x nodes).length c3)) (show w3.heap[w2.heap.size]? = some (.cells #[.slice none 0 0, .slice none 0 0] 25 (0, 0)) from hbo3))
       have hBf := (hB.setCell (p := ⟨w2.heap.size, 0, none⟩) (hs2) (.slice r3 (ns.filter fun x => hasS x nodes).length c3)).setCell (p := ⟨w2.heap.size, 1, none⟩) (hs2) (.slice none 0 0)
       have hlo : ∀ g, (Value.slice r3 (ns.filter fun x => hasS x nodes).length c3).ownBlock = some g → w1.heap.size ≤ g ∧ g ≠ w2.heap.size := fun g hg => by have h1 := hO3.lt g hg; simp at h1; omega
       have hOf : ∃ B', OwnS B' _ (.slice r3 (ns.filter fun x => hasS x nodes).length c3) (ns.filter fun x => hasS x nodes) := ⟨_, (hO3.setNe (a := ⟨w2.heap.size, 0, none⟩) (fun g hg => (hlo g hg).2) (.slice r3 (ns.filter fun x => hasS x nodes).length c3)).setNe (a := ⟨w2.heap.size, 1, none⟩) (fun g hg => (hlo g hg).2) (.slice none 0 0)⟩
       have hbw : w1.heap.size ≤ w2.heap.size := hs2
       generalize ((w3.setCell ⟨w2.heap.size, 0, none⟩ (.slice r3 (ns.filter fun x => hasS x nodes).length c3)).setCell ⟨w2.heap.size, 1, none⟩ (.slice none 0 0)) = Wf at *
       obtain ⟨bo, hbo'⟩ : ∃ bo, bo = w2.heap.size := ⟨_, rfl⟩
       have hbw2 : w1.heap.size ≤ bo := by rw [hbo']; exact hbw
       replace hlo := fun g hg => And.intro (hlo g hg).1 (show g ≠ bo by rw [hbo']; exact (hlo g hg).2)
       rw [← hbo'] at hE ⊢
       clear hbo' hbw
       have hbw := hbw2
       clear hbw2)
      | (
       have hal : Below w3.heap.size w3 (w3.alloc (.cells #[(.slice r3 (ns.filter fun x => hasS x nodes).length c3), .slice none 0 0] 25)) := (Below.refl _ _).alloc (Nat.le_refl _) _
       have hE : (w3.alloc (.cells #[(.slice r3 (ns.filter fun x => hasS x nodes).length c3), .slice none 0 0] 25)).heap[w3.heap.size]? = some (.cells #[(.slice r3 (ns.filter fun x => hasS x nodes).length c3), .slice none 0 0] 25 (0, 0)) := (MapKept.heap_alloc w3 _).1
       have hBf := hB.trans (hal.mono hB.size)
       have hlo : ∀ g, (Value.slice r3 (ns.filter fun x => hasS x nodes).length c3).ownBlock = some g → w1.heap.size ≤ g ∧ g ≠ w3.heap.size := fun g hg => by have h1 := hO3.lt g hg; have h2 := hs2; omega
       have hOf : ∃ B', OwnS B' _ (.slice r3 (ns.filter fun x => hasS x nodes).length c3) (ns.filter fun x => hasS x nodes) := ⟨_, hO3.below hal⟩
       have hbw : w1.heap.size ≤ w3.heap.size := hs3
       generalize (w3.alloc (.cells #[(.slice r3 (ns.filter fun x => hasS x nodes).length c3), .slice none 0 0] 25)) = Wf at *
       obtain ⟨bo, hbo'⟩ : ∃ bo, bo = w3.heap.size := ⟨_, rfl⟩
       have hbw2 : w1.heap.size ≤ bo := by rw [hbo']; exact hbw
       replace hlo := fun g hg => And.intro (hlo g hg).1 (show g ≠ bo by rw [hbo']; exact (hlo g hg).2)
       rw [← hbo'] at hE ⊢
       clear hbo' hbw
       have hbw := hbw2
       clear hbw2 hal)
    obtain ⟨Bn, hOf⟩ := hOf
    have HE := hid hE
    have HBf := hid hBf
    have HLo := hid hlo
    have HOf := hid hOf
    clear hE hBf hlo hOf hB hO3 hSM zc2 zc3 z0 hlt1
    try clear hbo3
    try clear hbo
    try clear y0 y1 yf0 yf1
    have HNl := hid (show (ns.filter fun x => hasS x nodes).length ≤ 900 from Nat.le_trans (List.length_filter_le _ _) hnn)
    generalize hNN : (ns.filter fun x => hasS x nodes) = N at *
    have HNN := hid hNN
    clear hNN
    have hNl := HNl.out
    have hbs := lt_of_block HE.out
    have q0 := cellv HE.out 0 rfl
    go_wp2
    clear q0
    have HAd2 := hid (fun (W : World) (hW : Below w1.heap.size w1 W) => HAd.out.below hW)
    go_loopw [22] (fun i wr => ∃ (k : Nat) (vo : Value), k ≤ N.length ∧ i = .int .i64 k ∧ Hid (Wf.grownBy wr (some bo)) ∧ Hid (wr.heap[bo]? = some (.cells #[.slice r3 N.length c3, vo] 25 (0, 0))) ∧ Hid (OwnE Wf.heap.size wr vo (onlE (tgt es) N (N.take k)))) (fun i _ => N.length - (intOf i).toNat)
    case atStart => exact ⟨0, _, by omega, rfl, World.grownBy.refl _ _, HE, ownE_nil _ _⟩
    case round =>
      obtain ⟨k, vo, hk, rfl, HG, HC, HO⟩ := hrel
      have hbw1 : Below w1.heap.size w1 wr := Below.grown HBf.out HG.out HBf.out.size (fun g hg => by cases hg; exact hbw)
      have hON := HOf.out.kept HG.out (fun g hg e => (HLo.out g hg).2 (by injection e with e; exact e.symm))
      have hzr := HG.out.size
      obtain ⟨ro, co, rfl, hro1, hro2⟩ := HO.out.form
      by_cases hlt : k < N.length
      · obtain ⟨b, off, rfl, hb, g0, hs⟩ := str_at hON.sl k hlt
        have HT := hid (show N.take (k + 1) = N.take k ++ [N[k]] from List.take_succ_eq_append_getElem hlt)
        generalize N[k] = y at *
        have HS := hid hs
        obtain ⟨rT, cT, hsT, hlkT⟩ := HAd.out.look y hs
        have hl1 := hlkT wr.drew hbw1.drew
        have HRC := hid (reached_any b2 (tgt es) (tgt es y) (tgU es) _ wr.drew (HAd.out.below hbw1.drew) (hsT.below strR_mono hbw1.drew) tgU_mem (by have := tgt_len es y; simp only [tgU, List.length_map]; omega))
        have HBw := hid hbw1
        have HON := hid hON
        have q0 := cellv HC.out 0 rfl
        have hB : Below wr.heap.size wr wr.drew := (Below.refl _ _).drew
        clear hs hsT hlkT hbw1 hON
        go_wp2
        go_region_held3 (fun w' => w'.cell? ⟨bo, 0, none⟩ = some (.slice (some ⟨b, off, none⟩) N.length c3))
          (go_keep)
          ((first
            | (go_at_call 44
               refine HRC.out.mono ?_
               rintro e w5 ⟨sn, n5, c5, rfl, hn5, ho5, hsn5, hb5⟩
               have hSN := setM_of ho5
               have HSn := hid hsn5
               replace hB := hB.trans (hb5.mono hB.size)
               have hs5 := hB.size
               have q5 := cellv ((hB.block bo (by omega)).trans HC.out) 0 rfl
               clear ho5 hsn5 hb5)
            | (go_at_call 46
               refine (only_any N _ _ _ _ (HON.out.below hB).sl hSN (by omega)).mono ?_
               rintro e w6 ⟨v6, rfl, ho6, hb6⟩
               obtain ⟨r6, c6, rfl, hc61, hc62⟩ := ho6.form
               have HO6 := hid ho6
               replace hB := hB.trans (hb6.mono hB.size)
               have q6 := cellv ((hB.block bo (by omega)).trans HC.out) 0 rfl
               clear ho6 hb6)))
        have hfe : (N.filter fun x => hasS x sn) = N.filter (reB (tgt es) y) := List.filter_congr fun x _ => by
          rw [Bool.eq_iff_iff, hasS_iff, HSn.out, reB_iff, far_rch]
        rw [hfe] at HO6 ⊢
        have HLf := hid (show (N.filter (reB (tgt es) y)).length ≤ N.length from List.length_filter_le _ _)
        have HEx := hid (show onlE (tgt es) N (N.take (k + 1)) = onlE (tgt es) N (N.take k) ++ (N.filter (reB (tgt es) y)).map fun m => (y, m) by rw [HT.out, onlE_snoc])
        have HLn := hid (show (onlE (tgt es) N (N.take k)).length ≤ 810000 from by
          have h1 := onlE_len (tgt es) N (N.take k)
          have h2 : (N.take k).length ≤ 900 := by simp; omega
          have h3 : (N.take k).length * N.length ≤ 900 * 900 := Nat.mul_le_mul h2 HNl.out
          omega)
        have HB6 := hid hB
        have HC6 := hid ((hB.block bo (by omega)).trans HC.out)
        have HOx := hid (show OwnE Wf.heap.size w6 (.slice ro (onlE (tgt es) N (N.take k)).length co) (onlE (tgt es) N (N.take k) ++ ((N.filter (reB (tgt es) y)).take 0).map fun m => (y, m)) by simpa using HO.out.below hB)
        have HG6 := hid (grown_two HG.out (grown_below hB) (fun g hg => by cases hg))
        clear hfe hl1 q0 q5 q6 hB
        have HL6 := hid (show ∀ g, (Value.slice r6 (N.filter (reB (tgt es) y)).length c6).ownBlock = some g → wr.heap.size ≤ g ∧ g < w6.heap.size from fun g hg => by have := HO6.out.lt g hg; omega)
        have HLo0 := hid HO.out.lt
        have hs6 := HB6.out.size
        generalize hLL : N.filter (reB (tgt es) y) = LL at *
        clear hLL
        have hLf := HLf.out
        go_wp2
        clear HRC HC HO HG
        obtain ⟨wo, rfl⟩ : ∃ wo : World, wo = wr := ⟨_, rfl⟩
        go_loopg [35] LL.length (fun gg s35 wr => ∃ (j : Nat) (vo : Value), j ≤ LL.length ∧ LL.length - j ≤ gg ∧ s35 = .int .i64 j ∧ Hid (Wf.grownBy wr (some bo)) ∧ Hid (wr.heap[bo]? = some (.cells #[.slice (some ⟨b, off, none⟩) N.length c3, vo] 25 (0, 0))) ∧ Hid (OwnE Wf.heap.size wr vo (onlE (tgt es) N (N.take k) ++ (LL.take j).map fun m => (y, m))) ∧ Hid (∃ Bq, OwnS Bq wr (.slice r6 LL.length c6) LL) ∧ w6.heap.size ≤ wr.heap.size ∧ Hid (∀ g, vo.ownBlock = some g → g < wo.heap.size ∨ w6.heap.size ≤ g))
        case atStart => exact ⟨0, _, by omega, by omega, rfl, HG6, HC6, HOx, ⟨_, HO6.out⟩, Nat.le_refl _, hid (fun g hg => Or.inl (HLo0.out g hg).2)⟩
        case round =>
          clear HG6 HC6 HOx
          obtain ⟨j, vo, hj, hgj, rfl, HG, HC, HO, HLs, hw6, HVo⟩ := hrel
          obtain ⟨rx, cx, rfl, hrx1, hrx2⟩ := HO.out.form
          have hzr2 := HG.out.size
          by_cases hltj : j < LL.length
          · obtain ⟨Bq, hLs⟩ := HLs.out
            obtain ⟨b7, o7, rfl, hb7, g7, hzs⟩ := str_at hLs.sl j hltj
            have HTj := hid (show LL.take (j + 1) = LL.take j ++ [LL[j]] from List.take_succ_eq_append_getElem hltj)
            generalize LL[j] = z at *
            have HYs := hid (show y.size ≤ maxLen ∧ z.size ≤ maxLen from ⟨HS.out, hzs⟩)
            have HR2 := hid (show onlE (tgt es) N (N.take k) ++ (LL.take (j + 1)).map (fun m => (y, m)) = (onlE (tgt es) N (N.take k) ++ (LL.take j).map fun m => (y, m)) ++ [(y, z)] by rw [HTj.out, List.map_append, List.append_assoc]; rfl)
            have HLn2 := hid (show (onlE (tgt es) N (N.take k) ++ (LL.take j).map fun m => (y, m)).length + 1 ≤ 1000000 by have := HLn.out; simp; omega)
            have hal : Below wr.heap.size wr (wr.alloc (.cells #[.string y, .string z] 43)) := (Below.refl _ _).alloc (Nat.le_refl _) _
            have c1 := cellv HC.out 1 rfl
            have HOa := hid (HO.out.below hal)
            have HCa := hid ((hal.block bo (by omega)).trans HC.out)
            have HGa := hid (grown_two HG.out (grown_below hal) (fun g hg => by cases hg))
            have HLa := hid (hLs.below hal)
            have HL := hid HO.out.lt
            clear hLs hzs hal HLs
            generalize hF0 : (onlE (tgt es) N (N.take k) ++ (LL.take j).map fun m => (y, m)) = F0 at *
            clear hF0
            go_wp2_with (at_builtin
                         refine app_ed rfl _ _ rfl Wf.heap.size _ F0 rfl HOa.out wr.heap.size 1 (y, z) rfl (fr := (0, 0)) (by exact (MapKept.heap_alloc wr _).1) HYs.out HLn2.out (by simp; omega) (wr.heap.size + 1) (by simp) ?_
                         intro g cap w7 hm7
                         have hne : ∀ g, (Value.slice rx F0.length cx).ownBlock = some g → g ≠ bo := fun g hg => by have := (HL.out g hg).1; omega
                         have HC7 := hid (own_block hm7.2.1 hne HCa.out)
                         have z1 := cellv HC7.out 1 rfl
                         have f1 := frozen_of HC7.out 1
                         have HM7 := hid hm7
                         clear hm7 hne)
            go_roundg (LL.length - (j + 1))
            case measure => omega
            case rel =>
              obtain ⟨m1, m2, m3, m4⟩ := HM7.out
              rw [List.length_append, List.length_singleton] at m1
              refine ⟨j + 1, _, by omega, by omega, by go_num, hid (grown_two (grown_two HGa.out m2 (fun g hg => Or.inr (HL.out g hg).1)) (grown_set w7 _ _) (fun g hg => Or.inl (by cases hg; rfl))), heap_setCell_at HC7.out, ?_, ⟨Bq, ?_⟩, ?_, ?_⟩
              · rw [HR2.out]
                exact m1.setNe (fun g' hg' => by have := (m1.lt g' hg').1; simp only; omega) _
              · exact (HLa.out.kept m2 (fun g' hg' e => by
                  have h1 := HL6.out g' hg'
                  have h2 := HVo.out g' e
                  omega)).setNe (fun g' hg' => by have h1 := HL6.out g' hg'; simp only; omega) _
              · have := m2.size; simp [World.setCell] at this ⊢; omega
              · intro g' hg'
                simp [Value.ownBlock] at hg'
                subst hg'
                rcases m3 with m3 | m3
                · exact HVo.out g m3
                · exact Or.inr (by omega)
          · have hje : j = LL.length := by omega
            have HOf2 := hid (show onlE (tgt es) N (N.take (k + 1)) = onlE (tgt es) N (N.take k) ++ (LL.take j).map fun m => (y, m) by rw [HEx.out, hje, List.take_length])
            clear hje
            go_wp2
            go_roundw
            case rel => exact ⟨k + 1, _, by omega, by go_num, HG, HC, by rw [HOf2.out]; exact HO⟩
            case measure => simp [intOf]; omega
      · have hke : k = N.length := by omega
        have HOE2 := hid (show OwnE Wf.heap.size wr (.slice ro (onlE (tgt es) N (N.take k)).length co) (onlE (tgt es) N N) from by
          have h := HO.out
          have e : N.take k = N := by rw [hke, List.take_length]
          rw [e] at h ⊢
          exact h)
        have E2 := hid ((hbw1.block (w.heap.size + 1) (by omega)).trans D1.out)
        have HBw := hid (B1.out.trans (hbw1.mono (by omega)))
        have HON := hid hON
        have c0 := cellv HC.out 0 rfl
        have c1 := cellv HC.out 1 rfl
        have u0 := cellv E2.out 0 rfl
        have u1 := cellv E2.out 1 rfl
        have f0 := frozen_of E2.out 0
        have f1 := frozen_of E2.out 1
        clear hke hbw1 hON HO
        generalize hln : (onlE (tgt es) N (N.take k)).length = ln at *
        clear hln
        go_wp2
        have hN := (HON.out.setNe (a := ⟨w.heap.size + 1, 0, none⟩) (fun g hg => by have := HLo.out g hg; simp only; omega) (.slice r3 N.length c3)).setNe (a := ⟨w.heap.size + 1, 1, none⟩) (fun g hg => by have := HLo.out g hg; simp only; omega) (.slice ro ln co)
        have hE := (HOE2.out.setBelow (a := ⟨w.heap.size + 1, 0, none⟩) (by simp only; omega) (.slice r3 N.length c3)).setBelow (a := ⟨w.heap.size + 1, 1, none⟩) (by simp only; omega) (.slice ro ln co)
        exact bodyPost_ret (v := .agg #[.slice r3 N.length c3, .slice ro ln co]) (by simp [results, Try.results25, go_sem, u0, u1]) rfl ⟨_, _, rfl, by rw [HNN.out]; exact hN.sl, by rw [HNN.out]; exact hE.sl, (HBw.out.setCell (p := ⟨w.heap.size + 1, 0, none⟩) (by simp) _).setCell (p := ⟨w.heap.size + 1, 1, none⟩) (by simp) _⟩
end Go.Proofs.Ytlhekldlfmdmiaa
