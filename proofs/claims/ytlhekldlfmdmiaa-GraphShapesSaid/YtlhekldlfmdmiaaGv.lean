import Derived.Test.YtlhekldlfmdmiaaGt
/-
  The program's Cycle. Conditions: those ahead of each theorem.
-/
namespace Go.Proofs.Ytlhekldlfmdmiaa
open Go.RowKit Go.Sort Go.Lib Go.Maps
open Go.Lib (hid)
set_option linter.unusedVariables false
set_option linter.unusedSimpArgs false

theorem next_adj (vn : Value) (ns : List ByteArray) (es : List Ed) (ve : Value) (w : World) (hN : Sl StrR 1 w vn ns) (hS : Sl EdR 2 w ve es) (hn : es.length ≤ 1000000) :
    Calls Try.prog 33 #[.agg #[vn, ve]] w fun e w' => ∃ b, e = .returned (.map (some b)) ∧ Adj w' b (tgt es) ∧ Below w.heap.size w w' :=
  (next_any vn ns es ve w hN hS hn).mono fun e w' ⟨he, ⟨n, hg⟩, hb⟩ => ⟨_, he, hg.adj, hb⟩
theorem tgt_rev {es rs : List Ed} (hp : rs.Perm (es.map swapE)) (x y : ByteArray) : y ∈ tgt rs x ↔ x ∈ tgt es y := by
  rw [mem_tgt, mem_tgt, hp.mem_iff, List.mem_map]
  constructor
  · rintro ⟨⟨a, b⟩, h, e⟩
    simp [swapE] at e
    obtain ⟨rfl, rfl⟩ := e
    exact h
  · intro h; exact ⟨_, h, rfl⟩
theorem find_first {α : Type} {p : α → Bool} : ∀ {l : List α} {k : Nat} (h : k < l.length), (∀ j (hj : j < l.length), j < k → p l[j] = false) → p l[k] = true → l.find? p = some l[k]
  | x :: l, 0, h, _, hp => by rw [List.find?_cons_of_pos]; rfl; exact hp
  | x :: l, k + 1, h, hn, hp => by
    have h0 : p x = false := hn 0 (by simp) (by omega)
    rw [List.find?_cons_of_neg (by rw [h0]; simp)]
    simp only [List.getElem_cons_succ] at hp ⊢
    exact find_first (by simpa using h) (fun j hj hjk => hn (j + 1) (by simpa using hj) (by omega)) hp
theorem int_pred (n : Nat) (h : 1 ≤ n) : Value.int .i64 ((n : Int) - 1) = Value.int .i64 ((n - 1 : Nat) : Int) := by congr 1; omega
def CycP (ns : List ByteArray) (es : List Ed) (w : World) (e : Ending) (w' : World) : Prop :=
  ∃ v, e = .returned v ∧ Sl StrR 1 w' v (cycF (tgt es) ns) ∧ Below w.heap.size w w'

set_option maxRecDepth 100000 in
set_option maxHeartbeats 4000000 in
theorem cycle_any (vn : Value) (ns : List ByteArray) (es : List Ed) (ve : Value) (w : World) (hN : Sl StrR 1 w vn ns) (hS : Sl EdR 2 w ve es) (hnn : ns.length ≤ 100000) (hn : es.length ≤ 100000) :
    Calls Try.prog 15 #[.agg #[vn, ve]] w (CycP ns es w) := by
  obtain ⟨r, c, rfl, _⟩ := id hS
  obtain ⟨rn, cn, rfl, _⟩ := id hN
  obtain ⟨_, hl1, hm1⟩ := sl_len hN
  have hB0 : Below w.heap.size w (w.alloc (.cells #[.slice rn ns.length cn, .slice r es.length c] 25)) := (Below.refl _ _).alloc (Nat.le_refl _) _
  have hC0 : (w.alloc (.cells #[.slice rn ns.length cn, .slice r es.length c] 25)).heap[w.heap.size]? = some (.cells #[.slice rn ns.length cn, .slice r es.length c] 25 (0, 0)) := (MapKept.heap_alloc w _).1
  have HNs := hid (fun (W : World) (hW : Below (w.alloc (.cells #[.slice rn ns.length cn, .slice r es.length c] 25)).heap.size (w.alloc (.cells #[.slice rn ns.length cn, .slice r es.length c] 25)) W) => hN.below strR_mono (hB0.trans (hW.mono hB0.size)))
  have HEs := hid (fun (W : World) (hW : Below (w.alloc (.cells #[.slice rn ns.length cn, .slice r es.length c] 25)).heap.size (w.alloc (.cells #[.slice rn ns.length cn, .slice r es.length c] 25)) W) => hS.below edR_mono (hB0.trans (hW.mono hB0.size)))
  have HB0 := hid hB0
  have HC0 := hid hC0
  have HZs := hid (strs_le hN)
  clear hN hS hB0 hC0
  go_enter Try.func15, Try.ntmps15
  go_wp2
  generalize (w.alloc (.cells #[.slice rn ns.length cn, .slice r es.length c] 25)) = W0 at *
  have z0 := cellv HC0.out 0 rfl
  have z1 := cellv HC0.out 1 rfl
  have hB : Below W0.heap.size W0 W0.drew := (Below.refl _ _).drew
  have tokA : True := trivial
  go_region_held3 (fun w' => w'.cell? ⟨w.heap.size, 0, none⟩ = some (.slice rn ns.length cn) ∧ w'.cell? ⟨w.heap.size, 1, none⟩ = some (.slice r es.length c))
    (exact ⟨cellv (hB.block _ (lt_of_block HC0.out) |>.trans HC0.out) 0 rfl, cellv (hB.block _ (lt_of_block HC0.out) |>.trans HC0.out) 1 rfl⟩)
    ((first
      | (go_at_call 33
         have _t := tokA
         with_reducible refine (next_adj (.slice rn ns.length cn) ns es (.slice r es.length c) _ (HNs.out _ hB) (HEs.out _ hB) (by omega)).mono ?_
         rintro e w1 ⟨b1, rfl, hAd, hb1⟩
         clear tokA _t
         try replace hn5 := hn5.below strR_mono hb1
         try replace hs5 := hs5.below edR_mono hb1
         try replace hAr := hAr.below hb1
         replace hB := hB.trans (hb1.mono hB.size)
         clear hb1)
      | (go_at_call 23
         with_reducible refine (reverse_any (.slice rn ns.length cn) ns es (.slice r es.length c) _ (HNs.out _ hB) (HEs.out _ hB) (by omega) (by omega)).mono ?_
         rintro e w1 ⟨vn5, ve5, rs, rfl, hn5, hs5, hp5, _, hb1⟩
         have HP5 := hid hp5
         have HL5 := hid (show rs.length ≤ 100000 by rw [hp5.length_eq]; simp; omega)
         clear hp5
         try replace hAd := hAd.below hb1
         replace hB := hB.trans (hb1.mono hB.size)
         clear hb1)
      | (go_at_call 33
         with_reducible refine (next_adj vn5 ns rs ve5 _ hn5 hs5 (by have := HL5.out; omega)).mono ?_
         rintro e w1 ⟨b2, rfl, hAr, hb1⟩
         clear hn5 hs5
         try replace hAd := hAd.below hb1
         replace hB := hB.trans (hb1.mono hB.size)
         clear hb1)))
  all_goals
    have HAd := hid hAd
    have HAr := hid hAr
    have HBC := hid hB
    clear hAd hAr hB z0 z1
    have z0 := cellv ((HBC.out.block _ (lt_of_block HC0.out)).trans HC0.out) 0 rfl
    have HN1 := hid (fun (W : World) (hW : Below w1.heap.size w1 W) => str_at (HNs.out _ (HBC.out.trans (hW.mono HBC.out.size))))
    go_wp2
    clear z0
    go_loopw [5, 6, 25] (fun s5 s6 i wr => ∃ (k : Nat) (st : ByteArray) (lg : Nat), k ≤ ns.length ∧ i = .int .i64 k ∧ Below w1.heap.size w1 wr ∧ s5 = .string st ∧ s6 = .int .i64 (lg : Nat) ∧ lg ≤ 800001 ∧ Hid (stF (girF (tgt es)) (ns.take k) = (st, lg))) (fun _ _ i _ => ns.length - (intOf i).toNat)
    case atStart => exact ⟨0, ⟨#[]⟩, 0, by omega, rfl, Below.refl _ _, rfl, rfl, by omega, hid rfl⟩
    case round =>
      obtain ⟨k, st, lg, hk, rfl, hbl, rfl, rfl, hlg, HST⟩ := hrel
      have HBL := hid hbl
      by_cases hlt : k < ns.length
      · obtain ⟨b, off, rfl, hb, g0, hs⟩ := HN1.out _ hbl k hlt
        have HT := hid (show ns.take (k + 1) = ns.take k ++ [ns[k]] from List.take_succ_eq_append_getElem hlt)
        clear hbl
        generalize ns[k] = y at *
        have HS := hid hs
        obtain ⟨rT, cT, hsT, hlkT⟩ := HAd.out.look y hs
        have hl1 := hlkT wr.drew HBL.out.drew
        have HLK := hid hlkT
        have HSL := hid (fun (W : World) (hW : Below w1.heap.size w1 W) => hsT.below strR_mono hW)
        have HSF := hid (stF_snoc (girF (tgt es)) (ns.take k) y)
        clear hs hsT hlkT
        have hB : Below wr.heap.size wr wr.drew := (Below.refl _ _).drew
        go_wp2
        go_region_held3 (fun w' => Below wr.heap.size wr w') (exact hB)
          ((first
            | (go_at_call 40
               refine (distances_any _ (tgt rs) (tgU rs) y _ (HAr.out.below (HBL.out.drew)) HS.out tgU_mem (by have := HL5.out; simp only [tgU, List.length_map]; omega)).mono ?_
               rintro e w2 ⟨D, rfl, hI, hbd, hdp, hb2⟩
               have hl2 := HLK.out w2 (HBL.out.drew.trans (hb2.mono (by exact HBL.out.size)))
               have HI2 := hid hI
               have HBD := hid hbd
               have HDE := hid (dist_dst (F := tgt es) (tgt_rev HP5.out) hdp)
               replace hB := hB.trans (hb2.mono (Nat.le_refl _))
               have HB2 := hid hb2
               clear hI hbd hdp hb2)
            | (go_at_call 39
               refine (around_any (tgt es y) _ _ D _ (HSL.out _ (HBL.out.trans (hB.mono HBL.out.size))) HI2.out (fun x n h => by have := HBD.out x n h; omega)).mono ?_
               rintro e w3 ⟨rfl, rfl⟩
               have hG : arnd D (tgt es y) = girF (tgt es) y := by rw [HDE.out]; exact arnd_gir y
               have hGb : arnd D (tgt es y) ≤ 800001 := arnd_le D (tgt es y) 800000 HBD.out
               rw [hG] at hGb ⊢
               clear hG)))
        all_goals
          have HB3 := hid hB
          clear hB hl1 hl2
          generalize girF (tgt es) y = d at *
          rw [HST.out] at HSF
          by_cases hd0 : d = 0
          · subst hd0
            have HN := hid (show stF (girF (tgt es)) (ns.take (k + 1)) = (st, lg) by rw [HT.out, HSF.out]; simp)
            go_wp2
            go_round
            case rel => exact ⟨k + 1, st, lg, by omega, by go_num, HBL.out.trans (HB3.out.mono HBL.out.size), rfl, rfl, hlg, HN⟩
            case measure => simp [intOf]; omega
          · have hdz : (0 : Int) < (d : Int) := by omega
            by_cases hl0 : lg = 0
            · subst hl0
              have HN := hid (show stF (girF (tgt es)) (ns.take (k + 1)) = (y, d) by rw [HT.out, HSF.out, if_pos ⟨by omega, Or.inl rfl⟩])
              clear hd0
              go_wp2
              go_round
              case rel => exact ⟨k + 1, y, d, by omega, by go_num, HBL.out.trans (HB3.out.mono HBL.out.size), rfl, rfl, hGb, HN⟩
              case measure => simp [intOf]; omega
            · have e0 : ((lg : Int) == 0) = false := by simp; omega
              by_cases hdl : d < lg
              · have hdl2 : (d : Int) < (lg : Int) := by omega
                have HN := hid (show stF (girF (tgt es)) (ns.take (k + 1)) = (y, d) by rw [HT.out, HSF.out, if_pos ⟨by omega, Or.inr hdl⟩])
                clear hd0 hl0
                go_wp2
                go_round
                case rel => exact ⟨k + 1, y, d, by omega, by go_num, HBL.out.trans (HB3.out.mono HBL.out.size), rfl, rfl, hGb, HN⟩
                case measure => simp [intOf]; omega
              · have hdl2 : ¬ (d : Int) < (lg : Int) := by omega
                have HN := hid (show stF (girF (tgt es)) (ns.take (k + 1)) = (st, lg) by rw [HT.out, HSF.out, if_neg (fun h => h.2.elim hl0 hdl)])
                clear hd0 hl0 hdl
                go_wp2
                go_round
                case rel => exact ⟨k + 1, st, lg, by omega, by go_num, HBL.out.trans (HB3.out.mono HBL.out.size), rfl, rfl, hlg, HN⟩
                case measure => simp [intOf]; omega
      · have hke : k = ns.length := by omega
        have HST2 := hid (show stF (girF (tgt es)) ns = (st, lg) from by have h := HST.out; rwa [hke, List.take_length] at h)
        have HSP := hid (stF_spec (girF (tgt es)) ns)
        rw [HST2.out] at HSP
        have HBW := hid (HB0.out.trans ((HBC.out.trans (hbl.mono HBC.out.size)).mono HB0.out.size))
        clear hke hbl HN1
        by_cases hl0 : lg = 0
        · subst hl0
          have HCy := hid (show cycF (tgt es) ns = [] by unfold cycF; rw [HST2.out]; rfl)
          go_wp2
          go_ret
          exact ⟨.slice none 0 0, rfl, by rw [HCy.out]; exact sl_nilS _, HBW.out⟩
        · have e0 : ((lg : Int) == 0) = false := by simp; omega
          obtain ⟨q, rfl⟩ : ∃ q, lg = q + 1 := ⟨lg - 1, by omega⟩
          have hsp : st ∈ ns ∧ girF (tgt es) st = q + 1 := by
            rcases HSP.out with ⟨h, _⟩ | ⟨_, h1, h2⟩
            · exact absurd h hl0
            · exact ⟨h1, h2⟩
          have HSS := hid (HZs.out st hsp.1)
          have HAh := hid (ahead_start hsp.2)
          have HCy := hid (show cycF (tgt es) ns = [st] ++ pthF (tgt es) st q st by unfold cycF; rw [HST2.out]; rfl)
          have HAd2 := hid (fun (W : World) (hW : Below wr.heap.size wr W) => HAd.out.below (HBL.out.trans (hW.mono HBL.out.size)))
          have HDis := hid (distances_any _ (tgt rs) (tgU rs) st wr (HAr.out.below HBL.out) HSS.out tgU_mem (by have := HL5.out; simp only [tgU, List.length_map]; omega))
          clear hl0 hsp
          go_wp2_with fail
          refine HDis.out.mono ?_
          rintro e w2 ⟨D, rfl, hI, hbd, hdp, hb2⟩
          have HI2 := hid (fun (W : World) (hW : Below w2.heap.size w2 W) => (hI.below hW).look_ok)
          have HDE := hid (dist_dst (F := tgt es) (tgt_rev HP5.out) hdp)
          have HBD := hid hbd
          have HB2 := hid hb2
          clear hI hbd hdp hb2 HDis
          have hq : q ≤ 800000 := by omega
          have HO2 := hid (own_lit1 w2 w2.heap.size st (Nat.le_refl _) HSS.out)
          have HBa := hid (show Below w2.heap.size w2 (w2.alloc (.cells #[.string st] 9)) from (Below.refl _ _).alloc (Nat.le_refl _) _)
          have HAd3 := hid (HAd2.out w2 HB2.out)
          have HBW2 := hid (HBW.out.trans (HB2.out.mono HBW.out.size))
          clear HAd2 HST HST2 HSP HBW HB2 HAr HAd HBD
          go_wp2
          go_loopg [11, 12] q (fun gg s11 s12 wr => ∃ (n : Nat) (O : List ByteArray) (last : ByteArray), n ≤ gg ∧ s12 = .int .i64 (n : Nat) ∧ O.length + n ≤ 800000 ∧ Hid (OwnS w2.heap.size wr s11 (O ++ [last])) ∧ Hid (Below w2.heap.size w2 wr) ∧ Hid (Ahead (tgt es) st last n) ∧ Hid (cycF (tgt es) ns = (O ++ [last]) ++ pthF (tgt es) st n last))
          case atStart => exact ⟨q, [], st, by omega, rfl, by simp; omega, HO2, HBa, HAh, HCy⟩
          case round =>
            clear HO2 HBa HAh HCy
            obtain ⟨n, O, last, hng, rfl, hon, HO, HB, HAh, HCy⟩ := hrel
            obtain ⟨ro, co, rfl, hro1, hro2⟩ := HO.out.form
            unfold maxLen at hro2
            have hol : (O ++ [last]).length = O.length + 1 := by simp
            have HOL := hid hol
            rw [hol] at HO hro1
            rw [hol]
            clear hol
            by_cases hn0 : n = 0
            · subst hn0
              have HF := hid (show cycF (tgt es) ns = O ++ [last] by rw [HCy.out]; simp [pthF])
              go_wp2
              go_ret
              exact ⟨.slice ro (O.length + 1) co, rfl, by rw [HF.out]; exact HO.out.sl, HBW2.out.trans (HB.out.mono HBW2.out.size)⟩
            · have hnz : (0 : Int) < (n : Int) := by omega
              have hn1 : 1 ≤ n := by omega
              have hsl := HO.out.sl
              obtain ⟨bo, oo, rfl, hbo, go, hlast⟩ := str_at hsl O.length (by simp)
              simp only [List.getElem_concat_length] at go hlast
              obtain ⟨rT, cT, hsT, hlkT⟩ := HAd3.out.look last hlast
              have hl1 := hlkT wr HB.out
              obtain ⟨_, hlT1, hlT2⟩ := sl_len hsT
              have HSL := hid (fun (W : World) (hW : Below w2.heap.size w2 W) => str_at (hsT.below strR_mono hW))
              have HFn := hid (show ∃ m, (tgt es last).find? (fun m => decide (dstF (tgt es) m st = some n)) = some m ∧ m ∈ tgt es last ∧ dstF (tgt es) m st = some n from by
                have h := HAh.out
                obtain ⟨n', rfl⟩ : ∃ n', n = n' + 1 := ⟨n - 1, by omega⟩
                exact ahead_find h)
              have HP := hid (show ∀ m, (tgt es last).find? (fun m => decide (dstF (tgt es) m st = some n)) = some m → cycF (tgt es) ns = (O ++ [last] ++ [m]) ++ pthF (tgt es) st (n - 1) m ∧ (dstF (tgt es) m st = some n → Ahead (tgt es) st m (n - 1)) from fun m hm => by
                obtain ⟨n', rfl⟩ : ∃ n', n = n' + 1 := ⟨n - 1, by omega⟩
                rw [HCy.out, pthF, hm]
                exact ⟨by simp, fun h => ahead_next (last := last) h⟩)
              have HIL := hid (HI2.out wr HB.out)
              clear hsl hsT hlkT hlast hn0 HAh HCy
              go_wp2
              generalize hTT : tgt es last = T at *
              clear hTT hl1
              obtain ⟨wo, rfl⟩ : ∃ wo : World, wo = wr := ⟨_, rfl⟩
              go_loopg [11, 72] T.length (fun gg s11 s72 wx => ∃ k : Nat, k ≤ T.length ∧ T.length - k ≤ gg ∧ s72 = .int .i64 k ∧ s11 = .slice (some ⟨bo, oo, none⟩) (O.length + 1) co ∧ Aside (wo = wx) ∧ Hid (∀ j (hj : j < T.length), j < k → decide (dstF (tgt es) T[j] st = some n) = false))
              case atStart => exact ⟨0, by omega, by omega, rfl, rfl, rfl, hid (fun j hj h => absurd h (by omega))⟩
              case round =>
                obtain ⟨k, hk, hg3, rfl, rfl, HW, HNo⟩ := hrel
                obtain rfl : wo = wr := HW.out
                by_cases hlt : k < T.length
                · obtain ⟨b3, o3, rfl, hb3, g3, hys⟩ := HSL.out wo HB.out k hlt
                  have HFf := hid (fun h => find_first (p := fun m => decide (dstF (tgt es) m st = some n)) hlt HNo.out h)
                  have HNn := hid (fun (h : decide (dstF (tgt es) T[k] st = some n) = false) => show ∀ j (hj : j < T.length), j < k + 1 → decide (dstF (tgt es) T[j] st = some n) = false from fun j hj hjk => by
                    by_cases e : j < k
                    · exact HNo.out j hj e
                    · obtain rfl : j = k := by omega
                      exact h)
                  clear HNo
                  generalize T[k] = y at *
                  have HYS := hid hys
                  have hlk := HIL.out y hys
                  rw [HDE.out] at hlk
                  clear hys HW
                  cases hd : dstF (tgt es) y st with
                  | none =>
                    simp only [hd] at hlk
                    have HN2 := hid (HNn.out (by rw [hd]; simp))
                    clear HFf HNn hd
                    go_wp2
                    go_roundg (T.length - (k + 1))
                    case measure => omega
                    case rel => exact ⟨k + 1, by omega, by omega, by go_num, rfl, rfl, HN2⟩
                  | some d =>
                    simp only [hd, Option.getD_some, Option.isSome_some] at hlk
                    by_cases hdn : d = n
                    · subst hdn
                      have hpp : decide (dstF (tgt es) y st = some d) = true := by rw [hd]; simp
                      have HC2 := hid (HP.out y (HFf.out hpp)).1
                      have HA2 := hid ((HP.out y (HFf.out hpp)).2 hd)
                      have HOa := hid (HO.out.below ((Below.refl _ _).alloc (Nat.le_refl _) (.cells #[.string y] 9)))
                      have HBa := hid (HB.out.alloc HB.out.size (.cells #[.string y] 9))
                      have hszz := HB.out.size
                      have HLo := hid HO.out.lt
                      have HLn := hid (show (O ++ [last]).length + 1 ≤ 1000000 by rw [HOL.out]; omega)
                      rw [← HOL.out]
                      clear hpp hd HFf HNn
                      go_wp2_with (at_builtin
                                   refine app_str rfl _ _ rfl w2.heap.size _ (O ++ [last]) rfl (by rw [HOL.out]; exact HOa.out) wo.heap.size 1 y rfl (fr := (0, 0)) (by exact (MapKept.heap_alloc wo _).1) HYS.out HLn.out (by simp; omega) (wo.heap.size + 1) (by simp) ?_
                                   intro g cap w7 hm7
                                   have HM7 := hid hm7
                                   clear hm7)
                      have hpd := int_pred d hn1
                      go_roundg (d - 1)
                      case measure => omega
                      case rel =>
                        obtain ⟨m1, m2, m3, m4⟩ := HM7.out
                        have e2 : (O ++ [last] ++ [y]).length = (O ++ [last]).length + 1 := by simp
                        rw [e2, HOL.out] at m1
                        refine ⟨d - 1, O ++ [last], y, Nat.le_refl _, hpd, by rw [HOL.out]; omega, m1, Below.grown HBa.out m2 HBa.out.size (fun g hg => (HLo.out g hg).1), HA2, HC2⟩
                    · have e1 : ((d : Int) == (n : Int)) = false := by simp; omega
                      have HN2 := hid (HNn.out (by rw [hd]; simp [hdn]))
                      clear HFf HNn hd hdn
                      go_wp2
                      go_roundg (T.length - (k + 1))
                      case measure => omega
                      case rel => exact ⟨k + 1, by omega, by omega, by go_num, rfl, rfl, HN2⟩
                · exfalso
                  obtain ⟨m, hf, hm, hd⟩ := HFn.out
                  obtain ⟨j, hj, e⟩ := List.mem_iff_getElem.1 hm
                  have := HNo.out j hj (by omega)
                  rw [e, hd] at this
                  simp at this
end Go.Proofs.Ytlhekldlfmdmiaa
