import Derived.Test.YtlhekldlfmdmiaaNds
/-
  The reference's Cycle. Conditions: those ahead of each theorem.
-/
namespace Go.Proofs.Ytlhekldlfmdmiaa
open Go.RowKit Go.Sort Go.Lib Go.Maps
open Go.Lib (hid)
set_option linter.unusedVariables false
set_option linter.unusedSimpArgs false

theorem nxt_tgt {es : List Ed} (h : AscE es) (x : ByteArray) : nxtL es [x] = tgt es x := ascB_eq (nxtL_asc _ _) (tgt_asc h x) fun _ => nxt_one
theorem gir_bd (es : List Ed) (a : ByteArray) : girF (tgt es) a ≤ es.length + 2 := dis_bd es a a
theorem dis_hit {F : ByteArray → List ByteArray} {a b : ByteArray} {n : Nat} (h : 1 ≤ n) : decide (dstF F a b = some n) = (decide (disF F a b = n) && !decide (a = b)) := by
  obtain ⟨m, rfl⟩ : ∃ m, n = m + 1 := ⟨n - 1, by omega⟩
  by_cases e : a = b
  · subst e
    rw [dst_self]; simp
  · have := dis_dst (F := F) (n := m) e
    simp [e, this]
set_option maxRecDepth 100000 in
set_option maxHeartbeats 4000000 in
theorem rcycle_any (vn ve : Value) (ns : List ByteArray) (es : List Ed) (w : World) (hN : Sl StrR 1 w vn ns) (hS : Sl EdR 2 w ve es) (hA : AscE es) (hnn : ns.length ≤ 10000) (hn : es.length ≤ 10000) :
    Calls Try.prog 16 #[.agg #[vn, ve]] w (CycP ns es w) := by
  obtain ⟨r, c, rfl, _⟩ := id hS
  obtain ⟨rn, cn, rfl, _⟩ := id hN
  obtain ⟨_, hl1, hm1⟩ := sl_len hN
  have HZs := hid (strs_le hN)
  have HN := hid (fun (W : World) (hW : Below w.heap.size w W) => hN.below strR_mono hW)
  have HS := hid (fun (W : World) (hW : Below w.heap.size w W) => hS.below edR_mono hW)
  have HB0 := hid (show Below w.heap.size w (w.alloc (.cells #[.slice rn ns.length cn, .slice r es.length c] 25)) from (Below.refl _ _).alloc (Nat.le_refl _) _)
  have HC0 := hid (show (w.alloc (.cells #[.slice rn ns.length cn, .slice r es.length c] 25)).heap[w.heap.size]? = some (.cells #[.slice rn ns.length cn, .slice r es.length c] 25 (0, 0)) from (MapKept.heap_alloc w _).1)
  have HT0 := hid (nxt_tgt hA)
  clear hN hS hA
  go_enter Try.func16, Try.ntmps16
  go_wp2
  generalize (w.alloc (.cells #[.slice rn ns.length cn, .slice r es.length c] 25)) = W0 at *
  go_loopw [3, 4, 5] (fun s3 s4 i wr => ∃ (k : Nat) (st : ByteArray) (lg : Nat), k ≤ ns.length ∧ i = .int .i64 k ∧ Hid (Below W0.heap.size W0 wr) ∧ s4 = .string st ∧ s3 = .int .i64 (lg : Nat) ∧ lg ≤ es.length + 2 ∧ Hid (stF (girF (tgt es)) (ns.take k) = (st, lg))) (fun _ _ i _ => ns.length - (RowKit.intOf i).toNat)
  case atStart => exact ⟨0, ⟨#[]⟩, 0, by omega, rfl, hid (Below.refl _ _), rfl, rfl, by omega, hid rfl⟩
  case round =>
    obtain ⟨k, st, lg, hk, rfl, HBL, rfl, rfl, hlg, HST⟩ := hrel
    have HBW := hid (HB0.out.trans (HBL.out.mono HB0.out.size))
    have HCW := hid ((HBL.out.block _ (lt_of_block HC0.out)).trans HC0.out)
    have z0 := cellv HCW.out 0 rfl
    have z1 := cellv HCW.out 1 rfl
    by_cases hlt : k < ns.length
    · obtain ⟨b, off, rfl, hb, g0, hs⟩ := str_at (HN.out _ HBW.out) k hlt
      have HT := hid (show ns.take (k + 1) = ns.take k ++ [ns[k]] from List.take_succ_eq_append_getElem hlt)
      have k2 : (0 : Int) ≤ (k : Int) := by omega
      have k3 : (k : Int) < (ns.length : Int) := by omega
      generalize ns[k] = y at *
      have HSz := hid hs
      have CD := hid (fun (W : World) (hW : Below wr.heap.size wr W) => rdist_any _ _ ns es y y W (HN.out _ (HBW.out.trans (hW.mono HBW.out.size))) (HS.out _ (HBW.out.trans (hW.mono HBW.out.size))) HSz.out hn)
      have HSF := hid (stF_snoc (girF (tgt es)) (ns.take k) y)
      have hGb := gir_bd es y
      clear hs
      have hB : Below wr.heap.size wr wr.drew := (Below.refl _ _).drew
      go_wp2
      go_region_held3 (fun w' => w'.cell? ⟨w.heap.size, 0, none⟩ = some (.slice (some ⟨b, off, none⟩) ns.length cn) ∧ w'.cell? ⟨w.heap.size, 1, none⟩ = some (.slice r es.length c) ∧ w'.cell? ⟨b, off + k, none⟩ = some (.string y))
        (first | go_keep | exact ⟨bget hB z0, bget hB z1, bget hB g0⟩)
        ((go_at_call 41
          refine (CD.out _ hB).mono ?_
          rintro e w3 ⟨rfl, hb3⟩
          rw [dis_gir]
          replace hB := hB.trans (hb3.mono hB.size)
          clear hb3))
      all_goals
        have HBn := hid (HBL.out.trans (hB.mono HBL.out.size))
        have q0 := bget hB z0
        have q1 := bget hB g0
        clear z0 z1 g0 hB CD
        generalize girF (tgt es) y = d at *
        rw [HST.out] at HSF
        by_cases hd0 : d = 0
        · subst hd0
          have HN := hid (show stF (girF (tgt es)) (ns.take (k + 1)) = (st, lg) by rw [HT.out, HSF.out]; simp)
          go_wp2
          go_roundw
          case rel => exact ⟨k + 1, st, lg, by omega, by go_num, HBn, rfl, rfl, hlg, HN⟩
          case measure => simp [RowKit.intOf]; omega
        · have hdz : (0 : Int) < (d : Int) := by omega
          by_cases hl0 : lg = 0
          · subst hl0
            have HN := hid (show stF (girF (tgt es)) (ns.take (k + 1)) = (y, d) by rw [HT.out, HSF.out, if_pos ⟨by omega, Or.inl rfl⟩])
            clear hd0
            go_wp2
            go_quiet (fail)
            go_wp2
            go_roundw
            case rel => exact ⟨k + 1, y, d, by omega, by go_num, hid (HBn.out.drewN _), rfl, rfl, hGb, HN⟩
            case measure => simp [RowKit.intOf]; omega
          · have e0 : ((lg : Int) == 0) = false := by simp; omega
            by_cases hdl : d < lg
            · have hdl2 : (d : Int) < (lg : Int) := by omega
              have HN := hid (show stF (girF (tgt es)) (ns.take (k + 1)) = (y, d) by rw [HT.out, HSF.out, if_pos ⟨by omega, Or.inr hdl⟩])
              clear hd0 hl0
              go_wp2
              go_quiet (fail)
              go_wp2
              go_roundw
              case rel => exact ⟨k + 1, y, d, by omega, by go_num, hid (HBn.out.drewN _), rfl, rfl, hGb, HN⟩
              case measure => simp [RowKit.intOf]; omega
            · have hdl2 : ¬ (d : Int) < (lg : Int) := by omega
              have HN := hid (show stF (girF (tgt es)) (ns.take (k + 1)) = (st, lg) by rw [HT.out, HSF.out, if_neg (fun h => h.2.elim hl0 hdl)])
              clear hd0 hl0 hdl
              go_wp2
              go_roundw
              case rel => exact ⟨k + 1, st, lg, by omega, by go_num, HBn, rfl, rfl, hlg, HN⟩
              case measure => simp [RowKit.intOf]; omega
    · have hke : k = ns.length := by omega
      have HST2 := hid (show stF (girF (tgt es)) ns = (st, lg) from by have h := HST.out; rwa [hke, List.take_length] at h)
      have HSP := hid (stF_spec (girF (tgt es)) ns)
      rw [HST2.out] at HSP
      clear hke
      by_cases hl0 : lg = 0
      · subst hl0
        have HCy := hid (show cycF (tgt es) ns = [] by unfold cycF; rw [HST2.out]; rfl)
        go_wp2
        go_ret
        exact ⟨.slice none 0 0, rfl, by rw [HCy.out]; exact sl_nilS _, HBW.out⟩
      · have e0 : ((lg : Int) == 0) = false := by simp; omega
        obtain ⟨q, rfl⟩ : ∃ q, lg = q + 1 := ⟨lg - 1, by omega⟩
        have hsp : st ∈ ns ∧ girF (tgt es) st = q + 1 := by
          rcases HSP.out with ⟨h, _⟩ | ⟨_, h1, h2⟩
          · exact absurd h hl0
          · exact ⟨h1, h2⟩
        have HSS := hid (HZs.out st hsp.1)
        have HAh := hid (ahead_start hsp.2)
        have HCy := hid (show cycF (tgt es) ns = [st] ++ pthF (tgt es) st q st by unfold cycF; rw [HST2.out]; rfl)
        have HO2 := hid (own_lit1 wr wr.heap.size st (Nat.le_refl _) HSS.out)
        have HBa := hid (show Below wr.heap.size wr (wr.alloc (.cells #[.string st] 9)) from (Below.refl _ _).alloc (Nat.le_refl _) _)
        obtain ⟨w2, rfl⟩ : ∃ w2 : World, w2 = wr := ⟨_, rfl⟩
        clear hl0 hsp HST HST2 HSP
        go_wp2
        clear z0 z1
        go_loopg [7] q (fun gg s7 wr => ∃ (n : Nat) (O : List ByteArray) (last : ByteArray), n ≤ gg ∧ O.length + n = q ∧ Hid (OwnS w2.heap.size wr s7 (O ++ [last])) ∧ Hid (Below w2.heap.size w2 wr) ∧ Hid (Ahead (tgt es) st last n) ∧ Hid (cycF (tgt es) ns = (O ++ [last]) ++ pthF (tgt es) st n last))
        case atStart => exact ⟨q, [], st, by omega, by simp, HO2, HBa, HAh, HCy⟩
        case round =>
          clear HO2 HBa HAh HCy
          obtain ⟨n, O, last, hng, hon, HO, HB, HAh, HCy⟩ := hrel
          have HBW2 := hid (HBW.out.trans (HB.out.mono HBW.out.size))
          have HCW2 := hid ((HB.out.block _ (lt_of_block HCW.out)).trans HCW.out)
          obtain ⟨ro, co, rfl, hro1, hro2⟩ := HO.out.form
          unfold maxLen at hro2
          have hol : (O ++ [last]).length = O.length + 1 := by simp
          have HOL := hid hol
          rw [hol] at HO hro1
          rw [hol]
          clear hol
          by_cases hn0 : n = 0
          · subst hn0
            have HF := hid (show cycF (tgt es) ns = O ++ [last] by rw [HCy.out]; simp [pthF])
            have hlo : ¬ (O.length : Int) < (q : Int) := by omega
            have HON := hid hon
            clear hon
            go_wp2
            go_ret
            exact ⟨.slice ro (O.length + 1) co, rfl, by rw [HF.out]; exact HO.out.sl, HBW2.out⟩
          · obtain ⟨n, rfl⟩ : ∃ n', n = n' + 1 := ⟨n - 1, by omega⟩
            have hlo : (O.length : Int) < (q : Int) := by omega
            obtain ⟨bo, oo, rfl, hbo, go, hlast⟩ := str_at HO.out.sl O.length (by simp)
            simp only [List.getElem_concat_length] at go hlast
            have HLS := hid hlast
            have z0 := cellv HCW2.out 0 rfl
            have z1 := cellv HCW2.out 1 rfl
            have CN := hid (fun (W : World) (vf : Value) (hW : Below wr.heap.size wr W) (hf : Sl StrR 1 W vf [last]) => rnext_any _ _ vf ns es [last] W (HN.out _ (HBW2.out.trans (hW.mono HBW2.out.size))) (HS.out _ (HBW2.out.trans (hW.mono HBW2.out.size))) hf (by omega))
            have t1 : IntKind.i64.wrap ((O.length : Int) + 1 - 1) = (O.length : Int) := by rw [show (O.length : Int) + 1 - 1 = (O.length : Int) by omega]; exact IntWalk.i64_in _ (by omega)
            have t2 : IntKind.i64.wrap (O.length : Int) = (O.length : Int) := IntWalk.i64_in _ (by omega)
            have t3 : (0 : Int) ≤ (O.length : Int) := by omega
            have t4 : (O.length : Int) < ((O.length + 1 : Nat) : Int) := by omega
            have t5 : (O.length : Int) < (O.length : Int) + 1 := by omega
            have hB : Below wr.heap.size wr wr.drew := (Below.refl _ _).drew
            clear hlast hn0
            go_wp2
            go_region_held3 (fun w' => w'.cell? ⟨w.heap.size, 0, none⟩ = some (.slice rn ns.length cn) ∧ w'.cell? ⟨w.heap.size, 1, none⟩ = some (.slice r es.length c) ∧ w'.cell? ⟨bo, oo + O.length, none⟩ = some (.string last))
              (first | go_keep | exact ⟨bget hB z0, bget hB z1, bget hB go⟩)
              ((go_at_call 42
                refine (CN.out _ _ (by first | exact hB.alloc hB.size _ | exact ((Below.refl _ _).alloc (Nat.le_refl _) _).drew) (by first | exact lit_at (heap_one _ _) HLS.out)).mono ?_
                rintro e w3 ⟨v3, rfl, hns3, hb3⟩
                have HX3 := hid (fun (W : World) (hW : Below w3.heap.size w3 W) => hns3.below hW)
                obtain ⟨rx, cx, rfl, hrx1, hrx2⟩ := hns3.form
                replace hB := (show Below wr.heap.size wr _ by first | exact hB.alloc hB.size _ | exact ((Below.refl _ _).alloc (Nat.le_refl _) _).drew).trans (hb3.mono (by first | (simp; exact Nat.le_succ_of_le hB.size) | (simp; done) | (simp; omega)))
                clear hb3 hns3))
            all_goals
              have HBn := hid (HB.out.trans (hB.mono HB.out.size))
              have HBWn := hid (HBW2.out.trans (hB.mono HBW2.out.size))
              have HCn := hid ((hB.block _ (lt_of_block HCW2.out)).trans HCW2.out)
              have HOn := hid (HO.out.below hB)
              have HFn := hid (ahead_find HAh.out)
              have HP := hid (show ∀ m, (tgt es last).find? (fun m => decide (dstF (tgt es) m st = some (n + 1))) = some m → cycF (tgt es) ns = (O ++ [last] ++ [m]) ++ pthF (tgt es) st n m ∧ (dstF (tgt es) m st = some (n + 1) → Ahead (tgt es) st m n) from fun m hm => by
                rw [HCy.out, pthF, hm]
                exact ⟨by simp, fun h => ahead_next (last := last) h⟩)
              have t6 : (q : Int) + 1 - ((O.length : Int) + 1) = (n : Int) + 1 := by omega
              have t7 : (q : Int) - (O.length : Int) = (n : Int) + 1 := by omega
              have hTl := nxtL_len es [last]
              rw [HT0.out last] at HX3 hrx1 hTl ⊢
              generalize tgt es last = T at *
              clear z0 z1 go hB CN t1 t2 t3 t4 t5 HAh HCy HO HB hlo
              go_wp2
              clear t6 t7
              obtain ⟨wo, rfl⟩ : ∃ wo : World, wo = wr := ⟨_, rfl⟩
              go_loopg [7, 10] T.length (fun gg s7 s10 wx => ∃ k : Nat, k ≤ T.length ∧ T.length - k ≤ gg ∧ s10 = .int .i64 k ∧ s7 = .slice (some ⟨bo, oo, none⟩) (O.length + 1) co ∧ Hid (Below w3.heap.size w3 wx) ∧ Hid (∀ j (hj : j < T.length), j < k → decide (dstF (tgt es) T[j] st = some (n + 1)) = false))
              case atStart => exact ⟨0, by omega, by omega, rfl, rfl, hid (Below.refl _ _), hid (fun j hj h => absurd h (by omega))⟩
              case round =>
                obtain ⟨k, hk, hg3, rfl, rfl, HBk, HNo⟩ := hrel
                have HBWk := hid (HBWn.out.trans (HBk.out.mono HBWn.out.size))
                have HBok := hid (HBn.out.trans (HBk.out.mono HBn.out.size))
                have HCk := hid ((HBk.out.block _ (lt_of_block HCn.out)).trans HCn.out)
                have HOk := hid (HOn.out.below HBk.out)
                have z0 := cellv HCk.out 0 rfl
                have z1 := cellv HCk.out 1 rfl
                by_cases hlt : k < T.length
                · obtain ⟨b3, o3, rfl, hb3, g3, hys⟩ := str_at (HX3.out _ HBk.out).1 k hlt
                  have HFf := hid (fun h => find_first (p := fun m => decide (dstF (tgt es) m st = some (n + 1))) hlt HNo.out h)
                  have HNn := hid (fun (h : decide (dstF (tgt es) T[k] st = some (n + 1)) = false) => show ∀ j (hj : j < T.length), j < k + 1 → decide (dstF (tgt es) T[j] st = some (n + 1)) = false from fun j hj hjk => by
                    by_cases e : j < k
                    · exact HNo.out j hj e
                    · obtain rfl : j = k := by omega
                      exact h)
                  have k2 : (0 : Int) ≤ (k : Int) := by omega
                  have k3 : (k : Int) < (T.length : Int) := by omega
                  clear HNo
                  generalize T[k] = y at *
                  have HYS := hid hys
                  have hit := dis_hit (F := tgt es) (a := y) (b := st) (n := n + 1) (by omega)
                  have CD := hid (fun dd os => Calls.regrown_of (rdist_any _ _ ns es y st (grow (redrawn wr dd) os) (HN.out _ (HBWk.out.trans ((below_regrown wr dd os).mono HBWk.out.size))) (HS.out _ (HBWk.out.trans ((below_regrown wr dd os).mono HBWk.out.size))) HYS.out hn))
                  have HDs := hid (fun (h : decide (dstF (tgt es) y st = some (n + 1)) = true) => of_decide_eq_true h)
                  generalize disF (tgt es) y st = d at *
                  rw [hit] at HFf HNn HDs
                  have y0 := cell_regrown z0
                  have y1 := cell_regrown z1
                  have y3 := cell_regrown g3
                  clear hys hit z0 z1 g3
                  by_cases hdn : d = n + 1
                  · subst hdn
                    by_cases hys2 : y = st
                    · have HN2 := hid (HNn.out (by simp [hys2]))
                      have e1 : (y.toList == st.toList) = true := by rw [hys2]; simp
                      have e2 : (y.toList != st.toList) = false := by rw [hys2]; simp
                      clear HFf HNn HDs hys2
                      go_wp2_with fail
                      refine wp_region_quiet_below (by kernel_rfl) (by kernel_rfl) ?_
                      repeat (go_big_quiet_step ((go_at_call 41; exact CD.out _ _)))
                      refine wpQuiet_nil ?_
                      intro _ hw'
                      obtain ⟨⟨dq, osq⟩, hw''⟩ := hw'
                      subst hw''
                      have hB := below_regrown wr dq osq
                      have q3 := y3 dq osq
                      generalize grow (redrawn wr dq) osq = w4 at *
                      clear y0 y1 y3
                      have HBe := hid (HBk.out.trans (hB.mono HBk.out.size))
                      clear CD hB
                      go_wp2
                      go_roundg (T.length - (k + 1))
                      case measure => omega
                      case rel => exact ⟨k + 1, by omega, by omega, by go_num, rfl, HBe, HN2⟩
                    · have HN2 := hid (HFf.out (by simp [hys2]))
                      have HD2 := hid (HDs.out (by simp [hys2]))
                      have HC2 := hid (HP.out y HN2.out).1
                      have HA2 := hid ((HP.out y HN2.out).2 HD2.out)
                      have e1 := str_ne hys2
                      have e2 : (y.toList != st.toList) = true := by rw [bne, e1]; rfl
                      clear HFf HNn HDs HN2 HD2 hys2
                      go_wp2_with fail
                      refine wp_region_quiet_below (by kernel_rfl) (by kernel_rfl) ?_
                      repeat (go_big_quiet_step ((go_at_call 41; exact CD.out _ _)))
                      refine wpQuiet_nil ?_
                      intro _ hw'
                      obtain ⟨⟨dq, osq⟩, hw''⟩ := hw'
                      subst hw''
                      have hB := below_regrown wr dq osq
                      have q3 := y3 dq osq
                      generalize grow (redrawn wr dq) osq = w4 at *
                      clear y0 y1 y3
                      have HBe := hid (HBok.out.trans (hB.mono HBok.out.size))
                      have HOe := hid (HOk.out.below hB)
                      clear CD hB
                      have HOa := hid (HOe.out.below ((Below.refl _ _).alloc (Nat.le_refl _) (.cells #[.string y] 9)))
                      have HBa := hid (HBe.out.alloc HBe.out.size (.cells #[.string y] 9))
                      have hszz := HBe.out.size
                      have HLo := hid HOe.out.lt
                      have HLn := hid (show (O ++ [last]).length + 1 ≤ 1000000 by rw [HOL.out]; omega)
                      rw [← HOL.out]
                      go_wp2_with (at_builtin
                                   refine app_str rfl _ _ rfl w2.heap.size _ (O ++ [last]) rfl (by rw [HOL.out]; exact HOa.out) w4.heap.size 1 y rfl (fr := (0, 0)) (by exact (MapKept.heap_alloc w4 _).1) HYS.out HLn.out (by simp; omega) (w4.heap.size + 1) (by simp) ?_
                                   intro g cap w7 hm7
                                   have HM7 := hid hm7
                                   clear hm7)
                      go_roundg n
                      case measure => omega
                      case rel =>
                        obtain ⟨m1, m2, m3, m4⟩ := HM7.out
                        have e2 : (O ++ [last] ++ [y]).length = (O ++ [last]).length + 1 := by simp
                        rw [e2, HOL.out] at m1
                        exact ⟨n, O ++ [last], y, Nat.le_refl _, by rw [HOL.out]; omega, m1, Below.grown HBa.out m2 HBa.out.size (fun g hg => (HLo.out g hg).1), HA2, HC2⟩
                  · have e1 : ((d : Int) == (n : Int) + 1) = false := by rw [beq_eq_false_iff_ne]; omega
                    have e3 : decide ((d : Int) = (n : Int) + 1) = false := by rw [decide_eq_false_iff_not]; omega
                    have HN2 := hid (HNn.out (by simp [hdn]))
                    clear HFf HNn HDs hdn
                    go_wp2_with fail
                    refine wp_region_quiet_below (by kernel_rfl) (by kernel_rfl) ?_
                    repeat (go_big_quiet_step ((go_at_call 41; exact CD.out _ _)))
                    refine wpQuiet_nil ?_
                    intro _ hw'
                    obtain ⟨⟨dq, osq⟩, hw''⟩ := hw'
                    subst hw''
                    have hB := below_regrown wr dq osq
                    have q3 := y3 dq osq
                    generalize grow (redrawn wr dq) osq = w4 at *
                    clear y0 y1 y3
                    have HBe := hid (HBk.out.trans (hB.mono HBk.out.size))
                    clear CD hB
                    go_wp2
                    go_roundg (T.length - (k + 1))
                    case measure => omega
                    case rel => exact ⟨k + 1, by omega, by omega, by go_num, rfl, HBe, HN2⟩
                · exfalso
                  obtain ⟨m, hf, hm, hd⟩ := HFn.out
                  obtain ⟨j, hj, e⟩ := List.mem_iff_getElem.1 hm
                  have := HNo.out j hj (by omega)
                  rw [e, hd] at this
                  simp at this
end Go.Proofs.Ytlhekldlfmdmiaa
