/-
  Contract of the reference's OwnedBy: the same three lists as audit.Owned. Conditions: those ahead of each theorem.
-/
import Derived.Test.YtdmcceekaopghaaIns
namespace Go.Proofs.Ytdmcceekaopghaa
open Go.RowKit Go.Sort

theorem OwnS.base {B B' : Nat} {w : World} {v : Value} {xs : List ByteArray} (h : OwnS B w v xs) (hB : B' ≤ B) : OwnS B' w v xs :=
  ⟨⟨h.1.1, by
    rcases h.1.2 with h | ⟨g, cap, cur, e1, e2, e3⟩
    · exact .inl h
    · exact .inr ⟨g, cap, cur, e1, by omega, e3⟩⟩, h.2⟩
theorem Apart.fresh {B : Nat} {w w' : World} {a b : Value} {xs ys : List ByteArray} (ha : OwnS B w a xs) (hb : OwnS w.heap.size w' b ys) : Apart a b := fun g h1 h2 => by
  have := (ha.1.lt _ h1).2
  have := (hb.1.lt _ h2).1
  omega
theorem Four.newB {B : Nat} {w w' : World} {a b c d v : Value} {A X C D Y : List ByteArray} (h : Four B w a b c d A X C D) (hb : Below w.heap.size w w') (hB : B ≤ w.heap.size) (ho : OwnS w.heap.size w' v Y) : Four B w' a v c d A Y C D :=
  ⟨h.oa.below hb, ho.base hB, h.oc.below hb, h.od.below hb, Apart.fresh h.oa ho, h.ac, h.ad, (Apart.fresh h.oc ho).symm, (Apart.fresh h.od ho).symm, h.cd⟩
theorem has_any_eq (os : List Ob) (x : ByteArray) : hasS (os.map (·.id)) x = os.any fun o => eqS o.id x := by
  rw [Bool.eq_iff_iff, hasS_iff, List.any_eq_true, List.mem_map]
  constructor
  · rintro ⟨o, h1, h2⟩; exact ⟨o, h1, eqS_iff.2 h2⟩
  · rintro ⟨o, h1, h2⟩; exact ⟨o, h1, eqS_iff.1 h2⟩

structure LikeS (U : List ByteArray) (P : List ByteArray) (n : Nat) : Prop where
  asc : Asc U
  mem : ∀ x, x ∈ U ↔ x ∈ P
  len : U.length ≤ n
theorem LikeS.nil (n : Nat) : LikeS [] [] n := ⟨by simp [Asc], by simp, by simp⟩
theorem LikeS.mono {U P : List ByteArray} {n m : Nat} (h : LikeS U P n) (hn : n ≤ m) : LikeS U P m := ⟨h.asc, h.mem, by have := h.len; omega⟩
theorem LikeS.ins {U P Y : List ByteArray} {n : Nat} {s : ByteArray} (h : LikeS U P n) (h1 : Asc Y) (h2 : ∀ x, x ∈ Y ↔ x = s ∨ x ∈ U) (h3 : Y.length ≤ U.length + 1) : LikeS Y (P ++ [s]) (n + 1) :=
  ⟨h1, fun x => by rw [h2, h.mem, List.mem_append, List.mem_singleton, or_comm], by have := h.len; omega⟩
theorem LikeS.canon {U P : List ByteArray} {n : Nat} (h : LikeS U P n) : U = canon P := asc_eq h.asc (canon_asc _) (fun x => by rw [h.mem, mem_canon])

set_option maxRecDepth 100000 in
set_option maxHeartbeats 2000000 in
theorem ownedBy_any (lin : ByteArray) (ser : Int) (vI vP vO vL : Value) (is : List In) (ps : List Pe) (os : List Ob) (w : World) (hI : Sl InR 13 w vI is) (hP : Sl PeR 3 w vP ps) (hO : ∃ r n c, vO = .slice r n c) (hL : Sl ObR 9 w vL os)
    (hIn : is.length ≤ 1000) (hOn : os.length ≤ 1000) (hIs : ∀ x ∈ is, x.id.size ≤ maxLen) (hOs : ∀ x ∈ os, x.id.size ≤ maxLen) :
    Calls Try.prog 33 #[.agg #[.string lin, .int .i64 ser, vI, vP, vO], vL] w fun r w' => ∃ a b c, r = .returned (.tuple #[a, b, c]) ∧ Below w.heap.size w w' ∧
      Sl StrR 1 w' a (canon (ms os (is.map (·.id)) is.length)) ∧ Sl StrR 1 w' b (canon (un ps os (is.map (·.id)) os.length)) ∧ Sl StrR 1 w' c (canon (tw (is.map (·.id)) is.length)) := by
  obtain ⟨rO, nO, cO, rfl⟩ := hO
  have hP0 := hP
  have hI0 := hI
  obtain ⟨rI, capI, rfl, hlI, hmI, _⟩ := hI
  obtain ⟨rP, capP, rfl, hlP, hmP, _⟩ := hP
  obtain ⟨rL, capL, rfl, hlL, hmL, hL⟩ := hL
  unfold maxLen at hmI hmP hmL
  have HB0 := Lib.hid (show Below w.heap.size w (w.alloc (.cells #[.string lin, .int .i64 ser, .slice rI is.length capI, .slice rP ps.length capP, .slice rO nO cO] 42)) from (Below.refl _ _).alloc (Nat.le_refl _) _)
  have hs0 : (w.alloc (.cells #[.string lin, .int .i64 ser, .slice rI is.length capI, .slice rP ps.length capP, .slice rO nO cO] 42)).cell? ⟨w.heap.size, 0, none⟩ = some (.string lin) := by simp
  have hs1 : (w.alloc (.cells #[.string lin, .int .i64 ser, .slice rI is.length capI, .slice rP ps.length capP, .slice rO nO cO] 42)).cell? ⟨w.heap.size, 1, none⟩ = some (.int .i64 ser) := by simp
  have hs2 : (w.alloc (.cells #[.string lin, .int .i64 ser, .slice rI is.length capI, .slice rP ps.length capP, .slice rO nO cO] 42)).cell? ⟨w.heap.size, 2, none⟩ = some (.slice rI is.length capI) := by simp
  have hs3 : (w.alloc (.cells #[.string lin, .int .i64 ser, .slice rI is.length capI, .slice rP ps.length capP, .slice rO nO cO] 42)).cell? ⟨w.heap.size, 3, none⟩ = some (.slice rP ps.length capP) := by simp
  have hs4 : (w.alloc (.cells #[.string lin, .int .i64 ser, .slice rI is.length capI, .slice rP ps.length capP, .slice rO nO cO] 42)).cell? ⟨w.heap.size, 4, none⟩ = some (.slice rO nO cO) := by simp
  have HSZ := Lib.hid (show (w.alloc (.cells #[.string lin, .int .i64 ser, .slice rI is.length capI, .slice rP ps.length capP, .slice rO nO cO] 42)).heap.size = w.heap.size + 1 by simp)
  have HL := Lib.hid hL
  clear hL
  go_enter Try.func33, Try.ntmps33
  go_wp2_with fail
  have hI1 := hI0.below inR_mono HB0.out
  generalize w.alloc (.cells #[.string lin, .int .i64 ser, .slice rI is.length capI, .slice rP ps.length capP, .slice rO nO cO] 42) = W0 at *
  refine (ids_any lin ser _ _ _ is _ hI1 ⟨_, _, _, rfl⟩ ⟨_, _, _, rfl⟩ hIn hIs).mono ?_
  rintro r W1 ⟨vD, rfl, hD, hbD⟩
  rw [HSZ.out] at hD hbD
  have HD := Lib.hid hD
  have HBD := Lib.hid hbD
  clear hD hbD hI1
  go_wp2_with fail
  go_loopg [8, 10, 12] os.length (fun gg s8 s10 s12 wr => ∃ kk : Nat, kk ≤ os.length ∧ os.length - kk ≤ gg ∧ s12 = .int .i64 kk ∧ Aside (Below (w.heap.size + 1) W0 wr) ∧
      Aside (∃ U, Four (w.heap.size + 1) wr s10 s8 vD (.slice none 0 0) ((os.map (·.id)).take kk) U (is.map (·.id)) [] ∧ LikeS U (un ps os (is.map (·.id)) kk) kk))
  case atStart => exact ⟨0, Nat.zero_le _, by omega, rfl, HBD.out, ⟨[], ⟨ownS_nil _ _, ownS_nil _ _, HD.out, ownS_nil _ _, Apart.nil _, Apart.nil' _, Apart.nil _, Apart.nil' _, Apart.nil _, Apart.nil _⟩, LikeS.nil _⟩⟩
  case round =>
    obtain ⟨kk, hkk, hg, rfl, BW, F4⟩ := hrel
    by_cases hlt : kk < os.length
    · obtain ⟨U, F4, hU⟩ := F4.out
      obtain ⟨b, off, cs, rfl, _, hc, hx⟩ := HL.out kk hlt
      simp only [ObR] at hx
      subst hx
      have hBw : Below w.heap.size w wr := HB0.out.trans (BW.out.mono (by omega))
      have hgd : os.getD kk o0 = os[kk] := by simp [hlt]
      have hidm := hOs _ (List.getElem_mem hlt)
      have HU := Lib.hid (show un ps os (is.map (·.id)) (kk + 1) = if (ps.any fun p => eqS p.tok (os[kk]).tok) || hasS (is.map (·.id)) (os[kk]).id then un ps os (is.map (·.id)) kk else un ps os (is.map (·.id)) kk ++ [(os[kk]).id] by rw [un, hgd])
      have HR := Lib.hid (show (os.map (·.id)).take (kk + 1) = (os.map (·.id)).take kk ++ [(os[kk]).id] by
        rw [List.take_succ_eq_append_getElem (by simpa using hlt)]; simp)
      have HLK := Lib.hid (show ((os.map (·.id)).take kk).length = kk by simp; omega)
      have hrl : ((os.map (·.id)).take kk).length ≤ kk := List.length_take_le _ _
      have HID := Lib.hid hidm
      have g0 := bget hBw (hc 0 _ rfl)
      have g2 := bget hBw (hc 2 _ rfl)
      have GA := Lib.hid (And.intro (hc 0 _ rfl) (hc 2 _ rfl))
      simp only [Nat.add_zero] at g0
      have hbb := World.block_lt_of_cell? wr _ g0
      simp at hbb
      clear hc hgd hidm
      generalize os[kk] = y at *
      obtain ⟨yid, yt, ytk, ⟨yk, yn, ys, yi, ye⟩, yv⟩ := y
      simp only at g0 g2 HU HR HID
      have hVB : w.heap.size + 1 ≤ wr.heap.size := by have := BW.out.size; rw [HSZ.out] at this; exact this
      have hwb : Below wr.heap.size wr (wr.alloc (.cells #[.string yid] 9)) := (Below.refl _ _).alloc (Nat.le_refl _) _
      have F2 := Lib.hid (F4.below hwb)
      have B2 := Lib.hid (BW.out.trans (hwb.mono hVB))
      have g0a := bget hwb g0
      have g2a := bget hwb g2
      have d5 := Lib.hid (show (wr.alloc (.cells #[.string yid] 9)).cell? ⟨wr.heap.size, 0, none⟩ = some (.string yid) by simp)
      have y5 := Lib.hid (show w.heap.size + 1 ≤ (wr.alloc (.cells #[.string yid] 9)).heap.size by simp; omega)
      have y7 := Lib.hid (show ((os.map (·.id)).take kk).length ≤ 1000000 by omega)
      have HUU := Lib.hid hU
      clear hwb BW F4 hU hBw g0a g2a
      go_upto_region 7 with (at_builtin; go_loud (refine wpList_append_str (xs := (os.map (·.id)).take kk) rfl (.tmp 22) (.tmp 28) rfl (w.heap.size + 1) u10 rfl F2.out.oa ⟨wr.heap.size, 0, none⟩ yid rfl d5.out HID.out y7.out y5.out ?_); intro gm capm w4 ho4 hg4 hat4 hl4)
      have hB3 : Below (w.heap.size + 1) W0 w4 := below_app F2.out.oa B2.out y5.out hg4
      have hW4 : w.heap.size + 1 ≤ w4.heap.size := by have := hB3.size; rw [HSZ.out] at this; exact this
      have hg5 := hg4
      rw [← HR.out, HLK.out] at ho4
      have hF3 : Four (w.heap.size + 1) w4 (.slice (some ⟨gm, 0, none⟩) (kk + 1) capm) u8 vD (.slice none 0 0) ((os.map (·.id)).take (kk + 1)) U (is.map (·.id)) [] := F2.out.appA hg4 hat4 ho4
      have hBs : Below W0.heap.size W0 w4 := by rw [HSZ.out]; exact hB3
      have hBw4 : Below w.heap.size w w4 := HB0.out.trans (hB3.mono (by omega))
      have t0 := bget hBs hs0
      have t1 := bget hBs hs1
      have t2 := bget hBs hs2
      have t3 := bget hBs hs3
      have t4 := bget hBs hs4
      have gg0 : w4.cell? ⟨b, off + kk * 9, none⟩ = some (.string yid) := bget hBw4 GA.out.1
      have gg2 : w4.cell? ⟨b, off + kk * 9 + 2, none⟩ = some (.string ytk) := bget hBw4 GA.out.2
      have hbb4 := World.block_lt_of_cell? w4 _ gg0
      have hbs4 := World.block_lt_of_cell? w4 _ t0
      simp at hbb4 hbs4
      have hP4 := hP0.below peR_mono hBw4
      have HF3 := Lib.hid hF3
      have HB3 := Lib.hid hB3
      have HHT := Lib.hid (fun d oz => same_regrown (hasT_any (is.map (·.id)) yid vD _ (hF3.oc.below (below_regrown w4 d oz)).sl))
      have HHW := Lib.hid (fun d oz => Calls.regrown_of (waits_any lin ser (.slice rI is.length capI) _ (.slice rO nO cO) ps ytk _ (hP4.below peR_mono (below_regrown w4 d oz)) ⟨_, _, _, rfl⟩ ⟨_, _, _, rfl⟩))
      have hcg := cells_regrown w4
      clear hg4 hat4 ho4 hl4 hg5 hF3 hB3 hBs hBw4 hP4 F2 B2 d5 y5 y7 g0 g2 hs0 hs1 hs2 hs3 hs4
      cases hh : hasS (is.map (·.id)) yid
      · rw [hh] at HHT HU
        cases hp : ps.any fun p => eqS p.tok ytk
        · rw [hp] at HHW HU
          have HU2 := Lib.hid (show un ps os (is.map (·.id)) (kk + 1) = un ps os (is.map (·.id)) kk ++ [yid] by rw [HU.out]; simp)
          refine wp_region_quiet_below (by kernel_rfl) (by kernel_rfl) ?_
          repeat (go_big_quiet_step (first | exact HHT.out _ _ | exact HHW.out _ _))
          refine wpQuiet_nil ?_
          intro _ hw'
          obtain ⟨⟨dq, osq⟩, hw''⟩ := hw'
          subst hw''
          have hb5 := below_regrown w4 dq osq
          have HF5 := Lib.hid (HF3.out.below hb5)
          have HB5 := Lib.hid (HB3.out.trans (hb5.mono hW4))
          have gg5 := bget hb5 gg0
          have hbb5 := World.block_lt_of_cell? _ _ gg5
          simp only at hbb5
          clear hcg HHT HHW hb5 HB3 HF3 gg0 gg2 t0 t1 t2 t3 t4 hbs4 hbb4
          generalize grow (redrawn w4 dq) osq = w5 at *
          go_wp2_with fail
          have hW5 : w.heap.size + 1 ≤ w5.heap.size := by have := HB5.out.size; rw [HSZ.out] at this; exact this
          have hul := HUU.out.len
          refine (ins_any u8 U yid w5 _ HF5.out.ob HUU.out.asc (by omega) HID.out).mono ?_
          rintro r w6 ⟨v6, ys, rfl, ha6, hm6, hl6, hb6, hor⟩
          have HB6 := Lib.hid (HB5.out.trans (hb6.mono hW5))
          have HF6 : Hid (Four (w.heap.size + 1) w6 (.slice (some ⟨gm, 0, none⟩) (kk + 1) capm) v6 vD (.slice none 0 0) ((os.map (·.id)).take (kk + 1)) ys (is.map (·.id)) []) := Lib.hid (by
            rcases hor with ⟨rfl, rfl⟩ | ho6
            · exact HF5.out.below hb6
            · exact HF5.out.newB hb6 hW5 ho6)
          have HU6 := Lib.hid (HUU.out.ins ha6 hm6 hl6)
          clear ha6 hm6 hl6 hb6 hor HB5 HF5 gg5 hbb5
          go_wp2_with fail
          go_roundg (os.length - (kk + 1))
          case measure => omega
          case rel => exact ⟨kk + 1, by omega, by omega, by go_num, HB6.out, ys, HF6.out, by rw [HU2.out]; exact HU6.out⟩
        · rw [hp] at HHW HU
          have HU2 := Lib.hid (show un ps os (is.map (·.id)) (kk + 1) = un ps os (is.map (·.id)) kk by rw [HU.out]; simp)
          refine wp_region_quiet_below (by kernel_rfl) (by kernel_rfl) ?_
          repeat (go_big_quiet_step (first | exact HHT.out _ _ | exact HHW.out _ _))
          refine wpQuiet_nil ?_
          intro _ hw'
          obtain ⟨⟨dq, osq⟩, hw''⟩ := hw'
          subst hw''
          have hb5 := below_regrown w4 dq osq
          have HF5 := Lib.hid (HF3.out.below hb5)
          have HB5 := Lib.hid (HB3.out.trans (hb5.mono hW4))
          have gg5 := bget hb5 gg0
          have hbb5 := World.block_lt_of_cell? _ _ gg5
          simp only at hbb5
          clear hcg HHT HHW hb5 HB3 HF3 gg0 gg2 t0 t1 t2 t3 t4 hbs4 hbb4
          generalize grow (redrawn w4 dq) osq = w5 at *
          go_wp2_with fail
          go_roundg (os.length - (kk + 1))
          case measure => omega
          case rel => exact ⟨kk + 1, by omega, by omega, by go_num, HB5.out, U, HF5.out, by rw [HU2.out]; exact HUU.out.mono (by omega)⟩
      · rw [hh] at HHT HU
        have HU2 := Lib.hid (show un ps os (is.map (·.id)) (kk + 1) = un ps os (is.map (·.id)) kk by rw [HU.out]; simp)
        refine wp_region_quiet_below (by kernel_rfl) (by kernel_rfl) ?_
        repeat (go_big_quiet_step (first | exact HHT.out _ _ | exact HHW.out _ _))
        refine wpQuiet_nil ?_
        intro _ hw'
        obtain ⟨⟨dq, osq⟩, hw''⟩ := hw'
        subst hw''
        have hb5 := below_regrown w4 dq osq
        have HF5 := Lib.hid (HF3.out.below hb5)
        have HB5 := Lib.hid (HB3.out.trans (hb5.mono hW4))
        have gg5 := bget hb5 gg0
        have hbb5 := World.block_lt_of_cell? _ _ gg5
        simp only at hbb5
        clear hcg HHT HHW hb5 HB3 HF3 gg0 gg2 t0 t1 t2 t3 t4 hbs4 hbb4
        generalize grow (redrawn w4 dq) osq = w5 at *
        go_wp2_with fail
        go_roundg (os.length - (kk + 1))
        case measure => omega
        case rel => exact ⟨kk + 1, by omega, by omega, by go_num, HB5.out, U, HF5.out, by rw [HU2.out]; exact HUU.out.mono (by omega)⟩
    · have hke : kk = os.length := by omega
      subst hke
      obtain ⟨U, F4, hU⟩ := F4.out
      have HF4 := Lib.hid F4
      have HUU := Lib.hid hU
      clear F4 hU hs0 hs1 hs2 hs3 hs4 hg hlt
      have hlcD := HF4.out.oc.sl
      obtain ⟨rD, cD, hvD, hlcD, hcmD, _⟩ := hlcD
      rw [List.length_map] at hvD hlcD
      subst hvD
      have HTK : (os.map (·.id)).take os.length = os.map (·.id) := by rw [List.take_of_length_le]; simp
      rw [HTK] at HF4
      have hids : (is.map (·.id)).length = is.length := by simp
      unfold maxLen at hcmD
      clear HTK hIs hI0 HD HL HBD
      generalize hgen : is.map (·.id) = ids at *
      have HG := Lib.hid hgen
      clear hgen
      go_wp2_with fail
      go_loopg [7, 9, 13] is.length (fun gg s7 s9 s13 wy => ∃ j : Nat, j ≤ is.length ∧ is.length - j ≤ gg ∧ s13 = .int .i64 j ∧ Aside (Below (w.heap.size + 1) W0 wy) ∧
        Aside (OwnS (w.heap.size + 1) wy u10 (os.map (·.id)) ∧ OwnS (w.heap.size + 1) wy u8 U ∧ OwnS (w.heap.size + 1) wy (.slice rD is.length cD) ids) ∧
        Aside (∃ M T, OwnS (w.heap.size + 1) wy s7 M ∧ OwnS (w.heap.size + 1) wy s9 T ∧ LikeS M (ms os ids j) j ∧ LikeS T (tw ids j) j))
      case atStart => exact ⟨0, by omega, by omega, rfl, BW.out, ⟨HF4.out.oa, HF4.out.ob, HF4.out.oc⟩, [], [], ownS_nil _ _, ownS_nil _ _, LikeS.nil _, LikeS.nil _⟩
      case round =>
        clear HF4 BW
        obtain ⟨j, hj, hg, rfl, BW, OO, MT⟩ := hrel
        by_cases hlt : j < is.length
        · obtain ⟨M, T, OM, OT, LM, LT⟩ := MT.out
          have OM := Lib.hid OM
          have OT := Lib.hid OT
          have LM := Lib.hid LM
          have LT := Lib.hid LT
          have hjx : j < ids.length := by omega
          obtain ⟨hq, _, _, hE⟩ := str_cells OO.out.2.2.sl rfl
          clear hq
          obtain ⟨b, off, hr, hb, gc, _⟩ := hE j hjx
          subst hr
          have hgd : ids.getD j ib0 = ids[j] := by simp [hjx]
          have HXS := Lib.hid (OO.out.2.2.2 _ (List.getElem_mem hjx))
          have HM := Lib.hid (show ms os ids (j + 1) = if hasS (os.map (·.id)) ids[j] then ms os ids j else ms os ids j ++ [ids[j]] by rw [ms, hgd, has_any_eq])
          have HTT := Lib.hid (show tw ids (j + 1) = if hasS (ids.take j) ids[j] then tw ids j ++ [ids[j]] else tw ids j by rw [tw, hgd])
          have hbb := World.block_lt_of_cell? _ _ gc
          simp only at hbb
          clear hE hgd MT hb
          generalize ids[j] = x at *
          go_wp2_with fail
          refine (hasT_any (os.map (·.id)) x u10 _ OO.out.1.sl).mono ?_
          rintro r1 w1 ⟨rfl, hw1⟩
          obtain rfl : wr = w1 := hw1
          go_upto_if 67 with fail
          go_cut [7] (fun s7 wx => Aside (Below (w.heap.size + 1) W0 wx) ∧ Aside (OwnS (w.heap.size + 1) wx u10 (os.map (·.id)) ∧ OwnS (w.heap.size + 1) wx u8 U ∧ OwnS (w.heap.size + 1) wx (.slice (some ⟨b, off, none⟩) is.length cD) ids) ∧ Aside (OwnS (w.heap.size + 1) wx u9 T) ∧
              wx.cell? ⟨b, off + j, none⟩ = some (.string x) ∧ Aside (∃ M', OwnS (w.heap.size + 1) wx s7 M' ∧ LikeS M' (ms os ids (j + 1)) (j + 1)))
          case first =>
            cases hh : hasS (os.map (·.id)) x
            · have HM2 := Lib.hid (show ms os ids (j + 1) = ms os ids j ++ [x] by rw [HM.out, hh]; simp)
              have hml := LM.out.len
              have hW : w.heap.size + 1 ≤ wr.heap.size := by have := BW.out.size; rw [HSZ.out] at this; exact this
              clear hh
              go_wp2_with fail
              refine (ins_any u7 M x _ _ OM.out LM.out.asc (by omega) HXS.out).mono ?_
              rintro r w6 ⟨v6, ys, rfl, ha6, hm6, hl6, hb6, hor⟩
              have HB6 := Lib.hid (BW.out.trans (hb6.mono hW))
              have HO6 := Lib.hid (And.intro (OO.out.1.below hb6) (And.intro (OO.out.2.1.below hb6) (OO.out.2.2.below hb6)))
              have HT6 := Lib.hid (OT.out.below hb6)
              have HM6 : Hid (OwnS (w.heap.size + 1) w6 v6 ys) := Lib.hid (by
                rcases hor with ⟨rfl, rfl⟩ | ho6
                · exact OM.out.below hb6
                · exact ho6.base hW)
              have HL6 := Lib.hid (LM.out.ins ha6 hm6 hl6)
              have gc6 := Lib.hid (bget hb6 gc)
              clear ha6 hm6 hl6 hb6 hor
              go_wp2_with fail
              go_meet
              exact ⟨HB6.out, HO6.out, HT6.out, gc6.out, ys, HM6.out, by rw [HM2.out]; exact HL6.out⟩
            · have HM2 := Lib.hid (show ms os ids (j + 1) = ms os ids j by rw [HM.out, hh]; simp)
              clear hh
              go_wp2_with fail
              go_meet
              exact ⟨BW.out, OO.out, OT.out, gc, M, OM.out, by rw [HM2.out]; exact LM.out.mono (by omega)⟩
          case rest =>
            obtain ⟨HB, HO, HT, gcx, HMM⟩ := hcut
            clear BW OO OM OT gc LM HM hbb
            have hbb := World.block_lt_of_cell? _ _ gcx
            simp only at hbb
            have hW : w.heap.size + 1 ≤ wc.heap.size := by have := HB.out.size; rw [HSZ.out] at this; exact this
            have HHT := Lib.hid (fun d oz => same_regrown (hasT_any (ids.take j) x (.slice (some ⟨b, off, none⟩) j cD) _ (sl_takeS (HO.out.2.2.below (below_regrown wc d oz)).sl j (by omega))))
            have hcg := cells_regrown wc
            go_wp2_with fail
            cases hh : hasS (ids.take j) x
            · rw [hh] at HHT
              have HT2 := Lib.hid (show tw ids (j + 1) = tw ids j by rw [HTT.out, hh]; simp)
              clear hh
              refine wp_region_quiet_below (by kernel_rfl) (by kernel_rfl) ?_
              repeat (go_big_quiet_step (exact HHT.out _ _))
              refine wpQuiet_nil ?_
              intro _ hw'
              obtain ⟨⟨dq, osq⟩, hw''⟩ := hw'
              subst hw''
              have hb5 := below_regrown wc dq osq
              have HB5 := Lib.hid (HB.out.trans (hb5.mono hW))
              have HO5 := Lib.hid (And.intro (HO.out.1.below hb5) (And.intro (HO.out.2.1.below hb5) (HO.out.2.2.below hb5)))
              have HT5 := Lib.hid (HT.out.below hb5)
              have HM5 := Lib.hid (let ⟨M', h1, h2⟩ := HMM.out; Exists.intro M' (And.intro (h1.below hb5) h2))
              clear hcg HHT HB HO HT HMM hb5
              generalize grow (redrawn wc dq) osq = w5 at *
              go_wp2_with fail
              go_roundg (is.length - (j + 1))
              case measure => omega
              case rel =>
                obtain ⟨M', h1, h2⟩ := HM5.out
                exact ⟨j + 1, by omega, by omega, by go_num, HB5.out, HO5.out, M', T, h1, HT5.out, h2, by rw [HT2.out]; exact LT.out.mono (by omega)⟩
            · rw [hh] at HHT
              have HT2 := Lib.hid (show tw ids (j + 1) = tw ids j ++ [x] by rw [HTT.out, hh]; simp)
              clear hh
              refine wp_region_quiet_below (by kernel_rfl) (by kernel_rfl) ?_
              repeat (go_big_quiet_step (exact HHT.out _ _))
              refine wpQuiet_nil ?_
              intro _ hw'
              obtain ⟨⟨dq, osq⟩, hw''⟩ := hw'
              subst hw''
              have hb5 := below_regrown wc dq osq
              have HB5 := Lib.hid (HB.out.trans (hb5.mono hW))
              have HO5 := Lib.hid (And.intro (HO.out.1.below hb5) (And.intro (HO.out.2.1.below hb5) (HO.out.2.2.below hb5)))
              have HT5 := Lib.hid (HT.out.below hb5)
              have HM5 := Lib.hid (let ⟨M', h1, h2⟩ := HMM.out; Exists.intro M' (And.intro (h1.below hb5) h2))
              have gc5 := bget hb5 gcx
              have hbb5 := World.block_lt_of_cell? _ _ gc5
              simp only at hbb5
              have hW5 : w.heap.size + 1 ≤ (grow (redrawn wc dq) osq).heap.size := by have := HB5.out.size; rw [HSZ.out] at this; exact this
              have htl := LT.out.len
              clear hcg HHT HB HO HT HMM hb5 gcx hbb
              generalize grow (redrawn wc dq) osq = w5 at *
              go_wp2_with fail
              refine (ins_any u9 T x _ _ HT5.out LT.out.asc (by omega) HXS.out).mono ?_
              rintro r w6 ⟨v6, ys, rfl, ha6, hm6, hl6, hb6, hor⟩
              have HB6 := Lib.hid (HB5.out.trans (hb6.mono hW5))
              have HO6 := Lib.hid (And.intro (HO5.out.1.below hb6) (And.intro (HO5.out.2.1.below hb6) (HO5.out.2.2.below hb6)))
              have HM6 := Lib.hid (let ⟨M', h1, h2⟩ := HM5.out; Exists.intro M' (And.intro (h1.below hb6) h2))
              have HT6 : Hid (OwnS (w.heap.size + 1) w6 v6 ys) := Lib.hid (by
                rcases hor with ⟨rfl, rfl⟩ | ho6
                · exact HT5.out.below hb6
                · exact ho6.base hW5)
              have HL6 := Lib.hid (LT.out.ins ha6 hm6 hl6)
              clear ha6 hm6 hl6 hb6 hor HB5 HO5 HM5 HT5 gc5 hbb5
              go_wp2_with fail
              go_roundg (is.length - (j + 1))
              case measure => omega
              case rel =>
                obtain ⟨M', h1, h2⟩ := HM6.out
                exact ⟨j + 1, by omega, by omega, by go_num, HB6.out, HO6.out, M', ys, h1, HT6.out, h2, by rw [HT2.out]; exact HL6.out⟩
        · have hje : j = is.length := by omega
          subst hje
          obtain ⟨M, T, OM, OT, LM, LT⟩ := MT.out
          have HX := Lib.hid (And.intro OM (And.intro OT (And.intro LM LT)))
          clear OM OT LM LT MT
          go_wp2_with fail
          go_ret3
          refine ⟨_, _, _, rfl, HB0.out.trans (BW.out.mono (by omega)), ?_, ?_, ?_⟩
          · rw [HG.out, ← HX.out.2.2.1.canon]; exact HX.out.1.sl
          · rw [HG.out, ← HUU.out.canon]; exact OO.out.2.1.sl
          · rw [HG.out, ← HX.out.2.2.2.canon]; exact HX.out.2.1.sl
end Go.Proofs.Ytdmcceekaopghaa
