import Derived.Test.YtlhekldlfmdmiaaNof
/-
  The reference's ready and Order. Conditions: those ahead of each theorem.
-/
namespace Go.Proofs.Ytlhekldlfmdmiaa
open Go.RowKit Go.Sort Go.Lib Go.Maps
open Go.Lib (hid)
set_option linter.unusedVariables false
set_option linter.unusedSimpArgs false

def rdyB (es : List Ed) (out : List ByteArray) (s : ByteArray) : Bool := decide (cnt es out s = 0)
theorem rdy_no {es : List Ed} {out : List ByteArray} {s : ByteArray} {k : Nat} (hk : k < es.length) (h1 : (es[k]).1 = s) (h2 : hasS (es[k]).2 out = false) : rdyB es out s = false := by
  refine decide_eq_false fun h => ?_
  have := cnt_zero.1 h es[k] (List.getElem_mem hk) h1
  rw [hasS_iff.2 this] at h2; cases h2
theorem rdy_all {es : List Ed} {out : List ByteArray} {s : ByteArray} (h : ∀ j (hj : j < es.length), (es[j]).1 = s → hasS (es[j]).2 out = true) : rdyB es out s = true := by
  refine decide_eq_true (cnt_zero.2 fun e he hx => ?_)
  obtain ⟨j, hj, rfl⟩ := List.mem_iff_getElem.1 he
  exact hasS_iff.1 (h j hj hx)

set_option maxRecDepth 100000 in
set_option maxHeartbeats 2000000 in
theorem rready_any (vn ve vf : Value) (ns : List ByteArray) (es : List Ed) (out : List ByteArray) (s : ByteArray) (w : World) (hN : Sl StrR 1 w vn ns) (hS : Sl EdR 2 w ve es) (hF : Sl StrR 1 w vf out) :
    Calls Try.prog 38 #[.agg #[vn, ve], .string s, vf] w fun e w' => e = .returned (.bool (rdyB es out s)) ∧ Below w.heap.size w w' := by
  obtain ⟨r, c, rfl, _⟩ := id hS
  obtain ⟨rn, cn, rfl, _⟩ := id hN
  obtain ⟨_, hl, hm⟩ := sl_len hS
  have HF := hid (fun (W : World) (hW : Below w.heap.size w W) => hF.below strR_mono hW)
  have HE := hid (fun (W : World) (hW : Below w.heap.size w W) => ed_at (hS.below edR_mono hW))
  have HB0 := hid (show Below w.heap.size w (w.alloc (.cells #[.slice rn ns.length cn, .slice r es.length c] 25)) from (Below.refl _ _).alloc (Nat.le_refl _) _)
  have HC0 := hid (show (w.alloc (.cells #[.slice rn ns.length cn, .slice r es.length c] 25)).heap[w.heap.size]? = some (.cells #[.slice rn ns.length cn, .slice r es.length c] 25 (0, 0)) from (MapKept.heap_alloc w _).1)
  have HNo := hid (fun k hk h1 h2 => rdy_no (es := es) (out := out) (s := s) (k := k) hk h1 h2)
  have HAl := hid (fun h => rdy_all (es := es) (out := out) (s := s) h)
  generalize rdyB es out s = R at *
  clear hN hS hF
  go_enter Try.func38, Try.ntmps38
  go_wp2
  generalize (w.alloc (.cells #[.slice rn ns.length cn, .slice r es.length c] 25)) = W0 at *
  go_loop [7] (fun i => ∃ k : Nat, k ≤ es.length ∧ i = .int .i64 k ∧ Hid (∀ j (hj : j < es.length), j < k → (es[j]).1 = s → hasS (es[j]).2 out = true)) (fun i => es.length - (RowKit.intOf i).toNat)
  case atStart => exact ⟨0, by omega, rfl, hid (fun j hj h => absurd h (by omega))⟩
  case round =>
    obtain ⟨k, hk, rfl, HK⟩ := hrel
    have u1 := cellv HC0.out 1 rfl
    by_cases hlt : k < es.length
    · obtain ⟨b, off, rfl, hb, g0, g1, hz0, hz1⟩ := HE.out _ HB0.out k hlt
      have HNk := hid (fun h1 h2 => HNo.out k hlt h1 h2)
      have HNx := hid (fun (h : (es[k]).1 = s → hasS (es[k]).2 out = true) => show ∀ j (hj : j < es.length), j < k + 1 → (es[j]).1 = s → hasS (es[j]).2 out = true from fun j hj hjk h1 => by
        by_cases e : j < k
        · exact HK.out j hj e h1
        · obtain rfl : j = k := by omega
          exact h h1)
      have k2 : (0 : Int) ≤ (k : Int) := by omega
      have k3 : (k : Int) < (es.length : Int) := by omega
      generalize es[k] = y at *
      obtain ⟨y1, y2⟩ := y
      simp only at g0 g1 HNk HNx
      have e1 := eq_bytes y1 s
      clear hz0 hz1
      by_cases hys : y1 = s
      · rw [decide_eq_true hys] at e1
        have HN1 := hid (HNk.out hys)
        have HN2 := hid (fun h => HNx.out fun _ => h)
        clear hys HNk HNx
        go_wp2_with fail
        refine (has_any out y2 _ _ (HF.out _ HB0.out)).mono ?_
        rintro r' w' ⟨rfl, rfl⟩
        cases hh : hasS y2 out with
        | false =>
          have HR := hid (HN1.out hh)
          clear hh HN1 HN2
          go_wp2
          go_ret
          exact ⟨ret_bool HR.out, HB0.out⟩
        | true =>
          have HR := hid (HN2.out hh)
          clear hh HN1 HN2
          go_wp2
          go_round
          case rel => exact ⟨k + 1, by omega, by go_num, HR⟩
          case measure => simp [RowKit.intOf]; omega
      · rw [decide_eq_false hys] at e1
        have HR := hid (HNx.out fun h => absurd h hys)
        clear hys HNk HNx
        go_wp2
        go_round
        case rel => exact ⟨k + 1, by omega, by go_num, HR⟩
        case measure => simp [RowKit.intOf]; omega
    · obtain rfl : k = es.length := by omega
      have HR := hid (HAl.out fun j hj h1 => HK.out j hj (by omega) h1)
      go_wp2
      go_ret
      exact ⟨ret_bool HR.out, HB0.out⟩
theorem ordF_none {ns : List ByteArray} {es : List Ed} {n : Nat} {out : List ByteArray} (h : pick ns es out = none) : ordF ns es n out = out := by
  cases n with
  | zero => rfl
  | succ n => rw [ordF, h]
theorem pick_at {ns : List ByteArray} {es : List Ed} {out : List ByteArray} {k : Nat} (hk : k < ns.length) (h : ∀ j (hj : j < ns.length), j < k → hasS ns[j] out = true ∨ rdyB es out ns[j] = false) (h1 : hasS ns[k] out = false) (h2 : rdyB es out ns[k] = true) : pick ns es out = some ns[k] := by
  unfold pick
  refine find_first (p := fun x => !hasS x out && decide (cnt es out x = 0)) hk (fun j hj hjk => ?_) (by unfold rdyB at h2; rw [h1, h2]; rfl)
  rcases h j hj hjk with h | h
  · rw [h]; rfl
  · unfold rdyB at h; rw [h, Bool.and_false]
theorem pick_no {ns : List ByteArray} {es : List Ed} {out : List ByteArray} (h : ∀ j (hj : j < ns.length), hasS ns[j] out = true ∨ rdyB es out ns[j] = false) : pick ns es out = none := by
  unfold pick
  refine List.find?_eq_none.2 fun x hx => ?_
  obtain ⟨j, hj, rfl⟩ := List.mem_iff_getElem.1 hx
  rcases h j hj with h | h
  · rw [h]; simp
  · unfold rdyB at h; rw [h, Bool.and_false]; simp
/-- The order under way. -/
def OrdW (ns : List ByteArray) (es : List Ed) (out : List ByteArray) : Prop := ordF ns es (ns.length - out.length) out = ordF ns es ns.length [] ∧ out.length ≤ ns.length ∧ ∀ x ∈ out, x ∈ ns
theorem OrdW.more {ns : List ByteArray} {es : List Ed} {out : List ByteArray} {x : ByteArray} (h : OrdW ns es out) (hx : pick ns es out = some x) (hl : out.length < ns.length) : OrdW ns es (out ++ [x]) := by
  refine ⟨?_, by simp; omega, fun y hy => ?_⟩
  · rw [← h.1]
    have e : ns.length - out.length = (ns.length - (out ++ [x]).length) + 1 := by simp; omega
    rw [e, ordF, hx]
  · rw [List.mem_append, List.mem_singleton] at hy
    rcases hy with hy | rfl
    · exact h.2.2 y hy
    · exact List.mem_of_find?_eq_some hx
theorem OrdW.fin {ns : List ByteArray} {es : List Ed} {out : List ByteArray} (h : OrdW ns es out) (hl : ¬ out.length < ns.length) : ordO ns es = out ∧ ordE ns es = 0 := by
  have e : ordF ns es ns.length [] = out := by rw [← h.1, show ns.length - out.length = 0 by omega]; rfl
  unfold ordO ordE
  rw [e, if_neg hl, if_neg hl]
  exact ⟨rfl, rfl⟩
theorem OrdW.stuck {ns : List ByteArray} {es : List Ed} {out : List ByteArray} (h : OrdW ns es out) (hl : out.length < ns.length) (hp : pick ns es out = none) : ordO ns es = [] ∧ ordE ns es = 10 := by
  have e : ordF ns es ns.length [] = out := by rw [← h.1, ordF_none hp]
  unfold ordO ordE
  rw [e, if_pos hl, if_pos hl]
  exact ⟨rfl, rfl⟩

set_option maxRecDepth 100000 in
set_option maxHeartbeats 4000000 in
theorem rorder_any (vn ve : Value) (ns : List ByteArray) (es : List Ed) (w : World) (hN : Sl StrR 1 w vn ns) (hS : Sl EdR 2 w ve es) (hnn : ns.length ≤ 10000) :
    Calls Try.prog 13 #[.agg #[vn, ve]] w (OrdP ns es w) := by
  obtain ⟨r, c, rfl, _⟩ := id hS
  obtain ⟨rn, cn, rfl, _⟩ := id hN
  obtain ⟨_, hl, hm⟩ := sl_len hS
  obtain ⟨_, hl1, hm1⟩ := sl_len hN
  have HN := hid (fun (W : World) (hW : Below w.heap.size w W) => hN.below strR_mono hW)
  have HS := hid (fun (W : World) (hW : Below w.heap.size w W) => hS.below edR_mono hW)
  have HB0 := hid (show Below w.heap.size w (w.alloc (.cells #[.slice rn ns.length cn, .slice r es.length c] 25)) from (Below.refl _ _).alloc (Nat.le_refl _) _)
  have HC0 := hid (show (w.alloc (.cells #[.slice rn ns.length cn, .slice r es.length c] 25)).heap[w.heap.size]? = some (.cells #[.slice rn ns.length cn, .slice r es.length c] 25 (0, 0)) from (MapKept.heap_alloc w _).1)
  have HZs := hid (strs_le hN)
  clear hN hS
  go_enter Try.func13, Try.ntmps13
  go_wp2
  generalize (w.alloc (.cells #[.slice rn ns.length cn, .slice r es.length c] 25)) = W0 at *
  go_loopg [4] ns.length (fun gg s4 wr => ∃ out : List ByteArray, ns.length - out.length ≤ gg ∧ Hid (OrdW ns es out) ∧ Hid (Below W0.heap.size W0 wr) ∧ Hid (OwnS W0.heap.size wr s4 out))
  case atStart => exact ⟨[], by simp, hid ⟨by simp, by simp, by simp⟩, hid (Below.refl _ _), hid (ownS_nil _ _)⟩
  case round =>
    obtain ⟨out, hgg, HO, HBL, HW⟩ := hrel
    have HBW := hid (HB0.out.trans (HBL.out.mono HB0.out.size))
    have HCW := hid ((HBL.out.block _ (lt_of_block HC0.out)).trans HC0.out)
    have hol := HO.out.2.1
    obtain ⟨ro, co, rfl, hro1, hro2⟩ := HW.out.form
    have z0 := cellv HCW.out 0 rfl
    have z1 := cellv HCW.out 1 rfl
    by_cases hlt : out.length < ns.length
    case neg =>
      have HF := hid (HO.out.fin hlt)
      go_wp2
      go_ret2
      exact ⟨.slice ro out.length co, ret_pair HF.out.2, by rw [HF.out.1]; exact HW.out.sl, HBW.out⟩
    have HP := hid (fun k hk h h1 h2 => HO.out.more (pick_at (k := k) hk h h1 h2) hlt)
    have HQ := hid (fun h => HO.out.stuck hlt (pick_no h))
    obtain ⟨wo, rfl⟩ : ∃ wo : World, wo = wr := ⟨_, rfl⟩
    go_wp2
    clear z0 z1
    go_loopw [5] (fun i wr => ∃ k : Nat, k ≤ ns.length ∧ i = .int .i64 k ∧ Hid (Below wo.heap.size wo wr) ∧ Hid (∀ j (hj : j < ns.length), j < k → hasS ns[j] out = true ∨ rdyB es out ns[j] = false)) (fun i _ => ns.length - (RowKit.intOf i).toNat)
    case atStart => exact ⟨0, by omega, rfl, hid (Below.refl _ _), hid (fun j hj h => absurd h (by omega))⟩
    case round =>
      obtain ⟨k, hk, rfl, HBo, HK⟩ := hrel
      have HBw := hid (HBW.out.trans (HBo.out.mono HBW.out.size))
      have HCw := hid ((HBo.out.block _ (lt_of_block HCW.out)).trans HCW.out)
      have HWw := hid (HW.out.below HBo.out)
      have u0 := cellv HCw.out 0 rfl
      have u1 := cellv HCw.out 1 rfl
      by_cases hkl : k < ns.length
      · obtain ⟨b, off, e0, hb, g0, hz0⟩ := str_at (HN.out _ HBw.out) k hkl
        subst e0
        have HNx := hid (fun (h : hasS ns[k] out = true ∨ rdyB es out ns[k] = false) => show ∀ j (hj : j < ns.length), j < k + 1 → hasS ns[j] out = true ∨ rdyB es out ns[j] = false from fun j hj hjk => by
          by_cases e : j < k
          · exact HK.out j hj e
          · obtain rfl : j = k := by omega
            exact h)
        have HPk := hid (HP.out k hkl HK.out)
        have k2 : (0 : Int) ≤ (k : Int) := by omega
        have k3 : (k : Int) < (ns.length : Int) := by omega
        have k4 : ¬ (k : Int) = (ns.length : Int) := by omega
        generalize ns[k] = y at *
        have HZ := hid hz0
        clear hz0
        cases hh : hasS y out with
        | true =>
          have CH1 := hid (fun (n : Nat) => (has_any out y _ (wr.drewN n) (HWw.out.sl.below strR_mono ((Below.refl wr.heap.size wr).drewN n))).mono fun e w' ⟨h1, h2⟩ => (show e = Ending.returned (.bool true) ∧ w' = wr.drewN n from ⟨by rw [h1, hh], h2.symm⟩))
          have HN2 := hid (HNx.out (Or.inl hh))
          clear hh HPk HNx
          go_wp2
          go_quiet (exact Calls.quiet_of_same (CH1.out _))
          go_wp2
          go_roundw
          case rel => exact ⟨k + 1, by omega, by go_num, hid (HBo.out.drewN _), HN2⟩
          case measure => simp [RowKit.intOf]; omega
        | false =>
          have CH1 := hid (fun (W : World) (hW : Below wr.heap.size wr W) => (has_any out y _ W (HWw.out.sl.below strR_mono hW)).mono fun e w' ⟨h1, h2⟩ => (show e = Ending.returned (.bool false) ∧ w' = W from ⟨by rw [h1, hh], h2.symm⟩))
          have CR := hid (fun (W : World) (hW : Below wr.heap.size wr W) => rready_any _ _ _ ns es out y W (HN.out _ (HBw.out.trans (hW.mono HBw.out.size))) (HS.out _ (HBw.out.trans (hW.mono HBw.out.size))) (HWw.out.sl.below strR_mono hW))
          have HNx2 := hid (fun h => HNx.out (Or.inr h))
          have HPk2 := hid (fun h => HPk.out hh h)
          clear hh HPk HNx
          generalize rdyB es out y = rv at *
          have hB : Below wr.heap.size wr wr.drew := (Below.refl _ _).drew
          go_wp2
          go_region_held3 (fun w' => w'.cell? ⟨w.heap.size, 0, none⟩ = some (.slice (some ⟨b, off, none⟩) ns.length cn) ∧ w'.cell? ⟨w.heap.size, 1, none⟩ = some (.slice r es.length c) ∧ w'.cell? ⟨b, off + k, none⟩ = some (.string y))
            (first | go_keep | exact ⟨bget hq u0, bget hq u1, bget hq g0⟩)
            ((first
              | (go_at_call 37
                 refine (CH1.out _ hB).mono ?_
                 rintro e w3 ⟨rfl, rfl⟩)
              | (go_at_call 38
                 refine (CR.out _ hB).mono ?_
                 rintro e w3 ⟨rfl, hb3⟩
                 have hq : Below wr.heap.size wr w3 := hB.trans (hb3.mono hB.size)
                 clear hb3)))
          all_goals
            have HBo3 := hid (HBo.out.trans (hq.mono HBo.out.size))
            have HC3 := hid ((hq.block _ (lt_of_block HCw.out)).trans HCw.out)
            have HW3 := hid (HWw.out.below hq)
            have v0 := cellv HC3.out 0 rfl
            have v1 := cellv HC3.out 1 rfl
            have f0 := bget hq g0
            clear u0 u1 g0 hq hB CH1 CR
            cases rv with
            | false =>
              have HN2 := hid (HNx2.out rfl)
              clear HNx2 HPk2
              go_wp2
              go_roundw
              case rel => exact ⟨k + 1, by omega, by go_num, HBo3, HN2⟩
              case measure => simp [RowKit.intOf]; omega
            | true =>
              have HON := hid (HPk2.out rfl)
              clear HNx2 HPk2
              have HOa := hid (HW3.out.below ((Below.refl _ _).alloc (Nat.le_refl _) (.cells #[.string y] 9)))
              have HBn := hid (HBL.out.trans (HBo3.out.mono HBL.out.size))
              have HBa := hid (HBn.out.alloc HBn.out.size (.cells #[.string y] 9))
              have hszz := HBn.out.size
              have HLo := hid HW3.out.lt
              have HLn := hid (show out.length + 1 ≤ 1000000 by omega)
              go_wp2_with (at_builtin
                           refine app_str rfl _ _ rfl W0.heap.size _ out rfl HOa.out w3.heap.size 1 y rfl (fr := (0, 0)) (by exact (MapKept.heap_alloc w3 _).1) HZ.out HLn.out (by simp; omega) (w3.heap.size + 1) (by simp) ?_
                           intro g cap w7 hm7
                           have HM7 := hid hm7
                           clear hm7)
              go_roundg (ns.length - (out ++ [y]).length)
              case measure => simp; omega
              case rel =>
                obtain ⟨m1, m2, m3, m4⟩ := HM7.out
                have e2 : (out ++ [y]).length = out.length + 1 := by simp
                rw [e2] at m1
                exact ⟨out ++ [y], Nat.le_refl _, HON, hid (Below.grown HBa.out m2 HBa.out.size (fun g hg => (HLo.out g hg).1)), hid m1⟩
      · obtain rfl : k = ns.length := by omega
        have HX := hid (HQ.out fun j hj => HK.out j hj hj)
        go_wp2
        go_quiet (fail)
        go_wp2
        go_ret2
        exact ⟨.slice none 0 0, ret_pair HX.out.2, by rw [HX.out.1]; exact sl_nilS _, HBw.out.drewN _⟩
end Go.Proofs.Ytlhekldlfmdmiaa
