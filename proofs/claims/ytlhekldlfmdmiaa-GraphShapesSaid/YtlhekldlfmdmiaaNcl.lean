import Derived.Test.YtlhekldlfmdmiaaNx
import Derived.Test.YtlhekldlfmdmiaaPs
/-
  The reference's closure: what is reached from some nodes. Conditions: those ahead of each theorem.
-/
namespace Go.Proofs.Ytlhekldlfmdmiaa
open Go.RowKit Go.Sort Go.Lib Go.Maps
open Go.Lib (hid)
set_option linter.unusedVariables false
set_option linter.unusedSimpArgs false

def stL (ns frm : List ByteArray) : List ByteArray := frm.foldl (fun a x => if hasS x ns = true then insB x a else a) []
theorem stL_take {ns frm : List ByteArray} {k : Nat} (hk : k < frm.length) : stL ns (frm.take (k + 1)) = if hasS frm[k] ns = true then insB frm[k] (stL ns (frm.take k)) else stL ns (frm.take k) := by
  unfold stL
  rw [List.take_succ_eq_append_getElem hk, List.foldl_append]; rfl
theorem st_fold (ns : List ByteArray) (l : List ByteArray) : ∀ a, AscB a → AscB (l.foldl (fun a x => if hasS x ns = true then insB x a else a) a) ∧ (∀ z, z ∈ l.foldl (fun a x => if hasS x ns = true then insB x a else a) a ↔ z ∈ a ∨ (z ∈ l ∧ z ∈ ns)) := by
  induction l with
  | nil => intro a ha; exact ⟨ha, fun z => by simp⟩
  | cons x l ih =>
    intro a ha
    rw [List.foldl_cons]
    by_cases h : hasS x ns = true
    · rw [if_pos h]
      obtain ⟨i1, i2⟩ := ih (insB x a) (insB_asc ha)
      refine ⟨i1, fun z => ?_⟩
      rw [i2, mem_insB, List.mem_cons]
      constructor
      · rintro ((rfl | h1) | ⟨h1, h2⟩)
        · exact Or.inr ⟨Or.inl rfl, hasS_iff.1 h⟩
        · exact Or.inl h1
        · exact Or.inr ⟨Or.inr h1, h2⟩
      · rintro (h1 | ⟨rfl | h1, h2⟩)
        · exact Or.inl (Or.inr h1)
        · exact Or.inl (Or.inl rfl)
        · exact Or.inr ⟨h1, h2⟩
    · rw [if_neg h]
      obtain ⟨i1, i2⟩ := ih a ha
      refine ⟨i1, fun z => ?_⟩
      rw [i2, List.mem_cons]
      constructor
      · rintro (h1 | ⟨h1, h2⟩)
        · exact Or.inl h1
        · exact Or.inr ⟨Or.inr h1, h2⟩
      · rintro (h1 | ⟨rfl | h1, h2⟩)
        · exact Or.inl h1
        · exact absurd (hasS_iff.2 h2) h
        · exact Or.inr ⟨h1, h2⟩
theorem stL_asc (ns frm : List ByteArray) : AscB (stL ns frm) := (st_fold ns frm [] List.Pairwise.nil).1
theorem mem_stL {ns frm : List ByteArray} {z : ByteArray} : z ∈ stL ns frm ↔ z ∈ frm ∧ z ∈ ns := by unfold stL; rw [(st_fold ns frm [] List.Pairwise.nil).2]; simp
theorem asc_sub_len {a b : List ByteArray} (ha : AscB a) (h : ∀ x ∈ a, x ∈ b) : a.length ≤ b.length := nodup_len (asc_nodup stoB ha) h
/-- The closure under way. -/
structure Clo (ns : List ByteArray) (es : List Ed) (frm out : List ByteArray) : Prop where
  asc : AscB out
  sub : ∀ x ∈ out, x ∈ ns
  st : ∀ x, x ∈ frm → x ∈ ns → x ∈ out
  rch : ∀ x ∈ out, RchN ns es frm x
theorem Clo.start (ns : List ByteArray) (es : List Ed) (frm : List ByteArray) : Clo ns es frm (stL ns frm) :=
  ⟨stL_asc ns frm, fun x h => (mem_stL.1 h).2, fun x h1 h2 => mem_stL.2 ⟨h1, h2⟩, fun x h => ⟨x, (mem_stL.1 h).1, (mem_stL.1 h).2, 0, rfl⟩⟩
def morL (out l : List ByteArray) : List ByteArray := l.foldl (fun a x => insB x a) out
theorem morL_take {out l : List ByteArray} {k : Nat} (hk : k < l.length) : morL out (l.take (k + 1)) = insB l[k] (morL out (l.take k)) := by
  unfold morL
  rw [List.take_succ_eq_append_getElem hk, List.foldl_append]; rfl
theorem morL_len (out l : List ByteArray) : (morL out l).length ≤ out.length + l.length ∧ out.length ≤ (morL out l).length := by
  unfold morL
  induction l generalizing out with
  | nil => simp
  | cons x l ih =>
    rw [List.foldl_cons]
    have := ih (insB x out)
    have h1 := insB_len x out
    have h2 := insB_len' x out
    simp; omega
theorem Clo.more {ns : List ByteArray} {es : List Ed} {frm out : List ByteArray} (h : Clo ns es frm out) (he : endsIn ns es = true) : Clo ns es frm (morL out (nxtL es out)) := by
  have hf := fold_insB (nxtL es out) out h.asc
  refine ⟨hf.1, fun x hx => ?_, fun x h1 h2 => (hf.2 x).2 (Or.inl (h.st x h1 h2)), fun x hx => ?_⟩
  · rcases (hf.2 x).1 hx with hx | hx
    · exact h.sub x hx
    · obtain ⟨e, h1, h2, rfl⟩ := mem_nxtL.1 hx
      exact (ends_mem he e h1).2
  · rcases (hf.2 x).1 hx with hx | hx
    · exact h.rch x hx
    · obtain ⟨e, h1, h2, rfl⟩ := mem_nxtL.1 hx
      obtain ⟨a, ha, han, n, hw⟩ := h.rch _ h2
      exact ⟨a, ha, han, n + 1, wk_snoc.2 ⟨e.1, hw, mem_tgt.2 h1⟩⟩
theorem Clo.fin {ns : List ByteArray} {es : List Ed} {frm out : List ByteArray} (h : Clo ns es frm out) (hl : (morL out (nxtL es out)).length = out.length) : LisP ns (RchN ns es frm) out := by
  refine ⟨h.asc, fun x => ⟨fun hx => ⟨h.sub x hx, h.rch x hx⟩, ?_⟩⟩
  have hf := fold_insB (nxtL es out) out h.asc
  have hcl : ∀ e ∈ es, e.1 ∈ out → e.2 ∈ out := fun e he h1 => by
    refine Classical.byContradiction fun hn => ?_
    have hm : e.2 ∈ morL out (nxtL es out) := (hf.2 e.2).2 (Or.inr (mem_nxtL.2 ⟨e, he, h1, rfl⟩))
    have h2 := nodup_len (a := e.2 :: out) (b := morL out (nxtL es out)) (List.nodup_cons.2 ⟨hn, asc_nodup stoB h.asc⟩) (fun y hy => by
      rcases List.mem_cons.1 hy with rfl | hy
      · exact hm
      · exact (hf.2 y).2 (Or.inl hy))
    rw [hl] at h2
    simp at h2
    omega
  rintro ⟨hx, a, ha, han, n, hw⟩
  have key : ∀ (n : Nat) (a : ByteArray), a ∈ out → Wk (tgt es) n a x → x ∈ out := by
    intro n
    induction n with
    | zero => intro a ha hw; cases hw; exact ha
    | succ n ih =>
      rintro a ha ⟨c, hc, hw⟩
      exact ih c (hcl _ (mem_tgt.1 hc) ha) hw
  exact key n a (h.st a ha han) hw
theorem NS.form {w : World} {v : Value} {l : List ByteArray} (h : NS w v l) : ∃ r c, v = .slice r l.length c ∧ l.length ≤ c ∧ c ≤ 9223372036854775807 := by
  obtain ⟨r, c, hv, h1, h2, _⟩ := h.1
  exact ⟨r, c, hv, h1, h2⟩
def CloP (ns : List ByteArray) (es : List Ed) (frm : List ByteArray) (w : World) (e : Ending) (w' : World) : Prop :=
  ∃ v l, e = .returned v ∧ NS w' v l ∧ LisP ns (RchN ns es frm) l ∧ Below w.heap.size w w' ∧ ∀ g, v.ownBlock = some g → w.heap.size ≤ g

set_option maxRecDepth 100000 in
set_option maxHeartbeats 4000000 in
theorem rclosure_any (vn ve vf : Value) (ns : List ByteArray) (es : List Ed) (frm : List ByteArray) (w : World) (hN : Sl StrR 1 w vn ns) (hS : Sl EdR 2 w ve es) (hF : Sl StrR 1 w vf frm) (he : endsIn ns es = true) (hnn : ns.length ≤ 10000) (hn : es.length ≤ 10000) (hfn : frm.length ≤ 10000) :
    Calls Try.prog 45 #[.agg #[vn, ve], vf] w (CloP ns es frm w) := by
  obtain ⟨r, c, rfl, _⟩ := id hS
  obtain ⟨rn, cn, rfl, _⟩ := id hN
  obtain ⟨rf, cf, rfl, _⟩ := id hF
  have HN := hid (fun (W : World) (hW : Below w.heap.size w W) => hN.below strR_mono hW)
  have HS := hid (fun (W : World) (hW : Below w.heap.size w W) => hS.below edR_mono hW)
  have HF := hid (fun (W : World) (hW : Below w.heap.size w W) => str_at (hF.below strR_mono hW))
  have HB0 := hid (show Below w.heap.size w (w.alloc (.cells #[.slice rn ns.length cn, .slice r es.length c] 25)) from (Below.refl _ _).alloc (Nat.le_refl _) _)
  have HC0 := hid (show (w.alloc (.cells #[.slice rn ns.length cn, .slice r es.length c] 25)).heap[w.heap.size]? = some (.cells #[.slice rn ns.length cn, .slice r es.length c] 25 (0, 0)) from (MapKept.heap_alloc w _).1)
  have HEn := hid he
  clear hN hS hF he
  go_enter Try.func45, Try.ntmps45
  go_wp2
  generalize (w.alloc (.cells #[.slice rn ns.length cn, .slice r es.length c] 25)) = W0 at *
  go_loopw [5, 6] (fun s5 i wr => ∃ k : Nat, k ≤ frm.length ∧ i = .int .i64 k ∧ Hid (Below W0.heap.size W0 wr) ∧ Hid (NS wr s5 (stL ns (frm.take k))) ∧ Hid (∀ g, s5.ownBlock = some g → w.heap.size ≤ g)) (fun _ i _ => frm.length - (RowKit.intOf i).toNat)
  case atStart => exact ⟨0, by omega, rfl, hid (Below.refl _ _), hid (nsNil _), hid (fun g hg => by cases hg)⟩
  case round =>
    obtain ⟨k, hk, rfl, HBL, HO, HFr⟩ := hrel
    have HBW := hid (HB0.out.trans (HBL.out.mono HB0.out.size))
    have HCW := hid ((HBL.out.block _ (lt_of_block HC0.out)).trans HC0.out)
    have u0 := cellv HCW.out 0 rfl
    by_cases hlt : k < frm.length
    · obtain ⟨b, off, rfl, hb, g0, hz0⟩ := HF.out _ HBW.out k hlt
      have HT := hid (stL_take (ns := ns) hlt)
      have HLn := hid (show (stL ns (frm.take k)).length ≤ 100000 by have := asc_sub_len (stL_asc ns (frm.take k)) (b := ns) (fun x hx => (mem_stL.1 hx).2); omega)
      generalize stL ns (frm.take k) = L at *
      have k2 : (0 : Int) ≤ (k : Int) := by omega
      have k3 : (k : Int) < (frm.length : Int) := by omega
      generalize frm[k] = y at *
      have HZ := hid hz0
      have CH1 := hid (fun (n : Nat) => (has_any ns y _ (wr.drewN n) (HN.out _ (HBW.out.drewN n))).mono fun e w' ⟨h1, h2⟩ => (show e = Ending.returned (.bool (hasS y ns)) ∧ w' = wr.drewN n from ⟨h1, h2.symm⟩))
      clear hz0
      cases hh : hasS y ns with
      | false =>
        rw [hh] at CH1
        have HT2 := hid (HT.out.trans (if_neg (by rw [hh]; simp)))
        clear hh HT
        go_wp2
        go_quiet (exact Calls.quiet_of_same (CH1.out _))
        go_wp2
        go_roundw
        case rel => exact ⟨k + 1, by omega, by go_num, hid (HBL.out.drewN _), hid (by rw [HT2.out]; exact HO.out.below ((Below.refl _ _).drewN _)), HFr⟩
        case measure => simp [RowKit.intOf]; omega
      | true =>
        rw [hh] at CH1
        have HT2 := hid (HT.out.trans (if_pos hh))
        clear hh HT
        go_wp2
        go_quiet (exact Calls.quiet_of_same (CH1.out _))
        have g1 := bget ((Below.refl wr.heap.size wr).drewN nq) g0
        have HBW2 := hid (HBW.out.drewN nq)
        have HBL2 := hid (HBL.out.drewN nq)
        have HO2 := hid (HO.out.below ((Below.refl wr.heap.size wr).drewN nq))
        generalize wr.drewN nq = W2 at *
        clear g0 u0 HO HBW HBL HCW CH1
        go_wp2_with fail
        refine (node_any _ L y _ HO2.out HLn.out HZ.out).mono ?_
        rintro r' w3 ⟨v3, rfl, hns3, hb3, hfr3⟩
        have HNS3 := hid hns3
        have HB3 := hid hb3
        have HFr3 := hid (show ∀ g, v3.ownBlock = some g → w.heap.size ≤ g from fun g hg => (hfr3 g hg).elim (HFr.out g) fun h => Nat.le_trans HBW2.out.size h)
        clear hns3 hb3 hfr3
        go_wp2
        go_roundw
        case rel => exact ⟨k + 1, by omega, by go_num, hid (HBL2.out.trans (HB3.out.mono HBL2.out.size)), hid (by rw [HT2.out]; exact HNS3.out), HFr3⟩
        case measure => simp [RowKit.intOf]; omega
    · obtain rfl : k = frm.length := by omega
      have HO2 := HO
      rw [List.take_length] at HO2
      have HCo := hid (Clo.start ns es frm)
      generalize stL ns frm = L0 at *
      obtain ⟨wa, rfl⟩ : ∃ wa : World, wa = wr := ⟨_, rfl⟩
      clear HO
      go_wp2
      go_loopg [5] ns.length (fun gg s5 wr => ∃ out : List ByteArray, ns.length - out.length ≤ gg ∧ Hid (Clo ns es frm out) ∧ Hid (Below W0.heap.size W0 wr) ∧ Hid (NS wr s5 out) ∧ Hid (∀ g, s5.ownBlock = some g → w.heap.size ≤ g))
      case atStart => exact ⟨L0, by omega, HCo, HBL, HO2, HFr⟩
      case round =>
        clear HO2 HBL HBW HCW u0 HCo HFr
        obtain ⟨out, hgg, HC, HBL, HO, HFr⟩ := hrel
        have HBW := hid (HB0.out.trans (HBL.out.mono HB0.out.size))
        have HCW := hid ((HBL.out.block _ (lt_of_block HC0.out)).trans HC0.out)
        have hol := asc_sub_len HC.out.asc HC.out.sub
        obtain ⟨ro, co, rfl, hro1, hro2⟩ := HO.out.form
        have z0 := cellv HCW.out 0 rfl
        have z1 := cellv HCW.out 1 rfl
        have HMl := hid (morL_len out (nxtL es out))
        have HNl := hid (nxtL_len es out)
        go_wp2_with fail
        refine (rnext_any _ _ _ ns es out _ (HN.out _ HBW.out) (HS.out _ HBW.out) HO.out.1 (by omega)).mono ?_
        rintro r' w3 ⟨v3, rfl, hns3, hb3⟩
        have HB3 := hid hb3
        have HO3 := hid (HO.out.below hb3)
        have HNx := hid (fun (W : World) (hW : Below w3.heap.size w3 W) => hns3.below hW)
        obtain ⟨rx, cx, rfl, hrx1, hrx2⟩ := hns3.form
        have HBW3 := hid (HBW.out.trans (hb3.mono HBW.out.size))
        clear hb3 hns3 z0 z1
        generalize hX : nxtL es out = X at *
        have HXe := hid hX
        clear hX
        go_wp2
        obtain ⟨wo, rfl⟩ : ∃ wo : World, wo = wr := ⟨_, rfl⟩
        go_loopw [7, 9] (fun s7 i wr => ∃ k : Nat, k ≤ X.length ∧ i = .int .i64 k ∧ Hid (Below w3.heap.size w3 wr) ∧ Hid (NS wr s7 (morL out (X.take k))) ∧ Hid (∀ g, s7.ownBlock = some g → w.heap.size ≤ g)) (fun _ i _ => X.length - (RowKit.intOf i).toNat)
        case atStart => exact ⟨0, by omega, rfl, hid (Below.refl _ _), HO3, HFr⟩
        case round =>
          obtain ⟨k, hk, rfl, HBl, HM, HFm⟩ := hrel
          have HBx := hid (HBW3.out.trans (HBl.out.mono HBW3.out.size))
          by_cases hlt : k < X.length
          · obtain ⟨b, off, rfl, hb, g0, hz0⟩ := str_at (HNx.out _ HBl.out).1 k hlt
            have HT := hid (morL_take (out := out) hlt)
            have HLn := hid (show (morL out (X.take k)).length ≤ 100000 by have := (morL_len out (X.take k)).1; simp at this; have h2 := HNl.out; omega)
            generalize morL out (X.take k) = L at *
            generalize X[k] = y at *
            have HZ := hid hz0
            clear hz0
            go_wp2_with fail
            refine (node_any _ L y _ HM.out HLn.out HZ.out).mono ?_
            rintro r' w4 ⟨v4, rfl, hns4, hb4, hfr4⟩
            have HNS4 := hid hns4
            have HB4 := hid hb4
            have HF4 := hid (show ∀ g, v4.ownBlock = some g → w.heap.size ≤ g from fun g hg => (hfr4 g hg).elim (HFm.out g) fun h => Nat.le_trans HBx.out.size h)
            clear hns4 hb4 g0 hfr4
            go_wp2
            go_roundw
            case rel => exact ⟨k + 1, by omega, by go_num, hid (HBl.out.trans (HB4.out.mono HBl.out.size)), hid (by rw [HT.out]; exact HNS4.out), HF4⟩
            case measure => simp [RowKit.intOf]; omega
          · obtain rfl : k = X.length := by omega
            have HM2 := HM
            rw [List.take_length] at HM2
            obtain ⟨rm, cm, rfl, hrm1, hrm2⟩ := HM2.out.form
            have HO5 := hid (HO3.out.below HBl.out)
            have HCM := hid (HC.out.more HEn.out)
            have HFi := hid HC.out.fin
            rw [HXe.out] at HCM HFi
            have hml := HMl.out
            have hcl := asc_sub_len HCM.out.asc HCM.out.sub
            generalize morL out X = M at *
            clear HM HMl
            by_cases hlen : M.length = out.length
            · have HF2 := hid (HFi.out hlen)
              have hz : (M.length : Int) = (out.length : Int) := by omega
              clear hlen HFi
              go_wp2
              go_ret
              exact ⟨_, out, rfl, HO5.out, HF2.out, HBx.out, HFr.out⟩
            · have hz : ¬ (M.length : Int) = (out.length : Int) := by omega
              have hbl := HB3.out.trans (HBl.out.mono HB3.out.size)
              have HBLn := hid (HBL.out.trans (hbl.mono HBL.out.size))
              clear hbl HFi
              go_wp2
              go_roundg (ns.length - M.length)
              case measure => omega
              case rel => exact ⟨M, Nat.le_refl _, HCM, HBLn, HM2, HFm⟩
end Go.Proofs.Ytlhekldlfmdmiaa
