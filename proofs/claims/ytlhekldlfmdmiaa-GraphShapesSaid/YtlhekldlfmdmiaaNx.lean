import Derived.Test.YtlhekldlfmdmiaaNe
/-
  The reference's next: the targets of some nodes. Conditions: those ahead of each theorem.
-/
namespace Go.Proofs.Ytlhekldlfmdmiaa
open Go.RowKit Go.Sort Go.Lib Go.Maps
open Go.Lib (hid)
set_option linter.unusedVariables false
set_option linter.unusedSimpArgs false

def nxtL (es : List Ed) (frm : List ByteArray) : List ByteArray := es.foldl (fun a e => if hasS e.1 frm = true then insB e.2 a else a) []
theorem nxtL_take {es : List Ed} {frm : List ByteArray} {k : Nat} (hk : k < es.length) : nxtL (es.take (k + 1)) frm = if hasS (es[k]).1 frm = true then insB (es[k]).2 (nxtL (es.take k) frm) else nxtL (es.take k) frm := by
  unfold nxtL
  rw [List.take_succ_eq_append_getElem hk, List.foldl_append]; rfl
theorem nxt_fold (frm : List ByteArray) (l : List Ed) : ∀ a, AscB a → AscB (l.foldl (fun a e => if hasS e.1 frm = true then insB e.2 a else a) a) ∧ (∀ z, z ∈ l.foldl (fun a e => if hasS e.1 frm = true then insB e.2 a else a) a ↔ z ∈ a ∨ ∃ e ∈ l, e.1 ∈ frm ∧ e.2 = z) ∧ (l.foldl (fun a e => if hasS e.1 frm = true then insB e.2 a else a) a).length ≤ a.length + l.length := by
  induction l with
  | nil => intro a ha; exact ⟨ha, fun z => by simp, by simp⟩
  | cons x l ih =>
    intro a ha
    rw [List.foldl_cons]
    by_cases h : hasS x.1 frm = true
    · rw [if_pos h]
      obtain ⟨i1, i2, i3⟩ := ih (insB x.2 a) (insB_asc ha)
      refine ⟨i1, fun z => ?_, by have := insB_len x.2 a; simp; omega⟩
      rw [i2, mem_insB]
      constructor
      · rintro ((rfl | h1) | ⟨e, h1, h2⟩)
        · exact Or.inr ⟨x, by simp, hasS_iff.1 h, rfl⟩
        · exact Or.inl h1
        · exact Or.inr ⟨e, by simp [h1], h2⟩
      · rintro (h1 | ⟨e, h1, h2, h3⟩)
        · exact Or.inl (Or.inr h1)
        · rcases List.mem_cons.1 h1 with rfl | h1
          · exact Or.inl (Or.inl h3.symm)
          · exact Or.inr ⟨e, h1, h2, h3⟩
    · rw [if_neg h]
      obtain ⟨i1, i2, i3⟩ := ih a ha
      refine ⟨i1, fun z => ?_, by simp; omega⟩
      rw [i2]
      constructor
      · rintro (h1 | ⟨e, h1, h2⟩)
        · exact Or.inl h1
        · exact Or.inr ⟨e, by simp [h1], h2⟩
      · rintro (h1 | ⟨e, h1, h2, h3⟩)
        · exact Or.inl h1
        · rcases List.mem_cons.1 h1 with rfl | h1
          · exact absurd (hasS_iff.2 h2) h
          · exact Or.inr ⟨e, h1, h2, h3⟩
theorem nxtL_asc (es : List Ed) (frm : List ByteArray) : AscB (nxtL es frm) := (nxt_fold frm es [] List.Pairwise.nil).1
theorem mem_nxtL {es : List Ed} {frm : List ByteArray} {z : ByteArray} : z ∈ nxtL es frm ↔ ∃ e ∈ es, e.1 ∈ frm ∧ e.2 = z := by unfold nxtL; rw [(nxt_fold frm es [] List.Pairwise.nil).2.1]; simp
theorem nxtL_len (es : List Ed) (frm : List ByteArray) : (nxtL es frm).length ≤ es.length := by have := (nxt_fold frm es [] List.Pairwise.nil).2.2; simpa [nxtL] using this
def NxtP (es : List Ed) (frm : List ByteArray) (w : World) (e : Ending) (w' : World) : Prop := ∃ v', e = .returned v' ∧ NS w' v' (nxtL es frm) ∧ Below w.heap.size w w'

set_option maxRecDepth 100000 in
set_option maxHeartbeats 2000000 in
theorem rnext_any (vn ve vf : Value) (ns : List ByteArray) (es : List Ed) (frm : List ByteArray) (w : World) (hN : Sl StrR 1 w vn ns) (hS : Sl EdR 2 w ve es) (hF : Sl StrR 1 w vf frm) (hn : es.length ≤ 100000) :
    Calls Try.prog 42 #[.agg #[vn, ve], vf] w (NxtP es frm w) := by
  obtain ⟨r, c, rfl, _⟩ := id hS
  obtain ⟨rn, cn, rfl, _⟩ := id hN
  obtain ⟨_, hl, hm⟩ := sl_len hS
  have HF := hid (fun (W : World) (hW : Below w.heap.size w W) => hF.below strR_mono hW)
  have HE := hid (fun (W : World) (hW : Below w.heap.size w W) => ed_at (hS.below edR_mono hW))
  have HB0 := hid (show Below w.heap.size w (w.alloc (.cells #[.slice rn ns.length cn, .slice r es.length c] 25)) from (Below.refl _ _).alloc (Nat.le_refl _) _)
  have HC0 := hid (show (w.alloc (.cells #[.slice rn ns.length cn, .slice r es.length c] 25)).heap[w.heap.size]? = some (.cells #[.slice rn ns.length cn, .slice r es.length c] 25 (0, 0)) from (MapKept.heap_alloc w _).1)
  clear hN hS hF
  go_enter Try.func42, Try.ntmps42
  go_wp2
  generalize (w.alloc (.cells #[.slice rn ns.length cn, .slice r es.length c] 25)) = W0 at *
  go_loopw [5, 6] (fun s5 i wr => ∃ k : Nat, k ≤ es.length ∧ i = .int .i64 k ∧ Hid (Below W0.heap.size W0 wr) ∧ Hid (NS wr s5 (nxtL (es.take k) frm))) (fun _ i _ => es.length - (RowKit.intOf i).toNat)
  case atStart => exact ⟨0, by omega, rfl, hid (Below.refl _ _), hid (nsNil _)⟩
  case round =>
    obtain ⟨k, hk, rfl, HBL, HO⟩ := hrel
    have HBW := hid (HB0.out.trans (HBL.out.mono HB0.out.size))
    have HCW := hid ((HBL.out.block _ (lt_of_block HC0.out)).trans HC0.out)
    have u1 := cellv HCW.out 1 rfl
    by_cases hlt : k < es.length
    · obtain ⟨b, off, rfl, hb, g0, g1, hz0, hz1⟩ := HE.out _ HBW.out k hlt
      have HT := hid (nxtL_take (frm := frm) hlt)
      have HLn := hid (show (nxtL (es.take k) frm).length ≤ 100000 by have := nxtL_len (es.take k) frm; simp at this; omega)
      generalize nxtL (es.take k) frm = L at *
      have k2 : (0 : Int) ≤ (k : Int) := by omega
      have k3 : (k : Int) < (es.length : Int) := by omega
      generalize es[k] = y at *
      obtain ⟨y1, y2⟩ := y
      simp only at g0 g1 hz0 hz1
      have HZ1 := hid hz1
      clear hz0 hz1
      go_wp2_with fail
      refine (has_any frm y1 _ _ (HF.out _ HBW.out)).mono ?_
      rintro r' w' ⟨rfl, rfl⟩
      cases hh : hasS y1 frm with
      | false =>
        have HT2 := hid (HT.out.trans (if_neg (by rw [hh]; simp)))
        clear hh HT
        go_wp2
        go_roundw
        case rel => exact ⟨k + 1, by omega, by go_num, HBL, hid (by rw [HT2.out]; exact HO.out)⟩
        case measure => simp [RowKit.intOf]; omega
      | true =>
        have HT2 := hid (HT.out.trans (if_pos hh))
        clear hh HT
        go_wp2_with fail
        refine (node_any _ L y2 _ HO.out HLn.out HZ1.out).mono ?_
        rintro r' w3 ⟨v3, rfl, hns3, hb3, _⟩
        have HNS3 := hid hns3
        have HB3 := hid hb3
        clear hns3 hb3 u1 g0 g1
        go_wp2
        go_roundw
        case rel => exact ⟨k + 1, by omega, by go_num, hid (HBL.out.trans (HB3.out.mono HBL.out.size)), hid (by rw [HT2.out]; exact HNS3.out)⟩
        case measure => simp [RowKit.intOf]; omega
    · obtain rfl : k = es.length := by omega
      have HO2 := HO
      rw [List.take_length] at HO2
      go_wp2
      go_ret
      exact ⟨_, rfl, HO2.out, HBW.out⟩
end Go.Proofs.Ytlhekldlfmdmiaa
