import Derived.Test.YtlhekldlfmdmiaaGs
/-
  The program's Reach. Conditions: those ahead of each theorem.
-/
namespace Go.Proofs.Ytlhekldlfmdmiaa
open Go.RowKit Go.Sort Go.Lib Go.Maps
open Go.Lib (hid)
set_option linter.unusedVariables false
set_option linter.unusedSimpArgs false

def tgU (es : List Ed) : List ByteArray := es.map (·.2)
theorem tgU_mem {es : List Ed} : ∀ x, ∀ y ∈ tgt es x, y ∈ tgU es := fun x y hy => List.mem_map.2 ⟨(x, y), mem_tgt.1 hy, rfl⟩
/-- A list in order of those of the nodes that have a property. -/
def LisP (ns : List ByteArray) (p : ByteArray → Prop) (l : List ByteArray) : Prop := AscB l ∧ ∀ x, x ∈ l ↔ x ∈ ns ∧ p x
theorem lisP_filter {ns : List ByteArray} (ha : AscB ns) (q : ByteArray → Bool) (p : ByteArray → Prop) (h : ∀ x, q x = true ↔ p x) : LisP ns p (ns.filter q) :=
  ⟨asc_filter ha q, fun x => by rw [List.mem_filter, h]⟩
theorem LisP.uniq {ns : List ByteArray} {p : ByteArray → Prop} {l m : List ByteArray} (h : LisP ns p l) (h' : LisP ns p m) : l = m := ascB_eq h.1 h'.1 fun x => by rw [h.2, h'.2]
def RchN (ns : List ByteArray) (es : List Ed) (frm : List ByteArray) (x : ByteArray) : Prop := ∃ a ∈ frm, a ∈ ns ∧ ∃ n, Wk (tgt es) n a x
def RecP (ns : List ByteArray) (es : List Ed) (frm : List ByteArray) (w : World) (e : Ending) (w' : World) : Prop :=
  ∃ v l, e = .returned v ∧ Sl StrR 1 w' v l ∧ LisP ns (RchN ns es frm) l ∧ Below w.heap.size w w'

set_option maxRecDepth 100000 in
set_option maxHeartbeats 2000000 in
theorem reach_any (vn : Value) (ns : List ByteArray) (es : List Ed) (ve vf : Value) (frm : List ByteArray) (w : World) (hN : Sl StrR 1 w vn ns) (hS : Sl EdR 2 w ve es) (hF : Sl StrR 1 w vf frm) (ha : AscB ns) (hnn : ns.length ≤ 100000) (hn : es.length ≤ 100000) (hf : frm.length ≤ 100000) :
    Calls Try.prog 21 #[.agg #[vn, ve], vf] w (RecP ns es frm w) := by
  obtain ⟨r, c, rfl, _⟩ := id hS
  obtain ⟨rn, cn, rfl, _⟩ := id hN
  obtain ⟨rf, cf, rfl, _⟩ := id hF
  have hB0 : Below w.heap.size w (w.alloc (.cells #[.slice rn ns.length cn, .slice r es.length c] 25)) := (Below.refl _ _).alloc (Nat.le_refl _) _
  have hC0 : (w.alloc (.cells #[.slice rn ns.length cn, .slice r es.length c] 25)).heap[w.heap.size]? = some (.cells #[.slice rn ns.length cn, .slice r es.length c] 25 (0, 0)) := (MapKept.heap_alloc w _).1
  have HNs := hid (fun (W : World) (hW : Below (w.alloc (.cells #[.slice rn ns.length cn, .slice r es.length c] 25)).heap.size (w.alloc (.cells #[.slice rn ns.length cn, .slice r es.length c] 25)) W) => hN.below strR_mono (hB0.trans (hW.mono hB0.size)))
  have HEs := hid (fun (W : World) (hW : Below (w.alloc (.cells #[.slice rn ns.length cn, .slice r es.length c] 25)).heap.size (w.alloc (.cells #[.slice rn ns.length cn, .slice r es.length c] 25)) W) => hS.below edR_mono (hB0.trans (hW.mono hB0.size)))
  have HFs := hid (fun (W : World) (hW : Below (w.alloc (.cells #[.slice rn ns.length cn, .slice r es.length c] 25)).heap.size (w.alloc (.cells #[.slice rn ns.length cn, .slice r es.length c] 25)) W) => hF.below strR_mono (hB0.trans (hW.mono hB0.size)))
  have HB0 := hid hB0
  have HC0 := hid hC0
  have HA := hid ha
  clear hN hS hF hB0 hC0 ha
  go_enter Try.func21, Try.ntmps21
  go_wp2
  generalize (w.alloc (.cells #[.slice rn ns.length cn, .slice r es.length c] 25)) = W0 at *
  have z0 := cellv HC0.out 0 rfl
  have z1 := cellv HC0.out 1 rfl
  have hB : Below W0.heap.size W0 W0.drew := (Below.refl _ _).drew
  go_region_held3 (fun w' => w'.cell? ⟨w.heap.size, 0, none⟩ = some (.slice rn ns.length cn) ∧ w'.cell? ⟨w.heap.size, 1, none⟩ = some (.slice r es.length c))
    (exact ⟨cellv (hB.block _ (lt_of_block HC0.out) |>.trans HC0.out) 0 rfl, cellv (hB.block _ (lt_of_block HC0.out) |>.trans HC0.out) 1 rfl⟩)
    ((first
      | (go_at_call 33
         refine (next_any _ ns es _ _ (HNs.out _ hB) (HEs.out _ hB) (by omega)).mono ?_
         rintro e w1 ⟨rfl, ⟨n1, hg1⟩, hb1⟩
         have hAd := hg1.adj
         clear hg1
         try replace hSM := hSM.below hb1
         try replace hO1 := hO1.below hb1
         replace hB := hB.trans (hb1.mono hB.size)
         clear hb1)
      | (go_at_call 47
         refine (set_any frm _ _ (HFs.out _ hB) (by omega)).mono ?_
         rintro e w1 ⟨rfl, ⟨n2, c2, hn2, ho2⟩, hb1⟩
         have hSM := setM_of ho2
         clear ho2
         try replace hAd := hAd.below hb1
         replace hB := hB.trans (hb1.mono hB.size)
         clear hb1)
      | (go_at_call 46
         have _t := hSM
         refine (only_any ns _ _ _ _ (HNs.out _ hB) hSM (by omega)).mono ?_
         rintro e w1 ⟨v1, rfl, ho1, hb1⟩
         have hO1 := ho1
         clear ho1 hSM _t
         try replace hAd := hAd.below hb1
         replace hB := hB.trans (hb1.mono hB.size)
         clear hb1)
      | (go_at_call 44
         refine (reached_any _ (tgt es) (ns.filter fun x => hasS x frm) (tgU es) _ _ hAd hO1.sl tgU_mem (by have := List.length_filter_le (fun x => hasS x frm) ns; simp only [tgU, List.length_map]; omega)).mono ?_
         rintro e w1 ⟨sn, n3, c3, rfl, hn3, ho3, hsn, hb1⟩
         have hSN := setM_of ho3
         have HSN := hid hsn
         clear ho3 hsn
         replace hB := hB.trans (hb1.mono hB.size)
         clear hb1 hAd hO1)
      | (go_at_call 46
         have _t := hSN
         refine (only_any ns _ _ _ _ (HNs.out _ hB) hSN (by omega)).mono ?_
         rintro e w1 ⟨v4, rfl, ho4, hb1⟩
         have HO4 := hid ho4
         clear ho4 hSN _t
         replace hB := hB.trans (hb1.mono hB.size)
         clear hb1)))
  all_goals
    have HB := hid hB
    clear hB
    go_wp2
    go_ret
    refine ⟨_, _, rfl, HO4.out.sl, lisP_filter HA.out _ _ fun x => ?_, HB0.out.trans (HB.out.mono HB0.out.size)⟩
    rw [hasS_iff, HSN.out]
    unfold Rch RchN
    constructor
    · rintro ⟨a, h1, h2⟩
      rw [List.mem_filter, hasS_iff] at h1
      exact ⟨a, h1.2, h1.1, h2⟩
    · rintro ⟨a, h1, h2, h3⟩
      exact ⟨a, List.mem_filter.2 ⟨h2, hasS_iff.2 h1⟩, h3⟩
end Go.Proofs.Ytlhekldlfmdmiaa
