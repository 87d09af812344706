import Derived.Test.YtlhekldlfmdmiaaPa
/-
  The statements' awake. Conditions: none.
-/
namespace Go.Proofs.Ytlhekldlfmdmiaa
open Go.RowKit Go.Sort Go.Lib Go.Maps
open Go.Lib (hid)
set_option linter.unusedVariables false
set_option linter.unusedSimpArgs false

theorem sl_lit (w : World) (l : List ByteArray) {b T : Nat} {fr : Nat × Nat} (hs : ∀ x ∈ l, x.size ≤ 100) (hl : l.length ≤ 1000) (h : w.heap[b]? = some (.cells (l.map Value.string).toArray T fr)) : Sl StrR 1 w (.slice (some ⟨b, 0, none⟩) l.length l.length) l := by
  refine ⟨_, _, rfl, Nat.le_refl _, by unfold maxLen; omega, fun i hi => ⟨b, 0, [.string l[i]], rfl, rfl, fun j u hj => ?_, rfl, by have := hs _ (List.getElem_mem hi); unfold maxLen; omega⟩⟩
  have hj0 : j = 0 := by
    have := (List.getElem?_eq_some_iff.1 hj).1; simp at this; exact this
  subst hj0
  simp at hj
  subst hj
  rw [cell_of h]
  simp [hi]
theorem rg3 : redG [sa, sb, sc] [(sa, sb), (sa, sc), (sb, sc)] = ([sa, sb, sc], redL (tgt [(sa, sb), (sa, sc), (sb, sc)]) [sa, sb, sc], 0) := by unfold redG; rw [o3]; rfl
theorem run_field1 (a b : Option Addr) (n c m d : Nat) (W : World) : (Instr.field 25 (.agg #[.slice a n c, .slice b m d]) 1).run Try.prog W = .ok (.slice b m d) W := by kernel_rfl
theorem alloc_below (w : World) (o : Obj) : Below w.heap.size w (w.alloc o) := (Below.refl _ _).alloc (Nat.le_refl _) _

set_option maxRecDepth 100000 in
set_option maxHeartbeats 4000000 in
theorem awake_any (w : World) : Calls Try.prog 11 #[] w fun e w' => e = .returned (.bool true) ∧ Below w.heap.size w w' := by
  go_enter Try.func11, Try.ntmps11
  have HB := hid (Below.refl w.heap.size w)
  go_wp2_with fail
  refine (made_any [⟨#[97, 99]⟩, ⟨#[99, 98]⟩] _ _ (sl_lit _ [⟨#[97, 99]⟩, ⟨#[99, 98]⟩] (by decide) (by decide) (by exact (MapKept.heap_alloc _ _).1)) (by decide) (by decide)).mono ?_
  rintro e w1 ⟨vn1, ve1, rfl, hn1, he1, hb1⟩
  have b1 := hid (show Below w.heap.size w w1 from ((Below.refl _ _).alloc (Nat.le_refl _) _).trans (hb1.mono (by simp)))
  replace HB := hid (HB.out.trans (b1.out.mono HB.out.size))
  simp only [g1] at hn1 he1
  clear hb1 b1
  go_wp2_with fail
  refine (order_any _ _ _ _ _ hn1 he1 a3 e1 (by decide) (by decide)).mono ?_
  rintro e w2 ⟨vl, rfl, hvl, hb2⟩
  have b2 := hid (show Below w1.heap.size w1 w2 from hb2)
  replace hn1 := hn1.below strR_mono b2.out
  replace he1 := he1.below edR_mono b2.out
  replace HB := hid (HB.out.trans (b2.out.mono HB.out.size))
  rw [o1.2]
  rw [o1.1] at hvl
  clear hb2 b2
  clear hn1 he1
  go_wp2_with fail
  refine (made_any [⟨#[97, 98]⟩, ⟨#[98, 97]⟩] _ _ (sl_lit _ [⟨#[97, 98]⟩, ⟨#[98, 97]⟩] (by decide) (by decide) (by exact (MapKept.heap_alloc _ _).1)) (by decide) (by decide)).mono ?_
  rintro e w3 ⟨vn2, ve2, rfl, hn2, he2, hb3⟩
  have b3 := hid (show Below w2.heap.size w2 w3 from ((Below.refl _ _).alloc (Nat.le_refl _) _).trans (hb3.mono (by simp)))
  replace hvl := hvl.below strR_mono b3.out
  replace HB := hid (HB.out.trans (b3.out.mono HB.out.size))
  simp only [g2] at hn2 he2
  clear hb3 b3
  go_wp2_with fail
  refine (order_any _ _ _ _ _ hn2 he2 a2 e2 (by decide) (by decide)).mono ?_
  rintro e w4 ⟨vf, rfl, hvf, hb4⟩
  have b4 := hid (show Below w3.heap.size w3 w4 from hb4)
  replace hvl := hvl.below strR_mono b4.out
  replace hn2 := hn2.below strR_mono b4.out
  replace he2 := he2.below edR_mono b4.out
  replace HB := hid (HB.out.trans (b4.out.mono HB.out.size))
  rw [o2]
  clear hvf
  clear hb4 b4
  clear hn2 he2
  go_wp2_with fail
  refine (made_any [⟨#[97, 98]⟩, ⟨#[98, 99]⟩, ⟨#[97, 99]⟩] _ _ (sl_lit _ [⟨#[97, 98]⟩, ⟨#[98, 99]⟩, ⟨#[97, 99]⟩] (by decide) (by decide) (by exact (MapKept.heap_alloc _ _).1)) (by decide) (by decide)).mono ?_
  rintro e w5 ⟨vn3, ve3, rfl, hn3, he3, hb5⟩
  have b5 := hid (show Below w4.heap.size w4 w5 from ((Below.refl _ _).alloc (Nat.le_refl _) _).trans (hb5.mono (by simp)))
  replace hvl := hvl.below strR_mono b5.out
  replace HB := hid (HB.out.trans (b5.out.mono HB.out.size))
  simp only [g3] at hn3 he3
  clear hb5 b5
  go_wp2_with fail
  refine (reduce_any _ _ _ _ _ hn3 he3 a3 e3 (by decide) (by decide)).mono ?_
  rintro e w6 ⟨vn4, ve4, rfl, hn4, he4, hb6⟩
  have b6 := hid (show Below w5.heap.size w5 w6 from hb6)
  replace hvl := hvl.below strR_mono b6.out
  replace hn3 := hn3.below strR_mono b6.out
  replace he3 := he3.below edR_mono b6.out
  replace HB := hid (HB.out.trans (b6.out.mono HB.out.size))
  simp only [rg3] at hn4 he4 ⊢
  obtain ⟨r4, c4, hv4, _⟩ := id he4
  rw [r3] at hv4
  subst hv4
  obtain ⟨rn4, cn4, hvn4, _⟩ := id hn4
  rw [show [sa, sb, sc].length = 3 from rfl] at hvn4
  subst hvn4
  clear hn4 he4
  clear hb6 b6
  clear hn3 he3
  have q4 : (w6.alloc (.cells #[.slice rn4 3 cn4, .slice r4 2 c4] 25)).cell? ⟨w6.heap.size, 1, none⟩ = some (.slice r4 2 c4) := cell_at rfl rfl
  have HX := hid (fun (W : World) (hW : Below (w6.alloc (.cells #[.slice rn4 3 cn4, .slice r4 2 c4] 25)).heap.size (w6.alloc (.cells #[.slice rn4 3 cn4, .slice r4 2 c4] 25)) W) => bget hW q4)
  clear q4
  have hW9 := alloc_below w6 (.cells #[.slice rn4 3 cn4, .slice r4 2 c4] 25)
  replace HB := hid (HB.out.trans (hW9.mono HB.out.size))
  replace hvl := hvl.below strR_mono hW9
  have HZ9 := hid (show w6.heap.size + 1 = (w6.alloc (.cells #[.slice rn4 3 cn4, .slice r4 2 c4] 25)).heap.size by simp)
  go_wp2_with fail
  generalize hg9 : (w6.alloc (.cells #[.slice rn4 3 cn4, .slice r4 2 c4] 25)) = w9 at *
  clear hW9 hg9
  have HW9 := hid (Below.refl w9.heap.size w9)
  go_wp2_with fail
  refine (words_any [⟨#[98]⟩, ⟨#[99]⟩, ⟨#[97]⟩] [⟨#[98]⟩, ⟨#[99]⟩, ⟨#[97]⟩] _ _ _ (hvl.below strR_mono (alloc_below _ _)) (sl_lit _ [⟨#[98]⟩, ⟨#[99]⟩, ⟨#[97]⟩] (by decide) (by decide) (by exact (congrArg _ HZ9.out).trans (MapKept.heap_alloc _ _).1))).mono ?_
  rintro e w7 ⟨rfl, hb7⟩
  have b7 := hid (show Below w9.heap.size w9 w7 from ((Below.refl _ _).alloc (Nat.le_refl _) _).trans (hb7.mono (by simp)))
  replace hvl := hvl.below strR_mono b7.out
  replace HB := hid (HB.out.trans (b7.out.mono HB.out.size))
  replace HW9 := hid (HW9.out.trans (b7.out.mono HW9.out.size))
  simp only [decide_true]
  clear hb7 b7
  clear hvl
  have q9 := HX.out _ HW9.out
  clear HX
  go_wp2_with fail
  refine (made_any [⟨#[97, 98]⟩, ⟨#[98, 97]⟩, ⟨#[99, 99]⟩] _ _ (sl_lit _ [⟨#[97, 98]⟩, ⟨#[98, 97]⟩, ⟨#[99, 99]⟩] (by decide) (by decide) (by exact (MapKept.heap_alloc _ _).1)) (by decide) (by decide)).mono ?_
  rintro e w8 ⟨vn5, ve5, rfl, hn5, he5, hb8⟩
  have b8 := hid (show Below w7.heap.size w7 w8 from ((Below.refl _ _).alloc (Nat.le_refl _) _).trans (hb8.mono (by simp)))
  replace HB := hid (HB.out.trans (b8.out.mono HB.out.size))
  replace HW9 := hid (HW9.out.trans (b8.out.mono HW9.out.size))
  simp only [g4] at hn5 he5
  clear hb8 b8
  clear q9
  go_wp2_with fail
  refine (cycle_any _ _ _ _ _ hn5 he5 (by decide) (by decide)).mono ?_
  rintro e w9 ⟨vc, rfl, hvc, hb9⟩
  have b9 := hid (show Below w8.heap.size w8 w9 from hb9)
  replace hn5 := hn5.below strR_mono b9.out
  replace he5 := he5.below edR_mono b9.out
  replace HB := hid (HB.out.trans (b9.out.mono HB.out.size))
  replace HW9 := hid (HW9.out.trans (b9.out.mono HW9.out.size))
  rw [cy4] at hvc
  clear hb9 b9
  clear hn5 he5
  go_wp2_with fail
  refine (words_any [⟨#[99]⟩] [⟨#[99]⟩] _ _ _ (hvc.below strR_mono (alloc_below _ _)) (sl_lit _ [⟨#[99]⟩] (by decide) (by decide) (by exact (MapKept.heap_alloc _ _).1))).mono ?_
  rintro e w10 ⟨rfl, hb10⟩
  have b10 := hid (show Below w9.heap.size w9 w10 from ((Below.refl _ _).alloc (Nat.le_refl _) _).trans (hb10.mono (by simp)))
  replace hvc := hvc.below strR_mono b10.out
  replace HB := hid (HB.out.trans (b10.out.mono HB.out.size))
  replace HW9 := hid (HW9.out.trans (b10.out.mono HW9.out.size))
  simp only [decide_true]
  clear hb10 b10
  clear hvc
  go_wp2_with fail
  refine (made_any [⟨#[97, 98]⟩, ⟨#[98, 99]⟩] _ _ (sl_lit _ [⟨#[97, 98]⟩, ⟨#[98, 99]⟩] (by decide) (by decide) (by exact (MapKept.heap_alloc _ _).1)) (by decide) (by decide)).mono ?_
  rintro e w11 ⟨vn6, ve6, rfl, hn6, he6, hb11⟩
  have b11 := hid (show Below w10.heap.size w10 w11 from ((Below.refl _ _).alloc (Nat.le_refl _) _).trans (hb11.mono (by simp)))
  replace HB := hid (HB.out.trans (b11.out.mono HB.out.size))
  replace HW9 := hid (HW9.out.trans (b11.out.mono HW9.out.size))
  simp only [g5] at hn6 he6
  clear hb11 b11
  go_wp2_with fail
  refine (reach_any _ _ _ _ _ [⟨#[98]⟩] _ (hn6.below strR_mono (alloc_below _ _)) (he6.below edR_mono (alloc_below _ _)) (sl_lit _ [⟨#[98]⟩] (by decide) (by decide) (by exact (MapKept.heap_alloc _ _).1)) a3 (by decide) (by decide) (by decide)).mono ?_
  rintro e w12 ⟨vr, lr, rfl, hvr, hlr, hb12⟩
  have b12 := hid (show Below w11.heap.size w11 w12 from ((Below.refl _ _).alloc (Nat.le_refl _) _).trans (hb12.mono (by simp)))
  replace hn6 := hn6.below strR_mono b12.out
  replace he6 := he6.below edR_mono b12.out
  replace HB := hid (HB.out.trans (b12.out.mono HB.out.size))
  replace HW9 := hid (HW9.out.trans (b12.out.mono HW9.out.size))
  obtain rfl := hlr.uniq p5
  clear hlr
  clear hb12 b12
  clear hn6 he6
  go_wp2_with fail
  refine (words_any [⟨#[98]⟩, ⟨#[99]⟩] [⟨#[98]⟩, ⟨#[99]⟩] _ _ _ (hvr.below strR_mono (alloc_below _ _)) (sl_lit _ [⟨#[98]⟩, ⟨#[99]⟩] (by decide) (by decide) (by exact (MapKept.heap_alloc _ _).1))).mono ?_
  rintro e w13 ⟨rfl, hb13⟩
  have b13 := hid (show Below w12.heap.size w12 w13 from ((Below.refl _ _).alloc (Nat.le_refl _) _).trans (hb13.mono (by simp)))
  replace hvr := hvr.below strR_mono b13.out
  replace HB := hid (HB.out.trans (b13.out.mono HB.out.size))
  replace HW9 := hid (HW9.out.trans (b13.out.mono HW9.out.size))
  simp only [decide_true]
  clear hb13 b13
  clear hvr
  go_wp2_with fail
  refine (made_any [⟨#[97, 98]⟩, ⟨#[98, 99]⟩] _ _ (sl_lit _ [⟨#[97, 98]⟩, ⟨#[98, 99]⟩] (by decide) (by decide) (by exact (MapKept.heap_alloc _ _).1)) (by decide) (by decide)).mono ?_
  rintro e w14 ⟨vn7, ve7, rfl, hn7, he7, hb14⟩
  have b14 := hid (show Below w13.heap.size w13 w14 from ((Below.refl _ _).alloc (Nat.le_refl _) _).trans (hb14.mono (by simp)))
  replace HB := hid (HB.out.trans (b14.out.mono HB.out.size))
  replace HW9 := hid (HW9.out.trans (b14.out.mono HW9.out.size))
  simp only [g5] at hn7 he7
  clear hb14 b14
  go_wp2_with fail
  refine (ponly_any _ _ _ _ _ [⟨#[97]⟩, ⟨#[99]⟩] _ (hn7.below strR_mono (alloc_below _ _)) (he7.below edR_mono (alloc_below _ _)) (sl_lit _ [⟨#[97]⟩, ⟨#[99]⟩] (by decide) (by decide) (by exact (MapKept.heap_alloc _ _).1)) (by decide) (by decide) (by decide)).mono ?_
  rintro e w15 ⟨vn8, ve8, rfl, hn8, he8, hb15⟩
  have b15 := hid (show Below w14.heap.size w14 w15 from ((Below.refl _ _).alloc (Nat.le_refl _) _).trans (hb15.mono (by simp)))
  replace hn7 := hn7.below strR_mono b15.out
  replace he7 := he7.below edR_mono b15.out
  replace HB := hid (HB.out.trans (b15.out.mono HB.out.size))
  replace HW9 := hid (HW9.out.trans (b15.out.mono HW9.out.size))
  obtain ⟨r8, c8, hv8, _⟩ := id he8
  rw [y5] at hv8
  subst hv8
  obtain ⟨rn8, cn8, hvn8, _⟩ := id hn8
  subst hvn8
  clear hn8 he8
  have hfl := run_field1 rn8 r8 ([sa, sb, sc].filter fun x => hasS x [sa, sc]).length cn8 1 c8
  clear hb15 b15
  clear hn7 he7
  have hfl := run_field1 rn8 r8 ([sa, sb, sc].filter fun x => hasS x [sa, sc]).length cn8 1 c8
  go_wp2
  go_ret
  exact ⟨rfl, HB.out⟩
end Go.Proofs.Ytlhekldlfmdmiaa
