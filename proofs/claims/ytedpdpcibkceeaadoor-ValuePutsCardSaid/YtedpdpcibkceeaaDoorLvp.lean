import Derived.Test.YtedpdpcibkceeaaDoorPan
/-
  The walk of the statement ValuePuts. Conditions: the arguments can be read; the two tables lie in the world.
-/
namespace Go.Proofs.YtedpdpcibkceeaaDoor
open Go.RowKit Go.Sort Go.Lib
open Go.Lib (hid)
set_option linter.unusedVariables false
set_option linter.unusedSimpArgs false

set_option maxRecDepth 100000 in
set_option maxHeartbeats 4000000 in
theorem puts_law (m x : Val) (rm : Option Addr) (cm : Nat) (km : Option Addr) (qm : Nat) (rx : Option Addr) (cx : Nat) (kx : Option Addr) (qx : Nat) (w : World) (key other : ByteArray) (hky : key.size ≤ maxLen) (hm : VR5 w rm cm km qm m) (hx : VR5 w rx cx kx qx x) (hu : UT w) :
    Calls Tryd.prog 7 #[.agg #[.int .i64 m.kind, .int .i64 m.num, .string m.str, .slice rm m.items.length cm, .slice km m.keys.length qm], .agg #[.string key, .int .i64 x.kind, .int .i64 x.num, .string x.str, .slice rx x.items.length cx, .slice kx x.keys.length qx], .string other] w fun e w' => e = .returned (.bool true) ∧ Below w.heap.size w w' := by
  have hb0 : Below w.heap.size w ((((w.alloc (.cells #[.int .i64 m.kind, .int .i64 m.num, .string m.str, .slice rm m.items.length cm, .slice km m.keys.length qm] 26)).alloc (.cells #[.string key, .int .i64 x.kind, .int .i64 x.num, .string x.str, .slice rx x.items.length cx, .slice kx x.keys.length qx] 42)).alloc (.cells #[.int .i64 x.kind, .int .i64 x.num, .string x.str, .slice rx x.items.length cx, .slice kx x.keys.length qx] 26)).alloc (.cells #[.int .i64 m.kind, .int .i64 m.num, .string m.str, .slice rm m.items.length cm, .slice km m.keys.length qm, .int .i64 x.kind, .int .i64 x.num, .string x.str, .slice rx x.items.length cx, .slice kx x.keys.length qx] 26)).drew := (((((Below.refl _ _).alloc (Nat.le_refl _) _).alloc (by simp; try omega) _).alloc (by simp; try omega) _).alloc (by simp; try omega) _).drew
  have Xm : Box5 ((((w.alloc (.cells #[.int .i64 m.kind, .int .i64 m.num, .string m.str, .slice rm m.items.length cm, .slice km m.keys.length qm] 26)).alloc (.cells #[.string key, .int .i64 x.kind, .int .i64 x.num, .string x.str, .slice rx x.items.length cx, .slice kx x.keys.length qx] 42)).alloc (.cells #[.int .i64 x.kind, .int .i64 x.num, .string x.str, .slice rx x.items.length cx, .slice kx x.keys.length qx] 26)).alloc (.cells #[.int .i64 m.kind, .int .i64 m.num, .string m.str, .slice rm m.items.length cm, .slice km m.keys.length qm, .int .i64 x.kind, .int .i64 x.num, .string x.str, .slice rx x.items.length cx, .slice kx x.keys.length qx] 26)).drew (w.heap.size) m.kind m.num m.str (.slice rm m.items.length cm) (.slice km m.keys.length qm) := ((((Box5.at (b := w.heap.size) w m.kind m.num m.str (.slice rm m.items.length cm) (.slice km m.keys.length qm) 26 (by simp)).below ((Below.refl _ _).alloc (Nat.le_refl _) _)).below ((Below.refl _ _).alloc (Nat.le_refl _) _)).below ((Below.refl _ _).alloc (Nat.le_refl _) _)).below ((Below.refl _ _).drew)
  have Xx : Box5 ((((w.alloc (.cells #[.int .i64 m.kind, .int .i64 m.num, .string m.str, .slice rm m.items.length cm, .slice km m.keys.length qm] 26)).alloc (.cells #[.string key, .int .i64 x.kind, .int .i64 x.num, .string x.str, .slice rx x.items.length cx, .slice kx x.keys.length qx] 42)).alloc (.cells #[.int .i64 x.kind, .int .i64 x.num, .string x.str, .slice rx x.items.length cx, .slice kx x.keys.length qx] 26)).alloc (.cells #[.int .i64 m.kind, .int .i64 m.num, .string m.str, .slice rm m.items.length cm, .slice km m.keys.length qm, .int .i64 x.kind, .int .i64 x.num, .string x.str, .slice rx x.items.length cx, .slice kx x.keys.length qx] 26)).drew (w.heap.size + 1 + 1) x.kind x.num x.str (.slice rx x.items.length cx) (.slice kx x.keys.length qx) := (((Box5.at (b := w.heap.size + 1 + 1) ((w.alloc (.cells #[.int .i64 m.kind, .int .i64 m.num, .string m.str, .slice rm m.items.length cm, .slice km m.keys.length qm] 26)).alloc (.cells #[.string key, .int .i64 x.kind, .int .i64 x.num, .string x.str, .slice rx x.items.length cx, .slice kx x.keys.length qx] 42)) x.kind x.num x.str (.slice rx x.items.length cx) (.slice kx x.keys.length qx) 26 (by simp)).below ((Below.refl _ _).alloc (Nat.le_refl _) _)).below ((Below.refl _ _).drew))
  have Vm := hm.below hb0
  have Vx := hx.below hb0
  have U0 := hu.below hb0
  have hl : (((w.alloc (.cells #[.int .i64 m.kind, .int .i64 m.num, .string m.str, .slice rm m.items.length cm, .slice km m.keys.length qm] 26)).alloc (.cells #[.string key, .int .i64 x.kind, .int .i64 x.num, .string x.str, .slice rx x.items.length cx, .slice kx x.keys.length qx] 42)).alloc (.cells #[.int .i64 x.kind, .int .i64 x.num, .string x.str, .slice rx x.items.length cx, .slice kx x.keys.length qx] 26)).heap.size = w.heap.size + 1 + 1 + 1 := by simp
  have hH : ((((w.alloc (.cells #[.int .i64 m.kind, .int .i64 m.num, .string m.str, .slice rm m.items.length cm, .slice km m.keys.length qm] 26)).alloc (.cells #[.string key, .int .i64 x.kind, .int .i64 x.num, .string x.str, .slice rx x.items.length cx, .slice kx x.keys.length qx] 42)).alloc (.cells #[.int .i64 x.kind, .int .i64 x.num, .string x.str, .slice rx x.items.length cx, .slice kx x.keys.length qx] 26)).alloc (.cells #[.int .i64 m.kind, .int .i64 m.num, .string m.str, .slice rm m.items.length cm, .slice km m.keys.length qm, .int .i64 x.kind, .int .i64 x.num, .string x.str, .slice rx x.items.length cx, .slice kx x.keys.length qx] 26)).drew.heap[w.heap.size + 1 + 1 + 1]? = some (.cells #[.int .i64 m.kind, .int .i64 m.num, .string m.str, .slice rm m.items.length cm, .slice km m.keys.length qm, .int .i64 x.kind, .int .i64 x.num, .string x.str, .slice rx x.items.length cx, .slice kx x.keys.length qx] 26 (0, 0)) := by rw [← hl]; exact heap_alloc_new _ _
  have hI : Sl VR 5 ((((w.alloc (.cells #[.int .i64 m.kind, .int .i64 m.num, .string m.str, .slice rm m.items.length cm, .slice km m.keys.length qm] 26)).alloc (.cells #[.string key, .int .i64 x.kind, .int .i64 x.num, .string x.str, .slice rx x.items.length cx, .slice kx x.keys.length qx] 42)).alloc (.cells #[.int .i64 x.kind, .int .i64 x.num, .string x.str, .slice rx x.items.length cx, .slice kx x.keys.length qx] 26)).alloc (.cells #[.int .i64 m.kind, .int .i64 m.num, .string m.str, .slice rm m.items.length cm, .slice km m.keys.length qm, .int .i64 x.kind, .int .i64 x.num, .string x.str, .slice rx x.items.length cx, .slice kx x.keys.length qx] 26)).drew (.slice (some ⟨w.heap.size + 1 + 1 + 1, 0, none⟩) 2 2) [m, x] := sl_block Cv.enc cv_len (R := VR) (xs := [m, x]) (ys := [Cv.of m rm cm km qm, Cv.of x rx cx kx qx]) hH rfl rfl (by simp [maxLen]) (fun i hi hi' => by
    match i, hi with
    | 0, _ => exact Vm
    | 1, _ => exact Vx)
  have CV : Calls Tryd.prog 14 #[.slice (some ⟨w.heap.size + 1 + 1 + 1, 0, none⟩) 2 2] ((((w.alloc (.cells #[.int .i64 m.kind, .int .i64 m.num, .string m.str, .slice rm m.items.length cm, .slice km m.keys.length qm] 26)).alloc (.cells #[.string key, .int .i64 x.kind, .int .i64 x.num, .string x.str, .slice rx x.items.length cx, .slice kx x.keys.length qx] 42)).alloc (.cells #[.int .i64 x.kind, .int .i64 x.num, .string x.str, .slice rx x.items.length cx, .slice kx x.keys.length qx] 26)).alloc (.cells #[.int .i64 m.kind, .int .i64 m.num, .string m.str, .slice rm m.items.length cm, .slice km m.keys.length qm, .int .i64 x.kind, .int .i64 x.num, .string x.str, .slice rx x.items.length cx, .slice kx x.keys.length qx] 26)).drew (fun e w' => e = .returned (.bool ([m, x].all okV)) ∧ Below ((((w.alloc (.cells #[.int .i64 m.kind, .int .i64 m.num, .string m.str, .slice rm m.items.length cm, .slice km m.keys.length qm] 26)).alloc (.cells #[.string key, .int .i64 x.kind, .int .i64 x.num, .string x.str, .slice rx x.items.length cx, .slice kx x.keys.length qx] 42)).alloc (.cells #[.int .i64 x.kind, .int .i64 x.num, .string x.str, .slice rx x.items.length cx, .slice kx x.keys.length qx] 26)).alloc (.cells #[.int .i64 m.kind, .int .i64 m.num, .string m.str, .slice rm m.items.length cm, .slice km m.keys.length qm, .int .i64 x.kind, .int .i64 x.num, .string x.str, .slice rx x.items.length cx, .slice kx x.keys.length qx] 26)).drew.heap.size ((((w.alloc (.cells #[.int .i64 m.kind, .int .i64 m.num, .string m.str, .slice rm m.items.length cm, .slice km m.keys.length qm] 26)).alloc (.cells #[.string key, .int .i64 x.kind, .int .i64 x.num, .string x.str, .slice rx x.items.length cx, .slice kx x.keys.length qx] 42)).alloc (.cells #[.int .i64 x.kind, .int .i64 x.num, .string x.str, .slice rx x.items.length cx, .slice kx x.keys.length qx] 26)).alloc (.cells #[.int .i64 m.kind, .int .i64 m.num, .string m.str, .slice rm m.items.length cm, .slice km m.keys.length qm, .int .i64 x.kind, .int .i64 x.num, .string x.str, .slice rx x.items.length cx, .slice kx x.keys.length qx] 26)).drew w') := valid_any [m, x] _ 2 _ hI
  have HOK := hid (show ([m, x].all okV) = true → okV m = true ∧ okV x = true from fun h => by simpa using h)
  clear hI hH hl hm hx hu
  generalize hW : ((((w.alloc (.cells #[.int .i64 m.kind, .int .i64 m.num, .string m.str, .slice rm m.items.length cm, .slice km m.keys.length qm] 26)).alloc (.cells #[.string key, .int .i64 x.kind, .int .i64 x.num, .string x.str, .slice rx x.items.length cx, .slice kx x.keys.length qx] 42)).alloc (.cells #[.int .i64 x.kind, .int .i64 x.num, .string x.str, .slice rx x.items.length cx, .slice kx x.keys.length qx] 26)).alloc (.cells #[.int .i64 m.kind, .int .i64 m.num, .string m.str, .slice rm m.items.length cm, .slice km m.keys.length qm, .int .i64 x.kind, .int .i64 x.num, .string x.str, .slice rx x.items.length cx, .slice kx x.keys.length qx] 26)).drew = W at *
  have HW := hid hW
  clear hW
  have CVh := hid CV
  have B0 := hid hb0
  have HXm := hid Xm
  have HXx := hid Xx
  have HVm := hid Vm
  have HVx := hid Vx
  have AW := hid (fun (W2 : World) (h : Below W.heap.size W W2) => awake_any W2 (U0.below h))
  have PC := hid (fun (om : okV m = true) (ox : okV x = true) (h5 : m.kind = 5) (W2 : World) (h : Below W.heap.size W W2) => put_any key hky om ox h5 rm cm km qm rx cx kx qx W2 (Vm.below h) (Vx.below h))
  have PF := hid (fun (om : okV m = true) (ox : okV x = true) (h5 : m.kind = 5) => put_facts key other om ox h5)
  have GM := hid (fun (om : okV m = true) (o : ByteArray) (W2 : World) (h : Below W.heap.size W W2) => pget_any m o rm cm km qm W2 (Vm.below h) (ok_of om).1.asc (by have := (ok_of om).2.1; omega) (by have := (ok_of om).2.2; omega))
  have FIN := hid (show ∀ W2, Below W.heap.size W W2 → Below w.heap.size w W2 from fun W2 h => hb0.trans (h.mono hb0.size))
  generalize [m, x].all okV = vb at *
  generalize hp : putV m key x = p at *
  clear hp CV hb0 U0 Vm Vx hky
  have am0 := Xm.c0
  have am1 := Xm.c1
  have am2 := Xm.c2
  have am3 := Xm.c3
  have am4 := Xm.c4
  have ax0 := Xx.c0
  have ax1 := Xx.c1
  have ax2 := Xx.c2
  have ax3 := Xx.c3
  have ax4 := Xx.c4
  have hzx := Xx.lt
  clear Xm Xx
  go_enter Tryd.func7, Tryd.ntmps7
  go_wp2_with fail
  go_region
  go_wp2_with fail
  rw [HW.out]
  refine CVh.out.mono ?_
  rintro e w1 ⟨rfl, hb1⟩
  have HW1 := hid hb1
  have bm0 := bget hb1 am0
  have bm1 := bget hb1 am1
  have bm2 := bget hb1 am2
  have bm3 := bget hb1 am3
  have bm4 := bget hb1 am4
  have bx0 := bget hb1 ax0
  have bx1 := bget hb1 ax1
  have bx2 := bget hb1 ax2
  have bx3 := bget hb1 ax3
  have bx4 := bget hb1 ax4
  clear hb1 HW CVh am0 am1 am2 am3 am4 ax0 ax1 ax2 ax3 ax4 hzx
  cases vb with
  | false =>
    go_wp2_with fail
    refine (AW.out w1 HW1.out).mono ?_
    rintro e w2 ⟨rfl, hb2⟩
    go_wp2
    go_ret
    exact ⟨rfl, FIN.out _ (HW1.out.trans (hb2.mono HW1.out.size))⟩
  | true =>
    by_cases h5 : m.kind = 5
    case neg =>
      have h5a : (m.kind == 5) = false := by simpa using h5
      have h5b : (m.kind != 5) = true := by simp [h5a, bne]
      have H5 := hid h5
      clear h5
      go_wp2_with fail
      refine (AW.out w1 HW1.out).mono ?_
      rintro e w2 ⟨rfl, hb2⟩
      go_wp2
      go_ret
      exact ⟨rfl, FIN.out _ (HW1.out.trans (hb2.mono HW1.out.size))⟩
    case pos =>
      have h5a : (m.kind == 5) = true := by simpa using h5
      have h5b : (m.kind != 5) = false := by simp [h5a, bne]
      obtain ⟨om, ox⟩ := HOK.out rfl
      obtain ⟨pa, pn, pk, pg, po, p5, pl, pi, ml⟩ := PF.out om ox h5
      have PC2 := hid (PC.out om ox h5)
      have GM2 := hid (GM.out om)
      have GP2 := hid (fun (o : ByteArray) (r : Option Addr) (c : Nat) (rk : Option Addr) (ck : Nat) (W2 : World) (h : VR5 W2 r c rk ck p) => pget_any p o r c rk ck W2 h pa pn pk)
      have PG := hid pg
      have PO := hid po
      have PL := hid pl
      have PI := hid pi
      have ML := hid ml
      have p5a : (p.kind == 5) = true := by simpa using p5
      have H5 := hid h5
      clear om ox pa pn pk pg po p5 pl pi ml PC PF GM HOK h5
      have hw1s := HW1.out.size
      go_wp2_with fail
      refine (PC2.out w1 HW1.out).mono ?_
      rintro e w2 ⟨rp, cp, kp, qp, rfl, hvk, hb2⟩
      have hp2 : VR5 w2 rp cp kp qp p := hvk.out
      clear bm0 bm1 bm2 bm3 bm4 bx0 bx1 bx2 bx3 bx4 hvk
      have hc2 : Below w2.heap.size w2 (w2.alloc (.cells #[.int .i64 p.kind, .int .i64 p.num, .string p.str, .slice rp p.items.length cp, .slice kp p.keys.length qp] 26)) := (Below.refl _ _).alloc (Nat.le_refl _) _
      have hd2 := hb2.trans (hc2.mono hb2.size)
      have HW2 := hid (HW1.out.trans (hd2.mono HW1.out.size))
      have Vp := hid (hp2.below hc2)
      have Bp := hid (Box5.new w2 p.kind p.num p.str (.slice rp p.items.length cp) (.slice kp p.keys.length qp) 26)
      clear hc2 hd2 hb2
      go_wp2_with fail
      generalize (w2.alloc (.cells #[.int .i64 p.kind, .int .i64 p.num, .string p.str, .slice rp p.items.length cp, .slice kp p.keys.length qp] 26)) = W2 at *
      generalize w2.heap.size = b2 at *
      have G1 := Vp.out
      refine (GP2.out key rp cp kp qp W2 G1).mono ?_
      rw [PG.out]
      rintro e w3 ⟨r3, c3, k3, q3, rfl, hv3, hb3⟩
      simp only [Option.getD_some, Option.isSome_some] at hv3 ⊢
      clear G1
      have hc3 : Below w3.heap.size w3 (w3.alloc (.cells #[.int .i64 x.kind, .int .i64 x.num, .string x.str, .slice r3 x.items.length c3, .slice k3 x.keys.length q3] 26)) := (Below.refl _ _).alloc (Nat.le_refl _) _
      have hd3 := hb3.trans (hc3.mono hb3.size)
      have HW3 := hid (HW2.out.trans (hd3.mono HW2.out.size))
      have Vp_3 := hid (Vp.out.below hd3)
      have Va := hid (hv3.below hc3)
      have Bp_3 := hid (Bp.out.below hd3)
      have Ba := hid (Box5.new w3 x.kind x.num x.str (.slice r3 x.items.length c3) (.slice k3 x.keys.length q3) 26)
      have x3c0 := (HXx.out.below HW3.out).c0
      have x3c1 := (HXx.out.below HW3.out).c1
      have x3c2 := (HXx.out.below HW3.out).c2
      have x3c3 := (HXx.out.below HW3.out).c3
      have x3c4 := (HXx.out.below HW3.out).c4
      clear hc3 hd3 hb3
      go_wp2_with fail
      generalize (w3.alloc (.cells #[.int .i64 x.kind, .int .i64 x.num, .string x.str, .slice r3 x.items.length c3, .slice k3 x.keys.length q3] 26)) = W3 at *
      generalize w3.heap.size = b3 at *
      have G2 := Va.out
      have G3 := HVx.out.below HW3.out
      have G4 := peq_any x x r3 c3 k3 q3 rx cx kx qx W3 G2 G3
      rw [(eqV_iff _ _).2 rfl] at G4
      refine G4.mono ?_
      clear G2 G3 G4 x3c0 x3c1 x3c2 x3c3 x3c4
      rintro e w4 ⟨rfl, hb4⟩
      have HW4 := hid (HW3.out.trans (hb4.mono HW3.out.size))
      have Vp_3_4 := hid (Vp_3.out.below hb4)
      have Va_4 := hid (Va.out.below hb4)
      have Bp_4 := hid (Bp_3.out.below hb4)
      have Ba_4 := hid (Ba.out.below hb4)
      have m4c0 := (HXm.out.below HW4.out).c0
      have m4c1 := (HXm.out.below HW4.out).c1
      have m4c2 := (HXm.out.below HW4.out).c2
      have m4c3 := (HXm.out.below HW4.out).c3
      have m4c4 := (HXm.out.below HW4.out).c4
      clear hb4
      go_wp2_with fail
      refine (GM2.out other w4 HW4.out).mono ?_
      generalize hy1 : getV m other = y1
      have HY1 := hid hy1
      clear hy1 m4c0 m4c1 m4c2 m4c3 m4c4
      rintro e w5 ⟨r5, c5, k5, q5, rfl, hv5, hb5⟩
      have hc5 : Below w5.heap.size w5 (w5.alloc (.cells #[.int .i64 (y1.getD zeroV).kind, .int .i64 (y1.getD zeroV).num, .string (y1.getD zeroV).str, .slice r5 (y1.getD zeroV).items.length c5, .slice k5 (y1.getD zeroV).keys.length q5] 26)) := (Below.refl _ _).alloc (Nat.le_refl _) _
      have hd5 := hb5.trans (hc5.mono hb5.size)
      have HW5 := hid (HW4.out.trans (hd5.mono HW4.out.size))
      have Vp_3_4_5 := hid (Vp_3_4.out.below hd5)
      have Va_4_5 := hid (Va_4.out.below hd5)
      have Vc := hid (hv5.below hc5)
      have Bp_5 := hid (Bp_4.out.below hd5)
      have Ba_5 := hid (Ba_4.out.below hd5)
      have Bc := hid (Box5.new w5 (y1.getD zeroV).kind (y1.getD zeroV).num (y1.getD zeroV).str (.slice r5 (y1.getD zeroV).items.length c5) (.slice k5 (y1.getD zeroV).keys.length q5) 26)
      have p5c0 := Bp_5.out.c0
      have p5c1 := Bp_5.out.c1
      have p5c2 := Bp_5.out.c2
      have p5c3 := Bp_5.out.c3
      have p5c4 := Bp_5.out.c4
      clear hc5 hd5 hb5
      go_wp2_with fail
      generalize (w5.alloc (.cells #[.int .i64 (y1.getD zeroV).kind, .int .i64 (y1.getD zeroV).num, .string (y1.getD zeroV).str, .slice r5 (y1.getD zeroV).items.length c5, .slice k5 (y1.getD zeroV).keys.length q5] 26)) = W5 at *
      generalize w5.heap.size = b5 at *
      refine (GP2.out other rp cp kp qp W5 Vp_3_4_5.out).mono ?_
      generalize hy2 : getV p other = y2
      have HY2 := hid hy2
      clear hy2 p5c0 p5c1 p5c2 p5c3 p5c4
      rintro e w6 ⟨r6, c6, k6, q6, rfl, hv6, hb6⟩
      by_cases ho : other = key
      case pos =>
        have ho1 : (other.toList == key.toList) = true := by rw [ho]; simp
        have ho2 : (other.toList != key.toList) = false := by rw [ho]; simp
        have ho3 : other.toList = key.toList := by rw [ho]
        have HO3 := hid ho3
        clear ho3
        have HO := hid ho
        clear ho
        have hc6 : Below w6.heap.size w6 (w6.alloc (.cells #[.int .i64 (y2.getD zeroV).kind, .int .i64 (y2.getD zeroV).num, .string (y2.getD zeroV).str, .slice r6 (y2.getD zeroV).items.length c6, .slice k6 (y2.getD zeroV).keys.length q6] 26)) := (Below.refl _ _).alloc (Nat.le_refl _) _
        have hd6 := hb6.trans (hc6.mono hb6.size)
        have HW6 := hid (HW5.out.trans (hd6.mono HW5.out.size))
        have Vp_3_4_5_6 := hid (Vp_3_4_5.out.below hd6)
        have Va_4_5_6 := hid (Va_4_5.out.below hd6)
        have Vc_6 := hid (Vc.out.below hd6)
        have Vd := hid (hv6.below hc6)
        have Bp_6 := hid (Bp_5.out.below hd6)
        have Ba_6 := hid (Ba_5.out.below hd6)
        have Bc_6 := hid (Bc.out.below hd6)
        have Bd := hid (Box5.new w6 (y2.getD zeroV).kind (y2.getD zeroV).num (y2.getD zeroV).str (.slice r6 (y2.getD zeroV).items.length c6) (.slice k6 (y2.getD zeroV).keys.length q6) 26)
        have m6c0 := (HXm.out.below HW6.out).c0
        have m6c1 := (HXm.out.below HW6.out).c1
        have m6c2 := (HXm.out.below HW6.out).c2
        have m6c3 := (HXm.out.below HW6.out).c3
        have m6c4 := (HXm.out.below HW6.out).c4
        have c6c0 := Bc_6.out.c0
        have c6c1 := Bc_6.out.c1
        have c6c2 := Bc_6.out.c2
        have c6c3 := Bc_6.out.c3
        have c6c4 := Bc_6.out.c4
        clear hc6 hd6 hb6
        go_wp2_with fail
        generalize (w6.alloc (.cells #[.int .i64 (y2.getD zeroV).kind, .int .i64 (y2.getD zeroV).num, .string (y2.getD zeroV).str, .slice r6 (y2.getD zeroV).items.length c6, .slice k6 (y2.getD zeroV).keys.length q6] 26)) = W6 at *
        generalize w6.heap.size = b6 at *
        clear c6c0 c6c1 c6c2 c6c3 c6c4
        refine (GM2.out key W6 HW6.out).mono ?_
        have HPL := hid PL.out
        clear PL
        generalize getV m key = y4 at *
        clear m6c0 m6c1 m6c2 m6c3 m6c4
        rintro e w8 ⟨r8, c8, k8, q8, rfl, hv8, hb8⟩
        have hks : (p.items.length : Int) = (p.keys.length : Int) := by have := PI.out; omega
        have hki : ((p.items.length : Int) == (p.keys.length : Int)) = true := by rw [hks]; simp
        have HKS := hid hks
        clear hks
        have hwr : IntKind.i64.wrap ((m.keys.length : Int) + 1) = (m.keys.length : Int) + 1 := by rw [IntKind.wrap_i64]; have := ML.out; omega
        have hwr0 : IntKind.i64.wrap ((m.keys.length : Int) + 0) = (m.keys.length : Int) := by rw [IntKind.wrap_i64]; have := ML.out; omega
        have hwr1 : IntKind.i64.wrap ((m.keys.length : Int)) = (m.keys.length : Int) := by rw [IntKind.wrap_i64]; have := ML.out; omega
        have hc8 : Below w8.heap.size w8 (w8.alloc (.cells #[.int .i64 (y4.getD zeroV).kind, .int .i64 (y4.getD zeroV).num, .string (y4.getD zeroV).str, .slice r8 (y4.getD zeroV).items.length c8, .slice k8 (y4.getD zeroV).keys.length q8] 26)) := (Below.refl _ _).alloc (Nat.le_refl _) _
        have hd8 := hb8.trans (hc8.mono hb8.size)
        have HW8 := hid (HW6.out.trans (hd8.mono HW6.out.size))
        have Bp8 := Bp_6.out.below hd8
        have Bm8 := HXm.out.below HW8.out
        have p8c0 := Bp8.c0
        have p8c1 := Bp8.c1
        have p8c2 := Bp8.c2
        have p8c3 := Bp8.c3
        have p8c4 := Bp8.c4
        have m8c0 := Bm8.c0
        have m8c1 := Bm8.c1
        have m8c2 := Bm8.c2
        have m8c3 := Bm8.c3
        have m8c4 := Bm8.c4
        clear hc8 hd8 hb8 Bp8 Bm8
        generalize y4.isSome = s4 at *
        cases s4
        all_goals
          simp only [if_true, if_false, Bool.false_eq_true] at HPL
          (first | have hke : ((p.keys.length : Int) == (m.keys.length : Int) + 1) = true := by have := HPL.out; simp; omega
                 | have hke : ((p.keys.length : Int) == (m.keys.length : Int)) = true := by have := HPL.out; simp; omega)
          clear HPL
          go_wp2_with fail
          generalize (w8.alloc (.cells #[.int .i64 (y4.getD zeroV).kind, .int .i64 (y4.getD zeroV).num, .string (y4.getD zeroV).str, .slice r8 (y4.getD zeroV).items.length c8, .slice k8 (y4.getD zeroV).keys.length q8] 26)) = W8 at *
          refine (AW.out W8 HW8.out).mono ?_
          rintro e w9 ⟨rfl, hb9⟩
          go_wp2
          go_ret
          exact ⟨rfl, FIN.out _ (HW8.out.trans (hb9.mono HW8.out.size))⟩
      case neg =>
        have ho1 := str_ne ho
        have ho2 := str_ne' ho
        have hyy : y2 = y1 := by rw [← HY2.out, ← HY1.out]; exact PO.out ho
        subst hyy
        have HO := hid ho
        clear ho
        have hs1 : (y2.isSome == y2.isSome) = true := by simp
        have hs2 : (y2.isSome != y2.isSome) = false := by simp
        have hc6 : Below w6.heap.size w6 (w6.alloc (.cells #[.int .i64 (y2.getD zeroV).kind, .int .i64 (y2.getD zeroV).num, .string (y2.getD zeroV).str, .slice r6 (y2.getD zeroV).items.length c6, .slice k6 (y2.getD zeroV).keys.length q6] 26)) := (Below.refl _ _).alloc (Nat.le_refl _) _
        have hd6 := hb6.trans (hc6.mono hb6.size)
        have HW6 := hid (HW5.out.trans (hd6.mono HW5.out.size))
        have Vp_3_4_5_6 := hid (Vp_3_4_5.out.below hd6)
        have Va_4_5_6 := hid (Va_4_5.out.below hd6)
        have Vc_6 := hid (Vc.out.below hd6)
        have Vd := hid (hv6.below hc6)
        have Bp_6 := hid (Bp_5.out.below hd6)
        have Ba_6 := hid (Ba_5.out.below hd6)
        have Bc_6 := hid (Bc.out.below hd6)
        have Bd := hid (Box5.new w6 (y2.getD zeroV).kind (y2.getD zeroV).num (y2.getD zeroV).str (.slice r6 (y2.getD zeroV).items.length c6) (.slice k6 (y2.getD zeroV).keys.length q6) 26)
        have m6c0 := (HXm.out.below HW6.out).c0
        have m6c1 := (HXm.out.below HW6.out).c1
        have m6c2 := (HXm.out.below HW6.out).c2
        have m6c3 := (HXm.out.below HW6.out).c3
        have m6c4 := (HXm.out.below HW6.out).c4
        have c6c0 := Bc_6.out.c0
        have c6c1 := Bc_6.out.c1
        have c6c2 := Bc_6.out.c2
        have c6c3 := Bc_6.out.c3
        have c6c4 := Bc_6.out.c4
        clear hc6 hd6 hb6
        go_wp2_with fail
        generalize (w6.alloc (.cells #[.int .i64 (y2.getD zeroV).kind, .int .i64 (y2.getD zeroV).num, .string (y2.getD zeroV).str, .slice r6 (y2.getD zeroV).items.length c6, .slice k6 (y2.getD zeroV).keys.length q6] 26)) = W6 at *
        generalize w6.heap.size = b6 at *
        have G4 := peq_any (y2.getD zeroV) (y2.getD zeroV) r5 c5 k5 q5 r6 c6 k6 q6 W6 Vc_6.out Vd.out
        rw [(eqV_iff _ _).2 rfl] at G4
        refine G4.mono ?_
        clear G4 m6c0 m6c1 m6c2 m6c3 m6c4 c6c0 c6c1 c6c2 c6c3 c6c4
        rintro e w7 ⟨rfl, hb7⟩
        have HW7 := hid (HW6.out.trans (hb7.mono HW6.out.size))
        have Bp_7 := hid (Bp_6.out.below hb7)
        have m7c0 := (HXm.out.below HW7.out).c0
        have m7c1 := (HXm.out.below HW7.out).c1
        have m7c2 := (HXm.out.below HW7.out).c2
        have m7c3 := (HXm.out.below HW7.out).c3
        have m7c4 := (HXm.out.below HW7.out).c4
        clear hb7
        go_wp2_with fail
        refine (GM2.out key w7 HW7.out).mono ?_
        have HPL := hid PL.out
        clear PL
        generalize getV m key = y4 at *
        clear m7c0 m7c1 m7c2 m7c3 m7c4
        rintro e w8 ⟨r8, c8, k8, q8, rfl, hv8, hb8⟩
        have hks : (p.items.length : Int) = (p.keys.length : Int) := by have := PI.out; omega
        have hki : ((p.items.length : Int) == (p.keys.length : Int)) = true := by rw [hks]; simp
        have HKS := hid hks
        clear hks
        have hwr : IntKind.i64.wrap ((m.keys.length : Int) + 1) = (m.keys.length : Int) + 1 := by rw [IntKind.wrap_i64]; have := ML.out; omega
        have hwr0 : IntKind.i64.wrap ((m.keys.length : Int) + 0) = (m.keys.length : Int) := by rw [IntKind.wrap_i64]; have := ML.out; omega
        have hwr1 : IntKind.i64.wrap ((m.keys.length : Int)) = (m.keys.length : Int) := by rw [IntKind.wrap_i64]; have := ML.out; omega
        have hc8 : Below w8.heap.size w8 (w8.alloc (.cells #[.int .i64 (y4.getD zeroV).kind, .int .i64 (y4.getD zeroV).num, .string (y4.getD zeroV).str, .slice r8 (y4.getD zeroV).items.length c8, .slice k8 (y4.getD zeroV).keys.length q8] 26)) := (Below.refl _ _).alloc (Nat.le_refl _) _
        have hd8 := hb8.trans (hc8.mono hb8.size)
        have HW8 := hid (HW7.out.trans (hd8.mono HW7.out.size))
        have Bp8 := Bp_7.out.below hd8
        have Bm8 := HXm.out.below HW8.out
        have p8c0 := Bp8.c0
        have p8c1 := Bp8.c1
        have p8c2 := Bp8.c2
        have p8c3 := Bp8.c3
        have p8c4 := Bp8.c4
        have m8c0 := Bm8.c0
        have m8c1 := Bm8.c1
        have m8c2 := Bm8.c2
        have m8c3 := Bm8.c3
        have m8c4 := Bm8.c4
        clear hc8 hd8 hb8 Bp8 Bm8
        generalize y4.isSome = s4 at *
        cases s4
        all_goals
          simp only [if_true, if_false, Bool.false_eq_true] at HPL
          (first | have hke : ((p.keys.length : Int) == (m.keys.length : Int) + 1) = true := by have := HPL.out; simp; omega
                 | have hke : ((p.keys.length : Int) == (m.keys.length : Int)) = true := by have := HPL.out; simp; omega)
          clear HPL
          go_wp2_with fail
          generalize (w8.alloc (.cells #[.int .i64 (y4.getD zeroV).kind, .int .i64 (y4.getD zeroV).num, .string (y4.getD zeroV).str, .slice r8 (y4.getD zeroV).items.length c8, .slice k8 (y4.getD zeroV).keys.length q8] 26)) = W8 at *
          refine (AW.out W8 HW8.out).mono ?_
          rintro e w9 ⟨rfl, hb9⟩
          go_wp2
          go_ret
          exact ⟨rfl, FIN.out _ (HW8.out.trans (hb9.mono HW8.out.size))⟩

set_option maxRecDepth 100000 in
theorem entry_arg {H : Type} {enc : TypeId × Value → H} {W : World} {base : Nat} {v : Value} {d : DataW H} {p : List MemPlace} (o : Value.okWide Tryd.prog W .any base 42 v) (h : DataW.Trod enc Tryd.prog W 0 (fun _ => true) true 42 v d p) (hw : Wt Tryd.prog 42 d) :
    ∃ k x r c rk ck, v = .agg #[.string k, .int .i64 x.kind, .int .i64 x.num, .string x.str, .slice r x.items.length c, .slice rk x.keys.length ck] ∧ k.size ≤ maxLen ∧ VR5 W r c rk ck x := by
  obtain ⟨cs, rfl, hsz⟩ := Go.WideShapes.okWide_struct Tryd.underlying42 o
  obtain ⟨fuel, hf⟩ := h
  have hc : Tryd.prog.cellsOf 42 = 6 := by kernel_rfl
  have e0 : Tryd.prog.cellsOf 9 = 1 := by kernel_rfl
  have e1 : Tryd.prog.cellsOf 26 = 5 := by kernel_rfl
  have hcs : (Value.agg cs).cells = cs := rfl
  rw [hcs] at hf
  obtain ⟨xs, n, hy, hd, _, hxl, hg⟩ := DataW.trod_struct Tryd.underlying42 hf
  simp only [Prod.mk.injEq] at hd
  obtain ⟨rfl, rfl⟩ := hd
  match xs, hxl with
  | [z0, z1], _ =>
    have h0 : DataW.trod enc Tryd.prog W 0 (fun _ => true) true n 9 ((cs.toList.drop 0).take (Tryd.prog.cellsOf 9)) = some z0 := hg 0 _ rfl
    have h1 : DataW.trod enc Tryd.prog W 0 (fun _ => true) true n 26 ((cs.toList.drop 1).take (Tryd.prog.cellsOf 26)) = some z1 := hg 1 _ rfl
    rw [e0] at h0
    rw [e1] at h1
    have hw1 : Wt Tryd.prog 26 z1.1 := Wt.field (k := 1) (z := z1) Tryd.underlying42 hw rfl rfl
    obtain ⟨k, c0, wk⟩ := field_str Tryd.underlying9 h0
    have hlen : cs.toList.length = 6 := by rw [← hc, ← hsz]; simp
    obtain ⟨x, hx⟩ := value_cells n _ z1 (by rw [List.length_take, List.length_drop, hlen]; rfl) hw1 h1
    obtain ⟨r, c, rk, ck, e, h5⟩ := hx.five
    refine ⟨k, x, r, c, rk, ck, ?_, wk, h5⟩
    obtain ⟨l⟩ := cs
    cases l with
    | nil => simp at hlen
    | cons a l =>
      simp only [List.length_cons] at hlen
      simp only [List.drop_succ_cons, List.drop_zero] at e
      rw [List.take_of_length_le (by omega)] at e
      have c0 : some a = some (Value.string k) := c0
      simp only [Option.some.injEq] at c0
      rw [c0, e]
set_option maxRecDepth 100000 in
theorem puts_from (H : Type) (enc : TypeId × Value → H) (W : World) (base : Nat) (v0 v1 v2 : Value) (d0 d1 d2 : DataW H) (p0 p1 p2 : List MemPlace) (o0 : Value.okWide Tryd.prog W .any base 26 v0) (o1 : Value.okWide Tryd.prog W .any base 42 v1) (o2 : Value.okWide Tryd.prog W .any base 9 v2)
    (h0 : DataW.Trod enc Tryd.prog W 0 (fun _ => true) true 26 v0 d0 p0) (h1 : DataW.Trod enc Tryd.prog W 0 (fun _ => true) true 42 v1 d1 p1) (h2 : DataW.Trod enc Tryd.prog W 0 (fun _ => true) true 9 v2 d2 p2) (q0 : Wt Tryd.prog 26 d0) (q1 : Wt Tryd.prog 42 d1) (q2 : Wt Tryd.prog 9 d2) (hu : UT W) :
    Calls Tryd.prog 7 #[v0, v1, v2] W fun e W' => e = .returned (.bool true) ∧ Below W.heap.size W W' := by
  obtain ⟨m, rm, cm, km, zm, rfl, hm⟩ := value_arg o0 h0 q0
  obtain ⟨k, x, rx, cx, kx, zx, rfl, hk, hx⟩ := entry_arg o1 h1 q1
  obtain ⟨s, rfl, _, _, _⟩ := Go.ChangeMaps.open_string Tryd.underlying9 o2 h2
  exact puts_law m x _ _ _ _ _ _ _ _ W k s hk hm hx hu
end Go.Proofs.YtedpdpcibkceeaaDoor
