import Derived.Test.YtedpdpcibkceeaaDoorLvo
/-
  The walk of the statement ValueLooks. Conditions: the values and the key can be read; the two tables lie in the world.
-/
namespace Go.Proofs.YtedpdpcibkceeaaDoor
open Go.RowKit Go.Sort Go.Lib
open Go.Lib (hid)
set_option linter.unusedVariables false
set_option linter.unusedSimpArgs false

theorem findL_I (k : ByteArray) : ∀ (ks : List ByteArray) (is : List Val), findL ks is k = findI ks is k
  | [], is => by rw [findL_nil_k]; cases is <;> rfl
  | a :: ks, [] => by rw [findL_nil_i]; rfl
  | a :: ks, y :: is => by rw [findL, findI, findL_I k ks is]
theorem get_same {a : Val} (h : Ok vU a) (key : ByteArray) : rgetV a key = getV a key := by
  unfold rgetV getV
  by_cases hk : a.kind = 5
  · rw [if_pos hk, if_pos hk, findL_I, get_find h.asc]
    have := h.shp
    cases this with
    | mk _ h1 h2 h3 => exact h1 hk
  · rw [if_neg hk, if_neg hk]

set_option maxRecDepth 100000 in
set_option maxHeartbeats 4000000 in
theorem looks_law (a : Val) (b : Val) (ra : Option Addr) (ca : Nat) (ka : Option Addr) (qa : Nat) (rb : Option Addr) (cb : Nat) (kb : Option Addr) (qb : Nat) (w : World) (key : ByteArray) (ha : VR5 w ra ca ka qa a) (hb : VR5 w rb cb kb qb b) (hu : UT w) :
    Calls Tryd.prog 4 #[.agg #[.int .i64 a.kind, .int .i64 a.num, .string a.str, .slice ra a.items.length ca, .slice ka a.keys.length qa], .agg #[.int .i64 b.kind, .int .i64 b.num, .string b.str, .slice rb b.items.length cb, .slice kb b.keys.length qb], .string key] w fun e w' => e = .returned (.bool true) ∧ Below w.heap.size w w' := by
  have hb0 : Below w.heap.size w (((w.alloc (.cells #[.int .i64 a.kind, .int .i64 a.num, .string a.str, .slice ra a.items.length ca, .slice ka a.keys.length qa] 26)).alloc (.cells #[.int .i64 b.kind, .int .i64 b.num, .string b.str, .slice rb b.items.length cb, .slice kb b.keys.length qb] 26)).alloc (.cells #[.int .i64 a.kind, .int .i64 a.num, .string a.str, .slice ra a.items.length ca, .slice ka a.keys.length qa, .int .i64 b.kind, .int .i64 b.num, .string b.str, .slice rb b.items.length cb, .slice kb b.keys.length qb] 26)) := (((Below.refl _ _).alloc (Nat.le_refl _) _).alloc (by simp; try omega) _).alloc (by simp; try omega) _
  have Xa : Box5 (((w.alloc (.cells #[.int .i64 a.kind, .int .i64 a.num, .string a.str, .slice ra a.items.length ca, .slice ka a.keys.length qa] 26)).alloc (.cells #[.int .i64 b.kind, .int .i64 b.num, .string b.str, .slice rb b.items.length cb, .slice kb b.keys.length qb] 26)).alloc (.cells #[.int .i64 a.kind, .int .i64 a.num, .string a.str, .slice ra a.items.length ca, .slice ka a.keys.length qa, .int .i64 b.kind, .int .i64 b.num, .string b.str, .slice rb b.items.length cb, .slice kb b.keys.length qb] 26)) (w.heap.size) a.kind a.num a.str (.slice ra a.items.length ca) (.slice ka a.keys.length qa) := (((Box5.at (b := w.heap.size) w a.kind a.num a.str (.slice ra a.items.length ca) (.slice ka a.keys.length qa) 26 (by simp)).below ((Below.refl _ _).alloc (Nat.le_refl _) _)).below ((Below.refl _ _).alloc (Nat.le_refl _) _))
  have Xb : Box5 (((w.alloc (.cells #[.int .i64 a.kind, .int .i64 a.num, .string a.str, .slice ra a.items.length ca, .slice ka a.keys.length qa] 26)).alloc (.cells #[.int .i64 b.kind, .int .i64 b.num, .string b.str, .slice rb b.items.length cb, .slice kb b.keys.length qb] 26)).alloc (.cells #[.int .i64 a.kind, .int .i64 a.num, .string a.str, .slice ra a.items.length ca, .slice ka a.keys.length qa, .int .i64 b.kind, .int .i64 b.num, .string b.str, .slice rb b.items.length cb, .slice kb b.keys.length qb] 26)) (w.heap.size + 1) b.kind b.num b.str (.slice rb b.items.length cb) (.slice kb b.keys.length qb) := ((Box5.at (b := w.heap.size + 1) (w.alloc (.cells #[.int .i64 a.kind, .int .i64 a.num, .string a.str, .slice ra a.items.length ca, .slice ka a.keys.length qa] 26)) b.kind b.num b.str (.slice rb b.items.length cb) (.slice kb b.keys.length qb) 26 (by simp)).below ((Below.refl _ _).alloc (Nat.le_refl _) _))
  have Va := ha.below hb0
  have Vb := hb.below hb0
  have U0 := hu.below hb0
  have hl : ((w.alloc (.cells #[.int .i64 a.kind, .int .i64 a.num, .string a.str, .slice ra a.items.length ca, .slice ka a.keys.length qa] 26)).alloc (.cells #[.int .i64 b.kind, .int .i64 b.num, .string b.str, .slice rb b.items.length cb, .slice kb b.keys.length qb] 26)).heap.size = w.heap.size + 1 + 1 := by simp
  have hH : (((w.alloc (.cells #[.int .i64 a.kind, .int .i64 a.num, .string a.str, .slice ra a.items.length ca, .slice ka a.keys.length qa] 26)).alloc (.cells #[.int .i64 b.kind, .int .i64 b.num, .string b.str, .slice rb b.items.length cb, .slice kb b.keys.length qb] 26)).alloc (.cells #[.int .i64 a.kind, .int .i64 a.num, .string a.str, .slice ra a.items.length ca, .slice ka a.keys.length qa, .int .i64 b.kind, .int .i64 b.num, .string b.str, .slice rb b.items.length cb, .slice kb b.keys.length qb] 26)).heap[w.heap.size + 1 + 1]? = some (.cells #[.int .i64 a.kind, .int .i64 a.num, .string a.str, .slice ra a.items.length ca, .slice ka a.keys.length qa, .int .i64 b.kind, .int .i64 b.num, .string b.str, .slice rb b.items.length cb, .slice kb b.keys.length qb] 26 (0, 0)) := by rw [← hl]; exact heap_alloc_new _ _
  have hI : Sl VR 5 (((w.alloc (.cells #[.int .i64 a.kind, .int .i64 a.num, .string a.str, .slice ra a.items.length ca, .slice ka a.keys.length qa] 26)).alloc (.cells #[.int .i64 b.kind, .int .i64 b.num, .string b.str, .slice rb b.items.length cb, .slice kb b.keys.length qb] 26)).alloc (.cells #[.int .i64 a.kind, .int .i64 a.num, .string a.str, .slice ra a.items.length ca, .slice ka a.keys.length qa, .int .i64 b.kind, .int .i64 b.num, .string b.str, .slice rb b.items.length cb, .slice kb b.keys.length qb] 26)) (.slice (some ⟨w.heap.size + 1 + 1, 0, none⟩) 2 2) [a, b] := sl_block Cv.enc cv_len (R := VR) (xs := [a, b]) (ys := [Cv.of a ra ca ka qa, Cv.of b rb cb kb qb]) hH rfl rfl (by simp [maxLen]) (fun i hi hi' => by
    match i, hi with
    | 0, _ => exact Va
    | 1, _ => exact Vb)
  have CV : Calls Tryd.prog 14 #[.slice (some ⟨w.heap.size + 1 + 1, 0, none⟩) 2 2] (((w.alloc (.cells #[.int .i64 a.kind, .int .i64 a.num, .string a.str, .slice ra a.items.length ca, .slice ka a.keys.length qa] 26)).alloc (.cells #[.int .i64 b.kind, .int .i64 b.num, .string b.str, .slice rb b.items.length cb, .slice kb b.keys.length qb] 26)).alloc (.cells #[.int .i64 a.kind, .int .i64 a.num, .string a.str, .slice ra a.items.length ca, .slice ka a.keys.length qa, .int .i64 b.kind, .int .i64 b.num, .string b.str, .slice rb b.items.length cb, .slice kb b.keys.length qb] 26)) (fun e w' => e = .returned (.bool ([a, b].all okV)) ∧ Below (((w.alloc (.cells #[.int .i64 a.kind, .int .i64 a.num, .string a.str, .slice ra a.items.length ca, .slice ka a.keys.length qa] 26)).alloc (.cells #[.int .i64 b.kind, .int .i64 b.num, .string b.str, .slice rb b.items.length cb, .slice kb b.keys.length qb] 26)).alloc (.cells #[.int .i64 a.kind, .int .i64 a.num, .string a.str, .slice ra a.items.length ca, .slice ka a.keys.length qa, .int .i64 b.kind, .int .i64 b.num, .string b.str, .slice rb b.items.length cb, .slice kb b.keys.length qb] 26)).heap.size (((w.alloc (.cells #[.int .i64 a.kind, .int .i64 a.num, .string a.str, .slice ra a.items.length ca, .slice ka a.keys.length qa] 26)).alloc (.cells #[.int .i64 b.kind, .int .i64 b.num, .string b.str, .slice rb b.items.length cb, .slice kb b.keys.length qb] 26)).alloc (.cells #[.int .i64 a.kind, .int .i64 a.num, .string a.str, .slice ra a.items.length ca, .slice ka a.keys.length qa, .int .i64 b.kind, .int .i64 b.num, .string b.str, .slice rb b.items.length cb, .slice kb b.keys.length qb] 26)) w') := valid_any [a, b] _ 2 _ hI
  have HOK := hid (show ([a, b].all okV) = true → okV a = true ∧ okV b = true from fun h => by simpa using h)
  clear hI hH hl ha hb hu
  generalize hW : (((w.alloc (.cells #[.int .i64 a.kind, .int .i64 a.num, .string a.str, .slice ra a.items.length ca, .slice ka a.keys.length qa] 26)).alloc (.cells #[.int .i64 b.kind, .int .i64 b.num, .string b.str, .slice rb b.items.length cb, .slice kb b.keys.length qb] 26)).alloc (.cells #[.int .i64 a.kind, .int .i64 a.num, .string a.str, .slice ra a.items.length ca, .slice ka a.keys.length qa, .int .i64 b.kind, .int .i64 b.num, .string b.str, .slice rb b.items.length cb, .slice kb b.keys.length qb] 26)) = W at *
  have HW := hid hW
  clear hW
  have CVh := hid CV
  have B0 := hid hb0
  have CA := hid (fun d os => Calls.regrown_of (awake_any (grow (redrawn W d) os) (U0.below (below_regrown W d os))))
  have Va2 := hid Va
  have Vb2 := hid Vb
  have Ub := hid U0
  have HXa := hid Xa
  have HXb := hid Xb
  have GA := hid (fun (h : okV a = true) (W2 : World) (hW : Below W.heap.size W W2) => pget_any a key ra ca ka qa W2 (Va.below hW) (ok_of h).1.asc (by have := (ok_of h).2.1; omega) (by have := (ok_of h).2.2; omega))
  have RA := hid (fun (h : okV a = true) (W2 : World) (hW : Below W.heap.size W W2) => (get_same (ok_of h).1 key) ▸ rget_any a key ra ca ka qa W2 (Va.below hW))
  have NOD := hid (show okV a = true → nodes a ≤ 1000000 from fun h => by have := (ok_of h).2.1; omega)
  generalize [a, b].all okV = vb at *
  clear CV hb0 U0 Va Vb
  go_enter Tryd.func4, Tryd.ntmps4
  go_wp2_with fail
  rw [HW.out]
  refine CVh.out.mono ?_
  rintro e w1 ⟨rfl, hb1⟩
  obtain ⟨d, os, rfl⟩ := regr hb1
  clear hb1 HW CVh
  have hcg := cells_regrown W
  have a0 := Xa.c0
  have a1 := Xa.c1
  have a2 := Xa.c2
  have a3 := Xa.c3
  have a4 := Xa.c4
  have al := Xa.lt
  have b0 := Xb.c0
  have b1 := Xb.c1
  have b2 := Xb.c2
  have b3 := Xb.c3
  have b4 := Xb.c4
  have bl := Xb.lt
  clear Xa Xb
  cases vb with
  | false =>
    go_wp2_with fail
    refine (CA.out d os).mono ?_
    rintro e w2 ⟨rfl, p, rfl⟩
    go_wp2
    go_ret
    exact ⟨rfl, below_gr B0.out _ _⟩
  | true =>
    obtain ⟨oka, okb⟩ := HOK.out rfl
    have GA2 := hid (GA.out oka)
    have RA2 := hid (RA.out oka)
    have NO2 := hid (NOD.out oka)
    clear GA RA NOD oka okb HOK
    generalize getV a key = gv at *
    have hba := below_regrown W d os
    go_wp2_with fail
    refine (GA2.out _ hba).mono ?_
    rintro e w2 ⟨rx, cx, kx, qx, rfl, hv2, hb2⟩
    have hb3 : Below w2.heap.size w2 (w2.alloc (.cells #[.int .i64 (gv.getD zeroV).kind, .int .i64 (gv.getD zeroV).num, .string (gv.getD zeroV).str, .slice rx (gv.getD zeroV).items.length cx, .slice kx (gv.getD zeroV).keys.length qx] 26)) := (Below.refl _ _).alloc (Nat.le_refl _) _
    have hw2 := hba.trans (hb2.mono hba.size)
    have HW3 := hid (hw2.trans (hb3.mono hw2.size))
    have VX3 := hid (hv2.below hb3)
    have XX3 := hid (Box5.new w2 (gv.getD zeroV).kind (gv.getD zeroV).num (gv.getD zeroV).str (.slice rx (gv.getD zeroV).items.length cx) (.slice kx (gv.getD zeroV).keys.length qx) 26)
    have XA3 := (HXa.out.below hw2).below hb3
    have a0 := XA3.c0
    have a1 := XA3.c1
    have a2 := XA3.c2
    have a3 := XA3.c3
    have a4 := XA3.c4
    clear hb2 hb3 hw2 hv2 XA3 hba hcg b0 b1 b2 b3 b4 bl al
    go_wp2_with fail
    generalize (w2.alloc (.cells #[.int .i64 (gv.getD zeroV).kind, .int .i64 (gv.getD zeroV).num, .string (gv.getD zeroV).str, .slice rx (gv.getD zeroV).items.length cx, .slice kx (gv.getD zeroV).keys.length qx] 26)) = W3 at *
    generalize w2.heap.size = bx at *
    refine (RA2.out W3 HW3.out).mono ?_
    rintro e w3 ⟨ry, cy, ky, qy, rfl, hv3, hb3⟩
    have hb4 : Below w3.heap.size w3 (w3.alloc (.cells #[.int .i64 (gv.getD zeroV).kind, .int .i64 (gv.getD zeroV).num, .string (gv.getD zeroV).str, .slice ry (gv.getD zeroV).items.length cy, .slice ky (gv.getD zeroV).keys.length qy] 26)) := (Below.refl _ _).alloc (Nat.le_refl _) _
    have hw34 := hb3.trans (hb4.mono hb3.size)
    have HW4 := hid (HW3.out.trans (hw34.mono HW3.out.size))
    have VX4 := hid (VX3.out.below hw34)
    have VY4 := hid (hv3.below hb4)
    have XX4 := XX3.out.below hw34
    have XY4 := Box5.new w3 (gv.getD zeroV).kind (gv.getD zeroV).num (gv.getD zeroV).str (.slice ry (gv.getD zeroV).items.length cy) (.slice ky (gv.getD zeroV).keys.length qy) 26
    have XA4 := HXa.out.below HW4.out
    have XB4 := HXb.out.below HW4.out
    clear hb3 hb4 hw34 hv3 a0 a1 a2 a3 a4 GA2 RA2 XX3 VX3
    go_wp2_with fail
    generalize (w3.alloc (.cells #[.int .i64 (gv.getD zeroV).kind, .int .i64 (gv.getD zeroV).num, .string (gv.getD zeroV).str, .slice ry (gv.getD zeroV).items.length cy, .slice ky (gv.getD zeroV).keys.length qy] 26)) = W4 at *
    generalize w3.heap.size = bY at *
    have a0 := XA4.c0
    have a1 := XA4.c1
    have a2 := XA4.c2
    have a3 := XA4.c3
    have a4 := XA4.c4
    have al := XA4.lt
    have b0 := XB4.c0
    have b1 := XB4.c1
    have b2 := XB4.c2
    have b3 := XB4.c3
    have b4 := XB4.c4
    have bl := XB4.lt
    have x0 := XX4.c0
    have x1 := XX4.c1
    have x2 := XX4.c2
    have x3 := XX4.c3
    have x4 := XX4.c4
    have xl := XX4.lt
    have y0 := XY4.c0
    have y1 := XY4.c1
    have y2 := XY4.c2
    have y3 := XY4.c3
    have y4 := XY4.c4
    have yl := XY4.lt
    clear XA4 XB4 XX4 XY4
    have hcg := cells_regrown W4
    have Va4 := hid (Va2.out.below HW4.out)
    have Vb4 := hid (Vb2.out.below HW4.out)
    have U4 := hid (Ub.out.below HW4.out)
    have CA4 := hid (fun d os => Calls.regrown_of (awake_any (grow (redrawn W4 d) os) (U4.out.below (below_regrown W4 d os))))
    have C1 := hid (fun d os => (show Calls Tryd.prog 17 #[.agg #[.int .i64 a.kind, .int .i64 a.num, .string a.str, .slice ra a.items.length ca, .slice ka a.keys.length qa], .agg #[.int .i64 b.kind, .int .i64 b.num, .string b.str, .slice rb b.items.length cb, .slice kb b.keys.length qb]] (grow (redrawn W4 d) os) (fun e w'' => e = .returned (.bool (eqV a b)) ∧ ∃ p : Regrown, w'' = grow (redrawn W4 p.d) p.os) from Calls.regrown_of (peq_any a b ra ca ka qa rb cb kb qb _ (Va4.out.below (below_regrown W4 d os)) (Vb4.out.below (below_regrown W4 d os)))))
    have C2 := hid (fun d os => (show Calls Tryd.prog 18 #[.agg #[.int .i64 a.kind, .int .i64 a.num, .string a.str, .slice ra a.items.length ca, .slice ka a.keys.length qa], .agg #[.int .i64 b.kind, .int .i64 b.num, .string b.str, .slice rb b.items.length cb, .slice kb b.keys.length qb]] (grow (redrawn W4 d) os) (fun e w'' => e = .returned (.bool (eqV a b)) ∧ ∃ p : Regrown, w'' = grow (redrawn W4 p.d) p.os) from Calls.regrown_of (req_any a b ra ca ka qa rb cb kb qb _ (Va4.out.below (below_regrown W4 d os)) (Vb4.out.below (below_regrown W4 d os)))))
    have C3 := hid (fun d os => (show Calls Tryd.prog 19 #[.agg #[.int .i64 a.kind, .int .i64 a.num, .string a.str, .slice ra a.items.length ca, .slice ka a.keys.length qa], .agg #[.int .i64 b.kind, .int .i64 b.num, .string b.str, .slice rb b.items.length cb, .slice kb b.keys.length qb]] (grow (redrawn W4 d) os) (fun e w'' => e = .returned (.int .i64 (cmpV a b)) ∧ ∃ p : Regrown, w'' = grow (redrawn W4 p.d) p.os) from Calls.regrown_of (pcompare_any a b ra ca ka qa rb cb kb qb _ (Va4.out.below (below_regrown W4 d os)) (Vb4.out.below (below_regrown W4 d os)))))
    have C4 := hid (fun d os => (show Calls Tryd.prog 20 #[.agg #[.int .i64 a.kind, .int .i64 a.num, .string a.str, .slice ra a.items.length ca, .slice ka a.keys.length qa], .agg #[.int .i64 b.kind, .int .i64 b.num, .string b.str, .slice rb b.items.length cb, .slice kb b.keys.length qb]] (grow (redrawn W4 d) os) (fun e w'' => e = .returned (.int .i64 (cmpV a b)) ∧ ∃ p : Regrown, w'' = grow (redrawn W4 p.d) p.os) from Calls.regrown_of (rcompare_any a b ra ca ka qa rb cb kb qb _ (Va4.out.below (below_regrown W4 d os)) (Vb4.out.below (below_regrown W4 d os)))))
    have C5 := hid (fun d os => (show Calls Tryd.prog 21 #[.agg #[.int .i64 a.kind, .int .i64 a.num, .string a.str, .slice ra a.items.length ca, .slice ka a.keys.length qa]] (grow (redrawn W4 d) os) (fun e w'' => e = .returned (.bool (knownV a)) ∧ ∃ p : Regrown, w'' = grow (redrawn W4 p.d) p.os) from Calls.regrown_of (pknown_any a ra ca ka qa _ (Va4.out.below (below_regrown W4 d os)))))
    have C6 := hid (fun d os => (show Calls Tryd.prog 22 #[.agg #[.int .i64 a.kind, .int .i64 a.num, .string a.str, .slice ra a.items.length ca, .slice ka a.keys.length qa]] (grow (redrawn W4 d) os) (fun e w'' => e = .returned (.bool (knownV a)) ∧ ∃ p : Regrown, w'' = grow (redrawn W4 p.d) p.os) from Calls.regrown_of (rknown_any a ra ca ka qa _ (Va4.out.below (below_regrown W4 d os)))))
    have C7 := hid (fun d os => (show Calls Tryd.prog 23 #[.agg #[.int .i64 a.kind, .int .i64 a.num, .string a.str, .slice ra a.items.length ca, .slice ka a.keys.length qa], .agg #[.int .i64 b.kind, .int .i64 b.num, .string b.str, .slice rb b.items.length cb, .slice kb b.keys.length qb]] (grow (redrawn W4 d) os) (fun e w'' => e = .returned (.bool (rfnV a b)) ∧ ∃ p : Regrown, w'' = grow (redrawn W4 p.d) p.os) from Calls.regrown_of (prefines_any a b ra ca ka qa rb cb kb qb _ (Va4.out.below (below_regrown W4 d os)) (Vb4.out.below (below_regrown W4 d os)))))
    have C8 := hid (fun d os => (show Calls Tryd.prog 24 #[.agg #[.int .i64 a.kind, .int .i64 a.num, .string a.str, .slice ra a.items.length ca, .slice ka a.keys.length qa], .agg #[.int .i64 b.kind, .int .i64 b.num, .string b.str, .slice rb b.items.length cb, .slice kb b.keys.length qb]] (grow (redrawn W4 d) os) (fun e w'' => e = .returned (.bool (rfnV a b)) ∧ ∃ p : Regrown, w'' = grow (redrawn W4 p.d) p.os) from Calls.regrown_of (rrefines_any a b ra ca ka qa rb cb kb qb _ (Va4.out.below (below_regrown W4 d os)) (Vb4.out.below (below_regrown W4 d os)))))
    have C9 := hid (fun d os => (show Calls Tryd.prog 25 #[.agg #[.int .i64 a.kind, .int .i64 a.num, .string a.str, .slice ra a.items.length ca, .slice ka a.keys.length qa]] (grow (redrawn W4 d) os) (fun e w'' => e = .returned (.int .i64 (nodes a)) ∧ ∃ p : Regrown, w'' = grow (redrawn W4 p.d) p.os) from Calls.regrown_of (pnodes_any a ra ca ka qa _ (Va4.out.below (below_regrown W4 d os)) NO2.out)))
    have C10 := hid (fun d os => (show Calls Tryd.prog 26 #[.agg #[.int .i64 a.kind, .int .i64 a.num, .string a.str, .slice ra a.items.length ca, .slice ka a.keys.length qa]] (grow (redrawn W4 d) os) (fun e w'' => e = .returned (.int .i64 (nodes a)) ∧ ∃ p : Regrown, w'' = grow (redrawn W4 p.d) p.os) from Calls.regrown_of (rnodes_any a ra ca ka qa _ (Va4.out.below (below_regrown W4 d os)) NO2.out)))
    have C11 := hid (fun d os => (show Calls Tryd.prog 18 #[.agg #[.int .i64 (gv.getD zeroV).kind, .int .i64 (gv.getD zeroV).num, .string (gv.getD zeroV).str, .slice rx (gv.getD zeroV).items.length cx, .slice kx (gv.getD zeroV).keys.length qx], .agg #[.int .i64 (gv.getD zeroV).kind, .int .i64 (gv.getD zeroV).num, .string (gv.getD zeroV).str, .slice ry (gv.getD zeroV).items.length cy, .slice ky (gv.getD zeroV).keys.length qy]] (grow (redrawn W4 d) os) (fun e w'' => e = .returned (.bool true) ∧ ∃ p : Regrown, w'' = grow (redrawn W4 p.d) p.os) from Calls.regrown_of (by have h := req_any (gv.getD zeroV) (gv.getD zeroV) rx cx kx qx ry cy ky qy (grow (redrawn W4 d) os) (VX4.out.below (below_regrown W4 d os)) (VY4.out.below (below_regrown W4 d os)); rw [(eqV_iff _ _).2 rfl] at h; exact h)))
    clear Va4 Vb4 U4 VX4 VY4 NO2
    generalize eqV a b = e1 at *
    generalize cmpV a b = e2 at *
    generalize knownV a = e3 at *
    generalize rfnV a b = e4 at *
    generalize nodes a = e5 at *
    generalize gv.isSome = e6 at *
    have s1 : (e1 == e1) = true := by simp
    have s2 : (e2 == e2) = true := by simp
    have s3 : (e3 == e3) = true := by simp
    have s4 : (e4 == e4) = true := by simp
    have s5 : (((e5 : Nat) : Int) == ((e5 : Nat) : Int)) = true := by simp
    have s6 : (e6 == e6) = true := by simp
    refine wp_region_quiet_below (by kernel_rfl) (by kernel_rfl) ?_
    repeat (first | go_big_quiet_step (first | (go_at_call 17; exact C1.out _ _) | (go_at_call 18; with_reducible first | exact C2.out _ _ | exact C11.out _ _) | (go_at_call 19; exact C3.out _ _) | (go_at_call 20; exact C4.out _ _) | (go_at_call 21; exact C5.out _ _) | (go_at_call 22; exact C6.out _ _) | (go_at_call 23; exact C7.out _ _) | (go_at_call 24; exact C8.out _ _) | (go_at_call 25; exact C9.out _ _) | (go_at_call 26; exact C10.out _ _) | (go_at_call 11; exact CA4.out _ _)) | quiet_step (first | (go_at_call 17; exact C1.out _ _) | (go_at_call 18; with_reducible first | exact C2.out _ _ | exact C11.out _ _) | (go_at_call 19; exact C3.out _ _) | (go_at_call 20; exact C4.out _ _) | (go_at_call 21; exact C5.out _ _) | (go_at_call 22; exact C6.out _ _) | (go_at_call 23; exact C7.out _ _) | (go_at_call 24; exact C8.out _ _) | (go_at_call 25; exact C9.out _ _) | (go_at_call 26; exact C10.out _ _) | (go_at_call 11; exact CA4.out _ _)))
    refine wpQuiet_nil ?_
    intro _ hw'
    obtain ⟨⟨dq, osq⟩, hw''⟩ := hw'
    subst hw''
    go_wp2
    go_ret
    have hfin := B0.out.trans (HW4.out.mono B0.out.size)
    exact ⟨rfl, hfin.trans ((below_regrown _ _ _).mono hfin.size)⟩

set_option maxRecDepth 100000 in
theorem looks_from (H : Type) (enc : TypeId × Value → H) (W : World) (base : Nat) (v0 v1 v2 : Value) (d0 d1 d2 : DataW H) (p0 p1 p2 : List MemPlace) (o0 : Value.okWide Tryd.prog W .any base 26 v0) (o1 : Value.okWide Tryd.prog W .any base 26 v1) (o2 : Value.okWide Tryd.prog W .any base 9 v2)
    (h0 : DataW.Trod enc Tryd.prog W 0 (fun _ => true) true 26 v0 d0 p0) (h1 : DataW.Trod enc Tryd.prog W 0 (fun _ => true) true 26 v1 d1 p1) (h2 : DataW.Trod enc Tryd.prog W 0 (fun _ => true) true 9 v2 d2 p2) (q0 : Wt Tryd.prog 26 d0) (q1 : Wt Tryd.prog 26 d1) (q2 : Wt Tryd.prog 9 d2) (hu : UT W) :
    Calls Tryd.prog 4 #[v0, v1, v2] W fun e W' => e = .returned (.bool true) ∧ Below W.heap.size W W' := by
  obtain ⟨a, ra, ca, ka, za, rfl, ha⟩ := value_arg o0 h0 q0
  obtain ⟨b, rb, cb, kb, zb, rfl, hb⟩ := value_arg o1 h1 q1
  obtain ⟨s, rfl, _, _, _⟩ := Go.ChangeMaps.open_string Tryd.underlying9 o2 h2
  exact looks_law a b _ _ _ _ _ _ _ _ W s ha hb hu
end Go.Proofs.YtedpdpcibkceeaaDoor
