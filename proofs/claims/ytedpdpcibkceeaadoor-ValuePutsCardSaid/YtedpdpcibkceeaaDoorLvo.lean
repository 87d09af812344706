import Derived.Test.YtedpdpcibkceeaaDoorFrm
import Derived.BigQuiet
/-
  The walk of the statement ValueOrder. Conditions: the values can be read; the two tables lie in the world.
-/
namespace Go.Proofs.YtedpdpcibkceeaaDoor
open Go.RowKit Go.Sort Go.Lib
open Go.Lib (hid)
set_option linter.unusedVariables false
set_option linter.unusedSimpArgs false

theorem Box5.at {b : Nat} (w : World) (k n : Int) (s : ByteArray) (vI vK : Value) (T : TypeId) (hb : w.heap.size = b) : Box5 (w.alloc (.cells #[.int .i64 k, .int .i64 n, .string s, vI, vK] T)) b k n s vI vK := by
  subst hb; exact Box5.new w k n s vI vK T
theorem ok_of {x : Val} (h : okV x = true) : Ok vU x ∧ nodes x ≤ 400 ∧ nkeys x ≤ 800 := by
  unfold okV at h
  rw [Bool.and_eq_true, decide_eq_true_eq] at h
  obtain ⟨h1, h2, _⟩ := small_of h.1
  exact ⟨(chk_ok vU x 1 0 h.2).1, h1, by omega⟩
theorem eq_of_cmp {a b : Val} (ha : Shp a) (hb : Shp b) : eqV a b = decide (cmpV a b = 0) := by
  by_cases h : cmpV a b = 0
  · obtain rfl := cmpV_zero a b ha hb h
    simp [(eqV_iff a a).2 rfl, h]
  · rw [decide_eq_false h, Bool.eq_false_iff]
    intro e
    obtain rfl := (eqV_iff a b).1 e
    exact h (cmpV_self a)

set_option maxRecDepth 100000 in
set_option maxHeartbeats 4000000 in
theorem order_law (a : Val) (b : Val) (c : Val) (ra : Option Addr) (ca : Nat) (ka : Option Addr) (qa : Nat) (rb : Option Addr) (cb : Nat) (kb : Option Addr) (qb : Nat) (rc : Option Addr) (cc : Nat) (kc : Option Addr) (qc : Nat) (w : World) (ha : VR5 w ra ca ka qa a) (hb : VR5 w rb cb kb qb b) (hc : VR5 w rc cc kc qc c) (hu : UT w) :
    Calls Tryd.prog 5 #[.agg #[.int .i64 a.kind, .int .i64 a.num, .string a.str, .slice ra a.items.length ca, .slice ka a.keys.length qa], .agg #[.int .i64 b.kind, .int .i64 b.num, .string b.str, .slice rb b.items.length cb, .slice kb b.keys.length qb], .agg #[.int .i64 c.kind, .int .i64 c.num, .string c.str, .slice rc c.items.length cc, .slice kc c.keys.length qc]] w fun e w' => e = .returned (.bool true) ∧ Below w.heap.size w w' := by
  have hb0 : Below w.heap.size w ((((w.alloc (.cells #[.int .i64 a.kind, .int .i64 a.num, .string a.str, .slice ra a.items.length ca, .slice ka a.keys.length qa] 26)).alloc (.cells #[.int .i64 b.kind, .int .i64 b.num, .string b.str, .slice rb b.items.length cb, .slice kb b.keys.length qb] 26)).alloc (.cells #[.int .i64 c.kind, .int .i64 c.num, .string c.str, .slice rc c.items.length cc, .slice kc c.keys.length qc] 26)).alloc (.cells #[.int .i64 a.kind, .int .i64 a.num, .string a.str, .slice ra a.items.length ca, .slice ka a.keys.length qa, .int .i64 b.kind, .int .i64 b.num, .string b.str, .slice rb b.items.length cb, .slice kb b.keys.length qb, .int .i64 c.kind, .int .i64 c.num, .string c.str, .slice rc c.items.length cc, .slice kc c.keys.length qc] 26)) := ((((Below.refl _ _).alloc (Nat.le_refl _) _).alloc (by simp; try omega) _).alloc (by simp; try omega) _).alloc (by simp; try omega) _
  have Xa : Box5 ((((w.alloc (.cells #[.int .i64 a.kind, .int .i64 a.num, .string a.str, .slice ra a.items.length ca, .slice ka a.keys.length qa] 26)).alloc (.cells #[.int .i64 b.kind, .int .i64 b.num, .string b.str, .slice rb b.items.length cb, .slice kb b.keys.length qb] 26)).alloc (.cells #[.int .i64 c.kind, .int .i64 c.num, .string c.str, .slice rc c.items.length cc, .slice kc c.keys.length qc] 26)).alloc (.cells #[.int .i64 a.kind, .int .i64 a.num, .string a.str, .slice ra a.items.length ca, .slice ka a.keys.length qa, .int .i64 b.kind, .int .i64 b.num, .string b.str, .slice rb b.items.length cb, .slice kb b.keys.length qb, .int .i64 c.kind, .int .i64 c.num, .string c.str, .slice rc c.items.length cc, .slice kc c.keys.length qc] 26)) (w.heap.size) a.kind a.num a.str (.slice ra a.items.length ca) (.slice ka a.keys.length qa) := ((((Box5.at (b := w.heap.size) w a.kind a.num a.str (.slice ra a.items.length ca) (.slice ka a.keys.length qa) 26 (by simp)).below ((Below.refl _ _).alloc (Nat.le_refl _) _)).below ((Below.refl _ _).alloc (Nat.le_refl _) _)).below ((Below.refl _ _).alloc (Nat.le_refl _) _))
  have Xb : Box5 ((((w.alloc (.cells #[.int .i64 a.kind, .int .i64 a.num, .string a.str, .slice ra a.items.length ca, .slice ka a.keys.length qa] 26)).alloc (.cells #[.int .i64 b.kind, .int .i64 b.num, .string b.str, .slice rb b.items.length cb, .slice kb b.keys.length qb] 26)).alloc (.cells #[.int .i64 c.kind, .int .i64 c.num, .string c.str, .slice rc c.items.length cc, .slice kc c.keys.length qc] 26)).alloc (.cells #[.int .i64 a.kind, .int .i64 a.num, .string a.str, .slice ra a.items.length ca, .slice ka a.keys.length qa, .int .i64 b.kind, .int .i64 b.num, .string b.str, .slice rb b.items.length cb, .slice kb b.keys.length qb, .int .i64 c.kind, .int .i64 c.num, .string c.str, .slice rc c.items.length cc, .slice kc c.keys.length qc] 26)) (w.heap.size + 1) b.kind b.num b.str (.slice rb b.items.length cb) (.slice kb b.keys.length qb) := (((Box5.at (b := w.heap.size + 1) (w.alloc (.cells #[.int .i64 a.kind, .int .i64 a.num, .string a.str, .slice ra a.items.length ca, .slice ka a.keys.length qa] 26)) b.kind b.num b.str (.slice rb b.items.length cb) (.slice kb b.keys.length qb) 26 (by simp)).below ((Below.refl _ _).alloc (Nat.le_refl _) _)).below ((Below.refl _ _).alloc (Nat.le_refl _) _))
  have Xc : Box5 ((((w.alloc (.cells #[.int .i64 a.kind, .int .i64 a.num, .string a.str, .slice ra a.items.length ca, .slice ka a.keys.length qa] 26)).alloc (.cells #[.int .i64 b.kind, .int .i64 b.num, .string b.str, .slice rb b.items.length cb, .slice kb b.keys.length qb] 26)).alloc (.cells #[.int .i64 c.kind, .int .i64 c.num, .string c.str, .slice rc c.items.length cc, .slice kc c.keys.length qc] 26)).alloc (.cells #[.int .i64 a.kind, .int .i64 a.num, .string a.str, .slice ra a.items.length ca, .slice ka a.keys.length qa, .int .i64 b.kind, .int .i64 b.num, .string b.str, .slice rb b.items.length cb, .slice kb b.keys.length qb, .int .i64 c.kind, .int .i64 c.num, .string c.str, .slice rc c.items.length cc, .slice kc c.keys.length qc] 26)) (w.heap.size + 1 + 1) c.kind c.num c.str (.slice rc c.items.length cc) (.slice kc c.keys.length qc) := ((Box5.at (b := w.heap.size + 1 + 1) ((w.alloc (.cells #[.int .i64 a.kind, .int .i64 a.num, .string a.str, .slice ra a.items.length ca, .slice ka a.keys.length qa] 26)).alloc (.cells #[.int .i64 b.kind, .int .i64 b.num, .string b.str, .slice rb b.items.length cb, .slice kb b.keys.length qb] 26)) c.kind c.num c.str (.slice rc c.items.length cc) (.slice kc c.keys.length qc) 26 (by simp)).below ((Below.refl _ _).alloc (Nat.le_refl _) _))
  have Va := ha.below hb0
  have Vb := hb.below hb0
  have Vc := hc.below hb0
  have U0 := hu.below hb0
  have hl : (((w.alloc (.cells #[.int .i64 a.kind, .int .i64 a.num, .string a.str, .slice ra a.items.length ca, .slice ka a.keys.length qa] 26)).alloc (.cells #[.int .i64 b.kind, .int .i64 b.num, .string b.str, .slice rb b.items.length cb, .slice kb b.keys.length qb] 26)).alloc (.cells #[.int .i64 c.kind, .int .i64 c.num, .string c.str, .slice rc c.items.length cc, .slice kc c.keys.length qc] 26)).heap.size = w.heap.size + 1 + 1 + 1 := by simp
  have hH : ((((w.alloc (.cells #[.int .i64 a.kind, .int .i64 a.num, .string a.str, .slice ra a.items.length ca, .slice ka a.keys.length qa] 26)).alloc (.cells #[.int .i64 b.kind, .int .i64 b.num, .string b.str, .slice rb b.items.length cb, .slice kb b.keys.length qb] 26)).alloc (.cells #[.int .i64 c.kind, .int .i64 c.num, .string c.str, .slice rc c.items.length cc, .slice kc c.keys.length qc] 26)).alloc (.cells #[.int .i64 a.kind, .int .i64 a.num, .string a.str, .slice ra a.items.length ca, .slice ka a.keys.length qa, .int .i64 b.kind, .int .i64 b.num, .string b.str, .slice rb b.items.length cb, .slice kb b.keys.length qb, .int .i64 c.kind, .int .i64 c.num, .string c.str, .slice rc c.items.length cc, .slice kc c.keys.length qc] 26)).heap[w.heap.size + 1 + 1 + 1]? = some (.cells #[.int .i64 a.kind, .int .i64 a.num, .string a.str, .slice ra a.items.length ca, .slice ka a.keys.length qa, .int .i64 b.kind, .int .i64 b.num, .string b.str, .slice rb b.items.length cb, .slice kb b.keys.length qb, .int .i64 c.kind, .int .i64 c.num, .string c.str, .slice rc c.items.length cc, .slice kc c.keys.length qc] 26 (0, 0)) := by rw [← hl]; exact heap_alloc_new _ _
  have hI : Sl VR 5 ((((w.alloc (.cells #[.int .i64 a.kind, .int .i64 a.num, .string a.str, .slice ra a.items.length ca, .slice ka a.keys.length qa] 26)).alloc (.cells #[.int .i64 b.kind, .int .i64 b.num, .string b.str, .slice rb b.items.length cb, .slice kb b.keys.length qb] 26)).alloc (.cells #[.int .i64 c.kind, .int .i64 c.num, .string c.str, .slice rc c.items.length cc, .slice kc c.keys.length qc] 26)).alloc (.cells #[.int .i64 a.kind, .int .i64 a.num, .string a.str, .slice ra a.items.length ca, .slice ka a.keys.length qa, .int .i64 b.kind, .int .i64 b.num, .string b.str, .slice rb b.items.length cb, .slice kb b.keys.length qb, .int .i64 c.kind, .int .i64 c.num, .string c.str, .slice rc c.items.length cc, .slice kc c.keys.length qc] 26)) (.slice (some ⟨w.heap.size + 1 + 1 + 1, 0, none⟩) 3 3) [a, b, c] := sl_block Cv.enc cv_len (R := VR) (xs := [a, b, c]) (ys := [Cv.of a ra ca ka qa, Cv.of b rb cb kb qb, Cv.of c rc cc kc qc]) hH rfl rfl (by simp [maxLen]) (fun i hi hi' => by
    match i, hi with
    | 0, _ => exact Va
    | 1, _ => exact Vb
    | 2, _ => exact Vc)
  have CV : Calls Tryd.prog 14 #[.slice (some ⟨w.heap.size + 1 + 1 + 1, 0, none⟩) 3 3] ((((w.alloc (.cells #[.int .i64 a.kind, .int .i64 a.num, .string a.str, .slice ra a.items.length ca, .slice ka a.keys.length qa] 26)).alloc (.cells #[.int .i64 b.kind, .int .i64 b.num, .string b.str, .slice rb b.items.length cb, .slice kb b.keys.length qb] 26)).alloc (.cells #[.int .i64 c.kind, .int .i64 c.num, .string c.str, .slice rc c.items.length cc, .slice kc c.keys.length qc] 26)).alloc (.cells #[.int .i64 a.kind, .int .i64 a.num, .string a.str, .slice ra a.items.length ca, .slice ka a.keys.length qa, .int .i64 b.kind, .int .i64 b.num, .string b.str, .slice rb b.items.length cb, .slice kb b.keys.length qb, .int .i64 c.kind, .int .i64 c.num, .string c.str, .slice rc c.items.length cc, .slice kc c.keys.length qc] 26)) (fun e w' => e = .returned (.bool ([a, b, c].all okV)) ∧ Below ((((w.alloc (.cells #[.int .i64 a.kind, .int .i64 a.num, .string a.str, .slice ra a.items.length ca, .slice ka a.keys.length qa] 26)).alloc (.cells #[.int .i64 b.kind, .int .i64 b.num, .string b.str, .slice rb b.items.length cb, .slice kb b.keys.length qb] 26)).alloc (.cells #[.int .i64 c.kind, .int .i64 c.num, .string c.str, .slice rc c.items.length cc, .slice kc c.keys.length qc] 26)).alloc (.cells #[.int .i64 a.kind, .int .i64 a.num, .string a.str, .slice ra a.items.length ca, .slice ka a.keys.length qa, .int .i64 b.kind, .int .i64 b.num, .string b.str, .slice rb b.items.length cb, .slice kb b.keys.length qb, .int .i64 c.kind, .int .i64 c.num, .string c.str, .slice rc c.items.length cc, .slice kc c.keys.length qc] 26)).heap.size ((((w.alloc (.cells #[.int .i64 a.kind, .int .i64 a.num, .string a.str, .slice ra a.items.length ca, .slice ka a.keys.length qa] 26)).alloc (.cells #[.int .i64 b.kind, .int .i64 b.num, .string b.str, .slice rb b.items.length cb, .slice kb b.keys.length qb] 26)).alloc (.cells #[.int .i64 c.kind, .int .i64 c.num, .string c.str, .slice rc c.items.length cc, .slice kc c.keys.length qc] 26)).alloc (.cells #[.int .i64 a.kind, .int .i64 a.num, .string a.str, .slice ra a.items.length ca, .slice ka a.keys.length qa, .int .i64 b.kind, .int .i64 b.num, .string b.str, .slice rb b.items.length cb, .slice kb b.keys.length qb, .int .i64 c.kind, .int .i64 c.num, .string c.str, .slice rc c.items.length cc, .slice kc c.keys.length qc] 26)) w') := valid_any [a, b, c] _ 3 _ hI
  have HOK := hid (show ([a, b, c].all okV) = true → okV a = true ∧ okV b = true ∧ okV c = true from fun h => by simpa using h)
  clear hI hH hl ha hb hc hu
  generalize hW : ((((w.alloc (.cells #[.int .i64 a.kind, .int .i64 a.num, .string a.str, .slice ra a.items.length ca, .slice ka a.keys.length qa] 26)).alloc (.cells #[.int .i64 b.kind, .int .i64 b.num, .string b.str, .slice rb b.items.length cb, .slice kb b.keys.length qb] 26)).alloc (.cells #[.int .i64 c.kind, .int .i64 c.num, .string c.str, .slice rc c.items.length cc, .slice kc c.keys.length qc] 26)).alloc (.cells #[.int .i64 a.kind, .int .i64 a.num, .string a.str, .slice ra a.items.length ca, .slice ka a.keys.length qa, .int .i64 b.kind, .int .i64 b.num, .string b.str, .slice rb b.items.length cb, .slice kb b.keys.length qb, .int .i64 c.kind, .int .i64 c.num, .string c.str, .slice rc c.items.length cc, .slice kc c.keys.length qc] 26)) = W at *
  have HW := hid hW
  clear hW
  have CVh := hid CV
  have B0 := hid hb0
  have CA := hid (fun d os => Calls.regrown_of (awake_any (grow (redrawn W d) os) (U0.below (below_regrown W d os))))
  have Cab := hid (fun d os => (show Calls Tryd.prog 19 #[.agg #[.int .i64 a.kind, .int .i64 a.num, .string a.str, .slice ra a.items.length ca, .slice ka a.keys.length qa], .agg #[.int .i64 b.kind, .int .i64 b.num, .string b.str, .slice rb b.items.length cb, .slice kb b.keys.length qb]] (grow (redrawn W d) os) (fun e w'' => e = .returned (.int .i64 (cmpV a b)) ∧ ∃ p : Regrown, w'' = grow (redrawn W p.d) p.os) from Calls.regrown_of (pcompare_any a b ra ca ka qa rb cb kb qb _ (Va.below (below_regrown W d os)) (Vb.below (below_regrown W d os)))))
  have Cbc := hid (fun d os => (show Calls Tryd.prog 19 #[.agg #[.int .i64 b.kind, .int .i64 b.num, .string b.str, .slice rb b.items.length cb, .slice kb b.keys.length qb], .agg #[.int .i64 c.kind, .int .i64 c.num, .string c.str, .slice rc c.items.length cc, .slice kc c.keys.length qc]] (grow (redrawn W d) os) (fun e w'' => e = .returned (.int .i64 (cmpV b c)) ∧ ∃ p : Regrown, w'' = grow (redrawn W p.d) p.os) from Calls.regrown_of (pcompare_any b c rb cb kb qb rc cc kc qc _ (Vb.below (below_regrown W d os)) (Vc.below (below_regrown W d os)))))
  have Cba := hid (fun d os => (show Calls Tryd.prog 19 #[.agg #[.int .i64 b.kind, .int .i64 b.num, .string b.str, .slice rb b.items.length cb, .slice kb b.keys.length qb], .agg #[.int .i64 a.kind, .int .i64 a.num, .string a.str, .slice ra a.items.length ca, .slice ka a.keys.length qa]] (grow (redrawn W d) os) (fun e w'' => e = .returned (.int .i64 (cmpV b a)) ∧ ∃ p : Regrown, w'' = grow (redrawn W p.d) p.os) from Calls.regrown_of (pcompare_any b a rb cb kb qb ra ca ka qa _ (Vb.below (below_regrown W d os)) (Va.below (below_regrown W d os)))))
  have Eab := hid (fun d os => (show Calls Tryd.prog 17 #[.agg #[.int .i64 a.kind, .int .i64 a.num, .string a.str, .slice ra a.items.length ca, .slice ka a.keys.length qa], .agg #[.int .i64 b.kind, .int .i64 b.num, .string b.str, .slice rb b.items.length cb, .slice kb b.keys.length qb]] (grow (redrawn W d) os) (fun e w'' => e = .returned (.bool (eqV a b)) ∧ ∃ p : Regrown, w'' = grow (redrawn W p.d) p.os) from Calls.regrown_of (peq_any a b ra ca ka qa rb cb kb qb _ (Va.below (below_regrown W d os)) (Vb.below (below_regrown W d os)))))
  have Caa := hid (fun d os => (show Calls Tryd.prog 19 #[.agg #[.int .i64 a.kind, .int .i64 a.num, .string a.str, .slice ra a.items.length ca, .slice ka a.keys.length qa], .agg #[.int .i64 a.kind, .int .i64 a.num, .string a.str, .slice ra a.items.length ca, .slice ka a.keys.length qa]] (grow (redrawn W d) os) (fun e w'' => e = .returned (.int .i64 (cmpV a a)) ∧ ∃ p : Regrown, w'' = grow (redrawn W p.d) p.os) from Calls.regrown_of (pcompare_any a a ra ca ka qa ra ca ka qa _ (Va.below (below_regrown W d os)) (Va.below (below_regrown W d os)))))
  have Eaa := hid (fun d os => (show Calls Tryd.prog 17 #[.agg #[.int .i64 a.kind, .int .i64 a.num, .string a.str, .slice ra a.items.length ca, .slice ka a.keys.length qa], .agg #[.int .i64 a.kind, .int .i64 a.num, .string a.str, .slice ra a.items.length ca, .slice ka a.keys.length qa]] (grow (redrawn W d) os) (fun e w'' => e = .returned (.bool (eqV a a)) ∧ ∃ p : Regrown, w'' = grow (redrawn W p.d) p.os) from Calls.regrown_of (peq_any a a ra ca ka qa ra ca ka qa _ (Va.below (below_regrown W d os)) (Va.below (below_regrown W d os)))))
  have Cac := hid (fun d os => (show Calls Tryd.prog 19 #[.agg #[.int .i64 a.kind, .int .i64 a.num, .string a.str, .slice ra a.items.length ca, .slice ka a.keys.length qa], .agg #[.int .i64 c.kind, .int .i64 c.num, .string c.str, .slice rc c.items.length cc, .slice kc c.keys.length qc]] (grow (redrawn W d) os) (fun e w'' => e = .returned (.int .i64 (cmpV a c)) ∧ ∃ p : Regrown, w'' = grow (redrawn W p.d) p.os) from Calls.regrown_of (pcompare_any a c ra ca ka qa rc cc kc qc _ (Va.below (below_regrown W d os)) (Vc.below (below_regrown W d os)))))
  have HFT := hid (show okV a = true ∧ okV b = true ∧ okV c = true → Tri (cmpV a b) ∧ Tri (cmpV b c) ∧ Tri (cmpV a c) ∧ cmpV b a = -cmpV a b ∧ cmpV a a = 0 ∧ eqV a a = true ∧ eqV a b = decide (cmpV a b = 0) ∧ Fit (cmpV a b) (cmpV b c) (cmpV a c) from fun ⟨h1, h2, h3⟩ => ⟨cmpV_tri a b, cmpV_tri b c, cmpV_tri a c, cmpV_anti a b, cmpV_self a, (eqV_iff a a).2 rfl, eq_of_cmp (ok_of h1).1.shp (ok_of h2).1.shp, cmpV_fit a b c (ok_of h1).1.shp (ok_of h2).1.shp (ok_of h3).1.shp⟩)
  generalize cmpV b a = vba at *
  generalize cmpV a a = vaa at *
  generalize eqV a a = eaa at *
  generalize eqV a b = eab at *
  generalize cmpV a b = x at *
  generalize cmpV b c = y at *
  generalize cmpV a c = z at *
  generalize [a, b, c].all okV = vb at *
  clear CV hb0 U0 Va Vb Vc
  go_enter Tryd.func5, Tryd.ntmps5
  go_wp2_with fail
  rw [HW.out]
  refine CVh.out.mono ?_
  rintro e w1 ⟨rfl, hb1⟩
  obtain ⟨d, os, rfl⟩ := regr hb1
  clear hb1 HW CVh
  have hcg := cells_regrown W
  have a0 := Xa.c0
  have a1 := Xa.c1
  have a2 := Xa.c2
  have a3 := Xa.c3
  have a4 := Xa.c4
  have al := Xa.lt
  have b0 := Xb.c0
  have b1 := Xb.c1
  have b2 := Xb.c2
  have b3 := Xb.c3
  have b4 := Xb.c4
  have bl := Xb.lt
  have c0 := Xc.c0
  have c1 := Xc.c1
  have c2 := Xc.c2
  have c3 := Xc.c3
  have c4 := Xc.c4
  have cl := Xc.lt
  clear Xa Xb Xc
  cases vb with
  | false =>
    go_wp2_with fail
    refine (CA.out d os).mono ?_
    rintro e w2 ⟨rfl, p, rfl⟩
    go_wp2
    go_ret
    exact ⟨rfl, below_gr B0.out _ _⟩
  | true =>
    obtain ⟨tx, ty, tz, rfl, rfl, rfl, rfl, hf⟩ := HFT.out (HOK.out rfl)
    have HF := hid hf
    clear hf HFT HOK
    unfold Tri at tx ty tz
    go_wp2_with fail
    refine wp_region_quiet_in (by kernel_rfl) (by kernel_rfl) ?_
    repeat (first | go_big_quiet_step (first | (go_at_call 19; with_reducible first | exact Cab.out _ _ | exact Cbc.out _ _ | exact Cac.out _ _) | (go_at_call 11; exact CA.out _ _)) | quiet_step (first | (go_at_call 19; with_reducible first | exact Cab.out _ _ | exact Cbc.out _ _ | exact Cac.out _ _) | (go_at_call 11; exact CA.out _ _)))
    refine wpQuiet_nil ?_
    intro _ hw'
    obtain ⟨⟨dq, osq⟩, hw''⟩ := hw'
    subst hw''
    rcases tx with rfl | rfl | rfl <;> rcases ty with rfl | rfl | rfl <;> rcases tz with rfl | rfl | rfl
    all_goals first
      | (exfalso; have h := HF.out; unfold Fit at h; omega)
      | (clear HF
         go_wp2_with (first | (go_at_call 19; (with_reducible first | refine (Cab.out _ _).mono ?_ | refine (Cba.out _ _).mono ?_ | refine (Caa.out _ _).mono ?_ | refine (Cac.out _ _).mono ?_); rintro e w9 ⟨rfl, ⟨d9, os9⟩, rfl⟩) | (go_at_call 17; (with_reducible first | refine (Eab.out _ _).mono ?_ | refine (Eaa.out _ _).mono ?_); rintro e w9 ⟨rfl, ⟨d9, os9⟩, rfl⟩) | (go_at_call 11; refine (CA.out _ _).mono ?_; rintro e w9 ⟨rfl, ⟨d9, os9⟩, rfl⟩))
         go_ret
         exact ⟨rfl, below_gr B0.out _ _⟩)

set_option maxRecDepth 100000 in
theorem order_from (H : Type) (enc : TypeId × Value → H) (W : World) (base : Nat) (v0 v1 v2 : Value) (d0 d1 d2 : DataW H) (p0 p1 p2 : List MemPlace) (o0 : Value.okWide Tryd.prog W .any base 26 v0) (o1 : Value.okWide Tryd.prog W .any base 26 v1) (o2 : Value.okWide Tryd.prog W .any base 26 v2)
    (h0 : DataW.Trod enc Tryd.prog W 0 (fun _ => true) true 26 v0 d0 p0) (h1 : DataW.Trod enc Tryd.prog W 0 (fun _ => true) true 26 v1 d1 p1) (h2 : DataW.Trod enc Tryd.prog W 0 (fun _ => true) true 26 v2 d2 p2) (q0 : Wt Tryd.prog 26 d0) (q1 : Wt Tryd.prog 26 d1) (q2 : Wt Tryd.prog 26 d2) (hu : UT W) :
    Calls Tryd.prog 5 #[v0, v1, v2] W fun e W' => e = .returned (.bool true) ∧ Below W.heap.size W W' := by
  obtain ⟨a, ra, ca, ka, za, rfl, ha⟩ := value_arg o0 h0 q0
  obtain ⟨b, rb, cb, kb, zb, rfl, hb⟩ := value_arg o1 h1 q1
  obtain ⟨c, rc, cc, kc, zc, rfl, hc⟩ := value_arg o2 h2 q2
  exact order_law a b c _ _ _ _ _ _ _ _ _ _ _ _ W ha hb hc hu
end Go.Proofs.YtedpdpcibkceeaaDoor
