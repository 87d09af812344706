import Derived.Test.YtedpdpcibkceeaaDoorLvo
/-
  The walk of the statement ValueRefines. Conditions: the values can be read; the two tables lie in the world.
-/
namespace Go.Proofs.YtedpdpcibkceeaaDoor
open Go.RowKit Go.Sort Go.Lib
open Go.Lib (hid)
set_option linter.unusedVariables false
set_option linter.unusedSimpArgs false

set_option maxRecDepth 100000 in
set_option maxHeartbeats 4000000 in
theorem refines_law (a : Val) (b : Val) (c : Val) (ra : Option Addr) (ca : Nat) (ka : Option Addr) (qa : Nat) (rb : Option Addr) (cb : Nat) (kb : Option Addr) (qb : Nat) (rc : Option Addr) (cc : Nat) (kc : Option Addr) (qc : Nat) (w : World) (ha : VR5 w ra ca ka qa a) (hb : VR5 w rb cb kb qb b) (hc : VR5 w rc cc kc qc c) (hu : UT w) :
    Calls Tryd.prog 6 #[.agg #[.int .i64 a.kind, .int .i64 a.num, .string a.str, .slice ra a.items.length ca, .slice ka a.keys.length qa], .agg #[.int .i64 b.kind, .int .i64 b.num, .string b.str, .slice rb b.items.length cb, .slice kb b.keys.length qb], .agg #[.int .i64 c.kind, .int .i64 c.num, .string c.str, .slice rc c.items.length cc, .slice kc c.keys.length qc]] w fun e w' => e = .returned (.bool true) ∧ Below w.heap.size w w' := by
  have hb0 : Below w.heap.size w ((((w.alloc (.cells #[.int .i64 a.kind, .int .i64 a.num, .string a.str, .slice ra a.items.length ca, .slice ka a.keys.length qa] 26)).alloc (.cells #[.int .i64 b.kind, .int .i64 b.num, .string b.str, .slice rb b.items.length cb, .slice kb b.keys.length qb] 26)).alloc (.cells #[.int .i64 c.kind, .int .i64 c.num, .string c.str, .slice rc c.items.length cc, .slice kc c.keys.length qc] 26)).alloc (.cells #[.int .i64 a.kind, .int .i64 a.num, .string a.str, .slice ra a.items.length ca, .slice ka a.keys.length qa, .int .i64 b.kind, .int .i64 b.num, .string b.str, .slice rb b.items.length cb, .slice kb b.keys.length qb, .int .i64 c.kind, .int .i64 c.num, .string c.str, .slice rc c.items.length cc, .slice kc c.keys.length qc] 26)) := ((((Below.refl _ _).alloc (Nat.le_refl _) _).alloc (by simp; try omega) _).alloc (by simp; try omega) _).alloc (by simp; try omega) _
  have Xa : Box5 ((((w.alloc (.cells #[.int .i64 a.kind, .int .i64 a.num, .string a.str, .slice ra a.items.length ca, .slice ka a.keys.length qa] 26)).alloc (.cells #[.int .i64 b.kind, .int .i64 b.num, .string b.str, .slice rb b.items.length cb, .slice kb b.keys.length qb] 26)).alloc (.cells #[.int .i64 c.kind, .int .i64 c.num, .string c.str, .slice rc c.items.length cc, .slice kc c.keys.length qc] 26)).alloc (.cells #[.int .i64 a.kind, .int .i64 a.num, .string a.str, .slice ra a.items.length ca, .slice ka a.keys.length qa, .int .i64 b.kind, .int .i64 b.num, .string b.str, .slice rb b.items.length cb, .slice kb b.keys.length qb, .int .i64 c.kind, .int .i64 c.num, .string c.str, .slice rc c.items.length cc, .slice kc c.keys.length qc] 26)) (w.heap.size) a.kind a.num a.str (.slice ra a.items.length ca) (.slice ka a.keys.length qa) := ((((Box5.at (b := w.heap.size) w a.kind a.num a.str (.slice ra a.items.length ca) (.slice ka a.keys.length qa) 26 (by simp)).below ((Below.refl _ _).alloc (Nat.le_refl _) _)).below ((Below.refl _ _).alloc (Nat.le_refl _) _)).below ((Below.refl _ _).alloc (Nat.le_refl _) _))
  have Xb : Box5 ((((w.alloc (.cells #[.int .i64 a.kind, .int .i64 a.num, .string a.str, .slice ra a.items.length ca, .slice ka a.keys.length qa] 26)).alloc (.cells #[.int .i64 b.kind, .int .i64 b.num, .string b.str, .slice rb b.items.length cb, .slice kb b.keys.length qb] 26)).alloc (.cells #[.int .i64 c.kind, .int .i64 c.num, .string c.str, .slice rc c.items.length cc, .slice kc c.keys.length qc] 26)).alloc (.cells #[.int .i64 a.kind, .int .i64 a.num, .string a.str, .slice ra a.items.length ca, .slice ka a.keys.length qa, .int .i64 b.kind, .int .i64 b.num, .string b.str, .slice rb b.items.length cb, .slice kb b.keys.length qb, .int .i64 c.kind, .int .i64 c.num, .string c.str, .slice rc c.items.length cc, .slice kc c.keys.length qc] 26)) (w.heap.size + 1) b.kind b.num b.str (.slice rb b.items.length cb) (.slice kb b.keys.length qb) := (((Box5.at (b := w.heap.size + 1) (w.alloc (.cells #[.int .i64 a.kind, .int .i64 a.num, .string a.str, .slice ra a.items.length ca, .slice ka a.keys.length qa] 26)) b.kind b.num b.str (.slice rb b.items.length cb) (.slice kb b.keys.length qb) 26 (by simp)).below ((Below.refl _ _).alloc (Nat.le_refl _) _)).below ((Below.refl _ _).alloc (Nat.le_refl _) _))
  have Xc : Box5 ((((w.alloc (.cells #[.int .i64 a.kind, .int .i64 a.num, .string a.str, .slice ra a.items.length ca, .slice ka a.keys.length qa] 26)).alloc (.cells #[.int .i64 b.kind, .int .i64 b.num, .string b.str, .slice rb b.items.length cb, .slice kb b.keys.length qb] 26)).alloc (.cells #[.int .i64 c.kind, .int .i64 c.num, .string c.str, .slice rc c.items.length cc, .slice kc c.keys.length qc] 26)).alloc (.cells #[.int .i64 a.kind, .int .i64 a.num, .string a.str, .slice ra a.items.length ca, .slice ka a.keys.length qa, .int .i64 b.kind, .int .i64 b.num, .string b.str, .slice rb b.items.length cb, .slice kb b.keys.length qb, .int .i64 c.kind, .int .i64 c.num, .string c.str, .slice rc c.items.length cc, .slice kc c.keys.length qc] 26)) (w.heap.size + 1 + 1) c.kind c.num c.str (.slice rc c.items.length cc) (.slice kc c.keys.length qc) := ((Box5.at (b := w.heap.size + 1 + 1) ((w.alloc (.cells #[.int .i64 a.kind, .int .i64 a.num, .string a.str, .slice ra a.items.length ca, .slice ka a.keys.length qa] 26)).alloc (.cells #[.int .i64 b.kind, .int .i64 b.num, .string b.str, .slice rb b.items.length cb, .slice kb b.keys.length qb] 26)) c.kind c.num c.str (.slice rc c.items.length cc) (.slice kc c.keys.length qc) 26 (by simp)).below ((Below.refl _ _).alloc (Nat.le_refl _) _))
  have Va := ha.below hb0
  have Vb := hb.below hb0
  have Vc := hc.below hb0
  have U0 := hu.below hb0
  have hl : (((w.alloc (.cells #[.int .i64 a.kind, .int .i64 a.num, .string a.str, .slice ra a.items.length ca, .slice ka a.keys.length qa] 26)).alloc (.cells #[.int .i64 b.kind, .int .i64 b.num, .string b.str, .slice rb b.items.length cb, .slice kb b.keys.length qb] 26)).alloc (.cells #[.int .i64 c.kind, .int .i64 c.num, .string c.str, .slice rc c.items.length cc, .slice kc c.keys.length qc] 26)).heap.size = w.heap.size + 1 + 1 + 1 := by simp
  have hH : ((((w.alloc (.cells #[.int .i64 a.kind, .int .i64 a.num, .string a.str, .slice ra a.items.length ca, .slice ka a.keys.length qa] 26)).alloc (.cells #[.int .i64 b.kind, .int .i64 b.num, .string b.str, .slice rb b.items.length cb, .slice kb b.keys.length qb] 26)).alloc (.cells #[.int .i64 c.kind, .int .i64 c.num, .string c.str, .slice rc c.items.length cc, .slice kc c.keys.length qc] 26)).alloc (.cells #[.int .i64 a.kind, .int .i64 a.num, .string a.str, .slice ra a.items.length ca, .slice ka a.keys.length qa, .int .i64 b.kind, .int .i64 b.num, .string b.str, .slice rb b.items.length cb, .slice kb b.keys.length qb, .int .i64 c.kind, .int .i64 c.num, .string c.str, .slice rc c.items.length cc, .slice kc c.keys.length qc] 26)).heap[w.heap.size + 1 + 1 + 1]? = some (.cells #[.int .i64 a.kind, .int .i64 a.num, .string a.str, .slice ra a.items.length ca, .slice ka a.keys.length qa, .int .i64 b.kind, .int .i64 b.num, .string b.str, .slice rb b.items.length cb, .slice kb b.keys.length qb, .int .i64 c.kind, .int .i64 c.num, .string c.str, .slice rc c.items.length cc, .slice kc c.keys.length qc] 26 (0, 0)) := by rw [← hl]; exact heap_alloc_new _ _
  have hI : Sl VR 5 ((((w.alloc (.cells #[.int .i64 a.kind, .int .i64 a.num, .string a.str, .slice ra a.items.length ca, .slice ka a.keys.length qa] 26)).alloc (.cells #[.int .i64 b.kind, .int .i64 b.num, .string b.str, .slice rb b.items.length cb, .slice kb b.keys.length qb] 26)).alloc (.cells #[.int .i64 c.kind, .int .i64 c.num, .string c.str, .slice rc c.items.length cc, .slice kc c.keys.length qc] 26)).alloc (.cells #[.int .i64 a.kind, .int .i64 a.num, .string a.str, .slice ra a.items.length ca, .slice ka a.keys.length qa, .int .i64 b.kind, .int .i64 b.num, .string b.str, .slice rb b.items.length cb, .slice kb b.keys.length qb, .int .i64 c.kind, .int .i64 c.num, .string c.str, .slice rc c.items.length cc, .slice kc c.keys.length qc] 26)) (.slice (some ⟨w.heap.size + 1 + 1 + 1, 0, none⟩) 3 3) [a, b, c] := sl_block Cv.enc cv_len (R := VR) (xs := [a, b, c]) (ys := [Cv.of a ra ca ka qa, Cv.of b rb cb kb qb, Cv.of c rc cc kc qc]) hH rfl rfl (by simp [maxLen]) (fun i hi hi' => by
    match i, hi with
    | 0, _ => exact Va
    | 1, _ => exact Vb
    | 2, _ => exact Vc)
  have CV : Calls Tryd.prog 14 #[.slice (some ⟨w.heap.size + 1 + 1 + 1, 0, none⟩) 3 3] ((((w.alloc (.cells #[.int .i64 a.kind, .int .i64 a.num, .string a.str, .slice ra a.items.length ca, .slice ka a.keys.length qa] 26)).alloc (.cells #[.int .i64 b.kind, .int .i64 b.num, .string b.str, .slice rb b.items.length cb, .slice kb b.keys.length qb] 26)).alloc (.cells #[.int .i64 c.kind, .int .i64 c.num, .string c.str, .slice rc c.items.length cc, .slice kc c.keys.length qc] 26)).alloc (.cells #[.int .i64 a.kind, .int .i64 a.num, .string a.str, .slice ra a.items.length ca, .slice ka a.keys.length qa, .int .i64 b.kind, .int .i64 b.num, .string b.str, .slice rb b.items.length cb, .slice kb b.keys.length qb, .int .i64 c.kind, .int .i64 c.num, .string c.str, .slice rc c.items.length cc, .slice kc c.keys.length qc] 26)) (fun e w' => e = .returned (.bool ([a, b, c].all okV)) ∧ Below ((((w.alloc (.cells #[.int .i64 a.kind, .int .i64 a.num, .string a.str, .slice ra a.items.length ca, .slice ka a.keys.length qa] 26)).alloc (.cells #[.int .i64 b.kind, .int .i64 b.num, .string b.str, .slice rb b.items.length cb, .slice kb b.keys.length qb] 26)).alloc (.cells #[.int .i64 c.kind, .int .i64 c.num, .string c.str, .slice rc c.items.length cc, .slice kc c.keys.length qc] 26)).alloc (.cells #[.int .i64 a.kind, .int .i64 a.num, .string a.str, .slice ra a.items.length ca, .slice ka a.keys.length qa, .int .i64 b.kind, .int .i64 b.num, .string b.str, .slice rb b.items.length cb, .slice kb b.keys.length qb, .int .i64 c.kind, .int .i64 c.num, .string c.str, .slice rc c.items.length cc, .slice kc c.keys.length qc] 26)).heap.size ((((w.alloc (.cells #[.int .i64 a.kind, .int .i64 a.num, .string a.str, .slice ra a.items.length ca, .slice ka a.keys.length qa] 26)).alloc (.cells #[.int .i64 b.kind, .int .i64 b.num, .string b.str, .slice rb b.items.length cb, .slice kb b.keys.length qb] 26)).alloc (.cells #[.int .i64 c.kind, .int .i64 c.num, .string c.str, .slice rc c.items.length cc, .slice kc c.keys.length qc] 26)).alloc (.cells #[.int .i64 a.kind, .int .i64 a.num, .string a.str, .slice ra a.items.length ca, .slice ka a.keys.length qa, .int .i64 b.kind, .int .i64 b.num, .string b.str, .slice rb b.items.length cb, .slice kb b.keys.length qb, .int .i64 c.kind, .int .i64 c.num, .string c.str, .slice rc c.items.length cc, .slice kc c.keys.length qc] 26)) w') := valid_any [a, b, c] _ 3 _ hI
  have HOK := hid (show ([a, b, c].all okV) = true → okV a = true ∧ okV b = true ∧ okV c = true from fun h => by simpa using h)
  clear hI hH hl ha hb hc hu
  generalize hW : ((((w.alloc (.cells #[.int .i64 a.kind, .int .i64 a.num, .string a.str, .slice ra a.items.length ca, .slice ka a.keys.length qa] 26)).alloc (.cells #[.int .i64 b.kind, .int .i64 b.num, .string b.str, .slice rb b.items.length cb, .slice kb b.keys.length qb] 26)).alloc (.cells #[.int .i64 c.kind, .int .i64 c.num, .string c.str, .slice rc c.items.length cc, .slice kc c.keys.length qc] 26)).alloc (.cells #[.int .i64 a.kind, .int .i64 a.num, .string a.str, .slice ra a.items.length ca, .slice ka a.keys.length qa, .int .i64 b.kind, .int .i64 b.num, .string b.str, .slice rb b.items.length cb, .slice kb b.keys.length qb, .int .i64 c.kind, .int .i64 c.num, .string c.str, .slice rc c.items.length cc, .slice kc c.keys.length qc] 26)) = W at *
  have HW := hid hW
  clear hW
  have CVh := hid CV
  have B0 := hid hb0
  have CA := hid (fun d os => Calls.regrown_of (awake_any (grow (redrawn W d) os) (U0.below (below_regrown W d os))))
  have Rab := hid (fun d os => (show Calls Tryd.prog 23 #[.agg #[.int .i64 a.kind, .int .i64 a.num, .string a.str, .slice ra a.items.length ca, .slice ka a.keys.length qa], .agg #[.int .i64 b.kind, .int .i64 b.num, .string b.str, .slice rb b.items.length cb, .slice kb b.keys.length qb]] (grow (redrawn W d) os) (fun e w'' => e = .returned (.bool (rfnV a b)) ∧ ∃ p : Regrown, w'' = grow (redrawn W p.d) p.os) from Calls.regrown_of (prefines_any a b ra ca ka qa rb cb kb qb _ (Va.below (below_regrown W d os)) (Vb.below (below_regrown W d os)))))
  have Rbc := hid (fun d os => (show Calls Tryd.prog 23 #[.agg #[.int .i64 b.kind, .int .i64 b.num, .string b.str, .slice rb b.items.length cb, .slice kb b.keys.length qb], .agg #[.int .i64 c.kind, .int .i64 c.num, .string c.str, .slice rc c.items.length cc, .slice kc c.keys.length qc]] (grow (redrawn W d) os) (fun e w'' => e = .returned (.bool (rfnV b c)) ∧ ∃ p : Regrown, w'' = grow (redrawn W p.d) p.os) from Calls.regrown_of (prefines_any b c rb cb kb qb rc cc kc qc _ (Vb.below (below_regrown W d os)) (Vc.below (below_regrown W d os)))))
  have Raa := hid (fun d os => (show Calls Tryd.prog 23 #[.agg #[.int .i64 a.kind, .int .i64 a.num, .string a.str, .slice ra a.items.length ca, .slice ka a.keys.length qa], .agg #[.int .i64 a.kind, .int .i64 a.num, .string a.str, .slice ra a.items.length ca, .slice ka a.keys.length qa]] (grow (redrawn W d) os) (fun e w'' => e = .returned (.bool (rfnV a a)) ∧ ∃ p : Regrown, w'' = grow (redrawn W p.d) p.os) from Calls.regrown_of (prefines_any a a ra ca ka qa ra ca ka qa _ (Va.below (below_regrown W d os)) (Va.below (below_regrown W d os)))))
  have Rac := hid (fun d os => (show Calls Tryd.prog 23 #[.agg #[.int .i64 a.kind, .int .i64 a.num, .string a.str, .slice ra a.items.length ca, .slice ka a.keys.length qa], .agg #[.int .i64 c.kind, .int .i64 c.num, .string c.str, .slice rc c.items.length cc, .slice kc c.keys.length qc]] (grow (redrawn W d) os) (fun e w'' => e = .returned (.bool (rfnV a c)) ∧ ∃ p : Regrown, w'' = grow (redrawn W p.d) p.os) from Calls.regrown_of (prefines_any a c ra ca ka qa rc cc kc qc _ (Va.below (below_regrown W d os)) (Vc.below (below_regrown W d os)))))
  have Rba := hid (fun d os => (show Calls Tryd.prog 23 #[.agg #[.int .i64 b.kind, .int .i64 b.num, .string b.str, .slice rb b.items.length cb, .slice kb b.keys.length qb], .agg #[.int .i64 a.kind, .int .i64 a.num, .string a.str, .slice ra a.items.length ca, .slice ka a.keys.length qa]] (grow (redrawn W d) os) (fun e w'' => e = .returned (.bool (rfnV b a)) ∧ ∃ p : Regrown, w'' = grow (redrawn W p.d) p.os) from Calls.regrown_of (prefines_any b a rb cb kb qb ra ca ka qa _ (Vb.below (below_regrown W d os)) (Va.below (below_regrown W d os)))))
  have Un := hid (fun d os => (show Calls Tryd.prog 27 #[] (grow (redrawn W d) os) (fun e w'' => e = .returned (.agg #[.int .i64 6, .int .i64 0, .string ⟨#[]⟩, .slice none 0 0, .slice none 0 0]) ∧ ∃ p : Regrown, w'' = grow (redrawn W p.d) p.os) from Calls.regrown_of (mpunknown_any _)))
  have Rau := hid (fun d os => (show Calls Tryd.prog 23 #[.agg #[.int .i64 a.kind, .int .i64 a.num, .string a.str, .slice ra a.items.length ca, .slice ka a.keys.length qa], .agg #[.int .i64 6, .int .i64 0, .string ⟨#[]⟩, .slice none 0 0, .slice none 0 0]] (grow (redrawn W d) os) (fun e w'' => e = .returned (.bool (rfnV a (litV 6 0 ⟨#[]⟩))) ∧ ∃ p : Regrown, w'' = grow (redrawn W p.d) p.os) from Calls.regrown_of (prefines_any a (litV 6 0 ⟨#[]⟩) ra ca ka qa none 0 none 0 (grow (redrawn W d) os) (Va.below (below_regrown W d os)) (litV_vr (k := 6) (n := 0) (s := ⟨#[]⟩) _ (by unfold i64B; omega) (by unfold i64B; omega) (Nat.zero_le _)))))
  have Eab := hid (fun d os => (show Calls Tryd.prog 17 #[.agg #[.int .i64 a.kind, .int .i64 a.num, .string a.str, .slice ra a.items.length ca, .slice ka a.keys.length qa], .agg #[.int .i64 b.kind, .int .i64 b.num, .string b.str, .slice rb b.items.length cb, .slice kb b.keys.length qb]] (grow (redrawn W d) os) (fun e w'' => e = .returned (.bool (eqV a b)) ∧ ∃ p : Regrown, w'' = grow (redrawn W p.d) p.os) from Calls.regrown_of (peq_any a b ra ca ka qa rb cb kb qb _ (Va.below (below_regrown W d os)) (Vb.below (below_regrown W d os)))))
  have Kb := hid (fun d os => (show Calls Tryd.prog 21 #[.agg #[.int .i64 b.kind, .int .i64 b.num, .string b.str, .slice rb b.items.length cb, .slice kb b.keys.length qb]] (grow (redrawn W d) os) (fun e w'' => e = .returned (.bool (knownV b)) ∧ ∃ p : Regrown, w'' = grow (redrawn W p.d) p.os) from Calls.regrown_of (pknown_any b rb cb kb qb _ (Vb.below (below_regrown W d os)))))
  have NA := hid (fun (h : nodes a ≤ 1000000) => fun d os => (show Calls Tryd.prog 25 #[.agg #[.int .i64 a.kind, .int .i64 a.num, .string a.str, .slice ra a.items.length ca, .slice ka a.keys.length qa]] (grow (redrawn W d) os) (fun e w'' => e = .returned (.int .i64 (nodes a)) ∧ ∃ p : Regrown, w'' = grow (redrawn W p.d) p.os) from Calls.regrown_of (pnodes_any a ra ca ka qa _ (Va.below (below_regrown W d os)) h)))
  have NB := hid (fun (h : nodes b ≤ 1000000) => fun d os => (show Calls Tryd.prog 25 #[.agg #[.int .i64 b.kind, .int .i64 b.num, .string b.str, .slice rb b.items.length cb, .slice kb b.keys.length qb]] (grow (redrawn W d) os) (fun e w'' => e = .returned (.int .i64 (nodes b)) ∧ ∃ p : Regrown, w'' = grow (redrawn W p.d) p.os) from Calls.regrown_of (pnodes_any b rb cb kb qb _ (Vb.below (below_regrown W d os)) h)))
  have HFT := hid (show okV a = true ∧ okV b = true ∧ okV c = true → rfnV a a = true ∧ rfnV a (litV 6 0 ⟨#[]⟩) = true ∧ (rfnV a b = true → rfnV b c = true → rfnV a c = true) ∧ (rfnV a b = true → rfnV b a = true → eqV a b = true) ∧ (rfnV a b = true → knownV b = true → eqV a b = true) ∧ (rfnV a b = true → nodes b ≤ nodes a) ∧ nodes a ≤ 400 ∧ nodes b ≤ 400 from fun ⟨h1, h2, h3⟩ => ⟨rfn_refl a, rfn_unknown a _ rfl, rfn_trans a b c, fun e1 e2 => (eqV_iff a b).2 (rfn_anti a b (ok_of h1).1.unk (ok_of h2).1.unk e1 e2), fun e1 e2 => (eqV_iff a b).2 (rfn_known a b e2 e1), rfn_nodes a b (ok_of h2).1.unk, (ok_of h1).2.1, (ok_of h2).2.1⟩)
  generalize rfnV a a = raa at *
  generalize rfnV a (litV 6 0 ⟨#[]⟩) = rau at *
  generalize rfnV a b = ab at *
  generalize rfnV b c = bc at *
  generalize rfnV a c = ac at *
  generalize rfnV b a = ba at *
  generalize eqV a b = ea at *
  generalize knownV b = kb2 at *
  generalize nodes a = na at *
  generalize nodes b = nb at *
  generalize [a, b, c].all okV = vb at *
  clear CV hb0 U0 Va Vb Vc
  go_enter Tryd.func6, Tryd.ntmps6
  go_wp2_with fail
  rw [HW.out]
  refine CVh.out.mono ?_
  rintro e w1 ⟨rfl, hb1⟩
  obtain ⟨d, os, rfl⟩ := regr hb1
  clear hb1 HW CVh
  have hcg := cells_regrown W
  have a0 := Xa.c0
  have a1 := Xa.c1
  have a2 := Xa.c2
  have a3 := Xa.c3
  have a4 := Xa.c4
  have al := Xa.lt
  have b0 := Xb.c0
  have b1 := Xb.c1
  have b2 := Xb.c2
  have b3 := Xb.c3
  have b4 := Xb.c4
  have bl := Xb.lt
  have c0 := Xc.c0
  have c1 := Xc.c1
  have c2 := Xc.c2
  have c3 := Xc.c3
  have c4 := Xc.c4
  have cl := Xc.lt
  clear Xa Xb Xc
  cases vb with
  | false =>
    go_wp2_with fail
    refine (CA.out d os).mono ?_
    rintro e w2 ⟨rfl, p, rfl⟩
    go_wp2
    go_ret
    exact ⟨rfl, below_gr B0.out _ _⟩
  | true =>
    obtain ⟨rfl, rfl, h1, h2, h3, h4, h5, h6⟩ := HFT.out (HOK.out rfl)
    have NA2 := hid (NA.out (by omega))
    have NB2 := hid (NB.out (by omega))
    have H1 := hid h1
    have H2 := hid h2
    have H3 := hid h3
    have H4 := hid h4
    clear h1 h2 h3 h4 HFT HOK NA NB
    go_wp2_with fail
    refine wp_region_quiet_in (by kernel_rfl) (by kernel_rfl) ?_
    repeat (first | go_big_quiet_step (first | (go_at_call 23; with_reducible first | exact Rab.out _ _ | exact Rbc.out _ _ | exact Raa.out _ _ | exact Rac.out _ _ | exact Rau.out _ _ | exact Rba.out _ _) | (go_at_call 27; exact Un.out _ _) | (go_at_call 21; exact Kb.out _ _) | (go_at_call 17; exact Eab.out _ _) | (go_at_call 25; with_reducible first | exact NA2.out _ _ | exact NB2.out _ _)) | quiet_step (first | (go_at_call 23; with_reducible first | exact Rab.out _ _ | exact Rbc.out _ _ | exact Raa.out _ _ | exact Rac.out _ _ | exact Rau.out _ _ | exact Rba.out _ _) | (go_at_call 27; exact Un.out _ _) | (go_at_call 21; exact Kb.out _ _) | (go_at_call 17; exact Eab.out _ _) | (go_at_call 25; with_reducible first | exact NA2.out _ _ | exact NB2.out _ _)))
    refine wpQuiet_nil ?_
    intro _ hw'
    obtain ⟨⟨dq, osq⟩, hw''⟩ := hw'
    subst hw''
    cases ab with
    | false =>
      have hd : decide ((na : Int) < (nb : Int)) = decide ((na : Int) < (nb : Int)) := rfl
      clear hd
      cases bc
      all_goals
        go_wp2_with fail
        refine wp_region_quiet_in (by kernel_rfl) (by kernel_rfl) ?_
        repeat (first | go_big_quiet_step (first | (go_at_call 23; with_reducible first | exact Rab.out _ _ | exact Rbc.out _ _ | exact Raa.out _ _ | exact Rac.out _ _ | exact Rau.out _ _ | exact Rba.out _ _) | (go_at_call 27; exact Un.out _ _) | (go_at_call 21; exact Kb.out _ _) | (go_at_call 17; exact Eab.out _ _) | (go_at_call 25; with_reducible first | exact NA2.out _ _ | exact NB2.out _ _)) | quiet_step (first | (go_at_call 23; with_reducible first | exact Rab.out _ _ | exact Rbc.out _ _ | exact Raa.out _ _ | exact Rac.out _ _ | exact Rau.out _ _ | exact Rba.out _ _) | (go_at_call 27; exact Un.out _ _) | (go_at_call 21; exact Kb.out _ _) | (go_at_call 17; exact Eab.out _ _) | (go_at_call 25; with_reducible first | exact NA2.out _ _ | exact NB2.out _ _)))
        refine wpQuiet_nil ?_
        intro _ hw'
        obtain ⟨⟨dq, osq⟩, hw''⟩ := hw'
        subst hw''
        go_wp2_with (first | (go_at_call 23; (with_reducible refine (Rba.out _ _).mono ?_); rintro e w9 ⟨rfl, ⟨d9, os9⟩, rfl⟩) | (go_at_call 17; (with_reducible refine (Eab.out _ _).mono ?_); rintro e w9 ⟨rfl, ⟨d9, os9⟩, rfl⟩) | (go_at_call 11; refine (CA.out _ _).mono ?_; rintro e w9 ⟨rfl, ⟨d9, os9⟩, rfl⟩))
        refine wp_region_quiet_in (by kernel_rfl) (by kernel_rfl) ?_
        repeat (first | go_big_quiet_step (first | (go_at_call 23; with_reducible first | exact Rab.out _ _ | exact Rbc.out _ _ | exact Raa.out _ _ | exact Rac.out _ _ | exact Rau.out _ _ | exact Rba.out _ _) | (go_at_call 27; exact Un.out _ _) | (go_at_call 21; exact Kb.out _ _) | (go_at_call 17; exact Eab.out _ _) | (go_at_call 25; with_reducible first | exact NA2.out _ _ | exact NB2.out _ _)) | quiet_step (first | (go_at_call 23; with_reducible first | exact Rab.out _ _ | exact Rbc.out _ _ | exact Raa.out _ _ | exact Rac.out _ _ | exact Rau.out _ _ | exact Rba.out _ _) | (go_at_call 27; exact Un.out _ _) | (go_at_call 21; exact Kb.out _ _) | (go_at_call 17; exact Eab.out _ _) | (go_at_call 25; with_reducible first | exact NA2.out _ _ | exact NB2.out _ _)))
        refine wpQuiet_nil ?_
        intro _ hw'
        obtain ⟨⟨dq, osq⟩, hw''⟩ := hw'
        subst hw''
        go_wp2_with (first | (go_at_call 23; (with_reducible refine (Rba.out _ _).mono ?_); rintro e w9 ⟨rfl, ⟨d9, os9⟩, rfl⟩) | (go_at_call 17; (with_reducible refine (Eab.out _ _).mono ?_); rintro e w9 ⟨rfl, ⟨d9, os9⟩, rfl⟩) | (go_at_call 11; refine (CA.out _ _).mono ?_; rintro e w9 ⟨rfl, ⟨d9, os9⟩, rfl⟩))
        go_ret
        exact ⟨rfl, below_gr B0.out _ _⟩
    | true =>
      have h4 := H4.out rfl
      have h4i : ¬ ((na : Int) < (nb : Int)) := by omega
      have hd : decide ((na : Int) < (nb : Int)) = false := by simp; omega
      cases bc with
      | true =>
        obtain rfl := (H1.out rfl rfl)
        cases ba with
        | true =>
          obtain rfl := (H2.out rfl rfl)
          cases kb2
          all_goals
            go_wp2_with fail
            refine wp_region_quiet_in (by kernel_rfl) (by kernel_rfl) ?_
            repeat (first | go_big_quiet_step (first | (go_at_call 23; with_reducible first | exact Rab.out _ _ | exact Rbc.out _ _ | exact Raa.out _ _ | exact Rac.out _ _ | exact Rau.out _ _ | exact Rba.out _ _) | (go_at_call 27; exact Un.out _ _) | (go_at_call 21; exact Kb.out _ _) | (go_at_call 17; exact Eab.out _ _) | (go_at_call 25; with_reducible first | exact NA2.out _ _ | exact NB2.out _ _)) | quiet_step (first | (go_at_call 23; with_reducible first | exact Rab.out _ _ | exact Rbc.out _ _ | exact Raa.out _ _ | exact Rac.out _ _ | exact Rau.out _ _ | exact Rba.out _ _) | (go_at_call 27; exact Un.out _ _) | (go_at_call 21; exact Kb.out _ _) | (go_at_call 17; exact Eab.out _ _) | (go_at_call 25; with_reducible first | exact NA2.out _ _ | exact NB2.out _ _)))
            refine wpQuiet_nil ?_
            intro _ hw'
            obtain ⟨⟨dq, osq⟩, hw''⟩ := hw'
            subst hw''
            go_wp2_with (first | (go_at_call 23; (with_reducible refine (Rba.out _ _).mono ?_); rintro e w9 ⟨rfl, ⟨d9, os9⟩, rfl⟩) | (go_at_call 17; (with_reducible refine (Eab.out _ _).mono ?_); rintro e w9 ⟨rfl, ⟨d9, os9⟩, rfl⟩) | (go_at_call 11; refine (CA.out _ _).mono ?_; rintro e w9 ⟨rfl, ⟨d9, os9⟩, rfl⟩))
            refine wp_region_quiet_in (by kernel_rfl) (by kernel_rfl) ?_
            repeat (first | go_big_quiet_step (first | (go_at_call 23; with_reducible first | exact Rab.out _ _ | exact Rbc.out _ _ | exact Raa.out _ _ | exact Rac.out _ _ | exact Rau.out _ _ | exact Rba.out _ _) | (go_at_call 27; exact Un.out _ _) | (go_at_call 21; exact Kb.out _ _) | (go_at_call 17; exact Eab.out _ _) | (go_at_call 25; with_reducible first | exact NA2.out _ _ | exact NB2.out _ _)) | quiet_step (first | (go_at_call 23; with_reducible first | exact Rab.out _ _ | exact Rbc.out _ _ | exact Raa.out _ _ | exact Rac.out _ _ | exact Rau.out _ _ | exact Rba.out _ _) | (go_at_call 27; exact Un.out _ _) | (go_at_call 21; exact Kb.out _ _) | (go_at_call 17; exact Eab.out _ _) | (go_at_call 25; with_reducible first | exact NA2.out _ _ | exact NB2.out _ _)))
            refine wpQuiet_nil ?_
            intro _ hw'
            obtain ⟨⟨dq, osq⟩, hw''⟩ := hw'
            subst hw''
            go_wp2_with (first | (go_at_call 23; (with_reducible refine (Rba.out _ _).mono ?_); rintro e w9 ⟨rfl, ⟨d9, os9⟩, rfl⟩) | (go_at_call 17; (with_reducible refine (Eab.out _ _).mono ?_); rintro e w9 ⟨rfl, ⟨d9, os9⟩, rfl⟩) | (go_at_call 11; refine (CA.out _ _).mono ?_; rintro e w9 ⟨rfl, ⟨d9, os9⟩, rfl⟩))
            go_ret
            exact ⟨rfl, below_gr B0.out _ _⟩
        | false =>
          cases kb2 with
          | true =>
            obtain rfl := (H3.out rfl rfl)
            go_wp2_with fail
            refine wp_region_quiet_in (by kernel_rfl) (by kernel_rfl) ?_
            repeat (first | go_big_quiet_step (first | (go_at_call 23; with_reducible first | exact Rab.out _ _ | exact Rbc.out _ _ | exact Raa.out _ _ | exact Rac.out _ _ | exact Rau.out _ _ | exact Rba.out _ _) | (go_at_call 27; exact Un.out _ _) | (go_at_call 21; exact Kb.out _ _) | (go_at_call 17; exact Eab.out _ _) | (go_at_call 25; with_reducible first | exact NA2.out _ _ | exact NB2.out _ _)) | quiet_step (first | (go_at_call 23; with_reducible first | exact Rab.out _ _ | exact Rbc.out _ _ | exact Raa.out _ _ | exact Rac.out _ _ | exact Rau.out _ _ | exact Rba.out _ _) | (go_at_call 27; exact Un.out _ _) | (go_at_call 21; exact Kb.out _ _) | (go_at_call 17; exact Eab.out _ _) | (go_at_call 25; with_reducible first | exact NA2.out _ _ | exact NB2.out _ _)))
            refine wpQuiet_nil ?_
            intro _ hw'
            obtain ⟨⟨dq, osq⟩, hw''⟩ := hw'
            subst hw''
            go_wp2_with (first | (go_at_call 23; (with_reducible refine (Rba.out _ _).mono ?_); rintro e w9 ⟨rfl, ⟨d9, os9⟩, rfl⟩) | (go_at_call 17; (with_reducible refine (Eab.out _ _).mono ?_); rintro e w9 ⟨rfl, ⟨d9, os9⟩, rfl⟩) | (go_at_call 11; refine (CA.out _ _).mono ?_; rintro e w9 ⟨rfl, ⟨d9, os9⟩, rfl⟩))
            refine wp_region_quiet_in (by kernel_rfl) (by kernel_rfl) ?_
            repeat (first | go_big_quiet_step (first | (go_at_call 23; with_reducible first | exact Rab.out _ _ | exact Rbc.out _ _ | exact Raa.out _ _ | exact Rac.out _ _ | exact Rau.out _ _ | exact Rba.out _ _) | (go_at_call 27; exact Un.out _ _) | (go_at_call 21; exact Kb.out _ _) | (go_at_call 17; exact Eab.out _ _) | (go_at_call 25; with_reducible first | exact NA2.out _ _ | exact NB2.out _ _)) | quiet_step (first | (go_at_call 23; with_reducible first | exact Rab.out _ _ | exact Rbc.out _ _ | exact Raa.out _ _ | exact Rac.out _ _ | exact Rau.out _ _ | exact Rba.out _ _) | (go_at_call 27; exact Un.out _ _) | (go_at_call 21; exact Kb.out _ _) | (go_at_call 17; exact Eab.out _ _) | (go_at_call 25; with_reducible first | exact NA2.out _ _ | exact NB2.out _ _)))
            refine wpQuiet_nil ?_
            intro _ hw'
            obtain ⟨⟨dq, osq⟩, hw''⟩ := hw'
            subst hw''
            go_wp2_with (first | (go_at_call 23; (with_reducible refine (Rba.out _ _).mono ?_); rintro e w9 ⟨rfl, ⟨d9, os9⟩, rfl⟩) | (go_at_call 17; (with_reducible refine (Eab.out _ _).mono ?_); rintro e w9 ⟨rfl, ⟨d9, os9⟩, rfl⟩) | (go_at_call 11; refine (CA.out _ _).mono ?_; rintro e w9 ⟨rfl, ⟨d9, os9⟩, rfl⟩))
            go_ret
            exact ⟨rfl, below_gr B0.out _ _⟩
          | false =>
            go_wp2_with fail
            refine wp_region_quiet_in (by kernel_rfl) (by kernel_rfl) ?_
            repeat (first | go_big_quiet_step (first | (go_at_call 23; with_reducible first | exact Rab.out _ _ | exact Rbc.out _ _ | exact Raa.out _ _ | exact Rac.out _ _ | exact Rau.out _ _ | exact Rba.out _ _) | (go_at_call 27; exact Un.out _ _) | (go_at_call 21; exact Kb.out _ _) | (go_at_call 17; exact Eab.out _ _) | (go_at_call 25; with_reducible first | exact NA2.out _ _ | exact NB2.out _ _)) | quiet_step (first | (go_at_call 23; with_reducible first | exact Rab.out _ _ | exact Rbc.out _ _ | exact Raa.out _ _ | exact Rac.out _ _ | exact Rau.out _ _ | exact Rba.out _ _) | (go_at_call 27; exact Un.out _ _) | (go_at_call 21; exact Kb.out _ _) | (go_at_call 17; exact Eab.out _ _) | (go_at_call 25; with_reducible first | exact NA2.out _ _ | exact NB2.out _ _)))
            refine wpQuiet_nil ?_
            intro _ hw'
            obtain ⟨⟨dq, osq⟩, hw''⟩ := hw'
            subst hw''
            go_wp2_with (first | (go_at_call 23; (with_reducible refine (Rba.out _ _).mono ?_); rintro e w9 ⟨rfl, ⟨d9, os9⟩, rfl⟩) | (go_at_call 17; (with_reducible refine (Eab.out _ _).mono ?_); rintro e w9 ⟨rfl, ⟨d9, os9⟩, rfl⟩) | (go_at_call 11; refine (CA.out _ _).mono ?_; rintro e w9 ⟨rfl, ⟨d9, os9⟩, rfl⟩))
            refine wp_region_quiet_in (by kernel_rfl) (by kernel_rfl) ?_
            repeat (first | go_big_quiet_step (first | (go_at_call 23; with_reducible first | exact Rab.out _ _ | exact Rbc.out _ _ | exact Raa.out _ _ | exact Rac.out _ _ | exact Rau.out _ _ | exact Rba.out _ _) | (go_at_call 27; exact Un.out _ _) | (go_at_call 21; exact Kb.out _ _) | (go_at_call 17; exact Eab.out _ _) | (go_at_call 25; with_reducible first | exact NA2.out _ _ | exact NB2.out _ _)) | quiet_step (first | (go_at_call 23; with_reducible first | exact Rab.out _ _ | exact Rbc.out _ _ | exact Raa.out _ _ | exact Rac.out _ _ | exact Rau.out _ _ | exact Rba.out _ _) | (go_at_call 27; exact Un.out _ _) | (go_at_call 21; exact Kb.out _ _) | (go_at_call 17; exact Eab.out _ _) | (go_at_call 25; with_reducible first | exact NA2.out _ _ | exact NB2.out _ _)))
            refine wpQuiet_nil ?_
            intro _ hw'
            obtain ⟨⟨dq, osq⟩, hw''⟩ := hw'
            subst hw''
            go_wp2_with (first | (go_at_call 23; (with_reducible refine (Rba.out _ _).mono ?_); rintro e w9 ⟨rfl, ⟨d9, os9⟩, rfl⟩) | (go_at_call 17; (with_reducible refine (Eab.out _ _).mono ?_); rintro e w9 ⟨rfl, ⟨d9, os9⟩, rfl⟩) | (go_at_call 11; refine (CA.out _ _).mono ?_; rintro e w9 ⟨rfl, ⟨d9, os9⟩, rfl⟩))
            go_ret
            exact ⟨rfl, below_gr B0.out _ _⟩
      | false =>
        cases ba with
        | true =>
          obtain rfl := (H2.out rfl rfl)
          cases kb2
          all_goals
            go_wp2_with fail
            refine wp_region_quiet_in (by kernel_rfl) (by kernel_rfl) ?_
            repeat (first | go_big_quiet_step (first | (go_at_call 23; with_reducible first | exact Rab.out _ _ | exact Rbc.out _ _ | exact Raa.out _ _ | exact Rac.out _ _ | exact Rau.out _ _ | exact Rba.out _ _) | (go_at_call 27; exact Un.out _ _) | (go_at_call 21; exact Kb.out _ _) | (go_at_call 17; exact Eab.out _ _) | (go_at_call 25; with_reducible first | exact NA2.out _ _ | exact NB2.out _ _)) | quiet_step (first | (go_at_call 23; with_reducible first | exact Rab.out _ _ | exact Rbc.out _ _ | exact Raa.out _ _ | exact Rac.out _ _ | exact Rau.out _ _ | exact Rba.out _ _) | (go_at_call 27; exact Un.out _ _) | (go_at_call 21; exact Kb.out _ _) | (go_at_call 17; exact Eab.out _ _) | (go_at_call 25; with_reducible first | exact NA2.out _ _ | exact NB2.out _ _)))
            refine wpQuiet_nil ?_
            intro _ hw'
            obtain ⟨⟨dq, osq⟩, hw''⟩ := hw'
            subst hw''
            go_wp2_with (first | (go_at_call 23; (with_reducible refine (Rba.out _ _).mono ?_); rintro e w9 ⟨rfl, ⟨d9, os9⟩, rfl⟩) | (go_at_call 17; (with_reducible refine (Eab.out _ _).mono ?_); rintro e w9 ⟨rfl, ⟨d9, os9⟩, rfl⟩) | (go_at_call 11; refine (CA.out _ _).mono ?_; rintro e w9 ⟨rfl, ⟨d9, os9⟩, rfl⟩))
            refine wp_region_quiet_in (by kernel_rfl) (by kernel_rfl) ?_
            repeat (first | go_big_quiet_step (first | (go_at_call 23; with_reducible first | exact Rab.out _ _ | exact Rbc.out _ _ | exact Raa.out _ _ | exact Rac.out _ _ | exact Rau.out _ _ | exact Rba.out _ _) | (go_at_call 27; exact Un.out _ _) | (go_at_call 21; exact Kb.out _ _) | (go_at_call 17; exact Eab.out _ _) | (go_at_call 25; with_reducible first | exact NA2.out _ _ | exact NB2.out _ _)) | quiet_step (first | (go_at_call 23; with_reducible first | exact Rab.out _ _ | exact Rbc.out _ _ | exact Raa.out _ _ | exact Rac.out _ _ | exact Rau.out _ _ | exact Rba.out _ _) | (go_at_call 27; exact Un.out _ _) | (go_at_call 21; exact Kb.out _ _) | (go_at_call 17; exact Eab.out _ _) | (go_at_call 25; with_reducible first | exact NA2.out _ _ | exact NB2.out _ _)))
            refine wpQuiet_nil ?_
            intro _ hw'
            obtain ⟨⟨dq, osq⟩, hw''⟩ := hw'
            subst hw''
            go_wp2_with (first | (go_at_call 23; (with_reducible refine (Rba.out _ _).mono ?_); rintro e w9 ⟨rfl, ⟨d9, os9⟩, rfl⟩) | (go_at_call 17; (with_reducible refine (Eab.out _ _).mono ?_); rintro e w9 ⟨rfl, ⟨d9, os9⟩, rfl⟩) | (go_at_call 11; refine (CA.out _ _).mono ?_; rintro e w9 ⟨rfl, ⟨d9, os9⟩, rfl⟩))
            go_ret
            exact ⟨rfl, below_gr B0.out _ _⟩
        | false =>
          cases kb2 with
          | true =>
            obtain rfl := (H3.out rfl rfl)
            go_wp2_with fail
            refine wp_region_quiet_in (by kernel_rfl) (by kernel_rfl) ?_
            repeat (first | go_big_quiet_step (first | (go_at_call 23; with_reducible first | exact Rab.out _ _ | exact Rbc.out _ _ | exact Raa.out _ _ | exact Rac.out _ _ | exact Rau.out _ _ | exact Rba.out _ _) | (go_at_call 27; exact Un.out _ _) | (go_at_call 21; exact Kb.out _ _) | (go_at_call 17; exact Eab.out _ _) | (go_at_call 25; with_reducible first | exact NA2.out _ _ | exact NB2.out _ _)) | quiet_step (first | (go_at_call 23; with_reducible first | exact Rab.out _ _ | exact Rbc.out _ _ | exact Raa.out _ _ | exact Rac.out _ _ | exact Rau.out _ _ | exact Rba.out _ _) | (go_at_call 27; exact Un.out _ _) | (go_at_call 21; exact Kb.out _ _) | (go_at_call 17; exact Eab.out _ _) | (go_at_call 25; with_reducible first | exact NA2.out _ _ | exact NB2.out _ _)))
            refine wpQuiet_nil ?_
            intro _ hw'
            obtain ⟨⟨dq, osq⟩, hw''⟩ := hw'
            subst hw''
            go_wp2_with (first | (go_at_call 23; (with_reducible refine (Rba.out _ _).mono ?_); rintro e w9 ⟨rfl, ⟨d9, os9⟩, rfl⟩) | (go_at_call 17; (with_reducible refine (Eab.out _ _).mono ?_); rintro e w9 ⟨rfl, ⟨d9, os9⟩, rfl⟩) | (go_at_call 11; refine (CA.out _ _).mono ?_; rintro e w9 ⟨rfl, ⟨d9, os9⟩, rfl⟩))
            refine wp_region_quiet_in (by kernel_rfl) (by kernel_rfl) ?_
            repeat (first | go_big_quiet_step (first | (go_at_call 23; with_reducible first | exact Rab.out _ _ | exact Rbc.out _ _ | exact Raa.out _ _ | exact Rac.out _ _ | exact Rau.out _ _ | exact Rba.out _ _) | (go_at_call 27; exact Un.out _ _) | (go_at_call 21; exact Kb.out _ _) | (go_at_call 17; exact Eab.out _ _) | (go_at_call 25; with_reducible first | exact NA2.out _ _ | exact NB2.out _ _)) | quiet_step (first | (go_at_call 23; with_reducible first | exact Rab.out _ _ | exact Rbc.out _ _ | exact Raa.out _ _ | exact Rac.out _ _ | exact Rau.out _ _ | exact Rba.out _ _) | (go_at_call 27; exact Un.out _ _) | (go_at_call 21; exact Kb.out _ _) | (go_at_call 17; exact Eab.out _ _) | (go_at_call 25; with_reducible first | exact NA2.out _ _ | exact NB2.out _ _)))
            refine wpQuiet_nil ?_
            intro _ hw'
            obtain ⟨⟨dq, osq⟩, hw''⟩ := hw'
            subst hw''
            go_wp2_with (first | (go_at_call 23; (with_reducible refine (Rba.out _ _).mono ?_); rintro e w9 ⟨rfl, ⟨d9, os9⟩, rfl⟩) | (go_at_call 17; (with_reducible refine (Eab.out _ _).mono ?_); rintro e w9 ⟨rfl, ⟨d9, os9⟩, rfl⟩) | (go_at_call 11; refine (CA.out _ _).mono ?_; rintro e w9 ⟨rfl, ⟨d9, os9⟩, rfl⟩))
            go_ret
            exact ⟨rfl, below_gr B0.out _ _⟩
          | false =>
            go_wp2_with fail
            refine wp_region_quiet_in (by kernel_rfl) (by kernel_rfl) ?_
            repeat (first | go_big_quiet_step (first | (go_at_call 23; with_reducible first | exact Rab.out _ _ | exact Rbc.out _ _ | exact Raa.out _ _ | exact Rac.out _ _ | exact Rau.out _ _ | exact Rba.out _ _) | (go_at_call 27; exact Un.out _ _) | (go_at_call 21; exact Kb.out _ _) | (go_at_call 17; exact Eab.out _ _) | (go_at_call 25; with_reducible first | exact NA2.out _ _ | exact NB2.out _ _)) | quiet_step (first | (go_at_call 23; with_reducible first | exact Rab.out _ _ | exact Rbc.out _ _ | exact Raa.out _ _ | exact Rac.out _ _ | exact Rau.out _ _ | exact Rba.out _ _) | (go_at_call 27; exact Un.out _ _) | (go_at_call 21; exact Kb.out _ _) | (go_at_call 17; exact Eab.out _ _) | (go_at_call 25; with_reducible first | exact NA2.out _ _ | exact NB2.out _ _)))
            refine wpQuiet_nil ?_
            intro _ hw'
            obtain ⟨⟨dq, osq⟩, hw''⟩ := hw'
            subst hw''
            go_wp2_with (first | (go_at_call 23; (with_reducible refine (Rba.out _ _).mono ?_); rintro e w9 ⟨rfl, ⟨d9, os9⟩, rfl⟩) | (go_at_call 17; (with_reducible refine (Eab.out _ _).mono ?_); rintro e w9 ⟨rfl, ⟨d9, os9⟩, rfl⟩) | (go_at_call 11; refine (CA.out _ _).mono ?_; rintro e w9 ⟨rfl, ⟨d9, os9⟩, rfl⟩))
            refine wp_region_quiet_in (by kernel_rfl) (by kernel_rfl) ?_
            repeat (first | go_big_quiet_step (first | (go_at_call 23; with_reducible first | exact Rab.out _ _ | exact Rbc.out _ _ | exact Raa.out _ _ | exact Rac.out _ _ | exact Rau.out _ _ | exact Rba.out _ _) | (go_at_call 27; exact Un.out _ _) | (go_at_call 21; exact Kb.out _ _) | (go_at_call 17; exact Eab.out _ _) | (go_at_call 25; with_reducible first | exact NA2.out _ _ | exact NB2.out _ _)) | quiet_step (first | (go_at_call 23; with_reducible first | exact Rab.out _ _ | exact Rbc.out _ _ | exact Raa.out _ _ | exact Rac.out _ _ | exact Rau.out _ _ | exact Rba.out _ _) | (go_at_call 27; exact Un.out _ _) | (go_at_call 21; exact Kb.out _ _) | (go_at_call 17; exact Eab.out _ _) | (go_at_call 25; with_reducible first | exact NA2.out _ _ | exact NB2.out _ _)))
            refine wpQuiet_nil ?_
            intro _ hw'
            obtain ⟨⟨dq, osq⟩, hw''⟩ := hw'
            subst hw''
            go_wp2_with (first | (go_at_call 23; (with_reducible refine (Rba.out _ _).mono ?_); rintro e w9 ⟨rfl, ⟨d9, os9⟩, rfl⟩) | (go_at_call 17; (with_reducible refine (Eab.out _ _).mono ?_); rintro e w9 ⟨rfl, ⟨d9, os9⟩, rfl⟩) | (go_at_call 11; refine (CA.out _ _).mono ?_; rintro e w9 ⟨rfl, ⟨d9, os9⟩, rfl⟩))
            go_ret
            exact ⟨rfl, below_gr B0.out _ _⟩

set_option maxRecDepth 100000 in
theorem refines_from (H : Type) (enc : TypeId × Value → H) (W : World) (base : Nat) (v0 v1 v2 : Value) (d0 d1 d2 : DataW H) (p0 p1 p2 : List MemPlace) (o0 : Value.okWide Tryd.prog W .any base 26 v0) (o1 : Value.okWide Tryd.prog W .any base 26 v1) (o2 : Value.okWide Tryd.prog W .any base 26 v2)
    (h0 : DataW.Trod enc Tryd.prog W 0 (fun _ => true) true 26 v0 d0 p0) (h1 : DataW.Trod enc Tryd.prog W 0 (fun _ => true) true 26 v1 d1 p1) (h2 : DataW.Trod enc Tryd.prog W 0 (fun _ => true) true 26 v2 d2 p2) (q0 : Wt Tryd.prog 26 d0) (q1 : Wt Tryd.prog 26 d1) (q2 : Wt Tryd.prog 26 d2) (hu : UT W) :
    Calls Tryd.prog 6 #[v0, v1, v2] W fun e W' => e = .returned (.bool true) ∧ Below W.heap.size W W' := by
  obtain ⟨a, ra, ca, ka, za, rfl, ha⟩ := value_arg o0 h0 q0
  obtain ⟨b, rb, cb, kb, zb, rfl, hb⟩ := value_arg o1 h1 q1
  obtain ⟨c, rc, cc, kc, zc, rfl, hc⟩ := value_arg o2 h2 q2
  exact refines_law a b c _ _ _ _ _ _ _ _ _ _ _ _ W ha hb hc hu
end Go.Proofs.YtedpdpcibkceeaaDoor
