import Derived.Test.YtedpdpcibkceeaaDoorPeq
/-
  Contracts of the program's Equal and Refines. Conditions: those ahead of each theorem.
-/
namespace Go.Proofs.YtedpdpcibkceeaaDoor
open Go.RowKit Go.Sort Go.Lib
open Go.Lib (hid)
set_option linter.unusedVariables false
set_option linter.unusedSimpArgs false

theorem entersEq : ∀ args w, (callFunc 17 args).run Tryd.prog w = .ok (.enter 17 args) w := enters_of Tryd.func17 (by kernel_rfl) rfl
theorem entersRf : ∀ args w, (callFunc 23 args).run Tryd.prog w = .ok (.enter 23 args) w := enters_of Tryd.func23 (by kernel_rfl) rfl

set_option maxRecDepth 100000 in
set_option maxHeartbeats 2000000 in
theorem peq_any (x : Val) : ∀ (y : Val) (r : Option Addr) (c : Nat) (rk : Option Addr) (ck : Nat) (r2 : Option Addr) (c2 : Nat) (rk2 : Option Addr) (ck2 : Nat) (w : World), VR5 w r c rk ck x → VR5 w r2 c2 rk2 ck2 y →
    Calls Tryd.prog 17 #[.agg #[.int .i64 x.kind, .int .i64 x.num, .string x.str, .slice r x.items.length c, .slice rk x.keys.length ck], .agg #[.int .i64 y.kind, .int .i64 y.num, .string y.str, .slice r2 y.items.length c2, .slice rk2 y.keys.length ck2]] w fun e w' => e = .returned (.bool (eqV x y)) ∧ Below w.heap.size w w' := by
  refine Val.ind (P := fun x => ∀ (y : Val) (r : Option Addr) (c : Nat) (rk : Option Addr) (ck : Nat) (r2 : Option Addr) (c2 : Nat) (rk2 : Option Addr) (ck2 : Nat) (w : World), VR5 w r c rk ck x → VR5 w r2 c2 rk2 ck2 y →
    Calls Tryd.prog 17 #[.agg #[.int .i64 x.kind, .int .i64 x.num, .string x.str, .slice r x.items.length c, .slice rk x.keys.length ck], .agg #[.int .i64 y.kind, .int .i64 y.num, .string y.str, .slice r2 y.items.length c2, .slice rk2 y.keys.length ck2]] w fun e w' => e = .returned (.bool (eqV x y)) ∧ Below w.heap.size w w') ?_ x
  intro x ih y r c rk ck r2 c2 rk2 ck2 w hx hy
  obtain ⟨hI, hK, _, _, _, hkl, hil⟩ := hx.parts
  obtain ⟨hI2, hK2, _, _, _, hkl2, hil2⟩ := hy.parts
  have HI := hid hI
  have HK := hid hK
  have HI2 := hid hI2
  have HK2 := hid hK2
  obtain ⟨_, hlc, hcm⟩ := sl_len hI
  obtain ⟨_, hlk, hkm⟩ := sl_len hK
  obtain ⟨_, hlc2, hcm2⟩ := sl_len hI2
  obtain ⟨_, hlk2, hkm2⟩ := sl_len hK2
  have HN := hid (eqV_eq x y)
  have HL := hid (fun (W : World) (h1 : Sl VR 5 W (.slice r x.items.length c) x.items) (h2 : Sl VR 5 W (.slice r2 y.items.length c2) y.items) => eqf_any 17 (eqL x.items y.items) eqV entersEq x.items y.items r r2 c c2 W h1 h2 eqL_true ih)
  clear ih hI hK hx hI2 hK2 hy
  generalize x.kind = xk at *
  generalize x.num = xn at *
  generalize x.str = xs at *
  generalize y.kind = yk at *
  generalize y.num = yn at *
  generalize y.str = ys at *
  generalize hnx : eqV x y = nx at *
  clear hnx
  generalize hxi : x.items = is at *
  clear hxi
  generalize hxi : x.keys = ks at *
  clear hxi
  generalize hxi : y.items = is2 at *
  clear hxi
  generalize hxi : y.keys = ks2 at *
  clear hxi
  have B0 := hid (show Below w.heap.size w ((w.alloc (.cells #[.int .i64 xk, .int .i64 xn, .string xs, .slice r is.length c, .slice rk ks.length ck] 26)).alloc (.cells #[.int .i64 yk, .int .i64 yn, .string ys, .slice r2 is2.length c2, .slice rk2 ks2.length ck2] 26)) from ((Below.refl _ _).alloc (Nat.le_refl _) _).alloc (by simp) _)
  have HN1 := hid HN.out
  clear HN
  by_cases h1 : xk = yk
  case neg =>
    have HF := hid (show nx = false by rw [HN1.out]; simp [h1])
    have e1 : (xk != yk) = true := by simpa using h1
    have e2 : (xk == yk) = false := by simpa using h1
    clear h1
    go_enter Tryd.func17, Tryd.ntmps17
    go_wp2
    go_ret
    exact ⟨ret_bool HF.out, B0.out⟩
  subst h1
  by_cases h2 : xn = yn
  case neg =>
    have HF := hid (show nx = false by rw [HN1.out]; simp [h2])
    have e1 : (xn != yn) = true := by simpa using h2
    have e2 : (xn == yn) = false := by simpa using h2
    clear h2
    go_enter Tryd.func17, Tryd.ntmps17
    go_wp2
    go_ret
    exact ⟨ret_bool HF.out, B0.out⟩
  subst h2
  by_cases h3 : xs = ys
  case neg =>
    have HF := hid (show nx = false by rw [HN1.out]; simp [h3])
    have e1 := str_ne' h3
    have e2 := str_ne h3
    clear h3
    go_enter Tryd.func17, Tryd.ntmps17
    go_wp2
    go_ret
    exact ⟨ret_bool HF.out, B0.out⟩
  subst h3
  have SQ := hid (seq_any ks ks2 rk rk2 ck ck2 ((w.alloc (.cells #[.int .i64 xk, .int .i64 xn, .string xs, .slice r is.length c, .slice rk ks.length ck] 26)).alloc (.cells #[.int .i64 xk, .int .i64 xn, .string xs, .slice r2 is2.length c2, .slice rk2 ks2.length ck2] 26)) (HK.out.below strR_mono B0.out) (HK2.out.below strR_mono B0.out))
  have key : ∀ (w1 : World), Below (((w.alloc (.cells #[.int .i64 xk, .int .i64 xn, .string xs, .slice r is.length c, .slice rk ks.length ck] 26)).alloc (.cells #[.int .i64 xk, .int .i64 xn, .string xs, .slice r2 is2.length c2, .slice rk2 ks2.length ck2] 26))).heap.size ((w.alloc (.cells #[.int .i64 xk, .int .i64 xn, .string xs, .slice r is.length c, .slice rk ks.length ck] 26)).alloc (.cells #[.int .i64 xk, .int .i64 xn, .string xs, .slice r2 is2.length c2, .slice rk2 ks2.length ck2] 26)) w1 → w1.cell? ⟨w.heap.size, 3, none⟩ = some (.slice r is.length c) ∧ w1.cell? ⟨w.heap.size + 1, 3, none⟩ = some (.slice r2 is2.length c2) :=
    fun w1 hb => ⟨bget hb (bget ((Below.refl _ _).alloc (Nat.le_refl _) _) (cell_at rfl rfl)), bget hb (cell_at (by simp) rfl)⟩
  have KEY := hid key
  clear key
  by_cases h4 : ks = ks2
  case neg =>
    have HF := hid (show nx = false by rw [HN1.out, decide_eq_false h4]; simp)
    rw [decide_eq_false h4] at SQ
    clear h4
    go_enter Tryd.func17, Tryd.ntmps17
    go_wp2_with fail
    refine SQ.out.mono ?_
    rintro e w1 ⟨rfl, hb1⟩
    have B1 := hid (B0.out.trans (hb1.mono B0.out.size))
    clear hb1
    go_wp2
    go_ret
    exact ⟨ret_bool HF.out, B1.out⟩
  case pos =>
  have HF := hid (show nx = eqL is is2 by rw [HN1.out, decide_eq_true h4]; simp)
  rw [decide_eq_true h4] at SQ
  clear h4
  go_enter Tryd.func17, Tryd.ntmps17
  go_wp2_with fail
  refine SQ.out.mono ?_
  rintro e w1 ⟨rfl, hb1⟩
  have B1 := hid (B0.out.trans (hb1.mono B0.out.size))
  obtain ⟨k3, k4⟩ := KEY.out w1 hb1
  clear hb1 KEY
  go_wp2_with fail
  refine (HL.out w1 (slv_mono HI.out B1.out) (slv_mono HI2.out B1.out)).mono ?_
  rintro e w2 ⟨rfl, hb2⟩
  have B2 := hid (B1.out.trans (hb2.mono B1.out.size))
  clear hb2
  go_wp2
  go_ret
  exact ⟨ret_bool HF.out, B2.out⟩

set_option maxRecDepth 100000 in
set_option maxHeartbeats 2000000 in
theorem prefines_any (x : Val) : ∀ (y : Val) (r : Option Addr) (c : Nat) (rk : Option Addr) (ck : Nat) (r2 : Option Addr) (c2 : Nat) (rk2 : Option Addr) (ck2 : Nat) (w : World), VR5 w r c rk ck x → VR5 w r2 c2 rk2 ck2 y →
    Calls Tryd.prog 23 #[.agg #[.int .i64 x.kind, .int .i64 x.num, .string x.str, .slice r x.items.length c, .slice rk x.keys.length ck], .agg #[.int .i64 y.kind, .int .i64 y.num, .string y.str, .slice r2 y.items.length c2, .slice rk2 y.keys.length ck2]] w fun e w' => e = .returned (.bool (rfnV x y)) ∧ Below w.heap.size w w' := by
  refine Val.ind (P := fun x => ∀ (y : Val) (r : Option Addr) (c : Nat) (rk : Option Addr) (ck : Nat) (r2 : Option Addr) (c2 : Nat) (rk2 : Option Addr) (ck2 : Nat) (w : World), VR5 w r c rk ck x → VR5 w r2 c2 rk2 ck2 y →
    Calls Tryd.prog 23 #[.agg #[.int .i64 x.kind, .int .i64 x.num, .string x.str, .slice r x.items.length c, .slice rk x.keys.length ck], .agg #[.int .i64 y.kind, .int .i64 y.num, .string y.str, .slice r2 y.items.length c2, .slice rk2 y.keys.length ck2]] w fun e w' => e = .returned (.bool (rfnV x y)) ∧ Below w.heap.size w w') ?_ x
  intro x ih y r c rk ck r2 c2 rk2 ck2 w hx hy
  obtain ⟨hI, hK, _, _, _, hkl, hil⟩ := hx.parts
  obtain ⟨hI2, hK2, _, _, _, hkl2, hil2⟩ := hy.parts
  have HI := hid hI
  have HK := hid hK
  have HI2 := hid hI2
  have HK2 := hid hK2
  obtain ⟨_, hlc, hcm⟩ := sl_len hI
  obtain ⟨_, hlk, hkm⟩ := sl_len hK
  obtain ⟨_, hlc2, hcm2⟩ := sl_len hI2
  obtain ⟨_, hlk2, hkm2⟩ := sl_len hK2
  have HN := hid (rfnV_eq x y)
  have HL := hid (fun (W : World) (h1 : Sl VR 5 W (.slice r x.items.length c) x.items) (h2 : Sl VR 5 W (.slice r2 y.items.length c2) y.items) => eqf_any 23 (rfnL x.items y.items) rfnV entersRf x.items y.items r r2 c c2 W h1 h2 rfnL_true ih)
  clear ih hI hK hx hI2 hK2 hy
  generalize x.kind = xk at *
  generalize x.num = xn at *
  generalize x.str = xs at *
  generalize y.kind = yk at *
  generalize y.num = yn at *
  generalize y.str = ys at *
  generalize hnx : rfnV x y = nx at *
  clear hnx
  generalize hxi : x.items = is at *
  clear hxi
  generalize hxi : x.keys = ks at *
  clear hxi
  generalize hxi : y.items = is2 at *
  clear hxi
  generalize hxi : y.keys = ks2 at *
  clear hxi
  have B0 := hid (show Below w.heap.size w ((w.alloc (.cells #[.int .i64 xk, .int .i64 xn, .string xs, .slice r is.length c, .slice rk ks.length ck] 26)).alloc (.cells #[.int .i64 yk, .int .i64 yn, .string ys, .slice r2 is2.length c2, .slice rk2 ks2.length ck2] 26)) from ((Below.refl _ _).alloc (Nat.le_refl _) _).alloc (by simp) _)
  by_cases h6 : yk = 6
  · subst h6
    have HF := hid (show nx = true by rw [HN.out]; simp)
    go_enter Tryd.func23, Tryd.ntmps23
    go_wp2
    go_ret
    exact ⟨ret_bool HF.out, B0.out⟩
  have e6 : (yk == 6) = false := by simpa using h6
  have HN1 := hid (show nx = (decide (xk = yk) && decide (xn = yn) && decide (xs = ys) && decide (ks = ks2) && rfnL is is2) by rw [HN.out]; simp [h6])
  clear h6 HN
  by_cases h1 : xk = yk
  case neg =>
    have HF := hid (show nx = false by rw [HN1.out]; simp [h1])
    have e1 : (xk != yk) = true := by simpa using h1
    have e2 : (xk == yk) = false := by simpa using h1
    clear h1
    go_enter Tryd.func23, Tryd.ntmps23
    go_wp2
    go_ret
    exact ⟨ret_bool HF.out, B0.out⟩
  subst h1
  by_cases h2 : xn = yn
  case neg =>
    have HF := hid (show nx = false by rw [HN1.out]; simp [h2])
    have e1 : (xn != yn) = true := by simpa using h2
    have e2 : (xn == yn) = false := by simpa using h2
    clear h2
    go_enter Tryd.func23, Tryd.ntmps23
    go_wp2
    go_ret
    exact ⟨ret_bool HF.out, B0.out⟩
  subst h2
  by_cases h3 : xs = ys
  case neg =>
    have HF := hid (show nx = false by rw [HN1.out]; simp [h3])
    have e1 := str_ne' h3
    have e2 := str_ne h3
    clear h3
    go_enter Tryd.func23, Tryd.ntmps23
    go_wp2
    go_ret
    exact ⟨ret_bool HF.out, B0.out⟩
  subst h3
  have SQ := hid (seq_any ks ks2 rk rk2 ck ck2 ((w.alloc (.cells #[.int .i64 xk, .int .i64 xn, .string xs, .slice r is.length c, .slice rk ks.length ck] 26)).alloc (.cells #[.int .i64 xk, .int .i64 xn, .string xs, .slice r2 is2.length c2, .slice rk2 ks2.length ck2] 26)) (HK.out.below strR_mono B0.out) (HK2.out.below strR_mono B0.out))
  have key : ∀ (w1 : World), Below (((w.alloc (.cells #[.int .i64 xk, .int .i64 xn, .string xs, .slice r is.length c, .slice rk ks.length ck] 26)).alloc (.cells #[.int .i64 xk, .int .i64 xn, .string xs, .slice r2 is2.length c2, .slice rk2 ks2.length ck2] 26))).heap.size ((w.alloc (.cells #[.int .i64 xk, .int .i64 xn, .string xs, .slice r is.length c, .slice rk ks.length ck] 26)).alloc (.cells #[.int .i64 xk, .int .i64 xn, .string xs, .slice r2 is2.length c2, .slice rk2 ks2.length ck2] 26)) w1 → w1.cell? ⟨w.heap.size, 3, none⟩ = some (.slice r is.length c) ∧ w1.cell? ⟨w.heap.size + 1, 3, none⟩ = some (.slice r2 is2.length c2) :=
    fun w1 hb => ⟨bget hb (bget ((Below.refl _ _).alloc (Nat.le_refl _) _) (cell_at rfl rfl)), bget hb (cell_at (by simp) rfl)⟩
  have KEY := hid key
  clear key
  by_cases h4 : ks = ks2
  case neg =>
    have HF := hid (show nx = false by rw [HN1.out, decide_eq_false h4]; simp)
    rw [decide_eq_false h4] at SQ
    clear h4
    go_enter Tryd.func23, Tryd.ntmps23
    go_wp2_with fail
    refine SQ.out.mono ?_
    rintro e w1 ⟨rfl, hb1⟩
    have B1 := hid (B0.out.trans (hb1.mono B0.out.size))
    clear hb1
    go_wp2
    go_ret
    exact ⟨ret_bool HF.out, B1.out⟩
  case pos =>
  have HF := hid (show nx = rfnL is is2 by rw [HN1.out, decide_eq_true h4]; simp)
  rw [decide_eq_true h4] at SQ
  clear h4
  go_enter Tryd.func23, Tryd.ntmps23
  go_wp2_with fail
  refine SQ.out.mono ?_
  rintro e w1 ⟨rfl, hb1⟩
  have B1 := hid (B0.out.trans (hb1.mono B0.out.size))
  obtain ⟨k3, k4⟩ := KEY.out w1 hb1
  clear hb1 KEY
  go_wp2_with fail
  refine (HL.out w1 (slv_mono HI.out B1.out) (slv_mono HI2.out B1.out)).mono ?_
  rintro e w2 ⟨rfl, hb2⟩
  have B2 := hid (B1.out.trans (hb2.mono B1.out.size))
  clear hb2
  go_wp2
  go_ret
  exact ⟨ret_bool HF.out, B2.out⟩

end Go.Proofs.YtedpdpcibkceeaaDoor
