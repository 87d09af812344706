import Derived.Test.YtomhbcfjhgecbaaGreatDoorW7
import Derived.Test.YtomhbcfjhgecbaaGreatDoorW5
set_option linter.unusedVariables false
set_option linter.unusedSimpArgs false
namespace Go.Proofs.YtomhbcfjhgecbaaGreatDoor
open Go.RowKit Go.Sort Go.Lib
open Go.Lib (hid)
attribute [local go_sem] Stp.frUpon
attribute [local go_sem ↓] ldI_eq
attribute [local go_sem] ldI_run
attribute [local go_sem ↓] stI_eq
attribute [local go_sem] stI_run thereI_drew thereI_new put13_drew put13_new liesI_new rd13_new liesI_drew rd13_drew
def eqLs {α : Type} (p : α → α → Bool) : List α → List α → Bool
 | [], [] => true
 | x :: a, y :: b => p x y && eqLs p a b
 | _, _ => false
theorem eqLs_true {α : Type} {p : α → α → Bool} : ∀ {a b : List α}, eqLs p a b = true ↔ a.length = b.length ∧ ∀ i (h : i < a.length) (h' : i < b.length), p a[i] b[i] = true
 | [], [] => by simp [eqLs]
 | [], y :: b => by simp [eqLs]
 | x :: a, [] => by simp [eqLs]
 | x :: a, y :: b => by
   rw [eqLs, Bool.and_eq_true, eqLs_true]
   constructor
   · rintro ⟨h0, h1, h2⟩
     refine ⟨by simp [h1], fun i h h' => ?_⟩
     cases i with
     | zero => exact h0
     | succ i => exact h2 i (by simpa using h) (by simpa using h')
   · rintro ⟨h1, h2⟩
     exact ⟨h2 0 (by simp) (by simp), by simpa using h1, fun i h h' => h2 (i + 1) (by simpa using h) (by simpa using h')⟩
def eqP (x y : Pnd) : Bool := (x.ad.toList == y.ad.toList) && (x.ty.toList == y.ty.toList) && (x.tok.toList == y.tok.toList)
def eqO (x y : Sou) : Bool := (x.nm.toList == y.nm.toList) && (x.se == y.se) && eqV x.v y.v
def eqS (s t : Sta) : Bool := (s.lin.toList == t.lin.toList) && (s.ser == t.ser) && eqLs eqP s.pen t.pen && eqLs eqI s.ins t.ins && eqLs eqO s.out t.out
set_option maxRecDepth 100000 in
set_option maxHeartbeats 4000000 in
theorem pdeq_any (xs ys : List Pnd) (r r2 : Option Addr) (c c2 : Nat) (w : World) (hK : Sl PdR 3 w (.slice r xs.length c) xs) (hK2 : Sl PdR 3 w (.slice r2 ys.length c2) ys) :
   Calls Tryz.prog 41 #[.slice r xs.length c, .slice r2 ys.length c2] w fun e w' => e = .returned (.bool (eqLs eqP xs ys)) ∧ Below w.heap.size w w' := by
 obtain ⟨_, hlk, hkm⟩ := sl_len hK
 obtain ⟨_, hlk2, hkm2⟩ := sl_len hK2
 have HK := hid hK
 have HK2 := hid hK2
 obtain ⟨R, hR⟩ : ∃ R, eqLs eqP xs ys = R := ⟨_, rfl⟩
 have HR := hid (show R = true ↔ xs.length = ys.length ∧ ∀ i (h : i < xs.length) (h' : i < ys.length), eqP xs[i] ys[i] = true from hR ▸ eqLs_true)
 rw [hR]
 clear hK hK2 hR
 by_cases h5 : xs.length = ys.length
 case neg =>
   have HF := hid (show R = false by rw [Bool.eq_false_iff]; intro e; exact h5 (HR.out.1 e).1)
   have e1 : ((xs.length : Int) != (ys.length : Int)) = true := by simp; omega
   have e2 : ((xs.length : Int) == (ys.length : Int)) = false := by simp; omega
   clear h5 HR
   go_enter Tryz.func41, Tryz.ntmps41
   go_wp2
   go_ret
   exact ⟨ret_bool HF.out, Below.refl _ _⟩
 case pos =>
 have e1 : ((xs.length : Int) != (ys.length : Int)) = false := by simp; omega
 have e2 : ((xs.length : Int) == (ys.length : Int)) = true := by simp; omega
 have H5 := hid h5
 clear h5
 go_enter Tryz.func41, Tryz.ntmps41
 go_wp2
 clear e1 e2
 go_loopg [13] xs.length (fun gg s5 wr => ∃ k : Nat, k ≤ xs.length ∧ xs.length - k ≤ gg ∧ s5 = .int .i64 k ∧ Aside (Below w.heap.size w wr) ∧ Aside (∀ i (h : i < xs.length) (h' : i < ys.length), i < k → eqP xs[i] ys[i] = true))
 case atStart => exact ⟨0, Nat.zero_le _, by omega, rfl, Below.refl _ _, fun i _ _ h => absurd h (by omega)⟩
 case round =>
   obtain ⟨k, hk, hg, rfl, BW, AL⟩ := hrel
   by_cases hlt : k < xs.length
   case pos =>
     have hltz : (k : Int) < (xs.length : Int) := by omega
     have hlt2 : k < ys.length := by have := H5.out; omega
     have hltz2 : (k : Int) < (ys.length : Int) := by omega
     have HKx := HK.out.below pdR_mono BW.out
     have HKy := HK2.out.below pdR_mono BW.out
     obtain ⟨b, off, rfl, hb, g0, g1, g2, _⟩ := pnd_at HKx k hlt
     obtain ⟨b2, off2, rfl, hb2, f0, f1, f2, _⟩ := pnd_at HKy k hlt2
     have BW2 := hid BW.out
     have HQ := hid (show eqP xs[k] ys[k] = ((xs[k].ad.toList == ys[k].ad.toList) && (xs[k].ty.toList == ys[k].ty.toList) && (xs[k].tok.toList == ys[k].tok.toList)) from rfl)
     have HT := hid (show eqP xs[k] ys[k] = true → ∀ i (h : i < xs.length) (h' : i < ys.length), i < k + 1 → eqP xs[i] ys[i] = true from fun hq i h h' hi => by
         by_cases e : i < k
         · exact AL.out i h h' e
         · obtain rfl : i = k := by omega
           exact hq)
     have HF := hid (show eqP xs[k] ys[k] = false → R = false from fun hq => by
       rw [Bool.eq_false_iff]; intro e
       have := (HR.out.1 e).2 k hlt hlt2
       rw [hq] at this; cases this)
     clear HKx HKy BW AL
     generalize eqP xs[k] ys[k] = Q at *
     generalize xs[k] = x at *
     generalize ys[k] = y at *
     obtain ⟨x1, x2, x3⟩ := x
     obtain ⟨y1, y2, y3⟩ := y
     dsimp only at *
     obtain ⟨q1, hq1⟩ : ∃ q, (x1.toList == y1.toList) = q := ⟨_, rfl⟩
     obtain ⟨q2, hq2⟩ : ∃ q, (x2.toList == y2.toList) = q := ⟨_, rfl⟩
     obtain ⟨q3, hq3⟩ : ∃ q, (x3.toList == y3.toList) = q := ⟨_, rfl⟩
     have n1 : (x1.toList != y1.toList) = !q1 := by rw [bne, hq1]
     have n2 : (x2.toList != y2.toList) = !q2 := by rw [bne, hq2]
     have n3 : (x3.toList != y3.toList) = !q3 := by rw [bne, hq3]
     rw [hq1, hq2, hq3] at HQ
     clear n1 n2 n3
     cases q1 with
     | false =>
       have HF2 := hid (HF.out HQ.out)
       clear HT HF HQ
       go_wp2_with fail
       go_quiet (fail)
       have BV := hid (bel_drewN BW2.out nq)
       go_wp2_with fail
       go_ret
       exact ⟨ret_bool HF2.out, BV.out⟩
     | true =>
     cases q2 with
     | false =>
       have HF2 := hid (HF.out HQ.out)
       clear HT HF HQ
       go_wp2_with fail
       go_quiet (fail)
       have BV := hid (bel_drewN BW2.out nq)
       go_wp2_with fail
       go_ret
       exact ⟨ret_bool HF2.out, BV.out⟩
     | true =>
     cases q3 with
     | false =>
       have HF2 := hid (HF.out HQ.out)
       clear HT HF HQ
       go_wp2_with fail
       go_quiet (fail)
       have BV := hid (bel_drewN BW2.out nq)
       go_wp2_with fail
       go_ret
       exact ⟨ret_bool HF2.out, BV.out⟩
     | true =>
       have HA := hid (HT.out HQ.out)
       clear HT HF HQ
       go_wp2_with fail
       go_quiet (fail)
       have BV := hid (bel_drewN BW2.out nq)
       go_wp2_with fail
       go_roundg (xs.length - (k + 1))
       case measure => omega
       case rel => exact ⟨k + 1, by omega, by omega, by go_num, BV.out, HA.out⟩
   case neg =>
   have hltz : ¬ (k : Int) < (xs.length : Int) := by omega
   have HF := hid (show R = true from HR.out.2 ⟨H5.out, fun i h h' => AL.out i h h' (by omega)⟩)
   have BW2 := hid BW.out
   clear AL BW
   go_wp2
   go_ret
   exact ⟨ret_bool HF.out, BW2.out⟩
set_option maxRecDepth 100000 in
set_option maxHeartbeats 4000000 in
theorem eqf_in (g : Nat) (p : Ins → Ins → Bool) (eg : ∀ args w, (callFunc g args).run Tryz.prog w = .ok (.enter g args) w) (xs ys : List Ins) (r r2 : Option Addr) (c c2 : Nat) (w : World)
   (hI : Sl InR 13 w (.slice r xs.length c) xs) (hI2 : Sl InR 13 w (.slice r2 ys.length c2) ys)
   (hp : ∀ (x y : Ins) (u v : Pt) (w : World), InsP w x u → InsP w y v → Calls Tryz.prog g #[.agg (insA x u), .agg (insA y v)] w fun e w' => e = .returned (.bool (p x y)) ∧ Below w.heap.size w w') :
   Calls Tryz.prog 42 #[.slice r xs.length c, .slice r2 ys.length c2, .func (.func g) #[] #[]] w fun e w' => e = .returned (.bool (eqLs p xs ys)) ∧ Below w.heap.size w w' := by
 obtain ⟨_, hlc, hcm⟩ := sl_len hI
 obtain ⟨_, hlc2, hcm2⟩ := sl_len hI2
 have HI := hid hI
 have HI2 := hid hI2
 obtain ⟨R, hR⟩ : ∃ R, eqLs p xs ys = R := ⟨_, rfl⟩
 have HR := hid (show R = true ↔ xs.length = ys.length ∧ ∀ i (h : i < xs.length) (h' : i < ys.length), p xs[i] ys[i] = true from hR ▸ eqLs_true)
 rw [hR]
 have HP := hid hp
 clear hI hI2 hR hp
 by_cases h4 : xs.length = ys.length
 case neg =>
   have HF := hid (show R = false by rw [Bool.eq_false_iff]; intro e; exact h4 (HR.out.1 e).1)
   have e1 : ((xs.length : Int) != (ys.length : Int)) = true := by simp; omega
   have e2 : ((xs.length : Int) == (ys.length : Int)) = false := by simp; omega
   clear h4 HR
   go_enter Tryz.func42, Tryz.ntmps42
   go_wp2
   go_ret
   exact ⟨ret_bool HF.out, Below.refl _ _⟩
 case pos =>
 have e1 : ((xs.length : Int) != (ys.length : Int)) = false := by simp; omega
 have e2 : ((xs.length : Int) == (ys.length : Int)) = true := by simp; omega
 have H4 := hid h4
 clear h4
 go_enter Tryz.func42, Tryz.ntmps42
 go_wp2
 clear e1 e2
 go_loopg [17] xs.length (fun gg s6 wr => ∃ k : Nat, k ≤ xs.length ∧ xs.length - k ≤ gg ∧ s6 = .int .i64 k ∧ Aside (Below w.heap.size w wr) ∧ Aside (∀ i (h : i < xs.length) (h' : i < ys.length), i < k → p xs[i] ys[i] = true))
 case atStart => exact ⟨0, Nat.zero_le _, by omega, rfl, Below.refl _ _, fun i _ _ h => absurd h (by omega)⟩
 case round =>
   obtain ⟨j, hj, hg2, rfl, BW, AL⟩ := hrel
   by_cases hlt : j < xs.length
   case pos =>
     have hltz : (j : Int) < (xs.length : Int) := by omega
     have hj0 : (0 : Int) ≤ (j : Int) := by omega
     have hlt2 : j < ys.length := by have := H4.out; omega
     have hltz2 : (j : Int) < (ys.length : Int) := by omega
     obtain ⟨b, off, pt, rfl, hb, hx, h5⟩ := in_at (HI.out.below inR_mono BW.out) j hlt
     obtain ⟨b2, off2, pt2, rfl, hb2, hy, h6⟩ := in_at (HI2.out.below inR_mono BW.out) j hlt2
     have CC := hid (fun (W : World) (hW : Below wr.heap.size wr W) => HP.out xs[j] ys[j] pt pt2 W (insP_below hW h5) (insP_below hW h6))
     have HAL := hid (show p xs[j] ys[j] = true → ∀ i (h : i < xs.length) (h' : i < ys.length), i < j + 1 → p xs[i] ys[i] = true from fun hq i h h' hi => by
       by_cases e : i < j
       · exact AL.out i h h' e
       · obtain rfl : i = j := by omega
         exact hq)
     have HF := hid (show p xs[j] ys[j] = false → R = false from fun hq => by
       rw [Bool.eq_false_iff]; intro e
       have := (HR.out.1 e).2 j hlt hlt2
       rw [hq] at this; cases this)
     have BW2 := hid BW.out
     have hX := cellsI xs[j] pt
     have hY := cellsI ys[j] pt2
     obtain ⟨l1, l2⟩ := liesI_of hX hx
     obtain ⟨l3, l4⟩ := liesI_of hY hy
     clear BW h5 h6 AL hx hy
     generalize hpq : p xs[j] ys[j] = q at *
     generalize hIA : insA xs[j] pt = X at *
     generalize hIB : insA ys[j] pt2 = Y at *
     clear hpq hIA hIB
     go_upto_region 6 with (fail)
     obtain ⟨W1, hW1⟩ : ∃ W1, W1 = wr.alloc (.cells X 41) := ⟨_, rfl⟩
     rw [← hW1]
     have BA := hid (show Below wr.heap.size wr W1 from hW1 ▸ (Below.refl _ _).alloc (Nat.le_refl _) _)
     have HLA := hid (show W1.heap[wr.heap.size]? = some (.cells X 41) from hW1 ▸ (MapKept.heap_alloc wr _).1)
     have HZA := hid (show W1.heap.size = wr.heap.size + 1 by rw [hW1]; simp)
     clear hW1
     have hm := l3.below BA.out
     have hm1 := hm.1
     have hm2 := hm.2.trans l4
     clear hm l1 l2 l3 l4
     go_upto_region 7 with (fail)
     obtain ⟨W2, hW2⟩ : ∃ W2, W2 = W1.alloc (.cells Y 41) := ⟨_, rfl⟩
     rw [← hW2]
     have HX := hid (liesI_blk (show W2.heap[wr.heap.size]? = some (.cells X 41) from hW2 ▸ (((MapKept.heap_alloc W1 (.cells Y 41)).2 _ (by have := HZA.out; omega)).trans HLA.out)) hX)
     have HY := hid (liesI_blk (show W2.heap[W1.heap.size]? = some (.cells Y 41) from hW2 ▸ (MapKept.heap_alloc W1 _).1) hY)
     have B1 := hid (show Below wr.heap.size wr W2 from hW2 ▸ BA.out.alloc BA.out.size _)
     clear hW2 hm1 hm2 hX hY
     obtain ⟨l1, l2⟩ := HX.out
     obtain ⟨l3, l4⟩ := HY.out
     cases q
     case false =>
       have HF2 := hid (HF.out rfl)
       clear HAL HF
       go_wp2_with (go_at_fn g; refine (CC.out _ B1.out).mono ?_; rintro e w1 ⟨rfl, hb1⟩)
       have B2 := hid (BW2.out.trans ((B1.out.trans (hb1.mono B1.out.size)).mono BW2.out.size))
       clear hb1
       go_ret
       exact ⟨ret_bool HF2.out, B2.out⟩
     case true =>
       have HA := hid (HAL.out rfl)
       clear HAL HF
       go_wp2_with (go_at_fn g; refine (CC.out _ B1.out).mono ?_; rintro e w1 ⟨rfl, hb1⟩)
       have B2 := hid (BW2.out.trans ((B1.out.trans (hb1.mono B1.out.size)).mono BW2.out.size))
       clear hb1
       go_roundg (xs.length - (j + 1))
       case measure => omega
       case rel => exact ⟨j + 1, by omega, by omega, by go_num, B2.out, HA.out⟩
   case neg =>
   have hltz : ¬ (j : Int) < (xs.length : Int) := by omega
   have HF := hid (show R = true from HR.out.2 ⟨H4.out, fun i h h' => AL.out i h h' (by omega)⟩)
   have BW2 := hid BW.out
   clear AL BW
   go_wp2
   go_ret
   exact ⟨ret_bool HF.out, BW2.out⟩
set_option maxRecDepth 100000 in
set_option maxHeartbeats 4000000 in
theorem eqf_so (g : Nat) (p : Sou → Sou → Bool) (eg : ∀ args w, (callFunc g args).run Tryz.prog w = .ok (.enter g args) w) (xs ys : List Sou) (r r2 : Option Addr) (c c2 : Nat) (w : World)
   (hI : Sl SoR 7 w (.slice r xs.length c) xs) (hI2 : Sl SoR 7 w (.slice r2 ys.length c2) ys)
   (hp : ∀ (x y : Sou) (u v : Sop) (w : World), VR5 w u.r u.c u.rk u.ck x.v → VR5 w v.r v.c v.rk v.ck y.v → Calls Tryz.prog g #[.agg #[.string x.nm, .int .i64 x.v.kind, .int .i64 x.v.num, .string x.v.str, .slice u.r x.v.items.length u.c, .slice u.rk x.v.keys.length u.ck, .bool x.se], .agg #[.string y.nm, .int .i64 y.v.kind, .int .i64 y.v.num, .string y.v.str, .slice v.r y.v.items.length v.c, .slice v.rk y.v.keys.length v.ck, .bool y.se]] w fun e w' => e = .returned (.bool (p x y)) ∧ Below w.heap.size w w') :
   Calls Tryz.prog 44 #[.slice r xs.length c, .slice r2 ys.length c2, .func (.func g) #[] #[]] w fun e w' => e = .returned (.bool (eqLs p xs ys)) ∧ Below w.heap.size w w' := by
 obtain ⟨_, hlc, hcm⟩ := sl_len hI
 obtain ⟨_, hlc2, hcm2⟩ := sl_len hI2
 have HI := hid hI
 have HI2 := hid hI2
 obtain ⟨R, hR⟩ : ∃ R, eqLs p xs ys = R := ⟨_, rfl⟩
 have HR := hid (show R = true ↔ xs.length = ys.length ∧ ∀ i (h : i < xs.length) (h' : i < ys.length), p xs[i] ys[i] = true from hR ▸ eqLs_true)
 rw [hR]
 have HP := hid hp
 clear hI hI2 hR hp
 by_cases h4 : xs.length = ys.length
 case neg =>
   have HF := hid (show R = false by rw [Bool.eq_false_iff]; intro e; exact h4 (HR.out.1 e).1)
   have e1 : ((xs.length : Int) != (ys.length : Int)) = true := by simp; omega
   have e2 : ((xs.length : Int) == (ys.length : Int)) = false := by simp; omega
   clear h4 HR
   go_enter Tryz.func44, Tryz.ntmps44
   go_wp2
   go_ret
   exact ⟨ret_bool HF.out, Below.refl _ _⟩
 case pos =>
 have e1 : ((xs.length : Int) != (ys.length : Int)) = false := by simp; omega
 have e2 : ((xs.length : Int) == (ys.length : Int)) = true := by simp; omega
 have H4 := hid h4
 clear h4
 go_enter Tryz.func44, Tryz.ntmps44
 go_wp2
 clear e1 e2
 go_loopg [17] xs.length (fun gg s6 wr => ∃ k : Nat, k ≤ xs.length ∧ xs.length - k ≤ gg ∧ s6 = .int .i64 k ∧ Aside (Below w.heap.size w wr) ∧ Aside (∀ i (h : i < xs.length) (h' : i < ys.length), i < k → p xs[i] ys[i] = true))
 case atStart => exact ⟨0, Nat.zero_le _, by omega, rfl, Below.refl _ _, fun i _ _ h => absurd h (by omega)⟩
 case round =>
   obtain ⟨j, hj, hg2, rfl, BW, AL⟩ := hrel
   by_cases hlt : j < xs.length
   case pos =>
     have hltz : (j : Int) < (xs.length : Int) := by omega
     have hj0 : (0 : Int) ≤ (j : Int) := by omega
     have hlt2 : j < ys.length := by have := H4.out; omega
     have hltz2 : (j : Int) < (ys.length : Int) := by omega
     obtain ⟨b, off, u, rfl, hb, g0, g1, g2, g3, g4, g5, g6, hu, h5⟩ := soX (HI.out.below soR_mono BW.out) j hlt
     obtain ⟨b2, off2, v, rfl, hb2, f0, f1, f2, f3, f4, f5, f6, hv, h6⟩ := soX (HI2.out.below soR_mono BW.out) j hlt2
     have h5 := h5.1
     have h6 := h6.1
     rw [hu] at h5
     rw [hv] at h6
     have CC := hid (fun (W : World) (hW : Below wr.heap.size wr W) => HP.out xs[j] ys[j] u v W (h5.below hW) (h6.below hW))
     have HAL := hid (show p xs[j] ys[j] = true → ∀ i (h : i < xs.length) (h' : i < ys.length), i < j + 1 → p xs[i] ys[i] = true from fun hq i h h' hi => by
       by_cases e : i < j
       · exact AL.out i h h' e
       · obtain rfl : i = j := by omega
         exact hq)
     have HF := hid (show p xs[j] ys[j] = false → R = false from fun hq => by
       rw [Bool.eq_false_iff]; intro e
       have := (HR.out.1 e).2 j hlt hlt2
       rw [hq] at this; cases this)
     have BW2 := hid BW.out
     clear BW h5 h6 AL hu hv
     generalize hpq : p xs[j] ys[j] = q at *
     clear hpq
     have B1 := hid (show Below wr.heap.size wr ((wr.alloc (.cells #[.string xs[j].nm, .int .i64 xs[j].v.kind, .int .i64 xs[j].v.num, .string xs[j].v.str, .slice u.r xs[j].v.items.length u.c, .slice u.rk xs[j].v.keys.length u.ck, .bool xs[j].se] 66)).alloc (.cells #[.string ys[j].nm, .int .i64 ys[j].v.kind, .int .i64 ys[j].v.num, .string ys[j].v.str, .slice v.r ys[j].v.items.length v.c, .slice v.rk ys[j].v.keys.length v.ck, .bool ys[j].se] 66)) from ((Below.refl _ _).alloc (Nat.le_refl _) _).alloc (by simp) _)
     generalize xs[j].nm = x0 at *
     generalize ys[j].nm = y0 at *
     generalize xs[j].v.kind = x1 at *
     generalize ys[j].v.kind = y1 at *
     generalize xs[j].v.num = x2 at *
     generalize ys[j].v.num = y2 at *
     generalize xs[j].v.str = x3 at *
     generalize ys[j].v.str = y3 at *
     generalize xs[j].v.items.length = x4 at *
     generalize ys[j].v.items.length = y4 at *
     generalize xs[j].v.keys.length = x5 at *
     generalize ys[j].v.keys.length = y5 at *
     generalize xs[j].se = x6 at *
     generalize ys[j].se = y6 at *
     cases q
     case false =>
       have HF2 := hid (HF.out rfl)
       clear HAL HF
       go_wp2_with (go_at_fn g; refine (CC.out _ B1.out).mono ?_; rintro e w1 ⟨rfl, hb1⟩)
       have B2 := hid (BW2.out.trans ((B1.out.trans (hb1.mono B1.out.size)).mono BW2.out.size))
       clear hb1
       go_ret
       exact ⟨ret_bool HF2.out, B2.out⟩
     case true =>
       have HA := hid (HAL.out rfl)
       clear HAL HF
       go_wp2_with (go_at_fn g; refine (CC.out _ B1.out).mono ?_; rintro e w1 ⟨rfl, hb1⟩)
       have B2 := hid (BW2.out.trans ((B1.out.trans (hb1.mono B1.out.size)).mono BW2.out.size))
       clear hb1
       go_roundg (xs.length - (j + 1))
       case measure => omega
       case rel => exact ⟨j + 1, by omega, by omega, by go_num, B2.out, HA.out⟩
   case neg =>
   have hltz : ¬ (j : Int) < (xs.length : Int) := by omega
   have HF := hid (show R = true from HR.out.2 ⟨H4.out, fun i h h' => AL.out i h h' (by omega)⟩)
   have BW2 := hid BW.out
   clear AL BW
   go_wp2
   go_ret
   exact ⟨ret_bool HF.out, BW2.out⟩
set_option maxRecDepth 100000 in
set_option maxHeartbeats 4000000 in
theorem eq1_any (x y : Sou) (u v : Sop) (w : World) (hx : VR5 w u.r u.c u.rk u.ck x.v) (hy : VR5 w v.r v.c v.rk v.ck y.v) :
   Calls Tryz.prog 45 #[.agg #[.string x.nm, .int .i64 x.v.kind, .int .i64 x.v.num, .string x.v.str, .slice u.r x.v.items.length u.c, .slice u.rk x.v.keys.length u.ck, .bool x.se], .agg #[.string y.nm, .int .i64 y.v.kind, .int .i64 y.v.num, .string y.v.str, .slice v.r y.v.items.length v.c, .slice v.rk y.v.keys.length v.ck, .bool y.se]] w fun e w' => e = .returned (.bool (eqO x y)) ∧ Below w.heap.size w w' := by
 have HV := hid (fun (W : World) (hW : Below w.heap.size w W) => peq_any x.v y.v u.r u.c u.rk u.ck v.r v.c v.rk v.ck W (hx.below hW) (hy.below hW))
 have HQ := hid (show eqO x y = ((x.nm.toList == y.nm.toList) && (x.se == y.se) && eqV x.v y.v) from rfl)
 have B0 := hid (show Below w.heap.size w ((w.alloc (.cells #[.string x.nm, .int .i64 x.v.kind, .int .i64 x.v.num, .string x.v.str, .slice u.r x.v.items.length u.c, .slice u.rk x.v.keys.length u.ck, .bool x.se] 66)).alloc (.cells #[.string y.nm, .int .i64 y.v.kind, .int .i64 y.v.num, .string y.v.str, .slice v.r y.v.items.length v.c, .slice v.rk y.v.keys.length v.ck, .bool y.se] 66)) from ((Below.refl _ _).alloc (Nat.le_refl _) _).alloc (by simp) _)
 obtain ⟨b1, e1⟩ : ∃ e, (x.nm.toList == y.nm.toList) = e := ⟨_, rfl⟩
 obtain ⟨b2, e2⟩ : ∃ e, (x.se == y.se) = e := ⟨_, rfl⟩
 obtain ⟨b3, e3⟩ : ∃ e, eqV x.v y.v = e := ⟨_, rfl⟩
 rw [e1, e2, e3] at HQ
 rw [e3] at HV
 rw [HQ.out]
 clear HQ hx hy e3
 generalize x.v.items.length = x4 at *
 generalize x.v.keys.length = x5 at *
 generalize y.v.items.length = y4 at *
 generalize y.v.keys.length = y5 at *
 cases b1 with
 | false =>
   go_enter Tryz.func45, Tryz.ntmps45
   go_wp2_with fail
   go_ret
   exact ⟨rfl, B0.out⟩
 | true =>
 cases b2 with
 | false =>
   go_enter Tryz.func45, Tryz.ntmps45
   go_wp2_with fail
   go_ret
   exact ⟨rfl, B0.out⟩
 | true =>
   go_enter Tryz.func45, Tryz.ntmps45
   go_wp2_with (go_at_call 46; refine (HV.out _ B0.out).mono ?_; rintro e w1 ⟨rfl, hb1⟩; have B1 := hid (B0.out.trans (hb1.mono B0.out.size)); clear hb1)
   go_ret
   exact ⟨rfl, B1.out⟩
theorem eq_enters : ∀ args w, (callFunc 43 args).run Tryz.prog w = .ok (.enter 43 args) w := enters_of Tryz.func43 (by kernel_rfl) rfl
theorem eq1_enters : ∀ args w, (callFunc 45 args).run Tryz.prog w = .ok (.enter 45 args) w := enters_of Tryz.func45 (by kernel_rfl) rfl
set_option maxRecDepth 100000 in
set_option maxHeartbeats 8000000 in
theorem equal_sta (s t : Sta) (p q : Sp) (w : World) (h : StaP w s p) (h2 : StaP w t q) :
   Calls Tryz.prog 13 #[.agg (staA s p), .agg (staA t q)] w fun e w' => e = .returned (.bool (eqS s t)) ∧ Below w.heap.size w w' := by
 have HPD := hid (fun (W : World) (hW : Below w.heap.size w W) => pdeq_any s.pen t.pen p.rp q.rp p.cp q.cp W (h.2.1.below pdR_mono hW) (h2.2.1.below pdR_mono hW))
 have HIN := hid (fun (W : World) (hW : Below w.heap.size w W) => eqf_in 43 eqI eq_enters s.ins t.ins p.ri q.ri p.ci q.ci W (h.1.below inR_mono hW) (h2.1.below inR_mono hW) (fun x y u v w hx hy => same_any x y u v w hx hy))
 have HSO := hid (fun (W : World) (hW : Below w.heap.size w W) => eqf_so 45 eqO eq1_enters s.out t.out p.ro q.ro p.co q.co W (h.2.2.1.below soR_mono hW) (h2.2.2.1.below soR_mono hW) (fun x y u v w hx hy => eq1_any x y u v w hx hy))
 obtain ⟨W0, hW0, hb0, hz0, hc0, hc2⟩ := two_new' w (.cells #[.string s.lin, .int .i64 s.ser, .slice p.ri s.ins.length p.ci, .slice p.rp s.pen.length p.cp, .slice p.ro s.out.length p.co] 26) (.cells #[.string t.lin, .int .i64 t.ser, .slice q.ri t.ins.length q.ci, .slice q.rp t.pen.length q.cp, .slice q.ro t.out.length q.co] 26)
 have HW0 := hid hW0
 have HB0 := hid hb0
 have s0 : W0.cell? ⟨w.heap.size, 0, none⟩ = some (.string s.lin) := cellv hc0 0 rfl
 have s1 : W0.cell? ⟨w.heap.size, 1, none⟩ = some (.int .i64 s.ser) := cellv hc0 1 rfl
 have s2 : W0.cell? ⟨w.heap.size, 2, none⟩ = some (.slice p.ri s.ins.length p.ci) := cellv hc0 2 rfl
 have s3 : W0.cell? ⟨w.heap.size, 3, none⟩ = some (.slice p.rp s.pen.length p.cp) := cellv hc0 3 rfl
 have s4 : W0.cell? ⟨w.heap.size, 4, none⟩ = some (.slice p.ro s.out.length p.co) := cellv hc0 4 rfl
 have t0 : W0.cell? ⟨w.heap.size + 1, 0, none⟩ = some (.string t.lin) := cellv hc2 0 rfl
 have t1 : W0.cell? ⟨w.heap.size + 1, 1, none⟩ = some (.int .i64 t.ser) := cellv hc2 1 rfl
 have t2 : W0.cell? ⟨w.heap.size + 1, 2, none⟩ = some (.slice q.ri t.ins.length q.ci) := cellv hc2 2 rfl
 have t3 : W0.cell? ⟨w.heap.size + 1, 3, none⟩ = some (.slice q.rp t.pen.length q.cp) := cellv hc2 3 rfl
 have t4 : W0.cell? ⟨w.heap.size + 1, 4, none⟩ = some (.slice q.ro t.out.length q.co) := cellv hc2 4 rfl
 have HCE := hid (fun (W : World) (hW : Below W0.heap.size W0 W) => show W.cell? ⟨w.heap.size, 2, none⟩ = some (.slice p.ri s.ins.length p.ci) ∧ W.cell? ⟨w.heap.size, 4, none⟩ = some (.slice p.ro s.out.length p.co) ∧ W.cell? ⟨w.heap.size + 1, 2, none⟩ = some (.slice q.ri t.ins.length q.ci) ∧ W.cell? ⟨w.heap.size + 1, 4, none⟩ = some (.slice q.ro t.out.length q.co) from ⟨bget hW s2, bget hW s4, bget hW t2, bget hW t4⟩)
 have HG := hid (fun (W : World) (hW : Below W0.heap.size W0 W) => HB0.out.trans (hW.mono HB0.out.size))
 have BC := hid (Below.refl W0.heap.size W0)
 have HQ := hid (show eqS s t = ((s.lin.toList == t.lin.toList) && (s.ser == t.ser) && eqLs eqP s.pen t.pen && eqLs eqI s.ins t.ins && eqLs eqO s.out t.out) from rfl)
 obtain ⟨b1, e1⟩ : ∃ e, (s.lin.toList == t.lin.toList) = e := ⟨_, rfl⟩
 obtain ⟨b2, e2⟩ : ∃ e, (s.ser == t.ser) = e := ⟨_, rfl⟩
 obtain ⟨b3, e3⟩ : ∃ e, eqLs eqP s.pen t.pen = e := ⟨_, rfl⟩
 obtain ⟨b4, e4⟩ : ∃ e, eqLs eqI s.ins t.ins = e := ⟨_, rfl⟩
 obtain ⟨b5, e5⟩ : ∃ e, eqLs eqO s.out t.out = e := ⟨_, rfl⟩
 rw [e1, e2, e3, e4, e5] at HQ
 rw [e3] at HPD
 rw [e4] at HIN
 rw [e5] at HSO
 rw [HQ.out]
 clear HQ h h2 e3 e4 e5 hc0 hc2 hz0 hb0 hW0
 unfold staA
 cases b1 with
 | false =>
   go_enter Tryz.func13, Tryz.ntmps13
   go_upto_region 1 with (fail)
   rw [← HW0.out]
   clear HW0
   go_wp2_with (first | (go_at_call 41; refine (HPD.out _ (HG.out _ BC.out)).mono ?_; rintro e w1 ⟨rfl, hb1⟩; have BC := hid (BC.out.trans (hb1.mono BC.out.size)); clear hb1; obtain ⟨s2, s4, t2, t4⟩ := HCE.out _ BC.out) | (go_at_call 42; refine (HIN.out _ (HG.out _ BC.out)).mono ?_; rintro e w1 ⟨rfl, hb1⟩; have BC := hid (BC.out.trans (hb1.mono BC.out.size)); clear hb1; obtain ⟨s2, s4, t2, t4⟩ := HCE.out _ BC.out) | (go_at_call 44; refine (HSO.out _ (HG.out _ BC.out)).mono ?_; rintro e w1 ⟨rfl, hb1⟩; have BC := hid (BC.out.trans (hb1.mono BC.out.size)); clear hb1))
   go_ret
   exact ⟨rfl, HG.out _ BC.out⟩
 | true =>
 cases b2 with
 | false =>
   go_enter Tryz.func13, Tryz.ntmps13
   go_upto_region 1 with (fail)
   rw [← HW0.out]
   clear HW0
   go_wp2_with (first | (go_at_call 41; refine (HPD.out _ (HG.out _ BC.out)).mono ?_; rintro e w1 ⟨rfl, hb1⟩; have BC := hid (BC.out.trans (hb1.mono BC.out.size)); clear hb1; obtain ⟨s2, s4, t2, t4⟩ := HCE.out _ BC.out) | (go_at_call 42; refine (HIN.out _ (HG.out _ BC.out)).mono ?_; rintro e w1 ⟨rfl, hb1⟩; have BC := hid (BC.out.trans (hb1.mono BC.out.size)); clear hb1; obtain ⟨s2, s4, t2, t4⟩ := HCE.out _ BC.out) | (go_at_call 44; refine (HSO.out _ (HG.out _ BC.out)).mono ?_; rintro e w1 ⟨rfl, hb1⟩; have BC := hid (BC.out.trans (hb1.mono BC.out.size)); clear hb1))
   go_ret
   exact ⟨rfl, HG.out _ BC.out⟩
 | true =>
 cases b3 with
 | false =>
   go_enter Tryz.func13, Tryz.ntmps13
   go_upto_region 1 with (fail)
   rw [← HW0.out]
   clear HW0
   go_wp2_with (first | (go_at_call 41; refine (HPD.out _ (HG.out _ BC.out)).mono ?_; rintro e w1 ⟨rfl, hb1⟩; have BC := hid (BC.out.trans (hb1.mono BC.out.size)); clear hb1; obtain ⟨s2, s4, t2, t4⟩ := HCE.out _ BC.out) | (go_at_call 42; refine (HIN.out _ (HG.out _ BC.out)).mono ?_; rintro e w1 ⟨rfl, hb1⟩; have BC := hid (BC.out.trans (hb1.mono BC.out.size)); clear hb1; obtain ⟨s2, s4, t2, t4⟩ := HCE.out _ BC.out) | (go_at_call 44; refine (HSO.out _ (HG.out _ BC.out)).mono ?_; rintro e w1 ⟨rfl, hb1⟩; have BC := hid (BC.out.trans (hb1.mono BC.out.size)); clear hb1))
   go_ret
   exact ⟨rfl, HG.out _ BC.out⟩
 | true =>
 cases b4 with
 | false =>
   go_enter Tryz.func13, Tryz.ntmps13
   go_upto_region 1 with (fail)
   rw [← HW0.out]
   clear HW0
   go_wp2_with (first | (go_at_call 41; refine (HPD.out _ (HG.out _ BC.out)).mono ?_; rintro e w1 ⟨rfl, hb1⟩; have BC := hid (BC.out.trans (hb1.mono BC.out.size)); clear hb1; obtain ⟨s2, s4, t2, t4⟩ := HCE.out _ BC.out) | (go_at_call 42; refine (HIN.out _ (HG.out _ BC.out)).mono ?_; rintro e w1 ⟨rfl, hb1⟩; have BC := hid (BC.out.trans (hb1.mono BC.out.size)); clear hb1; obtain ⟨s2, s4, t2, t4⟩ := HCE.out _ BC.out) | (go_at_call 44; refine (HSO.out _ (HG.out _ BC.out)).mono ?_; rintro e w1 ⟨rfl, hb1⟩; have BC := hid (BC.out.trans (hb1.mono BC.out.size)); clear hb1))
   go_ret
   exact ⟨rfl, HG.out _ BC.out⟩
 | true =>
 cases b5 with
 | false =>
   go_enter Tryz.func13, Tryz.ntmps13
   go_upto_region 1 with (fail)
   rw [← HW0.out]
   clear HW0
   go_wp2_with (first | (go_at_call 41; refine (HPD.out _ (HG.out _ BC.out)).mono ?_; rintro e w1 ⟨rfl, hb1⟩; have BC := hid (BC.out.trans (hb1.mono BC.out.size)); clear hb1; obtain ⟨s2, s4, t2, t4⟩ := HCE.out _ BC.out) | (go_at_call 42; refine (HIN.out _ (HG.out _ BC.out)).mono ?_; rintro e w1 ⟨rfl, hb1⟩; have BC := hid (BC.out.trans (hb1.mono BC.out.size)); clear hb1; obtain ⟨s2, s4, t2, t4⟩ := HCE.out _ BC.out) | (go_at_call 44; refine (HSO.out _ (HG.out _ BC.out)).mono ?_; rintro e w1 ⟨rfl, hb1⟩; have BC := hid (BC.out.trans (hb1.mono BC.out.size)); clear hb1))
   go_ret
   exact ⟨rfl, HG.out _ BC.out⟩
 | true =>
 go_enter Tryz.func13, Tryz.ntmps13
 go_upto_region 1 with (fail)
 rw [← HW0.out]
 clear HW0
 go_wp2_with (first | (go_at_call 41; refine (HPD.out _ (HG.out _ BC.out)).mono ?_; rintro e w1 ⟨rfl, hb1⟩; have BC := hid (BC.out.trans (hb1.mono BC.out.size)); clear hb1; obtain ⟨s2, s4, t2, t4⟩ := HCE.out _ BC.out) | (go_at_call 42; refine (HIN.out _ (HG.out _ BC.out)).mono ?_; rintro e w1 ⟨rfl, hb1⟩; have BC := hid (BC.out.trans (hb1.mono BC.out.size)); clear hb1; obtain ⟨s2, s4, t2, t4⟩ := HCE.out _ BC.out) | (go_at_call 44; refine (HSO.out _ (HG.out _ BC.out)).mono ?_; rintro e w1 ⟨rfl, hb1⟩; have BC := hid (BC.out.trans (hb1.mono BC.out.size)); clear hb1))
 go_ret
 exact ⟨rfl, HG.out _ BC.out⟩
end Go.Proofs.YtomhbcfjhgecbaaGreatDoor
namespace Go.Proofs.YtomhbcfjhgecbaaGreatDoor
open Go.RowKit Go.Sort Go.Lib
open Go.Lib (hid)
attribute [local go_sem] Stp.frUpon
attribute [local go_sem ↓] ldI_eq
attribute [local go_sem] ldI_run
attribute [local go_sem ↓] stI_eq
attribute [local go_sem] stI_run thereI_drew thereI_new put13_drew put13_new liesI_new rd13_new liesI_drew rd13_drew
set_option maxRecDepth 100000 in
set_option maxHeartbeats 4000000 in
theorem rsame_any (ks ks2 : List ByteArray) (rk rk2 : Option Addr) (ck ck2 : Nat) (w : World) (hK : Sl StrR 1 w (.slice rk ks.length ck) ks) (hK2 : Sl StrR 1 w (.slice rk2 ks2.length ck2) ks2) :
   Calls Tryz.prog 28 #[.slice rk ks.length ck, .slice rk2 ks2.length ck2] w fun e w' => e = .returned (.bool (decide (ks = ks2))) ∧ Below w.heap.size w w' := by
 obtain ⟨_, hlk, hkm⟩ := sl_len hK
 obtain ⟨_, hlk2, hkm2⟩ := sl_len hK2
 have HK := hid hK
 have HK2 := hid hK2
 clear hK hK2
 by_cases h5 : ks.length = ks2.length
 case neg =>
   have HF := hid (decide_eq_false (show ¬ ks = ks2 from fun e => h5 (by rw [e])))
   have e1 : ((ks.length : Int) != (ks2.length : Int)) = true := by simp; omega
   have e2 : ((ks.length : Int) == (ks2.length : Int)) = false := by simp; omega
   clear h5
   go_enter Tryz.func28, Tryz.ntmps28
   go_wp2
   go_ret
   exact ⟨ret_bool HF.out, Below.refl _ _⟩
 case pos =>
 have e1 : ((ks.length : Int) != (ks2.length : Int)) = false := by simp; omega
 have e2 : ((ks.length : Int) == (ks2.length : Int)) = true := by simp; omega
 have H5 := hid h5
 clear h5
 go_enter Tryz.func28, Tryz.ntmps28
 go_wp2
 clear e1 e2
 go_loopg [5] ks.length (fun gg s5 wr => ∃ k : Nat, k ≤ ks.length ∧ ks.length - k ≤ gg ∧ s5 = .int .i64 k ∧ Hid (Below w.heap.size w wr) ∧ Hid (∀ i (h : i < ks.length) (h' : i < ks2.length), i < k → ks[i] = ks2[i]))
 case atStart => exact ⟨0, Nat.zero_le _, by omega, rfl, hid (Below.refl _ _), hid fun i _ _ h => absurd h (by omega)⟩
 case round =>
   obtain ⟨k, hk, hg, rfl, BW, AL⟩ := hrel
   by_cases hlt : k < ks.length
   case pos =>
     have hltz : (k : Int) < (ks.length : Int) := by omega
     have hlt2 : k < ks2.length := by have := H5.out; omega
     have hltz2 : (k : Int) < (ks2.length : Int) := by omega
     have HKx := HK.out.below strR_mono BW.out
     have HKy := HK2.out.below strR_mono BW.out
     obtain ⟨b, off, rfl, hb, g0, _⟩ := str_at HKx k hlt
     obtain ⟨b2, off2, rfl, hb2, g1, _⟩ := str_at HKy k hlt2
     clear HKx HKy
     by_cases hq : ks[k] = ks2[k]
     · have AL2 := hid (show ∀ i (h : i < ks.length) (h' : i < ks2.length), i < k + 1 → ks[i] = ks2[i] from fun i h h' hi => by
         by_cases e : i < k
         · exact AL.out i h h' e
         · obtain rfl : i = k := by omega
           exact hq)
       clear AL
       rw [← hq] at g1
       clear hq
       generalize ks[k] = kx at *
       go_wp2
       go_quiet (fail)
       have BV := hid (bel_drewN BW.out nq)
       go_wp2
       go_roundg (ks.length - (k + 1))
       case measure => omega
       case rel => exact ⟨k + 1, by omega, by omega, by go_num, BV, AL2⟩
     · have HF := hid (decide_eq_false (show ¬ ks = ks2 from fun e => hq (by simp only [e])))
       have e1 := str_ne' hq
       have e2 := str_ne hq
       clear AL hq
       generalize ks[k] = kx at *
       generalize ks2[k] = ky at *
       go_wp2
       go_quiet (fail)
       have BV := hid (bel_drewN BW.out nq)
       go_wp2
       go_ret
       exact ⟨ret_bool HF.out, BV.out⟩
   case neg =>
   have hltz : ¬ (k : Int) < (ks.length : Int) := by omega
   have HF := hid (decide_eq_true (show ks = ks2 from keys_eq_of H5.out fun i h h' => AL.out i h h' (by omega)))
   clear AL
   go_wp2
   go_ret
   exact ⟨ret_bool HF.out, BW.out⟩
theorem eqI_ref (x y : Ins) : eqI x y = ((x.ad.toList == y.ad.toList) && (x.de.toList == y.de.toList) && (x.id.toList == y.id.toList) && (x.ty.toList == y.ty.toList) && eqV x.at_ y.at_ && (x.ver == y.ver) && (x.ta == y.ta) && (x.cf == y.cf) && decide (x.dp = y.dp)) := by
 unfold eqI
 generalize (x.ad.toList == y.ad.toList) = a1
 generalize (x.de.toList == y.de.toList) = a2
 generalize (x.id.toList == y.id.toList) = a3
 generalize (x.ty.toList == y.ty.toList) = a4
 generalize eqV x.at_ y.at_ = a5
 generalize (x.ver == y.ver) = a6
 generalize (x.ta == y.ta) = a7
 generalize (x.cf == y.cf) = a8
 generalize decide (x.dp = y.dp) = a9
 cases a5 <;> cases a1 <;> cases a2 <;> cases a3 <;> cases a4 <;> simp
set_option maxRecDepth 100000 in
set_option maxHeartbeats 8000000 in
theorem reqi_any (x y : Ins) (p q : Pt) (w : World) (hx : InsP w x p) (hy : InsP w y q) :
   Calls Tryz.prog 22 #[.agg (insA x p), .agg (insA y q)] w fun e w' => e = .returned (.bool (eqI x y)) ∧ Below w.heap.size w w' := by
 have HV := hid (fun (W : World) (hW : Below w.heap.size w W) => req_any x.at_ y.at_ p.r p.c p.rk p.ck q.r q.c q.rk q.ck W (hx.1.below hW) (hy.1.below hW))
 have HD := hid (fun (W : World) (hW : Below w.heap.size w W) => rsame_any x.dp y.dp p.dr q.dr p.dc q.dc W (hx.2.1.below strR_mono hW) (hy.2.1.below strR_mono hW))
 obtain ⟨W0, hW0, hb0, hz0, hc0, hc2⟩ := two_new' w (.cells (insA x p) 41) (.cells (insA y q) 41)
 have HW0 := hid hW0
 have HB0 := hid hb0
 have u0 : W0.cell? ⟨w.heap.size, 0, none⟩ = some (.string x.ad) := cellv hc0 0 rfl
 have u1 : W0.cell? ⟨w.heap.size, 1, none⟩ = some (.string x.de) := cellv hc0 1 rfl
 have u2 : W0.cell? ⟨w.heap.size, 2, none⟩ = some (.string x.id) := cellv hc0 2 rfl
 have u3 : W0.cell? ⟨w.heap.size, 3, none⟩ = some (.string x.ty) := cellv hc0 3 rfl
 have u4 : W0.cell? ⟨w.heap.size, 4, none⟩ = some (.int .i64 x.at_.kind) := cellv hc0 4 rfl
 have u5 : W0.cell? ⟨w.heap.size, 5, none⟩ = some (.int .i64 x.at_.num) := cellv hc0 5 rfl
 have u6 : W0.cell? ⟨w.heap.size, 6, none⟩ = some (.string x.at_.str) := cellv hc0 6 rfl
 have u7 : W0.cell? ⟨w.heap.size, 7, none⟩ = some (.slice p.r x.at_.items.length p.c) := cellv hc0 7 rfl
 have u8 : W0.cell? ⟨w.heap.size, 8, none⟩ = some (.slice p.rk x.at_.keys.length p.ck) := cellv hc0 8 rfl
 have u9 : W0.cell? ⟨w.heap.size, 9, none⟩ = some (.int .i64 x.ver) := cellv hc0 9 rfl
 have u10 : W0.cell? ⟨w.heap.size, 10, none⟩ = some (.bool x.ta) := cellv hc0 10 rfl
 have u11 : W0.cell? ⟨w.heap.size, 11, none⟩ = some (.bool x.cf) := cellv hc0 11 rfl
 have u12 : W0.cell? ⟨w.heap.size, 12, none⟩ = some (.slice p.dr x.dp.length p.dc) := cellv hc0 12 rfl
 have v0 : W0.cell? ⟨w.heap.size + 1, 0, none⟩ = some (.string y.ad) := cellv hc2 0 rfl
 have v1 : W0.cell? ⟨w.heap.size + 1, 1, none⟩ = some (.string y.de) := cellv hc2 1 rfl
 have v2 : W0.cell? ⟨w.heap.size + 1, 2, none⟩ = some (.string y.id) := cellv hc2 2 rfl
 have v3 : W0.cell? ⟨w.heap.size + 1, 3, none⟩ = some (.string y.ty) := cellv hc2 3 rfl
 have v4 : W0.cell? ⟨w.heap.size + 1, 4, none⟩ = some (.int .i64 y.at_.kind) := cellv hc2 4 rfl
 have v5 : W0.cell? ⟨w.heap.size + 1, 5, none⟩ = some (.int .i64 y.at_.num) := cellv hc2 5 rfl
 have v6 : W0.cell? ⟨w.heap.size + 1, 6, none⟩ = some (.string y.at_.str) := cellv hc2 6 rfl
 have v7 : W0.cell? ⟨w.heap.size + 1, 7, none⟩ = some (.slice q.r y.at_.items.length q.c) := cellv hc2 7 rfl
 have v8 : W0.cell? ⟨w.heap.size + 1, 8, none⟩ = some (.slice q.rk y.at_.keys.length q.ck) := cellv hc2 8 rfl
 have v9 : W0.cell? ⟨w.heap.size + 1, 9, none⟩ = some (.int .i64 y.ver) := cellv hc2 9 rfl
 have v10 : W0.cell? ⟨w.heap.size + 1, 10, none⟩ = some (.bool y.ta) := cellv hc2 10 rfl
 have v11 : W0.cell? ⟨w.heap.size + 1, 11, none⟩ = some (.bool y.cf) := cellv hc2 11 rfl
 have v12 : W0.cell? ⟨w.heap.size + 1, 12, none⟩ = some (.slice q.dr y.dp.length q.dc) := cellv hc2 12 rfl
 have HCE := hid (fun (W : World) (hW : Below W0.heap.size W0 W) => show W.cell? ⟨w.heap.size, 9, none⟩ = some (.int .i64 x.ver) ∧ W.cell? ⟨w.heap.size, 10, none⟩ = some (.bool x.ta) ∧ W.cell? ⟨w.heap.size, 11, none⟩ = some (.bool x.cf) ∧ W.cell? ⟨w.heap.size, 12, none⟩ = some (.slice p.dr x.dp.length p.dc) ∧ W.cell? ⟨w.heap.size + 1, 9, none⟩ = some (.int .i64 y.ver) ∧ W.cell? ⟨w.heap.size + 1, 10, none⟩ = some (.bool y.ta) ∧ W.cell? ⟨w.heap.size + 1, 11, none⟩ = some (.bool y.cf) ∧ W.cell? ⟨w.heap.size + 1, 12, none⟩ = some (.slice q.dr y.dp.length q.dc) from ⟨bget hW u9, bget hW u10, bget hW u11, bget hW u12, bget hW v9, bget hW v10, bget hW v11, bget hW v12⟩)
 have HG := hid (fun (W : World) (hW : Below W0.heap.size W0 W) => HB0.out.trans (hW.mono HB0.out.size))
 have BC := hid (Below.refl W0.heap.size W0)
 rw [eqI_ref]
 obtain ⟨b1, e1⟩ : ∃ e, (x.ad.toList == y.ad.toList) = e := ⟨_, rfl⟩
 obtain ⟨b2, e2⟩ : ∃ e, (x.de.toList == y.de.toList) = e := ⟨_, rfl⟩
 obtain ⟨b3, e3⟩ : ∃ e, (x.id.toList == y.id.toList) = e := ⟨_, rfl⟩
 obtain ⟨b4, e4⟩ : ∃ e, (x.ty.toList == y.ty.toList) = e := ⟨_, rfl⟩
 obtain ⟨b5, e5⟩ : ∃ e, eqV x.at_ y.at_ = e := ⟨_, rfl⟩
 obtain ⟨b6, e6⟩ : ∃ e, (x.ver == y.ver) = e := ⟨_, rfl⟩
 obtain ⟨b7, e7⟩ : ∃ e, (x.ta == y.ta) = e := ⟨_, rfl⟩
 obtain ⟨b8, e8⟩ : ∃ e, (x.cf == y.cf) = e := ⟨_, rfl⟩
 obtain ⟨b9, e9⟩ : ∃ e, decide (x.dp = y.dp) = e := ⟨_, rfl⟩
 rw [e1, e2, e3, e4, e5, e6, e7, e8, e9]
 rw [e5] at HV
 rw [e9] at HD
 clear hx hy hc0 hc2 hz0 hb0 hW0 e5 e9
 unfold insA
 go_enter Tryz.func22, Tryz.ntmps22
 go_upto_region 1 with (fail)
 have hW0 := HW0.out
 unfold insA at hW0
 rw [← hW0]
 clear hW0 HW0
 cases b1 with
 | false =>
   go_wp2_with (first | (go_at_call 47; refine (HV.out _ (HG.out _ BC.out)).mono ?_; rintro e w1 ⟨rfl, hb1⟩; have BC := hid (BC.out.trans (hb1.mono BC.out.size)); clear hb1; obtain ⟨u9, u10, u11, u12, v9, v10, v11, v12⟩ := HCE.out _ BC.out) | (go_at_call 28; refine (HD.out _ (HG.out _ BC.out)).mono ?_; rintro e w1 ⟨rfl, hb1⟩; have BC := hid (BC.out.trans (hb1.mono BC.out.size)); clear hb1))
   go_ret
   exact ⟨rfl, HG.out _ BC.out⟩
 | true =>
 cases b2 with
 | false =>
   go_wp2_with (first | (go_at_call 47; refine (HV.out _ (HG.out _ BC.out)).mono ?_; rintro e w1 ⟨rfl, hb1⟩; have BC := hid (BC.out.trans (hb1.mono BC.out.size)); clear hb1; obtain ⟨u9, u10, u11, u12, v9, v10, v11, v12⟩ := HCE.out _ BC.out) | (go_at_call 28; refine (HD.out _ (HG.out _ BC.out)).mono ?_; rintro e w1 ⟨rfl, hb1⟩; have BC := hid (BC.out.trans (hb1.mono BC.out.size)); clear hb1))
   go_ret
   exact ⟨rfl, HG.out _ BC.out⟩
 | true =>
 cases b3 with
 | false =>
   go_wp2_with (first | (go_at_call 47; refine (HV.out _ (HG.out _ BC.out)).mono ?_; rintro e w1 ⟨rfl, hb1⟩; have BC := hid (BC.out.trans (hb1.mono BC.out.size)); clear hb1; obtain ⟨u9, u10, u11, u12, v9, v10, v11, v12⟩ := HCE.out _ BC.out) | (go_at_call 28; refine (HD.out _ (HG.out _ BC.out)).mono ?_; rintro e w1 ⟨rfl, hb1⟩; have BC := hid (BC.out.trans (hb1.mono BC.out.size)); clear hb1))
   go_ret
   exact ⟨rfl, HG.out _ BC.out⟩
 | true =>
 cases b4 with
 | false =>
   go_wp2_with (first | (go_at_call 47; refine (HV.out _ (HG.out _ BC.out)).mono ?_; rintro e w1 ⟨rfl, hb1⟩; have BC := hid (BC.out.trans (hb1.mono BC.out.size)); clear hb1; obtain ⟨u9, u10, u11, u12, v9, v10, v11, v12⟩ := HCE.out _ BC.out) | (go_at_call 28; refine (HD.out _ (HG.out _ BC.out)).mono ?_; rintro e w1 ⟨rfl, hb1⟩; have BC := hid (BC.out.trans (hb1.mono BC.out.size)); clear hb1))
   go_ret
   exact ⟨rfl, HG.out _ BC.out⟩
 | true =>
 cases b5 with
 | false =>
   go_wp2_with (first | (go_at_call 47; refine (HV.out _ (HG.out _ BC.out)).mono ?_; rintro e w1 ⟨rfl, hb1⟩; have BC := hid (BC.out.trans (hb1.mono BC.out.size)); clear hb1; obtain ⟨u9, u10, u11, u12, v9, v10, v11, v12⟩ := HCE.out _ BC.out) | (go_at_call 28; refine (HD.out _ (HG.out _ BC.out)).mono ?_; rintro e w1 ⟨rfl, hb1⟩; have BC := hid (BC.out.trans (hb1.mono BC.out.size)); clear hb1))
   go_ret
   exact ⟨rfl, HG.out _ BC.out⟩
 | true =>
 cases b6 with
 | false =>
   go_wp2_with (first | (go_at_call 47; refine (HV.out _ (HG.out _ BC.out)).mono ?_; rintro e w1 ⟨rfl, hb1⟩; have BC := hid (BC.out.trans (hb1.mono BC.out.size)); clear hb1; obtain ⟨u9, u10, u11, u12, v9, v10, v11, v12⟩ := HCE.out _ BC.out) | (go_at_call 28; refine (HD.out _ (HG.out _ BC.out)).mono ?_; rintro e w1 ⟨rfl, hb1⟩; have BC := hid (BC.out.trans (hb1.mono BC.out.size)); clear hb1))
   go_ret
   exact ⟨rfl, HG.out _ BC.out⟩
 | true =>
 cases b7 with
 | false =>
   go_wp2_with (first | (go_at_call 47; refine (HV.out _ (HG.out _ BC.out)).mono ?_; rintro e w1 ⟨rfl, hb1⟩; have BC := hid (BC.out.trans (hb1.mono BC.out.size)); clear hb1; obtain ⟨u9, u10, u11, u12, v9, v10, v11, v12⟩ := HCE.out _ BC.out) | (go_at_call 28; refine (HD.out _ (HG.out _ BC.out)).mono ?_; rintro e w1 ⟨rfl, hb1⟩; have BC := hid (BC.out.trans (hb1.mono BC.out.size)); clear hb1))
   go_ret
   exact ⟨rfl, HG.out _ BC.out⟩
 | true =>
 cases b8 with
 | false =>
   go_wp2_with (first | (go_at_call 47; refine (HV.out _ (HG.out _ BC.out)).mono ?_; rintro e w1 ⟨rfl, hb1⟩; have BC := hid (BC.out.trans (hb1.mono BC.out.size)); clear hb1; obtain ⟨u9, u10, u11, u12, v9, v10, v11, v12⟩ := HCE.out _ BC.out) | (go_at_call 28; refine (HD.out _ (HG.out _ BC.out)).mono ?_; rintro e w1 ⟨rfl, hb1⟩; have BC := hid (BC.out.trans (hb1.mono BC.out.size)); clear hb1))
   go_ret
   exact ⟨rfl, HG.out _ BC.out⟩
 | true =>
 cases b9 with
 | false =>
   go_wp2_with (first | (go_at_call 47; refine (HV.out _ (HG.out _ BC.out)).mono ?_; rintro e w1 ⟨rfl, hb1⟩; have BC := hid (BC.out.trans (hb1.mono BC.out.size)); clear hb1; obtain ⟨u9, u10, u11, u12, v9, v10, v11, v12⟩ := HCE.out _ BC.out) | (go_at_call 28; refine (HD.out _ (HG.out _ BC.out)).mono ?_; rintro e w1 ⟨rfl, hb1⟩; have BC := hid (BC.out.trans (hb1.mono BC.out.size)); clear hb1))
   go_ret
   exact ⟨rfl, HG.out _ BC.out⟩
 | true =>
 go_wp2_with (first | (go_at_call 47; refine (HV.out _ (HG.out _ BC.out)).mono ?_; rintro e w1 ⟨rfl, hb1⟩; have BC := hid (BC.out.trans (hb1.mono BC.out.size)); clear hb1; obtain ⟨u9, u10, u11, u12, v9, v10, v11, v12⟩ := HCE.out _ BC.out) | (go_at_call 28; refine (HD.out _ (HG.out _ BC.out)).mono ?_; rintro e w1 ⟨rfl, hb1⟩; have BC := hid (BC.out.trans (hb1.mono BC.out.size)); clear hb1))
 go_ret
 exact ⟨rfl, HG.out _ BC.out⟩
end Go.Proofs.YtomhbcfjhgecbaaGreatDoor
namespace Go.Proofs.YtomhbcfjhgecbaaGreatDoor
open Go.RowKit Go.Sort Go.Lib
open Go.Lib (hid)
attribute [local go_sem] Stp.frUpon
attribute [local go_sem ↓] ldI_eq
attribute [local go_sem] ldI_run
attribute [local go_sem ↓] stI_eq
attribute [local go_sem] stI_run thereI_drew thereI_new put13_drew put13_new liesI_new rd13_new liesI_drew rd13_drew
namespace Stp
def sPtr (o : Obj) : Spc := ⟨fun v => ∃ b, v = .pointer (some ⟨b, 0, none⟩), fun v w => ∃ b, v = .pointer (some ⟨b, 0, none⟩) ∧ w.heap[b]? = some o⟩
theorem stPtr (o : Obj) : ∀ v, Stb ((sPtr o).R v) := fun _ _ _ ⟨b, e, h⟩ hl => ⟨b, e, (Below.block hl b (lt_of_blk h)).trans h⟩
theorem sPtr_at {b : Nat} {o : Obj} {w : World} (h : (sPtr o).R (.pointer (some ⟨b, 0, none⟩)) w) : w.heap[b]? = some o := by
 obtain ⟨b', e, h1⟩ := h
 simp at e
 subst e
 exact h1
end Stp
open Stp (wp_region_fresh Spc Stb sVal sBool sPtr stPtr sPtr_at stTrue Lat Bef grw_below wpF_quiet grw_ex wpF_told wpF_put wpF_nil wpF_skip noEnter_op)
theorem eqLs_at {α : Type} {p : α → α → Bool} {a b : List α} {k : Nat} (h : k < a.length) (h' : k < b.length) (hk : p a[k] b[k] = false) : eqLs p a b = false := by
 rw [Bool.eq_false_iff]
 intro e
 have := (eqLs_true.1 e).2 k h h'
 rw [hk] at this; cases this
theorem eqLs_len {α : Type} {p : α → α → Bool} {a b : List α} (h : a.length ≠ b.length) : eqLs p a b = false := by
 rw [Bool.eq_false_iff]
 intro e
 exact h (eqLs_true.1 e).1
set_option maxRecDepth 100000 in
set_option maxHeartbeats 16000000 in
theorem requal_sta (s t : Sta) (p q : Sp) (w : World) (h : StaP w s p) (h2 : StaP w t q) :
   Calls Tryz.prog 14 #[.agg (staA s p), .agg (staA t q)] w fun e w' => e = .returned (.bool (eqS s t)) ∧ Below w.heap.size w w' := by
 obtain ⟨ari, aci, arp, acp, aro, aco⟩ := p
 obtain ⟨bri, bci, brp, bcp, bro, bco⟩ := q
 have HIA := hid (fun (W : World) (hW : Below w.heap.size w W) => in_at (h.1.below inR_mono hW))
 have HIB := hid (fun (W : World) (hW : Below w.heap.size w W) => in_at (h2.1.below inR_mono hW))
 have HPA := hid (fun (W : World) (hW : Below w.heap.size w W) => pnd_at (h.2.1.below pdR_mono hW))
 have HPB := hid (fun (W : World) (hW : Below w.heap.size w W) => pnd_at (h2.2.1.below pdR_mono hW))
 have HOA := hid (fun (W : World) (hW : Below w.heap.size w W) => soX (h.2.2.1.below soR_mono hW))
 have HOB := hid (fun (W : World) (hW : Below w.heap.size w W) => soX (h2.2.2.1.below soR_mono hW))
 obtain ⟨_, hlc1, hlm1⟩ := sl_len h.1
 obtain ⟨_, hlc2, hlm2⟩ := sl_len h.2.1
 obtain ⟨_, hlc3, hlm3⟩ := sl_len h.2.2.1
 dsimp only at HIA HIB HPA HPB HOA HOB
 obtain ⟨W0, hW0, hb0, hz0, hc0, hc2⟩ := two_new' w (.cells #[.string s.lin, .int .i64 s.ser, .slice ari s.ins.length aci, .slice arp s.pen.length acp, .slice aro s.out.length aco] 26) (.cells #[.string t.lin, .int .i64 t.ser, .slice bri t.ins.length bci, .slice brp t.pen.length bcp, .slice bro t.out.length bco] 26)
 have HW0 := hid hW0
 have HB0 := hid hb0
 have s0 : W0.cell? ⟨w.heap.size, 0, none⟩ = some (.string s.lin) := cellv hc0 0 rfl
 have s1 : W0.cell? ⟨w.heap.size, 1, none⟩ = some (.int .i64 s.ser) := cellv hc0 1 rfl
 have s2 : W0.cell? ⟨w.heap.size, 2, none⟩ = some (.slice ari s.ins.length aci) := cellv hc0 2 rfl
 have s3 : W0.cell? ⟨w.heap.size, 3, none⟩ = some (.slice arp s.pen.length acp) := cellv hc0 3 rfl
 have s4 : W0.cell? ⟨w.heap.size, 4, none⟩ = some (.slice aro s.out.length aco) := cellv hc0 4 rfl
 have t0 : W0.cell? ⟨w.heap.size + 1, 0, none⟩ = some (.string t.lin) := cellv hc2 0 rfl
 have t1 : W0.cell? ⟨w.heap.size + 1, 1, none⟩ = some (.int .i64 t.ser) := cellv hc2 1 rfl
 have t2 : W0.cell? ⟨w.heap.size + 1, 2, none⟩ = some (.slice bri t.ins.length bci) := cellv hc2 2 rfl
 have t3 : W0.cell? ⟨w.heap.size + 1, 3, none⟩ = some (.slice brp t.pen.length bcp) := cellv hc2 3 rfl
 have t4 : W0.cell? ⟨w.heap.size + 1, 4, none⟩ = some (.slice bro t.out.length bco) := cellv hc2 4 rfl
 have HCE := hid (fun (W : World) (hW : Below W0.heap.size W0 W) => show W.cell? ⟨w.heap.size, 2, none⟩ = some (.slice ari s.ins.length aci) ∧ W.cell? ⟨w.heap.size, 3, none⟩ = some (.slice arp s.pen.length acp) ∧ W.cell? ⟨w.heap.size, 4, none⟩ = some (.slice aro s.out.length aco) ∧ W.cell? ⟨w.heap.size + 1, 2, none⟩ = some (.slice bri t.ins.length bci) ∧ W.cell? ⟨w.heap.size + 1, 3, none⟩ = some (.slice brp t.pen.length bcp) ∧ W.cell? ⟨w.heap.size + 1, 4, none⟩ = some (.slice bro t.out.length bco) from ⟨bget hW s2, bget hW s3, bget hW s4, bget hW t2, bget hW t3, bget hW t4⟩)
 have HG := hid (fun (W : World) (hW : Below W0.heap.size W0 W) => HB0.out.trans (hW.mono HB0.out.size))
 have HQ := hid (show eqS s t = ((s.lin.toList == t.lin.toList) && (s.ser == t.ser) && eqLs eqP s.pen t.pen && eqLs eqI s.ins t.ins && eqLs eqO s.out t.out) from rfl)
 clear h h2 hc0 hc2 hz0 hb0 hW0
 generalize eqS s t = R at *
 unfold staA
 go_enter Tryz.func14, Tryz.ntmps14
 go_upto_region 1 with (fail)
 rw [← HW0.out]
 clear HW0
 by_cases d1 : s.lin = t.lin
 case neg =>
   have n1 := str_ne' d1
   have n2 := str_ne d1
   have HF := hid (show R = false by rw [HQ.out, n2]; rfl)
   clear d1 HQ
   go_wp2_with fail
   go_ret
   exact ⟨ret_bool HF.out, HB0.out⟩
 case pos =>
 have n1 : (s.lin.toList != t.lin.toList) = false := by rw [d1]; simp
 have n2 : (s.lin.toList == t.lin.toList) = true := by rw [d1]; simp
 rw [n2] at HQ
 clear d1
 by_cases d2 : s.ser = t.ser
 case neg =>
   have m1 : (s.ser != t.ser) = true := by simp [d2]
   have m2 : (s.ser == t.ser) = false := by simp [d2]
   have HF := hid (show R = false by rw [HQ.out, m2]; rfl)
   clear d2 HQ
   go_wp2_with fail
   go_ret
   exact ⟨ret_bool HF.out, HB0.out⟩
 case pos =>
 have m1 : (s.ser != t.ser) = false := by simp [d2]
 have m2 : (s.ser == t.ser) = true := by simp [d2]
 rw [m2] at HQ
 clear d2
 by_cases l0 : s.ins.length = t.ins.length
 case neg =>
   have o0 : ((s.ins.length : Int) != (t.ins.length : Int)) = true := by simp; omega
   have q0 : ((s.ins.length : Int) == (t.ins.length : Int)) = false := by simp; omega
   have HF := hid (show R = false by rw [HQ.out, eqLs_len (p := eqI) l0]; simp)
   clear l0 HQ
   go_wp2_with fail
   go_ret
   exact ⟨ret_bool HF.out, HB0.out⟩
 case pos =>
 have o0 : ((s.ins.length : Int) != (t.ins.length : Int)) = false := by simp; omega
 have q0 : ((s.ins.length : Int) == (t.ins.length : Int)) = true := by simp; omega
 have LL0 := hid l0
 clear l0
 by_cases l1 : s.pen.length = t.pen.length
 case neg =>
   have o1 : ((s.pen.length : Int) != (t.pen.length : Int)) = true := by simp; omega
   have q1 : ((s.pen.length : Int) == (t.pen.length : Int)) = false := by simp; omega
   have HF := hid (show R = false by rw [HQ.out, eqLs_len (p := eqP) l1]; simp)
   clear l1 HQ
   go_wp2_with fail
   go_ret
   exact ⟨ret_bool HF.out, HB0.out⟩
 case pos =>
 have o1 : ((s.pen.length : Int) != (t.pen.length : Int)) = false := by simp; omega
 have q1 : ((s.pen.length : Int) == (t.pen.length : Int)) = true := by simp; omega
 have LL1 := hid l1
 clear l1
 by_cases l2 : s.out.length = t.out.length
 case neg =>
   have o2 : ((s.out.length : Int) != (t.out.length : Int)) = true := by simp; omega
   have q2 : ((s.out.length : Int) == (t.out.length : Int)) = false := by simp; omega
   have HF := hid (show R = false by rw [HQ.out, eqLs_len (p := eqO) l2]; simp)
   clear l2 HQ
   go_wp2_with fail
   go_ret
   exact ⟨ret_bool HF.out, HB0.out⟩
 case pos =>
 have o2 : ((s.out.length : Int) != (t.out.length : Int)) = false := by simp; omega
 have q2 : ((s.out.length : Int) == (t.out.length : Int)) = true := by simp; omega
 have LL2 := hid l2
 clear l2
 go_wp2_with fail
 clear n1 n2 m1 m2 o0 o1 o2 q0 q1 q2
 have BS := hid (Below.refl W0.heap.size W0)
 clear s2 s3 s4 t2 t3 t4 s0 s1 t0 t1
 go_loopg [5] s.ins.length (fun gg s9 wr => ∃ k : Nat, k ≤ s.ins.length ∧ s.ins.length - k ≤ gg ∧ s9 = .int .i64 k ∧ Hid (Below W0.heap.size W0 wr) ∧ Hid (∀ j (h : j < s.ins.length) (h' : j < t.ins.length), j < k → eqI s.ins[j] t.ins[j] = true))
 case atStart => exact ⟨0, Nat.zero_le _, by omega, rfl, BS, hid fun j _ _ h => absurd h (by omega)⟩
 case round =>
   clear BS
   obtain ⟨k, hk, hgg, rfl, BW, AL⟩ := hrel
   obtain ⟨s2, s3, s4, t2, t3, t4⟩ := HCE.out _ BW.out
   by_cases hlt : k < s.ins.length
   case pos =>
     have hltz : (k : Int) < (s.ins.length : Int) := by omega
     have hlt2 : k < t.ins.length := by have := LL0.out; omega
     have hltz2 : (k : Int) < (t.ins.length : Int) := by omega
     have HY := hid (fun (hq : eqI s.ins[k] t.ins[k] = true) => show Hid (∀ j (h : j < s.ins.length) (h' : j < t.ins.length), j < k + 1 → eqI s.ins[j] t.ins[j] = true) from hid fun j h h' hj => by
       by_cases e : j < k
       · exact AL.out j h h' e
       · obtain rfl : j = k := by omega
         exact hq)
     have HN := hid (fun (hq : eqI s.ins[k] t.ins[k] = false) => show R = false by rw [HQ.out, eqLs_at hlt hlt2 hq]; simp)
     clear AL
     obtain ⟨b, off, pt, rfl, hb, hx, h5⟩ := HIA.out wr (HG.out _ BW.out) k hlt
     obtain ⟨b2, off2, pt2, rfl, hb2, hy, h6⟩ := HIB.out wr (HG.out _ BW.out) k hlt2
     have CC := hid (fun (W : World) (hW : Below wr.heap.size wr W) => reqi_any s.ins[k] t.ins[k] pt pt2 W (insP_below hW h5) (insP_below hW h6))
     have hX := cellsI s.ins[k] pt
     have hY := cellsI t.ins[k] pt2
     obtain ⟨l1, l2⟩ := liesI_of hX hx
     obtain ⟨l3, l4⟩ := liesI_of hY hy
     clear h5 h6 hx hy hX hY
     generalize eqI s.ins[k] t.ins[k] = v at *
     generalize insA s.ins[k] pt = X at *
     generalize insA t.ins[k] pt2 = Y at *
     have HLX := hid (fun (W : World) (hW : Below wr.heap.size wr W) => show LiesI W b (off + k * 13) ∧ rd13 W b (off + k * 13) = X from ⟨(l1.below hW).1, ((l1.below hW).2).trans l2⟩)
     have HLY := hid (fun (W : World) (hW : Below wr.heap.size wr W) => show LiesI W b2 (off2 + k * 13) ∧ rd13 W b2 (off2 + k * 13) = Y from ⟨(l3.below hW).1, ((l3.below hW).2).trans l4⟩)
     clear l1 l2 l3 l4
     have ks2 := fun d os => cell_regrown s2 d os
     have kt2 := fun d os => cell_regrown t2 d os
     cases v with
     | false =>
       have HF := hid (HN.out rfl)
       clear HN HY HQ
       go_wp2_with fail
       refine wp_region_fresh (fun k => match k with | 4 => some (sVal (.agg X)) | 9 => some (sVal (.agg Y)) | 10 => some (sBool false) | _ => none) (by kernel_rfl) (by kernel_rfl) ?_
       iterate 4 (refine wpF_quiet (grw_ex _) (by kernel_rfl) rfl (noEnter_op (by rfl)) ?_; intro K hK; go_big_quiet_op; go_big_quiet_on)
       refine wpF_told (sVal (.agg X)) (by kernel_rfl) rfl ⟨_, rfl⟩ stTrue (fun w4 hw4 hE4 => ?_) ?_
       · have hb4 := grw_below hw4
         obtain ⟨l1, l2⟩ := HLX.out w4 hb4
         clear hw4 hE4 hb4
         go_simp
         exact ⟨Lat.refl _, rfl, trivial⟩
       rintro _ rfl
       (refine wpF_put ?_; intro K hK; go_simp; refine hK _ ?_; clear hK K)
       iterate 4 (refine wpF_quiet (grw_ex _) (by kernel_rfl) rfl (noEnter_op (by rfl)) ?_; intro K hK; go_big_quiet_op; go_big_quiet_on)
       refine wpF_told (sVal (.agg Y)) (by kernel_rfl) rfl ⟨_, rfl⟩ stTrue (fun w4 hw4 hE4 => ?_) ?_
       · have hb4 := grw_below hw4
         obtain ⟨l1, l2⟩ := HLY.out w4 hb4
         clear hw4 hE4 hb4
         go_simp
         exact ⟨Lat.refl _, rfl, trivial⟩
       rintro _ rfl
       (refine wpF_put ?_; intro K hK; go_simp; refine hK _ ?_; clear hK K)
       refine wpF_told (sBool false) (by kernel_rfl) rfl ⟨_, rfl⟩ stTrue (fun w4 hw4 hE4 => ?_) ?_
       · have hb4 := grw_below hw4
         have hh := CC.out w4 hb4
         clear hw4 hE4 hb4
         go_simp
         go_at_call 22
         refine Calls.mono hh ?_
         rintro e w5 ⟨rfl, hb5⟩
         exact ⟨_, rfl, hb5, rfl, trivial⟩
       rintro _ rfl
       (refine wpF_put ?_; intro K hK; go_simp; refine hK _ ?_; clear hK K)
       (refine wpF_quiet (grw_ex _) (by kernel_rfl) rfl (noEnter_op (by rfl)) ?_; intro K hK; go_big_quiet_op; go_big_quiet_on)
       refine wpF_nil ?_
       intro w6 hw6 hE6
       have hb6 := grw_below hw6
       clear hw6 hE6
       have HB6 := hid (BW.out.trans (hb6.mono BW.out.size))
       clear hb6
       go_wp2_with fail
       go_ret
       exact ⟨ret_bool HF.out, HG.out _ HB6.out⟩
     | true =>
       have HA := HY.out rfl
       clear HN HY
       go_wp2_with fail
       refine wp_region_fresh (fun k => match k with | 4 => some (sVal (.agg X)) | 9 => some (sVal (.agg Y)) | 10 => some (sBool true) | _ => none) (by kernel_rfl) (by kernel_rfl) ?_
       iterate 4 (refine wpF_quiet (grw_ex _) (by kernel_rfl) rfl (noEnter_op (by rfl)) ?_; intro K hK; go_big_quiet_op; go_big_quiet_on)
       refine wpF_told (sVal (.agg X)) (by kernel_rfl) rfl ⟨_, rfl⟩ stTrue (fun w4 hw4 hE4 => ?_) ?_
       · have hb4 := grw_below hw4
         obtain ⟨l1, l2⟩ := HLX.out w4 hb4
         clear hw4 hE4 hb4
         go_simp
         exact ⟨Lat.refl _, rfl, trivial⟩
       rintro _ rfl
       (refine wpF_put ?_; intro K hK; go_simp; refine hK _ ?_; clear hK K)
       iterate 4 (refine wpF_quiet (grw_ex _) (by kernel_rfl) rfl (noEnter_op (by rfl)) ?_; intro K hK; go_big_quiet_op; go_big_quiet_on)
       refine wpF_told (sVal (.agg Y)) (by kernel_rfl) rfl ⟨_, rfl⟩ stTrue (fun w4 hw4 hE4 => ?_) ?_
       · have hb4 := grw_below hw4
         obtain ⟨l1, l2⟩ := HLY.out w4 hb4
         clear hw4 hE4 hb4
         go_simp
         exact ⟨Lat.refl _, rfl, trivial⟩
       rintro _ rfl
       (refine wpF_put ?_; intro K hK; go_simp; refine hK _ ?_; clear hK K)
       refine wpF_told (sBool true) (by kernel_rfl) rfl ⟨_, rfl⟩ stTrue (fun w4 hw4 hE4 => ?_) ?_
       · have hb4 := grw_below hw4
         have hh := CC.out w4 hb4
         clear hw4 hE4 hb4
         go_simp
         go_at_call 22
         refine Calls.mono hh ?_
         rintro e w5 ⟨rfl, hb5⟩
         exact ⟨_, rfl, hb5, rfl, trivial⟩
       rintro _ rfl
       (refine wpF_put ?_; intro K hK; go_simp; refine hK _ ?_; clear hK K)
       (refine wpF_quiet (grw_ex _) (by kernel_rfl) rfl (noEnter_op (by rfl)) ?_; intro K hK; go_big_quiet_op; go_big_quiet_on)
       refine wpF_nil ?_
       intro w6 hw6 hE6
       have hb6 := grw_below hw6
       clear hw6 hE6
       have HB6 := hid (BW.out.trans (hb6.mono BW.out.size))
       clear hb6
       go_wp2_with fail
       go_roundg (s.ins.length - (k + 1))
       case measure => omega
       case rel => exact ⟨k + 1, by omega, by omega, by go_num, HB6, HA⟩
   case neg =>
     have hltz : ¬ (k : Int) < (s.ins.length : Int) := by omega
     have HE := hid (show eqLs eqI s.ins t.ins = true from eqLs_true.2 ⟨LL0.out, fun j h h' => AL.out j h h' (by omega)⟩)
     rw [HE.out] at HQ
     clear AL HE
     go_wp2_with fail
     have BS := hid BW.out
     clear s2 s3 s4 t2 t3 t4
     go_loopg [6] s.pen.length (fun gg s9 wr => ∃ k : Nat, k ≤ s.pen.length ∧ s.pen.length - k ≤ gg ∧ s9 = .int .i64 k ∧ Hid (Below W0.heap.size W0 wr) ∧ Hid (∀ j (h : j < s.pen.length) (h' : j < t.pen.length), j < k → eqP s.pen[j] t.pen[j] = true))
     case atStart => exact ⟨0, Nat.zero_le _, by omega, rfl, BS, hid fun j _ _ h => absurd h (by omega)⟩
     case round =>
       clear BS
       obtain ⟨k, hk, hgg, rfl, BW, AL⟩ := hrel
       obtain ⟨s2, s3, s4, t2, t3, t4⟩ := HCE.out _ BW.out
       by_cases hlt : k < s.pen.length
       case pos =>
         have hltz : (k : Int) < (s.pen.length : Int) := by omega
         have hlt2 : k < t.pen.length := by have := LL1.out; omega
         have hltz2 : (k : Int) < (t.pen.length : Int) := by omega
         have HY := hid (fun (hq : eqP s.pen[k] t.pen[k] = true) => show Hid (∀ j (h : j < s.pen.length) (h' : j < t.pen.length), j < k + 1 → eqP s.pen[j] t.pen[j] = true) from hid fun j h h' hj => by
           by_cases e : j < k
           · exact AL.out j h h' e
           · obtain rfl : j = k := by omega
             exact hq)
         have HN := hid (fun (hq : eqP s.pen[k] t.pen[k] = false) => show R = false by rw [HQ.out, eqLs_at hlt hlt2 hq]; simp)
         clear AL
         obtain ⟨b, off, rfl, hb, g0, g1, g2, _⟩ := HPA.out wr (HG.out _ BW.out) k hlt
         obtain ⟨b2, off2, rfl, hb2, f0, f1, f2, _⟩ := HPB.out wr (HG.out _ BW.out) k hlt2
         have HV := hid (show eqP s.pen[k] t.pen[k] = ((s.pen[k].ad.toList == t.pen[k].ad.toList) && (s.pen[k].ty.toList == t.pen[k].ty.toList) && (s.pen[k].tok.toList == t.pen[k].tok.toList)) from rfl)
         generalize eqP s.pen[k] t.pen[k] = v at *
         generalize s.pen[k] = x at *
         generalize t.pen[k] = y at *
         obtain ⟨x1, x2, x3⟩ := x
         obtain ⟨y1, y2, y3⟩ := y
         dsimp only at *
         obtain ⟨q1, hq1⟩ : ∃ q, (x1.toList == y1.toList) = q := ⟨_, rfl⟩
         obtain ⟨q2, hq2⟩ : ∃ q, (x2.toList == y2.toList) = q := ⟨_, rfl⟩
         obtain ⟨q3, hq3⟩ : ∃ q, (x3.toList == y3.toList) = q := ⟨_, rfl⟩
         rw [hq1, hq2, hq3] at HV
         cases q1 with
         | false =>
           have HF := hid (HN.out HV.out)
           clear HN HY HQ HV
           go_wp2_with fail
           go_quiet (fail)
           have BV := hid (bel_drewN BW.out nq)
           go_wp2_with fail
           go_ret
           exact ⟨ret_bool HF.out, HG.out _ BV.out⟩
         | true =>
         cases q2 with
         | false =>
           have HF := hid (HN.out HV.out)
           clear HN HY HQ HV
           go_wp2_with fail
           go_quiet (fail)
           have BV := hid (bel_drewN BW.out nq)
           go_wp2_with fail
           go_ret
           exact ⟨ret_bool HF.out, HG.out _ BV.out⟩
         | true =>
         cases q3 with
         | false =>
           have HF := hid (HN.out HV.out)
           clear HN HY HQ HV
           go_wp2_with fail
           go_quiet (fail)
           have BV := hid (bel_drewN BW.out nq)
           go_wp2_with fail
           go_ret
           exact ⟨ret_bool HF.out, HG.out _ BV.out⟩
         | true =>
           have HA := HY.out HV.out
           clear HN HY HV
           go_wp2_with fail
           go_quiet (fail)
           have BV := hid (bel_drewN BW.out nq)
           go_wp2_with fail
           go_roundg (s.pen.length - (k + 1))
           case measure => omega
           case rel => exact ⟨k + 1, by omega, by omega, by go_num, BV, HA⟩
       case neg =>
         have hltz : ¬ (k : Int) < (s.pen.length : Int) := by omega
         have HE := hid (show eqLs eqP s.pen t.pen = true from eqLs_true.2 ⟨LL1.out, fun j h h' => AL.out j h h' (by omega)⟩)
         rw [HE.out] at HQ
         clear AL HE
         go_wp2_with fail
         have BS := hid BW.out
         clear s2 s3 s4 t2 t3 t4
         go_loopg [7] s.out.length (fun gg s9 wr => ∃ k : Nat, k ≤ s.out.length ∧ s.out.length - k ≤ gg ∧ s9 = .int .i64 k ∧ Hid (Below W0.heap.size W0 wr) ∧ Hid (∀ j (h : j < s.out.length) (h' : j < t.out.length), j < k → eqO s.out[j] t.out[j] = true))
         case atStart => exact ⟨0, Nat.zero_le _, by omega, rfl, BS, hid fun j _ _ h => absurd h (by omega)⟩
         case round =>
           clear BS
           obtain ⟨k, hk, hgg, rfl, BW, AL⟩ := hrel
           obtain ⟨s2, s3, s4, t2, t3, t4⟩ := HCE.out _ BW.out
           by_cases hlt : k < s.out.length
           case pos =>
             have hltz : (k : Int) < (s.out.length : Int) := by omega
             have hlt2 : k < t.out.length := by have := LL2.out; omega
             have hltz2 : (k : Int) < (t.out.length : Int) := by omega
             have HY := hid (fun (hq : eqO s.out[k] t.out[k] = true) => show Hid (∀ j (h : j < s.out.length) (h' : j < t.out.length), j < k + 1 → eqO s.out[j] t.out[j] = true) from hid fun j h h' hj => by
               by_cases e : j < k
               · exact AL.out j h h' e
               · obtain rfl : j = k := by omega
                 exact hq)
             have HN := hid (fun (hq : eqO s.out[k] t.out[k] = false) => show R = false by rw [HQ.out, eqLs_at hlt hlt2 hq]; simp)
             clear AL
             obtain ⟨b, off, u, rfl, hb, g0, g1, g2, g3, g4, g5, g6, hu, h5⟩ := HOA.out wr (HG.out _ BW.out) k hlt
             obtain ⟨b2, off2, v, rfl, hb2, f0, f1, f2, f3, f4, f5, f6, hv, h6⟩ := HOB.out wr (HG.out _ BW.out) k hlt2
             have h5 := h5.1
             have h6 := h6.1
             rw [hu] at h5
             rw [hv] at h6
             have CC := hid (fun (W : World) (hW : Below wr.heap.size wr W) => req_any s.out[k].v t.out[k].v u.r u.c u.rk u.ck v.r v.c v.rk v.ck W (h5.below hW) (h6.below hW))
             have HV := hid (show eqO s.out[k] t.out[k] = ((s.out[k].nm.toList == t.out[k].nm.toList) && (s.out[k].se == t.out[k].se) && eqV s.out[k].v t.out[k].v) from rfl)
             clear h5 h6 hu hv
             generalize eqO s.out[k] t.out[k] = V at *
             generalize eqV s.out[k].v t.out[k].v = V3 at *
             generalize s.out[k].nm = x0 at *
             generalize t.out[k].nm = y0 at *
             generalize s.out[k].v.kind = x1 at *
             generalize t.out[k].v.kind = y1 at *
             generalize s.out[k].v.num = x2 at *
             generalize t.out[k].v.num = y2 at *
             generalize s.out[k].v.str = x3 at *
             generalize t.out[k].v.str = y3 at *
             generalize s.out[k].v.items.length = x4 at *
             generalize t.out[k].v.items.length = y4 at *
             generalize s.out[k].v.keys.length = x5 at *
             generalize t.out[k].v.keys.length = y5 at *
             generalize s.out[k].se = x6 at *
             generalize t.out[k].se = y6 at *
             have kg0 := fun d os => cell_regrown g0 d os
             have kf0 := fun d os => cell_regrown f0 d os
             have kg1 := fun d os => cell_regrown g1 d os
             have kf1 := fun d os => cell_regrown f1 d os
             have kg2 := fun d os => cell_regrown g2 d os
             have kf2 := fun d os => cell_regrown f2 d os
             have kg3 := fun d os => cell_regrown g3 d os
             have kf3 := fun d os => cell_regrown f3 d os
             have kg4 := fun d os => cell_regrown g4 d os
             have kf4 := fun d os => cell_regrown f4 d os
             have kg5 := fun d os => cell_regrown g5 d os
             have kf5 := fun d os => cell_regrown f5 d os
             have kg6 := fun d os => cell_regrown g6 d os
             have kf6 := fun d os => cell_regrown f6 d os
             have ks4 := fun d os => cell_regrown s4 d os
             have kt4 := fun d os => cell_regrown t4 d os
             go_wp2_with fail
             go_region_held3 (fun w' => w'.cell? ⟨w.heap.size, 4, none⟩ = some (.slice (some ⟨b, off, none⟩) s.out.length aco) ∧ w'.cell? ⟨w.heap.size + 1, 4, none⟩ = some (.slice (some ⟨b2, off2, none⟩) t.out.length bco) ∧ w'.cell? ⟨b, off + k * 7, none⟩ = some (.string x0) ∧ w'.cell? ⟨b, off + k * 7 + 1, none⟩ = some (.int .i64 x1) ∧ w'.cell? ⟨b, off + k * 7 + 2, none⟩ = some (.int .i64 x2) ∧ w'.cell? ⟨b, off + k * 7 + 3, none⟩ = some (.string x3) ∧ w'.cell? ⟨b, off + k * 7 + 4, none⟩ = some (.slice u.r x4 u.c) ∧ w'.cell? ⟨b, off + k * 7 + 5, none⟩ = some (.slice u.rk x5 u.ck) ∧ w'.cell? ⟨b, off + k * 7 + 6, none⟩ = some (.bool x6) ∧ w'.cell? ⟨b2, off2 + k * 7, none⟩ = some (.string y0) ∧ w'.cell? ⟨b2, off2 + k * 7 + 1, none⟩ = some (.int .i64 y1) ∧ w'.cell? ⟨b2, off2 + k * 7 + 2, none⟩ = some (.int .i64 y2) ∧ w'.cell? ⟨b2, off2 + k * 7 + 3, none⟩ = some (.string y3) ∧ w'.cell? ⟨b2, off2 + k * 7 + 4, none⟩ = some (.slice v.r y4 v.c) ∧ w'.cell? ⟨b2, off2 + k * 7 + 5, none⟩ = some (.slice v.rk y5 v.ck) ∧ w'.cell? ⟨b2, off2 + k * 7 + 6, none⟩ = some (.bool y6)) (go_keep) (fail)
             all_goals
               have z0 := str_ne (x := x0) (y := y0)
               have z0' := str_ne' (x := x0) (y := y0)
               by_cases d0 : x0 = y0
               case neg =>
                 have n1 := z0 d0
                 have n2 := z0' d0
                 rw [n1] at HV
                 clear d0 z0 z0'
                 have HF := hid (HN.out HV.out)
                 clear HN HY HV HQ
                 go_wp2_with fail
                 go_ret
                 exact ⟨ret_bool HF.out, HG.out _ (BW.out.trans (((((Below.refl wr.heap.size wr).alloc (Nat.le_refl _) _).alloc (by simp) _).drew).mono BW.out.size))⟩
               case pos =>
               subst d0
               clear z0 z0'
               by_cases d6 : x6 = y6
               case neg =>
                 have n1 : (x6 == y6) = false := by simp [d6]
                 have n2 : (x6 != y6) = true := by simp [d6]
                 rw [n1] at HV
                 have HV := hid (HV.out.trans (show _ = false by simp))
                 clear d6
                 have HF := hid (HN.out HV.out)
                 clear HN HY HV HQ
                 go_wp2_with fail
                 go_ret
                 exact ⟨ret_bool HF.out, HG.out _ (BW.out.trans (((((Below.refl wr.heap.size wr).alloc (Nat.le_refl _) _).alloc (by simp) _).drew).mono BW.out.size))⟩
               case pos =>
               subst d6
               have HV := hid (HV.out.trans (show _ = V3 by simp))
               cases V3 with
               | false =>
                 have HF := hid (HN.out HV.out)
                 clear HN HY HV HQ
                 go_wp2_with (go_at_call 47; refine (CC.out _ (by exact (((Below.refl wr.heap.size wr).alloc (Nat.le_refl _) _).alloc (by simp) _).drew)).mono ?_; rintro e w1 ⟨rfl, hb1⟩; have BY := hid (BW.out.trans ((((((Below.refl wr.heap.size wr).alloc (Nat.le_refl _) _).alloc (by simp) _).drew).trans (hb1.mono ((((Below.refl wr.heap.size wr).alloc (Nat.le_refl _) _).alloc (by simp) _).drew).size)).mono BW.out.size)); clear hb1)
                 go_ret
                 exact ⟨ret_bool HF.out, HG.out _ BY.out⟩
               | true =>
                 have HA := HY.out HV.out
                 clear HN HY HV
                 go_wp2_with (go_at_call 47; refine (CC.out _ (by exact (((Below.refl wr.heap.size wr).alloc (Nat.le_refl _) _).alloc (by simp) _).drew)).mono ?_; rintro e w1 ⟨rfl, hb1⟩; have BY := hid (BW.out.trans ((((((Below.refl wr.heap.size wr).alloc (Nat.le_refl _) _).alloc (by simp) _).drew).trans (hb1.mono ((((Below.refl wr.heap.size wr).alloc (Nat.le_refl _) _).alloc (by simp) _).drew).size)).mono BW.out.size)); clear hb1)
                 go_roundg (s.out.length - (k + 1))
                 case measure => omega
                 case rel => exact ⟨k + 1, by omega, by omega, by go_num, BY, HA⟩
           case neg =>
             have hltz : ¬ (k : Int) < (s.out.length : Int) := by omega
             have HE := hid (show eqLs eqO s.out t.out = true from eqLs_true.2 ⟨LL2.out, fun j h h' => AL.out j h h' (by omega)⟩)
             rw [HE.out] at HQ
             clear AL HE
             go_wp2_with fail
             have BS := hid BW.out
             have HF := hid (show R = true by rw [HQ.out]; rfl)
             clear HQ
             go_ret
             exact ⟨ret_bool HF.out, HG.out _ BS.out⟩
end Go.Proofs.YtomhbcfjhgecbaaGreatDoor
namespace Go.Proofs.YtomhbcfjhgecbaaGreatDoor
open Go.RowKit Go.Sort Go.Lib
open Go.Lib (hid)
def smI (x : Ins) : Bool := smallB x.at_ 200 && decide (x.dp.length ≤ 40)
def smallS (s : Sta) : Bool := decide (s.ins.length ≤ 40 ∧ s.pen.length ≤ 40 ∧ s.out.length ≤ 40) && (s.ins.all smI && s.out.all fun o => smallB o.v 200)
theorem all_at {α : Type} {p : α → Bool} {l : List α} {k : Nat} (h : k < l.length) (hk : p l[k] = false) : l.all p = false := by
 rw [Bool.eq_false_iff]
 intro e
 have := List.all_eq_true.1 e _ (List.getElem_mem h)
 rw [hk] at this; cases this
theorem all_of {α : Type} {p : α → Bool} {l : List α} (h : ∀ k (h : k < l.length), p l[k] = true) : l.all p = true := List.all_eq_true.2 fun x hx => by
 obtain ⟨k, hk, rfl⟩ := List.mem_iff_getElem.1 hx
 exact h k hk
set_option maxRecDepth 100000 in
set_option maxHeartbeats 8000000 in
theorem small_sta (s : Sta) (p : Sp) (w : World) (h : StaP w s p) :
   Calls Tryz.prog 9 #[.agg (staA s p), .int .i64 40, .int .i64 200] w fun e w' => e = .returned (.bool (smallS s)) ∧ Below w.heap.size w w' := by
 obtain ⟨ri, ci, rp, cp, ro, co⟩ := p
 have HIN := hid (fun (W : World) (hW : Below w.heap.size w W) => in_at (h.1.below inR_mono hW))
 have HSO := hid (fun (W : World) (hW : Below w.heap.size w W) => soX (h.2.2.1.below soR_mono hW))
 obtain ⟨_, hlc1, hlm1⟩ := sl_len h.1
 obtain ⟨_, hlc2, hlm2⟩ := sl_len h.2.1
 obtain ⟨_, hlc3, hlm3⟩ := sl_len h.2.2.1
 dsimp only at HIN HSO
 obtain ⟨W0, hW0⟩ : ∃ W0, W0 = w.alloc (.cells #[.string s.lin, .int .i64 s.ser, .slice ri s.ins.length ci, .slice rp s.pen.length cp, .slice ro s.out.length co] 26) := ⟨_, rfl⟩
 have HW0 := hid hW0
 have HB0 := hid (show Below w.heap.size w W0 from hW0 ▸ (Below.refl _ _).alloc (Nat.le_refl _) _)
 have hc0 : W0.heap[w.heap.size]? = some (.cells #[.string s.lin, .int .i64 s.ser, .slice ri s.ins.length ci, .slice rp s.pen.length cp, .slice ro s.out.length co] 26) := hW0 ▸ (MapKept.heap_alloc w _).1
 have s2 : W0.cell? ⟨w.heap.size, 2, none⟩ = some (.slice ri s.ins.length ci) := cellv hc0 2 rfl
 have s3 : W0.cell? ⟨w.heap.size, 3, none⟩ = some (.slice rp s.pen.length cp) := cellv hc0 3 rfl
 have s4 : W0.cell? ⟨w.heap.size, 4, none⟩ = some (.slice ro s.out.length co) := cellv hc0 4 rfl
 have HCE := hid (fun (W : World) (hW : Below W0.heap.size W0 W) => show W.cell? ⟨w.heap.size, 2, none⟩ = some (.slice ri s.ins.length ci) ∧ W.cell? ⟨w.heap.size, 4, none⟩ = some (.slice ro s.out.length co) from ⟨bget hW s2, bget hW s4⟩)
 have HG := hid (fun (W : World) (hW : Below W0.heap.size W0 W) => HB0.out.trans (hW.mono HB0.out.size))
 have HQ := hid (show smallS s = (decide (s.ins.length ≤ 40 ∧ s.pen.length ≤ 40 ∧ s.out.length ≤ 40) && (s.ins.all smI && s.out.all fun o => smallB o.v 200)) from rfl)
 clear h hc0 hW0
 generalize smallS s = R at *
 unfold staA
 go_enter Tryz.func9, Tryz.ntmps9
 go_upto_region 1 with (fail)
 rw [← HW0.out]
 clear HW0
 by_cases l0 : 40 < s.ins.length
 case pos =>
   have o0 : (40 : Int) < (s.ins.length : Int) := by omega
   have HF := hid (show R = false by rw [HQ.out, decide_eq_false (by omega)]; rfl)
   clear l0 HQ
   go_wp2_with fail
   go_ret
   exact ⟨ret_bool HF.out, HB0.out⟩
 case neg =>
 have o0 : ¬ (40 : Int) < (s.ins.length : Int) := by omega
 by_cases l1 : 40 < s.pen.length
 case pos =>
   have o1 : (40 : Int) < (s.pen.length : Int) := by omega
   have HF := hid (show R = false by rw [HQ.out, decide_eq_false (by omega)]; rfl)
   clear l1 HQ
   go_wp2_with fail
   go_ret
   exact ⟨ret_bool HF.out, HB0.out⟩
 case neg =>
 have o1 : ¬ (40 : Int) < (s.pen.length : Int) := by omega
 by_cases l2 : 40 < s.out.length
 case pos =>
   have o2 : (40 : Int) < (s.out.length : Int) := by omega
   have HF := hid (show R = false by rw [HQ.out, decide_eq_false (by omega)]; rfl)
   clear l2 HQ
   go_wp2_with fail
   go_ret
   exact ⟨ret_bool HF.out, HB0.out⟩
 case neg =>
 have o2 : ¬ (40 : Int) < (s.out.length : Int) := by omega
 have HQ := hid (show R = (s.ins.all smI && s.out.all fun o => smallB o.v 200) by rw [HQ.out, decide_eq_true (by omega)]; rfl)
 clear l0 l1 l2
 go_wp2_with fail
 clear o0 o1 o2 s3
 have BS := hid (Below.refl W0.heap.size W0)
 clear s2 s4
 go_loopg [7] s.ins.length (fun gg s9 wr => ∃ k : Nat, k ≤ s.ins.length ∧ s.ins.length - k ≤ gg ∧ s9 = .int .i64 k ∧ Hid (Below W0.heap.size W0 wr) ∧ Hid (∀ j (h : j < s.ins.length), j < k → smI s.ins[j] = true))
 case atStart => exact ⟨0, Nat.zero_le _, by omega, rfl, BS, hid fun j _ h => absurd h (by omega)⟩
 case round =>
   clear BS
   obtain ⟨k, hk, hgg, rfl, BW, AL⟩ := hrel
   obtain ⟨s2, s4⟩ := HCE.out _ BW.out
   by_cases hlt : k < s.ins.length
   case pos =>
     have hltz : (k : Int) < (s.ins.length : Int) := by omega
     have HY := hid (fun (hq : smI s.ins[k] = true) => show Hid (∀ j (h : j < s.ins.length), j < k + 1 → smI s.ins[j] = true) from hid fun j h hj => by
       by_cases e : j < k
       · exact AL.out j h e
       · obtain rfl : j = k := by omega
         exact hq)
     have HN := hid (fun (hq : smI s.ins[k] = false) => show R = false by rw [HQ.out, all_at (p := smI) hlt hq]; simp)
     clear AL
     obtain ⟨b, off, pt, rfl, hb, hx, h5⟩ := HIN.out wr (HG.out _ BW.out) k hlt
     have HC := hid (fun (W : World) (hW : Below wr.heap.size wr W) => rsmall_any s.ins[k].at_ 200 pt.r pt.c pt.rk pt.ck W (h5.1.below hW) (by decide))
     have HV := hid (show smI s.ins[k] = (smallB s.ins[k].at_ 200 && decide (s.ins[k].dp.length ≤ 40)) from rfl)
     have g4 := hx 4 _ rfl
     have g5 := hx 5 _ rfl
     have g6 := hx 6 _ rfl
     have g7 := hx 7 _ rfl
     have g8 := hx 8 _ rfl
     have g12 := hx 12 _ rfl
     clear h5 hx
     generalize smI s.ins[k] = V at *
     generalize smallB s.ins[k].at_ 200 = V1 at *
     generalize s.ins[k].dp.length = dl at *
     cases V1 with
     | false =>
       have HF := hid (HN.out HV.out)
       clear HN HY HV HQ
       go_wp2_with (go_at_call 19; refine (HC.out wr (Below.refl _ _)).mono ?_; rintro e w1 ⟨rfl, hb1⟩; have B1 := hid (BW.out.trans (hb1.mono BW.out.size)); clear hb1)
       go_ret
       exact ⟨ret_bool HF.out, HG.out _ B1.out⟩
     | true =>
     by_cases hd : 40 < dl
     case pos =>
       have hdz : (40 : Int) < (dl : Int) := by omega
       have HF := hid (HN.out (by rw [HV.out, decide_eq_false (by omega)]; rfl))
       clear HN HY HV HQ hd
       go_wp2_with (go_at_call 19; refine (HC.out wr (Below.refl _ _)).mono ?_; rintro e w1 ⟨rfl, hb1⟩; have B1 := hid (BW.out.trans (hb1.mono BW.out.size)); obtain ⟨s2, s4⟩ := HCE.out _ B1.out; have g12 := bget hb1 g12; clear hb1)
       go_ret
       exact ⟨ret_bool HF.out, HG.out _ B1.out⟩
     case neg =>
       have hdz : ¬ (40 : Int) < (dl : Int) := by omega
       have HA := HY.out (by rw [HV.out, decide_eq_true (by omega)]; rfl)
       clear HN HY HV hd
       go_wp2_with (go_at_call 19; refine (HC.out wr (Below.refl _ _)).mono ?_; rintro e w1 ⟨rfl, hb1⟩; have B1 := hid (BW.out.trans (hb1.mono BW.out.size)); obtain ⟨s2, s4⟩ := HCE.out _ B1.out; have g12 := bget hb1 g12; clear hb1)
       go_roundg (s.ins.length - (k + 1))
       case measure => omega
       case rel => exact ⟨k + 1, by omega, by omega, by go_num, B1, HA⟩
   case neg =>
     have hltz : ¬ (k : Int) < (s.ins.length : Int) := by omega
     have HE := hid (show s.ins.all smI = true from all_of fun j h => AL.out j h (by omega))
     rw [HE.out] at HQ
     clear AL HE
     go_wp2_with fail
     have BS := hid BW.out
     clear s2 s4
     go_loopg [8] s.out.length (fun gg s9 wr => ∃ k : Nat, k ≤ s.out.length ∧ s.out.length - k ≤ gg ∧ s9 = .int .i64 k ∧ Hid (Below W0.heap.size W0 wr) ∧ Hid (∀ j (h : j < s.out.length), j < k → (fun o => smallB o.v 200) s.out[j] = true))
     case atStart => exact ⟨0, Nat.zero_le _, by omega, rfl, BS, hid fun j _ h => absurd h (by omega)⟩
     case round =>
       clear BS
       obtain ⟨k, hk, hgg, rfl, BW, AL⟩ := hrel
       obtain ⟨s2, s4⟩ := HCE.out _ BW.out
       by_cases hlt : k < s.out.length
       case pos =>
         have hltz : (k : Int) < (s.out.length : Int) := by omega
         have HY := hid (fun (hq : (fun o => smallB o.v 200) s.out[k] = true) => show Hid (∀ j (h : j < s.out.length), j < k + 1 → (fun o => smallB o.v 200) s.out[j] = true) from hid fun j h hj => by
           by_cases e : j < k
           · exact AL.out j h e
           · obtain rfl : j = k := by omega
             exact hq)
         have HN := hid (fun (hq : (fun o => smallB o.v 200) s.out[k] = false) => show R = false by rw [HQ.out, all_at (p := (fun o => smallB o.v 200)) hlt hq]; simp)
         clear AL
         obtain ⟨b, off, y, rfl, hb, g0, g1, g2, g3, g4, g5, g6, hu, h5⟩ := HSO.out wr (HG.out _ BW.out) k hlt
         have h5 := h5.1
         rw [hu] at h5
         have HC := hid (fun (W : World) (hW : Below wr.heap.size wr W) => rsmall_any s.out[k].v 200 y.r y.c y.rk y.ck W (h5.below hW) (by decide))
         clear h5 hu g0 g6
         dsimp only at HN HY
         generalize smallB s.out[k].v 200 = V1 at *
         cases V1 with
         | false =>
           have HF := hid (HN.out rfl)
           clear HN HY HQ
           go_wp2_with (go_at_call 19; refine (HC.out wr (Below.refl _ _)).mono ?_; rintro e w1 ⟨rfl, hb1⟩; have B1 := hid (BW.out.trans (hb1.mono BW.out.size)); clear hb1)
           go_ret
           exact ⟨ret_bool HF.out, HG.out _ B1.out⟩
         | true =>
           have HA := HY.out rfl
           clear HN HY
           go_wp2_with (go_at_call 19; refine (HC.out wr (Below.refl _ _)).mono ?_; rintro e w1 ⟨rfl, hb1⟩; have B1 := hid (BW.out.trans (hb1.mono BW.out.size)); clear hb1)
           go_roundg (s.out.length - (k + 1))
           case measure => omega
           case rel => exact ⟨k + 1, by omega, by omega, by go_num, B1, HA⟩
       case neg =>
         have hltz : ¬ (k : Int) < (s.out.length : Int) := by omega
         have HE := hid (show s.out.all (fun o => smallB o.v 200) = true from all_of fun j h => AL.out j h (by omega))
         rw [HE.out] at HQ
         clear AL HE
         go_wp2_with fail
         have BS := hid BW.out
         have HF := hid (show R = true by rw [HQ.out]; rfl)
         clear HQ
         go_ret
         exact ⟨ret_bool HF.out, HG.out _ BS.out⟩
end Go.Proofs.YtomhbcfjhgecbaaGreatDoor
