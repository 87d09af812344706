import Derived.Test.YtedpdpcibkceeaaDoorVal
import Derived.Test.YtedpdpcibkceeaaDoorR
/-
  Contracts of the reference's Equal, Refines, Known. Conditions: those ahead of each theorem.
-/
namespace Go.Proofs.YtedpdpcibkceeaaDoor
open Go.RowKit Go.Sort Go.Lib
open Go.Lib (hid)
set_option linter.unusedVariables false
set_option linter.unusedSimpArgs false

theorem str_ne {x y : ByteArray} (h : x ≠ y) : (x.toList == y.toList) = false := by
  rw [beq_eq_false_iff_ne]; intro e; apply h; rw [ByteArray.toList_eq, ByteArray.toList_eq] at e; exact ba_ext e
theorem str_ne' {x y : ByteArray} (h : x ≠ y) : (x.toList != y.toList) = true := by rw [bne, str_ne h]; rfl
theorem eqL_len {a b : List Val} (h : a.length ≠ b.length) : eqL a b = false := by
  induction a generalizing b with
  | nil => cases b with
    | nil => exact absurd rfl h
    | cons y ys => rfl
  | cons x xs ih => cases b with
    | nil => rfl
    | cons y ys => rw [eqL, ih (by simpa using h)]; simp
theorem eqL_true {a b : List Val} : eqL a b = true ↔ a.length = b.length ∧ ∀ i (h : i < a.length) (h' : i < b.length), eqV a[i] b[i] = true := by
  induction a generalizing b with
  | nil => cases b with
    | nil => exact ⟨fun _ => ⟨rfl, fun i h => absurd h (by simp)⟩, fun _ => rfl⟩
    | cons y ys => simp [eqL]
  | cons x xs ih => cases b with
    | nil => simp [eqL]
    | cons y ys =>
      rw [eqL, Bool.and_eq_true, ih]
      constructor
      · rintro ⟨h1, h2, h3⟩
        refine ⟨by simp [h2], fun i h h' => ?_⟩
        cases i with
        | zero => exact h1
        | succ i => exact h3 i (by simpa using h) (by simpa using h')
      · rintro ⟨h2, h3⟩
        exact ⟨h3 0 (by simp) (by simp), by simpa using h2, fun i h h' => h3 (i + 1) (by simpa using h) (by simpa using h')⟩
theorem eqL_false {a b : List Val} (hl : a.length = b.length) (i : Nat) (h : i < a.length) (hi : eqV a[i] b[i] = false) : eqL a b = false := by
  rw [Bool.eq_false_iff]; intro e
  have := (eqL_true.1 e).2 i h (by omega)
  rw [hi] at this; cases this
theorem rfnL_len {a b : List Val} (h : a.length ≠ b.length) : rfnL a b = false := by
  induction a generalizing b with
  | nil => cases b with
    | nil => exact absurd rfl h
    | cons y ys => rfl
  | cons x xs ih => cases b with
    | nil => rfl
    | cons y ys => rw [rfnL, ih (by simpa using h)]; simp
theorem rfnL_true {a b : List Val} : rfnL a b = true ↔ a.length = b.length ∧ ∀ i (h : i < a.length) (h' : i < b.length), rfnV a[i] b[i] = true := by
  induction a generalizing b with
  | nil => cases b with
    | nil => exact ⟨fun _ => ⟨rfl, fun i h => absurd h (by simp)⟩, fun _ => rfl⟩
    | cons y ys => simp [rfnL]
  | cons x xs ih => cases b with
    | nil => simp [rfnL]
    | cons y ys =>
      rw [rfnL, Bool.and_eq_true, ih]
      constructor
      · rintro ⟨h1, h2, h3⟩
        refine ⟨by simp [h2], fun i h h' => ?_⟩
        cases i with
        | zero => exact h1
        | succ i => exact h3 i (by simpa using h) (by simpa using h')
      · rintro ⟨h2, h3⟩
        exact ⟨h3 0 (by simp) (by simp), by simpa using h2, fun i h h' => h3 (i + 1) (by simpa using h) (by simpa using h')⟩
theorem rfnL_false {a b : List Val} (hl : a.length = b.length) (i : Nat) (h : i < a.length) (hi : rfnV a[i] b[i] = false) : rfnL a b = false := by
  rw [Bool.eq_false_iff]; intro e
  have := (rfnL_true.1 e).2 i h (by omega)
  rw [hi] at this; cases this
theorem keys_eq_of {a b : List ByteArray} (hl : a.length = b.length) (h : ∀ i (h : i < a.length) (h' : i < b.length), a[i] = b[i]) : a = b := List.ext_getElem hl fun i h1 h2 => h i h1 h2
set_option maxRecDepth 100000 in
set_option maxHeartbeats 2000000 in
theorem req_any (x : Val) : ∀ (y : Val) (r : Option Addr) (c : Nat) (rk : Option Addr) (ck : Nat) (r2 : Option Addr) (c2 : Nat) (rk2 : Option Addr) (ck2 : Nat) (w : World), VR5 w r c rk ck x → VR5 w r2 c2 rk2 ck2 y →
    Calls Tryd.prog 18 #[.agg #[.int .i64 x.kind, .int .i64 x.num, .string x.str, .slice r x.items.length c, .slice rk x.keys.length ck], .agg #[.int .i64 y.kind, .int .i64 y.num, .string y.str, .slice r2 y.items.length c2, .slice rk2 y.keys.length ck2]] w fun e w' => e = .returned (.bool (eqV x y)) ∧ Below w.heap.size w w' := by
  refine Val.ind (P := fun x => ∀ (y : Val) (r : Option Addr) (c : Nat) (rk : Option Addr) (ck : Nat) (r2 : Option Addr) (c2 : Nat) (rk2 : Option Addr) (ck2 : Nat) (w : World), VR5 w r c rk ck x → VR5 w r2 c2 rk2 ck2 y →
    Calls Tryd.prog 18 #[.agg #[.int .i64 x.kind, .int .i64 x.num, .string x.str, .slice r x.items.length c, .slice rk x.keys.length ck], .agg #[.int .i64 y.kind, .int .i64 y.num, .string y.str, .slice r2 y.items.length c2, .slice rk2 y.keys.length ck2]] w fun e w' => e = .returned (.bool (eqV x y)) ∧ Below w.heap.size w w') ?_ x
  intro x ih y r c rk ck r2 c2 rk2 ck2 w hx hy
  obtain ⟨hI, hK, _, _, _, hkl, hil⟩ := hx.parts
  obtain ⟨hI2, hK2, _, _, _, hkl2, hil2⟩ := hy.parts
  have HI := hid hI
  have HK := hid hK
  have HI2 := hid hI2
  have HK2 := hid hK2
  obtain ⟨_, hlc, hcm⟩ := sl_len hI
  obtain ⟨_, hlk, hkm⟩ := sl_len hK
  obtain ⟨_, hlc2, hcm2⟩ := sl_len hI2
  obtain ⟨_, hlk2, hkm2⟩ := sl_len hK2
  have HN := hid (eqV_eq x y)
  have IH := hid ih
  clear ih hI hK hx hI2 hK2 hy
  generalize x.kind = xk at *
  generalize x.num = xn at *
  generalize x.str = xs at *
  generalize y.kind = yk at *
  generalize y.num = yn at *
  generalize y.str = ys at *
  generalize hnx : eqV x y = nx at *
  clear hnx
  generalize hxi : x.items = is at *
  clear hxi
  generalize hxi : x.keys = ks at *
  clear hxi
  generalize hxi : y.items = is2 at *
  clear hxi
  generalize hxi : y.keys = ks2 at *
  clear hxi
  have B0 := hid (show Below w.heap.size w ((w.alloc (.cells #[.int .i64 xk, .int .i64 xn, .string xs, .slice r is.length c, .slice rk ks.length ck] 26)).alloc (.cells #[.int .i64 yk, .int .i64 yn, .string ys, .slice r2 is2.length c2, .slice rk2 ks2.length ck2] 26)) from ((Below.refl _ _).alloc (Nat.le_refl _) _).alloc (by simp) _)
  by_cases h1 : xk = yk
  case neg =>
    have HF := hid (show nx = false by rw [HN.out]; simp [h1])
    have e1 : (xk != yk) = true := by simpa using h1
    have e2 : (xk == yk) = false := by simpa using h1
    clear h1
    go_enter Tryd.func18, Tryd.ntmps18
    go_wp2
    go_ret
    exact ⟨ret_bool HF.out, B0.out⟩
  subst h1
  by_cases h2 : xn = yn
  case neg =>
    have HF := hid (show nx = false by rw [HN.out]; simp [h2])
    have e1 : (xn != yn) = true := by simpa using h2
    have e2 : (xn == yn) = false := by simpa using h2
    clear h2
    go_enter Tryd.func18, Tryd.ntmps18
    go_wp2
    go_ret
    exact ⟨ret_bool HF.out, B0.out⟩
  subst h2
  by_cases h3 : xs = ys
  case neg =>
    have HF := hid (show nx = false by rw [HN.out]; simp [h3])
    have e1 := str_ne' h3
    have e2 := str_ne h3
    clear h3
    go_enter Tryd.func18, Tryd.ntmps18
    go_wp2
    go_ret
    exact ⟨ret_bool HF.out, B0.out⟩
  subst h3
  by_cases h4 : is.length = is2.length
  case neg =>
    have HF := hid (show nx = false by rw [HN.out]; rw [eqL_len h4]; simp)
    have e1 : ((is.length : Int) != (is2.length : Int)) = true := by simp; omega
    have e2 : ((is.length : Int) == (is2.length : Int)) = false := by simp; omega
    clear h4
    go_enter Tryd.func18, Tryd.ntmps18
    go_wp2
    go_ret
    exact ⟨ret_bool HF.out, B0.out⟩
  by_cases h5 : ks.length = ks2.length
  case neg =>
    have HF := hid (show nx = false by rw [HN.out]; rw [decide_eq_false (show ¬ ks = ks2 from fun e => h5 (by rw [e]))]; simp)
    have e1 : ((ks.length : Int) != (ks2.length : Int)) = true := by simp; omega
    have e2 : ((ks.length : Int) == (ks2.length : Int)) = false := by simp; omega
    have e3 : ((is.length : Int) != (is2.length : Int)) = false := by simp; omega
    have e4 : ((is.length : Int) == (is2.length : Int)) = true := by simp; omega
    clear h4
    clear h5
    go_enter Tryd.func18, Tryd.ntmps18
    go_wp2
    go_ret
    exact ⟨ret_bool HF.out, B0.out⟩
  have e3 : ((is.length : Int) != (is2.length : Int)) = false := by simp; omega
  have e4 : ((is.length : Int) == (is2.length : Int)) = true := by simp; omega
  have e5 : ((ks.length : Int) != (ks2.length : Int)) = false := by simp; omega
  have e6' : ((ks.length : Int) == (ks2.length : Int)) = true := by simp; omega
  have H4 := hid h4
  have H5 := hid h5
  have HN := hid (show nx = (decide (ks = ks2) && eqL is is2) by rw [HN.out]; simp)
  clear h4 h5
  go_enter Tryd.func18, Tryd.ntmps18
  go_wp2
  clear e3 e4 e5 e6'
  generalize hW0 : ((w.alloc (.cells #[.int .i64 xk, .int .i64 xn, .string xs, .slice r is.length c, .slice rk ks.length ck] 26)).alloc (.cells #[.int .i64 xk, .int .i64 xn, .string xs, .slice r2 is2.length c2, .slice rk2 ks2.length ck2] 26)) = W0 at *
  have c3 : W0.cell? ⟨w.heap.size, 3, none⟩ = some (.slice r is.length c) := by rw [← hW0]; exact (bget ((Below.refl _ _).alloc (Nat.le_refl _) _) (cell_at rfl rfl))
  have c4 : W0.cell? ⟨w.heap.size, 4, none⟩ = some (.slice rk ks.length ck) := by rw [← hW0]; exact (bget ((Below.refl _ _).alloc (Nat.le_refl _) _) (cell_at rfl rfl))
  have d3 : W0.cell? ⟨w.heap.size + 1, 3, none⟩ = some (.slice r2 is2.length c2) := by rw [← hW0]; exact cell_at (by simp) rfl
  have d4 : W0.cell? ⟨w.heap.size + 1, 4, none⟩ = some (.slice rk2 ks2.length ck2) := by rw [← hW0]; exact cell_at (by simp) rfl
  clear hW0
  have C3 := hid c3
  have C4 := hid c4
  have D3 := hid d3
  have D4 := hid d4
  clear c3 c4 d3 d4
  go_loopg [5] ks.length (fun gg s5 wr => ∃ k : Nat, k ≤ ks.length ∧ ks.length - k ≤ gg ∧ s5 = .int .i64 k ∧ Aside (Below W0.heap.size W0 wr) ∧ Aside (∀ i (h : i < ks.length) (h' : i < ks2.length), i < k → ks[i] = ks2[i]))
  case atStart => exact ⟨0, Nat.zero_le _, by omega, rfl, Below.refl _ _, fun i _ _ h => absurd h (by omega)⟩
  case round =>
    obtain ⟨k, hk, hg, rfl, BW, AL⟩ := hrel
    have c4 := bget BW.out C4.out
    have d4 := bget BW.out D4.out
    have c3 := bget BW.out C3.out
    have d3 := bget BW.out D3.out
    have hz1 := World.block_lt_of_cell? _ _ c4
    have hz2 := World.block_lt_of_cell? _ _ d4
    simp only at hz1 hz2
    have BX := hid (B0.out.trans (BW.out.mono B0.out.size))
    by_cases hlt : k < ks.length
    case pos =>
      have hltz : (k : Int) < (ks.length : Int) := by omega
      have hlt2 : k < ks2.length := by have := H5.out; omega
      have hltz2 : (k : Int) < (ks2.length : Int) := by omega
      have HKx := HK.out.below strR_mono BX.out
      have HKy := HK2.out.below strR_mono BX.out
      obtain ⟨b, off, rfl, hb, g0, _⟩ := str_at HKx k hlt
      obtain ⟨b2, off2, rfl, hb2, g1, _⟩ := str_at HKy k hlt2
      have BW2 := hid BW.out
      clear HKx HKy BW
      have hcg := cells_regrown wr
      by_cases hq : ks[k] = ks2[k]
      · have AL2 := hid (show ∀ i (h : i < ks.length) (h' : i < ks2.length), i < k + 1 → ks[i] = ks2[i] from fun i h h' hi => by
          by_cases e : i < k
          · exact AL.out i h h' e
          · obtain rfl : i = k := by omega
            exact hq)
        clear AL
        rw [← hq] at g1
        clear hq
        generalize ks[k] = kx at *
        go_wp2
        refine wp_region_quiet_below (by kernel_rfl) (by kernel_rfl) ?_
        repeat (first | go_big_quiet_step (fail) | quiet_step (fail))
        refine wpQuiet_nil ?_
        intro _ hw'
        obtain ⟨⟨dq, osq⟩, hw''⟩ := hw'
        subst hw''
        clear hcg
        have BV := hid (BW2.out.trans ((below_regrown wr dq osq).mono BW2.out.size))
        go_wp2
        go_roundg (ks.length - (k + 1))
        case measure => omega
        case rel => exact ⟨k + 1, by omega, by omega, by go_num, BV.out, AL2.out⟩
      · have HN := hid (show nx = false by rw [HN.out, decide_eq_false (show ¬ ks = ks2 from fun e => hq (by simp only [e]))]; simp)
        have e1 := str_ne' hq
        have e2 := str_ne hq
        clear AL hq
        generalize ks[k] = kx at *
        generalize ks2[k] = ky at *
        go_wp2
        refine wp_region_quiet_below (by kernel_rfl) (by kernel_rfl) ?_
        repeat (first | go_big_quiet_step (fail) | quiet_step (fail))
        refine wpQuiet_nil ?_
        intro _ hw'
        obtain ⟨⟨dq, osq⟩, hw''⟩ := hw'
        subst hw''
        clear hcg
        have BV := hid (BX.out.trans ((below_regrown wr dq osq).mono BX.out.size))
        go_wp2
        go_ret
        exact ⟨ret_bool HN.out, BV.out⟩
    case neg =>
    have hltz : ¬ (k : Int) < (ks.length : Int) := by omega
    have HN := hid (show nx = eqL is is2 by
      have e : ks = ks2 := keys_eq_of H5.out fun i h h' => AL.out i h h' (by omega)
      rw [HN.out, decide_eq_true e]; simp)
    have BW2 := hid BW.out
    clear AL BW
    obtain ⟨W1, rfl⟩ : ∃ W1 : World, W1 = wr := ⟨_, rfl⟩
    go_wp2
    clear c3 c4 d3 d4 hz1 hz2
    go_loopg [6] is.length (fun gg s6 wr => ∃ k : Nat, k ≤ is.length ∧ is.length - k ≤ gg ∧ s6 = .int .i64 k ∧ Aside (Below W0.heap.size W0 wr) ∧ Aside (∀ i (h : i < is.length) (h' : i < is2.length), i < k → eqV is[i] is2[i] = true))
    case atStart => exact ⟨0, Nat.zero_le _, by omega, rfl, BW2.out, fun i _ _ h => absurd h (by omega)⟩
    case round =>
      clear BX
      obtain ⟨j, hj, hg2, rfl, BW, AL⟩ := hrel
      have c4 := bget BW.out C4.out
      have d4 := bget BW.out D4.out
      have c3 := bget BW.out C3.out
      have d3 := bget BW.out D3.out
      have hz1 := World.block_lt_of_cell? _ _ c4
      have hz2 := World.block_lt_of_cell? _ _ d4
      simp only at hz1 hz2
      have BX := hid (B0.out.trans (BW.out.mono B0.out.size))
      by_cases hlt : j < is.length
      case pos =>
        have hltz : (j : Int) < (is.length : Int) := by omega
        have hlt2 : j < is2.length := by have := H4.out; omega
        have hltz2 : (j : Int) < (is2.length : Int) := by omega
        have HIx := slv_mono HI.out BX.out
        have HIy := slv_mono HI2.out BX.out
        obtain ⟨b, off, ri, ci, rk', ck', rfl, hb, g0, g1, g2, g3, g4, h5⟩ := val_at HIx j hlt
        obtain ⟨b2, off2, ri2, ci2, rk2', ck2', rfl, hb2, f0, f1, f2, f3, f4, h6⟩ := val_at HIy j hlt2
        have CC := hid (fun (W : World) (hW : Below wr.heap.size wr W) => IH.out _ (List.getElem_mem hlt) is2[j] ri ci rk' ck' ri2 ci2 rk2' ck2' W (h5.below hW) (h6.below hW))
        have BW2 := hid BW.out
        clear HIx HIy BW h5 h6
        have hcg := cells_regrown wr
        cases hq : eqV is[j] is2[j]
        case true =>
          have AL2 := hid (show ∀ i (h : i < is.length) (h' : i < is2.length), i < j + 1 → eqV is[i] is2[i] = true from fun i h h' hi => by
            by_cases e : i < j
            · exact AL.out i h h' e
            · obtain rfl : i = j := by omega
              exact hq)
          rw [hq] at CC
          clear AL hq
          generalize is[j] = vx at *
          generalize is2[j] = vy at *
          obtain ⟨vk, vn, vs, vi, vks⟩ := vx
          obtain ⟨uk, un, us, ui, uks⟩ := vy
          simp only [Val.kind, Val.num, Val.str, Val.items, Val.keys] at g0 g1 g2 g3 g4 f0 f1 f2 f3 f4 CC
          go_wp2
          refine wp_region_quiet_below (by kernel_rfl) (by kernel_rfl) ?_
          repeat (first | go_big_quiet_step (exact Calls.regrown_of (CC.out _ (below_regrown _ _ _))) | quiet_step (exact Calls.regrown_of (CC.out _ (below_regrown _ _ _))))
          refine wpQuiet_nil ?_
          intro _ hw'
          obtain ⟨⟨dq, osq⟩, hw''⟩ := hw'
          subst hw''
          clear hcg
          have BV := hid (BW2.out.trans ((below_regrown wr dq osq).mono BW2.out.size))
          go_wp2
          go_roundg (is.length - (j + 1))
          case measure => omega
          case rel => exact ⟨j + 1, by omega, by omega, by go_num, BV.out, AL2.out⟩
        case false =>
          have HN := hid (show nx = false from HN.out.trans (eqL_false H4.out j hlt hq))
          rw [hq] at CC
          clear AL hq
          generalize is[j] = vx at *
          generalize is2[j] = vy at *
          obtain ⟨vk, vn, vs, vi, vks⟩ := vx
          obtain ⟨uk, un, us, ui, uks⟩ := vy
          simp only [Val.kind, Val.num, Val.str, Val.items, Val.keys] at g0 g1 g2 g3 g4 f0 f1 f2 f3 f4 CC
          go_wp2
          refine wp_region_quiet_below (by kernel_rfl) (by kernel_rfl) ?_
          repeat (first | go_big_quiet_step (exact Calls.regrown_of (CC.out _ (below_regrown _ _ _))) | quiet_step (exact Calls.regrown_of (CC.out _ (below_regrown _ _ _))))
          refine wpQuiet_nil ?_
          intro _ hw'
          obtain ⟨⟨dq, osq⟩, hw''⟩ := hw'
          subst hw''
          clear hcg
          have BV := hid (BX.out.trans ((below_regrown wr dq osq).mono BX.out.size))
          go_wp2
          go_ret
          exact ⟨ret_bool HN.out, BV.out⟩
      case neg =>
      have hltz : ¬ (j : Int) < (is.length : Int) := by omega
      have HN := hid (show nx = true from HN.out.trans (eqL_true.2 ⟨H4.out, fun i h h' => AL.out i h h' (by omega)⟩))
      clear AL BW
      go_wp2
      go_ret
      exact ⟨ret_bool HN.out, BX.out⟩
set_option maxRecDepth 100000 in
set_option maxHeartbeats 2000000 in
theorem rrefines_any (x : Val) : ∀ (y : Val) (r : Option Addr) (c : Nat) (rk : Option Addr) (ck : Nat) (r2 : Option Addr) (c2 : Nat) (rk2 : Option Addr) (ck2 : Nat) (w : World), VR5 w r c rk ck x → VR5 w r2 c2 rk2 ck2 y →
    Calls Tryd.prog 24 #[.agg #[.int .i64 x.kind, .int .i64 x.num, .string x.str, .slice r x.items.length c, .slice rk x.keys.length ck], .agg #[.int .i64 y.kind, .int .i64 y.num, .string y.str, .slice r2 y.items.length c2, .slice rk2 y.keys.length ck2]] w fun e w' => e = .returned (.bool (rfnV x y)) ∧ Below w.heap.size w w' := by
  refine Val.ind (P := fun x => ∀ (y : Val) (r : Option Addr) (c : Nat) (rk : Option Addr) (ck : Nat) (r2 : Option Addr) (c2 : Nat) (rk2 : Option Addr) (ck2 : Nat) (w : World), VR5 w r c rk ck x → VR5 w r2 c2 rk2 ck2 y →
    Calls Tryd.prog 24 #[.agg #[.int .i64 x.kind, .int .i64 x.num, .string x.str, .slice r x.items.length c, .slice rk x.keys.length ck], .agg #[.int .i64 y.kind, .int .i64 y.num, .string y.str, .slice r2 y.items.length c2, .slice rk2 y.keys.length ck2]] w fun e w' => e = .returned (.bool (rfnV x y)) ∧ Below w.heap.size w w') ?_ x
  intro x ih y r c rk ck r2 c2 rk2 ck2 w hx hy
  obtain ⟨hI, hK, _, _, _, hkl, hil⟩ := hx.parts
  obtain ⟨hI2, hK2, _, _, _, hkl2, hil2⟩ := hy.parts
  have HI := hid hI
  have HK := hid hK
  have HI2 := hid hI2
  have HK2 := hid hK2
  obtain ⟨_, hlc, hcm⟩ := sl_len hI
  obtain ⟨_, hlk, hkm⟩ := sl_len hK
  obtain ⟨_, hlc2, hcm2⟩ := sl_len hI2
  obtain ⟨_, hlk2, hkm2⟩ := sl_len hK2
  have HN := hid (rfnV_eq x y)
  have IH := hid ih
  clear ih hI hK hx hI2 hK2 hy
  generalize x.kind = xk at *
  generalize x.num = xn at *
  generalize x.str = xs at *
  generalize y.kind = yk at *
  generalize y.num = yn at *
  generalize y.str = ys at *
  generalize hnx : rfnV x y = nx at *
  clear hnx
  generalize hxi : x.items = is at *
  clear hxi
  generalize hxi : x.keys = ks at *
  clear hxi
  generalize hxi : y.items = is2 at *
  clear hxi
  generalize hxi : y.keys = ks2 at *
  clear hxi
  have B0 := hid (show Below w.heap.size w ((w.alloc (.cells #[.int .i64 xk, .int .i64 xn, .string xs, .slice r is.length c, .slice rk ks.length ck] 26)).alloc (.cells #[.int .i64 yk, .int .i64 yn, .string ys, .slice r2 is2.length c2, .slice rk2 ks2.length ck2] 26)) from ((Below.refl _ _).alloc (Nat.le_refl _) _).alloc (by simp) _)
  by_cases h6 : yk = 6
  · subst h6
    have HF := hid (show nx = true by rw [HN.out]; simp)
    go_enter Tryd.func24, Tryd.ntmps24
    go_wp2
    go_ret
    exact ⟨ret_bool HF.out, B0.out⟩
  have e6 : (yk == 6) = false := by simpa using h6
  have HN := hid (show nx = (decide (xk = yk) && decide (xn = yn) && decide (xs = ys) && decide (ks = ks2) && rfnL is is2) by rw [HN.out]; simp [h6])
  clear h6
  by_cases h1 : xk = yk
  case neg =>
    have HF := hid (show nx = false by rw [HN.out]; simp [h1])
    have e1 : (xk != yk) = true := by simpa using h1
    have e2 : (xk == yk) = false := by simpa using h1
    clear h1
    go_enter Tryd.func24, Tryd.ntmps24
    go_wp2
    go_ret
    exact ⟨ret_bool HF.out, B0.out⟩
  subst h1
  by_cases h2 : xn = yn
  case neg =>
    have HF := hid (show nx = false by rw [HN.out]; simp [h2])
    have e1 : (xn != yn) = true := by simpa using h2
    have e2 : (xn == yn) = false := by simpa using h2
    clear h2
    go_enter Tryd.func24, Tryd.ntmps24
    go_wp2
    go_ret
    exact ⟨ret_bool HF.out, B0.out⟩
  subst h2
  by_cases h3 : xs = ys
  case neg =>
    have HF := hid (show nx = false by rw [HN.out]; simp [h3])
    have e1 := str_ne' h3
    have e2 := str_ne h3
    clear h3
    go_enter Tryd.func24, Tryd.ntmps24
    go_wp2
    go_ret
    exact ⟨ret_bool HF.out, B0.out⟩
  subst h3
  by_cases h4 : is.length = is2.length
  case neg =>
    have HF := hid (show nx = false by rw [HN.out]; rw [rfnL_len h4]; simp)
    have e1 : ((is.length : Int) != (is2.length : Int)) = true := by simp; omega
    have e2 : ((is.length : Int) == (is2.length : Int)) = false := by simp; omega
    clear h4
    go_enter Tryd.func24, Tryd.ntmps24
    go_wp2
    go_ret
    exact ⟨ret_bool HF.out, B0.out⟩
  by_cases h5 : ks.length = ks2.length
  case neg =>
    have HF := hid (show nx = false by rw [HN.out]; rw [decide_eq_false (show ¬ ks = ks2 from fun e => h5 (by rw [e]))]; simp)
    have e1 : ((ks.length : Int) != (ks2.length : Int)) = true := by simp; omega
    have e2 : ((ks.length : Int) == (ks2.length : Int)) = false := by simp; omega
    have e3 : ((is.length : Int) != (is2.length : Int)) = false := by simp; omega
    have e4 : ((is.length : Int) == (is2.length : Int)) = true := by simp; omega
    clear h4
    clear h5
    go_enter Tryd.func24, Tryd.ntmps24
    go_wp2
    go_ret
    exact ⟨ret_bool HF.out, B0.out⟩
  have e3 : ((is.length : Int) != (is2.length : Int)) = false := by simp; omega
  have e4 : ((is.length : Int) == (is2.length : Int)) = true := by simp; omega
  have e5 : ((ks.length : Int) != (ks2.length : Int)) = false := by simp; omega
  have e6' : ((ks.length : Int) == (ks2.length : Int)) = true := by simp; omega
  have H4 := hid h4
  have H5 := hid h5
  have HN := hid (show nx = (decide (ks = ks2) && rfnL is is2) by rw [HN.out]; simp)
  clear h4 h5
  go_enter Tryd.func24, Tryd.ntmps24
  go_wp2
  clear e3 e4 e5 e6'
  generalize hW0 : ((w.alloc (.cells #[.int .i64 xk, .int .i64 xn, .string xs, .slice r is.length c, .slice rk ks.length ck] 26)).alloc (.cells #[.int .i64 xk, .int .i64 xn, .string xs, .slice r2 is2.length c2, .slice rk2 ks2.length ck2] 26)) = W0 at *
  have c3 : W0.cell? ⟨w.heap.size, 3, none⟩ = some (.slice r is.length c) := by rw [← hW0]; exact (bget ((Below.refl _ _).alloc (Nat.le_refl _) _) (cell_at rfl rfl))
  have c4 : W0.cell? ⟨w.heap.size, 4, none⟩ = some (.slice rk ks.length ck) := by rw [← hW0]; exact (bget ((Below.refl _ _).alloc (Nat.le_refl _) _) (cell_at rfl rfl))
  have d3 : W0.cell? ⟨w.heap.size + 1, 3, none⟩ = some (.slice r2 is2.length c2) := by rw [← hW0]; exact cell_at (by simp) rfl
  have d4 : W0.cell? ⟨w.heap.size + 1, 4, none⟩ = some (.slice rk2 ks2.length ck2) := by rw [← hW0]; exact cell_at (by simp) rfl
  clear hW0
  have C3 := hid c3
  have C4 := hid c4
  have D3 := hid d3
  have D4 := hid d4
  clear c3 c4 d3 d4
  go_loopg [5] ks.length (fun gg s5 wr => ∃ k : Nat, k ≤ ks.length ∧ ks.length - k ≤ gg ∧ s5 = .int .i64 k ∧ Aside (Below W0.heap.size W0 wr) ∧ Aside (∀ i (h : i < ks.length) (h' : i < ks2.length), i < k → ks[i] = ks2[i]))
  case atStart => exact ⟨0, Nat.zero_le _, by omega, rfl, Below.refl _ _, fun i _ _ h => absurd h (by omega)⟩
  case round =>
    obtain ⟨k, hk, hg, rfl, BW, AL⟩ := hrel
    have c4 := bget BW.out C4.out
    have d4 := bget BW.out D4.out
    have c3 := bget BW.out C3.out
    have d3 := bget BW.out D3.out
    have hz1 := World.block_lt_of_cell? _ _ c4
    have hz2 := World.block_lt_of_cell? _ _ d4
    simp only at hz1 hz2
    have BX := hid (B0.out.trans (BW.out.mono B0.out.size))
    by_cases hlt : k < ks.length
    case pos =>
      have hltz : (k : Int) < (ks.length : Int) := by omega
      have hlt2 : k < ks2.length := by have := H5.out; omega
      have hltz2 : (k : Int) < (ks2.length : Int) := by omega
      have HKx := HK.out.below strR_mono BX.out
      have HKy := HK2.out.below strR_mono BX.out
      obtain ⟨b, off, rfl, hb, g0, _⟩ := str_at HKx k hlt
      obtain ⟨b2, off2, rfl, hb2, g1, _⟩ := str_at HKy k hlt2
      have BW2 := hid BW.out
      clear HKx HKy BW
      have hcg := cells_regrown wr
      by_cases hq : ks[k] = ks2[k]
      · have AL2 := hid (show ∀ i (h : i < ks.length) (h' : i < ks2.length), i < k + 1 → ks[i] = ks2[i] from fun i h h' hi => by
          by_cases e : i < k
          · exact AL.out i h h' e
          · obtain rfl : i = k := by omega
            exact hq)
        clear AL
        rw [← hq] at g1
        clear hq
        generalize ks[k] = kx at *
        go_wp2
        refine wp_region_quiet_below (by kernel_rfl) (by kernel_rfl) ?_
        repeat (first | go_big_quiet_step (fail) | quiet_step (fail))
        refine wpQuiet_nil ?_
        intro _ hw'
        obtain ⟨⟨dq, osq⟩, hw''⟩ := hw'
        subst hw''
        clear hcg
        have BV := hid (BW2.out.trans ((below_regrown wr dq osq).mono BW2.out.size))
        go_wp2
        go_roundg (ks.length - (k + 1))
        case measure => omega
        case rel => exact ⟨k + 1, by omega, by omega, by go_num, BV.out, AL2.out⟩
      · have HN := hid (show nx = false by rw [HN.out, decide_eq_false (show ¬ ks = ks2 from fun e => hq (by simp only [e]))]; simp)
        have e1 := str_ne' hq
        have e2 := str_ne hq
        clear AL hq
        generalize ks[k] = kx at *
        generalize ks2[k] = ky at *
        go_wp2
        refine wp_region_quiet_below (by kernel_rfl) (by kernel_rfl) ?_
        repeat (first | go_big_quiet_step (fail) | quiet_step (fail))
        refine wpQuiet_nil ?_
        intro _ hw'
        obtain ⟨⟨dq, osq⟩, hw''⟩ := hw'
        subst hw''
        clear hcg
        have BV := hid (BX.out.trans ((below_regrown wr dq osq).mono BX.out.size))
        go_wp2
        go_ret
        exact ⟨ret_bool HN.out, BV.out⟩
    case neg =>
    have hltz : ¬ (k : Int) < (ks.length : Int) := by omega
    have HN := hid (show nx = rfnL is is2 by
      have e : ks = ks2 := keys_eq_of H5.out fun i h h' => AL.out i h h' (by omega)
      rw [HN.out, decide_eq_true e]; simp)
    have BW2 := hid BW.out
    clear AL BW
    obtain ⟨W1, rfl⟩ : ∃ W1 : World, W1 = wr := ⟨_, rfl⟩
    go_wp2
    clear c3 c4 d3 d4 hz1 hz2
    go_loopg [6] is.length (fun gg s6 wr => ∃ k : Nat, k ≤ is.length ∧ is.length - k ≤ gg ∧ s6 = .int .i64 k ∧ Aside (Below W0.heap.size W0 wr) ∧ Aside (∀ i (h : i < is.length) (h' : i < is2.length), i < k → rfnV is[i] is2[i] = true))
    case atStart => exact ⟨0, Nat.zero_le _, by omega, rfl, BW2.out, fun i _ _ h => absurd h (by omega)⟩
    case round =>
      clear BX
      obtain ⟨j, hj, hg2, rfl, BW, AL⟩ := hrel
      have c4 := bget BW.out C4.out
      have d4 := bget BW.out D4.out
      have c3 := bget BW.out C3.out
      have d3 := bget BW.out D3.out
      have hz1 := World.block_lt_of_cell? _ _ c4
      have hz2 := World.block_lt_of_cell? _ _ d4
      simp only at hz1 hz2
      have BX := hid (B0.out.trans (BW.out.mono B0.out.size))
      by_cases hlt : j < is.length
      case pos =>
        have hltz : (j : Int) < (is.length : Int) := by omega
        have hlt2 : j < is2.length := by have := H4.out; omega
        have hltz2 : (j : Int) < (is2.length : Int) := by omega
        have HIx := slv_mono HI.out BX.out
        have HIy := slv_mono HI2.out BX.out
        obtain ⟨b, off, ri, ci, rk', ck', rfl, hb, g0, g1, g2, g3, g4, h5⟩ := val_at HIx j hlt
        obtain ⟨b2, off2, ri2, ci2, rk2', ck2', rfl, hb2, f0, f1, f2, f3, f4, h6⟩ := val_at HIy j hlt2
        have CC := hid (fun (W : World) (hW : Below wr.heap.size wr W) => IH.out _ (List.getElem_mem hlt) is2[j] ri ci rk' ck' ri2 ci2 rk2' ck2' W (h5.below hW) (h6.below hW))
        have BW2 := hid BW.out
        clear HIx HIy BW h5 h6
        have hcg := cells_regrown wr
        cases hq : rfnV is[j] is2[j]
        case true =>
          have AL2 := hid (show ∀ i (h : i < is.length) (h' : i < is2.length), i < j + 1 → rfnV is[i] is2[i] = true from fun i h h' hi => by
            by_cases e : i < j
            · exact AL.out i h h' e
            · obtain rfl : i = j := by omega
              exact hq)
          rw [hq] at CC
          clear AL hq
          generalize is[j] = vx at *
          generalize is2[j] = vy at *
          obtain ⟨vk, vn, vs, vi, vks⟩ := vx
          obtain ⟨uk, un, us, ui, uks⟩ := vy
          simp only [Val.kind, Val.num, Val.str, Val.items, Val.keys] at g0 g1 g2 g3 g4 f0 f1 f2 f3 f4 CC
          go_wp2
          refine wp_region_quiet_below (by kernel_rfl) (by kernel_rfl) ?_
          repeat (first | go_big_quiet_step (exact Calls.regrown_of (CC.out _ (below_regrown _ _ _))) | quiet_step (exact Calls.regrown_of (CC.out _ (below_regrown _ _ _))))
          refine wpQuiet_nil ?_
          intro _ hw'
          obtain ⟨⟨dq, osq⟩, hw''⟩ := hw'
          subst hw''
          clear hcg
          have BV := hid (BW2.out.trans ((below_regrown wr dq osq).mono BW2.out.size))
          go_wp2
          go_roundg (is.length - (j + 1))
          case measure => omega
          case rel => exact ⟨j + 1, by omega, by omega, by go_num, BV.out, AL2.out⟩
        case false =>
          have HN := hid (show nx = false from HN.out.trans (rfnL_false H4.out j hlt hq))
          rw [hq] at CC
          clear AL hq
          generalize is[j] = vx at *
          generalize is2[j] = vy at *
          obtain ⟨vk, vn, vs, vi, vks⟩ := vx
          obtain ⟨uk, un, us, ui, uks⟩ := vy
          simp only [Val.kind, Val.num, Val.str, Val.items, Val.keys] at g0 g1 g2 g3 g4 f0 f1 f2 f3 f4 CC
          go_wp2
          refine wp_region_quiet_below (by kernel_rfl) (by kernel_rfl) ?_
          repeat (first | go_big_quiet_step (exact Calls.regrown_of (CC.out _ (below_regrown _ _ _))) | quiet_step (exact Calls.regrown_of (CC.out _ (below_regrown _ _ _))))
          refine wpQuiet_nil ?_
          intro _ hw'
          obtain ⟨⟨dq, osq⟩, hw''⟩ := hw'
          subst hw''
          clear hcg
          have BV := hid (BX.out.trans ((below_regrown wr dq osq).mono BX.out.size))
          go_wp2
          go_ret
          exact ⟨ret_bool HN.out, BV.out⟩
      case neg =>
      have hltz : ¬ (j : Int) < (is.length : Int) := by omega
      have HN := hid (show nx = true from HN.out.trans (rfnL_true.2 ⟨H4.out, fun i h h' => AL.out i h h' (by omega)⟩))
      clear AL BW
      go_wp2
      go_ret
      exact ⟨ret_bool HN.out, BX.out⟩

theorem knownL_append (a b : List Val) : knownL (a ++ b) = (knownL a && knownL b) := by
  induction a with
  | nil => simp [knownL]
  | cons x xs ih => simp only [List.cons_append, knownL, ih, Bool.and_assoc]
theorem knownL_snoc {is : List Val} {k : Nat} (h : k < is.length) : knownL (is.take (k + 1)) = (knownL (is.take k) && knownV is[k]) := by
  rw [List.take_succ_eq_append_getElem h, knownL_append]; simp [knownL]
theorem knownL_no {is : List Val} {k : Nat} (h : k < is.length) (hk : knownV is[k] = false) : knownL is = false := by
  rw [← List.take_append_drop k is, knownL_append, List.drop_eq_getElem_cons h, knownL, hk]; simp
set_option maxRecDepth 100000 in
theorem rknown_any (x : Val) : ∀ (r : Option Addr) (c : Nat) (rk : Option Addr) (ck : Nat) (w : World), VR5 w r c rk ck x →
    Calls Tryd.prog 22 #[.agg #[.int .i64 x.kind, .int .i64 x.num, .string x.str, .slice r x.items.length c, .slice rk x.keys.length ck]] w fun e w' => e = .returned (.bool (knownV x)) ∧ Below w.heap.size w w' := by
  refine Val.ind (P := fun x => ∀ (r : Option Addr) (c : Nat) (rk : Option Addr) (ck : Nat) (w : World), VR5 w r c rk ck x →
    Calls Tryd.prog 22 #[.agg #[.int .i64 x.kind, .int .i64 x.num, .string x.str, .slice r x.items.length c, .slice rk x.keys.length ck]] w fun e w' => e = .returned (.bool (knownV x)) ∧ Below w.heap.size w w') ?_ x
  intro x ih r c rk ck w hx
  obtain ⟨hI, hK, _, _, _, hkl, hil⟩ := hx.parts
  obtain ⟨_, hlc, hcm⟩ := sl_len hI
  have HI := hid hI
  have HN := hid (knownV_eq x)
  have IH := hid ih
  clear ih hI hK hx
  generalize x.kind = xk at *
  generalize x.num = xn at *
  generalize x.str = xs at *
  generalize x.keys.length = xkl at *
  generalize hnx : knownV x = nx at *
  clear hnx
  generalize hxi : x.items = is at *
  clear hxi
  have B0 := hid (show Below w.heap.size w (w.alloc (.cells #[.int .i64 xk, .int .i64 xn, .string xs, .slice r is.length c, .slice rk xkl ck] 26)) from (Below.refl _ _).alloc (Nat.le_refl _) _)
  by_cases h6 : xk = 6
  · subst h6
    have HN := hid (show nx = false by rw [HN.out]; simp)
    go_enter Tryd.func22, Tryd.ntmps22
    go_wp2
    go_ret
    exact ⟨ret_bool HN.out, B0.out⟩
  have e6 : (xk == 6) = false := by simpa using h6
  have HN := hid (show nx = knownL is by rw [HN.out]; simp [h6])
  clear h6
  go_enter Tryd.func22, Tryd.ntmps22
  go_wp2
  go_loopg [3] is.length (fun gg s3 wr => ∃ k : Nat, k ≤ is.length ∧ is.length - k ≤ gg ∧ s3 = .int .i64 k ∧ Aside (knownL (is.take k) = true) ∧ Aside (Below (w.heap.size + 1) (w.alloc (.cells #[.int .i64 xk, .int .i64 xn, .string xs, .slice r is.length c, .slice rk xkl ck] 26)) wr))
  case atStart => exact ⟨0, Nat.zero_le _, by omega, rfl, by rw [List.take_zero]; rfl, Below.refl _ _⟩
  case round =>
    obtain ⟨k, hk, hg, rfl, AL, BW⟩ := hrel
    have q3 : wr.cell? ⟨w.heap.size, 3, none⟩ = some (.slice r is.length c) := (BW.out.cell (p := ⟨w.heap.size, 3, none⟩) (by simp)).trans (cell_at rfl rfl)
    have BX := hid (B0.out.trans (BW.out.mono (by simp)))
    by_cases hlt : k < is.length
    · have hltz : (k : Int) < (is.length : Int) := by omega
      obtain ⟨b, off, ri, ci, rk', ck', rfl, hb, g0, g1, g2, g3, g4, h5⟩ := val_at (slv_mono HI.out BX.out) k hlt
      have C := hid (IH.out _ (List.getElem_mem hlt) ri ci rk' ck' wr h5)
      have HT := hid (knownL_snoc hlt)
      have HF := hid (knownL_no hlt)
      clear h5
      generalize is[k] = y at *
      obtain ⟨yk, yn, ys, yi, yks⟩ := y
      simp only [Val.kind, Val.num, Val.str, Val.items, Val.keys] at g0 g1 g2 g3 g4 C
      cases hq : knownV (.mk yk yn ys yi yks)
      · have HN := hid (HN.out.trans (HF.out hq))
        rw [hq] at C
        clear HT HF hq AL
        go_wp2_with fail
        refine C.out.mono ?_
        rintro e w1 ⟨rfl, hb1⟩
        have B1 := hid (BX.out.trans (hb1.mono BX.out.size))
        clear hb1
        go_wp2
        go_ret
        exact ⟨ret_bool HN.out, B1.out⟩
      · have HT := hid (show knownL (is.take (k + 1)) = true by rw [HT.out, AL.out, hq]; rfl)
        rw [hq] at C
        clear HF hq AL
        go_wp2_with fail
        refine C.out.mono ?_
        rintro e w1 ⟨rfl, hb1⟩
        have B1 := hid (BW.out.trans (hb1.mono (by have := BW.out.size; simpa using this)))
        clear hb1
        go_wp2
        go_roundg (is.length - (k + 1))
        case measure => omega
        case rel => exact ⟨k + 1, by omega, by omega, by go_num, HT.out, B1.out⟩
    · have hltz : ¬ (k : Int) < (is.length : Int) := by omega
      have HN := hid (show nx = true by
        have := AL.out
        rw [show k = is.length by omega, List.take_length] at this
        exact HN.out.trans this)
      clear hlt hk AL
      go_wp2
      go_ret
      exact ⟨ret_bool HN.out, BX.out⟩
end Go.Proofs.YtedpdpcibkceeaaDoor
