import Derived.Test.YtedpdpcibkceeaaDoorRchk
import Derived.Shelf.GgClosure.Gives
import Derived.Shelf.SlicesQ.Load
/-
  Contracts of slices.Equal at strings, slices.EqualFunc at values, and of the program's Equal and Refines. Conditions: those ahead of each theorem.
-/
namespace Go.Proofs.YtedpdpcibkceeaaDoor
open Go.RowKit Go.Sort Go.Lib
open Go.Lib (hid)
set_option linter.unusedVariables false
set_option linter.unusedSimpArgs false

set_option maxRecDepth 100000 in
theorem seq_any (ks ks2 : List ByteArray) (rk rk2 : Option Addr) (ck ck2 : Nat) (w : World) (hK : Sl StrR 1 w (.slice rk ks.length ck) ks) (hK2 : Sl StrR 1 w (.slice rk2 ks2.length ck2) ks2) :
    Calls Tryd.prog 48 #[.slice rk ks.length ck, .slice rk2 ks2.length ck2] w fun e w' => e = .returned (.bool (decide (ks = ks2))) ∧ Below w.heap.size w w' := by
  obtain ⟨_, hlk, hkm⟩ := sl_len hK
  obtain ⟨_, hlk2, hkm2⟩ := sl_len hK2
  have HK := hid hK
  have HK2 := hid hK2
  clear hK hK2
  by_cases h5 : ks.length = ks2.length
  case neg =>
    have HF := hid (decide_eq_false (show ¬ ks = ks2 from fun e => h5 (by rw [e])))
    have e1 : ((ks.length : Int) != (ks2.length : Int)) = true := by simp; omega
    have e2 : ((ks.length : Int) == (ks2.length : Int)) = false := by simp; omega
    clear h5
    go_enter Tryd.func48, Tryd.ntmps48
    go_wp2
    go_ret
    exact ⟨ret_bool HF.out, Below.refl _ _⟩
  case pos =>
  have e1 : ((ks.length : Int) != (ks2.length : Int)) = false := by simp; omega
  have e2 : ((ks.length : Int) == (ks2.length : Int)) = true := by simp; omega
  have H5 := hid h5
  clear h5
  go_enter Tryd.func48, Tryd.ntmps48
  go_wp2
  clear e1 e2
  go_loopg [13] ks.length (fun gg s5 wr => ∃ k : Nat, k ≤ ks.length ∧ ks.length - k ≤ gg ∧ s5 = .int .i64 k ∧ Aside (Below w.heap.size w wr) ∧ Aside (∀ i (h : i < ks.length) (h' : i < ks2.length), i < k → ks[i] = ks2[i]))
  case atStart => exact ⟨0, Nat.zero_le _, by omega, rfl, Below.refl _ _, fun i _ _ h => absurd h (by omega)⟩
  case round =>
    obtain ⟨k, hk, hg, rfl, BW, AL⟩ := hrel
    by_cases hlt : k < ks.length
    case pos =>
      have hltz : (k : Int) < (ks.length : Int) := by omega
      have hlt2 : k < ks2.length := by have := H5.out; omega
      have hltz2 : (k : Int) < (ks2.length : Int) := by omega
      have HKx := HK.out.below strR_mono BW.out
      have HKy := HK2.out.below strR_mono BW.out
      obtain ⟨b, off, rfl, hb, g0, _⟩ := str_at HKx k hlt
      obtain ⟨b2, off2, rfl, hb2, g1, _⟩ := str_at HKy k hlt2
      have BW2 := hid BW.out
      clear HKx HKy BW
      have hcg := cells_regrown wr
      by_cases hq : ks[k] = ks2[k]
      · have AL2 := hid (show ∀ i (h : i < ks.length) (h' : i < ks2.length), i < k + 1 → ks[i] = ks2[i] from fun i h h' hi => by
          by_cases e : i < k
          · exact AL.out i h h' e
          · obtain rfl : i = k := by omega
            exact hq)
        clear AL
        rw [← hq] at g1
        clear hq
        generalize ks[k] = kx at *
        go_wp2
        refine wp_region_quiet_below (by kernel_rfl) (by kernel_rfl) ?_
        repeat (first | go_big_quiet_step (fail) | quiet_step (fail))
        refine wpQuiet_nil ?_
        intro _ hw'
        obtain ⟨⟨dq, osq⟩, hw''⟩ := hw'
        subst hw''
        clear hcg
        have BV := hid (BW2.out.trans ((below_regrown wr dq osq).mono BW2.out.size))
        go_wp2
        go_roundg (ks.length - (k + 1))
        case measure => omega
        case rel => exact ⟨k + 1, by omega, by omega, by go_num, BV.out, AL2.out⟩
      · have HF := hid (decide_eq_false (show ¬ ks = ks2 from fun e => hq (by simp only [e])))
        have e1 := str_ne' hq
        have e2 := str_ne hq
        clear AL hq
        generalize ks[k] = kx at *
        generalize ks2[k] = ky at *
        go_wp2
        refine wp_region_quiet_below (by kernel_rfl) (by kernel_rfl) ?_
        repeat (first | go_big_quiet_step (fail) | quiet_step (fail))
        refine wpQuiet_nil ?_
        intro _ hw'
        obtain ⟨⟨dq, osq⟩, hw''⟩ := hw'
        subst hw''
        clear hcg
        have BV := hid (BW2.out.trans ((below_regrown wr dq osq).mono BW2.out.size))
        go_wp2
        go_ret
        exact ⟨ret_bool HF.out, BV.out⟩
    case neg =>
    have hltz : ¬ (k : Int) < (ks.length : Int) := by omega
    have HF := hid (decide_eq_true (show ks = ks2 from keys_eq_of H5.out fun i h h' => AL.out i h h' (by omega)))
    have BW2 := hid BW.out
    clear AL BW
    go_wp2
    go_ret
    exact ⟨ret_bool HF.out, BW2.out⟩

set_option maxRecDepth 100000 in
set_option maxHeartbeats 2000000 in
theorem eqf_any (g : Nat) (R : Bool) (p : Val → Val → Bool) (eg : ∀ args w, (callFunc g args).run Tryd.prog w = .ok (.enter g args) w) (is is2 : List Val) (r r2 : Option Addr) (c c2 : Nat) (w : World)
    (hI : Sl VR 5 w (.slice r is.length c) is) (hI2 : Sl VR 5 w (.slice r2 is2.length c2) is2) (hR : R = true ↔ is.length = is2.length ∧ ∀ i (h : i < is.length) (h' : i < is2.length), p is[i] is2[i] = true)
    (hp : ∀ x ∈ is, ∀ (y : Val) (r : Option Addr) (c : Nat) (rk : Option Addr) (ck : Nat) (r2 : Option Addr) (c2 : Nat) (rk2 : Option Addr) (ck2 : Nat) (w : World), VR5 w r c rk ck x → VR5 w r2 c2 rk2 ck2 y →
      Calls Tryd.prog g #[.agg #[.int .i64 x.kind, .int .i64 x.num, .string x.str, .slice r x.items.length c, .slice rk x.keys.length ck], .agg #[.int .i64 y.kind, .int .i64 y.num, .string y.str, .slice r2 y.items.length c2, .slice rk2 y.keys.length ck2]] w fun e w' => e = .returned (.bool (p x y)) ∧ Below w.heap.size w w') :
    Calls Tryd.prog 49 #[.slice r is.length c, .slice r2 is2.length c2, .func (.func g) #[] #[]] w fun e w' => e = .returned (.bool R) ∧ Below w.heap.size w w' := by
  obtain ⟨_, hlc, hcm⟩ := sl_len hI
  obtain ⟨_, hlc2, hcm2⟩ := sl_len hI2
  have HI := hid hI
  have HI2 := hid hI2
  have HR := hid hR
  have HP := hid hp
  clear hI hI2 hR hp
  by_cases h4 : is.length = is2.length
  case neg =>
    have HF := hid (show R = false by rw [Bool.eq_false_iff]; intro e; exact h4 (HR.out.1 e).1)
    have e1 : ((is.length : Int) != (is2.length : Int)) = true := by simp; omega
    have e2 : ((is.length : Int) == (is2.length : Int)) = false := by simp; omega
    clear h4 HR
    go_enter Tryd.func49, Tryd.ntmps49
    go_wp2
    go_ret
    exact ⟨ret_bool HF.out, Below.refl _ _⟩
  case pos =>
  have e1 : ((is.length : Int) != (is2.length : Int)) = false := by simp; omega
  have e2 : ((is.length : Int) == (is2.length : Int)) = true := by simp; omega
  have H4 := hid h4
  clear h4
  go_enter Tryd.func49, Tryd.ntmps49
  go_wp2
  clear e1 e2
  go_loopg [17] is.length (fun gg s6 wr => ∃ k : Nat, k ≤ is.length ∧ is.length - k ≤ gg ∧ s6 = .int .i64 k ∧ Aside (Below w.heap.size w wr) ∧ Aside (∀ i (h : i < is.length) (h' : i < is2.length), i < k → p is[i] is2[i] = true))
  case atStart => exact ⟨0, Nat.zero_le _, by omega, rfl, Below.refl _ _, fun i _ _ h => absurd h (by omega)⟩
  case round =>
    obtain ⟨j, hj, hg2, rfl, BW, AL⟩ := hrel
    by_cases hlt : j < is.length
    case pos =>
      have hltz : (j : Int) < (is.length : Int) := by omega
      have hlt2 : j < is2.length := by have := H4.out; omega
      have hltz2 : (j : Int) < (is2.length : Int) := by omega
      have HIx := slv_mono HI.out BW.out
      have HIy := slv_mono HI2.out BW.out
      obtain ⟨b, off, ri, ci, rk', ck', rfl, hb, g0, g1, g2, g3, g4, h5⟩ := val_at HIx j hlt
      obtain ⟨b2, off2, ri2, ci2, rk2', ck2', rfl, hb2, f0, f1, f2, f3, f4, h6⟩ := val_at HIy j hlt2
      have CC := hid (fun (W : World) (hW : Below wr.heap.size wr W) => HP.out _ (List.getElem_mem hlt) is2[j] ri ci rk' ck' ri2 ci2 rk2' ck2' W (h5.below hW) (h6.below hW))
      have HAL := hid (show p is[j] is2[j] = true → ∀ i (h : i < is.length) (h' : i < is2.length), i < j + 1 → p is[i] is2[i] = true from fun hq i h h' hi => by
        by_cases e : i < j
        · exact AL.out i h h' e
        · obtain rfl : i = j := by omega
          exact hq)
      have HF := hid (show p is[j] is2[j] = false → R = false from fun hq => by
        rw [Bool.eq_false_iff]; intro e
        have := (HR.out.1 e).2 j hlt hlt2
        rw [hq] at this; cases this)
      have BW2 := hid BW.out
      clear HIx HIy BW h5 h6 AL
      generalize is[j] = vx at *
      generalize is2[j] = vy at *
      generalize hpq : p vx vy = q at *
      clear hpq
      obtain ⟨vk, vn, vs, vi, vks⟩ := vx
      obtain ⟨uk, un, us, ui, uks⟩ := vy
      simp only [Val.kind, Val.num, Val.str, Val.items, Val.keys] at g0 g1 g2 g3 g4 f0 f1 f2 f3 f4 CC
      have B1 := hid (show Below wr.heap.size wr ((wr.alloc (.cells #[.int .i64 vk, .int .i64 vn, .string vs, .slice ri vi.length ci, .slice rk' vks.length ck'] 26)).alloc (.cells #[.int .i64 uk, .int .i64 un, .string us, .slice ri2 ui.length ci2, .slice rk2' uks.length ck2'] 26)) from ((Below.refl _ _).alloc (Nat.le_refl _) _).alloc (by simp) _)
      cases q
      case false =>
        have HF2 := hid (HF.out rfl)
        clear HAL HF
        go_wp2_with (go_at_fn g; refine (CC.out _ B1.out).mono ?_; rintro e w1 ⟨rfl, hb1⟩)
        have B2 := hid (BW2.out.trans ((B1.out.trans (hb1.mono B1.out.size)).mono BW2.out.size))
        clear hb1
        go_ret
        exact ⟨ret_bool HF2.out, B2.out⟩
      case true =>
        have HA := hid (HAL.out rfl)
        clear HAL HF
        go_wp2_with (go_at_fn g; refine (CC.out _ B1.out).mono ?_; rintro e w1 ⟨rfl, hb1⟩)
        have B2 := hid (BW2.out.trans ((B1.out.trans (hb1.mono B1.out.size)).mono BW2.out.size))
        clear hb1
        go_roundg (is.length - (j + 1))
        case measure => omega
        case rel => exact ⟨j + 1, by omega, by omega, by go_num, B2.out, HA.out⟩
    case neg =>
    have hltz : ¬ (j : Int) < (is.length : Int) := by omega
    have HF := hid (show R = true from HR.out.2 ⟨H4.out, fun i h h' => AL.out i h h' (by omega)⟩)
    have BW2 := hid BW.out
    clear AL BW
    go_wp2
    go_ret
    exact ⟨ret_bool HF.out, BW2.out⟩
end Go.Proofs.YtedpdpcibkceeaaDoor
