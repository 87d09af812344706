import Derived.Test.YtedpdpcibkceeaaDoorEq
import Derived.WalkLawsBesides
import Derived.Sort.Walk0
/-
  Contracts of the reference's number, Bytes and Compare. Conditions: those ahead of each theorem.
-/
namespace Go.Proofs.YtedpdpcibkceeaaDoor
open Go.RowKit Go.Sort Go.Lib
open Go.Lib (hid)
set_option linter.unusedVariables false
set_option linter.unusedSimpArgs false

theorem less_yes {a b : ByteArray} (h : a.data.toList < b.data.toList) : Op.bytesLess a.toList b.toList = true := by
  rw [Go.Proofs.bytesLess_eq, decide_eq_true_eq, ByteArray.toList_eq, ByteArray.toList_eq]; exact h
theorem less_no {a b : ByteArray} (h : ¬ a.data.toList < b.data.toList) : Op.bytesLess a.toList b.toList = false := by
  rw [Go.Proofs.bytesLess_eq, decide_eq_false_iff_not, ByteArray.toList_eq, ByteArray.toList_eq]; exact h

theorem rnumber_any (a b : Int) (w : World) : Calls Tryd.prog 54 #[.int .i64 a, .int .i64 b] w fun e w' => e = .returned (.int .i64 (numC a b)) ∧ w = w' := by
  have HN := hid (show numC a b = if a < b then -1 else if b < a then 1 else 0 from rfl)
  by_cases h1 : a < b
  · have HN := hid (HN.out.trans (if_pos h1))
    go_enter Tryd.func54, Tryd.ntmps54
    go_wp2
    go_ret
    exact ⟨ret_int HN.out, rfl⟩
  by_cases h2 : b < a
  · have HN := hid (HN.out.trans ((if_neg h1).trans (if_pos h2)))
    go_enter Tryd.func54, Tryd.ntmps54
    go_wp2
    go_ret
    exact ⟨ret_int HN.out, rfl⟩
  have HN := hid (HN.out.trans ((if_neg h1).trans (if_neg h2)))
  go_enter Tryd.func54, Tryd.ntmps54
  go_wp2
  go_ret
  exact ⟨ret_int HN.out, rfl⟩

theorem rbytes_any (a b : ByteArray) (w : World) : Calls Tryd.prog 55 #[.string a, .string b] w fun e w' => e = .returned (.int .i64 (cmpS a b)) ∧ w = w' := by
  have HN := hid (show cmpS a b = if a.data.toList < b.data.toList then -1 else if b.data.toList < a.data.toList then 1 else 0 from rfl)
  by_cases h1 : a.data.toList < b.data.toList
  · have HN := hid (HN.out.trans (if_pos h1))
    have e1 := less_yes h1
    clear h1
    go_enter Tryd.func55, Tryd.ntmps55
    go_wp2
    go_ret
    exact ⟨ret_int HN.out, rfl⟩
  have e1 := less_no h1
  by_cases h2 : b.data.toList < a.data.toList
  · have HN := hid (HN.out.trans ((if_neg h1).trans (if_pos h2)))
    have e2 := less_yes h2
    have e3 := str_ne (show a ≠ b from fun e => List.lt_irrefl _ (by rw [e] at h2; exact h2))
    clear h1 h2
    go_enter Tryd.func55, Tryd.ntmps55
    go_wp2
    go_ret
    exact ⟨ret_int HN.out, rfl⟩
  have HN := hid (HN.out.trans ((if_neg h1).trans (if_neg h2)))
  obtain rfl : a = b := ba_ext (List.le_antisymm (List.not_lt.1 h2) (List.not_lt.1 h1))
  clear h1 h2
  go_enter Tryd.func55, Tryd.ntmps55
  go_wp2
  go_ret
  exact ⟨ret_int HN.out, rfl⟩

theorem cmpL_keys {is is2 : List Val} {ks ks2 : List ByteArray} {k : Nat} (h : k < is.length) (h2 : k < is2.length) (h3 : k < ks.length) (h4 : k < ks2.length) :
    cmpL (is.drop k) (ks.drop k) (is2.drop k) (ks2.drop k) = lex (cmpS ks[k] ks2[k]) (lex (cmpV is[k] is2[k]) (cmpL (is.drop (k + 1)) (ks.drop (k + 1)) (is2.drop (k + 1)) (ks2.drop (k + 1)))) := by
  rw [List.drop_eq_getElem_cons h, List.drop_eq_getElem_cons h2, List.drop_eq_getElem_cons h3, List.drop_eq_getElem_cons h4, cmpL]
theorem cmpL_nokeys {is is2 : List Val} {ks ks2 : List ByteArray} {k : Nat} (h : k < is.length) (h2 : k < is2.length) (h3 : ¬ (k < ks.length ∧ k < ks2.length)) :
    cmpL (is.drop k) (ks.drop k) (is2.drop k) (ks2.drop k) = lex (cmpV is[k] is2[k]) (cmpL (is.drop (k + 1)) (ks.drop (k + 1)) (is2.drop (k + 1)) (ks2.drop (k + 1))) := by
  rw [List.drop_eq_getElem_cons h, List.drop_eq_getElem_cons h2]
  by_cases h4 : k < ks.length
  · have h5 : ¬ k < ks2.length := fun h => h3 ⟨h4, h⟩
    rw [List.drop_eq_getElem_cons h4, List.drop_eq_nil_of_le (show ks2.length ≤ k by omega), List.drop_eq_nil_of_le (show ks2.length ≤ k + 1 by omega), cmpL]
  · rw [List.drop_eq_nil_of_le (show ks.length ≤ k by omega), List.drop_eq_nil_of_le (show ks.length ≤ k + 1 by omega), cmpL, List.tail_drop]
theorem cmpL_end {is is2 : List Val} {ks ks2 : List ByteArray} {k : Nat} (h : k ≤ is.length) (h2 : k ≤ is2.length) (h3 : ¬ (k < is.length ∧ k < is2.length)) :
    cmpL (is.drop k) (ks.drop k) (is2.drop k) (ks2.drop k) = numC is.length is2.length := by
  unfold numC
  by_cases h4 : k < is.length
  · rw [List.drop_eq_nil_of_le (show is2.length ≤ k by omega), List.drop_eq_getElem_cons h4, if_neg (by omega), if_pos (by omega)]
    rw [cmpL]
  · rw [List.drop_eq_nil_of_le (show is.length ≤ k by omega)]
    by_cases h5 : k < is2.length
    · rw [List.drop_eq_getElem_cons h5, if_pos (by omega), cmpL]
    · rw [List.drop_eq_nil_of_le (show is2.length ≤ k by omega), if_neg (by omega), if_neg (by omega), cmpL]
theorem lex_ne {x y : Int} (h : x ≠ 0) : lex x y = x := if_neg h
theorem lex_eq {x y : Int} (h : x = 0) : lex x y = y := if_pos h
set_option maxRecDepth 100000 in
set_option maxHeartbeats 4000000 in
theorem rcompare_any (x : Val) : ∀ (y : Val) (r : Option Addr) (c : Nat) (rk : Option Addr) (ck : Nat) (r2 : Option Addr) (c2 : Nat) (rk2 : Option Addr) (ck2 : Nat) (w : World), VR5 w r c rk ck x → VR5 w r2 c2 rk2 ck2 y →
    Calls Tryd.prog 20 #[.agg #[.int .i64 x.kind, .int .i64 x.num, .string x.str, .slice r x.items.length c, .slice rk x.keys.length ck], .agg #[.int .i64 y.kind, .int .i64 y.num, .string y.str, .slice r2 y.items.length c2, .slice rk2 y.keys.length ck2]] w fun e w' => e = .returned (.int .i64 (cmpV x y)) ∧ Below w.heap.size w w' := by
  refine Val.ind (P := fun x => ∀ (y : Val) (r : Option Addr) (c : Nat) (rk : Option Addr) (ck : Nat) (r2 : Option Addr) (c2 : Nat) (rk2 : Option Addr) (ck2 : Nat) (w : World), VR5 w r c rk ck x → VR5 w r2 c2 rk2 ck2 y →
    Calls Tryd.prog 20 #[.agg #[.int .i64 x.kind, .int .i64 x.num, .string x.str, .slice r x.items.length c, .slice rk x.keys.length ck], .agg #[.int .i64 y.kind, .int .i64 y.num, .string y.str, .slice r2 y.items.length c2, .slice rk2 y.keys.length ck2]] w fun e w' => e = .returned (.int .i64 (cmpV x y)) ∧ Below w.heap.size w w') ?_ x
  intro x ih y r c rk ck r2 c2 rk2 ck2 w hx hy
  obtain ⟨hI, hK, _, _, _, hkl, hil⟩ := hx.parts
  obtain ⟨hI2, hK2, _, _, _, hkl2, hil2⟩ := hy.parts
  have HI := hid hI
  have HK := hid hK
  have HI2 := hid hI2
  have HK2 := hid hK2
  obtain ⟨_, hlc, hcm⟩ := sl_len hI
  obtain ⟨_, hlk, hkm⟩ := sl_len hK
  obtain ⟨_, hlc2, hcm2⟩ := sl_len hI2
  obtain ⟨_, hlk2, hkm2⟩ := sl_len hK2
  have HN := hid (cmpV_eq x y)
  have IH := hid ih
  clear ih hI hK hx hI2 hK2 hy
  generalize x.kind = xk at *
  generalize x.num = xn at *
  generalize x.str = xs at *
  generalize y.kind = yk at *
  generalize y.num = yn at *
  generalize y.str = ys at *
  generalize hnx : cmpV x y = nx at *
  clear hnx
  generalize hxi : x.items = is at *
  clear hxi
  generalize hxi : x.keys = ks at *
  clear hxi
  generalize hxi : y.items = is2 at *
  clear hxi
  generalize hxi : y.keys = ks2 at *
  clear hxi
  have B0 := hid (show Below w.heap.size w ((w.alloc (.cells #[.int .i64 xk, .int .i64 xn, .string xs, .slice r is.length c, .slice rk ks.length ck] 26)).alloc (.cells #[.int .i64 yk, .int .i64 yn, .string ys, .slice r2 is2.length c2, .slice rk2 ks2.length ck2] 26)) from ((Below.refl _ _).alloc (Nat.le_refl _) _).alloc (by simp) _)
  by_cases h1 : xk = yk
  case neg =>
    have HF := hid (show nx = numC xk yk by rw [HN.out]; exact lex_ne (fun e => h1 (numC_zero.1 e)))
    have e1 : (xk != yk) = true := by simpa using h1
    have e2 : (xk == yk) = false := by simpa using h1
    clear h1
    go_enter Tryd.func20, Tryd.ntmps20
    go_wp2_with fail
    refine (rnumber_any _ _ _).mono ?_
    rintro e w1 ⟨rfl, rfl⟩
    go_wp2
    go_ret
    exact ⟨ret_int HF.out, B0.out⟩
  subst h1
  by_cases h2 : xn = yn
  case neg =>
    have HF := hid (show nx = numC xn yn by rw [HN.out]; exact (lex_eq (numC_zero.2 rfl)).trans (lex_ne (fun e => h2 (numC_zero.1 e))))
    have e1 : (xn != yn) = true := by simpa using h2
    have e2 : (xn == yn) = false := by simpa using h2
    clear h2
    go_enter Tryd.func20, Tryd.ntmps20
    go_wp2_with fail
    refine (rnumber_any _ _ _).mono ?_
    rintro e w1 ⟨rfl, rfl⟩
    go_wp2
    go_ret
    exact ⟨ret_int HF.out, B0.out⟩
  subst h2
  by_cases h3 : xs = ys
  case neg =>
    have HF := hid (show nx = cmpS xs ys by rw [HN.out]; exact (lex_eq (numC_zero.2 rfl)).trans ((lex_eq (numC_zero.2 rfl)).trans (lex_ne (fun e => h3 (cmpS_zero.1 e)))))
    have e1 := str_ne' h3
    have e2 := str_ne h3
    clear h3
    go_enter Tryd.func20, Tryd.ntmps20
    go_wp2_with fail
    refine (rbytes_any _ _ _).mono ?_
    rintro e w1 ⟨rfl, rfl⟩
    go_wp2
    go_ret
    exact ⟨ret_int HF.out, B0.out⟩
  subst h3
  have HN := hid (show nx = cmpL (is.drop 0) (ks.drop 0) (is2.drop 0) (ks2.drop 0) by rw [HN.out]; exact (lex_eq (numC_zero.2 rfl)).trans ((lex_eq (numC_zero.2 rfl)).trans (lex_eq (cmpS_self _))))
  go_enter Tryd.func20, Tryd.ntmps20
  go_wp2
  generalize hW0 : ((w.alloc (.cells #[.int .i64 xk, .int .i64 xn, .string xs, .slice r is.length c, .slice rk ks.length ck] 26)).alloc (.cells #[.int .i64 xk, .int .i64 xn, .string xs, .slice r2 is2.length c2, .slice rk2 ks2.length ck2] 26)) = W0 at *
  have c3 : W0.cell? ⟨w.heap.size, 3, none⟩ = some (.slice r is.length c) := by rw [← hW0]; exact (bget ((Below.refl _ _).alloc (Nat.le_refl _) _) (cell_at rfl rfl))
  have c4 : W0.cell? ⟨w.heap.size, 4, none⟩ = some (.slice rk ks.length ck) := by rw [← hW0]; exact (bget ((Below.refl _ _).alloc (Nat.le_refl _) _) (cell_at rfl rfl))
  have d3 : W0.cell? ⟨w.heap.size + 1, 3, none⟩ = some (.slice r2 is2.length c2) := by rw [← hW0]; exact cell_at (by simp) rfl
  have d4 : W0.cell? ⟨w.heap.size + 1, 4, none⟩ = some (.slice rk2 ks2.length ck2) := by rw [← hW0]; exact cell_at (by simp) rfl
  clear hW0
  have C3 := hid c3
  have C4 := hid c4
  have D3 := hid d3
  have D4 := hid d4
  clear c3 c4 d3 d4
  go_loopg [5] is.length (fun gg s5 wr => ∃ k : Nat, k ≤ is.length ∧ k ≤ is2.length ∧ is.length - k ≤ gg ∧ s5 = .int .i64 k ∧ Aside (Below W0.heap.size W0 wr) ∧ Aside (nx = cmpL (is.drop k) (ks.drop k) (is2.drop k) (ks2.drop k)))
  case atStart => exact ⟨0, Nat.zero_le _, Nat.zero_le _, by omega, rfl, Below.refl _ _, HN.out⟩
  case round =>
    clear HN
    obtain ⟨k, hk, hk2, hg, rfl, BW, AL⟩ := hrel
    have c4 := bget BW.out C4.out
    have d4 := bget BW.out D4.out
    have c3 := bget BW.out C3.out
    have d3 := bget BW.out D3.out
    have hz1 := World.block_lt_of_cell? _ _ c4
    have hz2 := World.block_lt_of_cell? _ _ d4
    simp only at hz1 hz2
    have BX := hid (B0.out.trans (BW.out.mono B0.out.size))
    by_cases hlt : k < is.length
    case neg =>
      have hltz : ¬ (k : Int) < (is.length : Int) := by omega
      have HN := hid (show nx = numC is.length is2.length from AL.out.trans (cmpL_end hk hk2 (fun h => hlt h.1)))
      clear AL BW hlt
      go_wp2_with fail
      refine (rnumber_any _ _ _).mono ?_
      rintro e w1 ⟨rfl, rfl⟩
      go_wp2
      go_ret
      exact ⟨ret_int HN.out, BX.out⟩
    by_cases hlt2 : k < is2.length
    case neg =>
      have hltz : (k : Int) < (is.length : Int) := by omega
      have hltz2 : ¬ (k : Int) < (is2.length : Int) := by omega
      have HN := hid (show nx = numC is.length is2.length from AL.out.trans (cmpL_end hk hk2 (fun h => hlt2 h.2)))
      clear AL BW hlt hlt2
      go_wp2_with fail
      refine (rnumber_any _ _ _).mono ?_
      rintro e w1 ⟨rfl, rfl⟩
      go_wp2
      go_ret
      exact ⟨ret_int HN.out, BX.out⟩
    have hltz : (k : Int) < (is.length : Int) := by omega
    have hltz2 : (k : Int) < (is2.length : Int) := by omega
    have HIx := slv_mono HI.out BX.out
    have HIy := slv_mono HI2.out BX.out
    have HKx := hid (HK.out.below strR_mono BX.out)
    have HKy := hid (HK2.out.below strR_mono BX.out)
    obtain ⟨b, off, ri, ci, rk', ck', rfl, hb, g0, g1, g2, g3, g4, h5⟩ := val_at HIx k hlt
    obtain ⟨b2, off2, ri2, ci2, rk2', ck2', rfl, hb2, f0, f1, f2, f3, f4, h6⟩ := val_at HIy k hlt2
    have CC := hid (fun (W : World) (hW : Below wr.heap.size wr W) => IH.out _ (List.getElem_mem hlt) is2[k] ri ci rk' ck' ri2 ci2 rk2' ck2' W (h5.below hW) (h6.below hW))
    have BW2 := hid BW.out
    have hcg := cells_regrown wr
    clear HIx HIy BW h5 h6
    by_cases hk3 : k < ks.length
    case neg =>
      have hk3z : ¬ (k : Int) < (ks.length : Int) := by omega
      have AK := hid (AL.out.trans (cmpL_nokeys hlt hlt2 (fun h => hk3 h.1)))
      clear AL
      clear HKx HKy
      generalize is[k] = vx at *
      generalize is2[k] = vy at *
      obtain ⟨vk, vn, vs, vi, vks⟩ := vx
      obtain ⟨uk, un, us, ui, uks⟩ := vy
      simp only [Val.kind, Val.num, Val.str, Val.items, Val.keys] at g0 g1 g2 g3 g4 f0 f1 f2 f3 f4 CC
      generalize hcc : cmpV (.mk vk vn vs vi vks) (.mk uk un us ui uks) = cc at *
      clear hcc
      by_cases hq : cc = 0
      case pos =>
        subst hq
        have AL2 := hid (AK.out.trans (lex_eq rfl))
        clear AK
        go_wp2
        refine wp_region_quiet_below (by kernel_rfl) (by kernel_rfl) ?_
        repeat (first | go_big_quiet_step (fail) | quiet_step (fail))
        refine wpQuiet_nil ?_
        intro _ hw'
        obtain ⟨⟨dq, osq⟩, hw''⟩ := hw'
        subst hw''
        have hcg2 := hid hcg
        clear hcg
        have g0' := cell_regrown g0 dq osq
        have g1' := cell_regrown g1 dq osq
        have g2' := cell_regrown g2 dq osq
        have g3' := cell_regrown g3 dq osq
        have g4' := cell_regrown g4 dq osq
        have f0' := cell_regrown f0 dq osq
        have f1' := cell_regrown f1 dq osq
        have f2' := cell_regrown f2 dq osq
        have f3' := cell_regrown f3 dq osq
        have f4' := cell_regrown f4 dq osq
        have c3' := cell_regrown c3 dq osq
        have d3' := cell_regrown d3 dq osq
        have BR := hid (below_regrown wr dq osq)
        have hzr := BR.out.size
        have hz1' := Nat.lt_of_lt_of_le hz1 hzr
        have hz2' := Nat.lt_of_lt_of_le hz2 hzr
        have hb' := Nat.lt_of_lt_of_le hb hzr
        have hb2' := Nat.lt_of_lt_of_le hb2 hzr
        generalize grow (redrawn wr dq) osq = wq at *
        clear g0 g1 g2 g3 g4 f0 f1 f2 f3 f4 c3 d3 c4 d4 hz1 hz2 hb hb2 hzr hcg2
        have hcg := cells_regrown wq
        go_wp2
        refine wp_region_quiet_below (by kernel_rfl) (by kernel_rfl) ?_
        repeat (first | go_big_quiet_step (exact Calls.regrown_of (CC.out _ (BR.out.trans ((below_regrown _ _ _).mono BR.out.size)))) | quiet_step (exact Calls.regrown_of (CC.out _ (BR.out.trans ((below_regrown _ _ _).mono BR.out.size)))))
        refine wpQuiet_nil ?_
        intro _ hw'
        obtain ⟨⟨dq2, osq2⟩, hw''⟩ := hw'
        subst hw''
        clear hcg
        have BV := hid (BW2.out.trans ((BR.out.trans ((below_regrown wq dq2 osq2).mono BR.out.size)).mono BW2.out.size))
        go_wp2
        go_roundg (is.length - (k + 1))
        case measure => omega
        case rel => exact ⟨k + 1, by omega, by omega, by omega, by go_num, BV.out, AL2.out⟩
      case neg =>
        have HF := hid (show nx = cc from AK.out.trans (lex_ne hq))
        have e1 : (cc != 0) = true := by simpa using hq
        have e2 : (cc == 0) = false := by simpa using hq
        clear AK hq
        go_wp2
        refine wp_region_quiet_below (by kernel_rfl) (by kernel_rfl) ?_
        repeat (first | go_big_quiet_step (fail) | quiet_step (fail))
        refine wpQuiet_nil ?_
        intro _ hw'
        obtain ⟨⟨dq, osq⟩, hw''⟩ := hw'
        subst hw''
        have hcg2 := hid hcg
        clear hcg
        have g0' := cell_regrown g0 dq osq
        have g1' := cell_regrown g1 dq osq
        have g2' := cell_regrown g2 dq osq
        have g3' := cell_regrown g3 dq osq
        have g4' := cell_regrown g4 dq osq
        have f0' := cell_regrown f0 dq osq
        have f1' := cell_regrown f1 dq osq
        have f2' := cell_regrown f2 dq osq
        have f3' := cell_regrown f3 dq osq
        have f4' := cell_regrown f4 dq osq
        have c3' := cell_regrown c3 dq osq
        have d3' := cell_regrown d3 dq osq
        have BR := hid (below_regrown wr dq osq)
        have hzr := BR.out.size
        have hz1' := Nat.lt_of_lt_of_le hz1 hzr
        have hz2' := Nat.lt_of_lt_of_le hz2 hzr
        have hb' := Nat.lt_of_lt_of_le hb hzr
        have hb2' := Nat.lt_of_lt_of_le hb2 hzr
        generalize grow (redrawn wr dq) osq = wq at *
        clear g0 g1 g2 g3 g4 f0 f1 f2 f3 f4 c3 d3 c4 d4 hz1 hz2 hb hb2 hzr hcg2
        have hcg := cells_regrown wq
        go_wp2
        refine wp_region_quiet_below (by kernel_rfl) (by kernel_rfl) ?_
        repeat (first | go_big_quiet_step (exact Calls.regrown_of (CC.out _ (BR.out.trans ((below_regrown _ _ _).mono BR.out.size)))) | quiet_step (exact Calls.regrown_of (CC.out _ (BR.out.trans ((below_regrown _ _ _).mono BR.out.size)))))
        refine wpQuiet_nil ?_
        intro _ hw'
        obtain ⟨⟨dq2, osq2⟩, hw''⟩ := hw'
        subst hw''
        clear hcg
        have BV := hid (BX.out.trans ((BR.out.trans ((below_regrown wq dq2 osq2).mono BR.out.size)).mono BX.out.size))
        go_wp2
        go_ret
        exact ⟨ret_int HF.out, BV.out⟩
    by_cases hk4 : k < ks2.length
    case neg =>
      have hk3z : (k : Int) < (ks.length : Int) := by omega
      have hk4z : ¬ (k : Int) < (ks2.length : Int) := by omega
      have AK := hid (AL.out.trans (cmpL_nokeys hlt hlt2 (fun h => hk4 h.2)))
      clear AL
      clear HKx HKy
      generalize is[k] = vx at *
      generalize is2[k] = vy at *
      obtain ⟨vk, vn, vs, vi, vks⟩ := vx
      obtain ⟨uk, un, us, ui, uks⟩ := vy
      simp only [Val.kind, Val.num, Val.str, Val.items, Val.keys] at g0 g1 g2 g3 g4 f0 f1 f2 f3 f4 CC
      generalize hcc : cmpV (.mk vk vn vs vi vks) (.mk uk un us ui uks) = cc at *
      clear hcc
      by_cases hq : cc = 0
      case pos =>
        subst hq
        have AL2 := hid (AK.out.trans (lex_eq rfl))
        clear AK
        go_wp2
        refine wp_region_quiet_below (by kernel_rfl) (by kernel_rfl) ?_
        repeat (first | go_big_quiet_step (fail) | quiet_step (fail))
        refine wpQuiet_nil ?_
        intro _ hw'
        obtain ⟨⟨dq, osq⟩, hw''⟩ := hw'
        subst hw''
        have hcg2 := hid hcg
        clear hcg
        have g0' := cell_regrown g0 dq osq
        have g1' := cell_regrown g1 dq osq
        have g2' := cell_regrown g2 dq osq
        have g3' := cell_regrown g3 dq osq
        have g4' := cell_regrown g4 dq osq
        have f0' := cell_regrown f0 dq osq
        have f1' := cell_regrown f1 dq osq
        have f2' := cell_regrown f2 dq osq
        have f3' := cell_regrown f3 dq osq
        have f4' := cell_regrown f4 dq osq
        have c3' := cell_regrown c3 dq osq
        have d3' := cell_regrown d3 dq osq
        have BR := hid (below_regrown wr dq osq)
        have hzr := BR.out.size
        have hz1' := Nat.lt_of_lt_of_le hz1 hzr
        have hz2' := Nat.lt_of_lt_of_le hz2 hzr
        have hb' := Nat.lt_of_lt_of_le hb hzr
        have hb2' := Nat.lt_of_lt_of_le hb2 hzr
        generalize grow (redrawn wr dq) osq = wq at *
        clear g0 g1 g2 g3 g4 f0 f1 f2 f3 f4 c3 d3 c4 d4 hz1 hz2 hb hb2 hzr hcg2
        have hcg := cells_regrown wq
        go_wp2
        refine wp_region_quiet_below (by kernel_rfl) (by kernel_rfl) ?_
        repeat (first | go_big_quiet_step (exact Calls.regrown_of (CC.out _ (BR.out.trans ((below_regrown _ _ _).mono BR.out.size)))) | quiet_step (exact Calls.regrown_of (CC.out _ (BR.out.trans ((below_regrown _ _ _).mono BR.out.size)))))
        refine wpQuiet_nil ?_
        intro _ hw'
        obtain ⟨⟨dq2, osq2⟩, hw''⟩ := hw'
        subst hw''
        clear hcg
        have BV := hid (BW2.out.trans ((BR.out.trans ((below_regrown wq dq2 osq2).mono BR.out.size)).mono BW2.out.size))
        go_wp2
        go_roundg (is.length - (k + 1))
        case measure => omega
        case rel => exact ⟨k + 1, by omega, by omega, by omega, by go_num, BV.out, AL2.out⟩
      case neg =>
        have HF := hid (show nx = cc from AK.out.trans (lex_ne hq))
        have e1 : (cc != 0) = true := by simpa using hq
        have e2 : (cc == 0) = false := by simpa using hq
        clear AK hq
        go_wp2
        refine wp_region_quiet_below (by kernel_rfl) (by kernel_rfl) ?_
        repeat (first | go_big_quiet_step (fail) | quiet_step (fail))
        refine wpQuiet_nil ?_
        intro _ hw'
        obtain ⟨⟨dq, osq⟩, hw''⟩ := hw'
        subst hw''
        have hcg2 := hid hcg
        clear hcg
        have g0' := cell_regrown g0 dq osq
        have g1' := cell_regrown g1 dq osq
        have g2' := cell_regrown g2 dq osq
        have g3' := cell_regrown g3 dq osq
        have g4' := cell_regrown g4 dq osq
        have f0' := cell_regrown f0 dq osq
        have f1' := cell_regrown f1 dq osq
        have f2' := cell_regrown f2 dq osq
        have f3' := cell_regrown f3 dq osq
        have f4' := cell_regrown f4 dq osq
        have c3' := cell_regrown c3 dq osq
        have d3' := cell_regrown d3 dq osq
        have BR := hid (below_regrown wr dq osq)
        have hzr := BR.out.size
        have hz1' := Nat.lt_of_lt_of_le hz1 hzr
        have hz2' := Nat.lt_of_lt_of_le hz2 hzr
        have hb' := Nat.lt_of_lt_of_le hb hzr
        have hb2' := Nat.lt_of_lt_of_le hb2 hzr
        generalize grow (redrawn wr dq) osq = wq at *
        clear g0 g1 g2 g3 g4 f0 f1 f2 f3 f4 c3 d3 c4 d4 hz1 hz2 hb hb2 hzr hcg2
        have hcg := cells_regrown wq
        go_wp2
        refine wp_region_quiet_below (by kernel_rfl) (by kernel_rfl) ?_
        repeat (first | go_big_quiet_step (exact Calls.regrown_of (CC.out _ (BR.out.trans ((below_regrown _ _ _).mono BR.out.size)))) | quiet_step (exact Calls.regrown_of (CC.out _ (BR.out.trans ((below_regrown _ _ _).mono BR.out.size)))))
        refine wpQuiet_nil ?_
        intro _ hw'
        obtain ⟨⟨dq2, osq2⟩, hw''⟩ := hw'
        subst hw''
        clear hcg
        have BV := hid (BX.out.trans ((BR.out.trans ((below_regrown wq dq2 osq2).mono BR.out.size)).mono BX.out.size))
        go_wp2
        go_ret
        exact ⟨ret_int HF.out, BV.out⟩
    have hk3z : (k : Int) < (ks.length : Int) := by omega
    have hk4z : (k : Int) < (ks2.length : Int) := by omega
    obtain ⟨b3, off3, rfl, hb3, s3, _⟩ := str_at HKx.out k hk3
    obtain ⟨b4, off4, rfl, hb4, s4, _⟩ := str_at HKy.out k hk4
    clear HKx HKy
    have AK0 := hid (AL.out.trans (cmpL_keys hlt hlt2 hk3 hk4))
    clear AL
    by_cases hkk : ks[k] = ks2[k]
    case pos =>
      have AK := hid (AK0.out.trans (lex_eq (by rw [hkk]; exact cmpS_self _)))
      clear AK0
      rw [← hkk] at s4
      clear hkk
      generalize ks[k] = kx at *
      generalize is[k] = vx at *
      generalize is2[k] = vy at *
      obtain ⟨vk, vn, vs, vi, vks⟩ := vx
      obtain ⟨uk, un, us, ui, uks⟩ := vy
      simp only [Val.kind, Val.num, Val.str, Val.items, Val.keys] at g0 g1 g2 g3 g4 f0 f1 f2 f3 f4 CC
      generalize hcc : cmpV (.mk vk vn vs vi vks) (.mk uk un us ui uks) = cc at *
      clear hcc
      by_cases hq : cc = 0
      case pos =>
        subst hq
        have AL2 := hid (AK.out.trans (lex_eq rfl))
        clear AK
        go_wp2
        refine wp_region_quiet_below (by kernel_rfl) (by kernel_rfl) ?_
        repeat (first | go_big_quiet_step (fail) | quiet_step (fail))
        refine wpQuiet_nil ?_
        intro _ hw'
        obtain ⟨⟨dq, osq⟩, hw''⟩ := hw'
        subst hw''
        have hcg2 := hid hcg
        clear hcg
        have g0' := cell_regrown g0 dq osq
        have g1' := cell_regrown g1 dq osq
        have g2' := cell_regrown g2 dq osq
        have g3' := cell_regrown g3 dq osq
        have g4' := cell_regrown g4 dq osq
        have f0' := cell_regrown f0 dq osq
        have f1' := cell_regrown f1 dq osq
        have f2' := cell_regrown f2 dq osq
        have f3' := cell_regrown f3 dq osq
        have f4' := cell_regrown f4 dq osq
        have c3' := cell_regrown c3 dq osq
        have d3' := cell_regrown d3 dq osq
        have BR := hid (below_regrown wr dq osq)
        have hzr := BR.out.size
        have hz1' := Nat.lt_of_lt_of_le hz1 hzr
        have hz2' := Nat.lt_of_lt_of_le hz2 hzr
        have hb' := Nat.lt_of_lt_of_le hb hzr
        have hb2' := Nat.lt_of_lt_of_le hb2 hzr
        generalize grow (redrawn wr dq) osq = wq at *
        clear g0 g1 g2 g3 g4 f0 f1 f2 f3 f4 c3 d3 c4 d4 hz1 hz2 hb hb2 hzr hcg2
        have hcg := cells_regrown wq
        go_wp2
        refine wp_region_quiet_below (by kernel_rfl) (by kernel_rfl) ?_
        repeat (first | go_big_quiet_step (exact Calls.regrown_of (CC.out _ (BR.out.trans ((below_regrown _ _ _).mono BR.out.size)))) | quiet_step (exact Calls.regrown_of (CC.out _ (BR.out.trans ((below_regrown _ _ _).mono BR.out.size)))))
        refine wpQuiet_nil ?_
        intro _ hw'
        obtain ⟨⟨dq2, osq2⟩, hw''⟩ := hw'
        subst hw''
        clear hcg
        have BV := hid (BW2.out.trans ((BR.out.trans ((below_regrown wq dq2 osq2).mono BR.out.size)).mono BW2.out.size))
        go_wp2
        go_roundg (is.length - (k + 1))
        case measure => omega
        case rel => exact ⟨k + 1, by omega, by omega, by omega, by go_num, BV.out, AL2.out⟩
      case neg =>
        have HF := hid (show nx = cc from AK.out.trans (lex_ne hq))
        have e1 : (cc != 0) = true := by simpa using hq
        have e2 : (cc == 0) = false := by simpa using hq
        clear AK hq
        go_wp2
        refine wp_region_quiet_below (by kernel_rfl) (by kernel_rfl) ?_
        repeat (first | go_big_quiet_step (fail) | quiet_step (fail))
        refine wpQuiet_nil ?_
        intro _ hw'
        obtain ⟨⟨dq, osq⟩, hw''⟩ := hw'
        subst hw''
        have hcg2 := hid hcg
        clear hcg
        have g0' := cell_regrown g0 dq osq
        have g1' := cell_regrown g1 dq osq
        have g2' := cell_regrown g2 dq osq
        have g3' := cell_regrown g3 dq osq
        have g4' := cell_regrown g4 dq osq
        have f0' := cell_regrown f0 dq osq
        have f1' := cell_regrown f1 dq osq
        have f2' := cell_regrown f2 dq osq
        have f3' := cell_regrown f3 dq osq
        have f4' := cell_regrown f4 dq osq
        have c3' := cell_regrown c3 dq osq
        have d3' := cell_regrown d3 dq osq
        have BR := hid (below_regrown wr dq osq)
        have hzr := BR.out.size
        have hz1' := Nat.lt_of_lt_of_le hz1 hzr
        have hz2' := Nat.lt_of_lt_of_le hz2 hzr
        have hb' := Nat.lt_of_lt_of_le hb hzr
        have hb2' := Nat.lt_of_lt_of_le hb2 hzr
        generalize grow (redrawn wr dq) osq = wq at *
        clear g0 g1 g2 g3 g4 f0 f1 f2 f3 f4 c3 d3 c4 d4 hz1 hz2 hb hb2 hzr hcg2
        have hcg := cells_regrown wq
        go_wp2
        refine wp_region_quiet_below (by kernel_rfl) (by kernel_rfl) ?_
        repeat (first | go_big_quiet_step (exact Calls.regrown_of (CC.out _ (BR.out.trans ((below_regrown _ _ _).mono BR.out.size)))) | quiet_step (exact Calls.regrown_of (CC.out _ (BR.out.trans ((below_regrown _ _ _).mono BR.out.size)))))
        refine wpQuiet_nil ?_
        intro _ hw'
        obtain ⟨⟨dq2, osq2⟩, hw''⟩ := hw'
        subst hw''
        clear hcg
        have BV := hid (BX.out.trans ((BR.out.trans ((below_regrown wq dq2 osq2).mono BR.out.size)).mono BX.out.size))
        go_wp2
        go_ret
        exact ⟨ret_int HF.out, BV.out⟩
    case neg =>
      have HF := hid (show nx = cmpS ks[k] ks2[k] from AK0.out.trans (lex_ne (fun e => hkk (cmpS_zero.1 e))))
      have e1 := str_ne' hkk
      have e2 := str_ne hkk
      clear AK0 hkk CC
      generalize ks[k] = kx at *
      generalize ks2[k] = ky at *
      go_wp2
      refine wp_region_quiet_below (by kernel_rfl) (by kernel_rfl) ?_
      repeat (first | go_big_quiet_step (fail) | quiet_step (fail))
      refine wpQuiet_nil ?_
      intro _ hw'
      obtain ⟨⟨dq, osq⟩, hw''⟩ := hw'
      subst hw''
      clear hcg
      have c4' := cell_regrown c4 dq osq
      have d4' := cell_regrown d4 dq osq
      have s3' := cell_regrown s3 dq osq
      have s4' := cell_regrown s4 dq osq
      have BR := hid (below_regrown wr dq osq)
      have hzr := BR.out.size
      have hz1' := Nat.lt_of_lt_of_le hz1 hzr
      have hz2' := Nat.lt_of_lt_of_le hz2 hzr
      have hb3' := Nat.lt_of_lt_of_le hb3 hzr
      have hb4' := Nat.lt_of_lt_of_le hb4 hzr
      generalize grow (redrawn wr dq) osq = wq at *
      clear g0 g1 g2 g3 g4 f0 f1 f2 f3 f4 c3 d3 c4 d4 s3 s4 hz1 hz2 hb hb2 hzr
      have hcg := cells_regrown wq
      go_wp2
      refine wp_region_quiet_below (by kernel_rfl) (by kernel_rfl) ?_
      repeat (first | go_big_quiet_step (exact same_regrown (rbytes_any _ _ _)) | quiet_step (exact same_regrown (rbytes_any _ _ _)))
      refine wpQuiet_nil ?_
      intro _ hw'
      obtain ⟨⟨dq2, osq2⟩, hw''⟩ := hw'
      subst hw''
      clear hcg
      have BV := hid (BX.out.trans ((BR.out.trans ((below_regrown wq dq2 osq2).mono BR.out.size)).mono BX.out.size))
      go_wp2
      go_ret
      exact ⟨ret_int HF.out, BV.out⟩
end Go.Proofs.YtedpdpcibkceeaaDoor
