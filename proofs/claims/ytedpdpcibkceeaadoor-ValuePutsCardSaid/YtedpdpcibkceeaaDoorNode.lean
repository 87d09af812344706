import Derived.Test.YtedpdpcibkceeaaDoorShp
/-
  Contracts of the reference's node, check and Check. Conditions: those ahead of each theorem.
-/
namespace Go.Proofs.YtedpdpcibkceeaaDoor
open Go.RowKit Go.Sort Go.Lib
open Go.Lib (hid)
set_option linter.unusedVariables false
set_option linter.unusedSimpArgs false

/-- Valid UTF-8. -/
def vU (s : ByteArray) : Bool := validD s.data.toList
theorem rvalid01_any (n : Int) (w : World) : Calls Tryd.prog 82 #[.int .i64 n] w fun e w' => e = .returned (.bool (decide (-9007199254740992 ≤ n) && decide (n ≤ 9007199254740992))) ∧ w = w' := by
  by_cases h1 : -9007199254740992 ≤ n
  · by_cases h2 : n ≤ 9007199254740992
    · have HN := hid (show (decide (-9007199254740992 ≤ n) && decide (n ≤ 9007199254740992)) = true by simp [h1, h2])
      go_enter Tryd.func82, Tryd.ntmps82
      go_wp2
      go_ret
      exact ⟨ret_bool HN.out, rfl⟩
    · have HN := hid (show decide (n ≤ 9007199254740992) = false by simp [h2])
      go_enter Tryd.func82, Tryd.ntmps82
      go_wp2
      go_ret
      exact ⟨ret_bool (by simp [HN.out]), rfl⟩
  · have HN := hid (show (decide (-9007199254740992 ≤ n) && decide (n ≤ 9007199254740992)) = false by simp [h1])
    go_enter Tryd.func82, Tryd.ntmps82
    go_wp2
    go_ret
    exact ⟨ret_bool HN.out, rfl⟩

def pvK (ks : List ByteArray) : Nat → Option ByteArray
  | 0 => none
  | k + 1 => ks[k]?
theorem keysE_step (vld : ByteArray → Bool) {ks : List ByteArray} {k : Nat} (h : k < ks.length) : keysE vld (pvK ks k) (ks.drop k) = if textE vld ks[k] ≠ 0 then textE vld ks[k] else if orderB (pvK ks k) ks[k] then keysE vld (pvK ks (k + 1)) (ks.drop (k + 1)) else 1 := by
  rw [List.drop_eq_getElem_cons h, keysE]
  have : pvK ks (k + 1) = some ks[k] := List.getElem?_eq_getElem h
  rw [this]
def nodeR (vld : ByteArray → Bool) (k n : Int) (s : ByteArray) (ks : List ByteArray) : Int :=
  if k = 2 ∧ ¬ (-9007199254740992 ≤ n ∧ n ≤ 9007199254740992) then 5 else if textE vld s ≠ 0 then textE vld s else keysE vld none ks
theorem nodeE_r (vld : ByteArray → Bool) (hv : ∀ s : ByteArray, s.size = 0 → vld s = true) {k n : Int} {s : ByteArray} {ni : Nat} {ks : List ByteArray} (h : shapedB k n s ni ks.length = true) : nodeE vld k n s ni ks = nodeR vld k n s ks := by
  unfold nodeE nodeR
  rw [if_pos h]
  rw [shapedB_eq] at h
  simp only [Bool.and_eq_true, strB, keysB, Bool.or_eq_true, decide_eq_true_eq] at h
  obtain ⟨⟨⟨⟨⟨_, _⟩, _⟩, hs⟩, _⟩, hk⟩ := h
  have ht : k ≠ 3 → textE vld s = 0 := fun h3 => by
    have h0 : s.size = 0 := by
      rcases hs with h | h
      · exact absurd h h3
      · exact h
    unfold textE
    rw [if_neg (by omega), hv s h0]; rfl
  have hkk : k ≠ 5 → keysE vld none ks = 0 := fun h5 => by
    rw [if_neg h5] at hk
    have : ks = [] := List.eq_nil_of_length_eq_zero (by simpa using hk)
    rw [this, keysE]
  by_cases k2 : k = 2
  · rw [if_pos k2]
    by_cases hr : -9007199254740992 ≤ n ∧ n ≤ 9007199254740992
    · rw [if_pos hr, if_neg (fun h => h.2 hr), if_neg (by rw [ht (by omega)]; simp), hkk (by omega)]
    · rw [if_neg hr, if_pos ⟨k2, hr⟩]
  · rw [if_neg k2]
    rw [if_neg (c := k = 2 ∧ ¬ (-9007199254740992 ≤ n ∧ n ≤ 9007199254740992)) (fun h => k2 h.1)]
    by_cases k3 : k = 3
    · rw [if_pos k3, hkk (by omega)]
      split
      · rfl
      · rename_i h; simpa using h
    · have ht0 : ¬ (textE vld s ≠ 0) := by rw [ht k3]; simp
      rw [if_neg k3, if_neg (c := textE vld s ≠ 0) ht0]
      by_cases k5 : k = 5
      · rw [if_pos k5]
      · rw [if_neg k5, hkk k5]
theorem vU_empty (s : ByteArray) (h : s.size = 0) : vU s = true := by
  unfold vU
  have : s.data.toList = [] := List.eq_nil_of_length_eq_zero (by rw [Array.length_toList]; exact h)
  rw [this]; rfl

set_option maxRecDepth 100000 in
set_option maxHeartbeats 4000000 in
theorem rnode_any (x : Val) (r : Option Addr) (c : Nat) (rk : Option Addr) (ck : Nat) (w : World) (hx : VR5 w r c rk ck x) :
    Calls Tryd.prog 66 #[.agg #[.int .i64 x.kind, .int .i64 x.num, .string x.str, .slice r x.items.length c, .slice rk x.keys.length ck]] w fun e w' => e = .returned (.int .i64 (nodeV vU x)) ∧ Below w.heap.size w w' := by
  obtain ⟨hI, hK, _, _, hs, hkl, hil⟩ := hx.parts
  obtain ⟨_, hlk, hkm⟩ := sl_len hK
  have HK := hid hK
  have hb0 : Below w.heap.size w (w.alloc (.cells #[.int .i64 x.kind, .int .i64 x.num, .string x.str, .slice r x.items.length c, .slice rk x.keys.length ck] 26)) := (Below.refl _ _).alloc (Nat.le_refl _) _
  have SH := hid (rshaped_any x r c rk ck _ (hx.below hb0))
  have HN := hid (show nodeV vU x = nodeE vU x.kind x.num x.str x.items.length x.keys from rfl)
  have HR := hid (fun h : shapedB x.kind x.num x.str x.items.length x.keys.length = true => nodeE_r vU vU_empty h)
  have HF := hid (fun h : shapedB x.kind x.num x.str x.items.length x.keys.length = false => show nodeE vU x.kind x.num x.str x.items.length x.keys = 1 by unfold nodeE; rw [if_neg (by rw [h]; simp)])
  have B0 := hid hb0
  clear hb0 hI hK hx
  generalize hnx : nodeV vU x = nx at *
  clear hnx
  generalize shapedB x.kind x.num x.str x.items.length x.keys.length = sb at *
  generalize x.kind = xk at *
  generalize x.num = xn at *
  generalize x.str = xs at *
  generalize x.items.length = ni at *
  generalize x.keys = ks at *
  cases sb
  · have HN := hid (HN.out.trans (HF.out rfl))
    clear HR HF
    go_enter Tryd.func66, Tryd.ntmps66
    go_wp2_with fail
    refine SH.out.mono ?_
    rintro e w1 ⟨rfl, hb1⟩
    have B1 := hid (B0.out.trans (hb1.mono B0.out.size))
    clear hb1
    go_wp2
    go_ret
    exact ⟨ret_int HN.out, B1.out⟩
  have HNR := hid (HN.out.trans (HR.out rfl))
  have HD := hid (show nodeR vU xk xn xs ks = if xk = 2 ∧ ¬ (-9007199254740992 ≤ xn ∧ xn ≤ 9007199254740992) then 5 else if textE vU xs ≠ 0 then textE vU xs else keysE vU none ks from rfl)
  clear HR HF HN
  have key : ∀ (w1 : World) (hb : Below (w.alloc (.cells #[.int .i64 xk, .int .i64 xn, .string xs, .slice r ni c, .slice rk ks.length ck] 26)).heap.size (w.alloc (.cells #[.int .i64 xk, .int .i64 xn, .string xs, .slice r ni c, .slice rk ks.length ck] 26)) w1),
      w1.cell? ⟨w.heap.size, 0, none⟩ = some (.int .i64 xk) ∧ w1.cell? ⟨w.heap.size, 1, none⟩ = some (.int .i64 xn) ∧ w1.cell? ⟨w.heap.size, 2, none⟩ = some (.string xs) ∧ w1.cell? ⟨w.heap.size, 4, none⟩ = some (.slice rk ks.length ck) :=
    fun w1 hb => ⟨bget hb (cell_at rfl rfl), bget hb (cell_at rfl rfl), bget hb (cell_at rfl rfl), bget hb (cell_at rfl rfl)⟩
  have KEY := hid key
  clear key
  by_cases h2 : xk = 2 ∧ ¬ (-9007199254740992 ≤ xn ∧ xn ≤ 9007199254740992)
  · obtain ⟨rfl, h3⟩ := h2
    have HN := hid (HNR.out.trans (HD.out.trans (if_pos ⟨rfl, h3⟩)))
    have hv : (decide (-9007199254740992 ≤ xn) && decide (xn ≤ 9007199254740992)) = false := by
      rw [Bool.eq_false_iff]; intro e; apply h3; simpa using e
    have HV := hid hv
    clear HD h3 hv
    go_enter Tryd.func66, Tryd.ntmps66
    go_wp2_with fail
    refine SH.out.mono ?_
    rintro e w1 ⟨rfl, hb1⟩
    have B1 := hid (B0.out.trans (hb1.mono B0.out.size))
    obtain ⟨k0, k1, k2, k4⟩ := KEY.out w1 hb1
    clear hb1
    go_wp2_with fail
    refine (rvalid01_any _ _).mono ?_
    rintro e w2 ⟨rfl, rfl⟩
    rw [HV.out]
    go_wp2
    go_ret
    exact ⟨ret_int HN.out, B1.out⟩
  have HNX := hid (HNR.out.trans (HD.out.trans (if_neg h2)))
  clear HD HNR
  by_cases e2 : xk = 2
  case' pos =>
    have HV := hid (show (decide (-9007199254740992 ≤ xn) && decide (xn ≤ 9007199254740992)) = true by
      by_cases hr : -9007199254740992 ≤ xn ∧ xn ≤ 9007199254740992
      · simp [hr.1, hr.2]
      · exact absurd ⟨e2, hr⟩ h2)
    clear h2
    subst e2
    go_enter Tryd.func66, Tryd.ntmps66
    go_wp2_with fail
    refine SH.out.mono ?_
    rintro e w1 ⟨rfl, hb1⟩
    have B1 := hid (B0.out.trans (hb1.mono B0.out.size))
    have HB1 := hid hb1
    obtain ⟨k0, k1, k2, k4⟩ := KEY.out w1 hb1
    clear hb1
    go_wp2_with fail
    refine (rvalid01_any _ _).mono ?_
    rintro e w2 ⟨rfl, rfl⟩
    rw [HV.out]
    clear HV
    go_wp2_with fail
  case' neg =>
    clear h2
    have e2' : (xk == 2) = false := by simpa using e2
    clear e2
    go_enter Tryd.func66, Tryd.ntmps66
    go_wp2_with fail
    refine SH.out.mono ?_
    rintro e w1 ⟨rfl, hb1⟩
    have B1 := hid (B0.out.trans (hb1.mono B0.out.size))
    have HB1 := hid hb1
    obtain ⟨k0, k1, k2, k4⟩ := KEY.out w1 hb1
    clear hb1
    go_wp2_with fail
  all_goals
    refine (rtext_any xs w1).mono ?_
    rintro e w2 ⟨rfl, hb2⟩
    have B2 := hid (B1.out.trans (hb2.mono B1.out.size))
    have K4 := hid (bget hb2 k4)
    clear hb2 k0 k1 k2 k4 HB1 KEY
    by_cases ht : textE vU xs = 0
    case neg =>
      have HN := hid (HNX.out.trans (if_pos ht))
      have HT := hid (show textE (fun s => validD s.data.toList) xs = textE vU xs from rfl)
      rw [HT.out]
      clear HT
      generalize textE vU xs = te at *
      have e1 : (te != 0) = true := by simpa using ht
      have e1' : (te == 0) = false := by simpa using ht
      clear ht
      go_wp2
      go_ret
      exact ⟨ret_int HN.out, B2.out⟩
    case pos =>
    have HNK := hid (HNX.out.trans (if_neg (by simpa using ht)))
    clear HNX
    rw [show textE (fun s => validD s.data.toList) xs = 0 from ht]
    clear ht
    go_wp2
    go_loopg [4] ks.length (fun gg s4 wr => ∃ k : Nat, k ≤ ks.length ∧ ks.length - k ≤ gg ∧ s4 = .int .i64 k ∧ Aside (Below w2.heap.size w2 wr) ∧ Aside (nx = keysE vU (pvK ks k) (ks.drop k)))
    case atStart => exact ⟨0, Nat.zero_le _, by omega, rfl, Below.refl _ _, by show nx = keysE vU (pvK ks 0) (ks.drop 0); rw [List.drop_zero]; exact HNK.out⟩
    case round =>
      clear HNK
      obtain ⟨k, hk, hg, rfl, BW, AL⟩ := hrel
      have k4 := bget BW.out K4.out
      have hz1 := World.block_lt_of_cell? _ _ k4
      simp only at hz1
      have BX := hid (B2.out.trans (BW.out.mono B2.out.size))
      by_cases hlt : k < ks.length
      case neg =>
        have hltz : ¬ (k : Int) < (ks.length : Int) := by omega
        have HN := hid (show nx = 0 by rw [AL.out, List.drop_eq_nil_of_le (by omega)]; cases pvK ks k <;> rfl)
        clear AL BW
        go_wp2
        go_ret
        exact ⟨ret_int HN.out, BX.out⟩
      have hltz : (k : Int) < (ks.length : Int) := by omega
      have HKx := hid (HK.out.below strR_mono BX.out)
      obtain ⟨b, off, rfl, hb, g0, _⟩ := str_at HKx.out k hlt
      have AK := hid (AL.out.trans (keysE_step vU hlt))
      clear AL
      have BW2 := hid BW.out
      clear BW
      by_cases ht : textE vU ks[k] = 0
      case neg =>
        have HN := hid (AK.out.trans (if_pos ht))
        have HT := hid (show textE (fun s => validD s.data.toList) ks[k] = textE vU ks[k] from rfl)
        generalize ks[k] = kx at *
        generalize textE vU kx = te at *
        have e1 : (te != 0) = true := by simpa using ht
        have e1' : (te == 0) = false := by simpa using ht
        clear ht AK
        go_wp2_with fail
        refine (rtext_any kx _).mono ?_
        rintro e w3 ⟨rfl, hb3⟩
        rw [HT.out]
        have B3 := hid (BX.out.trans (hb3.mono BX.out.size))
        clear hb3
        go_wp2
        go_ret
        exact ⟨ret_int HN.out, B3.out⟩
      case pos =>
      have AK2 := hid (AK.out.trans (if_neg (by simpa using ht)))
      have HT := hid (show textE (fun s => validD s.data.toList) ks[k] = 0 from ht)
      clear AK ht
      by_cases h0 : k = 0
      case pos =>
        subst h0
        have AK3 := hid (AK2.out.trans (if_pos rfl))
        generalize ks[0] = kx at *
        clear AK2
        simp only [Nat.add_zero] at g0
        go_wp2_with fail
        refine (rtext_any kx _).mono ?_
        rintro e w3 ⟨rfl, hb3⟩
        rw [HT.out]
        have B3 := hid (BW2.out.trans (hb3.mono BW2.out.size))
        have k4' := bget hb3 k4
        have hz3 := Nat.lt_of_lt_of_le hz1 hb3.size
        clear hb3 hz1 k4 g0 hb
        have hcg := cells_regrown w3
        go_wp2
        refine wp_region_quiet_below (by kernel_rfl) (by kernel_rfl) ?_
        repeat (first | go_big_quiet_step (fail) | quiet_step (fail))
        refine wpQuiet_nil ?_
        intro _ hw'
        obtain ⟨⟨dq, osq⟩, hw''⟩ := hw'
        subst hw''
        clear hcg
        have BV := hid (B3.out.trans ((below_regrown w3 dq osq).mono B3.out.size))
        go_wp2
        go_roundg (ks.length - (0 + 1))
        case measure => omega
        case rel => exact ⟨0 + 1, by omega, by omega, by go_num, BV.out, AK3.out⟩
      case neg =>
      have hpk : k - 1 < ks.length := by omega
      obtain ⟨b', off', hr', hb', g1, _⟩ := str_at HKx.out (k - 1) hpk
      simp only [Option.some.injEq, Addr.mk.injEq, and_true] at hr'
      obtain ⟨rfl, rfl⟩ := hr'
      have HP := hid (show pvK ks k = some ks[k - 1] by
        obtain ⟨j, rfl⟩ : ∃ j, k = j + 1 := ⟨k - 1, by omega⟩
        exact List.getElem?_eq_getElem hpk)
      have HO := hid (show orderB (pvK ks k) ks[k] = decide (ltS ks[k - 1] ks[k]) by rw [HP.out]; rfl)
      clear HP
      have y1 : (0 : Int) ≤ (k : Int) - 1 := by omega
      have y2 : (k : Int) - 1 < (ks.length : Int) := by omega
      have y3 : 0 < k := by omega
      by_cases ho : ltS ks[k - 1] ks[k]
      case pos =>
        have AK3 := hid (AK2.out.trans (if_pos (by rw [HO.out]; exact decide_eq_true ho)))
        have e1 := less_yes ho
        clear AK2 HO ho h0
        generalize ks[k - 1] = kp at *
        generalize ks[k] = kx at *
        go_wp2_with fail
        refine (rtext_any kx _).mono ?_
        rintro e w3 ⟨rfl, hb3⟩
        rw [HT.out]
        have B3 := hid (BW2.out.trans (hb3.mono BW2.out.size))
        have k4' := bget hb3 k4
        have g0' := bget hb3 g0
        have g1' := bget hb3 g1
        have hz3 := Nat.lt_of_lt_of_le hz1 hb3.size
        have hb4 := Nat.lt_of_lt_of_le hb hb3.size
        clear hb3 hz1 k4 g0 g1 hb hb'
        have hcg := cells_regrown w3
        have t1 : ((k : Int) - 1).toNat = k - 1 := by omega
        have x1 : IntKind.i64.wrap ((k : Int) - 1) = (k : Int) - 1 := IntWalk.i64_in _ (by omega)
        go_wp2
        refine wp_region_quiet_below (by kernel_rfl) (by kernel_rfl) ?_
        repeat (first | go_big_quiet_step (fail) | quiet_step (fail))
        refine wpQuiet_nil ?_
        intro _ hw'
        obtain ⟨⟨dq, osq⟩, hw''⟩ := hw'
        subst hw''
        clear hcg t1 x1
        have BV := hid (B3.out.trans ((below_regrown w3 dq osq).mono B3.out.size))
        go_wp2
        go_roundg (ks.length - (k + 1))
        case measure => omega
        case rel => exact ⟨k + 1, by omega, by omega, by go_num, BV.out, AK3.out⟩
      case neg =>
        have HN := hid (AK2.out.trans (if_neg (by rw [HO.out]; simpa using ho)))
        have e1 := less_no ho
        clear AK2 HO ho h0
        generalize ks[k - 1] = kp at *
        generalize ks[k] = kx at *
        go_wp2_with fail
        refine (rtext_any kx _).mono ?_
        rintro e w3 ⟨rfl, hb3⟩
        rw [HT.out]
        have B3 := hid (BX.out.trans (hb3.mono BX.out.size))
        have k4' := bget hb3 k4
        have g0' := bget hb3 g0
        have g1' := bget hb3 g1
        have hz3 := Nat.lt_of_lt_of_le hz1 hb3.size
        have hb4 := Nat.lt_of_lt_of_le hb hb3.size
        clear hb3 hz1 k4 g0 g1 hb hb'
        have hcg := cells_regrown w3
        have t1 : ((k : Int) - 1).toNat = k - 1 := by omega
        have x1 : IntKind.i64.wrap ((k : Int) - 1) = (k : Int) - 1 := IntWalk.i64_in _ (by omega)
        go_wp2
        refine wp_region_quiet_below (by kernel_rfl) (by kernel_rfl) ?_
        repeat (first | go_big_quiet_step (fail) | quiet_step (fail))
        refine wpQuiet_nil ?_
        intro _ hw'
        obtain ⟨⟨dq, osq⟩, hw''⟩ := hw'
        subst hw''
        clear hcg t1 x1
        have BV := hid (B3.out.trans ((below_regrown w3 dq osq).mono B3.out.size))
        go_wp2
        go_ret
        exact ⟨ret_int HN.out, BV.out⟩
end Go.Proofs.YtedpdpcibkceeaaDoor
