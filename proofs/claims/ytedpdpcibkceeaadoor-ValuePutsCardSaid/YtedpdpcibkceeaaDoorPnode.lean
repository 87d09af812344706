import Derived.Test.YtedpdpcibkceeaaDoorPtx
/-
  Contract of the program's node. Conditions: those ahead of each theorem.
-/
namespace Go.Proofs.YtedpdpcibkceeaaDoor
open Go.RowKit Go.Sort Go.Lib
open Go.Lib (hid)
set_option linter.unusedVariables false
set_option linter.unusedSimpArgs false

theorem nodeE_shaped (vld : ByteArray → Bool) {k n : Int} {s : ByteArray} {ni : Nat} {ks : List ByteArray} (h : shapedB k n s ni ks.length = true) :
    nodeE vld k n s ni ks = if k = 2 then (if -9007199254740992 ≤ n ∧ n ≤ 9007199254740992 then 0 else 5) else if k = 3 then textE vld s else if k = 5 then keysE vld none ks else 0 := by
  unfold nodeE; rw [if_pos h]

set_option maxRecDepth 100000 in
set_option maxHeartbeats 4000000 in
theorem pnode_any (x : Val) (r : Option Addr) (c : Nat) (rk : Option Addr) (ck : Nat) (w : World) (hx : VR5 w r c rk ck x) (hu : UT w) :
    Calls Tryd.prog 44 #[.agg #[.int .i64 x.kind, .int .i64 x.num, .string x.str, .slice r x.items.length c, .slice rk x.keys.length ck]] w fun e w' => e = .returned (.int .i64 (nodeV vU x)) ∧ Below w.heap.size w w' := by
  obtain ⟨hI, hK, _, _, hs, hkl, hil⟩ := hx.parts
  obtain ⟨_, hlk, hkm⟩ := sl_len hK
  have HK := hid hK
  have HU := hid hu
  have hb0 : Below w.heap.size w (w.alloc (.cells #[.int .i64 x.kind, .int .i64 x.num, .string x.str, .slice r x.items.length c, .slice rk x.keys.length ck] 26)) := (Below.refl _ _).alloc (Nat.le_refl _) _
  have SH := hid (pshaped_any x r c rk ck _ (hx.below hb0))
  have HN := hid (show nodeV vU x = nodeE vU x.kind x.num x.str x.items.length x.keys from rfl)
  have HR := hid (fun h : shapedB x.kind x.num x.str x.items.length x.keys.length = true => nodeE_shaped vU h)
  have HF := hid (fun h : shapedB x.kind x.num x.str x.items.length x.keys.length = false => show nodeE vU x.kind x.num x.str x.items.length x.keys = 1 by unfold nodeE; rw [if_neg (by rw [h]; simp)])
  have B0 := hid hb0
  clear hb0 hI hK hx hu
  generalize hnx : nodeV vU x = nx at *
  clear hnx
  generalize shapedB x.kind x.num x.str x.items.length x.keys.length = sb at *
  generalize x.kind = xk at *
  generalize x.num = xn at *
  generalize x.str = xs at *
  generalize x.items.length = ni at *
  generalize x.keys = ks at *
  cases sb
  · have HN2 := hid (HN.out.trans (HF.out rfl))
    clear HR HF HN
    go_enter Tryd.func44, Tryd.ntmps44
    go_wp2_with fail
    refine SH.out.mono ?_
    rintro e w1 ⟨rfl, hb1⟩
    have B1 := hid (B0.out.trans (hb1.mono B0.out.size))
    clear hb1
    go_wp2
    go_ret
    exact ⟨ret_int HN2.out, B1.out⟩
  have HNR := hid (HN.out.trans (HR.out rfl))
  clear HR HF HN
  have key : ∀ (w1 : World) (hb : Below (w.alloc (.cells #[.int .i64 xk, .int .i64 xn, .string xs, .slice r ni c, .slice rk ks.length ck] 26)).heap.size (w.alloc (.cells #[.int .i64 xk, .int .i64 xn, .string xs, .slice r ni c, .slice rk ks.length ck] 26)) w1),
      w1.cell? ⟨w.heap.size, 0, none⟩ = some (.int .i64 xk) ∧ w1.cell? ⟨w.heap.size, 1, none⟩ = some (.int .i64 xn) ∧ w1.cell? ⟨w.heap.size, 2, none⟩ = some (.string xs) ∧ w1.cell? ⟨w.heap.size, 4, none⟩ = some (.slice rk ks.length ck) :=
    fun w1 hb => ⟨bget hb (cell_at rfl rfl), bget hb (cell_at rfl rfl), bget hb (cell_at rfl rfl), bget hb (cell_at rfl rfl)⟩
  have KEY := hid key
  clear key
  by_cases e2 : xk = 2
  · subst e2
    have HN1 := hid (HNR.out.trans (if_pos rfl))
    clear HNR
    have HV := hid (show (decide (-9007199254740992 ≤ xn) && decide (xn ≤ 9007199254740992)) = decide (-9007199254740992 ≤ xn ∧ xn ≤ 9007199254740992) by simp)
    have HN2 := hid (show nx = if decide (-9007199254740992 ≤ xn ∧ xn ≤ 9007199254740992) = true then 0 else 5 by rw [HN1.out]; simp)
    clear HN1
    generalize decide (-9007199254740992 ≤ xn ∧ xn ≤ 9007199254740992) = vb at *
    cases vb
    all_goals
      have HF := hid HN2.out
      clear HN2
      go_enter Tryd.func44, Tryd.ntmps44
      go_wp2_with fail
      refine SH.out.mono ?_
      rintro e w1 ⟨rfl, hb1⟩
      have B1 := hid (B0.out.trans (hb1.mono B0.out.size))
      obtain ⟨k0, k1, k2, k4⟩ := KEY.out w1 hb1
      clear hb1
      go_wp2_with fail
      refine (pvalid01_any _ _).mono ?_
      rintro e w2 ⟨rfl, rfl⟩
      rw [HV.out]
      go_wp2
      go_ret
      exact ⟨ret_int (by rw [HF.out]; rfl), B1.out⟩
  have HN1 := hid (HNR.out.trans (if_neg e2))
  clear HNR
  have e2' : (xk == 2) = false := by simpa using e2
  clear e2
  by_cases e3 : xk = 3
  · subst e3
    have HF := hid (HN1.out.trans (if_pos rfl))
    clear HN1
    go_enter Tryd.func44, Tryd.ntmps44
    go_wp2_with fail
    refine SH.out.mono ?_
    rintro e w1 ⟨rfl, hb1⟩
    have B1 := hid (B0.out.trans (hb1.mono B0.out.size))
    obtain ⟨k0, k1, k2, k4⟩ := KEY.out w1 hb1
    clear hb1
    go_wp2_with fail
    refine (ptext_any xs w1 (HU.out.below B1.out)).mono ?_
    rintro e w2 ⟨rfl, hb2⟩
    have B2 := hid (B1.out.trans (hb2.mono B1.out.size))
    clear hb2
    go_wp2
    go_ret
    exact ⟨ret_int HF.out, B2.out⟩
  have HN2 := hid (HN1.out.trans (if_neg e3))
  clear HN1
  have e3' : (xk == 3) = false := by simpa using e3
  clear e3
  by_cases e5 : xk = 5
  case neg =>
    have HF := hid (HN2.out.trans (if_neg e5))
    have e5' : (xk == 5) = false := by simpa using e5
    clear HN2 e5
    go_enter Tryd.func44, Tryd.ntmps44
    go_wp2_with fail
    refine SH.out.mono ?_
    rintro e w1 ⟨rfl, hb1⟩
    have B1 := hid (B0.out.trans (hb1.mono B0.out.size))
    obtain ⟨k0, k1, k2, k4⟩ := KEY.out w1 hb1
    clear hb1
    go_wp2
    go_ret
    exact ⟨ret_int HF.out, B1.out⟩
  case pos =>
  subst e5
  have HNK := hid (HN2.out.trans (if_pos rfl))
  clear HN2
  go_enter Tryd.func44, Tryd.ntmps44
  go_wp2_with fail
  refine SH.out.mono ?_
  rintro e w1 ⟨rfl, hb1⟩
  have B1 := hid (B0.out.trans (hb1.mono B0.out.size))
  obtain ⟨k0, k1, k2, k4⟩ := KEY.out w1 hb1
  have K4 := hid k4
  clear hb1 KEY
  go_wp2
  clear k0 k1 k2 k4
  go_loopg [27] ks.length (fun gg s4 wr => ∃ k : Nat, k ≤ ks.length ∧ ks.length - k ≤ gg ∧ s4 = .int .i64 k ∧ Aside (Below w1.heap.size w1 wr) ∧ Aside (nx = keysE vU (pvK ks k) (ks.drop k)))
  case atStart => exact ⟨0, Nat.zero_le _, by omega, rfl, Below.refl _ _, by show nx = keysE vU (pvK ks 0) (ks.drop 0); rw [List.drop_zero]; exact HNK.out⟩
  case round =>
    clear HNK
    obtain ⟨k, hk, hg, rfl, BW, AL⟩ := hrel
    have k4 := bget BW.out K4.out
    have hz1 := World.block_lt_of_cell? _ _ k4
    simp only at hz1
    have BX := hid (B1.out.trans (BW.out.mono B1.out.size))
    by_cases hlt : k < ks.length
    case neg =>
      have hltz : ¬ (k : Int) < (ks.length : Int) := by omega
      have HF := hid (show nx = 0 by rw [AL.out, List.drop_eq_nil_of_le (by omega)]; cases pvK ks k <;> rfl)
      clear AL BW
      go_wp2
      go_ret
      exact ⟨ret_int HF.out, BX.out⟩
    have hltz : (k : Int) < (ks.length : Int) := by omega
    have HKx := hid (HK.out.below strR_mono BX.out)
    have HUx := hid (HU.out.below BX.out)
    obtain ⟨b, off, rfl, hb, g0, _⟩ := str_at HKx.out k hlt
    have AK := hid (AL.out.trans (keysE_step vU hlt))
    clear AL
    have BW2 := hid BW.out
    clear BW
    by_cases ht : textE vU ks[k] = 0
    case neg =>
      have HF := hid (AK.out.trans (if_pos ht))
      have CT := hid (ptext_any ks[k] wr HUx.out)
      generalize ks[k] = kx at *
      generalize textE vU kx = te at *
      have e1 : (te != 0) = true := by simpa using ht
      have e1' : (te == 0) = false := by simpa using ht
      clear ht AK
      go_wp2_with fail
      refine CT.out.mono ?_
      rintro e w3 ⟨rfl, hb3⟩
      have B3 := hid (BX.out.trans (hb3.mono BX.out.size))
      clear hb3
      go_wp2
      go_ret
      exact ⟨ret_int HF.out, B3.out⟩
    case pos =>
    have AK2 := hid (AK.out.trans (if_neg (by simpa using ht)))
    have CT := hid (ptext_any ks[k] wr HUx.out)
    rw [ht] at CT
    clear AK ht
    by_cases h0 : k = 0
    case pos =>
      subst h0
      have AK3 := hid (AK2.out.trans (if_pos rfl))
      generalize ks[0] = kx at *
      clear AK2
      simp only [Nat.add_zero] at g0
      go_wp2_with fail
      refine CT.out.mono ?_
      rintro e w3 ⟨rfl, hb3⟩
      have B3 := hid (BW2.out.trans (hb3.mono BW2.out.size))
      clear hb3
      go_wp2
      go_roundg (ks.length - (0 + 1))
      case measure => omega
      case rel => exact ⟨0 + 1, by omega, by omega, by go_num, B3.out, AK3.out⟩
    case neg =>
    have hpk : k - 1 < ks.length := by omega
    obtain ⟨b', off', hr', hb', g1, _⟩ := str_at HKx.out (k - 1) hpk
    simp only [Option.some.injEq, Addr.mk.injEq, and_true] at hr'
    obtain ⟨rfl, rfl⟩ := hr'
    have HP := hid (show pvK ks k = some ks[k - 1] by
      obtain ⟨j, rfl⟩ : ∃ j, k = j + 1 := ⟨k - 1, by omega⟩
      exact List.getElem?_eq_getElem hpk)
    have HO := hid (show orderB (pvK ks k) ks[k] = decide (ltS ks[k - 1] ks[k]) by rw [HP.out]; rfl)
    clear HP
    have y1 : (0 : Int) ≤ (k : Int) - 1 := by omega
    have y2 : (k : Int) - 1 < (ks.length : Int) := by omega
    have y3 : 0 < k := by omega
    by_cases ho : ltS ks[k - 1] ks[k]
    case pos =>
      have AK3 := hid (AK2.out.trans (if_pos (by rw [HO.out]; exact decide_eq_true ho)))
      have e1 := less_yes ho
      have e4 := str_ne (show ks[k - 1] ≠ ks[k] from fun e => List.lt_irrefl _ (by unfold ltS at ho; rw [e] at ho; exact ho))
      have e5 := less_no (show ¬ (ks[k]).data.toList < (ks[k - 1]).data.toList from fun h => List.lt_asymm ho h)
      have e6 := str_ne (show ks[k] ≠ ks[k - 1] from fun e => List.lt_irrefl _ (by unfold ltS at ho; rw [e] at ho; exact ho))
      clear AK2 HO ho h0
      generalize ks[k - 1] = kp at *
      generalize ks[k] = kx at *
      go_wp2_with fail
      refine CT.out.mono ?_
      rintro e w3 ⟨rfl, hb3⟩
      have B3 := hid (BW2.out.trans (hb3.mono BW2.out.size))
      have k4' := bget hb3 k4
      have g0' := bget hb3 g0
      have g1' := bget hb3 g1
      clear hb3 hz1 k4 g0 g1 hb hb'
      go_wp2
      go_roundg (ks.length - (k + 1))
      case measure => omega
      case rel => exact ⟨k + 1, by omega, by omega, by go_num, B3.out, AK3.out⟩
    case neg =>
      have HF := hid (AK2.out.trans (if_neg (by rw [HO.out]; simpa using ho)))
      clear AK2 HO h0
      generalize ks[k - 1] = kp at *
      generalize ks[k] = kx at *
      by_cases hkk : kx = kp
      · subst hkk
        clear ho
        go_wp2_with fail
        refine CT.out.mono ?_
        rintro e w3 ⟨rfl, hb3⟩
        have B3 := hid (BX.out.trans (hb3.mono BX.out.size))
        have k4' := bget hb3 k4
        have g0' := bget hb3 g0
        have g1' := bget hb3 g1
        clear hb3 hz1 k4 g0 g1 hb hb'
        go_wp2
        go_ret
        exact ⟨ret_int HF.out, B3.out⟩
      · have e1 := less_yes (show kx.data.toList < kp.data.toList from by
          apply Decidable.byContradiction; intro h
          exact hkk (ba_ext (List.le_antisymm (List.not_lt.1 ho) (List.not_lt.1 h))))
        have e2 := str_ne hkk
        clear ho hkk
        go_wp2_with fail
        refine CT.out.mono ?_
        rintro e w3 ⟨rfl, hb3⟩
        have B3 := hid (BX.out.trans (hb3.mono BX.out.size))
        have k4' := bget hb3 k4
        have g0' := bget hb3 g0
        have g1' := bget hb3 g1
        clear hb3 hz1 k4 g0 g1 hb hb'
        go_wp2
        go_ret
        exact ⟨ret_int HF.out, B3.out⟩
end Go.Proofs.YtedpdpcibkceeaaDoor
