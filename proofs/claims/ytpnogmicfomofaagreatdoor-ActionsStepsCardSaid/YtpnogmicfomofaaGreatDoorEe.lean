import Derived.Test.YtpnogmicfomofaaGreatDoorZm
import Derived.Deep.RegionLaw
/-
  Addresses: the program's Parse. Conditions: those ahead of each theorem.
-/
namespace Go.Proofs.YtpnogmicfomofaaGreatDoor.Adr
open Go.RowKit Go.Sort Go.Lib Go.Maps
open Go.Lib (hid)
set_option linter.unusedVariables false
set_option linter.unusedSimpArgs false

def MODP : List UInt8 := [109, 111, 100, 117, 108, 101, 46]
def DATP : List UInt8 := [100, 97, 116, 97, 46]
/-- The module steps at the beginning; what is left; whether something was wrong. -/
def modsP : Nat → List UInt8 → Bool → List MS × List UInt8 × Bool
  | 0, l, bad => ([], l, bad)
  | n + 1, l, bad => if bad = true then ([], l, true) else if Lib.hasPrefix l MODP = false then ([], Lib.trimPrefix l MODP, false)
    else ((stepP (Lib.trimPrefix l MODP) false).1 :: (modsP n (skipP [46] (stepP (Lib.trimPrefix l MODP) false).2.1 (stepP (Lib.trimPrefix l MODP) false).2.2).1 (skipP [46] (stepP (Lib.trimPrefix l MODP) false).2.1 (stepP (Lib.trimPrefix l MODP) false).2.2).2).1,
      (modsP n (skipP [46] (stepP (Lib.trimPrefix l MODP) false).2.1 (stepP (Lib.trimPrefix l MODP) false).2.2).1 (skipP [46] (stepP (Lib.trimPrefix l MODP) false).2.1 (stepP (Lib.trimPrefix l MODP) false).2.2).2).2)
theorem trim_lt {l p : List UInt8} (h : Lib.hasPrefix l p = true) (hp : 1 ≤ p.length) (hl : p.length ≤ l.length) : (Lib.trimPrefix l p).length < l.length := by
  unfold Lib.trimPrefix
  rw [if_pos h, List.length_drop]
  omega
theorem keyP_len (l : List UInt8) (bad : Bool) : (keyP l bad).2.1.length ≤ l.length := by
  unfold keyP
  split
  · simp
  · split
    · exact trim_len _ _
    · have := trim_len l [91]
      generalize Lib.trimPrefix l [91] = t at this ⊢
      simp only
      split
      · split
        · simpa using this
        · split
          · simpa using this
          · simp only [skipP]
            refine Nat.le_trans (trim_len _ _) ?_
            rw [List.length_drop]; omega
      · simp only [skipP]
        refine Nat.le_trans (trim_len _ _) ?_
        rw [List.length_drop]; omega
theorem stepP_len (l : List UInt8) (bad : Bool) : (stepP l bad).2.1.length ≤ l.length := by
  unfold stepP
  refine Nat.le_trans (keyP_len _ _) ?_
  rw [List.length_drop]; omega
theorem hp_len {l p : List UInt8} (h : Lib.hasPrefix l p = true) : p.length ≤ l.length := by
  rw [← Lib.hasPrefix_of_take] at h
  simp only [Bool.and_eq_true, decide_eq_true_eq] at h
  exact h.1
/-- The whole: data or not, the type, the name, the key, what is left, whether something was wrong. -/
structure TlT where
  d : Bool
  ty : List UInt8
  nm : List UInt8
  k : KeyT
  l : List UInt8
  bad : Bool
def tl1 (l : List UInt8) : List UInt8 := Lib.trimPrefix l DATP
def tlP (l : List UInt8) (bad : Bool) : TlT :=
  let l1 := Lib.trimPrefix l DATP
  let ty := l1.take (dotN l1)
  let y := skipP [46] (l1.drop (dotN l1)) (bad || !idB ty)
  let nm := y.1.take (dotN y.1)
  let z := keyP (y.1.drop (dotN y.1)) (y.2 || !idB nm)
  ⟨Lib.hasPrefix l DATP, ty, nm, z.1, z.2.1, z.2.2⟩
theorem modsP_bad (n : Nat) (l : List UInt8) : modsP (n + 1) l true = ([], l, true) := by unfold modsP; rw [if_pos rfl]
theorem modsP_no (n : Nat) (l : List UInt8) (h : Lib.hasPrefix l MODP = false) : modsP (n + 1) l false = ([], Lib.trimPrefix l MODP, false) := by unfold modsP; rw [if_neg (by simp), if_pos h]
theorem modsP_yes (n : Nat) (l : List UInt8) (h : Lib.hasPrefix l MODP = true) : modsP (n + 1) l false = ((stepP (Lib.trimPrefix l MODP) false).1 :: (modsP n (skipP [46] (stepP (Lib.trimPrefix l MODP) false).2.1 (stepP (Lib.trimPrefix l MODP) false).2.2).1 (skipP [46] (stepP (Lib.trimPrefix l MODP) false).2.1 (stepP (Lib.trimPrefix l MODP) false).2.2).2).1,
      (modsP n (skipP [46] (stepP (Lib.trimPrefix l MODP) false).2.1 (stepP (Lib.trimPrefix l MODP) false).2.2).1 (skipP [46] (stepP (Lib.trimPrefix l MODP) false).2.1 (stepP (Lib.trimPrefix l MODP) false).2.2).2).2) := by
  conv => lhs; unfold modsP
  rw [if_neg (by simp), if_neg (by rw [h]; simp)]
def cellD (w : World) (a : Addr) : Value := (w.cell? a).getD undef
theorem cellD_of {W : World} {a : Addr} {v : Value} (h : W.cell? a = some v) : W.cell? a = some (cellD W a) := by unfold cellD; rw [h]; rfl
theorem cellD_eq {W : World} {a : Addr} {v : Value} (h : W.cell? a = some v) : cellD W a = v := by unfold cellD; rw [h]; rfl
theorem arr_size (l : List UInt8) : (⟨l.toArray⟩ : ByteArray).size = l.length := by show l.toArray.size = _; simp
def kdB (ty : List UInt8) : Bool := idB ty && !rsv ty
/-- The error of Parse. -/
def parE (xs : List MS) (t : TlT) : Int := if t.bad = true ∨ t.l ≠ [] ∨ kdB t.ty = false then 2 else if 16 < xs.length then 4 else 0
theorem parE4 {xs : List MS} {d : Bool} {ty nm : List UInt8} {k : KeyT} (hk : kdB ty = true) (hx : decide ((16 : Int) < (xs.length : Int)) = true) : parE xs ⟨d, ty, nm, k, [], false⟩ = 4 := by
  have := of_decide_eq_true hx
  unfold parE
  rw [if_neg (by simp [hk]), if_pos (by omega)]
theorem parE0 {xs : List MS} {d : Bool} {ty nm : List UInt8} {k : KeyT} (hk : kdB ty = true) (hx : decide ((16 : Int) < (xs.length : Int)) = false) : parE xs ⟨d, ty, nm, k, [], false⟩ = 0 := by
  have := of_decide_eq_false hx
  unfold parE
  rw [if_neg (by simp [hk]), if_neg (by omega)]
def adV (v : Value) (t : TlT) : Value := .agg #[v, .bool t.d, .string ⟨t.ty.toArray⟩, .string ⟨t.nm.toArray⟩, .int .i64 t.k.1, .int .i64 t.k.2.1, .string ⟨t.k.2.2.toArray⟩]
def ad0 : Value := .agg #[.slice none 0 0, .bool false, .string ⟨#[]⟩, .string ⟨#[]⟩, .int .i64 0, .int .i64 0, .string ⟨#[]⟩]
/-- What Parse answers. -/
def ParR (w : World) (X : List MS × List UInt8 × Bool) (e : Ending) (w' : World) : Prop :=
  (if parE X.1 (tlP X.2.1 X.2.2) = 0 then ∃ v, e = .returned (.tuple #[adV v (tlP X.2.1 X.2.2), .int .i64 0]) ∧ OwnM (w.heap.size + 3) w' v X.1 else e = .returned (.tuple #[ad0, .int .i64 (parE X.1 (tlP X.2.1 X.2.2))])) ∧ Below w.heap.size w w'
/-- The contracts of the five calls behind the module steps. -/
theorem tl_con (w : World) (hT : WT w) (l0 : List UInt8) (b0 : Bool) (hl : l0.length ≤ 1000000) : ∃ (d : Bool) (l1 ty l2 : List UInt8) (b2 : Bool) (l3 : List UInt8) (b3 : Bool) (nm l4 : List UInt8) (b4 : Bool) (k : KeyT) (l5 : List UInt8) (b5 : Bool), tlP l0 b0 = ⟨d, ty, nm, k, l5, b5⟩ ∧ ty.length ≤ 1000000 ∧ l5.length ≤ 1000000 ∧
    (∀ W, Rd (w.heap.size + 1) W ⟨l0.toArray⟩ b0 → Calls Tryz.prog 120 #[.pointer (some ⟨w.heap.size + 1, 0, none⟩), .string ⟨#[100, 97, 116, 97, 46]⟩] W fun e w' => e = .returned (.bool d) ∧ Rd (w.heap.size + 1) w' ⟨l1.toArray⟩ b0 ∧ W.grownBy w' (some (w.heap.size + 1))) ∧
    (∀ W, Rd (w.heap.size + 1) W ⟨l1.toArray⟩ b0 → Calls Tryz.prog 123 #[.pointer (some ⟨w.heap.size + 1, 0, none⟩)] W fun e w' => e = .returned (.string ⟨ty.toArray⟩) ∧ Rd (w.heap.size + 1) w' ⟨l2.toArray⟩ b2 ∧ W.grownBy w' (some (w.heap.size + 1))) ∧
    (∀ W, Rd (w.heap.size + 1) W ⟨l2.toArray⟩ b2 → Calls Tryz.prog 122 #[.pointer (some ⟨w.heap.size + 1, 0, none⟩), .string ⟨#[46]⟩] W fun e w' => e = .returned (.tuple #[]) ∧ Rd (w.heap.size + 1) w' ⟨l3.toArray⟩ b3 ∧ W.grownBy w' (some (w.heap.size + 1))) ∧
    (∀ W, Rd (w.heap.size + 1) W ⟨l3.toArray⟩ b3 → Calls Tryz.prog 123 #[.pointer (some ⟨w.heap.size + 1, 0, none⟩)] W fun e w' => e = .returned (.string ⟨nm.toArray⟩) ∧ Rd (w.heap.size + 1) w' ⟨l4.toArray⟩ b4 ∧ W.grownBy w' (some (w.heap.size + 1))) ∧
    (∀ W, Below w.heap.size w W → Rd (w.heap.size + 1) W ⟨l4.toArray⟩ b4 → Calls Tryz.prog 124 #[.pointer (some ⟨w.heap.size + 1, 0, none⟩)] W fun e w' => e = .returned (kV k) ∧ Rd (w.heap.size + 1) w' ⟨l5.toArray⟩ b5 ∧ W.grownBy w' (some (w.heap.size + 1))) := by
  have hlen1 : (Lib.trimPrefix l0 DATP).length ≤ 1000000 := Nat.le_trans (trim_len _ _) hl
  have word : ∀ (l : List UInt8) (b : Bool) (h : l.length ≤ 1000000) (W : World), Rd (w.heap.size + 1) W ⟨l.toArray⟩ b → Calls Tryz.prog 123 #[.pointer (some ⟨w.heap.size + 1, 0, none⟩)] W fun e w' => e = .returned (.string ⟨(l.take (dotN l)).toArray⟩) ∧ Rd (w.heap.size + 1) w' ⟨(l.drop (dotN l)).toArray⟩ (b || !idB (l.take (dotN l))) ∧ W.grownBy w' (some (w.heap.size + 1)) := by
    intro l b h W hW
    have h2 := word_any ⟨l.toArray⟩ (w.heap.size + 1) b W (by rw [arr_size]; exact h) hW
    rw [show idB (wrdS ⟨l.toArray⟩).data.toList = idB (l.take (dotN l)) by rw [wrdS_list], wrdS_arr, wrdR_list] at h2
    exact h2
  generalize hl1 : Lib.trimPrefix l0 DATP = l1 at hlen1
  have hlen2 : (l1.drop (dotN l1)).length ≤ 1000000 := by rw [List.length_drop]; omega
  have hlen2' : (l1.take (dotN l1)).length ≤ 1000000 := by rw [List.length_take]; omega
  have hsk := trim_len (l1.drop (dotN l1)) [46]
  generalize hy : skipP [46] (l1.drop (dotN l1)) (b0 || !idB (l1.take (dotN l1))) = y
  have hlen3 : y.1.length ≤ 1000000 := by rw [← hy]; exact Nat.le_trans hsk hlen2
  have hlen4 : (y.1.drop (dotN y.1)).length ≤ 1000000 := by rw [List.length_drop]; omega
  generalize hz : keyP (y.1.drop (dotN y.1)) (y.2 || !idB (y.1.take (dotN y.1))) = z
  have hlen5 : z.2.1.length ≤ 1000000 := by rw [← hz]; exact Nat.le_trans (keyP_len _ _) hlen4
  refine ⟨Lib.hasPrefix l0 DATP, l1, l1.take (dotN l1), l1.drop (dotN l1), b0 || !idB (l1.take (dotN l1)), y.1, y.2, y.1.take (dotN y.1), y.1.drop (dotN y.1), y.2 || !idB (y.1.take (dotN y.1)), z.1, z.2.1, z.2.2, ?_, hlen2', hlen5, ?_, ?_, ?_, ?_, ?_⟩
  · unfold tlP; simp only [hl1, hy, hz]
  · intro W hW
    have h2 := has_any ⟨#[100, 97, 116, 97, 46]⟩ ⟨l0.toArray⟩ (w.heap.size + 1) b0 W hW
    rw [show cutS (⟨#[100, 97, 116, 97, 46]⟩ : ByteArray).data.toList ⟨l0.toArray⟩ = ⟨l1.toArray⟩ from by rw [← hl1]; rfl] at h2
    exact h2
  · exact word l1 b0 hlen1
  · intro W hW
    have h2 := skip_any ⟨#[46]⟩ ⟨(l1.drop (dotN l1)).toArray⟩ (w.heap.size + 1) _ W hW
    rw [show cutS (⟨#[46]⟩ : ByteArray).data.toList ⟨(l1.drop (dotN l1)).toArray⟩ = ⟨y.1.toArray⟩ from by rw [← hy]; rfl, show (b0 || !idB (l1.take (dotN l1)) || !hasP (⟨#[46]⟩ : ByteArray).data.toList ⟨(l1.drop (dotN l1)).toArray⟩) = y.2 from by rw [← hy]; rfl] at h2
    exact h2
  · exact word y.1 y.2 hlen3
  · intro W hB hW
    have h2 := key_any ⟨(y.1.drop (dotN y.1)).toArray⟩ (w.heap.size + 1) _ W w hT hB (by omega) (by rw [arr_size]; exact hlen4) hW
    rw [show keyP (⟨(y.1.drop (dotN y.1)).toArray⟩ : ByteArray).data.toList (y.2 || !idB (y.1.take (dotN y.1))) = z from hz] at h2
    exact h2
set_option maxHeartbeats 4000000 in
theorem parse_any (s : ByteArray) (w : World) (hT : WT w) (hs : s.size ≤ 1000000) : Calls Tryz.prog 85 #[.string s] w fun e w' => ParR w (modsP (s.size + 1) s.data.toList false) e w' := by
  have HS := hid (Ps.start w s)
  obtain ⟨X, hX⟩ : ∃ X, modsP (s.size + 1) s.data.toList false = X := ⟨_, rfl⟩
  have HX := hid hX
  rw [hX]
  clear hX
  have hl := size_list s
  unfold aO at HS
  have HB := hid (Below.refl w.heap.size w)
  have HTT := hid hT
  clear hT
  go_enter Tryz.func85, Tryz.ntmps85
  go_wp2
  go_loopg [] (s.size + 1) (fun gg wr => ∃ (l : List UInt8) (bad : Bool) (v : Value) (xs : List MS), l.length < gg ∧ l.length ≤ s.size ∧ xs.length + l.length ≤ s.size ∧ Hid (Ps w wr l bad v xs false [] [] (0, 0, [])) ∧ Hid ((xs ++ (modsP gg l bad).1, (modsP gg l bad).2) = X))
  case atStart => exact ⟨s.data.toList, false, .slice none 0 0, [], by omega, by omega, by rw [List.length_nil]; omega, HS, hid (by rw [← HX.out]; rfl)⟩
  case round =>
    clear HS HX HB
    obtain ⟨l, bad, v, xs, h1, h2, h3, HP, HM⟩ := hrel
    obtain ⟨n, rfl⟩ : ∃ n, gk = n + 1 := ⟨gk - 1, by omega⟩
    obtain ⟨c0, c1, c2, c3⟩ := HP.out.rd.cells
    cases bad
    case true =>
      have HXE := hid (show X = (xs, l, true) by rw [← HM.out, modsP_bad]; simp)
      clear HM
      have hl0 : l.length ≤ 1000000 := by omega
      clear h1 h2 h3 hl
      obtain ⟨d, l1, ty, l2, b2, l3, b3, nm, l4, b4, k, l5, b5, HTL, hty, hl5, HC1, HC2, HC3, HC4, HC5⟩ := tl_con w HTT.out l true hl0
      obtain ⟨rv, cv, hv, _, _⟩ := own_form HP.out.own
      subst hv
      replace HTL := hid HTL
      replace HC1 := hid HC1
      replace HC2 := hid HC2
      replace HC3 := hid HC3
      replace HC4 := hid HC4
      replace HC5 := hid HC5
      have HLL := hid (And.intro hty hl5)
      clear hty hl5 hl0
      go_wp2_with (go_at_call 120; have hh := HC1.out _ HP.out.rd; refine Calls.mono hh ?_; clear hh; rintro e w7 ⟨rfl, hr, hg⟩; have P7 := hid (HP.out.grown hg hr); clear hr hg; have a1 := (ao_cells P7.out.ad).2.1; have f1 := (ao_cells P7.out.ad).2.2.2.2.2.2.2.1 1)
      have P8 := hid (P7.out.p1 d)
      go_wp2_with (go_at_call 123; have hh := HC2.out _ P8.out.rd; refine Calls.mono hh ?_; clear hh; rintro e w9 ⟨rfl, hr, hg⟩; have P9 := hid (P8.out.grown hg hr); clear hr hg; have a2 := (ao_cells P9.out.ad).2.2.1; have f2 := (ao_cells P9.out.ad).2.2.2.2.2.2.2.1 2)
      have P10 := hid (P9.out.p2 ty)
      go_wp2_with (go_at_call 122; have hh := HC3.out _ P10.out.rd; refine Calls.mono hh ?_; clear hh; rintro e w11 ⟨rfl, hr, hg⟩; have P11 := hid (P10.out.grown hg hr); clear hr hg)
      go_wp2_with (go_at_call 123; have hh := HC4.out _ P11.out.rd; refine Calls.mono hh ?_; clear hh; rintro e w12 ⟨rfl, hr, hg⟩; have P12 := hid (P11.out.grown hg hr); clear hr hg; have a3 := (ao_cells P12.out.ad).2.2.2.1; have f3 := (ao_cells P12.out.ad).2.2.2.2.2.2.2.1 3)
      have P13 := hid (P12.out.p3 nm)
      have HKD := hid (fun (W : World) => pkind_any ⟨ty.toArray⟩ W (by rw [arr_size]; exact HLL.out.1))
      rw [show (idB (⟨ty.toArray⟩ : ByteArray).data.toList && !rsv (⟨ty.toArray⟩ : ByteArray).data.toList) = kdB ty from rfl] at HKD
      have HPE := hid (show parE xs (tlP l true) = _ from rfl)
      rw [HTL.out] at HPE
      have hfin : (b5 = true) ∨ (b5 = false ∧ (l5 == []) = false) ∨ (b5 = false ∧ l5 = [] ∧ kdB ty = false) ∨ (b5 = false ∧ l5 = [] ∧ kdB ty = true ∧ decide ((16 : Int) < (xs.length : Int)) = true) ∨ (b5 = false ∧ l5 = [] ∧ kdB ty = true ∧ decide ((16 : Int) < (xs.length : Int)) = false) := by
        cases b5 <;> cases l5 <;> cases kdB ty <;> cases decide ((16 : Int) < (xs.length : Int)) <;> simp
      clear HPE
      rcases hfin with rfl | ⟨rfl, hl5⟩ | ⟨rfl, rfl, hk⟩ | ⟨rfl, rfl, hk, hx⟩ | ⟨rfl, rfl, hk, hx⟩
      · go_wp2_with (go_at_call 124; have hh := HC5.out _ P13.out.bel P13.out.rd; refine Calls.mono hh ?_; clear hh; rintro e w14 ⟨rfl, hr, hg⟩; have P14 := hid (P13.out.grown hg hr); clear hr hg; have a0 := (ao_cells P14.out.ad).1; have f0 := (ao_cells P14.out.ad).2.2.2.2.2.2.2.1 0; have a1 := (ao_cells P14.out.ad).2.1; have f1 := (ao_cells P14.out.ad).2.2.2.2.2.2.2.1 1; have a2 := (ao_cells P14.out.ad).2.2.1; have f2 := (ao_cells P14.out.ad).2.2.2.2.2.2.2.1 2; have a4 := (ao_cells P14.out.ad).2.2.2.2.1; have f4 := (ao_cells P14.out.ad).2.2.2.2.2.2.2.1 4; have a5 := (ao_cells P14.out.ad).2.2.2.2.2.1; have f5 := (ao_cells P14.out.ad).2.2.2.2.2.2.2.1 5; have a6 := (ao_cells P14.out.ad).2.2.2.2.2.2.1; have f6 := (ao_cells P14.out.ad).2.2.2.2.2.2.2.1 6; have r0 := P14.out.rd.cells.1; have r1 := P14.out.rd.cells.2.1; obtain ⟨e0, e1, e2, e3, e4, e5, e6, ef, _⟩ := ao_cells P14.out.re; have g0 := ef 0; have g1 := ef 1; have g2 := ef 2; have g3 := ef 3; have g4 := ef 4; have g5 := ef 5; have g6 := ef 6; have a3 := (ao_cells P14.out.ad).2.2.2.1; simp only [kV])
        have P15 := hid (((P14.out.p4 k.1).p5 k.2.1).p6 k.2.2)
        obtain ⟨hb, ho, hbel⟩ := P15.out.fin (.slice none 0 0) false [] [] (0, 0, []) _ rfl
        obtain ⟨k0, k1, k2, k3, k4, k5, k6, _, _⟩ := ao_cells hb
        exact bodyPost_ret (v := .tuple #[ad0, .int .i64 2]) (by simp [results, Tryz.results85, go_sem, k0, k1, k2, k3, k4, k5, k6, ad0]) rfl (by rw [HXE.out]; unfold ParR; simp only; rw [HTL.out]; exact ⟨by simp_all [parE], hbel⟩)
      · go_wp2_with (go_at_call 124; have hh := HC5.out _ P13.out.bel P13.out.rd; refine Calls.mono hh ?_; clear hh; rintro e w14 ⟨rfl, hr, hg⟩; have P14 := hid (P13.out.grown hg hr); clear hr hg; have a0 := (ao_cells P14.out.ad).1; have f0 := (ao_cells P14.out.ad).2.2.2.2.2.2.2.1 0; have a1 := (ao_cells P14.out.ad).2.1; have f1 := (ao_cells P14.out.ad).2.2.2.2.2.2.2.1 1; have a2 := (ao_cells P14.out.ad).2.2.1; have f2 := (ao_cells P14.out.ad).2.2.2.2.2.2.2.1 2; have a4 := (ao_cells P14.out.ad).2.2.2.2.1; have f4 := (ao_cells P14.out.ad).2.2.2.2.2.2.2.1 4; have a5 := (ao_cells P14.out.ad).2.2.2.2.2.1; have f5 := (ao_cells P14.out.ad).2.2.2.2.2.2.2.1 5; have a6 := (ao_cells P14.out.ad).2.2.2.2.2.2.1; have f6 := (ao_cells P14.out.ad).2.2.2.2.2.2.2.1 6; have r0 := P14.out.rd.cells.1; have r1 := P14.out.rd.cells.2.1; obtain ⟨e0, e1, e2, e3, e4, e5, e6, ef, _⟩ := ao_cells P14.out.re; have g0 := ef 0; have g1 := ef 1; have g2 := ef 2; have g3 := ef 3; have g4 := ef 4; have g5 := ef 5; have g6 := ef 6; have a3 := (ao_cells P14.out.ad).2.2.2.1; simp only [kV])
        have P15 := hid (((P14.out.p4 k.1).p5 k.2.1).p6 k.2.2)
        obtain ⟨hb, ho, hbel⟩ := P15.out.fin (.slice none 0 0) false [] [] (0, 0, []) _ rfl
        obtain ⟨k0, k1, k2, k3, k4, k5, k6, _, _⟩ := ao_cells hb
        exact bodyPost_ret (v := .tuple #[ad0, .int .i64 2]) (by simp [results, Tryz.results85, go_sem, k0, k1, k2, k3, k4, k5, k6, ad0]) rfl (by rw [HXE.out]; unfold ParR; simp only; rw [HTL.out]; exact ⟨by simp_all [parE], hbel⟩)
      · rw [hk] at HKD
        go_wp2_with (first | (go_at_call 124; have hh := HC5.out _ P13.out.bel P13.out.rd; refine Calls.mono hh ?_; clear hh; rintro e w14 ⟨rfl, hr, hg⟩; have P14 := hid (P13.out.grown hg hr); clear hr hg; have a0 := (ao_cells P14.out.ad).1; have f0 := (ao_cells P14.out.ad).2.2.2.2.2.2.2.1 0; have a1 := (ao_cells P14.out.ad).2.1; have f1 := (ao_cells P14.out.ad).2.2.2.2.2.2.2.1 1; have a2 := (ao_cells P14.out.ad).2.2.1; have f2 := (ao_cells P14.out.ad).2.2.2.2.2.2.2.1 2; have a4 := (ao_cells P14.out.ad).2.2.2.2.1; have f4 := (ao_cells P14.out.ad).2.2.2.2.2.2.2.1 4; have a5 := (ao_cells P14.out.ad).2.2.2.2.2.1; have f5 := (ao_cells P14.out.ad).2.2.2.2.2.2.2.1 5; have a6 := (ao_cells P14.out.ad).2.2.2.2.2.2.1; have f6 := (ao_cells P14.out.ad).2.2.2.2.2.2.2.1 6; have r0 := P14.out.rd.cells.1; have r1 := P14.out.rd.cells.2.1; obtain ⟨e0, e1, e2, e3, e4, e5, e6, ef, _⟩ := ao_cells P14.out.re; have g0 := ef 0; have g1 := ef 1; have g2 := ef 2; have g3 := ef 3; have g4 := ef 4; have g5 := ef 5; have g6 := ef 6; have a3 := (ao_cells P14.out.ad).2.2.2.1; simp only [kV]) | (go_at_call 125; refine (HKD.out _).mono ?_; rintro e wk ⟨rfl, rfl⟩))
        have P15 := hid (((P14.out.p4 k.1).p5 k.2.1).p6 k.2.2)
        obtain ⟨hb, ho, hbel⟩ := P15.out.fin (.slice none 0 0) false [] [] (0, 0, []) _ rfl
        obtain ⟨k0, k1, k2, k3, k4, k5, k6, _, _⟩ := ao_cells hb
        exact bodyPost_ret (v := .tuple #[ad0, .int .i64 2]) (by simp [results, Tryz.results85, go_sem, k0, k1, k2, k3, k4, k5, k6, ad0]) rfl (by rw [HXE.out]; unfold ParR; simp only; rw [HTL.out]; exact ⟨by simp_all [parE], hbel⟩)
      · rw [hk] at HKD
        go_wp2_with (first | (go_at_call 124; have hh := HC5.out _ P13.out.bel P13.out.rd; refine Calls.mono hh ?_; clear hh; rintro e w14 ⟨rfl, hr, hg⟩; have P14 := hid (P13.out.grown hg hr); clear hr hg; have a0 := (ao_cells P14.out.ad).1; have f0 := (ao_cells P14.out.ad).2.2.2.2.2.2.2.1 0; have a1 := (ao_cells P14.out.ad).2.1; have f1 := (ao_cells P14.out.ad).2.2.2.2.2.2.2.1 1; have a2 := (ao_cells P14.out.ad).2.2.1; have f2 := (ao_cells P14.out.ad).2.2.2.2.2.2.2.1 2; have a4 := (ao_cells P14.out.ad).2.2.2.2.1; have f4 := (ao_cells P14.out.ad).2.2.2.2.2.2.2.1 4; have a5 := (ao_cells P14.out.ad).2.2.2.2.2.1; have f5 := (ao_cells P14.out.ad).2.2.2.2.2.2.2.1 5; have a6 := (ao_cells P14.out.ad).2.2.2.2.2.2.1; have f6 := (ao_cells P14.out.ad).2.2.2.2.2.2.2.1 6; have r0 := P14.out.rd.cells.1; have r1 := P14.out.rd.cells.2.1; obtain ⟨e0, e1, e2, e3, e4, e5, e6, ef, _⟩ := ao_cells P14.out.re; have g0 := ef 0; have g1 := ef 1; have g2 := ef 2; have g3 := ef 3; have g4 := ef 4; have g5 := ef 5; have g6 := ef 6; have a3 := (ao_cells P14.out.ad).2.2.2.1; simp only [kV]) | (go_at_call 125; refine (HKD.out _).mono ?_; rintro e wk ⟨rfl, rfl⟩))
        have P15 := hid (((P14.out.p4 k.1).p5 k.2.1).p6 k.2.2)
        obtain ⟨hb, ho, hbel⟩ := P15.out.fin (.slice none 0 0) false [] [] (0, 0, []) _ rfl
        obtain ⟨k0, k1, k2, k3, k4, k5, k6, _, _⟩ := ao_cells hb
        exact bodyPost_ret (v := .tuple #[ad0, .int .i64 4]) (by simp [results, Tryz.results85, go_sem, k0, k1, k2, k3, k4, k5, k6, ad0]) rfl (by rw [HXE.out]; unfold ParR; simp only; rw [HTL.out]; exact ⟨by rw [parE4 hk hx]; rfl, hbel⟩)
      · rw [hk] at HKD
        go_wp2_with (first | (go_at_call 124; have hh := HC5.out _ P13.out.bel P13.out.rd; refine Calls.mono hh ?_; clear hh; rintro e w14 ⟨rfl, hr, hg⟩; have P14 := hid (P13.out.grown hg hr); clear hr hg; have a0 := (ao_cells P14.out.ad).1; have f0 := (ao_cells P14.out.ad).2.2.2.2.2.2.2.1 0; have a1 := (ao_cells P14.out.ad).2.1; have f1 := (ao_cells P14.out.ad).2.2.2.2.2.2.2.1 1; have a2 := (ao_cells P14.out.ad).2.2.1; have f2 := (ao_cells P14.out.ad).2.2.2.2.2.2.2.1 2; have a4 := (ao_cells P14.out.ad).2.2.2.2.1; have f4 := (ao_cells P14.out.ad).2.2.2.2.2.2.2.1 4; have a5 := (ao_cells P14.out.ad).2.2.2.2.2.1; have f5 := (ao_cells P14.out.ad).2.2.2.2.2.2.2.1 5; have a6 := (ao_cells P14.out.ad).2.2.2.2.2.2.1; have f6 := (ao_cells P14.out.ad).2.2.2.2.2.2.2.1 6; have r0 := P14.out.rd.cells.1; have r1 := P14.out.rd.cells.2.1; obtain ⟨e0, e1, e2, e3, e4, e5, e6, ef, _⟩ := ao_cells P14.out.re; have g0 := ef 0; have g1 := ef 1; have g2 := ef 2; have g3 := ef 3; have g4 := ef 4; have g5 := ef 5; have g6 := ef 6; have a3 := (ao_cells P14.out.ad).2.2.2.1; simp only [kV]) | (go_at_call 125; refine (HKD.out _).mono ?_; rintro e wk ⟨rfl, rfl⟩))
        have P15 := hid (((P14.out.p4 k.1).p5 k.2.1).p6 k.2.2)
        obtain ⟨hb, ho, hbel⟩ := P15.out.fin (.slice rv xs.length cv) d ty nm k _ rfl
        obtain ⟨k0, k1, k2, k3, k4, k5, k6, _, _⟩ := ao_cells hb
        exact bodyPost_ret (v := .tuple #[adV (.slice rv xs.length cv) ⟨d, ty, nm, k, [], false⟩, .int .i64 0]) (by simp [results, Tryz.results85, go_sem, k0, k1, k2, k3, k4, k5, k6, adV]) rfl (by rw [HXE.out]; unfold ParR; simp only; rw [HTL.out]; exact ⟨by rw [if_pos (parE0 hk hx)]; exact ⟨_, rfl, ho⟩, hbel⟩)
    cases hp : Lib.hasPrefix l MODP
    case false =>
      have HXE := hid (show X = (xs, Lib.trimPrefix l MODP, false) by rw [← HM.out, modsP_no n l hp]; simp)
      have HA := hid (has_any ⟨#[109, 111, 100, 117, 108, 101, 46]⟩ ⟨l.toArray⟩ (w.heap.size + 1) false wr HP.out.rd)
      have HP1 := hid (fun (W : World) (hg : wr.grownBy W (some (w.heap.size + 1))) (hr : Rd (w.heap.size + 1) W ⟨(Lib.trimPrefix l MODP).toArray⟩ false) => HP.out.grown hg hr)
      rw [show hasP (⟨#[109, 111, 100, 117, 108, 101, 46]⟩ : ByteArray).data.toList ⟨l.toArray⟩ = false from hp] at HA
      change Hid (Calls _ _ _ _ fun e w' => e = _ ∧ Rd _ w' ⟨(Lib.trimPrefix l MODP).toArray⟩ false ∧ _) at HA
      clear HM hp
      go_wp2_with (go_at_call 120; have hh := HA.out; clear HA; refine Calls.mono hh ?_; clear hh; rintro e w1 ⟨rfl, hr, hg⟩; have HP2 := hid (HP1.out _ hg hr); clear hr hg HP1)
      have hl0 : (Lib.trimPrefix l MODP).length ≤ 1000000 := by have := trim_len l MODP; omega
      clear h1 h2 h3 hl c0 c1 c2 c3
      generalize Lib.trimPrefix l MODP = l at *
      obtain ⟨d, l1, ty, l2, b2, l3, b3, nm, l4, b4, k, l5, b5, HTL, hty, hl5, HC1, HC2, HC3, HC4, HC5⟩ := tl_con w HTT.out l false hl0
      obtain ⟨rv, cv, hv, _, _⟩ := own_form HP2.out.own
      subst hv
      replace HTL := hid HTL
      replace HC1 := hid HC1
      replace HC2 := hid HC2
      replace HC3 := hid HC3
      replace HC4 := hid HC4
      replace HC5 := hid HC5
      have HLL := hid (And.intro hty hl5)
      clear hty hl5 hl0
      go_wp2_with (go_at_call 120; have hh := HC1.out _ HP2.out.rd; refine Calls.mono hh ?_; clear hh; rintro e w7 ⟨rfl, hr, hg⟩; have P7 := hid (HP2.out.grown hg hr); clear hr hg; have a1 := (ao_cells P7.out.ad).2.1; have f1 := (ao_cells P7.out.ad).2.2.2.2.2.2.2.1 1)
      have P8 := hid (P7.out.p1 d)
      go_wp2_with (go_at_call 123; have hh := HC2.out _ P8.out.rd; refine Calls.mono hh ?_; clear hh; rintro e w9 ⟨rfl, hr, hg⟩; have P9 := hid (P8.out.grown hg hr); clear hr hg; have a2 := (ao_cells P9.out.ad).2.2.1; have f2 := (ao_cells P9.out.ad).2.2.2.2.2.2.2.1 2)
      have P10 := hid (P9.out.p2 ty)
      go_wp2_with (go_at_call 122; have hh := HC3.out _ P10.out.rd; refine Calls.mono hh ?_; clear hh; rintro e w11 ⟨rfl, hr, hg⟩; have P11 := hid (P10.out.grown hg hr); clear hr hg)
      go_wp2_with (go_at_call 123; have hh := HC4.out _ P11.out.rd; refine Calls.mono hh ?_; clear hh; rintro e w12 ⟨rfl, hr, hg⟩; have P12 := hid (P11.out.grown hg hr); clear hr hg; have a3 := (ao_cells P12.out.ad).2.2.2.1; have f3 := (ao_cells P12.out.ad).2.2.2.2.2.2.2.1 3)
      have P13 := hid (P12.out.p3 nm)
      have HKD := hid (fun (W : World) => pkind_any ⟨ty.toArray⟩ W (by rw [arr_size]; exact HLL.out.1))
      rw [show (idB (⟨ty.toArray⟩ : ByteArray).data.toList && !rsv (⟨ty.toArray⟩ : ByteArray).data.toList) = kdB ty from rfl] at HKD
      have HPE := hid (show parE xs (tlP l false) = _ from rfl)
      rw [HTL.out] at HPE
      have hfin : (b5 = true) ∨ (b5 = false ∧ (l5 == []) = false) ∨ (b5 = false ∧ l5 = [] ∧ kdB ty = false) ∨ (b5 = false ∧ l5 = [] ∧ kdB ty = true ∧ decide ((16 : Int) < (xs.length : Int)) = true) ∨ (b5 = false ∧ l5 = [] ∧ kdB ty = true ∧ decide ((16 : Int) < (xs.length : Int)) = false) := by
        cases b5 <;> cases l5 <;> cases kdB ty <;> cases decide ((16 : Int) < (xs.length : Int)) <;> simp
      clear HPE
      rcases hfin with rfl | ⟨rfl, hl5⟩ | ⟨rfl, rfl, hk⟩ | ⟨rfl, rfl, hk, hx⟩ | ⟨rfl, rfl, hk, hx⟩
      · go_wp2_with (go_at_call 124; have hh := HC5.out _ P13.out.bel P13.out.rd; refine Calls.mono hh ?_; clear hh; rintro e w14 ⟨rfl, hr, hg⟩; have P14 := hid (P13.out.grown hg hr); clear hr hg; have a0 := (ao_cells P14.out.ad).1; have f0 := (ao_cells P14.out.ad).2.2.2.2.2.2.2.1 0; have a1 := (ao_cells P14.out.ad).2.1; have f1 := (ao_cells P14.out.ad).2.2.2.2.2.2.2.1 1; have a2 := (ao_cells P14.out.ad).2.2.1; have f2 := (ao_cells P14.out.ad).2.2.2.2.2.2.2.1 2; have a4 := (ao_cells P14.out.ad).2.2.2.2.1; have f4 := (ao_cells P14.out.ad).2.2.2.2.2.2.2.1 4; have a5 := (ao_cells P14.out.ad).2.2.2.2.2.1; have f5 := (ao_cells P14.out.ad).2.2.2.2.2.2.2.1 5; have a6 := (ao_cells P14.out.ad).2.2.2.2.2.2.1; have f6 := (ao_cells P14.out.ad).2.2.2.2.2.2.2.1 6; have r0 := P14.out.rd.cells.1; have r1 := P14.out.rd.cells.2.1; obtain ⟨e0, e1, e2, e3, e4, e5, e6, ef, _⟩ := ao_cells P14.out.re; have g0 := ef 0; have g1 := ef 1; have g2 := ef 2; have g3 := ef 3; have g4 := ef 4; have g5 := ef 5; have g6 := ef 6; have a3 := (ao_cells P14.out.ad).2.2.2.1; simp only [kV])
        have P15 := hid (((P14.out.p4 k.1).p5 k.2.1).p6 k.2.2)
        obtain ⟨hb, ho, hbel⟩ := P15.out.fin (.slice none 0 0) false [] [] (0, 0, []) _ rfl
        obtain ⟨k0, k1, k2, k3, k4, k5, k6, _, _⟩ := ao_cells hb
        exact bodyPost_ret (v := .tuple #[ad0, .int .i64 2]) (by simp [results, Tryz.results85, go_sem, k0, k1, k2, k3, k4, k5, k6, ad0]) rfl (by rw [HXE.out]; unfold ParR; simp only; rw [HTL.out]; exact ⟨by simp_all [parE], hbel⟩)
      · go_wp2_with (go_at_call 124; have hh := HC5.out _ P13.out.bel P13.out.rd; refine Calls.mono hh ?_; clear hh; rintro e w14 ⟨rfl, hr, hg⟩; have P14 := hid (P13.out.grown hg hr); clear hr hg; have a0 := (ao_cells P14.out.ad).1; have f0 := (ao_cells P14.out.ad).2.2.2.2.2.2.2.1 0; have a1 := (ao_cells P14.out.ad).2.1; have f1 := (ao_cells P14.out.ad).2.2.2.2.2.2.2.1 1; have a2 := (ao_cells P14.out.ad).2.2.1; have f2 := (ao_cells P14.out.ad).2.2.2.2.2.2.2.1 2; have a4 := (ao_cells P14.out.ad).2.2.2.2.1; have f4 := (ao_cells P14.out.ad).2.2.2.2.2.2.2.1 4; have a5 := (ao_cells P14.out.ad).2.2.2.2.2.1; have f5 := (ao_cells P14.out.ad).2.2.2.2.2.2.2.1 5; have a6 := (ao_cells P14.out.ad).2.2.2.2.2.2.1; have f6 := (ao_cells P14.out.ad).2.2.2.2.2.2.2.1 6; have r0 := P14.out.rd.cells.1; have r1 := P14.out.rd.cells.2.1; obtain ⟨e0, e1, e2, e3, e4, e5, e6, ef, _⟩ := ao_cells P14.out.re; have g0 := ef 0; have g1 := ef 1; have g2 := ef 2; have g3 := ef 3; have g4 := ef 4; have g5 := ef 5; have g6 := ef 6; have a3 := (ao_cells P14.out.ad).2.2.2.1; simp only [kV])
        have P15 := hid (((P14.out.p4 k.1).p5 k.2.1).p6 k.2.2)
        obtain ⟨hb, ho, hbel⟩ := P15.out.fin (.slice none 0 0) false [] [] (0, 0, []) _ rfl
        obtain ⟨k0, k1, k2, k3, k4, k5, k6, _, _⟩ := ao_cells hb
        exact bodyPost_ret (v := .tuple #[ad0, .int .i64 2]) (by simp [results, Tryz.results85, go_sem, k0, k1, k2, k3, k4, k5, k6, ad0]) rfl (by rw [HXE.out]; unfold ParR; simp only; rw [HTL.out]; exact ⟨by simp_all [parE], hbel⟩)
      · rw [hk] at HKD
        go_wp2_with (first | (go_at_call 124; have hh := HC5.out _ P13.out.bel P13.out.rd; refine Calls.mono hh ?_; clear hh; rintro e w14 ⟨rfl, hr, hg⟩; have P14 := hid (P13.out.grown hg hr); clear hr hg; have a0 := (ao_cells P14.out.ad).1; have f0 := (ao_cells P14.out.ad).2.2.2.2.2.2.2.1 0; have a1 := (ao_cells P14.out.ad).2.1; have f1 := (ao_cells P14.out.ad).2.2.2.2.2.2.2.1 1; have a2 := (ao_cells P14.out.ad).2.2.1; have f2 := (ao_cells P14.out.ad).2.2.2.2.2.2.2.1 2; have a4 := (ao_cells P14.out.ad).2.2.2.2.1; have f4 := (ao_cells P14.out.ad).2.2.2.2.2.2.2.1 4; have a5 := (ao_cells P14.out.ad).2.2.2.2.2.1; have f5 := (ao_cells P14.out.ad).2.2.2.2.2.2.2.1 5; have a6 := (ao_cells P14.out.ad).2.2.2.2.2.2.1; have f6 := (ao_cells P14.out.ad).2.2.2.2.2.2.2.1 6; have r0 := P14.out.rd.cells.1; have r1 := P14.out.rd.cells.2.1; obtain ⟨e0, e1, e2, e3, e4, e5, e6, ef, _⟩ := ao_cells P14.out.re; have g0 := ef 0; have g1 := ef 1; have g2 := ef 2; have g3 := ef 3; have g4 := ef 4; have g5 := ef 5; have g6 := ef 6; have a3 := (ao_cells P14.out.ad).2.2.2.1; simp only [kV]) | (go_at_call 125; refine (HKD.out _).mono ?_; rintro e wk ⟨rfl, rfl⟩))
        have P15 := hid (((P14.out.p4 k.1).p5 k.2.1).p6 k.2.2)
        obtain ⟨hb, ho, hbel⟩ := P15.out.fin (.slice none 0 0) false [] [] (0, 0, []) _ rfl
        obtain ⟨k0, k1, k2, k3, k4, k5, k6, _, _⟩ := ao_cells hb
        exact bodyPost_ret (v := .tuple #[ad0, .int .i64 2]) (by simp [results, Tryz.results85, go_sem, k0, k1, k2, k3, k4, k5, k6, ad0]) rfl (by rw [HXE.out]; unfold ParR; simp only; rw [HTL.out]; exact ⟨by simp_all [parE], hbel⟩)
      · rw [hk] at HKD
        go_wp2_with (first | (go_at_call 124; have hh := HC5.out _ P13.out.bel P13.out.rd; refine Calls.mono hh ?_; clear hh; rintro e w14 ⟨rfl, hr, hg⟩; have P14 := hid (P13.out.grown hg hr); clear hr hg; have a0 := (ao_cells P14.out.ad).1; have f0 := (ao_cells P14.out.ad).2.2.2.2.2.2.2.1 0; have a1 := (ao_cells P14.out.ad).2.1; have f1 := (ao_cells P14.out.ad).2.2.2.2.2.2.2.1 1; have a2 := (ao_cells P14.out.ad).2.2.1; have f2 := (ao_cells P14.out.ad).2.2.2.2.2.2.2.1 2; have a4 := (ao_cells P14.out.ad).2.2.2.2.1; have f4 := (ao_cells P14.out.ad).2.2.2.2.2.2.2.1 4; have a5 := (ao_cells P14.out.ad).2.2.2.2.2.1; have f5 := (ao_cells P14.out.ad).2.2.2.2.2.2.2.1 5; have a6 := (ao_cells P14.out.ad).2.2.2.2.2.2.1; have f6 := (ao_cells P14.out.ad).2.2.2.2.2.2.2.1 6; have r0 := P14.out.rd.cells.1; have r1 := P14.out.rd.cells.2.1; obtain ⟨e0, e1, e2, e3, e4, e5, e6, ef, _⟩ := ao_cells P14.out.re; have g0 := ef 0; have g1 := ef 1; have g2 := ef 2; have g3 := ef 3; have g4 := ef 4; have g5 := ef 5; have g6 := ef 6; have a3 := (ao_cells P14.out.ad).2.2.2.1; simp only [kV]) | (go_at_call 125; refine (HKD.out _).mono ?_; rintro e wk ⟨rfl, rfl⟩))
        have P15 := hid (((P14.out.p4 k.1).p5 k.2.1).p6 k.2.2)
        obtain ⟨hb, ho, hbel⟩ := P15.out.fin (.slice none 0 0) false [] [] (0, 0, []) _ rfl
        obtain ⟨k0, k1, k2, k3, k4, k5, k6, _, _⟩ := ao_cells hb
        exact bodyPost_ret (v := .tuple #[ad0, .int .i64 4]) (by simp [results, Tryz.results85, go_sem, k0, k1, k2, k3, k4, k5, k6, ad0]) rfl (by rw [HXE.out]; unfold ParR; simp only; rw [HTL.out]; exact ⟨by rw [parE4 hk hx]; rfl, hbel⟩)
      · rw [hk] at HKD
        go_wp2_with (first | (go_at_call 124; have hh := HC5.out _ P13.out.bel P13.out.rd; refine Calls.mono hh ?_; clear hh; rintro e w14 ⟨rfl, hr, hg⟩; have P14 := hid (P13.out.grown hg hr); clear hr hg; have a0 := (ao_cells P14.out.ad).1; have f0 := (ao_cells P14.out.ad).2.2.2.2.2.2.2.1 0; have a1 := (ao_cells P14.out.ad).2.1; have f1 := (ao_cells P14.out.ad).2.2.2.2.2.2.2.1 1; have a2 := (ao_cells P14.out.ad).2.2.1; have f2 := (ao_cells P14.out.ad).2.2.2.2.2.2.2.1 2; have a4 := (ao_cells P14.out.ad).2.2.2.2.1; have f4 := (ao_cells P14.out.ad).2.2.2.2.2.2.2.1 4; have a5 := (ao_cells P14.out.ad).2.2.2.2.2.1; have f5 := (ao_cells P14.out.ad).2.2.2.2.2.2.2.1 5; have a6 := (ao_cells P14.out.ad).2.2.2.2.2.2.1; have f6 := (ao_cells P14.out.ad).2.2.2.2.2.2.2.1 6; have r0 := P14.out.rd.cells.1; have r1 := P14.out.rd.cells.2.1; obtain ⟨e0, e1, e2, e3, e4, e5, e6, ef, _⟩ := ao_cells P14.out.re; have g0 := ef 0; have g1 := ef 1; have g2 := ef 2; have g3 := ef 3; have g4 := ef 4; have g5 := ef 5; have g6 := ef 6; have a3 := (ao_cells P14.out.ad).2.2.2.1; simp only [kV]) | (go_at_call 125; refine (HKD.out _).mono ?_; rintro e wk ⟨rfl, rfl⟩))
        have P15 := hid (((P14.out.p4 k.1).p5 k.2.1).p6 k.2.2)
        obtain ⟨hb, ho, hbel⟩ := P15.out.fin (.slice rv xs.length cv) d ty nm k _ rfl
        obtain ⟨k0, k1, k2, k3, k4, k5, k6, _, _⟩ := ao_cells hb
        exact bodyPost_ret (v := .tuple #[adV (.slice rv xs.length cv) ⟨d, ty, nm, k, [], false⟩, .int .i64 0]) (by simp [results, Tryz.results85, go_sem, k0, k1, k2, k3, k4, k5, k6, adV]) rfl (by rw [HXE.out]; unfold ParR; simp only; rw [HTL.out]; exact ⟨by rw [if_pos (parE0 hk hx)]; exact ⟨_, rfl, ho⟩, hbel⟩)
    have hl7 := hp_len hp
    have hlt := trim_lt hp (by decide) hl7
    have HA := hid (has_any ⟨#[109, 111, 100, 117, 108, 101, 46]⟩ ⟨l.toArray⟩ (w.heap.size + 1) false wr HP.out.rd)
    rw [show hasP (⟨#[109, 111, 100, 117, 108, 101, 46]⟩ : ByteArray).data.toList ⟨l.toArray⟩ = true from hp] at HA
    rw [modsP_yes n l hp] at HM
    have HP1 := hid (fun (W : World) (hg : wr.grownBy W (some (w.heap.size + 1))) (hr : Rd (w.heap.size + 1) W ⟨(Lib.trimPrefix l MODP).toArray⟩ false) => HP.out.grown hg hr)
    change Hid (Calls _ _ _ _ fun e w' => e = _ ∧ Rd _ w' ⟨(Lib.trimPrefix l MODP).toArray⟩ false ∧ _) at HA
    clear hp
    generalize Lib.trimPrefix l MODP = t at *
    have hst := stepP_len t false
    have HST := hid (fun (W : World) (hB : Below w.heap.size w W) (hr : Rd (w.heap.size + 1) W ⟨t.toArray⟩ false) => step_any ⟨t.toArray⟩ (w.heap.size + 1) false W w HTT.out hB (by omega) (by rw [arr_size]; omega) hr)
    change Hid (∀ (W : World) (hB : Below w.heap.size w W) (hr : Rd (w.heap.size + 1) W ⟨t.toArray⟩ false), Calls _ _ _ W fun e w' => e = .returned (stV (stepP t false).1) ∧ Rd _ w' ⟨(stepP t false).2.1.toArray⟩ (stepP t false).2.2 ∧ _) at HST
    generalize stepP t false = x at *
    obtain ⟨y, l2, b2⟩ := x
    simp only at HST HM hst
    have HSK := hid (fun (W : World) (hr : Rd (w.heap.size + 1) W ⟨l2.toArray⟩ b2) => skip_any ⟨#[46]⟩ ⟨l2.toArray⟩ (w.heap.size + 1) b2 W hr)
    change Hid (∀ (W : World) (hr : Rd (w.heap.size + 1) W ⟨l2.toArray⟩ b2), Calls _ _ _ W fun e w' => e = .returned (.tuple #[]) ∧ Rd _ w' ⟨(skipP [46] l2 b2).1.toArray⟩ (skipP [46] l2 b2).2 ∧ _) at HSK
    have hsk : (skipP [46] l2 b2).1.length ≤ l2.length := trim_len _ _
    generalize skipP [46] l2 b2 = z at *
    obtain ⟨l3, b3⟩ := z
    simp only at HSK HM hsk
    have HNN := hid (show l3.length < n ∧ l3.length ≤ s.size ∧ xs.length + 1 + l3.length ≤ s.size ∧ xs.length + 1 ≤ 1000000 by omega)
    clear h1 h2 h3 hlt hst hsk hl hs hl7
    go_wp2_with (go_at_call 120; have hh := HA.out; clear HA; refine Calls.mono hh ?_; clear hh; rintro e w1 ⟨rfl, hr, hg⟩; have HP2 := hid (HP1.out _ hg hr); clear hr hg HP1)
    clear c0 c1 c2 c3
    have q0 := (ao_cells HP2.out.ad).1
    have hbd : Below w1.heap.size w1 w1.drew := (Below.refl _ _).drew
    have HP3 := hid (HP2.out.below hbd)
    have q0d := (ao_cells HP3.out.ad).1
    have qd := cellD_eq q0d
    have HST2 := hid (HST.out w1.drew HP3.out.bel HP3.out.rd)
    clear HST hbd
    go_region_law
      ((first
        | (go_simp
           go_at_call 121
           have hh := HST2.out
           clear HST2
           refine Calls.mono hh ?_
           clear hh
           rintro e w4 ⟨rfl, hr4, hg4⟩
           have HP4 := hid (HP3.out.grown hg4 hr4)
           clear hr4 hg4
           have q4 := (ao_cells HP4.out.ad).1
           have HW1 := hid (show Below w4.heap.size w4 (w4.alloc (.cells #[.string ⟨y.1.toArray⟩, .int .i64 y.2.1, .int .i64 y.2.2.1, .string ⟨y.2.2.2.toArray⟩] 119)) from (Below.refl _ _).alloc (Nat.le_refl _) _)
           have HNW := hid (ko_new w4 (.cells #[.string ⟨y.1.toArray⟩, .int .i64 y.2.1, .int .i64 y.2.2.1, .string ⟨y.2.2.2.toArray⟩] 119))
           have HOW := hid (HP4.out.below HW1.out).own
           have q4a := (ao_cells (HP4.out.below HW1.out).ad).1
           have HSZ := hid (Nat.le_trans HP4.out.sz HW1.out.size)
           simp only [stV])
        | (have hq := HP4.out
           clear hq
           refine step_append_row encM encM_len encM_one Tryz.underlying55 msinfo rfl (by omega) (by omega) (by rfl) _ _ (by rfl) (w.heap.size + 3) v xs (by rfl) HOW.out w4.heap.size 1 y (by rfl) (fr := (0, 0)) (by exact HNW.out) HNN.out.2.2.2 HSZ.out (w4.heap.size + 1) (by simp) ?_
           intro g cap w5 m1 m2 m3 m4
           have HP5 := hid (HP4.out.app HW1.out (morem_of m1 m2 m3 m4))
           rw [show (xs ++ [y]).length = xs.length + 1 by simp] at HP5
           obtain ⟨⟨q5, f5⟩, hp5⟩ := HP5.out
           have q7 := (ao_cells hp5.ad).1
           clear hp5
           clear m1 m2 m3 m4)))
    all_goals go_wp2_with (go_at_call 122; have hh := HSK.out _ HP5.out.2.rd; refine Calls.mono hh ?_; clear hh; rintro e w6 ⟨rfl, hr6, hg6⟩; have HP6 := hid (HP5.out.2.grown hg6 hr6); clear hr6 hg6)
    all_goals go_roundg n
    all_goals first
      | (case measure => omega)
      | exact ⟨l3, b3, _, xs ++ [y], HNN.out.1, HNN.out.2.1, by have := HNN.out.2.2.1; simp only [List.length_append, List.length_singleton]; omega, by first | exact HP6 | (simp only [List.length_append, List.length_singleton]; exact HP6), hid (by rw [← HM.out]; simp)⟩
      | omega
      | skip
end Go.Proofs.YtpnogmicfomofaaGreatDoor.Adr
