import Derived.Test.YtpnogmicfomofaaGreatDoorEe
import Derived.Laws.StructEq
/-
  Addresses: the program's clone of module steps. Conditions: those ahead of each theorem.
-/
namespace Go.Proofs.YtpnogmicfomofaaGreatDoor.Adr
open Go.RowKit Go.Sort Go.Lib Go.Maps
open Go.Lib (hid)
set_option linter.unusedVariables false
set_option linter.unusedSimpArgs false

def laysC_ren : Go.Shelf.Ren := ⟨fun | 41 => 130 | n => n, fun | 22 => 55 | 23 => 119 | 4 => 4 | n => n, fun | n => n⟩
theorem laysC : Go.Proofs.SlLaysE0.n41 Tryz.prog laysC_ren := {
  mixed := by kernel_rfl
  f41 := ⟨Tryz.f130.name, by decide, Tryz.func130.trans (congrArg some (by kernel_rfl))⟩
  t4 := Tryz.underlying4
  a4 := Tryz.isAgg4
  z4 := Tryz.sizeOf4
  v4 := Tryz.zeroValue4
  t22 := Tryz.underlying55
  a22 := Tryz.isAgg55
  z22 := Tryz.sizeOf55
  v22 := Tryz.zeroValue55 }
theorem clone_m (B : Nat) (v : Value) (xs : List MS) (w : World) (h : OwnM B w v xs) (hn : xs.length ≤ 1000000) : Calls Tryz.prog 130 #[v] w fun e w' =>
    ∃ v', e = .returned v' ∧ OwnM w.heap.size w' v' xs ∧ Below w.heap.size w w' := by
  rcases h.2 with ⟨rfl, h0⟩ | ⟨g, cap, cur, rfl, hb, hg, hnc, hc, hs, ht⟩
  · have : xs = [] := List.eq_nil_of_length_eq_zero h0
    subst this
    exact (AnyE.slices_Clone_nil laysC 0 0 w).mono fun e w' ⟨he, hw⟩ => ⟨_, he, ownM_nil _ _, by rw [hw]; exact Below.refl _ _⟩
  · obtain ⟨i0, hi, hz0, hz1, hz2⟩ := info_parts msinfo
    refine (AnyE.slices_Clone laysC i0 _ 4 48 hi hz0 hz1 hz2 rfl (by decide) Tryz.sizeOf119 g 0 xs.length cap (xs.flatMap encM) w (flat_len encM 4 encM_len xs) (by unfold maxLen; omega) (by omega) (fun j u hu => ?_) (fun u hu => ?_)).mono fun e w' ⟨v', he, ho, _, hb⟩ => ⟨v', he, ho, hb⟩
    · have h1 := hu
      rw [← ht, List.getElem?_take] at h1
      split at h1
      · unfold World.cell?
        simp only [hg, Nat.zero_add]
        simpa using h1
      · cases h1
    · obtain ⟨y, _, hy2⟩ := List.mem_flatMap.1 hu
      exact encM_one y u hy2
end Go.Proofs.YtpnogmicfomofaaGreatDoor.Adr
/-
  Addresses: the program's static: an address without its keys. Conditions: those ahead of each theorem.
-/
namespace Go.Proofs.YtpnogmicfomofaaGreatDoor.Adr
open Go.RowKit Go.Sort Go.Lib Go.Maps
open Go.Lib (hid)
set_option linter.unusedVariables false
set_option linter.unusedSimpArgs false

def barM (x : MS) : MS := (x.1, (0, 0, []))
/-- A cell of an own row is written. -/
theorem own_setc {B sz g n cap : Nat} {e : TypeId} {w : World} {xs : List Value} (h : w.ownsRow B e sz (.slice (some ⟨g, 0, none⟩) n cap) n xs) (i : Nat) (u : Value) : (w.setCell ⟨g, i, none⟩ u).ownsRow B e sz (.slice (some ⟨g, 0, none⟩) n cap) n (xs.set i u) := by
  refine ⟨by rw [List.length_set]; exact h.1, ?_⟩
  rcases h.2 with ⟨he, _⟩ | ⟨g2, cap2, cur, he, hb, hg, hn, hc, hs, ht⟩
  · cases he
  · cases he
    refine .inr ⟨g, cap, cur.setIfInBounds i u, rfl, hb, ?_, hn, hc, by rw [Array.size_setIfInBounds]; exact hs, ?_⟩
    · unfold World.setCell
      simp only [Array.getElem?_modify, if_true, hg, Option.map_some]
      rfl
    · rw [Array.toList_setIfInBounds, List.take_set, ht]
theorem set_app4 (x : MS) (r : List Value) (i : Nat) (u : Value) : (encM x ++ r).set (i + 4) u = encM x ++ r.set i u := rfl
theorem flat_bare : ∀ (xs : List MS) (k : Nat) (hk : k < xs.length), (((xs.flatMap encM).set (k * 4 + 1) (.int .i64 0)).set (k * 4 + 2) (.int .i64 0)).set (k * 4 + 3) (.string ⟨#[]⟩) = (xs.set k (barM xs[k])).flatMap encM
  | [], k, hk => by simp at hk
  | x :: xs, 0, _ => rfl
  | x :: xs, k + 1, hk => by
    have IH := flat_bare xs k (by simpa using hk)
    rw [List.set_cons_succ, List.flatMap_cons, List.flatMap_cons]
    rw [show (k + 1) * 4 + 1 = (k * 4 + 1) + 4 by omega, show (k + 1) * 4 + 2 = (k * 4 + 2) + 4 by omega, show (k + 1) * 4 + 3 = (k * 4 + 3) + 4 by omega, set_app4, set_app4, set_app4, IH]
    rfl
def aV (v : Value) (d : Bool) (ty nm : List UInt8) (k : KeyT) : Value := .agg #[v, .bool d, .string ⟨ty.toArray⟩, .string ⟨nm.toArray⟩, .int .i64 k.1, .int .i64 k.2.1, .string ⟨k.2.2.toArray⟩]
def mix (k : Nat) (xs : List MS) : List MS := (xs.take k).map barM ++ xs.drop k
theorem mix_len (k : Nat) (xs : List MS) : (mix k xs).length = xs.length := by
  unfold mix
  rw [List.length_append, List.length_map, List.length_take, List.length_drop]; omega
theorem mix_get {k : Nat} {xs : List MS} (hk : k < xs.length) : (mix k xs)[k]'(by rw [mix_len]; exact hk) = xs[k] := by
  have h : (mix k xs)[k]? = xs[k]? := by
    unfold mix
    rw [List.getElem?_append_right (by rw [List.length_map, List.length_take]; omega), List.getElem?_drop, List.length_map, List.length_take]
    congr 1; omega
  rw [List.getElem?_eq_getElem hk, List.getElem?_eq_getElem (by rw [mix_len]; exact hk)] at h
  exact Option.some.inj h
theorem mix_set {k : Nat} {xs : List MS} (hk : k < xs.length) : (mix k xs).set k (barM xs[k]) = mix (k + 1) xs := by
  unfold mix
  rw [List.set_append_right _ _ (by rw [List.length_map, List.length_take]; omega), List.drop_eq_getElem_cons hk, List.length_map, List.length_take, show k - min k xs.length = 0 by omega, List.set_cons_zero, List.take_succ_eq_append_getElem hk, List.map_append]
  simp
/-- The state while the keys are struck. -/
structure Sp (w W : World) (v : Value) (xs : List MS) (d : Bool) (ty nm : List UInt8) : Prop where
  ad : W.heap[w.heap.size + 1 + 1]? = some (aO v d ty nm (0, 0, []))
  re : W.heap[w.heap.size + 1]? = some (aO (.slice none 0 0) false [] [] (0, 0, []))
  own : OwnM (w.heap.size + 3) W v xs
  bel : Below w.heap.size w W
theorem Sp.step {w W : World} {v : Value} {xs : List MS} {d : Bool} {ty nm : List UInt8} {k : Nat} (h : Sp w W v (mix k xs) d ty nm) (hk : k < xs.length) : ∃ g cap, v = .slice (some ⟨g, 0, none⟩) xs.length cap ∧ xs.length ≤ cap ∧ cap ≤ 9223372036854775807 ∧
    (∀ o, W.frozen? ⟨g, o, none⟩ = false) ∧ (∀ j, j < 4 → ∃ u, W.cell? ⟨g, k * 4 + j, none⟩ = some u) ∧
    Sp w (((W.setCell ⟨g, k * 4 + 1, none⟩ (.int .i64 0)).setCell ⟨g, k * 4 + 2, none⟩ (.int .i64 0)).setCell ⟨g, k * 4 + 3, none⟩ (.string ⟨#[]⟩)) v (mix (k + 1) xs) d ty nm := by
  have ho := h.own
  unfold OwnM at ho
  rw [mix_len] at ho
  have hlt := ho.lt
  rcases ho.2 with ⟨rfl, h0⟩ | ⟨g, cap, cur, rfl, hb, hg, hn, hc, hs, ht⟩
  · omega
  unfold maxLen at hc
  refine ⟨g, cap, rfl, hn, hc, fun o => by unfold World.frozen?; simp [hg], fun j hj => ⟨cur[k * 4 + j]'(by omega), by unfold World.cell?; simp only [hg]; exact Array.getElem?_eq_getElem _⟩, ?_⟩
  have hne : ∀ (X : World) (i j : Nat) (u : Value), j < w.heap.size + 3 → (X.setCell ⟨g, i, none⟩ u).heap[j]? = X.heap[j]? := fun X i j u hj => Below.heap_setCell _ _ _ _ (by simp only; omega)
  refine ⟨?_, ?_, ?_, ?_⟩
  · rw [hne _ _ _ _ (by omega), hne _ _ _ _ (by omega), hne _ _ _ _ (by omega)]; exact h.ad
  · rw [hne _ _ _ _ (by omega), hne _ _ _ _ (by omega), hne _ _ _ _ (by omega)]; exact h.re
  · have hs3 := own_setc (own_setc (own_setc ho (k * 4 + 1) (.int .i64 0)) (k * 4 + 2) (.int .i64 0)) (k * 4 + 3) (.string ⟨#[]⟩)
    rw [flat_bare (mix k xs) k (by rw [mix_len]; exact hk), mix_get hk, mix_set hk] at hs3
    unfold OwnM
    rw [mix_len]
    exact hs3
  · exact (((h.bel.setCell (show w.heap.size ≤ g by omega) _).setCell (show w.heap.size ≤ g by omega) _).setCell (show w.heap.size ≤ g by omega) _)
def StaR (w : World) (xs : List MS) (d : Bool) (ty nm : List UInt8) (e : Ending) (w' : World) : Prop := ∃ v', e = .returned (aV v' d ty nm (0, 0, [])) ∧ OwnM w.heap.size w' v' (xs.map barM) ∧ Below w.heap.size w w'
theorem mix_zero (xs : List MS) : mix 0 xs = xs := by simp [mix]
theorem mix_all (xs : List MS) : mix xs.length xs = xs.map barM := by simp [mix]
theorem Sp.start {w w1 : World} {o : Obj} {u v' : Value} {xs : List MS} {d : Bool} {ty nm : List UInt8} (hb : Below ((((w.alloc o).alloc (aO (.slice none 0 0) false [] [] (0, 0, []))).alloc (aO u d ty nm (0, 0, []))).heap.size) (((w.alloc o).alloc (aO (.slice none 0 0) false [] [] (0, 0, []))).alloc (aO u d ty nm (0, 0, []))) w1) (ho : OwnM (((w.alloc o).alloc (aO (.slice none 0 0) false [] [] (0, 0, []))).alloc (aO u d ty nm (0, 0, []))).heap.size w1 v' xs) :
    (w1.cell? ⟨w.heap.size + 1 + 1, 0, none⟩ = some u ∧ w1.frozen? ⟨w.heap.size + 1 + 1, 0, none⟩ = false) ∧ Sp w (w1.setCell ⟨w.heap.size + 1 + 1, 0, none⟩ v') v' (mix 0 xs) d ty nm := by
  have hW : Below w.heap.size w (((w.alloc o).alloc (aO (.slice none 0 0) false [] [] (0, 0, []))).alloc (aO u d ty nm (0, 0, []))) := (((Below.refl _ _).alloc (Nat.le_refl _) _).alloc (by simp) _).alloc (by simp; omega) _
  have hz : ((((w.alloc o).alloc (aO (.slice none 0 0) false [] [] (0, 0, []))).alloc (aO u d ty nm (0, 0, []))).heap.size) = w.heap.size + 3 := by simp
  have h2 : ((((w.alloc o).alloc (aO (.slice none 0 0) false [] [] (0, 0, []))).alloc (aO u d ty nm (0, 0, []))).heap)[w.heap.size + 1 + 1]? = some (aO u d ty nm (0, 0, [])) := by
    have := ko_new ((w.alloc o).alloc (aO (.slice none 0 0) false [] [] (0, 0, []))) (aO u d ty nm (0, 0, []))
    simpa using this
  have h1 : ((((w.alloc o).alloc (aO (.slice none 0 0) false [] [] (0, 0, []))).alloc (aO u d ty nm (0, 0, []))).heap)[w.heap.size + 1]? = some (aO (.slice none 0 0) false [] [] (0, 0, [])) := by
    have hk := ko_new (w.alloc o) (aO (.slice none 0 0) false [] [] (0, 0, []))
    have hbb : Below ((w.alloc o).alloc (aO (.slice none 0 0) false [] [] (0, 0, []))).heap.size ((w.alloc o).alloc (aO (.slice none 0 0) false [] [] (0, 0, []))) (((w.alloc o).alloc (aO (.slice none 0 0) false [] [] (0, 0, []))).alloc (aO u d ty nm (0, 0, []))) := (Below.refl _ _).alloc (Nat.le_refl _) _
    have := (hbb.block _ (lt_of_block hk)).trans hk
    simpa using this
  rw [hz] at hb ho
  generalize ((w.alloc o).alloc (aO (.slice none 0 0) false [] [] (0, 0, []))).alloc (aO u d ty nm (0, 0, [])) = W3 at *
  have k2 := (hb.block _ (by omega)).trans h2
  have k1 := (hb.block _ (by omega)).trans h1
  obtain ⟨c0, _, _, _, _, _, _, cf, _⟩ := ao_cells k2
  refine ⟨⟨c0, cf 0⟩, ?_, ?_, ?_, ?_⟩
  · unfold World.setCell aO at *
    simp only [Array.getElem?_modify, if_true, k2, Option.map_some]
    rfl
  · rw [Below.heap_setCell _ _ _ _ (by simp only; omega)]; exact k1
  · rw [mix_zero]
    refine kept_off ho (grown_setC w1 ⟨w.heap.size + 1 + 1, 0, none⟩ v') (fun g hg e => ?_)
    have := (ho.lt g hg).1
    simp at e
    omega
  · exact (hW.trans (hb.mono (by omega))).setCell (show w.heap.size ≤ w.heap.size + 1 + 1 by omega) _
theorem row_le {w : World} {B B' sz n : Nat} {e : TypeId} {v : Value} {xs : List Value} (h : w.ownsRow B e sz v n xs) (hb : B' ≤ B) : w.ownsRow B' e sz v n xs := ⟨h.1, h.2.imp id fun ⟨g, cap, cur, e, hb2, r⟩ => ⟨g, cap, cur, e, by omega, r⟩⟩
/-- An address is written whole. -/
theorem ao_fin {W : World} {b : Nat} {v0 : Value} {d0 : Bool} {ty0 nm0 : List UInt8} {k0 : KeyT} (hre : W.heap[b]? = some (aO v0 d0 ty0 nm0 k0)) (v2 : Value) (d2 : Bool) (ty2 nm2 : List UInt8) (k2 : KeyT) (W' : World)
    (e : W' = ((((((W.setCell ⟨b, 0, none⟩ v2).setCell ⟨b, 1, none⟩ (.bool d2)).setCell ⟨b, 2, none⟩ (.string ⟨ty2.toArray⟩)).setCell ⟨b, 3, none⟩ (.string ⟨nm2.toArray⟩)).setCell ⟨b, 4, none⟩ (.int .i64 k2.1)).setCell ⟨b, 5, none⟩ (.int .i64 k2.2.1)).setCell ⟨b, 6, none⟩ (.string ⟨k2.2.2.toArray⟩)) : W'.heap[b]? = some (aO v2 d2 ty2 nm2 k2) ∧ W.grownBy W' (some b) := by
  subst e
  refine ⟨?_, grown_trans (grown_trans (grown_trans (grown_trans (grown_trans (grown_trans (grown_setC W ⟨b, 0, none⟩ v2) (grown_setC _ ⟨b, 1, none⟩ (.bool d2))) (grown_setC _ ⟨b, 2, none⟩ (.string ⟨ty2.toArray⟩))) (grown_setC _ ⟨b, 3, none⟩ (.string ⟨nm2.toArray⟩))) (grown_setC _ ⟨b, 4, none⟩ (.int .i64 k2.1))) (grown_setC _ ⟨b, 5, none⟩ (.int .i64 k2.2.1))) (grown_setC _ ⟨b, 6, none⟩ (.string ⟨k2.2.2.toArray⟩))⟩
  unfold World.setCell aO at *
  simp only [Array.getElem?_modify, if_true, hre, Option.map_some]
  rfl
theorem Sp.fin {w W W' : World} {v : Value} {xs : List MS} {d : Bool} {ty nm : List UInt8} (h : Sp w W v xs d ty nm) (e : W' = ((((((W.setCell ⟨w.heap.size + 1, 0, none⟩ v).setCell ⟨w.heap.size + 1, 1, none⟩ (.bool d)).setCell ⟨w.heap.size + 1, 2, none⟩ (.string ⟨ty.toArray⟩)).setCell ⟨w.heap.size + 1, 3, none⟩ (.string ⟨nm.toArray⟩)).setCell ⟨w.heap.size + 1, 4, none⟩ (.int .i64 0)).setCell ⟨w.heap.size + 1, 5, none⟩ (.int .i64 0)).setCell ⟨w.heap.size + 1, 6, none⟩ (.string ⟨#[]⟩)) :
    W'.heap[w.heap.size + 1]? = some (aO v d ty nm (0, 0, [])) ∧ OwnM w.heap.size W' v xs ∧ Below w.heap.size w W' := by
  obtain ⟨h1, hg⟩ := ao_fin h.re v d ty nm (0, 0, []) W' e
  refine ⟨h1, row_le (kept_off h.own hg (fun g hg2 e => ?_)) (by omega), h.bel.grown hg h.bel.size (fun k hk => by cases hk; omega)⟩
  have := (h.own.lt g hg2).1
  simp at e
  omega
set_option maxHeartbeats 4000000 in
theorem static_any (B : Nat) (v : Value) (xs : List MS) (d : Bool) (ty nm : List UInt8) (k : KeyT) (w : World) (h : OwnM B w v xs) (hn : xs.length ≤ 1000000) : Calls Tryz.prog 87 #[aV v d ty nm k] w (StaR w xs d ty nm) := by
  obtain ⟨r, c, rfl, _, _⟩ := own_form h
  have HCL := hid (fun (W : World) (hW : Below w.heap.size w W) => clone_m B (.slice r xs.length c) xs W (kept_off h (grown_below hW) (fun _ _ e => by cases e)) hn)
  clear h
  unfold aV
  go_enter Tryz.func87, Tryz.ntmps87
  go_wp2_with fail
  refine Calls.mono (HCL.out _ (by exact (((Below.refl _ _).alloc (Nat.le_refl _) _).alloc (by simp) _).alloc (by simp; omega) _)) ?_
  clear HCL
  rintro e w1 ⟨v', rfl, ho, hb⟩
  obtain ⟨r2, c2, rfl, hc1, hc2⟩ := own_form ho
  obtain ⟨⟨s0, s1⟩, hP⟩ := Sp.start hb ho
  have HP := hid hP
  clear hP hb ho
  go_wp2
  go_loopw [15] (fun t wr => ∃ k : Nat, k ≤ xs.length ∧ t = .int .i64 k ∧ Hid (Sp w wr (.slice r2 (xs.length) c2) (mix k xs) d ty nm)) (fun t _ => xs.length - (RowKit.intOf t).toNat)
  case atStart => exact ⟨0, Nat.zero_le _, rfl, HP⟩
  case round =>
    clear HP s0 s1
    obtain ⟨k, hk, rfl, HP⟩ := hrel
    obtain ⟨a0, _, _, _, _, _, _, af, _⟩ := ao_cells HP.out.ad
    have f0 := af 0
    clear af
    by_cases hlt : k < xs.length
    · obtain ⟨g, cap, hv, h1, h2, h3, h4, h5⟩ := HP.out.step hlt
      cases hv
      obtain ⟨u1, q1⟩ := h4 1 (by omega)
      obtain ⟨u2, q2⟩ := h4 2 (by omega)
      obtain ⟨u3, q3⟩ := h4 3 (by omega)
      have p1 := h3 (k * 4 + 1)
      have p2 := h3 (k * 4 + 2)
      have p3 := h3 (k * 4 + 3)
      have HP5 := hid h5
      clear h5 h3 h4
      go_wp2
      go_roundw
      case rel => exact ⟨k + 1, by omega, by go_num, HP5⟩
      case measure => simp [RowKit.intOf]; omega
    · obtain ⟨_, a1, a2, a3, a4, a5, a6, _, _⟩ := ao_cells HP.out.ad
      obtain ⟨e0, e1, e2, e3, e4, e5, e6, ef, _⟩ := ao_cells HP.out.re
      have g0 := ef 0
      have g1 := ef 1
      have g2 := ef 2
      have g3 := ef 3
      have g4 := ef 4
      have g5 := ef 5
      have g6 := ef 6
      obtain rfl : k = xs.length := by omega
      go_wp2
      obtain ⟨hb, ho, hbel⟩ := HP.out.fin rfl
      obtain ⟨k0, k1, k2, k3, k4, k5, k6, _, _⟩ := ao_cells hb
      rw [mix_all] at ho
      exact bodyPost_ret (v := aV (.slice r2 xs.length c2) d ty nm (0, 0, [])) (by simp [results, Tryz.results87, go_sem, k0, k1, k2, k3, k4, k5, k6, aV]) rfl ⟨_, rfl, ho, hbel⟩
end Go.Proofs.YtpnogmicfomofaaGreatDoor.Adr
/-
  Addresses without keys: the program's valid, FormatKey, Check, Format. Conditions: those ahead of each theorem.
-/
namespace Go.Proofs.YtpnogmicfomofaaGreatDoor.Adr
open Go.RowKit Go.Sort Go.Lib Go.Maps
open Go.Lib (hid)
set_option linter.unusedVariables false
set_option linter.unusedSimpArgs false

def k0V : Value := .agg #[.int .i64 0, .int .i64 0, .string ⟨#[]⟩]
theorem valid0 (w : World) : Calls Tryz.prog 162 #[k0V] w fun e w' => e = .returned (.bool true) ∧ Below w.heap.size w w' := by
  unfold k0V
  go_enter Tryz.func162, Tryz.ntmps162
  go_wp2
  go_ret
  exact ⟨rfl, (Below.refl _ _).alloc (Nat.le_refl _) _⟩
theorem fkey0 (w : World) : Calls Tryz.prog 128 #[k0V] w fun e w' => e = .returned (.string ⟨#[]⟩) ∧ Below w.heap.size w w' := by
  have HV := hid (fun W => valid0 W)
  unfold k0V at *
  go_enter Tryz.func128, Tryz.ntmps128
  go_wp2_with (go_at_call 162; refine (HV.out _).mono ?_; rintro e w1 ⟨rfl, hb⟩; obtain ⟨hc, hf⟩ := bcellB hb)
  go_ret
  exact ⟨rfl, ((Below.refl _ _).alloc (Nat.le_refl _) _).trans (hb.mono (by simp))⟩
def MsR (_ : World) (cs : List Value) (x : MS) : Prop := cs = encM x
theorem msR_mono : Mono MsR := fun _ _ _ _ _ h => h
theorem OwnM.sl {B : Nat} {w : World} {v : Value} {xs : List MS} (h : OwnM B w v xs) : Sl MsR 4 w v xs := sl_of_own encM encM_len h
theorem ms_at {w : World} {r : Option Addr} {n c : Nat} {xs : List MS} (h : Sl MsR 4 w (.slice r n c) xs) (i : Nat) (hi : i < xs.length) :
    ∃ b off, r = some ⟨b, off, none⟩ ∧ b < w.heap.size ∧ w.cell? ⟨b, off + i * 4, none⟩ = some (.string ⟨(xs[i]).1.toArray⟩) ∧ w.cell? ⟨b, off + i * 4 + 1, none⟩ = some (.int .i64 (xs[i]).2.1) ∧ w.cell? ⟨b, off + i * 4 + 2, none⟩ = some (.int .i64 (xs[i]).2.2.1) ∧ w.cell? ⟨b, off + i * 4 + 3, none⟩ = some (.string ⟨(xs[i]).2.2.2.toArray⟩) := by
  obtain ⟨r', c', e, h1, h2, he⟩ := h
  simp at e
  obtain ⟨rfl, rfl, rfl⟩ := e
  obtain ⟨b, off, cs, hr, hs, hc, hv⟩ := he i hi
  unfold MsR at hv
  subst hv
  have g0 := hc 0 _ rfl
  exact ⟨b, off, hr, World.block_lt_of_cell? w _ g0, g0, hc 1 _ rfl, hc 2 _ rfl, hc 3 _ rfl⟩
/-- Steps without keys, with right names. -/
def Bare (xs : List MS) : Prop := xs.length ≤ 16 ∧ ∀ x ∈ xs, idB x.1 = true ∧ x.2 = (0, 0, [])
theorem id_len {l : List UInt8} (h : idB l = true) : l.length ≤ 64 := by
  unfold idB at h
  simp only [Bool.and_eq_true, decide_eq_true_eq] at h
  exact h.1.1.2
theorem id_yes {l : List UInt8} (h : idB l = true) (w : World) : Calls Tryz.prog 156 #[.string ⟨l.toArray⟩] w fun e w' => e = .returned (.bool true) ∧ w = w' := by
  have h2 := pident_any ⟨l.toArray⟩ w (by rw [arr_size]; have := id_len h; omega)
  rw [show idB (⟨l.toArray⟩ : ByteArray).data.toList = true from h] at h2
  exact h2
theorem kd_yes {l : List UInt8} (h : kdB l = true) (w : World) : Calls Tryz.prog 125 #[.string ⟨l.toArray⟩] w fun e w' => e = .returned (.bool true) ∧ w = w' := by
  have h1 : (idB l && !rsv l) = true := h
  have h2 := pkind_any ⟨l.toArray⟩ w (by rw [arr_size]; rw [Bool.and_eq_true] at h1; have := id_len h1.1; omega)
  rw [show (idB (⟨l.toArray⟩ : ByteArray).data.toList && !rsv (⟨l.toArray⟩ : ByteArray).data.toList) = true from h1] at h2
  exact h2
set_option maxHeartbeats 4000000 in
theorem check0 (r : Option Addr) (c : Nat) (xs : List MS) (d : Bool) (ty nm : List UInt8) (w : World) (h : Sl MsR 4 w (.slice r xs.length c) xs) (hx : Bare xs) (hty : kdB ty = true) (hnm : idB nm = true) :
    Calls Tryz.prog 126 #[aV (.slice r xs.length c) d ty nm (0, 0, [])] w fun e w' => e = .returned (.int .i64 0) ∧ Below w.heap.size w w' := by
  obtain ⟨_, hl, hm⟩ := sl_len h
  have h16 := hx.1
  have HE := hid (fun (W : World) (hW : Below w.heap.size w W) => ms_at (h.below msR_mono hW))
  have HX := hid hx.2
  have HV := hid (fun W => valid0 W)
  have HK := hid (fun W => kd_yes hty W)
  have HN := hid (fun W => id_yes hnm W)
  have HB0 := hid (show Below w.heap.size w (w.alloc (.cells #[.slice r xs.length c, .bool d, .string ⟨ty.toArray⟩, .string ⟨nm.toArray⟩, .int .i64 0, .int .i64 0, .string ⟨#[]⟩] 60)) from (Below.refl _ _).alloc (Nat.le_refl _) _)
  clear h hx hty hnm
  unfold aV
  unfold k0V at HV
  go_enter Tryz.func126, Tryz.ntmps126
  go_wp2
  have hz : (w.alloc (.cells #[.slice r xs.length c, .bool d, .string ⟨ty.toArray⟩, .string ⟨nm.toArray⟩, .int .i64 0, .int .i64 0, .string ⟨#[]⟩] 60)).heap.size = w.heap.size + 1 := by simp
  obtain ⟨z0, z1, z2, z3, z4, z5, z6, _⟩ := ao_cells (v := .slice r xs.length c) (d := d) (ty := ty) (nm := nm) (k := (0, 0, [])) (ko_new w (.cells #[.slice r xs.length c, .bool d, .string ⟨ty.toArray⟩, .string ⟨nm.toArray⟩, .int .i64 0, .int .i64 0, .string ⟨#[]⟩] 60))
  have HZ := hid (And.intro z2 (And.intro z3 (And.intro z4 (And.intro z5 z6))))
  clear z0 z1 z2 z3 z4 z5 z6
  generalize w.alloc (.cells #[.slice r xs.length c, .bool d, .string ⟨ty.toArray⟩, .string ⟨nm.toArray⟩, .int .i64 0, .int .i64 0, .string ⟨#[]⟩] 60) = W0 at *
  have HS := hid hz
  clear hz
  go_loopw [12] (fun t wr => ∃ k : Nat, k ≤ xs.length ∧ t = .int .i64 k ∧ Hid (Below W0.heap.size W0 wr)) (fun t _ => xs.length - (RowKit.intOf t).toNat)
  case atStart => exact ⟨0, Nat.zero_le _, rfl, hid (Below.refl _ _)⟩
  case round =>
    obtain ⟨k, hk, rfl, HW⟩ := hrel
    by_cases hlt : k < xs.length
    · obtain ⟨b, off, rfl, hb, g0, g1, g2, g3⟩ := HE.out wr (HB0.out.trans (HW.out.mono (by rw [HS.out]; omega))) k hlt
      obtain ⟨j1, j2⟩ := HX.out xs[k] (List.getElem_mem hlt)
      rw [j2] at g1 g2 g3
      have HI := hid (fun W => id_yes j1 W)
      clear j1 j2
      generalize xs[k].1 = s at *
      go_wp2_with (first
        | (go_at_call 156; refine (HI.out _).mono ?_; rintro e w3 ⟨rfl, rfl⟩)
        | (go_at_call 162; refine (HV.out _).mono ?_; rintro e w4 ⟨rfl, hb4⟩; have HB4 := hid hb4; clear hb4))
      go_roundw
      case rel => exact ⟨k + 1, by omega, by go_num, hid (HW.out.trans ((((Below.refl _ _).alloc (Nat.le_refl _) _).trans (HB4.out.mono (by simp))).mono HW.out.size))⟩
      case measure => simp [RowKit.intOf]; omega
    · obtain ⟨z2, z3, z4, z5, z6⟩ := HZ.out
      have q2 := bget HW.out z2
      have q3 := bget HW.out z3
      have q4 := bget HW.out z4
      have q5 := bget HW.out z5
      have q6 := bget HW.out z6
      clear z2 z3 z4 z5 z6
      go_wp2_with (first
        | (go_at_call 125; refine (HK.out _).mono ?_; rintro e w3 ⟨rfl, rfl⟩)
        | (go_at_call 156; refine (HN.out _).mono ?_; rintro e w3 ⟨rfl, rfl⟩)
        | (go_at_call 162; refine (HV.out _).mono ?_; rintro e w4 ⟨rfl, hb4⟩; have HB4 := hid hb4; clear hb4))
      go_ret
      exact ⟨rfl, (HB0.out.trans (HW.out.mono (by rw [HS.out]; omega))).trans (HB4.out.mono (by have := HW.out.size; have := HS.out; omega))⟩
end Go.Proofs.YtpnogmicfomofaaGreatDoor.Adr
