import Derived.Test.YtpnogmicfomofaaGreatDoorEj
import Derived.Test.YtpnogmicfomofaaGreatDoorEg
/-
  Addresses: the program's Static. Conditions: those ahead of each theorem.
-/
namespace Go.Proofs.YtpnogmicfomofaaGreatDoor.Adr
open Go.RowKit Go.Sort Go.Lib Go.Maps
open Go.Lib (hid)
set_option linter.unusedVariables false
set_option linter.unusedSimpArgs false

theorem mods_id : ∀ (n : Nat) (l : List UInt8) (xs : List MS) (o : Option (List UInt8)), modsR n l = some (xs, o) → ∀ x ∈ xs, idB x.1 = true
  | 0, l, xs, o, h => by cases h
  | n + 1, l, xs, o, h => by
    unfold modsR at h
    by_cases h1 : Lib.hasPrefix l MODP = false
    · rw [if_pos h1] at h; cases h; simp
    rw [if_neg h1] at h
    by_cases h2 : (stR (l.drop 7)).2.2 = false
    · rw [if_pos h2] at h; cases h
    rw [if_neg h2] at h
    have hi : idB (stR (l.drop 7)).1.1 = true := by
      cases hx : (stR (l.drop 7)).2.2 with
      | false => exact absurd hx h2
      | true =>
        unfold stR at hx ⊢
        simp only [Bool.and_eq_true] at hx
        exact hx.2
    by_cases h3 : (stR (l.drop 7)).2.1 = []
    · rw [if_pos h3] at h
      cases h
      intro x hx
      rw [List.mem_singleton] at hx
      rw [hx]; exact hi
    rw [if_neg h3] at h
    by_cases h4 : ((stR (l.drop 7)).2.1.getD 0 0).toNat ≠ 46
    · rw [if_pos h4] at h; cases h
    rw [if_neg h4] at h
    cases hm : modsR n (stR (l.drop 7)).2.1.tail with
    | none => rw [hm] at h; cases h
    | some y =>
      obtain ⟨ys, o2⟩ := y
      rw [hm] at h
      cases h
      intro x hx
      rcases List.mem_cons.1 hx with rfl | hx
      · exact hi
      · exact mods_id n _ ys _ hm x hx
theorem tl_id {l : List UInt8} {d : Bool} {ty nm : List UInt8} {k : KeyT} (h : tlR l = some (d, ty, nm, k)) : idB nm = true := by
  unfold tlR at h
  by_cases h1 : idB (wdL (Lib.trimPrefix l DATP)) = false ∨ rsv (wdL (Lib.trimPrefix l DATP)) = true ∨ ((wdD (Lib.trimPrefix l DATP)).getD 0 0).toNat ≠ 46
  · rw [if_pos h1] at h; cases h
  rw [if_neg h1] at h
  by_cases h2 : idB (wdL (wdD (Lib.trimPrefix l DATP)).tail) = false ∨ (keyR (wdD (wdD (Lib.trimPrefix l DATP)).tail)).2.2 = false ∨ (keyR (wdD (wdD (Lib.trimPrefix l DATP)).tail)).2.1 ≠ []
  · rw [if_pos h2] at h; cases h
  rw [if_neg h2] at h
  cases h
  cases hx : idB (wdL (wdD (Lib.trimPrefix l DATP)).tail) with
  | true => rfl
  | false => exact absurd (Or.inl hx) h2
/-- An address that is right. -/
structure Addr0 (l : List UInt8) (xs : List MS) (d : Bool) (ty nm : List UInt8) (k : KeyT) : Prop where
  pr : prR l = some (xs, some (d, ty, nm, k))
  len : xs.length ≤ 16
  ids : ∀ x ∈ xs, idB x.1 = true
  nm : idB nm = true
  ty : kdB ty = true
theorem addr_of {l : List UInt8} (h : prE l = 0) : ∃ xs d ty nm k, Addr0 l xs d ty nm k := by
  have h2 := h
  unfold prE at h
  cases hp : prR l with
  | none => rw [hp] at h; cases h
  | some x =>
    obtain ⟨xs, o⟩ := x
    rw [hp] at h
    cases o with
    | none => cases h
    | some t =>
      obtain ⟨d, ty, nm, k⟩ := t
      simp only at h
      have hl : xs.length ≤ 16 := by
        by_cases hx : 16 < xs.length
        · rw [if_pos hx] at h; cases h
        · omega
      refine ⟨xs, d, ty, nm, k, hp, hl, ?_, ?_, (par_some hp).2.2.2.1⟩
      · unfold prR at hp
        cases hm : modsR (l.length + 1) l with
        | none => rw [hm] at hp; cases hp
        | some y =>
          obtain ⟨ys, o⟩ := y
          rw [hm] at hp
          cases o with
          | none => cases hp
          | some r =>
            simp only at hp
            cases ht : tlR r with
            | none => rw [ht] at hp; cases hp
            | some t =>
              rw [ht] at hp
              cases hp
              exact mods_id _ _ _ _ hm
      · unfold prR at hp
        cases hm : modsR (l.length + 1) l with
        | none => rw [hm] at hp; cases hp
        | some y =>
          obtain ⟨ys, o⟩ := y
          rw [hm] at hp
          cases o with
          | none => cases hp
          | some r =>
            simp only at hp
            cases ht : tlR r with
            | none => rw [ht] at hp; cases hp
            | some t =>
              rw [ht] at hp
              cases hp
              exact tl_id ht
/-- The text of an address without its keys; empty where it is not right. -/
def stcB (l : List UInt8) : List UInt8 := if prE l = 0 then (match prR l with | some (xs, some (d, ty, nm, _)) => fmtB (xs.map barM) d ty nm | _ => []) else []
theorem stcB_ok {l : List UInt8} {xs : List MS} {d : Bool} {ty nm : List UInt8} {k : KeyT} (h : Addr0 l xs d ty nm k) (h0 : prE l = 0) : stcB l = fmtB (xs.map barM) d ty nm := by unfold stcB; rw [if_pos h0, h.pr]
theorem Addr0.bare {l : List UInt8} {xs : List MS} {d : Bool} {ty nm : List UInt8} {k : KeyT} (h : Addr0 l xs d ty nm k) : Bare (xs.map barM) := by
  refine ⟨by rw [List.length_map]; exact h.len, fun x hx => ?_⟩
  obtain ⟨y, hy, rfl⟩ := List.mem_map.1 hx
  exact ⟨h.ids y hy, rfl⟩
def PaOk (w : World) (xs : List MS) (d : Bool) (ty nm : List UInt8) (k : KeyT) (e : Ending) (w' : World) : Prop := ∃ v, e = .returned (.tuple #[aV v d ty nm k, .int .i64 0]) ∧ OwnM (w.heap.size + 3) w' v xs ∧ Below w.heap.size w w'
theorem parse_ok (s : ByteArray) (w : World) (hT : WT w) (hs : s.size ≤ 1000000) {xs : List MS} {d : Bool} {ty nm : List UInt8} {k : KeyT} (h : Addr0 s.data.toList xs d ty nm k) (h0 : prE s.data.toList = 0) : Calls Tryz.prog 85 #[.string s] w (PaOk w xs d ty nm k) := by
  refine (parse_any s w hT hs).mono fun e w' hP => ?_
  unfold ParR at hP
  rw [← size_list] at hP
  obtain ⟨_, p1, p2, _, p3⟩ := par_some h.pr
  rw [p3, h0, if_pos rfl, p1, p2] at hP
  obtain ⟨⟨v, h1, h2⟩, h3⟩ := hP
  exact ⟨v, h1, h2, h3⟩
theorem parse_no (s : ByteArray) (w : World) (hT : WT w) (hs : s.size ≤ 1000000) (h0 : prE s.data.toList ≠ 0) : Calls Tryz.prog 85 #[.string s] w fun e w' => e = .returned (.tuple #[ad0, .int .i64 (prE s.data.toList)]) ∧ Below w.heap.size w w' := by
  refine (parse_any s w hT hs).mono fun e w' hP => ?_
  unfold ParR at hP
  rw [← size_list, par_eq, if_neg h0] at hP
  exact hP
set_option maxHeartbeats 4000000 in
theorem pstatic_any (s : ByteArray) (w : World) (hT : WT w) (hs : s.size ≤ 1000000) : Calls Tryz.prog 57 #[.string s] w fun e w' => e = .returned (.tuple #[.string ⟨(stcB s.data.toList).toArray⟩, .int .i64 (prE s.data.toList)]) ∧ Below w.heap.size w w' := by
  by_cases h0 : prE s.data.toList = 0
  · obtain ⟨xs, d, ty, nm, k, hA⟩ := addr_of h0
    have HC := hid (parse_ok s w hT hs hA h0)
    have hB := hA.bare
    rw [stcB_ok hA h0, h0]
    have HST := hid (fun (B : Nat) (v : Value) (W : World) (h : OwnM B W v xs) => show Calls Tryz.prog 87 #[aV v d ty nm k] W (fun e w' => ∃ v', e = .returned (aV v' d ty nm (0, 0, [])) ∧ OwnM W.heap.size w' v' (xs.map barM) ∧ Below W.heap.size W w') from static_any B v xs d ty nm k W h (by have := hA.len; omega))
    have HF := hid (fun (r : Option Addr) (c : Nat) (W : World) (h : Sl MsR 4 W (.slice r (xs.map barM).length c) (xs.map barM)) => format0 r c (xs.map barM) d ty nm W h hB hA.ty hA.nm)
    clear hT hs hA hB h0
    generalize xs.map barM = ys at *
    go_enter Tryz.func57, Tryz.ntmps57
    unfold aV at *
    go_wp2_with (first
      | (go_at_call 85
         refine HC.out.mono ?_
         rintro e w1 ⟨v1, rfl, ho1, hb1⟩
         obtain ⟨r1, c1, rfl, _, _⟩ := own_form ho1
         have HO1 := hid ho1
         have HB1 := hid hb1
         clear ho1 hb1
         unfold aV)
      | (go_at_call 87
         refine (HST.out (w.heap.size + 3) _ _ (by exact kept_off HO1.out (grown_below ((Below.refl _ _).alloc (Nat.le_refl _) _)) (fun _ _ e => by cases e))).mono ?_
         rintro e w2 ⟨v2, rfl, ho2, hb2⟩
         obtain ⟨r2, c2, rfl, _, _⟩ := own_form ho2
         have HO2 := hid (OwnM.sl ho2)
         have HB2 := hid hb2
         clear ho2 hb2)
      | (go_at_call 86
         refine (HF.out _ _ _ HO2.out).mono ?_
         rintro e w3 ⟨rfl, hb3⟩
         have HB3 := hid hb3
         clear hb3))
    go_ret2
    have h12 := HB1.out.trans ((((Below.refl _ _).alloc (Nat.le_refl _) _).trans (HB2.out.mono (by simp))).mono HB1.out.size)
    exact ⟨rfl, h12.trans (HB3.out.mono h12.size)⟩
  · have HC := hid (parse_no s w hT hs h0)
    rw [show stcB s.data.toList = [] by unfold stcB; rw [if_neg h0]]
    have hn : (prE s.data.toList != 0) = true := by simp [h0]
    clear h0 hT hs
    generalize prE s.data.toList = E at *
    unfold ad0 at HC
    go_enter Tryz.func57, Tryz.ntmps57
    go_wp2_with (go_at_call 85; refine HC.out.mono ?_; rintro e w1 ⟨rfl, hb1⟩; have HB1 := hid hb1; clear hb1)
    go_ret2
    exact ⟨rfl, HB1.out.trans (((Below.refl _ _).alloc (Nat.le_refl _) _).mono HB1.out.size)⟩
end Go.Proofs.YtpnogmicfomofaaGreatDoor.Adr
