/-
  Contracts of fitsOrder and OrderOf of the reference. Conditions: those ahead of each theorem.
-/
import Derived.Test.YtdmcceekaopghaaRef
import Derived.Test.YtdmcceekaopghaaOrd2
namespace Go.Proofs.Ytdmcceekaopghaa
open Go.RowKit Go.Sort

def e0 : Ev := ⟨0, 0, 0, ByteArray.empty, ByteArray.empty, 0⟩
def fits (ss : List St) (l : List Ev) (i : Nat) : Bool :=
  let x := l.getD i e0
  if x.step < 0 ∨ (ss.length : Int) ≤ x.step ∨ x.op ≠ (ss.getD x.step.toNat s0).op then false
  else if ends x.kind then lst x.step 0 (l.take i) == 1
  else if lst x.step 0 (l.take i) ≠ 0 then false
  else if x.kind = 5 then true
  else (ss.getD x.step.toNat s0).needs.all fun n => lst n 0 (l.take i) == 3

theorem st_cells {w : World} {v : Value} {l : List St} (h : Sl StR 3 w v l) {r : Option Addr} {n cap : Nat} (hv : v = .slice r n cap) :
    n = l.length ∧ n ≤ cap ∧ cap ≤ 9223372036854775807 ∧ ∀ i (hi : i < l.length), ∃ b off vN, r = some ⟨b, off, none⟩ ∧ b < w.heap.size ∧ w.cell? ⟨b, off + i * 3, none⟩ = some (.int .i64 (l[i]).change) ∧ w.cell? ⟨b, off + i * 3 + 1, none⟩ = some (.int .i64 (l[i]).op) ∧
      w.cell? ⟨b, off + i * 3 + 2, none⟩ = some vN ∧ Sl IntR 1 w vN (l[i]).needs := by
  obtain ⟨r', cap', rfl, hl, hm, he⟩ := h
  simp at hv
  obtain ⟨rfl, rfl, rfl⟩ := hv
  unfold maxLen at hm
  refine ⟨rfl, hl, by omega, fun i hi => ?_⟩
  obtain ⟨b, off, cs, hr, _, hc, vN, hx, hN⟩ := he i hi
  subst hx
  have g0 := hc 0 _ rfl
  simp only [Nat.add_zero] at g0
  exact ⟨b, off, vN, hr, World.block_lt_of_cell? w _ g0, g0, hc 1 _ rfl, hc 2 _ rfl, hN⟩

set_option maxHeartbeats 1000000 in
theorem fits_any (ss : List St) (l : List Ev) (i : Nat) (vS vL : Value) (w : World) (hS : Sl StR 3 w vS ss) (hL : Sl EvR 6 w vL l) (hi : i < l.length) :
    Calls Try.prog 42 #[vS, vL, .int .i64 i] w fun r w' => r = .returned (.bool (fits ss l i)) ∧ Below w.heap.size w w' := by
  have hS0 := hS
  have hL0 := hL
  obtain ⟨rS, capS, rfl, _⟩ := hS
  obtain ⟨rL, capL, rfl, _⟩ := hL
  obtain ⟨_, hlL, hmL, hE⟩ := ev_cells hL0 rfl
  obtain ⟨_, hlS, hmS, hSe⟩ := st_cells hS0 rfl
  obtain ⟨bL, offL, rfl, hbL, g0, g1, g2, g3, g4, g5⟩ := hE i hi
  have HX := Lib.hid (show fits ss l i = (if (l[i]).step < 0 ∨ (ss.length : Int) ≤ (l[i]).step ∨ (l[i]).op ≠ (ss.getD (l[i]).step.toNat s0).op then false
  else if ends (l[i]).kind then lst (l[i]).step 0 (l.take i) == 1
  else if lst (l[i]).step 0 (l.take i) ≠ 0 then false
  else if (l[i]).kind = 5 then true
  else (ss.getD (l[i]).step.toNat s0).needs.all fun n => lst n 0 (l.take i) == 3) by
    unfold fits; rw [List.getD_eq_getElem?_getD, List.getElem?_eq_getElem hi]; rfl)
  clear hE
  generalize l[i] = e at *
  obtain ⟨kind, st, op, ad, id, er⟩ := e
  simp only at g0 g1 g2 g3 g4 g5 HX
  have HB := Lib.hid ((Below.refl w.heap.size w).alloc (Nat.le_refl _) (.cells #[.int .i64 kind, .int .i64 st, .int .i64 op, .string ad, .string id, .int .i64 er] 34))
  have hcg := cells_regrown (w.alloc (.cells #[.int .i64 kind, .int .i64 st, .int .i64 op, .string ad, .string id, .int .i64 er] 34))
  go_enter Try.func42, Try.ntmps42
  go_wp2_with fail
  by_cases c1 : st < 0
  · have HX2 := Lib.hid (show fits ss l i = false by rw [HX.out, if_pos (.inl c1)])
    refine wp_region_quiet_below (by kernel_rfl) (by kernel_rfl) ?_
    repeat (go_big_quiet_step (fail))
    refine wpQuiet_nil ?_
    intro _ hw'
    obtain ⟨⟨dq, osq⟩, hw''⟩ := hw'
    subst hw''
    go_wp2
    go_ret
    exact ⟨ret_bool HX2.out, HB.out.trans ((below_regrown _ _ _).mono (by simp))⟩
  obtain ⟨K, rfl⟩ : ∃ K : Nat, st = K := ⟨st.toNat, by omega⟩
  by_cases c2 : (ss.length : Int) ≤ K
  · have HX2 := Lib.hid (show fits ss l i = false by rw [HX.out, if_pos (.inr (.inl c2))])
    refine wp_region_quiet_below (by kernel_rfl) (by kernel_rfl) ?_
    repeat (go_big_quiet_step (fail))
    refine wpQuiet_nil ?_
    intro _ hw'
    obtain ⟨⟨dq, osq⟩, hw''⟩ := hw'
    subst hw''
    go_wp2
    go_ret
    exact ⟨ret_bool HX2.out, HB.out.trans ((below_regrown _ _ _).mono (by simp))⟩
  have hK : K < ss.length := by omega
  obtain ⟨bS, offS, vN, rfl, hbS, k0, k1, k2, hN⟩ := hSe K hK
  rw [Int.toNat_natCast, List.getD_eq_getElem?_getD, List.getElem?_eq_getElem hK, Option.getD_some] at HX
  by_cases c3 : op = (ss[K]).op
  case neg =>
    have HX2 := Lib.hid (show fits ss l i = false by rw [HX.out, if_pos (.inr (.inr c3))])
    have e3 : (op == (ss[K]).op) = false := by simpa using c3
    have e4 : (op != (ss[K]).op) = true := by simpa using c3
    clear c3
    refine wp_region_quiet_below (by kernel_rfl) (by kernel_rfl) ?_
    repeat (go_big_quiet_step (fail))
    refine wpQuiet_nil ?_
    intro _ hw'
    obtain ⟨⟨dq, osq⟩, hw''⟩ := hw'
    subst hw''
    go_wp2
    go_ret
    exact ⟨ret_bool HX2.out, HB.out.trans ((below_regrown _ _ _).mono (by simp))⟩
  have HX1 := Lib.hid (show fits ss l i = (if ends kind then lst K 0 (l.take i) == 1
  else if lst K 0 (l.take i) ≠ 0 then false
  else if kind = 5 then true
  else (ss[K]).needs.all fun n => lst n 0 (l.take i) == 3) by rw [HX.out, if_neg (by rintro (h | h | h); exact c1 h; exact c2 h; exact h c3)])
  have e3 : (op == (ss[K]).op) = true := by simpa using c3
  have e4 : (op != (ss[K]).op) = false := by simpa using c3
  clear c3 HX hSe
  generalize ss[K] = s at *
  obtain ⟨sc, so, needs⟩ := s
  simp only at k0 k1 hN HX1 e3 e4
  refine wp_region_quiet_below (by kernel_rfl) (by kernel_rfl) ?_
  repeat (go_big_quiet_step (fail))
  refine wpQuiet_nil ?_
  intro _ hw'
  obtain ⟨⟨dq, osq⟩, hw''⟩ := hw'
  subst hw''
  have hB2 := below_regrown (w.alloc (.cells #[.int .i64 kind, .int .i64 K, .int .i64 op, .string ad, .string id, .int .i64 er] 34)) dq osq
  have f0 : (grow (redrawn (w.alloc (.cells #[.int .i64 kind, .int .i64 K, .int .i64 op, .string ad, .string id, .int .i64 er] 34)) dq) osq).cell? ⟨w.heap.size, 0, none⟩ = some (.int .i64 kind) := bget hB2 (by simp)
  have f1 : (grow (redrawn (w.alloc (.cells #[.int .i64 kind, .int .i64 K, .int .i64 op, .string ad, .string id, .int .i64 er] 34)) dq) osq).cell? ⟨w.heap.size, 1, none⟩ = some (.int .i64 K) := bget hB2 (by simp)
  have HBW := Lib.hid (HB.out.trans (hB2.mono (by simp)))
  clear hB2 hcg HB
  generalize grow (redrawn (w.alloc (.cells #[.int .i64 kind, .int .i64 K, .int .i64 op, .string ad, .string id, .int .i64 er] 34)) dq) osq = W2 at *
  have hL2 := Lib.hid (hL0.below evR_mono HBW.out)
  have hN2 := hN.below intR_mono HBW.out
  have k0 := bget HBW.out k0
  have k1 := bget HBW.out k1
  have k2 := bget HBW.out k2
  have hbS := World.block_lt_of_cell? _ _ k1
  simp at hbS
  go_wp2_with fail
  refine (last_any l K i _ _ hL2.out (by omega)).mono ?_
  rintro r w' ⟨rfl, rfl⟩
  go_wp2_with fail
  refine (ends_any _ _).mono ?_
  rintro r w' ⟨rfl, rfl⟩
  generalize hla : lst K 0 (l.take i) = la at *
  cases hen : ends kind
  case true =>
    have HX2 := Lib.hid (show fits ss l i = (la == 1) by rw [HX1.out, hen]; rfl)
    clear hen hla HX1
    go_wp2
    go_ret
    exact ⟨ret_bool HX2.out, HBW.out⟩
  by_cases cl : la = 0
  case neg =>
    have HX2 := Lib.hid (show fits ss l i = false by rw [HX1.out, hen]; simp [cl])
    have e1 : (la == 0) = false := by simpa using cl
    have e2 : (la != 0) = true := by simpa using cl
    clear hen hla HX1 cl
    go_wp2
    go_ret
    exact ⟨ret_bool HX2.out, HBW.out⟩
  subst cl
  by_cases c5 : kind = 5
  · subst c5
    have HX2 := Lib.hid (show fits ss l i = true by rw [HX1.out, hen]; simp)
    clear hen hla HX1
    go_wp2
    go_ret
    exact ⟨ret_bool HX2.out, HBW.out⟩
  have HX2 := Lib.hid (show fits ss l i = needs.all fun n => lst n 0 (l.take i) == 3 by rw [HX1.out, hen]; simp [c5])
  have e5 : (kind == 5) = false := by simpa using c5
  clear hen hla HX1 c5
  have hN3 := hN2
  obtain ⟨rN, capN, rfl, hlN, hmN, _⟩ := hN3
  obtain ⟨_, hNe⟩ := sl_get_int hN2 rfl
  unfold maxLen at hmN
  clear hN2 hN
  go_wp2
  go_loop [10] (fun x => ∃ j : Nat, j ≤ needs.length ∧ x = .int .i64 j ∧ ((needs.take j).all fun n => lst n 0 (l.take i) == 3) = true) (fun x => needs.length - (intOf x).toNat)
  case atStart => exact ⟨0, by omega, rfl, rfl⟩
  case round =>
    obtain ⟨j, hj, rfl, hall⟩ := hrel
    have HA := Lib.hid hall
    clear hall
    by_cases hlt : j < needs.length
    · obtain ⟨bn, on, rfl, kn, hbn, _, _⟩ := hNe j hlt
      have HT := Lib.hid (show (needs.take (j + 1)).all (fun n => lst n 0 (l.take i) == 3) = ((needs.take j).all (fun n => lst n 0 (l.take i) == 3) && (lst (needs[j]) 0 (l.take i) == 3)) by
        rw [List.take_succ_eq_append_getElem hlt, List.all_append]; simp)
      have HF := Lib.hid (show (lst (needs[j]) 0 (l.take i) == 3) = false → (needs.all fun n => lst n 0 (l.take i) == 3) = false from fun h => by
        rw [List.all_eq_false]; exact ⟨_, List.getElem_mem hlt, by simpa using h⟩)
      clear hNe
      generalize needs[j] = q at *
      go_wp2_with fail
      refine (last_any l q i _ _ hL2.out (by omega)).mono ?_
      rintro r w' ⟨rfl, rfl⟩
      generalize lst q 0 (l.take i) = lq at *
      by_cases c : lq = 3
      · subst c
        have HT2 := Lib.hid (HT.out.trans (by rw [HA.out]))
        clear HT HF
        go_wp2
        go_round
        case rel => exact ⟨j + 1, by omega, by go_num, HT2.out⟩
        case measure => simp [intOf]; omega
      · have e1 : (lq != 3) = true := by simpa using c
        have e2 : (lq == 3) = false := by simpa using c
        have HF2 := Lib.hid (HF.out e2)
        clear c HT HF
        go_wp2
        go_ret
        exact ⟨ret_bool (HX2.out.trans HF2.out), HBW.out⟩
    · have hje : j = needs.length := by omega
      have HF2 := Lib.hid (show (needs.all fun n => lst n 0 (l.take i) == 3) = true by have := HA.out; rwa [hje, List.take_length] at this)
      clear hje
      go_wp2
      go_ret
      exact ⟨ret_bool (HX2.out.trans HF2.out), HBW.out⟩
end Go.Proofs.Ytdmcceekaopghaa
