/-
  Contracts of few and awake of the statements of layer 52: awake returns true. Conditions: those ahead of each theorem.
-/
import Derived.Test.YtdmcceekaopghaaSteps
import Derived.Test.YtdmcceekaopghaaOwn1
import Derived.Test.YtdmcceekaopghaaPl52
namespace Go.Proofs.Ytdmcceekaopghaa
open Go.RowKit Go.Sort

def fewB (ss : List St) (l : List Ev) : Bool := ((ss.take 40).all fun s => decide (s.needs.length ≤ 40)) && (decide (ss.length ≤ 40) && decide (l.length ≤ 120))
theorem few_any (ss : List St) (l : List Ev) (vS vL : Value) (w : World) (hS : Sl StR 3 w vS ss) (hL : Sl EvR 6 w vL l) :
    Calls Try.prog 10 #[vS, vL] w fun r w' => r = .returned (.bool (fewB ss l)) ∧ w = w' := by
  obtain ⟨rS, capS, rfl, _⟩ := id hS
  obtain ⟨rL, capL, rfl, _⟩ := id hL
  obtain ⟨_, hlL, hmL, hE⟩ := ev_cells hL rfl
  obtain ⟨_, hlS, hmS, hSe⟩ := st_cells hS rfl
  clear hE hS hL
  go_enter Try.func10, Try.ntmps10
  go_wp2
  go_loop [5] (fun i => ∃ k : Nat, k ≤ ss.length ∧ k ≤ 40 ∧ i = .int .i64 k ∧ ((ss.take k).all fun s => decide (s.needs.length ≤ 40)) = true) (fun i => ss.length - (intOf i).toNat)
  case atStart => exact ⟨0, by omega, by omega, rfl, rfl⟩
  case round =>
    obtain ⟨k, hk, hk40, rfl, hall⟩ := hrel
    have HA := Lib.hid hall
    clear hall
    by_cases h : k < ss.length ∧ k < 40
    · obtain ⟨h1, h2⟩ := h
      obtain ⟨b, off, vN, rfl, hb, _, _, g2, hN⟩ := hSe k h1
      obtain ⟨rn, cn, rfl, hln, hmn, hxx⟩ := hN
      clear hxx
      unfold maxLen at hmn
      by_cases hq : (ss[k]).needs.length ≤ 40
      · have HT := Lib.hid (show ((ss.take (k + 1)).all fun s => decide (s.needs.length ≤ 40)) = true by
          rw [List.take_succ_eq_append_getElem h1, List.all_append, HA.out]; simpa using hq)
        clear hSe
        generalize (ss[k]).needs.length = q at *
        have hq2 : (q : Int) ≤ 40 := by omega
        go_wp2
        go_round
        case rel => exact ⟨k + 1, by omega, by omega, by go_num, HT.out⟩
        case measure => simp [intOf]; omega
      · have HX := Lib.hid (show fewB ss l = false by
          unfold fewB
          rw [Bool.and_eq_false_iff]
          left
          rw [List.all_eq_false]
          exact ⟨ss[k], List.mem_take_iff_getElem.2 ⟨k, by omega, rfl⟩, by simpa using hq⟩)
        clear hSe
        generalize (ss[k]).needs.length = q at *
        have hq2 : (40 : Int) < q := by omega
        go_wp2
        go_ret
        exact ⟨ret_bool HX.out, rfl⟩
    · have HT := Lib.hid (show ((ss.take 40).all fun s => decide (s.needs.length ≤ 40)) = true by
        have h := HA.out
        by_cases hk2 : k = 40
        · rwa [hk2] at h
        · have hks : k = ss.length := by omega
          rw [hks, List.take_length] at h
          rw [List.all_eq_true] at h ⊢
          intro s hs
          exact h s (List.mem_of_mem_take hs))
      clear hSe
      by_cases hk2 : k < 40
      · have hs40 : ss.length ≤ 40 := by omega
        have HX := Lib.hid (show fewB ss l = decide ((l.length : Int) ≤ 120) by
          unfold fewB; rw [HT.out]; simp [hs40]; omega)
        have hkn : ¬ k < ss.length := by omega
        go_wp2
        all_goals (go_ret; exact ⟨ret_bool HX.out, rfl⟩)
      · by_cases hs40 : ss.length ≤ 40
        · have HX := Lib.hid (show fewB ss l = decide ((l.length : Int) ≤ 120) by
            unfold fewB; rw [HT.out]; simp [hs40]; omega)
          go_wp2
          all_goals (go_ret; exact ⟨ret_bool HX.out, rfl⟩)
        · have HX := Lib.hid (show fewB ss l = false by
            unfold fewB; rw [HT.out]; simp [hs40])
          have hs41 : 40 < ss.length := by omega
          go_wp2
          all_goals (go_ret; exact ⟨ret_bool HX.out, rfl⟩)
theorem few_of {ss : List St} {l : List Ev} (h : fewB ss l = true) : ss.length ≤ 40 ∧ l.length ≤ 120 := by
  unfold fewB at h
  simp at h
  exact h.2

theorem rorder_any (ss : List St) (l : List Ev) (vS vL : Value) (w : World) (hS : Sl StR 3 w vS ss) (hL : Sl EvR 6 w vL l) :
    Calls Try.prog 13 #[vS, vL] w fun r w' => r = .returned (.int .i64 (ord ss l)) ∧ Below w.heap.size w w' := by
  have key : Calls Try.prog 26 #[vS, vL] w fun r w' => r = .returned (.int .i64 (ord ss l)) ∧ Below w.heap.size w w' := by
    cases h : okNeeds ss
    · rw [show ord ss l = 1 by simp [ord, h]]; exact rorder_needs ss l vS vL w hS hL h
    · rw [show ord ss l = ordRunR ss l by rw [← ord_eq ss l h]; simp [ord, h]]; exact rorder_ok ss l vS vL w hS hL h
  have K := Lib.hid key
  clear key hS hL
  go_enter Try.func13, Try.ntmps13
  go_wp2_with fail
  refine K.out.mono ?_
  rintro r w' ⟨rfl, hb⟩
  go_wp2
  go_ret
  exact ⟨rfl, hb⟩

theorem sl_of_heap {α : Type} (enc : α → List Value) {sz b : Nat} {e : TypeId} {fr : Nat × Nat} (hsz : ∀ x, (enc x).length = sz) {w : World} (xs : List α) {n : Nat} (hn : n = xs.length) (h : w.heap[b]? = some (.cells (xs.flatMap enc).toArray e fr)) (hm : xs.length ≤ maxLen) :
    Sl (fun _ cs (x : α) => cs = enc x) sz w (.slice (some ⟨b, 0, none⟩) n n) xs := by
  subst hn
  refine ⟨some ⟨b, 0, none⟩, xs.length, rfl, Nat.le_refl _, hm, fun i hi => ⟨b, 0, enc xs[i], rfl, hsz _, fun j u hj => ?_, rfl⟩⟩
  have hjs : j < sz := by have := (List.getElem?_eq_some_iff.1 hj).1; rwa [hsz] at this
  have h1 := flat_get enc sz hsz xs i hi j hjs
  unfold World.cell?
  simp only [h, Nat.zero_add]
  simp only [Option.isSome_none, Bool.false_eq_true, if_false]
  rw [List.getElem?_toArray, h1, hj]
theorem ev_len (x : Ev) : (x.cells).length = 6 := rfl
theorem ob_len (x : Ob) : (x.cells).length = 9 := rfl

def bx : ByteArray := ⟨#[120]⟩
def aEv1 : List Ev := [evOf 1 0, evOf 3 0, evOf 1 1, evOf 3 1]
def aEv2 : List Ev := [evOf 1 0, evOf 1 1, evOf 3 0, evOf 3 1]
def aOb : Ob := ⟨bx, ib0, ib0, ⟨0, 0, ib0, ⟨none, 0, 0⟩, ⟨none, 0, 0⟩⟩, 0⟩
theorem aord1 : ord (mkSt [[], [0]]) aEv1 = 0 := by decide
theorem aord2 : ord (mkSt [[], [0]]) aEv2 = 36 := by decide
theorem aun : canon (un [] [aOb] ([] : List ByteArray) 1) = [bx] := by
  have h1 : un [] [aOb] ([] : List ByteArray) 1 = [bx] := by
    simp [un, aOb]
    cases h : hasS [] bx
    · rfl
    · have := hasS_iff.1 h; simp at this
  rw [h1]
  exact asc_eq (canon_asc _) (by simp [Asc]) (fun x => mem_canon)

theorem ns_sl (w : World) : Sl NsR 1 ((w.alloc (.cells #[.int .i64 0] 3)).alloc (.cells #[.slice none 0 0, .slice (some ⟨w.heap.size, 0, none⟩) 1 1] 30)) (.slice (some ⟨w.heap.size + 1, 0, none⟩) 2 2) [[], [0]] := by
  refine ⟨some ⟨w.heap.size + 1, 0, none⟩, 2, rfl, by simp, by unfold maxLen; omega, fun i hi => ?_⟩
  have h : ((w.alloc (.cells #[.int .i64 0] 3)).alloc (.cells #[.slice none 0 0, .slice (some ⟨w.heap.size, 0, none⟩) 1 1] 30)).heap[w.heap.size + 1]? = some (.cells #[.slice none 0 0, .slice (some ⟨w.heap.size, 0, none⟩) 1 1] 30 (0, 0)) := by
    have := heap_alloc_new (w.alloc (.cells #[.int .i64 0] 3)) (.cells #[.slice none 0 0, .slice (some ⟨w.heap.size, 0, none⟩) 1 1] 30)
    simpa using this
  match i, hi with
  | 0, _ =>
    refine ⟨w.heap.size + 1, 0, [.slice none 0 0], rfl, rfl, ?_, ⟨none, 0, 0⟩, rfl, none, 0, rfl, by simp, by simp, fun i hi => absurd hi (by simp)⟩
    intro j u hj
    match j, hj with
    | 0, hj => simp at hj; subst hj; exact (cell_of_row _ _ _ _ _ _ h).trans rfl
    | j + 1, hj => simp at hj
  | 1, _ =>
    refine ⟨w.heap.size + 1, 0, [.slice (some ⟨w.heap.size, 0, none⟩) 1 1], rfl, rfl, ?_, ⟨some ⟨w.heap.size, 0, none⟩, 1, 1⟩, rfl, some ⟨w.heap.size, 0, none⟩, 1, rfl, by simp, by unfold maxLen; simp, ?_⟩
    · intro j u hj
      match j, hj with
      | 0, hj => simp at hj; subst hj; exact (cell_of_row _ _ _ _ _ _ h).trans rfl
      | j + 1, hj => simp at hj
    · intro i hi
      have hi0 : i = 0 := by simpa using hi
      subst hi0
      refine ⟨w.heap.size, 0, [.int .i64 0], rfl, rfl, ?_, rfl, by simp, by simp⟩
      intro j u hj
      match j, hj with
      | 0, hj => simp at hj; subst hj; simp
      | j + 1, hj => simp at hj

set_option maxHeartbeats 1000000 in
theorem awake_any (w : World) : Calls Try.prog 11 #[] w fun r w' => r = .returned (.bool true) ∧ Below w.heap.size w w' := by
  go_enter Try.func11, Try.ntmps11
  go_wp2_with fail
  refine (steps_any [[], [0]] _ _ (ns_sl w) (by decide)).mono ?_
  rintro r w1 ⟨vs, rfl, hS1, hb1⟩
  have HB1 := Lib.hid (((Below.refl w.heap.size w).alloc (Nat.le_refl _) (.cells #[.int .i64 0] 3)).alloc (by simp) (.cells #[.slice none 0 0, .slice (some ⟨w.heap.size, 0, none⟩) 1 1] 30) |>.trans (hb1.mono (by simp; omega)))
  have HS1 := Lib.hid hS1
  have hz1 := HB1.out.size
  clear hS1 hb1
  go_wp2_with fail
  refine (event_any _ _ _).mono ?_
  rintro r w2 ⟨rfl, hb2⟩
  go_wp2_with fail
  refine (event_any _ _ _).mono ?_
  rintro r w3 ⟨rfl, hb3⟩
  go_wp2_with fail
  refine (event_any _ _ _).mono ?_
  rintro r w4 ⟨rfl, hb4⟩
  go_wp2_with fail
  refine (event_any _ _ _).mono ?_
  rintro r w5 ⟨rfl, hb5⟩
  have hb15 : Below w1.heap.size w1 w5 := ((hb2.trans (hb3.mono hb2.size)).trans (hb4.mono (by have := hb2.size; have := hb3.size; omega))).trans (hb5.mono (by have := hb2.size; have := hb3.size; have := hb4.size; omega))
  have HS5 := Lib.hid (HS1.out.below stR_mono hb15)
  have HB5 := Lib.hid (HB1.out.trans (hb15.mono hz1))
  have hz5 := HB5.out.size
  clear hb2 hb3 hb4 hb5 hb15 HS1 HB1 hz1
  have hA0 : ((((((w5.alloc (.cells #[.int .i64 1, .int .i64 0, .int .i64 1, .string ⟨#[]⟩, .string ⟨#[]⟩, .int .i64 0] 34)).alloc (.cells #[.int .i64 3, .int .i64 0, .int .i64 1, .string ⟨#[]⟩, .string ⟨#[]⟩, .int .i64 0] 34)).alloc (.cells #[.int .i64 1, .int .i64 1, .int .i64 1, .string ⟨#[]⟩, .string ⟨#[]⟩, .int .i64 0] 34)).alloc (.cells #[.int .i64 3, .int .i64 1, .int .i64 1, .string ⟨#[]⟩, .string ⟨#[]⟩, .int .i64 0] 34))).alloc (.cells #[.string ⟨#[120]⟩, .string ⟨#[]⟩, .string ⟨#[]⟩, .int .i64 0, .int .i64 0, .string ⟨#[]⟩, .slice none 0 0, .slice none 0 0, .int .i64 0] 57)).heap[w5.heap.size + 1 + 1 + 1 + 1]? = some (.cells (([aOb] : List Ob).flatMap Ob.cells).toArray 57 (0, 0)) := by
    have := heap_alloc_new (((((w5.alloc (.cells #[.int .i64 1, .int .i64 0, .int .i64 1, .string ⟨#[]⟩, .string ⟨#[]⟩, .int .i64 0] 34)).alloc (.cells #[.int .i64 3, .int .i64 0, .int .i64 1, .string ⟨#[]⟩, .string ⟨#[]⟩, .int .i64 0] 34)).alloc (.cells #[.int .i64 1, .int .i64 1, .int .i64 1, .string ⟨#[]⟩, .string ⟨#[]⟩, .int .i64 0] 34)).alloc (.cells #[.int .i64 3, .int .i64 1, .int .i64 1, .string ⟨#[]⟩, .string ⟨#[]⟩, .int .i64 0] 34))) (.cells #[.string ⟨#[120]⟩, .string ⟨#[]⟩, .string ⟨#[]⟩, .int .i64 0, .int .i64 0, .string ⟨#[]⟩, .slice none 0 0, .slice none 0 0, .int .i64 0] 57)
    simpa [aOb, bx, ib0, Ob.cells, Sv.val] using this
  have hLO := Lib.hid (sl_of_heap Ob.cells ob_len [aOb] (n := 1) rfl hA0 (by unfold maxLen; simp))
  have HBA := Lib.hid (show Below w5.heap.size w5 ((((((w5.alloc (.cells #[.int .i64 1, .int .i64 0, .int .i64 1, .string ⟨#[]⟩, .string ⟨#[]⟩, .int .i64 0] 34)).alloc (.cells #[.int .i64 3, .int .i64 0, .int .i64 1, .string ⟨#[]⟩, .string ⟨#[]⟩, .int .i64 0] 34)).alloc (.cells #[.int .i64 1, .int .i64 1, .int .i64 1, .string ⟨#[]⟩, .string ⟨#[]⟩, .int .i64 0] 34)).alloc (.cells #[.int .i64 3, .int .i64 1, .int .i64 1, .string ⟨#[]⟩, .string ⟨#[]⟩, .int .i64 0] 34))).alloc (.cells #[.string ⟨#[120]⟩, .string ⟨#[]⟩, .string ⟨#[]⟩, .int .i64 0, .int .i64 0, .string ⟨#[]⟩, .slice none 0 0, .slice none 0 0, .int .i64 0] 57)) from ((((Below.refl _ _).alloc (Nat.le_refl _) _).alloc (by simp) _).alloc (by simp; omega) _).alloc (by simp; omega) _ |>.alloc (by simp; omega) _)
  have a00 : ((((((w5.alloc (.cells #[.int .i64 1, .int .i64 0, .int .i64 1, .string ⟨#[]⟩, .string ⟨#[]⟩, .int .i64 0] 34)).alloc (.cells #[.int .i64 3, .int .i64 0, .int .i64 1, .string ⟨#[]⟩, .string ⟨#[]⟩, .int .i64 0] 34)).alloc (.cells #[.int .i64 1, .int .i64 1, .int .i64 1, .string ⟨#[]⟩, .string ⟨#[]⟩, .int .i64 0] 34)).alloc (.cells #[.int .i64 3, .int .i64 1, .int .i64 1, .string ⟨#[]⟩, .string ⟨#[]⟩, .int .i64 0] 34))).alloc (.cells #[.string ⟨#[120]⟩, .string ⟨#[]⟩, .string ⟨#[]⟩, .int .i64 0, .int .i64 0, .string ⟨#[]⟩, .slice none 0 0, .slice none 0 0, .int .i64 0] 57)).cell? ⟨w5.heap.size, 0, none⟩ = some (.int .i64 1) := by go_simp
  have a01 : ((((((w5.alloc (.cells #[.int .i64 1, .int .i64 0, .int .i64 1, .string ⟨#[]⟩, .string ⟨#[]⟩, .int .i64 0] 34)).alloc (.cells #[.int .i64 3, .int .i64 0, .int .i64 1, .string ⟨#[]⟩, .string ⟨#[]⟩, .int .i64 0] 34)).alloc (.cells #[.int .i64 1, .int .i64 1, .int .i64 1, .string ⟨#[]⟩, .string ⟨#[]⟩, .int .i64 0] 34)).alloc (.cells #[.int .i64 3, .int .i64 1, .int .i64 1, .string ⟨#[]⟩, .string ⟨#[]⟩, .int .i64 0] 34))).alloc (.cells #[.string ⟨#[120]⟩, .string ⟨#[]⟩, .string ⟨#[]⟩, .int .i64 0, .int .i64 0, .string ⟨#[]⟩, .slice none 0 0, .slice none 0 0, .int .i64 0] 57)).cell? ⟨w5.heap.size, 1, none⟩ = some (.int .i64 0) := by go_simp
  have a02 : ((((((w5.alloc (.cells #[.int .i64 1, .int .i64 0, .int .i64 1, .string ⟨#[]⟩, .string ⟨#[]⟩, .int .i64 0] 34)).alloc (.cells #[.int .i64 3, .int .i64 0, .int .i64 1, .string ⟨#[]⟩, .string ⟨#[]⟩, .int .i64 0] 34)).alloc (.cells #[.int .i64 1, .int .i64 1, .int .i64 1, .string ⟨#[]⟩, .string ⟨#[]⟩, .int .i64 0] 34)).alloc (.cells #[.int .i64 3, .int .i64 1, .int .i64 1, .string ⟨#[]⟩, .string ⟨#[]⟩, .int .i64 0] 34))).alloc (.cells #[.string ⟨#[120]⟩, .string ⟨#[]⟩, .string ⟨#[]⟩, .int .i64 0, .int .i64 0, .string ⟨#[]⟩, .slice none 0 0, .slice none 0 0, .int .i64 0] 57)).cell? ⟨w5.heap.size, 2, none⟩ = some (.int .i64 1) := by go_simp
  have a03 : ((((((w5.alloc (.cells #[.int .i64 1, .int .i64 0, .int .i64 1, .string ⟨#[]⟩, .string ⟨#[]⟩, .int .i64 0] 34)).alloc (.cells #[.int .i64 3, .int .i64 0, .int .i64 1, .string ⟨#[]⟩, .string ⟨#[]⟩, .int .i64 0] 34)).alloc (.cells #[.int .i64 1, .int .i64 1, .int .i64 1, .string ⟨#[]⟩, .string ⟨#[]⟩, .int .i64 0] 34)).alloc (.cells #[.int .i64 3, .int .i64 1, .int .i64 1, .string ⟨#[]⟩, .string ⟨#[]⟩, .int .i64 0] 34))).alloc (.cells #[.string ⟨#[120]⟩, .string ⟨#[]⟩, .string ⟨#[]⟩, .int .i64 0, .int .i64 0, .string ⟨#[]⟩, .slice none 0 0, .slice none 0 0, .int .i64 0] 57)).cell? ⟨w5.heap.size, 3, none⟩ = some (.string ⟨#[]⟩) := by go_simp
  have a04 : ((((((w5.alloc (.cells #[.int .i64 1, .int .i64 0, .int .i64 1, .string ⟨#[]⟩, .string ⟨#[]⟩, .int .i64 0] 34)).alloc (.cells #[.int .i64 3, .int .i64 0, .int .i64 1, .string ⟨#[]⟩, .string ⟨#[]⟩, .int .i64 0] 34)).alloc (.cells #[.int .i64 1, .int .i64 1, .int .i64 1, .string ⟨#[]⟩, .string ⟨#[]⟩, .int .i64 0] 34)).alloc (.cells #[.int .i64 3, .int .i64 1, .int .i64 1, .string ⟨#[]⟩, .string ⟨#[]⟩, .int .i64 0] 34))).alloc (.cells #[.string ⟨#[120]⟩, .string ⟨#[]⟩, .string ⟨#[]⟩, .int .i64 0, .int .i64 0, .string ⟨#[]⟩, .slice none 0 0, .slice none 0 0, .int .i64 0] 57)).cell? ⟨w5.heap.size, 4, none⟩ = some (.string ⟨#[]⟩) := by go_simp
  have a05 : ((((((w5.alloc (.cells #[.int .i64 1, .int .i64 0, .int .i64 1, .string ⟨#[]⟩, .string ⟨#[]⟩, .int .i64 0] 34)).alloc (.cells #[.int .i64 3, .int .i64 0, .int .i64 1, .string ⟨#[]⟩, .string ⟨#[]⟩, .int .i64 0] 34)).alloc (.cells #[.int .i64 1, .int .i64 1, .int .i64 1, .string ⟨#[]⟩, .string ⟨#[]⟩, .int .i64 0] 34)).alloc (.cells #[.int .i64 3, .int .i64 1, .int .i64 1, .string ⟨#[]⟩, .string ⟨#[]⟩, .int .i64 0] 34))).alloc (.cells #[.string ⟨#[120]⟩, .string ⟨#[]⟩, .string ⟨#[]⟩, .int .i64 0, .int .i64 0, .string ⟨#[]⟩, .slice none 0 0, .slice none 0 0, .int .i64 0] 57)).cell? ⟨w5.heap.size, 5, none⟩ = some (.int .i64 0) := by go_simp
  have a10 : ((((((w5.alloc (.cells #[.int .i64 1, .int .i64 0, .int .i64 1, .string ⟨#[]⟩, .string ⟨#[]⟩, .int .i64 0] 34)).alloc (.cells #[.int .i64 3, .int .i64 0, .int .i64 1, .string ⟨#[]⟩, .string ⟨#[]⟩, .int .i64 0] 34)).alloc (.cells #[.int .i64 1, .int .i64 1, .int .i64 1, .string ⟨#[]⟩, .string ⟨#[]⟩, .int .i64 0] 34)).alloc (.cells #[.int .i64 3, .int .i64 1, .int .i64 1, .string ⟨#[]⟩, .string ⟨#[]⟩, .int .i64 0] 34))).alloc (.cells #[.string ⟨#[120]⟩, .string ⟨#[]⟩, .string ⟨#[]⟩, .int .i64 0, .int .i64 0, .string ⟨#[]⟩, .slice none 0 0, .slice none 0 0, .int .i64 0] 57)).cell? ⟨w5.heap.size + 1, 0, none⟩ = some (.int .i64 3) := by go_simp
  have a11 : ((((((w5.alloc (.cells #[.int .i64 1, .int .i64 0, .int .i64 1, .string ⟨#[]⟩, .string ⟨#[]⟩, .int .i64 0] 34)).alloc (.cells #[.int .i64 3, .int .i64 0, .int .i64 1, .string ⟨#[]⟩, .string ⟨#[]⟩, .int .i64 0] 34)).alloc (.cells #[.int .i64 1, .int .i64 1, .int .i64 1, .string ⟨#[]⟩, .string ⟨#[]⟩, .int .i64 0] 34)).alloc (.cells #[.int .i64 3, .int .i64 1, .int .i64 1, .string ⟨#[]⟩, .string ⟨#[]⟩, .int .i64 0] 34))).alloc (.cells #[.string ⟨#[120]⟩, .string ⟨#[]⟩, .string ⟨#[]⟩, .int .i64 0, .int .i64 0, .string ⟨#[]⟩, .slice none 0 0, .slice none 0 0, .int .i64 0] 57)).cell? ⟨w5.heap.size + 1, 1, none⟩ = some (.int .i64 0) := by go_simp
  have a12 : ((((((w5.alloc (.cells #[.int .i64 1, .int .i64 0, .int .i64 1, .string ⟨#[]⟩, .string ⟨#[]⟩, .int .i64 0] 34)).alloc (.cells #[.int .i64 3, .int .i64 0, .int .i64 1, .string ⟨#[]⟩, .string ⟨#[]⟩, .int .i64 0] 34)).alloc (.cells #[.int .i64 1, .int .i64 1, .int .i64 1, .string ⟨#[]⟩, .string ⟨#[]⟩, .int .i64 0] 34)).alloc (.cells #[.int .i64 3, .int .i64 1, .int .i64 1, .string ⟨#[]⟩, .string ⟨#[]⟩, .int .i64 0] 34))).alloc (.cells #[.string ⟨#[120]⟩, .string ⟨#[]⟩, .string ⟨#[]⟩, .int .i64 0, .int .i64 0, .string ⟨#[]⟩, .slice none 0 0, .slice none 0 0, .int .i64 0] 57)).cell? ⟨w5.heap.size + 1, 2, none⟩ = some (.int .i64 1) := by go_simp
  have a13 : ((((((w5.alloc (.cells #[.int .i64 1, .int .i64 0, .int .i64 1, .string ⟨#[]⟩, .string ⟨#[]⟩, .int .i64 0] 34)).alloc (.cells #[.int .i64 3, .int .i64 0, .int .i64 1, .string ⟨#[]⟩, .string ⟨#[]⟩, .int .i64 0] 34)).alloc (.cells #[.int .i64 1, .int .i64 1, .int .i64 1, .string ⟨#[]⟩, .string ⟨#[]⟩, .int .i64 0] 34)).alloc (.cells #[.int .i64 3, .int .i64 1, .int .i64 1, .string ⟨#[]⟩, .string ⟨#[]⟩, .int .i64 0] 34))).alloc (.cells #[.string ⟨#[120]⟩, .string ⟨#[]⟩, .string ⟨#[]⟩, .int .i64 0, .int .i64 0, .string ⟨#[]⟩, .slice none 0 0, .slice none 0 0, .int .i64 0] 57)).cell? ⟨w5.heap.size + 1, 3, none⟩ = some (.string ⟨#[]⟩) := by go_simp
  have a14 : ((((((w5.alloc (.cells #[.int .i64 1, .int .i64 0, .int .i64 1, .string ⟨#[]⟩, .string ⟨#[]⟩, .int .i64 0] 34)).alloc (.cells #[.int .i64 3, .int .i64 0, .int .i64 1, .string ⟨#[]⟩, .string ⟨#[]⟩, .int .i64 0] 34)).alloc (.cells #[.int .i64 1, .int .i64 1, .int .i64 1, .string ⟨#[]⟩, .string ⟨#[]⟩, .int .i64 0] 34)).alloc (.cells #[.int .i64 3, .int .i64 1, .int .i64 1, .string ⟨#[]⟩, .string ⟨#[]⟩, .int .i64 0] 34))).alloc (.cells #[.string ⟨#[120]⟩, .string ⟨#[]⟩, .string ⟨#[]⟩, .int .i64 0, .int .i64 0, .string ⟨#[]⟩, .slice none 0 0, .slice none 0 0, .int .i64 0] 57)).cell? ⟨w5.heap.size + 1, 4, none⟩ = some (.string ⟨#[]⟩) := by go_simp
  have a15 : ((((((w5.alloc (.cells #[.int .i64 1, .int .i64 0, .int .i64 1, .string ⟨#[]⟩, .string ⟨#[]⟩, .int .i64 0] 34)).alloc (.cells #[.int .i64 3, .int .i64 0, .int .i64 1, .string ⟨#[]⟩, .string ⟨#[]⟩, .int .i64 0] 34)).alloc (.cells #[.int .i64 1, .int .i64 1, .int .i64 1, .string ⟨#[]⟩, .string ⟨#[]⟩, .int .i64 0] 34)).alloc (.cells #[.int .i64 3, .int .i64 1, .int .i64 1, .string ⟨#[]⟩, .string ⟨#[]⟩, .int .i64 0] 34))).alloc (.cells #[.string ⟨#[120]⟩, .string ⟨#[]⟩, .string ⟨#[]⟩, .int .i64 0, .int .i64 0, .string ⟨#[]⟩, .slice none 0 0, .slice none 0 0, .int .i64 0] 57)).cell? ⟨w5.heap.size + 1, 5, none⟩ = some (.int .i64 0) := by go_simp
  have a20 : ((((((w5.alloc (.cells #[.int .i64 1, .int .i64 0, .int .i64 1, .string ⟨#[]⟩, .string ⟨#[]⟩, .int .i64 0] 34)).alloc (.cells #[.int .i64 3, .int .i64 0, .int .i64 1, .string ⟨#[]⟩, .string ⟨#[]⟩, .int .i64 0] 34)).alloc (.cells #[.int .i64 1, .int .i64 1, .int .i64 1, .string ⟨#[]⟩, .string ⟨#[]⟩, .int .i64 0] 34)).alloc (.cells #[.int .i64 3, .int .i64 1, .int .i64 1, .string ⟨#[]⟩, .string ⟨#[]⟩, .int .i64 0] 34))).alloc (.cells #[.string ⟨#[120]⟩, .string ⟨#[]⟩, .string ⟨#[]⟩, .int .i64 0, .int .i64 0, .string ⟨#[]⟩, .slice none 0 0, .slice none 0 0, .int .i64 0] 57)).cell? ⟨w5.heap.size + 1 + 1, 0, none⟩ = some (.int .i64 1) := by go_simp
  have a21 : ((((((w5.alloc (.cells #[.int .i64 1, .int .i64 0, .int .i64 1, .string ⟨#[]⟩, .string ⟨#[]⟩, .int .i64 0] 34)).alloc (.cells #[.int .i64 3, .int .i64 0, .int .i64 1, .string ⟨#[]⟩, .string ⟨#[]⟩, .int .i64 0] 34)).alloc (.cells #[.int .i64 1, .int .i64 1, .int .i64 1, .string ⟨#[]⟩, .string ⟨#[]⟩, .int .i64 0] 34)).alloc (.cells #[.int .i64 3, .int .i64 1, .int .i64 1, .string ⟨#[]⟩, .string ⟨#[]⟩, .int .i64 0] 34))).alloc (.cells #[.string ⟨#[120]⟩, .string ⟨#[]⟩, .string ⟨#[]⟩, .int .i64 0, .int .i64 0, .string ⟨#[]⟩, .slice none 0 0, .slice none 0 0, .int .i64 0] 57)).cell? ⟨w5.heap.size + 1 + 1, 1, none⟩ = some (.int .i64 1) := by go_simp
  have a22 : ((((((w5.alloc (.cells #[.int .i64 1, .int .i64 0, .int .i64 1, .string ⟨#[]⟩, .string ⟨#[]⟩, .int .i64 0] 34)).alloc (.cells #[.int .i64 3, .int .i64 0, .int .i64 1, .string ⟨#[]⟩, .string ⟨#[]⟩, .int .i64 0] 34)).alloc (.cells #[.int .i64 1, .int .i64 1, .int .i64 1, .string ⟨#[]⟩, .string ⟨#[]⟩, .int .i64 0] 34)).alloc (.cells #[.int .i64 3, .int .i64 1, .int .i64 1, .string ⟨#[]⟩, .string ⟨#[]⟩, .int .i64 0] 34))).alloc (.cells #[.string ⟨#[120]⟩, .string ⟨#[]⟩, .string ⟨#[]⟩, .int .i64 0, .int .i64 0, .string ⟨#[]⟩, .slice none 0 0, .slice none 0 0, .int .i64 0] 57)).cell? ⟨w5.heap.size + 1 + 1, 2, none⟩ = some (.int .i64 1) := by go_simp
  have a23 : ((((((w5.alloc (.cells #[.int .i64 1, .int .i64 0, .int .i64 1, .string ⟨#[]⟩, .string ⟨#[]⟩, .int .i64 0] 34)).alloc (.cells #[.int .i64 3, .int .i64 0, .int .i64 1, .string ⟨#[]⟩, .string ⟨#[]⟩, .int .i64 0] 34)).alloc (.cells #[.int .i64 1, .int .i64 1, .int .i64 1, .string ⟨#[]⟩, .string ⟨#[]⟩, .int .i64 0] 34)).alloc (.cells #[.int .i64 3, .int .i64 1, .int .i64 1, .string ⟨#[]⟩, .string ⟨#[]⟩, .int .i64 0] 34))).alloc (.cells #[.string ⟨#[120]⟩, .string ⟨#[]⟩, .string ⟨#[]⟩, .int .i64 0, .int .i64 0, .string ⟨#[]⟩, .slice none 0 0, .slice none 0 0, .int .i64 0] 57)).cell? ⟨w5.heap.size + 1 + 1, 3, none⟩ = some (.string ⟨#[]⟩) := by go_simp
  have a24 : ((((((w5.alloc (.cells #[.int .i64 1, .int .i64 0, .int .i64 1, .string ⟨#[]⟩, .string ⟨#[]⟩, .int .i64 0] 34)).alloc (.cells #[.int .i64 3, .int .i64 0, .int .i64 1, .string ⟨#[]⟩, .string ⟨#[]⟩, .int .i64 0] 34)).alloc (.cells #[.int .i64 1, .int .i64 1, .int .i64 1, .string ⟨#[]⟩, .string ⟨#[]⟩, .int .i64 0] 34)).alloc (.cells #[.int .i64 3, .int .i64 1, .int .i64 1, .string ⟨#[]⟩, .string ⟨#[]⟩, .int .i64 0] 34))).alloc (.cells #[.string ⟨#[120]⟩, .string ⟨#[]⟩, .string ⟨#[]⟩, .int .i64 0, .int .i64 0, .string ⟨#[]⟩, .slice none 0 0, .slice none 0 0, .int .i64 0] 57)).cell? ⟨w5.heap.size + 1 + 1, 4, none⟩ = some (.string ⟨#[]⟩) := by go_simp
  have a25 : ((((((w5.alloc (.cells #[.int .i64 1, .int .i64 0, .int .i64 1, .string ⟨#[]⟩, .string ⟨#[]⟩, .int .i64 0] 34)).alloc (.cells #[.int .i64 3, .int .i64 0, .int .i64 1, .string ⟨#[]⟩, .string ⟨#[]⟩, .int .i64 0] 34)).alloc (.cells #[.int .i64 1, .int .i64 1, .int .i64 1, .string ⟨#[]⟩, .string ⟨#[]⟩, .int .i64 0] 34)).alloc (.cells #[.int .i64 3, .int .i64 1, .int .i64 1, .string ⟨#[]⟩, .string ⟨#[]⟩, .int .i64 0] 34))).alloc (.cells #[.string ⟨#[120]⟩, .string ⟨#[]⟩, .string ⟨#[]⟩, .int .i64 0, .int .i64 0, .string ⟨#[]⟩, .slice none 0 0, .slice none 0 0, .int .i64 0] 57)).cell? ⟨w5.heap.size + 1 + 1, 5, none⟩ = some (.int .i64 0) := by go_simp
  have a30 : ((((((w5.alloc (.cells #[.int .i64 1, .int .i64 0, .int .i64 1, .string ⟨#[]⟩, .string ⟨#[]⟩, .int .i64 0] 34)).alloc (.cells #[.int .i64 3, .int .i64 0, .int .i64 1, .string ⟨#[]⟩, .string ⟨#[]⟩, .int .i64 0] 34)).alloc (.cells #[.int .i64 1, .int .i64 1, .int .i64 1, .string ⟨#[]⟩, .string ⟨#[]⟩, .int .i64 0] 34)).alloc (.cells #[.int .i64 3, .int .i64 1, .int .i64 1, .string ⟨#[]⟩, .string ⟨#[]⟩, .int .i64 0] 34))).alloc (.cells #[.string ⟨#[120]⟩, .string ⟨#[]⟩, .string ⟨#[]⟩, .int .i64 0, .int .i64 0, .string ⟨#[]⟩, .slice none 0 0, .slice none 0 0, .int .i64 0] 57)).cell? ⟨w5.heap.size + 1 + 1 + 1, 0, none⟩ = some (.int .i64 3) := by go_simp
  have a31 : ((((((w5.alloc (.cells #[.int .i64 1, .int .i64 0, .int .i64 1, .string ⟨#[]⟩, .string ⟨#[]⟩, .int .i64 0] 34)).alloc (.cells #[.int .i64 3, .int .i64 0, .int .i64 1, .string ⟨#[]⟩, .string ⟨#[]⟩, .int .i64 0] 34)).alloc (.cells #[.int .i64 1, .int .i64 1, .int .i64 1, .string ⟨#[]⟩, .string ⟨#[]⟩, .int .i64 0] 34)).alloc (.cells #[.int .i64 3, .int .i64 1, .int .i64 1, .string ⟨#[]⟩, .string ⟨#[]⟩, .int .i64 0] 34))).alloc (.cells #[.string ⟨#[120]⟩, .string ⟨#[]⟩, .string ⟨#[]⟩, .int .i64 0, .int .i64 0, .string ⟨#[]⟩, .slice none 0 0, .slice none 0 0, .int .i64 0] 57)).cell? ⟨w5.heap.size + 1 + 1 + 1, 1, none⟩ = some (.int .i64 1) := by go_simp
  have a32 : ((((((w5.alloc (.cells #[.int .i64 1, .int .i64 0, .int .i64 1, .string ⟨#[]⟩, .string ⟨#[]⟩, .int .i64 0] 34)).alloc (.cells #[.int .i64 3, .int .i64 0, .int .i64 1, .string ⟨#[]⟩, .string ⟨#[]⟩, .int .i64 0] 34)).alloc (.cells #[.int .i64 1, .int .i64 1, .int .i64 1, .string ⟨#[]⟩, .string ⟨#[]⟩, .int .i64 0] 34)).alloc (.cells #[.int .i64 3, .int .i64 1, .int .i64 1, .string ⟨#[]⟩, .string ⟨#[]⟩, .int .i64 0] 34))).alloc (.cells #[.string ⟨#[120]⟩, .string ⟨#[]⟩, .string ⟨#[]⟩, .int .i64 0, .int .i64 0, .string ⟨#[]⟩, .slice none 0 0, .slice none 0 0, .int .i64 0] 57)).cell? ⟨w5.heap.size + 1 + 1 + 1, 2, none⟩ = some (.int .i64 1) := by go_simp
  have a33 : ((((((w5.alloc (.cells #[.int .i64 1, .int .i64 0, .int .i64 1, .string ⟨#[]⟩, .string ⟨#[]⟩, .int .i64 0] 34)).alloc (.cells #[.int .i64 3, .int .i64 0, .int .i64 1, .string ⟨#[]⟩, .string ⟨#[]⟩, .int .i64 0] 34)).alloc (.cells #[.int .i64 1, .int .i64 1, .int .i64 1, .string ⟨#[]⟩, .string ⟨#[]⟩, .int .i64 0] 34)).alloc (.cells #[.int .i64 3, .int .i64 1, .int .i64 1, .string ⟨#[]⟩, .string ⟨#[]⟩, .int .i64 0] 34))).alloc (.cells #[.string ⟨#[120]⟩, .string ⟨#[]⟩, .string ⟨#[]⟩, .int .i64 0, .int .i64 0, .string ⟨#[]⟩, .slice none 0 0, .slice none 0 0, .int .i64 0] 57)).cell? ⟨w5.heap.size + 1 + 1 + 1, 3, none⟩ = some (.string ⟨#[]⟩) := by go_simp
  have a34 : ((((((w5.alloc (.cells #[.int .i64 1, .int .i64 0, .int .i64 1, .string ⟨#[]⟩, .string ⟨#[]⟩, .int .i64 0] 34)).alloc (.cells #[.int .i64 3, .int .i64 0, .int .i64 1, .string ⟨#[]⟩, .string ⟨#[]⟩, .int .i64 0] 34)).alloc (.cells #[.int .i64 1, .int .i64 1, .int .i64 1, .string ⟨#[]⟩, .string ⟨#[]⟩, .int .i64 0] 34)).alloc (.cells #[.int .i64 3, .int .i64 1, .int .i64 1, .string ⟨#[]⟩, .string ⟨#[]⟩, .int .i64 0] 34))).alloc (.cells #[.string ⟨#[120]⟩, .string ⟨#[]⟩, .string ⟨#[]⟩, .int .i64 0, .int .i64 0, .string ⟨#[]⟩, .slice none 0 0, .slice none 0 0, .int .i64 0] 57)).cell? ⟨w5.heap.size + 1 + 1 + 1, 4, none⟩ = some (.string ⟨#[]⟩) := by go_simp
  have a35 : ((((((w5.alloc (.cells #[.int .i64 1, .int .i64 0, .int .i64 1, .string ⟨#[]⟩, .string ⟨#[]⟩, .int .i64 0] 34)).alloc (.cells #[.int .i64 3, .int .i64 0, .int .i64 1, .string ⟨#[]⟩, .string ⟨#[]⟩, .int .i64 0] 34)).alloc (.cells #[.int .i64 1, .int .i64 1, .int .i64 1, .string ⟨#[]⟩, .string ⟨#[]⟩, .int .i64 0] 34)).alloc (.cells #[.int .i64 3, .int .i64 1, .int .i64 1, .string ⟨#[]⟩, .string ⟨#[]⟩, .int .i64 0] 34))).alloc (.cells #[.string ⟨#[120]⟩, .string ⟨#[]⟩, .string ⟨#[]⟩, .int .i64 0, .int .i64 0, .string ⟨#[]⟩, .slice none 0 0, .slice none 0 0, .int .i64 0] 57)).cell? ⟨w5.heap.size + 1 + 1 + 1, 5, none⟩ = some (.int .i64 0) := by go_simp
  clear hA0
  simp only [evOf, Ev.cells]
  go_wp2_with fail
  generalize ((((((w5.alloc (.cells #[.int .i64 1, .int .i64 0, .int .i64 1, .string ⟨#[]⟩, .string ⟨#[]⟩, .int .i64 0] 34)).alloc (.cells #[.int .i64 3, .int .i64 0, .int .i64 1, .string ⟨#[]⟩, .string ⟨#[]⟩, .int .i64 0] 34)).alloc (.cells #[.int .i64 1, .int .i64 1, .int .i64 1, .string ⟨#[]⟩, .string ⟨#[]⟩, .int .i64 0] 34)).alloc (.cells #[.int .i64 3, .int .i64 1, .int .i64 1, .string ⟨#[]⟩, .string ⟨#[]⟩, .int .i64 0] 34))).alloc (.cells #[.string ⟨#[120]⟩, .string ⟨#[]⟩, .string ⟨#[]⟩, .int .i64 0, .int .i64 0, .string ⟨#[]⟩, .slice none 0 0, .slice none 0 0, .int .i64 0] 57)) = WA at *
  refine (owned_any _ _ _ _ _ _ [] [] [aOb] _ ⟨none, 0, rfl, by simp, by simp, fun i hi => absurd hi (by simp)⟩ ⟨none, 0, rfl, by simp, by simp, fun i hi => absurd hi (by simp)⟩ hLO.out (by simp) (by simp) (by simp) (by intro x hx; simp at hx; subst hx; unfold maxLen; simp [aOb, bx, ByteArray.size])).mono ?_
  rintro r w6 ⟨va, vb, vc, rfl, hb6, _, hvb, _⟩
  have HS6 := Lib.hid (HS5.out.below stR_mono (HBA.out.trans (hb6.mono HBA.out.size)))
  have HB6 := Lib.hid (HB5.out.trans ((HBA.out.trans (hb6.mono HBA.out.size)).mono hz5))
  have HVB := Lib.hid (show Sl StrR 1 w6 vb [bx] by have h := hvb; simp only [List.map_nil, List.length_singleton] at h; rw [aun] at h; exact h)
  have b00 := bget hb6 a00
  have b01 := bget hb6 a01
  have b02 := bget hb6 a02
  have b03 := bget hb6 a03
  have b04 := bget hb6 a04
  have b05 := bget hb6 a05
  have b10 := bget hb6 a10
  have b11 := bget hb6 a11
  have b12 := bget hb6 a12
  have b13 := bget hb6 a13
  have b14 := bget hb6 a14
  have b15 := bget hb6 a15
  have b20 := bget hb6 a20
  have b21 := bget hb6 a21
  have b22 := bget hb6 a22
  have b23 := bget hb6 a23
  have b24 := bget hb6 a24
  have b25 := bget hb6 a25
  have b30 := bget hb6 a30
  have b31 := bget hb6 a31
  have b32 := bget hb6 a32
  have b33 := bget hb6 a33
  have b34 := bget hb6 a34
  have b35 := bget hb6 a35
  have hz6 := hb6.size
  have hzA := HBA.out.size
  clear hvb hb6 hLO HBA HS5 HB5 a00 a01 a02 a03 a04 a05 a10 a11 a12 a13 a14 a15 a20 a21 a22 a23 a24 a25 a30 a31 a32 a33 a34 a35
  generalize w5.heap.size = V at *
  go_wp2_with fail
  have hL1 : (w6.alloc (.cells #[.int .i64 1, .int .i64 0, .int .i64 1, .string ⟨#[]⟩, .string ⟨#[]⟩, .int .i64 0, .int .i64 3, .int .i64 0, .int .i64 1, .string ⟨#[]⟩, .string ⟨#[]⟩, .int .i64 0, .int .i64 1, .int .i64 1, .int .i64 1, .string ⟨#[]⟩, .string ⟨#[]⟩, .int .i64 0, .int .i64 3, .int .i64 1, .int .i64 1, .string ⟨#[]⟩, .string ⟨#[]⟩, .int .i64 0] 34)).heap[w6.heap.size]? = some (.cells (aEv1.flatMap Ev.cells).toArray 34 (0, 0)) := by
    simpa [aEv1, evOf, Ev.cells] using heap_alloc_new w6 (.cells #[.int .i64 1, .int .i64 0, .int .i64 1, .string ⟨#[]⟩, .string ⟨#[]⟩, .int .i64 0, .int .i64 3, .int .i64 0, .int .i64 1, .string ⟨#[]⟩, .string ⟨#[]⟩, .int .i64 0, .int .i64 1, .int .i64 1, .int .i64 1, .string ⟨#[]⟩, .string ⟨#[]⟩, .int .i64 0, .int .i64 3, .int .i64 1, .int .i64 1, .string ⟨#[]⟩, .string ⟨#[]⟩, .int .i64 0] 34)
  have hw7 : Below w6.heap.size w6 (w6.alloc (.cells #[.int .i64 1, .int .i64 0, .int .i64 1, .string ⟨#[]⟩, .string ⟨#[]⟩, .int .i64 0, .int .i64 3, .int .i64 0, .int .i64 1, .string ⟨#[]⟩, .string ⟨#[]⟩, .int .i64 0, .int .i64 1, .int .i64 1, .int .i64 1, .string ⟨#[]⟩, .string ⟨#[]⟩, .int .i64 0, .int .i64 3, .int .i64 1, .int .i64 1, .string ⟨#[]⟩, .string ⟨#[]⟩, .int .i64 0] 34)) := (Below.refl _ _).alloc (Nat.le_refl _) _
  refine (order_any (mkSt [[], [0]]) aEv1 _ _ _ (HS6.out.below stR_mono hw7) (sl_of_heap Ev.cells ev_len aEv1 rfl hL1 (by unfold maxLen; simp [aEv1])) (by simp [mkSt]) (by simp [aEv1])).mono ?_
  rintro r w7 ⟨rfl, hb7⟩
  rw [aord1]
  have h67 : Below w6.heap.size w6 w7 := hw7.trans (hb7.mono hw7.size)
  replace b00 := bget h67 b00
  replace b01 := bget h67 b01
  replace b02 := bget h67 b02
  replace b03 := bget h67 b03
  replace b04 := bget h67 b04
  replace b05 := bget h67 b05
  replace b10 := bget h67 b10
  replace b11 := bget h67 b11
  replace b12 := bget h67 b12
  replace b13 := bget h67 b13
  replace b14 := bget h67 b14
  replace b15 := bget h67 b15
  replace b20 := bget h67 b20
  replace b21 := bget h67 b21
  replace b22 := bget h67 b22
  replace b23 := bget h67 b23
  replace b24 := bget h67 b24
  replace b25 := bget h67 b25
  replace b30 := bget h67 b30
  replace b31 := bget h67 b31
  replace b32 := bget h67 b32
  replace b33 := bget h67 b33
  replace b34 := bget h67 b34
  replace b35 := bget h67 b35
  have HS7 := Lib.hid (HS6.out.below stR_mono h67)
  have HV7 := Lib.hid (HVB.out.below strR_mono h67)
  have HB7 := Lib.hid (HB6.out.trans (h67.mono HB6.out.size))
  clear hL1 hw7 hb7 h67 HS6 HVB HB6 hz6
  go_wp2_with fail
  have hL2 : (w7.alloc (.cells #[.int .i64 1, .int .i64 0, .int .i64 1, .string ⟨#[]⟩, .string ⟨#[]⟩, .int .i64 0, .int .i64 1, .int .i64 1, .int .i64 1, .string ⟨#[]⟩, .string ⟨#[]⟩, .int .i64 0, .int .i64 3, .int .i64 0, .int .i64 1, .string ⟨#[]⟩, .string ⟨#[]⟩, .int .i64 0, .int .i64 3, .int .i64 1, .int .i64 1, .string ⟨#[]⟩, .string ⟨#[]⟩, .int .i64 0] 34)).heap[w7.heap.size]? = some (.cells (aEv2.flatMap Ev.cells).toArray 34 (0, 0)) := by
    simpa [aEv2, evOf, Ev.cells] using heap_alloc_new w7 (.cells #[.int .i64 1, .int .i64 0, .int .i64 1, .string ⟨#[]⟩, .string ⟨#[]⟩, .int .i64 0, .int .i64 1, .int .i64 1, .int .i64 1, .string ⟨#[]⟩, .string ⟨#[]⟩, .int .i64 0, .int .i64 3, .int .i64 0, .int .i64 1, .string ⟨#[]⟩, .string ⟨#[]⟩, .int .i64 0, .int .i64 3, .int .i64 1, .int .i64 1, .string ⟨#[]⟩, .string ⟨#[]⟩, .int .i64 0] 34)
  have hw8 : Below w7.heap.size w7 (w7.alloc (.cells #[.int .i64 1, .int .i64 0, .int .i64 1, .string ⟨#[]⟩, .string ⟨#[]⟩, .int .i64 0, .int .i64 1, .int .i64 1, .int .i64 1, .string ⟨#[]⟩, .string ⟨#[]⟩, .int .i64 0, .int .i64 3, .int .i64 0, .int .i64 1, .string ⟨#[]⟩, .string ⟨#[]⟩, .int .i64 0, .int .i64 3, .int .i64 1, .int .i64 1, .string ⟨#[]⟩, .string ⟨#[]⟩, .int .i64 0] 34)) := (Below.refl _ _).alloc (Nat.le_refl _) _
  refine (order_any (mkSt [[], [0]]) aEv2 _ _ _ (HS7.out.below stR_mono hw8) (sl_of_heap Ev.cells ev_len aEv2 rfl hL2 (by unfold maxLen; simp [aEv2])) (by simp [mkSt]) (by simp [aEv2])).mono ?_
  rintro r w8 ⟨rfl, hb8⟩
  rw [aord2]
  have h78 : Below w7.heap.size w7 w8 := hw8.trans (hb8.mono hw8.size)
  have HV8 := Lib.hid (HV7.out.below strR_mono h78)
  have HB8 := Lib.hid (HB7.out.trans (h78.mono HB7.out.size))
  clear hL2 hw8 hb8 h78 HS7 HV7 HB7 b00 b01 b02 b03 b04 b05 b10 b11 b12 b13 b14 b15 b20 b21 b22 b23 b24 b25 b30 b31 b32 b33 b34 b35
  go_wp2_with fail
  have hX : (w8.alloc (.cells #[.string ⟨#[120]⟩] 9)).heap[w8.heap.size]? = some (.cells (([bx] : List ByteArray).flatMap fun s => [.string s]).toArray 9 (0, 0)) := by
    simpa [bx] using heap_alloc_new w8 (.cells #[.string ⟨#[120]⟩] 9)
  have hw9 : Below w8.heap.size w8 (w8.alloc (.cells #[.string ⟨#[120]⟩] 9)) := (Below.refl _ _).alloc (Nat.le_refl _) _
  have hSX : Sl StrR 1 (w8.alloc (.cells #[.string ⟨#[120]⟩] 9)) (.slice (some ⟨w8.heap.size, 0, none⟩) 1 1) [bx] :=
    (sl_of_heap (fun s => [.string s]) (fun _ => rfl) [bx] rfl hX (by unfold maxLen; simp)).map rfl (fun i h1 h2 cs hcs => by
      subst hcs
      refine ⟨rfl, ?_⟩
      have : i = 0 := by simpa using h1
      subst this
      unfold maxLen; simp [bx, ByteArray.size])
  refine (rsame_any [bx] [bx] _ _ _ (HV8.out.below strR_mono hw9) hSX).mono ?_
  rintro r w9 ⟨rfl, hb9⟩
  rw [show sameS [bx] [bx] = true from sameS_iff.2 rfl]
  have HB9 := Lib.hid (HB8.out.trans ((hw9.trans (hb9.mono hw9.size)).mono HB8.out.size))
  clear hX hw9 hSX hb9
  go_wp2
  go_ret
  exact ⟨rfl, HB9.out⟩
end Go.Proofs.Ytdmcceekaopghaa
