/-
  Contracts of audit.Counts and of the reference Count. Conditions: those ahead of each theorem.
-/
import Derived.Test.YtdmcceekaopghaaOpen
namespace Go.Proofs.Ytdmcceekaopghaa
open Go.RowKit Go.Sort

def cnk (k : Int) (l : List Ev) : Int := (l.filter fun e => e.kind == k).length
theorem cnk_append (k : Int) (a b : List Ev) : cnk k (a ++ b) = cnk k a + cnk k b := by simp [cnk]
theorem cnk_bd (k : Int) (l : List Ev) : 0 ≤ cnk k l ∧ cnk k l ≤ l.length := by
  unfold cnk; exact ⟨by omega, by have := List.length_filter_le (fun e : Ev => e.kind == k) l; omega⟩
theorem cnk_snoc (k : Int) (l : List Ev) (e : Ev) : cnk k (l ++ [e]) = cnk k l + if e.kind == k then 1 else 0 := by
  rw [cnk_append]; simp [cnk, List.filter_cons]; split <;> simp

theorem countOf_any (k : Int) (l : List Ev) (vL : Value) (w : World) (hL : Sl EvR 6 w vL l) :
    Calls Try.prog 36 #[vL, .int .i64 k] w fun r w' => r = .returned (.int .i64 (cnk k l)) ∧ w = w' := by
  obtain ⟨rL, capL, rfl, _⟩ := id hL
  obtain ⟨_, hlL, hmL, hE⟩ := ev_cells hL rfl
  clear hL
  go_enter Try.func36, Try.ntmps36
  go_wp2
  go_loop [5, 6] (fun x i => ∃ j : Nat, j ≤ l.length ∧ i = .int .i64 j ∧ x = .int .i64 (cnk k (l.take j))) (fun _ i => l.length - (intOf i).toNat)
  case atStart => exact ⟨0, by omega, rfl, rfl⟩
  case round =>
    obtain ⟨j, hj, rfl, rfl⟩ := hrel
    have hb := cnk_bd k (l.take j)
    have hlen : (l.take j).length ≤ j := List.length_take_le _ _
    by_cases hlt : j < l.length
    · obtain ⟨b, off, rfl, hbb, g0, _⟩ := hE j hlt
      have HT := Lib.hid (show cnk k (l.take (j + 1)) = cnk k (l.take j) + if (l[j]).kind == k then 1 else 0 by rw [List.take_succ_eq_append_getElem hlt, cnk_snoc])
      clear hE
      generalize (l[j]).kind = q at *
      by_cases hq : q = k
      · have e1 : (q == k) = true := by simpa using hq
        have HT2 := Lib.hid (show cnk k (l.take (j + 1)) = cnk k (l.take j) + 1 by rw [HT.out, e1]; rfl)
        clear hq HT
        go_wp2
        go_round
        case rel => exact ⟨j + 1, by omega, by go_num, by rw [HT2.out]⟩
        case measure => simp [intOf]; omega
      · have e1 : (q == k) = false := by simpa using hq
        have HT2 := Lib.hid (show cnk k (l.take (j + 1)) = cnk k (l.take j) by rw [HT.out, e1]; simp)
        clear hq HT
        go_wp2
        go_round
        case rel => exact ⟨j + 1, by omega, by go_num, by rw [HT2.out]⟩
        case measure => simp [intOf]; omega
    · have hje : j = l.length := by omega
      have HX := Lib.hid (show cnk k (l.take j) = cnk k l by rw [hje, List.take_length])
      clear hje hE
      go_wp2
      go_ret
      exact ⟨ret_int HX.out.symm, rfl⟩
theorem count_any (k : Int) (l : List Ev) (vL : Value) (w : World) (hL : Sl EvR 6 w vL l) :
    Calls Try.prog 21 #[vL, .int .i64 k] w fun r w' => r = .returned (.int .i64 (cnk k l)) ∧ w = w' := by
  have HL := Lib.hid hL
  clear hL
  go_enter Try.func21, Try.ntmps21
  go_wp2_with fail
  refine (countOf_any k l _ _ HL.out).mono ?_
  rintro r w' ⟨rfl, rfl⟩
  go_wp2
  go_ret
  exact ⟨rfl, rfl⟩

def cns (l : List Ev) : Value := .tuple #[.int .i64 (cnk 1 l), .int .i64 (cnk 3 l), .int .i64 (cnk 4 l), .int .i64 (cnk 5 l)]
theorem counts4_any (l : List Ev) (vL : Value) (w : World) (hL : Sl EvR 6 w vL l) (hl : l.length ≤ 1000) :
    Calls Try.prog 20 #[vL] w fun r w' => r = .returned (cns l) ∧ Below w.heap.size w w' := by
  have HL := Lib.hid hL
  obtain ⟨rL, capL, rfl, hlc, hmL, _⟩ := id hL
  unfold maxLen at hmL
  clear hL
  go_enter Try.func20, Try.ntmps20
  go_wp2
  go_loopw [2, 3, 4, 5, 10] (fun a b c d i wr => ∃ j : Nat, j ≤ l.length ∧ i = .int .i64 j ∧ a = .int .i64 (cnk 1 (l.take j)) ∧ b = .int .i64 (cnk 3 (l.take j)) ∧ c = .int .i64 (cnk 4 (l.take j)) ∧ d = .int .i64 (cnk 5 (l.take j)) ∧ Below w.heap.size w wr) (fun _ _ _ _ i _ => l.length - (intOf i).toNat)
  case atStart => exact ⟨0, by omega, rfl, rfl, rfl, rfl, rfl, Below.refl _ _⟩
  case round =>
    obtain ⟨j, hj, rfl, rfl, rfl, rfl, rfl, hb⟩ := hrel
    have b1 := cnk_bd 1 (l.take j)
    have b3 := cnk_bd 3 (l.take j)
    have b4 := cnk_bd 4 (l.take j)
    have b5 := cnk_bd 5 (l.take j)
    have hlen : (l.take j).length ≤ j := List.length_take_le _ _
    have HB := Lib.hid hb
    by_cases hlt : j < l.length
    · obtain ⟨_, _, _, hE⟩ := ev_cells (HL.out.below evR_mono hb) rfl
      obtain ⟨bb, off, rfl, hbb, g0, g1, g2, g3, g4, g5⟩ := hE j hlt
      have HT := Lib.hid (show ∀ k, cnk k (l.take (j + 1)) = cnk k (l.take j) + if (l[j]).kind == k then 1 else 0 from fun k => by rw [List.take_succ_eq_append_getElem hlt, cnk_snoc])
      clear hE hb
      generalize l[j] = y at *
      obtain ⟨q, st, op, ad, id, er⟩ := y
      simp only at g0 g1 g2 g3 g4 g5 HT
      generalize h1 : cnk 1 (l.take j) = n1 at *
      generalize h3 : cnk 3 (l.take j) = n3 at *
      generalize h4 : cnk 4 (l.take j) = n4 at *
      generalize h5 : cnk 5 (l.take j) = n5 at *
      have H1 := Lib.hid h1
      have H3 := Lib.hid h3
      have H4 := Lib.hid h4
      have H5 := Lib.hid h5
      clear h1 h3 h4 h5
      by_cases q1 : q = 1
      · subst q1
        have HX := Lib.hid (show cnk 1 (l.take (j + 1)) = n1 + 1 ∧ cnk 3 (l.take (j + 1)) = n3 ∧ cnk 4 (l.take (j + 1)) = n4 ∧ cnk 5 (l.take (j + 1)) = n5 by
          rw [HT.out, HT.out, HT.out, HT.out, H1.out, H3.out, H4.out, H5.out]; simp)
        clear HT
        go_wp2
        go_roundw
        case rel => exact ⟨j + 1, by omega, by go_num, by rw [HX.out.1], by rw [HX.out.2.1], by rw [HX.out.2.2.1], by rw [HX.out.2.2.2], HB.out.alloc HB.out.size _⟩
        case measure => simp [intOf]; omega
      by_cases q3 : q = 3
      · subst q3
        have HX := Lib.hid (show cnk 1 (l.take (j + 1)) = n1 ∧ cnk 3 (l.take (j + 1)) = n3 + 1 ∧ cnk 4 (l.take (j + 1)) = n4 ∧ cnk 5 (l.take (j + 1)) = n5 by
          rw [HT.out, HT.out, HT.out, HT.out, H1.out, H3.out, H4.out, H5.out]; simp)
        clear HT q1
        go_wp2
        go_roundw
        case rel => exact ⟨j + 1, by omega, by go_num, by rw [HX.out.1], by rw [HX.out.2.1], by rw [HX.out.2.2.1], by rw [HX.out.2.2.2], HB.out.alloc HB.out.size _⟩
        case measure => simp [intOf]; omega
      by_cases q4 : q = 4
      · subst q4
        have HX := Lib.hid (show cnk 1 (l.take (j + 1)) = n1 ∧ cnk 3 (l.take (j + 1)) = n3 ∧ cnk 4 (l.take (j + 1)) = n4 + 1 ∧ cnk 5 (l.take (j + 1)) = n5 by
          rw [HT.out, HT.out, HT.out, HT.out, H1.out, H3.out, H4.out, H5.out]; simp)
        clear HT q1 q3
        go_wp2
        go_roundw
        case rel => exact ⟨j + 1, by omega, by go_num, by rw [HX.out.1], by rw [HX.out.2.1], by rw [HX.out.2.2.1], by rw [HX.out.2.2.2], HB.out.alloc HB.out.size _⟩
        case measure => simp [intOf]; omega
      have e1 : (q == 1) = false := by simpa using q1
      have e3 : (q == 3) = false := by simpa using q3
      have e4 : (q == 4) = false := by simpa using q4
      by_cases q5 : q = 5
      · subst q5
        have HX := Lib.hid (show cnk 1 (l.take (j + 1)) = n1 ∧ cnk 3 (l.take (j + 1)) = n3 ∧ cnk 4 (l.take (j + 1)) = n4 ∧ cnk 5 (l.take (j + 1)) = n5 + 1 by
          rw [HT.out, HT.out, HT.out, HT.out, H1.out, H3.out, H4.out, H5.out]; simp)
        clear HT q1 q3 q4 e1 e3 e4
        go_wp2
        go_roundw
        case rel => exact ⟨j + 1, by omega, by go_num, by rw [HX.out.1], by rw [HX.out.2.1], by rw [HX.out.2.2.1], by rw [HX.out.2.2.2], HB.out.alloc HB.out.size _⟩
        case measure => simp [intOf]; omega
      · have e5 : (q == 5) = false := by simpa using q5
        have HX := Lib.hid (show cnk 1 (l.take (j + 1)) = n1 ∧ cnk 3 (l.take (j + 1)) = n3 ∧ cnk 4 (l.take (j + 1)) = n4 ∧ cnk 5 (l.take (j + 1)) = n5 by
          rw [HT.out, HT.out, HT.out, HT.out, H1.out, H3.out, H4.out, H5.out, e1, e3, e4, e5]; simp)
        clear HT q1 q3 q4 q5
        go_wp2
        go_roundw
        case rel => exact ⟨j + 1, by omega, by go_num, by rw [HX.out.1], by rw [HX.out.2.1], by rw [HX.out.2.2.1], by rw [HX.out.2.2.2], HB.out.alloc HB.out.size _⟩
        case measure => simp [intOf]; omega
    · have hje : j = l.length := by omega
      have HX := Lib.hid (show l.take j = l by rw [hje, List.take_length])
      clear hje hb
      go_wp2
      refine bodyPost_ret (v := cns l) ?_ rfl ⟨rfl, HB.out⟩
      simp only [HX.out]
      simp [results, Try.results20, go_sem, cns]
end Go.Proofs.Ytdmcceekaopghaa
