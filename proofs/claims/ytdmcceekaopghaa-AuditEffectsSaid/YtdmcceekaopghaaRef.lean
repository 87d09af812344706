/-
  Contracts of the reference of audit.Order: endsStep, countsStep, lastOf, fitsOrder, OrderOf. Conditions: those ahead of each theorem.
-/
import Derived.Test.YtdmcceekaopghaaAud
namespace Go.Proofs.Ytdmcceekaopghaa
open Go.RowKit Go.Sort

def ends (k : Int) : Bool := k == 3 || k == 4
theorem ends_any (k : Int) (w : World) : Calls Try.prog 62 #[.int .i64 k] w fun r w' => r = .returned (.bool (ends k)) ∧ w = w' := by
  by_cases h1 : k = 3
  · subst h1; go_enter Try.func62, Try.ntmps62; go_wp2; go_ret; exact ⟨rfl, rfl⟩
  have e1 : (k == 3) = false := by simpa using h1
  have e3 := Lib.hid (show ends k = (k == 4) by simp [ends, e1])
  clear h1
  go_enter Try.func62, Try.ntmps62; go_wp2; go_ret; exact ⟨ret_bool e3.out, rfl⟩

def cntR (k : Int) : Bool := ends k || k == 1 || k == 5
theorem cntR_eq (k : Int) : cntR k = cnt k := by
  simp only [cntR, cnt, ends]
  rcases Bool.eq_false_or_eq_true (k == 1) with h1 | h1 <;> rcases Bool.eq_false_or_eq_true (k == 3) with h2 | h2 <;> rcases Bool.eq_false_or_eq_true (k == 4) with h3 | h3 <;> simp [h1, h2, h3]
theorem counts_any (k : Int) (w : World) : Calls Try.prog 41 #[.int .i64 k] w fun r w' => r = .returned (.bool (cnt k)) ∧ w = w' := by
  rw [← cntR_eq]
  have e0 := Lib.hid (show cntR k = (ends k || k == 1 || k == 5) from rfl)
  cases he : ends k
  · by_cases h1 : k = 1
    · subst h1
      go_enter Try.func41, Try.ntmps41
      go_wp2_with fail
      refine (ends_any _ _).mono ?_
      rintro e w' ⟨rfl, rfl⟩
      rw [he]
      go_wp2; go_ret; exact ⟨ret_bool (by rw [e0.out]; rfl), rfl⟩
    · have e1 : (k == 1) = false := by simpa using h1
      have e3 := Lib.hid (show cntR k = (k == 5) by simp [cntR, e1, he])
      clear h1
      have HE := Lib.hid he
      clear he
      go_enter Try.func41, Try.ntmps41
      go_wp2_with fail
      refine (ends_any _ _).mono ?_
      rintro e w' ⟨rfl, rfl⟩
      rw [HE.out]
      go_wp2; go_ret; exact ⟨ret_bool e3.out, rfl⟩
  · have e3 := Lib.hid (show cntR k = true by simp [cntR, he])
    have HE := Lib.hid he
    clear he
    go_enter Try.func41, Try.ntmps41
    go_wp2_with fail
    refine (ends_any _ _).mono ?_
    rintro e w' ⟨rfl, rfl⟩
    rw [HE.out]
    go_wp2; go_ret; exact ⟨ret_bool e3.out, rfl⟩

/-- The kind of the last counted event of a step. -/
def lst (s : Int) : Int → List Ev → Int
  | a, [] => a
  | a, e :: l => lst s (if e.step = s ∧ cnt e.kind = true then e.kind else a) l
theorem lst_append (s a : Int) (l m : List Ev) : lst s a (l ++ m) = lst s (lst s a l) m := by
  induction l generalizing a with
  | nil => rfl
  | cons e l ih => simp only [List.cons_append, lst]; exact ih _

theorem ev_cells {w : World} {v : Value} {l : List Ev} (h : Sl EvR 6 w v l) {r : Option Addr} {n cap : Nat} (hv : v = .slice r n cap) :
    n = l.length ∧ n ≤ cap ∧ cap ≤ 9223372036854775807 ∧ ∀ i (hi : i < l.length), ∃ b off, r = some ⟨b, off, none⟩ ∧ b < w.heap.size ∧ w.cell? ⟨b, off + i * 6, none⟩ = some (.int .i64 (l[i]).kind) ∧ w.cell? ⟨b, off + i * 6 + 1, none⟩ = some (.int .i64 (l[i]).step) ∧
      w.cell? ⟨b, off + i * 6 + 2, none⟩ = some (.int .i64 (l[i]).op) ∧ w.cell? ⟨b, off + i * 6 + 3, none⟩ = some (.string (l[i]).addr) ∧ w.cell? ⟨b, off + i * 6 + 4, none⟩ = some (.string (l[i]).id) ∧ w.cell? ⟨b, off + i * 6 + 5, none⟩ = some (.int .i64 (l[i]).err) := by
  obtain ⟨r', cap', rfl, hl, hm, he⟩ := h
  simp at hv
  obtain ⟨rfl, rfl, rfl⟩ := hv
  unfold maxLen at hm
  refine ⟨rfl, hl, by omega, fun i hi => ?_⟩
  obtain ⟨b, off, cs, hr, _, hc, hx⟩ := he i hi
  simp only [EvR] at hx
  subst hx
  have g0 := hc 0 _ rfl
  simp only [Nat.add_zero] at g0
  exact ⟨b, off, hr, World.block_lt_of_cell? w _ g0, g0, hc 1 _ rfl, hc 2 _ rfl, hc 3 _ rfl, hc 4 _ rfl, hc 5 _ rfl⟩

theorem last_any (l : List Ev) (s : Int) (n : Nat) (vL : Value) (w : World) (hL : Sl EvR 6 w vL l) (hn : n ≤ l.length) :
    Calls Try.prog 63 #[vL, .int .i64 s, .int .i64 n] w fun r w' => r = .returned (.int .i64 (lst s 0 (l.take n))) ∧ w = w' := by
  have hL0 := hL
  obtain ⟨rL, capL, rfl, _⟩ := hL0
  obtain ⟨_, hlL, hmL, hE⟩ := ev_cells hL rfl
  clear hL
  go_enter Try.func63, Try.ntmps63
  go_wp2
  go_loopw [7, 8] (fun x i wr => ∃ k : Nat, k ≤ n ∧ i = .int .i64 k ∧ x = .int .i64 (lst s 0 (l.take k)) ∧ w = wr) (fun _ i _ => n - (intOf i).toNat)
  case atStart => exact ⟨0, by omega, rfl, rfl, rfl⟩
  case round =>
    obtain ⟨k, hk, rfl, rfl, rfl⟩ := hrel
    by_cases hlt : k < n
    · have hkl : k < l.length := by omega
      obtain ⟨b, off, rfl, hb, g0, g1, _⟩ := hE k hkl
      have HT := Lib.hid (show lst s 0 (l.take (k + 1)) = if (l[k]).step = s ∧ cnt (l[k]).kind = true then (l[k]).kind else lst s 0 (l.take k) by
        rw [List.take_succ_eq_append_getElem hkl, lst_append]; rfl)
      clear hE
      generalize l[k] = e at *
      obtain ⟨kind, st, op, ad, id, er⟩ := e
      simp only at g0 g1 HT
      by_cases hs : st = s
      · subst hs
        cases hc : cnt kind
        · have HT2 := Lib.hid (show lst st 0 (l.take (k + 1)) = lst st 0 (l.take k) by rw [HT.out, hc]; simp)
          have HC := Lib.hid hc
          clear hc HT
          go_wp2_with fail
          refine (counts_any _ _).mono ?_
          rintro e w' ⟨rfl, rfl⟩
          rw [HC.out]
          go_wp2
          go_roundw
          case rel => exact ⟨k + 1, by omega, by go_num, by rw [HT2.out], trivial⟩
          case measure => simp [intOf]; omega
        · have HT2 := Lib.hid (show lst st 0 (l.take (k + 1)) = kind by rw [HT.out, hc]; simp)
          have HC := Lib.hid hc
          clear hc HT
          go_wp2_with fail
          refine (counts_any _ _).mono ?_
          rintro e w' ⟨rfl, rfl⟩
          rw [HC.out]
          go_wp2
          go_roundw
          case rel => exact ⟨k + 1, by omega, by go_num, by rw [HT2.out], trivial⟩
          case measure => simp [intOf]; omega
      · have HT2 := Lib.hid (show lst s 0 (l.take (k + 1)) = lst s 0 (l.take k) by rw [HT.out]; simp [hs])
        have e1 : (st == s) = false := by simpa using hs
        clear hs HT
        go_wp2
        go_roundw
        case rel => exact ⟨k + 1, by omega, by go_num, by rw [HT2.out], trivial⟩
        case measure => simp [intOf]; omega
    · have hke : k = n := by omega
      subst hke
      clear hk hlt
      go_wp2
      go_ret
      exact ⟨rfl, rfl⟩
end Go.Proofs.Ytdmcceekaopghaa
