import Derived.Test.YtlhekldlfmdmiaaGa

/-
  Layer 27: the statements' at; the program's only. Conditions: those ahead of each theorem.
-/
namespace Go.Proofs.Ytlhekldlfmdmiaa
open Go.RowKit Go.Sort Go.Lib
open Go.Lib (hid)
set_option linter.unusedVariables false
set_option linter.unusedSimpArgs false

theorem ret_i64 {a b : Int} (h : a = b) : Ending.returned (.int .i64 b) = .returned (.int .i64 a) := by rw [h]
/-- at: the place, or -1. -/
def atS (x : ByteArray) (l : List ByteArray) : Int := if hasS x l then (pos x l : Nat) else -1
theorem at_any (l : List ByteArray) (x : ByteArray) (v : Value) (w : World) (hS : Sl StrR 1 w v l) :
    Calls Try.prog 27 #[v, .string x] w fun r w' => r = .returned (.int .i64 (atS x l)) ∧ w = w' := by
  obtain ⟨r, c, rfl, _⟩ := id hS
  obtain ⟨_, hl, hm⟩ := sl_len hS
  have HE := hid (str_at hS)
  clear hS
  go_enter Try.func27, Try.ntmps27
  go_wp2
  go_loop [5] (fun i => ∃ k : Nat, k ≤ l.length ∧ i = .int .i64 k ∧ ∀ j (h : j < l.length), j < k → l[j] ≠ x) (fun i => l.length - (intOf i).toNat)
  case atStart => exact ⟨0, by omega, rfl, by omega⟩
  case round =>
    obtain ⟨k, hk, rfl, hall⟩ := hrel
    have HA := hid hall
    clear hall
    by_cases hlt : k < l.length
    · obtain ⟨b, off, rfl, hb, g, _⟩ := HE.out k hlt
      have HX := hid (show l[k] = x → atS x l = (k : Nat) from fun h => by
        unfold atS
        rw [if_pos (hasS_iff.2 (h ▸ List.getElem_mem hlt)), pos_eq hlt h HA.out])
      have HN := hid (show l[k] ≠ x → ∀ j (h : j < l.length), j < k + 1 → l[j] ≠ x from fun h j hj hjk => by
        by_cases e : j < k
        · exact HA.out j hj e
        · obtain rfl : j = k := by omega
          exact h)
      clear HE
      generalize l[k] = y at *
      by_cases hy : y = x
      · subst hy
        have HX2 := hid (HX.out rfl)
        clear HX HN
        go_wp2
        go_ret
        exact ⟨ret_i64 HX2.out, rfl⟩
      · have HN2 := hid (HN.out hy)
        have e3 := str_ne hy
        clear hy HX HN
        go_wp2
        go_round
        case rel => exact ⟨k + 1, by omega, by go_num, HN2.out⟩
        case measure => simp [intOf]; omega
    · have hke : k = l.length := by omega
      have HX := hid (show atS x l = -1 from by
        unfold atS
        rw [if_neg fun h => pos_none (fun j hj => HA.out j hj (by omega)) (hasS_iff.1 h)])
      clear hke HE
      go_wp2
      go_ret
      exact ⟨ret_i64 HX.out, rfl⟩

/-- words: are two lists equal? -/
theorem words_any (a b : List ByteArray) (va vb : Value) (w : World) (ha : Sl StrR 1 w va a) (hb : Sl StrR 1 w vb b) :
    Calls Try.prog 14 #[va, vb] w fun r w' => r = .returned (.bool (decide (a = b))) ∧ Below w.heap.size w w' := by
  obtain ⟨ra, ca, rfl, _⟩ := id ha
  obtain ⟨rb, cb, rfl, _⟩ := id hb
  obtain ⟨_, hl, hm⟩ := sl_len ha
  obtain ⟨_, hl2, hm2⟩ := sl_len hb
  have HA := hid (fun (W : World) (hW : Below w.heap.size w W) => str_at (ha.below strR_mono hW))
  have HB := hid (fun (W : World) (hW : Below w.heap.size w W) => str_at (hb.below strR_mono hW))
  clear ha hb
  by_cases hlen : a.length = b.length
  case neg =>
    have h1 : ((a.length : Int) == (b.length : Int)) = false := by simp; omega
    have h2 : ((a.length : Int) != (b.length : Int)) = true := by rw [bne, h1]; rfl
    have HF := hid (show decide (a = b) = false from decide_eq_false fun e => hlen (by rw [e]))
    clear hlen
    go_enter Try.func14, Try.ntmps14
    go_wp2
    go_ret
    exact ⟨ret_bool HF.out, Below.refl _ _⟩
  case pos =>
    have h1 : ((a.length : Int) == (b.length : Int)) = true := by simp; omega
    have h2 : ((a.length : Int) != (b.length : Int)) = false := by rw [bne, h1]; rfl
    have HL := hid hlen
    clear hlen
    go_enter Try.func14, Try.ntmps14
    go_wp2
    go_loopw [5] (fun i wr => ∃ k : Nat, k ≤ a.length ∧ i = .int .i64 k ∧ a.take k = b.take k ∧ Below w.heap.size w wr) (fun i _ => a.length - (intOf i).toNat)
    case atStart => exact ⟨0, by omega, rfl, rfl, Below.refl _ _⟩
    case round =>
      obtain ⟨k, hk, rfl, htk, hbl⟩ := hrel
      have HT := hid htk
      have HW := hid hbl
      clear htk
      by_cases hlt : k < a.length
      · have hltb : k < b.length := by rw [← HL.out]; exact hlt
        obtain ⟨b1, o1, rfl, hb1, g1, _⟩ := HA.out _ hbl k hlt
        obtain ⟨b2, o2, rfl, hb2, g2, _⟩ := HB.out _ hbl k hltb
        have HN := hid (show a[k] ≠ b[k] → decide (a = b) = false from fun h => decide_eq_false fun e => h (by subst e; rfl))
        have HS := hid (show a[k] = b[k] → a.take (k + 1) = b.take (k + 1) from fun h => by rw [List.take_succ_eq_append_getElem hlt, List.take_succ_eq_append_getElem hltb, HT.out, h])
        clear HA HB hbl HT
        generalize a[k] = y at *
        generalize b[k] = z at *
        by_cases hy : y = z
        · subst hy
          have HS2 := hid (HS.out rfl)
          have e1 : (y.toList == y.toList) = true := by simp
          have e2 : (y.toList != y.toList) = false := by simp
          clear HS HN
          go_wp2
          go_region
          go_wp2
          go_round
          case rel => exact ⟨k + 1, by omega, by go_num, HS2.out, HW.out.drew⟩
          case measure => simp [intOf]; omega
        · have HN2 := hid (HN.out hy)
          have e1 := str_ne hy
          have e2 := str_ne' hy
          clear HS HN hy
          go_wp2
          go_region
          go_wp2
          go_ret
          exact ⟨ret_bool HN2.out, HW.out.drew⟩
      · have hke : k = a.length := by omega
        have HF := hid (show decide (a = b) = true from decide_eq_true (by
          have := HT.out
          rwa [hke, List.take_length, HL.out, List.take_length] at this))
        clear hke HA HB hbl
        go_wp2
        go_ret
        exact ⟨ret_bool HF.out, HW.out⟩
end Go.Proofs.Ytlhekldlfmdmiaa
