/-
  Contracts of the helpers of the statements of layer 52: event, steps, few, Same. Conditions: those ahead of each theorem.
-/
import Derived.Test.YtdmcceekaopghaaStruct
import Derived.Test.YtdmcceekaopghaaOrdR
namespace Go.Proofs.Ytdmcceekaopghaa
open Go.RowKit Go.Sort

def evOf (k n : Int) : Ev := ⟨k, n, 1, ⟨#[]⟩, ⟨#[]⟩, 0⟩
theorem event_any (k n : Int) (w : World) :
    Calls Try.prog 14 #[.int .i64 k, .int .i64 n] w fun r w' => r = .returned (.agg (evOf k n).cells.toArray) ∧ Below w.heap.size w w' := by
  go_enter Try.func14, Try.ntmps14
  go_wp2
  exact bodyPost_ret (v := .agg (evOf k n).cells.toArray) (by simp [results, Try.results14, go_sem, evOf, Ev.cells]) rfl ⟨rfl, ((Below.refl _ _).alloc (Nat.le_refl _) _)⟩

theorem str_cells {w : World} {v : Value} {l : List ByteArray} (h : Sl StrR 1 w v l) {r : Option Addr} {n cap : Nat} (hv : v = .slice r n cap) :
    n = l.length ∧ n ≤ cap ∧ cap ≤ 9223372036854775807 ∧ ∀ i (hi : i < l.length), ∃ b off, r = some ⟨b, off, none⟩ ∧ b < w.heap.size ∧ w.cell? ⟨b, off + i, none⟩ = some (.string l[i]) ∧ (l[i]).size ≤ maxLen := by
  obtain ⟨r', cap', rfl, hl, hm, he⟩ := h
  simp at hv
  obtain ⟨rfl, rfl, rfl⟩ := hv
  unfold maxLen at hm
  refine ⟨rfl, hl, by omega, fun i hi => ?_⟩
  obtain ⟨b, off, cs, hr, _, hc, hx, hs⟩ := he i hi
  have g0 := hc 0 _ hx
  simp only [Nat.add_zero, Nat.mul_one] at g0
  exact ⟨b, off, hr, World.block_lt_of_cell? w _ g0, g0, hs⟩

def sameS (a b : List ByteArray) : Bool := decide (a.map (·.data.toList) = b.map (·.data.toList))
theorem sameS_iff {a b : List ByteArray} : sameS a b = true ↔ a = b := by
  unfold sameS
  rw [decide_eq_true_eq]
  constructor
  · intro h
    have h2 := congrArg (List.map fun s : BL => (⟨s.toArray⟩ : ByteArray)) h
    simpa [List.map_map, Function.comp_def] using h2
  · intro h; rw [h]

theorem same_any (a b : List ByteArray) (va vb : Value) (w : World) (ha : Sl StrR 1 w va a) (hb : Sl StrR 1 w vb b) :
    Calls Try.prog 34 #[va, vb] w fun r w' => r = .returned (.bool (sameS a b)) ∧ Below w.heap.size w w' := by
  have ha0 := ha
  have hb0 := hb
  obtain ⟨ra, ca, rfl, _⟩ := ha
  obtain ⟨rb, cb, rfl, _⟩ := hb
  obtain ⟨_, hla, hma, hA⟩ := str_cells ha0 rfl
  obtain ⟨_, hlb, hmb, hB⟩ := str_cells hb0 rfl
  by_cases hlen : a.length = b.length
  case neg =>
    have HX := Lib.hid (show sameS a b = false by
      rw [Bool.eq_false_iff]; intro h; exact hlen (by rw [sameS_iff.1 h]))
    have e1 : ((a.length : Int) == (b.length : Int)) = false := by simp; omega
    have e2 : ((a.length : Int) != (b.length : Int)) = true := by simp; omega
    clear hlen hA hB ha0 hb0
    go_enter Try.func34, Try.ntmps34
    go_wp2
    go_ret
    exact ⟨ret_bool HX.out, Below.refl _ _⟩
  case pos =>
    have HL := Lib.hid hlen
    have e1 : ((a.length : Int) == (b.length : Int)) = true := by simp; omega
    have e2 : ((a.length : Int) != (b.length : Int)) = false := by simp; omega
    clear hlen ha0 hb0
    go_enter Try.func34, Try.ntmps34
    go_wp2
    go_loopw [5] (fun i wr => ∃ k : Nat, k ≤ a.length ∧ i = .int .i64 k ∧ a.take k = b.take k ∧ Below w.heap.size w wr) (fun i _ => a.length - (intOf i).toNat)
    case atStart => exact ⟨0, by omega, rfl, rfl, Below.refl _ _⟩
    case round =>
      obtain ⟨k, hk, rfl, htk, hbl⟩ := hrel
      have HT := Lib.hid htk
      have HB := Lib.hid hbl
      clear htk
      by_cases hlt : k < a.length
      · have hltb : k < b.length := by rw [← HL.out]; exact hlt
        obtain ⟨ba, oa, rfl, hba, ka, _⟩ := hA k hlt
        obtain ⟨bb, ob, rfl, hbb, kb, _⟩ := hB k hltb
        have ka := bget hbl ka
        have kb := bget hbl kb
        have hba := World.block_lt_of_cell? _ _ ka
        have hbb := World.block_lt_of_cell? _ _ kb
        simp at hba hbb
        have HA2 := Lib.hid (show a[k] = b[k] → a.take (k + 1) = b.take (k + 1) from fun h => by rw [List.take_succ_eq_append_getElem hlt, List.take_succ_eq_append_getElem hltb, HT.out, h])
        have HN2 := Lib.hid (show a[k] ≠ b[k] → sameS a b = false from fun h => by
          rw [Bool.eq_false_iff]; intro h2; apply h; have := sameS_iff.1 h2; subst this; rfl)
        have hi0 : (0 : Int) ≤ (k : Int) := by omega
        have hi1 : (k : Int) < (a.length : Int) := by omega
        have hi2 : (k : Int) < (b.length : Int) := by omega
        clear hA hB hbl
        generalize a[k] = x at *
        generalize b[k] = y at *
        by_cases hxy : x = y
        · subst hxy
          have HA3 := Lib.hid (HA2.out rfl)
          clear HA2 HN2
          go_wp2_with fail
          go_quiet (fail)
          go_wp2
          go_roundw
          case rel => exact ⟨k + 1, by omega, by go_num, HA3.out, ⟨HB.out.os, HB.out.tape, HB.out.output, HB.out.size, HB.out.block⟩⟩
          case measure => simp [intOf]; omega
        · have HX := Lib.hid (HN2.out hxy)
          have e3 : (x.toList == y.toList) = false := by
            rw [beq_eq_false_iff_ne]; intro h; apply hxy; rw [ByteArray.toList_eq, ByteArray.toList_eq] at h; exact bytes_inj h
          clear hxy HA2 HN2
          go_wp2_with fail
          go_quiet (fail)
          go_wp2
          go_ret
          exact ⟨ret_bool HX.out, ⟨HB.out.os, HB.out.tape, HB.out.output, HB.out.size, HB.out.block⟩⟩
      · have hke : k = a.length := by omega
        have HX := Lib.hid (show sameS a b = true by
          rw [sameS_iff]
          have := HT.out
          rw [hke, List.take_length, HL.out, List.take_length] at this
          exact this)
        clear hke hA hB hbl
        go_wp2
        go_ret
        exact ⟨ret_bool HX.out, HB.out⟩
theorem rsame_any (a b : List ByteArray) (va vb : Value) (w : World) (ha : Sl StrR 1 w va a) (hb : Sl StrR 1 w vb b) :
    Calls Try.prog 18 #[va, vb] w fun r w' => r = .returned (.bool (sameS a b)) ∧ Below w.heap.size w w' := by
  go_enter Try.func18, Try.ntmps18
  go_wp2_with fail
  refine (same_any a b va vb _ ha hb).mono ?_
  rintro r w' ⟨rfl, hb⟩
  go_wp2
  go_ret
  exact ⟨rfl, hb⟩
end Go.Proofs.Ytdmcceekaopghaa
