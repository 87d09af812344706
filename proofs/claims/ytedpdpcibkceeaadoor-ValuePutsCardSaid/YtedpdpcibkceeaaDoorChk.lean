import Derived.Test.YtedpdpcibkceeaaDoorUtf
import Derived.Test.YtedpdpcibkceeaaDoorCmp
import Derived.Test.YtedpdpcibkceeaaDoorK
/-
  Contracts of the reference's Valid (of UTF-8), text, shaped, node, check, Check. Conditions: those ahead of each theorem.
-/
namespace Go.Proofs.YtedpdpcibkceeaaDoor
open Go.RowKit Go.Sort Go.Lib
open Go.Lib (hid)
set_option linter.unusedSimpArgs false
set_option linter.unusedVariables false

theorem drop_drop' {α : Type} (l : List α) (a b : Nat) : (l.drop a).drop b = l.drop (a + b) := by rw [List.drop_drop]
set_option maxRecDepth 100000 in
theorem rvalid_any (s : ByteArray) (w : World) (hs : s.size ≤ 4096) :
    Calls Tryd.prog 99 #[.string s] w fun e w' => e = .returned (.bool (validD s.data.toList)) ∧ Below w.heap.size w w' := by
  go_enter Tryd.func99, Tryd.ntmps99
  go_wp2
  go_loopg [3] s.size (fun gg s3 wr => ∃ k : Nat, k ≤ s.size ∧ s.size - k ≤ gg ∧ s3 = .int .i64 k ∧ Aside (Below w.heap.size w wr) ∧ Aside (validD (s.data.toList.drop k) = validD s.data.toList))
  case atStart => exact ⟨0, Nat.zero_le _, by omega, rfl, Below.refl _ _, by show _ = _; rw [List.drop_zero]⟩
  case round =>
    obtain ⟨k, hk, hg, rfl, BW, AL⟩ := hrel
    have hlen : (s.data.toList.drop k).length = s.size - k := by rw [List.length_drop, Array.length_toList]; rfl
    by_cases hlt : k < s.size
    · have hltz : (k : Int) < (s.size : Int) := by omega
      have hne : s.data.toList.drop k ≠ [] := by intro e; rw [e] at hlen; simp at hlen; omega
      have HV := hid (validD_ref _ hne)
      have hle : decR (s.data.toList.drop k) ≤ s.size - k := by
        rcases (decR_le (s.data.toList.drop k)).2 with h | h | h
        · omega
        · exact absurd h hne
        · omega
      have hD := hid (rdecode_any s k wr hlt (by omega))
      rw [drop_drop'] at HV
      clear hlen hne
      generalize decR (s.data.toList.drop k) = D at *
      by_cases h0 : D = 0
      · subst h0
        have HN := hid (show validD s.data.toList = false by rw [← AL.out, HV.out]; rfl)
        clear AL HV hle
        go_wp2_with fail
        refine hD.out.mono ?_
        rintro e w1 ⟨rv, rfl, hb1⟩
        have B1 := hid (BW.out.trans (hb1.mono BW.out.size))
        clear hb1
        go_wp2
        go_ret
        exact ⟨ret_bool HN.out, B1.out⟩
      · have HT := hid (show validD (s.data.toList.drop (k + D)) = validD s.data.toList by rw [← AL.out, HV.out, if_neg h0])
        have h0z : ((D : Int) == 0) = false := by simp; omega
        clear AL HV
        go_wp2_with fail
        refine hD.out.mono ?_
        rintro e w1 ⟨rv, rfl, hb1⟩
        have B1 := hid (BW.out.trans (hb1.mono BW.out.size))
        clear hb1
        go_wp2
        go_roundg (s.size - (k + D))
        case measure => omega
        case rel => exact ⟨k + D, by omega, by omega, by go_num, B1.out, HT.out⟩
    · have hltz : ¬ (k : Int) < (s.size : Int) := by omega
      have HN := hid (show validD s.data.toList = true by rw [← AL.out, List.drop_eq_nil_of_le (by rw [Array.length_toList]; show s.size ≤ k; omega)]; rfl)
      clear hlen AL
      go_wp2
      go_ret
      exact ⟨ret_bool HN.out, BW.out⟩

theorem rtext_any (s : ByteArray) (w : World) :
    Calls Tryd.prog 83 #[.string s] w fun e w' => e = .returned (.int .i64 (textE (fun s => validD s.data.toList) s)) ∧ Below w.heap.size w w' := by
  have HN := hid (show textE (fun s => validD s.data.toList) s = if 4096 < s.size then 3 else if validD s.data.toList = true then 0 else 1 from rfl)
  by_cases h1 : 4096 < s.size
  · have HN := hid (HN.out.trans (if_pos h1))
    have h1z : (4096 : Int) < (s.size : Int) := by omega
    go_enter Tryd.func83, Tryd.ntmps83
    go_wp2
    go_ret
    exact ⟨ret_int HN.out, Below.refl _ _⟩
  have HN := hid (HN.out.trans (if_neg h1))
  have h1z : (s.size : Int) ≤ 4096 := by omega
  have C := hid (rvalid_any s w (by omega))
  cases hv : validD s.data.toList
  all_goals
    rw [hv] at C HN
    have HN := hid HN.out
    clear hv
    go_enter Tryd.func83, Tryd.ntmps83
    go_wp2_with fail
    refine C.out.mono ?_
    rintro e w1 ⟨rfl, hb1⟩
    have HB := hid hb1
    clear hb1
    go_wp2
    go_ret
    exact ⟨ret_int (by rw [HN.out]; rfl), HB.out⟩
end Go.Proofs.YtedpdpcibkceeaaDoor
