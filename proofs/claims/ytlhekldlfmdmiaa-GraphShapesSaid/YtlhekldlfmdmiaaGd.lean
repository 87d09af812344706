import Derived.Test.YtlhekldlfmdmiaaRw
import Derived.Test.YtlhekldlfmdmiaaPo
import Derived.Test.YtlhekldlfmdmiaaShelf
import Derived.Test.YtlhekldlfmdmiaaSortl
import Derived.Deep.RegionHeld3
import Derived.Deep.DrawnRows
/-
  The program's compare. Conditions: those ahead of each theorem.
-/
namespace Go.Proofs.Ytlhekldlfmdmiaa
open Go.RowKit Go.Sort Go.Lib
open Go.Lib (hid)
set_option linter.unusedVariables false
set_option linter.unusedSimpArgs false

def cmpS (a b : ByteArray) : Int := if a.data.toList < b.data.toList then -1 else if b.data.toList < a.data.toList then 1 else 0
def Tri (x : Int) : Prop := x = -1 ∨ x = 0 ∨ x = 1
theorem cmpS_tri (a b : ByteArray) : Tri (cmpS a b) := by unfold cmpS Tri; split <;> (try split) <;> simp
theorem lt_asymmL {a b : List UInt8} (h : a < b) : ¬ b < a := List.lt_asymm h
theorem cmpS_anti (a b : ByteArray) : cmpS b a = -cmpS a b := by
  unfold cmpS
  by_cases h1 : a.data.toList < b.data.toList
  · have h2 := lt_asymmL h1
    simp [h1, h2]
  · by_cases h2 : b.data.toList < a.data.toList
    · simp [h1, h2]
    · simp [h1, h2]
theorem cmpS_self (a : ByteArray) : cmpS a a = 0 := by unfold cmpS; have := List.lt_irrefl a.data.toList; simp [this]
theorem cmpS_zero {a b : ByteArray} : cmpS a b = 0 ↔ a = b := by
  constructor
  · intro h
    unfold cmpS at h
    split at h
    · omega
    · split at h
      · omega
      · rename_i h1 h2
        exact ba_ext (List.le_antisymm (List.not_lt.1 h2) (List.not_lt.1 h1))
  · rintro rfl; exact cmpS_self a

theorem cmpB_list : ∀ (a b : List UInt8), compareBytes a b = if a < b then -1 else if b < a then 1 else 0
  | [], [] => by simp [compareBytes]
  | [], _ :: _ => by simp [compareBytes]
  | _ :: _, [] => by simp [compareBytes]
  | x :: a, y :: b => by
    rw [compareBytes, cmpB_list a b]
    simp only [List.cons_lt_cons_iff]
    by_cases h1 : x < y
    · rw [if_pos h1, if_pos (.inl h1)]
    · rw [if_neg h1]
      by_cases h2 : y < x
      · have hne : x ≠ y := fun e => h1 (by rw [e] at h2 ⊢; exact h2)
        rw [if_pos h2, if_neg (fun h => h.elim h1 fun h => hne h.1), if_pos (.inl h2)]
      · rw [if_neg h2]
        have e : x = y := UInt8.le_antisymm (UInt8.not_lt.1 h2) (UInt8.not_lt.1 h1)
        subst e
        by_cases h3 : a < b
        · rw [if_pos h3, if_pos (.inr ⟨rfl, h3⟩)]
        · have e1 : ¬ (x < x ∨ x = x ∧ a < b) := fun h => h.elim h1 fun h => h3 h.2
          rw [if_neg h3, if_neg (c := x < x ∨ x = x ∧ a < b) e1]
          by_cases h4 : b < a
          · rw [if_pos h4, if_pos (.inr ⟨rfl, h4⟩)]
          · rw [if_neg h4, if_neg (fun h => h.elim h1 fun h => h4 h.2)]
theorem cmpS_bytes (a b : ByteArray) : compareBytes a.data.toList b.data.toList = cmpS a b := cmpB_list _ _
theorem scmp_any (a b : ByteArray) (w : World) : Calls Try.prog 63 #[.string a, .string b] w fun e w' => e = .returned (.int .i64 (cmpS a b)) ∧ w = w' := by
  rw [← cmpS_bytes]
  exact (Try.strings_Compare a b w).mono fun e w' ⟨h1, h2⟩ => ⟨h1, h2.symm⟩

def fstNZ : List Int → Int
  | [] => 0
  | x :: xs => if x ≠ 0 then x else fstNZ xs
theorem fstNZ_stop {xs : List Int} {k : Nat} (h : k < xs.length) (hz : ∀ i (hi : i < xs.length), i < k → xs[i] = 0) (hx : xs[k] ≠ 0) : fstNZ xs = xs[k] := by
  induction xs generalizing k with
  | nil => simp at h
  | cons x xs ih =>
    cases k with
    | zero => rw [fstNZ, if_pos (show x ≠ 0 from hx)]; rfl
    | succ k =>
      have h0 : x = 0 := hz 0 (by simp) (by omega)
      rw [fstNZ, if_neg (by simpa using h0)]
      exact ih (by simpa using h) (fun i hi hik => hz (i + 1) (by simpa using hi) (by omega)) hx
theorem fstNZ_zero {xs : List Int} (hz : ∀ i (hi : i < xs.length), xs[i] = 0) : fstNZ xs = 0 := by
  induction xs with
  | nil => rfl
  | cons x xs ih =>
    have h0 : x = 0 := hz 0 (by simp)
    rw [fstNZ, if_neg (by simpa using h0)]
    exact ih fun i hi => hz (i + 1) (by simpa using hi)
theorem int_at {w : World} {r : Option Addr} {n c : Nat} {xs : List Int} (h : Sl IntR 1 w (.slice r n c) xs) (i : Nat) (hi : i < xs.length) :
    ∃ b off, r = some ⟨b, off, none⟩ ∧ b < w.heap.size ∧ w.cell? ⟨b, off + i, none⟩ = some (.int .i64 xs[i]) ∧ -9223372036854775808 ≤ xs[i] ∧ xs[i] ≤ 9223372036854775807 := by
  obtain ⟨r', c', e, h1, h2, he⟩ := h
  simp at e
  obtain ⟨rfl, rfl, rfl⟩ := e
  obtain ⟨b, off, cs, hr, _, hc, hR, hs⟩ := he i hi
  have g0 := hc 0 _ hR
  simp only [Nat.add_zero, Nat.mul_one] at g0
  exact ⟨b, off, hr, World.block_lt_of_cell? w _ g0, g0, hs⟩
set_option maxRecDepth 100000 in
theorem or_any (xs : List Int) (r : Option Addr) (c : Nat) (w : World) (h : Sl IntR 1 w (.slice r xs.length c) xs) :
    Calls Try.prog 62 #[.slice r xs.length c] w fun e w' => e = .returned (.int .i64 (fstNZ xs)) ∧ w = w' := by
  obtain ⟨_, hlc, hcm⟩ := sl_len h
  have HI := hid h
  clear h
  go_enter Try.func62, Try.ntmps62
  go_wp2
  go_loopg [8] xs.length (fun gg s8 wr => ∃ k : Nat, k ≤ xs.length ∧ xs.length - k ≤ gg ∧ s8 = .int .i64 k ∧ Aside (w = wr) ∧ Aside (∀ i (hi : i < xs.length), i < k → xs[i] = 0))
  case atStart => exact ⟨0, Nat.zero_le _, by omega, rfl, rfl, fun i _ h => absurd h (by omega)⟩
  case round =>
    obtain ⟨k, hk, hg, rfl, BW, AL⟩ := hrel
    obtain rfl : w = wr := BW.out
    by_cases hlt : k < xs.length
    case pos =>
      have hltz : (k : Int) < (xs.length : Int) := by omega
      obtain ⟨b, off, rfl, hb, g0, _, _⟩ := int_at HI.out k hlt
      by_cases hz : xs[k] = 0
      · have AL2 := hid (show ∀ i (hi : i < xs.length), i < k + 1 → xs[i] = 0 from fun i hi hik => by
          by_cases e : i < k
          · exact AL.out i hi e
          · obtain rfl : i = k := by omega
            exact hz)
        rw [hz] at g0
        clear AL hz BW
        go_wp2
        go_roundg (xs.length - (k + 1))
        case measure => omega
        case rel => exact ⟨k + 1, by omega, by omega, by go_num, rfl, AL2.out⟩
      · have HF := hid (fstNZ_stop hlt AL.out hz)
        generalize xs[k] = y at *
        have e1 : (y != 0) = true := by simpa using hz
        have e2 : (y == 0) = false := by simpa using hz
        clear AL hz BW
        go_wp2
        go_ret
        exact ⟨ret_int HF.out, rfl⟩
    case neg =>
      have hltz : ¬ (k : Int) < (xs.length : Int) := by omega
      have HF := hid (fstNZ_zero (xs := xs) fun i hi => AL.out i hi (by omega))
      clear AL BW
      go_wp2
      go_ret
      exact ⟨ret_int HF.out, rfl⟩

theorem sl_two {w : World} {B T : Nat} {a b : Int} (h : w.heap[B]? = some (.cells #[.int .i64 a, .int .i64 b] T (0, 0))) (ha : -9223372036854775808 ≤ a ∧ a ≤ 9223372036854775807) (hb : -9223372036854775808 ≤ b ∧ b ≤ 9223372036854775807) :
    Sl IntR 1 w (.slice (some ⟨B, 0, none⟩) 2 2) [a, b] := by
  refine ⟨some ⟨B, 0, none⟩, 2, rfl, by simp, by simp [maxLen], fun i hi => ⟨B, 0, [.int .i64 ([a, b][i])], rfl, rfl, fun j u hj => ?_, rfl, ?_⟩⟩
  · cases j with
    | zero =>
      simp at hj; subst hj
      unfold World.cell?
      simp only [h]
      simp at hi
      rcases (show i = 0 ∨ i = 1 by omega) with rfl | rfl <;> rfl
    | succ j => simp at hj
  · simp at hi
    rcases (show i = 0 ∨ i = 1 by omega) with rfl | rfl
    · exact ha
    · exact hb
def cmpE (a b : Ed) : Int := fstNZ [cmpS a.1 b.1, cmpS a.2 b.2]
theorem cmpS_lt {a b : ByteArray} : cmpS a b < 0 ↔ ltB a b = true := by
  rw [ltB_iff]
  unfold cmpS
  by_cases h1 : a.data.toList < b.data.toList
  · simp [h1]
  · rw [if_neg h1]
    by_cases h2 : b.data.toList < a.data.toList <;> simp [h1, h2]
theorem cmpE_lt {a b : Ed} : cmpE a b < 0 ↔ lessE a b = true := by
  unfold cmpE lessE fstNZ fstNZ fstNZ
  simp only [Bool.or_eq_true, Bool.and_eq_true, decide_eq_true_eq, ← cmpS_lt]
  by_cases h : cmpS a.1 b.1 = 0
  · have := cmpS_zero.1 h
    rw [if_neg (by simpa using h)]
    by_cases h2 : cmpS a.2 b.2 = 0
    · rw [if_neg (by simpa using h2)]
      constructor
      · intro hh; omega
      · rintro (hh | ⟨_, hh⟩) <;> omega
    · rw [if_pos h2]
      constructor
      · intro hh; exact Or.inr ⟨this, hh⟩
      · rintro (hh | ⟨_, hh⟩)
        · omega
        · exact hh
  · rw [if_pos h]
    have : a.1 ≠ b.1 := fun e => h (cmpS_zero.2 e)
    simp [this]
theorem cmpE_eq (a b : Ed) : ltOf cmpE a b = lessE a b := by
  unfold ltOf
  rw [Bool.eq_iff_iff, decide_eq_true_eq]; exact cmpE_lt
theorem cmpE_ge (a b : Ed) : decide (0 ≤ cmpE a b) = !lessE a b := by
  rw [Bool.eq_iff_iff]
  simp only [decide_eq_true_eq, Bool.not_eq_true']
  rw [← Bool.not_eq_true, ← cmpE_lt]; omega
theorem cmpE_bd (a b : Ed) : -9223372036854775808 ≤ cmpE a b ∧ cmpE a b ≤ 9223372036854775807 := by
  have h1 := cmpS_tri a.1 b.1
  have h2 := cmpS_tri a.2 b.2
  unfold Tri at h1 h2
  unfold cmpE fstNZ fstNZ fstNZ
  split
  · omega
  · split <;> omega

set_option maxRecDepth 100000 in
set_option maxHeartbeats 4000000 in
theorem compare_any (a b : Ed) (w : World) :
    Calls Try.prog 49 #[.agg (encE a).toArray, .agg (encE b).toArray] w fun e w' => e = .returned (.int .i64 (cmpE a b)) ∧ ∃ q os, w' = grow (w.drewN q) os := by
  obtain ⟨a1, a2⟩ := a
  obtain ⟨b1, b2⟩ := b
  have CS1 := hid (fun W => scmp_any a1 b1 W)
  have CS2 := hid (fun W => scmp_any a2 b2 W)
  have TA := hid (show -9223372036854775808 ≤ cmpS a1 b1 ∧ cmpS a1 b1 ≤ 9223372036854775807 by have := cmpS_tri a1 b1; unfold Tri at this; omega)
  have TB := hid (show -9223372036854775808 ≤ cmpS a2 b2 ∧ cmpS a2 b2 ≤ 9223372036854775807 by have := cmpS_tri a2 b2; unfold Tri at this; omega)
  have HR := hid (show cmpE (a1, a2) (b1, b2) = fstNZ [cmpS a1 b1, cmpS a2 b2] from rfl)
  generalize cmpE (a1, a2) (b1, b2) = R at *
  generalize cmpS a1 b1 = A at *
  generalize cmpS a2 b2 = B at *
  show Calls Try.prog 49 #[.agg #[.string a1, .string a2], .agg #[.string b1, .string b2]] w _
  go_enter Try.func49, Try.ntmps49
  go_wp2
  generalize hW0 : ((w.alloc (.cells #[.string a1, .string a2] 43)).alloc (.cells #[.string b1, .string b2] 43)) = W0 at *
  have z0 : W0.cell? ⟨w.heap.size, 0, none⟩ = some (.string a1) := by rw [← hW0]; exact (bget ((Below.refl _ _).alloc (Nat.le_refl _) _) (cell_at rfl rfl))
  have z1 : W0.cell? ⟨w.heap.size, 1, none⟩ = some (.string a2) := by rw [← hW0]; exact (bget ((Below.refl _ _).alloc (Nat.le_refl _) _) (cell_at rfl rfl))
  have z2 : W0.cell? ⟨w.heap.size + 1, 0, none⟩ = some (.string b1) := by rw [← hW0]; exact cell_at (by simp) rfl
  have z3 : W0.cell? ⟨w.heap.size + 1, 1, none⟩ = some (.string b2) := by rw [← hW0]; exact cell_at (by simp) rfl
  have HW := hid hW0
  clear hW0
  go_region_held3 (fun w' => w'.cell? ⟨w.heap.size, 0, none⟩ = some (.string a1) ∧ w'.cell? ⟨w.heap.size, 1, none⟩ = some (.string a2) ∧ w'.cell? ⟨w.heap.size + 1, 0, none⟩ = some (.string b1) ∧ w'.cell? ⟨w.heap.size + 1, 1, none⟩ = some (.string b2))
    (go_keep)
    (first | (go_at_call 63; first | (refine (CS1.out _).mono ?_; rintro e w1 ⟨rfl, rfl⟩) | (refine (CS2.out _).mono ?_; rintro e w1 ⟨rfl, rfl⟩)) | (go_at_call 62; refine (or_any [A, B] _ _ _ (sl_two (by exact (MapKept.heap_alloc W0 _).1) TA.out TB.out)).mono ?_; rintro e w1 ⟨rfl, rfl⟩; rw [← HR.out]))
  all_goals
    go_wp2
    go_ret
    refine ⟨rfl, 1, #[.cells #[.string a1, .string a2] 43, .cells #[.string b1, .string b2] 43, .cells #[.int .i64 A, .int .i64 B] 3], ?_⟩
    rw [← HW.out]
    simp only [alloc_eq_grow, grow_grow]
    rfl
end Go.Proofs.Ytlhekldlfmdmiaa
