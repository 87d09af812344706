/-
  The plain law of AuditSound: a run in order is accepted, and it is rejected after the exchange; no program in sight. No conditions beyond those ahead of each theorem.
-/
import Derived.Test.YtdmcceekaopghaaSteps
import Derived.Test.YtdmcceekaopghaaPl52
namespace Go.Proofs.Ytdmcceekaopghaa

def good (ns : List (List Int)) : Prop := ∀ (i : Nat) (h : i < ns.length), ∀ q ∈ ns[i], 0 ≤ q ∧ q < (i : Int)
def evs (n : Nat) : List Ev := (List.range n).flatMap fun (i : Nat) => [evOf 1 (i : Int), evOf 3 (i : Int)]
def tl (n i : Nat) : List Tal := (List.range n).map fun j => if j < i then ⟨2, false, true⟩ else t0
def tlb (n i : Nat) : List Tal := (List.range n).map fun j => if j < i then ⟨2, false, true⟩ else if j = i then ⟨1, true, false⟩ else t0

theorem evs_succ (n : Nat) : evs (n + 1) = evs n ++ [evOf 1 (n : Int), evOf 3 (n : Int)] := by simp [evs, List.range_succ]
theorem evs_len (n : Nat) : (evs n).length = 2 * n := by
  induction n with
  | zero => rfl
  | succ n ih => rw [evs_succ]; simp [ih]; omega
theorem evs_take (n k : Nat) (h : k ≤ n) : (evs n).take (2 * k) = evs k := by
  induction n with
  | zero => obtain rfl : k = 0 := by omega
            rfl
  | succ n ih =>
    by_cases hk : k = n + 1
    · subst hk; rw [List.take_of_length_le]; rw [evs_len]; exact Nat.le_refl _
    · rw [evs_succ, List.take_append_of_le_length (by rw [evs_len]; omega)]
      exact ih (by omega)
theorem evs_get (n k : Nat) (h : k < n) : (evs n)[2 * k]? = some (evOf 1 (k : Int)) ∧ (evs n)[2 * k + 1]? = some (evOf 3 (k : Int)) := by
  induction n with
  | zero => omega
  | succ n ih =>
    rw [evs_succ]
    by_cases hk : k = n
    · subst hk
      constructor
      · rw [List.getElem?_append_right (by rw [evs_len]; omega), evs_len]; simp
      · rw [List.getElem?_append_right (by rw [evs_len]; omega), evs_len]
        rw [show 2 * k + 1 - 2 * k = 1 by omega]; rfl
    · rw [List.getElem?_append_left (by rw [evs_len]; omega), List.getElem?_append_left (by rw [evs_len]; omega)]
      exact ih (by omega)

theorem mkSt_get {ns : List (List Int)} {i : Nat} (h : i < ns.length) : (mkSt ns).getD i s0 = ⟨(i : Int), 1, ns[i]⟩ := by
  simp [mkSt, List.getD_eq_getElem?_getD, h]
theorem mkSt_len (ns : List (List Int)) : (mkSt ns).length = ns.length := by simp [mkSt]
theorem tl_get {n i j : Nat} (h : j < n) : (tl n i).getD j t0 = if j < i then ⟨2, false, true⟩ else t0 := by
  simp [tl, List.getD_eq_getElem?_getD, h]
theorem tlb_get {n i j : Nat} (h : j < n) : (tlb n i).getD j t0 = if j < i then ⟨2, false, true⟩ else if j = i then ⟨1, true, false⟩ else t0 := by
  simp [tlb, List.getD_eq_getElem?_getD, h]

theorem good_ok {ns : List (List Int)} (h : good ns) : okNeeds (mkSt ns) = true := by
  unfold okNeeds
  rw [List.all_eq_true]
  intro s hs
  rw [List.all_eq_true]
  intro q hq
  obtain ⟨i, hi, rfl⟩ := List.mem_iff_getElem.1 hs
  rw [mkSt_len] at hi
  have e : ((mkSt ns)[i]'(by rw [mkSt_len]; exact hi)).needs = ns[i] := by simp [mkSt, hi]
  rw [e] at hq
  obtain ⟨h1, h2⟩ := h i hi q hq
  rw [mkSt_len]
  simp; omega

theorem begin_ok {ns : List (List Int)} (h : good ns) {i : Nat} (hi : i < ns.length) : okE (mkSt ns) (tl ns.length i) (evOf 1 (i : Int)) = true := by
  have hn : nxt (mkSt ns) (tl ns.length i) 1 i = true := by
    unfold nxt
    have e : (tl ns.length i).getD i t0 = t0 := by rw [tl_get hi, if_neg (by omega)]
    rw [if_neg (by omega), e, if_neg (show ¬ 0 < t0.ev by decide), if_neg (by omega), mkSt_get hi]
    rw [List.all_eq_true]
    intro q hq
    obtain ⟨h1, h2⟩ := h i hi q hq
    rw [tl_get (by omega), if_pos (by omega)]
  unfold okE evOf
  simp only [Int.toNat_natCast, mkSt_len, hn, mkSt_get hi]
  simp; omega

theorem begin_upd {n i : Nat} (hi : i < n) : upd (tl n i) (evOf 1 (i : Int)) = tlb n i := by
  unfold upd evOf
  simp only [Int.toNat_natCast]
  rw [tl_get hi, if_neg (by omega)]
  apply List.ext_getElem
  · simp [tl, tlb]
  · intro j h1 h2
    rw [List.getElem_set]
    by_cases hj : i = j
    · subst hj; simp [tlb, t0]
    · rw [if_neg hj]
      simp only [tl, tlb, List.getElem_map, List.getElem_range]
      by_cases hl : j < i
      · simp [hl]
      · simp [hl, show ¬ j = i by omega]

theorem done_ok {ns : List (List Int)} {i : Nat} (hi : i < ns.length) : okE (mkSt ns) (tlb ns.length i) (evOf 3 (i : Int)) = true := by
  have hn : nxt (mkSt ns) (tlb ns.length i) 3 i = true := by
    unfold nxt
    rw [if_pos (by omega), tlb_get hi, if_neg (by omega), if_pos rfl]
  unfold okE evOf
  simp only [Int.toNat_natCast, mkSt_len, hn, mkSt_get hi]
  simp; omega

theorem done_upd {n i : Nat} (hi : i < n) : upd (tlb n i) (evOf 3 (i : Int)) = tl n (i + 1) := by
  unfold upd evOf
  simp only [Int.toNat_natCast]
  rw [tlb_get hi, if_neg (by omega), if_pos rfl]
  apply List.ext_getElem
  · simp [tl, tlb]
  · intro j h1 h2
    rw [List.getElem_set]
    by_cases hj : i = j
    · subst hj; simp [tl]
    · rw [if_neg hj]
      simp only [tl, tlb, List.getElem_map, List.getElem_range]
      by_cases hl : j < i
      · simp [hl, show j < i + 1 by omega]
      · simp [hl, show ¬ j = i by omega, show ¬ j < i + 1 by omega]

theorem run_cons (ss : List St) (ts : List Tal) (e : Ev) (l : List Ev) (hc : cnt e.kind = true) (ho : okE ss ts e = true) : run ss ts (e :: l) = run ss (upd ts e) l := by
  simp [run, hc, ho]

theorem run_two {ns : List (List Int)} (h : good ns) {i : Nat} (hi : i < ns.length) (rest : List Ev) :
    run (mkSt ns) (tl ns.length i) (evOf 1 (i : Int) :: evOf 3 (i : Int) :: rest) = run (mkSt ns) (tl ns.length (i + 1)) rest := by
  rw [run_cons _ _ _ _ rfl (begin_ok h hi), begin_upd hi, run_cons _ _ _ _ rfl (done_ok hi), done_upd hi]

theorem run_pref {ns : List (List Int)} (h : good ns) : ∀ (i : Nat), i ≤ ns.length → ∀ rest, run (mkSt ns) (tl ns.length 0) (evs i ++ rest) = run (mkSt ns) (tl ns.length i) rest
  | 0, _, rest => rfl
  | i + 1, hi, rest => by
    rw [evs_succ, List.append_assoc, run_pref h i (by omega)]
    exact run_two h (by omega) rest

theorem tl_zero (n : Nat) : tl n 0 = List.replicate n t0 := by
  apply List.ext_getElem
  · simp [tl]
  · intro j h1 h2; simp [tl]

theorem sound_ok {ns : List (List Int)} (h : good ns) : ord (mkSt ns) (evs ns.length) = 0 := by
  unfold ord ordRun
  rw [good_ok h, if_pos rfl, mkSt_len, ← tl_zero]
  have := run_pref h ns.length (Nat.le_refl _) []
  rw [List.append_nil] at this
  rw [this]
  rfl

def swapped (n k m : Nat) : List Ev := ((evs n).set (2 * k + 1) (evOf 1 (m : Int))).set (2 * m) (evOf 3 (k : Int))
theorem swapped_eq {n k m : Nat} (hkm : k < m) (hm : m < n) : swapped n k m = evs k ++ evOf 1 (k : Int) :: evOf 1 (m : Int) :: (swapped n k m).drop (2 * k + 2) := by
  have hl : (swapped n k m).length = 2 * n := by simp [swapped, evs_len]
  have h1 : (swapped n k m).take (2 * k) = evs k := by
    unfold swapped
    rw [List.take_set_of_le (by omega), List.take_set_of_le (by omega), evs_take n k (by omega)]
  have h2 : (swapped n k m)[2 * k]? = some (evOf 1 (k : Int)) := by
    unfold swapped
    rw [List.getElem?_set_ne (by omega), List.getElem?_set_ne (by omega)]
    exact (evs_get n k (by omega)).1
  have h3 : (swapped n k m)[2 * k + 1]? = some (evOf 1 (m : Int)) := by
    unfold swapped
    rw [List.getElem?_set_ne (by omega), List.getElem?_set_self (by rw [evs_len]; omega)]
  conv => lhs; rw [← List.take_append_drop (2 * k) (swapped n k m)]
  rw [h1]
  congr 1
  rw [List.drop_eq_getElem_cons (by omega), List.drop_eq_getElem_cons (by omega)]
  rw [List.getElem?_eq_getElem (by omega)] at h2 h3
  rw [Option.some.inj h2, Option.some.inj h3]

theorem sound_bad {ns : List (List Int)} (h : good ns) {k m : Nat} (hm : m < ns.length) (hk : (k : Int) ∈ ns[m]) : ord (mkSt ns) (swapped ns.length k m) = 36 := by
  have hkm : k < m := by have := (h m hm _ hk).2; omega
  unfold ord ordRun
  rw [good_ok h, if_pos rfl, mkSt_len, ← tl_zero, swapped_eq hkm hm, run_pref h k (by omega), run_cons _ _ _ _ rfl (begin_ok h (by omega)), begin_upd (by omega)]
  have hbad : okE (mkSt ns) (tlb ns.length k) (evOf 1 (m : Int)) = false := by
    have hn : nxt (mkSt ns) (tlb ns.length k) 1 m = false := by
      unfold nxt
      have e : (tlb ns.length k).getD m t0 = t0 := by rw [tlb_get hm, if_neg (by omega), if_neg (by omega)]
      rw [if_neg (by omega), e, if_neg (show ¬ 0 < t0.ev by decide), if_neg (by omega), mkSt_get hm]
      rw [List.all_eq_false]
      refine ⟨_, hk, ?_⟩
      simp only [Int.toNat_natCast]
      rw [tlb_get (by omega), if_neg (by omega), if_pos rfl]
      simp
    unfold okE evOf
    simp only [Int.toNat_natCast, hn]
    simp
  rw [show run (mkSt ns) (tlb ns.length k) (evOf 1 (m : Int) :: (swapped ns.length k m).drop (2 * k + 2)) = false by simp [run, hbad, show cnt (evOf 1 (m : Int)).kind = true from rfl]]
  simp
end Go.Proofs.Ytdmcceekaopghaa
