import Derived.Test.YtpnogmicfomofaaGreatDoorEe
import Derived.Test.YtpnogmicfomofaaGreatDoorEv
/-
  Addresses: the reference's parse in plain Lean, and that the program's parse is the same. No program in sight. Conditions: those ahead of each theorem.
-/
namespace Go.Proofs.YtpnogmicfomofaaGreatDoor.Adr
open Go.RowKit Go.Sort Go.Lib Go.Maps
open Go.Lib (hid)
set_option linter.unusedVariables false
set_option linter.unusedSimpArgs false

theorem one_ok {l : List UInt8} (hne : l ≠ []) (h : (oneS l).1 = 0) : validD (oneS l).2.1 = true := by
  unfold oneS at *
  by_cases h92 : (l.getD 0 0).toNat = 92
  · rw [if_pos h92] at h ⊢
    by_cases he : (escS l.tail).1 ≠ 0
    · rw [if_pos he] at h; exact absurd h he
    · rw [if_neg he]; exact validD_enc _
  · rw [if_neg h92] at h ⊢
    by_cases hd : decR l = 0 ∨ (l.getD 0 0).toNat < 32 ∨ (l.getD 0 0).toNat = 127
    · rw [if_pos hd] at h; cases h
    · rw [if_neg hd]; exact validD_take hne (fun e => hd (Or.inl e))
theorem unqL_valid : ∀ (n : Nat) (l out : List UInt8), l.length ≤ n → validD out = true → (unqL l out).1 = 0 → validD (unqL l out).2.1 = true ∧ (unqL l out).2.1.length ≤ 4096
  | n, [], out, _, _, h => by rw [unqL_nil] at h; cases h
  | 0, c :: r, out, hl, _, _ => by simp at hl
  | n + 1, c :: r, out, hl, hv, h => by
    by_cases hc : c.toNat = 34
    · rw [unqL_quote c r out hc] at h ⊢
      by_cases h4 : 4096 < out.length
      · rw [if_pos h4] at h; cases h
      · rw [if_neg h4]; exact ⟨hv, Nat.le_of_not_lt h4⟩
    · by_cases h1 : (oneS (c :: r)).1 ≠ 0
      · rw [unqL_bad c r out hc h1] at h; exact absurd h h1
      · have h0 : (oneS (c :: r)).1 = 0 := Classical.not_not.1 h1
        rw [unqL, if_neg hc, if_neg h1] at h ⊢
        exact unqL_valid n _ _ (by rw [List.length_drop]; rw [List.length_cons] at hl; omega) (validD_both hv (one_ok (by simp) h0)) h
theorem unqS_valid {l : List UInt8} (h : (unqS l).1 = 0) : validD (unqS l).2.1 = true ∧ (unqS l).2.1.length ≤ 4096 := by
  unfold unqS at *
  by_cases h0 : l.length = 0
  · rw [if_pos h0] at h; cases h
  rw [if_neg h0] at h ⊢
  by_cases h1 : (l.getD 0 0).toNat ≠ 34
  · rw [if_pos h1] at h; cases h
  rw [if_neg h1] at h ⊢
  by_cases h2 : (unqL l.tail []).1 ≠ 0
  · rw [if_pos h2] at h; exact absurd h h2
  · rw [if_neg h2]; exact unqL_valid l.length _ _ (by rw [List.length_tail]; omega) validD_nil (Classical.not_not.1 h2)
theorem un8 {a b : UInt8} (h : a.toNat = b.toNat) : a = b := UInt8.toNat_inj.1 h
theorem hp_one {c : UInt8} {l : List UInt8} : Lib.hasPrefix l [c] = true ↔ ∃ t, l = c :: t := by
  cases l with
  | nil => simp [Lib.hasPrefix]
  | cons x t =>
    simp [Lib.hasPrefix]
    exact eq_comm
theorem trim_one (c : UInt8) (t : List UInt8) : Lib.trimPrefix (c :: t) [c] = t := by
  unfold Lib.trimPrefix
  rw [if_pos (hp_one.2 ⟨t, rfl⟩)]; rfl
theorem trim_no {l p : List UInt8} (h : Lib.hasPrefix l p = false) : Lib.trimPrefix l p = l := by
  unfold Lib.trimPrefix
  rw [if_neg (by rw [h]; simp)]
theorem trim_yes {l p : List UInt8} (h : Lib.hasPrefix l p = true) : Lib.trimPrefix l p = l.drop p.length := by
  unfold Lib.trimPrefix
  rw [if_pos h]

/-- The longest beginning of bytes of identifiers, what stands behind it, the longest beginning of digits. -/
def wdL (l : List UInt8) : List UInt8 := l.takeWhile fun c => wrd c.toNat
def wdD (l : List UInt8) : List UInt8 := l.dropWhile fun c => wrd c.toNat
def dgL (l : List UInt8) : List UInt8 := l.takeWhile fun c => dig c.toNat
/-- The reference's key: the key, what is left, whether it is right. -/
def keyR (l : List UInt8) : KeyT × List UInt8 × Bool :=
  if (l.getD 0 0).toNat ≠ 91 then ((0, 0, []), l, true)
  else if (l.getD 1 0).toNat = 34 then
    (if (unqS l.tail).1 ≠ 0 ∨ (l.getD ((unqS l.tail).2.2 + 1) 0).toNat ≠ 93 ∨ quo (unqS l.tail).2.1 ≠ l.tail.take (unqS l.tail).2.2 then ((0, 0, []), [], false)
     else ((2, 0, (unqS l.tail).2.1), l.drop ((unqS l.tail).2.2 + 2), true))
  else
    (if (numS (dgL l.tail)).2 ≠ 0 ∨ (l.getD ((dgL l.tail).length + 1) 0).toNat ≠ 93 then ((0, 0, []), [], false)
     else ((1, (numS (dgL l.tail)).1, []), l.drop ((dgL l.tail).length + 2), true))
theorem tw_app {α : Type} {p : α → Bool} : ∀ {a : List α} {c : α} {r : List α}, (∀ x ∈ a, p x = true) → p c = false → (a ++ c :: r).takeWhile p = a
  | [], c, r, _, hc => by rw [List.nil_append, List.takeWhile_cons, hc]; rfl
  | x :: a, c, r, h, hc => by rw [List.cons_append, List.takeWhile_cons, h x (by simp), if_pos rfl, tw_app (fun y hy => h y (by simp [hy])) hc]
theorem tw_all {α : Type} {p : α → Bool} : ∀ {a : List α}, ∀ x ∈ a.takeWhile p, p x = true
  | [], x, h => by simp at h
  | y :: a, x, h => by
    rw [List.takeWhile_cons] at h
    cases hy : p y with
    | false => rw [hy] at h; simp at h
    | true =>
      rw [hy, if_pos rfl] at h
      rcases List.mem_cons.1 h with rfl | h
      · exact hy
      · exact tw_all x h
theorem dw_all {α : Type} {p : α → Bool} : ∀ {a : List α}, (∀ x ∈ a, p x = true) → a.dropWhile p = []
  | [], _ => rfl
  | y :: a, h => by rw [List.dropWhile_cons, h y (by simp), if_pos rfl, dw_all (fun x hx => h x (by simp [hx]))]
theorem ib_app : ∀ {a : List UInt8} {c : UInt8} {r : List UInt8}, (∀ x ∈ a, x ≠ c) → Lib.indexByte (a ++ c :: r) c = (a.length : Nat)
  | [], c, r, _ => by simp [Lib.indexByte]
  | x :: a, c, r, h => by
    rw [List.cons_append, Lib.indexByte, ib_app (fun y hy => h y (by simp [hy]))]
    have hx : (x == c) = false := by simpa using h x (by simp)
    rw [hx]
    have : ¬ ((a.length : Int) == -1) = true := by intro e; have := eq_of_beq e; omega
    rw [if_neg (by simp), if_neg this]
    simp
theorem valL_pos {l : List UInt8} (h : digB l = true) (h2 : (l == [48]) = false) : 1 ≤ valL l := by
  obtain ⟨h1, hne, h3⟩ := digB_parts h
  cases l with
  | nil => exact absurd rfl hne
  | cons c r =>
    have hg := fold_ge r (10 * 0 + (c.toNat - 48))
    have hc := (dig_iff c.toNat).1 (by rw [List.all_cons, Bool.and_eq_true] at h1; exact h1.1)
    have hv : valL (c :: r) = r.foldl (fun n c => 10 * n + (c.toNat - 48)) (10 * 0 + (c.toNat - 48)) := by unfold valL; rw [fold_cons]
    rw [hv]
    rcases h3 with h3 | h3
    · have : c.toNat ≠ 48 := by simpa using h3
      omega
    · have hr : r = [] := List.length_eq_zero_iff.1 (by simpa using h3)
      subst hr
      have : c.toNat ≠ 48 := fun e => by
        have : c = 48 := un8 e
        subst this
        simp at h2
      omega
/-- A number that is not negative is of digits alone. -/
theorem num_dig {x : List UInt8} (h : (numS x).2 = 0) (h0 : ¬ (numS x).1 < 0) : ∀ c ∈ x, dig c.toNat = true := by
  unfold numS at *
  cases hc : canS x with
  | false => rw [hc, if_pos rfl] at h; cases h
  | true =>
    rw [hc, if_neg (by simp)] at h h0
    have hd := canS_dig hc
    by_cases hn : (x.getD 0 0).toNat = 45
    · exfalso
      have hlt : svS x < 0 := by
        unfold canS at hc
        rw [if_pos hn, Bool.and_eq_true] at hc
        have := valL_pos hc.1 (by simpa using hc.2)
        unfold svS tlS
        rw [if_pos hn, if_pos hn]
        omega
      by_cases h16 : 16 < (tlS x).length
      · rw [if_pos h16] at h; cases h
      rw [if_neg h16] at h h0
      by_cases hr : -9007199254740992 ≤ svS x ∧ svS x ≤ 9007199254740992
      · rw [if_pos hr] at h0; exact h0 hlt
      · rw [if_neg hr] at h; cases h
    · have ht : tlS x = x := by unfold tlS; rw [if_neg hn]
      rw [ht] at hd
      exact fun c hc2 => List.all_eq_true.1 (digB_parts hd).1 c hc2
theorem num_nn {x : List UInt8} (h : ∀ c ∈ x, dig c.toNat = true) (h2 : (numS x).2 = 0) : ¬ (numS x).1 < 0 := by
  unfold numS at *
  cases hc : canS x with
  | false => rw [if_pos rfl]; decide
  | true =>
    rw [hc, if_neg (by simp)] at h2
    rw [if_neg (by simp)]
    by_cases h16 : 16 < (tlS x).length
    · rw [if_pos h16]; decide
    rw [if_neg h16]
    by_cases hr : -9007199254740992 ≤ svS x ∧ svS x ≤ 9007199254740992
    · rw [if_pos hr]
      have hn : (x.getD 0 0).toNat ≠ 45 := by
        cases x with
        | nil => decide
        | cons c r => have := (dig_iff c.toNat).1 (h c (by simp)); simp; omega
      unfold svS
      rw [if_neg hn]
      simp only
      omega
    · rw [if_neg hr]; decide
theorem getD_cons0 (c : UInt8) (t : List UInt8) : (c :: t).getD 0 0 = c := rfl
theorem getD_93 {t : List UInt8} {n : Nat} (h : (t.getD n 0).toNat = 93) : ∃ r, t.drop n = 93 :: r ∧ n < t.length := by
  by_cases hn : n < t.length
  · refine ⟨t.drop (n + 1), ?_, hn⟩
    rw [List.drop_eq_getElem_cons hn]
    congr 1
    rw [List.getD_eq_getElem?_getD, List.getElem?_eq_getElem hn] at h
    exact un8 h
  · rw [List.getD_eq_getElem?_getD, List.getElem?_eq_none (by omega)] at h
    cases h
theorem drop_93 {t r : List UInt8} {n : Nat} (h : t.drop n = 93 :: r) : (t.getD n 0).toNat = 93 ∧ t.drop (n + 1) = r ∧ t = t.take n ++ 93 :: r := by
  have hg : t[n]? = some 93 := by
    have := congrArg (fun l => l[0]?) h
    simpa using this
  refine ⟨by rw [List.getD_eq_getElem?_getD, hg]; rfl, ?_, ?_⟩
  · rw [← List.tail_drop, h]; rfl
  · rw [← h, List.take_append_drop]
theorem skip_93 {l : List UInt8} (r : List UInt8) (bad : Bool) (h : l = 93 :: r) : skipP [93] l bad = (r, bad) := by
  subst h
  unfold skipP
  rw [trim_one, hp_one.2 ⟨r, rfl⟩]
  simp
theorem skip_bad {p l : List UInt8} (h : (skipP p l false).2 = false) : Lib.hasPrefix l p = true := by
  unfold skipP at h
  simpa using h
theorem key_no2 {l : List UInt8} (h : (l.getD 0 0).toNat ≠ 91) : keyP l false = ((0, 0, []), l, false) ∧ keyR l = ((0, 0, []), l, true) := by
  have hp : Lib.hasPrefix l [91] = false := by
    cases hp : Lib.hasPrefix l [91] with
    | false => rfl
    | true =>
      obtain ⟨t, rfl⟩ := hp_one.1 hp
      exact absurd rfl h
  refine ⟨?_, by unfold keyR; rw [if_pos h]⟩
  unfold keyP
  rw [if_neg (by simp), if_pos hp, trim_no hp]
/-- The program's key and the reference's. -/
theorem key_good {l : List UInt8} (h : (keyR l).2.2 = true) : keyP l false = ((keyR l).1, (keyR l).2.1, false) := by
  by_cases h91 : (l.getD 0 0).toNat ≠ 91
  · rw [(key_no2 h91).1, (key_no2 h91).2]
  obtain ⟨t, rfl⟩ : ∃ t, l = 91 :: t := by
    cases l with
    | nil => exact absurd (by decide) h91
    | cons c t => exact ⟨t, by rw [un8 (a := c) (b := 91) (Classical.not_not.1 h91)]⟩
  unfold keyR at *
  rw [if_neg h91] at h ⊢
  unfold keyP
  rw [if_neg (by simp), if_neg (by rw [hp_one.2 ⟨t, rfl⟩]; simp), trim_one]
  simp only [List.tail_cons, List.getD_cons_succ] at h ⊢
  by_cases h34 : (t.getD 0 0).toNat = 34
  · obtain ⟨u, rfl⟩ : ∃ u, t = 34 :: u := by
      cases t with
      | nil => cases h34
      | cons c u => exact ⟨u, by rw [un8 (a := c) (b := 34) h34]⟩
    rw [if_pos h34] at h ⊢
    rw [if_pos (hp_one.2 ⟨u, rfl⟩)]
    generalize (34 :: u : List UInt8) = t at *
    generalize unqS t = x at *
    by_cases hb : x.1 ≠ 0 ∨ (t.getD x.2.2 0).toNat ≠ 93 ∨ quo x.2.1 ≠ t.take x.2.2
    · rw [if_pos hb] at h; cases h
    rw [if_neg hb]
    rw [if_neg (fun e => hb (Or.inl e)), if_neg (fun e => hb (Or.inr (Or.inr e)))]
    obtain ⟨r, hr, _⟩ := getD_93 (Classical.not_not.1 fun e => hb (Or.inr (Or.inl e)))
    rw [skip_93 r _ hr, show (91 :: t).drop (x.2.2 + 2) = t.drop (x.2.2 + 1) from rfl, (drop_93 hr).2.1]
  · have hq : Lib.hasPrefix t [34] = false := by
      cases hq : Lib.hasPrefix t [34] with
      | false => rfl
      | true =>
        obtain ⟨u, rfl⟩ := hp_one.1 hq
        exact absurd rfl h34
    rw [if_neg h34] at h ⊢
    rw [if_neg (by rw [hq]; simp)]
    by_cases hb : (numS (dgL t)).2 ≠ 0 ∨ (t.getD (dgL t).length 0).toNat ≠ 93
    · rw [if_pos hb] at h; cases h
    rw [if_neg hb]
    obtain ⟨r, hr, _⟩ := getD_93 (Classical.not_not.1 fun e => hb (Or.inr e))
    have hd : ∀ c ∈ dgL t, dig c.toNat = true := fun c hc => tw_all (p := fun c : UInt8 => dig c.toNat) c hc
    have htk : t.take (dgL t).length = dgL t := by
      have := List.takeWhile_prefix (l := t) (fun c => dig c.toNat)
      exact (List.prefix_iff_eq_take.1 this).symm
    have h3 := (drop_93 hr).2.2
    rw [htk] at h3
    have hn : nmAt t = (dgL t).length := by
      unfold nmAt
      have := ib_app (a := dgL t) (c := 93) (r := r) (fun x hx e => by have := hd x hx; rw [e] at this; revert this; decide)
      rw [← h3] at this
      rw [this]
      omega
    have hv := Classical.not_not.1 fun e => hb (Or.inl e)
    rw [hn, htk, skip_93 r _ hr, show (91 :: t).drop ((dgL t).length + 2) = t.drop ((dgL t).length + 1) from rfl, (drop_93 hr).2.1]
    rw [decide_eq_false (fun e => e hv), decide_eq_false (num_nn hd hv)]
    rfl
theorem key_back {l : List UInt8} (h : (keyP l false).2.2 = false) : (keyR l).2.2 = true := by
  by_cases h91 : (l.getD 0 0).toNat ≠ 91
  · rw [(key_no2 h91).2]
  obtain ⟨t, rfl⟩ : ∃ t, l = 91 :: t := by
    cases l with
    | nil => exact absurd (by decide) h91
    | cons c t => exact ⟨t, by rw [un8 (a := c) (b := 91) (Classical.not_not.1 h91)]⟩
  unfold keyP at h
  rw [if_neg (by simp), if_neg (by rw [hp_one.2 ⟨t, rfl⟩]; simp), trim_one] at h
  unfold keyR
  rw [if_neg h91]
  simp only [List.tail_cons, List.getD_cons_succ] at h ⊢
  by_cases h34 : (t.getD 0 0).toNat = 34
  · obtain ⟨u, rfl⟩ : ∃ u, t = 34 :: u := by
      cases t with
      | nil => cases h34
      | cons c u => exact ⟨u, by rw [un8 (a := c) (b := 34) h34]⟩
    rw [if_pos h34]
    rw [if_pos (hp_one.2 ⟨u, rfl⟩)] at h
    generalize (34 :: u : List UInt8) = t at *
    generalize unqS t = x at *
    by_cases h1 : x.1 ≠ 0
    · rw [if_pos h1] at h; cases h
    rw [if_neg h1] at h
    by_cases h2 : quo x.2.1 ≠ t.take x.2.2
    · rw [if_pos h2] at h; cases h
    rw [if_neg h2] at h
    obtain ⟨r, hr⟩ := hp_one.1 (skip_bad h)
    rw [if_neg (by rintro (e | e | e); exact h1 e; exact e (drop_93 hr).1; exact h2 e)]
  · have hq : Lib.hasPrefix t [34] = false := by
      cases hq : Lib.hasPrefix t [34] with
      | false => rfl
      | true =>
        obtain ⟨u, rfl⟩ := hp_one.1 hq
        exact absurd rfl h34
    rw [if_neg h34]
    rw [if_neg (by rw [hq]; simp)] at h
    unfold skipP at h
    simp only [Bool.or_eq_false_iff, decide_eq_false_iff_not, Classical.not_not, Bool.not_eq_false'] at h
    obtain ⟨⟨h1, h2⟩, h3⟩ := h
    obtain ⟨r, hr⟩ := hp_one.1 h3
    have hd := num_dig h1 h2
    have ht := (drop_93 hr).2.2
    have hg : dgL t = t.take (nmAt t) := by
      have := tw_app (p := fun c : UInt8 => dig c.toNat) (c := 93) (r := r) hd (by decide)
      rw [← ht] at this
      exact this
    have hlen : (t.take (nmAt t)).length = nmAt t := by rw [List.length_take]; have := nmAt_le t; omega
    rw [hg, hlen, if_neg (by rintro (e | e); exact e h1; exact e (drop_93 hr).1)]
theorem key_same {l : List UInt8} (h : (keyP l false).2.2 = false) : (keyR l).2.2 = true ∧ keyP l false = ((keyR l).1, (keyR l).2.1, false) := ⟨key_back h, key_good (key_back h)⟩
/-- The program's word ends at a dot or a bracket, the reference's behind the bytes of identifiers. -/
theorem wd_cases : ∀ (l : List UInt8), (wdL l = l.take (dotN l) ∧ wdD l = l.drop (dotN l)) ∨ (idB (l.take (dotN l)) = false ∧ ∃ c r, wdD l = c :: r ∧ c.toNat ≠ 46 ∧ c.toNat ≠ 91)
  | [] => Or.inl ⟨rfl, rfl⟩
  | c :: l => by
    have hall : ∀ {x : List UInt8}, idB x = true → ∀ y ∈ x, wrd y.toNat = true := fun h y hy => by
      unfold idB at h
      simp only [Bool.and_eq_true, List.all_eq_true] at h
      exact h.2 y hy
    cases hx : [46, 91].contains c with
    | true =>
      have hd : dotN (c :: l) = 0 := by unfold dotN; rw [List.takeWhile_cons, hx]; rfl
      have hw : wrd c.toNat = false := by
        have : c = 46 ∨ c = 91 := by simpa using hx
        rcases this with rfl | rfl <;> decide
      left
      rw [hd]
      unfold wdL wdD
      rw [List.takeWhile_cons, List.dropWhile_cons, hw]
      exact ⟨rfl, rfl⟩
    | false =>
      have hd : dotN (c :: l) = dotN l + 1 := by unfold dotN; rw [List.takeWhile_cons, hx]; rfl
      have hc : c.toNat ≠ 46 ∧ c.toNat ≠ 91 := by
        constructor
        · intro e; rw [un8 (a := c) (b := 46) e] at hx; revert hx; decide
        · intro e; rw [un8 (a := c) (b := 91) e] at hx; revert hx; decide
      cases hw : wrd c.toNat with
      | false =>
        right
        refine ⟨?_, c, l, by unfold wdD; rw [List.dropWhile_cons, hw]; rfl, hc⟩
        cases hi : idB ((c :: l).take (dotN (c :: l))) with
        | false => rfl
        | true =>
          have := hall hi c (by rw [hd]; simp)
          rw [hw] at this; cases this
      | true =>
        rcases wd_cases l with ⟨h1, h2⟩ | ⟨h1, y, r, h2, h3⟩
        · left
          rw [hd]
          unfold wdL wdD at *
          rw [List.takeWhile_cons, List.dropWhile_cons, hw, if_pos rfl, if_pos rfl, h1, h2]
          exact ⟨rfl, rfl⟩
        · right
          refine ⟨?_, y, r, by unfold wdD at *; rw [List.dropWhile_cons, hw, if_pos rfl, h2], h3⟩
          cases hi : idB ((c :: l).take (dotN (c :: l))) with
          | false => rfl
          | true =>
            exfalso
            have hi2 := hall hi
            rw [hd] at hi2
            have h5 : ∀ z ∈ l.take (dotN l), wrd z.toNat = true := fun z hz => hi2 z (by simp [hz])
            have h6 : wdL l = wdL (l.take (dotN l) ++ l.drop (dotN l)) := by rw [List.take_append_drop]
            have h7 : wdD l = wdD (l.take (dotN l) ++ l.drop (dotN l)) := by rw [List.take_append_drop]
            have h8 : wdD (l.take (dotN l) ++ l.drop (dotN l)) = wdD (l.drop (dotN l)) := by
              unfold wdD
              rw [List.dropWhile_append]
              have : (l.take (dotN l)).dropWhile (fun c => wrd c.toNat) = [] := dw_all h5
              rw [this]; rfl
            rw [h7, h8] at h2
            have hq := (dotN_noany l).2
            cases hdr : l.drop (dotN l) with
            | nil => rw [hdr] at h2; cases h2
            | cons z zs =>
              have hz : l[dotN l]? = some z := by
                have := congrArg (fun l => l[0]?) hdr
                simpa using this
              have hz2 := hq z hz
              rw [hdr] at h2
              have hzw : wrd z.toNat = false := by
                have : z = 46 ∨ z = 91 := by simpa using hz2
                rcases this with rfl | rfl <;> decide
              unfold wdD at h2
              rw [List.dropWhile_cons, hzw] at h2
              have : z = y := by simpa using (List.cons.inj (by simpa using h2)).1
              subst this
              have : z = 46 ∨ z = 91 := by simpa using hz2
              rcases this with rfl | rfl
              · exact h3.1 rfl
              · exact h3.2 rfl
theorem keyP_true (l : List UInt8) : keyP l true = ((0, 0, []), l, true) := by unfold keyP; rw [if_pos rfl]
/-- The reference's step (what stands behind 'module.'). -/
def stR (l : List UInt8) : MS × List UInt8 × Bool := ((wdL l, (keyR (wdD l)).1), (keyR (wdD l)).2.1, (keyR (wdD l)).2.2 && idB (wdL l))
theorem st_back {l : List UInt8} (h : (stepP l false).2.2 = false) : (stR l).2.2 = true ∧ stepP l false = ((stR l).1, (stR l).2.1, false) := by
  unfold stepP at *
  cases hi : idB (l.take (dotN l)) with
  | false => rw [hi] at h; simp only [Bool.not_false, Bool.or_true] at h; rw [keyP_true] at h; cases h
  | true =>
    rw [hi] at h
    simp only [Bool.not_true, Bool.or_false] at h ⊢
    obtain ⟨k1, k2⟩ := key_same h
    rcases wd_cases l with ⟨e1, e2⟩ | ⟨e1, _⟩
    · unfold stR
      rw [e1, e2, k1, hi, k2]
      exact ⟨rfl, rfl⟩
    · rw [hi] at e1; cases e1
theorem st_good {l : List UInt8} (h : (stR l).2.2 = true) (h2 : (stR l).2.1 = [] ∨ ((stR l).2.1.getD 0 0).toNat = 46) : stepP l false = ((stR l).1, (stR l).2.1, false) := by
  rcases wd_cases l with ⟨e1, e2⟩ | ⟨e1, c, r, e2, e3, e4⟩
  · unfold stR at h
    rw [e1, e2] at h
    simp only [Bool.and_eq_true] at h
    unfold stepP stR
    rw [h.2, e1, e2]
    simp only [Bool.not_true, Bool.or_false]
    rw [key_good h.1]
  · exfalso
    unfold stR at h2
    rw [e2, (key_no2 (l := c :: r) e4).2] at h2
    rcases h2 with h2 | h2
    · cases h2
    · exact e3 h2
/-- The module steps at the beginning, and what is left (none: nothing was left behind a step); none: not right. -/
def modsR : Nat → List UInt8 → Option (List MS × Option (List UInt8))
  | 0, _ => none
  | n + 1, l => if Lib.hasPrefix l MODP = false then some ([], some l)
    else if (stR (l.drop 7)).2.2 = false then none
    else if (stR (l.drop 7)).2.1 = [] then some ([(stR (l.drop 7)).1], none)
    else if ((stR (l.drop 7)).2.1.getD 0 0).toNat ≠ 46 then none
    else (modsR n (stR (l.drop 7)).2.1.tail).map fun x => ((stR (l.drop 7)).1 :: x.1, x.2)
/-- What stands behind the module steps: data or not, the type, the name, the key. -/
def tlR (l : List UInt8) : Option (Bool × List UInt8 × List UInt8 × KeyT) :=
  if idB (wdL (Lib.trimPrefix l DATP)) = false ∨ rsv (wdL (Lib.trimPrefix l DATP)) = true ∨ ((wdD (Lib.trimPrefix l DATP)).getD 0 0).toNat ≠ 46 then none
  else if idB (wdL (wdD (Lib.trimPrefix l DATP)).tail) = false ∨ (keyR (wdD (wdD (Lib.trimPrefix l DATP)).tail)).2.2 = false ∨ (keyR (wdD (wdD (Lib.trimPrefix l DATP)).tail)).2.1 ≠ [] then none
  else some (Lib.hasPrefix l DATP, wdL (Lib.trimPrefix l DATP), wdL (wdD (Lib.trimPrefix l DATP)).tail, (keyR (wdD (wdD (Lib.trimPrefix l DATP)).tail)).1)
def Syn (t : TlT) : Prop := t.bad = true ∨ t.l ≠ [] ∨ kdB t.ty = false
theorem tlP_bad (l : List UInt8) : (tlP l true).bad = true := by
  unfold tlP
  simp only [Bool.true_or, skipP]
  rw [keyP_true]
theorem syn_or {t : TlT} (h : ¬ Syn t) : t.bad = false ∧ t.l = [] ∧ kdB t.ty = true := by
  unfold Syn at h
  refine ⟨?_, ?_, ?_⟩
  · cases hb : t.bad with
    | false => rfl
    | true => exact absurd (Or.inl hb) h
  · exact Classical.not_not.1 fun e => h (Or.inr (Or.inl e))
  · cases hb : kdB t.ty with
    | true => rfl
    | false => exact absurd (Or.inr (Or.inr hb)) h
theorem skip_46 {l : List UInt8} (h : (l.getD 0 0).toNat = 46) : skipP [46] l false = (l.tail, false) ∧ l ≠ [] := by
  cases l with
  | nil => cases h
  | cons c t =>
    rw [show c = 46 from un8 h]
    unfold skipP
    rw [trim_one, hp_one.2 ⟨t, rfl⟩]
    exact ⟨rfl, by simp⟩
theorem skip_46n {l : List UInt8} (b : Bool) (h : (l.getD 0 0).toNat ≠ 46) : (skipP [46] l b).2 = true := by
  unfold skipP
  cases hp : Lib.hasPrefix l [46] with
  | false => simp
  | true =>
    obtain ⟨t, rfl⟩ := hp_one.1 hp
    exact absurd rfl h
theorem tl_some {l : List UInt8} {d : Bool} {ty nm : List UInt8} {k : KeyT} (h : tlR l = some (d, ty, nm, k)) : tlP l false = ⟨d, ty, nm, k, [], false⟩ ∧ kdB ty = true := by
  unfold tlR at h
  unfold tlP
  generalize Lib.trimPrefix l DATP = l1 at *
  by_cases h1 : idB (wdL l1) = false ∨ rsv (wdL l1) = true ∨ ((wdD l1).getD 0 0).toNat ≠ 46
  · rw [if_pos h1] at h; cases h
  rw [if_neg h1] at h
  have i1 : idB (wdL l1) = true := by cases hx : idB (wdL l1) with | true => rfl | false => exact absurd (Or.inl hx) h1
  have i2 : rsv (wdL l1) = false := by cases hx : rsv (wdL l1) with | false => rfl | true => exact absurd (Or.inr (Or.inl hx)) h1
  have i3 : ((wdD l1).getD 0 0).toNat = 46 := Classical.not_not.1 fun e => h1 (Or.inr (Or.inr e))
  rcases wd_cases l1 with ⟨e1, e2⟩ | ⟨e1, c, r, e2, e3, e4⟩
  case inr => rw [e2] at i3; exact absurd i3 e3
  simp only [Bool.false_or]
  rw [← e1, ← e2]
  simp only [i1, Bool.not_true, Bool.or_false]
  rw [(skip_46 i3).1]
  generalize (wdD l1).tail = l2 at *
  by_cases h2 : idB (wdL l2) = false ∨ (keyR (wdD l2)).2.2 = false ∨ (keyR (wdD l2)).2.1 ≠ []
  · rw [if_pos h2] at h; cases h
  rw [if_neg h2] at h
  have j1 : idB (wdL l2) = true := by cases hx : idB (wdL l2) with | true => rfl | false => exact absurd (Or.inl hx) h2
  have j2 : (keyR (wdD l2)).2.2 = true := by cases hx : (keyR (wdD l2)).2.2 with | true => rfl | false => exact absurd (Or.inr (Or.inl hx)) h2
  have j3 : (keyR (wdD l2)).2.1 = [] := Classical.not_not.1 fun e => h2 (Or.inr (Or.inr e))
  rcases wd_cases l2 with ⟨f1, f2⟩ | ⟨f1, c, r, f2, f3, f4⟩
  case inr => rw [f2, (key_no2 (l := c :: r) f4).2] at j3; cases j3
  simp only [Bool.false_or]
  rw [← f1, ← f2]
  simp only [j1, Bool.not_true, Bool.or_false]
  rw [key_good j2, j3]
  cases h
  exact ⟨rfl, by unfold kdB; rw [i1, i2]; rfl⟩
theorem tl_none {l : List UInt8} (h : tlR l = none) : Syn (tlP l false) := by
  refine Classical.not_not.1 fun hs => ?_
  obtain ⟨s1, s2, s3⟩ := syn_or hs
  clear hs
  unfold tlR at h
  unfold tlP at s1 s2 s3
  generalize Lib.trimPrefix l DATP = l1 at *
  simp only [Bool.false_or] at s1 s2 s3
  unfold kdB at s3
  rw [Bool.and_eq_true] at s3
  rcases wd_cases l1 with ⟨e1, e2⟩ | ⟨e1, _⟩
  case inr => rw [e1] at s3; cases s3.1
  rw [← e1, ← e2] at s1 s2
  rw [← e1] at s3
  rw [s3.1] at s1 s2
  simp only [Bool.not_true] at s1 s2
  by_cases i3 : ((wdD l1).getD 0 0).toNat = 46
  · rw [(skip_46 i3).1] at s1 s2
    rw [if_neg (by rintro (e | e | e); rw [s3.1] at e; cases e; rw [e] at s3; cases s3.2; exact e i3)] at h
    generalize (wdD l1).tail = l2 at *
    simp only [Bool.false_or] at s1 s2
    cases j1 : idB (l2.take (dotN l2)) with
    | false => rw [j1] at s1; simp only [Bool.not_false] at s1; rw [keyP_true] at s1; cases s1
    | true =>
      rw [j1] at s1 s2
      simp only [Bool.not_true] at s1 s2
      rcases wd_cases l2 with ⟨f1, f2⟩ | ⟨f1, _⟩
      case inr => rw [j1] at f1; cases f1
      rw [← f2] at s1 s2
      rw [← f1] at j1
      obtain ⟨k1, k2⟩ := key_same s1
      rw [k2] at s2
      rw [if_neg (by rintro (e | e | e); rw [j1] at e; cases e; rw [k1] at e; cases e; exact e s2)] at h
      cases h
  · rw [skip_46n _ i3] at s1
    simp only [Bool.true_or] at s1
    rw [keyP_true] at s1
    cases s1
theorem modsP_true (n : Nat) (l : List UInt8) : modsP n l true = ([], l, true) := by
  cases n with
  | zero => rfl
  | succ n => exact modsP_bad n l
def allS (X : List MS × List UInt8 × Bool) : Prop := Syn (tlP X.2.1 X.2.2)
theorem all_bad {X : List MS × List UInt8 × Bool} (h : X.2.2 = true) : allS X := by
  unfold allS Syn
  rw [h]
  exact Or.inl (tlP_bad _)
/-- The program's parse and the reference's. -/
theorem mods_eq : ∀ (n : Nat) (l : List UInt8), l.length < n → match modsR n l with
    | none => allS (modsP n l false)
    | some (xs, none) => allS (modsP n l false)
    | some (xs, some r) => modsP n l false = (xs, r, false)
  | 0, l, h => by omega
  | n + 1, l, h => by
    unfold modsR
    cases hp : Lib.hasPrefix l MODP with
    | false =>
      rw [if_pos rfl]
      simp only
      rw [modsP_no n l hp, trim_no hp]
    | true =>
      rw [if_neg (by simp), modsP_yes n l hp, trim_yes hp, show MODP.length = 7 from rfl]
      have hlen := hp_len hp
      have hl7 : (l.drop 7).length < n := by rw [List.length_drop]; rw [show MODP.length = 7 from rfl] at hlen; omega
      generalize l.drop 7 = t at *
      cases ho : (stR t).2.2 with
      | false =>
        rw [if_pos rfl]
        simp only
        have hb : (stepP t false).2.2 = true := by
          cases hb : (stepP t false).2.2 with
          | true => rfl
          | false => have := (st_back hb).1; rw [ho] at this; cases this
        refine all_bad ?_
        rw [hb, show skipP [46] (stepP t false).2.1 true = (Lib.trimPrefix (stepP t false).2.1 [46], true) by unfold skipP; simp]
        simp only
        rw [modsP_true]
      | true =>
        rw [if_neg (by simp)]
        by_cases h0 : (stR t).2.1 = []
        · rw [if_pos h0]
          simp only
          rw [st_good ho (Or.inl h0), h0]
          refine all_bad ?_
          simp only
          rw [show skipP [46] [] false = ([], true) from rfl]
          simp only
          rw [modsP_true]
        rw [if_neg h0]
        by_cases h46 : ((stR t).2.1.getD 0 0).toNat ≠ 46
        · rw [if_pos h46]
          simp only
          refine all_bad ?_
          have hz : (skipP [46] (stepP t false).2.1 (stepP t false).2.2).2 = true := by
            cases hb : (stepP t false).2.2 with
            | true => unfold skipP; simp
            | false => rw [(st_back hb).2]; exact skip_46n _ h46
          generalize skipP [46] (stepP t false).2.1 (stepP t false).2.2 = z at *
          rw [hz]
          simp only
          rw [modsP_true]
        · rw [if_neg h46]
          have h46' := Classical.not_not.1 h46
          have hgd := st_good ho (Or.inr h46')
          have hsl := stepP_len t false
          rw [hgd] at hsl
          simp only at hsl
          rw [hgd]
          simp only
          rw [(skip_46 h46').1]
          simp only
          have hlt : (stR t).2.1.tail.length < n := by rw [List.length_tail]; omega
          have IH := mods_eq n (stR t).2.1.tail hlt
          cases hm : modsR n (stR t).2.1.tail with
          | none =>
            rw [hm] at IH
            exact IH
          | some x =>
            obtain ⟨xs, o⟩ := x
            rw [hm] at IH
            cases o with
            | none => exact IH
            | some r =>
              simp only [Option.map_some] at IH ⊢
              rw [IH]
/-- The reference's parse: the error; the module steps, data or not, the type, the name, the key. -/
def prR (l : List UInt8) : Option (List MS × Option (Bool × List UInt8 × List UInt8 × KeyT)) :=
  match modsR (l.length + 1) l with
  | none => none
  | some (xs, none) => some (xs, none)
  | some (xs, some r) => (tlR r).map fun t => (xs, some t)
def prE (l : List UInt8) : Int := match prR l with
  | some (xs, some _) => if 16 < xs.length then 4 else 0
  | _ => 2
theorem par_none {l : List UInt8} (h : ∀ xs t, prR l ≠ some (xs, some t)) : prE l = 2 ∧ parE (modsP (l.length + 1) l false).1 (tlP (modsP (l.length + 1) l false).2.1 (modsP (l.length + 1) l false).2.2) = 2 := by
  have hm := mods_eq (l.length + 1) l (Nat.lt_succ_self _)
  constructor
  · unfold prE
    cases hp : prR l with
    | none => rfl
    | some x =>
      obtain ⟨xs, o⟩ := x
      cases o with
      | none => rfl
      | some t => exact absurd hp (h xs t)
  · have hS : Syn (tlP (modsP (l.length + 1) l false).2.1 (modsP (l.length + 1) l false).2.2) := by
      unfold prR at h
      cases hr : modsR (l.length + 1) l with
      | none => rw [hr] at hm; exact hm
      | some x =>
        obtain ⟨xs, o⟩ := x
        rw [hr] at hm h
        cases o with
        | none => exact hm
        | some r =>
          simp only at hm h
          rw [hm]
          cases ht : tlR r with
          | none => exact tl_none ht
          | some t => rw [ht] at h; exact absurd rfl (h xs t)
    unfold parE
    unfold Syn at hS
    rw [if_pos hS]
theorem par_some {l : List UInt8} {xs : List MS} {d : Bool} {ty nm : List UInt8} {k : KeyT} (h : prR l = some (xs, some (d, ty, nm, k))) :
    prE l = (if 16 < xs.length then 4 else 0) ∧ (modsP (l.length + 1) l false).1 = xs ∧ tlP (modsP (l.length + 1) l false).2.1 (modsP (l.length + 1) l false).2.2 = ⟨d, ty, nm, k, [], false⟩ ∧ kdB ty = true ∧ parE (modsP (l.length + 1) l false).1 (tlP (modsP (l.length + 1) l false).2.1 (modsP (l.length + 1) l false).2.2) = prE l := by
  have hm := mods_eq (l.length + 1) l (Nat.lt_succ_self _)
  have hE : prE l = (if 16 < xs.length then 4 else 0) := by unfold prE; rw [h]
  unfold prR at h
  cases hr : modsR (l.length + 1) l with
  | none => rw [hr] at h; cases h
  | some x =>
    obtain ⟨ys, o⟩ := x
    rw [hr] at h hm
    cases o with
    | none => cases h
    | some r =>
      simp only at h hm
      cases ht : tlR r with
      | none => rw [ht] at h; cases h
      | some t =>
        rw [ht] at h
        cases h
        obtain ⟨h1, h2⟩ := tl_some ht
        refine ⟨hE, by rw [hm], by rw [hm]; exact h1, h2, ?_⟩
        rw [hE, hm]
        simp only
        rw [h1]
        unfold parE
        rw [if_neg (by simp [h2])]
theorem par_eq (l : List UInt8) : parE (modsP (l.length + 1) l false).1 (tlP (modsP (l.length + 1) l false).2.1 (modsP (l.length + 1) l false).2.2) = prE l := by
  by_cases h : ∃ xs t, prR l = some (xs, some t)
  · obtain ⟨xs, ⟨d, ty, nm, k⟩, h⟩ := h
    exact (par_some h).2.2.2.2
  · obtain ⟨h1, h2⟩ := par_none (l := l) (fun xs t e => h ⟨xs, t, e⟩)
    rw [h1, h2]
end Go.Proofs.YtpnogmicfomofaaGreatDoor.Adr
