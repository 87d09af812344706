/-
  The plain law of layer 52: the two texts of Order agree; prefixes; no program in sight. No conditions beyond those ahead of each theorem.
-/
import Derived.Test.YtdmcceekaopghaaOrdR
namespace Go.Proofs.Ytdmcceekaopghaa

def Inv (n : Nat) (ts : List Tal) (p : List Ev) : Prop :=
  ts.length = n ∧ ∀ k, k < n → 0 ≤ (ts.getD k t0).ev ∧ (0 < (ts.getD k t0).ev ↔ lst k 0 p ≠ 0) ∧ (ts.getD k t0).opn = (lst k 0 p == 1) ∧ (ts.getD k t0).dn = (lst k 0 p == 3)

theorem inv_start (n : Nat) : Inv n (List.replicate n t0) [] := by
  refine ⟨by simp, fun k hk => ?_⟩
  have : (List.replicate n t0).getD k t0 = t0 := by simp [hk]
  rw [this]
  simp [t0, lst]

theorem lst_snoc (s : Int) (p : List Ev) (e : Ev) : lst s 0 (p ++ [e]) = if e.step = s ∧ cnt e.kind = true then e.kind else lst s 0 p := by
  rw [lst_append]; rfl

theorem inv_skip {n : Nat} {ts : List Tal} {p : List Ev} (h : Inv n ts p) (e : Ev) (hc : cnt e.kind = false) : Inv n ts (p ++ [e]) := by
  refine ⟨h.1, fun k hk => ?_⟩
  rw [lst_snoc, if_neg (by simp [hc])]
  exact h.2 k hk

theorem cnt_cases {k : Int} (h : cnt k = true) : k = 1 ∨ k = 3 ∨ k = 4 ∨ k = 5 := by
  simp [cnt] at h; omega

theorem okNeeds_iff {ss : List St} (h : okNeeds ss = true) (k : Nat) (hk : k < ss.length) : ∀ n ∈ (ss.getD k s0).needs, 0 ≤ n ∧ n < ss.length := by
  intro n hn
  unfold okNeeds at h
  rw [List.all_eq_true] at h
  rw [List.getD_eq_getElem?_getD, List.getElem?_eq_getElem hk, Option.getD_some] at hn
  have := h _ (List.getElem_mem hk)
  rw [List.all_eq_true] at this
  simpa using this n hn

theorem nxt_eq {ss : List St} {ts : List Tal} {p : List Ev} (h : Inv ss.length ts p) (hn : okNeeds ss = true) (kind : Int) (k : Nat) (hk : k < ss.length) :
    nxt ss ts kind k = (if ends kind then lst k 0 p == 1 else if lst k 0 p ≠ 0 then false else if kind = 5 then true else (ss.getD k s0).needs.all fun n => lst n 0 p == 3) := by
  obtain ⟨h1, h2, h3, h4⟩ := h.2 k hk
  unfold nxt ends
  by_cases c34 : kind = 3 ∨ kind = 4
  · rw [if_pos c34, if_pos (show (kind == 3 || kind == 4) = true by simpa using c34), h3]
  · rw [if_neg c34, if_neg (show ¬ (kind == 3 || kind == 4) = true by simpa using c34)]
    by_cases c0 : 0 < (ts.getD k t0).ev
    · rw [if_pos c0, if_pos (h2.1 c0)]
    · rw [if_neg c0, if_neg (fun hh => c0 (h2.2 hh))]
      by_cases c5 : kind = 5
      · rw [if_pos c5, if_pos c5]
      · rw [if_neg c5, if_neg c5]
        have hb := okNeeds_iff hn k hk
        rw [Bool.eq_iff_iff, List.all_eq_true, List.all_eq_true]
        constructor
        · intro hh n hm
          obtain ⟨b0, b1⟩ := hb n hm
          obtain ⟨N, rfl⟩ : ∃ N : Nat, n = N := ⟨n.toNat, by omega⟩
          have := hh _ hm
          rw [Int.toNat_natCast, (h.2 N (by omega)).2.2.2] at this
          exact this
        · intro hh n hm
          obtain ⟨b0, b1⟩ := hb n hm
          obtain ⟨N, rfl⟩ : ∃ N : Nat, n = N := ⟨n.toNat, by omega⟩
          rw [Int.toNat_natCast, (h.2 N (by omega)).2.2.2]
          exact hh _ hm

theorem inv_step {ss : List St} {ts : List Tal} {p : List Ev} (h : Inv ss.length ts p) (hn : okNeeds ss = true) (e : Ev) (hc : cnt e.kind = true) (hok : okE ss ts e = true) : Inv ss.length (upd ts e) (p ++ [e]) := by
  simp only [okE, Bool.and_eq_true, decide_eq_true_eq] at hok
  obtain ⟨⟨⟨k0, k1⟩, _⟩, hx⟩ := hok
  obtain ⟨kind, st, op, ad, id, er⟩ := e
  simp only at hc k0 k1 hx
  obtain ⟨K, rfl⟩ : ∃ K : Nat, st = K := ⟨st.toNat, by omega⟩
  rw [Int.toNat_natCast] at hx
  refine ⟨by simp [upd, h.1], fun k hk => ?_⟩
  have hKl : K < ts.length := by rw [h.1]; omega
  rw [lst_snoc]
  by_cases hkK : k = K
  · subst hkK
    rw [if_pos ⟨rfl, hc⟩]
    have hg : (upd ts ⟨kind, k, op, ad, id, er⟩).getD k t0 = ⟨(ts.getD k t0).ev + 1, kind == 1, (ts.getD k t0).dn || kind == 3⟩ := by
      simp [upd, hKl]
    rw [hg]
    obtain ⟨h1, h2, h3, h4⟩ := h.2 k hk
    refine ⟨by simp only; omega, ⟨fun _ => ?_, fun _ => by simp only; omega⟩, rfl, ?_⟩
    · have : kind ≠ 0 := by rcases cnt_cases hc with h | h | h | h <;> omega
      exact this
    · simp only
      rw [h4]
      rw [nxt_eq h hn kind k hk] at hx
      by_cases hl : lst k 0 p = 3
      · exfalso
        rw [hl] at hx
        revert hx
        unfold ends
        split <;> simp
      · have : (lst k 0 p == 3) = false := by simpa using hl
        rw [this, Bool.false_or]
  · have hne : ¬ ((K : Int) = (k : Int) ∧ cnt kind = true) := fun hh => hkK (by omega)
    rw [if_neg hne]
    have hg : (upd ts ⟨kind, K, op, ad, id, er⟩).getD k t0 = ts.getD k t0 := by
      simp only [upd, Int.toNat_natCast, List.getD_eq_getElem?_getD]
      rw [List.getElem?_set_ne (by omega)]
    rw [hg]
    exact h.2 k hk

theorem fits_at (ss : List St) (ts : List Tal) (p q : List Ev) (e : Ev) (h : Inv ss.length ts p) (hn : okNeeds ss = true) : fits ss (p ++ e :: q) p.length = okE ss ts e := by
  unfold fits
  have h1 : (p ++ e :: q).getD p.length e0 = e := by simp
  have h2 : (p ++ e :: q).take p.length = p := by simp
  rw [h1, h2]
  simp only
  unfold okE
  by_cases c : e.step < 0 ∨ (ss.length : Int) ≤ e.step ∨ e.op ≠ (ss.getD e.step.toNat s0).op
  · rw [if_pos c]
    rcases c with c | c | c
    · simp; omega
    · simp; omega
    · have : (e.op == (ss.getD e.step.toNat s0).op) = false := by simpa using c
      rw [this]; simp
  · rw [if_neg c]
    have k0 : 0 ≤ e.step := by omega
    have k1 : e.step < ss.length := by omega
    have k2 : e.op = (ss.getD e.step.toNat s0).op := by
      apply Classical.byContradiction; intro hh; exact c (.inr (.inr hh))
    obtain ⟨K, hK⟩ : ∃ K : Nat, e.step = K := ⟨e.step.toNat, by omega⟩
    rw [hK] at k0 k1 k2 ⊢
    rw [Int.toNat_natCast] at k2 ⊢
    rw [nxt_eq h hn e.kind K (by omega)]
    have d0 : decide ((0 : Int) ≤ (K : Int)) = true := by simp
    have d1 : decide ((K : Int) < (ss.length : Int)) = true := by simpa using k1
    have d2 : (e.op == (ss.getD K s0).op) = true := by simpa using k2
    rw [d0, d1, d2, Bool.true_and, Bool.true_and, Bool.true_and]

theorem run_eq (ss : List St) (hn : okNeeds ss = true) : ∀ (q p : List Ev) (ts : List Tal), Inv ss.length ts p →
    (run ss ts q = true ↔ ∀ i, p.length ≤ i → i < (p ++ q).length → (!cnt ((p ++ q).getD i e0).kind || fits ss (p ++ q) i) = true) := by
  intro q
  induction q with
  | nil => intro p ts _; simp [run]; intro i h1 h2; omega
  | cons e q ih =>
    intro p ts h
    have hp : p ++ e :: q = (p ++ [e]) ++ q := by simp
    have hget : (p ++ e :: q).getD p.length e0 = e := by simp
    cases hc : cnt e.kind
    · simp only [run, hc]
      rw [if_neg (by simp), ih (p ++ [e]) ts (inv_skip h e hc), ← hp]
      constructor
      · intro hh i h1 h2
        by_cases hi : i = p.length
        · subst hi; rw [hget, hc]; rfl
        · exact hh i (by simp; omega) h2
      · intro hh i h1 h2
        exact hh i (by simp at h1; omega) h2
    · simp only [run, hc, if_true]
      have hf := fits_at ss ts p q e h hn
      cases ho : okE ss ts e
      · simp only [Bool.false_eq_true, if_false, false_iff]
        intro hh
        have := hh p.length (Nat.le_refl _) (by simp)
        rw [hget, hc, hf, ho] at this
        cases this
      · simp only [if_true]
        rw [ih (p ++ [e]) (upd ts e) (inv_step h hn e hc ho), ← hp]
        constructor
        · intro hh i h1 h2
          by_cases hi : i = p.length
          · subst hi; rw [hf, ho]; simp
          · exact hh i (by simp; omega) h2
        · intro hh i h1 h2
          exact hh i (by simp at h1; omega) h2

theorem ord_eq (ss : List St) (l : List Ev) (hn : okNeeds ss = true) : ordRun ss l = ordRunR ss l := by
  have h := run_eq ss hn l [] _ (inv_start ss.length)
  unfold ordRun ordRunR
  have : run ss (List.replicate ss.length t0) l = okAll ss l := by
    rw [Bool.eq_iff_iff, h]
    unfold okAll
    rw [List.all_eq_true]
    simp
  rw [this]

/-- A list that is accepted has accepted prefixes. -/
theorem run_take (ss : List St) : ∀ (l : List Ev) (ts : List Tal) (n : Nat), run ss ts l = true → run ss ts (l.take n) = true := by
  intro l
  induction l with
  | nil => intro ts n _; simp [run]
  | cons e l ih =>
    intro ts n h
    cases n with
    | zero => simp [run]
    | succ n =>
      simp only [List.take_succ_cons, run] at h ⊢
      split
      · rename_i hc
        rw [if_pos hc] at h
        split
        · rename_i ho
          rw [if_pos ho] at h
          exact ih _ n h
        · rename_i ho; rw [if_neg ho] at h; cases h
      · rename_i hc
        rw [if_neg hc] at h
        exact ih _ n h
theorem ord_zero {ss : List St} {l : List Ev} (h : ord ss l = 0) : okNeeds ss = true ∧ run ss (List.replicate ss.length t0) l = true := by
  unfold ord ordRun at h
  split at h
  · rename_i h1
    split at h
    · rename_i h2; exact ⟨h1, h2⟩
    · omega
  · omega
theorem ord_take {ss : List St} {l : List Ev} (n : Nat) (h : ord ss l = 0) : ord ss (l.take n) = 0 := by
  obtain ⟨h1, h2⟩ := ord_zero h
  unfold ord ordRun
  rw [if_pos h1, if_pos (run_take ss l _ n h2)]
theorem ord_ne {ss : List St} {l : List Ev} : ord ss l = 0 ∨ ord ss l = 1 ∨ ord ss l = 36 := by
  unfold ord ordRun
  split
  · split
    · exact .inl rfl
    · exact .inr (.inr rfl)
  · exact .inr (.inl rfl)
end Go.Proofs.Ytdmcceekaopghaa
