import Derived.Test.YtlhekldlfmdmiaaGr
/-
  Shortest walks and shortest cycles, in plain Lean. No program in sight. Conditions: those ahead of each theorem.
-/
namespace Go.Proofs.Ytlhekldlfmdmiaa
set_option linter.unusedVariables false
set_option linter.unusedSimpArgs false

theorem least {P : Nat → Prop} (h : ∃ n, P n) : ∃ n, P n ∧ ∀ m, m < n → ¬ P m := by
  obtain ⟨n, hn⟩ := h
  induction n using Nat.strongRecOn with
  | _ n ih =>
    by_cases hm : ∃ m, m < n ∧ P m
    · obtain ⟨m, h1, h2⟩ := hm
      exact ih m h1 h2
    · exact ⟨n, hn, fun m h1 h2 => hm ⟨m, h1, h2⟩⟩
open Classical in
/-- The length of a shortest walk. -/
noncomputable def dstF (F : ByteArray → List ByteArray) (a b : ByteArray) : Option Nat := if h : ∃ n, Wk F n a b then some (least h).choose else none
open Classical in
/-- The length of a shortest cycle through a node, or 0. -/
noncomputable def girF (F : ByteArray → List ByteArray) (a : ByteArray) : Nat := if h : ∃ n, Wk F (n + 1) a a then (least h).choose + 1 else 0
section
variable {F : ByteArray → List ByteArray}
theorem dst_some {a b : ByteArray} {n : Nat} : dstF F a b = some n ↔ Wk F n a b ∧ ∀ m, m < n → ¬ Wk F m a b := by
  unfold dstF
  by_cases h : ∃ n, Wk F n a b
  · rw [dif_pos h]
    have hs := (least h).choose_spec
    generalize (least h).choose = q at *
    simp only [Option.some.injEq]
    constructor
    · rintro rfl; exact hs
    · rintro ⟨h1, h2⟩
      rcases Nat.lt_trichotomy q n with h3 | h3 | h3
      · exact absurd hs.1 (h2 q h3)
      · exact h3
      · exact absurd h1 (hs.2 n h3)
  · rw [dif_neg h]
    constructor
    · intro h'; cases h'
    · rintro ⟨h1, _⟩; exact absurd ⟨n, h1⟩ h
theorem dst_none {a b : ByteArray} : dstF F a b = none ↔ ∀ n, ¬ Wk F n a b := by
  unfold dstF
  by_cases h : ∃ n, Wk F n a b
  · rw [dif_pos h]
    constructor
    · intro h'; cases h'
    · intro h'; obtain ⟨n, hn⟩ := h; exact absurd hn (h' n)
  · rw [dif_neg h]
    exact ⟨fun _ n hn => h ⟨n, hn⟩, fun _ => rfl⟩
theorem gir_pos {a : ByteArray} {n : Nat} : girF F a = n + 1 ↔ Wk F (n + 1) a a ∧ ∀ m, m < n → ¬ Wk F (m + 1) a a := by
  unfold girF
  by_cases h : ∃ n, Wk F (n + 1) a a
  · rw [dif_pos h]
    have hs := (least h).choose_spec
    generalize (least h).choose = q at *
    constructor
    · intro e
      have : q = n := by omega
      subst this; exact hs
    · rintro ⟨h1, h2⟩
      rcases Nat.lt_trichotomy q n with h3 | h3 | h3
      · exact absurd hs.1 (h2 q h3)
      · omega
      · exact absurd h1 (hs.2 n h3)
  · rw [dif_neg h]
    constructor
    · intro h'; omega
    · rintro ⟨h1, _⟩; exact absurd ⟨n, h1⟩ h
theorem gir_zero {a : ByteArray} : girF F a = 0 ↔ ∀ n, ¬ Wk F (n + 1) a a := by
  unfold girF
  by_cases h : ∃ n, Wk F (n + 1) a a
  · rw [dif_pos h]
    constructor
    · intro h'; omega
    · intro h'; obtain ⟨n, hn⟩ := h; exact absurd hn (h' n)
  · rw [dif_neg h]
    exact ⟨fun _ n hn => h ⟨n, hn⟩, fun _ => rfl⟩
theorem dst_self (a : ByteArray) : dstF F a a = some 0 := dst_some.2 ⟨rfl, fun m hm => by omega⟩
/-- What the program's distances are. -/
theorem dist_dst {G : ByteArray → List ByteArray} (hr : ∀ x y, y ∈ G x ↔ x ∈ F y) {to : ByteArray} {D : DF} (h : DistP G to D) : D = fun x => dstF F x to := by
  funext x
  cases hd : D x with
  | some d =>
    symm
    rw [dst_some]
    refine ⟨(wk_rev hr).1 (h.wk x d hd), fun m hm hw => ?_⟩
    obtain ⟨d', h1, h2⟩ := h.le x m ((wk_rev hr).2 hw)
    rw [hd] at h1
    cases h1
    omega
  | none =>
    symm
    rw [dst_none]
    intro n hw
    obtain ⟨d', h1, _⟩ := h.le x n ((wk_rev hr).2 hw)
    rw [hd] at h1; cases h1
/-- The shortest way round through one of a list. -/
def arnd (d : DF) (l : List ByteArray) : Nat := l.foldl (fun b m => match d m with | some n => if b = 0 ∨ n + 1 < b then n + 1 else b | none => b) 0
theorem arnd_snoc (d : DF) (l : List ByteArray) (m : ByteArray) : arnd d (l ++ [m]) = match d m with | some n => if arnd d l = 0 ∨ n + 1 < arnd d l then n + 1 else arnd d l | none => arnd d l := by
  unfold arnd; rw [List.foldl_append]; rfl
theorem arnd_spec (d : DF) : ∀ (l : List ByteArray) (k : Nat), k ≤ l.length → (arnd d (l.take k) = 0 ∧ ∀ m ∈ l.take k, d m = none) ∨ (∃ m ∈ l.take k, ∃ n, d m = some n ∧ arnd d (l.take k) = n + 1) ∧ ∀ m ∈ l.take k, ∀ n, d m = some n → arnd d (l.take k) ≤ n + 1 := by
  intro l k
  induction k with
  | zero => intro _; exact Or.inl ⟨rfl, by simp⟩
  | succ k ih =>
    intro hk
    have hk' : k < l.length := by omega
    rw [List.take_succ_eq_append_getElem hk', arnd_snoc]
    have ih := ih (by omega)
    generalize l.take k = t at *
    generalize l[k] = y at *
    cases hd : d y with
    | none =>
      simp only
      rcases ih with ⟨h1, h2⟩ | ⟨⟨m, h1, n, h2, h3⟩, h4⟩
      · refine Or.inl ⟨h1, fun m hm => ?_⟩
        rw [List.mem_append, List.mem_singleton] at hm
        rcases hm with hm | rfl
        · exact h2 m hm
        · exact hd
      · refine Or.inr ⟨⟨m, by simp [h1], n, h2, h3⟩, fun m' hm n' hn => ?_⟩
        rw [List.mem_append, List.mem_singleton] at hm
        rcases hm with hm | rfl
        · exact h4 m' hm n' hn
        · rw [hd] at hn; cases hn
    | some q =>
      simp only
      refine Or.inr ?_
      rcases ih with ⟨h1, h2⟩ | ⟨⟨m, h1, n, h2, h3⟩, h4⟩
      · rw [if_pos (Or.inl h1)]
        refine ⟨⟨y, by simp, q, hd, rfl⟩, fun m' hm n' hn => ?_⟩
        rw [List.mem_append, List.mem_singleton] at hm
        rcases hm with hm | rfl
        · rw [h2 m' hm] at hn; cases hn
        · rw [hd] at hn; cases hn; exact Nat.le_refl _
      · by_cases hc : arnd d t = 0 ∨ q + 1 < arnd d t
        · rw [if_pos hc]
          refine ⟨⟨y, by simp, q, hd, rfl⟩, fun m' hm n' hn => ?_⟩
          rw [List.mem_append, List.mem_singleton] at hm
          rcases hm with hm | rfl
          · have := h4 m' hm n' hn; omega
          · rw [hd] at hn; cases hn; exact Nat.le_refl _
        · rw [if_neg hc]
          refine ⟨⟨m, by simp [h1], n, h2, h3⟩, fun m' hm n' hn => ?_⟩
          rw [List.mem_append, List.mem_singleton] at hm
          rcases hm with hm | rfl
          · exact h4 m' hm n' hn
          · rw [hd] at hn; cases hn; omega
theorem arnd_gir (a : ByteArray) : arnd (fun x => dstF F x a) (F a) = girF F a := by
  have hs := arnd_spec (fun x => dstF F x a) (F a) (F a).length (Nat.le_refl _)
  rw [List.take_length] at hs
  rcases hs with ⟨h1, h2⟩ | ⟨⟨m, h1, n, h2, h3⟩, h4⟩
  · rw [h1]
    symm
    rw [gir_zero]
    rintro n ⟨c, hc, hw⟩
    exact dst_none.1 (h2 c hc) n hw
  · rw [h3]
    symm
    rw [gir_pos]
    refine ⟨⟨m, h1, (dst_some.1 h2).1⟩, ?_⟩
    rintro k hk ⟨c, hc, hw⟩
    cases hd : dstF F c a with
    | none => exact dst_none.1 hd k hw
    | some q =>
      have h5 := h4 c hc q hd
      have h6 : ¬ k < q := fun h => (dst_some.1 hd).2 k h hw
      omega
/-- Where a shortest cycle starts, and how long it is. -/
def stF (g : ByteArray → Nat) (l : List ByteArray) : ByteArray × Nat := l.foldl (fun s n => if 0 < g n ∧ (s.2 = 0 ∨ g n < s.2) then (n, g n) else s) (⟨#[]⟩, 0)
theorem stF_snoc (g : ByteArray → Nat) (l : List ByteArray) (n : ByteArray) : stF g (l ++ [n]) = if 0 < g n ∧ ((stF g l).2 = 0 ∨ g n < (stF g l).2) then (n, g n) else stF g l := by
  unfold stF; rw [List.foldl_append]; rfl
theorem stF_spec (g : ByteArray → Nat) (l : List ByteArray) : ((stF g l).2 = 0 ∧ ∀ x ∈ l, g x = 0) ∨ (0 < (stF g l).2 ∧ (stF g l).1 ∈ l ∧ g (stF g l).1 = (stF g l).2) := by
  have key : ∀ k, k ≤ l.length → ((stF g (l.take k)).2 = 0 ∧ ∀ x ∈ l.take k, g x = 0) ∨ (0 < (stF g (l.take k)).2 ∧ (stF g (l.take k)).1 ∈ l.take k ∧ g (stF g (l.take k)).1 = (stF g (l.take k)).2) := by
    intro k
    induction k with
    | zero => intro _; exact Or.inl ⟨rfl, by simp⟩
    | succ k ih =>
      intro hk
      have hk' : k < l.length := by omega
      rw [List.take_succ_eq_append_getElem hk', stF_snoc]
      have ih := ih (by omega)
      generalize l.take k = t at *
      generalize l[k] = y at *
      by_cases hc : 0 < g y ∧ ((stF g t).2 = 0 ∨ g y < (stF g t).2)
      · rw [if_pos hc]
        exact Or.inr ⟨hc.1, by simp, rfl⟩
      · rw [if_neg hc]
        rcases ih with ⟨h1, h2⟩ | ⟨h1, h2, h3⟩
        · refine Or.inl ⟨h1, fun x hx => ?_⟩
          rw [List.mem_append, List.mem_singleton] at hx
          rcases hx with hx | rfl
          · exact h2 x hx
          · rcases Nat.eq_zero_or_pos (g x) with h | h
            · exact h
            · exact absurd ⟨h, Or.inl h1⟩ hc
        · exact Or.inr ⟨h1, by simp [h2], h3⟩
  have := key l.length (Nat.le_refl _)
  rwa [List.take_length] at this
/-- The rest of the cycle. -/
noncomputable def pthF (F : ByteArray → List ByteArray) (st : ByteArray) : Nat → ByteArray → List ByteArray
  | 0, _ => []
  | n + 1, last => match (F last).find? fun m => decide (dstF F m st = some (n + 1)) with
    | none => []
    | some m => m :: pthF F st n m
noncomputable def cycF (F : ByteArray → List ByteArray) (ns : List ByteArray) : List ByteArray :=
  if (stF (girF F) ns).2 = 0 then [] else (stF (girF F) ns).1 :: pthF F (stF (girF F) ns).1 ((stF (girF F) ns).2 - 1) (stF (girF F) ns).1
/-- The next one of a shortest cycle is there. -/
theorem find_next {st last : ByteArray} {n : Nat} (h : Wk F (n + 2) last st) (hm : ∀ m ∈ F last, ∀ d, dstF F m st = some d → n + 1 ≤ d) : ∃ m, (F last).find? (fun m => decide (dstF F m st = some (n + 1))) = some m ∧ m ∈ F last ∧ dstF F m st = some (n + 1) := by
  obtain ⟨c, hc, hw⟩ := h
  have hd : dstF F c st = some (n + 1) := by
    cases hd : dstF F c st with
    | none => exact absurd hw (dst_none.1 hd _)
    | some d =>
      have h1 := hm c hc d hd
      have h2 : ¬ n + 1 < d := fun h => (dst_some.1 hd).2 _ h hw
      congr 1
      omega
  cases hf : (F last).find? fun m => decide (dstF F m st = some (n + 1)) with
  | none =>
    have := List.find?_eq_none.1 hf c hc
    simp [hd] at this
  | some m =>
    have h1 := List.find?_some hf
    exact ⟨m, rfl, List.mem_of_find?_eq_some hf, of_decide_eq_true h1⟩
/-- What is known of the last node of a cycle under way, n edges ahead of its end. -/
def Ahead (F : ByteArray → List ByteArray) (st last : ByteArray) (n : Nat) : Prop := Wk F (n + 1) last st ∧ ∀ m ∈ F last, ∀ d, dstF F m st = some d → n ≤ d
theorem ahead_start {st : ByteArray} {n : Nat} (h : girF F st = n + 1) : Ahead F st st n := by
  obtain ⟨h1, h2⟩ := gir_pos.1 h
  refine ⟨h1, fun m hm d hd => ?_⟩
  rcases Nat.lt_or_ge d n with h3 | h3
  · exact absurd ⟨m, hm, (dst_some.1 hd).1⟩ (h2 d h3)
  · exact h3
theorem ahead_next {st last m : ByteArray} {n : Nat} (hd : dstF F m st = some (n + 1)) : Ahead F st m n := by
  obtain ⟨h1, h2⟩ := dst_some.1 hd
  refine ⟨h1, fun m' hm d hd' => ?_⟩
  rcases Nat.lt_or_ge d n with h3 | h3
  · exact absurd ⟨m', hm, (dst_some.1 hd').1⟩ (h2 (d + 1) (by omega))
  · exact h3
theorem ahead_find {st last : ByteArray} {n : Nat} (h : Ahead F st last (n + 1)) : ∃ m, (F last).find? (fun m => decide (dstF F m st = some (n + 1))) = some m ∧ m ∈ F last ∧ dstF F m st = some (n + 1) := find_next h.1 h.2
end
end Go.Proofs.Ytlhekldlfmdmiaa
