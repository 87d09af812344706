import Derived.Test.YtlhekldlfmdmiaaPo
/-
  Walks in a graph, in plain Lean; depth first search as the program does it. No program in sight. Conditions: those ahead of each theorem.
-/
namespace Go.Proofs.Ytlhekldlfmdmiaa
set_option linter.unusedVariables false
set_option linter.unusedSimpArgs false

/-- A walk of n edges. -/
def Wk (F : ByteArray → List ByteArray) : Nat → ByteArray → ByteArray → Prop
  | 0, a, b => a = b
  | n + 1, a, b => ∃ c, c ∈ F a ∧ Wk F n c b
section
variable {F : ByteArray → List ByteArray}
theorem wk_add : ∀ {m n : Nat} {a b c : ByteArray}, Wk F m a b → Wk F n b c → Wk F (m + n) a c
  | 0, n, a, b, c, h, h' => by rw [Nat.zero_add]; cases h; exact h'
  | m + 1, n, a, b, c, ⟨d, hd, h⟩, h' => by rw [Nat.add_right_comm]; exact ⟨d, hd, wk_add h h'⟩
theorem wk_one {a b : ByteArray} (h : b ∈ F a) : Wk F 1 a b := ⟨b, h, rfl⟩
theorem wk_snoc {n : Nat} {a b : ByteArray} : Wk F (n + 1) a b ↔ ∃ c, Wk F n a c ∧ b ∈ F c := by
  constructor
  · intro h
    induction n generalizing a with
    | zero =>
      obtain ⟨c, hc, rfl⟩ := h
      exact ⟨a, rfl, hc⟩
    | succ n ih =>
      obtain ⟨c, hc, h⟩ := h
      obtain ⟨d, h1, h2⟩ := ih h
      exact ⟨d, ⟨c, hc, h1⟩, h2⟩
  · rintro ⟨c, h1, h2⟩
    exact wk_add h1 (wk_one h2)
theorem wk_split : ∀ {m n : Nat} {a c : ByteArray}, Wk F (m + n) a c → ∃ b, Wk F m a b ∧ Wk F n b c
  | 0, n, a, c, h => ⟨a, rfl, by rwa [Nat.zero_add] at h⟩
  | m + 1, n, a, c, h => by
    rw [Nat.add_right_comm] at h
    obtain ⟨d, hd, h⟩ := h
    obtain ⟨b, h1, h2⟩ := wk_split h
    exact ⟨b, ⟨d, hd, h1⟩, h2⟩
theorem wk_rev {G : ByteArray → List ByteArray} (h : ∀ x y, y ∈ G x ↔ x ∈ F y) : ∀ {n : Nat} {a b : ByteArray}, Wk G n a b ↔ Wk F n b a
  | 0, a, b => ⟨fun e => e.symm, fun e => e.symm⟩
  | n + 1, a, b => by
    rw [wk_snoc]
    constructor
    · rintro ⟨c, h1, h2⟩
      exact ⟨c, (h c b).1 h2, (wk_rev h).1 h1⟩
    · rintro ⟨c, h1, h2⟩
      exact ⟨c, (wk_rev h).2 h2, (h c b).2 h1⟩
theorem wk_congr {G : ByteArray → List ByteArray} (h : ∀ x y, y ∈ G x ↔ y ∈ F x) : ∀ {n : Nat} {a b : ByteArray}, Wk G n a b ↔ Wk F n a b
  | 0, a, b => Iff.rfl
  | n + 1, a, b => by
    constructor
    · rintro ⟨c, h1, h2⟩; exact ⟨c, (h a c).1 h1, (wk_congr h).1 h2⟩
    · rintro ⟨c, h1, h2⟩; exact ⟨c, (h a c).2 h1, (wk_congr h).2 h2⟩
end
/-- Reached from some of a list. -/
def Rch (F : ByteArray → List ByteArray) (l : List ByteArray) (x : ByteArray) : Prop := ∃ a ∈ l, ∃ n, Wk F n a x

/-- How many of a list are still to be seen. -/
def rem (U sn : List ByteArray) : Nat := (U.filter fun u => !hasS u sn).length
theorem rem_le (U sn : List ByteArray) : rem U sn ≤ U.length := List.length_filter_le _ _
theorem hasS_app (x : ByteArray) (l m : List ByteArray) : hasS x (l ++ m) = (hasS x l || hasS x m) := by simp [hasS]
theorem rem_add {U sn : List ByteArray} {y : ByteArray} (hy : y ∈ U) (hn : y ∉ sn) : rem U (sn ++ [y]) + 1 ≤ rem U sn := by
  unfold rem
  induction U with
  | nil => cases hy
  | cons u U ih =>
    have hmono : ∀ V : List ByteArray, (V.filter fun u => !hasS u (sn ++ [y])).length ≤ (V.filter fun u => !hasS u sn).length := fun V => by
      induction V with
      | nil => simp
      | cons v V ihv =>
        rw [List.filter_cons, List.filter_cons, hasS_app]
        cases h1 : hasS v sn <;> cases h2 : hasS v [y] <;> simp <;> omega
    rw [List.filter_cons, List.filter_cons, hasS_app]
    by_cases e : y = u
    · subst e
      have h1 : hasS y sn = false := by cases h : hasS y sn with | false => rfl | true => exact absurd (hasS_iff.1 h) hn
      have h2 : hasS y [y] = true := hasS_iff.2 (by simp)
      rw [h1, h2]
      have := hmono U
      simp; omega
    · have h2 : hasS u [y] = false := by cases h : hasS u [y] with | false => rfl | true => exact absurd (hasS_iff.1 h) (by simp; exact fun h => e h.symm)
      have := ih (by rcases List.mem_cons.1 hy with h | h; exact absurd h e; exact h)
      rw [h2, Bool.or_false]
      cases h1 : hasS u sn <;> simp <;> omega

/-- Depth first search under way: seen, still to do. -/
structure Dfs (F : ByteArray → List ByteArray) (frm U sn L : List ByteArray) : Prop where
  sub : ∀ x ∈ L, x ∈ sn
  frs : ∀ x ∈ frm, x ∈ sn
  rch : ∀ x ∈ sn, Rch F frm x
  cls : ∀ x ∈ sn, x ∉ L → ∀ y ∈ F x, y ∈ sn
/-- .. in the midst of a node's targets. -/
structure DfsI (F : ByteArray → List ByteArray) (frm U : List ByteArray) (x : ByteArray) (k : Nat) (sn L : List ByteArray) : Prop where
  sub : ∀ x ∈ L, x ∈ sn
  frs : ∀ x ∈ frm, x ∈ sn
  rch : ∀ x ∈ sn, Rch F frm x
  cls : ∀ z ∈ sn, z ∉ L → z ≠ x → ∀ y ∈ F z, y ∈ sn
  fst : ∀ y ∈ (F x).take k, y ∈ sn
  mem : x ∈ sn
section
variable {F : ByteArray → List ByteArray} {frm U sn L : List ByteArray}
theorem Dfs.start (F : ByteArray → List ByteArray) (frm U : List ByteArray) : Dfs F frm U frm frm := ⟨fun x h => h, fun x h => h, fun x h => ⟨x, h, 0, rfl⟩, fun x h h' => absurd h h'⟩
theorem Dfs.pop {x : ByteArray} (h : Dfs F frm U sn (L ++ [x])) : DfsI F frm U x 0 sn L :=
  ⟨fun z hz => h.sub z (by simp [hz]), h.frs, h.rch, fun z hz hl hx y hy => h.cls z hz (by simp [hl, hx]) y hy, by simp, h.sub x (by simp)⟩
theorem Dfs.popH {x : ByteArray} (h : Dfs F frm U sn (x :: L)) : DfsI F frm U x 0 sn L :=
  ⟨fun z hz => h.sub z (by simp [hz]), h.frs, h.rch, fun z hz hl hx y hy => h.cls z hz (by simp [hl, hx]) y hy, by simp, h.sub x (by simp)⟩
theorem DfsI.skip {x : ByteArray} {k : Nat} (h : DfsI F frm U x k sn L) (hk : k < (F x).length) (hy : (F x)[k] ∈ sn) : DfsI F frm U x (k + 1) sn L :=
  ⟨h.sub, h.frs, h.rch, h.cls, fun y hm => by
    rw [List.take_succ_eq_append_getElem hk, List.mem_append, List.mem_singleton] at hm
    rcases hm with hm | rfl
    · exact h.fst y hm
    · exact hy, h.mem⟩
theorem DfsI.push {x : ByteArray} {k : Nat} (h : DfsI F frm U x k sn L) (hk : k < (F x).length) : DfsI F frm U x (k + 1) (sn ++ [(F x)[k]]) (L ++ [(F x)[k]]) :=
  ⟨fun z hz => by
    rw [List.mem_append] at hz ⊢
    exact hz.imp (h.sub z) id, fun z hz => by simp [h.frs z hz], fun z hz => by
    rw [List.mem_append, List.mem_singleton] at hz
    rcases hz with hz | rfl
    · exact h.rch z hz
    · obtain ⟨a, ha, n, hw⟩ := h.rch x h.mem
      exact ⟨a, ha, n + 1, wk_snoc.2 ⟨x, hw, List.getElem_mem hk⟩⟩, fun z hz hl hx y hy => by
    rw [List.mem_append] at hz
    rw [List.mem_append] at hl
    rcases hz with hz | hz
    · exact List.mem_append_left _ (h.cls z hz (fun h => hl (Or.inl h)) hx y hy)
    · exact absurd (Or.inr hz) hl, fun y hm => by
    rw [List.take_succ_eq_append_getElem hk, List.mem_append] at hm
    rw [List.mem_append]
    exact hm.imp (h.fst y) id, by simp [h.mem]⟩
theorem DfsI.done {x : ByteArray} (h : DfsI F frm U x (F x).length sn L) : Dfs F frm U sn L :=
  ⟨h.sub, h.frs, h.rch, fun z hz hl y hy => by
    by_cases e : z = x
    · subst e
      exact h.fst y (by rwa [List.take_length])
    · exact h.cls z hz hl e y hy⟩
theorem Dfs.fin (h : Dfs F frm U sn []) (x : ByteArray) : x ∈ sn ↔ Rch F frm x := by
  constructor
  · exact h.rch x
  · rintro ⟨a, ha, n, hw⟩
    have key : ∀ (n : Nat) (a : ByteArray), a ∈ sn → Wk F n a x → x ∈ sn := by
      intro n
      induction n with
      | zero => intro a ha hw; cases hw; exact ha
      | succ n ih =>
        rintro a ha ⟨c, hc, hw⟩
        exact ih c (h.cls a ha (by simp) c hc) hw
    exact key n a (h.frs a ha) hw
end
end Go.Proofs.Ytlhekldlfmdmiaa
