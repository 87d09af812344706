import Derived.Test.YtpnogmicfomofaaGreatDoorRows
/-
  Lists of numbers in strict order, and the order of steps, in plain Lean. No program in sight. Conditions: those ahead of each theorem.
-/
namespace Go.Proofs.YtpnogmicfomofaaGreatDoor.Stp
set_option linter.unusedVariables false
set_option linter.unusedSimpArgs false

/-- A strict total order. -/
structure STO {α : Type} (lt : α → α → Bool) : Prop where
  irr : ∀ a, lt a a = false
  tr : ∀ a b c, lt a b = true → lt b c = true → lt a c = true
  tot : ∀ a b, lt a b = false → lt b a = false → a = b
def AscL {α : Type} (lt : α → α → Bool) (l : List α) : Prop := l.Pairwise fun a b => lt a b = true
section
variable {α : Type} {lt : α → α → Bool} (O : STO lt)
include O
theorem STO.asym {a b : α} (h : lt a b = true) : lt b a = false := by
  cases h' : lt b a with
  | false => rfl
  | true => have := O.tr _ _ _ h h'; rw [O.irr] at this; cases this
theorem asc_uniq : ∀ {a b : List α}, AscL lt a → AscL lt b → (∀ x, x ∈ a ↔ x ∈ b) → a = b
  | [], [], _, _, _ => rfl
  | [], y :: b, _, _, h => by have := (h y).2 (by simp); simp at this
  | x :: a, [], _, _, h => by have := (h x).1 (by simp); simp at this
  | x :: a, y :: b, ha, hb, h => by
    unfold AscL at ha hb
    rw [List.pairwise_cons] at ha hb
    have exy : x = y := by
      rcases List.mem_cons.1 ((h x).1 (by simp)) with e | hx
      · exact e
      · rcases List.mem_cons.1 ((h y).2 (by simp)) with e | hy
        · exact e.symm
        · have h1 := hb.1 x hx
          have h2 := ha.1 y hy
          rw [O.asym h1] at h2; cases h2
    subst exy
    rw [asc_uniq ha.2 hb.2 fun z => ?_]
    constructor
    · intro hz
      rcases List.mem_cons.1 ((h z).1 (List.mem_cons_of_mem _ hz)) with e | h'
      · subst e; have := ha.1 z hz; rw [O.irr] at this; cases this
      · exact h'
    · intro hz
      rcases List.mem_cons.1 ((h z).2 (List.mem_cons_of_mem _ hz)) with e | h'
      · subst e; have := hb.1 z hz; rw [O.irr] at this; cases this
      · exact h'
end
/-- The place of an element. -/
def lowL {α : Type} (lt : α → α → Bool) (x : α) (l : List α) : Nat := (l.takeWhile fun y => lt y x).length
/-- An element put into its place. -/
def putL {α : Type} (lt : α → α → Bool) (x : α) (l : List α) : List α := l.take (lowL lt x l) ++ x :: l.drop (lowL lt x l)
section
variable {α : Type} {lt : α → α → Bool}
theorem lowL_le (x : α) (l : List α) : lowL lt x l ≤ l.length := by unfold lowL; exact (List.takeWhile_sublist _).length_le
theorem lowL_cons (x y : α) (l : List α) : lowL lt x (y :: l) = if lt y x = true then lowL lt x l + 1 else 0 := by
  unfold lowL
  rw [List.takeWhile_cons]
  split <;> simp
theorem lowL_eq (x : α) : ∀ (l : List α) (k : Nat), k ≤ l.length → (∀ j (h : j < l.length), j < k → lt l[j] x = true) → (∀ (h : k < l.length), lt l[k] x = false) → lowL lt x l = k
  | [], k, hk, _, _ => by simp at hk; subst hk; rfl
  | y :: l, 0, hk, _, h2 => by rw [lowL_cons]; have := h2 (by simp); simp at this; simp [this]
  | y :: l, k + 1, hk, h1, h2 => by
    rw [lowL_cons, if_pos (show lt y x = true from h1 0 (by simp) (by omega)), lowL_eq x l k (by simpa using hk) (fun j h hj => h1 (j + 1) (by simpa using h) (by omega)) (fun h => h2 (by simpa using h))]
theorem lowL_low (x : α) : ∀ (l : List α) (j : Nat) (h : j < l.length), j < lowL lt x l → lt l[j] x = true
  | y :: l, 0, h, hj => by
    rw [lowL_cons] at hj
    split at hj
    · assumption
    · omega
  | y :: l, j + 1, h, hj => by
    rw [lowL_cons] at hj
    split at hj
    · exact lowL_low x l j (by simpa using h) (by omega)
    · omega
theorem lowL_at (x : α) : ∀ (l : List α) (h : lowL lt x l < l.length), lt (l[lowL lt x l]) x = false
  | [], h => by simp at h
  | y :: l, h => by
    have e := lowL_cons (lt := lt) x y l
    by_cases hy : lt y x = true
    · rw [if_pos hy] at e
      have h' : lowL lt x l < l.length := by rw [e] at h; simpa using h
      have := lowL_at x l h'
      simp only [e, List.getElem_cons_succ]
      exact this
    · rw [if_neg hy] at e
      simp only [e, List.getElem_cons_zero]
      simpa using hy
theorem putL_cons (x y : α) (l : List α) : putL lt x (y :: l) = if lt y x = true then y :: putL lt x l else x :: y :: l := by
  unfold putL
  rw [lowL_cons]
  split <;> simp
theorem mem_putL (x z : α) (l : List α) : z ∈ putL lt x l ↔ z = x ∨ z ∈ l := by
  unfold putL
  rw [List.mem_append, List.mem_cons]
  have := List.take_append_drop (lowL lt x l) l
  constructor
  · rintro (h | h | h)
    · exact Or.inr (List.mem_of_mem_take h)
    · exact Or.inl h
    · exact Or.inr (List.mem_of_mem_drop h)
  · rintro (h | h)
    · exact Or.inr (Or.inl h)
    · rw [← this, List.mem_append] at h
      rcases h with h | h
      · exact Or.inl h
      · exact Or.inr (Or.inr h)
theorem putL_length (x : α) (l : List α) : (putL lt x l).length = l.length + 1 := by
  unfold putL
  have := lowL_le (lt := lt) x l
  simp; omega
theorem putL_asc (O : STO lt) (x : α) : ∀ (l : List α), AscL lt l → x ∉ l → AscL lt (putL lt x l)
  | [], _, _ => by simp [putL, AscL]
  | y :: l, h, hx => by
    unfold AscL at h
    rw [List.pairwise_cons] at h
    rw [putL_cons]
    by_cases hy : lt y x = true
    · rw [if_pos hy]
      unfold AscL
      rw [List.pairwise_cons]
      refine ⟨fun z hz => ?_, putL_asc O x l h.2 (fun hh => hx (List.mem_cons_of_mem _ hh))⟩
      rcases (mem_putL x z l).1 hz with rfl | hz
      · exact hy
      · exact h.1 z hz
    · rw [if_neg hy]
      have hxy : lt x y = true := by
        cases hh : lt x y with
        | true => rfl
        | false => exact absurd (O.tot _ _ hh (by simpa using hy)) (fun e => hx (by rw [e]; simp))
      unfold AscL
      rw [List.pairwise_cons, List.pairwise_cons]
      refine ⟨fun z hz => ?_, h.1, h.2⟩
      rcases List.mem_cons.1 hz with rfl | hz
      · exact hxy
      · exact O.tr _ _ _ hxy (h.1 z hz)
/-- In an ascending list an element stands at its place. -/
theorem asc_at (O : STO lt) (x : α) : ∀ (l : List α), AscL lt l → x ∈ l → ∃ h : lowL lt x l < l.length, l[lowL lt x l] = x
  | y :: l, ha, hx => by
    unfold AscL at ha
    rw [List.pairwise_cons] at ha
    have e := lowL_cons (lt := lt) x y l
    by_cases hy : lt y x = true
    · rw [if_pos hy] at e
      have hx' : x ∈ l := by
        rcases List.mem_cons.1 hx with rfl | h
        · rw [O.irr] at hy; cases hy
        · exact h
      obtain ⟨h, hg⟩ := asc_at O x l ha.2 hx'
      refine ⟨by rw [e]; simpa using h, ?_⟩
      simp only [e, List.getElem_cons_succ]
      exact hg
    · rw [if_neg hy] at e
      have : y = x := by
        rcases List.mem_cons.1 hx with h | h
        · exact h.symm
        · exact absurd (ha.1 x h) hy
      exact ⟨by rw [e]; simp, by simp only [e, List.getElem_cons_zero]; exact this⟩
theorem asc_getElem {l : List α} (h : AscL lt l) {i j : Nat} (hi : i < l.length) (hj : j < l.length) (hij : i < j) : lt l[i] l[j] = true := List.pairwise_iff_getElem.1 h i j hi hj hij
theorem asc_nodup (O : STO lt) {l : List α} (h : AscL lt l) : l.Nodup := h.imp (by intro x y hxy e; subst e; rw [O.irr] at hxy; cases hxy)
theorem asc_filter {l : List α} (h : AscL lt l) (p : α → Bool) : AscL lt (l.filter p) := h.sublist List.filter_sublist
end

theorem nodup_len {α : Type} [DecidableEq α] : ∀ {a b : List α}, a.Nodup → (∀ x ∈ a, x ∈ b) → a.length ≤ b.length
  | [], b, _, _ => by simp
  | x :: a, b, h, hs => by
    rw [List.nodup_cons] at h
    have hx := hs x (by simp)
    have := nodup_len (a := a) (b := b.erase x) h.2 fun y hy => (List.mem_erase_of_ne (by rintro rfl; exact h.1 hy)).2 (hs y (List.mem_cons_of_mem _ hy))
    rw [List.length_erase_of_mem hx] at this
    have := List.length_pos_of_mem hx
    simp; omega
def ltN (a b : Nat) : Bool := decide (a < b)
theorem stoN : STO ltN where
  irr a := by simp [ltN]
  tr a b c h1 h2 := by simp [ltN] at *; omega
  tot a b h1 h2 := by simp [ltN] at *; omega
abbrev AscN (l : List Nat) : Prop := AscL ltN l
theorem ascN_eq {a b : List Nat} (ha : AscN a) (hb : AscN b) (h : ∀ x, x ∈ a ↔ x ∈ b) : a = b := asc_uniq stoN ha hb h
def hasN (x : Nat) (l : List Nat) : Bool := l.any fun y => decide (y = x)
theorem hasN_iff {x : Nat} {l : List Nat} : hasN x l = true ↔ x ∈ l := by
  unfold hasN
  rw [List.any_eq_true]
  constructor
  · rintro ⟨y, h, e⟩
    have : y = x := by simpa using e
    subst this; exact h
  · intro h; exact ⟨x, h, by simp⟩
theorem hasN_app (x : Nat) (l m : List Nat) : hasN x (l ++ m) = (hasN x l || hasN x m) := by simp [hasN]
theorem range_asc (n : Nat) : AscN (List.range n) := by
  unfold AscN AscL
  exact (List.pairwise_lt_range).imp fun h => by simp [ltN]; exact h
/-- How many edges of a node lead to what is not yet listed. -/
def cnt (es : List (Nat × Nat)) (out : List Nat) (x : Nat) : Nat := (es.filter fun e => decide (e.1 = x) && !hasN e.2 out).length
def occ (x : Nat) (l : List Nat) : Nat := (l.filter fun y => decide (y = x)).length
theorem cnt_snoc (es : List (Nat × Nat)) (e : Nat × Nat) (out : List Nat) (x : Nat) : cnt (es ++ [e]) out x = cnt es out x + if (decide (e.1 = x) && !hasN e.2 out) = true then 1 else 0 := by
  unfold cnt
  rw [List.filter_append, List.length_append, List.filter_cons]
  split <;> simp
theorem cnt_le (es : List (Nat × Nat)) (out : List Nat) (x : Nat) : cnt es out x ≤ es.length := List.length_filter_le _ _
theorem cnt_zero {es : List (Nat × Nat)} {out : List Nat} {x : Nat} : cnt es out x = 0 ↔ ∀ e ∈ es, e.1 = x → e.2 ∈ out := by
  unfold cnt
  rw [List.length_eq_zero_iff, List.filter_eq_nil_iff]
  constructor
  · intro h e he hx
    have := h e he
    simp [hx] at this
    exact hasN_iff.1 this
  · intro h e he
    by_cases hx : e.1 = x
    · have := hasN_iff.2 (h e he hx); simp [hx, this]
    · simp [hx]
theorem occ_snoc (x y : Nat) (l : List Nat) : occ x (l ++ [y]) = occ x l + if y = x then 1 else 0 := by
  unfold occ
  rw [List.filter_append, List.length_append]
  by_cases h : y = x <;> simp [List.filter_cons, h]
theorem occ_perm {x : Nat} {l m : List Nat} (h : l.Perm m) : occ x l = occ x m := (h.filter _).length_eq
theorem occ_take_le (x : Nat) (l : List Nat) (k : Nat) : occ x (l.take k) ≤ occ x l := by
  unfold occ
  have := ((List.take_sublist k l).filter fun y => decide (y = x)).length_le
  exact this
/-- What goes away with one more listed. -/
theorem cnt_more (es : List (Nat × Nat)) (out : List Nat) (n x : Nat) (hn : n ∉ out) : cnt es (out ++ [n]) x + (es.filter fun e => decide (e.1 = x) && decide (e.2 = n)).length = cnt es out x := by
  unfold cnt
  induction es with
  | nil => rfl
  | cons e es ih =>
    rw [List.filter_cons, List.filter_cons, List.filter_cons]
    have ha : hasN e.2 (out ++ [n]) = (hasN e.2 out || decide (n = e.2)) := by rw [hasN_app]; simp [hasN]
    rw [ha]
    by_cases h1 : e.1 = x
    · by_cases h2 : e.2 = n
      · have h3 : hasN e.2 out = false := by cases h : hasN e.2 out with | false => rfl | true => exact absurd (h2 ▸ hasN_iff.1 h) hn
        simp [h1, h2] at h3 ⊢
        rw [h3]; simp; omega
      · have h4 : n ≠ e.2 := fun h => h2 h.symm
        cases h3 : hasN e.2 out <;> simp [h1, h2, h4] <;> omega
    · simp [h1]; exact ih
/-- The targets in the reversed graph, counted. -/
def tg (es : List (Nat × Nat)) (x : Nat) : List Nat := (es.filter fun e => decide (e.1 = x)).map (·.2)
theorem occ_tg (es rs : List (Nat × Nat)) (hp : rs.Perm (es.map fun e => (e.2, e.1))) (n x : Nat) : occ x (tg rs n) = (es.filter fun e => decide (e.1 = x) && decide (e.2 = n)).length := by
  have h1 : (tg rs n).Perm (tg (es.map fun e => (e.2, e.1)) n) := (hp.filter _).map _
  rw [occ_perm h1]
  unfold occ tg
  rw [List.filter_map, List.length_map, List.filter_filter, List.filter_map, List.length_map]
  rfl

/-- Who is ready, by a function that counts. -/
def rdL (ns out : List Nat) (v : Nat → Nat) : List Nat := ns.filter fun x => !hasN x out && decide (v x = 0)
def decV (v : Nat → Nat) (u : Nat) : Nat → Nat := fun x => if x = u then v x - 1 else v x
theorem mem_rdL {ns out : List Nat} {v : Nat → Nat} {x : Nat} : x ∈ rdL ns out v ↔ x ∈ ns ∧ x ∉ out ∧ v x = 0 := by
  unfold rdL
  rw [List.mem_filter]
  have : (!hasN x out) = true ↔ x ∉ out := by rw [← hasN_iff]; simp
  rw [Bool.and_eq_true, this, decide_eq_true_eq]
theorem rdL_asc {ns : List Nat} (h : AscN ns) (out : List Nat) (v : Nat → Nat) : AscN (rdL ns out v) := asc_filter h _
theorem rd_put {ns out : List Nat} {v : Nat → Nat} {u : Nat} (h : AscN ns) (hu : u ∈ ns) (ho : u ∉ out) (h1 : v u = 1) : rdL ns out (decV v u) = putL ltN u (rdL ns out v) := by
  have hnu : u ∉ rdL ns out v := fun hh => by have := (mem_rdL.1 hh).2.2; omega
  refine ascN_eq (rdL_asc h _ _) (putL_asc stoN u _ (rdL_asc h _ _) hnu) fun x => ?_
  rw [mem_putL, mem_rdL, mem_rdL]
  unfold decV
  by_cases e : x = u
  · subst e; simp [hu, ho, h1]
  · simp [e]
theorem rd_same {ns out : List Nat} {v : Nat → Nat} {u : Nat} (h1 : 2 ≤ v u) : rdL ns out (decV v u) = rdL ns out v := by
  unfold rdL
  apply List.filter_congr
  intro x _
  unfold decV
  by_cases e : x = u
  · subst e
    have a : ¬ v x - 1 = 0 := by omega
    have b : ¬ v x = 0 := by omega
    simp [a, b]
  · simp [e]
theorem rd_pop {ns out : List Nat} {v : Nat → Nat} {n : Nat} {R : List Nat} (h : AscN ns) (hR : rdL ns out v = n :: R) : R = rdL ns (out ++ [n]) v := by
  have ha := rdL_asc h out v
  rw [hR] at ha
  have hn : ∀ x ∈ R, x ≠ n := fun x hx e => by
    have := (List.pairwise_cons.1 ha).1 x hx
    rw [e, stoN.irr] at this; cases this
  refine ascN_eq (List.pairwise_cons.1 ha).2 (rdL_asc h _ _) fun x => ?_
  have hx : x ∈ rdL ns out v ↔ x ∈ n :: R := by rw [hR]
  rw [mem_rdL] at hx
  rw [mem_rdL, List.mem_append, List.mem_singleton]
  constructor
  · intro hm
    obtain ⟨h1, h2, h3⟩ := hx.2 (List.mem_cons_of_mem _ hm)
    exact ⟨h1, fun hh => hh.elim h2 (hn x hm), h3⟩
  · rintro ⟨h1, h2, h3⟩
    rcases List.mem_cons.1 (hx.1 ⟨h1, fun hh => h2 (Or.inl hh), h3⟩) with e | e
    · exact absurd (Or.inr e) h2
    · exact e
theorem putL_insert {α : Type} {lt : α → α → Bool} (x : α) (l : List α) : l.insertIdx (lowL lt x l) x = putL lt x l := by
  have key : ∀ (l : List α) (i : Nat), i ≤ l.length → l.insertIdx i x = l.take i ++ x :: l.drop i := by
    intro l
    induction l with
    | nil =>
      intro i hi
      have h0 : i = 0 := by simpa using hi
      subst h0
      rfl
    | cons y l ih =>
      intro i hi
      cases i with
      | zero => rfl
      | succ i => simp [ih i (by simpa using hi)]
  exact key l _ (lowL_le x l)

/-- The order: ever again the first node that is ready. -/
def pick (ns : List Nat) (es : List (Nat × Nat)) (out : List Nat) : Option Nat := ns.find? fun x => !hasN x out && decide (cnt es out x = 0)
def ordF (ns : List Nat) (es : List (Nat × Nat)) : Nat → List Nat → List Nat
  | 0, out => out
  | n + 1, out => match pick ns es out with
    | none => out
    | some x => ordF ns es n (out ++ [x])
theorem pick_head (ns : List Nat) (es : List (Nat × Nat)) (out : List Nat) : pick ns es out = (rdL ns out (cnt es out)).head? := by
  unfold pick rdL
  rw [List.head?_filter]
/-- The list under way. -/
structure Lst (ns : List Nat) (es : List (Nat × Nat)) (out : List Nat) : Prop where
  nod : out.Nodup
  sub : ∀ x ∈ out, x ∈ ns
  cls : ∀ e ∈ es, e.1 ∈ out → e.2 ∈ out
  top : ordF ns es (ns.length - out.length) out = ordF ns es ns.length []
theorem Lst.start (ns : List Nat) (es : List (Nat × Nat)) : Lst ns es [] := ⟨List.nodup_nil, by simp, by simp, rfl⟩
theorem Lst.len {ns : List Nat} {es : List (Nat × Nat)} {out : List Nat} (h : Lst ns es out) : out.length ≤ ns.length := nodup_len h.nod h.sub
theorem Lst.more {ns : List Nat} {es : List (Nat × Nat)} {out R : List Nat} {n : Nat} (h : Lst ns es out) (hR : rdL ns out (cnt es out) = n :: R) : Lst ns es (out ++ [n]) ∧ n ∈ ns ∧ n ∉ out := by
  have hm : n ∈ rdL ns out (cnt es out) := by rw [hR]; simp
  obtain ⟨h1, h2, h3⟩ := mem_rdL.1 hm
  have hnod : (out ++ [n]).Nodup := List.nodup_append.2 ⟨h.nod, by simp, fun a ha b hb => by simp at hb; subst hb; rintro rfl; exact h2 ha⟩
  have hsub : ∀ x ∈ out ++ [n], x ∈ ns := fun x hx => by
    rw [List.mem_append, List.mem_singleton] at hx
    rcases hx with hx | rfl
    · exact h.sub x hx
    · exact h1
  have hl := nodup_len hnod hsub
  refine ⟨⟨hnod, hsub, fun e he hx => ?_, ?_⟩, h1, h2⟩
  · rw [List.mem_append, List.mem_singleton] at hx ⊢
    rcases hx with hx | hx
    · exact Or.inl (h.cls e he hx)
    · exact Or.inl (cnt_zero.1 h3 e he hx)
  · rw [← h.top]
    have e1 : ns.length - out.length = (ns.length - (out ++ [n]).length) + 1 := by simp at hl ⊢; omega
    rw [e1, ordF, pick_head, hR]
    rfl
theorem Lst.fin {ns : List Nat} {es : List (Nat × Nat)} {out : List Nat} (h : Lst ns es out) (hR : rdL ns out (cnt es out) = []) : ordF ns es ns.length [] = out := by
  rw [← h.top]
  cases ns.length - out.length with
  | zero => rfl
  | succ k => rw [ordF, pick_head, hR]; rfl
end Go.Proofs.YtpnogmicfomofaaGreatDoor.Stp
/-
  Steps and what they need, in plain Lean: walks, what is before what, the order. No program in sight. Conditions: those ahead of each theorem.
-/
namespace Go.Proofs.YtpnogmicfomofaaGreatDoor.Stp
set_option linter.unusedVariables false
set_option linter.unusedSimpArgs false

/-- A walk of n edges. -/
def Wn (F : Nat → List Nat) : Nat → Nat → Nat → Prop
  | 0, a, b => a = b
  | n + 1, a, b => ∃ c, c ∈ F a ∧ Wn F n c b
section
variable {F : Nat → List Nat}
theorem wn_add : ∀ {m n : Nat} {a b c : Nat}, Wn F m a b → Wn F n b c → Wn F (m + n) a c
  | 0, n, a, b, c, h, h' => by rw [Nat.zero_add]; cases h; exact h'
  | m + 1, n, a, b, c, ⟨d, hd, h⟩, h' => by rw [Nat.add_right_comm]; exact ⟨d, hd, wn_add h h'⟩
theorem wn_one {a b : Nat} (h : b ∈ F a) : Wn F 1 a b := ⟨b, h, rfl⟩
theorem wn_snoc {n : Nat} {a b : Nat} : Wn F (n + 1) a b ↔ ∃ c, Wn F n a c ∧ b ∈ F c := by
  constructor
  · intro h
    induction n generalizing a with
    | zero =>
      obtain ⟨c, hc, rfl⟩ := h
      exact ⟨a, rfl, hc⟩
    | succ n ih =>
      obtain ⟨c, hc, h⟩ := h
      obtain ⟨d, h1, h2⟩ := ih h
      exact ⟨d, ⟨c, hc, h1⟩, h2⟩
  · rintro ⟨c, h1, h2⟩
    exact wn_add h1 (wn_one h2)
theorem wn_split : ∀ {m n : Nat} {a c : Nat}, Wn F (m + n) a c → ∃ b, Wn F m a b ∧ Wn F n b c
  | 0, n, a, c, h => ⟨a, rfl, by rwa [Nat.zero_add] at h⟩
  | m + 1, n, a, c, h => by
    rw [Nat.add_right_comm] at h
    obtain ⟨d, hd, h⟩ := h
    obtain ⟨b, h1, h2⟩ := wn_split h
    exact ⟨b, ⟨d, hd, h1⟩, h2⟩
theorem wn_rev {G : Nat → List Nat} (h : ∀ x y, y ∈ G x ↔ x ∈ F y) : ∀ {n : Nat} {a b : Nat}, Wn G n a b ↔ Wn F n b a
  | 0, a, b => ⟨fun e => e.symm, fun e => e.symm⟩
  | n + 1, a, b => by
    rw [wn_snoc]
    constructor
    · rintro ⟨c, h1, h2⟩
      exact ⟨c, (h c b).1 h2, (wn_rev h).1 h1⟩
    · rintro ⟨c, h1, h2⟩
      exact ⟨c, (wn_rev h).2 h2, (h c b).2 h1⟩
theorem wn_congr {G : Nat → List Nat} (h : ∀ x y, y ∈ G x ↔ y ∈ F x) : ∀ {n : Nat} {a b : Nat}, Wn G n a b ↔ Wn F n a b
  | 0, a, b => Iff.rfl
  | n + 1, a, b => by
    constructor
    · rintro ⟨c, h1, h2⟩; exact ⟨c, (h a c).1 h1, (wn_congr h).1 h2⟩
    · rintro ⟨c, h1, h2⟩; exact ⟨c, (h a c).2 h1, (wn_congr h).2 h2⟩
end
/-- How many of a list are still to be seen. -/
def remN (U sn : List Nat) : Nat := (U.filter fun u => !hasN u sn).length
theorem remN_le (U sn : List Nat) : remN U sn ≤ U.length := List.length_filter_le _ _
theorem remN_add {U sn : List Nat} {y : Nat} (hy : y ∈ U) (hn : y ∉ sn) : remN U (sn ++ [y]) + 1 ≤ remN U sn := by
  unfold remN
  induction U with
  | nil => cases hy
  | cons u U ih =>
    have hmono : ∀ V : List Nat, (V.filter fun u => !hasN u (sn ++ [y])).length ≤ (V.filter fun u => !hasN u sn).length := fun V => by
      induction V with
      | nil => simp
      | cons v V ihv =>
        rw [List.filter_cons, List.filter_cons, hasN_app]
        cases h1 : hasN v sn <;> cases h2 : hasN v [y] <;> simp <;> omega
    rw [List.filter_cons, List.filter_cons, hasN_app]
    by_cases e : y = u
    · subst e
      have h1 : hasN y sn = false := by cases h : hasN y sn with | false => rfl | true => exact absurd (hasN_iff.1 h) hn
      have h2 : hasN y [y] = true := hasN_iff.2 (by simp)
      rw [h1, h2]
      have := hmono U
      simp; omega
    · have h2 : hasN u [y] = false := by cases h : hasN u [y] with | false => rfl | true => exact absurd (hasN_iff.1 h) (by simp; exact fun h => e h.symm)
      have := ih (by rcases List.mem_cons.1 hy with h | h; exact absurd h e; exact h)
      rw [h2, Bool.or_false]
      cases h1 : hasN u sn <;> simp <;> omega


/-- The search for a step, from b backwards: marks, and what is still to do. -/
structure Bf (F : Nat → List Nat) (a b : Nat) (sn L : List Nat) : Prop where
  rch : ∀ x ∈ L, ∃ n, Wn F n b x
  rcs : ∀ x ∈ sn, ∃ n, Wn F n b x
  dn : ∀ x, x = b ∨ x ∈ sn → x ∈ L ∨ ∀ y ∈ F x, y ≠ a ∧ y ∈ sn
/-- .. in the midst of one that was taken. -/
structure BfI (F : Nat → List Nat) (a b x k : Nat) (sn L : List Nat) : Prop where
  rx : ∃ n, Wn F n b x
  rch : ∀ x ∈ L, ∃ n, Wn F n b x
  rcs : ∀ x ∈ sn, ∃ n, Wn F n b x
  dn : ∀ z, z = b ∨ z ∈ sn → z ∈ L ∨ z = x ∨ ∀ y ∈ F z, y ≠ a ∧ y ∈ sn
  fst : ∀ y ∈ (F x).take k, y ≠ a ∧ y ∈ sn
section
variable {F : Nat → List Nat} {a b x k : Nat} {sn L : List Nat}
theorem Bf.start (F : Nat → List Nat) (a b : Nat) : Bf F a b [] [b] := ⟨fun x hx => by
  have : x = b := by simpa using hx
  exact ⟨0, this.symm⟩, fun x hx => absurd hx (by simp), fun x hx => by
  rcases hx with rfl | hx
  · exact Or.inl (by simp)
  · cases hx⟩
theorem Bf.pop (h : Bf F a b sn (L ++ [x])) : BfI F a b x 0 sn L :=
  ⟨h.rch x (by simp), fun z hz => h.rch z (by simp [hz]), h.rcs, fun z hz => by
    rcases h.dn z hz with h1 | h1
    · rw [List.mem_append, List.mem_singleton] at h1
      rcases h1 with h1 | h1
      · exact Or.inl h1
      · exact Or.inr (Or.inl h1)
    · exact Or.inr (Or.inr h1), by simp⟩
theorem Bf.popH (h : Bf F a b sn (x :: L)) : BfI F a b x 0 sn L :=
  ⟨h.rch x (by simp), fun z hz => h.rch z (by simp [hz]), h.rcs, fun z hz => by
    rcases h.dn z hz with h1 | h1
    · rcases List.mem_cons.1 h1 with h1 | h1
      · exact Or.inr (Or.inl h1)
      · exact Or.inl h1
    · exact Or.inr (Or.inr h1), by simp⟩
theorem BfI.skip (h : BfI F a b x k sn L) (hk : k < (F x).length) (hy : (F x)[k] ∈ sn) (ha : (F x)[k] ≠ a) : BfI F a b x (k + 1) sn L :=
  ⟨h.rx, h.rch, h.rcs, h.dn, fun y hm => by
    rw [List.take_succ_eq_append_getElem hk, List.mem_append, List.mem_singleton] at hm
    rcases hm with hm | rfl
    · exact h.fst y hm
    · exact ⟨ha, hy⟩⟩
theorem BfI.push (h : BfI F a b x k sn L) (hk : k < (F x).length) (ha : (F x)[k] ≠ a) : BfI F a b x (k + 1) (sn ++ [(F x)[k]]) (L ++ [(F x)[k]]) := by
  obtain ⟨n, hw⟩ := h.rx
  have hr : ∃ n, Wn F n b (F x)[k] := ⟨n + 1, wn_snoc.2 ⟨x, hw, List.getElem_mem hk⟩⟩
  refine ⟨h.rx, fun z hz => ?_, fun z hz => ?_, fun z hz => ?_, fun y hm => ?_⟩
  · rw [List.mem_append, List.mem_singleton] at hz
    rcases hz with hz | rfl
    · exact h.rch z hz
    · exact hr
  · rw [List.mem_append, List.mem_singleton] at hz
    rcases hz with hz | rfl
    · exact h.rcs z hz
    · exact hr
  · have key : z = b ∨ z ∈ sn → z ∈ L ++ [(F x)[k]] ∨ z = x ∨ ∀ y ∈ F z, y ≠ a ∧ y ∈ sn ++ [(F x)[k]] := fun hz => by
      rcases h.dn z hz with h1 | h1 | h1
      · exact Or.inl (List.mem_append_left _ h1)
      · exact Or.inr (Or.inl h1)
      · exact Or.inr (Or.inr fun y hy => ⟨(h1 y hy).1, List.mem_append_left _ (h1 y hy).2⟩)
    rcases hz with hz | hz
    · exact key (Or.inl hz)
    · rw [List.mem_append, List.mem_singleton] at hz
      rcases hz with hz | rfl
      · exact key (Or.inr hz)
      · exact Or.inl (by simp)
  · rw [List.take_succ_eq_append_getElem hk, List.mem_append, List.mem_singleton] at hm
    rcases hm with hm | rfl
    · exact ⟨(h.fst y hm).1, List.mem_append_left _ (h.fst y hm).2⟩
    · exact ⟨ha, by simp⟩
theorem BfI.done (h : BfI F a b x (F x).length sn L) : Bf F a b sn L :=
  ⟨h.rch, h.rcs, fun z hz => by
    rcases h.dn z hz with h1 | h1 | h1
    · exact Or.inl h1
    · subst h1
      exact Or.inr fun y hy => h.fst y (by rwa [List.take_length])
    · exact Or.inr h1⟩
theorem BfI.hit (h : BfI F a b x k sn L) (hk : k < (F x).length) (ha : (F x)[k] = a) : ∃ n, Wn F (n + 1) b a := by
  obtain ⟨n, hw⟩ := h.rx
  exact ⟨n, wn_snoc.2 ⟨x, hw, ha ▸ List.getElem_mem hk⟩⟩
theorem Bf.fin (h : Bf F a b sn []) : ¬ ∃ n, Wn F (n + 1) b a := by
  have hin : ∀ n z, Wn F n b z → z = b ∨ z ∈ sn := by
    intro n
    induction n with
    | zero => intro z hz; exact Or.inl hz.symm
    | succ n ih =>
      intro z hz
      obtain ⟨c, h1, h2⟩ := wn_snoc.1 hz
      rcases h.dn c (ih c h1) with h3 | h3
      · cases h3
      · exact Or.inr (h3 z h2).2
  rintro ⟨n, hw⟩
  obtain ⟨c, h1, h2⟩ := wn_snoc.1 hw
  rcases h.dn c (hin n c h1) with h3 | h3
  · cases h3
  · exact (h3 a h2).1 rfl
end
/-- What a step needs. -/
def nd (N : List (List Nat)) (i : Nat) : List Nat := N.getD i []
open Classical in
/-- Whether a step is before another one. -/
noncomputable def befN (N : List (List Nat)) (a b : Nat) : Bool := decide (∃ n, Wn (nd N) (n + 1) b a)
theorem befN_iff {N : List (List Nat)} {a b : Nat} : befN N a b = true ↔ ∃ n, Wn (nd N) (n + 1) b a := by unfold befN; simp
def esN (N : List (List Nat)) : List (Nat × Nat) := N.zipIdx.flatMap fun x => x.1.map fun k => (x.2, k)
theorem mem_esN {N : List (List Nat)} {i k : Nat} : (i, k) ∈ esN N ↔ k ∈ nd N i := by
  unfold esN nd
  rw [List.mem_flatMap]
  constructor
  · rintro ⟨⟨l, j⟩, h1, h2⟩
    rw [List.mem_map] at h2
    obtain ⟨k', hk, e⟩ := h2
    simp at e
    obtain ⟨rfl, rfl⟩ := e
    rw [List.mem_zipIdx_iff_getElem?] at h1
    rw [List.getD_eq_getElem?_getD]
    simp only at h1
    rw [h1]; exact hk
  · intro h
    rw [List.getD_eq_getElem?_getD] at h
    cases hN : N[i]? with
    | none => rw [hN] at h; simp at h
    | some l =>
      rw [hN] at h
      exact ⟨(l, i), by rw [List.mem_zipIdx_iff_getElem?]; exact hN, List.mem_map.2 ⟨k, h, rfl⟩⟩
/-- The order of the steps, or the error. -/
def ordS (N : List (List Nat)) : List Nat := ordF (List.range N.length) (esN N) N.length []
def ordSO (N : List (List Nat)) : List Nat := if (ordS N).length < N.length then [] else ordS N
def ordSE (N : List (List Nat)) : Int := if (ordS N).length < N.length then 10 else 0
/-- Whether all needs are steps. -/
def rightN (n : Nat) (L : List (List Int)) : Bool := L.all fun l => l.all fun k => decide (0 ≤ k) && decide (k < n)
end Go.Proofs.YtpnogmicfomofaaGreatDoor.Stp
/-
  The order of steps, in plain Lean: how both sides come to it. No program in sight. Conditions: those ahead of each theorem.
-/
namespace Go.Proofs.YtpnogmicfomofaaGreatDoor.Stp
set_option linter.unusedVariables false
set_option linter.unusedSimpArgs false

theorem find_first {α : Type} {p : α → Bool} : ∀ {l : List α} {k : Nat} (h : k < l.length), (∀ j (hj : j < l.length), j < k → p l[j] = false) → p l[k] = true → l.find? p = some l[k]
  | x :: l, 0, h, _, hp => by rw [List.find?_cons_of_pos]; rfl; exact hp
  | x :: l, k + 1, h, hn, hp => by
    have h0 : p x = false := hn 0 (by simp) (by omega)
    rw [List.find?_cons_of_neg (by rw [h0]; simp)]
    simp only [List.getElem_cons_succ] at hp ⊢
    exact find_first (by simpa using h) (fun j hj hjk => hn (j + 1) (by simpa using hj) (by omega)) hp
def ordOn (ns : List Nat) (es : List (Nat × Nat)) : List Nat := if (ordF ns es ns.length []).length < ns.length then [] else ordF ns es ns.length []
def ordEn (ns : List Nat) (es : List (Nat × Nat)) : Int := if (ordF ns es ns.length []).length < ns.length then 10 else 0
def rdyB (es : List (Nat × Nat)) (out : List Nat) (s : Nat) : Bool := decide (cnt es out s = 0)
theorem ordF_none {ns : List Nat} {es : List (Nat × Nat)} {n : Nat} {out : List Nat} (h : pick ns es out = none) : ordF ns es n out = out := by
  cases n with
  | zero => rfl
  | succ n => rw [ordF, h]
theorem pick_at {ns : List Nat} {es : List (Nat × Nat)} {out : List Nat} {k : Nat} (hk : k < ns.length) (h : ∀ j (hj : j < ns.length), j < k → hasN ns[j] out = true ∨ rdyB es out ns[j] = false) (h1 : hasN ns[k] out = false) (h2 : rdyB es out ns[k] = true) : pick ns es out = some ns[k] := by
  unfold pick
  refine find_first (p := fun x => !hasN x out && decide (cnt es out x = 0)) hk (fun j hj hjk => ?_) (by unfold rdyB at h2; rw [h1, h2]; rfl)
  rcases h j hj hjk with h | h
  · rw [h]; rfl
  · unfold rdyB at h; rw [h, Bool.and_false]
theorem pick_no {ns : List Nat} {es : List (Nat × Nat)} {out : List Nat} (h : ∀ j (hj : j < ns.length), hasN ns[j] out = true ∨ rdyB es out ns[j] = false) : pick ns es out = none := by
  unfold pick
  refine List.find?_eq_none.2 fun x hx => ?_
  obtain ⟨j, hj, rfl⟩ := List.mem_iff_getElem.1 hx
  rcases h j hj with h | h
  · rw [h]; simp
  · unfold rdyB at h; rw [h, Bool.and_false]; simp
/-- The order under way. -/
def OrdW (ns : List Nat) (es : List (Nat × Nat)) (out : List Nat) : Prop := ordF ns es (ns.length - out.length) out = ordF ns es ns.length [] ∧ out.length ≤ ns.length ∧ ∀ x ∈ out, x ∈ ns
theorem OrdW.more {ns : List Nat} {es : List (Nat × Nat)} {out : List Nat} {x : Nat} (h : OrdW ns es out) (hx : pick ns es out = some x) (hl : out.length < ns.length) : OrdW ns es (out ++ [x]) := by
  refine ⟨?_, by simp; omega, fun y hy => ?_⟩
  · rw [← h.1]
    have e : ns.length - out.length = (ns.length - (out ++ [x]).length) + 1 := by simp; omega
    rw [e, ordF, hx]
  · rw [List.mem_append, List.mem_singleton] at hy
    rcases hy with hy | rfl
    · exact h.2.2 y hy
    · exact List.mem_of_find?_eq_some hx
theorem OrdW.fin {ns : List Nat} {es : List (Nat × Nat)} {out : List Nat} (h : OrdW ns es out) (hl : ¬ out.length < ns.length) : ordOn ns es = out ∧ ordEn ns es = 0 := by
  have e : ordF ns es ns.length [] = out := by rw [← h.1, show ns.length - out.length = 0 by omega]; rfl
  unfold ordOn ordEn
  rw [e, if_neg hl, if_neg hl]
  exact ⟨rfl, rfl⟩
theorem OrdW.stuck {ns : List Nat} {es : List (Nat × Nat)} {out : List Nat} (h : OrdW ns es out) (hl : out.length < ns.length) (hp : pick ns es out = none) : ordOn ns es = [] ∧ ordEn ns es = 10 := by
  have e : ordF ns es ns.length [] = out := by rw [← h.1, ordF_none hp]
  unfold ordOn ordEn
  rw [e, if_pos hl, if_pos hl]
  exact ⟨rfl, rfl⟩


theorem cnt_app (e1 e2 : List (Nat × Nat)) (out : List Nat) (x : Nat) : cnt (e1 ++ e2) out x = cnt e1 out x + cnt e2 out x := by
  unfold cnt; rw [List.filter_append, List.length_append]
theorem cnt_from (out : List Nat) (i : Nat) : ∀ (N : List (List Nat)) (s : Nat), cnt ((N.zipIdx s).flatMap fun x => x.1.map fun k => (x.2, k)) out i = if s ≤ i ∧ i < s + N.length then ((N.getD (i - s) []).filter fun k => !hasN k out).length else 0
  | [], s => by
    have h : ¬ (s ≤ i ∧ i < s + ([] : List (List Nat)).length) := by rw [List.length_nil]; omega
    rw [if_neg h]; rfl
  | l :: N, s => by
    rw [List.zipIdx_cons, List.flatMap_cons, cnt_app, cnt_from out i N (s + 1)]
    have h1 : cnt (l.map fun k => (s, k)) out i = if s = i then (l.filter fun k => !hasN k out).length else 0 := by
      unfold cnt
      rw [List.filter_map, List.length_map]
      by_cases e : s = i
      · subst e
        rw [if_pos rfl]
        congr 2
        funext k
        simp
      · rw [if_neg e]
        have : (fun k : Nat => ((fun e : Nat × Nat => decide (e.1 = i) && !hasN e.2 out) ∘ fun k => (s, k)) k) = fun _ => false := by
          funext k
          simp [e]
        rw [List.length_eq_zero_iff, List.filter_eq_nil_iff]
        intro k _
        simp [e]
    rw [h1]
    by_cases e : s = i
    · subst e
      rw [if_pos rfl, if_neg (by omega), if_pos ⟨Nat.le_refl _, by simp⟩]
      simp
    · rw [if_neg e]
      by_cases h2 : s + 1 ≤ i ∧ i < s + 1 + N.length
      · rw [if_pos h2, if_pos ⟨by omega, by simp; omega⟩]
        have e3 : i - s = (i - (s + 1)) + 1 := by omega
        rw [e3]
        simp
      · rw [if_neg h2, if_neg (fun h3 => h2 ⟨by omega, by simp at h3; omega⟩)]
theorem cnt_esN (N : List (List Nat)) (out : List Nat) {i : Nat} (hi : i < N.length) : cnt (esN N) out i = ((nd N i).filter fun k => !hasN k out).length := by
  unfold esN nd
  have := cnt_from out i N 0
  rw [if_pos ⟨Nat.zero_le _, by omega⟩] at this
  simpa using this
theorem cnt_esN0 (N : List (List Nat)) {i : Nat} (hi : i < N.length) : cnt (esN N) [] i = (nd N i).length := by
  rw [cnt_esN N [] hi]
  congr 1
  exact List.filter_eq_self.2 fun k _ => by simp [hasN]
/-- Who needs a step, in the order of the steps. -/
def usr (es : List (Nat × Nat)) (k : Nat) : List Nat := (es.filter fun e => decide (e.2 = k)).map (·.1)
theorem usr_snoc (es : List (Nat × Nat)) (i k j : Nat) : usr (es ++ [(i, k)]) j = if k = j then usr es j ++ [i] else usr es j := by
  unfold usr
  rw [List.filter_append, List.filter_cons, List.map_append]
  by_cases e : k = j <;> simp [e]
theorem mem_usr {es : List (Nat × Nat)} {k i : Nat} : i ∈ usr es k ↔ (i, k) ∈ es := by
  unfold usr
  rw [List.mem_map]
  constructor
  · rintro ⟨⟨a, b⟩, h, rfl⟩
    rw [List.mem_filter] at h
    have : b = k := by simpa using h.2
    subst this; exact h.1
  · intro h
    exact ⟨(i, k), List.mem_filter.2 ⟨h, by simp⟩, rfl⟩
theorem occ_usr (es : List (Nat × Nat)) (k x : Nat) : occ x (usr es k) = (es.filter fun e => decide (e.1 = x) && decide (e.2 = k)).length := by
  unfold occ usr
  rw [List.filter_map, List.length_map, List.filter_filter]
  rfl
theorem usr_len (es : List (Nat × Nat)) (k : Nat) : (usr es k).length ≤ es.length := by unfold usr; rw [List.length_map]; exact List.length_filter_le _ _
end Go.Proofs.YtpnogmicfomofaaGreatDoor.Stp
/-
  What the order of steps says, in plain Lean. No program in sight. Conditions: those ahead of each theorem.
-/
namespace Go.Proofs.YtpnogmicfomofaaGreatDoor.Stp
set_option linter.unusedVariables false
set_option linter.unusedSimpArgs false

def pos (x : Nat) : List Nat → Nat
  | [] => 0
  | y :: l => if y = x then 0 else pos x l + 1
theorem pos_at {l : List Nat} (hn : l.Nodup) : ∀ {i : Nat} (hi : i < l.length), pos l[i] l = i := by
  induction l with
  | nil => intro i hi; exact absurd hi (by simp)
  | cons y l ih =>
    intro i hi
    cases i with
    | zero => simp [pos]
    | succ i =>
      have h1 := List.nodup_cons.1 hn
      have hi' : i < l.length := by simpa using hi
      have hne : y ≠ l[i] := fun e => h1.1 (by rw [e]; exact List.getElem_mem hi')
      simp only [List.getElem_cons_succ]
      unfold pos
      rw [if_neg hne, ih h1.2 hi']
theorem pos_lt {x : Nat} : ∀ {l : List Nat}, x ∈ l → pos x l < l.length
  | y :: l, h => by
    unfold pos
    by_cases e : y = x
    · rw [if_pos e]; simp
    · rw [if_neg e]
      have := pos_lt (l := l) (by rcases List.mem_cons.1 h with h | h; exact absurd h.symm e; exact h)
      simp; omega
theorem pos_left {x : Nat} {m : List Nat} : ∀ {l : List Nat}, x ∈ l → pos x (l ++ m) = pos x l
  | y :: l, h => by
    rw [List.cons_append]
    unfold pos
    by_cases e : y = x
    · rw [if_pos e, if_pos e]
    · rw [if_neg e, if_neg e, pos_left (by rcases List.mem_cons.1 h with h | h; exact absurd h.symm e; exact h)]
theorem pos_new {x : Nat} : ∀ {l : List Nat}, x ∉ l → pos x (l ++ [x]) = l.length
  | [], _ => by simp [pos]
  | y :: l, h => by
    rw [List.cons_append]
    unfold pos
    rw [if_neg (fun e => h (by simp [e])), pos_new (fun hh => h (List.mem_cons_of_mem _ hh))]
    simp
/-- Every listed node behind what it needs. -/
def Ordd (es : List (Nat × Nat)) (out : List Nat) : Prop := ∀ e ∈ es, e.1 ∈ out → e.2 ∈ out ∧ pos e.2 out < pos e.1 out
theorem Ordd.more {es : List (Nat × Nat)} {out : List Nat} {n : Nat} (h : Ordd es out) (h1 : n ∉ out) (h2 : cnt es out n = 0) : Ordd es (out ++ [n]) := by
  intro e he hx
  rw [List.mem_append, List.mem_singleton] at hx
  rcases hx with hx | hx
  · obtain ⟨h3, h4⟩ := h e he hx
    exact ⟨by simp [h3], by rw [pos_left h3, pos_left hx]; exact h4⟩
  · have h3 := cnt_zero.1 h2 e he hx
    exact ⟨by simp [h3], by rw [pos_left h3, hx, pos_new h1]; exact pos_lt h3⟩
theorem ord_run {ns : List Nat} {es : List (Nat × Nat)} : ∀ (k : Nat) (out : List Nat), ns.length - out.length ≤ k → Lst ns es out → Ordd es out → ∃ o, Lst ns es o ∧ Ordd es o ∧ rdL ns o (cnt es o) = [] := by
  intro k
  induction k with
  | zero =>
    intro out hk hL hO
    cases hR : rdL ns out (cnt es out) with
    | nil => exact ⟨out, hL, hO, hR⟩
    | cons n R =>
      have h2 := (hL.more hR).1.len
      simp at h2; omega
  | succ k ih =>
    intro out hk hL hO
    cases hR : rdL ns out (cnt es out) with
    | nil => exact ⟨out, hL, hO, hR⟩
    | cons n R =>
      have h1 := hL.more hR
      have hm : n ∈ rdL ns out (cnt es out) := by rw [hR]; simp
      exact ih (out ++ [n]) (by simp; omega) h1.1 (hO.more h1.2.2 (mem_rdL.1 hm).2.2)
theorem ord_fin (ns : List Nat) (es : List (Nat × Nat)) : Lst ns es (ordF ns es ns.length []) ∧ Ordd es (ordF ns es ns.length []) ∧ rdL ns (ordF ns es ns.length []) (cnt es (ordF ns es ns.length [])) = [] := by
  obtain ⟨o, h1, h2, h3⟩ := ord_run (ns := ns) (es := es) ns.length [] (by simp) (Lst.start ns es) (fun e he h => by simp at h)
  rw [h1.fin h3]
  exact ⟨h1, h2, h3⟩
theorem ordE_zero {ns : List Nat} {es : List (Nat × Nat)} : ordEn ns es = 0 ↔ (ordF ns es ns.length []).length = ns.length := by
  have := (ord_fin ns es).1.len
  unfold ordEn
  constructor
  · intro h
    by_cases h2 : (ordF ns es ns.length []).length < ns.length
    · rw [if_pos h2] at h; omega
    · omega
  · intro h
    rw [if_neg (by omega)]
theorem ordO_ok {ns : List Nat} {es : List (Nat × Nat)} (h : ordEn ns es = 0) : ordOn ns es = ordF ns es ns.length [] := by
  have := ordE_zero.1 h
  unfold ordOn
  rw [if_neg (by omega)]
theorem ordO_no {ns : List Nat} {es : List (Nat × Nat)} (h : ordEn ns es ≠ 0) : ordOn ns es = [] ∧ ordEn ns es = 10 := by
  have h1 : ¬ (ordF ns es ns.length []).length = ns.length := fun e => h (ordE_zero.2 e)
  have := (ord_fin ns es).1.len
  unfold ordOn ordEn
  rw [if_pos (by omega), if_pos (by omega)]
  exact ⟨rfl, rfl⟩
/-- All nodes are listed. -/
theorem ordO_all {ns : List Nat} {es : List (Nat × Nat)} (h : ordEn ns es = 0) : (ordOn ns es).length = ns.length ∧ ∀ x ∈ ns, x ∈ ordOn ns es := by
  have h2 := ordE_zero.1 h
  have h3 := (ord_fin ns es).1
  rw [ordO_ok h]
  refine ⟨h2, fun x hx => ?_⟩
  refine Classical.byContradiction fun hn => ?_
  have h4 := nodup_len (a := x :: ordF ns es ns.length []) (b := ns) (List.nodup_cons.2 ⟨hn, h3.nod⟩) (fun y hy => by
    rcases List.mem_cons.1 hy with rfl | hy
    · exact hx
    · exact h3.sub y hy)
  simp at h4; omega
theorem ord_walk {N : List (List Nat)} {o : List Nat} (h : Ordd (esN N) o) : ∀ {n : Nat} {x y : Nat}, x ∈ o → Wn (nd N) n x y → y ∈ o ∧ pos y o + n ≤ pos x o
  | 0, x, y, hx, hw => by cases hw; exact ⟨hx, by omega⟩
  | n + 1, x, y, hx, ⟨c, hc, hw⟩ => by
    obtain ⟨h1, h2⟩ := h (x, c) (mem_esN.2 hc) hx
    obtain ⟨h3, h4⟩ := ord_walk h (x := c) h1 hw
    have h2' : pos c o < pos x o := h2
    exact ⟨h3, by omega⟩
/-- One that is before another one stands ahead of it. -/
theorem bef_pos {N : List (List Nat)} (h : ordEn (List.range N.length) (esN N) = 0) {a b : Nat} (hb : b < N.length) (hab : befN N a b = true) : pos a (ordOn (List.range N.length) (esN N)) < pos b (ordOn (List.range N.length) (esN N)) := by
  obtain ⟨n, hw⟩ := befN_iff.1 hab
  have h1 := (ordO_all h).2 b (List.mem_range.2 hb)
  rw [ordO_ok h] at h1 ⊢
  have h2 := ord_walk (ord_fin (List.range N.length) (esN N)).2.1 h1 hw
  omega
theorem bef_need {N : List (List Nat)} {a k : Nat} (h : k ∈ nd N a) : befN N k a = true := befN_iff.2 ⟨0, k, h, rfl⟩
theorem bef_asym {N : List (List Nat)} (h : ordEn (List.range N.length) (esN N) = 0) {a b : Nat} (ha : a < N.length) (hb : b < N.length) (hab : befN N a b = true) : befN N b a = false := by
  cases h2 : befN N b a with
  | false => rfl
  | true =>
    have h3 := bef_pos h hb hab
    have h4 := bef_pos h ha h2
    omega
theorem ord_nodup {N : List (List Nat)} (h : ordEn (List.range N.length) (esN N) = 0) : (ordOn (List.range N.length) (esN N)).Nodup ∧ ∀ x ∈ ordOn (List.range N.length) (esN N), x < N.length := by
  rw [ordO_ok h]
  have := (ord_fin (List.range N.length) (esN N)).1
  exact ⟨this.nod, fun x hx => List.mem_range.1 (this.sub x hx)⟩
end Go.Proofs.YtpnogmicfomofaaGreatDoor.Stp
