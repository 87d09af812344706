import Derived.Test.YtpnogmicfomofaaGreatDoorZq
import Derived.Test.YtpnogmicfomofaaGreatDoorIv
/-
  Layer 44: the steps of changes, as plain facts: which steps there are, what they need, how they stand in the order; ranks. Conditions: those ahead of each theorem.
-/
namespace Go.Proofs.YtpnogmicfomofaaGreatDoor.Stp
open Go.RowKit Go.Sort Go.Lib Go.Maps
set_option linter.unusedVariables false
set_option linter.unusedSimpArgs false

theorem firstB_iff {a : Int} {c : Bool} : firstB a c = true ↔ a = 3 ∧ c = true := by
  unfold firstB opA opB
  by_cases h3 : a = 3
  · subst h3
    cases c <;> simp
  · by_cases h1 : a = 1
    · subst h1; simp
    · simp [h3]
theorem lastB_iff {a : Int} {c : Bool} : lastB a c = true ↔ a = 3 ∧ c = false := by
  unfold lastB opA opB
  by_cases h3 : a = 3
  · subst h3
    cases c <;> simp
  · by_cases h4 : a = 4
    · subst h4; simp
    · simp [h3]
theorem opl_mem {c : Ch} {o : Int} (h : o ∈ opl c) : (c.act = 1 ∧ o = 1) ∨ (c.act = 2 ∧ o = 2) ∨ (c.act = 4 ∧ o = 3) ∨ (c.act = 5 ∧ o = 4) ∨ (c.act = 3 ∧ (o = 1 ∨ o = 3)) := by
  unfold opl opA opB at h
  by_cases h1 : c.act = 1
  · simp [h1] at h; exact Or.inl ⟨h1, h⟩
  by_cases h2 : c.act = 2
  · simp [h2] at h; exact Or.inr (Or.inl ⟨h2, h⟩)
  by_cases h4 : c.act = 4
  · simp [h4] at h; exact Or.inr (Or.inr (Or.inl ⟨h4, h⟩))
  by_cases h5 : c.act = 5
  · simp [h5] at h; exact Or.inr (Or.inr (Or.inr (Or.inl ⟨h5, h⟩)))
  by_cases h3 : c.act = 3
  · cases hc : c.cf with
    | true => simp [h3, hc] at h; exact Or.inr (Or.inr (Or.inr (Or.inr ⟨h3, h⟩)))
    | false => simp [h3, hc] at h; exact Or.inr (Or.inr (Or.inr (Or.inr ⟨h3, h.symm⟩)))
  · simp [h1, h2, h3, h4, h5] at h
theorem opl_two {c : Ch} {o p : Int} (ho : o ∈ opl c) (hp : p ∈ opl c) (h : o ≠ p) : c.act = 3 ∧ (o = 1 ∧ p = 3 ∨ o = 3 ∧ p = 1) := by
  rcases opl_mem ho with ⟨a1, b1⟩ | ⟨a1, b1⟩ | ⟨a1, b1⟩ | ⟨a1, b1⟩ | ⟨a1, b1⟩ <;> rcases opl_mem hp with ⟨a2, b2⟩ | ⟨a2, b2⟩ | ⟨a2, b2⟩ | ⟨a2, b2⟩ | ⟨a2, b2⟩ <;> omega
theorem opl_nodup (c : Ch) : (opl c).Nodup := by
  unfold opl opA opB
  by_cases h3 : c.act = 3
  · cases hc : c.cf <;> simp [h3]
  · simp [h3]
    repeat' split
    all_goals simp
theorem plusK_mem {cs : List Ch} {k : Nat} {p : Nat × Int} (h : p ∈ plusK cs k) : ∃ hk : k < cs.length, p.1 = k ∧ p.2 ∈ opl cs[k] := by
  unfold plusK at h
  cases hc : cs[k]? with
  | none => rw [hc] at h; simp at h
  | some c =>
    rw [hc] at h
    obtain ⟨hk, e⟩ := List.getElem?_eq_some_iff.1 hc
    simp only [List.mem_map] at h
    obtain ⟨o, ho, rfl⟩ := h
    exact ⟨hk, rfl, by rw [e]; exact ho⟩
theorem psK_mem {cs : List Ch} {k : Nat} {p : Nat × Int} (h : p ∈ psK cs k) : ∃ hk : p.1 < cs.length, p.1 < k ∧ p.2 ∈ opl cs[p.1] := by
  unfold psK at h
  obtain ⟨i, hi, hp⟩ := List.mem_flatMap.1 h
  obtain ⟨h1, h2, h3⟩ := plusK_mem hp
  obtain ⟨p1, p2⟩ := p
  simp only at h2 h3 ⊢
  subst h2
  exact ⟨h1, List.mem_range.1 hi, h3⟩
theorem plusK_nodup (cs : List Ch) (k : Nat) : (plusK cs k).Nodup := by
  unfold plusK
  split
  · exact List.Pairwise.map _ (fun a b hab e => hab (by injection e)) (opl_nodup _)
  · exact List.nodup_nil
theorem psK_nodup (cs : List Ch) : ∀ k, (psK cs k).Nodup
  | 0 => by simp [psK]
  | k + 1 => by
    rw [psK_succ]
    refine List.nodup_append.2 ⟨psK_nodup cs k, plusK_nodup cs k, fun a ha b hb e => ?_⟩
    subst e
    obtain ⟨_, h1, _⟩ := psK_mem ha
    obtain ⟨_, h2, _⟩ := plusK_mem hb
    omega
theorem psF_at {cs : List Ch} {j : Nat} (hj : j < (psF cs).length) : ∃ hk : ((psF cs)[j]).1 < cs.length, ((psF cs)[j]).2 ∈ opl cs[((psF cs)[j]).1] := by
  obtain ⟨h1, _, h2⟩ := psK_mem (cs := cs) (k := cs.length) (List.getElem_mem hj)
  exact ⟨h1, h2⟩
theorem nodup_inj {α : Type} {l : List α} (hn : l.Nodup) {i j : Nat} (hi : i < l.length) (hj : j < l.length) (h : l[i] = l[j]) : i = j := by
  have hp := List.pairwise_iff_getElem.1 hn
  rcases Nat.lt_trichotomy i j with h1 | h1 | h1
  · exact absurd h (hp i j hi hj h1)
  · exact h1
  · exact absurd h.symm (hp j i hj hi h1)
theorem psF_two {cs : List Ch} {a b : Nat} (ha : a < (psF cs).length) (hb : b < (psF cs).length) (hab : a ≠ b) (h : ((psF cs)[a]).1 = ((psF cs)[b]).1) :
    ∃ hk : ((psF cs)[a]).1 < cs.length, (cs[((psF cs)[a]).1]).act = 3 ∧ (((psF cs)[a]).2 = 1 ∧ ((psF cs)[b]).2 = 3 ∨ ((psF cs)[a]).2 = 3 ∧ ((psF cs)[b]).2 = 1) := by
  obtain ⟨h1, h2⟩ := psF_at ha
  obtain ⟨h3, h4⟩ := psF_at hb
  refine ⟨h1, opl_two h2 (p := ((psF cs)[b]).2) ?_ (fun e => hab ?_)⟩
  · simp only [h]; exact h4
  · have hn : (psF cs).Nodup := psK_nodup cs cs.length
    exact nodup_inj hn ha hb (Prod.ext h e)
/-- The resource of a change that has steps. -/
theorem rsK_all {cs : List Ch} {k : Nat} (hk : k < cs.length) {o : Int} (h : o ∈ opl cs[k]) : rsK cs cs.length k = resB (cs[k]).addr := by
  unfold rsK
  rw [if_pos hk, List.getElem?_eq_getElem hk]
  simp only
  rw [if_neg]
  intro e
  unfold opl at h
  rw [e, opB_of e] at h
  simp at h
theorem ndK_mem {cs : List Ch} {f : Nat → ByteArray} {ps : List (Nat × Int)} {a : Nat × Int} {i : Nat} : i ∈ ndK cs f ps a ps.length ↔ ∃ hi : i < ps.length, ndB cs f a ps[i] = true := by
  unfold ndK
  rw [List.mem_filter, List.mem_range]
  constructor
  · rintro ⟨h1, h2⟩
    rw [List.getD_eq_getElem?_getD, List.getElem?_eq_getElem h1] at h2
    exact ⟨h1, h2⟩
  · rintro ⟨h1, h2⟩
    rw [List.getD_eq_getElem?_getD, List.getElem?_eq_getElem h1]
    exact ⟨h1, h2⟩
theorem stF_needs {cs : List Ch} {b : Nat} (hb : b < (psF cs).length) (hb' : b < (stF cs).length) : ((stF cs)[b]).needs = (ndK cs (rsK cs cs.length) (psF cs) (psF cs)[b] (psF cs).length).map Nat.cast := by
  rw [stF_at cs b hb hb']
  unfold ndF
  rw [List.getD_eq_getElem?_getD, List.getElem?_eq_getElem hb]
  rfl
theorem stF_nd {cs : List Ch} {a b : Nat} (hb : b < (psF cs).length) : a ∈ nd (nls (stF cs)) b ↔ ∃ ha : a < (psF cs).length, ndB cs (rsK cs cs.length) (psF cs)[b] (psF cs)[a] = true := by
  have hb' : b < (stF cs).length := by rw [stF_len]; exact hb
  rw [nd_nls hb', stF_needs hb hb', List.map_map, ← ndK_mem]
  simp
theorem stF_right (cs : List Ch) : rightS (stF cs) = true := by
  unfold rightS
  rw [List.all_eq_true]
  intro s hs
  obtain ⟨b, hb', rfl⟩ := List.mem_iff_getElem.1 hs
  have hb : b < (psF cs).length := by rw [← stF_len]; exact hb'
  rw [stF_needs hb hb']
  rw [List.all_eq_true]
  intro k hk
  obtain ⟨i, hi, rfl⟩ := List.mem_map.1 hk
  obtain ⟨h1, _⟩ := ndK_mem.1 hi
  have := stF_len cs
  simp [inR]
  omega
end Go.Proofs.YtpnogmicfomofaaGreatDoor.Stp
/-
  Layer 44: in the order, what the steps of changes need stands ahead; and steps have an order where a rank falls along the needs. Conditions: those ahead of each theorem.
-/
namespace Go.Proofs.YtpnogmicfomofaaGreatDoor.Stp
open Go.RowKit Go.Sort Go.Lib Go.Maps
set_option linter.unusedVariables false
set_option linter.unusedSimpArgs false

/-- The place of a step in the order of the steps of changes. -/
def plO (cs : List Ch) (a : Nat) : Nat := pos a (ordL (stF cs))
theorem dep_lt {cs : List Ch} (h : ordR (stF cs) = 0) {a b : Nat} (ha : a < (psF cs).length) (hb : b < (psF cs).length) (hn : ndB cs (rsK cs cs.length) (psF cs)[b] (psF cs)[a] = true) : plO cs a < plO cs b := by
  have hl := stF_len cs
  have h1 := ord_need h (a := b) (k := a) (by omega) ((stF_nd hb).2 ⟨ha, hn⟩)
  exact (ord_bef h (by omega) (by omega) h1).1
/-- Two steps of one change stand as CreateFirst says. -/
theorem dep_same {cs : List Ch} (h : ordR (stF cs) = 0) {a b : Nat} (ha : a < (psF cs).length) (hb : b < (psF cs).length) (hab : a ≠ b) (he : ((psF cs)[a]).1 = ((psF cs)[b]).1) (h1 : ((psF cs)[a]).2 = 1) (hk : ((psF cs)[b]).1 < cs.length) :
    decide (plO cs a < plO cs b) = (cs[((psF cs)[b]).1]).cf := by
  obtain ⟨hk1, h3, h4⟩ := psF_two ha hb hab he
  have h4 : ((psF cs)[b]).2 = 3 := by rcases h4 with h4 | h4 <;> omega
  simp only [he] at h3
  cases hc : (cs[((psF cs)[b]).1]).cf with
  | true =>
    refine decide_eq_true (dep_lt h ha hb ?_)
    unfold ndB removesB
    rw [if_pos h4, List.getElem?_eq_getElem hk, List.getElem?_eq_getElem hk1]
    simp only
    rw [if_pos he.symm, h1, firstB_iff.2 ⟨h3, hc⟩]
    rfl
  | false =>
    refine decide_eq_false (Nat.not_lt.2 (Nat.le_of_lt (dep_lt h hb ha ?_)))
    unfold ndB makesB
    rw [if_neg (by omega), List.getElem?_eq_getElem hk1]
    simp only
    have e2 : (cs[((psF cs)[a]).1]) = cs[((psF cs)[b]).1] := by simp only [he]
    rw [if_pos he, h1, h4, e2, lastB_iff.2 ⟨h3, hc⟩]
    rfl
theorem dep_make {cs : List Ch} (h : ordR (stF cs) = 0) {a b : Nat} (ha : a < (psF cs).length) (hb : b < (psF cs).length) (he : ((psF cs)[a]).1 ≠ ((psF cs)[b]).1) (h1 : ((psF cs)[a]).2 ≠ 3) (h2 : ((psF cs)[b]).2 ≠ 3)
    (hka : ((psF cs)[a]).1 < cs.length) (hkb : ((psF cs)[b]).1 < cs.length) (hd : inS (cs[((psF cs)[b]).1]).deps (resB (cs[((psF cs)[a]).1]).addr) = true) : plO cs a < plO cs b := by
  refine dep_lt h ha hb ?_
  obtain ⟨_, ho⟩ := psF_at ha
  unfold ndB makesB
  rw [if_neg h2, List.getElem?_eq_getElem hkb]
  simp only
  rw [if_neg (Ne.symm he), rsK_all hka ho, hd, decide_eq_false h1]
  rfl
theorem dep_remove {cs : List Ch} (h : ordR (stF cs) = 0) {a b : Nat} (ha : a < (psF cs).length) (hb : b < (psF cs).length) (he : ((psF cs)[a]).1 ≠ ((psF cs)[b]).1) (h1 : ((psF cs)[a]).2 = 3) (h2 : ((psF cs)[b]).2 = 3)
    (hka : ((psF cs)[a]).1 < cs.length) (hkb : ((psF cs)[b]).1 < cs.length) (hd : inS (cs[((psF cs)[a]).1]).old (resB (cs[((psF cs)[b]).1]).addr) = true) : plO cs a < plO cs b := by
  refine dep_lt h ha hb ?_
  obtain ⟨_, ho⟩ := psF_at hb
  unfold ndB removesB
  rw [if_pos h2, List.getElem?_eq_getElem hkb, List.getElem?_eq_getElem hka]
  simp only
  rw [if_neg (Ne.symm he), if_pos h1, rsK_all hkb ho, hd]
/-- What the law asks of two steps. -/
theorem dep_all {cs : List Ch} (h : ordR (stF cs) = 0) {a b : Nat} (ha : a < (stF cs).length) (hb : b < (stF cs).length) :
    ∃ (ia ib : Nat) (oa ob : Int) (hia : ia < cs.length) (hib : ib < cs.length), ((stF cs)[a]).change = ia ∧ ((stF cs)[a]).op = oa ∧ ((stF cs)[b]).change = ib ∧ ((stF cs)[b]).op = ob ∧
      (ia = ib → a ≠ b → oa = 1 → decide (plO cs a < plO cs b) = (cs[ib]).cf) ∧
      (ia ≠ ib → ob ≠ 3 → oa ≠ 3 → inS (cs[ib]).deps (resB (cs[ia]).addr) = true → plO cs a < plO cs b) ∧
      (ia ≠ ib → ob = 3 → oa = 3 → inS (cs[ia]).old (resB (cs[ib]).addr) = true → plO cs a < plO cs b) := by
  have ha' : a < (psF cs).length := by rw [← stF_len]; exact ha
  have hb' : b < (psF cs).length := by rw [← stF_len]; exact hb
  obtain ⟨hka, hoa⟩ := psF_at ha'
  obtain ⟨hkb, hob⟩ := psF_at hb'
  refine ⟨_, _, _, _, hka, hkb, by rw [stF_at cs a ha' ha], by rw [stF_at cs a ha' ha], by rw [stF_at cs b hb' hb], by rw [stF_at cs b hb' hb], fun e hab h1 => dep_same h ha' hb' hab e h1 hkb, fun e h1 h2 hd => dep_make h ha' hb' e h2 h1 hka hkb hd, fun e h1 h2 hd => dep_remove h ha' hb' e h2 h1 hka hkb hd⟩
theorem stF_change {cs : List Ch} {i : Nat} (hi : i < (stF cs).length) : ∃ k : Nat, k < cs.length ∧ ((stF cs)[i]).change = k := by
  have hi' : i < (psF cs).length := by rw [← stF_len]; exact hi
  obtain ⟨hk, _⟩ := psF_at hi'
  exact ⟨_, hk, by rw [stF_at cs i hi' hi]⟩
/-- Steps with a rank that falls along the needs have an order. -/
theorem rank_order {N : List (List Nat)} (r : Nat → Nat) (hlt : ∀ i k, k ∈ nd N i → k < N.length) (hr : ∀ i k, k ∈ nd N i → r k < r i) : ordEn (List.range N.length) (esN N) = 0 := by
  obtain ⟨h1, _, h3⟩ := ord_fin (List.range N.length) (esN N)
  rw [ordE_zero]
  generalize ordF (List.range N.length) (esN N) (List.range N.length).length [] = o at *
  have hall : ∀ (m x : Nat), x < N.length → r x ≤ m → x ∈ o := by
    intro m
    induction m with
    | zero =>
      intro x hx hm
      refine Classical.byContradiction fun hn => ?_
      have h4 : x ∉ rdL (List.range N.length) o (cnt (esN N) o) := by rw [h3]; simp
      rw [mem_rdL] at h4
      have h5 : cnt (esN N) o x ≠ 0 := fun e => h4 ⟨List.mem_range.2 hx, hn, e⟩
      refine h5 (cnt_zero.2 fun e he e1 => ?_)
      obtain ⟨i, k⟩ := e
      simp only at e1
      subst e1
      have := hr i k (mem_esN.1 he)
      omega
    | succ m ih =>
      intro x hx hm
      refine Classical.byContradiction fun hn => ?_
      have h4 : x ∉ rdL (List.range N.length) o (cnt (esN N) o) := by rw [h3]; simp
      rw [mem_rdL] at h4
      have h5 : cnt (esN N) o x ≠ 0 := fun e => h4 ⟨List.mem_range.2 hx, hn, e⟩
      refine h5 (cnt_zero.2 fun e he e1 => ?_)
      obtain ⟨i, k⟩ := e
      simp only at e1
      subst e1
      have h6 := hr i k (mem_esN.1 he)
      exact ih k (hlt i k (mem_esN.1 he)) (by omega)
  have h7 := nodup_len (a := List.range N.length) (b := o) List.nodup_range (fun x hx => hall (r x) x (List.mem_range.1 hx) (Nat.le_refl _))
  have h8 := h1.len
  omega
theorem stF_rank {cs : List Ch} (r : Nat × Int → Nat) (hr : ∀ a b (ha : a < (psF cs).length) (hb : b < (psF cs).length), ndB cs (rsK cs cs.length) (psF cs)[b] (psF cs)[a] = true → r (psF cs)[a] < r (psF cs)[b]) : ordR (stF cs) = 0 := by
  have hl := stF_len cs
  unfold ordR
  rw [if_pos (stF_right cs)]
  have h := rank_order (N := nls (stF cs)) (fun i => r ((psF cs).getD i (0, 0))) (fun i k hk => by rw [nls_len]; exact nd_lt (stF_right cs) i k hk) (fun i k hk => by
    have hi : i < (psF cs).length := by
      rcases Nat.lt_or_ge i (psF cs).length with h | h
      · exact h
      · rw [nd_out (by omega)] at hk; cases hk
    obtain ⟨h1, h2⟩ := (stF_nd hi).1 hk
    simp only [List.getD_eq_getElem?_getD, List.getElem?_eq_getElem h1, List.getElem?_eq_getElem hi, Option.getD_some]
    exact hr k i h1 hi h2)
  rw [nls_len] at h
  exact h
/-- What Propagate makes of changes: CreateFirst is set where the named set says. -/
def prop1 (c : Ch) (b : Bool) : Ch := { c with cf := c.cf || (b && decide (c.act = 3)) }
def propL (cs : List Ch) (g : Nat → Bool) : List Ch := cs.zipIdx.map fun x => prop1 x.1 (g x.2)
theorem propL_len (cs : List Ch) (g : Nat → Bool) : (propL cs g).length = cs.length := by simp [propL]
theorem propL_at {cs : List Ch} {g : Nat → Bool} {i : Nat} (hi : i < cs.length) (hi' : i < (propL cs g).length) : (propL cs g)[i] = prop1 cs[i] (g i) := by simp [propL]
/-- Whether a change creates first before Propagate. -/
def cfB (c : Ch) : Bool := decide (c.act = 3) && c.cf
/-- The set is closed along the dependencies. -/
def Clo (cs : List Ch) (g : Nat → Bool) : Prop := ∀ i (hi : i < cs.length), (cfB cs[i] || g i) = true → ∀ k (hk : k < cs.length), resB (cs[k]).addr ∈ (cs[i]).deps ++ (cs[i]).old → g k = true
/-- The steps have an order after Propagate, if the resources have a rank that falls along the dependencies. -/
theorem prop_order {cs : List Ch} {g : Nat → Bool} (hg : Clo cs g) (ρ : ByteArray → Nat) (M : Nat) (hM : ∀ s, ρ s ≤ M) (hρ : ∀ i (hi : i < cs.length), ∀ s ∈ (cs[i]).deps ++ (cs[i]).old, ρ s < ρ (resB (cs[i]).addr)) : ordR (stF (propL cs g)) = 0 := by
  let φ : Nat → Bool := fun i => g i || (match cs[i]? with | some c => cfB c | none => false)
  let R : Nat → Nat := fun i => match cs[i]? with | some c => ρ (resB c.addr) | none => 0
  have hφ : ∀ i (hi : i < cs.length), φ i = (g i || cfB cs[i]) := fun i hi => by show (g i || _) = _; rw [List.getElem?_eq_getElem hi]
  have hR : ∀ i (hi : i < cs.length), R i = ρ (resB (cs[i]).addr) := fun i hi => by show (match cs[i]? with | some c => ρ (resB c.addr) | none => 0) = _; rw [List.getElem?_eq_getElem hi]
  have hRM : ∀ i, i < cs.length → R i ≤ M := fun i hi => by rw [hR i hi]; exact hM _
  refine stF_rank (fun p => if p.2 = 3 then (if φ p.1 = true then 2 * M + 2 + (M - R p.1) else M - R p.1) else M + 1 + R p.1) ?_
  intro a b ha hb hn
  obtain ⟨hka, hoa⟩ := psF_at ha
  obtain ⟨hkb, hob⟩ := psF_at hb
  have hra := rsK_all hka hoa
  have hrb := rsK_all hkb hob
  generalize hpa : (psF (propL cs g))[a] = pa at *
  generalize hpb : (psF (propL cs g))[b] = pb at *
  obtain ⟨i, oi⟩ := pa
  obtain ⟨j, oj⟩ := pb
  simp only at *
  have hi : i < cs.length := by rw [← propL_len cs g]; exact hka
  have hj : j < cs.length := by rw [← propL_len cs g]; exact hkb
  have hMi := hRM i hi
  have hMj := hRM j hj
  unfold ndB at hn
  simp only at hn
  by_cases h3 : oj = 3
  · rw [if_pos h3] at hn ⊢
    unfold removesB at hn
    rw [List.getElem?_eq_getElem hkb, List.getElem?_eq_getElem hka] at hn
    simp only at hn
    by_cases hij : j = i
    · subst hij
      rw [if_pos rfl, Bool.and_eq_true] at hn
      have h1 : oi = 1 := by simpa using hn.1
      have h2 := firstB_iff.1 hn.2
      rw [propL_at hj hkb] at h2
      have hf : φ j = true := by
        rw [hφ j hj]
        obtain ⟨x1, x2⟩ := h2
        have x1 : (cs[j]).act = 3 := x1
        have x2 : ((cs[j]).cf || (g j && decide ((cs[j]).act = 3))) = true := x2
        rw [x1] at x2
        unfold cfB
        rw [x1]
        cases hc : (cs[j]).cf <;> cases hgj : g j <;> simp_all
      rw [if_neg (by omega), if_pos hf]
      omega
    · rw [if_neg hij] at hn
      by_cases h4 : oi = 3
      · rw [if_pos h4] at hn ⊢
        rw [hrb, inS_iff, propL_at hi hka, propL_at hj hkb] at hn
        have hn : resB (cs[j]).addr ∈ (cs[i]).old := hn
        have h5 := hρ i hi _ (List.mem_append_right _ hn)
        rw [← hR i hi, ← hR j hj] at h5
        by_cases h6 : φ i = true
        · have h7 : φ j = true := by
            rw [hφ j hj]
            rw [hφ i hi, Bool.or_comm] at h6
            rw [hg i hi h6 j hj (List.mem_append_right _ hn)]
            rfl
          rw [if_pos h6, if_pos h7]
          omega
        · rw [if_neg h6]
          split <;> omega
      · rw [if_neg h4] at hn ⊢
        rw [Bool.and_eq_true, Bool.and_eq_true] at hn
        have h2 := firstB_iff.1 hn.1.1
        rw [propL_at hj hkb] at h2
        have hf : φ j = true := by
          rw [hφ j hj]
          obtain ⟨x1, x2⟩ := h2
          have x1 : (cs[j]).act = 3 := x1
          have x2 : ((cs[j]).cf || (g j && decide ((cs[j]).act = 3))) = true := x2
          rw [x1] at x2
          unfold cfB
          rw [x1]
          cases hc : (cs[j]).cf <;> cases hgj : g j <;> simp_all
        rw [if_pos hf]
        omega
  · rw [if_neg h3] at hn ⊢
    unfold makesB at hn
    rw [List.getElem?_eq_getElem hkb] at hn
    simp only at hn
    by_cases hij : j = i
    · subst hij
      rw [if_pos rfl, Bool.and_eq_true, Bool.and_eq_true] at hn
      have h4 : oi = 3 := by simpa using hn.1.2
      have h2 := lastB_iff.1 hn.2
      rw [propL_at hj hkb] at h2
      have hf : ¬ φ j = true := by
        rw [hφ j hj]
        obtain ⟨x1, x2⟩ := h2
        have x1 : (cs[j]).act = 3 := x1
        have x2 : ((cs[j]).cf || (g j && decide ((cs[j]).act = 3))) = false := x2
        rw [x1] at x2
        unfold cfB
        rw [x1]
        cases hc : (cs[j]).cf <;> cases hgj : g j <;> simp_all
      rw [if_pos h4, if_neg hf]
      omega
    · rw [if_neg hij, Bool.and_eq_true] at hn
      have h4 : oi ≠ 3 := by simpa using hn.1
      have hn2 := hn.2
      rw [hra, inS_iff, propL_at hi hka, propL_at hj hkb] at hn2
      have hn2 : resB (cs[i]).addr ∈ (cs[j]).deps := hn2
      have h5 := hρ j hj _ (List.mem_append_left _ hn2)
      rw [← hR i hi, ← hR j hj] at h5
      rw [if_neg h4]
      omega
end Go.Proofs.YtpnogmicfomofaaGreatDoor.Stp
