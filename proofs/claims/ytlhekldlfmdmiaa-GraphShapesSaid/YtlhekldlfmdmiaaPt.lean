import Derived.Test.YtlhekldlfmdmiaaPs
/-
  GraphReduces, plain: the reduced graph is valid, reaches the same, and is reduced to itself. No program in sight. Conditions: those ahead of each theorem.
-/
namespace Go.Proofs.Ytlhekldlfmdmiaa
set_option linter.unusedVariables false
set_option linter.unusedSimpArgs false

theorem mem_redL {F : ByteArray → List ByteArray} {ns : List ByteArray} {a b : ByteArray} : (a, b) ∈ redL F ns ↔ a ∈ ns ∧ b ∈ F a ∧ farB F a b = false := by
  unfold redL redN
  rw [List.mem_flatMap]
  constructor
  · rintro ⟨n, hn, h⟩
    rw [List.mem_map] at h
    obtain ⟨m, hm, e⟩ := h
    rw [List.mem_filter] at hm
    cases e
    exact ⟨hn, hm.1, by simpa using hm.2⟩
  · rintro ⟨h1, h2, h3⟩
    exact ⟨a, h1, List.mem_map.2 ⟨b, List.mem_filter.2 ⟨h2, by rw [h3]; rfl⟩, rfl⟩⟩
theorem red_sub {ns : List ByteArray} {es : List Ed} : ∀ e ∈ redL (tgt es) ns, e ∈ es := fun e he => mem_tgt.1 (mem_redL.1 he).2.1
theorem tgt_asc {es : List Ed} (h : AscE es) (x : ByteArray) : AscB (tgt es x) := by
  unfold tgt
  refine List.pairwise_map.2 ((asc_filter h _).imp_of_mem fun {a b} ha hb hab => ?_)
  have e1 : a.1 = x := by have := (List.mem_filter.1 ha).2; simpa using this
  have e2 : b.1 = x := by have := (List.mem_filter.1 hb).2; simpa using this
  unfold lessE at hab
  rw [e1, e2, stoB.irr] at hab
  simpa using hab
theorem redL_asc {es : List Ed} (h : AscE es) : ∀ {ns : List ByteArray}, AscB ns → AscE (redL (tgt es) ns)
  | [], _ => List.Pairwise.nil
  | n :: ns, hn => by
    have ih := redL_asc h (List.pairwise_cons.1 hn).2
    have hcons : redL (tgt es) (n :: ns) = redN (tgt es) n (tgt es n) ++ redL (tgt es) ns := by simp [redL]
    rw [hcons]
    refine List.pairwise_append.2 ⟨?_, ih, fun a ha b hb => ?_⟩
    · unfold redN
      refine List.pairwise_map.2 ((asc_filter (tgt_asc h n) _).imp fun {x y} hxy => ?_)
      unfold lessE
      simp [hxy]
    · unfold redN at ha
      obtain ⟨m, _, rfl⟩ := List.mem_map.1 ha
      have h1 := (List.pairwise_cons.1 hn).1 b.1 (mem_redL (a := b.1) (b := b.2).1 hb).1
      unfold lessE
      simp [h1]
theorem red_chk {ns : List ByteArray} {es : List Ed} (h : chkG ns es = 0) : chkG ns (redL (tgt es) ns) = 0 := by
  obtain ⟨h1, h2, h3, h4⟩ := chk_iff.1 h
  exact chk_iff.2 ⟨h1, h2, fun e he => h3 e (red_sub e he), redL_asc h4 h2⟩
theorem red_len {ns : List ByteArray} {es : List Ed} (h : chkG ns es = 0) : (redL (tgt es) ns).length ≤ es.length := redL_len (tgt es) es rfl ns (asc_nodup stoB (chk_iff.1 h).2.1)
theorem wk_sub {F G : ByteArray → List ByteArray} (h : ∀ x y, y ∈ F x → y ∈ G x) : ∀ {n : Nat} {a b : ByteArray}, Wk F n a b → Wk G n a b
  | 0, a, b, e => e
  | n + 1, a, b, ⟨c, hc, hw⟩ => ⟨c, h a c hc, wk_sub h hw⟩
theorem red_tgt_sub {ns : List ByteArray} {es : List Ed} : ∀ x y, y ∈ tgt (redL (tgt es) ns) x → y ∈ tgt es x := fun x y h => mem_tgt.2 (red_sub _ (mem_tgt.1 h))
/-- A reduced graph has an order. -/
theorem red_ord {ns : List ByteArray} {es : List Ed} (hn : ns.Nodup) (hin : endsIn ns es = true) (hin2 : endsIn ns (redL (tgt es) ns) = true) (h : ordE ns es = 0) : ordE ns (redL (tgt es) ns) = 0 := by
  rw [ord_cyc hn hin, cyc_nil] at h
  rw [ord_cyc hn hin2, cyc_nil]
  intro x hx n hw
  exact h x hx n (wk_sub red_tgt_sub hw)
/-- What was reached by an edge at least is reached still. -/
theorem red_walk {ns : List ByteArray} {es : List Ed} (hin : endsIn ns es = true) (h : ordE ns es = 0) : ∀ (d : Nat) {k : Nat} {a b : ByteArray}, pos a (ordO ns es) - pos b (ordO ns es) ≤ d → a ∈ ns → Wk (tgt es) (k + 1) a b → ∃ j, Wk (tgt (redL (tgt es) ns)) (j + 1) a b := by
  have hO : Ordd es (ordO ns es) := by rw [ordO_ok h]; exact (ord_fin ns es).2.1
  have hall := (ordO_all h).2
  generalize ordO ns es = o at *
  intro d
  induction d with
  | zero =>
    intro k a b hd ha hw
    have := (ord_walk hO (hall a ha) hw).2
    omega
  | succ d ih =>
    intro k a b hd ha hw
    obtain ⟨c, hc, hw2⟩ := hw
    have hcn := (ends_mem hin _ (mem_tgt.1 hc)).2
    simp only at hcn
    have p1 := (ord_walk hO (hall a ha) (wk_one hc)).2
    have hwab : Wk (tgt es) (k + 1) a b := ⟨c, hc, hw2⟩
    have p2 := (ord_walk hO (hall a ha) hwab).2
    cases k with
    | zero =>
      have hcb : c = b := hw2
      cases hf : farB (tgt es) a c with
      | false => exact ⟨0, c, mem_tgt.2 (mem_redL.2 ⟨ha, hc, hf⟩), hw2⟩
      | true =>
        obtain ⟨m, hm, j, hwm⟩ := farB_iff.1 hf
        have hmn := (ends_mem hin _ (mem_tgt.1 hm)).2
        simp only at hmn
        have p3 := (ord_walk hO (hall a ha) (wk_one hm)).2
        have p4 := (ord_walk hO (hall m hmn) hwm).2
        rw [← hcb] at hd ⊢
        obtain ⟨j1, w1⟩ := ih (k := 0) (a := a) (b := m) (by omega) ha (wk_one hm)
        obtain ⟨j2, w2⟩ := ih (k := j) (a := m) (b := c) (by omega) hmn hwm
        exact ⟨j1 + 1 + j2, by have := wk_add w1 w2; rwa [show j1 + 1 + (j2 + 1) = j1 + 1 + j2 + 1 by omega] at this⟩
    | succ k =>
      have p4 := (ord_walk hO (hall c hcn) hw2).2
      obtain ⟨j1, w1⟩ := ih (k := 0) (a := a) (b := c) (by omega) ha (wk_one hc)
      obtain ⟨j2, w2⟩ := ih (k := k) (a := c) (b := b) (by omega) hcn hw2
      exact ⟨j1 + 1 + j2, by have := wk_add w1 w2; rwa [show j1 + 1 + (j2 + 1) = j1 + 1 + j2 + 1 by omega] at this⟩
theorem red_rch {ns : List ByteArray} {es : List Ed} {frm : List ByteArray} (hin : endsIn ns es = true) (h : ordE ns es = 0) (x : ByteArray) : RchN ns (redL (tgt es) ns) frm x ↔ RchN ns es frm x := by
  constructor
  · rintro ⟨a, h1, h2, n, hw⟩
    exact ⟨a, h1, h2, n, wk_sub red_tgt_sub hw⟩
  · rintro ⟨a, h1, h2, n, hw⟩
    cases n with
    | zero => exact ⟨a, h1, h2, 0, hw⟩
    | succ n =>
      obtain ⟨j, hj⟩ := red_walk hin h _ (Nat.le_refl _) h2 hw
      exact ⟨a, h1, h2, j + 1, hj⟩
theorem red_reach {ns : List ByteArray} {es : List Ed} {frm l m : List ByteArray} (hin : endsIn ns es = true) (h : ordE ns es = 0) (hl : LisP ns (RchN ns es frm) l) (hm : LisP ns (RchN ns (redL (tgt es) ns) frm) m) : l = m :=
  ascB_eq hl.1 hm.1 fun x => by rw [hl.2, hm.2, red_rch hin h]
/-- Reduced twice is reduced once. -/
theorem red_twice {ns : List ByteArray} {es : List Ed} (hc : chkG ns es = 0) : redL (tgt (redL (tgt es) ns)) ns = redL (tgt es) ns := by
  have h2 := red_chk hc
  have h3 := chk_iff.1 h2
  refine ascE_eq (redL_asc h3.2.2.2 h3.2.1) h3.2.2.2 fun ⟨a, b⟩ => ?_
  rw [mem_redL, mem_tgt]
  constructor
  · exact fun h => h.2.1
  · intro h
    refine ⟨(mem_redL.1 h).1, h, ?_⟩
    cases hf : farB (tgt (redL (tgt es) ns)) a b with
    | false => rfl
    | true =>
      obtain ⟨m, hm, k, hw⟩ := farB_iff.1 hf
      have : farB (tgt es) a b = true := farB_iff.2 ⟨m, red_tgt_sub _ _ hm, k, wk_sub red_tgt_sub hw⟩
      rw [(mem_redL.1 h).2.2] at this; cases this
theorem redG_ok {ns : List ByteArray} {es : List Ed} (h : ordE ns es = 0) : redG ns es = (ns, redL (tgt es) ns, 0) := by unfold redG; rw [if_pos h]
theorem redG_no {ns : List ByteArray} {es : List Ed} (h : ordE ns es ≠ 0) : (redG ns es).2.2 ≠ 0 := by unfold redG; rw [if_neg h]; exact h
/-- A slice of one string that the call made. -/
theorem lit_at {w : World} {b T : Nat} {fr : Nat × Nat} {y : ByteArray} (h : w.heap[b]? = some (.cells #[.string y] T fr)) (hy : y.size ≤ maxLen) : Sl StrR 1 w (.slice (some ⟨b, 0, none⟩) 1 1) [y] := by
  refine ⟨_, _, rfl, Nat.le_refl _, by unfold maxLen; omega, fun i hi => ⟨b, 0, [.string y], rfl, rfl, fun j u hj => ?_, ?_⟩⟩
  · have hj0 : j = 0 := by
      have := (List.getElem?_eq_some_iff.1 hj).1; simp at this; exact this
    subst hj0
    have hi0 : i = 0 := by simp at hi; exact hi
    subst hi0
    simp at hj
    subst hj
    rw [cell_of h]; rfl
  · have hi0 : i = 0 := by simp at hi; exact hi
    subst hi0
    exact ⟨rfl, hy⟩
theorem heap_one (w : World) (c : Obj) : (w.alloc c).heap[w.heap.size]? = some c := (MapKept.heap_alloc w _).1
theorem heap_fst (w : World) (c d : Obj) : ((w.alloc c).alloc d).heap[w.heap.size]? = some c := (Go.RowKit.Below.heap_alloc _ _ _ (by simp)).trans (MapKept.heap_alloc w _).1
theorem heap_snd (w : World) (c d : Obj) : ((w.alloc c).alloc d).heap[w.heap.size + 1]? = some d := (congrArg _ (by simp)).trans (MapKept.heap_alloc (w.alloc c) _).1
end Go.Proofs.Ytlhekldlfmdmiaa
