import Derived.Test.YtlhekldlfmdmiaaSm
/-
  What Check's zero says. Conditions: those ahead of each theorem.
-/
namespace Go.Proofs.Ytlhekldlfmdmiaa
set_option linter.unusedVariables false
set_option linter.unusedSimpArgs false

theorem chkE_all {ns : List ByteArray} {es : List Ed} (h : chkE ns es = 0) : ∀ j, j < es.length → errA ns es j = 0 := by
  intro j
  induction j using Nat.strongRecOn with
  | _ j ih =>
    intro hj
    by_cases h0 : errA ns es j = 0
    · exact h0
    · have := chkE_stop hj (fun i hi => ih i hi (by omega)) h0
      rw [this] at h
      exact h
theorem errA_zero {ns : List ByteArray} {es : List Ed} {k : Nat} (hk : k < es.length) (h : errA ns es k = 0) :
    (es[k]).1 ∈ ns ∧ (es[k]).2 ∈ ns ∧ (0 < k → lessE (es[k - 1]'(by omega)) es[k] = true) := by
  rw [errA_in hk] at h
  by_cases h1 : (hasS (es[k]).1 ns && hasS (es[k]).2 ns) = false
  · rw [if_pos h1] at h; omega
  rw [if_neg h1] at h
  have h2 : hasS (es[k]).1 ns = true ∧ hasS (es[k]).2 ns = true := by simpa using h1
  refine ⟨by simpa [hasS] using h2.1, by simpa [hasS] using h2.2, fun h0 => ?_⟩
  cases hl : lessE (es[k - 1]'(by omega)) es[k] with
  | true => rfl
  | false => rw [hl] at h; simp [h0] at h
theorem chk_ok {ns : List ByteArray} {es : List Ed} (h : chkG ns es = 0) : ns.length ≤ 2048 ∧ AscB ns ∧ (∀ e ∈ es, e.1 ∈ ns ∧ e.2 ∈ ns) ∧ ∀ k (hk : k < es.length), 0 < k → lessE (es[k - 1]'(by omega)) es[k] = true := by
  unfold chkG at h
  by_cases h1 : 2048 < ns.length
  · rw [if_pos h1] at h; omega
  rw [if_neg h1] at h
  by_cases h2 : ascI ns = false
  · rw [if_pos h2] at h; omega
  rw [if_neg h2] at h
  have hz := chkE_all h
  refine ⟨by omega, ascI_iff.1 (by simpa using h2), fun e he => ?_, fun k hk h0 => (errA_zero hk (hz k hk)).2.2 h0⟩
  obtain ⟨k, hk, rfl⟩ := List.getElem_of_mem he
  exact ⟨(errA_zero hk (hz k hk)).1, (errA_zero hk (hz k hk)).2.1⟩
theorem chk_of {ns : List ByteArray} {es : List Ed} (h1 : ns.length ≤ 2048) (h2 : AscB ns) (h3 : ∀ e ∈ es, e.1 ∈ ns ∧ e.2 ∈ ns) (h4 : ∀ k (hk : k < es.length), 0 < k → lessE (es[k - 1]'(by omega)) es[k] = true) : chkG ns es = 0 := by
  unfold chkG
  rw [if_neg (by omega), if_neg (by rw [ascI_iff.2 h2]; simp)]
  refine chkE_zero fun j hj => ?_
  have hm := h3 _ (List.getElem_mem hj)
  have e1 : hasS (es[j]).1 ns = true := by simpa [hasS] using hm.1
  have e2 : hasS (es[j]).2 ns = true := by simpa [hasS] using hm.2
  rw [errA_in hj, e1, e2, if_neg (by simp)]
  by_cases h0 : 0 < j
  · rw [h4 j hj h0]; simp
  · simp [h0]
theorem asc_of_next {α : Type} {lt : α → α → Bool} (st : STO lt) {l : List α} (h : ∀ k (hk : k < l.length), 0 < k → lt (l[k - 1]'(by omega)) l[k] = true) : AscL lt l := by
  refine List.pairwise_iff_getElem.2 fun i j hi hj hij => ?_
  induction j with
  | zero => omega
  | succ j ih =>
    have h1 := h (j + 1) hj (by omega)
    by_cases e : i = j
    · subst e; exact h1
    · exact st.tr _ _ _ (ih (by omega) (by omega)) h1
theorem chk_iff {ns : List ByteArray} {es : List Ed} : chkG ns es = 0 ↔ ns.length ≤ 2048 ∧ AscB ns ∧ (∀ e ∈ es, e.1 ∈ ns ∧ e.2 ∈ ns) ∧ AscE es :=
  ⟨fun h => ⟨(chk_ok h).1, (chk_ok h).2.1, (chk_ok h).2.2.1, asc_of_next stoE (chk_ok h).2.2.2⟩,
   fun ⟨h1, h2, h3, h4⟩ => chk_of h1 h2 h3 fun k hk h0 => asc_getElem h4 (by omega) hk (by omega)⟩
theorem swap_swap (e : Ed) : swapE (swapE e) = e := rfl
/-- A reversed graph's edges are in strict order. -/
theorem rev_asc {es rs : List Ed} (h : AscE es) (hp : rs.Perm (es.map swapE)) (hs : rs.Pairwise fun x y => lessE y x = false) : AscE rs := by
  have hn : (es.map swapE).Nodup := List.pairwise_map.2 ((asc_nodup stoE h).imp fun {a b} hab e => hab (by have h5 := congrArg swapE e; rw [swap_swap, swap_swap] at h5; exact h5))
  have hn2 : rs.Nodup := hp.nodup_iff.2 hn
  refine (hs.and hn2).imp fun {x y} ⟨h1, h2⟩ => ?_
  cases h3 : lessE x y with
  | true => rfl
  | false => exact absurd (stoE.tot _ _ h3 h1) h2
/-- Reversed twice a graph is what it was. -/
theorem rev_rev {es rs qs : List Ed} (h : AscE es) (hp : rs.Perm (es.map swapE)) (hs : rs.Pairwise fun x y => lessE y x = false) (hp2 : qs.Perm (rs.map swapE)) (hs2 : qs.Pairwise fun x y => lessE y x = false) : qs = es := by
  refine ascE_eq (rev_asc (rev_asc h hp hs) hp2 hs2) h fun x => ?_
  rw [hp2.mem_iff, List.mem_map]
  constructor
  · rintro ⟨e, he, rfl⟩
    rw [hp.mem_iff, List.mem_map] at he
    obtain ⟨f, hf, rfl⟩ := he
    exact hf
  · intro hx
    exact ⟨swapE x, hp.mem_iff.2 (List.mem_map.2 ⟨x, hx, rfl⟩), rfl⟩
/-- A reversed graph is valid. -/
theorem rev_chk {ns : List ByteArray} {es rs : List Ed} (h : chkG ns es = 0) (hp : rs.Perm (es.map swapE)) (hs : rs.Pairwise fun x y => lessE y x = false) : chkG ns rs = 0 := by
  obtain ⟨h1, h2, h3, h4⟩ := chk_iff.1 h
  refine chk_iff.2 ⟨h1, h2, fun e he => ?_, rev_asc h4 hp hs⟩
  rw [hp.mem_iff, List.mem_map] at he
  obtain ⟨f, hf, rfl⟩ := he
  exact ⟨(h3 f hf).2, (h3 f hf).1⟩
/-- There is no cycle, just where no node walks to itself. -/
theorem cyc_nil {F : ByteArray → List ByteArray} {ns : List ByteArray} : cycF F ns = [] ↔ ∀ x ∈ ns, ∀ n, ¬ Wk F (n + 1) x x := by
  unfold cycF
  constructor
  · intro h x hx
    by_cases h0 : (stF (girF F) ns).2 = 0
    · rcases stF_spec (girF F) ns with h1 | h1
      · exact gir_zero.1 (h1.2 x hx)
      · omega
    · rw [if_neg h0] at h; cases h
  · intro h
    rcases stF_spec (girF F) ns with h1 | h1
    · rw [if_pos h1.1]
    · have h2 := gir_zero.2 (h _ h1.2.1)
      rw [h1.2.2] at h2; omega
/-- Reversing keeps whether there is a cycle. -/
theorem rev_cyc {ns : List ByteArray} {es rs : List Ed} (hp : rs.Perm (es.map swapE)) : cycF (tgt rs) ns = [] ↔ cycF (tgt es) ns = [] := by
  rw [cyc_nil, cyc_nil]
  constructor
  · intro h x hx n hw; exact h x hx n ((wk_rev (tgt_rev hp)).2 hw)
  · intro h x hx n hw; exact h x hx n ((wk_rev (tgt_rev hp)).1 hw)
end Go.Proofs.Ytlhekldlfmdmiaa
/-
  GraphReverses, plain: what is reached. Conditions: those ahead of each theorem.
-/
namespace Go.Proofs.Ytlhekldlfmdmiaa
set_option linter.unusedVariables false
set_option linter.unusedSimpArgs false

variable {ns : List ByteArray} {es rs : List Ed} {a b : ByteArray} {x y both : List ByteArray}
/-- What is reached is closed. -/
theorem rch_closed {z frm : List ByteArray} (hb : LisP ns (RchN ns es frm) both) (hz : LisP ns (RchN ns es both) z) : z = both := by
  refine ascB_eq hz.1 hb.1 fun t => ?_
  rw [hz.2, hb.2]
  constructor
  · rintro ⟨ht, c, hc, hcn, n, hw⟩
    obtain ⟨_, d, hd, hdn, m, hw2⟩ := (hb.2 c).1 hc
    exact ⟨ht, d, hd, hdn, _, wk_add hw2 hw⟩
  · rintro ⟨ht, h⟩
    exact ⟨ht, t, (hb.2 t).2 ⟨ht, h⟩, ht, 0, rfl⟩
/-- A node reaches itself. -/
theorem rch_self (hx : LisP ns (RchN ns es [a]) x) (ha : a ∈ ns) : a ∈ x := (hx.2 a).2 ⟨ha, a, by simp, ha, 0, rfl⟩
/-- What two reach, one of them reaches. -/
theorem rch_two (hx : LisP ns (RchN ns es [a]) x) (hy : LisP ns (RchN ns es [b]) y) (hb : LisP ns (RchN ns es [a, b]) both) {z : ByteArray} (hz : z ∈ both) : z ∈ x ∨ z ∈ y := by
  obtain ⟨hn, c, hc, hcn, n, hw⟩ := (hb.2 z).1 hz
  rcases List.mem_cons.1 hc with rfl | hc
  · exact Or.inl ((hx.2 z).2 ⟨hn, c, by simp, hcn, n, hw⟩)
  · have : c = b := by simpa using hc
    subst this
    exact Or.inr ((hy.2 z).2 ⟨hn, c, by simp, hcn, n, hw⟩)
/-- What one reaches, the two reach. -/
theorem rch_left (hx : LisP ns (RchN ns es [a]) x) (hb : LisP ns (RchN ns es [a, b]) both) {z : ByteArray} (hz : z ∈ x) : z ∈ both := by
  obtain ⟨hn, c, hc, hcn, n, hw⟩ := (hx.2 z).1 hz
  have : c = a := by simpa using hc
  subst this
  exact (hb.2 z).2 ⟨hn, c, by simp, hcn, n, hw⟩
/-- In the reversed graph the way back is there. -/
theorem rch_back (hp : rs.Perm (es.map swapE)) (hx : LisP ns (RchN ns es [a]) x) (ha : a ∈ ns) {z : ByteArray} (hz : z ∈ x) (hy : LisP ns (RchN ns rs [z]) y) : a ∈ y := by
  obtain ⟨hn, c, hc, hcn, n, hw⟩ := (hx.2 z).1 hz
  have : c = a := by simpa using hc
  subst this
  exact (hy.2 c).2 ⟨ha, z, by simp, hn, n, (wk_rev (tgt_rev hp)).2 hw⟩
end Go.Proofs.Ytlhekldlfmdmiaa
/-
  GraphOrder, plain: the order respects the edges, it is there just where no cycle is, and what the cycle is. No program in sight. Conditions: those ahead of each theorem.
-/
namespace Go.Proofs.Ytlhekldlfmdmiaa
set_option linter.unusedVariables false
set_option linter.unusedSimpArgs false

theorem rightB_ok {ns : List ByteArray} {es : List Ed} (h : rightB ns es = true) : ns.length ≤ 60 ∧ es.length ≤ 200 ∧ chkG ns es = 0 := by
  unfold rightB at h
  rw [Bool.and_eq_true] at h
  exact ⟨(lightB_bd h.1).1, (lightB_bd h.1).2, by simpa using h.2⟩
theorem chk_ends {ns : List ByteArray} {es : List Ed} (h : chkG ns es = 0) : endsIn ns es = true := by
  unfold endsIn
  rw [List.all_eq_true]
  intro e he
  have := (chk_iff.1 h).2.2.1 e he
  rw [hasS_iff.2 this.1, hasS_iff.2 this.2]; rfl
theorem ends_mem {ns : List ByteArray} {es : List Ed} (h : endsIn ns es = true) : ∀ e ∈ es, e.1 ∈ ns ∧ e.2 ∈ ns := by
  unfold endsIn at h
  rw [List.all_eq_true] at h
  intro e he
  have := h e he
  rw [Bool.and_eq_true] at this
  exact ⟨hasS_iff.1 this.1, hasS_iff.1 this.2⟩
theorem pos_lt {x : ByteArray} : ∀ {l : List ByteArray}, x ∈ l → pos x l < l.length
  | y :: l, h => by
    unfold pos
    by_cases e : y = x
    · rw [if_pos e]; simp
    · rw [if_neg e]
      have := pos_lt (l := l) (by rcases List.mem_cons.1 h with h | h; exact absurd h.symm e; exact h)
      simp; omega
theorem pos_left {x : ByteArray} {m : List ByteArray} : ∀ {l : List ByteArray}, x ∈ l → pos x (l ++ m) = pos x l
  | y :: l, h => by
    rw [List.cons_append]
    unfold pos
    by_cases e : y = x
    · rw [if_pos e, if_pos e]
    · rw [if_neg e, if_neg e, pos_left (by rcases List.mem_cons.1 h with h | h; exact absurd h.symm e; exact h)]
theorem pos_new {x : ByteArray} : ∀ {l : List ByteArray}, x ∉ l → pos x (l ++ [x]) = l.length
  | [], _ => by simp [pos]
  | y :: l, h => by
    rw [List.cons_append]
    unfold pos
    rw [if_neg (fun e => h (by simp [e])), pos_new (fun hh => h (List.mem_cons_of_mem _ hh))]
    simp
theorem atS_in {x : ByteArray} {l : List ByteArray} (h : x ∈ l) : atS x l = (pos x l : Nat) := by unfold atS; rw [if_pos (hasS_iff.2 h)]
theorem atS_out {x : ByteArray} {l : List ByteArray} (h : x ∉ l) : atS x l = -1 := by unfold atS; rw [if_neg (fun hh => h (hasS_iff.1 hh))]
theorem atS_neg {x : ByteArray} {l : List ByteArray} : atS x l < 0 ↔ x ∉ l := by
  by_cases h : x ∈ l
  · rw [atS_in h]; constructor
    · intro h2; omega
    · intro h2; exact absurd h h2
  · rw [atS_out h]; exact ⟨fun _ => h, fun _ => by omega⟩
theorem atS_bd (x : ByteArray) (l : List ByteArray) : -1 ≤ atS x l ∧ atS x l ≤ l.length := by
  by_cases h : x ∈ l
  · rw [atS_in h]; have := pos_lt h; omega
  · rw [atS_out h]; omega

/-- Every listed node behind what it needs. -/
def Ordd (es : List Ed) (out : List ByteArray) : Prop := ∀ e ∈ es, e.1 ∈ out → e.2 ∈ out ∧ pos e.2 out < pos e.1 out
theorem Ordd.more {es : List Ed} {out : List ByteArray} {n : ByteArray} (h : Ordd es out) (h1 : n ∉ out) (h2 : cnt es out n = 0) : Ordd es (out ++ [n]) := by
  intro e he hx
  rw [List.mem_append, List.mem_singleton] at hx
  rcases hx with hx | hx
  · obtain ⟨h3, h4⟩ := h e he hx
    exact ⟨by simp [h3], by rw [pos_left h3, pos_left hx]; exact h4⟩
  · have h3 := cnt_zero.1 h2 e he hx
    exact ⟨by simp [h3], by rw [pos_left h3, hx, pos_new h1]; exact pos_lt h3⟩
theorem ord_run {ns : List ByteArray} {es : List Ed} : ∀ (k : Nat) (out : List ByteArray), ns.length - out.length ≤ k → Lst ns es out → Ordd es out → ∃ o, Lst ns es o ∧ Ordd es o ∧ rdL ns o (cnt es o) = [] := by
  intro k
  induction k with
  | zero =>
    intro out hk hL hO
    cases hR : rdL ns out (cnt es out) with
    | nil => exact ⟨out, hL, hO, hR⟩
    | cons n R =>
      have h2 := (hL.more hR).1.len
      simp at h2; omega
  | succ k ih =>
    intro out hk hL hO
    cases hR : rdL ns out (cnt es out) with
    | nil => exact ⟨out, hL, hO, hR⟩
    | cons n R =>
      have h1 := hL.more hR
      have hm : n ∈ rdL ns out (cnt es out) := by rw [hR]; simp
      exact ih (out ++ [n]) (by simp; omega) h1.1 (hO.more h1.2.2 (mem_rdL.1 hm).2.2)
theorem ord_fin (ns : List ByteArray) (es : List Ed) : Lst ns es (ordF ns es ns.length []) ∧ Ordd es (ordF ns es ns.length []) ∧ rdL ns (ordF ns es ns.length []) (cnt es (ordF ns es ns.length [])) = [] := by
  obtain ⟨o, h1, h2, h3⟩ := ord_run (ns := ns) (es := es) ns.length [] (by simp) (Lst.start ns es) (fun e he h => by simp at h)
  rw [h1.fin h3]
  exact ⟨h1, h2, h3⟩
theorem ordE_zero {ns : List ByteArray} {es : List Ed} : ordE ns es = 0 ↔ (ordF ns es ns.length []).length = ns.length := by
  have := (ord_fin ns es).1.len
  unfold ordE
  constructor
  · intro h
    by_cases h2 : (ordF ns es ns.length []).length < ns.length
    · rw [if_pos h2] at h; omega
    · omega
  · intro h
    rw [if_neg (by omega)]
theorem ordO_ok {ns : List ByteArray} {es : List Ed} (h : ordE ns es = 0) : ordO ns es = ordF ns es ns.length [] := by
  have := ordE_zero.1 h
  unfold ordO
  rw [if_neg (by omega)]
theorem ordO_no {ns : List ByteArray} {es : List Ed} (h : ordE ns es ≠ 0) : ordO ns es = [] ∧ ordE ns es = 10 := by
  have h1 : ¬ (ordF ns es ns.length []).length = ns.length := fun e => h (ordE_zero.2 e)
  have := (ord_fin ns es).1.len
  unfold ordO ordE
  rw [if_pos (by omega), if_pos (by omega)]
  exact ⟨rfl, rfl⟩
/-- All nodes are listed. -/
theorem ordO_all {ns : List ByteArray} {es : List Ed} (h : ordE ns es = 0) : (ordO ns es).length = ns.length ∧ ∀ x ∈ ns, x ∈ ordO ns es := by
  have h2 := ordE_zero.1 h
  have h3 := (ord_fin ns es).1
  rw [ordO_ok h]
  refine ⟨h2, fun x hx => ?_⟩
  refine Classical.byContradiction fun hn => ?_
  have h4 := nodup_len (a := x :: ordF ns es ns.length []) (b := ns) (List.nodup_cons.2 ⟨hn, h3.nod⟩) (fun y hy => by
    rcases List.mem_cons.1 hy with rfl | hy
    · exact hx
    · exact h3.sub y hy)
  simp at h4; omega
/-- Edges lead to what stands ahead. -/
theorem ordO_edge {ns : List ByteArray} {es : List Ed} (h : ordE ns es = 0) (hin : endsIn ns es = true) {e : Ed} (he : e ∈ es) : atS e.2 (ordO ns es) < atS e.1 (ordO ns es) := by
  have h1 := (ordO_all h).2 e.1 (ends_mem hin e he).1
  rw [ordO_ok h] at h1 ⊢
  obtain ⟨h2, h3⟩ := (ord_fin ns es).2.1 e he h1
  rw [atS_in h1, atS_in h2]
  omega
theorem ord_walk {es : List Ed} {o : List ByteArray} (h : Ordd es o) : ∀ {n : Nat} {x y : ByteArray}, x ∈ o → Wk (tgt es) n x y → y ∈ o ∧ pos y o + n ≤ pos x o
  | 0, x, y, hx, hw => by cases hw; exact ⟨hx, by omega⟩
  | n + 1, x, y, hx, ⟨c, hc, hw⟩ => by
    obtain ⟨h1, h2⟩ := h (x, c) (mem_tgt.1 hc) hx
    obtain ⟨h3, h4⟩ := ord_walk h (x := c) h1 hw
    have h2' : pos c o < pos x o := h2
    exact ⟨h3, by omega⟩
/-- Where each one has a next one, there is a cycle. -/
theorem cyc_of_next {F : ByteArray → List ByteArray} {S : List ByteArray} (h : ∀ x ∈ S, ∃ y ∈ S, y ∈ F x) {x : ByteArray} (hx : x ∈ S) : ∃ z ∈ S, ∃ n, Wk F (n + 1) z z := by
  refine Classical.byContradiction fun hno => ?_
  have hseq : ∃ g : Nat → ByteArray, (∀ k, g k ∈ S) ∧ ∀ k, g (k + 1) ∈ F (g k) := by
    classical
    let f : {y // y ∈ S} → {y // y ∈ S} := fun y => ⟨(h y.1 y.2).choose, (h y.1 y.2).choose_spec.1⟩
    have hf : ∀ y, (f y).1 ∈ F y.1 := fun y => (h y.1 y.2).choose_spec.2
    let g : Nat → {y // y ∈ S} := fun k => Nat.rec ⟨x, hx⟩ (fun _ y => f y) k
    exact ⟨fun k => (g k).1, fun k => (g k).2, fun k => hf (g k)⟩
  obtain ⟨g, g1, g2⟩ := hseq
  have hw : ∀ n i, Wk F n (g i) (g (i + n)) := by
    intro n
    induction n with
    | zero => intro i; rfl
    | succ n ih => intro i; exact ⟨g (i + 1), g2 i, by have := ih (i + 1); rwa [show i + 1 + n = i + (n + 1) by omega] at this⟩
  have hnd : ((List.range (S.length + 1)).map g).Nodup := by
    refine List.pairwise_map.2 (List.pairwise_lt_range.imp fun {i j} hij => show g i ≠ g j from fun e => hno ⟨g i, g1 i, j - i - 1, ?_⟩)
    have := hw (j - i - 1 + 1) i
    rw [show i + (j - i - 1 + 1) = j by omega, ← e] at this
    exact this
  have := nodup_len hnd (b := S) (fun y hy => by
    obtain ⟨k, _, rfl⟩ := List.mem_map.1 hy
    exact g1 k)
  simp at this
  omega
/-- An order is there just where no cycle is. -/
theorem ord_cyc {ns : List ByteArray} {es : List Ed} (hn : ns.Nodup) (hin : endsIn ns es = true) : ordE ns es = 0 ↔ cycF (tgt es) ns = [] := by
  rw [cyc_nil]
  constructor
  · intro h x hx n hw
    have h1 := (ordO_all h).2 x hx
    rw [ordO_ok h] at h1
    have := (ord_walk (ord_fin ns es).2.1 h1 hw).2
    omega
  · intro h
    rw [ordE_zero]
    obtain ⟨h1, h2, h3⟩ := ord_fin ns es
    generalize ordF ns es ns.length [] = o at *
    refine Classical.byContradiction fun hne => ?_
    have hex : ∃ x ∈ ns, x ∉ o := Classical.byContradiction fun hno => hne (by
      have h4 := nodup_len hn (b := o) (fun x hx => Classical.byContradiction fun hc => hno ⟨x, hx, hc⟩)
      have h5 := h1.len
      omega)
    obtain ⟨x, hx, hxo⟩ := hex
    have hmem : ∀ y, y ∈ ns.filter (fun y => !hasS y o) ↔ y ∈ ns ∧ y ∉ o := fun y => by
      rw [List.mem_filter]
      have : (!hasS y o) = true ↔ y ∉ o := by rw [← hasS_iff]; simp
      rw [this]
    obtain ⟨z, hz, n, hw⟩ := cyc_of_next (F := tgt es) (S := ns.filter fun y => !hasS y o) (fun y hy => by
      obtain ⟨hy1, hy2⟩ := (hmem y).1 hy
      refine Classical.byContradiction fun hno => ?_
      have h0 : cnt es o y = 0 := cnt_zero.2 fun e he hey => Classical.byContradiction fun hc => hno ⟨e.2, (hmem _).2 ⟨(ends_mem hin e he).2, hc⟩, mem_tgt.2 (by rw [← hey]; exact he)⟩
      have : y ∈ rdL ns o (cnt es o) := mem_rdL.2 ⟨hy1, hy2, h0⟩
      rw [h3] at this; cases this) ((hmem x).2 ⟨hx, hxo⟩)
    exact h z ((hmem z).1 hz).1 n hw

section
variable {F : ByteArray → List ByteArray}
def PthP (F : ByteArray → List ByteArray) (st last : ByteArray) (n : Nat) (p : List ByteArray) : Prop := p.length = n ∧ (∀ i (h1 : i + 1 < (last :: p).length), (last :: p)[i + 1] ∈ F ((last :: p)[i]'(Nat.lt_of_succ_lt h1))) ∧ (∀ (h : n < (last :: p).length), st ∈ F (last :: p)[n]) ∧ ∀ i (h : i < p.length), dstF F p[i] st = some (n - i)
def CycOk (F : ByteArray → List ByteArray) (c : List ByteArray) : Prop := (∀ i (h : i < c.length), c[(i + 1) % c.length]'(Nat.mod_lt _ (Nat.lt_of_le_of_lt (Nat.zero_le _) h)) ∈ F c[i]) ∧ c.Nodup
theorem pth_spec {st : ByteArray} : ∀ {n : Nat} {last : ByteArray}, Ahead F st last n → PthP F st last n (pthF F st n last)
  | 0, last, h => by
    refine ⟨rfl, fun i h1 => by simp [pthF] at h1, fun _ => ?_, fun i h => by simp [pthF] at h⟩
    obtain ⟨⟨c, hc, hw⟩, _⟩ := h
    cases hw
    exact hc
  | n + 1, last, h => by
    obtain ⟨m, h1, h2, h3⟩ := ahead_find h
    have he : pthF F st (n + 1) last = m :: pthF F st n m := by rw [pthF, h1]
    obtain ⟨i1, i2, i3, i4⟩ := pth_spec (ahead_next (last := last) h3)
    rw [he]
    refine ⟨by simp [i1], fun i h1 => ?_, fun h => ?_, fun i h => ?_⟩
    · cases i with
      | zero => simpa using h2
      | succ i => exact i2 i (Nat.lt_of_succ_lt_succ h1)
    · simpa using i3 (by simpa using h)
    · cases i with
      | zero => simpa using h3
      | succ i =>
        have := i4 i (by simpa using h)
        rw [List.getElem_cons_succ, this]
        congr 1; omega
/-- What the cycle is. -/
theorem cyc_spec {ns : List ByteArray} (hc : cycF F ns ≠ []) : CycOk F (cycF F ns) := by
  have h0 : ∃ st q, Ahead F st st q ∧ cycF F ns = st :: pthF F st q st := by
    unfold cycF at hc ⊢
    by_cases h : (stF (girF F) ns).2 = 0
    · rw [if_pos h] at hc; exact absurd rfl hc
    · rw [if_neg h]
      rcases stF_spec (girF F) ns with h1 | ⟨h1, h2, h3⟩
      · exact absurd h1.1 h
      · exact ⟨_, _, ahead_start (by rw [h3]; omega), rfl⟩
  obtain ⟨st, q, hA, he⟩ := h0
  have hP := pth_spec hA
  rw [he]
  generalize pthF F st q st = p at *
  obtain ⟨i1, i2, i3, i4⟩ := hP
  have hl : (st :: p).length = q + 1 := by simp [i1]
  have key : ∀ (k j : Nat) (hk : k < (st :: p).length) (hj : j < (st :: p).length), k = j → (st :: p)[k] = (st :: p)[j] := fun k j _ _ e => by subst e; rfl
  constructor
  · intro i hi
    by_cases h : i + 1 < q + 1
    · have e1 : (i + 1) % (st :: p).length = i + 1 := by rw [hl]; exact Nat.mod_eq_of_lt h
      rw [key _ _ _ (by omega) e1]
      exact i2 i (by omega)
    · obtain rfl : i = q := by omega
      have e1 : (i + 1) % (st :: p).length = 0 := by rw [hl]; exact Nat.mod_self _
      rw [key _ _ _ (by omega) e1]
      exact i3 (by omega)
  · rw [List.nodup_cons]
    constructor
    · intro hm
      obtain ⟨i, hi, e⟩ := List.mem_iff_getElem.1 hm
      have h1 := i4 i hi
      rw [e, dst_self] at h1
      have h2 : (0 : Nat) = q - i := Option.some.inj h1
      rw [i1] at hi
      omega
    · refine List.pairwise_iff_getElem.2 fun i j hi hj hij e => ?_
      have h1 := i4 i hi
      have h2 := i4 j hj
      rw [e, h2] at h1
      have h3 : q - j = q - i := Option.some.inj h1
      rw [i1] at hi hj
      omega
end
theorem atS_nodup {l : List ByteArray} (h : l.Nodup) {i : Nat} (hi : i < l.length) : atS l[i] l = (i : Nat) := by
  rw [atS_in (List.getElem_mem hi), pos_eq hi rfl fun j hj hji => List.pairwise_iff_getElem.1 h j i hj hi hji]
/-- The cycle's edges are there. -/
theorem cyc_edge {es : List Ed} {ns : List ByteArray} {i : Nat} (h : i < (cycF (tgt es) ns).length) : ((cycF (tgt es) ns)[i], (cycF (tgt es) ns)[(i + 1) % (cycF (tgt es) ns).length]'(Nat.mod_lt _ (Nat.lt_of_le_of_lt (Nat.zero_le _) h))) ∈ es :=
  mem_tgt.1 ((cyc_spec (fun e => by rw [e] at h; simp at h)).1 i h)
theorem cyc_at {es : List Ed} {ns : List ByteArray} {i : Nat} (h : i < (cycF (tgt es) ns).length) : atS (cycF (tgt es) ns)[i] (cycF (tgt es) ns) = (i : Nat) :=
  atS_nodup (cyc_spec (fun e => by rw [e] at h; simp at h)).2 h
end Go.Proofs.Ytlhekldlfmdmiaa
