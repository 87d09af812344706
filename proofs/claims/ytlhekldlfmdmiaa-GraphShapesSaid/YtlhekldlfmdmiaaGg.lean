import Derived.Test.YtlhekldlfmdmiaaGf
/-
  The program's next: for each string a row of its own. Conditions: those ahead of each theorem.
-/
namespace Go.Proofs.Ytlhekldlfmdmiaa
open Go.RowKit Go.Sort Go.Lib Go.Maps
open Go.Lib (hid)
set_option linter.unusedVariables false
set_option linter.unusedSimpArgs false

/-- The targets of a node, in the order of the edges. -/
def tgt (es : List Ed) (x : ByteArray) : List ByteArray := (es.filter fun e => decide (e.1 = x)).map (·.2)
theorem tgt_snoc (es : List Ed) (e : Ed) (x : ByteArray) : tgt (es ++ [e]) x = if e.1 = x then tgt es x ++ [e.2] else tgt es x := by
  unfold tgt
  rw [List.filter_append, List.map_append]
  by_cases h : e.1 = x
  · rw [if_pos h]; simp [List.filter_cons, h]
  · rw [if_neg h]; simp [List.filter_cons, h]
theorem tgt_len (es : List Ed) (x : ByteArray) : (tgt es x).length ≤ es.length := by unfold tgt; rw [List.length_map]; exact List.length_filter_le _ _
theorem mem_tgt {es : List Ed} {x y : ByteArray} : y ∈ tgt es x ↔ (x, y) ∈ es := by
  unfold tgt
  rw [List.mem_map]
  constructor
  · rintro ⟨⟨a, b⟩, h, rfl⟩
    rw [List.mem_filter] at h
    have := of_decide_eq_true h.2
    simp at this
    subst this
    exact h.1
  · intro h
    exact ⟨(x, y), List.mem_filter.2 ⟨h, by simp⟩, rfl⟩
def nilV : Value := .slice none 0 0
/-- A map of rows under way: block b, the rows from B on, apart from each other. -/
structure Grp (B : Nat) (w : World) (b n : Nat) (F : ByteArray → List ByteArray) : Prop where
  ex : ∃ c f, OwnF w Try.prog 9 strLit b n c f ∧ (∀ x, OwnS B w ((f x).getD nilV) (F x)) ∧ (∀ x y, x ≠ y → Apart ((f x).getD nilV) ((f y).getD nilV))
  lt : b < B
/-- A map of rows that is only read. -/
structure Adj (w : World) (b : Nat) (F : ByteArray → List ByteArray) : Prop where
  ex : ∃ n c f, OwnF w Try.prog 9 strLit b n c f ∧ ∀ x, Sl StrR 1 w ((f x).getD nilV) (F x)
theorem Grp.adj {B : Nat} {w : World} {b n : Nat} {F : ByteArray → List ByteArray} (h : Grp B w b n F) : Adj w b F := by
  obtain ⟨c, f, h1, h2, _⟩ := h.ex
  exact ⟨n, c, f, h1, fun x => (h2 x).sl⟩
theorem OwnF.below' {κ : Type} {P : Program} {k : TypeId} {lit : κ → Lit} {w w' : World} {b n c : Nat} {f : κ → Option Value} (h : OwnF w P k lit b n c f) (hb : Below w.heap.size w w') : OwnF w' P k lit b n c f := h.kept (grown_below hb) (by simp)
theorem Adj.below {w w' : World} {b : Nat} {F : ByteArray → List ByteArray} (h : Adj w b F) (hb : Below w.heap.size w w') : Adj w' b F := by
  obtain ⟨n, c, f, h1, h2⟩ := h.ex
  exact ⟨n, c, f, h1.below' hb, fun x => (h2 x).below strR_mono hb⟩
theorem zsl (w : World) : (zeroValue 22).run Try.prog w = .ok nilV w := by kernel_rfl
theorem grp_start (w : World) (B : Nat) (hB : w.heap.size < B) : Grp B (w.alloc (.map #[] 0)) w.heap.size 0 (fun _ => []) :=
  ⟨⟨0, _, OwnF.made w Try.prog 9 strLit, fun x => ownS_nil _ _, fun x y _ => Apart.nil' _⟩, hB⟩
theorem Grp.below {B : Nat} {w w' : World} {b n : Nat} {F : ByteArray → List ByteArray} (h : Grp B w b n F) (hb : Below w.heap.size w w') : Grp B w' b n F := by
  obtain ⟨c, f, h1, h2, h3⟩ := h.ex
  exact ⟨⟨c, f, h1.below' hb, fun x => (h2 x).below hb, h3⟩, h.lt⟩
theorem Grp.kept {B : Nat} {w w' : World} {b n k : Nat} {F : ByteArray → List ByteArray} (h : Grp B w b n F) (hg : w.grownBy w' (some k)) (hb : k ≠ b) (hk : k < B) : Grp B w' b n F := by
  obtain ⟨c, f, h1, h2, h3⟩ := h.ex
  exact ⟨⟨c, f, h1.kept hg (by simp; exact fun e => hb e.symm), fun x => (h2 x).kept hg (fun g hg e => by cases e; have := ((h2 x).lt _ hg).1; omega), h3⟩, h.lt⟩
theorem insert_len' {H : Type} (x : Lit × DataW H) : ∀ l : List (Lit × DataW H), (DataW.insert x l).length = l.length + 1
  | [] => rfl
  | y :: r => by
    unfold DataW.insert
    split
    · rfl
    · simp [insert_len' x r]
theorem fold_len' {H : Type} : ∀ l : List (Lit × DataW H), (l.foldr DataW.insert []).length = l.length
  | [] => rfl
  | y :: r => by rw [List.foldr_cons, insert_len', fold_len' r]; rfl
theorem OwnF.tight {κ : Type} {P : Program} {k : TypeId} {lit : κ → Lit} {w : World} {b n c : Nat} {f : κ → Option Value} (h : OwnF w P k lit b n c f) : OwnF w P k lit b c c f := by
  obtain ⟨D, ⟨es, clock, h1, h2, h3, h4⟩, h5, h6⟩ := h.ex
  have : es.size = c := by rw [← h5, h4]; simp [Maps.size, fold_len']
  exact ⟨D, ⟨es, clock, h1, h2, by omega, h4⟩, h5, h6⟩
theorem mk_map (T : TypeId) {k e : TypeId} (hT : Try.prog.underlying T = some (.map k e)) (n : Nat) (w : World) : (Instr.makeMap T (some (.int .i64 (n : Nat)))).run Try.prog w = .ok (.map (some w.heap.size)) (w.alloc (.map #[] 0)) := by
  simp [Instr.makeMap, run_underlying hT]
  rfl

theorem grp_push {B : Nat} {W w3 w4 : World} {b n cc : Nat} {f : ByteArray → Option Value} {F : ByteArray → List ByteArray} {x y : ByteArray} {v : Value} {g cap H : Nat} (hv : (f x).getD nilV = v) (hrow : ∀ z, OwnS B W ((f z).getD nilV) (F z)) (hap : ∀ x y, x ≠ y → Apart ((f x).getD nilV) ((f y).getD nilV))
    (hm : MoreS B W v (F x ++ [y]) H g cap w3) (hH : W.heap.size ≤ H) (ho4 : OwnF w4 Try.prog 9 strLit b (n + 1) cc (upd f x (some (.slice (some ⟨g, 0, none⟩) ((F x).length + 1) cap)))) (hg4 : w3.grownBy w4 (some b)) (hb : b < B) : Grp B w4 b (n + 1) (fun z => if x = z then F z ++ [y] else F z) := by
  subst hv
  obtain ⟨m1, m2, m3, m4⟩ := hm
  rw [List.length_append, List.length_singleton] at m1
  refine ⟨⟨cc, _, ho4, fun z => ?_, fun z z' hzz => ?_⟩, hb⟩
  · by_cases e : x = z
    · subst e
      rw [if_pos rfl, upd_same]
      exact m1.kept hg4 fun k hk e => by cases e; have := (m1.lt _ hk).1; omega
    · rw [if_neg e, upd_other _ _ (fun h => e h.symm)]
      have h1 := (hrow z).kept m2 fun k hk e' => hap z x (fun h => e h.symm) k hk e'
      exact h1.kept hg4 fun k hk e => by cases e; have := (h1.lt _ hk).1; omega
  · by_cases e : x = z
    · subst e
      rw [upd_same, upd_other _ _ (fun h => hzz h.symm)]
      exact (Apart.app (hrow z').1 (hap z' x (fun h => hzz h.symm)) m3 hH).symm
    · by_cases e' : x = z'
      · subst e'
        rw [upd_same, upd_other _ _ hzz]
        exact Apart.app (hrow z).1 (hap z x hzz) m3 hH
      · rw [upd_other _ _ (fun h => e h.symm), upd_other _ _ (fun h => e' h.symm)]
        exact hap z z' hzz

set_option maxRecDepth 100000 in
set_option maxHeartbeats 1000000 in
theorem next_any (vn : Value) (ns : List ByteArray) (es : List Ed) (ve : Value) (w : World) (hN : Sl StrR 1 w vn ns) (hS : Sl EdR 2 w ve es) (hn : es.length ≤ 1000000) :
    Calls Try.prog 33 #[.agg #[vn, ve]] w fun e w' => e = .returned (.map (some (w.heap.size + 1))) ∧ (∃ n, Grp (w.heap.size + 2) w' (w.heap.size + 1) n (tgt es)) ∧ Below w.heap.size w w' := by
  obtain ⟨r, c, rfl, _⟩ := id hS
  obtain ⟨rn, cn, rfl, _⟩ := id hN
  obtain ⟨_, hl, hm⟩ := sl_len hS
  obtain ⟨_, hl1, hm1⟩ := sl_len hN
  have HE := hid (fun (W : World) (hW : Below w.heap.size w W) => ed_at (hS.below edR_mono hW))
  clear hS hN
  have HB0 := hid (show Below w.heap.size w ((w.alloc (.cells #[.slice rn ns.length cn, .slice r es.length c] 25)).alloc (.map #[] 0)) from ((Below.refl _ _).alloc (Nat.le_refl _) _).alloc (by simp) _)
  have HG0 := hid (show Grp (w.heap.size + 2) ((w.alloc (.cells #[.slice rn ns.length cn, .slice r es.length c] 25)).alloc (.map #[] 0)) (w.heap.size + 1) 0 (fun _ => []) from by
    have := grp_start (w.alloc (.cells #[.slice rn ns.length cn, .slice r es.length c] 25)) (w.heap.size + 2) (by simp)
    simpa using this)
  have hmm := fun W => mk_map 52 Try.underlying52 ns.length W
  have HC1 := hid (show ((w.alloc (.cells #[.slice rn ns.length cn, .slice r es.length c] 25)).alloc (.map #[] 0)).cell? ⟨w.heap.size, 1, none⟩ = some (.slice r es.length c) from bget ((Below.refl _ _).alloc (Nat.le_refl _) _) (cell_at rfl rfl))
  go_enter Try.func33, Try.ntmps33
  go_wp2
  go_loopw [13] (fun i wr => ∃ k : Nat, k ≤ es.length ∧ i = .int .i64 k ∧ Below w.heap.size w wr ∧ w.heap.size + 2 ≤ wr.heap.size ∧ Hid (∃ n, n ≤ k ∧ Grp (w.heap.size + 2) wr (w.heap.size + 1) n (tgt (es.take k)))) (fun i _ => es.length - (intOf i).toNat)
  case atStart => exact ⟨0, by omega, rfl, HB0.out, by simp, ⟨0, Nat.le_refl _, HG0.out⟩⟩
  case round =>
    obtain ⟨k, hk, rfl, hbl, hz, HG⟩ := hrel
    have HB := hid hbl
    by_cases hlt : k < es.length
    · obtain ⟨b, off, rfl, hb, g0, g1, hs0, hs1⟩ := HE.out _ hbl k hlt
      have HT := hid (show es.take (k + 1) = es.take k ++ [es[k]] from List.take_succ_eq_append_getElem hlt)
      have HTl := hid (tgt_len (es.take k))
      have HKl := hid (show (es.take k).length ≤ k by simp; omega)
      clear HE hbl
      generalize es[k] = y at *
      obtain ⟨y1, y2⟩ := y
      have HS := hid (show y1.size ≤ maxLen ∧ y2.size ≤ maxLen from ⟨hs0, hs1⟩)
      have hW1 : Below wr.heap.size wr (wr.alloc (.cells #[.string y1, .string y2] 43)) := (Below.refl _ _).alloc (Nat.le_refl _) _
      have HB1 := hid (HB.out.alloc (by omega) (.cells #[.string y1, .string y2] 43))
      have c0 : (wr.alloc (.cells #[.string y1, .string y2] 43)).cell? ⟨wr.heap.size, 0, none⟩ = some (.string y1) := cell_at rfl rfl
      have c1 : (wr.alloc (.cells #[.string y1, .string y2] 43)).cell? ⟨wr.heap.size, 1, none⟩ = some (.string y2) := cell_at rfl rfl
      obtain ⟨n, hn0, hg0⟩ := HG.out
      have HN := hid hn0
      obtain ⟨cc, f, ho, hrow, hap⟩ := hg0.ex
      have HLt := hid (fun x g h => (hrow x).lt g h)
      have HO := hid (ho.below' hW1)
      have HR := hid (fun x => (hrow x).below hW1)
      have HA := hid hap
      have hz1 : w.heap.size + 3 ≤ (wr.alloc (.cells #[.string y1, .string y2] 43)).heap.size := by simp; omega
      have hz2 : wr.heap.size + 1 = (wr.alloc (.cells #[.string y1, .string y2] 43)).heap.size := by simp
      have HZ2 := hid hz2
      clear hs0 hs1 hn0 hg0 ho hrow hap hW1 hz2
      go_wp2
      generalize hWW : (wr.alloc (.cells #[.string y1, .string y2] 43)) = W1 at *
      clear hWW
      have T := strT (P := Try.prog) (k := 9) Try.underlying9
      obtain ⟨r3, c3, hv, hc31, hc32⟩ := (HR.out y1).form
      have L1 := HO.out.drew.look T Try.underlying52 (zsl _) y1 HS.out.1
      have L2 := (HO.out.alloc (.cells #[.string y2] 9)).drew.look T Try.underlying52 (zsl _) y1 HS.out.1
      have hrow1 : OwnS (w.heap.size + 2) ((W1.alloc (.cells #[.string y2] 9)).drew) ((f y1).getD nilV) (tgt (es.take k) y1) := (HR.out y1).below (((Below.refl _ _).alloc (Nat.le_refl _) _).drew)
      rw [hv] at L1 L2 hrow1
      have HV := hid hv
      have HRW := hid hrow1
      have HLen := hid (show (tgt (es.take k) y1).length + 1 ≤ 1000000 by have := HTl.out y1; have := HKl.out; omega)
      have hne : ∀ g, ((f y1).getD nilV).ownBlock = some g → w.heap.size + 2 ≤ g ∧ g < wr.heap.size := fun g hg => HLt.out y1 g hg
      rw [hv] at hne
      have HNE := hid hne
      have HTG := hid (show ∀ x, tgt (es.take (k + 1)) x = if y1 = x then tgt (es.take k) x ++ [y2] else tgt (es.take k) x from fun x => by rw [HT.out, tgt_snoc])
      have HA1 := hid (show ∀ x, x ≠ y1 → Apart ((f x).getD nilV) (.slice r3 (tgt (es.take k) y1).length c3) from fun x hx => by rw [← hv]; exact HA.out x y1 hx)
      clear hv hrow1 hne HTl HKl HT
      generalize hF0 : tgt (es.take k) = F0 at *
      clear hF0
      go_region_held3 (fun w' => w'.cell? ⟨wr.heap.size, 0, none⟩ = some (.string y1) ∧ w'.cell? ⟨wr.heap.size, 1, none⟩ = some (.string y2)) (go_keep)
        ((refine step_str (by rfl) _ _ (by rfl) (w.heap.size + 2) (.slice r3 (F0 y1).length c3) (F0 y1) (by rfl) HRW.out W1.heap.size 1 y2 (by rfl) (fr := (0, 0)) (by exact (MapKept.heap_alloc W1 _).1) HS.out.2 HLen.out (by simp; omega) (W1.heap.size + 1) (by simp) ?_
          intro g cap w3 hm3
          have ho3 := (HO.out.alloc (.cells #[.string y2] 9)).drew.kept hm3.2.1 (fun e => by have := HNE.out _ e.symm; omega)
          obtain ⟨w4, hrun, ho4, hg4, _⟩ := ho3.store T Try.underlying52 (by have := HN.out; unfold maxLen; omega) y1 HS.out.1 (.slice (some ⟨g, 0, none⟩) ((F0 y1).length + 1) cap)
          have HO4 := hid ho4
          have HG4 := hid hg4
          have HM3 := hid hm3
          have z0 := grown_cell (o := 0) hm3.2.1 (lt_alloc_drew (show wr.heap.size < W1.heap.size by have := HZ2.out; omega)) (fun g' hg' e => by have := HNE.out _ hg'; omega) (cell_alloc_drew c0)
          have z1 := grown_cell (o := 1) hm3.2.1 (lt_alloc_drew (show wr.heap.size < W1.heap.size by have := HZ2.out; omega)) (fun g' hg' e => by have := HNE.out _ hg'; omega) (cell_alloc_drew c1)
          have y0 := grown_ne hg4 (show wr.heap.size ≠ w.heap.size + 1 by omega) z0
          have y1 := grown_ne hg4 (show wr.heap.size ≠ w.heap.size + 1 by omega) z1
          clear hm3 ho3 ho4 hg4))
      all_goals
        go_wp2
        go_roundw
        case rel =>
          have hgf := HG4.out
          have hm3 := HM3.out
          have hB3 := Below.grown ((HB1.out.alloc (by omega) (.cells #[.string y2] 9)).drew) hm3.2.1 (by simp; omega) (fun g hg => by have := HNE.out g hg; omega)
          refine ⟨k + 1, by omega, by go_num, Below.grown hB3 hgf hB3.size (fun g hg => by cases hg; omega), ?_, ?_⟩
          · have h1 := hgf.size
            have h2 := hm3.2.1.size
            simp at h2
            omega
          · have key := grp_push (B := w.heap.size + 2) (b := w.heap.size + 1) (n := n) HV.out (fun z => (HR.out z).below (below_alloc_drew _ _)) HA.out hm3 (by simp) HO4.out hgf (by omega)
            exact ⟨n + 1, Nat.succ_le_succ HN.out, by rw [show tgt (es.take (k + 1)) = _ from funext HTG.out]; exact key⟩
        case measure => simp [intOf]; omega
    · have hke : k = es.length := by omega
      have HK := hid hke
      clear hke HE hbl
      go_wp2
      go_ret
      have hk2 := HK.out
      subst hk2
      obtain ⟨n, _, hg⟩ := HG.out
      rw [List.take_length] at hg
      exact ⟨rfl, ⟨n, hg⟩, HB.out⟩
end Go.Proofs.Ytlhekldlfmdmiaa
