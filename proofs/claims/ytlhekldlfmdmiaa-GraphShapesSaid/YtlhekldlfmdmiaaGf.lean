import Derived.Test.YtlhekldlfmdmiaaGe
/-
  The program's edges. Conditions: those ahead of each theorem.
-/
namespace Go.Proofs.Ytlhekldlfmdmiaa
open Go.RowKit Go.Sort Go.Lib Go.Maps
open Go.Lib (hid)
set_option linter.unusedVariables false
set_option linter.unusedSimpArgs false

def hasE (e : Ed) (l : List Ed) : Bool := l.any fun y => decide (y = e)
theorem hasE_iff {e : Ed} {l : List Ed} : hasE e l = true ↔ e ∈ l := by
  unfold hasE
  rw [List.any_eq_true]
  constructor
  · rintro ⟨y, hy, h⟩
    rw [decide_eq_true_eq] at h
    exact h ▸ hy
  · intro h
    exact ⟨e, h, by simp⟩
theorem hasE_snoc (e x : Ed) (l : List Ed) : hasE e (l ++ [x]) = (hasE e l || decide (x = e)) := by simp [hasE]
def edSetF (l : List Ed) : GEd → Option Value := fun e => if hasE e.1 l = true then some (.bool true) else none
theorem edSetF_snoc (l : List Ed) (x : GEd) : upd (edSetF l) x (some (.bool true)) = edSetF (l ++ [x.1]) := by
  funext y
  by_cases e : y = x
  · subst e; rw [upd_same]; simp [edSetF, hasE_snoc]
  · rw [upd_other _ _ e]; unfold edSetF
    have : y.1 ≠ x.1 := fun h => e (Subtype.ext h)
    rw [hasE_snoc, decide_eq_false (fun h => this h.symm), Bool.or_false]
theorem edSetF_same {l : List Ed} {x : Ed} (h : x ∈ l) : edSetF (l ++ [x]) = edSetF l := by
  funext y; unfold edSetF
  rw [hasE_snoc]
  by_cases e : x = y.1
  · have := hasE_iff.2 (e ▸ h)
    rw [this]; rfl
  · rw [decide_eq_false e, Bool.or_false]
theorem zbool (w : World) : (zeroValue 4).run Try.prog w = .ok (.bool false) w := by kernel_rfl
theorem mk_edset (w : World) : (Instr.makeMap 84 none).run Try.prog w = .ok (.map (some w.heap.size)) (w.alloc (.map #[] 0)) := by
  simp [Instr.makeMap, run_underlying Try.underlying84]
theorem grown_ne {w w' : World} {g b o : Nat} {v : Value} (hg : w.grownBy w' (some g)) (hb : b ≠ g) (h : w.cell? ⟨b, o, none⟩ = some v) : w'.cell? ⟨b, o, none⟩ = some v :=
  grown_cell hg (World.block_lt_of_cell? w _ h) (fun k hk e => by cases hk; exact hb e.symm) h

set_option maxRecDepth 100000 in
set_option maxHeartbeats 1000000 in
theorem edges_any (l : List Ed) (v : Value) (w : World) (hS : Sl EdR 2 w v l) (hn : l.length ≤ 1000000) :
    Calls Try.prog 54 #[v] w fun e w' => ∃ v', e = .returned v' ∧ OwnE (w.heap.size + 1) w' v' (canE l) ∧ Below w.heap.size w w' := by
  obtain ⟨r, c, rfl, _⟩ := id hS
  obtain ⟨_, hl, hm⟩ := sl_len hS
  have HE := hid (fun (W : World) (hW : Below w.heap.size w W) => ed_at (hS.below edR_mono hW))
  clear hS
  have hmm := mk_edset w
  have B0 := hid (show Below w.heap.size w (w.alloc (.map #[] 0)) from (Below.refl _ _).alloc (Nat.le_refl _) _)
  have O0 := hid (OwnF.made w Try.prog 43 edLit)
  go_enter Try.func54, Try.ntmps54
  go_wp2
  go_loopw [4, 10] (fun vo i wr => ∃ (k : Nat) (dd : List Ed), k ≤ l.length ∧ i = .int .i64 k ∧ Below w.heap.size w wr ∧ w.heap.size + 1 ≤ wr.heap.size ∧ Hid (∃ n c, n ≤ k ∧ OwnF wr Try.prog 43 edLit w.heap.size n c (edSetF (l.take k))) ∧ Hid (OwnE (w.heap.size + 1) wr vo dd) ∧ Hid (dd.Nodup) ∧ Hid (∀ x, x ∈ dd ↔ x ∈ l.take k)) (fun _ i _ => l.length - (intOf i).toNat)
  case atStart => exact ⟨0, [], by omega, rfl, B0.out, by simp, ⟨0, 0, Nat.le_refl _, O0.out⟩, ownE_nil _ _, List.nodup_nil, hid (by simp)⟩
  case round =>
    obtain ⟨k, dd, hk, rfl, hbl, hz, HNO, HD, HU, HM⟩ := hrel
    obtain ⟨n, c3, hn3, ho3⟩ := HNO.out
    have HN := hid hn3
    have HO := hid ho3
    clear hn3 ho3 HNO
    have HB := hid hbl
    have HDl := hid (show dd.length ≤ k from Nat.le_trans (nodup_len HU.out fun x hx => (HM.out x).1 hx) (by simp; omega))
    obtain ⟨r2, c2, rfl, hc21, hc22⟩ := HD.out.form
    by_cases hlt : k < l.length
    · obtain ⟨b, off, rfl, hb, g0, g1, hs0, hs1⟩ := HE.out _ hbl k hlt
      have HT := hid (show l.take (k + 1) = l.take k ++ [l[k]] from List.take_succ_eq_append_getElem hlt)
      clear HE hbl
      generalize l[k] = y at *
      obtain ⟨y1, y2⟩ := y
      have HS := hid (show y1.size ≤ maxLen ∧ y2.size ≤ maxLen from ⟨hs0, hs1⟩)
      have HO1 := hid (HO.out.alloc (.cells #[.string y1, .string y2] 43))
      have HB1 := hid (HB.out.alloc (by omega) (.cells #[.string y1, .string y2] 43))
      have HD1 := hid (HD.out.below ((Below.refl _ _).alloc (Nat.le_refl _) (.cells #[.string y1, .string y2] 43)))
      have HC0 := hid (show (wr.alloc (.cells #[.string y1, .string y2] 43)).cell? ⟨wr.heap.size, 0, none⟩ = some (.string y1) from cell_at rfl rfl)
      have HC1 := hid (show (wr.alloc (.cells #[.string y1, .string y2] 43)).cell? ⟨wr.heap.size, 1, none⟩ = some (.string y2) from cell_at rfl rfl)
      clear hs0 hs1
      by_cases hy : (y1, y2) ∈ l.take k
      · have HF := hid (show edSetF (l.take k) ⟨(y1, y2), HS.out⟩ = some (.bool true) by unfold edSetF; rw [if_pos (hasE_iff.2 hy)])
        have HY := hid hy
        clear hy
        go_wp2_with (at_lookup; refine wpList_look _ rfl _ _ 84 rfl edT Try.underlying84 (zbool _) w.heap.size n c3 _ rfl HO1.out ⟨(y1, y2), HS.out⟩ rfl trivial ?_; rw [HF.out])
        go_round
        case rel => exact ⟨k + 1, dd, by omega, by go_num, HB1.out, by simp; omega, ⟨n, c3, Nat.le_succ_of_le HN.out, by rw [HT.out, edSetF_same HY.out]; exact HO1.out⟩, HD1.out, HU.out, fun x => by
          rw [HT.out, HM.out, List.mem_append, List.mem_singleton]
          exact ⟨Or.inl, fun h => h.elim id fun h => h ▸ HY.out⟩⟩
        case measure => simp [intOf]; omega
      · have HF := hid (show edSetF (l.take k) ⟨(y1, y2), HS.out⟩ = none by unfold edSetF; rw [if_neg (fun h => hy (hasE_iff.1 h))])
        have HY := hid hy
        have HDn := hid (show (dd ++ [(y1, y2)]).Nodup from List.nodup_append.2 ⟨HU.out, by simp, fun a ha b hb => by simp at hb; subst hb; rintro rfl; exact HY.out ((HM.out _).1 ha)⟩)
        have HMn := hid (show ∀ x, x ∈ dd ++ [(y1, y2)] ↔ x ∈ l.take (k + 1) from fun x => by rw [HT.out, List.mem_append, List.mem_append, HM.out])
        have HDl1 := hid (show dd.length + 1 ≤ 1000000 by have := HDl.out; omega)
        clear hy
        go_wp2_with (first
          | (at_lookup; refine wpList_look _ rfl _ _ 84 rfl edT Try.underlying84 (zbool _) w.heap.size n c3 _ rfl HO1.out ⟨(y1, y2), HS.out⟩ rfl trivial ?_; rw [HF.out])
          | (at_mapUpdate; refine wpList_store _ rfl _ _ _ 84 rfl edT Try.underlying84 w.heap.size n c3 _ rfl HO1.out (by have := HN.out; unfold maxLen; omega) ⟨(y1, y2), HS.out⟩ (.bool true) rfl rfl trivial ?_
             intro w2 ho2 hg2
             have z0 := grown_ne hg2 (show wr.heap.size ≠ w.heap.size by omega) HC0.out
             have z1 := grown_ne hg2 (show wr.heap.size ≠ w.heap.size by omega) HC1.out
             have hz2 : wr.heap.size + 1 ≤ w2.heap.size := by have := hg2.size; simpa using this
             have HD2 := hid ((HD1.out.kept hg2 fun g hg e => by cases e; have := HD.out.lt _ hg; omega).below ((Below.refl _ _).alloc (Nat.le_refl _) (.cells #[.string y1, .string y2] 43)))
             have HB2 := hid ((Below.grown HB1.out hg2 HB1.out.size (fun k hk => by cases hk; exact Nat.le_refl _)).alloc (by omega) (.cells #[.string y1, .string y2] 43))
             have HO3 := hid (ho2.alloc (.cells #[.string y1, .string y2] 43))
             clear ho2 hg2)
          | (at_builtin; refine app_ed rfl _ _ rfl (w.heap.size + 1) _ dd rfl HD2.out w2.heap.size 1 (y1, y2) rfl (fr := (0, 0)) (by exact (MapKept.heap_alloc w2 _).1) HS.out HDl1.out (by simp; omega) (w2.heap.size + 1) (by simp) ?_; intro g cap w3 hm3; clear z0 z1))
        have HM3 := hid hm3
        clear hm3
        go_wp2
        go_round
        case rel =>
          obtain ⟨m1, m2, m3, m4⟩ := HM3.out
          refine ⟨k + 1, dd ++ [(y1, y2)], by omega, by go_num, Below.grown HB2.out m2 HB2.out.size (fun g hg => by have := (HD.out.lt g hg).1; omega), ?_, ?_, ?_, HDn.out, HMn.out⟩
          · have := m2.size; simp at this; omega
          · have key := HO3.out.kept m2 (fun e => by have := HD.out.lt _ e.symm; omega)
            rw [edSetF_snoc] at key
            exact ⟨n + 1, _, Nat.succ_le_succ HN.out, by rw [HT.out]; exact key⟩
          · rw [List.length_append, List.length_singleton] at m1
            exact m1
        case measure => simp [intOf]; omega
    · have hke : k = l.length := by omega
      have HK := hid hke
      have hdn : dd.length ≤ 1000000 := by have := HDl.out; omega
      have HC := hid hdn
      clear hke HE hbl hdn
      go_wp2_with (go_at_call 48; refine (sort_ed (w.heap.size + 1) _ dd _ HD.out HC.out).mono ?_; rintro e w4 ⟨rfl, ds, h1, h2, h3, h4⟩)
      have H1 := hid h1
      have H2 := hid h2
      have H3 := hid h3
      have H4 := hid h4
      clear h1 h2 h3 h4
      have hle := HD.out.lt
      have HL := hid hle
      clear hle
      go_wp2
      go_ret
      have hds : ds = canE l := by
        have hk2 := HK.out
        subst hk2
        refine ascE_eq (asc_of_sorted H2.out (H1.out.nodup_iff.2 HU.out)) (canE_asc l) fun x => ?_
        rw [H1.out.mem_iff, HM.out, List.take_length, mem_canE]
      refine ⟨_, rfl, ?_, Below.grown HB.out H4.out HB.out.size (fun g hg => by have := (HL.out g hg).1; omega)⟩
      rw [← hds]
      have := H3.out
      exact this
end Go.Proofs.Ytlhekldlfmdmiaa
