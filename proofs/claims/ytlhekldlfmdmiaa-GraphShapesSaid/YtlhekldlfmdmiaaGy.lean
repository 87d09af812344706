import Derived.Test.YtlhekldlfmdmiaaGx
/-
  The statements' made. Conditions: those ahead of each theorem.
-/
namespace Go.Proofs.Ytlhekldlfmdmiaa
open Go.RowKit Go.Sort Go.Lib Go.Maps
open Go.Lib (hid)
set_option linter.unusedVariables false
set_option linter.unusedSimpArgs false

theorem step_two {w : World} {ops : Array Oper} {o : Oper} {a : Act} {K : Act → World → Prop} {Q : Exit → Act → World → Prop} {F : Prop} (hgd : o.guard = none) (s x : Operand) (ho : o.op = .call { callee := .builtin .append, args := #[s, x], argTypes := #[22, 22] })
    (B : Nat) (v : Value) (xs : List ByteArray) (hs : a.eval s = v) (hown : OwnS B w v xs) (nb c : Nat) (y z : ByteArray) (hx : a.eval x = .slice (some ⟨nb, 0, none⟩) 2 c) {fr : Nat × Nat} (hy : w.heap[nb]? = some (.cells #[.string y, .string z] 9 fr)) (hys : y.size ≤ maxLen ∧ z.size ≤ maxLen)
    (hn : xs.length + 2 ≤ 1000000) (hbase : B ≤ w.heap.size) (H : Nat) (hH : w.heap.size = H)
    (h : ∀ g cap w', MoreS B w v (xs ++ [y, z]) H g cap w' → K (a.put o.dst (.slice (some ⟨g, 0, none⟩) (xs.length + 2) cap)) w') :
    if Region.wanted o (yielded ops a.tmps) = true then Oper.wp Try.prog o a w K Q else F := by
  obtain ⟨i0, hi, hz0, hz1, hz2⟩ := info_parts strinfo
  refine step_append_lies w hgd s x 22 ho B 9 i0 (.string ByteArray.empty) 1 16 Try.underlying22 hi hz0 hz1 hz2 rfl (by omega) v xs.length (xs.flatMap encS) hs hown.1 ⟨nb, 0, none⟩ 2 c [.string y, .string z] hx rfl ?_ ?_ (by omega) (by unfold maxLen; omega) (by omega) hbase H hH ?_
  · intro j u hj
    exact World.news_of_block hy j u (by simpa using hj)
  · intro u hu
    simp only [List.mem_cons, List.mem_nil_iff, or_false] at hu
    rcases hu with rfl | rfl <;> rfl
  · intro g cap w' h1 h2 h3 h4
    refine h g cap w' ⟨⟨?_, ?_⟩, h2, h3, h4⟩
    · have e : (xs ++ [y, z]).flatMap encS = xs.flatMap encS ++ [.string y, .string z] := by simp [List.flatMap_append, encS]
      rw [e, List.length_append]
      exact h1
    · intro x hx
      rw [List.mem_append] at hx
      rcases hx with hx | hx
      · exact hown.2 x hx
      · simp only [List.mem_cons, List.mem_nil_iff, or_false] at hx
        rcases hx with rfl | rfl
        · exact hys.1
        · exact hys.2
/-- A slice of strings or edges is not touched by what is written into a block that holds no string. -/
theorem sl_keep {α : Type} {R : World → List Value → α → Prop} {sz : Nat} {w w' : World} {v : Value} {xs : List α} (hR : ∀ w w' cs x, R w cs x → R w' cs x) (h0 : ∀ w cs x, R w cs x → ∃ s, cs[0]? = some (.string s)) {b : Nat} {C : Array Value} {E : TypeId} {fr : Nat × Nat}
    (hb : w.heap[b]? = some (.cells C E fr)) (hC : ∀ (s : ByteArray) (o : Nat), C[o]? ≠ some (.string s)) (hw : ∀ k, k ≠ b → w'.heap[k]? = w.heap[k]?) (h : Sl R sz w v xs) : Sl R sz w' v xs := by
  obtain ⟨r, c, hv, h1, h2, he⟩ := h
  refine ⟨r, c, hv, h1, h2, fun i hi => ?_⟩
  obtain ⟨b', off, cs, hr, hs, hc, hx⟩ := he i hi
  obtain ⟨s, hs0⟩ := h0 _ _ _ hx
  have hne : b' ≠ b := fun e => by
    subst e
    have := hc 0 _ hs0
    rw [cell_of hb] at this
    exact hC _ _ this
  exact ⟨b', off, cs, hr, hs, fun j u hj => by rw [World.cell?_of_block (w := w) (hw b' hne)]; exact hc j u hj, hR _ _ _ _ hx⟩
theorem slS_keep {w w' : World} {v : Value} {xs : List ByteArray} {b : Nat} {C : Array Value} {E : TypeId} {fr : Nat × Nat} (hb : w.heap[b]? = some (.cells C E fr)) (hC : ∀ (s : ByteArray) (o : Nat), C[o]? ≠ some (.string s)) (hw : ∀ k, k ≠ b → w'.heap[k]? = w.heap[k]?) (h : Sl StrR 1 w v xs) : Sl StrR 1 w' v xs :=
  sl_keep (fun _ _ _ _ h => h) (fun _ _ x h => ⟨x, h.1⟩) hb hC hw h
theorem slE_keep {w w' : World} {v : Value} {xs : List Ed} {b : Nat} {C : Array Value} {E : TypeId} {fr : Nat × Nat} (hb : w.heap[b]? = some (.cells C E fr)) (hC : ∀ (s : ByteArray) (o : Nat), C[o]? ≠ some (.string s)) (hw : ∀ k, k ≠ b → w'.heap[k]? = w.heap[k]?) (h : Sl EdR 2 w v xs) : Sl EdR 2 w' v xs :=
  sl_keep (fun _ _ _ _ h => h) (fun _ _ x h => ⟨x.1, by rw [h.1]; rfl⟩) hb hC hw h
theorem no_str {a b : Option Addr} {n m c d : Nat} : ∀ (s : ByteArray) (o : Nat), (#[.slice a n c, .slice b m d] : Array Value)[o]? ≠ some (.string s) := fun s o h => by
  match o with
  | 0 => simp at h
  | 1 => simp at h
  | o + 2 => simp at h
def hd1 (s : ByteArray) : ByteArray := s.extract 0 1
def tl1 (s : ByteArray) : ByteArray := s.extract 1 2
def madeN (l : List ByteArray) : List ByteArray := l.flatMap fun s => [hd1 s, tl1 s]
def madeE (l : List ByteArray) : List Ed := l.map fun s => (hd1 s, tl1 s)
def MadP (l : List ByteArray) (w : World) (e : Ending) (w' : World) : Prop :=
  ∃ vn ve, e = .returned (.agg #[vn, ve]) ∧ Sl StrR 1 w' vn (ofG (madeN l) (madeE l)).1 ∧ Sl EdR 2 w' ve (ofG (madeN l) (madeE l)).2.1 ∧ Below w.heap.size w w'
theorem madeN_snoc (l : List ByteArray) (s : ByteArray) : madeN (l ++ [s]) = madeN l ++ [hd1 s, tl1 s] := by simp [madeN]
theorem madeE_snoc (l : List ByteArray) (s : ByteArray) : madeE (l ++ [s]) = madeE l ++ [(hd1 s, tl1 s)] := by simp [madeE]
theorem madeN_len (l : List ByteArray) : (madeN l).length = 2 * l.length := by
  induction l with
  | nil => rfl
  | cons s l ih => unfold madeN at *; rw [List.flatMap_cons, List.length_append, ih]; simp; omega

set_option maxRecDepth 100000 in
set_option maxHeartbeats 2000000 in
theorem made_any (l : List ByteArray) (v : Value) (w : World) (hS : Sl StrR 1 w v l) (h2 : ∀ s ∈ l, s.size = 2) (hn : l.length ≤ 1000) :
    Calls Try.prog 32 #[v] w (MadP l w) := by
  obtain ⟨r, c, rfl, _⟩ := id hS
  obtain ⟨_, hl1, hm1⟩ := sl_len hS
  have HSs := hid (str_at hS)
  have H2 := hid h2
  have HB0 := hid (show Below w.heap.size w (w.alloc (.cells #[.slice none 0 0, .slice none 0 0] 25)) from (Below.refl _ _).alloc (Nat.le_refl _) _)
  have HC0 := hid (show (w.alloc (.cells #[.slice none 0 0, .slice none 0 0] 25)).heap[w.heap.size]? = some (.cells #[.slice none 0 0, .slice none 0 0] 25 (0, 0)) from (MapKept.heap_alloc w _).1)
  clear hS h2
  go_enter Try.func32, Try.ntmps32
  go_wp2
  have hz0 : w.heap.size + 1 = (w.alloc (.cells #[.slice none 0 0, .slice none 0 0] 25)).heap.size := by simp
  have HZ0 := hid hz0
  clear hz0
  generalize (w.alloc (.cells #[.slice none 0 0, .slice none 0 0] 25)) = W0 at *
  go_loopw [3, 4, 5] (fun s3 s4 i wr => ∃ k : Nat, k ≤ l.length ∧ i = .int .i64 k ∧ Hid (Below W0.heap.size W0 wr) ∧ Hid (OwnS W0.heap.size wr s3 (madeN (l.take k))) ∧ Hid (OwnE W0.heap.size wr s4 (madeE (l.take k))) ∧ Hid (Apart s3 s4)) (fun _ _ i _ => l.length - (intOf i).toNat)
  case atStart => exact ⟨0, by omega, rfl, Below.refl _ _, ownS_nil _ _, ownE_nil _ _, Apart.nil _⟩
  case round =>
    obtain ⟨k, hk, rfl, HB, HO, HE, HAp⟩ := hrel
    obtain ⟨r3, c3, rfl, hc31, hc32⟩ := HO.out.form
    obtain ⟨r4, c4, rfl, hc41, hc42⟩ := HE.out.form
    have hbw := HB0.out.trans (HB.out.mono HB0.out.size)
    by_cases hlt : k < l.length
    · obtain ⟨b, off, rfl, hb, g00, hs⟩ := HSs.out k hlt
      have g0 := bget hbw g00
      clear g00
      have HT := hid (show l.take (k + 1) = l.take k ++ [l[k]] from List.take_succ_eq_append_getElem hlt)
      have hs2 := H2.out l[k] (List.getElem_mem hlt)
      clear hbw
      generalize l[k] = s at *
      have k0 : (0 : Int) ≤ (k : Int) := Int.natCast_nonneg _
      have kl : (k : Int) < (l.length : Int) := by omega
      have HE1 := hid (show s.extract 0 1 = hd1 s from rfl)
      have HE2 := hid (show s.extract 1 2 = tl1 s from rfl)
      have HO1 := hid (HO.out.below (below_alloc_drew wr (.cells #[.string (hd1 s), .string (tl1 s)] 9)))
      have HSz := hid (show (hd1 s).size ≤ maxLen ∧ (tl1 s).size ≤ maxLen by unfold hd1 tl1 maxLen; simp [ByteArray.size_extract]; omega)
      have HLn := hid (show (madeN (l.take k)).length + 2 ≤ 1000000 by rw [madeN_len]; simp; omega)
      have hBsz := HB.out.size
      go_wp2
      go_region_held3 (fun w' => w'.cell? ⟨b, off + k, none⟩ = some (.string s)) (go_keep)
        ((refine step_two (by rfl) _ _ (by rfl) W0.heap.size (.slice r3 (madeN (l.take k)).length c3) (madeN (l.take k)) (by rfl) HO1.out wr.heap.size 2 (hd1 s) (tl1 s) (by rfl) (fr := (0, 0)) (by exact (MapKept.heap_alloc wr _).1) HSz.out HLn.out (by simp; omega) (wr.heap.size + 1) (by simp) ?_
          intro g cap w3 hm3
          have HM3 := hid hm3
          have z3 := grown_cell (o := off + k) hm3.2.1 (lt_alloc_drew (by have := HZ0.out; omega)) (fun g' hg' e => by have := (HO.out.lt g' hg').1; have := HZ0.out; omega) (cell_alloc_drew g0)
          clear hm3))
      have hb3 := Below.grown ((HB.out.alloc HB.out.size (.cells #[.string (hd1 s), .string (tl1 s)] 9)).drew) HM3.out.2.1 (by simp; omega) (fun g hg => (HO.out.lt g hg).1)
      have hs3 := hb3.size
      have HB3 := hid hb3
      have HE3 := hid ((HE.out.below (below_alloc_drew wr (.cells #[.string (hd1 s), .string (tl1 s)] 9))).kept HM3.out.2.1 (fun g' hg' e => HAp.out g' e hg'))
      have HAp3 := hid (show Apart (.slice r4 (madeE (l.take k)).length c4) (.slice (some ⟨g, 0, none⟩) ((madeN (l.take k)).length + 2) cap) from Apart.app (HE.out.below (below_alloc_drew wr (.cells #[.string (hd1 s), .string (tl1 s)] 9))).1 HAp.out.symm HM3.out.2.2.1 (by simp))
      have HE4 := hid (HE3.out.below (below_alloc_drew w3 (.cells #[.string (hd1 s), .string (tl1 s)] 43)))
      have HLe := hid (show (madeE (l.take k)).length + 1 ≤ 1000000 by simp [madeE]; omega)
      have HO3 := hid (show OwnS W0.heap.size w3 (.slice (some ⟨g, 0, none⟩) ((madeN (l.take k)).length + 2) cap) (madeN (l.take k) ++ [hd1 s, tl1 s]) from by
        have m1 := HM3.out.1
        rw [List.length_append] at m1
        exact m1)
      clear hb3 g0
      go_wp2
      go_region_held3 (fun w' => w'.cell? ⟨b, off + k, none⟩ = some (.string s)) (go_keep)
        ((refine step_ed (by rfl) _ _ (by rfl) W0.heap.size (.slice r4 (madeE (l.take k)).length c4) (madeE (l.take k)) (by rfl) HE4.out w3.heap.size 1 (hd1 s, tl1 s) (by rfl) (fr := (0, 0)) (by exact (MapKept.heap_alloc w3 _).1) HSz.out HLe.out (by simp; omega) (w3.heap.size + 1) (by simp) ?_
          intro g4 cap4 w4 hm4
          have HM4 := hid hm4
          have z4 := grown_cell (o := off + k) hm4.2.1 (lt_alloc_drew (by have := HZ0.out; omega)) (fun g' hg' e => by have := (HE.out.lt g' hg').1; have := HZ0.out; omega) (cell_alloc_drew z3)
          clear hm4))
      go_wp2
      go_round
      case rel =>
        obtain ⟨m1, m2, m3, m4⟩ := HM4.out
        rw [List.length_append, List.length_singleton] at m1
        refine ⟨k + 1, by omega, by go_num, Below.grown ((HB3.out.alloc HB3.out.size (.cells #[.string (hd1 s), .string (tl1 s)] 43)).drew) m2 (by simp; omega) (fun g hg => (HE3.out.lt g hg).1), ?_, ?_, ?_⟩
        · rw [HT.out, madeN_snoc]
          exact (HO3.out.below (below_alloc_drew w3 _)).kept m2 (fun g' hg' e => HAp3.out g' e hg')
        · rw [HT.out, madeE_snoc]
          exact m1
        · exact Apart.app (HO3.out.below (below_alloc_drew w3 (.cells #[.string (hd1 s), .string (tl1 s)] 43))).1 HAp3.out.symm m3 (by simp)
      case measure => simp [intOf]; omega
    · have hke : k = l.length := by omega
      have HF := hid (of_any (madeN (l.take k)) (madeE (l.take k)) _ _ wr HO.out.sl HE.out.sl (by rw [madeN_len]; simp; omega) (by simp [madeE]; omega))
      have HK := hid hke
      have HBw := hid hbw
      have D1 := hid ((HB.out.block w.heap.size (by have := HZ0.out; omega)).trans HC0.out)
      clear hke hbw
      go_wp2_with fail
      refine HF.out.mono ?_
      rintro e w5 ⟨vn, ve, rfl, hn5, he5, hb5⟩
      have hk2 := HK.out
      subst hk2
      rw [List.take_length] at hn5 he5
      obtain ⟨rn, cn, rfl, _⟩ := id hn5
      obtain ⟨re, ce, rfl, _⟩ := id he5
      have HN5 := hid hn5
      have HE5 := hid he5
      have hlw : w.heap.size < wr.heap.size := by have := HZ0.out; have := HB.out.size; omega
      have D5 := hid ((hb5.block w.heap.size hlw).trans D1.out)
      have B5 := hid (HBw.out.trans (hb5.mono HBw.out.size))
      have hs5 := hb5.size
      clear hn5 he5 hb5
      generalize hNN : (ofG (madeN l) (madeE l)).1 = N at *
      have HNN := hid hNN
      clear hNN
      have HB6 := hid (show Below w5.heap.size w5 (w5.alloc (.cells #[.slice rn N.length cn, .slice re (ofG (madeN l) (madeE l)).2.1.length ce] 25)) from (Below.refl _ _).alloc (Nat.le_refl _) _)
      have D6 := hid ((HB6.out.block w.heap.size (by omega)).trans D5.out)
      have u0 := cellv D6.out 0 rfl
      have u1 := cellv D6.out 1 rfl
      have uf0 := frozen_of D6.out 0
      have uf1 := frozen_of D6.out 1
      go_wp2
      have hB := ((B5.out.trans (HB6.out.mono B5.out.size)).setCell (p := ⟨w.heap.size, 0, none⟩) (Nat.le_refl _) (.slice rn N.length cn)).setCell (p := ⟨w.heap.size, 1, none⟩) (Nat.le_refl _) (.slice re (ofG (madeN l) (madeE l)).2.1.length ce)
      have hw : ∀ k, k ≠ w.heap.size → ((((w5.alloc (.cells #[.slice rn N.length cn, .slice re (ofG (madeN l) (madeE l)).2.1.length ce] 25)).setCell ⟨w.heap.size, 0, none⟩ (.slice rn N.length cn)).setCell ⟨w.heap.size, 1, none⟩ (.slice re (ofG (madeN l) (madeE l)).2.1.length ce))).heap[k]? = (w5.alloc (.cells #[.slice rn N.length cn, .slice re (ofG (madeN l) (madeE l)).2.1.length ce] 25)).heap[k]? := fun k hk => (Below.heap_setCell _ _ _ _ hk).trans (Below.heap_setCell _ _ _ _ hk)
      exact bodyPost_ret (v := .agg #[.slice rn N.length cn, .slice re (ofG (madeN l) (madeE l)).2.1.length ce]) (by simp [results, Try.results32, go_sem, u0, u1]) rfl ⟨_, _, rfl, by rw [HNN.out]; exact slS_keep D6.out no_str hw (HN5.out.below strR_mono HB6.out), slE_keep D6.out no_str hw (HE5.out.below edR_mono HB6.out), hB⟩
end Go.Proofs.Ytlhekldlfmdmiaa
