import Derived.Test.YtlhekldlfmdmiaaNa
/-
  The reference's node: its walk. Conditions: those ahead of each theorem.
-/
namespace Go.Proofs.Ytlhekldlfmdmiaa
open Go.RowKit Go.Sort Go.Lib Go.Maps
open Go.Lib (hid)
set_option linter.unusedVariables false
set_option linter.unusedSimpArgs false

/-- A value is the old one or lies on new blocks. -/
def FrV (w : World) (v v' : Value) : Prop := ∀ g, v'.ownBlock = some g → v.ownBlock = some g ∨ w.heap.size ≤ g
def NodP (v : Value) (l : List ByteArray) (s : ByteArray) (w : World) (e : Ending) (w' : World) : Prop := ∃ v', e = .returned v' ∧ NS w' v' (insB s l) ∧ Below w.heap.size w w' ∧ FrV w v v'
theorem insB_put {l : List ByteArray} {s : ByteArray} (h : hasS s l = false) {k : Nat} (hk : k ≤ l.length) (h1 : ∀ j (hj : j < l.length), j < k → ltB l[j] s = true) (h2 : ∀ h : k < l.length, ltB l[k] s = false) : insB s l = l.take k ++ [s] ++ l.drop k := by
  unfold insB
  rw [if_neg (by rw [h]; simp)]
  unfold putL
  rw [lowL_eq s l k hk h1 h2]
  simp
theorem node_has (v : Value) (l : List ByteArray) (s : ByteArray) (w : World) (hS : NS w v l) (hh : hasS s l = true) :
    Calls Try.prog 51 #[v, .string s] w (NodP v l s w) := by
  have HS := hid hS.1
  have HX := hid (show NodP v l s w (.returned v) w from ⟨_, rfl, by unfold insB; rw [if_pos hh]; exact hS, Below.refl _ _, fun g hg => Or.inl hg⟩)
  obtain ⟨r, c, rfl, _⟩ := hS.1
  clear hS
  go_enter Try.func51, Try.ntmps51
  go_wp2_with fail
  refine (has_any l s _ _ HS.out).mono ?_
  rintro r' w' ⟨rfl, rfl⟩
  rw [hh]
  clear hh
  go_wp2
  go_ret
  exact HX.out
set_option maxHeartbeats 1000000 in
theorem node_nil (s : ByteArray) (w : World) (hs : s.size ≤ maxLen) :
    Calls Try.prog 51 #[.slice none 0 0, .string s] w (NodP (.slice none 0 0) [] s w) := by
  have HSS := hid hs
  have z0 := hid (show w.ownsRow w.heap.size 9 1 (.slice none 0 0) ([] : List ByteArray).length (([] : List ByteArray).flatMap encS) from World.ownsRow_nil _ _ _ _)
  have T1 := hid (sl_empty (α := ByteArray) (R := fun _ cs x => cs = encS x) (sz := 1) (w := w) none 0 (by unfold maxLen; omega))
  have z1 := hid (show ([] : List ByteArray).length + 0 ≤ 1000000 by simp)
  clear hs
  go_enter Try.func51, Try.ntmps51
  go_wp2_with fail
  refine (has_any [] s _ _ (sl_empty none 0 (by unfold maxLen; omega))).mono ?_
  rintro r' w' ⟨rfl, rfl⟩
  rw [show hasS s [] = false from rfl]
  go_wp2_with fail
  go_loop [6] (fun i => i = .int .i64 0) (fun i => 1)
  case atStart => rfl
  case round =>
    subst hrel
    go_upto_region 8 with (at_builtin; go_loud (refine wpList_append_sl encS encS_len encS_one Try.underlying22 strinfo rfl (by omega) (by omega) rfl (.tmp 25) (.tmp 28) rfl w.heap.size (.slice none 0 0) [] rfl z0.out none 0 0 [] rfl (fun _ => rfl) T1.out z1.out (Nat.le_refl _) ?_); intro v1 w1 ho1 hg1)
    have o1 : OwnS w.heap.size w1 v1 [] := ⟨by simpa using ho1, by simp⟩
    have hB1 : Below w.heap.size w w1 := below_app z0.out (Below.refl _ _) (Nat.le_refl _) hg1
    have hwb : Below w1.heap.size w1 (w1.alloc (.cells #[.string s] 9)) := (Below.refl _ _).alloc (Nat.le_refl _) _
    have O2 := hid (o1.below hwb)
    have B2 := hid (hB1.trans (hwb.mono hB1.size))
    have d5 := hid (show (w1.alloc (.cells #[.string s] 9)).heap[w1.heap.size]? = some (.cells #[.string s] 9 (0, 0)) from (MapKept.heap_alloc w1 _).1)
    have y5 := hid (show w.heap.size ≤ (w1.alloc (.cells #[.string s] 9)).heap.size by have := hB1.size; simp; omega)
    clear hwb o1 hB1 ho1 hg1
    go_upto_region 9 with (at_builtin; go_loud (refine app_str rfl (.tmp 30) (.tmp 32) rfl w.heap.size v1 [] rfl O2.out w1.heap.size 1 s rfl d5.out HSS.out (by simp) y5.out _ rfl ?_); intro gm capm w4 hm4)
    obtain ⟨o4, g4, _, _⟩ := hm4
    have B4 := hid (below_app O2.out.1 B2.out y5.out g4)
    have O4 := hid o4
    have z4 := hid (show ([s] : List ByteArray).length + 0 ≤ 1000000 by simp)
    have s4 := hid B4.out.size
    have T4 := hid (sl_empty (α := ByteArray) (R := fun _ cs x => cs = encS x) (sz := 1) (w := w4) none 0 (by unfold maxLen; omega))
    clear o4 g4 B2 O2 d5 y5
    go_wp2_with (at_builtin; go_loud (refine wpList_append_sl encS encS_len encS_one Try.underlying22 strinfo rfl (by omega) (by omega) rfl (.tmp 34) (.tmp 37) rfl w.heap.size _ [s] rfl O4.out.1 none 0 0 [] rfl (fun _ => rfl) T4.out z4.out s4.out ?_); intro v5 w5 ho5 hg5)
    go_ret
    refine ⟨v5, rfl, OwnS.ns (B := w.heap.size) ⟨?_, ?_⟩, below_app O4.out.1 B4.out s4.out hg5, fun g hg => Or.inr (ho5.lt g hg).1⟩
    · have h := ho5; rw [List.append_nil] at h; exact h
    · intro x hx
      have : x = s := by simpa [insB, putL, lowL, hasS] using hx
      subst this; exact HSS.out
set_option maxHeartbeats 2000000 in
theorem node_some (b off c : Nat) (l : List ByteArray) (s : ByteArray) (w : World) (hS : Sl StrR 1 w (.slice (some ⟨b, off, none⟩) l.length c) l) (hh : hasS s l = false) (hl : l.length ≤ 100000) (hs : s.size ≤ maxLen) :
    Calls Try.prog 51 #[.slice (some ⟨b, off, none⟩) l.length c, .string s] w (NodP (.slice (some ⟨b, off, none⟩) l.length c) l s w) := by
  obtain ⟨_, hlc, hcm⟩ := sl_len hS
  have HS := hid hS
  have HXS := hid (strs_le hS)
  have HSS := hid hs
  have HE := hid (str_at hS)
  have HP := hid (fun k hk h1 h2 => insB_put (k := k) hh hk h1 h2)
  have HMS := hid (fun x => mem_insB (x := s) (z := x) (l := l))
  have z0 := hid (show w.ownsRow w.heap.size 9 1 (.slice none 0 0) ([] : List ByteArray).length (([] : List ByteArray).flatMap encS) from World.ownsRow_nil _ _ _ _)
  clear hS hs
  go_enter Try.func51, Try.ntmps51
  go_wp2_with fail
  refine (has_any l s _ _ HS.out).mono ?_
  rintro r' w' ⟨rfl, rfl⟩
  rw [hh]
  clear hh
  go_wp2_with fail
  go_loop [6] (fun i => ∃ k : Nat, k ≤ l.length ∧ i = .int .i64 k ∧ ∀ j (h : j < l.length), j < k → ltB l[j] s = true) (fun i => l.length - (RowKit.intOf i).toNat)
  case atStart => exact ⟨0, by omega, rfl, by omega⟩
  case round =>
    obtain ⟨k, hk, rfl, hall⟩ := hrel
    have HL := hid hall
    clear hall
    have T1 := hid (sl_take (sl_encS HS.out) k hk)
    have z1 := hid (show ([] : List ByteArray).length + k ≤ 1000000 by simp; omega)
    by_cases hlt : k < l.length
    · obtain ⟨b', off', hv, hb, g0, _⟩ := HE.out k hlt
      simp at hv
      obtain ⟨rfl, rfl⟩ := hv
      cases h2 : ltB l[k] s with
      | true =>
        have HN := hid (show ∀ j (h : j < l.length), j < k + 1 → ltB l[j] s = true from fun j hj hjk => by
          by_cases e : j < k
          · exact HL.out j hj e
          · obtain rfl : j = k := by omega
            exact h2)
        have e1 := (less_bytes l[k] s).trans h2
        clear h2
        generalize l[k] = y at *
        go_wp2
        go_round
        case rel => exact ⟨k + 1, by omega, by go_num, HN.out⟩
        case measure => simp [RowKit.intOf]; omega
      | false =>
        have HI := hid (HP.out k hk HL.out (fun _ => h2))
        have e1 := (less_bytes l[k] s).trans h2
        have d3 := sl_drop (sl_encS HS.out) k hk
        rw [Nat.mul_one] at d3
        have D3 := hid d3
        clear d3 h2 hb
        generalize l[k] = y at *
        have hkc : k < c := by omega
        go_upto_region 8 with (at_builtin; (refine wpList_append_sl encS encS_len encS_one Try.underlying22 strinfo rfl (by omega) (by omega) rfl (.tmp 25) (.tmp 28) rfl w.heap.size (.slice none 0 0) [] rfl z0.out (some ⟨b, off, none⟩) k c (l.take k) rfl (fun h => by cases h) T1.out z1.out (Nat.le_refl _) ?_); intro v1 w1 ho1 hg1)
        have hB1 : Below w.heap.size w w1 := below_app z0.out (Below.refl _ _) (Nat.le_refl _) hg1
        have O1 : OwnS w.heap.size w1 v1 (l.take k) := ⟨by simpa using ho1, fun x hx => HXS.out x (List.mem_of_mem_take hx)⟩
        have hwb : Below w1.heap.size w1 (w1.alloc (.cells #[.string s] 9)) := (Below.refl _ _).alloc (Nat.le_refl _) _
        have O2 := hid (O1.below hwb)
        have B2 := hid (hB1.trans (hwb.mono hB1.size))
        have d5 := hid (show (w1.alloc (.cells #[.string s] 9)).heap[w1.heap.size]? = some (.cells #[.string s] 9 (0, 0)) from (MapKept.heap_alloc w1 _).1)
        have y5 := hid (show w.heap.size ≤ (w1.alloc (.cells #[.string s] 9)).heap.size by have := hB1.size; simp; omega)
        have y7 := hid (show (l.take k).length + 1 ≤ 1000000 by simp; omega)
        have y8 := hid (show (l.take k).length = k by simp; omega)
        clear hwb O1 hB1 ho1 hg1
        go_upto_region 9 with (at_builtin; (refine app_str rfl (.tmp 30) (.tmp 32) rfl w.heap.size v1 (l.take k) rfl O2.out w1.heap.size 1 s rfl d5.out HSS.out y7.out y5.out _ rfl ?_); rw [y8.out]; intro gm capm w4 hm4)
        obtain ⟨o4, g4, _, _⟩ := hm4
        have B4 := hid (below_app O2.out.1 B2.out y5.out g4)
        have O4 := hid (show OwnS w.heap.size w4 (.slice (some ⟨gm, 0, none⟩) (k + 1) capm) (l.take k ++ [s]) from by have h := o4; rw [List.length_append, y8.out] at h; exact h)
        have D4 := hid (Sl.below (R := fun _ cs (x : ByteArray) => cs = encS x) (fun _ _ _ _ _ h => h) B4.out D3.out)
        have z4 := hid (show (l.take k ++ [s]).length + (l.length - k) ≤ 1000000 by simp; omega)
        have s4 := hid B4.out.size
        clear o4 g4 B2 O2 d5 y5 y7
        go_wp2_with (at_builtin; go_loud (refine wpList_append_sl encS encS_len encS_one Try.underlying22 strinfo rfl (by omega) (by omega) rfl (.tmp 34) (.tmp 37) rfl w.heap.size _ (l.take k ++ [s]) rfl O4.out.1 (some ⟨b, off + k, none⟩) (l.length - k) (c - k) (l.drop k) rfl (fun h => by cases h) D4.out z4.out s4.out ?_); intro v5 w5 ho5 hg5)
        go_ret
        have hI := HI.out
        refine ⟨v5, rfl, OwnS.ns (B := w.heap.size) ⟨by rw [hI]; exact ho5, ?_⟩, below_app O4.out.1 B4.out s4.out hg5, fun g hg => Or.inr (ho5.lt g hg).1⟩
        intro x hx
        rcases (HMS.out x).1 hx with h | h
        · subst h; exact HSS.out
        · exact HXS.out x h
    · obtain rfl : k = l.length := by omega
      have HI := hid (HP.out l.length hk HL.out (fun h => absurd h (by omega)))
      by_cases hcl : c = l.length
      · subst hcl
        go_upto_region 8 with (at_builtin; (refine wpList_append_sl encS encS_len encS_one Try.underlying22 strinfo rfl (by omega) (by omega) rfl (.tmp 25) (.tmp 28) rfl w.heap.size (.slice none 0 0) [] rfl z0.out (some ⟨b, off, none⟩) l.length l.length (l.take l.length) rfl (fun h => by cases h) T1.out z1.out (Nat.le_refl _) ?_); intro v1 w1 ho1 hg1)
        have hB1 : Below w.heap.size w w1 := below_app z0.out (Below.refl _ _) (Nat.le_refl _) hg1
        have O1 : OwnS w.heap.size w1 v1 (l.take l.length) := ⟨by simpa using ho1, fun x hx => HXS.out x (List.mem_of_mem_take hx)⟩
        have hwb : Below w1.heap.size w1 (w1.alloc (.cells #[.string s] 9)) := (Below.refl _ _).alloc (Nat.le_refl _) _
        have O2 := hid (O1.below hwb)
        have B2 := hid (hB1.trans (hwb.mono hB1.size))
        have d5 := hid (show (w1.alloc (.cells #[.string s] 9)).heap[w1.heap.size]? = some (.cells #[.string s] 9 (0, 0)) from (MapKept.heap_alloc w1 _).1)
        have y5 := hid (show w.heap.size ≤ (w1.alloc (.cells #[.string s] 9)).heap.size by have := hB1.size; simp; omega)
        have y7 := hid (show (l.take l.length).length + 1 ≤ 1000000 by simp; omega)
        have y8 := hid (show (l.take l.length).length = l.length by simp)
        clear hwb O1 hB1 ho1 hg1
        go_upto_region 9 with (at_builtin; (refine app_str rfl (.tmp 30) (.tmp 32) rfl w.heap.size v1 (l.take l.length) rfl O2.out w1.heap.size 1 s rfl d5.out HSS.out y7.out y5.out _ rfl ?_); rw [y8.out]; intro gm capm w4 hm4)
        obtain ⟨o4, g4, _, _⟩ := hm4
        have B4 := hid (below_app O2.out.1 B2.out y5.out g4)
        have O4 := hid (show OwnS w.heap.size w4 (.slice (some ⟨gm, 0, none⟩) (l.length + 1) capm) (l.take l.length ++ [s]) from by have h := o4; rw [List.length_append, y8.out] at h; exact h)
        have z4 := hid (show (l.take l.length ++ [s]).length + 0 ≤ 1000000 by simp; omega)
        have hE4 := hid (fun (rr : Option Addr) (cc : Nat) (h : cc ≤ maxLen) => (sl_empty (α := ByteArray) (R := fun _ cs x => cs = encS x) (sz := 1) (w := w4) rr cc h))
        have s4 := hid B4.out.size
        clear o4 g4 B2 O2 d5 y5 y7
        go_wp2_with (at_builtin; go_loud (refine wpList_append_sl encS encS_len encS_one Try.underlying22 strinfo rfl (by omega) (by omega) rfl (.tmp 34) (.tmp 37) rfl w.heap.size _ (l.take l.length ++ [s]) rfl O4.out.1 _ 0 _ [] rfl (fun h => by cases h) (hE4.out _ _ ?_) z4.out s4.out ?_); (unfold maxLen; omega); intro v5 w5 ho5 hg5)
        go_ret
        have hI := HI.out
        rw [List.drop_length] at hI
        refine ⟨v5, rfl, OwnS.ns (B := w.heap.size) ⟨by rw [hI]; exact ho5, ?_⟩, below_app O4.out.1 B4.out s4.out hg5, fun g hg => Or.inr (ho5.lt g hg).1⟩
        intro x hx
        rcases (HMS.out x).1 hx with h | h
        · subst h; exact HSS.out
        · exact HXS.out x h
      · have hcl2 : l.length < c := by omega
        clear hcl
        go_upto_region 8 with (at_builtin; (refine wpList_append_sl encS encS_len encS_one Try.underlying22 strinfo rfl (by omega) (by omega) rfl (.tmp 25) (.tmp 28) rfl w.heap.size (.slice none 0 0) [] rfl z0.out (some ⟨b, off, none⟩) l.length c (l.take l.length) rfl (fun h => by cases h) T1.out z1.out (Nat.le_refl _) ?_); intro v1 w1 ho1 hg1)
        have hB1 : Below w.heap.size w w1 := below_app z0.out (Below.refl _ _) (Nat.le_refl _) hg1
        have O1 : OwnS w.heap.size w1 v1 (l.take l.length) := ⟨by simpa using ho1, fun x hx => HXS.out x (List.mem_of_mem_take hx)⟩
        have hwb : Below w1.heap.size w1 (w1.alloc (.cells #[.string s] 9)) := (Below.refl _ _).alloc (Nat.le_refl _) _
        have O2 := hid (O1.below hwb)
        have B2 := hid (hB1.trans (hwb.mono hB1.size))
        have d5 := hid (show (w1.alloc (.cells #[.string s] 9)).heap[w1.heap.size]? = some (.cells #[.string s] 9 (0, 0)) from (MapKept.heap_alloc w1 _).1)
        have y5 := hid (show w.heap.size ≤ (w1.alloc (.cells #[.string s] 9)).heap.size by have := hB1.size; simp; omega)
        have y7 := hid (show (l.take l.length).length + 1 ≤ 1000000 by simp; omega)
        have y8 := hid (show (l.take l.length).length = l.length by simp)
        clear hwb O1 hB1 ho1 hg1
        go_upto_region 9 with (at_builtin; (refine app_str rfl (.tmp 30) (.tmp 32) rfl w.heap.size v1 (l.take l.length) rfl O2.out w1.heap.size 1 s rfl d5.out HSS.out y7.out y5.out _ rfl ?_); rw [y8.out]; intro gm capm w4 hm4)
        obtain ⟨o4, g4, _, _⟩ := hm4
        have B4 := hid (below_app O2.out.1 B2.out y5.out g4)
        have O4 := hid (show OwnS w.heap.size w4 (.slice (some ⟨gm, 0, none⟩) (l.length + 1) capm) (l.take l.length ++ [s]) from by have h := o4; rw [List.length_append, y8.out] at h; exact h)
        have z4 := hid (show (l.take l.length ++ [s]).length + 0 ≤ 1000000 by simp; omega)
        have hE4 := hid (fun (rr : Option Addr) (cc : Nat) (h : cc ≤ maxLen) => (sl_empty (α := ByteArray) (R := fun _ cs x => cs = encS x) (sz := 1) (w := w4) rr cc h))
        have s4 := hid B4.out.size
        clear o4 g4 B2 O2 d5 y5 y7
        go_wp2_with (at_builtin; go_loud (refine wpList_append_sl encS encS_len encS_one Try.underlying22 strinfo rfl (by omega) (by omega) rfl (.tmp 34) (.tmp 37) rfl w.heap.size _ (l.take l.length ++ [s]) rfl O4.out.1 _ 0 _ [] rfl (fun h => by cases h) (hE4.out _ _ ?_) z4.out s4.out ?_); (unfold maxLen; omega); intro v5 w5 ho5 hg5)
        go_ret
        have hI := HI.out
        rw [List.drop_length] at hI
        refine ⟨v5, rfl, OwnS.ns (B := w.heap.size) ⟨by rw [hI]; exact ho5, ?_⟩, below_app O4.out.1 B4.out s4.out hg5, fun g hg => Or.inr (ho5.lt g hg).1⟩
        intro x hx
        rcases (HMS.out x).1 hx with h | h
        · subst h; exact HSS.out
        · exact HXS.out x h
theorem node_any (v : Value) (l : List ByteArray) (s : ByteArray) (w : World) (hS : NS w v l) (hl : l.length ≤ 100000) (hs : s.size ≤ maxLen) :
    Calls Try.prog 51 #[v, .string s] w (NodP v l s w) := by
  cases hh : hasS s l with
  | true => exact node_has v l s w hS hh
  | false =>
    obtain ⟨h1, h2⟩ := hS
    rcases h2 with rfl | ⟨b, off, c, rfl⟩
    · have hln := (sl_len h1).1
      obtain rfl : l = [] := List.eq_nil_of_length_eq_zero hln.symm
      exact node_nil s w hs
    · exact node_some b off c l s w h1 hh hl hs
end Go.Proofs.Ytlhekldlfmdmiaa
