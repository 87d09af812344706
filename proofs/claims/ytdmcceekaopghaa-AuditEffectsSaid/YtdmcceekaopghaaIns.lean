/-
  Contract of the reference's insertText. Conditions: those ahead of each theorem.
-/
import Derived.Test.YtdmcceekaopghaaHas
import Derived.Deep.DeepCutAuto
namespace Go.Proofs.Ytdmcceekaopghaa
open Go.RowKit Go.Sort

def sc (s : ByteArray) : List Value := [.string s]
theorem sc_len (s : ByteArray) : (sc s).length = 1 := rfl
theorem sc_one (s : ByteArray) : ∀ u ∈ sc s, u.oneCell' = true := by intro u hu; simp [sc] at hu; subst hu; rfl
theorem sc_flat (l : List ByteArray) : l.flatMap sc = l.map Value.string := by
  induction l with
  | nil => rfl
  | cons x l ih => rw [List.flatMap_cons, ih]; rfl
theorem Sl.sc {w : World} {v : Value} {l : List ByteArray} (h : Sl StrR 1 w v l) : Sl (fun _ cs (x : ByteArray) => cs = sc x) 1 w v l := by
  obtain ⟨r, c, hv, hl, hm, he⟩ := h
  refine ⟨r, c, hv, hl, hm, fun i hi => ?_⟩
  obtain ⟨b, off, cs, h1, h2, h3, h4, _⟩ := he i hi
  refine ⟨b, off, cs, h1, h2, h3, ?_⟩
  match cs, h2 with
  | [c], _ => simp at h4; subst h4; rfl
theorem sl_takeS {R : World → List Value → ByteArray → Prop} {sz : Nat} {w : World} {r : Option Addr} {n cap : Nat} {xs : List ByteArray} (h : Sl R sz w (.slice r n cap) xs) (k : Nat) (hk : k ≤ xs.length) : Sl R sz w (.slice r k cap) (xs.take k) := by
  obtain ⟨r', cap', hv, hl, hc, he⟩ := h
  simp at hv
  obtain ⟨rfl, rfl, rfl⟩ := hv
  refine ⟨r, cap, by simp [Nat.min_eq_left hk], by simp; omega, hc, fun i hi => ?_⟩
  have hi2 : i < k := by simp at hi; omega
  obtain ⟨b, off, cs, h1, h2, h3, h4⟩ := he i (by omega)
  exact ⟨b, off, cs, h1, h2, h3, by simpa using h4⟩
theorem sl_empty {α : Type} {R : World → List Value → α → Prop} {sz : Nat} {w : World} (r : Option Addr) (c : Nat) (h : c ≤ maxLen) : Sl R sz w (.slice r 0 c) [] :=
  ⟨r, c, rfl, by simp, h, fun i hi => absurd hi (by simp)⟩
theorem sl_drop {α : Type} {R : World → List Value → α → Prop} {sz : Nat} {w : World} {b off n cap : Nat} {xs : List α} (h : Sl R sz w (.slice (some ⟨b, off, none⟩) n cap) xs) (k : Nat) (hk : k ≤ xs.length) : Sl R sz w (.slice (some ⟨b, off + k * sz, none⟩) (n - k) (cap - k)) (xs.drop k) := by
  obtain ⟨r', cap', hv, hl, hc, he⟩ := h
  simp at hv
  obtain ⟨rfl, rfl, rfl⟩ := hv
  refine ⟨some ⟨b, off + k * sz, none⟩, cap - k, by simp, by simp; omega, by omega, fun i hi => ?_⟩
  simp only [List.length_drop] at hi
  obtain ⟨b', off', cs, h1, h2, h3, h4⟩ := he (k + i) (by omega)
  simp at h1
  obtain ⟨rfl, rfl⟩ := h1
  refine ⟨b, off + k * sz, cs, rfl, h2, fun j u hj => ?_, by simpa using h4⟩
  have := h3 j u hj
  rw [Nat.add_mul] at this
  rw [show off + k * sz + i * sz + j = off + (k * sz + i * sz) + j by omega]
  exact this

def ltS (a b : ByteArray) : Prop := a.data.toList < b.data.toList
theorem less_iff {a b : ByteArray} : Op.bytesLess a.toList b.toList = true ↔ ltS a b := by
  unfold ltS
  rw [Go.Proofs.bytesLess_eq, decide_eq_true_eq, ByteArray.toList_eq, ByteArray.toList_eq]

theorem ins_asc {l : List ByteArray} {s : ByteArray} (ha : Asc l) (hs : s ∉ l) {k : Nat} (hk : k ≤ l.length) (h1 : ∀ j (h : j < l.length), j < k → ltS l[j] s) (h2 : ∀ h : k < l.length, ¬ ltS l[k] s) :
    Asc (l.take k ++ [s] ++ l.drop k) ∧ ∀ x, x ∈ l.take k ++ [s] ++ l.drop k ↔ x = s ∨ x ∈ l := by
  constructor
  · unfold Asc at *
    rw [List.map_append, List.map_append, List.pairwise_append, List.pairwise_append]
    have hp : (l.map (·.data.toList)).Pairwise (· < ·) := ha
    rw [← List.take_append_drop k l, List.map_append, List.pairwise_append] at hp
    obtain ⟨p1, p2, p3⟩ := hp
    have hlow : ∀ a ∈ (l.take k).map (·.data.toList), a < s.data.toList := by
      intro a hm
      obtain ⟨y, hy, rfl⟩ := List.mem_map.1 hm
      obtain ⟨j, hj, rfl⟩ := List.mem_iff_getElem.1 hy
      have hjk : j < k := by simp at hj; omega
      have := h1 j (by simp at hj; omega) hjk
      rw [List.getElem_take]
      exact this
    have hup : ∀ b ∈ (l.drop k).map (·.data.toList), s.data.toList < b := by
      intro b hm
      obtain ⟨y, hy, rfl⟩ := List.mem_map.1 hm
      obtain ⟨j, hj, rfl⟩ := List.mem_iff_getElem.1 hy
      have hjl : k + j < l.length := by simp at hj; omega
      have hkl : k < l.length := by omega
      have hle : s.data.toList ≤ (l[k]).data.toList := List.not_lt.1 (h2 hkl)
      have hne : s.data.toList ≠ (l[k]).data.toList := fun e => hs (by rw [bytes_inj e]; exact List.getElem_mem hkl)
      have hlt : s.data.toList < (l[k]).data.toList := Std.lt_of_le_of_ne hle hne
      rw [List.getElem_drop]
      by_cases h0 : j = 0
      · subst h0; exact hlt
      · have hpp : (l.map (·.data.toList)).Pairwise (· < ·) := ha
        have := List.pairwise_iff_getElem.1 hpp k (k + j) (by simpa using hkl) (by simpa using hjl) (by omega)
        simp at this
        exact List.lt_trans hlt this
    refine ⟨⟨p1, by simp, ?_⟩, p2, ?_⟩
    · intro a hm b hb
      simp at hb; subst hb
      exact hlow a hm
    · intro a hm b hb
      rw [List.mem_append] at hm
      rcases hm with hm | hm
      · exact p3 a hm b hb
      · simp at hm; subst hm; exact hup b hb
  · intro x
    rw [List.mem_append, List.mem_append]
    constructor
    · rintro ((h | h) | h)
      · exact .inr (List.mem_of_mem_take h)
      · simp at h; exact .inl h
      · exact .inr (List.mem_of_mem_drop h)
    · rintro (h | h)
      · exact .inl (.inr (by simp [h]))
      · rw [← List.take_append_drop k l, List.mem_append] at h
        rcases h with h | h
        · exact .inl (.inl h)
        · exact .inr h

def InsPost (v : Value) (l : List ByteArray) (s : ByteArray) (w : World) (e : Ending) (w' : World) : Prop :=
  ∃ v' ys, e = .returned v' ∧ Asc ys ∧ (∀ x, x ∈ ys ↔ x = s ∨ x ∈ l) ∧ ys.length ≤ l.length + 1 ∧ Below w.heap.size w w' ∧ ((v' = v ∧ ys = l) ∨ OwnS w.heap.size w' v' ys)

theorem ins_has (v : Value) (l : List ByteArray) (s : ByteArray) (w : World) (hS : OwnS 0 w v l) (ha : Asc l) (hh : hasS l s = true) :
    Calls Try.prog 50 #[v, .string s] w (InsPost v l s w) := by
  have HS := Lib.hid hS.sl
  obtain ⟨r, c, rfl, _⟩ := hS.sl
  have HX := Lib.hid (show InsPost (.slice r l.length c) l s w (.returned (.slice r l.length c)) w from
    ⟨_, l, rfl, ha, fun x => ⟨.inr, fun h => h.elim (fun e => e ▸ hasS_iff.1 hh) _root_.id⟩, by omega, Below.refl _ _, .inl ⟨rfl, rfl⟩⟩)
  clear hS ha
  go_enter Try.func50, Try.ntmps50
  go_wp2_with fail
  refine (hasT_any l s _ _ HS.out).mono ?_
  rintro r w' ⟨rfl, rfl⟩
  rw [hh]
  clear hh
  go_wp2
  go_ret
  exact HX.out

theorem ins_nil (s : ByteArray) (w : World) (hs : s.size ≤ maxLen) :
    Calls Try.prog 50 #[.slice none 0 0, .string s] w (InsPost (.slice none 0 0) [] s w) := by
  have hasn : hasS [] s = false := by rw [Bool.eq_false_iff]; intro h; have := hasS_iff.1 h; simp at this
  have HN := Lib.hid hasn
  have HSS := Lib.hid hs
  have O1 := Lib.hid (ownS_nil w.heap.size w)
  have hwb : Below w.heap.size w (w.alloc (.cells #[.string s] 9)) := (Below.refl _ _).alloc (Nat.le_refl _) _
  have z0 := Lib.hid (show w.ownsRow w.heap.size 9 1 (.slice none 0 0) ([] : List ByteArray).length (([] : List ByteArray).flatMap sc) from World.ownsRow_nil _ _ _ _)
  have T1 := Lib.hid (sl_empty (α := ByteArray) (R := fun _ cs x => cs = sc x) (sz := 1) (w := w) none 0 (by unfold maxLen; omega))
  have z1 := Lib.hid (show ([] : List ByteArray).length + 0 ≤ 1000000 by simp)
  clear hasn hs
  go_enter Try.func50, Try.ntmps50
  go_wp2_with fail
  refine (hasT_any [] s _ _ (sl_empty none 0 (by unfold maxLen; omega))).mono ?_
  rintro r' w' ⟨rfl, rfl⟩
  rw [HN.out]
  go_wp2_with fail
  go_loop [5] (fun i => i = .int .i64 0) (fun i => 1)
  case atStart => rfl
  case round =>
    subst hrel
    go_upto_region 8 with (at_builtin; go_loud (refine wpList_append_sl sc sc_len sc_one Try.underlying44 sinfo rfl (by omega) (by omega) rfl (.tmp 25) (.tmp 28) rfl w.heap.size (.slice none 0 0) [] rfl z0.out none 0 0 [] rfl (fun _ => rfl) T1.out z1.out (Nat.le_refl _) ?_); intro v1 w1 ho1 hg1)
    have hB1 : Below w.heap.size w w1 := (Below.refl _ _).grown hg1 (Nat.le_refl _) (fun q hq => by simp [Value.ownBlock] at hq)
    have o1 : OwnS w.heap.size w1 v1 [] := ⟨by have h := ho1; rw [List.nil_append, sc_flat] at h; exact h, by simp⟩
    have hwb : Below w1.heap.size w1 (w1.alloc (.cells #[.string s] 9)) := (Below.refl _ _).alloc (Nat.le_refl _) _
    have O2 := Lib.hid (o1.below hwb)
    have B2 := Lib.hid (hB1.trans (hwb.mono hB1.size))
    have d5 := Lib.hid (show (w1.alloc (.cells #[.string s] 9)).cell? ⟨w1.heap.size, 0, none⟩ = some (.string s) by simp)
    have y5 := Lib.hid (show w.heap.size ≤ (w1.alloc (.cells #[.string s] 9)).heap.size by have := hB1.size; simp; omega)
    have y7 := Lib.hid (show ([] : List ByteArray).length ≤ 1000000 by simp)
    clear hwb o1 hB1 ho1 hg1
    go_upto_region 9 with (at_builtin; go_loud (refine wpList_append_str (xs := []) rfl (.tmp 30) (.tmp 32) rfl w.heap.size v1 rfl O2.out ⟨w1.heap.size, 0, none⟩ s rfl d5.out HSS.out y7.out y5.out ?_); intro gm capm w4 ho4 hg4 hat4 hl4)
    have B4 := Lib.hid (below_app O2.out B2.out y5.out hg4)
    have O4 := Lib.hid (show w4.ownsRow w.heap.size 9 1 (.slice (some ⟨gm, 0, none⟩) 1 capm) ([s] : List ByteArray).length (([s] : List ByteArray).flatMap sc) by rw [sc_flat]; exact ho4.1)
    have z4 := Lib.hid (show ([s] : List ByteArray).length + 0 ≤ 1000000 by simp)
    have s4 := Lib.hid B4.out.size
    have T4 := Lib.hid (sl_empty (α := ByteArray) (R := fun _ cs x => cs = sc x) (sz := 1) (w := w4) none 0 (by unfold maxLen; omega))
    clear ho4 hg4 hat4 hl4 B2 O2 d5 y5 y7
    go_wp2_with (at_builtin; go_loud (refine wpList_append_sl sc sc_len sc_one Try.underlying44 sinfo rfl (by omega) (by omega) rfl (.tmp 34) (.tmp 37) rfl w.heap.size _ [s] rfl O4.out none 0 0 [] rfl (fun _ => rfl) T4.out z4.out s4.out ?_); intro v5 w5 ho5 hg5)
    go_ret
    refine ⟨v5, [s], rfl, by simp [Asc], by simp, by simp, B4.out.grown hg5 s4.out (fun q hq => (O4.out.lt q hq).1), .inr ⟨?_, ?_⟩⟩
    · have h := ho5; rw [sc_flat, List.append_nil] at h; exact h
    · intro x hx
      simp at hx; subst hx; exact HSS.out

set_option maxHeartbeats 1000000 in
theorem ins_some (g : Nat) (c : Nat) (l : List ByteArray) (s : ByteArray) (w : World) (hS : OwnS 0 w (.slice (some ⟨g, 0, none⟩) l.length c) l) (ha : Asc l) (hh : hasS l s = false) (hl : l.length ≤ 10000) (hs : s.size ≤ maxLen) :
    Calls Try.prog 50 #[.slice (some ⟨g, 0, none⟩) l.length c, .string s] w (InsPost (.slice (some ⟨g, 0, none⟩) l.length c) l s w) := by
  have HS := Lib.hid hS.sl
  obtain ⟨r, c', hv, hlc, hcm, _⟩ := hS.sl
  simp at hv
  obtain ⟨rfl, rfl⟩ := hv
  have hxs := Lib.hid hS.2
  have HA := Lib.hid ha
  have HH := Lib.hid (show s ∉ l from fun h => by rw [hasS_iff.2 h] at hh; cases hh)
  have HSS := Lib.hid hs
  obtain ⟨_, _, _, hE⟩ := str_cells HS.out rfl
  unfold maxLen at hcm
  clear hS ha hs
  go_enter Try.func50, Try.ntmps50
  go_wp2_with fail
  refine (hasT_any l s _ _ HS.out).mono ?_
  rintro r' w' ⟨rfl, rfl⟩
  rw [hh]
  clear hh
  go_wp2_with fail
  go_loop [5] (fun i => ∃ k : Nat, k ≤ l.length ∧ i = .int .i64 k ∧ ∀ j (h : j < l.length), j < k → ltS l[j] s) (fun i => l.length - (intOf i).toNat)
  case atStart => exact ⟨0, by omega, rfl, by omega⟩
  case round =>
    obtain ⟨k, hk, rfl, hall⟩ := hrel
    have HL := Lib.hid hall
    clear hall
    by_cases hlt : ∃ h : k < l.length, ltS l[k] s
    · obtain ⟨h1, h2⟩ := hlt
      have HN := Lib.hid (show ∀ j (h : j < l.length), j < k + 1 → ltS l[j] s from fun j hj hjk => by
        by_cases e : j < k
        · exact HL.out j hj e
        · obtain rfl : j = k := by omega
          exact h2)
      obtain ⟨b, off, hr, hb, gc, _⟩ := hE k h1
      simp at hr
      obtain ⟨rfl, rfl⟩ := hr
      simp only [Nat.zero_add] at gc
      have e1 := less_iff.2 h2
      clear hE h2
      generalize l[k] = y at *
      go_wp2
      go_round
      case rel => exact ⟨k + 1, by omega, by go_num, HN.out⟩
      case measure => simp [intOf]; omega
    · have H2 := Lib.hid (show ∀ h : k < l.length, ¬ ltS l[k] s from fun h h2 => hlt ⟨h, h2⟩)
      have HI := Lib.hid (ins_asc HA.out HH.out hk HL.out H2.out)
      have z0 := Lib.hid (show w.ownsRow w.heap.size 9 1 (.slice none 0 0) ([] : List ByteArray).length (([] : List ByteArray).flatMap sc) from World.ownsRow_nil _ _ _ _)
      have z1 := Lib.hid (show ([] : List ByteArray).length + k ≤ 1000000 by simp; omega)
      have T1 := Lib.hid (sl_takeS HS.out.sc k hk)
      clear hlt
      by_cases hkl : k < l.length
      · obtain ⟨b, off, hr, hb, gc, _⟩ := hE k hkl
        simp at hr
        obtain ⟨rfl, rfl⟩ := hr
        simp only [Nat.zero_add] at gc
        have e1 : Op.bytesLess (l[k]).toList s.toList = false := by
          rw [Bool.eq_false_iff]; intro h; exact H2.out hkl (less_iff.1 h)
        have d3 := sl_drop HS.out.sc k hk
        rw [Nat.mul_one, Nat.zero_add] at d3
        have D3 := Lib.hid d3
        clear d3
        clear hE
        generalize l[k] = y at *
        go_upto_region 8 with (at_builtin; (refine wpList_append_sl sc sc_len sc_one Try.underlying44 sinfo rfl (by omega) (by omega) rfl (.tmp 25) (.tmp 28) rfl w.heap.size (.slice none 0 0) [] rfl z0.out (some ⟨g, 0, none⟩) k c (l.take k) rfl (fun h => by cases h) T1.out z1.out (Nat.le_refl _) ?_); intro v1 w1 ho1 hg1)
        have hB1 : Below w.heap.size w w1 := (Below.refl _ _).grown hg1 (Nat.le_refl _) (fun k hk => by simp [Value.ownBlock] at hk)
        have O1 : OwnS w.heap.size w1 v1 (l.take k) := ⟨by have h := ho1; rw [List.nil_append, sc_flat] at h; exact h, fun x hx => hxs.out x (List.mem_of_mem_take hx)⟩
        have hwb : Below w1.heap.size w1 (w1.alloc (.cells #[.string s] 9)) := (Below.refl _ _).alloc (Nat.le_refl _) _
        have O2 := Lib.hid (O1.below hwb)
        have B2 := Lib.hid (hB1.trans (hwb.mono hB1.size))
        have d5 := Lib.hid (show (w1.alloc (.cells #[.string s] 9)).cell? ⟨w1.heap.size, 0, none⟩ = some (.string s) by simp)
        have y5 := Lib.hid (show w.heap.size ≤ (w1.alloc (.cells #[.string s] 9)).heap.size by have := hB1.size; simp; omega)
        have y7 := Lib.hid (show (l.take k).length ≤ 1000000 by simp; omega)
        clear hwb O1 hB1 ho1 hg1
        go_upto_region 9 with (at_builtin; (refine wpList_append_str (xs := l.take k) rfl (.tmp 30) (.tmp 32) rfl w.heap.size v1 rfl O2.out ⟨w1.heap.size, 0, none⟩ s rfl d5.out HSS.out y7.out y5.out ?_); intro gm capm w4 ho4 hg4 hat4 hl4)
        have B4 := Lib.hid (below_app O2.out B2.out y5.out hg4)
        have O4 := Lib.hid (show w4.ownsRow w.heap.size 9 1 (.slice (some ⟨gm, 0, none⟩) (k + 1) capm) (l.take k ++ [s]).length ((l.take k ++ [s]).flatMap sc) by
          rw [sc_flat]
          have h := ho4.1
          rw [show (l.take k).length + 1 = k + 1 by simp; omega] at h
          exact h)
        have X4 := Lib.hid ho4.2
        have D4 := Lib.hid (Sl.below (R := fun _ cs (x : ByteArray) => cs = sc x) (fun _ _ _ _ _ h => h) B4.out D3.out)
        have z4 := Lib.hid (show (l.take k ++ [s]).length + (l.length - k) ≤ 1000000 by simp; omega)
        have s4 := Lib.hid B4.out.size
        clear ho4 hg4 hat4 hl4 B2 O2 d5 y5 y7 D3 T1
        have hkc : k < c := by omega
        go_wp2_with (at_builtin; go_loud (refine wpList_append_sl sc sc_len sc_one Try.underlying44 sinfo rfl (by omega) (by omega) rfl (.tmp 34) (.tmp 37) rfl w.heap.size _ (l.take k ++ [s]) rfl O4.out (some ⟨g, k, none⟩) (l.length - k) (c - k) (l.drop k) rfl (fun h => by cases h) D4.out z4.out s4.out ?_); intro v5 w5 ho5 hg5)
        go_ret
        refine ⟨v5, l.take k ++ [s] ++ l.drop k, rfl, HI.out.1, HI.out.2, by simp; omega, B4.out.grown hg5 s4.out (fun q hq => (O4.out.lt q hq).1), .inr ⟨?_, ?_⟩⟩
        · have h := ho5; rw [sc_flat] at h; exact h
        · intro x hx
          rcases (HI.out.2 x).1 hx with h | h
          · subst h; exact HSS.out
          · exact hxs.out x h
      · obtain rfl : k = l.length := by omega
        clear hE hkl
        by_cases hcl : c = l.length
        · subst hcl
          go_upto_region 8 with (at_builtin; (refine wpList_append_sl sc sc_len sc_one Try.underlying44 sinfo rfl (by omega) (by omega) rfl (.tmp 25) (.tmp 28) rfl w.heap.size (.slice none 0 0) [] rfl z0.out (some ⟨g, 0, none⟩) l.length l.length (l.take l.length) rfl (fun h => by cases h) T1.out z1.out (Nat.le_refl _) ?_); intro v1 w1 ho1 hg1)
          have hB1 : Below w.heap.size w w1 := (Below.refl _ _).grown hg1 (Nat.le_refl _) (fun q hk => by simp [Value.ownBlock] at hk)
          have O1 : OwnS w.heap.size w1 v1 (l.take l.length) := ⟨by have h := ho1; rw [List.nil_append, sc_flat] at h; exact h, fun x hx => hxs.out x (List.mem_of_mem_take hx)⟩
          have hwb : Below w1.heap.size w1 (w1.alloc (.cells #[.string s] 9)) := (Below.refl _ _).alloc (Nat.le_refl _) _
          have O2 := Lib.hid (O1.below hwb)
          have B2 := Lib.hid (hB1.trans (hwb.mono hB1.size))
          have d5 := Lib.hid (show (w1.alloc (.cells #[.string s] 9)).cell? ⟨w1.heap.size, 0, none⟩ = some (.string s) by simp)
          have y5 := Lib.hid (show w.heap.size ≤ (w1.alloc (.cells #[.string s] 9)).heap.size by have := hB1.size; simp; omega)
          have y7 := Lib.hid (show (l.take l.length).length ≤ 1000000 by simp; omega)
          clear hwb O1 hB1 ho1 hg1
          go_upto_region 9 with (at_builtin; (refine wpList_append_str (xs := l.take l.length) rfl (.tmp 30) (.tmp 32) rfl w.heap.size v1 rfl O2.out ⟨w1.heap.size, 0, none⟩ s rfl d5.out HSS.out y7.out y5.out ?_); intro gm capm w4 ho4 hg4 hat4 hl4)
          have B4 := Lib.hid (below_app O2.out B2.out y5.out hg4)
          have O4 := Lib.hid (show w4.ownsRow w.heap.size 9 1 (.slice (some ⟨gm, 0, none⟩) (l.length + 1) capm) (l.take l.length ++ [s]).length ((l.take l.length ++ [s]).flatMap sc) by
            rw [sc_flat]
            have h := ho4.1
            rw [show (l.take l.length).length + 1 = l.length + 1 by simp] at h
            exact h)
          have X4 := Lib.hid ho4.2
          have z4 := Lib.hid (show (l.take l.length ++ [s]).length + 0 ≤ 1000000 by simp; omega)
          have s4 := Lib.hid B4.out.size
          clear ho4 hg4 hat4 hl4 B2 O2 d5 y5 y7 T1
          have hE4 := Lib.hid (fun (rr : Option Addr) (cc : Nat) (h : cc ≤ maxLen) => (sl_empty (α := ByteArray) (R := fun _ cs x => cs = sc x) (sz := 1) (w := w4) rr cc h))
          go_wp2_with (at_builtin; go_loud (refine wpList_append_sl sc sc_len sc_one Try.underlying44 sinfo rfl (by omega) (by omega) rfl (.tmp 34) (.tmp 37) rfl w.heap.size _ (l.take l.length ++ [s]) rfl O4.out _ 0 _ [] rfl (fun h => by cases h) (hE4.out _ _ ?_) z4.out s4.out ?_); (unfold maxLen; omega); intro v5 w5 ho5 hg5)
          go_ret
          have hI := HI.out
          rw [List.drop_length, List.append_nil] at hI
          refine ⟨v5, l.take l.length ++ [s], rfl, hI.1, hI.2, by simp, B4.out.grown hg5 s4.out (fun q hq => (O4.out.lt q hq).1), .inr ⟨?_, ?_⟩⟩
          · have h := ho5; rw [sc_flat, List.append_nil] at h; exact h
          · intro x hx
            rcases (hI.2 x).1 hx with h | h
            · subst h; exact HSS.out
            · exact hxs.out x h
        · have hcl2 : l.length < c := by omega
          clear hcl
          go_upto_region 8 with (at_builtin; (refine wpList_append_sl sc sc_len sc_one Try.underlying44 sinfo rfl (by omega) (by omega) rfl (.tmp 25) (.tmp 28) rfl w.heap.size (.slice none 0 0) [] rfl z0.out (some ⟨g, 0, none⟩) l.length c (l.take l.length) rfl (fun h => by cases h) T1.out z1.out (Nat.le_refl _) ?_); intro v1 w1 ho1 hg1)
          have hB1 : Below w.heap.size w w1 := (Below.refl _ _).grown hg1 (Nat.le_refl _) (fun q hk => by simp [Value.ownBlock] at hk)
          have O1 : OwnS w.heap.size w1 v1 (l.take l.length) := ⟨by have h := ho1; rw [List.nil_append, sc_flat] at h; exact h, fun x hx => hxs.out x (List.mem_of_mem_take hx)⟩
          have hwb : Below w1.heap.size w1 (w1.alloc (.cells #[.string s] 9)) := (Below.refl _ _).alloc (Nat.le_refl _) _
          have O2 := Lib.hid (O1.below hwb)
          have B2 := Lib.hid (hB1.trans (hwb.mono hB1.size))
          have d5 := Lib.hid (show (w1.alloc (.cells #[.string s] 9)).cell? ⟨w1.heap.size, 0, none⟩ = some (.string s) by simp)
          have y5 := Lib.hid (show w.heap.size ≤ (w1.alloc (.cells #[.string s] 9)).heap.size by have := hB1.size; simp; omega)
          have y7 := Lib.hid (show (l.take l.length).length ≤ 1000000 by simp; omega)
          clear hwb O1 hB1 ho1 hg1
          go_upto_region 9 with (at_builtin; (refine wpList_append_str (xs := l.take l.length) rfl (.tmp 30) (.tmp 32) rfl w.heap.size v1 rfl O2.out ⟨w1.heap.size, 0, none⟩ s rfl d5.out HSS.out y7.out y5.out ?_); intro gm capm w4 ho4 hg4 hat4 hl4)
          have B4 := Lib.hid (below_app O2.out B2.out y5.out hg4)
          have O4 := Lib.hid (show w4.ownsRow w.heap.size 9 1 (.slice (some ⟨gm, 0, none⟩) (l.length + 1) capm) (l.take l.length ++ [s]).length ((l.take l.length ++ [s]).flatMap sc) by
            rw [sc_flat]
            have h := ho4.1
            rw [show (l.take l.length).length + 1 = l.length + 1 by simp] at h
            exact h)
          have X4 := Lib.hid ho4.2
          have z4 := Lib.hid (show (l.take l.length ++ [s]).length + 0 ≤ 1000000 by simp; omega)
          have s4 := Lib.hid B4.out.size
          clear ho4 hg4 hat4 hl4 B2 O2 d5 y5 y7 T1
          have hE4 := Lib.hid (fun (rr : Option Addr) (cc : Nat) (h : cc ≤ maxLen) => (sl_empty (α := ByteArray) (R := fun _ cs x => cs = sc x) (sz := 1) (w := w4) rr cc h))
          go_wp2_with (at_builtin; go_loud (refine wpList_append_sl sc sc_len sc_one Try.underlying44 sinfo rfl (by omega) (by omega) rfl (.tmp 34) (.tmp 37) rfl w.heap.size _ (l.take l.length ++ [s]) rfl O4.out _ 0 _ [] rfl (fun h => by cases h) (hE4.out _ _ ?_) z4.out s4.out ?_); (unfold maxLen; omega); intro v5 w5 ho5 hg5)
          go_ret
          have hI := HI.out
          rw [List.drop_length, List.append_nil] at hI
          refine ⟨v5, l.take l.length ++ [s], rfl, hI.1, hI.2, by simp, B4.out.grown hg5 s4.out (fun q hq => (O4.out.lt q hq).1), .inr ⟨?_, ?_⟩⟩
          · have h := ho5; rw [sc_flat, List.append_nil] at h; exact h
          · intro x hx
            rcases (hI.2 x).1 hx with h | h
            · subst h; exact HSS.out
            · exact hxs.out x h

theorem ins_any (v : Value) (l : List ByteArray) (s : ByteArray) (w : World) (B : Nat) (hS : OwnS B w v l) (ha : Asc l) (hl : l.length ≤ 10000) (hs : s.size ≤ maxLen) :
    Calls Try.prog 50 #[v, .string s] w (InsPost v l s w) := by
  have h0 : OwnS 0 w v l := ⟨⟨hS.1.1, by
    rcases hS.1.2 with h | ⟨g, cap, cur, e1, e2, e3⟩
    · exact .inl h
    · exact .inr ⟨g, cap, cur, e1, by omega, e3⟩⟩, hS.2⟩
  cases hh : hasS l s
  · rcases h0.1.2 with ⟨rfl, h⟩ | ⟨g, cap, cur, rfl, _⟩
    · have : l = [] := List.eq_nil_of_length_eq_zero h
      subst this
      exact ins_nil s w hs
    · exact ins_some g cap l s w h0 ha hh hl hs
  · exact ins_has v l s w h0 ha hh
end Go.Proofs.Ytdmcceekaopghaa
