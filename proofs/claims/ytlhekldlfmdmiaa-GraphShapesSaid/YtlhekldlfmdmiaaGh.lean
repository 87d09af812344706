import Derived.Test.YtlhekldlfmdmiaaGg
import Derived.Test.YtlhekldlfmdmiaaInq
import Derived.Lib.OwnBridge
import Derived.Sort.OwnSorted
/-
  The library's functions at own slices of strings; the program's only. Conditions: those ahead of each theorem.
-/
namespace Go.Proofs.Ytlhekldlfmdmiaa
open Go.RowKit Go.Sort Go.Lib Go.Maps
open Go.Lib (hid)
set_option linter.unusedVariables false
set_option linter.unusedSimpArgs false

abbrev BL := List UInt8
theorem compact_asc (d : Array BL) (hs : ∀ j, j + 1 < d.size → d[j]! ≤ d[j + 1]!) : ∀ m, m ≤ d.size →
    (Lib.compactUpTo d m).Pairwise (· < ·) ∧ (∀ x ∈ Lib.compactUpTo d m, 0 < m ∧ x ≤ d[m - 1]!) ∧ (∀ x, x ∈ Lib.compactUpTo d m ↔ ∃ j, j < m ∧ d[j]! = x) := by
  intro m
  induction m with
  | zero => intro _; refine ⟨by simp [Lib.compactUpTo], by simp [Lib.compactUpTo], by simp [Lib.compactUpTo]⟩
  | succ m ih =>
    intro hm
    obtain ⟨h1, h2, h3⟩ := ih (by omega)
    rw [Lib.compactUpTo_succ]
    by_cases h0 : m = 0
    · subst h0
      have : Lib.keeps d 0 = true := by simp [Lib.keeps]
      rw [this]
      refine ⟨by simp [Lib.compactUpTo], ?_, ?_⟩
      · intro x hx
        simp [Lib.compactUpTo] at hx
        subst hx
        exact ⟨by omega, List.le_refl _⟩
      · intro x
        simp only [Lib.compactUpTo, List.range_zero, List.filter_nil, List.map_nil, List.nil_append, if_true, List.mem_singleton]
        constructor
        · intro h; exact ⟨0, by omega, h.symm⟩
        · rintro ⟨j, hj, h⟩
          obtain rfl : j = 0 := by omega
          exact h.symm
    · have hle : d[m - 1]! ≤ d[m]! := by have := hs (m - 1) (by omega); rwa [show m - 1 + 1 = m from by omega] at this
      by_cases he : d[m]! = d[m - 1]!
      · rw [Lib.keeps_neg (by omega) he]
        simp only [Bool.false_eq_true, if_false, List.append_nil]
        refine ⟨h1, fun x hx => ⟨by omega, ?_⟩, fun x => ?_⟩
        · rw [show m + 1 - 1 = m from rfl, he]; exact (h2 x hx).2
        · rw [h3]
          constructor
          · rintro ⟨j, hj, h⟩; exact ⟨j, by omega, h⟩
          · rintro ⟨j, hj, h⟩
            by_cases hjm : j = m
            · subst hjm; exact ⟨j - 1, by omega, by rw [← he]; exact h⟩
            · exact ⟨j, by omega, h⟩
      · rw [Lib.keeps_pos he]
        simp only [if_true]
        have hlt : d[m - 1]! < d[m]! := Std.lt_of_le_of_ne hle (fun e => he e.symm)
        refine ⟨?_, ?_, ?_⟩
        · rw [List.pairwise_append]
          refine ⟨h1, by simp, ?_⟩
          intro a ha b hb
          simp at hb; subst hb
          exact List.lt_of_le_of_lt (h2 a ha).2 hlt
        · intro x hx
          rw [List.mem_append] at hx
          refine ⟨by omega, ?_⟩
          rw [show m + 1 - 1 = m from rfl]
          rcases hx with hx | hx
          · exact List.le_trans (h2 x hx).2 hle
          · simp at hx; subst hx; exact List.le_refl _
        · intro x
          rw [List.mem_append, h3]
          constructor
          · rintro (⟨j, hj, h⟩ | h)
            · exact ⟨j, by omega, h⟩
            · simp at h; exact ⟨m, by omega, h.symm⟩
          · rintro ⟨j, hj, h⟩
            by_cases hjm : j = m
            · subst hjm; right; simp [h]
            · left; exact ⟨j, by omega, h⟩


theorem bytes_str (l : List ByteArray) : l.flatMap encS = (l.map (·.data.toList)).map encStr := by rw [encS_flat, Lib.map_encStr]
def ofB (l : List BL) : List ByteArray := l.map fun s => ⟨s.toArray⟩
theorem ofB_bytes (l : List BL) : (ofB l).map (·.data.toList) = l := by unfold ofB; rw [List.map_map]; simp [Function.comp_def]
theorem ofB_of (l : List ByteArray) : ofB (l.map (·.data.toList)) = l := by
  unfold ofB; rw [List.map_map]
  conv => rhs; rw [← List.map_id l]
  apply List.map_congr_left
  intro x _
  obtain ⟨⟨x⟩⟩ := x
  rfl
theorem grownBy_grow {w w' : World} {row : Option Nat} (h : w.grownBy w' row) (os : Array Obj) : w.grownBy (grow w' os) row :=
  ⟨h.os, h.tape, h.output, by have := h.size; simp; omega, fun k hk hne => by rw [heap_grow_old _ _ (by have := h.size; omega)]; exact h.block k hk hne⟩
theorem grownBy_put {α : Type} [Inhabited α] {enc : α → Value} {w : World} {g n : Nat} (d : Array α) : w.grownBy (putRow enc (Sort.ahead w n) g 0 d) (some g) := by
  refine ⟨rfl, rfl, rfl, by simp [putRow, mapBlock, Sort.ahead], fun k hk hne => ?_⟩
  have : g ≠ k := fun e => hne (by rw [e])
  simp [putRow, mapBlock, Sort.ahead, Array.getElem?_modify, this]
theorem ownsRow_grow {w : World} {base : Nat} {e : TypeId} {size : Nat} {v : Value} {n : Nat} {xs : List Value} (h : w.ownsRow base e size v n xs) (os : Array Obj) : (grow w os).ownsRow base e size v n xs :=
  h.kept (row := none) ⟨rfl, rfl, rfl, by simp, fun k hk _ => heap_grow_old w os hk⟩ (by cases hv : v.ownBlock <;> simp)
theorem own_nil {B : Nat} {w : World} {xs : List ByteArray} (h : OwnS B w (.slice none 0 0) xs) : xs = [] := by
  rcases h.1.2 with ⟨_, h⟩ | ⟨g, cap, cur, h, _⟩
  · exact List.eq_nil_of_length_eq_zero h
  · cases h

theorem clone_s (ks : List ByteArray) (v : Value) (w : World) (h : Sl StrR 1 w v ks) (hn : ks.length ≤ 1000000) :
    Calls Try.prog 43 #[v] w fun e w' => ∃ v', e = .returned v' ∧ OwnS w.heap.size w' v' ks ∧ Below w.heap.size w w' := by
  obtain ⟨r, c, rfl, _⟩ := id h
  have hs := strs_le h
  cases r with
  | none =>
    have h0 : ks = [] := by
      cases ks with
      | nil => rfl
      | cons k ks => obtain ⟨_, _, hr, _⟩ := str_at h 0 (by simp); cases hr
    subst h0
    exact (Try.slices_Clone_string_nil 0 c w).mono fun e w' ⟨he, hw⟩ => ⟨_, he, ownS_nil _ _, by rw [hw]; exact Below.refl _ _⟩
  | some a =>
    by_cases h0 : ks = []
    · subst h0
      exact (Try.slices_Clone_string_zero a c w).mono fun e w' ⟨v', he, ho, _, hb⟩ => ⟨v', he, ⟨ho, by simp⟩, hb⟩
    · have hpos : 0 < ks.length := List.length_pos_iff.2 h0
      obtain ⟨b, off, hr, _⟩ := str_at h 0 hpos
      obtain rfl : a = ⟨b, off, none⟩ := by simpa using hr
      refine (Try.slices_Clone_string b off ks.length c ks w (Nat.le_refl _) (by omega) (fun j hj => ?_)).mono fun e w' ⟨v', he, ho, _, hb⟩ => ⟨v', he, ⟨?_, hs⟩, hb⟩
      · obtain ⟨b', off', hr', _, g0, _⟩ := str_at h j hj
        simp only [Option.some.injEq, Addr.mk.injEq, and_true] at hr'
        obtain ⟨rfl, rfl⟩ := hr'
        rw [g0, List.getD_eq_getElem?_getD, List.getElem?_eq_getElem hj]; rfl
      · have := ho
        rw [List.take_length] at this
        rw [encS_flat]
        exact this

theorem sort_str (B : Nat) (v : Value) (xs : List ByteArray) (w : World) (h : OwnS B w v xs) (hn : xs.length ≤ 1000000) :
    Calls Try.prog 52 #[v] w fun e w' => e = .returned (.tuple #[]) ∧ ∃ ys : List ByteArray, ys.Perm xs ∧ (ys.map (·.data.toList)).Pairwise (· ≤ ·) ∧ OwnS B w' v ys ∧ w.grownBy w' v.ownBlock := by
  by_cases hv : v = .slice none 0 0
  · subst hv
    obtain rfl := own_nil h
    exact (Try.slices_Sort_string_none none 0 w).mono fun e w' ⟨he, hw⟩ => ⟨he, [], List.Perm.refl _, List.Pairwise.nil, by rw [hw]; exact h, by rw [hw]; exact World.grownBy.refl _ _⟩
  · have ho := h.1
    rw [bytes_str] at ho
    obtain ⟨g, cap, rfl, hbg, hgl, hn', hcm, hl, hH⟩ := Lib.holds_of_ownsRow ho hv
    have h1 := Try.slices_Sort_string g 0 cap (xs.map (·.data.toList)) w hH hgl (by simp; omega)
    rw [hl] at h1
    refine h1.mono ?_
    rintro e w' ⟨he, q, os, hw⟩
    have hp : ((xs.map (·.data.toList)).mergeSort fun x y => decide (x ≤ y)).Pairwise (fun a b => a ≤ b) := by
      have := List.pairwise_mergeSort (le := fun x y : BL => decide (x ≤ y)) (fun a b c h1 h2 => by simp only [decide_eq_true_eq] at *; exact List.le_trans h1 h2) (fun a b => by simp only [Bool.or_eq_true, decide_eq_true_eq]; exact List.le_total a b) (xs.map (·.data.toList))
      exact this.imp (by intro a b h; simpa using h)
    have hpm : ((xs.map (·.data.toList)).mergeSort fun x y => decide (x ≤ y)).Perm (xs.map (·.data.toList)) := List.mergeSort_perm _ _
    generalize ((xs.map (·.data.toList)).mergeSort fun x y => decide (x ≤ y)) = ms at *
    have hml : ms.length = xs.length := by have := hpm.length_eq; simpa using this
    have hperm : (ofB ms).Perm xs := by have := hpm.map (fun s : BL => (⟨s.toArray⟩ : ByteArray)); rw [← ofB_of xs]; exact this
    refine ⟨he, ofB ms, hperm, by rw [ofB_bytes]; exact hp, ⟨?_, fun x hx => h.2 x (hperm.mem_iff.1 hx)⟩, ?_⟩
    · have := ownsRow_grow (Lib.ownsRow_putRow (q := q) (k := xs.length) ho hml (Nat.le_refl _)) os
      rw [← hml, List.take_length, hml] at this
      rw [hw, bytes_str, ofB_bytes, hperm.length_eq]
      exact this
    · rw [hw]; exact grownBy_grow (grownBy_put _) os
theorem compact_len (l : List BL) : (Lib.compact l).length ≤ l.length := by
  unfold Lib.compact Lib.compactUpTo
  rw [List.length_map]
  exact Nat.le_trans (List.length_filter_le _ _) (by simp)
theorem compact_can (ys : List ByteArray) (hs : (ys.map (·.data.toList)).Pairwise (· ≤ ·)) : ofB (Lib.compact (ys.map (·.data.toList))) = canB ys := by
  have key : ∀ s : List BL, s.Pairwise (· ≤ ·) → (Lib.compact s).Pairwise (· < ·) ∧ ∀ x, x ∈ Lib.compact s ↔ x ∈ s := by
    intro s hp
    have hs : ∀ j, j + 1 < s.toArray.size → s.toArray[j]! ≤ s.toArray[j + 1]! := by
      intro j hj
      simp only [List.size_toArray] at hj
      rw [getElem!_pos _ j (by simp; omega), getElem!_pos _ (j + 1) (by simpa using hj)]
      simp only [List.getElem_toArray]
      exact List.pairwise_iff_getElem.1 hp j (j + 1) (by omega) hj (by omega)
    obtain ⟨h1, _, h3⟩ := compact_asc s.toArray hs s.length (by simp)
    refine ⟨h1, fun x => ?_⟩
    unfold Lib.compact
    rw [h3]
    constructor
    · rintro ⟨j, hj, rfl⟩
      rw [getElem!_pos _ j (by simpa using hj)]
      simp
    · intro hx
      obtain ⟨j, hj, rfl⟩ := List.mem_iff_getElem.1 hx
      exact ⟨j, hj, by rw [getElem!_pos _ j (by simpa using hj)]; simp⟩
  obtain ⟨h1, h2⟩ := key _ hs
  refine ascB_eq ?_ (canB_asc ys) fun x => ?_
  · show (ofB _).Pairwise fun a b => ltB a b = true
    have h3 : ((ofB (Lib.compact (ys.map (·.data.toList)))).map (·.data.toList)).Pairwise (· < ·) := by rw [ofB_bytes]; exact h1
    rw [List.pairwise_map] at h3
    exact h3.imp fun h => ltB_iff.2 h
  · rw [mem_canB]
    have hm : ∀ l : List BL, x ∈ ofB l ↔ x.data.toList ∈ l := fun l => by
      unfold ofB
      rw [List.mem_map]
      constructor
      · rintro ⟨s, hs, rfl⟩; simpa using hs
      · intro h; exact ⟨_, h, by obtain ⟨⟨x⟩⟩ := x; rfl⟩
    rw [hm, h2, List.mem_map]
    constructor
    · rintro ⟨y, hy, e⟩; exact ba_ext e ▸ hy
    · intro h; exact ⟨x, h, rfl⟩
theorem compact_str (B : Nat) (v : Value) (ys : List ByteArray) (w : World) (h : OwnS B w v ys) (hs : (ys.map (·.data.toList)).Pairwise (· ≤ ·)) (hn : ys.length ≤ 1000000) :
    Calls Try.prog 53 #[v] w fun e w' => ∃ v', e = .returned v' ∧ OwnS B w' v' (canB ys) ∧ w.grownBy w' v.ownBlock ∧ v'.ownBlock = v.ownBlock := by
  by_cases hv : v = .slice none 0 0
  · subst hv
    obtain rfl := own_nil h
    exact (Try.slices_Compact_string_empty none 0 w).mono fun e w' ⟨he, hw⟩ => ⟨_, he, by rw [hw]; exact h, by rw [hw]; exact World.grownBy.refl _ _, rfl⟩
  · have ho := h.1
    rw [bytes_str] at ho
    obtain ⟨g, cap, rfl, hbg, hgl, hn', hcm, hl, hH⟩ := Lib.holds_of_ownsRow ho hv
    unfold maxLen at hcm
    have h1 := Try.slices_Compact_string g 0 cap (ys.map (·.data.toList)) w hH (by simp; omega) (by simpa using hn')
    rw [hl] at h1
    refine h1.mono ?_
    rintro e w' ⟨he, q, hw⟩
    have hcl := compact_len (ys.map (·.data.toList))
    rw [hl] at hcl
    have hcc := compact_can ys hs
    have hlen : (canB ys).length = (Lib.compact (ys.map (·.data.toList))).length := by rw [← hcc]; simp [ofB]
    refine ⟨_, he, ⟨?_, fun x hx => h.2 x (mem_canB.1 hx)⟩, by rw [hw]; exact grownBy_put _, rfl⟩
    have := Lib.ownsRow_putRow (q := q) (k := (Lib.compact (ys.map (·.data.toList))).length) (ys := Lib.compact (ys.map (·.data.toList)) ++ List.replicate (ys.length - (Lib.compact (ys.map (·.data.toList))).length) []) ho (by simp; omega) hcl
    rw [List.take_left] at this
    rw [hw, hlen, bytes_str, ← hcc, ofB_bytes]
    exact this
theorem del_str (B : Nat) (v : Value) (x : ByteArray) (xs : List ByteArray) (w : World) (h : OwnS B w v (x :: xs)) :
    Calls Try.prog 34 #[v, .int .i64 0, .int .i64 1] w fun e w' => ∃ v', e = .returned v' ∧ OwnS B w' v' xs ∧ w.grownBy w' v.ownBlock ∧ v'.ownBlock = v.ownBlock := by
  have hv : v ≠ .slice none 0 0 := by rintro rfl; have := own_nil h; cases this
  have ho := h.1
  rw [bytes_str] at ho
  obtain ⟨g, cap, rfl, hbg, hgl, hn', hcm, hl, hH⟩ := Lib.holds_of_ownsRow ho hv
  unfold maxLen at hcm
  have h1 := Try.slices_Delete_string g 0 cap 0 1 ((x :: xs).map (·.data.toList)) w hH (by simpa using hn') (by omega) (by omega) (by simp)
  rw [hl] at h1
  refine h1.mono ?_
  rintro e w' ⟨he, q, hw⟩
  have e1 : (x :: xs).length - (1 - 0) = xs.length := by simp
  rw [e1] at he
  refine ⟨_, he, ⟨?_, fun y hy => h.2 y (List.mem_cons_of_mem _ hy)⟩, by rw [hw]; exact grownBy_put _, rfl⟩
  have := Lib.ownsRow_putRow (q := q) (k := xs.length) (ys := ((x :: xs).map (·.data.toList)).take 0 ++ ((x :: xs).map (·.data.toList)).drop 1 ++ List.replicate (1 - 0) []) ho (by simp) (by simp)
  have e2 : (((x :: xs).map (·.data.toList)).take 0 ++ ((x :: xs).map (·.data.toList)).drop 1 ++ List.replicate (1 - 0) ([] : BL)).take xs.length = xs.map (·.data.toList) := by simp
  rw [e2] at this
  rw [hw, bytes_str]
  exact this
theorem bs_str (ks : List ByteArray) (v : Value) (x : ByteArray) (w : World) (h : Sl StrR 1 w v ks) (ha : AscB ks) (hn : ks.length ≤ 10000000000000) :
    Calls Try.prog 35 #[v, .string x] w fun e w' => ∃ bb, e = .returned (.tuple #[.int .i64 (lowL ltB x ks : Nat), .bool bb]) ∧ Below w.heap.size w w' := by
  obtain ⟨r, c, rfl, _⟩ := id h
  by_cases h0 : ks = []
  · subst h0
    exact (Any2.slices_BinarySearch_string_empty Try.laysB26 r c x w).mono fun e w' ⟨he, hw⟩ => ⟨false, he, by rw [hw]; exact Below.refl _ _⟩
  have hpos : 0 < ks.length := List.length_pos_iff.2 h0
  obtain ⟨b, off, hr, _⟩ := str_at h 0 hpos
  subst hr
  have hI : bsGo (fun t => Op.bytesLess ((fun j => if hj : j < ks.length then ks[j] else x) t).toList x.toList) ks.length 0 ks.length = lowL ltB x ks := by
    have hl := lowL_le (lt := ltB) x ks
    refine bsGo_spec _ _ (fun t ht => ?_) (fun t ht => ?_) _ _ _ (by omega) (by omega) hl
    · have : t < ks.length := by omega
      simp only [this, dif_pos]
      rw [less_bytes]; exact lowL_low x ks t this ht
    · by_cases hlt : t < ks.length
      · simp only [hlt, dif_pos]
        rw [less_bytes]
        have h1 := lowL_at (lt := ltB) x ks (by omega)
        by_cases e : lowL ltB x ks = t
        · subst e; exact h1
        · have h2 := asc_getElem ha (by omega) hlt (show lowL ltB x ks < t by omega)
          cases hh : ltB ks[t] x with
          | false => rfl
          | true => rw [stoB.tr _ _ _ h2 hh] at h1; cases h1
      · simp only [hlt, dif_neg, not_false_eq_true]
        rw [less_bytes]; exact stoB.irr x
  refine (Any2.slices_BinarySearch_string Try.laysB26 b off ks.length c (fun j => if hj : j < ks.length then ks[j] else x) x w (by omega) (fun j hj => ?_)).mono ?_
  · obtain ⟨b', off', hr', _, g0, _⟩ := str_at h j hj
    simp only [Option.some.injEq, Addr.mk.injEq, and_true] at hr'
    obtain ⟨rfl, rfl⟩ := hr'
    simp only [hj, dif_pos]
    exact g0
  · rintro e w' ⟨he, q, hw⟩
    rw [hI] at he
    exact ⟨_, he, by rw [hw]; exact ⟨rfl, rfl, rfl, Nat.le_refl _, fun _ _ => rfl⟩⟩
end Go.Proofs.Ytlhekldlfmdmiaa
