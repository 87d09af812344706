/-
  Contract of audit.sorted: an own slice of strings is sorted and made free of repetitions in place. Conditions: those ahead of each theorem.
-/
import Derived.Test.YtdmcceekaopghaaMem
import Derived.Test.YtdmcceekaopghaaShelf
import Derived.Lib.OwnBridge
import Derived.Sort.OwnSorted
namespace Go.Proofs.Ytdmcceekaopghaa
open Go.RowKit Go.Sort

/-! Plain lists of strings -/
abbrev BL := List UInt8
theorem compact_asc (d : Array BL) (hs : ∀ j, j + 1 < d.size → d[j]! ≤ d[j + 1]!) : ∀ m, m ≤ d.size →
    (Lib.compactUpTo d m).Pairwise (· < ·) ∧ (∀ x ∈ Lib.compactUpTo d m, 0 < m ∧ x ≤ d[m - 1]!) ∧ (∀ x, x ∈ Lib.compactUpTo d m ↔ ∃ j, j < m ∧ d[j]! = x) := by
  intro m
  induction m with
  | zero => intro _; refine ⟨by simp [Lib.compactUpTo], by simp [Lib.compactUpTo], by simp [Lib.compactUpTo]⟩
  | succ m ih =>
    intro hm
    obtain ⟨h1, h2, h3⟩ := ih (by omega)
    rw [Lib.compactUpTo_succ]
    by_cases h0 : m = 0
    · subst h0
      have : Lib.keeps d 0 = true := by simp [Lib.keeps]
      rw [this]
      refine ⟨by simp [Lib.compactUpTo], ?_, ?_⟩
      · intro x hx
        simp [Lib.compactUpTo] at hx
        subst hx
        exact ⟨by omega, List.le_refl _⟩
      · intro x
        simp only [Lib.compactUpTo, List.range_zero, List.filter_nil, List.map_nil, List.nil_append, if_true, List.mem_singleton]
        constructor
        · intro h; exact ⟨0, by omega, h.symm⟩
        · rintro ⟨j, hj, h⟩
          obtain rfl : j = 0 := by omega
          exact h.symm
    · have hle : d[m - 1]! ≤ d[m]! := by have := hs (m - 1) (by omega); rwa [show m - 1 + 1 = m from by omega] at this
      by_cases he : d[m]! = d[m - 1]!
      · rw [Lib.keeps_neg (by omega) he]
        simp only [Bool.false_eq_true, if_false, List.append_nil]
        refine ⟨h1, fun x hx => ⟨by omega, ?_⟩, fun x => ?_⟩
        · rw [show m + 1 - 1 = m from rfl, he]; exact (h2 x hx).2
        · rw [h3]
          constructor
          · rintro ⟨j, hj, h⟩; exact ⟨j, by omega, h⟩
          · rintro ⟨j, hj, h⟩
            by_cases hjm : j = m
            · subst hjm; exact ⟨j - 1, by omega, by rw [← he]; exact h⟩
            · exact ⟨j, by omega, h⟩
      · rw [Lib.keeps_pos he]
        simp only [if_true]
        have hlt : d[m - 1]! < d[m]! := Std.lt_of_le_of_ne hle (fun e => he e.symm)
        refine ⟨?_, ?_, ?_⟩
        · rw [List.pairwise_append]
          refine ⟨h1, by simp, ?_⟩
          intro a ha b hb
          simp at hb; subst hb
          exact List.lt_of_le_of_lt (h2 a ha).2 hlt
        · intro x hx
          rw [List.mem_append] at hx
          refine ⟨by omega, ?_⟩
          rw [show m + 1 - 1 = m from rfl]
          rcases hx with hx | hx
          · exact List.le_trans (h2 x hx).2 hle
          · simp at hx; subst hx; exact List.le_refl _
        · intro x
          rw [List.mem_append, h3]
          constructor
          · rintro (⟨j, hj, h⟩ | h)
            · exact ⟨j, by omega, h⟩
            · simp at h; exact ⟨m, by omega, h.symm⟩
          · rintro ⟨j, hj, h⟩
            by_cases hjm : j = m
            · subst hjm; right; simp [h]
            · left; exact ⟨j, by omega, h⟩

def canonL (l : List BL) : List BL := Lib.compact (l.mergeSort fun x y => decide (x ≤ y))
theorem canonL_asc (l : List BL) : (canonL l).Pairwise (· < ·) ∧ ∀ x, x ∈ canonL l ↔ x ∈ l := by
  have hp : (l.mergeSort fun x y => decide (x ≤ y)).Pairwise (fun a b => a ≤ b) := by
    have := List.pairwise_mergeSort (le := fun x y : BL => decide (x ≤ y)) (fun a b c h1 h2 => by simp only [decide_eq_true_eq] at *; exact List.le_trans h1 h2) (fun a b => by simp only [Bool.or_eq_true, decide_eq_true_eq]; exact List.le_total a b) l
    exact this.imp (by intro a b h; simpa using h)
  have hmem : ∀ x, x ∈ (l.mergeSort fun x y => decide (x ≤ y)) ↔ x ∈ l := fun x => List.mem_mergeSort
  unfold canonL
  generalize (l.mergeSort fun x y => decide (x ≤ y)) = s at *
  have hs : ∀ j, j + 1 < s.toArray.size → s.toArray[j]! ≤ s.toArray[j + 1]! := by
    intro j hj
    simp only [List.size_toArray] at hj
    rw [getElem!_pos _ j (by simp; omega), getElem!_pos _ (j + 1) (by simpa using hj)]
    simp only [List.getElem_toArray]
    exact List.pairwise_iff_getElem.1 hp j (j + 1) (by omega) hj (by omega)
  obtain ⟨h1, _, h3⟩ := compact_asc s.toArray hs s.length (by simp)
  refine ⟨h1, fun x => ?_⟩
  unfold Lib.compact
  rw [h3, ← hmem]
  constructor
  · rintro ⟨j, hj, rfl⟩
    rw [getElem!_pos _ j (by simpa using hj)]
    simp
  · intro hx
    obtain ⟨j, hj, rfl⟩ := List.mem_iff_getElem.1 hx
    exact ⟨j, hj, by rw [getElem!_pos _ j (by simpa using hj)]; simp⟩

/-- Two ascending lists with the same members are one. -/
theorem asc_unique : ∀ (a b : List BL), a.Pairwise (· < ·) → b.Pairwise (· < ·) → (∀ x, x ∈ a ↔ x ∈ b) → a = b := by
  intro a b ha hb h
  have na : a.Nodup := ha.imp (by intro x y hxy e; subst e; exact List.lt_irrefl _ hxy)
  have nb : b.Nodup := hb.imp (by intro x y hxy e; subst e; exact List.lt_irrefl _ hxy)
  exact List.Perm.eq_of_pairwise (le := fun x y => x < y) (fun x y _ _ h1 h2 => absurd h2 (List.lt_asymm h1)) ha hb ((List.perm_ext_iff_of_nodup na nb).2 h)

def canon (l : List ByteArray) : List ByteArray := (canonL (l.map (·.data.toList))).map fun s => ⟨s.toArray⟩
theorem canon_bytes (l : List ByteArray) : (canon l).map (·.data.toList) = canonL (l.map (·.data.toList)) := by
  unfold canon; rw [List.map_map]; simp [Function.comp_def]
def Asc (l : List ByteArray) : Prop := (l.map (·.data.toList)).Pairwise (· < ·)
theorem canon_asc (l : List ByteArray) : Asc (canon l) := by unfold Asc; rw [canon_bytes]; exact (canonL_asc _).1
theorem bytes_inj {a b : ByteArray} (h : a.data.toList = b.data.toList) : a = b := by
  obtain ⟨⟨a⟩⟩ := a; obtain ⟨⟨b⟩⟩ := b; simp at h; subst h; rfl
theorem mem_bytes {l : List ByteArray} {x : ByteArray} : x.data.toList ∈ l.map (·.data.toList) ↔ x ∈ l := by
  rw [List.mem_map]
  constructor
  · rintro ⟨y, hy, h⟩; rw [← bytes_inj h]; exact hy
  · intro h; exact ⟨x, h, rfl⟩
theorem mem_canon {l : List ByteArray} {x : ByteArray} : x ∈ canon l ↔ x ∈ l := by
  rw [← mem_bytes, canon_bytes, (canonL_asc _).2, mem_bytes]
theorem asc_eq {a b : List ByteArray} (ha : Asc a) (hb : Asc b) (h : ∀ x, x ∈ a ↔ x ∈ b) : a = b := by
  have := asc_unique _ _ ha hb (fun x => by
    constructor
    · intro hx; obtain ⟨y, hy, rfl⟩ := List.mem_map.1 hx; exact mem_bytes.2 ((h y).1 hy)
    · intro hx; obtain ⟨y, hy, rfl⟩ := List.mem_map.1 hx; exact mem_bytes.2 ((h y).2 hy))
  have h2 := congrArg (List.map fun s : BL => (⟨s.toArray⟩ : ByteArray)) this
  simpa [List.map_map, Function.comp_def] using h2

theorem grownBy_grow {w w' : World} {row : Option Nat} (h : w.grownBy w' row) (os : Array Obj) : w.grownBy (grow w' os) row :=
  ⟨h.os, h.tape, h.output, by have := h.size; simp; omega, fun k hk hne => by rw [heap_grow_old _ _ (by have := h.size; omega)]; exact h.block k hk hne⟩
theorem grownBy_put {α : Type} [Inhabited α] {enc : α → Value} {w : World} {g n : Nat} (d : Array α) : w.grownBy (putRow enc (Sort.ahead w n) g 0 d) (some g) := by
  refine ⟨rfl, rfl, rfl, by simp [putRow, mapBlock, Sort.ahead], fun k hk hne => ?_⟩
  have : g ≠ k := fun e => hne (by rw [e])
  simp [putRow, mapBlock, Sort.ahead, Array.getElem?_modify, this]
theorem grownBy_trans {a b c : World} {row : Option Nat} (h : a.grownBy b row) (k : b.grownBy c row) : a.grownBy c row :=
  ⟨k.os.trans h.os, k.tape.trans h.tape, k.output.trans h.output, Nat.le_trans h.size k.size, fun i hi hne => (k.block i (Nat.lt_of_lt_of_le hi h.size) hne).trans (h.block i hi hne)⟩
theorem ownsRow_grow {w : World} {base : Nat} {e : TypeId} {size : Nat} {v : Value} {n : Nat} {xs : List Value} (h : w.ownsRow base e size v n xs) (os : Array Obj) : (grow w os).ownsRow base e size v n xs :=
  h.kept (row := none) ⟨rfl, rfl, rfl, by simp, fun k hk _ => heap_grow_old w os hk⟩ (by cases hv : v.ownBlock <;> simp)
theorem mergeSort_len (l : List BL) : (l.mergeSort fun x y => decide (x ≤ y)).length = l.length := List.length_mergeSort _
theorem compact_len (l : List BL) : (Lib.compact l).length ≤ l.length := by
  unfold Lib.compact Lib.compactUpTo
  rw [List.length_map]
  exact Nat.le_trans (List.length_filter_le _ _) (by simp)

theorem sorted_ownL (base : Nat) (v : Value) (ss : List BL) (w : World) (hown : w.ownsRow base 9 1 v ss.length (ss.map encStr)) (hb : base ≤ w.heap.size) (hlen : ss.length < 4611686018427387904) :
    Calls Try.prog 32 #[v] w fun r w' => ∃ v', r = .returned v' ∧ w'.ownsRow base 9 1 v' (canonL ss).length ((canonL ss).map encStr) ∧ w.grownBy w' v.ownBlock ∧ v'.ownBlock = v.ownBlock := by
  by_cases hv : v = .slice none 0 0
  · subst hv
    have hx : ss = [] := by
      rcases hown.2 with ⟨_, h⟩ | ⟨g, cap, cur, h, _⟩
      · exact List.eq_nil_of_length_eq_zero h
      · cases h
    subst hx
    go_enter Try.func32, Try.ntmps32
    go_wp2_with fail
    refine (Try.slices_Sort_string_none _ _ _).mono ?_
    rintro r w' ⟨rfl, hw'⟩
    subst hw'
    go_wp2_with fail
    refine (Try.slices_Compact_string_empty _ _ _).mono ?_
    rintro r w' ⟨rfl, hw'⟩
    subst hw'
    go_wp2
    go_ret
    have e : canonL ([] : List BL) = [] := by simp [canonL, Lib.compact, Lib.compactUpTo]
    rw [e]
    exact ⟨_, rfl, hown, ⟨rfl, rfl, rfl, Nat.le_refl _, fun _ _ _ => rfl⟩, rfl⟩
  · obtain ⟨g, cap, rfl, hbg, hgl, hn, hcm, _, hH⟩ := Lib.holds_of_ownsRow hown hv
    have h1 := Try.slices_Sort_string g 0 cap ss w hH hgl hlen
    have hml := mergeSort_len ss
    generalize hms : (ss.mergeSort fun x y => decide (x ≤ y)) = ms at *
    have HMS := Lib.hid hms
    unfold maxLen at hcm
    have hown1 : ∀ q os, (grow (putRow encStr (Sort.ahead w q) g 0 ms.toArray) os).ownsRow base 9 1 (.slice (some ⟨g, 0, none⟩) ms.length cap) ms.length (ms.map encStr) := fun q os => by
      have := ownsRow_grow (Lib.ownsRow_putRow (q := q) (k := ss.length) hown hml (Nat.le_refl _)) os
      rw [← hml, List.take_length] at this
      exact this
    have HO := Lib.hid hown1
    have HC := Lib.hid h1
    clear h1 hown1 hms hH hv hown
    rw [hml] at HO
    go_enter Try.func32, Try.ntmps32
    go_wp2_with fail
    refine HC.out.mono ?_
    rintro r w1 ⟨rfl, q, os, rfl⟩
    have hO1 := HO.out q os
    have hG1 : w.grownBy (grow (putRow encStr (Sort.ahead w q) g 0 ms.toArray) os) (some g) := grownBy_grow (grownBy_put _) os
    have hl2 : g < (grow (putRow encStr (Sort.ahead w q) g 0 ms.toArray) os).heap.size := by have := hG1.size; omega
    generalize grow (putRow encStr (Sort.ahead w q) g 0 ms.toArray) os = w1 at *
    rw [← hml] at hO1
    obtain ⟨g2, cap2, he, _, _, _, _, _, hH1⟩ := Lib.holds_of_ownsRow hO1 (by simp)
    simp at he
    obtain ⟨rfl, rfl⟩ := he
    have h2 := Try.slices_Compact_string g 0 cap ms w1 hH1 (by omega) (by omega)
    rw [hml] at h2
    have HC2 := Lib.hid h2
    have HO1 := Lib.hid hO1
    clear h2 hO1 hH1 HO HC
    go_wp2_with fail
    refine HC2.out.mono ?_
    rintro r w2 ⟨rfl, q2, rfl⟩
    go_wp2
    go_ret
    have hcl := compact_len ms
    refine ⟨_, rfl, ?_, grownBy_trans hG1 (grownBy_put _), rfl⟩
    have := Lib.ownsRow_putRow (q := q2) (k := (Lib.compact ms).length) (ys := Lib.compact ms ++ List.replicate (ss.length - (Lib.compact ms).length) []) HO1.out (by simp; omega) hcl
    rw [List.take_left] at this
    unfold canonL
    rw [HMS.out]
    exact this

theorem sorted_own (base : Nat) (v : Value) (xs : List ByteArray) (w : World) (hown : w.ownsRow base 9 1 v xs.length (xs.map Value.string)) (hb : base ≤ w.heap.size) (hlen : xs.length < 4611686018427387904) :
    Calls Try.prog 32 #[v] w fun r w' => ∃ v', r = .returned v' ∧ w'.ownsRow base 9 1 v' (canon xs).length ((canon xs).map Value.string) ∧ w.grownBy w' v.ownBlock ∧ v'.ownBlock = v.ownBlock := by
  have h := sorted_ownL base v (xs.map (·.data.toList)) w (by rw [Lib.map_encStr, List.length_map]; exact hown) hb (by simpa using hlen)
  refine h.mono ?_
  rintro r w' ⟨v', hr, h1, h2, h3⟩
  refine ⟨v', hr, ?_, h2, h3⟩
  rw [← canon_bytes, Lib.map_encStr, List.length_map] at h1
  exact h1
end Go.Proofs.Ytdmcceekaopghaa
