import Derived.Test.YtedpdpcibkceeaaDoorK
/-
  Get and Put of maps in plain Lean (layer 7). No program in sight. Conditions: those ahead of each theorem.
-/
namespace Go.Proofs.YtedpdpcibkceeaaDoor
set_option linter.unusedSimpArgs false
set_option linter.unusedVariables false

theorem ltS_trans {a b c : ByteArray} (h : ltS a b) (h' : ltS b c) : ltS a c := List.lt_trans h h'
theorem ltS_irrefl (a : ByteArray) : ¬ ltS a a := List.lt_irrefl a.data.toList
theorem ltS_asymm {a b : ByteArray} (h : ltS a b) : ¬ ltS b a := fun h' => ltS_irrefl a (ltS_trans h h')
theorem ltS_total {a b : ByteArray} (h : ¬ ltS a b) (h' : ¬ ltS b a) : a = b := ba_ext (List.le_antisymm (List.not_lt.1 h') (List.not_lt.1 h))
theorem AscS.tail {a : ByteArray} {l : List ByteArray} (h : AscS (a :: l)) : AscS l := by
  cases l with
  | nil => trivial
  | cons b l => exact h.2
theorem AscS.lt {a : ByteArray} : ∀ {l : List ByteArray}, AscS (a :: l) → ∀ x ∈ l, ltS a x
  | [], _, x, hx => by cases hx
  | b :: l, h, x, hx => by
    rcases List.mem_cons.1 hx with rfl | hx
    · exact h.1
    · exact ltS_trans h.1 (AscS.lt h.2 x hx)
theorem AscS.cons {a : ByteArray} {l : List ByteArray} (h : AscS l) (hl : ∀ x ∈ l, ltS a x) : AscS (a :: l) := by
  cases l with
  | nil => trivial
  | cons b l => exact ⟨hl b List.mem_cons_self, h⟩

/-- The place of a key in an ascending list. -/
def lowS (ks : List ByteArray) (k : ByteArray) : Nat := (ks.takeWhile fun x => decide (ltS x k)).length
theorem lowS_nil (k : ByteArray) : lowS [] k = 0 := rfl
theorem lowS_lt {a k : ByteArray} {ks : List ByteArray} (h : ltS a k) : lowS (a :: ks) k = lowS ks k + 1 := by simp [lowS, List.takeWhile, h]
theorem lowS_ge {a k : ByteArray} {ks : List ByteArray} (h : ¬ ltS a k) : lowS (a :: ks) k = 0 := by simp [lowS, List.takeWhile, h]
theorem lowS_le (ks : List ByteArray) (k : ByteArray) : lowS ks k ≤ ks.length := by
  induction ks with
  | nil => simp [lowS_nil]
  | cons a ks ih =>
    by_cases h : ltS a k
    · rw [lowS_lt h]; simp; omega
    · rw [lowS_ge h]; omega
def hasK (ks : List ByteArray) (k : ByteArray) : Bool := decide (ks[lowS ks k]? = some k)
theorem hasK_iff {ks : List ByteArray} (h : AscS ks) (k : ByteArray) : hasK ks k = true ↔ k ∈ ks := by
  unfold hasK
  rw [decide_eq_true_eq]
  constructor
  · intro e; exact List.mem_of_getElem? e
  · intro hk
    induction ks with
    | nil => cases hk
    | cons a ks ih =>
      rcases List.mem_cons.1 hk with rfl | hk
      · rw [lowS_ge (ltS_irrefl _)]; rfl
      · rw [lowS_lt (AscS.lt h k hk)]; exact ih h.tail hk

def getI (ks : List ByteArray) (is : List Val) (k : ByteArray) : Option Val := if hasK ks k then is[lowS ks k]? else none
def putK (ks : List ByteArray) (k : ByteArray) : List ByteArray := if hasK ks k then ks else ks.insertIdx (lowS ks k) k
def putI (ks : List ByteArray) (is : List Val) (k : ByteArray) (v : Val) : List Val := if hasK ks k then is.set (lowS ks k) v else is.insertIdx (lowS ks k) v

theorem getI_nil (is : List Val) (k : ByteArray) : getI [] is k = none := by simp [getI, hasK, lowS_nil]
theorem getI_cons {a k : ByteArray} {ks : List ByteArray} {y : Val} {is : List Val} : getI (a :: ks) (y :: is) k = if ltS a k then getI ks is k else if a = k then some y else none := by
  by_cases h : ltS a k
  · rw [if_pos h]; unfold getI hasK; rw [lowS_lt h]; simp
  · rw [if_neg h]; unfold getI hasK; rw [lowS_ge h]; simp
theorem putK_cons {a k : ByteArray} {ks : List ByteArray} : putK (a :: ks) k = if ltS a k then a :: putK ks k else if a = k then a :: ks else k :: a :: ks := by
  by_cases h : ltS a k
  · rw [if_pos h]; unfold putK hasK; rw [lowS_lt h]; simp; split <;> simp [List.insertIdx]
  · rw [if_neg h]; unfold putK hasK; rw [lowS_ge h]; simp
theorem putI_cons {a k : ByteArray} {ks : List ByteArray} {y v : Val} {is : List Val} : putI (a :: ks) (y :: is) k v = if ltS a k then y :: putI ks is k v else if a = k then v :: is else v :: y :: is := by
  by_cases h : ltS a k
  · rw [if_pos h]; unfold putI hasK; rw [lowS_lt h]; simp; split <;> simp [List.insertIdx]
  · rw [if_neg h]; unfold putI hasK; rw [lowS_ge h]; simp
theorem putK_nil (k : ByteArray) : putK [] k = [k] := by simp [putK, hasK, lowS_nil]
theorem putI_nil (k : ByteArray) (v : Val) : putI [] [] k v = [v] := by simp [putI, hasK, lowS_nil]
theorem mem_putK {k x : ByteArray} : ∀ {ks : List ByteArray}, x ∈ putK ks k → x = k ∨ x ∈ ks
  | [], h => by rw [putK_nil] at h; simp at h; exact .inl h
  | a :: ks, h => by
    rw [putK_cons] at h
    split at h
    · rcases List.mem_cons.1 h with h | h
      · exact .inr (by simp [h])
      · rcases mem_putK h with h | h
        · exact .inl h
        · exact .inr (List.mem_cons_of_mem _ h)
    · split at h
      · exact .inr h
      · rcases List.mem_cons.1 h with h | h
        · exact .inl h
        · exact .inr h
theorem putK_asc {k : ByteArray} : ∀ {ks : List ByteArray}, AscS ks → AscS (putK ks k)
  | [], _ => by rw [putK_nil]; trivial
  | a :: ks, h => by
    rw [putK_cons]
    by_cases h1 : ltS a k
    · rw [if_pos h1]
      refine AscS.cons (putK_asc h.tail) (fun x hx => ?_)
      rcases mem_putK hx with rfl | hx
      · exact h1
      · exact AscS.lt h x hx
    · rw [if_neg h1]
      by_cases h2 : a = k
      · rw [if_pos h2]; exact h
      · rw [if_neg h2]
        have h3 : ltS k a := by
          apply Decidable.byContradiction; intro h3; exact h2 (ltS_total h1 h3)
        refine AscS.cons h (fun x hx => ?_)
        rcases List.mem_cons.1 hx with rfl | hx
        · exact h3
        · exact ltS_trans h3 (AscS.lt h x hx)
theorem put_len {k : ByteArray} {v : Val} : ∀ {ks : List ByteArray} {is : List Val}, ks.length = is.length → (putK ks k).length = (putI ks is k v).length
  | [], [], _ => by rw [putK_nil, putI_nil]; rfl
  | a :: ks, y :: is, h => by
    rw [putK_cons, putI_cons]
    have := put_len (k := k) (v := v) (ks := ks) (is := is) (by simpa using h)
    split
    · simp [this]
    · split <;> simpa using h
theorem putK_len {k : ByteArray} {ks : List ByteArray} : (putK ks k).length = ks.length + if hasK ks k then 0 else 1 := by
  unfold putK
  split
  · simp
  · rw [List.length_insertIdx_of_le_length (lowS_le ks k)]
theorem get_put_same {k : ByteArray} {v : Val} : ∀ {ks : List ByteArray} {is : List Val}, ks.length = is.length → getI (putK ks k) (putI ks is k v) k = some v
  | [], [], _ => by rw [putK_nil, putI_nil, getI_cons, if_neg (ltS_irrefl k), if_pos rfl]
  | a :: ks, y :: is, h => by
    rw [putK_cons, putI_cons]
    have := get_put_same (k := k) (v := v) (ks := ks) (is := is) (by simpa using h)
    by_cases h1 : ltS a k
    · rw [if_pos h1, if_pos h1, getI_cons, if_pos h1]; exact this
    · rw [if_neg h1, if_neg h1]
      by_cases h2 : a = k
      · rw [if_pos h2, if_pos h2, getI_cons, if_neg h1, if_pos h2]
      · rw [if_neg h2, if_neg h2, getI_cons, if_neg (ltS_irrefl k), if_pos rfl]
theorem get_put_other {k o : ByteArray} {v : Val} (ho : o ≠ k) : ∀ {ks : List ByteArray} {is : List Val}, AscS ks → ks.length = is.length → getI (putK ks k) (putI ks is k v) o = getI ks is o
  | [], [], _, _ => by
    rw [putK_nil, putI_nil, getI_cons, getI_nil]
    split
    · rfl
    · rw [if_neg (Ne.symm ho)]
  | a :: ks, y :: is, hs, h => by
    rw [putK_cons, putI_cons]
    have := get_put_other (k := k) (o := o) (v := v) ho (ks := ks) (is := is) hs.tail (by simpa using h)
    by_cases h1 : ltS a k
    · rw [if_pos h1, if_pos h1, getI_cons, getI_cons, this]
    · rw [if_neg h1, if_neg h1]
      by_cases h2 : a = k
      · subst h2
        rw [if_pos rfl, if_pos rfl, getI_cons, getI_cons]
        split
        · rfl
        · rw [if_neg (Ne.symm ho), if_neg (Ne.symm ho)]
      · rw [if_neg h2, if_neg h2, getI_cons]
        by_cases h3 : ltS k o
        · rw [if_pos h3]
        · rw [if_neg h3, if_neg (Ne.symm ho), getI_cons]
          have h4 : ltS k a := by
            apply Decidable.byContradiction; intro h4; exact h2 (ltS_total h1 h4)
          have h5 : ltS o k := by
            apply Decidable.byContradiction; intro h5; exact ho (ltS_total h5 h3)
          have h6 := ltS_trans h5 h4
          rw [if_neg (ltS_asymm h6), if_neg (fun e => ltS_irrefl o (by rw [e] at h6; exact h6))]

/-- The linear search of the reference. -/
def findI : List ByteArray → List Val → ByteArray → Option Val
  | a :: ks, y :: is, k => if a = k then some y else findI ks is k
  | _, _, _ => none
theorem findI_none {k : ByteArray} : ∀ (ks : List ByteArray) (is : List Val), (∀ x ∈ ks, x ≠ k) → findI ks is k = none
  | [], _, _ => by cases ‹List Val› <;> rfl
  | a :: ks, [], _ => rfl
  | a :: ks, y :: is, h => by rw [findI, if_neg (h a List.mem_cons_self)]; exact findI_none ks is fun x hx => h x (List.mem_cons_of_mem _ hx)
theorem get_find {k : ByteArray} : ∀ {ks : List ByteArray} {is : List Val}, AscS ks → ks.length = is.length → getI ks is k = findI ks is k
  | [], [], _, _ => by rw [getI_nil]; rfl
  | a :: ks, y :: is, hs, h => by
    rw [getI_cons, findI, get_find hs.tail (by simpa using h)]
    by_cases h1 : ltS a k
    · rw [if_pos h1, if_neg (fun e => ltS_irrefl k (by rw [e] at h1; exact h1))]
    · rw [if_neg h1]
      by_cases h2 : a = k
      · rw [if_pos h2, if_pos h2]
      · rw [if_neg h2, if_neg h2]
        have h3 : ltS k a := by
          apply Decidable.byContradiction; intro h3; exact h2 (ltS_total h1 h3)
        rw [findI_none ks is fun x hx e => by have := AscS.lt hs x hx; rw [e] at this; exact ltS_irrefl k (ltS_trans h3 this)]
end Go.Proofs.YtedpdpcibkceeaaDoor
