import Derived.Test.YtedpdpcibkceeaaDoorPun
import Derived.Test.YtedpdpcibkceeaaDoorLvo
/-
  Put at any key of a valid map, and what Get finds in it, in plain Lean. Conditions: those ahead of each theorem.
-/
namespace Go.Proofs.YtedpdpcibkceeaaDoor
open Go.RowKit Go.Sort Go.Lib
open Go.Lib (hid)
set_option linter.unusedVariables false
set_option linter.unusedSimpArgs false

theorem nodesL_insert (x : Val) : ∀ (l : List Val) (n : Nat), nodesL (l.insertIdx n x) ≤ nodesL l + nodes x
  | [], 0 => by simp [nodesL]
  | [], n + 1 => by simp [nodesL]
  | a :: l, 0 => by simp only [List.insertIdx_zero, nodesL]; omega
  | a :: l, n + 1 => by have := nodesL_insert x l n; simp only [List.insertIdx_succ_cons, nodesL]; omega
theorem nkeysL_insert (x : Val) : ∀ (l : List Val) (n : Nat), nkeysL (l.insertIdx n x) ≤ nkeysL l + nkeys x
  | [], 0 => by simp [nkeysL]
  | [], n + 1 => by simp [nkeysL]
  | a :: l, 0 => by simp only [List.insertIdx_zero, nkeysL]; omega
  | a :: l, n + 1 => by have := nkeysL_insert x l n; simp only [List.insertIdx_succ_cons, nkeysL]; omega
theorem nodesL_set (x : Val) : ∀ (l : List Val) (n : Nat), nodesL (l.set n x) ≤ nodesL l + nodes x
  | [], n => by simp [nodesL]
  | a :: l, 0 => by simp only [List.set_cons_zero, nodesL]; omega
  | a :: l, n + 1 => by have := nodesL_set x l n; simp only [List.set_cons_succ, nodesL]; omega
theorem nkeysL_set (x : Val) : ∀ (l : List Val) (n : Nat), nkeysL (l.set n x) ≤ nkeysL l + nkeys x
  | [], n => by simp [nkeysL]
  | a :: l, 0 => by simp only [List.set_cons_zero, nkeysL]; omega
  | a :: l, n + 1 => by have := nkeysL_set x l n; simp only [List.set_cons_succ, nkeysL]; omega
theorem items_le : ∀ (l : List Val), l.length ≤ nodesL l
  | [] => by simp
  | a :: l => by
    have := items_le l
    have := nodes_eq a
    simp only [List.length_cons, nodesL]; omega
def putV (m : Val) (key : ByteArray) (x : Val) : Val := .mk m.kind m.num m.str (putI m.keys m.items key x) (putK m.keys key)
theorem hasK_lt {ks : List ByteArray} {k : ByteArray} (h : hasK ks k = true) : lowS ks k < ks.length := by
  unfold hasK at h
  rw [decide_eq_true_eq] at h
  exact (List.getElem?_eq_some_iff.1 h).1
theorem shp_len {m : Val} (h : Shp m) (h5 : m.kind = 5) : m.keys.length = m.items.length := by
  cases h with
  | mk _ h1 h2 h3 => exact h1 h5
theorem put_facts {m x : Val} (key other : ByteArray) (om : okV m = true) (ox : okV x = true) (h5 : m.kind = 5) :
    AscS (putV m key x).keys ∧ nodes (putV m key x) ≤ 1000000 ∧ nkeys (putV m key x) ≤ 1000000 ∧ getV (putV m key x) key = some x ∧ (other ≠ key → getV (putV m key x) other = getV m other) ∧ (putV m key x).kind = 5 ∧ (putV m key x).keys.length = m.keys.length + (if (getV m key).isSome then 0 else 1) ∧ (putV m key x).items.length = (putV m key x).keys.length ∧ m.keys.length ≤ 1000 := by
  obtain ⟨k1, n1, l1⟩ := ok_of om
  obtain ⟨k2, n2, l2⟩ := ok_of ox
  have hl := shp_len k1.shp h5
  have e1 := nodes_eq m
  have e2 := nkeys_eq m
  have e3 := nodes_eq (putV m key x)
  have e4 := nkeys_eq (putV m key x)
  have hi := items_le m.items
  have hkl : (putV m key x).keys.length = m.keys.length + (if hasK m.keys key then 0 else 1) := putK_len
  have hN : nodesL (putV m key x).items ≤ nodesL m.items + nodes x := by
    show nodesL (putI m.keys m.items key x) ≤ _
    unfold putI; split
    · exact nodesL_set _ _ _
    · exact nodesL_insert _ _ _
  have hK : nkeysL (putV m key x).items ≤ nkeysL m.items + nkeys x := by
    show nkeysL (putI m.keys m.items key x) ≤ _
    unfold putI; split
    · exact nkeysL_set _ _ _
    · exact nkeysL_insert _ _ _
  have hk2 : (putV m key x).keys.length ≤ m.keys.length + 1 := by rw [hkl]; split <;> omega
  have hsome : (getV m key).isSome = hasK m.keys key := by
    unfold getV getI
    rw [if_pos h5]
    by_cases hh : hasK m.keys key = true
    · have := hasK_lt hh
      rw [if_pos hh, hh, List.getElem?_eq_getElem (by omega)]; rfl
    · rw [if_neg hh]
      have : hasK m.keys key = false := by simpa using hh
      rw [this]; rfl
  refine ⟨putK_asc k1.asc, by omega, by omega, ?_, fun ho => ?_, h5, by rw [hsome]; exact hkl, (put_len hl).symm, by omega⟩
  · unfold getV
    rw [if_pos (show (putV m key x).kind = 5 from h5)]
    exact get_put_same hl
  · unfold getV
    rw [if_pos (show (putV m key x).kind = 5 from h5), if_pos h5]
    exact get_put_other ho k1.asc hl
theorem put_any {m x : Val} (key : ByteArray) (hky : key.size ≤ maxLen) (om : okV m = true) (ox : okV x = true) (h5 : m.kind = 5) (r : Option Addr) (c : Nat) (rk : Option Addr) (ck : Nat) (rx : Option Addr) (cx : Nat) (rkx : Option Addr) (ckx : Nat) (w : World) (hm : VR5 w r c rk ck m) (hx : VR5 w rx cx rkx ckx x) :
    Calls Tryd.prog 28 #[.agg #[.int .i64 m.kind, .int .i64 m.num, .string m.str, .slice r m.items.length c, .slice rk m.keys.length ck], .string key, .agg #[.int .i64 x.kind, .int .i64 x.num, .string x.str, .slice rx x.items.length cx, .slice rkx x.keys.length ckx]] w (PutP w (putV m key x)) := by
  obtain ⟨k1, n1, l1⟩ := ok_of om
  obtain ⟨k2, n2, l2⟩ := ok_of ox
  have hl := shp_len k1.shp h5
  have e1 := nodes_eq m
  have hi := items_le m.items
  unfold putV putI putK
  by_cases hh : hasK m.keys key = true
  · have := hasK_lt hh
    rw [if_pos hh, if_pos hh]
    exact put_found m x key r c rk ck rx cx rkx ckx w hm hx k1.asc (by omega) (by omega) (by omega) (by omega) hh (by omega)
  · have hf : hasK m.keys key = false := by simpa using hh
    have hlo := lowS_le m.keys key
    have h := put_new m x key r c rk ck rx cx rkx ckx w hm hx k1.asc (by omega) (by omega) (by omega) (by omega) hf (by omega) (by omega) (by omega) hky
    rw [set_insert _ _ _ _ (by omega)] at h
    rw [if_neg hh, if_neg hh]
    exact h
end Go.Proofs.YtedpdpcibkceeaaDoor
