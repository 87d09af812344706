/-
  AuditComplete in plain Lean: a state and the objects with exactly its IDs agree; without one object exactly its ID is missing. No program in sight.
-/
import Derived.Test.YtdmcceekaopghaaComp
namespace Go.Proofs.Ytdmcceekaopghaa
open Go.RowKit Go.Sort

theorem canon_nil : canon [] = [] := asc_eq (canon_asc _) (by simp [Asc]) (fun x => by rw [mem_canon])
theorem canon_one (x : ByteArray) : canon [x] = [x] := asc_eq (canon_asc _) (by simp [Asc]) (fun y => by rw [mem_canon])
theorem map_mkI (l : List ByteArray) : (l.map mkI).map (·.id) = l := by
  induction l with
  | nil => rfl
  | cons x l ih => rw [List.map_cons, List.map_cons, ih]; rfl
theorem any_mkO (l : List ByteArray) (x : ByteArray) : ((l.map mkO).any fun o => eqS o.id x) = true ↔ x ∈ l := by
  rw [List.any_eq_true]
  constructor
  · rintro ⟨o, h1, h2⟩
    obtain ⟨y, hy, rfl⟩ := List.mem_map.1 h1
    have : y = x := eqS_iff.1 h2
    subst this; exact hy
  · intro h
    exact ⟨mkO x, List.mem_map.2 ⟨x, h, rfl⟩, eqS_iff.2 rfl⟩
theorem getD_lt {l : List ByteArray} {k : Nat} (h : k < l.length) : l.getD k ib0 = l[k] := by simp [h]

theorem nodup_inj {l : List ByteArray} (h : l.Nodup) {i j : Nat} (hi : i < l.length) (hj : j < l.length) (e : l[i] = l[j]) : i = j := by
  rcases Nat.lt_trichotomy i j with h1 | h1 | h1
  · exact absurd e (List.pairwise_iff_getElem.1 h i j hi hj h1)
  · exact h1
  · exact absurd e.symm (List.pairwise_iff_getElem.1 h j i hj hi h1)
theorem tw_nil {ids : List ByteArray} (hn : ids.Nodup) : ∀ k, k ≤ ids.length → tw ids k = [] := by
  intro k
  induction k with
  | zero => intro _; rfl
  | succ k ih =>
    intro hk
    have hlt : k < ids.length := hk
    rw [tw, getD_lt hlt, ih (by omega), if_neg]
    intro h
    have hm := hasS_iff.1 h
    obtain ⟨i, hi, he⟩ := List.mem_iff_getElem.1 hm
    have hik : i < k := by simp at hi; omega
    rw [List.getElem_take] at he
    have := nodup_inj hn (by omega) hlt he
    omega
theorem un_nil {ps : List Pe} {os : List Ob} {ids : List ByteArray} (h : ∀ o ∈ os, o.id ∈ ids) : ∀ k, k ≤ os.length → un ps os ids k = [] := by
  intro k
  induction k with
  | zero => intro _; rfl
  | succ k ih =>
    intro hk
    have hlt : k < os.length := hk
    have hgd : os.getD k o0 = os[k] := by simp [hlt]
    rw [un, hgd, ih (by omega), if_pos]
    rw [hasS_iff.2 (h _ (List.getElem_mem hlt)), Bool.or_true]
theorem ms_nil {os : List Ob} {ids : List ByteArray} (h : ∀ x ∈ ids, (os.any fun o => eqS o.id x) = true) : ∀ k, k ≤ ids.length → ms os ids k = [] := by
  intro k
  induction k with
  | zero => intro _; rfl
  | succ k ih =>
    intro hk
    have hlt : k < ids.length := hk
    rw [ms, getD_lt hlt, ih (by omega), if_pos (h _ (List.getElem_mem hlt))]
theorem ms_one {os : List Ob} {ids : List ByteArray} {n : Nat} (hnl : n < ids.length) (hn : ids.Nodup) (h : ∀ x, (os.any fun o => eqS o.id x) = true ↔ x ∈ ids ∧ x ≠ ids[n]) : ∀ k, k ≤ ids.length → ms os ids k = if k ≤ n then [] else [ids[n]] := by
  intro k
  induction k with
  | zero => intro _; simp [ms]
  | succ k ih =>
    intro hk
    have hlt : k < ids.length := hk
    rw [ms, getD_lt hlt, ih (by omega)]
    by_cases hkn : k = n
    · subst hkn
      rw [if_neg (by rw [h]; exact fun h => h.2 rfl), if_pos (Nat.le_refl _), if_neg (by omega)]; rfl
    · rw [if_pos ((h _).2 ⟨List.getElem_mem hlt, fun e => hkn (nodup_inj hn hlt hnl e)⟩)]
      by_cases h1 : k ≤ n
      · rw [if_pos h1, if_pos (by omega)]
      · rw [if_neg h1, if_neg (by omega)]
theorem mem_rest {ids : List ByteArray} {n : Nat} (hnl : n < ids.length) (hn : ids.Nodup) (x : ByteArray) : x ∈ ids.take n ++ ids.drop (n + 1) ↔ x ∈ ids ∧ x ≠ ids[n] := by
  have e : ids = ids.take n ++ (ids[n] :: ids.drop (n + 1)) := by
    rw [← List.drop_eq_getElem_cons hnl, List.take_append_drop]
  have hn2 := hn
  rw [e, List.nodup_append] at hn2
  obtain ⟨_, h2, h3⟩ := hn2
  rw [List.nodup_cons] at h2
  constructor
  · intro h
    rw [List.mem_append] at h
    rcases h with h | h
    · refine ⟨List.mem_of_mem_take h, fun e => h3 x h ids[n] List.mem_cons_self e⟩
    · refine ⟨List.mem_of_mem_drop h, fun e => h2.1 (e ▸ h)⟩
  · rintro ⟨h, hne⟩
    rw [e, List.mem_append, List.mem_cons] at h
    rw [List.mem_append]
    rcases h with h | h | h
    · exact .inl h
    · exact absurd h hne
    · exact .inr h
theorem rest_map (ids : List ByteArray) (n : Nat) : (ids.map mkO).take n ++ (ids.map mkO).drop (n + 1) = (ids.take n ++ ids.drop (n + 1)).map mkO := by
  rw [List.map_append, List.map_take, List.map_drop]
theorem comp_one {ids : List ByteArray} {n : Nat} (hnl : n < ids.length) (hn : ids.Nodup) :
    canon (ms ((ids.take n ++ ids.drop (n + 1)).map mkO) ids ids.length) = [ids[n]] := by
  rw [ms_one hnl hn (fun x => by rw [any_mkO, mem_rest hnl hn]) _ (Nat.le_refl _), if_neg (by omega), canon_one]
theorem comp_un {ids l : List ByteArray} (h : ∀ x ∈ l, x ∈ ids) : canon (un [] (l.map mkO) ids (l.map mkO).length) = [] := by
  rw [un_nil (fun o ho => by obtain ⟨y, hy, rfl⟩ := List.mem_map.1 ho; exact h y hy) _ (Nat.le_refl _), canon_nil]
theorem comp_tw {ids : List ByteArray} (hn : ids.Nodup) : canon (tw ids ids.length) = [] := by rw [tw_nil hn _ (Nat.le_refl _), canon_nil]
theorem comp_ms {ids : List ByteArray} : canon (ms (ids.map mkO) ids ids.length) = [] := by
  rw [ms_nil (fun x hx => (any_mkO ids x).2 hx) _ (Nat.le_refl _), canon_nil]
theorem mkI_slen (l : List ByteArray) : (l.map mkI).length = l.length := by simp
theorem own_in {B : Nat} {w : World} {v : Value} {xs : List In} (h : w.ownsRow B 55 13 v xs.length (xs.flatMap In.cells)) : Sl InR 13 w v xs := sl_of_own In.cells in_len h
theorem own_ob {B : Nat} {w : World} {v : Value} {xs : List Ob} (h : w.ownsRow B 57 9 v xs.length (xs.flatMap Ob.cells)) : Sl ObR 9 w v xs := sl_of_own Ob.cells ob_len' h
theorem sl_none {α : Type} {R : World → List Value → α → Prop} {sz : Nat} {w : World} : Sl R sz w (.slice none 0 0) [] := sl_empty none 0 (by unfold maxLen; omega)
theorem sl_takeO {α : Type} {R : World → List Value → α → Prop} {sz : Nat} {w : World} {r : Option Addr} {n cap : Nat} {xs : List α} (h : Sl R sz w (.slice r n cap) xs) (k : Nat) (hk : k ≤ xs.length) : Sl R sz w (.slice r k cap) (xs.take k) := by
  obtain ⟨r', cap', hv, hl, hc, he⟩ := h
  simp at hv
  obtain ⟨rfl, rfl, rfl⟩ := hv
  refine ⟨r, cap, by simp [Nat.min_eq_left hk], by simp; omega, hc, fun i hi => ?_⟩
  have hi2 : i < k := by simp at hi; omega
  obtain ⟨b, off, cs, h1, h2, h3, h4⟩ := he i (by omega)
  exact ⟨b, off, cs, h1, h2, h3, by simpa using h4⟩
end Go.Proofs.Ytdmcceekaopghaa
