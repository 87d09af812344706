import Derived.Test.YtedpdpcibkceeaaDoorRow
import Derived.Test.YtedpdpcibkceeaaDoorShelf
import Derived.OneCell
/-
  Contracts of slices.Clone at strings, and of the program's copies and copied. Conditions: those ahead of each theorem.
-/
namespace Go.Proofs.YtedpdpcibkceeaaDoor
open Go.RowKit Go.Sort Go.Lib
open Go.Lib (hid)
set_option linter.unusedVariables false
set_option linter.unusedSimpArgs false

/-- A slice of the call's own, of strings. -/
def OwnK (B : Nat) (w : World) (v : Value) (ks : List ByteArray) : Prop := w.ownsRow B 9 1 v ks.length (ks.map Value.string)
theorem own_form {w : World} {B sz n : Nat} {e : TypeId} {v : Value} {xs : List Value} (h : w.ownsRow B e sz v n xs) : ∃ r c, v = .slice r n c ∧ n ≤ c ∧ c ≤ maxLen := by
  rcases h.2 with ⟨rfl, rfl⟩ | ⟨g, cap, cur, rfl, _, _, h1, h2, _⟩
  · exact ⟨none, 0, rfl, by simp, by simp⟩
  · exact ⟨_, cap, rfl, h1, h2⟩
theorem own_lt {w : World} {B sz n : Nat} {e : TypeId} {v : Value} {xs : List Value} (h : w.ownsRow B e sz v n xs) {g : Nat} (hg : v.ownBlock = some g) : B ≤ g ∧ g < w.heap.size := by
  rcases h.2 with ⟨rfl, _⟩ | ⟨g', cap, cur, rfl, hb, hh, _⟩
  · cases hg
  · simp only [Value.ownBlock, Option.some.injEq] at hg
    subst hg
    exact ⟨hb, lt_of_block hh⟩
theorem own_keep {w w' : World} {B sz n : Nat} {e : TypeId} {v : Value} {xs : List Value} (h : w.ownsRow B e sz v n xs) (hk : ∀ g, v.ownBlock = some g → w'.heap[g]? = w.heap[g]?) : w'.ownsRow B e sz v n xs := by
  refine ⟨h.1, ?_⟩
  rcases h.2 with h0 | ⟨g, cap, cur, rfl, hb, hh, r⟩
  · exact .inl h0
  · exact .inr ⟨g, cap, cur, rfl, hb, (hk g rfl).trans hh, r⟩
theorem own_base {w : World} {B B' sz n : Nat} {e : TypeId} {v : Value} {xs : List Value} (h : w.ownsRow B e sz v n xs) (hB : B' ≤ B) : w.ownsRow B' e sz v n xs := by
  refine ⟨h.1, ?_⟩
  rcases h.2 with h0 | ⟨g, cap, cur, rfl, hb, r⟩
  · exact .inl h0
  · exact .inr ⟨g, cap, cur, rfl, Nat.le_trans hB hb, r⟩
theorem ownK_sl {B : Nat} {w : World} {v : Value} {ks : List ByteArray} (h : OwnK B w v ks) (hs : ∀ k ∈ ks, k.size ≤ maxLen) : Sl StrR 1 w v ks := by
  rcases h.2 with ⟨rfl, h0⟩ | ⟨g, cap, cur, rfl, hb, hg, hn, hc, hsz, ht⟩
  · have : ks = [] := List.eq_nil_of_length_eq_zero h0
    subst this
    exact ⟨none, 0, rfl, by simp, by simp, fun i hi => absurd hi (by simp)⟩
  · refine ⟨some ⟨g, 0, none⟩, cap, rfl, hn, hc, fun i hi => ⟨g, 0, [.string ks[i]], rfl, rfl, fun j u hj => ?_, rfl, hs _ (List.getElem_mem hi)⟩⟩
    cases j with
    | succ j => simp at hj
    | zero =>
      simp only [List.getElem?_cons_zero, Option.some.injEq] at hj
      subst hj
      have h1 : (ks.map Value.string)[i]? = some (.string ks[i]) := by simp [hi]
      rw [← ht, List.getElem?_take, if_pos (by omega), Array.getElem?_toList] at h1
      unfold World.cell?
      simp only [hg, Nat.zero_add, Nat.mul_one, Nat.add_zero]
      simpa using h1
theorem strs_le {w : World} {v : Value} {ks : List ByteArray} (h : Sl StrR 1 w v ks) : ∀ k ∈ ks, k.size ≤ maxLen := fun k hk => by
  obtain ⟨i, hi, rfl⟩ := List.mem_iff_getElem.1 hk
  obtain ⟨_, _, _, _, _, he⟩ := h
  obtain ⟨_, _, _, _, _, _, _, hs⟩ := he i hi
  exact hs
theorem clone_any (ks : List ByteArray) (r : Option Addr) (c : Nat) (w : World) (h : Sl StrR 1 w (.slice r ks.length c) ks) (hn : ks.length ≤ 1000000) :
    Calls Tryd.prog 69 #[.slice r ks.length c] w fun e w' => ∃ v', e = .returned v' ∧ OwnK w.heap.size w' v' ks ∧ Below w.heap.size w w' := by
  cases r with
  | none =>
    have h0 : ks = [] := by
      cases ks with
      | nil => rfl
      | cons k ks => obtain ⟨_, _, hr, _⟩ := str_at h 0 (by simp); cases hr
    subst h0
    exact (Tryd.slices_Clone_string_nil 0 c w).mono fun e w' ⟨he, hw⟩ => ⟨_, he, ⟨by simp, .inl ⟨rfl, rfl⟩⟩, by rw [hw]; exact Below.refl _ _⟩
  | some a =>
    by_cases h0 : ks = []
    · subst h0
      exact (Tryd.slices_Clone_string_zero a c w).mono fun e w' ⟨v', he, ho, _, hb⟩ => ⟨v', he, ho, hb⟩
    · have hpos : 0 < ks.length := List.length_pos_iff.2 h0
      obtain ⟨b, off, hr, _⟩ := str_at h 0 hpos
      obtain rfl : a = ⟨b, off, none⟩ := by simpa using hr
      refine (Tryd.slices_Clone_string b off ks.length c ks w (Nat.le_refl _) (by omega) (fun j hj => ?_)).mono fun e w' ⟨v', he, ho, _, hb⟩ => ⟨v', he, ?_, hb⟩
      · obtain ⟨b', off', hr', _, g0, _⟩ := str_at h j hj
        simp only [Option.some.injEq, Addr.mk.injEq, and_true] at hr'
        obtain ⟨rfl, rfl⟩ := hr'
        rw [g0, List.getD_eq_getElem?_getD, List.getElem?_eq_getElem hj]; rfl
      · have := ho
        rw [List.take_length] at this
        exact this

theorem keepB_mk {B b : Nat} {v : Value} (h : B ≤ b) (h' : v.ownBlock ≠ some b) : keepB B v b = true := by
  unfold keepB; rw [Bool.and_eq_true, decide_eq_true_eq, decide_eq_true_eq]; exact ⟨h, h'⟩
theorem keepB_out {B b : Nat} {v : Value} (h : keepB B v b = true) : B ≤ b ∧ v.ownBlock ≠ some b := by
  unfold keepB at h; rw [Bool.and_eq_true, decide_eq_true_eq, decide_eq_true_eq] at h; exact h
/-- Own rows of values, the rows' cells written out. -/
structure RowsV (B : Nat) (w : World) (v : Value) (ys : List Cv) (is : List Val) : Prop where
  len : ys.length = is.length
  own : w.ownsRow B 26 5 v ys.length (ys.flatMap Cv.enc)
  vr : ∀ (i : Nat) (h : i < ys.length) (h' : i < is.length), VR (mask (keepB B v) w) ys[i].enc is[i]
theorem RowsV.push {B : Nat} {wr w1 w2 w3 w4 : World} {v : Value} {ys : List Cv} {is : List Val} {x : Val} {r : Option Addr} {c : Nat} {rk : Option Addr} {ck g n cap : Nat} (h : RowsV B wr v ys is) (hB : B ≤ wr.heap.size) (h1 : Below wr.heap.size wr w1) (h2 : Below w1.heap.size w1 w2)
    (hx : VK (fromB w1.heap.size) w2 r c rk ck x) (h3 : Below w2.heap.size w2 w3) (hown : w4.ownsRow B 26 5 (.slice (some ⟨g, 0, none⟩) n cap) (ys ++ [Cv.of x r c rk ck]).length ((ys ++ [Cv.of x r c rk ck]).flatMap Cv.enc)) (hg : w3.grownBy w4 v.ownBlock) (hat : v.ownBlock = some g ∨ g = w3.heap.size) :
    RowsV B w4 (.slice (some ⟨g, 0, none⟩) n cap) (ys ++ [Cv.of x r c rk ck]) (is ++ [x]) := by
  have s1 := h1.size
  have s2 := h2.size
  have s3 := h3.size
  refine ⟨by simp [h.len], hown, fun i hi hi' => ?_⟩
  by_cases hlt : i < ys.length
  · have hlt' : i < is.length := by rw [← h.len]; exact hlt
    rw [List.getElem_append_left hlt, List.getElem_append_left hlt']
    refine vr_stays (stays_keep fun b hk hb => ?_) (h.vr i hlt hlt')
    have hk := keepB_out hk
    refine ⟨?_, ?_⟩
    · refine keepB_mk hk.1 (fun e => ?_)
      have e : g = b := by simpa [Value.ownBlock] using e
      subst e
      rcases hat with e | e
      · exact hk.2 e
      · omega
    · rw [hg.block b (by omega) (fun e => hk.2 e.symm), h3.block b (by omega), h2.block b (by omega), h1.block b hb]
  · have hie : i = ys.length := by simp at hi; omega
    have hie' : i = is.length := by rw [← h.len]; exact hie
    have e1 : (ys ++ [Cv.of x r c rk ck])[i] = Cv.of x r c rk ck := by rw [List.getElem_append_right (by omega)]; simp [hie]
    have e2 : (is ++ [x])[i] = x := by rw [List.getElem_append_right (by omega)]; simp [hie']
    rw [e1, e2]
    refine vr_stays (stays_keep fun b hk hb => ?_) hx.enc
    simp only [fromB, decide_eq_true_eq] at hk
    have hne : ∀ g', v.ownBlock = some g' → g' ≠ b := fun g' e => by have := (own_lt h.own e).2; omega
    refine ⟨?_, ?_⟩
    · refine keepB_mk (by omega) (fun e => ?_)
      have e : g = b := by simpa [Value.ownBlock] using e
      subst e
      rcases hat with e | e
      · exact hne _ e rfl
      · omega
    · rw [hg.block b (by omega) (fun e => hne b e.symm rfl), h3.block b hb]

/-- What 'copied' hands back: items and keys of its own, apart. -/
structure CopX (B M : Nat) (w : World) (r : Option Addr) (c : Nat) (rk : Option Addr) (ck : Nat) (x : Val) : Prop where
  le : B ≤ M
  items : OwnV M w (.slice r x.items.length c) x.items
  keys : OwnK B w (.slice rk x.keys.length ck) x.keys
  lt : ∀ g, (Value.slice rk x.keys.length ck).ownBlock = some g → g < M
  bd : i64B x.kind ∧ i64B x.num ∧ x.str.size ≤ maxLen ∧ x.keys.length ≤ 10000000000000 ∧ x.items.length ≤ 10000000000000 ∧ ∀ k ∈ x.keys, k.size ≤ maxLen
theorem own_mask {K : Nat → Bool} {w : World} {B sz n : Nat} {e : TypeId} {v : Value} {xs : List Value} (h : w.ownsRow B e sz v n xs) (hk : ∀ g, v.ownBlock = some g → K g = true) : (mask K w).ownsRow B e sz v n xs := own_keep h fun g hg => mask_heap (hk g hg)
theorem CopX.vk {B M : Nat} {w : World} {r : Option Addr} {c : Nat} {rk : Option Addr} {ck : Nat} {x : Val} (h : CopX B M w r c rk ck x) : VK (fromB B) w r c rk ck x := by
  obtain ⟨ys, hl, ho, hv⟩ := h.items.ex
  have hI : Sl VR 5 (mask (fromB B) w) (.slice r x.items.length c) x.items := sl_of_rows hl (own_mask ho fun g hg => by
      have := (own_lt ho hg).1
      have := h.le
      simp only [fromB, decide_eq_true_eq]; omega) hv (stays_keep fun b hk _ => ⟨by
        have hk := keepB_out hk
        have := h.le
        simp only [fromB, decide_eq_true_eq]; omega, rfl⟩)
  have hK : Sl StrR 1 (mask (fromB B) w) (.slice rk x.keys.length ck) x.keys := ownK_sl (B := B) (own_mask h.keys fun g hg => by
      have := (own_lt h.keys hg).1
      simp only [fromB, decide_eq_true_eq]; omega) h.bd.2.2.2.2.2
  exact VR.make hI hK h.bd.1 h.bd.2.1 h.bd.2.2.1 h.bd.2.2.2.1 h.bd.2.2.2.2.1
theorem OwnV.to {B : Nat} {w w' : World} {v : Value} {is : List Val} (h : OwnV B w v is) (hk : ∀ b, B ≤ b → b < w.heap.size → w'.heap[b]? = w.heap[b]?) : OwnV B w' v is := by
  obtain ⟨ys, hl, ho, hv⟩ := h.ex
  refine ⟨ys, hl, own_keep ho fun g hg => hk g (own_lt ho hg).1 (own_lt ho hg).2, fun i h1 h2 => vr_stays (stays_keep fun b hb hlt => ⟨hb, hk b ?_ hlt⟩) (hv i h1 h2)⟩
  exact (keepB_out hb).1
def CopP (w : World) (x : Val) (e : Ending) (w' : World) : Prop := ∃ r c rk ck M, e = .returned (.agg #[.int .i64 x.kind, .int .i64 x.num, .string x.str, .slice r x.items.length c, .slice rk x.keys.length ck]) ∧ CopX w.heap.size M w' r c rk ck x ∧ Below w.heap.size w w'
def CopsP (w : World) (is : List Val) (e : Ending) (w' : World) : Prop := ∃ r c, e = .returned (.slice r is.length c) ∧ OwnV w.heap.size w' (.slice r is.length c) is ∧ Below w.heap.size w w'
end Go.Proofs.YtedpdpcibkceeaaDoor
