/-
  Own slices of strings: what an append does to one of four that lie apart. Conditions: those ahead of each theorem.
-/
import Derived.Test.YtdmcceekaopghaaSorted
import Derived.Deep.AppendLies
namespace Go.Proofs.Ytdmcceekaopghaa
open Go.RowKit Go.Sort

def OwnS (B : Nat) (w : World) (v : Value) (xs : List ByteArray) : Prop := w.ownsRow B 9 1 v xs.length (xs.map Value.string) ∧ ∀ x ∈ xs, x.size ≤ maxLen
def Apart (a b : Value) : Prop := ∀ g, a.ownBlock = some g → b.ownBlock ≠ some g
theorem Apart.symm {a b : Value} (h : Apart a b) : Apart b a := fun g h1 h2 => h g h2 h1
theorem Apart.nil (a : Value) : Apart a (.slice none 0 0) := fun g _ h => by simp [Value.ownBlock] at h
theorem Apart.nil' (a : Value) : Apart (.slice none 0 0) a := fun g h => by simp [Value.ownBlock] at h
theorem ownS_nil (B : Nat) (w : World) : OwnS B w (.slice none 0 0) [] := ⟨World.ownsRow_nil w B _ 1, by simp⟩
theorem OwnS.kept {B : Nat} {w w' : World} {v v2 : Value} {xs : List ByteArray} (h : OwnS B w v xs) (hg : w.grownBy w' v2.ownBlock) (ha : Apart v v2) : OwnS B w' v xs :=
  ⟨h.1.kept hg (by
    cases hv : v.ownBlock with
    | none => exact .inl rfl
    | some g => right; exact fun e => ha g hv e.symm), h.2⟩
theorem OwnS.below {B : Nat} {w w' : World} {v : Value} {xs : List ByteArray} (h : OwnS B w v xs) (hb : Below w.heap.size w w') : OwnS B w' v xs :=
  ⟨h.1.kept (row := none) ⟨hb.os, hb.tape, hb.output, hb.size, fun k hk _ => hb.block k hk⟩ (by cases hv : v.ownBlock <;> simp), h.2⟩
theorem Apart.app {B : Nat} {w : World} {a b : Value} {xs : List ByteArray} {g n cap H : Nat} (ha : OwnS B w a xs) (h : Apart a b) (hat : b.ownBlock = some g ∨ g = H) (hH : w.heap.size ≤ H) : Apart a (.slice (some ⟨g, 0, none⟩) n cap) := by
  intro k hk e
  simp [Value.ownBlock] at e
  subst e
  rcases hat with hat | hat
  · exact h g hk hat
  · have := (ha.1.lt _ hk).2; omega
theorem OwnS.sl {B : Nat} {w : World} {v : Value} {xs : List ByteArray} (h : OwnS B w v xs) : Sl StrR 1 w v xs := by
  obtain ⟨h, hx⟩ := h
  rcases h.2 with ⟨rfl, h0⟩ | ⟨g, cap, cur, rfl, hb, hg, hn, hc, hs, ht⟩
  · have : xs = [] := List.eq_nil_of_length_eq_zero h0
    subst this
    exact ⟨none, 0, rfl, by simp, by simp, fun i hi => absurd hi (by simp)⟩
  · refine ⟨some ⟨g, 0, none⟩, cap, rfl, hn, hc, fun i hi => ⟨g, 0, [.string xs[i]], rfl, rfl, fun j u hj => ?_, rfl, hx _ (List.getElem_mem hi)⟩⟩
    have hj0 : j = 0 := by
      have := (List.getElem?_eq_some_iff.1 hj).1; simp at this; exact this
    subst hj0
    simp at hj
    subst hj
    have e1 : (cur.toList.take (xs.length * 1))[i]? = (xs.map Value.string)[i]? := by rw [ht]
    rw [List.getElem?_take, if_pos (by omega), Array.getElem?_toList, List.getElem?_map, List.getElem?_eq_getElem hi] at e1
    unfold World.cell?
    simp only [hg, Nat.zero_add, Nat.mul_one, Nat.add_zero]
    simpa using e1

theorem sinfo : (Try.prog.info? 9).map (fun i => (i.zero, i.size, i.bytes)) = some (some (.string ByteArray.empty), 1, 16) := by kernel_rfl

/-- append of one string to an own slice. -/
theorem wpList_append_str {w : World} {ops : Array Oper} {rest : List Oper} {o : Oper} {a : Act} {Q : Exit → Act → World → Prop} (hgd : o.guard = none) (s x : Operand)
    (ho : o.op = .call { callee := .builtin .append, args := #[s, x], argTypes := #[44, 44] })
    (B : Nat) (v : Value) (xs : List ByteArray) (hs : a.eval s = v) (hown : OwnS B w v xs) (ad : Addr) (y : ByteArray) (hx : a.eval x = .slice (some ad) 1 1) (hy : w.cell? ad = some (.string y)) (hys : y.size ≤ maxLen)
    (hn : xs.length ≤ 1000000) (hbase : B ≤ w.heap.size)
    (h : ∀ g cap w', OwnS B w' (.slice (some ⟨g, 0, none⟩) (xs.length + 1) cap) (xs ++ [y]) → w.grownBy w' v.ownBlock → (v.ownBlock = some g ∨ g = w.heap.size) → g < w'.heap.size →
      wpList Try.prog ops Q rest (a.put o.dst (.slice (some ⟨g, 0, none⟩) (xs.length + 1) cap)) w') : wpList Try.prog ops Q (o :: rest) a w := by
  obtain ⟨i0, hi, hz0, hz1, hz2⟩ := info_parts sinfo
  refine wpList_append_lies w hgd s x 44 ho B 9 i0 (.string ByteArray.empty) 1 16 Try.underlying44 hi hz0 hz1 hz2 rfl (by omega) v xs.length (xs.map Value.string) hs hown.1 ad 1 1 [.string y] hx rfl ?_ ?_ (by omega) (by unfold maxLen; omega) (by omega) hbase _ rfl ?_
  · intro j u hj
    have hj0 : j = 0 := by
      have := (List.getElem?_eq_some_iff.1 hj).1; simp at this; exact this
    subst hj0
    simp at hj
    subst hj
    simpa [Addr.add] using hy
  · intro u hu
    simp at hu; subst hu; rfl
  · intro g cap w' h1 h2 h3 h4
    refine h g cap w' ⟨?_, ?_⟩ h2 h3 h4
    · simpa using h1
    · intro z hz
      rw [List.mem_append] at hz
      rcases hz with hz | hz
      · exact hown.2 z hz
      · simp at hz; subst hz; exact hys

def hasS (xs : List ByteArray) (x : ByteArray) : Bool := Lib.containsS xs x
theorem hasS_iff {xs : List ByteArray} {x : ByteArray} : hasS xs x = true ↔ x ∈ xs := Lib.containsS_iff xs x
theorem has_any (v : Value) (xs : List ByteArray) (x : ByteArray) (w : World) (h : Sl StrR 1 w v xs) :
    Calls Try.prog 27 #[v, .string x] w fun e w' => e = .returned (.bool (hasS xs x)) ∧ w' = w := by
  obtain ⟨r, cap, rfl, hl, hm, he⟩ := h
  unfold maxLen at hm
  by_cases h0 : xs = []
  · subst h0
    exact Try.slices_Contains_string_empty r cap x w
  · have hpos : 0 < xs.length := List.length_pos_iff.2 h0
    obtain ⟨b, off, _, rfl, _, _, _⟩ := he 0 hpos
    have := Try.slices_Contains_string b off xs.length cap xs x w (Nat.le_refl _) (by omega) (fun j hj => by
      obtain ⟨b', off', cs, hr, _, hc, hx, _⟩ := he j hj
      simp at hr
      obtain ⟨rfl, rfl⟩ := hr
      have := hc 0 _ hx
      simp only [Nat.mul_one, Nat.add_zero] at this
      rw [this, List.getD_eq_getElem?_getD, List.getElem?_eq_getElem hj]; rfl)
    rw [List.take_length] at this
    exact this

/-- Four own slices that lie apart from each other. -/
structure Four (B : Nat) (w : World) (a b c d : Value) (A X C D : List ByteArray) : Prop where
  oa : OwnS B w a A
  ob : OwnS B w b X
  oc : OwnS B w c C
  od : OwnS B w d D
  ab : Apart a b
  ac : Apart a c
  ad : Apart a d
  bc : Apart b c
  bd : Apart b d
  cd : Apart c d
theorem Four.below {B : Nat} {w w' : World} {a b c d : Value} {A X C D : List ByteArray} (h : Four B w a b c d A X C D) (hb : Below w.heap.size w w') : Four B w' a b c d A X C D :=
  ⟨h.oa.below hb, h.ob.below hb, h.oc.below hb, h.od.below hb, h.ab, h.ac, h.ad, h.bc, h.bd, h.cd⟩
theorem Four.appA {B : Nat} {w w' : World} {a b c d : Value} {A A' X C D : List ByteArray} {g n cap : Nat} (h : Four B w a b c d A X C D) (hg : w.grownBy w' a.ownBlock) (hat : a.ownBlock = some g ∨ g = w.heap.size)
    (ho : OwnS B w' (.slice (some ⟨g, 0, none⟩) n cap) A') : Four B w' (.slice (some ⟨g, 0, none⟩) n cap) b c d A' X C D :=
  ⟨ho, h.ob.kept hg h.ab.symm, h.oc.kept hg h.ac.symm, h.od.kept hg h.ad.symm, (h.ab.symm.app h.ob hat (Nat.le_refl _)).symm, (h.ac.symm.app h.oc hat (Nat.le_refl _)).symm, (h.ad.symm.app h.od hat (Nat.le_refl _)).symm, h.bc, h.bd, h.cd⟩
theorem Four.swapAB {B : Nat} {w : World} {a b c d : Value} {A X C D : List ByteArray} (h : Four B w a b c d A X C D) : Four B w b a c d X A C D :=
  ⟨h.ob, h.oa, h.oc, h.od, h.ab.symm, h.bc, h.bd, h.ac, h.ad, h.cd⟩
theorem Four.swapAC {B : Nat} {w : World} {a b c d : Value} {A X C D : List ByteArray} (h : Four B w a b c d A X C D) : Four B w c b a d C X A D :=
  ⟨h.oc, h.ob, h.oa, h.od, h.bc.symm, h.ac.symm, h.cd, h.ab.symm, h.bd, h.ad⟩
theorem Four.swapAD {B : Nat} {w : World} {a b c d : Value} {A X C D : List ByteArray} (h : Four B w a b c d A X C D) : Four B w d b c a D X C A :=
  ⟨h.od, h.ob, h.oc, h.oa, h.bd.symm, h.cd.symm, h.ad.symm, h.bc, h.ab.symm, h.ac.symm⟩
end Go.Proofs.Ytdmcceekaopghaa
