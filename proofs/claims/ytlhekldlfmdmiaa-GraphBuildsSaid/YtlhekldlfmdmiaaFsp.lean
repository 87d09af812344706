import Derived.Test.YtlhekldlfmdmiaaPt
import Derived.Test.YtlhekldlfmdmiaaFrs
/-
  What is said of operations ahead of a walk: booleans, numbers, graphs, lists, new memory. Conditions: those ahead of each theorem.
-/
namespace Go.Proofs.Ytlhekldlfmdmiaa
open Go.RowKit Go.Sort Go.Lib Go.Maps
open Go.Lib (hid)
set_option linter.unusedVariables false
set_option linter.unusedSimpArgs false

def sBool (b : Bool) : Spc := ⟨fun v => v = .bool b, fun _ _ => True⟩
def sInt (n : Int) : Spc := ⟨fun v => v = .int .i64 n, fun _ _ => True⟩
def sNil : Spc := ⟨fun v => ∃ r c, v = .slice r 0 c, fun _ _ => True⟩
def sSome : Spc := ⟨fun v => ∃ r k c, v = .slice r (k + 1) c, fun _ _ => True⟩
def sGr (ns : List ByteArray) (es : List Ed) : Spc := ⟨fun v => ∃ vn ve, v = .agg #[vn, ve], fun v w => ∃ vn ve, v = .agg #[vn, ve] ∧ Sl StrR 1 w vn ns ∧ Sl EdR 2 w ve es⟩
def sLis (n : Nat) (ns : List ByteArray) (p : ByteArray → Prop) : Spc := ⟨fun v => ∃ r k c, v = .slice r k c ∧ k ≤ n, fun v w => ∃ l, Sl StrR 1 w v l ∧ LisP ns p l⟩
def sNew (n : Nat) (o : Obj) : Spc := ⟨fun v => ∃ b, v = .slice (some ⟨b, 0, none⟩) n n, fun v w => ∃ b, v = .slice (some ⟨b, 0, none⟩) n n ∧ w.heap[b]? = some o⟩
def sNat : Spc := ⟨fun v => ∃ n : Nat, v = .int .i64 (n : Int), fun _ _ => True⟩
theorem stNew (n : Nat) (o : Obj) : ∀ v, Stb ((sNew n o).R v) := fun _ _ _ ⟨b, e, h⟩ hl => ⟨b, e, (Below.block hl b (lt_of_block h)).trans h⟩
theorem sNew_at {n b : Nat} {o : Obj} {w : World} (h : (sNew n o).R (.slice (some ⟨b, 0, none⟩) n n) w) : w.heap[b]? = some o := by
  obtain ⟨b', e, h'⟩ := h
  simp at e
  subst e
  exact h'
theorem lits_at {w : World} {b T : Nat} {fr : Nat × Nat} {l : List ByteArray} (h : w.heap[b]? = some (.cells (l.map Value.string).toArray T fr)) (hy : ∀ x ∈ l, x.size ≤ maxLen) (hl : l.length ≤ 1000) : Sl StrR 1 w (.slice (some ⟨b, 0, none⟩) l.length l.length) l := by
  refine ⟨_, _, rfl, Nat.le_refl _, by unfold maxLen; omega, fun i hi => ⟨b, 0, [.string l[i]], rfl, rfl, fun j u hj => ?_, rfl, hy _ (List.getElem_mem hi)⟩⟩
  have hj0 : j = 0 := by
    have := (List.getElem?_eq_some_iff.1 hj).1; simp at this; exact this
  subst hj0
  simp at hj
  subst hj
  rw [cell_of h]
  simp [hi]
theorem lis_len {ns l : List ByteArray} {p : ByteArray → Prop} (h : LisP ns p l) : l.length ≤ ns.length := nodup_len (asc_nodup stoB h.1) fun x hx => ((h.2 x).1 hx).1
theorem sLis_of {n : Nat} {ns l : List ByteArray} {p : ByteArray → Prop} {v : Value} {w : World} (hn : ns.length ≤ n) (h1 : Sl StrR 1 w v l) (h2 : LisP ns p l) : (sLis n ns p).p v ∧ (sLis n ns p).R v w := by
  have h3 := lis_len h2
  obtain ⟨r, c, rfl, _⟩ := id h1
  exact ⟨⟨r, l.length, c, rfl, by omega⟩, l, h1, h2⟩
theorem stTrue : ∀ v : Value, Stb ((fun _ _ => True : Value → World → Prop) v) := fun _ _ _ _ _ => trivial
theorem stGr (ns : List ByteArray) (es : List Ed) : ∀ v, Stb ((sGr ns es).R v) := fun _ _ _ ⟨vn, ve, e, h1, h2⟩ hl => ⟨vn, ve, e, h1.below strR_mono hl, h2.below edR_mono hl⟩
theorem stLis (n : Nat) (ns : List ByteArray) (p : ByteArray → Prop) : ∀ v, Stb ((sLis n ns p).R v) := fun _ _ _ ⟨l, h1, h2⟩ hl => ⟨l, h1.below strR_mono hl, h2⟩
def sWl (l : List ByteArray) : Spc := ⟨fun v => ∃ r k c, v = .slice r k c, fun v w => Sl StrR 1 w v l⟩
theorem stWl (l : List ByteArray) : ∀ v, Stb ((sWl l).R v) := fun _ _ _ h hl => Sl.below strR_mono hl h
theorem sWl_of {l : List ByteArray} {v : Value} {w : World} (h : Sl StrR 1 w v l) : (sWl l).p v ∧ (sWl l).R v w := by
  obtain ⟨r, c, rfl, _⟩ := id h
  exact ⟨⟨_, _, _, rfl⟩, h⟩
theorem sGr_at {ns : List ByteArray} {es : List Ed} {vn ve : Value} {w : World} (h : (sGr ns es).R (.agg #[vn, ve]) w) : Sl StrR 1 w vn ns ∧ Sl EdR 2 w ve es := by
  obtain ⟨vn', ve', e, h1, h2⟩ := h
  simp at e
  obtain ⟨rfl, rfl⟩ := e
  exact ⟨h1, h2⟩
theorem same_true (ns : List ByteArray) (es : List Ed) : sameB ns ns es es = true := by simp [sameB]
end Go.Proofs.Ytlhekldlfmdmiaa
