import Derived.Test.YtedpdpcibkceeaaDoorPck
import Derived.Test.YtedpdpcibkceeaaDoorAsc
import Derived.Test.YtedpdpcibkceeaaDoorPut
import Derived.Test.YtedpdpcibkceeaaDoorMk
/-
  What the examples of the chapter come to, in plain Lean, and blocks known whole that read as slices. No conditions beyond those ahead of each theorem.
-/
namespace Go.Proofs.YtedpdpcibkceeaaDoor
open Go.RowKit Go.Sort Go.Lib
open Go.Lib (hid)
set_option linter.unusedVariables false
set_option linter.unusedSimpArgs false

def mV : Val := .mk 5 0 ⟨#[]⟩ [litV 6 0 ⟨#[]⟩, litV 2 1 ⟨#[]⟩] [⟨#[97]⟩, ⟨#[98]⟩]
def pV : Val := .mk 5 0 ⟨#[]⟩ [litV 0 0 ⟨#[]⟩, litV 2 1 ⟨#[]⟩] [⟨#[97]⟩, ⟨#[98]⟩]
theorem ltS_ab : ltS ⟨#[97]⟩ ⟨#[98]⟩ := by unfold ltS; decide
theorem vU_a : vU ⟨#[97]⟩ = true := by
  unfold vU
  first | rfl | decide | decide +kernel
theorem vU_b : vU ⟨#[98]⟩ = true := by
  unfold vU
  first | rfl | decide | decide +kernel
theorem aw_check : checkV vU mV = 0 := by
  simp [checkV, mV, litV, chkV, chkL, nodeV, nodeE, shapedB, textE, keysE, orderB, Val.kind, Val.num, Val.str, Val.items, Val.keys, ByteArray.size, vU_a, vU_b, ltS_ab]
theorem aw_nine : checkV vU (litV 9 0 ⟨#[]⟩) = 1 := by
  simp [checkV, litV, chkV, chkL, nodeV, nodeE, shapedB, Val.kind, Val.num, Val.str, Val.items, Val.keys, ByteArray.size]
theorem aw_eq : eqV (litV 2 1 ⟨#[]⟩) (litV 2 1 ⟨#[]⟩) = true := by simp [eqV, eqL, litV]
theorem aw_known : knownV mV = false := by simp [knownV, knownL, mV, litV]
theorem aw_knownp : knownV pV = true := by simp [knownV, knownL, pV, litV]
theorem aw_ref : rfnV pV mV = true := by simp [rfnV, rfnL, pV, mV, litV]
theorem aw_ref2 : rfnV mV pV = false := by simp [rfnV, rfnL, pV, mV, litV]
theorem aw_nodes : nodes mV = 3 := by simp [nodes, nodesL, mV, litV]
theorem aw_cmp : cmpV (litV 0 0 ⟨#[]⟩) (litV 1 0 ⟨#[]⟩) = -1 := by simp [cmpV, litV, numC, lex]
theorem aw_asc : AscS mV.keys := ⟨ltS_ab, trivial⟩
theorem aw_low : lowS mV.keys ⟨#[98]⟩ = 1 := by
  have h := ltS_ab
  have h2 := ltS_irrefl ⟨#[98]⟩
  simp [lowS, mV, Val.keys, List.takeWhile, h, h2]
theorem aw_lowa : lowS mV.keys ⟨#[97]⟩ = 0 := by
  have h2 := ltS_irrefl ⟨#[97]⟩
  simp [lowS, mV, Val.keys, List.takeWhile, h2]
theorem aw_has : hasK mV.keys ⟨#[97]⟩ = true := by unfold hasK; rw [aw_lowa]; simp [mV, Val.keys]
theorem aw_get : getV mV ⟨#[98]⟩ = some (litV 2 1 ⟨#[]⟩) := by
  unfold getV getI hasK
  rw [aw_low]
  simp [mV, Val.kind, Val.keys, Val.items]
theorem aw_put : Val.mk mV.kind mV.num mV.str (mV.items.set (lowS mV.keys ⟨#[97]⟩) (litV 0 0 ⟨#[]⟩)) mV.keys = pV := by
  rw [aw_lowa]; simp [mV, pV, Val.kind, Val.keys, Val.items, Val.num, Val.str]

theorem two_perm {α : Type} {d : List (ByteArray × α)} {ka kb : ByteArray} {x y : α} (h : d.Perm [(kb, x), (ka, y)]) (hs : SrtS (d.map Prod.fst)) (hlt : ltS ka kb) : d = [(ka, y), (kb, x)] := by
  have hl := h.length_eq
  match d, hl with
  | [p, q], _ =>
    have hp : p = (kb, x) ∨ p = (ka, y) := by
      have := (h.mem_iff (a := p)).1 (by simp)
      simpa using this
    rcases hp with rfl | rfl
    · have h2 := List.Perm.cons_inv h
      have h3 : q = (ka, y) := by
        have := (h2.mem_iff (a := q)).1 (by simp)
        simpa using this
      subst h3
      exfalso
      exact srt_at hs (i := 0) (j := 1) (by simp) (by simp) (by omega) hlt
    · have h2 := List.Perm.cons_inv (h.trans (List.Perm.swap _ _ _))
      have h3 : q = (kb, x) := by
        have := (h2.mem_iff (a := q)).1 (by simp)
        simpa using this
      rw [h3]
theorem one_perm {α : Type} {d : List α} {x : α} (h : d.Perm [x]) : d = [x] := by
  have hl := h.length_eq
  match d, hl with
  | [p], _ =>
    have := (h.mem_iff (a := p)).1 (by simp)
    simpa using this

/-- A block that is known whole reads as a slice. -/
theorem sl_block {β α : Type} (encf : β → List Value) {sz : Nat} (hsz : ∀ x, (encf x).length = sz) {R : World → List Value → α → Prop} {w : World} {B : Nat} {T : TypeId} {fr : Nat × Nat} {C : Array Value} {ys : List β} {xs : List α} (h : w.heap[B]? = some (.cells C T fr)) (hC : C.toList = ys.flatMap encf)
    (hl : ys.length = xs.length) (hm : xs.length ≤ maxLen) (hR : ∀ (i : Nat) (h : i < ys.length) (h' : i < xs.length), R w (encf ys[i]) xs[i]) : Sl R sz w (.slice (some ⟨B, 0, none⟩) xs.length xs.length) xs := by
  refine ⟨some ⟨B, 0, none⟩, xs.length, rfl, Nat.le_refl _, hm, fun i hi => ⟨B, 0, encf (ys[i]'(by omega)), rfl, hsz _, fun j u hj => ?_, hR i (by omega) hi⟩⟩
  have hjs : j < sz := by have := (List.getElem?_eq_some_iff.1 hj).1; rwa [hsz] at this
  have h1 := flat_get encf sz hsz ys i (by omega) j hjs
  rw [← hC, Array.getElem?_toList] at h1
  unfold World.cell?
  simp only [h, Nat.zero_add]
  simp only [Option.isSome_none, Bool.false_eq_true, if_false]
  rw [h1, hj]
end Go.Proofs.YtedpdpcibkceeaaDoor
