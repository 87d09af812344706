import Derived.Deep.RegionHeld3
import Derived.KernelRfl
/-
  Several operations of a drawn region whose guard is false, passed over at once. No program in sight. No conditions beyond those ahead of each theorem.
-/
namespace Go.Proofs.Ytdmcceekaopghaa
set_option linter.unusedVariables false

def skipsB (md : Region.Mode) (ops : Array Oper) : List (Nat × Nat) → Array Bool → Act → Bool
  | [], _, _ => true
  | (i, d) :: is, l, a => match ops[i]? with
    | none => false
    | some o => decide (o.dst = some d) && (Region.free md ops l i && ((Region.ready md ops l).contains i && (!(Region.wanted o (yielded ops a.tmps)) && skipsB md ops is (l.setIfInBounds i true) (a.put (some d) undef))))
def skipsA : List (Nat × Nat) → Act → Act
  | [], a => a
  | (_, d) :: is, a => skipsA is (a.put (some d) undef)
theorem wpAnyH_skips0 {P : Program} {ops : Array Oper} {Q : Exit → Act → World → Prop} {md : Region.Mode} {S : World → Prop} (hs : Region.noSelect ops = true) (hQ : ∀ (d : Nat) c a w, Q (.panic c) (a.put (some d) undef) w → Q (.panic c) a w) {w : World} (hS : S w) :
    ∀ (is : List (Nat × Nat)) (fuel : Nat) (l : Array Bool) (a : Act), skipsB md ops is l a = true → wpAnyH P md ops Q S fuel (is.foldl (fun l i => l.setIfInBounds i.1 true) l) (skipsA is a) w → wpAnyH P md ops Q S (fuel + is.length) l a w
  | [], _, _, _, _, h => h
  | (i, d) :: is, fuel, l, a, hb, h => by
    unfold skipsB at hb
    unfold skipsA at h
    cases ho : ops[i]? with
    | none => rw [ho] at hb; cases hb
    | some o =>
      rw [ho] at hb
      simp only [Bool.and_eq_true, Bool.not_eq_true', decide_eq_true_eq] at hb
      obtain ⟨h0, h1, h2, h3, h4⟩ := hb
      have := wpAnyH_take (Q := Q) (a := a) ho hs h1 h2 (fun c a w => by rw [h0]; exact hQ d c a w) (Or.inr ⟨h3, rfl⟩) hS (by rw [h0]; exact wpAnyH_skips0 hs hQ hS is fuel _ _ h4 h)
      exact this
/-- The operations (number, slot) whose guard is false come up in whatever order: they leave their slots undefined. -/
theorem wpAnyH_skips {P : Program} {ops : Array Oper} {Q : Exit → Act → World → Prop} {md : Region.Mode} {S : World → Prop} {w : World} {fuel' : Nat} {l : Array Bool} {a : Act} (is : List (Nat × Nat)) (fuel : Nat) (hf : fuel' = fuel + is.length) (hs : Region.noSelect ops = true) (hQ : ∀ (d : Nat) c a w, Q (.panic c) (a.put (some d) undef) w → Q (.panic c) a w) (hS : S w)
    (hb : skipsB md ops is l a = true) (h : wpAnyH P md ops Q S fuel (is.foldl (fun l i => l.setIfInBounds i.1 true) l) (skipsA is a) w) : wpAnyH P md ops Q S fuel' l a w := by
  subst hf; exact wpAnyH_skips0 hs hQ hS is fuel l a hb h
/-- 'wpAnyH_take' with the slot written out. -/
theorem wpAnyH_takeD {P : Program} {ops : Array Oper} {Q : Exit → Act → World → Prop} {md : Region.Mode} {S : World → Prop} (i d : Nat) {oi : Oper} {v : Value} {fuel : Nat} {l : Array Bool} {a : Act} {w : World} (hi : ops[i]? = some oi) (hd : oi.dst = some d)
    (hs : Region.noSelect ops = true) (hf : Region.free md ops l i = true) (hr : (Region.ready md ops l).contains i = true) (hQ : ∀ (d : Nat) c a w, Q (.panic c) (a.put (some d) v) w → Q (.panic c) a w) (hS : S w)
    (hy : YieldsIf P ops S oi v a) (h : wpAnyH P md ops Q S fuel (l.setIfInBounds i true) (a.put (some d) v) w) : wpAnyH P md ops Q S (fuel + 1) l a w :=
  wpAnyH_take hi hs hf hr (by rw [hd]; exact hQ d) hy hS (by rw [hd]; exact h)
end Go.Proofs.Ytdmcceekaopghaa
