import Derived.Deep.Quiet
import Derived.Lib.QuietBelow
import Derived.Test.YtpnogmicfomofaaGreatDoorZc
/-
  Regions that draw their order and whose calls hand back fresh memory: one walk, in the order of the text. No program in sight. Conditions: those ahead of each theorem.
-/
namespace Go.Proofs.YtpnogmicfomofaaGreatDoor.Stp
open Go.RowKit Go.Sort
set_option linter.unusedVariables false
set_option linter.unusedSimpArgs false

/-- Later: of what was there nothing has turned. -/
def Lat (w w' : World) : Prop := Below w.heap.size w w'
theorem Lat.refl (w : World) : Lat w w := Below.refl _ _
theorem Lat.trans {a b c : World} (h : Lat a b) (h2 : Lat b c) : Lat a c := Below.trans h (Below.mono h2 h.size)
def Stb (R : World → Prop) : Prop := ∀ w w', R w → Lat w w' → R w'
/-- What is said of an operation ahead of the walk: of the value, and of the value in the world. -/
structure Spc where
  p : Value → Prop
  R : Value → World → Prop
def frUpon (P : Program) (w : World) (s : Spc) : Result Next → Prop
  | .ok (.value u) w' => Lat w w' ∧ s.p u ∧ s.R u w'
  | .ok .skip w' => Lat w w' ∧ s.p undef ∧ s.R undef w'
  | .ok (.enter f args) w' => w' = w ∧ Calls P f args w (fun e w'' => ∃ u, e = .returned u ∧ Lat w w'' ∧ s.p u ∧ s.R u w'')
  | _ => False
inductive Bef (md : Region.Mode) (ops : Array Oper) : Nat → Nat → Prop
  | one {j k : Nat} {o : Oper} {e : Edge} : ops[k]? = some o → e ∈ o.after → Region.binds md e = true → e.on = j → Bef md ops j k
  | two {i j k : Nat} : Bef md ops i j → Bef md ops j k → Bef md ops i k
def updE (E : Nat → World → Prop) (k : Nat) (R : World → Prop) : Nat → World → Prop := fun j => if j = k then R else E j
theorem updE_comm {E : Nat → World → Prop} {i j : Nat} {A B : World → Prop} (h : i ≠ j) : updE (updE E i A) j B = updE (updE E j B) i A := by
  funext k
  unfold updE
  by_cases h1 : k = j
  · subst h1; rw [if_pos rfl, if_neg (fun e => h e.symm), if_pos rfl]
  · rw [if_neg h1]
    by_cases h2 : k = i
    · rw [if_pos h2, if_pos h2]
    · rw [if_neg h2, if_neg h2, if_neg h1]

section
variable {P : Program} {ops : Array Oper} {md : Region.Mode} {C : World → Prop} {sp : Nat → Option Spc}

def pQ (P : Program) (C : World → Prop) (X : Sem Next) (u : Value) : Prop := ∀ w, C w → Oper.quietUpon P C w u (X.run P w)
def noEnter (P : Program) (X : Sem Next) : Prop := ∀ w f args w', X.run P w ≠ .ok (.enter f args) w'
def fSpec (P : Program) (md : Region.Mode) (ops : Array Oper) (C : World → Prop) (sp : Nat → Option Spc) (i : Nat) (o : Oper) (E : Nat → World → Prop) (a : Act) : Prop :=
  Region.wanted o (yielded ops a.tmps) = true → match sp i with
    | none => noEnter P (execOp a.eval o) ∧ ∃ u, pQ P C (execOp a.eval o) u
    | some s => (∃ u, s.p u) ∧ (∀ v, Stb (s.R v)) ∧ ∀ w, C w → (∀ j, Bef md ops j i → E j w) → frUpon P w s ((execOp a.eval o).run P w)
def fOut (P : Program) (ops : Array Oper) (C : World → Prop) (sp : Nat → Option Spc) (i : Nat) (o : Oper) (a : Act) (u : Value) : Prop :=
  if Region.wanted o (yielded ops a.tmps) = true then (match sp i with | none => pQ P C (execOp a.eval o) u | some s => s.p u) else u = undef
def fFact (ops : Array Oper) (sp : Nat → Option Spc) (i : Nat) (o : Oper) (a : Act) (u : Value) : World → Prop :=
  if Region.wanted o (yielded ops a.tmps) = true then (match sp i with | none => fun _ => True | some s => s.R u) else fun _ => True

/-- The walk in the order of the text. -/
def wpF (P : Program) (md : Region.Mode) (ops : Array Oper) (C : World → Prop) (sp : Nat → Option Spc) (Q : (Nat → World → Prop) → Act → Prop) : List Oper → Nat → (Nat → World → Prop) → Act → Prop
  | [], _, E, a => Q E a
  | o :: rest, k, E, a => fSpec P md ops C sp k o E a ∧ ∀ u, fOut P ops C sp k o a u → wpF P md ops C sp Q rest (k + 1) (updE E k (fFact ops sp k o a u)) (a.put o.dst u)
/-- The walk in every order. -/
def wpAnyF (P : Program) (md : Region.Mode) (ops : Array Oper) (C : World → Prop) (sp : Nat → Option Spc) (Q : (Nat → World → Prop) → Act → Prop) : Nat → Array Bool → (Nat → World → Prop) → Act → Prop
  | 0, listed, E, a => Region.ready md ops listed = [] ∧ Q E a
  | fuel + 1, listed, E, a =>
    (Region.ready md ops listed = [] → Q E a) ∧
    ∀ i ∈ Region.ready md ops listed, ∀ o, ops[i]? = some o → fSpec P md ops C sp i o E a ∧ ∀ u, fOut P ops C sp i o a u → wpAnyF P md ops C sp Q fuel (listed.setIfInBounds i true) (updE E i (fFact ops sp i o a u)) (a.put o.dst u)

theorem fSpec_put {j : Nat} {o : Oper} {E : Nat → World → Prop} {a : Act} {dst : Option Tmp} {v : Value} (hs : ∀ cs b, o.op ≠ .select cs b) (h : ∀ d, dst = some d → d ∉ o.looksAt ops) : fSpec P md ops C sp j o E (a.put dst v) ↔ fSpec P md ops C sp j o E a := by
  unfold fSpec
  rw [wanted_put o a dst v h, execOp_put o hs a dst v h]
theorem fOut_put {j : Nat} {o : Oper} {a : Act} {dst : Option Tmp} {v u : Value} (hs : ∀ cs b, o.op ≠ .select cs b) (h : ∀ d, dst = some d → d ∉ o.looksAt ops) : fOut P ops C sp j o (a.put dst v) u ↔ fOut P ops C sp j o a u := by
  unfold fOut
  rw [wanted_put o a dst v h, execOp_put o hs a dst v h]
theorem fFact_put {j : Nat} {o : Oper} {a : Act} {dst : Option Tmp} {v u : Value} (h : ∀ d, dst = some d → d ∉ o.looksAt ops) : fFact ops sp j o (a.put dst v) u = fFact ops sp j o a u := by
  unfold fFact
  rw [wanted_put o a dst v h]
theorem fSpec_upd {i j : Nat} {o : Oper} {E : Nat → World → Prop} {a : Act} {A : World → Prop} (h : ¬ Bef md ops i j) : fSpec P md ops C sp j o (updE E i A) a ↔ fSpec P md ops C sp j o E a := by
  unfold fSpec
  have key : ∀ w, (∀ k, Bef md ops k j → updE E i A k w) ↔ (∀ k, Bef md ops k j → E k w) := fun w => by
    constructor
    · intro hh k hk
      have := hh k hk
      unfold updE at this
      rwa [if_neg (fun e => h (by rw [← e]; exact hk))] at this
    · intro hh k hk
      unfold updE
      rw [if_neg (fun e => h (by rw [← e]; exact hk))]
      exact hh k hk
  cases sp j with
  | none => exact Iff.rfl
  | some s => simp only [key]
theorem fOut_ne {i : Nat} {o : Oper} {E : Nat → World → Prop} {a : Act} (h : fSpec P md ops C sp i o E a) : ∃ u, fOut P ops C sp i o a u := by
  unfold fOut
  by_cases hw : Region.wanted o (yielded ops a.tmps) = true
  · have h1 := h hw
    simp only [hw, if_true]
    cases hs : sp i with
    | none => rw [hs] at h1; exact h1.2
    | some s => rw [hs] at h1; exact h1.1
  · exact ⟨undef, by rw [if_neg hw]⟩
/-- Those ahead are done. -/
def Dwn (md : Region.Mode) (ops : Array Oper) (listed : Array Bool) : Prop := ∀ j k, Bef md ops j k → listed.getD k false = true → listed.getD j false = true
theorem bef_ready {listed : Array Bool} (hD : Dwn md ops listed) {i : Nat} (hr : i ∈ Region.ready md ops listed) {j : Nat} (hb : Bef md ops j i) : listed.getD j false = true := by
  induction hb with
  | one h1 h2 h3 h4 =>
    obtain ⟨_, o, ho, hall⟩ := mem_ready.1 hr
    rw [ho] at h1; cases h1
    subst h4
    exact hall _ h2 h3
  | two h1 h2 _ ih2 => exact hD _ _ h1 (ih2 hr)
theorem not_listed {listed : Array Bool} {j : Nat} (h : listed.getD j true = false) : listed.getD j false ≠ true := fun e => by
  rcases Nat.lt_or_ge j listed.size with h' | h'
  · simp [h'] at h e; rw [h] at e; cases e
  · simp [Array.getElem?_eq_none h'] at e
theorem Dwn.add {listed : Array Bool} (hD : Dwn md ops listed) {i : Nat} (hr : i ∈ Region.ready md ops listed) : Dwn md ops (listed.setIfInBounds i true) := by
  intro j k hb hk
  by_cases e : i = k
  · subst e
    exact getD_set_true (bef_ready hD hr hb)
  · rw [getD_set_ne false e] at hk
    exact getD_set_true (hD j k hb hk)

theorem wpAnyF_first {Q : (Nat → World → Prop) → Act → Prop} {i : Nat} {oi : Oper} (hi : ops[i]? = some oi) (hsel : ∀ (j : Nat) (o : Oper) cs b, ops[j]? = some o → o.op ≠ .select cs b) :
    ∀ (fuel : Nat) (listed : Array Bool) (E : Nat → World → Prop) (a : Act),
      (∀ j oj, ops[j]? = some oj → j ≠ i → listed.getD j true = false → (∀ e ∈ oj.after, Region.binds md e = true → e.on ≠ i) → oi.apart ops oj = true) →
      Dwn md ops listed → i ∈ Region.ready md ops listed → fSpec P md ops C sp i oi E a →
      (∀ u, fOut P ops C sp i oi a u → wpAnyF P md ops C sp Q fuel (listed.setIfInBounds i true) (updE E i (fFact ops sp i oi a u)) (a.put oi.dst u)) → wpAnyF P md ops C sp Q (fuel + 1) listed E a := by
  intro fuel
  induction fuel with
  | zero =>
    intro listed E a _ _ hr hy H
    refine ⟨fun h => (by rw [h] at hr; cases hr), fun j hj oj hoj => ?_⟩
    by_cases hji : j = i
    · subst hji
      rw [hi] at hoj; cases hoj
      exact ⟨hy, H⟩
    · obtain ⟨u, hu⟩ := fOut_ne hy
      have := ready_mono hj hji
      rw [(H u hu).1] at this
      cases this
  | succ fuel ih =>
    intro listed E a hfree hD hr hy H
    refine ⟨fun h => (by rw [h] at hr; cases hr), fun j hj oj hoj => ?_⟩
    by_cases hji : j = i
    · subst hji
      rw [hi] at hoj; cases hoj
      exact ⟨hy, H⟩
    · obtain ⟨hjun, oj', hoj', hall⟩ := mem_ready.1 hj
      rw [hoj] at hoj'; cases hoj'
      have hiun := (mem_ready.1 hr).1
      have hnot : ∀ e ∈ oj.after, Region.binds md e = true → e.on ≠ i := fun e he hb heq => by
        have h1 := hall e he hb
        rw [heq] at h1
        exact not_listed hiun h1
      obtain ⟨h1, h2, h3⟩ := Oper.apart_spec (hfree j oj hoj hji hjun hnot)
      have hsi := fun cs b => hsel i oi cs b hi
      have hsj := fun cs b => hsel j oj cs b hoj
      have nbij : ¬ Bef md ops i j := fun hb => not_listed hiun (bef_ready hD hj hb)
      have nbji : ¬ Bef md ops j i := fun hb => not_listed hjun (bef_ready hD hr hb)
      obtain ⟨u0, hu0⟩ := fOut_ne hy
      have hj0 := (H u0 hu0).2 j (ready_mono hj hji) oj hoj
      have hsp := (fSpec_upd nbij).1 ((fSpec_put hsj h1).1 hj0.1)
      refine ⟨hsp, fun uj huj => ?_⟩
      have hfree' : ∀ k ok, ops[k]? = some ok → k ≠ i → (listed.setIfInBounds j true).getD k true = false →
          (∀ e ∈ ok.after, Region.binds md e = true → e.on ≠ i) → oi.apart ops ok = true := fun k ok hk hki hun hno => by
        refine hfree k ok hk hki ?_ hno
        by_cases hjk : j = k
        · subst hjk; exact hjun
        · rw [getD_set_ne true hjk] at hun; exact hun
      refine ih (listed.setIfInBounds j true) (updE E j (fFact ops sp j oj a uj)) (a.put oj.dst uj) hfree' (hD.add hj) (ready_mono hr (Ne.symm hji)) ((fSpec_put hsi h3).2 ((fSpec_upd nbji).2 hy)) fun ui hui => ?_
      rw [fOut_put hsi h3] at hui
      have hj1 := ((H ui hui).2 j (ready_mono hj hji) oj hoj).2 uj ((fOut_put hsj h1).2 huj)
      rw [fFact_put h1, updE_comm (Ne.symm hji)] at hj1
      rw [fFact_put h3, Array.setIfInBounds_comm _ _ hji, Act.put_comm a uj ui (fun d hd => fun hd2 => h2 d hd2 hd)]
      exact hj1

theorem wpAnyF_lex {Q : (Nat → World → Prop) → Act → Prop} (hs : Region.noSelect ops = true) : ∀ (l : List Oper) (k : Nat) (listed : Array Bool) (E : Nat → World → Prop) (a : Act), (∀ j, l[j]? = ops[k + j]?) →
    Region.lexFrom md ops l.length k listed = true → Dwn md ops listed → wpF P md ops C sp Q l k E a → wpAnyF P md ops C sp Q l.length listed E a
  | [], _, _, _, _, _, hB, _, h => ⟨by simpa [Region.lexFrom] using hB, h⟩
  | o :: l, k, listed, E, a, hl, hB, hD, h => by
    have h0 : ops[k]? = some o := by simpa using (hl 0).symm
    simp only [List.length_cons, Region.lexFrom, Bool.and_eq_true] at hB
    obtain ⟨⟨hr, hf⟩, hB'⟩ := hB
    have hr' : k ∈ Region.ready md ops listed := by simpa using hr
    exact wpAnyF_first h0 (Region.noSelect_spec hs) l.length listed E a (Region.free_spec h0 hf) hD hr' h.1 fun u hu =>
      wpAnyF_lex hs l (k + 1) _ _ _ (fun j => by have := hl (j + 1); simpa [Nat.add_assoc, Nat.add_comm 1 j] using this) hB' (hD.add hr') (h.2 u hu)

theorem run_told {i : Nat} {o : Oper} {E : Nat → World → Prop} {a : Act} {w : World} {K : Act → World → Prop} {Q' : Exit → Act → World → Prop} (hw : C w) (h1 : fSpec P md ops C sp i o E a) (hE : ∀ j, E j w)
    (key : ∀ u w', fOut P ops C sp i o a u → Lat w w' → (∀ v, Stb (fFact ops sp i o a v)) → fFact ops sp i o a u w' → K (a.put o.dst u) w') :
    if Region.wanted o (yielded ops a.tmps) = true then o.wp P a w K Q' ∨ (o.asks P a w ∧ LetsOut Q') else K (a.put o.dst undef) w := by
  by_cases hwt : Region.wanted o (yielded ops a.tmps) = true
  · rw [if_pos hwt]
    refine Or.inl ?_
    have h3 := h1 hwt
    unfold fOut fFact at key
    simp only [hwt, if_true] at key
    unfold Oper.wp
    cases hs : sp i with
    | none =>
      rw [hs] at h3 key
      simp only at h3 key
      obtain ⟨hne, u, hu⟩ := h3
      have hst : ∀ v : Value, Stb (fun _ => True) := fun _ _ _ _ _ => trivial
      have hrn := hu w hw
      have hkk := key u w hu (Lat.refl w) hst trivial
      generalize hr : (execOp a.eval o).run P w = r at *
      cases r with
      | ok n w' =>
        cases n <;> simp only [Oper.quietUpon] at hrn <;> simp only [Oper.upon]
        case value u' =>
          obtain ⟨e1, e2⟩ := hrn
          rw [e1, e2]; exact hkk
        case skip =>
          obtain ⟨e1, e2⟩ := hrn
          rw [e1, ← e2]; exact hkk
        case enter f args => exact absurd hr (hne w f args w')
      | halt x w' => simp only [Oper.quietUpon] at hrn
    | some s =>
      rw [hs] at h3 key
      simp only at h3 key
      have hrn := h3.2.2 w hw (fun j _ => hE j)
      have key2 := fun u w' h4 h5 h6 => key u w' h4 h5 h3.2.1 h6
      clear key
      generalize hr : (execOp a.eval o).run P w = r at *
      cases r with
      | ok n w' =>
        cases n <;> simp only [frUpon] at hrn <;> simp only [Oper.upon]
        case value u' => exact key2 u' w' hrn.2.1 hrn.1 hrn.2.2
        case skip => exact key2 undef w' hrn.2.1 hrn.1 hrn.2.2
        case enter f args =>
          obtain ⟨e1, hc⟩ := hrn
          rw [e1]
          exact hc.mono fun e w'' ⟨u, he, hl, hp, hR⟩ => by subst he; exact key2 u w'' hp hl hR
      | halt x w' => simp only [frUpon] at hrn
  · rw [if_neg hwt]
    unfold fOut fFact at key
    simp only [hwt] at key
    exact key undef w (by simp) (Lat.refl w) (fun _ _ _ _ _ => trivial) trivial
theorem wpAny_of_F {Q : (Nat → World → Prop) → Act → Prop} {Q' : Exit → Act → World → Prop} (hCl : ∀ w w', C w → Lat w w' → C w') (hQ : ∀ E a w, C w → (∀ j, E j w) → Q E a → Q' .normal a w) : ∀ (fuel : Nat) (listed : Array Bool) (E : Nat → World → Prop) (a : Act) (w : World), C w → (∀ j, E j w) → (∀ j, Stb (E j)) →
    wpAnyF P md ops C sp Q fuel listed E a → wpAny P md ops Q' fuel listed a w
  | 0, _, _, _, _, hw, hE, _, h => ⟨h.1, hQ _ _ _ hw hE h.2⟩
  | fuel + 1, listed, E, a, w, hw, hE, hS, h => by
    refine ⟨fun h0 => hQ _ _ _ hw hE (h.1 h0), fun i hi => ?_⟩
    obtain ⟨_, o, ho, _⟩ := mem_ready.1 hi
    obtain ⟨h1, h2⟩ := h.2 i hi o ho
    have key : ∀ u w', fOut P ops C sp i o a u → Lat w w' → (∀ v, Stb (fFact ops sp i o a v)) → fFact ops sp i o a u w' → wpAny P md ops Q' fuel (listed.setIfInBounds i true) (a.put o.dst u) w' := fun u w' hu hl hst hf => by
      refine wpAny_of_F hCl hQ fuel _ _ _ _ (hCl _ _ hw hl) (fun j => ?_) (fun j => ?_) (h2 u hu)
      · unfold updE
        split
        · exact hf
        · exact hS j _ _ (hE j) hl
      · unfold updE
        split
        · exact hst u
        · exact hS j
    unfold wpOp
    rw [ho]
    simp only
    exact run_told hw h1 hE key
/-! A region whose last operation may do anything, a store for one: it waits for all others. -/
theorem wanted_snoc {l : List Oper} {o x : Oper} {t : Array Value} (hg : ∀ g b, x.guard = some (g, b) → g < l.length) : Region.wanted x (yielded (l ++ [o]).toArray t) = Region.wanted x (yielded l.toArray t) := by
  unfold Region.wanted
  cases hx : x.guard with
  | none => rfl
  | some gw =>
    obtain ⟨g, b⟩ := gw
    have hlt := hg g b hx
    have : yielded (l ++ [o]).toArray t g = yielded l.toArray t g := by
      unfold yielded
      simp [List.getElem?_append_left hlt]
    simp only [this]
theorem getD_push {listed : Array Bool} {i : Nat} {d : Bool} : (listed.push false).getD i d = if i < listed.size then listed.getD i d else if i = listed.size then false else d := by
  rcases Nat.lt_trichotomy i listed.size with h | h | h
  · simp [Array.getElem?_push, h, Nat.ne_of_lt h]
  · subst h; simp [Array.getElem?_push]
  · have h1 : ¬ i < listed.size := by omega
    have h2 : ¬ i = listed.size := by omega
    rw [if_neg h1, if_neg h2]
    simp [Array.getElem?_push, h2, Array.getElem?_eq_none (show listed.size ≤ i by omega)]
theorem set_push {listed : Array Bool} {i : Nat} (h : i < listed.size) : (listed.push false).setIfInBounds i true = (listed.setIfInBounds i true).push false := by
  apply Array.ext_getElem?
  intro k
  simp only [Array.getElem?_setIfInBounds, Array.getElem?_push, Array.size_push, Array.size_setIfInBounds]
  by_cases hk : i = k
  · subst hk
    simp [h, Nat.ne_of_lt h]; omega
  · simp [hk]
theorem all_listed {l : List Oper} {listed : Array Bool} (hs : listed.size = l.length) (hac : ∀ (i : Nat) (x : Oper), l[i]? = some x → ∀ e ∈ x.after, e.on < i) (hr : Region.ready md l.toArray listed = []) : ∀ i, i < l.length → listed.getD i false = true := by
  intro i
  induction i using Nat.strongRecOn with
  | _ i ih =>
    intro hi
    refine Classical.byContradiction fun hn => ?_
    have h0 : listed.getD i true = false := by
      have hlt : i < listed.size := by omega
      simp [hlt] at hn ⊢
      exact hn
    have : i ∈ Region.ready md l.toArray listed := mem_ready.2 ⟨h0, l[i], by simp [hi], fun e he _ => by
      have := hac i l[i] (by simp [hi]) e he
      exact ih e.on this (by omega)⟩
    rw [hr] at this
    cases this
theorem wpAny_done {Q' : Exit → Act → World → Prop} {listed : Array Bool} {a : Act} {w : World} (hr : Region.ready md ops listed = []) (h : Q' .normal a w) : ∀ m, wpAny P md ops Q' m listed a w
  | 0 => ⟨hr, h⟩
  | m + 1 => ⟨fun _ => h, fun i hi => by rw [hr] at hi; cases hi⟩
theorem wpAny_of_last {l : List Oper} {o : Oper} {Q : (Nat → World → Prop) → Act → Prop} {Q' : Exit → Act → World → Prop} (hCl : ∀ w w', C w → Lat w w' → C w') (hog : o.guard = none)
    (hQ : ∀ E a w, C w → (∀ j, E j w) → Q E a → o.wp P a w (fun a w => Q' .normal a w) Q')
    (hac : ∀ (i : Nat) (x : Oper), l[i]? = some x → ∀ e ∈ x.after, e.on < i) (hgd : ∀ (i : Nat) (x : Oper), l[i]? = some x → ∀ g b, x.guard = some (g, b) → g < l.length) (hon : ∀ e ∈ o.after, e.on < l.length)
    (hall : ∀ j, j < l.length → Bef md (l ++ [o]).toArray j l.length) :
    ∀ (m : Nat) (listed : Array Bool) (E : Nat → World → Prop) (a : Act) (w : World), listed.size = l.length → Dwn md (l ++ [o]).toArray (listed.push false) → C w → (∀ j, E j w) → (∀ j, Stb (E j)) →
      wpAnyF P md l.toArray C sp Q m listed E a → wpAny P md (l ++ [o]).toArray Q' (m + 1) (listed.push false) a w := by
  have endc : ∀ (m : Nat) (listed : Array Bool) (E : Nat → World → Prop) (a : Act) (w : World), listed.size = l.length → C w → (∀ j, E j w) → Region.ready md l.toArray listed = [] → Q E a → wpAny P md (l ++ [o]).toArray Q' (m + 1) (listed.push false) a w := by
    intro m listed E a w hs hw hE hr hq
    have hl := all_listed hs hac hr
    have hlt : ∀ i, i < l.length → listed.getD i true = true := fun i hi => by
      have h1 := hl i hi
      have h2 : i < listed.size := by omega
      simp [h2] at h1 ⊢
      exact h1
    have hmem : l.length ∈ Region.ready md (l ++ [o]).toArray (listed.push false) := mem_ready.2 ⟨by rw [getD_push, if_neg (by omega), if_pos hs.symm], o, by simp, fun e he _ => by
      have := hon e he
      rw [getD_push, if_pos (by omega)]
      exact hl _ this⟩
    have hnone : ∀ i, i ∈ Region.ready md (l ++ [o]).toArray (listed.push false) → i = l.length := fun i hi => by
      obtain ⟨h0, x, hx, _⟩ := mem_ready.1 hi
      refine Classical.byContradiction fun hne => ?_
      have h1 : i < l.length := by
        have := (Array.getElem?_eq_some_iff.1 hx).1
        simp at this
        omega
      rw [getD_push, if_pos (by omega), hlt i h1] at h0
      cases h0
    have hdone : Region.ready md (l ++ [o]).toArray ((listed.push false).setIfInBounds l.length true) = [] := by
      refine List.eq_nil_iff_forall_not_mem.2 fun i hi => ?_
      obtain ⟨h0, x, hx, hall2⟩ := mem_ready.1 hi
      by_cases e : l.length = i
      · subst e
        simp [hs] at h0
      · rw [getD_set_ne true e] at h0
        have h1 : i < l.length := by
          have := (Array.getElem?_eq_some_iff.1 hx).1
          simp at this
          omega
        rw [getD_push, if_pos (by omega), hlt i h1] at h0
        cases h0
    refine ⟨fun h => (by rw [h] at hmem; cases hmem), fun i hi => ?_⟩
    obtain rfl := hnone i hi
    unfold wpOp
    have hget : ((l ++ [o]).toArray)[l.length]? = some o := by simp
    rw [hget]
    simp only
    have hwt : Region.wanted o (yielded (l ++ [o]).toArray a.tmps) = true := by unfold Region.wanted; rw [hog]
    rw [if_pos hwt]
    exact Or.inl (Oper.wp_mono (fun a' w' h => wpAny_done hdone h m) (hQ E a w hw hE hq))
  intro m
  induction m with
  | zero =>
    intro listed E a w hs hD hw hE hS h
    exact endc 0 listed E a w hs hw hE h.1 h.2
  | succ m ih =>
    intro listed E a w hs hD hw hE hS h
    by_cases hr : Region.ready md l.toArray listed = []
    · exact endc (m + 1) listed E a w hs hw hE hr (h.1 hr)
    obtain ⟨i0, hi0⟩ := List.exists_mem_of_ne_nil _ hr
    have hsub : ∀ i, i ∈ Region.ready md l.toArray listed → i < l.length ∧ i ∈ Region.ready md (l ++ [o]).toArray (listed.push false) := fun i hi => by
      obtain ⟨h0, x, hx, hall2⟩ := mem_ready.1 hi
      have h1 : i < l.length := by
        have := (Array.getElem?_eq_some_iff.1 hx).1
        simpa using this
      refine ⟨h1, mem_ready.2 ⟨by rw [getD_push, if_pos (by omega)]; exact h0, x, by rw [← hx]; simp [List.getElem?_append_left h1], fun e he hb => ?_⟩⟩
      have := hall2 e he hb
      have h3 := hac i x (by simpa using hx) e he
      rw [getD_push, if_pos (by omega)]
      exact this
    have hlast : ∀ i, i ∈ Region.ready md (l ++ [o]).toArray (listed.push false) → i ∈ Region.ready md l.toArray listed := fun i hi => by
      obtain ⟨h0, x, hx, hall2⟩ := mem_ready.1 hi
      by_cases h1 : i < l.length
      · rw [getD_push, if_pos (by omega)] at h0
        have hx' : l.toArray[i]? = some x := by rw [← hx]; simp [List.getElem?_append_left h1]
        refine mem_ready.2 ⟨h0, x, hx', fun e he hb => ?_⟩
        have := hall2 e he hb
        have h3 := hac i x (by simpa using hx') e he
        rw [getD_push, if_pos (by omega)] at this
        exact this
      · have h2 : i = l.length := by
          have := (Array.getElem?_eq_some_iff.1 hx).1
          simp at this
          omega
        subst h2
        have h4 := bef_ready hD hi (hall i0 (hsub i0 hi0).1)
        rw [getD_push, if_pos (by have := (hsub i0 hi0).1; omega)] at h4
        exact absurd h4 (not_listed (mem_ready.1 hi0).1)
    refine ⟨fun h0 => (by have := (hsub i0 hi0).2; rw [h0] at this; cases this), fun i hi => ?_⟩
    have hi' := hlast i hi
    have hin := (hsub i hi').1
    obtain ⟨_, x, hx, _⟩ := mem_ready.1 hi'
    obtain ⟨h1, h2⟩ := h.2 i hi' x hx
    have hDn := hD.add hi
    rw [set_push (by omega)] at hDn ⊢
    have key : ∀ u w', fOut P l.toArray C sp i x a u → Lat w w' → (∀ v, Stb (fFact l.toArray sp i x a v)) → fFact l.toArray sp i x a u w' → wpAny P md (l ++ [o]).toArray Q' (m + 1) ((listed.setIfInBounds i true).push false) (a.put x.dst u) w' := fun u w' hu hl hst hf => by
      refine ih _ _ _ _ (by simpa using hs) hDn (hCl _ _ hw hl) (fun j => ?_) (fun j => ?_) (h2 u hu)
      · unfold updE
        split
        · exact hf
        · exact hS j _ _ (hE j) hl
      · unfold updE
        split
        · exact hst u
        · exact hS j
    have hx1 : (l ++ [o]).toArray[i]? = some x := by rw [← hx]; simp [List.getElem?_append_left hin]
    unfold wpOp
    rw [hx1]
    simp only
    rw [wanted_snoc (hgd i x (by simpa using hx))]
    exact run_told hw h1 hE key
end
/-- Worlds that have grown from a base. -/
def Grw (W w' : World) : Prop := ∃ p : Regrown, w' = grow (redrawn W p.d) p.os
theorem grw_lat {W w w' : World} (h : Grw W w) (hl : Lat w w') : Grw W w' := by
  obtain ⟨p, rfl⟩ := h
  have h1 := below_regrown W p.d p.os
  exact regrown_of_below (Below.trans h1 (Below.mono hl h1.size))
theorem grw_of {W w : World} (h : Below W.heap.size W w) : Grw W w := regrown_of_below h
theorem grw_below {W w : World} (h : Grw W w) : Below W.heap.size W w := by obtain ⟨p, rfl⟩ := h; exact below_regrown W p.d p.os
/-- One walk, in the order of the text. -/
theorem wp_region_fresh {P : Program} {id : Nat} {Q : Exit → Act → World → Prop} {a : Act} {w : World} {l : List Oper} (sp : Nat → Option Spc) (hm : P.follows .mixedOrders = true) (hB : Region.lexB .any l.toArray = true)
    (h : wpF P .any l.toArray (fun w' => ∃ p : Regrown, w' = grow (redrawn w p.d) p.os) sp (fun E a' => ∀ w', Grw w w' → (∀ j, E j w') → Q .normal a' w') l 0 (fun _ _ => True) a) : (Code.region id l.toArray true).wp P Q a w := by
  simp only [Region.lexB, Bool.and_eq_true] at hB
  refine wp_region_any hm (wpAny_of_F (Q := fun E a' => ∀ w', Grw w w' → (∀ j, E j w') → Q .normal a' w') (C := fun w' => ∃ p : Regrown, w' = grow (redrawn w p.d) p.os) (sp := sp) (fun w1 w2 h1 h2 => grw_lat h1 h2) (fun E a w' hw' hE h => h w' hw' hE) _ _ (fun _ _ => True) _ _ ⟨⟨w.drawn + 1, #[]⟩, by rw [grow_empty]; rfl⟩ (fun _ => trivial) (fun _ _ _ _ _ => trivial) ?_)
  have hD : Dwn .any l.toArray (Array.replicate l.toArray.size false) := fun j k _ hk => by
    exfalso
    unfold Array.getD at hk
    split at hk <;> simp at hk
  have := wpAnyF_lex (P := P) (md := .any) hB.1 l 0 (Array.replicate l.toArray.size false) (fun _ _ => True) a (by simp) (by simpa using hB.2) hD h
  simpa using this
section
variable {P : Program} {ops : Array Oper} {C : World → Prop} {sp : Nat → Option Spc} {Q : (Nat → World → Prop) → Act → Prop} {o : Oper} {rest : List Oper} {k : Nat} {E : Nat → World → Prop} {a : Act}
theorem wpF_nil (h : Q E a) : wpF P .any ops C sp Q [] k E a := h
theorem wpF_skip (hw : Region.wanted o (yielded ops a.tmps) = false) (h : wpF P .any ops C sp Q rest (k + 1) (updE E k (fun _ => True)) (a.put o.dst undef)) : wpF P .any ops C sp Q (o :: rest) k E a := by
  refine ⟨fun h' => absurd (hw.symm.trans h') (by simp), fun u hu => ?_⟩
  unfold fOut at hu
  unfold fFact
  simp only [hw] at hu ⊢
  have : u = undef := by simpa using hu
  subst this
  simpa using h
theorem quiet_uniq {w : World} {X : Sem Next} {u v : Value} (hne : noEnter P X) (h1 : Oper.quietUpon P C w u (X.run P w)) (h2 : Oper.quietUpon P C w v (X.run P w)) : u = v := by
  generalize hr : X.run P w = r at *
  cases r with
  | ok n w' =>
    cases n <;> simp only [Oper.quietUpon] at h1 h2
    case value u' => rw [← h1.2, ← h2.2]
    case skip => rw [h1.2, h2.2]
    case enter f args => exact absurd hr (hne w f args w')
  | halt x w' => simp only [Oper.quietUpon] at h1
/-- An operation that only reads. -/
theorem wpF_quiet (hC : ∃ w, C w) (hw : Region.wanted o (yielded ops a.tmps) = true) (hsp : sp k = none) (hne : noEnter P (execOp a.eval o))
    (h : ∀ K : Act → Prop, (∀ a', wpF P .any ops C sp Q rest (k + 1) (updE E k (fun _ => True)) a' → K a') → o.quiet P a C K) : wpF P .any ops C sp Q (o :: rest) k E a := by
  obtain ⟨v, hv, hn⟩ := h _ (fun _ h => h)
  refine ⟨fun _ => ?_, fun u hu => ?_⟩
  · rw [hsp]; exact ⟨hne, v, hv⟩
  · unfold fOut at hu
    unfold fFact
    simp only [hw, if_true, hsp] at hu ⊢
    obtain ⟨w, hCw⟩ := hC
    have : u = v := quiet_uniq hne (hu w hCw) (hv w hCw)
    subst this
    exact hn
/-- The frame is written out anew. -/
theorem wpF_put (h : ∀ K : Act → Prop, (∀ a', wpF P .any ops C sp Q rest k E a' → K a') → K a) : wpF P .any ops C sp Q rest k E a := h _ (fun _ h => h)
/-- An operation of which something is said ahead. -/
theorem wpF_told (s : Spc) (hw : Region.wanted o (yielded ops a.tmps) = true) (hsp : sp k = some s) (hp : ∃ u, s.p u) (hR : ∀ v, Stb (s.R v))
    (hs : ∀ w, C w → (∀ j, Bef .any ops j k → E j w) → frUpon P w s ((execOp a.eval o).run P w))
    (h : ∀ u, s.p u → wpF P .any ops C sp Q rest (k + 1) (updE E k (s.R u)) (a.put o.dst u)) : wpF P .any ops C sp Q (o :: rest) k E a := by
  refine ⟨fun _ => ?_, fun u hu => ?_⟩
  · rw [hsp]; exact ⟨hp, hR, hs⟩
  · unfold fOut at hu
    unfold fFact
    simp only [hw, if_true, hsp] at hu ⊢
    exact h u hu
theorem frUpon_enter {w : World} {s : Spc} {X : Sem Next} {f : FuncId} {args : Array Value} (hr : X.run P w = .ok (.enter f args) w) (h : Calls P f args w (fun e w'' => ∃ u, e = .returned u ∧ Lat w w'' ∧ s.p u ∧ s.R u w'')) : frUpon P w s (X.run P w) := by
  rw [hr]; exact ⟨rfl, h⟩
theorem frUpon_value {w w' : World} {s : Spc} {X : Sem Next} {u : Value} (hr : X.run P w = .ok (.value u) w') (h1 : Lat w w') (h2 : s.p u) (h3 : s.R u w') : frUpon P w s (X.run P w) := by
  rw [hr]; exact ⟨h1, h2, h3⟩
end
/-- One walk, in the order of the text; the last operation may do anything and waits for all others. -/
def backB (l : List Oper) (n : Nat) : Bool := l.zipIdx.all fun x => x.1.after.all (fun e => decide (e.on < x.2)) && (match x.1.guard with | some (g, _) => decide (g < n) | none => true)
theorem backB_spec {l : List Oper} {n : Nat} (h : backB l n = true) : ∀ (i : Nat) (x : Oper), l[i]? = some x → (∀ e ∈ x.after, e.on < i) ∧ ∀ g b, x.guard = some (g, b) → g < n := by
  intro i x hx
  unfold backB at h
  rw [List.all_eq_true] at h
  have h1 := h (x, i) (by rw [List.mem_zipIdx_iff_getElem?]; exact hx)
  rw [Bool.and_eq_true] at h1
  refine ⟨fun e he => ?_, fun g b hg => ?_⟩
  · have := Array.all_eq_true_iff_forall_mem.1 h1.1 e he
    simpa using this
  · have := h1.2
    rw [hg] at this
    simpa using this
/-- What is ahead of an operation, by reckoning. -/
def befB (md : Region.Mode) (ops : Array Oper) : Nat → Nat → Nat → Bool
  | 0, _, _ => false
  | f + 1, j, k => match ops[k]? with
    | none => false
    | some o => o.after.any fun e => Region.binds md e && (e.on == j || befB md ops f j e.on)
theorem befB_spec {md : Region.Mode} {ops : Array Oper} {j : Nat} : ∀ (f k : Nat), befB md ops f j k = true → Bef md ops j k
  | 0, _, h => by cases h
  | f + 1, k, h => by
    unfold befB at h
    cases hk : ops[k]? with
    | none => rw [hk] at h; cases h
    | some o =>
      rw [hk] at h
      simp only at h
      obtain ⟨ix, hix, h2⟩ := Array.any_eq_true.1 h
      have he := Array.getElem_mem hix
      generalize o.after[ix] = e at *
      rw [Bool.and_eq_true, Bool.or_eq_true] at h2
      rcases h2.2 with h3 | h3
      · exact .one hk he h2.1 (by simpa using h3)
      · exact .two (befB_spec f _ h3) (.one hk he h2.1 rfl)
def endB (l : List Oper) (o : Oper) : Bool := backB l l.length && o.guard.isNone && o.after.all (fun e => decide (e.on < l.length)) && (List.range l.length).all fun j => befB .any (l ++ [o]).toArray (l.length + 1) j l.length
theorem wp_region_last {P : Program} {id : Nat} {Q : Exit → Act → World → Prop} {a : Act} {w : World} {l ops : List Oper} {o : Oper} (sp : Nat → Option Spc) (ho : ops = l ++ [o]) (hm : P.follows .mixedOrders = true) (hB : Region.lexB .any l.toArray = true) (hL : endB l o = true)
    (h : wpF P .any l.toArray (fun w' => ∃ p : Regrown, w' = grow (redrawn w p.d) p.os) sp (fun E a' => ∀ w', Grw w w' → (∀ j, E j w') → o.wp P a' w' (fun a2 w2 => Q .normal a2 w2) Q) l 0 (fun _ _ => True) a) : (Code.region id ops.toArray true).wp P Q a w := by
  subst ho
  simp only [Region.lexB, Bool.and_eq_true] at hB
  unfold endB at hL
  simp only [Bool.and_eq_true] at hL
  obtain ⟨⟨⟨hL1, hL2⟩, hL3⟩, hL4⟩ := hL
  have hb := backB_spec hL1
  have hall : ∀ j, j < l.length → Bef .any (l ++ [o]).toArray j l.length := fun j hj => befB_spec _ _ (by
    rw [List.all_eq_true] at hL4
    exact hL4 j (List.mem_range.2 hj))
  have hon : ∀ e ∈ o.after, e.on < l.length := fun e he => by
    have := Array.all_eq_true_iff_forall_mem.1 hL3 e he
    simpa using this
  have hD : ∀ n, Dwn .any l.toArray (Array.replicate n false) := fun n j k _ hk => by
    exfalso
    unfold Array.getD at hk
    split at hk <;> simp at hk
  have hD2 : Dwn .any (l ++ [o]).toArray ((Array.replicate l.length false).push false) := fun j k _ hk => by
    exfalso
    rw [getD_push] at hk
    by_cases h1 : k < (Array.replicate l.length false).size
    · rw [if_pos h1] at hk
      unfold Array.getD at hk
      split at hk <;> simp at hk
    · rw [if_neg h1] at hk
      split at hk <;> cases hk
  refine wp_region_any hm ?_
  have hF := wpAnyF_lex (P := P) (md := .any) hB.1 l 0 (Array.replicate l.toArray.size false) (fun _ _ => True) a (by simp) (by simpa using hB.2) (hD _) h
  have := wpAny_of_last (P := P) (md := .any) (l := l) (o := o) (Q := fun E a' => ∀ w', Grw w w' → (∀ j, E j w') → o.wp P a' w' (fun a2 w2 => Q .normal a2 w2) Q) (Q' := Q) (C := fun w' => ∃ p : Regrown, w' = grow (redrawn w p.d) p.os) (sp := sp) (fun w1 w2 h1 h2 => grw_lat h1 h2) (by simpa using hL2) (fun E a w' hw' hE h => h w' hw' hE) (fun i x hx => (hb i x hx).1) (fun i x hx => (hb i x hx).2) hon hall
    l.length (Array.replicate l.length false) (fun _ _ => True) a { w with drawn := w.drawn + 1 } (by simp) hD2 ⟨⟨w.drawn + 1, #[]⟩, by rw [grow_empty]; rfl⟩ (fun _ => trivial) (fun _ _ _ _ _ => trivial) (by simpa using hF)
  rw [← Array.replicate_succ] at this
  simpa using this
theorem grw_ex (w : World) : ∃ w', ∃ p : Regrown, w' = grow (redrawn w p.d) p.os := ⟨_, ⟨0, #[]⟩, rfl⟩
theorem ne_bind {α : Type} {P : Program} {w : World} {s : Sem α} {f : α → Sem Next} {X : Result Next} (hX : ∀ h w', X ≠ .halt h w') (h1 : ∀ a w', (f a).run P w' ≠ X) : (s >>= f).run P w ≠ X := by
  rw [Sem.run_bind]
  cases s.run P w with
  | ok a w' => exact h1 a w'
  | halt h w' => exact fun e => hX h w' e.symm
def isCall (o : Oper) : Bool := match o.op with | .call _ => true | .nilCheck _ => true | .recv _ _ _ => true | _ => false
theorem noEnter_op {P : Program} {ρ : Operand → Value} {o : Oper} (h : isCall o = false) : noEnter P (execOp ρ o) := by
  intro w f args w'
  unfold isCall at h
  unfold execOp
  have hX : ∀ h w1, (Result.ok (Next.enter f args) w' : Result Next) ≠ .halt h w1 := fun h w1 e => by cases e
  cases ho : o.op <;> rw [ho] at h <;> simp only at h ⊢
  all_goals first
    | (cases h; done)
    | (rw [Sem.run_pure]; intro e; cases e; done)
    | (refine ne_bind hX fun a w1 => ?_; rw [Sem.run_pure]; intro e; cases e; done)
    | (refine ne_bind hX fun a w1 => ?_; refine ne_bind hX fun a w1 => ?_; rw [Sem.run_pure]; intro e; cases e; done)

theorem wp_region_last9 {P : Program} {id : Nat} {Q : Exit → Act → World → Prop} {a : Act} {w : World} {x0 x1 x2 x3 x4 x5 x6 x7 x8 : Oper} (sp : Nat → Option Spc) (hm : P.follows .mixedOrders = true) (hB : Region.lexB .any [x0, x1, x2, x3, x4, x5, x6, x7].toArray = true) (hL : endB [x0, x1, x2, x3, x4, x5, x6, x7] x8 = true)
    (h : wpF P .any [x0, x1, x2, x3, x4, x5, x6, x7].toArray (fun w' => ∃ p : Regrown, w' = grow (redrawn w p.d) p.os) sp (fun E a' => ∀ w', Grw w w' → (∀ j, E j w') → x8.wp P a' w' (fun a2 w2 => Q .normal a2 w2) Q) [x0, x1, x2, x3, x4, x5, x6, x7] 0 (fun _ _ => True) a) : (Code.region id [x0, x1, x2, x3, x4, x5, x6, x7, x8].toArray true).wp P Q a w :=
  wp_region_last (l := [x0, x1, x2, x3, x4, x5, x6, x7]) (o := x8) sp rfl hm hB hL h
theorem wp_region_last11 {P : Program} {id : Nat} {Q : Exit → Act → World → Prop} {a : Act} {w : World} {x0 x1 x2 x3 x4 x5 x6 x7 x8 x9 x10 : Oper} (sp : Nat → Option Spc) (hm : P.follows .mixedOrders = true) (hB : Region.lexB .any [x0, x1, x2, x3, x4, x5, x6, x7, x8, x9].toArray = true) (hL : endB [x0, x1, x2, x3, x4, x5, x6, x7, x8, x9] x10 = true)
    (h : wpF P .any [x0, x1, x2, x3, x4, x5, x6, x7, x8, x9].toArray (fun w' => ∃ p : Regrown, w' = grow (redrawn w p.d) p.os) sp (fun E a' => ∀ w', Grw w w' → (∀ j, E j w') → x10.wp P a' w' (fun a2 w2 => Q .normal a2 w2) Q) [x0, x1, x2, x3, x4, x5, x6, x7, x8, x9] 0 (fun _ _ => True) a) : (Code.region id [x0, x1, x2, x3, x4, x5, x6, x7, x8, x9, x10].toArray true).wp P Q a w :=
  wp_region_last (l := [x0, x1, x2, x3, x4, x5, x6, x7, x8, x9]) (o := x10) sp rfl hm hB hL h
/-! What is said of operations ahead of a walk. -/
def sVal (u : Value) : Spc := ⟨fun v => v = u, fun _ _ => True⟩
def sBool (b : Bool) : Spc := sVal (.bool b)
theorem stTrue : ∀ v : Value, Stb ((fun (_ : Value) (_ : World) => True) v) := fun _ _ _ _ _ => trivial
/-- Own numbers, fresh. -/
def sOwn (B : Nat) (xs : List Int) : Spc := ⟨fun v => ∃ r c, v = .slice r xs.length c, fun v w => OwnI B w v xs⟩
theorem stOwn (B : Nat) (xs : List Int) : ∀ v, Stb ((sOwn B xs).R v) := fun _ _ _ h hl => h.below hl
end Go.Proofs.YtpnogmicfomofaaGreatDoor.Stp
