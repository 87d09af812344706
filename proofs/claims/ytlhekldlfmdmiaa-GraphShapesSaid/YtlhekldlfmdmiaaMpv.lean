import Derived.Maps.OwnSet
import Derived.Maps.OwnOps
import Derived.Maps.RangeWalk
import Derived.Maps.Ext
/-
  A map of the call's own, of whatever elements, as a function from keys to element values: made, looked up, stored into, deleted from, counted. Conditions: those ahead of each theorem.
-/
namespace Go.Proofs.Ytlhekldlfmdmiaa
open Go Go.Maps Go.ChangeMaps
set_option linter.unusedVariables false
set_option linter.unusedSimpArgs false

/-- Any element, read as itself. -/
def anyE : Value → Option (DataW Value × List MemPlace) := fun v => some (.held v, [])
theorem anyE_inv {v : Value} {z : DataW Value × List MemPlace} (h : anyE v = some z) : z = (.held v, []) := by unfold anyE at h; exact (Option.some.inj h).symm
/-- How keys are written and read. -/
structure KeyT (P : Program) (k : TypeId) {κ : Type} (good : κ → Prop) (val : κ → Value) (lit : κ → Lit) : Prop where
  K : Keyed P k
  key : ∀ x, good x → keyOf P k (val x) = some (lit x)
  inj : ∀ x y, lit x = lit y → x = y
  isKey : ∀ x, WideAt.IsKeyLit (lit x)
  inv : ∀ v l, keyOf P k v = some l → ∃ x, v = val x ∧ l = lit x ∧ good x

open Classical in
/-- A function changed at one key. -/
noncomputable def upd {κ : Type} (f : κ → Option Value) (x : κ) (v : Option Value) : κ → Option Value := fun y => if y = x then v else f y
theorem upd_same {κ : Type} (f : κ → Option Value) (x : κ) (v : Option Value) : upd f x v x = v := by simp [upd]
theorem upd_other {κ : Type} (f : κ → Option Value) {x y : κ} (v : Option Value) (h : y ≠ x) : upd f x v y = f y := by simp [upd, h]

/-- Block b of w is a map of c entries (at most n) that holds f. -/
structure OwnF {κ : Type} (w : World) (P : Program) (k : TypeId) (lit : κ → Lit) (b n c : Nat) (f : κ → Option Value) : Prop where
  ex : ∃ D : DataW Value, w.ownsMap P k anyE b n D ∧ Maps.size D = c ∧ (∀ x, Maps.has D (lit x) = (f x).isSome) ∧ ∀ x z, D.atKey (lit x) (.held z) = .held ((f x).getD z)

section
variable {κ : Type} {P : Program} {k : TypeId} {good : κ → Prop} {val : κ → Value} {lit : κ → Lit} {w : World} {b n c : Nat} {f : κ → Option Value}

theorem OwnF.made (w : World) (P : Program) (k : TypeId) (lit : κ → Lit) : OwnF (w.alloc (.map #[] 0)) P k lit w.heap.size 0 0 (fun _ => none) :=
  ⟨.map [], World.ownsMap_made w P k anyE, rfl, fun x => rfl, fun x z => rfl⟩
theorem OwnF.mono (h : OwnF w P k lit b n c f) {n' : Nat} (hn : n ≤ n') : OwnF w P k lit b n' c f := by
  obtain ⟨D, h1, h2⟩ := h.ex
  exact ⟨D, h1.mono hn, h2⟩
theorem OwnF.lt (h : OwnF w P k lit b n c f) : b < w.heap.size := by
  obtain ⟨D, h1, h2⟩ := h.ex
  exact h1.lt
theorem OwnF.kept {w' : World} {row : Option Nat} (h : OwnF w P k lit b n c f) (hg : w.grownBy w' row) (hne : some b ≠ row) : OwnF w' P k lit b n c f := by
  obtain ⟨D, h1, h2⟩ := h.ex
  exact ⟨D, h1.kept hg hne, h2⟩
theorem OwnF.alloc (h : OwnF w P k lit b n c f) (o : Obj) : OwnF (w.alloc o) P k lit b n c f := by
  obtain ⟨D, h1, h2⟩ := h.ex
  exact ⟨D, h1.alloc o, h2⟩
theorem OwnF.drew (h : OwnF w P k lit b n c f) : OwnF w.drew P k lit b n c f := by
  obtain ⟨D, h1, h2⟩ := h.ex
  exact ⟨D, h1.drew, h2⟩
theorem OwnF.setCell (h : OwnF w P k lit b n c f) {a : Addr} (ha : b ≠ a.block) (u : Value) : OwnF (w.setCell a u) P k lit b n c f := by
  obtain ⟨D, h1, h2⟩ := h.ex
  exact ⟨D, h1.setCell ha u, h2⟩
theorem OwnF.size_le (h : OwnF w P k lit b n c f) : c ≤ n := by
  obtain ⟨D, h1, rfl, h2⟩ := h.ex
  exact h1.size_le
theorem OwnF.look {t e : TypeId} (h : OwnF w P k lit b n c f) (T : KeyT P k good val lit) (ht : P.underlying t = some (.map k e)) {z : Value} (hz : (zeroValue e).run P w = .ok z w) (x : κ) (hx : good x) :
    (Instr.lookup t (.map (some b)) (val x) false).run P w = .ok ((f x).getD z) w := by
  obtain ⟨D, h1, _, _, h4⟩ := h.ex
  obtain ⟨v, ps, hrun, hv⟩ := h1.lookup T.K ht hz (zd := .held z) (zp := []) rfl (T.key x hx)
  rw [h4 x z] at hv
  have := anyE_inv hv
  simp only [Prod.mk.injEq, DataW.held.injEq] at this
  rw [hrun, this.1]
theorem OwnF.look_ok {t e : TypeId} (h : OwnF w P k lit b n c f) (T : KeyT P k good val lit) (ht : P.underlying t = some (.map k e)) {z : Value} (hz : (zeroValue e).run P w = .ok z w) (x : κ) (hx : good x) :
    (Instr.lookup t (.map (some b)) (val x) true).run P w = .ok (.tuple #[(f x).getD z, .bool (f x).isSome]) w := by
  obtain ⟨D, h1, _, h3, h4⟩ := h.ex
  obtain ⟨v, ps, hrun, hv⟩ := h1.look_ok T.K ht hz (zd := .held z) (zp := []) rfl (T.key x hx)
  rw [h4 x z] at hv
  have := anyE_inv hv
  simp only [Prod.mk.injEq, DataW.held.injEq] at this
  rw [hrun, this.1, h3 x]
theorem OwnF.len {t e : TypeId} (h : OwnF w P k lit b n c f) (ht : P.underlying t = some (.map k e)) (ty : TypeId) : (Builtin.len_ #[t] ty #[.map (some b)]).run P w = .ok (.int .i64 (c : Nat)) w := by
  obtain ⟨D, h1, rfl, _⟩ := h.ex
  exact h1.len ht ty
theorem OwnF.store {t e : TypeId} (h : OwnF w P k lit b n c f) (T : KeyT P k good val lit) (ht : P.underlying t = some (.map k e)) (hn : n < maxLen) (x : κ) (hx : good x) (v : Value) :
    ∃ w', (Instr.mapUpdate t (.map (some b)) (val x) v).run P w = .ok () w' ∧ OwnF w' P k lit b (n + 1) (if (f x).isSome then c else c + 1) (upd f x (some v)) ∧ w.grownBy w' (some b) ∧ w.mapTurned w' b := by
  obtain ⟨D, h1, h2, h3, h4⟩ := h.ex
  obtain ⟨w', hrun, ho, ht'⟩ := h1.store T.K ht hn (val := v) (T.key x hx) rfl
  refine ⟨w', hrun, ⟨_, ho, ?_, fun y => ?_, fun y z => ?_⟩, ht'.grown, ht'⟩
  · rw [size_put (h1.tidy T.K), h3 x, h2]
  · by_cases e : y = x
    · subst e; rw [has_put_same h1.isMap (T.isKey y), upd_same]; rfl
    · rw [has_put_other (fun e' => e (T.inj _ _ e')), upd_other f _ e, h3 y]
  · by_cases e : y = x
    · subst e; rw [atKey_put_same h1.isMap (T.isKey y), upd_same]; rfl
    · rw [atKey_put_other (fun e' => e (T.inj _ _ e')), upd_other f _ e, h4 y z]
theorem OwnF.drop {t e : TypeId} (h : OwnF w P k lit b n c f) (T : KeyT P k good val lit) (ht : P.underlying t = some (.map k e)) (x : κ) (hx : good x) (ty : TypeId) :
    ∃ w', (Builtin.delete_ #[t, k] ty #[.map (some b), val x]).run P w = .ok (.tuple #[]) w' ∧ OwnF w' P k lit b n (c - (if (f x).isSome then 1 else 0)) (upd f x none) ∧ w.grownBy w' (some b) ∧ w.mapTurned w' b := by
  obtain ⟨D, h1, h2, h3, h4⟩ := h.ex
  obtain ⟨w', hrun, ho, ht'⟩ := h1.drop T.K ht (T.key x hx) ty
  refine ⟨w', hrun, ⟨_, ho, ?_, fun y => ?_, fun y z => ?_⟩, ht'.grown, ht'⟩
  · have := size_del (k := lit x) (h1.tidy T.K)
    rw [h3 x, h2] at this
    omega
  · by_cases e : y = x
    · subst e; rw [has_del_same, upd_same]; rfl
    · rw [has_del_other (fun e' => e (T.inj _ _ e')), upd_other f _ e, h3 y]
  · by_cases e : y = x
    · subst e; rw [atKey_del_same, upd_same]; rfl
    · rw [atKey_del_other (fun e' => e (T.inj _ _ e')), upd_other f _ e, h4 y z]
end

/-- Keys that are strings. -/
def strLit (s : ByteArray) : Lit := .string s.data.toList
theorem strT {P : Program} {k : TypeId} (hk : P.underlying k = some .string) : KeyT P k (fun s : ByteArray => s.size ≤ maxLen) Value.string strLit :=
  ⟨string_keyed hk, fun x hx => WideMaps.keyOf_string_mk hk hx, fun x y h => by
    simp only [strLit, Lit.string.injEq] at h
    obtain ⟨⟨x⟩⟩ := x
    obtain ⟨⟨y⟩⟩ := y
    simpa using h, fun x => by simp [strLit, WideAt.IsKeyLit], fun v l h => by
    obtain ⟨s, h1, h2, h3⟩ := WideMaps.string_of_keyOf hk h
    exact ⟨s, h1, h2, h3⟩⟩

section
variable {κ : Type} {P : Program} {k : TypeId} {good : κ → Prop} {val : κ → Value} {lit : κ → Lit} (w : World) {ops : Array Oper} {rest : List Oper} {o : Oper} {a : Act} {Q : Exit → Act → World → Prop}
theorem wpList_look (hg : o.guard = none) (m x : Operand) (t : TypeId) (hop : o.op = Op.lookup t m x false) (T : KeyT P k good val lit) {e : TypeId} (ht : P.underlying t = some (.map k e)) {z : Value} (hz : (zeroValue e).run P w = .ok z w) (b n c : Nat) (f : κ → Option Value)
    (hm : a.eval m = .map (some b)) (hown : OwnF w P k lit b n c f) (y : κ) (hx : a.eval x = val y) (hy : good y) (hK : wpList P ops Q rest (a.put o.dst ((f y).getD z)) w) : wpList P ops Q (o :: rest) a w := by
  refine wpList_plain hg fun K' hK' => ?_
  unfold Oper.wp
  simp [execOp, hop, hm, hx, hown.look T ht hz y hy, Result.andThen]
  exact hK' _ _ hK
theorem wpList_look_ok (hg : o.guard = none) (m x : Operand) (t : TypeId) (hop : o.op = Op.lookup t m x true) (T : KeyT P k good val lit) {e : TypeId} (ht : P.underlying t = some (.map k e)) {z : Value} (hz : (zeroValue e).run P w = .ok z w) (b n c : Nat) (f : κ → Option Value)
    (hm : a.eval m = .map (some b)) (hown : OwnF w P k lit b n c f) (y : κ) (hx : a.eval x = val y) (hy : good y) (hK : wpList P ops Q rest (a.put o.dst (.tuple #[(f y).getD z, .bool (f y).isSome])) w) : wpList P ops Q (o :: rest) a w := by
  refine wpList_plain hg fun K' hK' => ?_
  unfold Oper.wp
  simp [execOp, hop, hm, hx, hown.look_ok T ht hz y hy, Result.andThen]
  exact hK' _ _ hK
theorem wpList_store (hg : o.guard = none) (m x v : Operand) (t : TypeId) (hop : o.op = Op.mapUpdate t m x v) (T : KeyT P k good val lit) {e : TypeId} (ht : P.underlying t = some (.map k e)) (b n c : Nat) (f : κ → Option Value)
    (hm : a.eval m = .map (some b)) (hown : OwnF w P k lit b n c f) (hn : n < maxLen) (y : κ) (u : Value) (hx : a.eval x = val y) (hv : a.eval v = u) (hy : good y)
    (hK : ∀ w', OwnF w' P k lit b (n + 1) (if (f y).isSome then c else c + 1) (upd f y (some u)) → w.grownBy w' (some b) → wpList P ops Q rest (a.put o.dst undef) w') : wpList P ops Q (o :: rest) a w := by
  refine wpList_plain hg fun K' hK' => ?_
  obtain ⟨w', hrun, r1, r2, _⟩ := hown.store T ht hn y hy u
  unfold Oper.wp
  simp [execOp, hop, hm, hx, hv, hrun, Result.andThen]
  exact hK' _ _ (hK w' r1 r2)
theorem wpList_del (hg : o.guard = none) (m x : Operand) (t : TypeId) (hop : o.op = Op.call { callee := Callee.builtin Builtin.delete, args := #[m, x], argTypes := #[t, k] }) (T : KeyT P k good val lit) {e : TypeId} (ht : P.underlying t = some (.map k e)) (b n c : Nat) (f : κ → Option Value)
    (hm : a.eval m = .map (some b)) (hown : OwnF w P k lit b n c f) (y : κ) (hx : a.eval x = val y) (hy : good y)
    (hK : ∀ w', OwnF w' P k lit b n (c - (if (f y).isSome then 1 else 0)) (upd f y none) → w.grownBy w' (some b) → wpList P ops Q rest (a.put o.dst (.tuple #[])) w') : wpList P ops Q (o :: rest) a w := by
  refine wpList_plain hg fun K' hK' => ?_
  obtain ⟨w', hrun, r1, r2, _⟩ := hown.drop T ht y hy o.type
  unfold Oper.wp
  simp [execOp, hop, resolve, invoke, builtin, hm, hx, hrun, Result.andThen]
  exact hK' _ _ (hK w' r1 r2)
theorem wpList_count (hg : o.guard = none) (m : Operand) (t : TypeId) (hop : o.op = Op.call { callee := Callee.builtin Builtin.len, args := #[m], argTypes := #[t] }) {e : TypeId} (ht : P.underlying t = some (.map k e)) (b n c : Nat) (f : κ → Option Value)
    (hm : a.eval m = .map (some b)) (hown : OwnF w P k lit b n c f) (hK : wpList P ops Q rest (a.put o.dst (.int .i64 (c : Nat))) w) : wpList P ops Q (o :: rest) a w := by
  refine wpList_plain hg fun K' hK' => ?_
  unfold Oper.wp
  simp [execOp, hop, resolve, invoke, builtin, hm, hown.len ht o.type, Result.andThen]
  exact hK' _ _ hK
end

/-- A range over such a map under way: r is the iterator's block; left: the keys still to come; cnt: how many. -/
structure RngF {κ : Type} (w : World) (P : Program) (k : TypeId) (lit : κ → Lit) (b r n c : Nat) (f : κ → Option Value) (left : κ → Bool) (cnt : Nat) : Prop where
  ex : ∃ (D : DataW Value) (lf : Lit → Bool), w.ranges P k anyE b r n D lf cnt ∧ Maps.size D = c ∧ (∀ x, Maps.has D (lit x) = (f x).isSome) ∧ (∀ x z, D.atKey (lit x) (.held z) = .held ((f x).getD z)) ∧ ∀ x, lf (lit x) = left x
section
variable {κ : Type} {P : Program} {k : TypeId} {good : κ → Prop} {val : κ → Value} {lit : κ → Lit} {w : World} {b r n c : Nat} {f : κ → Option Value} {left : κ → Bool} {cnt : Nat}
theorem RngF.owns (h : RngF w P k lit b r n c f left cnt) : OwnF w P k lit b n c f := by
  obtain ⟨D, lf, h1, h2, h3, h4, _⟩ := h.ex
  exact ⟨D, h1.owns, h2, h3, h4⟩
theorem RngF.kept {w' : World} {row : Option Nat} (h : RngF w P k lit b r n c f left cnt) (hg : w.grownBy w' row) (hb : some b ≠ row) (hr : some r ≠ row) : RngF w' P k lit b r n c f left cnt := by
  obtain ⟨D, lf, h1, h2⟩ := h.ex
  exact ⟨D, lf, h1.kept hg hb hr, h2⟩
theorem RngF.lt (h : RngF w P k lit b r n c f left cnt) : r < w.heap.size := by
  obtain ⟨D, lf, h1, h2⟩ := h.ex
  exact h1.lt
theorem RngF.ne (h : RngF w P k lit b r n c f left cnt) : r ≠ b := by
  obtain ⟨D, lf, h1, h2⟩ := h.ex
  exact h1.ne
theorem OwnF.range {t e : TypeId} (h : OwnF w P k lit b n c f) (T : KeyT P k good val lit) (ht : P.underlying t = some (.map k e)) :
    ∃ w', (Instr.range t (.map (some b))).run P w = .ok (.pointer (some ⟨w.heap.size, 0, none⟩)) w' ∧ RngF w' P k lit b w.heap.size n c f (fun x => (f x).isSome) c ∧ w.grownBy w' none ∧ w'.heap.size = w.heap.size + 1 := by
  obtain ⟨D, h1, rfl, h3, h4⟩ := h.ex
  obtain ⟨w', hrun, hr, hg, hs⟩ := h1.range T.K ht
  exact ⟨w', hrun, ⟨D, _, hr, rfl, h3, h4, h3⟩, hg, hs⟩
open Classical in
theorem RngF.next (h : RngF w P k lit b r n c f left cnt) (T : KeyT P k good val lit) (ty : TypeId) :
    (cnt = 0 ∧ (∀ x, left x = false) ∧ (Instr.next (.pointer (some ⟨r, 0, none⟩)) false ty).run P w = .ok (.tuple #[.bool false]) w) ∨
    ∃ x v w' cnt', good x ∧ left x = true ∧ f x = some v ∧ (Instr.next (.pointer (some ⟨r, 0, none⟩)) false ty).run P w = .ok (.tuple #[.bool true, val x, v]) w' ∧
      RngF w' P k lit b r n c f (fun y => left y && !decide (y = x)) cnt' ∧ cnt' < cnt ∧ w.grownBy w' (some r) ∧ w'.heap.size = w.heap.size ∧ (Instr.entry (.pointer (some ⟨r, 0, none⟩))).run P w' = .ok (.tuple #[val x, v]) w' := by
  obtain ⟨D, lf, h1, h2, h3, h4, h5⟩ := h.ex
  rcases h1.next T.K ty with ⟨h0, hl, hrun⟩ | ⟨key, v, kl, y, w', cnt', hkey, hlk, hv, hat, hrun, hrg, hlt, hgr, hsz, hen⟩
  · exact Or.inl ⟨h0, fun x => by rw [← h5]; exact hl _, hrun⟩
  · obtain ⟨x, rfl, rfl, hx⟩ := T.inv key kl hkey
    have hy := anyE_inv hv
    have hfx : f x = some v := by
      have e := h4 x (.bool true)
      have e' := h4 x (.bool false)
      rw [hat, hy] at e e'
      simp only [DataW.held.injEq] at e e'
      cases hf : f x with
      | none => rw [hf] at e e'; simp at e e'; rw [e] at e'; cases e'
      | some u => rw [hf] at e; simp at e; rw [e]
    refine Or.inr ⟨x, v, w', cnt', hx, by rw [← h5]; exact hlk, hfx, hrun, ⟨D, _, hrg, h2, h3, h4, fun z => ?_⟩, hlt, hgr, hsz, hen⟩
    simp only [h5]
    by_cases e : z = x
    · subst e; simp [WideAt.sameKey_self (T.isKey z)]
    · rw [sameKey_ne (fun e' => e (T.inj _ _ e'))]; simp [e]
end
section
variable {κ : Type} {P : Program} {k : TypeId} {good : κ → Prop} {val : κ → Value} {lit : κ → Lit} (w : World) {ops : Array Oper} {rest : List Oper} {o : Oper} {a : Act} {Q : Exit → Act → World → Prop}
theorem wpList_rangeF (hg : o.guard = none) (m : Operand) (t : TypeId) (hop : o.op = Op.range t m) (T : KeyT P k good val lit) {e : TypeId} (ht : P.underlying t = some (.map k e)) (b n c : Nat) (f : κ → Option Value)
    (hm : a.eval m = .map (some b)) (hown : OwnF w P k lit b n c f)
    (hK : ∀ w', RngF w' P k lit b w.heap.size n c f (fun x => (f x).isSome) c → w.grownBy w' none → w'.heap.size = w.heap.size + 1 → wpList P ops Q rest (a.put o.dst (.pointer (some ⟨w.heap.size, 0, none⟩))) w') : wpList P ops Q (o :: rest) a w := by
  refine wpList_plain hg fun K' hK' => ?_
  obtain ⟨w', hrun, r1, r2, r3⟩ := hown.range T ht
  unfold Oper.wp
  simp [execOp, hop, hm, hrun, Result.andThen]
  exact hK' _ _ (hK w' r1 r2 r3)
open Classical in
theorem wpList_nextF (hg : o.guard = none) (it : Operand) (hop : o.op = Op.next it false) (T : KeyT P k good val lit) (b r n c : Nat) (f : κ → Option Value) (left : κ → Bool) (cnt : Nat)
    (hit : a.eval it = .pointer (some ⟨r, 0, none⟩)) (h : RngF w P k lit b r n c f left cnt)
    (hDone : cnt = 0 → (∀ x, left x = false) → wpList P ops Q rest (a.put o.dst (.tuple #[.bool false])) w)
    (hMore : ∀ (x : κ) (v : Value) (w' : World) (cnt' : Nat), good x → left x = true → f x = some v → RngF w' P k lit b r n c f (fun y => left y && !decide (y = x)) cnt' → cnt' < cnt → w.grownBy w' (some r) → w'.heap.size = w.heap.size →
      (Instr.entry (.pointer (some ⟨r, 0, none⟩))).run P w' = .ok (.tuple #[val x, v]) w' → wpList P ops Q rest (a.put o.dst (.tuple #[.bool true, val x, v])) w') : wpList P ops Q (o :: rest) a w := by
  refine wpList_plain hg fun K' hK' => ?_
  unfold Oper.wp
  rcases h.next T o.type with ⟨h0, hl, hrun⟩ | ⟨x, v, w', cnt', hx, hlx, hfx, hrun, hrg, hlt, hgr, hsz, hen⟩
  · simp [execOp, hop, hit, hrun, Result.andThen]
    exact hK' _ _ (hDone h0 hl)
  · simp [execOp, hop, hit, hrun, Result.andThen]
    exact hK' _ _ (hMore x v w' cnt' hx hlx hfx hrg hlt hgr hsz hen)
end
end Go.Proofs.Ytlhekldlfmdmiaa
