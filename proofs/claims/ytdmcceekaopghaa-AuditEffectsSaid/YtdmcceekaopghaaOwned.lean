/-
  Contract of audit.Owned. Conditions: those ahead of each theorem.
-/
import Derived.Test.YtdmcceekaopghaaOwnS
import Derived.Test.YtdmcceekaopghaaCf
namespace Go.Proofs.Ytdmcceekaopghaa
open Go.RowKit Go.Sort

def InR (_ : World) (cs : List Value) (x : In) : Prop := cs = x.cells
def ObR (_ : World) (cs : List Value) (x : Ob) : Prop := cs = x.cells
def PeR (_ : World) (cs : List Value) (x : Pe) : Prop := cs = x.cells
theorem inR_mono : Mono InR := fun _ _ _ _ _ h => h
theorem obR_mono : Mono ObR := fun _ _ _ _ _ h => h
theorem peR_mono : Mono PeR := fun _ _ _ _ _ h => h
def eqS (a b : ByteArray) : Bool := a.toList == b.toList
theorem toList_data (a : ByteArray) : a.toList = a.data.toList := ByteArray.toList_eq a
theorem eqS_iff {a b : ByteArray} : eqS a b = true ↔ a = b := by
  unfold eqS
  rw [beq_iff_eq, toList_data, toList_data]
  exact ⟨bytes_inj, fun h => by rw [h]⟩

def ib0 : ByteArray := ⟨#[]⟩
def tw (ids : List ByteArray) : Nat → List ByteArray
  | 0 => []
  | k + 1 => if hasS (ids.take k) (ids.getD k ib0) then tw ids k ++ [ids.getD k ib0] else tw ids k
def ms (os : List Ob) (ids : List ByteArray) : Nat → List ByteArray
  | 0 => []
  | k + 1 => if os.any fun o => eqS o.id (ids.getD k ib0) then ms os ids k else ms os ids k ++ [ids.getD k ib0]
def o0 : Ob := ⟨ib0, ib0, ib0, ⟨0, 0, ib0, ⟨none, 0, 0⟩, ⟨none, 0, 0⟩⟩, 0⟩
def un (ps : List Pe) (os : List Ob) (ids : List ByteArray) : Nat → List ByteArray
  | 0 => []
  | k + 1 => if (ps.any fun p => eqS p.tok (os.getD k o0).tok) || hasS ids (os.getD k o0).id then un ps os ids k else un ps os ids k ++ [(os.getD k o0).id]
theorem tw_len (ids : List ByteArray) (k : Nat) : (tw ids k).length ≤ k := by
  induction k with
  | zero => simp [tw]
  | succ k ih => unfold tw; split
                 · simp; omega
                 · omega
theorem ms_len (os : List Ob) (ids : List ByteArray) (k : Nat) : (ms os ids k).length ≤ k := by
  induction k with
  | zero => simp [ms]
  | succ k ih => unfold ms; split
                 · omega
                 · simp; omega
theorem un_len (ps : List Pe) (os : List Ob) (ids : List ByteArray) (k : Nat) : (un ps os ids k).length ≤ k := by
  induction k with
  | zero => simp [un]
  | succ k ih => unfold un; split
                 · omega
                 · simp; omega

theorem clo1 (V : Nat) (id : ByteArray) (w0 : World) (hc : w0.cell? ⟨V, 2, none⟩ = some (.string id)) : ∀ (W : World) (x : Ob), Below w0.heap.size w0 W →
    Calls Try.prog 29 (#[.agg x.cells.toArray] ++ #[.pointer (some ⟨V, 0, none⟩)]) W fun e w' => e = .returned (.bool (eqS x.id id)) ∧ Below w0.heap.size w0 w' := by
  intro W x hb
  obtain ⟨oid, ot, ok, ⟨k, n, s, i, e⟩, v⟩ := x
  have hW := bget hb hc
  have hV := World.block_lt_of_cell? _ _ hW
  simp at hV
  have HB := Lib.hid (show Below w0.heap.size w0 (W.alloc (.cells #[.string oid, .string ot, .string ok, .int .i64 k, .int .i64 n, .string s, i.val, e.val, .int .i64 v] 57)) from hb.alloc hb.size _)
  have hX := Lib.hid (show eqS oid id = (oid.toList == id.toList) from rfl)
  clear hb hc
  simp only [Ob.cells]
  show Calls Try.prog 29 #[.agg #[.string oid, .string ot, .string ok, .int .i64 k, .int .i64 n, .string s, i.val, e.val, .int .i64 v], .pointer (some ⟨V, 0, none⟩)] W _
  generalize i.val = iv at *
  generalize e.val = ev at *
  go_enter Try.func29, Try.ntmps29
  go_wp2
  go_ret
  exact ⟨ret_bool hX.out, HB.out⟩

theorem clo2 (V : Nat) (tok : ByteArray) (w0 : World) (hc : w0.cell? ⟨V, 2, none⟩ = some (.string tok)) : ∀ (W : World) (x : Pe), Below w0.heap.size w0 W →
    Calls Try.prog 31 (#[.agg x.cells.toArray] ++ #[.pointer (some ⟨V, 0, none⟩)]) W fun e w' => e = .returned (.bool (eqS x.tok tok)) ∧ Below w0.heap.size w0 w' := by
  intro W x hb
  obtain ⟨a, ot, ok⟩ := x
  have hW := bget hb hc
  have hV := World.block_lt_of_cell? _ _ hW
  simp at hV
  have HB := Lib.hid (show Below w0.heap.size w0 (W.alloc (.cells #[.string a, .string ot, .string ok] 81)) from hb.alloc hb.size _)
  have hX := Lib.hid (show eqS ok tok = (ok.toList == tok.toList) from rfl)
  clear hb hc
  simp only [Pe.cells]
  show Calls Try.prog 31 #[.agg #[.string a, .string ot, .string ok], .pointer (some ⟨V, 0, none⟩)] W _
  go_enter Try.func31, Try.ntmps31
  go_wp2
  go_ret
  exact ⟨ret_bool hX.out, HB.out⟩

theorem enters1 : ∀ args w, (callFunc 29 args).run Try.prog w = .ok (.enter 29 args) w := enters_of Try.func29 (by kernel_rfl) rfl
theorem enters2 : ∀ args w, (callFunc 31 args).run Try.prog w = .ok (.enter 31 args) w := enters_of Try.func31 (by kernel_rfl) rfl

def NotAt (V : Nat) (v : Value) : Prop := v.ownBlock ≠ some V
theorem NotAt.nil (V : Nat) : NotAt V (.slice none 0 0) := by simp [NotAt, Value.ownBlock]
theorem NotAt.of {B V : Nat} {w : World} {v : Value} {xs : List ByteArray} (h : OwnS B w v xs) (hV : w.heap.size ≤ V) : NotAt V v := fun e => by have := (h.1.lt _ e).2; omega
theorem NotAt.app {V : Nat} {w : World} {v : Value} {g n cap : Nat} (h : NotAt V v) (hV : V < w.heap.size) (hat : v.ownBlock = some g ∨ g = w.heap.size) : NotAt V (.slice (some ⟨g, 0, none⟩) n cap) := by
  intro e
  simp [Value.ownBlock] at e
  subst e
  rcases hat with hat | hat
  · exact h hat
  · omega
theorem cell_app {V o : Nat} {w w' : World} {v u : Value} (h : NotAt V v) (hg : w.grownBy w' v.ownBlock) (hc : w.cell? ⟨V, o, none⟩ = some u) : w'.cell? ⟨V, o, none⟩ = some u :=
  hg.cell hc (fun e => h e.symm)
theorem below_app {B : Nat} {W0 w w' : World} {v : Value} {xs : List ByteArray} (ho : OwnS B w v xs) (hb : Below B W0 w) (hB : B ≤ w.heap.size) (hg : w.grownBy w' v.ownBlock) : Below B W0 w' :=
  hb.grown hg hB (fun k hk => (ho.1.lt k hk).1)
end Go.Proofs.Ytdmcceekaopghaa
