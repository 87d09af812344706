/-
  The audit of events in plain Lean (layer 52), and how steps, events and tallies lie in memory. No conditions.
-/
import Derived.Test.YtdmcceekaopghaaMem
namespace Go.Proofs.Ytdmcceekaopghaa
open Go.RowKit Go.Sort

structure Ev where
  kind : Int
  step : Int
  op : Int
  addr : ByteArray
  id : ByteArray
  err : Int
structure St where
  change : Int
  op : Int
  needs : List Int
structure Tal where
  ev : Int
  opn : Bool
  dn : Bool

def Ev.cells (e : Ev) : List Value := [.int .i64 e.kind, .int .i64 e.step, .int .i64 e.op, .string e.addr, .string e.id, .int .i64 e.err]
def EvR (_ : World) (cs : List Value) (e : Ev) : Prop := cs = e.cells
def StR (w : World) (cs : List Value) (s : St) : Prop := ∃ v, cs = [.int .i64 s.change, .int .i64 s.op, v] ∧ Sl IntR 1 w v s.needs
def TalR (_ : World) (cs : List Value) (t : Tal) : Prop := cs = [.int .i64 t.ev, .bool t.opn, .bool t.dn]
theorem evR_mono : Mono EvR := fun _ _ _ _ _ h => h
theorem talR_mono : Mono TalR := fun _ _ _ _ _ h => h
theorem stR_mono : Mono StR := fun _ _ _ _ hb ⟨v, h1, h2⟩ => ⟨v, h1, h2.below intR_mono hb⟩

def t0 : Tal := ⟨0, false, false⟩
def s0 : St := ⟨0, 0, []⟩
def okNeeds (ss : List St) : Bool := ss.all fun s => s.needs.all fun n => decide (0 ≤ n) && decide (n < ss.length)
def cnt (k : Int) : Bool := k == 1 || k == 3 || k == 4 || k == 5
def nxt (ss : List St) (ts : List Tal) (kind : Int) (k : Nat) : Bool :=
  if kind = 3 ∨ kind = 4 then (ts.getD k t0).opn else if 0 < (ts.getD k t0).ev then false else if kind = 5 then true else (ss.getD k s0).needs.all fun n => (ts.getD n.toNat t0).dn
def okE (ss : List St) (ts : List Tal) (e : Ev) : Bool := decide (0 ≤ e.step) && decide (e.step < ss.length) && (e.op == (ss.getD e.step.toNat s0).op) && nxt ss ts e.kind e.step.toNat
def upd (ts : List Tal) (e : Ev) : List Tal := ts.set e.step.toNat ⟨(ts.getD e.step.toNat t0).ev + 1, e.kind == 1, (ts.getD e.step.toNat t0).dn || e.kind == 3⟩
def run (ss : List St) : List Tal → List Ev → Bool
  | _, [] => true
  | ts, e :: l => if cnt e.kind then (if okE ss ts e then run ss (upd ts e) l else false) else run ss ts l
def ordRun (ss : List St) (l : List Ev) : Int := if run ss (List.replicate ss.length t0) l then 0 else 36
def ord (ss : List St) (l : List Ev) : Int := if okNeeds ss then ordRun ss l else 1
end Go.Proofs.Ytdmcceekaopghaa
