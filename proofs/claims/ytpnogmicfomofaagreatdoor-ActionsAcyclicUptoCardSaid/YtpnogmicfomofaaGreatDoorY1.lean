import Derived.Test.YtpnogmicfomofaaGreatDoorRows
import Derived.WalkKit
import Derived.WalkSpells
import Derived.BigQuiet
import Derived.Deep.QuietTactic
import Derived.Deep.Slices
import Derived.Deep.LoopGhost
import Derived.Lib.Hide
import Derived.Lib.MinMax
import Derived.Lib.QuietBelow
import Derived.ProofKit
import Derived.OpenShut
import Derived.Outline
import Derived.Maps.Ext
import Derived.Deep.AppendLies
import Derived.OwnWalk
import Derived.Laws.AppendOwnNone
import Derived.ArgAppend
import Derived.Deep.RegionWith
import Derived.Deep.RegionHeld3
import Derived.Shelf.Strings.Builder1
import Derived.Shelf.Small.Utf8
import Derived.Shelf.Small.Bits
import Derived.Shelf.Small.Strs
import Derived.Shelf.Small.Wraps
import Derived.Shelf.Strings.BuilderF
import Derived.Shelf.Strings.BuilderK
import Derived.Shelf.Strings.BuilderRune
import Derived.Shelf.LaysM
import Derived.Shelf.Strconv.ParseIntEmpty
import Derived.Shelf.Strconv.Clone
import Derived.Shelf.Strconv.SyntaxError
import Derived.Shelf.LaysC
import Derived.Shelf.Strconv.ToError
import Derived.Shelf.Strconv.Lower
import Derived.Shelf.Strconv.ParseUint10
import Derived.Shelf.Strconv.ParseUint10Empty
import Derived.Shelf.Strconv.ParseUint10Any
import Derived.Shelf.Strconv.ParseInt10
import Derived.Shelf.Strconv.RangeError
import Derived.Shelf.Strconv.ToErrorRange
import Derived.Shelf.Strconv.ParseUintEmpty
import Derived.Shelf.Strconv.ParseUint10b64
import Derived.Shelf.Strconv.ParseUint10b32
import Derived.Shelf.Strconv.ParseUint10b16
import Derived.Shelf.Strconv.ParseUint10b8
import Derived.Shelf.Strconv.ParseUint10At
import Derived.Shelf.Strconv.ParseInt10At64
import Derived.Shelf.Strconv.ParseInt10At32
import Derived.Shelf.Strconv.ParseInt10At16
import Derived.Shelf.Strconv.ParseInt10At8
import Derived.Shelf.Strconv.ParseInt10All
import Derived.Shelf.Strconv.ParseIntPublic10
import Derived.Shelf.Strconv.ErrVarParseInt
import Derived.Shelf.Strings.Search1
import Derived.Shelf.Strings.Prefix
import Derived.Shelf.Unicode.Decode
import Derived.Shelf.Strings.Runes
import Derived.Shelf.Strings.IndexAny
import Derived.Shelf.Strings.AsciiSet
import Derived.Shelf.Strings.IndexAnyAll
import Derived.Shelf.Unicode.DecodeSlow
import Derived.Shelf.Unicode.DecodeAny
import Derived.Shelf.Slices.Turned
import Derived.Ground.Names2Prog
import Derived.Shelf.Slices.SearchI
import Derived.Shelf.Slices.Cells
import Derived.Shelf.Slices.Empties2
import Derived.Ground.SlgnProg
import Derived.Shelf.SlicesE.Clone
import Derived.Shelf.Spec.SlicesInsert
import Derived.Shelf.Spec.SlicesInsertGrow
import Derived.Shelf.Spec.TrailingZeros
import Derived.Test.YtpnogmicfomofaaGreatDoorProg
import Derived.OneCell
set_option linter.unusedVariables false
set_option linter.unusedSimpArgs false
namespace Go.Proofs.YtpnogmicfomofaaGreatDoor
open Go.RowKit Go.Sort
theorem bcellB {B : Nat} {W w1 : World} (hb : Below B W w1) : (∀ b o, b < B -> w1.cell? ⟨b, o, none⟩ = W.cell? ⟨b, o, none⟩) /\ (∀ b o, b < B -> w1.frozen? ⟨b, o, none⟩ = W.frozen? ⟨b, o, none⟩) :=
 ⟨fun b o h => hb.cell (p := ⟨b, o, none⟩) h, fun b o h => hb.frozen (p := ⟨b, o, none⟩) h⟩
theorem bget {W w1 : World} {a : Addr} {v : Value} (hb : Below W.heap.size W w1) (h : W.cell? a = some v) : w1.cell? a = some v :=
 (hb.cell (World.block_lt_of_cell? W a h)).trans h
theorem scell_same {w : World} {a : Addr} {v u : Value} (h : w.cell? a = some u) : (w.setCell a v).cell? a = some v := World.cell?_setCell_same' w a v (by rw [h]; rfl)
theorem scell_ne {w : World} {b o o' : Nat} {v : Value} (h : o ≠ o') : (w.setCell ⟨b, o, none⟩ v).cell? ⟨b, o', none⟩ = w.cell? ⟨b, o', none⟩ := by
 apply World.cell?_setCell_other;intro e; apply h; injection e
theorem ret_bool {a b : Bool} (h : a = b) : Ending.returned (.bool b) = .returned (.bool a) := by rw [h]
theorem ret_int {a b : Int} (h : a = b) : Ending.returned (.int .i64 b) = .returned (.int .i64 a) := by rw [h]
def Sl {α : Type} (R : World -> List Value -> α -> Prop) (sz : Nat) (w : World) (v : Value) (xs : List α) : Prop :=
 ∃ r cap, v = .slice r xs.length cap /\ xs.length <= cap /\ cap <= maxLen /\ ∀ (i : Nat) (h : i < xs.length), ∃ b off cs, r = some ⟨b, off, none⟩ /\ cs.length = sz /\
  (∀ (j : Nat) (u : Value), cs[j]? = some u -> w.cell? ⟨b, off + i * sz + j, none⟩ = some u) /\ R w cs (xs[i])
def Mono {α : Type} (R : World -> List Value -> α -> Prop) : Prop := ∀ w w' cs x, Below w.heap.size w w' -> R w cs x -> R w' cs x
theorem Sl.below {α : Type} {R : World -> List Value -> α -> Prop} {sz : Nat} {w w' : World} {v : Value} {xs : List α} (hm : Mono R) (hb : Below w.heap.size w w') (h : Sl R sz w v xs) : Sl R sz w' v xs := by
 obtain ⟨r, cap, hv, hl, hc, he⟩ := h;refine ⟨r, cap, hv, hl, hc, fun i hi => ?_⟩;obtain ⟨b, off, cs, hr, hs, hcell, hR⟩ := he i hi;exact ⟨b, off, cs, hr, hs, fun j u hj => bget hb (hcell j u hj), hm _ _ _ _ hb hR⟩
def IntR (_ : World) (cs : List Value) (n : Int) : Prop := cs[0]? = some (.int .i64 n) /\ -9223372036854775808 <= n /\ n <= 9223372036854775807
def StrR (_ : World) (cs : List Value) (s : ByteArray) : Prop := cs[0]? = some (.string s) /\ s.size <= maxLen
theorem intR_mono : Mono IntR := fun _ _ _ _ _ h => h
theorem strR_mono : Mono StrR := fun _ _ _ _ _ h => h
theorem list_of {α : Type} (n : Nat) (p : Nat -> α -> Prop) (h : ∀ i, i < n -> ∃ x, p i x) : ∃ xs : List α, xs.length = n /\ ∀ (i : Nat) (hi : i < xs.length), p i (xs[i]) := by
 induction n with
 | zero => exact ⟨[], rfl, fun i hi => absurd hi (by simp)⟩
 | succ n ih =>
   obtain ⟨xs, hl, hx⟩ := ih fun i hi => h i (by omega);obtain ⟨x, hp⟩ := h n (by omega);refine ⟨xs ++ [x], by simp [hl], fun i hi => ?_⟩
   by_cases hin : i < xs.length
   . rw [List.getElem_append_left hin]; exact hx i hin
   . have : i = xs.length := by simp at hi; omega
     subst this;simp only [List.getElem_concat_length];rw [hl]; exact hp
theorem cells_list {w : World} {base : Nat} {a : Addr} {n : Nat} {cs : List Value} (h : w.cells? base a n = some cs) : cs.length = n /\ ∀ (j : Nat) (u : Value), cs[j]? = some u -> w.cell? (a.add j) = some u := by
 unfold World.cells? at h;split at h
 case isFalse => cases h
 have hlen : cs.length = n := by simpa using mapM_some_length h
 refine ⟨hlen, fun j u hj => ?_⟩;have hjn : j < cs.length := (List.getElem?_eq_some_iff.1 hj).1;have := mapM_some_get h j j (by rw [List.getElem?_range (by omega)]);rw [this, hj]
theorem cell_of_field {cs : List Value} {o : Nat} {v : Value} (h : (cs.drop o).take 1 = [v]) : cs[o]? = some v := by
 have : ((cs.drop o).take 1)[0]? = some v := by rw [h]; rfl
 simpa using this
theorem field_int {H : Type} {enc : TypeId × Value -> H} {P : Program} {w : World} {T : TypeId} {k : IntKind} {fuel o : Nat} {cs : List Value} {y : DataW H × List MemPlace}
 (hT : P.underlying T = some (.int k)) (h : DataW.trod enc P w 0 (fun _ => true) true fuel T ((cs.drop o).take 1) = some y) : ∃ n, cs[o]? = some (.int k n) /\ (Lit.int k n).wf = true := by
 obtain ⟨n, h1, _, h3⟩ := DataW.trod_int hT h;exact ⟨n, cell_of_field h1, h3⟩
theorem field_str {H : Type} {enc : TypeId × Value -> H} {P : Program} {w : World} {T : TypeId} {fuel o : Nat} {cs : List Value} {y : DataW H × List MemPlace}
 (hT : P.underlying T = some .string) (h : DataW.trod enc P w 0 (fun _ => true) true fuel T ((cs.drop o).take 1) = some y) : ∃ s, cs[o]? = some (.string s) /\ s.size <= maxLen := by
 obtain ⟨s, h1, _, h3⟩ := DataW.trod_string hT h;exact ⟨s, cell_of_field h1, h3⟩
theorem field_bool {H : Type} {enc : TypeId × Value -> H} {P : Program} {w : World} {T : TypeId} {fuel o : Nat} {cs : List Value} {y : DataW H × List MemPlace}
 (hT : P.underlying T = some .bool) (h : DataW.trod enc P w 0 (fun _ => true) true fuel T ((cs.drop o).take 1) = some y) : ∃ b, cs[o]? = some (.bool b) := by
 obtain ⟨s, h1, _⟩ := DataW.trod_bool hT h;exact ⟨s, cell_of_field h1⟩
theorem bounds_i64 {n : Int} (h : (Lit.int .i64 n).wf = true) : -9223372036854775808 <= n /\ n <= 9223372036854775807 := by
 simpa [Lit.wf, IntKind.min, IntKind.max, IntKind.signed, IntKind.bits] using h
theorem cell_of_slice_field {cs : List Value} {o : Nat} (ho : o < cs.length) : (cs.drop o).take 1 = [cs[o]] := by
 apply List.ext_getElem
 . simp; omega
 . intro i h1 h2; simp at h1 h2; simp [h2]
theorem make_fact {P : Program} {T E : TypeId} {i : TypeInfo} {z : Value} {sz bytes : Nat} (ht : P.underlying T = some (.slice E)) (hi : P.info? E = some i) (hz : i.zero = some z) (hsize : i.size = sz) (hby : i.bytes = bytes)
 (hzs : z.cells.size = sz) (n : Nat) (hb : bytes * n <= 281474976710656) (hn : n <= 9223372036854775807) :
 ∃ C : Array Value, C.size = n * sz /\ (∀ (k j : Nat) (u : Value), k < n -> z.cells[j]? = some u -> C[k * sz + j]? = some u) /\
  ∀ w, (Instr.makeSlice T (.int .i64 (n : Int)) (.int .i64 (n : Int))).run P w = .ok (.slice (some ⟨w.heap.size, 0, none⟩) n n) (w.alloc (.cells C E)) := by
 refine ⟨madeCells z.cells (n * i.size), by rw [size_madeCells, hsize], ?_, fun w => ?_⟩
 . intro k j u hk hj
   rw [hsize];have hjs : j < sz := by rw [<- hzs]; exact (Array.getElem?_eq_some_iff.1 hj).1
   have hlt : k * sz + j < n * sz := by
    have : (k + 1) * sz <= n * sz := Nat.mul_le_mul_right _ hk;rw [Nat.add_mul, Nat.one_mul] at this; omega
   unfold madeCells;rw [Array.getElem?_map, Array.getElem?_range, if_pos hlt];simp only [Option.map_some, hzs];rw [Nat.mul_comm k sz, Nat.mul_add_mod, Nat.mod_eq_of_lt hjs];have hjz : j < z.cells.size := by omega
   rw [getElem!_pos z.cells j hjz, <- hj, Array.getElem?_eq_getElem hjz]
 . have hb2 : (i.bytes : Int) * (n : Int) <= 281474976710656 := by
    have h : ((bytes * n : Nat) : Int) <= 281474976710656 := by omega
    rw [Int.natCast_mul] at h;rw [hby]; exact h
   have := run_make (P := P) w T E i z ht hi hz .i64 .i64 (n : Int) (n : Int) (by omega) (Int.le_refl _) hb2 (by omega);rw [Int.toNat_natCast] at this;exact this
end Go.Proofs.YtpnogmicfomofaaGreatDoor
namespace Go.Proofs.YtpnogmicfomofaaGreatDoor
open Go.RowKit Go.Sort Go.Lib Go.Maps
theorem sl_len {α : Type} {R : World -> List Value -> α -> Prop} {sz : Nat} {w : World} {r : Option Addr} {n c : Nat} {xs : List α} (h : Sl R sz w (.slice r n c) xs) : n = xs.length /\ n <= c /\ c <= 9223372036854775807 := by
 obtain ⟨r', c', e, h1, h2, _⟩ := h;simp at e;obtain ⟨rfl, rfl, rfl⟩ := e;unfold maxLen at h2;exact ⟨rfl, h1, by omega⟩
theorem str_at {w : World} {r : Option Addr} {n c : Nat} {ks : List ByteArray} (h : Sl StrR 1 w (.slice r n c) ks) (i : Nat) (hi : i < ks.length) :
 ∃ b off, r = some ⟨b, off, none⟩ /\ b < w.heap.size /\ w.cell? ⟨b, off + i, none⟩ = some (.string ks[i]) /\ (ks[i]).size <= maxLen := by
 obtain ⟨r', c', e, h1, h2, he⟩ := h;simp at e;obtain ⟨rfl, rfl, rfl⟩ := e;obtain ⟨b, off, cs, hr, _, hc, hR, hs⟩ := he i hi;have g0 := hc 0 _ hR;simp only [Nat.add_zero, Nat.mul_one] at g0;exact ⟨b, off, hr, World.block_lt_of_cell? w _ g0, g0, hs⟩
theorem ba_ext {a b : ByteArray} (h : a.data.toList = b.data.toList) : a = b := by
 cases a; cases b; simp at h; subst h; rfl
theorem bel_drewN {B : Nat} {a w : World} (h : Below B a w) (n : Nat) : Below B a (w.drewN n) := h.trans ⟨rfl, rfl, rfl, Nat.le_refl _, fun _ _ => rfl⟩
end Go.Proofs.YtpnogmicfomofaaGreatDoor
namespace Go.Proofs.YtpnogmicfomofaaGreatDoor
open Go.RowKit Go.Sort Go.Lib
open Go.Lib (hid)
theorem flat_get {α : Type} (enc : α -> List Value) (sz : Nat) (hsz : ∀ x, (enc x).length = sz) : ∀ (xs : List α) (i : Nat) (hi : i < xs.length) (j : Nat), j < sz -> (xs.flatMap enc)[i * sz + j]? = (enc (xs[i]))[j]? := by
 intro xs
 induction xs with
 | nil => intro i hi; exact absurd hi (by simp)
 | cons x xs ih =>
   intro i hi j hj;rw [List.flatMap_cons];cases i with
   | zero => rw [List.getElem?_append_left (by rw [hsz]; omega)]; simp
   | succ i =>
     have e : (i + 1) * sz + j = (enc x).length + (i * sz + j) := by rw [hsz, Nat.add_mul]; omega
     rw [e, List.getElem?_append_right (by omega), Nat.add_sub_cancel_left];simp only [List.getElem_cons_succ];exact ih i (by simpa using hi) j hj
theorem flat_len {α : Type} (enc : α -> List Value) (sz : Nat) (hsz : ∀ x, (enc x).length = sz) (xs : List α) : (xs.flatMap enc).length = xs.length * sz := by
 induction xs with
 | nil => simp
 | cons x xs ih => rw [List.flatMap_cons, List.length_append, hsz, ih, List.length_cons, Nat.add_mul]; omega
theorem sl_of_own {α : Type} (enc : α -> List Value) {sz B : Nat} {e : TypeId} (hsz : ∀ x, (enc x).length = sz) {w : World} {v : Value} {xs : List α} (h : w.ownsRow B e sz v xs.length (xs.flatMap enc)) : Sl (fun _ cs (x : α) => cs = enc x) sz w v xs := by
 rcases h.2 with ⟨rfl, h0⟩ | ⟨g, cap, cur, rfl, hb, hg, hn, hc, hs, ht⟩
 . have : xs = [] := List.eq_nil_of_length_eq_zero h0
   subst this;exact ⟨none, 0, rfl, by simp, by simp, fun i hi => absurd hi (by simp)⟩
 . refine ⟨some ⟨g, 0, none⟩, cap, rfl, hn, hc, fun i hi => ⟨g, 0, enc xs[i], rfl, hsz _, fun j u hj => ?_, rfl⟩⟩
   have hjs : j < sz := by have := (List.getElem?_eq_some_iff.1 hj).1; rwa [hsz] at this
   have h1 := flat_get enc sz hsz xs i hi j hjs
   have hlt : i * sz + j < xs.length * sz := by
    have : (i + 1) * sz <= xs.length * sz := Nat.mul_le_mul_right _ hi;rw [Nat.add_mul, Nat.one_mul] at this; omega
   rw [<- ht, List.getElem?_take, if_pos hlt, Array.getElem?_toList] at h1;unfold World.cell?;simp only [hg, Nat.zero_add];simp only [Option.isSome_none, Bool.false_eq_true, if_false];rw [h1, hj]
theorem wpList_append_rows {α : Type} (enc : α -> List Value) {sz bytes : Nat} {T E : TypeId} {z : Value} {w : World} {ops : Array Oper} {rest : List Oper} {o : Oper} {a : Act} {Q : Exit -> Act -> World -> Prop} (hsz : ∀ x, (enc x).length = sz) (hone : ∀ x, ∀ u ∈ enc x, u.oneCell' = true)
 (hT : Tryz.prog.underlying T = some (.slice E)) (hinfo : (Tryz.prog.info? E).map (fun i => (i.zero, i.size, i.bytes)) = some (some z, sz, bytes)) (hzs : z.cells.size = sz) (hpos : 0 < sz) (hbytes : bytes <= 1000)
 (hgd : o.guard = none) (s x : Operand) (ho : o.op = .call { callee := .builtin .append, args := #[s, x], argTypes := #[T, T] })
 (B : Nat) (v : Value) (xs : List α) (hs : a.eval s = v) (hown : w.ownsRow B E sz v xs.length (xs.flatMap enc)) (nb m c : Nat) (ys : List α) (hm : ys.length = m) (hm0 : 0 < m) (hx : a.eval x = .slice (some ⟨nb, 0, none⟩) m c)
 {fr : Nat × Nat} (hy : w.heap[nb]? = some (.cells (ys.flatMap enc).toArray E fr)) (hn : xs.length + m <= 2000000) (hbase : B <= w.heap.size)
 (h : ∀ g cap w', w'.ownsRow B E sz (.slice (some ⟨g, 0, none⟩) (xs.length + m) cap) (xs ++ ys).length ((xs ++ ys).flatMap enc) -> w.grownBy w' v.ownBlock -> (v.ownBlock = some g ∨ g = w.heap.size) -> g < w'.heap.size ->
  wpList Tryz.prog ops Q rest (a.put o.dst (.slice (some ⟨g, 0, none⟩) (xs.length + m) cap)) w') : wpList Tryz.prog ops Q (o :: rest) a w := by
 obtain ⟨i0, hi, hz0, hz1, hz2⟩ := info_parts hinfo;refine wpList_append_lies w hgd s x T ho B E i0 z sz bytes hT hi hz0 hz1 hz2 hzs hpos v xs.length (xs.flatMap enc) hs hown ⟨nb, 0, none⟩ m c (ys.flatMap enc) hx (by rw [flat_len enc sz hsz, hm]) ?_ ?_ hm0 (by unfold maxLen; omega) ?_ hbase _ rfl ?_
 . intro j u hj
   exact World.news_of_block hy j u (by simpa using hj)
 . intro u hu
   obtain ⟨y, _, hy2⟩ := List.mem_flatMap.1 hu;exact hone y u hy2
 . have : (xs.length + m) * bytes <= 2000000 * 1000 := Nat.mul_le_mul hn hbytes
   omega
 . intro g cap w' h1 h2 h3 h4
   refine h g cap w' ?_ h2 h3 h4;rw [List.flatMap_append, List.length_append, hm];exact h1
theorem step_append_row {α : Type} (encf : α -> List Value) {sz bytes : Nat} {T E : TypeId} {z : Value} {w : World} {ops : Array Oper} {o : Oper} {a : Act} {K : Act -> World -> Prop} {Q : Exit -> Act -> World -> Prop} {F : Prop} (hsz : ∀ x, (encf x).length = sz) (hone : ∀ x, ∀ u ∈ encf x, u.oneCell' = true)
 (hT : Tryz.prog.underlying T = some (.slice E)) (hinfo : (Tryz.prog.info? E).map (fun i => (i.zero, i.size, i.bytes)) = some (some z, sz, bytes)) (hzs : z.cells.size = sz) (hpos : 0 < sz) (hbytes : bytes <= 1000)
 (hgd : o.guard = none) (s x : Operand) (ho : o.op = .call { callee := .builtin .append, args := #[s, x], argTypes := #[T, T] })
 (B : Nat) (v : Value) (xs : List α) (hs : a.eval s = v) (hown : w.ownsRow B E sz v xs.length (xs.flatMap encf)) (nb c : Nat) (y : α) (hx : a.eval x = .slice (some ⟨nb, 0, none⟩) 1 c)
 {fr : Nat × Nat} (hy : w.heap[nb]? = some (.cells (encf y).toArray E fr)) (hn : xs.length + 1 <= 2000000) (hbase : B <= w.heap.size) (H : Nat) (hH : w.heap.size = H)
 (h : ∀ g cap w', w'.ownsRow B E sz (.slice (some ⟨g, 0, none⟩) (xs.length + 1) cap) (xs ++ [y]).length ((xs ++ [y]).flatMap encf) -> w.grownBy w' v.ownBlock -> (v.ownBlock = some g ∨ g = H) -> g < w'.heap.size -> K (a.put o.dst (.slice (some ⟨g, 0, none⟩) (xs.length + 1) cap)) w') :
 if Region.wanted o (yielded ops a.tmps) = true then Oper.wp Tryz.prog o a w K Q else F := by
 obtain ⟨i0, hi, hz0, hz1, hz2⟩ := info_parts hinfo;refine step_append_lies w hgd s x T ho B E i0 z sz bytes hT hi hz0 hz1 hz2 hzs hpos v xs.length (xs.flatMap encf) hs hown ⟨nb, 0, none⟩ 1 c (encf y) hx (by rw [hsz]; omega) ?_ (hone y) (by omega) (by unfold maxLen; omega) ?_ hbase H hH ?_
 . intro j u hj
   exact World.news_of_block hy j u (by simpa using hj)
 . have : (xs.length + 1) * bytes <= 2000000 * 1000 := Nat.mul_le_mul hn hbytes
   omega
 . intro g cap w' h1 h2 h3 h4
   refine h g cap w' ?_ h2 h3 h4;rw [List.flatMap_append, List.length_append];simpa using h1
def encS (s : ByteArray) : List Value := [.string s]
theorem encS_len : ∀ x, (encS x).length = 1 := fun _ => rfl
theorem encS_one : ∀ x, ∀ u ∈ encS x, u.oneCell' = true := fun x u hu => by
 simp only [encS, List.mem_cons, List.mem_nil_iff, or_false] at hu;subst hu; rfl
theorem encS_flat (ks : List ByteArray) : ks.flatMap encS = ks.map Value.string := by
 induction ks with
 | nil => rfl
 | cons k ks ih => rw [List.flatMap_cons, ih]; rfl
theorem strinfo : (Tryz.prog.info? 9).map (fun i => (i.zero, i.size, i.bytes)) = some (some (.string ByteArray.empty), 1, 16) := by kernel_rfl
theorem cell_alloc_drew {w : World} {o : Obj} {a : Addr} {v : Value} (h : w.cell? a = some v) : ((w.alloc o).drew).cell? a = some v := by
 have : (w.alloc o).cell? a = some v := bget ((Below.refl _ _).alloc (Nat.le_refl _) _) h;exact this
theorem lt_alloc_drew {w : World} {o : Obj} {n : Nat} (h : n < w.heap.size) : n < ((w.alloc o).drew).heap.size := by
 have : n < (w.alloc o).heap.size := by simp; omega
 exact this
theorem below_alloc_drew (w : World) (o : Obj) : Below w.heap.size w ((w.alloc o).drew) := ((Below.refl _ _).alloc (Nat.le_refl _) _).drew
theorem grown_cell {W W' : World} {row : Option Nat} {b o : Nat} {v : Value} (hg : W.grownBy W' row) (hb : b < W.heap.size) (hr : ∀ g, row = some g -> g ≠ b) (h : W.cell? ⟨b, o, none⟩ = some v) : W'.cell? ⟨b, o, none⟩ = some v :=
 (World.cell?_of_block (w := W) (hg.block b hb (fun e => hr b e.symm rfl))).trans h
theorem grown_frozen {W W' : World} {row : Option Nat} {b o : Nat} (hg : W.grownBy W' row) (hb : b < W.heap.size) (hr : ∀ g, row = some g -> g ≠ b) : W'.frozen? ⟨b, o, none⟩ = W.frozen? ⟨b, o, none⟩ :=
 World.frozen?_of_block (w := W) (hg.block b hb (fun e => hr b e.symm rfl))
theorem own_form {w : World} {B sz n : Nat} {e : TypeId} {v : Value} {xs : List Value} (h : w.ownsRow B e sz v n xs) : ∃ r c, v = .slice r n c /\ n <= c /\ c <= maxLen := by
 rcases h.2 with ⟨rfl, rfl⟩ | ⟨g, cap, cur, rfl, _, _, h1, h2, _⟩
 . exact ⟨none, 0, rfl, by simp, by simp⟩
 . exact ⟨_, cap, rfl, h1, h2⟩
theorem strs_le {w : World} {v : Value} {ks : List ByteArray} (h : Sl StrR 1 w v ks) : ∀ k ∈ ks, k.size <= maxLen := fun k hk => by
 obtain ⟨i, hi, rfl⟩ := List.mem_iff_getElem.1 hk;obtain ⟨_, _, _, _, _, he⟩ := h;obtain ⟨_, _, _, _, _, _, _, hs⟩ := he i hi;exact hs
theorem cell_at {w : World} {cs : Array Value} {T b o : Nat} {v : Value} (hb : b = w.heap.size) (hv : cs[o]? = some v) : (w.alloc (.cells cs T)).cell? ⟨b, o, none⟩ = some v := by
 subst hb;unfold World.cell?;rw [(MapKept.heap_alloc w _).1];simpa using hv
theorem lt_of_block {w : World} {b : Nat} {o : Obj} (h : w.heap[b]? = some o) : b < w.heap.size := (Array.getElem?_eq_some_iff.1 h).1
def OwnS (B : Nat) (w : World) (v : Value) (xs : List ByteArray) : Prop := w.ownsRow B 9 1 v xs.length (xs.flatMap encS) /\ ∀ x ∈ xs, x.size <= maxLen
def Apart (a b : Value) : Prop := ∀ g, a.ownBlock = some g -> b.ownBlock ≠ some g
theorem Apart.symm {a b : Value} (h : Apart a b) : Apart b a := fun g h1 h2 => h g h2 h1
theorem Apart.nil (a : Value) : Apart a (.slice none 0 0) := fun g _ h => by simp [Value.ownBlock] at h
theorem Apart.nil' (a : Value) : Apart (.slice none 0 0) a := fun g h => by simp [Value.ownBlock] at h
theorem ownS_nil (B : Nat) (w : World) : OwnS B w (.slice none 0 0) [] := ⟨World.ownsRow_nil w B _ 1, by simp⟩
theorem kept_off {B : Nat} {w w' : World} {v : Value} {e : TypeId} {sz n : Nat} {row : Option Nat} {xs : List Value} (h : w.ownsRow B e sz v n xs) (hg : w.grownBy w' row) (hr : ∀ g, v.ownBlock = some g -> row ≠ some g) : w'.ownsRow B e sz v n xs :=
 h.kept hg (by
  cases hv : v.ownBlock with
  | none => exact .inl rfl
  | some g => right; exact fun e => hr g hv e.symm)
theorem OwnS.kept {B : Nat} {w w' : World} {v : Value} {row : Option Nat} {xs : List ByteArray} (h : OwnS B w v xs) (hg : w.grownBy w' row) (hr : ∀ g, v.ownBlock = some g -> row ≠ some g) : OwnS B w' v xs := ⟨kept_off h.1 hg hr, h.2⟩
theorem grown_below {w w' : World} (hb : Below w.heap.size w w') : w.grownBy w' none := ⟨hb.os, hb.tape, hb.output, hb.size, fun k hk _ => hb.block k hk⟩
theorem OwnS.below {B : Nat} {w w' : World} {v : Value} {xs : List ByteArray} (h : OwnS B w v xs) (hb : Below w.heap.size w w') : OwnS B w' v xs := h.kept (grown_below hb) (fun _ _ h => by cases h)
theorem OwnS.lt {B : Nat} {w : World} {v : Value} {xs : List ByteArray} (h : OwnS B w v xs) : ∀ g, v.ownBlock = some g -> B <= g /\ g < w.heap.size := h.1.lt
theorem OwnS.form {B : Nat} {w : World} {v : Value} {xs : List ByteArray} (h : OwnS B w v xs) : ∃ r c, v = .slice r xs.length c /\ xs.length <= c /\ c <= maxLen := own_form h.1
theorem OwnS.sl {B : Nat} {w : World} {v : Value} {xs : List ByteArray} (h : OwnS B w v xs) : Sl StrR 1 w v xs := by
 obtain ⟨r, c, e, h1, h2, he⟩ := sl_of_own encS encS_len h.1;refine ⟨r, c, e, h1, h2, fun i hi => ?_⟩;obtain ⟨b, off, cs, hr, hs, hc, hx⟩ := he i hi;exact ⟨b, off, cs, hr, hs, hc, by rw [hx]; rfl, h.2 _ (List.getElem_mem hi)⟩
theorem Apart.app {B : Nat} {w : World} {a b : Value} {e : TypeId} {sz k : Nat} {xs : List Value} {g n cap H : Nat} (ha : w.ownsRow B e sz a k xs) (h : Apart a b) (hat : b.ownBlock = some g ∨ g = H) (hH : w.heap.size <= H) : Apart a (.slice (some ⟨g, 0, none⟩) n cap) := by
 intro k hk e;simp [Value.ownBlock] at e;subst e;rcases hat with hat | hat
 . exact h g hk hat
 . have := (ha.lt _ hk).2; omega
def MoreS (B : Nat) (w : World) (v : Value) (xs : List ByteArray) (H : Nat) (g cap : Nat) (w' : World) : Prop :=
 OwnS B w' (.slice (some ⟨g, 0, none⟩) xs.length cap) xs /\ w.grownBy w' v.ownBlock /\ (v.ownBlock = some g ∨ g = H) /\ g < w'.heap.size
section
variable {w : World} {ops : Array Oper} {rest : List Oper} {o : Oper} {a : Act} {Q : Exit -> Act -> World -> Prop}
theorem app_str (hgd : o.guard = none) (s x : Operand) (ho : o.op = .call { callee := .builtin .append, args := #[s, x], argTypes := #[27, 27] })
 (B : Nat) (v : Value) (xs : List ByteArray) (hs : a.eval s = v) (hown : OwnS B w v xs) (nb c : Nat) (y : ByteArray) (hx : a.eval x = .slice (some ⟨nb, 0, none⟩) 1 c) {fr : Nat × Nat} (hy : w.heap[nb]? = some (.cells #[.string y] 9 fr)) (hys : y.size <= maxLen)
 (hn : xs.length + 1 <= 2000000) (hbase : B <= w.heap.size) (H : Nat) (hH : w.heap.size = H)
 (h : ∀ g cap w', MoreS B w v (xs ++ [y]) H g cap w' -> wpList Tryz.prog ops Q rest (a.put o.dst (.slice (some ⟨g, 0, none⟩) (xs.length + 1) cap)) w') : wpList Tryz.prog ops Q (o :: rest) a w := by
 subst hH;refine wpList_append_rows encS encS_len encS_one Tryz.underlying27 strinfo rfl (by omega) (by omega) hgd s x ho B v xs hs hown.1 nb 1 c [y] rfl (by omega) hx (fr := fr) hy hn hbase ?_;intro g cap w' h1 h2 h3 h4;refine h g cap w' ⟨⟨?_, ?_⟩, h2, h3, h4⟩
 . simpa using h1
 . intro z hz
   rw [List.mem_append] at hz;rcases hz with hz | hz
   . exact hown.2 z hz
   . simp at hz; subst hz; exact hys
end
section
variable {w : World} {ops : Array Oper} {o : Oper} {a : Act} {K : Act -> World -> Prop} {Q : Exit -> Act -> World -> Prop} {F : Prop}
theorem step_str (hgd : o.guard = none) (s x : Operand) (ho : o.op = .call { callee := .builtin .append, args := #[s, x], argTypes := #[27, 27] })
 (B : Nat) (v : Value) (xs : List ByteArray) (hs : a.eval s = v) (hown : OwnS B w v xs) (nb c : Nat) (y : ByteArray) (hx : a.eval x = .slice (some ⟨nb, 0, none⟩) 1 c) {fr : Nat × Nat} (hy : w.heap[nb]? = some (.cells #[.string y] 9 fr)) (hys : y.size <= maxLen)
 (hn : xs.length + 1 <= 2000000) (hbase : B <= w.heap.size) (H : Nat) (hH : w.heap.size = H)
 (h : ∀ g cap w', MoreS B w v (xs ++ [y]) H g cap w' -> K (a.put o.dst (.slice (some ⟨g, 0, none⟩) (xs.length + 1) cap)) w') :
 if Region.wanted o (yielded ops a.tmps) = true then Oper.wp Tryz.prog o a w K Q else F := by
 refine step_append_row encS encS_len encS_one Tryz.underlying27 strinfo rfl (by omega) (by omega) hgd s x ho B v xs hs hown.1 nb c y hx (fr := fr) hy hn hbase H hH ?_;intro g cap w' h1 h2 h3 h4;refine h g cap w' ⟨⟨?_, ?_⟩, h2, h3, h4⟩
 . simpa using h1
 . intro z hz
   rw [List.mem_append] at hz;rcases hz with hz | hz
   . exact hown.2 z hz
   . simp at hz; subst hz; exact hys
end
end Go.Proofs.YtpnogmicfomofaaGreatDoor
namespace Go.Proofs.YtpnogmicfomofaaGreatDoor
inductive Val where
 | mk (kind num : Int) (str : ByteArray) (items : List Val) (keys : List ByteArray)
namespace Val
def kind : Val -> Int | .mk k _ _ _ _ => k
def num : Val -> Int | .mk _ n _ _ _ => n
def str : Val -> ByteArray | .mk _ _ s _ _ => s
def items : Val -> List Val | .mk _ _ _ is _ => is
def keys : Val -> List ByteArray | .mk _ _ _ _ ks => ks
theorem size_items : ∀ (x y : Val), y ∈ x.items -> SizeOf.sizeOf y < SizeOf.sizeOf x
 | .mk k n s is ks, y, h => by
   have := List.sizeOf_lt_of_mem (show y ∈ is from h);simp; omega
theorem ind {P : Val -> Prop} (h : ∀ x : Val, (∀ y ∈ x.items, P y) -> P x) (x : Val) : P x :=
 h x fun y hy => have := size_items x y hy; ind h y
termination_by SizeOf.sizeOf x
end Val
mutual
def nodes : Val -> Nat
 | .mk _ _ _ is _ => 1 + nodesL is
def nodesL : List Val -> Nat
 | [] => 0
 | x :: xs => nodes x + nodesL xs
end
mutual
def nkeys : Val -> Nat
 | .mk _ _ _ is ks => ks.length + nkeysL is
def nkeysL : List Val -> Nat
 | [] => 0
 | x :: xs => nkeys x + nkeysL xs
end
mutual
def leftV : Val -> Int -> Int -> Int
 | .mk _ _ _ is _, n, l => if n < 1 ∨ l < 1 then -1 else leftL is (n - 1) (l - 1)
def leftL : List Val -> Int -> Int -> Int
 | [], n, _ => n
 | x :: xs, n, l => if 0 <= n then leftL xs (leftV x n l) l else n
end
mutual
def depth : Val -> Nat
 | .mk _ _ _ is _ => 1 + depthL is
def depthL : List Val -> Nat
 | [] => 0
 | x :: xs => max (depth x) (depthL xs)
end
theorem nodes_pos (x : Val) : 1 <= nodes x := by cases x; unfold nodes; omega
theorem nodes_eq (x : Val) : nodes x = 1 + nodesL x.items := by cases x; rw [nodes]; rfl
theorem nkeys_eq (x : Val) : nkeys x = x.keys.length + nkeysL x.items := by cases x; rw [nkeys]; rfl
theorem nodes_mem {is : List Val} {x : Val} (h : x ∈ is) : nodes x <= nodesL is := by
 induction is with
 | nil => cases h
 | cons y ys ih =>
   rw [nodesL];rcases List.mem_cons.1 h with rfl | h
   . omega
   . have := ih h; omega
theorem nodesL_len (is : List Val) : is.length <= nodesL is := by
 induction is with
 | nil => simp
 | cons y ys ih => have := nodes_pos y; simp [nodesL]; omega
end Go.Proofs.YtpnogmicfomofaaGreatDoor
namespace Go.Proofs.YtpnogmicfomofaaGreatDoor
open Go.RowKit Go.Sort
inductive VR (w : World) : List Value -> Val -> Prop where
 | mk (k n : Int) (s : ByteArray) (is : List Val) (ks : List ByteArray) (r : Option Addr) (b off c : Nat) (cs : Nat -> List Value) (vK : Value)
    (hk : -9223372036854775808 <= k /\ k <= 9223372036854775807) (hn : -9223372036854775808 <= n /\ n <= 9223372036854775807) (hs : s.size <= maxLen)
    (hl : is.length <= c) (hc : c <= maxLen) (hr : is ≠ [] -> r = some ⟨b, off, none⟩) (h5 : ∀ i, i < is.length -> (cs i).length = 5)
    (hcell : ∀ (i j : Nat) (u : Value), i < is.length -> (cs i)[j]? = some u -> w.cell? ⟨b, off + i * 5 + j, none⟩ = some u)
    (hR : ∀ (i : Nat) (h : i < is.length), VR w (cs i) is[i]) (hK : Sl StrR 1 w vK ks) (hkl : ks.length <= 10000000000000) (hil : is.length <= 10000000000000) : VR w [.int .i64 k, .int .i64 n, .string s, .slice r is.length c, vK] (.mk k n s is ks)
def i64B (n : Int) : Prop := -9223372036854775808 <= n /\ n <= 9223372036854775807
theorem VR.open' {w : World} {cs : List Value} {x : Val} (h : VR w cs x) : ∃ r c vK, cs = [.int .i64 x.kind, .int .i64 x.num, .string x.str, .slice r x.items.length c, vK] /\ Sl VR 5 w (.slice r x.items.length c) x.items /\ Sl StrR 1 w vK x.keys /\
 i64B x.kind /\ i64B x.num /\ x.str.size <= maxLen /\ x.keys.length <= 10000000000000 /\ x.items.length <= 10000000000000 := by
 cases h with
 | mk k n s is ks r b off c cs vK hk hn hs hl hc hr h5 hcell hR hK hkl hil =>
   refine ⟨r, c, vK, rfl, ⟨r, c, rfl, hl, hc, fun i hi => ⟨b, off, cs i, hr (fun e => by simp only [Val.items] at hi; rw [e] at hi; simp at hi), h5 i hi, fun j u hj => hcell i j u hi hj, hR i hi⟩⟩, hK, hk, hn, hs, hkl, hil⟩
theorem VR.make {w : World} {x : Val} {r : Option Addr} {c : Nat} {vK : Value} (hI : Sl VR 5 w (.slice r x.items.length c) x.items) (hK : Sl StrR 1 w vK x.keys) (hk : i64B x.kind) (hn : i64B x.num) (hs : x.str.size <= maxLen) (hkl : x.keys.length <= 10000000000000) (hil : x.items.length <= 10000000000000) :
 VR w [.int .i64 x.kind, .int .i64 x.num, .string x.str, .slice r x.items.length c, vK] x := by
 obtain ⟨r', c', hv, hl, hc, he⟩ := hI;simp at hv;obtain ⟨rfl, rfl⟩ := hv;obtain ⟨k, n, s, is, ks⟩ := x;simp only [Val.kind, Val.num, Val.str, Val.items, Val.keys] at *;cases hr : r with
 | none =>
   have h0 : is = [] := by
    cases is with
    | nil => rfl
    | cons y ys => obtain ⟨b, off, cs, h1, _⟩ := he 0 (by simp); rw [hr] at h1; cases h1
   subst h0;exact .mk k n s [] ks none 0 0 c (fun _ => []) vK hk hn hs hl hc (fun h => absurd rfl h) (fun i h => absurd h (by simp)) (fun i j u h => absurd h (by simp)) (fun i h => absurd h (by simp)) hK hkl hil
 | some a =>
   have hex : ∃ cs : Nat -> List Value, ∀ i (h : i < is.length), ∃ b off, some a = some ⟨b, off, none⟩ /\ (cs i).length = 5 /\ (∀ (j : Nat) (u : Value), (cs i)[j]? = some u -> w.cell? ⟨b, off + i * 5 + j, none⟩ = some u) /\ VR w (cs i) is[i] := by
    have hall : ∀ i, ∃ cs : List Value, ∀ (h : i < is.length), ∃ b off, some a = some ⟨b, off, none⟩ /\ cs.length = 5 /\ (∀ (j : Nat) (u : Value), cs[j]? = some u -> w.cell? ⟨b, off + i * 5 + j, none⟩ = some u) /\ VR w cs is[i] := fun i => by
     by_cases h : i < is.length
     . obtain ⟨b, off, cs, h1, h2⟩ := he i h
       exact ⟨cs, fun _ => ⟨b, off, by rw [<- hr]; exact h1, h2⟩⟩
     . exact ⟨[], fun h' => absurd h' h⟩
    obtain ⟨f, hf⟩ := Classical.skolem.1 hall;exact ⟨f, hf⟩
   obtain ⟨cs, hcs⟩ := hex
   by_cases h0 : is = []
   . subst h0
     exact .mk k n s [] ks (some a) 0 0 c (fun _ => []) vK hk hn hs hl hc (fun h => absurd rfl h) (fun i h => absurd h (by simp)) (fun i j u h => absurd h (by simp)) (fun i h => absurd h (by simp)) hK hkl hil
   . have hpos : 0 < is.length := List.length_pos_iff.2 h0
     obtain ⟨b, off, ha, _⟩ := hcs 0 hpos
     have hat : ∀ i (h : i < is.length), (cs i).length = 5 /\ (∀ (j : Nat) (u : Value), (cs i)[j]? = some u -> w.cell? ⟨b, off + i * 5 + j, none⟩ = some u) /\ VR w (cs i) is[i] := fun i h => by
      obtain ⟨b', off', ha', h1⟩ := hcs i h;rw [ha] at ha';simp at ha';obtain ⟨rfl, rfl⟩ := ha';exact h1
     exact .mk k n s is ks (some a) b off c cs vK hk hn hs hl hc (fun _ => ha) (fun i h => (hat i h).1) (fun i j u h => (hat i h).2.1 j u) (fun i h => (hat i h).2.2) hK hkl hil
theorem vr_mono : Mono VR := by
 intro w w' cs x hb h
 induction h with
 | mk k n s is ks r b off c cs vK hk hn hs hl hc hr h5 hcell hR hK hkl hil ih =>
   exact .mk k n s is ks r b off c cs vK hk hn hs hl hc hr h5 (fun i j u hi hj => bget hb (hcell i j u hi hj)) (fun i h => ih i h) (hK.below strR_mono hb) hkl hil
theorem list_fit5 {cs : List Value} {a b c d e : Value} (h : cs.length = 5) (h0 : cs[0]? = some a) (h1 : cs[1]? = some b) (h2 : cs[2]? = some c) (h3 : cs[3]? = some d) (h4 : cs[4]? = some e) : cs = [a, b, c, d, e] := by
 match cs, h with
 | [x, y, z, u, v], _ => simp at h0 h1 h2 h3 h4; subst h0 h1 h2 h3 h4; rfl
end Go.Proofs.YtpnogmicfomofaaGreatDoor
namespace Go.Proofs.YtpnogmicfomofaaGreatDoor
open Go.RowKit Go.Sort Go.Lib
open Go.Lib (hid)
def VR5 (w : World) (r : Option Addr) (c : Nat) (rk : Option Addr) (ck : Nat) (x : Val) : Prop :=
 VR w [.int .i64 x.kind, .int .i64 x.num, .string x.str, .slice r x.items.length c, .slice rk x.keys.length ck] x
theorem VR.five {w : World} {cs : List Value} {x : Val} (h : VR w cs x) : ∃ r c rk ck, cs = [.int .i64 x.kind, .int .i64 x.num, .string x.str, .slice r x.items.length c, .slice rk x.keys.length ck] /\ VR5 w r c rk ck x := by
 have h0 := h;obtain ⟨r, c, vK, rfl, _, hK, _⟩ := h.open';obtain ⟨rk, ck, rfl, _⟩ := hK;exact ⟨r, c, rk, ck, rfl, h0⟩
theorem VR5.parts {w : World} {r : Option Addr} {c : Nat} {rk : Option Addr} {ck : Nat} {x : Val} (h : VR5 w r c rk ck x) :
 Sl VR 5 w (.slice r x.items.length c) x.items /\ Sl StrR 1 w (.slice rk x.keys.length ck) x.keys /\ i64B x.kind /\ i64B x.num /\ x.str.size <= maxLen /\ x.keys.length <= 10000000000000 /\ x.items.length <= 10000000000000 := by
 obtain ⟨r', c', vK, e, h1, h2, h3⟩ := VR.open' h;simp only [List.cons.injEq, Value.slice.injEq, and_true, true_and] at e;obtain ⟨⟨rfl, rfl⟩, rfl⟩ := e;exact ⟨h1, h2, h3⟩
theorem VR5.below {w w' : World} {r : Option Addr} {c : Nat} {rk : Option Addr} {ck : Nat} {x : Val} (h : VR5 w r c rk ck x) (hb : Below w.heap.size w w') : VR5 w' r c rk ck x := vr_mono _ _ _ _ hb h
end Go.Proofs.YtpnogmicfomofaaGreatDoor
namespace Go.Proofs.YtpnogmicfomofaaGreatDoor
open Go.RowKit Go.Sort Go.Lib
open Go.Lib (hid)
def mask (K : Nat -> Bool) (w : World) : World := { w with heap := w.heap.mapIdx fun i o => if K i then o else .cells #[] 0 (0, 0) }
theorem mask_heap {K : Nat -> Bool} {w : World} {b : Nat} (h : K b = true) : (mask K w).heap[b]? = w.heap[b]? := by
 unfold mask;simp only [Array.getElem?_mapIdx, h, if_true];cases w.heap[b]? <;> rfl
theorem mask_cell {K : Nat -> Bool} {w : World} {b o : Nat} {v : Value} (h : (mask K w).cell? ⟨b, o, none⟩ = some v) : K b = true /\ w.cell? ⟨b, o, none⟩ = some v := by
 cases hk : K b with
 | true => exact ⟨rfl, (World.cell?_of_block (w := w) (mask_heap hk)).symm.trans h⟩
 | false =>
   exfalso;unfold World.cell? mask at h;simp only [Array.getElem?_mapIdx, hk] at h;cases hb : w.heap[b]? with
   | none => rw [hb] at h; simp at h
   | some o => rw [hb] at h; simp at h
theorem mask_cell_mk {K : Nat -> Bool} {w : World} {b o : Nat} {v : Value} (hk : K b = true) (h : w.cell? ⟨b, o, none⟩ = some v) : (mask K w).cell? ⟨b, o, none⟩ = some v :=
 (World.cell?_of_block (w := w) (mask_heap hk)).trans h
def Stays (w w' : World) : Prop := ∀ b o v, w.cell? ⟨b, o, none⟩ = some v -> w'.cell? ⟨b, o, none⟩ = some v
theorem sl_stays {α : Type} {R : World -> List Value -> α -> Prop} {sz : Nat} {w w' : World} {v : Value} {xs : List α} (h : Stays w w') (hR : ∀ cs x, R w cs x -> R w' cs x) (hs : Sl R sz w v xs) : Sl R sz w' v xs := by
 obtain ⟨r, cap, hv, hl, hc, he⟩ := hs;refine ⟨r, cap, hv, hl, hc, fun i hi => ?_⟩;obtain ⟨b, off, cs, hr, hsz, hcell, hx⟩ := he i hi;exact ⟨b, off, cs, hr, hsz, fun j u hj => h _ _ _ (hcell j u hj), hR _ _ hx⟩
theorem vr_stays {w w' : World} (hst : Stays w w') {cs : List Value} {x : Val} (h : VR w cs x) : VR w' cs x := by
 induction h with
 | mk k n s is ks r b off c cs vK hk hn hs hl hc hr h5 hcell hR hK hkl hil ih =>
   exact .mk k n s is ks r b off c cs vK hk hn hs hl hc hr h5 (fun i j u hi hj => hst _ _ _ (hcell i j u hi hj)) (fun i h => ih i h) (sl_stays hst (fun _ _ h => h) hK) hkl hil
theorem sls_stays {w w' : World} (hst : Stays w w') {v : Value} {ks : List ByteArray} (h : Sl StrR 1 w v ks) : Sl StrR 1 w' v ks := sl_stays hst (fun _ _ h => h) h
theorem stays_mask (K : Nat -> Bool) (w : World) : Stays (mask K w) w := fun b o v h => (mask_cell h).2
theorem lt_of_cell {w : World} {b o : Nat} {v : Value} (h : w.cell? ⟨b, o, none⟩ = some v) : b < w.heap.size := World.block_lt_of_cell? w _ h
theorem stays_keep {K K' : Nat -> Bool} {w w' : World} (h : ∀ b, K b = true -> b < w.heap.size -> K' b = true /\ w'.heap[b]? = w.heap[b]?) : Stays (mask K w) (mask K' w') := fun b o v hc => by
 obtain ⟨hk, hv⟩ := mask_cell hc;obtain ⟨h1, h2⟩ := h b hk (lt_of_cell hv);exact mask_cell_mk h1 ((World.cell?_of_block (w := w) h2).trans hv)
def fromB (B : Nat) : Nat -> Bool := fun b => decide (B <= b)
theorem stays_below {K : Nat -> Bool} {w w' : World} (hb : Below w.heap.size w w') : Stays (mask K w) (mask K w') := stays_keep fun b hk hlt => ⟨hk, hb.block b hlt⟩
theorem stays_wider {K K' : Nat -> Bool} {w : World} (h : ∀ b, K b = true -> K' b = true) : Stays (mask K w) (mask K' w) := stays_keep fun b hk _ => ⟨h b hk, rfl⟩
def VK (K : Nat -> Bool) (w : World) (r : Option Addr) (c : Nat) (rk : Option Addr) (ck : Nat) (x : Val) : Prop := VR5 (mask K w) r c rk ck x
theorem VK.to {K K' : Nat -> Bool} {w w' : World} {r : Option Addr} {c : Nat} {rk : Option Addr} {ck : Nat} {x : Val} (hs : Stays (mask K w) (mask K' w')) (h : VK K w r c rk ck x) : VK K' w' r c rk ck x := vr_stays hs h
end Go.Proofs.YtpnogmicfomofaaGreatDoor
namespace Go.Proofs.YtpnogmicfomofaaGreatDoor
open Go.RowKit Go.Sort Go.Lib
open Go.Lib (hid)
structure Cv where
 k : Int
 n : Int
 s : ByteArray
 r : Option Addr
 ni : Nat
 c : Nat
 rk : Option Addr
 nk : Nat
 ck : Nat
def Cv.enc (y : Cv) : List Value := [.int .i64 y.k, .int .i64 y.n, .string y.s, .slice y.r y.ni y.c, .slice y.rk y.nk y.ck]
theorem cv_len : ∀ y : Cv, y.enc.length = 5 := fun _ => rfl
theorem cv_one : ∀ y : Cv, ∀ u ∈ y.enc, u.oneCell' = true := fun y u hu => by
 simp only [Cv.enc, List.mem_cons, List.mem_nil_iff, or_false] at hu;rcases hu with rfl | rfl | rfl | rfl | rfl <;> rfl
def Cv.of (x : Val) (r : Option Addr) (c : Nat) (rk : Option Addr) (ck : Nat) : Cv := ⟨x.kind, x.num, x.str, r, x.items.length, c, rk, x.keys.length, ck⟩
theorem VK.enc {K : Nat -> Bool} {w : World} {r : Option Addr} {c : Nat} {rk : Option Addr} {ck : Nat} {x : Val} (h : VK K w r c rk ck x) : VR (mask K w) (Cv.of x r c rk ck).enc x := h
def keepB (B : Nat) (v : Value) : Nat -> Bool := fun b => decide (B <= b) && decide (v.ownBlock ≠ some b)
structure OwnV (B : Nat) (w : World) (v : Value) (is : List Val) : Prop where
 ex : ∃ ys : List Cv, ys.length = is.length /\ w.ownsRow B 29 5 v ys.length (ys.flatMap Cv.enc) /\ ∀ (i : Nat) (h : i < ys.length) (h' : i < is.length), VR (mask (keepB B v) w) ys[i].enc is[i]
theorem sl_of_rows {w W : World} {v : Value} {B : Nat} {ys : List Cv} {is : List Val} (hl : ys.length = is.length) (h : w.ownsRow B 29 5 v ys.length (ys.flatMap Cv.enc)) (hv : ∀ (i : Nat) (h : i < ys.length) (h' : i < is.length), VR W ys[i].enc is[i]) (hst : Stays W w) : Sl VR 5 w v is := by
 obtain ⟨r, cap, rfl, h1, h2, he⟩ := sl_of_own Cv.enc cv_len h;refine ⟨r, cap, by rw [hl], by omega, h2, fun i hi => ?_⟩;obtain ⟨b, off, cs, hr, hsz, hcell, hx⟩ := he i (by omega);subst hx;exact ⟨b, off, _, hr, hsz, hcell, vr_stays hst (hv i (by omega) hi)⟩
end Go.Proofs.YtpnogmicfomofaaGreatDoor
namespace Go.Proofs
open Go.Shelf
def Tryz.lays170_ren : Go.Shelf.Ren := ⟨fun | 170 => 182 | n => n, fun | 70 => 171 | 3 => 3 | 0 => 0 | 72 => 174 | 37 => 172 | 5 => 5 | n => n, fun | n => n⟩
theorem Tryz.lays170 : Go.Proofs.Lays.n170 Tryz.prog Tryz.lays170_ren := {
 mixed := by kernel_rfl
 f170 := Tryz.func182.trans (congrArg some (by kernel_rfl))
 t0 := Tryz.underlying0
 a0 := Tryz.isAgg0
 z0 := Tryz.sizeOf0
 v0 := Tryz.zeroValue0
 t3 := Tryz.underlying3
 a3 := Tryz.isAgg3
 z3 := Tryz.sizeOf3
 v3 := Tryz.zeroValue3
 t37 := Tryz.underlying172
 a37 := Tryz.isAgg172
 z37 := Tryz.sizeOf172
 v37 := Tryz.zeroValue172
 t70 := Tryz.underlying171
 a70 := Tryz.isAgg171
 z70 := Tryz.sizeOf171
 v70 := Tryz.zeroValue171
 t72 := Tryz.underlying174
 a72 := Tryz.isAgg174
 z72 := Tryz.sizeOf174
 v72 := Tryz.zeroValue174 }
def Tryz.lays169_ren : Go.Shelf.Ren := ⟨fun | 169 => 129 | n => n, fun | 70 => 171 | 9 => 9 | 0 => 0 | 72 => 174 | 37 => 172 | 127 => 199 | 3 => 3 | 5 => 5 | n => n, fun | n => n⟩
theorem Tryz.lays169 : Go.Proofs.Lays.n169 Tryz.prog Tryz.lays169_ren := {
 mixed := by kernel_rfl
 f169 := Tryz.func129.trans (congrArg some (by kernel_rfl))
 t0 := Tryz.underlying0
 a0 := Tryz.isAgg0
 z0 := Tryz.sizeOf0
 v0 := Tryz.zeroValue0
 t3 := Tryz.underlying3
 a3 := Tryz.isAgg3
 z3 := Tryz.sizeOf3
 v3 := Tryz.zeroValue3
 t9 := Tryz.underlying9
 a9 := Tryz.isAgg9
 z9 := Tryz.sizeOf9
 v9 := Tryz.zeroValue9
 t37 := Tryz.underlying172
 a37 := Tryz.isAgg172
 z37 := Tryz.sizeOf172
 v37 := Tryz.zeroValue172
 t70 := Tryz.underlying171
 a70 := Tryz.isAgg171
 z70 := Tryz.sizeOf171
 v70 := Tryz.zeroValue171
 t72 := Tryz.underlying174
 a72 := Tryz.isAgg174
 z72 := Tryz.sizeOf174
 v72 := Tryz.zeroValue174
 t127 := Tryz.underlying199
 a127 := Tryz.isAgg199
 z127 := Tryz.sizeOf199
 v127 := Tryz.zeroValue199 }
theorem Tryz.Builder_Extra_169 : Builder.Extra Tryz.prog Tryz.lays169_ren := {
 sizeBuilder := by kernel_rfl
 liesBuilder := by kernel_rfl
 t5 := Tryz.underlying5
 a5 := Tryz.isAgg5
 z5 := Tryz.sizeOf5
 v5 := Tryz.zeroValue5
 infoByte := by kernel_rfl
 cellsByte := by kernel_rfl
 sizeByte := by kernel_rfl
 neB5 := by decide }
open Go.RowKit in
theorem Tryz.Builder_String_any (B b : Nat) (l : List UInt8) (w : World) (h : Lib.IsBuilder 174 5 B b (Lib.byteCells l) w) (hBw : B <= w.heap.size) :
 Calls Tryz.prog 129 #[.pointer (some ⟨b, 0, none⟩)] w fun e w' => e = .returned (.string ⟨l.toArray⟩) /\ Below B w w' := Any.Builder_String_any Tryz.lays169 Tryz.Builder_Extra_169 B b l w h hBw
def Tryz.lays119_ren : Go.Shelf.Ren := ⟨fun | 119 => 196 | n => n, fun | 21 => 21 | 4 => 4 | n => n, fun | n => n⟩
theorem Tryz.lays119 : Go.Proofs.Lays.n119 Tryz.prog Tryz.lays119_ren := {
 mixed := by kernel_rfl
 f119 := Tryz.func196.trans (congrArg some (by kernel_rfl))
 t4 := Tryz.underlying4
 a4 := Tryz.isAgg4
 z4 := Tryz.sizeOf4
 v4 := Tryz.zeroValue4
 t21 := Tryz.underlying21
 a21 := Tryz.isAgg21
 z21 := Tryz.sizeOf21
 v21 := Tryz.zeroValue21 }
theorem Tryz.utf8_ValidRune (r : Int) (w : World) :
 Calls Tryz.prog 196 #[.int .i32 r] w fun e w' => e = .returned (.bool (Lib.validRune r)) /\ w' = w := Any.utf8_ValidRune Tryz.lays119 r w
def Tryz.lays137_ren : Go.Shelf.Ren := ⟨fun | 137 => 160 | 217 => 185 | 266 => 203 | n => n, fun | 9 => 9 | 5 => 5 | 3 => 3 | n => n, fun | n => n⟩
theorem Tryz.lays137 : Go.Proofs.Lays.n137 Tryz.prog Tryz.lays137_ren := {
 mixed := by kernel_rfl
 f137 := Tryz.func160.trans (congrArg some (by kernel_rfl))
 f217 := Tryz.func185.trans (congrArg some (by kernel_rfl))
 f266 := Tryz.func203.trans (congrArg some (by kernel_rfl))
 t3 := Tryz.underlying3
 a3 := Tryz.isAgg3
 z3 := Tryz.sizeOf3
 v3 := Tryz.zeroValue3
 t5 := Tryz.underlying5
 a5 := Tryz.isAgg5
 z5 := Tryz.sizeOf5
 v5 := Tryz.zeroValue5
 t9 := Tryz.underlying9
 a9 := Tryz.isAgg9
 z9 := Tryz.sizeOf9
 v9 := Tryz.zeroValue9 }
open Go.RowKit in
theorem Tryz.strings_IndexByte (s : ByteArray) (c : Int) (w : World) :
 Calls Tryz.prog 160 #[.string s, .int .u8 c] w fun e w' => e = .returned (.int .i64 (Lib.indexByte s.data.toList c.toNat.toUInt8)) /\ w' = w := Any.strings_IndexByte Tryz.lays137 s c w
def Tryz.lays103_ren : Go.Shelf.Ren := ⟨fun | 103 => 154 | 210 => 173 | 206 => 178 | n => n, fun | 9 => 9 | 4 => 4 | 24 => 196 | 3 => 3 | n => n, fun | n => n⟩
theorem Tryz.lays103 : Go.Proofs.Lays.n103 Tryz.prog Tryz.lays103_ren := {
 mixed := by kernel_rfl
 f103 := Tryz.func154.trans (congrArg some (by kernel_rfl))
 f206 := Tryz.func178.trans (congrArg some (by kernel_rfl))
 f210 := Tryz.func173.trans (congrArg some (by kernel_rfl))
 t3 := Tryz.underlying3
 a3 := Tryz.isAgg3
 z3 := Tryz.sizeOf3
 v3 := Tryz.zeroValue3
 t4 := Tryz.underlying4
 a4 := Tryz.isAgg4
 z4 := Tryz.sizeOf4
 v4 := Tryz.zeroValue4
 t9 := Tryz.underlying9
 a9 := Tryz.isAgg9
 z9 := Tryz.sizeOf9
 v9 := Tryz.zeroValue9
 t24 := Tryz.underlying196
 a24 := Tryz.isAgg196
 z24 := Tryz.sizeOf196
 v24 := Tryz.zeroValue196 }
open Go.RowKit in
theorem Tryz.strings_CutPrefix (s p : ByteArray) (w : World) :
 Calls Tryz.prog 154 #[.string s, .string p] w fun e w' => e = .returned (.tuple #[.string ⟨(Lib.trimPrefix s.data.toList p.data.toList).toArray⟩, .bool (Lib.hasPrefix s.data.toList p.data.toList)]) /\ w' = w := Any.strings_CutPrefix Tryz.lays103 s p w
open Go.RowKit in
theorem Tryz.Builder_Len_f (B b : Nat) (bs : List Value) (w : World) (h : Lib.IsBuilderF 174 5 B b bs w) :
 Calls Tryz.prog 182 #[.pointer (some ⟨b, 0, none⟩)] w fun e w' => e = .returned (.int .i64 bs.length) /\ w' = w := Any.Builder_Len_f Tryz.lays170 B b bs w h
open Go.RowKit in
theorem Tryz.Builder_String_any_f (B b : Nat) (l : List UInt8) (w : World) (h : Lib.IsBuilderF 174 5 B b (Lib.byteCells l) w) (hBw : B <= w.heap.size) :
 Calls Tryz.prog 129 #[.pointer (some ⟨b, 0, none⟩)] w fun e w' => e = .returned (.string ⟨l.toArray⟩) /\ (Lib.IsBuilderF 174 5 B b (Lib.byteCells l) w' /\ Below B w w') := Any.Builder_String_any_f Tryz.lays169 Tryz.Builder_Extra_169 B b l w h hBw
open Go.RowKit in
def Tryz.laysC174_ren : Go.Shelf.Ren := ⟨fun | 174 => 187 | 247 => 204 | 245 => 205 | 287 => 214 | 279 => 215 | 280 => 216 | 281 => 217 | 282 => 218 | 321 => 224 | 322 => 225 | 316 => 226 | 171 => 191 | 205 => 227 | 243 => 207 | 246 => 202 | 283 => 210 | 284 => 211 | 285 => 212 | 286 => 213 | 129 => 112 | 317 => 220 | 318 => 221 | 319 => 222 | 320 => 223 | 337 => 228 | 338 => 229 | n => n, fun | 9 => 9 | 3 => 3 | 2 => 2 | 75 => 176 | 85 => 219 | 4 => 4 | 167 => 241 | 5 => 5 | 53 => 157 | 175 => 242 | 46 => 108 | 168 => 244 | 37 => 172 | 0 => 0 | 210 => 253 | 21 => 21 | 127 => 199 | 145 => 257 | 143 => 255 | 171 => 237 | 173 => 239 | 212 => 249 | 51 => 155 | 20 => 20 | 213 => 250 | 232 => 258 | 233 => 259 | 80 => 169 | n => n, fun | 15 => 4 | 16 => 5 | 17 => 3 | 18 => 6 | 19 => 7 | n => n⟩
theorem Tryz.laysC174 : Go.Proofs.LaysC.n174 Tryz.prog Tryz.laysC174_ren := {
 mixed := by kernel_rfl
 f129 := Tryz.func112.trans (congrArg some (by kernel_rfl))
 f171 := Tryz.func191.trans (congrArg some (by kernel_rfl))
 f174 := Tryz.func187.trans (congrArg some (by kernel_rfl))
 f205 := Tryz.func227.trans (congrArg some (by kernel_rfl))
 f243 := Tryz.func207.trans (congrArg some (by kernel_rfl))
 f245 := Tryz.func205.trans (congrArg some (by kernel_rfl))
 f246 := Tryz.func202.trans (congrArg some (by kernel_rfl))
 f247 := Tryz.func204.trans (congrArg some (by kernel_rfl))
 f279 := Tryz.func215.trans (congrArg some (by kernel_rfl))
 f280 := Tryz.func216.trans (congrArg some (by kernel_rfl))
 f281 := Tryz.func217.trans (congrArg some (by kernel_rfl))
 f282 := Tryz.func218.trans (congrArg some (by kernel_rfl))
 f283 := Tryz.func210.trans (congrArg some (by kernel_rfl))
 f284 := Tryz.func211.trans (congrArg some (by kernel_rfl))
 f285 := Tryz.func212.trans (congrArg some (by kernel_rfl))
 f286 := Tryz.func213.trans (congrArg some (by kernel_rfl))
 f287 := Tryz.func214.trans (congrArg some (by kernel_rfl))
 f316 := Tryz.func226.trans (congrArg some (by kernel_rfl))
 f317 := Tryz.func220.trans (congrArg some (by kernel_rfl))
 f318 := Tryz.func221.trans (congrArg some (by kernel_rfl))
 f319 := Tryz.func222.trans (congrArg some (by kernel_rfl))
 f320 := Tryz.func223.trans (congrArg some (by kernel_rfl))
 f321 := Tryz.func224.trans (congrArg some (by kernel_rfl))
 f322 := Tryz.func225.trans (congrArg some (by kernel_rfl))
 f337 := Tryz.func228.trans (congrArg some (by kernel_rfl))
 f338 := Tryz.func229.trans (congrArg some (by kernel_rfl))
 t0 := Tryz.underlying0
 a0 := Tryz.isAgg0
 z0 := Tryz.sizeOf0
 v0 := Tryz.zeroValue0
 t2 := Tryz.underlying2
 a2 := Tryz.isAgg2
 z2 := Tryz.sizeOf2
 v2 := Tryz.zeroValue2
 t3 := Tryz.underlying3
 a3 := Tryz.isAgg3
 z3 := Tryz.sizeOf3
 v3 := Tryz.zeroValue3
 t4 := Tryz.underlying4
 a4 := Tryz.isAgg4
 z4 := Tryz.sizeOf4
 v4 := Tryz.zeroValue4
 t5 := Tryz.underlying5
 a5 := Tryz.isAgg5
 z5 := Tryz.sizeOf5
 v5 := Tryz.zeroValue5
 t9 := Tryz.underlying9
 a9 := Tryz.isAgg9
 z9 := Tryz.sizeOf9
 v9 := Tryz.zeroValue9
 t20 := Tryz.underlying20
 a20 := Tryz.isAgg20
 z20 := Tryz.sizeOf20
 v20 := Tryz.zeroValue20
 t21 := Tryz.underlying21
 a21 := Tryz.isAgg21
 z21 := Tryz.sizeOf21
 v21 := Tryz.zeroValue21
 t37 := Tryz.underlying172
 a37 := Tryz.isAgg172
 z37 := Tryz.sizeOf172
 v37 := Tryz.zeroValue172
 t46 := Tryz.underlying108
 a46 := Tryz.isAgg108
 z46 := Tryz.sizeOf108
 v46 := Tryz.zeroValue108
 t51 := Tryz.underlying155
 a51 := Tryz.isAgg155
 z51 := Tryz.sizeOf155
 v51 := Tryz.zeroValue155
 t53 := Tryz.underlying157
 a53 := Tryz.isAgg157
 z53 := Tryz.sizeOf157
 v53 := Tryz.zeroValue157
 t75 := Tryz.underlying176
 a75 := Tryz.isAgg176
 z75 := Tryz.sizeOf176
 v75 := Tryz.zeroValue176
 t85 := Tryz.underlying219
 a85 := Tryz.isAgg219
 z85 := Tryz.sizeOf219
 v85 := Tryz.zeroValue219
 t127 := Tryz.underlying199
 a127 := Tryz.isAgg199
 z127 := Tryz.sizeOf199
 v127 := Tryz.zeroValue199
 t143 := Tryz.underlying255
 a143 := Tryz.isAgg255
 z143 := Tryz.sizeOf255
 v143 := Tryz.zeroValue255
 t145 := Tryz.underlying257
 a145 := Tryz.isAgg257
 z145 := Tryz.sizeOf257
 v145 := Tryz.zeroValue257
 t167 := Tryz.underlying241
 a167 := Tryz.isAgg241
 z167 := Tryz.sizeOf241
 v167 := Tryz.zeroValue241
 t168 := Tryz.underlying244
 a168 := Tryz.isAgg244
 z168 := Tryz.sizeOf244
 v168 := Tryz.zeroValue244
 t171 := Tryz.underlying237
 a171 := Tryz.isAgg237
 z171 := Tryz.sizeOf237
 v171 := Tryz.zeroValue237
 t173 := Tryz.underlying239
 a173 := Tryz.isAgg239
 z173 := Tryz.sizeOf239
 v173 := Tryz.zeroValue239
 t175 := Tryz.underlying242
 a175 := Tryz.isAgg242
 z175 := Tryz.sizeOf242
 v175 := Tryz.zeroValue242
 t210 := Tryz.underlying253
 a210 := Tryz.isAgg253
 z210 := Tryz.sizeOf253
 v210 := Tryz.zeroValue253
 t212 := Tryz.underlying249
 a212 := Tryz.isAgg249
 z212 := Tryz.sizeOf249
 v212 := Tryz.zeroValue249
 t213 := Tryz.underlying250
 a213 := Tryz.isAgg250
 z213 := Tryz.sizeOf250
 t232 := Tryz.underlying258
 a232 := Tryz.isAgg258
 z232 := Tryz.sizeOf258
 v232 := Tryz.zeroValue258
 t233 := Tryz.underlying259
 a233 := Tryz.isAgg259
 z233 := Tryz.sizeOf259
 v233 := Tryz.zeroValue259
 g15 := by kernel_rfl
 g16 := by kernel_rfl
 g17 := by kernel_rfl
 g18 := by kernel_rfl
 g19 := by kernel_rfl
 t80 := Tryz.underlying169
 a80 := Tryz.isAgg169
 z80 := Tryz.sizeOf169
 v80 := Tryz.zeroValue169
 i0 := by kernel_rfl
 i2 := by kernel_rfl
 i3 := by kernel_rfl
 i4 := by kernel_rfl
 i5 := by kernel_rfl
 i9 := by kernel_rfl
 i20 := by kernel_rfl
 i21 := by kernel_rfl
 i37 := by kernel_rfl
 i46 := by kernel_rfl
 i51 := by kernel_rfl
 i53 := by kernel_rfl
 i75 := by kernel_rfl
 i80 := by kernel_rfl
 i85 := by kernel_rfl
 i127 := by kernel_rfl
 i143 := by kernel_rfl
 i145 := by kernel_rfl
 i167 := by kernel_rfl
 i168 := by kernel_rfl
 i171 := by kernel_rfl
 i173 := by kernel_rfl
 i175 := by kernel_rfl
 i210 := by kernel_rfl
 i212 := by kernel_rfl
 i232 := by kernel_rfl
 i233 := by kernel_rfl
 m15 := by kernel_rfl
 m16 := by kernel_rfl
 m17 := by kernel_rfl
 m18 := by kernel_rfl
 m19 := by kernel_rfl
 c0 := by kernel_rfl
 c2 := by kernel_rfl
 c3 := by kernel_rfl
 c4 := by kernel_rfl
 c5 := by kernel_rfl
 c9 := by kernel_rfl
 c20 := by kernel_rfl
 c21 := by kernel_rfl
 c37 := by kernel_rfl
 c46 := by kernel_rfl
 c51 := by kernel_rfl
 c53 := by kernel_rfl
 c75 := by kernel_rfl
 c80 := by kernel_rfl
 c85 := by kernel_rfl
 c127 := by kernel_rfl
 c143 := by kernel_rfl
 c145 := by kernel_rfl
 c167 := by kernel_rfl
 c168 := by kernel_rfl
 c171 := by kernel_rfl
 c173 := by kernel_rfl
 c175 := by kernel_rfl
 c210 := by kernel_rfl
 c212 := by kernel_rfl
 c213 := by kernel_rfl
 c232 := by kernel_rfl
 c233 := by kernel_rfl }
open Go.RowKit in
open Go.RowKit in
theorem Tryz.strconv_ParseInt_10_at64_ok (s : ByteArray) (hmax : s.size <= 9223372036854775806) (v : Int) (h : Lib.parseIntB 64 s.data.toList = .ok v) (w : World) :
 Calls Tryz.prog 187 #[.string s, .int .i64 10, .int .i64 64] w fun e w' => e = .returned (.tuple #[.int .i64 v, .nilIface]) /\ (w' = w ∨ ∃ t, w' = Lib.bytesWorld w 5 t) := Any.strconv_ParseInt_10_at64_ok Tryz.laysC174 s hmax v h w
open Go.RowKit in
open Go.RowKit in
theorem Tryz.strconv_ParseInt_10_at64_range (s : ByteArray) (hlim : s.size <= 281474976710656) (h : Lib.parseIntB 64 s.data.toList = .range) (ev : Value) (w : World) (hv : w.cell? ⟨5, 0, none⟩ = some ev) (hev : ev = .nilIface ∨ ∃ te pe, ev = .iface te pe) :
 Calls Tryz.prog 187 #[.string s, .int .i64 10, .int .i64 64] w fun e w' => ∃ N, e = .returned (.tuple #[.int .i64 (Lib.intSat 64 s.data.toList), .iface 244 (.pointer (some ⟨N, 0, none⟩))]) /\ w.heap.size <= N /\ w'.heap[N]? = some (.cells #[.string ⟨#[80, 97, 114, 115, 101, 73, 110, 116]⟩, .string s, ev] 253 (0, 0)) /\ Below w.heap.size w w' := Any.strconv_ParseInt_10_at64_range Tryz.laysC174 s hlim h ev w hv hev
open Go.RowKit in
open Go.RowKit in
open Go.RowKit in
open Go.RowKit in
open Go.RowKit in
open Go.RowKit in
open Go.RowKit in
open Go.RowKit in
def Tryz.lays99_ren : Go.Shelf.Ren := ⟨fun | 99 => 157 | 206 => 178 | n => n, fun | 9 => 9 | 4 => 4 | 3 => 3 | n => n, fun | n => n⟩
theorem Tryz.lays99 : Go.Proofs.Lays.n99 Tryz.prog Tryz.lays99_ren := {
 mixed := by kernel_rfl
 f99 := Tryz.func157.trans (congrArg some (by kernel_rfl))
 f206 := Tryz.func178.trans (congrArg some (by kernel_rfl))
 t3 := Tryz.underlying3
 a3 := Tryz.isAgg3
 z3 := Tryz.sizeOf3
 v3 := Tryz.zeroValue3
 t4 := Tryz.underlying4
 a4 := Tryz.isAgg4
 z4 := Tryz.sizeOf4
 v4 := Tryz.zeroValue4
 t9 := Tryz.underlying9
 a9 := Tryz.isAgg9
 z9 := Tryz.sizeOf9
 v9 := Tryz.zeroValue9 }
open Go.RowKit Go.Lib in
theorem Tryz.strings_HasPrefix (s p : ByteArray) (w : World) :
 Calls Tryz.prog 157 #[.string s, .string p] w fun e w' => e = .returned (.bool (Lib.hasPrefix s.data.toList p.data.toList)) /\ w' = w := Any.strings_HasPrefix Tryz.lays99 s p w
def Tryz.lays197_ren : Go.Shelf.Ren := ⟨fun | 197 => 179 | 260 => 199 | n => n, fun | 9 => 9 | 21 => 21 | 3 => 3 | 4 => 4 | 5 => 5 | 105 => 211 | 119 => 233 | 0 => 0 | 46 => 108 | 139 => 236 | 138 => 235 | n => n, fun | 3 => 1 | 4 => 2 | n => n⟩
theorem Tryz.lays197 : Go.Proofs.Lays.n197 Tryz.prog Tryz.lays197_ren := {
 mixed := by kernel_rfl
 f197 := Tryz.func179.trans (congrArg some (by kernel_rfl))
 f260 := Tryz.func199.trans (congrArg some (by kernel_rfl))
 t0 := Tryz.underlying0
 a0 := Tryz.isAgg0
 z0 := Tryz.sizeOf0
 v0 := Tryz.zeroValue0
 t3 := Tryz.underlying3
 a3 := Tryz.isAgg3
 z3 := Tryz.sizeOf3
 v3 := Tryz.zeroValue3
 t4 := Tryz.underlying4
 a4 := Tryz.isAgg4
 z4 := Tryz.sizeOf4
 v4 := Tryz.zeroValue4
 t5 := Tryz.underlying5
 a5 := Tryz.isAgg5
 z5 := Tryz.sizeOf5
 v5 := Tryz.zeroValue5
 t9 := Tryz.underlying9
 a9 := Tryz.isAgg9
 z9 := Tryz.sizeOf9
 v9 := Tryz.zeroValue9
 t21 := Tryz.underlying21
 a21 := Tryz.isAgg21
 z21 := Tryz.sizeOf21
 v21 := Tryz.zeroValue21
 t46 := Tryz.underlying108
 a46 := Tryz.isAgg108
 z46 := Tryz.sizeOf108
 v46 := Tryz.zeroValue108
 t105 := Tryz.underlying211
 a105 := Tryz.isAgg211
 z105 := Tryz.sizeOf211
 v105 := Tryz.zeroValue211
 t119 := Tryz.underlying233
 a119 := Tryz.isAgg233
 z119 := Tryz.sizeOf233
 t138 := Tryz.underlying235
 a138 := Tryz.isAgg235
 z138 := Tryz.sizeOf235
 v138 := Tryz.zeroValue235
 t139 := Tryz.underlying236
 a139 := Tryz.isAgg236
 z139 := Tryz.sizeOf236
 v139 := Tryz.zeroValue236
 g3 := by kernel_rfl
 g4 := by kernel_rfl }
def Tryz.lays152_ren : Go.Shelf.Ren := ⟨fun | 152 => 174 | 137 => 160 | 119 => 196 | 224 => 197 | 225 => 198 | 217 => 185 | 266 => 203 | n => n, fun | 9 => 9 | 21 => 21 | 3 => 3 | 4 => 4 | 5 => 5 | 0 => 0 | 46 => 108 | n => n, fun | n => n⟩
theorem Tryz.lays152 : Go.Proofs.Lays.n152 Tryz.prog Tryz.lays152_ren := {
 mixed := by kernel_rfl
 f119 := Tryz.func196.trans (congrArg some (by kernel_rfl))
 f137 := Tryz.func160.trans (congrArg some (by kernel_rfl))
 f152 := Tryz.func174.trans (congrArg some (by kernel_rfl))
 f217 := Tryz.func185.trans (congrArg some (by kernel_rfl))
 f224 := Tryz.func197.trans (congrArg some (by kernel_rfl))
 f225 := Tryz.func198.trans (congrArg some (by kernel_rfl))
 f266 := Tryz.func203.trans (congrArg some (by kernel_rfl))
 t0 := Tryz.underlying0
 a0 := Tryz.isAgg0
 z0 := Tryz.sizeOf0
 v0 := Tryz.zeroValue0
 t3 := Tryz.underlying3
 a3 := Tryz.isAgg3
 z3 := Tryz.sizeOf3
 v3 := Tryz.zeroValue3
 t4 := Tryz.underlying4
 a4 := Tryz.isAgg4
 z4 := Tryz.sizeOf4
 v4 := Tryz.zeroValue4
 t5 := Tryz.underlying5
 a5 := Tryz.isAgg5
 z5 := Tryz.sizeOf5
 v5 := Tryz.zeroValue5
 t9 := Tryz.underlying9
 a9 := Tryz.isAgg9
 z9 := Tryz.sizeOf9
 v9 := Tryz.zeroValue9
 t21 := Tryz.underlying21
 a21 := Tryz.isAgg21
 z21 := Tryz.sizeOf21
 v21 := Tryz.zeroValue21
 t46 := Tryz.underlying108
 a46 := Tryz.isAgg108
 z46 := Tryz.sizeOf108
 v46 := Tryz.zeroValue108 }
open Go.RowKit Go.Lib in
theorem Tryz.strings_IndexRune_ascii (s : ByteArray) (r : Int) (w : World) (h0 : 0 <= r) (h1 : r < 128) :
 Calls Tryz.prog 174 #[.string s, .int .i32 r] w fun e w' => e = .returned (.int .i64 (Lib.indexByte s.data.toList r.toNat.toUInt8)) /\ w' = w := Any.strings_IndexRune_ascii Tryz.lays152 s r w h0 h1
def Tryz.lays226_ren : Go.Shelf.Ren := ⟨fun | 226 => 175 | n => n, fun | 3 => 3 | 4 => 4 | n => n, fun | n => n⟩
theorem Tryz.lays226 : Go.Proofs.Lays.n226 Tryz.prog Tryz.lays226_ren := {
 mixed := by kernel_rfl
 f226 := Tryz.func175.trans (congrArg some (by kernel_rfl))
 t3 := Tryz.underlying3
 a3 := Tryz.isAgg3
 z3 := Tryz.sizeOf3
 v3 := Tryz.zeroValue3
 t4 := Tryz.underlying4
 a4 := Tryz.isAgg4
 z4 := Tryz.sizeOf4
 v4 := Tryz.zeroValue4 }
open Go.RowKit Go.Lib in
theorem Tryz.strings_shouldUseASCIISet (n : Int) (w : World) :
 Calls Tryz.prog 175 #[.int .i64 n] w fun e w' => e = .returned (.bool (decide (8 < n))) /\ w' = w := Any.strings_shouldUseASCIISet Tryz.lays226 n w
def Tryz.lays153_ren : Go.Shelf.Ren := ⟨fun | 153 => 155 | 152 => 174 | 226 => 175 | 227 => 176 | 228 => 177 | 137 => 160 | 119 => 196 | 224 => 197 | 225 => 198 | 217 => 185 | 266 => 203 | n => n, fun | 9 => 9 | 3 => 3 | 4 => 4 | 5 => 5 | 21 => 21 | 117 => 209 | 116 => 208 | 0 => 0 | 46 => 108 | 124 => 229 | n => n, fun | n => n⟩
theorem Tryz.lays153 : Go.Proofs.Lays.n153 Tryz.prog Tryz.lays153_ren := {
 mixed := by kernel_rfl
 f119 := Tryz.func196.trans (congrArg some (by kernel_rfl))
 f137 := Tryz.func160.trans (congrArg some (by kernel_rfl))
 f152 := Tryz.func174.trans (congrArg some (by kernel_rfl))
 f153 := Tryz.func155.trans (congrArg some (by kernel_rfl))
 f217 := Tryz.func185.trans (congrArg some (by kernel_rfl))
 f224 := Tryz.func197.trans (congrArg some (by kernel_rfl))
 f225 := Tryz.func198.trans (congrArg some (by kernel_rfl))
 f226 := Tryz.func175.trans (congrArg some (by kernel_rfl))
 f227 := Tryz.func176.trans (congrArg some (by kernel_rfl))
 f228 := Tryz.func177.trans (congrArg some (by kernel_rfl))
 f266 := Tryz.func203.trans (congrArg some (by kernel_rfl))
 t0 := Tryz.underlying0
 a0 := Tryz.isAgg0
 z0 := Tryz.sizeOf0
 v0 := Tryz.zeroValue0
 t3 := Tryz.underlying3
 a3 := Tryz.isAgg3
 z3 := Tryz.sizeOf3
 v3 := Tryz.zeroValue3
 t4 := Tryz.underlying4
 a4 := Tryz.isAgg4
 z4 := Tryz.sizeOf4
 v4 := Tryz.zeroValue4
 t5 := Tryz.underlying5
 a5 := Tryz.isAgg5
 z5 := Tryz.sizeOf5
 v5 := Tryz.zeroValue5
 t9 := Tryz.underlying9
 a9 := Tryz.isAgg9
 z9 := Tryz.sizeOf9
 v9 := Tryz.zeroValue9
 t21 := Tryz.underlying21
 a21 := Tryz.isAgg21
 z21 := Tryz.sizeOf21
 v21 := Tryz.zeroValue21
 t46 := Tryz.underlying108
 a46 := Tryz.isAgg108
 z46 := Tryz.sizeOf108
 v46 := Tryz.zeroValue108
 t116 := Tryz.underlying208
 a116 := Tryz.isAgg208
 z116 := Tryz.sizeOf208
 t117 := Tryz.underlying209
 a117 := Tryz.isAgg209
 z117 := Tryz.sizeOf209
 v117 := Tryz.zeroValue209
 t124 := Tryz.underlying229
 a124 := Tryz.isAgg229
 z124 := Tryz.sizeOf229
 v124 := Tryz.zeroValue229 }
open Go.RowKit Go.Lib in
theorem Tryz.strings_IndexAny_long (hv116 : ∀ w, (zeroValue 208).run Tryz.prog w = .ok (.agg (Array.replicate 256 (.bool false))) w) (s chars : ByteArray) (w : World) (h2 : 2 <= chars.size) (h8 : 8 < s.size) (hs : s.size < 4294967281) (hcs : chars.size < 4294967281) (hascii : ∀ (j : Nat) b, chars.data.toList[j]? = some b -> b.toNat < 128) :
 Calls Tryz.prog 155 #[.string s, .string chars] w fun e w' => e = .returned (.int .i64 (Lib.indexAny s.data.toList chars.data.toList)) /\ w' = ((w.alloc (.cells (Lib.setCells chars.data.toList) 208)).alloc (.cells (Lib.setCells chars.data.toList) 208)) := Any.strings_IndexAny_long Tryz.lays153 hv116 (by kernel_rfl) s chars w h2 h8 hs hcs hascii
open Go.RowKit Go.Lib in
theorem Tryz.utf8_DecodeRuneInString (s : ByteArray) (w : World) (hT : Lib.Utf8Tabs 1 2 w) :
 Calls Tryz.prog 179 #[.string s] w fun e w' => e = .returned (.tuple #[.int .i32 (Lib.decodeGo s).1, .int .i64 (Lib.decodeGo s).2]) /\ Below w.heap.size w w' := Any.utf8_DecodeRuneInString Tryz.lays197 s w hT
def Tryz.lays110_ren : Go.Shelf.Ren := ⟨fun | 110 => 89 | 109 => 131 | n => n, fun | 31 => 27 | 9 => 9 | 4 => 4 | 3 => 3 | 0 => 0 | n => n, fun | n => n⟩
theorem Tryz.lays110 : Go.Proofs.Lays.n110 Tryz.prog Tryz.lays110_ren := {
 mixed := by kernel_rfl
 f109 := Tryz.func131.trans (congrArg some (by kernel_rfl))
 f110 := Tryz.func89.trans (congrArg some (by kernel_rfl))
 t0 := Tryz.underlying0
 a0 := Tryz.isAgg0
 z0 := Tryz.sizeOf0
 v0 := Tryz.zeroValue0
 t3 := Tryz.underlying3
 a3 := Tryz.isAgg3
 z3 := Tryz.sizeOf3
 v3 := Tryz.zeroValue3
 t4 := Tryz.underlying4
 a4 := Tryz.isAgg4
 z4 := Tryz.sizeOf4
 v4 := Tryz.zeroValue4
 t9 := Tryz.underlying9
 a9 := Tryz.isAgg9
 z9 := Tryz.sizeOf9
 v9 := Tryz.zeroValue9
 t31 := Tryz.underlying27
 a31 := Tryz.isAgg27
 z31 := Tryz.sizeOf27
 v31 := Tryz.zeroValue27 }
open Go.Lib in
theorem Tryz.slices_Contains_string (b off n c : Nat) (zs : List ByteArray) (x : ByteArray) (w : World) (hz : n <= zs.length) (hbig : n <= 9223372036854775807) (hc : ∀ j, j < zs.length -> w.cell? ⟨b, off + j, none⟩ = some (.string (zs.getD j ByteArray.empty))) :
 Calls Tryz.prog 89 #[.slice (some ⟨b, off, none⟩) n c, .string x] w fun e w' => e = .returned (.bool (Lib.containsS (zs.take n) x)) /\ w' = w := Any.slices_Contains_string Tryz.lays110 b off n c zs x w hz hbig hc
open Go.Lib in
theorem Tryz.slices_Contains_string_empty (a : Option Addr) (c : Nat) (x : ByteArray) (w : World) :
 Calls Tryz.prog 89 #[.slice a 0 c, .string x] w fun e w' => e = .returned (.bool false) /\ w' = w := Any.slices_Contains_string_empty Tryz.lays110 a c x w
def Tryz.laysNm225_ren : Go.Shelf.Ren := ⟨fun | 25 => 33 | 31 => 60 | 32 => 61 | 37 => 91 | n => n, fun | 22 => 40 | 3 => 3 | 4 => 4 | 40 => 108 | 0 => 0 | n => n, fun | n => n⟩
def Tryz.laysB21_ren : Go.Shelf.Ren := ⟨fun | 21 => 34 | 27 => 62 | 28 => 63 | 35 => 92 | 39 => 132 | n => n, fun | 22 => 40 | 3 => 3 | 4 => 4 | 0 => 0 | n => n, fun | n => n⟩
theorem Tryz.laysB21 : Go.Proofs.Lays2.n21 Tryz.prog Tryz.laysB21_ren := {
 mixed := by kernel_rfl
 f21 := Tryz.func34.trans (congrArg some (by kernel_rfl))
 f27 := Tryz.func62.trans (congrArg some (by kernel_rfl))
 f28 := Tryz.func63.trans (congrArg some (by kernel_rfl))
 f35 := Tryz.func92.trans (congrArg some (by kernel_rfl))
 f39 := Tryz.func132.trans (congrArg some (by kernel_rfl))
 t0 := Tryz.underlying0
 a0 := Tryz.isAgg0
 z0 := Tryz.sizeOf0
 v0 := Tryz.zeroValue0
 t3 := Tryz.underlying3
 a3 := Tryz.isAgg3
 z3 := Tryz.sizeOf3
 v3 := Tryz.zeroValue3
 t4 := Tryz.underlying4
 a4 := Tryz.isAgg4
 z4 := Tryz.sizeOf4
 v4 := Tryz.zeroValue4
 t22 := Tryz.underlying40
 a22 := Tryz.isAgg40
 z22 := Tryz.sizeOf40
 v22 := Tryz.zeroValue40
 i3 := by kernel_rfl }
def Tryz.laysB25_ren : Go.Shelf.Ren := ⟨fun | 25 => 33 | 31 => 60 | 32 => 61 | 37 => 91 | n => n, fun | 22 => 40 | 3 => 3 | 4 => 4 | 40 => 108 | 0 => 0 | n => n, fun | n => n⟩
theorem Tryz.laysB25 : Go.Proofs.Lays2.n25 Tryz.prog Tryz.laysB25_ren := {
 mixed := by kernel_rfl
 f25 := Tryz.func33.trans (congrArg some (by kernel_rfl))
 f31 := Tryz.func60.trans (congrArg some (by kernel_rfl))
 f32 := Tryz.func61.trans (congrArg some (by kernel_rfl))
 f37 := Tryz.func91.trans (congrArg some (by kernel_rfl))
 t0 := Tryz.underlying0
 a0 := Tryz.isAgg0
 z0 := Tryz.sizeOf0
 v0 := Tryz.zeroValue0
 t3 := Tryz.underlying3
 a3 := Tryz.isAgg3
 z3 := Tryz.sizeOf3
 v3 := Tryz.zeroValue3
 t4 := Tryz.underlying4
 a4 := Tryz.isAgg4
 z4 := Tryz.sizeOf4
 v4 := Tryz.zeroValue4
 t22 := Tryz.underlying40
 a22 := Tryz.isAgg40
 z22 := Tryz.sizeOf40
 v22 := Tryz.zeroValue40
 t40 := Tryz.underlying108
 a40 := Tryz.isAgg108
 z40 := Tryz.sizeOf108
 v40 := Tryz.zeroValue108 }
def Tryz.lays7n29_ren : Go.Shelf.Ren := ⟨fun | 29 => 229 | n => n, fun | 22 => 157 | 3 => 3 | 4 => 4 | 25 => 108 | 54 => 259 | 0 => 0 | 5 => 5 | n => n, fun | 1 => 7 | n => n⟩
theorem Tryz.lays7n29 : Go.Proofs.Lays7.n29 Tryz.prog Tryz.lays7n29_ren := {
 mixed := by kernel_rfl
 f29 := Tryz.func229.trans (congrArg some (by kernel_rfl))
 t0 := Tryz.underlying0
 a0 := Tryz.isAgg0
 z0 := Tryz.sizeOf0
 v0 := Tryz.zeroValue0
 i0 := by kernel_rfl
 t3 := Tryz.underlying3
 a3 := Tryz.isAgg3
 z3 := Tryz.sizeOf3
 v3 := Tryz.zeroValue3
 i3 := by kernel_rfl
 t4 := Tryz.underlying4
 a4 := Tryz.isAgg4
 z4 := Tryz.sizeOf4
 v4 := Tryz.zeroValue4
 i4 := by kernel_rfl
 t5 := Tryz.underlying5
 a5 := Tryz.isAgg5
 z5 := Tryz.sizeOf5
 v5 := Tryz.zeroValue5
 i5 := by kernel_rfl
 t22 := Tryz.underlying157
 a22 := Tryz.isAgg157
 z22 := Tryz.sizeOf157
 v22 := Tryz.zeroValue157
 i22 := by kernel_rfl
 t25 := Tryz.underlying108
 a25 := Tryz.isAgg108
 z25 := Tryz.sizeOf108
 v25 := Tryz.zeroValue108
 i25 := by kernel_rfl
 t54 := Tryz.underlying259
 a54 := Tryz.isAgg259
 z54 := Tryz.sizeOf259
 g1 := by kernel_rfl }
def Tryz.lays242_ren : Go.Shelf.Ren := ⟨fun | 242 => 201 | 278 => 209 | n => n, fun | 37 => 172 | 21 => 21 | 51 => 155 | 4 => 4 | 5 => 5 | 46 => 108 | n => n, fun | n => n⟩
theorem Tryz.lays242 : Go.Proofs.Lays.n242 Tryz.prog Tryz.lays242_ren := {
 mixed := by kernel_rfl
 f242 := Tryz.func201.trans (congrArg some (by kernel_rfl))
 f278 := Tryz.func209.trans (congrArg some (by kernel_rfl))
 t4 := Tryz.underlying4
 a4 := Tryz.isAgg4
 z4 := Tryz.sizeOf4
 v4 := Tryz.zeroValue4
 t5 := Tryz.underlying5
 a5 := Tryz.isAgg5
 z5 := Tryz.sizeOf5
 v5 := Tryz.zeroValue5
 t21 := Tryz.underlying21
 a21 := Tryz.isAgg21
 z21 := Tryz.sizeOf21
 v21 := Tryz.zeroValue21
 t37 := Tryz.underlying172
 a37 := Tryz.isAgg172
 z37 := Tryz.sizeOf172
 v37 := Tryz.zeroValue172
 t46 := Tryz.underlying108
 a46 := Tryz.isAgg108
 z46 := Tryz.sizeOf108
 v46 := Tryz.zeroValue108
 t51 := Tryz.underlying155
 a51 := Tryz.isAgg155
 z51 := Tryz.sizeOf155
 v51 := Tryz.zeroValue155 }
end Go.Proofs
namespace Go.Proofs.YtpnogmicfomofaaGreatDoor
open Go.RowKit Go.Sort Go.Lib
open Go.Lib (hid)
def OwnK (B : Nat) (w : World) (v : Value) (ks : List ByteArray) : Prop := w.ownsRow B 9 1 v ks.length (ks.map Value.string)
theorem own_lt {w : World} {B sz n : Nat} {e : TypeId} {v : Value} {xs : List Value} (h : w.ownsRow B e sz v n xs) {g : Nat} (hg : v.ownBlock = some g) : B <= g /\ g < w.heap.size := by
 rcases h.2 with ⟨rfl, _⟩ | ⟨g', cap, cur, rfl, hb, hh, _⟩
 . cases hg
 . simp only [Value.ownBlock, Option.some.injEq] at hg
   subst hg;exact ⟨hb, lt_of_block hh⟩
theorem own_keep {w w' : World} {B sz n : Nat} {e : TypeId} {v : Value} {xs : List Value} (h : w.ownsRow B e sz v n xs) (hk : ∀ g, v.ownBlock = some g -> w'.heap[g]? = w.heap[g]?) : w'.ownsRow B e sz v n xs := by
 refine ⟨h.1, ?_⟩;rcases h.2 with h0 | ⟨g, cap, cur, rfl, hb, hh, r⟩
 . exact .inl h0
 . exact .inr ⟨g, cap, cur, rfl, hb, (hk g rfl).trans hh, r⟩
theorem own_base {w : World} {B B' sz n : Nat} {e : TypeId} {v : Value} {xs : List Value} (h : w.ownsRow B e sz v n xs) (hB : B' <= B) : w.ownsRow B' e sz v n xs := by
 refine ⟨h.1, ?_⟩;rcases h.2 with h0 | ⟨g, cap, cur, rfl, hb, r⟩
 . exact .inl h0
 . exact .inr ⟨g, cap, cur, rfl, Nat.le_trans hB hb, r⟩
theorem ownK_sl {B : Nat} {w : World} {v : Value} {ks : List ByteArray} (h : OwnK B w v ks) (hs : ∀ k ∈ ks, k.size <= maxLen) : Sl StrR 1 w v ks := by
 rcases h.2 with ⟨rfl, h0⟩ | ⟨g, cap, cur, rfl, hb, hg, hn, hc, hsz, ht⟩
 . have : ks = [] := List.eq_nil_of_length_eq_zero h0
   subst this;exact ⟨none, 0, rfl, by simp, by simp, fun i hi => absurd hi (by simp)⟩
 . refine ⟨some ⟨g, 0, none⟩, cap, rfl, hn, hc, fun i hi => ⟨g, 0, [.string ks[i]], rfl, rfl, fun j u hj => ?_, rfl, hs _ (List.getElem_mem hi)⟩⟩
   cases j with
   | succ j => simp at hj
   | zero =>
     simp only [List.getElem?_cons_zero, Option.some.injEq] at hj;subst hj;have h1 : (ks.map Value.string)[i]? = some (.string ks[i]) := by simp [hi]
     rw [<- ht, List.getElem?_take, if_pos (by omega), Array.getElem?_toList] at h1;unfold World.cell?;simp only [hg, Nat.zero_add, Nat.mul_one, Nat.add_zero];simpa using h1
def stlays_ren : Go.Shelf.Ren := ⟨fun | 41 => 45 | n => n, fun | 22 => 27 | 23 => 9 | 4 => 4 | n => n, fun | n => n⟩
theorem stlays : Go.Proofs.SlLaysE0.n41 Tryz.prog stlays_ren := {
 mixed := by kernel_rfl
 f41 := ⟨Tryz.f45.name, by decide, Tryz.func45.trans (congrArg some (by kernel_rfl))⟩
 t4 := Tryz.underlying4
 a4 := Tryz.isAgg4
 z4 := Tryz.sizeOf4
 v4 := Tryz.zeroValue4
 t22 := Tryz.underlying27
 a22 := Tryz.isAgg27
 z22 := Tryz.sizeOf27
 v22 := Tryz.zeroValue27 }
set_option maxHeartbeats 4000000 in
set_option maxRecDepth 100000 in
theorem stclone0 (a : Addr) (c : Nat) (w : World) : Calls Tryz.prog 45 #[.slice (some a) 0 c] w fun e w' => ∃ v', e = .returned v' /\ w'.ownsRow w.heap.size 9 1 v' 0 [] /\ Below w.heap.size w w' := by
 obtain ⟨i0, hi, hz0, hz1, hz2⟩ := info_parts strinfo;have q36 : ∀ (w : World) (a : Option Addr) (n c n' c' : Nat), (binOp .eql 27 (.slice a n c) (.slice none n' c')).run Tryz.prog w = .ok (.bool a.isNone) w := fun w a n c n' c' => Lib.run_eql_slice_nil w _ _ a n c n' c' Tryz.underlying27;go_enter Tryz.func45, Tryz.ntmps45;go_wp2_with (at_builtin; refine wpList_append_own _ rfl _ _ 27 rfl w.heap.size 9 i0 _ 1 16 Tryz.underlying27 hi hz0 hz1 hz2 rfl (by decide) _ _ _ rfl (World.ownsRow_made w #[] 0 (Nat.le_refl _) (Nat.zero_le _) rfl) a 0 c [] rfl rfl (by intro j u hj; simp at hj) (by intro u hu; cases hu) (by unfold maxLen; omega) (by omega) (by simp) ?_)
 intro v' w1 hown hgrow hnil;go_wp2
 go_ret
 exact ⟨v', rfl, by simpa using hown, ((Below.refl _ w).alloc (Nat.le_refl _) _).grown hgrow (by simp) (by intro k hk; simp [Value.ownBlock] at hk; omega)⟩
theorem stclone (cs : List Value) (n : Nat) (r : Option Addr) (c : Nat) (w : World) (hl : cs.length = n * 1) (hn : n <= c) (hc : c <= maxLen) (hs : n <= 1100000) (h0 : r = none -> n = 0)
 (hr : ∀ (j : Nat) (u : Value), cs[j]? = some u -> ∃ b off, r = some ⟨b, off, none⟩ /\ w.cell? ⟨b, off + j, none⟩ = some u) (h1 : ∀ u ∈ cs, u.oneCell' = true) :
 Calls Tryz.prog 45 #[.slice r n c] w fun e w' => ∃ v', e = .returned v' /\ w'.ownsRow w.heap.size 9 1 v' n cs /\ Below w.heap.size w w' := by
 cases r with
 | none =>
   obtain rfl := h0 rfl;obtain rfl : cs = [] := List.eq_nil_of_length_eq_zero (by omega);exact (AnyE.slices_Clone_nil stlays 0 c w).mono fun e w' ⟨he, hw⟩ => ⟨_, he, ⟨by simp, .inl ⟨rfl, rfl⟩⟩, by rw [hw]; exact Below.refl _ _⟩
 | some a =>
   obtain ⟨i0, hi, hz0, hz1, hz2⟩ := info_parts strinfo
   by_cases hn0 : n = 0
   . subst hn0
     obtain rfl : cs = [] := List.eq_nil_of_length_eq_zero (by omega);exact stclone0 a c w
   . have h2 : 0 < cs.length := by omega
     obtain ⟨b, off, ha, _⟩ := hr 0 _ (List.getElem?_eq_getElem h2);simp only [Option.some.injEq] at ha;subst ha;refine (AnyE.slices_Clone stlays i0 _ 1 16 hi hz0 hz1 hz2 rfl (by decide) Tryz.sizeOf9 b off n c cs w hl (by unfold maxLen; omega) (by omega) (fun j u hu => ?_) h1).mono fun e w' ⟨v', he, ho, _, hb2⟩ => ⟨v', he, ho, hb2⟩;obtain ⟨b2, off2, e2, g2⟩ := hr j u hu;simp at e2;obtain ⟨rfl, rfl⟩ := e2;exact g2
theorem clone_any (ks : List ByteArray) (r : Option Addr) (c : Nat) (w : World) (h : Sl StrR 1 w (.slice r ks.length c) ks) (hn : ks.length <= 1100000) :
 Calls Tryz.prog 45 #[.slice r ks.length c] w fun e w' => ∃ v', e = .returned v' /\ OwnK w.heap.size w' v' ks /\ Below w.heap.size w w' := by
 have hl := sl_len h;refine stclone (ks.map Value.string) ks.length r c w (by simp) hl.2.1 hl.2.2 hn (fun e => ?_) (fun j u hj => ?_) (fun u hu => ?_)
 . subst e
   cases ks with
   | nil => rfl
   | cons k ks => obtain ⟨_, _, hr, _⟩ := str_at h 0 (by simp); cases hr
 . rw [List.getElem?_map] at hj
   by_cases hjl : j < ks.length
   . rw [List.getElem?_eq_getElem hjl] at hj
     simp at hj;subst hj;obtain ⟨b, off, hr, _, g0, _⟩ := str_at h j hjl;exact ⟨b, off, hr, g0⟩
   . rw [List.getElem?_eq_none (by omega)] at hj
     cases hj
 . obtain ⟨k, _, rfl⟩ := List.mem_map.1 hu
   rfl
theorem keepB_mk {B b : Nat} {v : Value} (h : B <= b) (h' : v.ownBlock ≠ some b) : keepB B v b = true := by
 unfold keepB; rw [Bool.and_eq_true, decide_eq_true_eq, decide_eq_true_eq]; exact ⟨h, h'⟩
theorem keepB_out {B b : Nat} {v : Value} (h : keepB B v b = true) : B <= b /\ v.ownBlock ≠ some b := by
 unfold keepB at h; rw [Bool.and_eq_true, decide_eq_true_eq, decide_eq_true_eq] at h; exact h
structure CopX (B M : Nat) (w : World) (r : Option Addr) (c : Nat) (rk : Option Addr) (ck : Nat) (x : Val) : Prop where
 le : B <= M
 items : OwnV M w (.slice r x.items.length c) x.items
 keys : OwnK B w (.slice rk x.keys.length ck) x.keys
 lt : ∀ g, (Value.slice rk x.keys.length ck).ownBlock = some g -> g < M
 bd : i64B x.kind /\ i64B x.num /\ x.str.size <= maxLen /\ x.keys.length <= 10000000000000 /\ x.items.length <= 10000000000000 /\ ∀ k ∈ x.keys, k.size <= maxLen
theorem own_mask {K : Nat -> Bool} {w : World} {B sz n : Nat} {e : TypeId} {v : Value} {xs : List Value} (h : w.ownsRow B e sz v n xs) (hk : ∀ g, v.ownBlock = some g -> K g = true) : (mask K w).ownsRow B e sz v n xs := own_keep h fun g hg => mask_heap (hk g hg)
theorem CopX.vk {B M : Nat} {w : World} {r : Option Addr} {c : Nat} {rk : Option Addr} {ck : Nat} {x : Val} (h : CopX B M w r c rk ck x) : VK (fromB B) w r c rk ck x := by
 obtain ⟨ys, hl, ho, hv⟩ := h.items.ex
 have hI : Sl VR 5 (mask (fromB B) w) (.slice r x.items.length c) x.items := sl_of_rows hl (own_mask ho fun g hg => by
  have := (own_lt ho hg).1;have := h.le
  simp only [fromB, decide_eq_true_eq]; omega) hv (stays_keep fun b hk _ => ⟨by
   have hk := keepB_out hk;have := h.le;simp only [fromB, decide_eq_true_eq]; omega, rfl⟩)
 have hK : Sl StrR 1 (mask (fromB B) w) (.slice rk x.keys.length ck) x.keys := ownK_sl (B := B) (own_mask h.keys fun g hg => by
  have := (own_lt h.keys hg).1;simp only [fromB, decide_eq_true_eq]; omega) h.bd.2.2.2.2.2
 exact VR.make hI hK h.bd.1 h.bd.2.1 h.bd.2.2.1 h.bd.2.2.2.1 h.bd.2.2.2.2.1
theorem OwnV.to {B : Nat} {w w' : World} {v : Value} {is : List Val} (h : OwnV B w v is) (hk : ∀ b, B <= b -> b < w.heap.size -> w'.heap[b]? = w.heap[b]?) : OwnV B w' v is := by
 obtain ⟨ys, hl, ho, hv⟩ := h.ex;refine ⟨ys, hl, own_keep ho fun g hg => hk g (own_lt ho hg).1 (own_lt ho hg).2, fun i h1 h2 => vr_stays (stays_keep fun b hb hlt => ⟨hb, hk b ?_ hlt⟩) (hv i h1 h2)⟩;exact (keepB_out hb).1
def CopP (w : World) (x : Val) (e : Ending) (w' : World) : Prop := ∃ r c rk ck M, e = .returned (.agg #[.int .i64 x.kind, .int .i64 x.num, .string x.str, .slice r x.items.length c, .slice rk x.keys.length ck]) /\ CopX w.heap.size M w' r c rk ck x /\ Below w.heap.size w w'
end Go.Proofs.YtpnogmicfomofaaGreatDoor
namespace Go.Proofs.YtpnogmicfomofaaGreatDoor.Stp
structure STO {α : Type} (lt : α -> α -> Bool) : Prop where
 irr : ∀ a, lt a a = false
 tr : ∀ a b c, lt a b = true -> lt b c = true -> lt a c = true
 tot : ∀ a b, lt a b = false -> lt b a = false -> a = b
def AscL {α : Type} (lt : α -> α -> Bool) (l : List α) : Prop := l.Pairwise fun a b => lt a b = true
section
variable {α : Type} {lt : α -> α -> Bool} (O : STO lt)
include O
theorem STO.asym {a b : α} (h : lt a b = true) : lt b a = false := by
 cases h' : lt b a with
 | false => rfl
 | true => have := O.tr _ _ _ h h'; rw [O.irr] at this; cases this
theorem asc_uniq : ∀ {a b : List α}, AscL lt a -> AscL lt b -> (∀ x, x ∈ a ↔ x ∈ b) -> a = b
 | [], [], _, _, _ => rfl
 | [], y :: b, _, _, h => by have := (h y).2 (by simp); simp at this
 | x :: a, [], _, _, h => by have := (h x).1 (by simp); simp at this
 | x :: a, y :: b, ha, hb, h => by
   unfold AscL at ha hb;rw [List.pairwise_cons] at ha hb
   have exy : x = y := by
    rcases List.mem_cons.1 ((h x).1 (by simp)) with e | hx
    . exact e
    . rcases List.mem_cons.1 ((h y).2 (by simp)) with e | hy
      . exact e.symm
      . have h1 := hb.1 x hx
        have h2 := ha.1 y hy;rw [O.asym h1] at h2; cases h2
   subst exy;rw [asc_uniq ha.2 hb.2 fun z => ?_];constructor
   . intro hz
     rcases List.mem_cons.1 ((h z).1 (List.mem_cons_of_mem _ hz)) with e | h'
     . subst e; have := ha.1 z hz; rw [O.irr] at this; cases this
     . exact h'
   . intro hz
     rcases List.mem_cons.1 ((h z).2 (List.mem_cons_of_mem _ hz)) with e | h'
     . subst e; have := hb.1 z hz; rw [O.irr] at this; cases this
     . exact h'
end
def lowL {α : Type} (lt : α -> α -> Bool) (x : α) (l : List α) : Nat := (l.takeWhile fun y => lt y x).length
def putL {α : Type} (lt : α -> α -> Bool) (x : α) (l : List α) : List α := l.take (lowL lt x l) ++ x :: l.drop (lowL lt x l)
section
variable {α : Type} {lt : α -> α -> Bool}
theorem lowL_le (x : α) (l : List α) : lowL lt x l <= l.length := by unfold lowL; exact (List.takeWhile_sublist _).length_le
theorem lowL_cons (x y : α) (l : List α) : lowL lt x (y :: l) = if lt y x = true then lowL lt x l + 1 else 0 := by
 unfold lowL;rw [List.takeWhile_cons];split <;> simp
theorem putL_cons (x y : α) (l : List α) : putL lt x (y :: l) = if lt y x = true then y :: putL lt x l else x :: y :: l := by
 unfold putL;rw [lowL_cons];split <;> simp
theorem mem_putL (x z : α) (l : List α) : z ∈ putL lt x l ↔ z = x ∨ z ∈ l := by
 unfold putL;rw [List.mem_append, List.mem_cons];have := List.take_append_drop (lowL lt x l) l;constructor
 . rintro (h | h | h)
   . exact Or.inr (List.mem_of_mem_take h)
   . exact Or.inl h
   . exact Or.inr (List.mem_of_mem_drop h)
 . rintro (h | h)
   . exact Or.inr (Or.inl h)
   . rw [<- this, List.mem_append] at h
     rcases h with h | h
     . exact Or.inl h
     . exact Or.inr (Or.inr h)
theorem putL_asc (O : STO lt) (x : α) : ∀ (l : List α), AscL lt l -> x ∉ l -> AscL lt (putL lt x l)
 | [], _, _ => by simp [putL, AscL]
 | y :: l, h, hx => by
   unfold AscL at h;rw [List.pairwise_cons] at h;rw [putL_cons]
   by_cases hy : lt y x = true
   . rw [if_pos hy]
     unfold AscL;rw [List.pairwise_cons];refine ⟨fun z hz => ?_, putL_asc O x l h.2 (fun hh => hx (List.mem_cons_of_mem _ hh))⟩;rcases (mem_putL x z l).1 hz with rfl | hz
     . exact hy
     . exact h.1 z hz
   . rw [if_neg hy]
     have hxy : lt x y = true := by
      cases hh : lt x y with
      | true => rfl
      | false => exact absurd (O.tot _ _ hh (by simpa using hy)) (fun e => hx (by rw [e]; simp))
     unfold AscL;rw [List.pairwise_cons, List.pairwise_cons];refine ⟨fun z hz => ?_, h.1, h.2⟩;rcases List.mem_cons.1 hz with rfl | hz
     . exact hxy
     . exact O.tr _ _ _ hxy (h.1 z hz)
theorem asc_filter {l : List α} (h : AscL lt l) (p : α -> Bool) : AscL lt (l.filter p) := h.sublist List.filter_sublist
end
theorem nodup_len {α : Type} [DecidableEq α] : ∀ {a b : List α}, a.Nodup -> (∀ x ∈ a, x ∈ b) -> a.length <= b.length
 | [], b, _, _ => by simp
 | x :: a, b, h, hs => by
   rw [List.nodup_cons] at h;have hx := hs x (by simp);have := nodup_len (a := a) (b := b.erase x) h.2 fun y hy => (List.mem_erase_of_ne (by rintro rfl; exact h.1 hy)).2 (hs y (List.mem_cons_of_mem _ hy));rw [List.length_erase_of_mem hx] at this;have := List.length_pos_of_mem hx;simp; omega
def ltN (a b : Nat) : Bool := decide (a < b)
theorem stoN : STO ltN where
 irr a := by simp [ltN]
 tr a b c h1 h2 := by simp [ltN] at *; omega
 tot a b h1 h2 := by simp [ltN] at *; omega
abbrev AscN (l : List Nat) : Prop := AscL ltN l
theorem ascN_eq {a b : List Nat} (ha : AscN a) (hb : AscN b) (h : ∀ x, x ∈ a ↔ x ∈ b) : a = b := asc_uniq stoN ha hb h
def hasN (x : Nat) (l : List Nat) : Bool := l.any fun y => decide (y = x)
theorem hasN_iff {x : Nat} {l : List Nat} : hasN x l = true ↔ x ∈ l := by
 unfold hasN;rw [List.any_eq_true];constructor
 . rintro ⟨y, h, e⟩
   have : y = x := by simpa using e
   subst this; exact h
 . intro h; exact ⟨x, h, by simp⟩
theorem hasN_app (x : Nat) (l m : List Nat) : hasN x (l ++ m) = (hasN x l || hasN x m) := by simp [hasN]
theorem range_asc (n : Nat) : AscN (List.range n) := by
 unfold AscN AscL;exact (List.pairwise_lt_range).imp fun h => by simp [ltN]; exact h
def cnt (es : List (Nat × Nat)) (out : List Nat) (x : Nat) : Nat := (es.filter fun e => decide (e.1 = x) && !hasN e.2 out).length
def occ (x : Nat) (l : List Nat) : Nat := (l.filter fun y => decide (y = x)).length
theorem cnt_le (es : List (Nat × Nat)) (out : List Nat) (x : Nat) : cnt es out x <= es.length := List.length_filter_le _ _
theorem cnt_zero {es : List (Nat × Nat)} {out : List Nat} {x : Nat} : cnt es out x = 0 ↔ ∀ e ∈ es, e.1 = x -> e.2 ∈ out := by
 unfold cnt;rw [List.length_eq_zero_iff, List.filter_eq_nil_iff];constructor
 . intro h e he hx
   have := h e he;simp [hx] at this;exact hasN_iff.1 this
 . intro h e he
   by_cases hx : e.1 = x
   . have := hasN_iff.2 (h e he hx); simp [hx, this]
   . simp [hx]
theorem occ_snoc (x y : Nat) (l : List Nat) : occ x (l ++ [y]) = occ x l + if y = x then 1 else 0 := by
 unfold occ;rw [List.filter_append, List.length_append]
 by_cases h : y = x <;> simp [List.filter_cons, h]
theorem occ_take_le (x : Nat) (l : List Nat) (k : Nat) : occ x (l.take k) <= occ x l := by
 unfold occ;have := ((List.take_sublist k l).filter fun y => decide (y = x)).length_le;exact this
theorem cnt_more (es : List (Nat × Nat)) (out : List Nat) (n x : Nat) (hn : n ∉ out) : cnt es (out ++ [n]) x + (es.filter fun e => decide (e.1 = x) && decide (e.2 = n)).length = cnt es out x := by
 unfold cnt
 induction es with
 | nil => rfl
 | cons e es ih =>
   rw [List.filter_cons, List.filter_cons, List.filter_cons];have ha : hasN e.2 (out ++ [n]) = (hasN e.2 out || decide (n = e.2)) := by rw [hasN_app]; simp [hasN]
   rw [ha]
   by_cases h1 : e.1 = x
   . by_cases h2 : e.2 = n
     . have h3 : hasN e.2 out = false := by cases h : hasN e.2 out with | false => rfl | true => exact absurd (h2 ▸ hasN_iff.1 h) hn
       simp [h1, h2] at h3 ⊢;rw [h3]; simp; omega
     . have h4 : n ≠ e.2 := fun h => h2 h.symm
       cases h3 : hasN e.2 out <;> simp [h1, h2, h4] <;> omega
   . simp [h1]; exact ih
def rdL (ns out : List Nat) (v : Nat -> Nat) : List Nat := ns.filter fun x => !hasN x out && decide (v x = 0)
def decV (v : Nat -> Nat) (u : Nat) : Nat -> Nat := fun x => if x = u then v x - 1 else v x
theorem mem_rdL {ns out : List Nat} {v : Nat -> Nat} {x : Nat} : x ∈ rdL ns out v ↔ x ∈ ns /\ x ∉ out /\ v x = 0 := by
 unfold rdL;rw [List.mem_filter];have : (!hasN x out) = true ↔ x ∉ out := by rw [<- hasN_iff]; simp
 rw [Bool.and_eq_true, this, decide_eq_true_eq]
theorem rdL_asc {ns : List Nat} (h : AscN ns) (out : List Nat) (v : Nat -> Nat) : AscN (rdL ns out v) := asc_filter h _
theorem rd_put {ns out : List Nat} {v : Nat -> Nat} {u : Nat} (h : AscN ns) (hu : u ∈ ns) (ho : u ∉ out) (h1 : v u = 1) : rdL ns out (decV v u) = putL ltN u (rdL ns out v) := by
 have hnu : u ∉ rdL ns out v := fun hh => by have := (mem_rdL.1 hh).2.2; omega
 refine ascN_eq (rdL_asc h _ _) (putL_asc stoN u _ (rdL_asc h _ _) hnu) fun x => ?_;rw [mem_putL, mem_rdL, mem_rdL];unfold decV
 by_cases e : x = u
 . subst e; simp [hu, ho, h1]
 . simp [e]
theorem rd_same {ns out : List Nat} {v : Nat -> Nat} {u : Nat} (h1 : 2 <= v u) : rdL ns out (decV v u) = rdL ns out v := by
 unfold rdL;apply List.filter_congr;intro x _;unfold decV
 by_cases e : x = u
 . subst e
   have a : ¬ v x - 1 = 0 := by omega
   have b : ¬ v x = 0 := by omega
   simp [a, b]
 . simp [e]
theorem rd_pop {ns out : List Nat} {v : Nat -> Nat} {n : Nat} {R : List Nat} (h : AscN ns) (hR : rdL ns out v = n :: R) : R = rdL ns (out ++ [n]) v := by
 have ha := rdL_asc h out v;rw [hR] at ha
 have hn : ∀ x ∈ R, x ≠ n := fun x hx e => by
  have := (List.pairwise_cons.1 ha).1 x hx;rw [e, stoN.irr] at this; cases this
 refine ascN_eq (List.pairwise_cons.1 ha).2 (rdL_asc h _ _) fun x => ?_;have hx : x ∈ rdL ns out v ↔ x ∈ n :: R := by rw [hR]
 rw [mem_rdL] at hx;rw [mem_rdL, List.mem_append, List.mem_singleton];constructor
 . intro hm
   obtain ⟨h1, h2, h3⟩ := hx.2 (List.mem_cons_of_mem _ hm);exact ⟨h1, fun hh => hh.elim h2 (hn x hm), h3⟩
 . rintro ⟨h1, h2, h3⟩
   rcases List.mem_cons.1 (hx.1 ⟨h1, fun hh => h2 (Or.inl hh), h3⟩) with e | e
   . exact absurd (Or.inr e) h2
   . exact e
theorem putL_insert {α : Type} {lt : α -> α -> Bool} (x : α) (l : List α) : l.insertIdx (lowL lt x l) x = putL lt x l := by
 have key : ∀ (l : List α) (i : Nat), i <= l.length -> l.insertIdx i x = l.take i ++ x :: l.drop i := by
  intro l
  induction l with
  | nil =>
    intro i hi;have h0 : i = 0 := by simpa using hi
    subst h0;rfl
  | cons y l ih =>
    intro i hi;cases i with
    | zero => rfl
    | succ i => simp [ih i (by simpa using hi)]
 exact key l _ (lowL_le x l)
def pick (ns : List Nat) (es : List (Nat × Nat)) (out : List Nat) : Option Nat := ns.find? fun x => !hasN x out && decide (cnt es out x = 0)
def ordF (ns : List Nat) (es : List (Nat × Nat)) : Nat -> List Nat -> List Nat
 | 0, out => out
 | n + 1, out => match pick ns es out with
   | none => out
   | some x => ordF ns es n (out ++ [x])
theorem pick_head (ns : List Nat) (es : List (Nat × Nat)) (out : List Nat) : pick ns es out = (rdL ns out (cnt es out)).head? := by
 unfold pick rdL;rw [List.head?_filter]
structure Lst (ns : List Nat) (es : List (Nat × Nat)) (out : List Nat) : Prop where
 nod : out.Nodup
 sub : ∀ x ∈ out, x ∈ ns
 cls : ∀ e ∈ es, e.1 ∈ out -> e.2 ∈ out
 top : ordF ns es (ns.length - out.length) out = ordF ns es ns.length []
theorem Lst.start (ns : List Nat) (es : List (Nat × Nat)) : Lst ns es [] := ⟨List.nodup_nil, by simp, by simp, rfl⟩
theorem Lst.len {ns : List Nat} {es : List (Nat × Nat)} {out : List Nat} (h : Lst ns es out) : out.length <= ns.length := nodup_len h.nod h.sub
theorem Lst.more {ns : List Nat} {es : List (Nat × Nat)} {out R : List Nat} {n : Nat} (h : Lst ns es out) (hR : rdL ns out (cnt es out) = n :: R) : Lst ns es (out ++ [n]) /\ n ∈ ns /\ n ∉ out := by
 have hm : n ∈ rdL ns out (cnt es out) := by rw [hR]; simp
 obtain ⟨h1, h2, h3⟩ := mem_rdL.1 hm;have hnod : (out ++ [n]).Nodup := List.nodup_append.2 ⟨h.nod, by simp, fun a ha b hb => by simp at hb; subst hb; rintro rfl; exact h2 ha⟩
 have hsub : ∀ x ∈ out ++ [n], x ∈ ns := fun x hx => by
  rw [List.mem_append, List.mem_singleton] at hx;rcases hx with hx | rfl
  . exact h.sub x hx
  . exact h1
 have hl := nodup_len hnod hsub;refine ⟨⟨hnod, hsub, fun e he hx => ?_, ?_⟩, h1, h2⟩
 . rw [List.mem_append, List.mem_singleton] at hx ⊢
   rcases hx with hx | hx
   . exact Or.inl (h.cls e he hx)
   . exact Or.inl (cnt_zero.1 h3 e he hx)
 . rw [<- h.top]
   have e1 : ns.length - out.length = (ns.length - (out ++ [n]).length) + 1 := by simp at hl ⊢; omega
   rw [e1, ordF, pick_head, hR];rfl
theorem Lst.fin {ns : List Nat} {es : List (Nat × Nat)} {out : List Nat} (h : Lst ns es out) (hR : rdL ns out (cnt es out) = []) : ordF ns es ns.length [] = out := by
 rw [<- h.top];cases ns.length - out.length with
 | zero => rfl
 | succ k => rw [ordF, pick_head, hR]; rfl
end Go.Proofs.YtpnogmicfomofaaGreatDoor.Stp
namespace Go.Proofs.YtpnogmicfomofaaGreatDoor.Stp
def Wn (F : Nat -> List Nat) : Nat -> Nat -> Nat -> Prop
 | 0, a, b => a = b
 | n + 1, a, b => ∃ c, c ∈ F a /\ Wn F n c b
section
variable {F : Nat -> List Nat}
theorem wn_add : ∀ {m n : Nat} {a b c : Nat}, Wn F m a b -> Wn F n b c -> Wn F (m + n) a c
 | 0, n, a, b, c, h, h' => by rw [Nat.zero_add]; cases h; exact h'
 | m + 1, n, a, b, c, ⟨d, hd, h⟩, h' => by rw [Nat.add_right_comm]; exact ⟨d, hd, wn_add h h'⟩
theorem wn_one {a b : Nat} (h : b ∈ F a) : Wn F 1 a b := ⟨b, h, rfl⟩
theorem wn_snoc {n : Nat} {a b : Nat} : Wn F (n + 1) a b ↔ ∃ c, Wn F n a c /\ b ∈ F c := by
 constructor
 . intro h
   induction n generalizing a with
   | zero =>
     obtain ⟨c, hc, rfl⟩ := h;exact ⟨a, rfl, hc⟩
   | succ n ih =>
     obtain ⟨c, hc, h⟩ := h;obtain ⟨d, h1, h2⟩ := ih h;exact ⟨d, ⟨c, hc, h1⟩, h2⟩
 . rintro ⟨c, h1, h2⟩
   exact wn_add h1 (wn_one h2)
end
def remN (U sn : List Nat) : Nat := (U.filter fun u => !hasN u sn).length
theorem remN_le (U sn : List Nat) : remN U sn <= U.length := List.length_filter_le _ _
theorem remN_add {U sn : List Nat} {y : Nat} (hy : y ∈ U) (hn : y ∉ sn) : remN U (sn ++ [y]) + 1 <= remN U sn := by
 unfold remN
 induction U with
 | nil => cases hy
 | cons u U ih =>
   have hmono : ∀ V : List Nat, (V.filter fun u => !hasN u (sn ++ [y])).length <= (V.filter fun u => !hasN u sn).length := fun V => by
    induction V with
    | nil => simp
    | cons v V ihv =>
      rw [List.filter_cons, List.filter_cons, hasN_app];cases h1 : hasN v sn <;> cases h2 : hasN v [y] <;> simp <;> omega
   rw [List.filter_cons, List.filter_cons, hasN_app]
   by_cases e : y = u
   . subst e
     have h1 : hasN y sn = false := by cases h : hasN y sn with | false => rfl | true => exact absurd (hasN_iff.1 h) hn
     have h2 : hasN y [y] = true := hasN_iff.2 (by simp);rw [h1, h2];have := hmono U;simp; omega
   . have h2 : hasN u [y] = false := by cases h : hasN u [y] with | false => rfl | true => exact absurd (hasN_iff.1 h) (by simp; exact fun h => e h.symm)
     have := ih (by rcases List.mem_cons.1 hy with h | h; exact absurd h e; exact h);rw [h2, Bool.or_false];cases h1 : hasN u sn <;> simp <;> omega
structure Bf (F : Nat -> List Nat) (a b : Nat) (sn L : List Nat) : Prop where
 rch : ∀ x ∈ L, ∃ n, Wn F n b x
 rcs : ∀ x ∈ sn, ∃ n, Wn F n b x
 dn : ∀ x, x = b ∨ x ∈ sn -> x ∈ L ∨ ∀ y ∈ F x, y ≠ a /\ y ∈ sn
structure BfI (F : Nat -> List Nat) (a b x k : Nat) (sn L : List Nat) : Prop where
 rx : ∃ n, Wn F n b x
 rch : ∀ x ∈ L, ∃ n, Wn F n b x
 rcs : ∀ x ∈ sn, ∃ n, Wn F n b x
 dn : ∀ z, z = b ∨ z ∈ sn -> z ∈ L ∨ z = x ∨ ∀ y ∈ F z, y ≠ a /\ y ∈ sn
 fst : ∀ y ∈ (F x).take k, y ≠ a /\ y ∈ sn
section
variable {F : Nat -> List Nat} {a b x k : Nat} {sn L : List Nat}
theorem Bf.start (F : Nat -> List Nat) (a b : Nat) : Bf F a b [] [b] := ⟨fun x hx => by
 have : x = b := by simpa using hx
 exact ⟨0, this.symm⟩, fun x hx => absurd hx (by simp), fun x hx => by
 rcases hx with rfl | hx
 . exact Or.inl (by simp)
 . cases hx⟩
theorem Bf.pop (h : Bf F a b sn (L ++ [x])) : BfI F a b x 0 sn L :=
 ⟨h.rch x (by simp), fun z hz => h.rch z (by simp [hz]), h.rcs, fun z hz => by
  rcases h.dn z hz with h1 | h1
  . rw [List.mem_append, List.mem_singleton] at h1
    rcases h1 with h1 | h1
    . exact Or.inl h1
    . exact Or.inr (Or.inl h1)
  . exact Or.inr (Or.inr h1), by simp⟩
theorem BfI.skip (h : BfI F a b x k sn L) (hk : k < (F x).length) (hy : (F x)[k] ∈ sn) (ha : (F x)[k] ≠ a) : BfI F a b x (k + 1) sn L :=
 ⟨h.rx, h.rch, h.rcs, h.dn, fun y hm => by
  rw [List.take_succ_eq_append_getElem hk, List.mem_append, List.mem_singleton] at hm;rcases hm with hm | rfl
  . exact h.fst y hm
  . exact ⟨ha, hy⟩⟩
theorem BfI.push (h : BfI F a b x k sn L) (hk : k < (F x).length) (ha : (F x)[k] ≠ a) : BfI F a b x (k + 1) (sn ++ [(F x)[k]]) (L ++ [(F x)[k]]) := by
 obtain ⟨n, hw⟩ := h.rx;have hr : ∃ n, Wn F n b (F x)[k] := ⟨n + 1, wn_snoc.2 ⟨x, hw, List.getElem_mem hk⟩⟩;refine ⟨h.rx, fun z hz => ?_, fun z hz => ?_, fun z hz => ?_, fun y hm => ?_⟩
 . rw [List.mem_append, List.mem_singleton] at hz
   rcases hz with hz | rfl
   . exact h.rch z hz
   . exact hr
 . rw [List.mem_append, List.mem_singleton] at hz
   rcases hz with hz | rfl
   . exact h.rcs z hz
   . exact hr
 . have key : z = b ∨ z ∈ sn -> z ∈ L ++ [(F x)[k]] ∨ z = x ∨ ∀ y ∈ F z, y ≠ a /\ y ∈ sn ++ [(F x)[k]] := fun hz => by
    rcases h.dn z hz with h1 | h1 | h1
    . exact Or.inl (List.mem_append_left _ h1)
    . exact Or.inr (Or.inl h1)
    . exact Or.inr (Or.inr fun y hy => ⟨(h1 y hy).1, List.mem_append_left _ (h1 y hy).2⟩)
   rcases hz with hz | hz
   . exact key (Or.inl hz)
   . rw [List.mem_append, List.mem_singleton] at hz
     rcases hz with hz | rfl
     . exact key (Or.inr hz)
     . exact Or.inl (by simp)
 . rw [List.take_succ_eq_append_getElem hk, List.mem_append, List.mem_singleton] at hm
   rcases hm with hm | rfl
   . exact ⟨(h.fst y hm).1, List.mem_append_left _ (h.fst y hm).2⟩
   . exact ⟨ha, by simp⟩
theorem BfI.done (h : BfI F a b x (F x).length sn L) : Bf F a b sn L :=
 ⟨h.rch, h.rcs, fun z hz => by
  rcases h.dn z hz with h1 | h1 | h1
  . exact Or.inl h1
  . subst h1
    exact Or.inr fun y hy => h.fst y (by rwa [List.take_length])
  . exact Or.inr h1⟩
theorem BfI.hit (h : BfI F a b x k sn L) (hk : k < (F x).length) (ha : (F x)[k] = a) : ∃ n, Wn F (n + 1) b a := by
 obtain ⟨n, hw⟩ := h.rx;exact ⟨n, wn_snoc.2 ⟨x, hw, ha ▸ List.getElem_mem hk⟩⟩
theorem Bf.fin (h : Bf F a b sn []) : ¬ ∃ n, Wn F (n + 1) b a := by
 have hin : ∀ n z, Wn F n b z -> z = b ∨ z ∈ sn := by
  intro n
  induction n with
  | zero => intro z hz; exact Or.inl hz.symm
  | succ n ih =>
    intro z hz;obtain ⟨c, h1, h2⟩ := wn_snoc.1 hz;rcases h.dn c (ih c h1) with h3 | h3
    . cases h3
    . exact Or.inr (h3 z h2).2
 rintro ⟨n, hw⟩;obtain ⟨c, h1, h2⟩ := wn_snoc.1 hw;rcases h.dn c (hin n c h1) with h3 | h3
 . cases h3
 . exact (h3 a h2).1 rfl
end
def nd (N : List (List Nat)) (i : Nat) : List Nat := N.getD i []
open Classical in
noncomputable def befN (N : List (List Nat)) (a b : Nat) : Bool := decide (∃ n, Wn (nd N) (n + 1) b a)
theorem befN_iff {N : List (List Nat)} {a b : Nat} : befN N a b = true ↔ ∃ n, Wn (nd N) (n + 1) b a := by unfold befN; simp
def esN (N : List (List Nat)) : List (Nat × Nat) := N.zipIdx.flatMap fun x => x.1.map fun k => (x.2, k)
theorem mem_esN {N : List (List Nat)} {i k : Nat} : (i, k) ∈ esN N ↔ k ∈ nd N i := by
 unfold esN nd;rw [List.mem_flatMap];constructor
 . rintro ⟨⟨l, j⟩, h1, h2⟩
   rw [List.mem_map] at h2;obtain ⟨k', hk, e⟩ := h2;simp at e;obtain ⟨rfl, rfl⟩ := e;rw [List.mem_zipIdx_iff_getElem?] at h1;rw [List.getD_eq_getElem?_getD];simp only at h1;rw [h1]; exact hk
 . intro h
   rw [List.getD_eq_getElem?_getD] at h;cases hN : N[i]? with
   | none => rw [hN] at h; simp at h
   | some l =>
     rw [hN] at h;exact ⟨(l, i), by rw [List.mem_zipIdx_iff_getElem?]; exact hN, List.mem_map.2 ⟨k, h, rfl⟩⟩
end Go.Proofs.YtpnogmicfomofaaGreatDoor.Stp
namespace Go.Proofs.YtpnogmicfomofaaGreatDoor.Stp
def ordOn (ns : List Nat) (es : List (Nat × Nat)) : List Nat := if (ordF ns es ns.length []).length < ns.length then [] else ordF ns es ns.length []
def ordEn (ns : List Nat) (es : List (Nat × Nat)) : Int := if (ordF ns es ns.length []).length < ns.length then 10 else 0
theorem cnt_app (e1 e2 : List (Nat × Nat)) (out : List Nat) (x : Nat) : cnt (e1 ++ e2) out x = cnt e1 out x + cnt e2 out x := by
 unfold cnt; rw [List.filter_append, List.length_append]
theorem cnt_from (out : List Nat) (i : Nat) : ∀ (N : List (List Nat)) (s : Nat), cnt ((N.zipIdx s).flatMap fun x => x.1.map fun k => (x.2, k)) out i = if s <= i /\ i < s + N.length then ((N.getD (i - s) []).filter fun k => !hasN k out).length else 0
 | [], s => by
   have h : ¬ (s <= i /\ i < s + ([] : List (List Nat)).length) := by rw [List.length_nil]; omega
   rw [if_neg h]; rfl
 | l :: N, s => by
   rw [List.zipIdx_cons, List.flatMap_cons, cnt_app, cnt_from out i N (s + 1)]
   have h1 : cnt (l.map fun k => (s, k)) out i = if s = i then (l.filter fun k => !hasN k out).length else 0 := by
    unfold cnt;rw [List.filter_map, List.length_map]
    by_cases e : s = i
    . subst e
      rw [if_pos rfl]
      congr 2
      funext k;simp
    . rw [if_neg e]
      have : (fun k : Nat => ((fun e : Nat × Nat => decide (e.1 = i) && !hasN e.2 out) ∘ fun k => (s, k)) k) = fun _ => false := by
       funext k;simp [e]
      rw [List.length_eq_zero_iff, List.filter_eq_nil_iff];intro k _;simp [e]
   rw [h1]
   by_cases e : s = i
   . subst e
     rw [if_pos rfl, if_neg (by omega), if_pos ⟨Nat.le_refl _, by simp⟩];simp
   . rw [if_neg e]
     by_cases h2 : s + 1 <= i /\ i < s + 1 + N.length
     . rw [if_pos h2, if_pos ⟨by omega, by simp; omega⟩]
       have e3 : i - s = (i - (s + 1)) + 1 := by omega
       rw [e3];simp
     . rw [if_neg h2, if_neg (fun h3 => h2 ⟨by omega, by simp at h3; omega⟩)]
theorem cnt_esN (N : List (List Nat)) (out : List Nat) {i : Nat} (hi : i < N.length) : cnt (esN N) out i = ((nd N i).filter fun k => !hasN k out).length := by
 unfold esN nd;have := cnt_from out i N 0;rw [if_pos ⟨Nat.zero_le _, by omega⟩] at this;simpa using this
theorem cnt_esN0 (N : List (List Nat)) {i : Nat} (hi : i < N.length) : cnt (esN N) [] i = (nd N i).length := by
 rw [cnt_esN N [] hi]
 congr 1
 exact List.filter_eq_self.2 fun k _ => by simp [hasN]
def usr (es : List (Nat × Nat)) (k : Nat) : List Nat := (es.filter fun e => decide (e.2 = k)).map (·.1)
theorem usr_snoc (es : List (Nat × Nat)) (i k j : Nat) : usr (es ++ [(i, k)]) j = if k = j then usr es j ++ [i] else usr es j := by
 unfold usr;rw [List.filter_append, List.filter_cons, List.map_append]
 by_cases e : k = j <;> simp [e]
theorem mem_usr {es : List (Nat × Nat)} {k i : Nat} : i ∈ usr es k ↔ (i, k) ∈ es := by
 unfold usr;rw [List.mem_map];constructor
 . rintro ⟨⟨a, b⟩, h, rfl⟩
   rw [List.mem_filter] at h;have : b = k := by simpa using h.2
   subst this; exact h.1
 . intro h
   exact ⟨(i, k), List.mem_filter.2 ⟨h, by simp⟩, rfl⟩
theorem occ_usr (es : List (Nat × Nat)) (k x : Nat) : occ x (usr es k) = (es.filter fun e => decide (e.1 = x) && decide (e.2 = k)).length := by
 unfold occ usr;rw [List.filter_map, List.length_map, List.filter_filter];rfl
theorem usr_len (es : List (Nat × Nat)) (k : Nat) : (usr es k).length <= es.length := by unfold usr; rw [List.length_map]; exact List.length_filter_le _ _
end Go.Proofs.YtpnogmicfomofaaGreatDoor.Stp
namespace Go.Proofs.YtpnogmicfomofaaGreatDoor.Stp
def pos (x : Nat) : List Nat -> Nat
 | [] => 0
 | y :: l => if y = x then 0 else pos x l + 1
theorem pos_lt {x : Nat} : ∀ {l : List Nat}, x ∈ l -> pos x l < l.length
 | y :: l, h => by
   unfold pos
   by_cases e : y = x
   . rw [if_pos e]; simp
   . rw [if_neg e]
     have := pos_lt (l := l) (by rcases List.mem_cons.1 h with h | h; exact absurd h.symm e; exact h);simp; omega
theorem pos_left {x : Nat} {m : List Nat} : ∀ {l : List Nat}, x ∈ l -> pos x (l ++ m) = pos x l
 | y :: l, h => by
   rw [List.cons_append];unfold pos
   by_cases e : y = x
   . rw [if_pos e, if_pos e]
   . rw [if_neg e, if_neg e, pos_left (by rcases List.mem_cons.1 h with h | h; exact absurd h.symm e; exact h)]
theorem pos_new {x : Nat} : ∀ {l : List Nat}, x ∉ l -> pos x (l ++ [x]) = l.length
 | [], _ => by simp [pos]
 | y :: l, h => by
   rw [List.cons_append];unfold pos;rw [if_neg (fun e => h (by simp [e])), pos_new (fun hh => h (List.mem_cons_of_mem _ hh))];simp
def Ordd (es : List (Nat × Nat)) (out : List Nat) : Prop := ∀ e ∈ es, e.1 ∈ out -> e.2 ∈ out /\ pos e.2 out < pos e.1 out
theorem Ordd.more {es : List (Nat × Nat)} {out : List Nat} {n : Nat} (h : Ordd es out) (h1 : n ∉ out) (h2 : cnt es out n = 0) : Ordd es (out ++ [n]) := by
 intro e he hx;rw [List.mem_append, List.mem_singleton] at hx;rcases hx with hx | hx
 . obtain ⟨h3, h4⟩ := h e he hx
   exact ⟨by simp [h3], by rw [pos_left h3, pos_left hx]; exact h4⟩
 . have h3 := cnt_zero.1 h2 e he hx
   exact ⟨by simp [h3], by rw [pos_left h3, hx, pos_new h1]; exact pos_lt h3⟩
theorem ord_run {ns : List Nat} {es : List (Nat × Nat)} : ∀ (k : Nat) (out : List Nat), ns.length - out.length <= k -> Lst ns es out -> Ordd es out -> ∃ o, Lst ns es o /\ Ordd es o /\ rdL ns o (cnt es o) = [] := by
 intro k
 induction k with
 | zero =>
   intro out hk hL hO;cases hR : rdL ns out (cnt es out) with
   | nil => exact ⟨out, hL, hO, hR⟩
   | cons n R =>
     have h2 := (hL.more hR).1.len;simp at h2; omega
 | succ k ih =>
   intro out hk hL hO;cases hR : rdL ns out (cnt es out) with
   | nil => exact ⟨out, hL, hO, hR⟩
   | cons n R =>
     have h1 := hL.more hR;have hm : n ∈ rdL ns out (cnt es out) := by rw [hR]; simp
     exact ih (out ++ [n]) (by simp; omega) h1.1 (hO.more h1.2.2 (mem_rdL.1 hm).2.2)
theorem ord_fin (ns : List Nat) (es : List (Nat × Nat)) : Lst ns es (ordF ns es ns.length []) /\ Ordd es (ordF ns es ns.length []) /\ rdL ns (ordF ns es ns.length []) (cnt es (ordF ns es ns.length [])) = [] := by
 obtain ⟨o, h1, h2, h3⟩ := ord_run (ns := ns) (es := es) ns.length [] (by simp) (Lst.start ns es) (fun e he h => by simp at h);rw [h1.fin h3];exact ⟨h1, h2, h3⟩
theorem ordE_zero {ns : List Nat} {es : List (Nat × Nat)} : ordEn ns es = 0 ↔ (ordF ns es ns.length []).length = ns.length := by
 have := (ord_fin ns es).1.len;unfold ordEn;constructor
 . intro h
   by_cases h2 : (ordF ns es ns.length []).length < ns.length
   . rw [if_pos h2] at h; omega
   . omega
 . intro h
   rw [if_neg (by omega)]
theorem ordO_ok {ns : List Nat} {es : List (Nat × Nat)} (h : ordEn ns es = 0) : ordOn ns es = ordF ns es ns.length [] := by
 have := ordE_zero.1 h;unfold ordOn;rw [if_neg (by omega)]
theorem ordO_all {ns : List Nat} {es : List (Nat × Nat)} (h : ordEn ns es = 0) : (ordOn ns es).length = ns.length /\ ∀ x ∈ ns, x ∈ ordOn ns es := by
 have h2 := ordE_zero.1 h;have h3 := (ord_fin ns es).1;rw [ordO_ok h];refine ⟨h2, fun x hx => ?_⟩;refine Classical.byContradiction fun hn => ?_
 have h4 := nodup_len (a := x :: ordF ns es ns.length []) (b := ns) (List.nodup_cons.2 ⟨hn, h3.nod⟩) (fun y hy => by
  rcases List.mem_cons.1 hy with rfl | hy
  . exact hx
  . exact h3.sub y hy)
 simp at h4; omega
theorem ord_walk {N : List (List Nat)} {o : List Nat} (h : Ordd (esN N) o) : ∀ {n : Nat} {x y : Nat}, x ∈ o -> Wn (nd N) n x y -> y ∈ o /\ pos y o + n <= pos x o
 | 0, x, y, hx, hw => by cases hw; exact ⟨hx, by omega⟩
 | n + 1, x, y, hx, ⟨c, hc, hw⟩ => by
   obtain ⟨h1, h2⟩ := h (x, c) (mem_esN.2 hc) hx;obtain ⟨h3, h4⟩ := ord_walk h (x := c) h1 hw;have h2' : pos c o < pos x o := h2;exact ⟨h3, by omega⟩
theorem bef_pos {N : List (List Nat)} (h : ordEn (List.range N.length) (esN N) = 0) {a b : Nat} (hb : b < N.length) (hab : befN N a b = true) : pos a (ordOn (List.range N.length) (esN N)) < pos b (ordOn (List.range N.length) (esN N)) := by
 obtain ⟨n, hw⟩ := befN_iff.1 hab;have h1 := (ordO_all h).2 b (List.mem_range.2 hb);rw [ordO_ok h] at h1 ⊢;have h2 := ord_walk (ord_fin (List.range N.length) (esN N)).2.1 h1 hw;omega
theorem bef_need {N : List (List Nat)} {a k : Nat} (h : k ∈ nd N a) : befN N k a = true := befN_iff.2 ⟨0, k, h, rfl⟩
theorem bef_asym {N : List (List Nat)} (h : ordEn (List.range N.length) (esN N) = 0) {a b : Nat} (ha : a < N.length) (hb : b < N.length) (hab : befN N a b = true) : befN N b a = false := by
 cases h2 : befN N b a with
 | false => rfl
 | true =>
   have h3 := bef_pos h hb hab;have h4 := bef_pos h ha h2;omega
end Go.Proofs.YtpnogmicfomofaaGreatDoor.Stp
