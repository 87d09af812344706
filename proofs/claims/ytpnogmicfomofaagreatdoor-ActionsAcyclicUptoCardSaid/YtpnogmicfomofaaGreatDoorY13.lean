import Derived.Test.YtpnogmicfomofaaGreatDoorY1
import Derived.Test.YtpnogmicfomofaaGreatDoorY10
import Derived.Sort.Walk0
import Derived.Deep.AppendLies
import Derived.OwnWalk
import Derived.Laws.AppendOwnNone
import Derived.ArgAppend
import Derived.Shelf.Strings.Builder1
import Derived.Shelf.Small.Utf8
import Derived.Shelf.Small.Bits
import Derived.Shelf.Small.Strs
import Derived.Shelf.Small.Wraps
import Derived.Shelf.Strings.BuilderF
import Derived.Shelf.Strings.BuilderK
import Derived.Shelf.Strings.BuilderRune
import Derived.Shelf.Strconv.Itoa0
import Derived.Shelf.Strconv.Itoa1
import Derived.Shelf.LaysM
import Derived.Shelf.Strconv.Itoa2
import Derived.Shelf.Strconv.Itoa3
import Derived.Shelf.Strconv.Itoa4
import Derived.Shelf.Strconv.ParseIntEmpty
import Derived.Shelf.Strconv.Clone
import Derived.Shelf.Strconv.SyntaxError
import Derived.Shelf.LaysC
import Derived.Shelf.Strconv.ToError
import Derived.Shelf.Strconv.Lower
import Derived.Shelf.Strconv.ParseUint10
import Derived.Shelf.Strconv.ParseUint10Empty
import Derived.Shelf.Strconv.ParseUint10Any
import Derived.Shelf.Strconv.ParseInt10
import Derived.Shelf.Strconv.RangeError
import Derived.Shelf.Strconv.ToErrorRange
import Derived.Shelf.Strconv.ParseUintEmpty
import Derived.Shelf.Strconv.ParseUint10b64
import Derived.Shelf.Strconv.ParseUint10b32
import Derived.Shelf.Strconv.ParseUint10b16
import Derived.Shelf.Strconv.ParseUint10b8
import Derived.Shelf.Strconv.ParseUint10At
import Derived.Shelf.Strconv.ParseInt10At64
import Derived.Shelf.Strconv.ParseInt10At32
import Derived.Shelf.Strconv.ParseInt10At16
import Derived.Shelf.Strconv.ParseInt10At8
import Derived.Shelf.Strconv.ParseInt10All
import Derived.Shelf.Strconv.ParseIntPublic10
import Derived.Shelf.Strconv.ErrVarParseInt
import Derived.Shelf.Strings.Search1
import Derived.Shelf.Sort.Plain
import Derived.Shelf.Strings.Prefix
import Derived.Shelf.Unicode.Decode
import Derived.Shelf.Strings.Runes
import Derived.Shelf.Strings.IndexAny
import Derived.Shelf.Strings.AsciiSet
import Derived.Shelf.Strings.IndexAnyAll
import Derived.Shelf.Unicode.DecodeSlow
import Derived.Shelf.Unicode.DecodeAny
import Derived.Shelf.Slices.Turned
import Derived.Shelf.Slices.Reverse
import Derived.Shelf.Slices.Equal
import Derived.Ground.Names2Prog
import Derived.Shelf.Slices.ReverseS
import Derived.Shelf.Slices.Clone
import Derived.Shelf.Slices.CompactS
import Derived.Shelf.Slices.SearchI
import Derived.Shelf.Slices.Delete
import Derived.Shelf.Slices.Cells
import Derived.Shelf.Slices.In.SortNone
import Derived.Shelf.Slices.Empties
import Derived.Shelf.Slices.Empties2
import Derived.Ground.SlgnProg
import Derived.Shelf.SlicesE.Reverse
import Derived.Shelf.SlicesE.Delete
import Derived.Shelf.SlicesE.Clone
import Derived.Shelf.Spec.SearchS
import Derived.Shelf.Spec.SlicesInsert
import Derived.Test.YtpnogmicfomofaaGreatDoorProg
import Derived.Shelf.SlSortCmp.WholeK
import Derived.Ground.SlsfProg
import Derived.Deep.RegionHeld3
import Derived.Deep.DrawnRows
import Derived.DeepKeys4
import Derived.Shelf.SlSortCmp.NoneTotal
import Derived.Lib.AppendZerosOnto
import Derived.Laws.OwnMore
import Derived.Deep.RegionLaw
import Derived.Lib.OwnBridge
import Derived.Sort.OwnSorted
set_option linter.unusedVariables false
set_option linter.unusedSimpArgs false
namespace Go.Proofs.YtpnogmicfomofaaGreatDoor
open Go.RowKit Go.Sort Go.Lib
open Go.Lib (hid)
def hasS (x : ByteArray) (l : List ByteArray) : Bool := l.any fun y => decide (y = x)
theorem hasS_iff {x : ByteArray} {l : List ByteArray} : hasS x l = true ↔ x ∈ l := by
 unfold hasS;rw [List.any_eq_true];constructor
 . rintro ⟨y, hy, e⟩
   rw [decide_eq_true_eq] at e;exact e ▸ hy
 . intro h
   exact ⟨x, h, by simp⟩
def pos (x : ByteArray) : List ByteArray -> Nat
 | [] => 0
 | y :: l => if y = x then 0 else pos x l + 1
def setF (l : List ByteArray) : ByteArray -> Option Value := fun x => if hasS x l then some (.bool true) else none
theorem setF_snoc (l : List ByteArray) (x : ByteArray) : upd (setF l) x (some (.bool true)) = setF (l ++ [x]) := by
 funext y
 by_cases e : y = x
 . subst e; rw [upd_same]; unfold setF; rw [if_pos (hasS_iff.2 (by simp))]
 . rw [upd_other _ _ e]; unfold setF hasS; rw [List.any_append]; have h2 : ¬ x = y := fun h => e h.symm; simp only [List.any_cons, List.any_nil, decide_eq_false h2, Bool.or_false]
set_option maxRecDepth 100000 in
theorem set_any (l : List ByteArray) (v : Value) (w : World) (hS : Sl StrR 1 w v l) (hn : l.length <= 1000000) :
  Calls Tryz.prog 48 #[v] w fun r w' => r = .returned (.map (some w.heap.size)) /\ (∃ n c, n <= l.length /\ OwnF w' Tryz.prog 9 strLit w.heap.size n c (setF l)) /\ Below w.heap.size w w' := by
 obtain ⟨r, c, rfl, _⟩ := id hS;obtain ⟨_, hl, hm⟩ := sl_len hS;have HE := hid (fun (W : World) (hW : Below w.heap.size w W) => str_at (hS.below strR_mono hW));clear hS
 have hmm : (Instr.makeMap 96 (some (.int .i64 (l.length : Nat)))).run Tryz.prog w = .ok (.map (some w.heap.size)) (w.alloc (.map #[] 0)) := by
  simp [Instr.makeMap, run_underlying Tryz.underlying96];rfl
 have T := strT (P := Tryz.prog) (k := 9) Tryz.underlying9;have hb0 : Below w.heap.size w (w.alloc (.map #[] 0)) := (Below.refl _ _).alloc (Nat.le_refl _) _;have ho0 := OwnF.made w Tryz.prog 9 strLit;have B0 := hid hb0;have O0 := hid ho0;clear hb0 ho0;go_enter Tryz.func48, Tryz.ntmps48;go_wp2
 go_loopw [11] (fun i wr => ∃ k n c : Nat, k <= l.length /\ i = .int .i64 k /\ n <= k /\ Below w.heap.size w wr /\ OwnF wr Tryz.prog 9 strLit w.heap.size n c (setF (l.take k))) (fun i _ => l.length - (intOf i).toNat)
 case atStart => exact ⟨0, 0, 0, by omega, rfl, by omega, B0.out, O0.out⟩
 case round =>
  obtain ⟨k, n, c, hk, rfl, hnk, hbl, how⟩ := hrel;have HB := hid hbl;have HO := hid how;have HN := hid hnk;clear hnk how
  by_cases hlt : k < l.length
  . obtain ⟨b, off, rfl, hb, g, hs⟩ := HE.out _ hbl k hlt
    have HT := hid (show l.take (k + 1) = l.take k ++ [l[k]] from List.take_succ_eq_append_getElem hlt);clear HE hbl;generalize l[k] = y at *;have HS := hid hs;clear hs;go_wp2_with (at_mapUpdate; refine wpList_store _ rfl _ _ _ 96 rfl T Tryz.underlying96 w.heap.size n c _ rfl HO.out (by have := HN.out; unfold maxLen; omega) y (.bool true) rfl rfl HS.out ?_; intro w2 ho2 hg2)
    have HO2 := hid ho2;have HB2 := hid (Below.grown HB.out hg2 HB.out.size (fun k hk => by simp at hk; omega));clear ho2 hg2;go_wp2
    go_round
    case rel => exact ⟨k + 1, n + 1, _, by omega, by go_num, by have := HN.out; omega, HB2.out, by rw [HT.out, <- setF_snoc]; exact HO2.out⟩
    case measure => simp [intOf]; omega
  . have hke : k = l.length := by omega
    have HK := hid hke;clear hke HE hbl;go_wp2
    go_ret
    have hk2 := HK.out;subst hk2;exact ⟨rfl, ⟨n, c, HN.out, by have := HO.out; rwa [List.take_length] at this⟩, HB.out⟩
end Go.Proofs.YtpnogmicfomofaaGreatDoor
namespace Go.Proofs.YtpnogmicfomofaaGreatDoor
open Go.RowKit Go.Sort Go.Lib
open Go.Lib (hid)
def atS (x : ByteArray) (l : List ByteArray) : Int := if hasS x l then (pos x l : Nat) else -1
end Go.Proofs.YtpnogmicfomofaaGreatDoor
namespace Go.Proofs.YtpnogmicfomofaaGreatDoor
open Go.RowKit Go.Sort Go.Lib
open Go.Lib (hid)
abbrev Ed := ByteArray × ByteArray
def EdR (_ : World) (cs : List Value) (e : Ed) : Prop := cs = [.string e.1, .string e.2] /\ e.1.size <= maxLen /\ e.2.size <= maxLen
theorem edR_mono : Mono EdR := fun _ _ _ _ _ h => h
theorem ed_at {w : World} {r : Option Addr} {n c : Nat} {es : List Ed} (h : Sl EdR 2 w (.slice r n c) es) (i : Nat) (hi : i < es.length) :
  ∃ b off, r = some ⟨b, off, none⟩ /\ b < w.heap.size /\ w.cell? ⟨b, off + i * 2, none⟩ = some (.string (es[i]).1) /\ w.cell? ⟨b, off + i * 2 + 1, none⟩ = some (.string (es[i]).2) /\ (es[i]).1.size <= maxLen /\ (es[i]).2.size <= maxLen := by
 obtain ⟨r', c', e, h1, h2, he⟩ := h;simp at e;obtain ⟨rfl, rfl, rfl⟩ := e;obtain ⟨b, off, cs, hr, _, hc, rfl, hs, ht⟩ := he i hi;have g0 := hc 0 _ rfl;simp only [Nat.add_zero] at g0;exact ⟨b, off, hr, World.block_lt_of_cell? w _ g0, g0, hc 1 _ rfl, hs, ht⟩
def ltB (a b : ByteArray) : Bool := decide (a.data.toList < b.data.toList)
def lessE (a b : Ed) : Bool := ltB a.1 b.1 || (decide (a.1 = b.1) && ltB a.2 b.2)
theorem less_bytes (a b : ByteArray) : Op.bytesLess a.toList b.toList = ltB a b := by
 rw [Go.Proofs.bytesLess_eq, ByteArray.toList_eq, ByteArray.toList_eq]; rfl
end Go.Proofs.YtpnogmicfomofaaGreatDoor
namespace Go.Proofs.YtpnogmicfomofaaGreatDoor
open Go.RowKit Go.Sort Go.Lib
open Go.Lib (hid)
def encE (e : Ed) : List Value := [.string e.1, .string e.2]
theorem encE_len : ∀ x, (encE x).length = 2 := fun _ => rfl
theorem encE_one : ∀ x, ∀ u ∈ encE x, u.oneCell' = true := fun x u hu => by
 simp only [encE, List.mem_cons, List.mem_nil_iff, or_false] at hu;rcases hu with rfl | rfl <;> rfl
theorem edinfo : (Tryz.prog.info? 64).map (fun i => (i.zero, i.size, i.bytes)) = some (some (.agg #[.string ByteArray.empty, .string ByteArray.empty]), 2, 32) := by kernel_rfl
def OwnE (B : Nat) (w : World) (v : Value) (xs : List Ed) : Prop := w.ownsRow B 64 2 v xs.length (xs.flatMap encE) /\ ∀ x ∈ xs, x.1.size <= maxLen /\ x.2.size <= maxLen
theorem ownE_nil (B : Nat) (w : World) : OwnE B w (.slice none 0 0) [] := ⟨World.ownsRow_nil w B _ 2, by simp⟩
theorem OwnE.kept {B : Nat} {w w' : World} {v : Value} {row : Option Nat} {xs : List Ed} (h : OwnE B w v xs) (hg : w.grownBy w' row) (hr : ∀ g, v.ownBlock = some g -> row ≠ some g) : OwnE B w' v xs := ⟨kept_off h.1 hg hr, h.2⟩
theorem OwnE.below {B : Nat} {w w' : World} {v : Value} {xs : List Ed} (h : OwnE B w v xs) (hb : Below w.heap.size w w') : OwnE B w' v xs := h.kept (grown_below hb) (fun _ _ h => by cases h)
theorem OwnE.lt {B : Nat} {w : World} {v : Value} {xs : List Ed} (h : OwnE B w v xs) : ∀ g, v.ownBlock = some g -> B <= g /\ g < w.heap.size := h.1.lt
theorem OwnE.form {B : Nat} {w : World} {v : Value} {xs : List Ed} (h : OwnE B w v xs) : ∃ r c, v = .slice r xs.length c /\ xs.length <= c /\ c <= maxLen := own_form h.1
theorem OwnE.sl {B : Nat} {w : World} {v : Value} {xs : List Ed} (h : OwnE B w v xs) : Sl EdR 2 w v xs := by
 obtain ⟨r, c, e, h1, h2, he⟩ := sl_of_own encE encE_len h.1;refine ⟨r, c, e, h1, h2, fun i hi => ?_⟩;obtain ⟨b, off, cs, hr, hs, hc, hx⟩ := he i hi;exact ⟨b, off, cs, hr, hs, hc, by rw [hx]; rfl, h.2 _ (List.getElem_mem hi)⟩
def MoreE (B : Nat) (w : World) (v : Value) (xs : List Ed) (H : Nat) (g cap : Nat) (w' : World) : Prop :=
 OwnE B w' (.slice (some ⟨g, 0, none⟩) xs.length cap) xs /\ w.grownBy w' v.ownBlock /\ (v.ownBlock = some g ∨ g = H) /\ g < w'.heap.size
section
variable {w : World} {ops : Array Oper} {rest : List Oper} {o : Oper} {a : Act} {Q : Exit -> Act -> World -> Prop}
theorem app_ed (hgd : o.guard = none) (s x : Operand) (ho : o.op = .call { callee := .builtin .append, args := #[s, x], argTypes := #[54, 54] })
  (B : Nat) (v : Value) (xs : List Ed) (hs : a.eval s = v) (hown : OwnE B w v xs) (nb c : Nat) (y : Ed) (hx : a.eval x = .slice (some ⟨nb, 0, none⟩) 1 c) {fr : Nat × Nat} (hy : w.heap[nb]? = some (.cells #[.string y.1, .string y.2] 64 fr)) (hys : y.1.size <= maxLen /\ y.2.size <= maxLen)
  (hn : xs.length + 1 <= 1000000) (hbase : B <= w.heap.size) (H : Nat) (hH : w.heap.size = H)
  (h : ∀ g cap w', MoreE B w v (xs ++ [y]) H g cap w' -> wpList Tryz.prog ops Q rest (a.put o.dst (.slice (some ⟨g, 0, none⟩) (xs.length + 1) cap)) w') : wpList Tryz.prog ops Q (o :: rest) a w := by
 subst hH;refine wpList_append_rows encE encE_len encE_one Tryz.underlying54 edinfo rfl (by omega) (by omega) hgd s x ho B v xs hs hown.1 nb 1 c [y] rfl (by omega) hx (fr := fr) hy (by omega) hbase ?_;intro g cap w' h1 h2 h3 h4;refine h g cap w' ⟨⟨?_, ?_⟩, h2, h3, h4⟩
 . simpa using h1
 . intro z hz
   rw [List.mem_append] at hz;rcases hz with hz | hz
   . exact hown.2 z hz
   . simp at hz; subst hz; exact hys
end
section
variable {w : World} {ops : Array Oper} {o : Oper} {a : Act} {K : Act -> World -> Prop} {Q : Exit -> Act -> World -> Prop} {F : Prop}
theorem step_ed (hgd : o.guard = none) (s x : Operand) (ho : o.op = .call { callee := .builtin .append, args := #[s, x], argTypes := #[54, 54] })
  (B : Nat) (v : Value) (xs : List Ed) (hs : a.eval s = v) (hown : OwnE B w v xs) (nb c : Nat) (y : Ed) (hx : a.eval x = .slice (some ⟨nb, 0, none⟩) 1 c) {fr : Nat × Nat} (hy : w.heap[nb]? = some (.cells #[.string y.1, .string y.2] 64 fr)) (hys : y.1.size <= maxLen /\ y.2.size <= maxLen)
  (hn : xs.length + 1 <= 1000000) (hbase : B <= w.heap.size) (H : Nat) (hH : w.heap.size = H)
  (h : ∀ g cap w', MoreE B w v (xs ++ [y]) H g cap w' -> K (a.put o.dst (.slice (some ⟨g, 0, none⟩) (xs.length + 1) cap)) w') :
  if Region.wanted o (yielded ops a.tmps) = true then Oper.wp Tryz.prog o a w K Q else F := by
 refine step_append_row encE encE_len encE_one Tryz.underlying54 edinfo rfl (by omega) (by omega) hgd s x ho B v xs hs hown.1 nb c y hx (fr := fr) hy (by omega) hbase H hH ?_;intro g cap w' h1 h2 h3 h4;refine h g cap w' ⟨⟨?_, ?_⟩, h2, h3, h4⟩
 . simpa using h1
 . intro z hz
   rw [List.mem_append] at hz;rcases hz with hz | hz
   . exact hown.2 z hz
   . simp at hz; subst hz; exact hys
end
end Go.Proofs.YtpnogmicfomofaaGreatDoor
namespace Go.Proofs.YtpnogmicfomofaaGreatDoor
structure STO {α : Type} (lt : α -> α -> Bool) : Prop where
 irr : ∀ a, lt a a = false
 tr : ∀ a b c, lt a b = true -> lt b c = true -> lt a c = true
 tot : ∀ a b, lt a b = false -> lt b a = false -> a = b
def AscL {α : Type} (lt : α -> α -> Bool) (l : List α) : Prop := l.Pairwise fun a b => lt a b = true
section
variable {α : Type} {lt : α -> α -> Bool} (O : STO lt)
include O
theorem STO.asym {a b : α} (h : lt a b = true) : lt b a = false := by
 cases h' : lt b a with
 | false => rfl
 | true => have := O.tr _ _ _ h h'; rw [O.irr] at this; cases this
theorem asc_uniq : ∀ {a b : List α}, AscL lt a -> AscL lt b -> (∀ x, x ∈ a ↔ x ∈ b) -> a = b
 | [], [], _, _, _ => rfl
 | [], y :: b, _, _, h => by have := (h y).2 (by simp); simp at this
 | x :: a, [], _, _, h => by have := (h x).1 (by simp); simp at this
 | x :: a, y :: b, ha, hb, h => by
   unfold AscL at ha hb;rw [List.pairwise_cons] at ha hb
   have exy : x = y := by
    rcases List.mem_cons.1 ((h x).1 (by simp)) with e | hx
    . exact e
    . rcases List.mem_cons.1 ((h y).2 (by simp)) with e | hy
      . exact e.symm
      . have h1 := hb.1 x hx
        have h2 := ha.1 y hy;rw [O.asym h1] at h2; cases h2
   subst exy;rw [asc_uniq ha.2 hb.2 fun z => ?_];constructor
   . intro hz
     rcases List.mem_cons.1 ((h z).1 (List.mem_cons_of_mem _ hz)) with e | h'
     . subst e; have := ha.1 z hz; rw [O.irr] at this; cases this
     . exact h'
   . intro hz
     rcases List.mem_cons.1 ((h z).2 (List.mem_cons_of_mem _ hz)) with e | h'
     . subst e; have := hb.1 z hz; rw [O.irr] at this; cases this
     . exact h'
end
def lowL {α : Type} (lt : α -> α -> Bool) (x : α) (l : List α) : Nat := (l.takeWhile fun y => lt y x).length
def putL {α : Type} (lt : α -> α -> Bool) (x : α) (l : List α) : List α := l.take (lowL lt x l) ++ x :: l.drop (lowL lt x l)
section
variable {α : Type} {lt : α -> α -> Bool}
theorem lowL_le (x : α) (l : List α) : lowL lt x l <= l.length := by unfold lowL; exact (List.takeWhile_sublist _).length_le
theorem lowL_cons (x y : α) (l : List α) : lowL lt x (y :: l) = if lt y x = true then lowL lt x l + 1 else 0 := by
 unfold lowL;rw [List.takeWhile_cons];split <;> simp
theorem lowL_low (x : α) : ∀ (l : List α) (j : Nat) (h : j < l.length), j < lowL lt x l -> lt l[j] x = true
 | y :: l, 0, h, hj => by
   rw [lowL_cons] at hj;split at hj
   . assumption
   . omega
 | y :: l, j + 1, h, hj => by
   rw [lowL_cons] at hj;split at hj
   . exact lowL_low x l j (by simpa using h) (by omega)
   . omega
theorem lowL_at (x : α) : ∀ (l : List α) (h : lowL lt x l < l.length), lt (l[lowL lt x l]) x = false
 | [], h => by simp at h
 | y :: l, h => by
   have e := lowL_cons (lt := lt) x y l
   by_cases hy : lt y x = true
   . rw [if_pos hy] at e
     have h' : lowL lt x l < l.length := by rw [e] at h; simpa using h
     have := lowL_at x l h';simp only [e, List.getElem_cons_succ];exact this
   . rw [if_neg hy] at e
     simp only [e, List.getElem_cons_zero];simpa using hy
theorem putL_cons (x y : α) (l : List α) : putL lt x (y :: l) = if lt y x = true then y :: putL lt x l else x :: y :: l := by
 unfold putL;rw [lowL_cons];split <;> simp
theorem mem_putL (x z : α) (l : List α) : z ∈ putL lt x l ↔ z = x ∨ z ∈ l := by
 unfold putL;rw [List.mem_append, List.mem_cons];have := List.take_append_drop (lowL lt x l) l;constructor
 . rintro (h | h | h)
   . exact Or.inr (List.mem_of_mem_take h)
   . exact Or.inl h
   . exact Or.inr (List.mem_of_mem_drop h)
 . rintro (h | h)
   . exact Or.inr (Or.inl h)
   . rw [<- this, List.mem_append] at h
     rcases h with h | h
     . exact Or.inl h
     . exact Or.inr (Or.inr h)
theorem putL_asc (O : STO lt) (x : α) : ∀ (l : List α), AscL lt l -> x ∉ l -> AscL lt (putL lt x l)
 | [], _, _ => by simp [putL, AscL]
 | y :: l, h, hx => by
   unfold AscL at h;rw [List.pairwise_cons] at h;rw [putL_cons]
   by_cases hy : lt y x = true
   . rw [if_pos hy]
     unfold AscL;rw [List.pairwise_cons];refine ⟨fun z hz => ?_, putL_asc O x l h.2 (fun hh => hx (List.mem_cons_of_mem _ hh))⟩;rcases (mem_putL x z l).1 hz with rfl | hz
     . exact hy
     . exact h.1 z hz
   . rw [if_neg hy]
     have hxy : lt x y = true := by
      cases hh : lt x y with
      | true => rfl
      | false => exact absurd (O.tot _ _ hh (by simpa using hy)) (fun e => hx (by rw [e]; simp))
     unfold AscL;rw [List.pairwise_cons, List.pairwise_cons];refine ⟨fun z hz => ?_, h.1, h.2⟩;rcases List.mem_cons.1 hz with rfl | hz
     . exact hxy
     . exact O.tr _ _ _ hxy (h.1 z hz)
theorem asc_at (O : STO lt) (x : α) : ∀ (l : List α), AscL lt l -> x ∈ l -> ∃ h : lowL lt x l < l.length, l[lowL lt x l] = x
 | y :: l, ha, hx => by
   unfold AscL at ha;rw [List.pairwise_cons] at ha;have e := lowL_cons (lt := lt) x y l
   by_cases hy : lt y x = true
   . rw [if_pos hy] at e
     have hx' : x ∈ l := by
      rcases List.mem_cons.1 hx with rfl | h
      . rw [O.irr] at hy; cases hy
      . exact h
     obtain ⟨h, hg⟩ := asc_at O x l ha.2 hx';refine ⟨by rw [e]; simpa using h, ?_⟩;simp only [e, List.getElem_cons_succ];exact hg
   . rw [if_neg hy] at e
     have : y = x := by
      rcases List.mem_cons.1 hx with h | h
      . exact h.symm
      . exact absurd (ha.1 x h) hy
     exact ⟨by rw [e]; simp, by simp only [e, List.getElem_cons_zero]; exact this⟩
theorem asc_getElem {l : List α} (h : AscL lt l) {i j : Nat} (hi : i < l.length) (hj : j < l.length) (hij : i < j) : lt l[i] l[j] = true := List.pairwise_iff_getElem.1 h i j hi hj hij
theorem asc_nodup (O : STO lt) {l : List α} (h : AscL lt l) : l.Nodup := h.imp (by intro x y hxy e; subst e; rw [O.irr] at hxy; cases hxy)
theorem asc_filter {l : List α} (h : AscL lt l) (p : α -> Bool) : AscL lt (l.filter p) := h.sublist List.filter_sublist
end
theorem ltB_iff {a b : ByteArray} : ltB a b = true ↔ a.data.toList < b.data.toList := by unfold ltB; simp
theorem stoB : STO ltB where
 irr a := by
  cases h : ltB a a with
  | false => rfl
  | true => exact absurd (ltB_iff.1 h) (List.lt_irrefl _)
 tr a b c h1 h2 := ltB_iff.2 (List.lt_trans (ltB_iff.1 h1) (ltB_iff.1 h2))
 tot a b h1 h2 := ba_ext (List.le_antisymm (List.not_lt.1 fun h => by rw [ltB_iff.2 h] at h2; cases h2) (List.not_lt.1 fun h => by rw [ltB_iff.2 h] at h1; cases h1))
theorem stoE : STO lessE where
 irr a := by unfold lessE; rw [stoB.irr, stoB.irr]; simp
 tr a b c h1 h2 := by
  unfold lessE at *;simp only [Bool.or_eq_true, Bool.and_eq_true, decide_eq_true_eq] at *;rcases h1 with h1 | ⟨e1, h1⟩ <;> rcases h2 with h2 | ⟨e2, h2⟩
  . exact Or.inl (stoB.tr _ _ _ h1 h2)
  . exact Or.inl (e2 ▸ h1)
  . exact Or.inl (e1 ▸ h2)
  . exact Or.inr ⟨e1.trans e2, stoB.tr _ _ _ h1 h2⟩
 tot a b h1 h2 := by
  unfold lessE at *;simp only [Bool.or_eq_false_iff, Bool.and_eq_false_iff, decide_eq_false_iff_not] at *;have e1 := stoB.tot _ _ h1.1 h2.1;have h1' := h1.2.resolve_left (fun h => h e1);have h2' := h2.2.resolve_left (fun h => h e1.symm);exact Prod.ext e1 (stoB.tot _ _ h1' h2')
abbrev AscB (l : List ByteArray) : Prop := AscL ltB l
abbrev AscE (l : List Ed) : Prop := AscL lessE l
def insB (x : ByteArray) (l : List ByteArray) : List ByteArray := if hasS x l then l else putL ltB x l
def insE (e : Ed) (l : List Ed) : List Ed := if l[lowL lessE e l]? = some e then l else putL lessE e l
theorem insB_asc {x : ByteArray} {l : List ByteArray} (h : AscB l) : AscB (insB x l) := by
 unfold insB;split
 . exact h
 . exact putL_asc stoB x l h (fun hh => by rename_i hn; exact hn (hasS_iff.2 hh))
theorem mem_insB {x z : ByteArray} {l : List ByteArray} : z ∈ insB x l ↔ z = x ∨ z ∈ l := by
 unfold insB;split
 . rename_i h
   constructor
   . exact Or.inr
   . rintro (rfl | h')
     . exact hasS_iff.1 h
     . exact h'
 . exact mem_putL x z l
theorem mem_insE {e z : Ed} {l : List Ed} : z ∈ insE e l ↔ z = e ∨ z ∈ l := by
 unfold insE;split
 . rename_i h
   constructor
   . exact Or.inr
   . rintro (rfl | h')
     . exact List.mem_of_getElem? h
     . exact h'
 . exact mem_putL e z l
theorem insE_asc {e : Ed} {l : List Ed} (h : AscE l) : AscE (insE e l) := by
 unfold insE;split
 . exact h
 . rename_i hn
   refine putL_asc stoE e l h (fun hh => hn ?_);obtain ⟨hl, hg⟩ := asc_at stoE e l h hh;rw [List.getElem?_eq_getElem hl, hg]
def canB (l : List ByteArray) : List ByteArray := l.foldl (fun a x => insB x a) []
def canE (l : List Ed) : List Ed := l.foldl (fun a x => insE x a) []
theorem fold_insB (l : List ByteArray) : ∀ a, AscB a -> AscB (l.foldl (fun a x => insB x a) a) /\ ∀ z, z ∈ l.foldl (fun a x => insB x a) a ↔ z ∈ a ∨ z ∈ l := by
 induction l with
 | nil => intro a h; exact ⟨h, fun z => by simp⟩
 | cons x l ih =>
   intro a h;obtain ⟨h1, h2⟩ := ih (insB x a) (insB_asc h);refine ⟨h1, fun z => ?_⟩;rw [List.foldl_cons, h2, mem_insB, List.mem_cons];constructor
   . rintro ((h | h) | h)
     . exact Or.inr (Or.inl h)
     . exact Or.inl h
     . exact Or.inr (Or.inr h)
   . rintro (h | h | h)
     . exact Or.inl (Or.inr h)
     . exact Or.inl (Or.inl h)
     . exact Or.inr h
theorem fold_insE (l : List Ed) : ∀ a, AscE a -> AscE (l.foldl (fun a x => insE x a) a) /\ ∀ z, z ∈ l.foldl (fun a x => insE x a) a ↔ z ∈ a ∨ z ∈ l := by
 induction l with
 | nil => intro a h; exact ⟨h, fun z => by simp⟩
 | cons x l ih =>
   intro a h;obtain ⟨h1, h2⟩ := ih (insE x a) (insE_asc h);refine ⟨h1, fun z => ?_⟩;rw [List.foldl_cons, h2, mem_insE, List.mem_cons];constructor
   . rintro ((h | h) | h)
     . exact Or.inr (Or.inl h)
     . exact Or.inl h
     . exact Or.inr (Or.inr h)
   . rintro (h | h | h)
     . exact Or.inl (Or.inr h)
     . exact Or.inl (Or.inl h)
     . exact Or.inr h
theorem canB_asc (l : List ByteArray) : AscB (canB l) := (fold_insB l [] List.Pairwise.nil).1
theorem mem_canB {z : ByteArray} {l : List ByteArray} : z ∈ canB l ↔ z ∈ l := by unfold canB; rw [(fold_insB l [] List.Pairwise.nil).2]; simp
theorem canE_asc (l : List Ed) : AscE (canE l) := (fold_insE l [] List.Pairwise.nil).1
theorem mem_canE {z : Ed} {l : List Ed} : z ∈ canE l ↔ z ∈ l := by unfold canE; rw [(fold_insE l [] List.Pairwise.nil).2]; simp
theorem ascB_eq {a b : List ByteArray} (ha : AscB a) (hb : AscB b) (h : ∀ x, x ∈ a ↔ x ∈ b) : a = b := asc_uniq stoB ha hb h
theorem ascE_eq {a b : List Ed} (ha : AscE a) (hb : AscE b) (h : ∀ x, x ∈ a ↔ x ∈ b) : a = b := asc_uniq stoE ha hb h
theorem nodup_len {α : Type} [DecidableEq α] : ∀ {a b : List α}, a.Nodup -> (∀ x ∈ a, x ∈ b) -> a.length <= b.length
 | [], b, _, _ => by simp
 | x :: a, b, h, hs => by
   rw [List.nodup_cons] at h;have hx := hs x (by simp);have := nodup_len (a := a) (b := b.erase x) h.2 fun y hy => (List.mem_erase_of_ne (by rintro rfl; exact h.1 hy)).2 (hs y (List.mem_cons_of_mem _ hy));rw [List.length_erase_of_mem hx] at this;have := List.length_pos_of_mem hx;simp; omega
theorem canB_len (l : List ByteArray) : (canB l).length <= l.length := nodup_len (asc_nodup stoB (canB_asc l)) fun x hx => mem_canB.1 hx
theorem canE_len (l : List Ed) : (canE l).length <= l.length := nodup_len (asc_nodup stoE (canE_asc l)) fun x hx => mem_canE.1 hx
end Go.Proofs.YtpnogmicfomofaaGreatDoor
namespace Go.Proofs
def Tryz.lays106_ren : Go.Shelf.Ren := ⟨fun | 106 => 115 | 213 => 152 | 265 => 172 | n => n, fun | 9 => 9 | 3 => 3 | n => n, fun | n => n⟩
theorem Tryz.lays106 : Go.Proofs.Lays.n106 Tryz.prog Tryz.lays106_ren := {
 mixed := by kernel_rfl
 f106 := Tryz.func115.trans (congrArg some (by kernel_rfl))
 f213 := Tryz.func152.trans (congrArg some (by kernel_rfl))
 f265 := Tryz.func172.trans (congrArg some (by kernel_rfl))
 t3 := Tryz.underlying3
 a3 := Tryz.isAgg3
 z3 := Tryz.sizeOf3
 v3 := Tryz.zeroValue3
 t9 := Tryz.underlying9
 a9 := Tryz.isAgg9
 z9 := Tryz.sizeOf9
 v9 := Tryz.zeroValue9 }
open Go.RowKit in
theorem Tryz.strings_Compare (a b : ByteArray) (w : World) :
 Calls Tryz.prog 115 #[.string a, .string b] w fun e w' => e = .returned (.int .i64 (Lib.compareBytes a.data.toList b.data.toList)) /\ w' = w := Any.strings_Compare Tryz.lays106 a b w
def Tryz.lays190_ren : Go.Shelf.Ren := ⟨fun | 190 => 46 | 125 => 75 | 258 => 74 | 128 => 111 | 129 => 112 | 302 => 103 | 303 => 104 | 304 => 105 | 305 => 106 | 306 => 107 | 307 => 108 | 308 => 78 | 309 => 109 | 310 => 110 | 333 => 139 | 329 => 140 | 330 => 141 | 334 => 142 | 335 => 143 | 336 => 116 | 344 => 168 | n => n, fun | 31 => 27 | 9 => 9 | 3 => 3 | 46 => 108 | 0 => 0 | 51 => 155 | 53 => 157 | 4 => 4 | 183 => 149 | 182 => 148 | 131 => 79 | 5 => 5 | 218 => 185 | 222 => 189 | 228 => 202 | 229 => 200 | n => n, fun | n => n⟩
theorem Tryz.lays190 : Go.Proofs.Lays.n190 Tryz.prog Tryz.lays190_ren := {
 mixed := by kernel_rfl
 f125 := Tryz.func75.trans (congrArg some (by kernel_rfl))
 f128 := Tryz.func111.trans (congrArg some (by kernel_rfl))
 f129 := Tryz.func112.trans (congrArg some (by kernel_rfl))
 f190 := Tryz.func46.trans (congrArg some (by kernel_rfl))
 f258 := Tryz.func74.trans (congrArg some (by kernel_rfl))
 f302 := Tryz.func103.trans (congrArg some (by kernel_rfl))
 f303 := Tryz.func104.trans (congrArg some (by kernel_rfl))
 f304 := Tryz.func105.trans (congrArg some (by kernel_rfl))
 f305 := Tryz.func106.trans (congrArg some (by kernel_rfl))
 f306 := Tryz.func107.trans (congrArg some (by kernel_rfl))
 f307 := Tryz.func108.trans (congrArg some (by kernel_rfl))
 f308 := Tryz.func78.trans (congrArg some (by kernel_rfl))
 f309 := Tryz.func109.trans (congrArg some (by kernel_rfl))
 f310 := Tryz.func110.trans (congrArg some (by kernel_rfl))
 f329 := Tryz.func140.trans (congrArg some (by kernel_rfl))
 f330 := Tryz.func141.trans (congrArg some (by kernel_rfl))
 f333 := Tryz.func139.trans (congrArg some (by kernel_rfl))
 f334 := Tryz.func142.trans (congrArg some (by kernel_rfl))
 f335 := Tryz.func143.trans (congrArg some (by kernel_rfl))
 f336 := Tryz.func116.trans (congrArg some (by kernel_rfl))
 f344 := Tryz.func168.trans (congrArg some (by kernel_rfl))
 t0 := Tryz.underlying0
 a0 := Tryz.isAgg0
 z0 := Tryz.sizeOf0
 v0 := Tryz.zeroValue0
 t3 := Tryz.underlying3
 a3 := Tryz.isAgg3
 z3 := Tryz.sizeOf3
 v3 := Tryz.zeroValue3
 t4 := Tryz.underlying4
 a4 := Tryz.isAgg4
 z4 := Tryz.sizeOf4
 v4 := Tryz.zeroValue4
 t5 := Tryz.underlying5
 a5 := Tryz.isAgg5
 z5 := Tryz.sizeOf5
 v5 := Tryz.zeroValue5
 t9 := Tryz.underlying9
 a9 := Tryz.isAgg9
 z9 := Tryz.sizeOf9
 v9 := Tryz.zeroValue9
 t31 := Tryz.underlying27
 a31 := Tryz.isAgg27
 z31 := Tryz.sizeOf27
 v31 := Tryz.zeroValue27
 t46 := Tryz.underlying108
 a46 := Tryz.isAgg108
 z46 := Tryz.sizeOf108
 v46 := Tryz.zeroValue108
 t51 := Tryz.underlying155
 a51 := Tryz.isAgg155
 z51 := Tryz.sizeOf155
 v51 := Tryz.zeroValue155
 t53 := Tryz.underlying157
 a53 := Tryz.isAgg157
 z53 := Tryz.sizeOf157
 v53 := Tryz.zeroValue157
 t131 := Tryz.underlying79
 a131 := Tryz.isAgg79
 z131 := Tryz.sizeOf79
 v131 := Tryz.zeroValue79
 t182 := Tryz.underlying148
 a182 := Tryz.isAgg148
 z182 := Tryz.sizeOf148
 v182 := Tryz.zeroValue148
 t183 := Tryz.underlying149
 a183 := Tryz.isAgg149
 z183 := Tryz.sizeOf149
 v183 := Tryz.zeroValue149
 t218 := Tryz.underlying185
 a218 := Tryz.isAgg185
 z218 := Tryz.sizeOf185
 v218 := Tryz.zeroValue185
 t222 := Tryz.underlying189
 a222 := Tryz.isAgg189
 z222 := Tryz.sizeOf189
 v222 := Tryz.zeroValue189
 t228 := Tryz.underlying202
 a228 := Tryz.isAgg202
 z228 := Tryz.sizeOf202
 v228 := Tryz.zeroValue202
 t229 := Tryz.underlying200
 a229 := Tryz.isAgg200
 z229 := Tryz.sizeOf200
 v229 := Tryz.zeroValue200 }
open Go.Sort Go.RowKit in
theorem Tryz.slices_Sort_string (blk off cap : Nat) (ss : List (List UInt8)) (w : World) (hH : Holds encStr w blk off ss.toArray) (hblk : blk < w.heap.size) (hsz : ss.length < 4611686018427387904) :
 Calls Tryz.prog 46 #[.slice (some ⟨blk, off, none⟩) ss.length cap] w fun e w' =>
  e = .returned (.tuple #[]) /\ ∃ n os, w' = grow (putRow encStr (Sort.ahead w n) blk off (ss.mergeSort fun x y => decide (x <= y)).toArray) os := Any.slices_Sort_string Tryz.lays190 blk off cap ss w hH hblk hsz
def Tryz.laysNm216_ren : Go.Shelf.Ren := ⟨fun | 16 => 45 | n => n, fun | 24 => 27 | 9 => 9 | 4 => 4 | n => n, fun | n => n⟩
theorem Tryz.laysNm216 : Go.Proofs.Lays2.n16 Tryz.prog Tryz.laysNm216_ren := {
 mixed := by kernel_rfl
 f16 := Tryz.func45.trans (congrArg some (by kernel_rfl))
 t4 := Tryz.underlying4
 a4 := Tryz.isAgg4
 z4 := Tryz.sizeOf4
 v4 := Tryz.zeroValue4
 t9 := Tryz.underlying9
 a9 := Tryz.isAgg9
 z9 := Tryz.sizeOf9
 v9 := Tryz.zeroValue9
 t24 := Tryz.underlying27
 a24 := Tryz.isAgg27
 z24 := Tryz.sizeOf27
 v24 := Tryz.zeroValue27
 i9 := by kernel_rfl }
open Go.RowKit Go.Lib in
theorem Tryz.slices_Clone_string (b off n c : Nat) (zs : List ByteArray) (w : World) (hz : n <= zs.length) (hbig : n * 16 <= 140737488355328) (hc : ∀ j, j < zs.length -> w.cell? ⟨b, off + j, none⟩ = some (.string (zs.getD j ByteArray.empty))) :
 Calls Tryz.prog 45 #[.slice (some ⟨b, off, none⟩) n c] w fun e w' => ∃ v', e = .returned v' /\ w'.ownsRow w.heap.size 9 1 v' n ((zs.take n).map (Value.string)) /\ v' ≠ .slice none 0 0 /\ Below w.heap.size w w' := Any.slices_Clone_string Tryz.laysNm216 b off n c zs w hz hbig hc
open Go.RowKit Go.Lib in
theorem Tryz.slices_Clone_string_nil (n c : Nat) (w : World) :
 Calls Tryz.prog 45 #[.slice none n c] w fun e w' => e = .returned (.slice none 0 0) /\ w' = w := Any.slices_Clone_string_nil Tryz.laysNm216 n c w
open Go.RowKit Go.Lib in
theorem Tryz.slices_Clone_string_zero (a : Addr) (c : Nat) (w : World) :
 Calls Tryz.prog 45 #[.slice (some a) 0 c] w fun e w' => ∃ v', e = .returned v' /\ w'.ownsRow w.heap.size 9 1 v' 0 [] /\ v' ≠ .slice none 0 0 /\ Below w.heap.size w w' := Any.slices_Clone_string_zero Tryz.laysNm216 a c w
def Tryz.lays194_ren : Go.Shelf.Ren := ⟨fun | 194 => 47 | n => n, fun | 31 => 27 | 9 => 9 | 3 => 3 | 4 => 4 | 0 => 0 | n => n, fun | n => n⟩
theorem Tryz.lays194 : Go.Proofs.Lays.n194 Tryz.prog Tryz.lays194_ren := {
 mixed := by kernel_rfl
 f194 := Tryz.func47.trans (congrArg some (by kernel_rfl))
 t0 := Tryz.underlying0
 a0 := Tryz.isAgg0
 z0 := Tryz.sizeOf0
 v0 := Tryz.zeroValue0
 t3 := Tryz.underlying3
 a3 := Tryz.isAgg3
 z3 := Tryz.sizeOf3
 v3 := Tryz.zeroValue3
 t4 := Tryz.underlying4
 a4 := Tryz.isAgg4
 z4 := Tryz.sizeOf4
 v4 := Tryz.zeroValue4
 t9 := Tryz.underlying9
 a9 := Tryz.isAgg9
 z9 := Tryz.sizeOf9
 v9 := Tryz.zeroValue9
 t31 := Tryz.underlying27
 a31 := Tryz.isAgg27
 z31 := Tryz.sizeOf27
 v31 := Tryz.zeroValue27 }
open Go.RowKit Go.Lib Go.Sort in
theorem Tryz.slices_Compact_string (blk off cap : Nat) (zs : List (List UInt8)) (w : World) (hH : Holds encStr w blk off zs.toArray) (hsz : zs.length <= 9223372036854775807) (hcap : zs.length <= cap) :
 Calls Tryz.prog 47 #[.slice (some ⟨blk, off, none⟩) zs.length cap] w fun e w' => e = .returned (.slice (some ⟨blk, off, none⟩) (Lib.compact zs).length cap) /\ ∃ q, w' = putRow encStr (Sort.ahead w q) blk off (Lib.compact zs ++ List.replicate (zs.length - (Lib.compact zs).length) []).toArray := Any.slices_Compact_string Tryz.lays194 blk off cap zs w hH hsz hcap
open Go.RowKit Go.Lib Go.Sort in
theorem Tryz.slices_Compact_string_empty (a : Option Addr) (cap : Nat) (w : World) :
 Calls Tryz.prog 47 #[.slice a 0 cap] w fun e w' => e = .returned (.slice a 0 cap) /\ w' = w := Any.slices_Compact_string_empty Tryz.lays194 a cap w
def Tryz.laysNm224_ren : Go.Shelf.Ren := ⟨fun | 24 => 52 | n => n, fun | 24 => 27 | 9 => 9 | 3 => 3 | 4 => 4 | 0 => 0 | n => n, fun | n => n⟩
theorem Tryz.laysNm224 : Go.Proofs.Lays2.n24 Tryz.prog Tryz.laysNm224_ren := {
 mixed := by kernel_rfl
 f24 := Tryz.func52.trans (congrArg some (by kernel_rfl))
 t0 := Tryz.underlying0
 a0 := Tryz.isAgg0
 z0 := Tryz.sizeOf0
 v0 := Tryz.zeroValue0
 t3 := Tryz.underlying3
 a3 := Tryz.isAgg3
 z3 := Tryz.sizeOf3
 v3 := Tryz.zeroValue3
 t4 := Tryz.underlying4
 a4 := Tryz.isAgg4
 z4 := Tryz.sizeOf4
 v4 := Tryz.zeroValue4
 t9 := Tryz.underlying9
 a9 := Tryz.isAgg9
 z9 := Tryz.sizeOf9
 v9 := Tryz.zeroValue9
 t24 := Tryz.underlying27
 a24 := Tryz.isAgg27
 z24 := Tryz.sizeOf27
 v24 := Tryz.zeroValue27
 i9 := by kernel_rfl }
open Go.RowKit Go.Lib Go.Sort in
theorem Tryz.slices_Delete_string (blk off cap i j : Nat) (zs : List (List UInt8)) (w : World) (hH : Holds encStr w blk off zs.toArray) (hcap : zs.length <= cap) (hm : cap <= 9223372036854775807) (hij : i <= j) (hj : j <= zs.length) :
 Calls Tryz.prog 52 #[.slice (some ⟨blk, off, none⟩) zs.length cap, .int .i64 i, .int .i64 j] w fun e w' => e = .returned (.slice (some ⟨blk, off, none⟩) (zs.length - (j - i)) cap) /\ ∃ q, w' = putRow encStr (Sort.ahead w q) blk off (zs.take i ++ zs.drop j ++ List.replicate (j - i) []).toArray := Any.slices_Delete_string Tryz.laysNm224 blk off cap i j zs w hH hcap hm hij hj
open Go.RowKit Go.Sort in
theorem Tryz.slices_Sort_string_none (p : Option Addr) (cap : Nat) (w : World) :
 Calls Tryz.prog 46 #[.slice p 0 cap] w fun e w' => e = .returned (.tuple #[]) /\ w' = w := Any.slices_Sort_string_none Tryz.lays190 p cap w
def Tryz.laysB26_ren : Go.Shelf.Ren := ⟨fun | 26 => 53 | 33 => 78 | 34 => 79 | 38 => 116 | n => n, fun | 24 => 27 | 9 => 9 | 3 => 3 | 4 => 4 | 40 => 108 | 0 => 0 | n => n, fun | n => n⟩
theorem Tryz.laysB26 : Go.Proofs.Lays2.n26 Tryz.prog Tryz.laysB26_ren := {
 mixed := by kernel_rfl
 f26 := Tryz.func53.trans (congrArg some (by kernel_rfl))
 f33 := Tryz.func78.trans (congrArg some (by kernel_rfl))
 f34 := Tryz.func79.trans (congrArg some (by kernel_rfl))
 f38 := Tryz.func116.trans (congrArg some (by kernel_rfl))
 t0 := Tryz.underlying0
 a0 := Tryz.isAgg0
 z0 := Tryz.sizeOf0
 v0 := Tryz.zeroValue0
 t3 := Tryz.underlying3
 a3 := Tryz.isAgg3
 z3 := Tryz.sizeOf3
 v3 := Tryz.zeroValue3
 t4 := Tryz.underlying4
 a4 := Tryz.isAgg4
 z4 := Tryz.sizeOf4
 v4 := Tryz.zeroValue4
 t9 := Tryz.underlying9
 a9 := Tryz.isAgg9
 z9 := Tryz.sizeOf9
 v9 := Tryz.zeroValue9
 t24 := Tryz.underlying27
 a24 := Tryz.isAgg27
 z24 := Tryz.sizeOf27
 v24 := Tryz.zeroValue27
 t40 := Tryz.underlying108
 a40 := Tryz.isAgg108
 z40 := Tryz.sizeOf108
 v40 := Tryz.zeroValue108 }
end Go.Proofs
namespace Go.Proofs
open Go.Shelf
def Tryz.sortE_ren : Go.Shelf.Ren := ⟨fun | 6 => 76 | 15 => 75 | 14 => 113 | 28 => 111 | 29 => 112 | 20 => 144 | 21 => 145 | 22 => 146 | 23 => 147 | 24 => 148 | 25 => 149 | 26 => 150 | 27 => 151 | 46 => 169 | 47 => 140 | 48 => 141 | 49 => 170 | 50 => 171 | 57 => 195 | n => n, fun | 22 => 54 | 24 => 64 | 25 => 131 | 3 => 3 | 39 => 108 | 0 => 0 | 53 => 155 | 55 => 157 | 4 => 4 | 46 => 149 | 45 => 148 | 50 => 79 | 5 => 5 | 9 => 9 | 66 => 185 | 70 => 189 | 76 => 202 | 77 => 200 | n => n, fun | n => n⟩
theorem Tryz.sortE : Go.Proofs.SlLaysF0.n6 Tryz.prog Tryz.sortE_ren := {
 mixed := by kernel_rfl
 f6 := ⟨Tryz.f76.name, by decide, Tryz.func76.trans (congrArg some (by kernel_rfl))⟩
 f14 := ⟨Tryz.f113.name, by decide, Tryz.func113.trans (congrArg some (by kernel_rfl))⟩
 f15 := Tryz.func75.trans (congrArg some (by kernel_rfl))
 f20 := ⟨Tryz.f144.name, by decide, Tryz.func144.trans (congrArg some (by kernel_rfl))⟩
 f21 := ⟨Tryz.f145.name, by decide, Tryz.func145.trans (congrArg some (by kernel_rfl))⟩
 f22 := ⟨Tryz.f146.name, by decide, Tryz.func146.trans (congrArg some (by kernel_rfl))⟩
 f23 := ⟨Tryz.f147.name, by decide, Tryz.func147.trans (congrArg some (by kernel_rfl))⟩
 f24 := ⟨Tryz.f148.name, by decide, Tryz.func148.trans (congrArg some (by kernel_rfl))⟩
 f25 := ⟨Tryz.f149.name, by decide, Tryz.func149.trans (congrArg some (by kernel_rfl))⟩
 f26 := ⟨Tryz.f150.name, by decide, Tryz.func150.trans (congrArg some (by kernel_rfl))⟩
 f27 := ⟨Tryz.f151.name, by decide, Tryz.func151.trans (congrArg some (by kernel_rfl))⟩
 f28 := Tryz.func111.trans (congrArg some (by kernel_rfl))
 f29 := Tryz.func112.trans (congrArg some (by kernel_rfl))
 f46 := ⟨Tryz.f169.name, by decide, Tryz.func169.trans (congrArg some (by kernel_rfl))⟩
 f47 := Tryz.func140.trans (congrArg some (by kernel_rfl))
 f48 := Tryz.func141.trans (congrArg some (by kernel_rfl))
 f49 := ⟨Tryz.f170.name, by decide, Tryz.func170.trans (congrArg some (by kernel_rfl))⟩
 f50 := ⟨Tryz.f171.name, by decide, Tryz.func171.trans (congrArg some (by kernel_rfl))⟩
 f57 := ⟨Tryz.f195.name, by decide, Tryz.func195.trans (congrArg some (by kernel_rfl))⟩
 t0 := Tryz.underlying0
 a0 := Tryz.isAgg0
 z0 := Tryz.sizeOf0
 v0 := Tryz.zeroValue0
 t3 := Tryz.underlying3
 a3 := Tryz.isAgg3
 z3 := Tryz.sizeOf3
 v3 := Tryz.zeroValue3
 t4 := Tryz.underlying4
 a4 := Tryz.isAgg4
 z4 := Tryz.sizeOf4
 v4 := Tryz.zeroValue4
 t5 := Tryz.underlying5
 a5 := Tryz.isAgg5
 z5 := Tryz.sizeOf5
 v5 := Tryz.zeroValue5
 t9 := Tryz.underlying9
 a9 := Tryz.isAgg9
 z9 := Tryz.sizeOf9
 v9 := Tryz.zeroValue9
 t22 := Tryz.underlying54
 a22 := Tryz.isAgg54
 z22 := Tryz.sizeOf54
 v22 := Tryz.zeroValue54
 t25 := Tryz.underlying131
 a25 := Tryz.isAgg131
 z25 := Tryz.sizeOf131
 v25 := Tryz.zeroValue131
 t39 := Tryz.underlying108
 a39 := Tryz.isAgg108
 z39 := Tryz.sizeOf108
 v39 := Tryz.zeroValue108
 t45 := Tryz.underlying148
 a45 := Tryz.isAgg148
 z45 := Tryz.sizeOf148
 v45 := Tryz.zeroValue148
 t46 := Tryz.underlying149
 a46 := Tryz.isAgg149
 z46 := Tryz.sizeOf149
 v46 := Tryz.zeroValue149
 t50 := Tryz.underlying79
 a50 := Tryz.isAgg79
 z50 := Tryz.sizeOf79
 v50 := Tryz.zeroValue79
 t53 := Tryz.underlying155
 a53 := Tryz.isAgg155
 z53 := Tryz.sizeOf155
 v53 := Tryz.zeroValue155
 t55 := Tryz.underlying157
 a55 := Tryz.isAgg157
 z55 := Tryz.sizeOf157
 v55 := Tryz.zeroValue157
 t66 := Tryz.underlying185
 a66 := Tryz.isAgg185
 z66 := Tryz.sizeOf185
 v66 := Tryz.zeroValue185
 t70 := Tryz.underlying189
 a70 := Tryz.isAgg189
 z70 := Tryz.sizeOf189
 v70 := Tryz.zeroValue189
 t76 := Tryz.underlying202
 a76 := Tryz.isAgg202
 z76 := Tryz.sizeOf202
 v76 := Tryz.zeroValue202
 t77 := Tryz.underlying200
 a77 := Tryz.isAgg200
 z77 := Tryz.sizeOf200
 v77 := Tryz.zeroValue200 }
end Go.Proofs
namespace Go.Proofs.YtpnogmicfomofaaGreatDoor
open Go.RowKit Go.Sort Go.Lib
open Go.Lib (hid)
def cmpS (a b : ByteArray) : Int := if a.data.toList < b.data.toList then -1 else if b.data.toList < a.data.toList then 1 else 0
def Tri (x : Int) : Prop := x = -1 ∨ x = 0 ∨ x = 1
theorem cmpS_tri (a b : ByteArray) : Tri (cmpS a b) := by unfold cmpS Tri; split <;> (try split) <;> simp
theorem cmpS_self (a : ByteArray) : cmpS a a = 0 := by unfold cmpS; have := List.lt_irrefl a.data.toList; simp [this]
theorem cmpS_zero {a b : ByteArray} : cmpS a b = 0 ↔ a = b := by
 constructor
 . intro h
   unfold cmpS at h;split at h
   . omega
   . split at h
     . omega
     . rename_i h1 h2
       exact ba_ext (List.le_antisymm (List.not_lt.1 h2) (List.not_lt.1 h1))
 . rintro rfl; exact cmpS_self a
theorem cmpB_list : ∀ (a b : List UInt8), compareBytes a b = if a < b then -1 else if b < a then 1 else 0
 | [], [] => by simp [compareBytes]
 | [], _ :: _ => by simp [compareBytes]
 | _ :: _, [] => by simp [compareBytes]
 | x :: a, y :: b => by
   rw [compareBytes, cmpB_list a b];simp only [List.cons_lt_cons_iff]
   by_cases h1 : x < y
   . rw [if_pos h1, if_pos (.inl h1)]
   . rw [if_neg h1]
     by_cases h2 : y < x
     . have hne : x ≠ y := fun e => h1 (by rw [e] at h2 ⊢; exact h2)
       rw [if_pos h2, if_neg (fun h => h.elim h1 fun h => hne h.1), if_pos (.inl h2)]
     . rw [if_neg h2]
       have e : x = y := UInt8.le_antisymm (UInt8.not_lt.1 h2) (UInt8.not_lt.1 h1);subst e
       by_cases h3 : a < b
       . rw [if_pos h3, if_pos (.inr ⟨rfl, h3⟩)]
       . have e1 : ¬ (x < x ∨ x = x /\ a < b) := fun h => h.elim h1 fun h => h3 h.2
         rw [if_neg h3, if_neg (c := x < x ∨ x = x /\ a < b) e1]
         by_cases h4 : b < a
         . rw [if_pos h4, if_pos (.inr ⟨rfl, h4⟩)]
         . rw [if_neg h4, if_neg (fun h => h.elim h1 fun h => h4 h.2)]
theorem cmpS_bytes (a b : ByteArray) : compareBytes a.data.toList b.data.toList = cmpS a b := cmpB_list _ _
theorem scmp_any (a b : ByteArray) (w : World) : Calls Tryz.prog 115 #[.string a, .string b] w fun e w' => e = .returned (.int .i64 (cmpS a b)) /\ w = w' := by
 rw [<- cmpS_bytes];exact (Tryz.strings_Compare a b w).mono fun e w' ⟨h1, h2⟩ => ⟨h1, h2.symm⟩
def fstNZ : List Int -> Int
 | [] => 0
 | x :: xs => if x ≠ 0 then x else fstNZ xs
theorem fstNZ_stop {xs : List Int} {k : Nat} (h : k < xs.length) (hz : ∀ i (hi : i < xs.length), i < k -> xs[i] = 0) (hx : xs[k] ≠ 0) : fstNZ xs = xs[k] := by
 induction xs generalizing k with
 | nil => simp at h
 | cons x xs ih =>
   cases k with
   | zero => rw [fstNZ, if_pos (show x ≠ 0 from hx)]; rfl
   | succ k =>
     have h0 : x = 0 := hz 0 (by simp) (by omega);rw [fstNZ, if_neg (by simpa using h0)];exact ih (by simpa using h) (fun i hi hik => hz (i + 1) (by simpa using hi) (by omega)) hx
theorem fstNZ_zero {xs : List Int} (hz : ∀ i (hi : i < xs.length), xs[i] = 0) : fstNZ xs = 0 := by
 induction xs with
 | nil => rfl
 | cons x xs ih =>
   have h0 : x = 0 := hz 0 (by simp);rw [fstNZ, if_neg (by simpa using h0)];exact ih fun i hi => hz (i + 1) (by simpa using hi)
theorem int_at {w : World} {r : Option Addr} {n c : Nat} {xs : List Int} (h : Sl IntR 1 w (.slice r n c) xs) (i : Nat) (hi : i < xs.length) :
  ∃ b off, r = some ⟨b, off, none⟩ /\ b < w.heap.size /\ w.cell? ⟨b, off + i, none⟩ = some (.int .i64 xs[i]) /\ -9223372036854775808 <= xs[i] /\ xs[i] <= 9223372036854775807 := by
 obtain ⟨r', c', e, h1, h2, he⟩ := h;simp at e;obtain ⟨rfl, rfl, rfl⟩ := e;obtain ⟨b, off, cs, hr, _, hc, hR, hs⟩ := he i hi;have g0 := hc 0 _ hR;simp only [Nat.add_zero, Nat.mul_one] at g0;exact ⟨b, off, hr, World.block_lt_of_cell? w _ g0, g0, hs⟩
set_option maxRecDepth 100000 in
theorem or_any (xs : List Int) (r : Option Addr) (c : Nat) (w : World) (h : Sl IntR 1 w (.slice r xs.length c) xs) :
  Calls Tryz.prog 114 #[.slice r xs.length c] w fun e w' => e = .returned (.int .i64 (fstNZ xs)) /\ w = w' := by
 obtain ⟨_, hlc, hcm⟩ := sl_len h;have HI := hid h;clear h;go_enter Tryz.func114, Tryz.ntmps114;go_wp2
 go_loopg [8] xs.length (fun gg s8 wr => ∃ k : Nat, k <= xs.length /\ xs.length - k <= gg /\ s8 = .int .i64 k /\ Aside (w = wr) /\ Aside (∀ i (hi : i < xs.length), i < k -> xs[i] = 0))
 case atStart => exact ⟨0, Nat.zero_le _, by omega, rfl, rfl, fun i _ h => absurd h (by omega)⟩
 case round =>
  obtain ⟨k, hk, hg, rfl, BW, AL⟩ := hrel;obtain rfl : w = wr := BW.out
  by_cases hlt : k < xs.length
  case pos =>
   have hltz : (k : Int) < (xs.length : Int) := by omega
   obtain ⟨b, off, rfl, hb, g0, _, _⟩ := int_at HI.out k hlt
   by_cases hz : xs[k] = 0
   . have AL2 := hid (show ∀ i (hi : i < xs.length), i < k + 1 -> xs[i] = 0 from fun i hi hik => by
      by_cases e : i < k
      . exact AL.out i hi e
      . obtain rfl : i = k := by omega
        exact hz)
     rw [hz] at g0;clear AL hz BW;go_wp2
     go_roundg (xs.length - (k + 1))
     case measure => omega
     case rel => exact ⟨k + 1, by omega, by omega, by go_num, rfl, AL2.out⟩
   . have HF := hid (fstNZ_stop hlt AL.out hz)
     generalize xs[k] = y at *;have e1 : (y != 0) = true := by simpa using hz
     have e2 : (y == 0) = false := by simpa using hz
     clear AL hz BW;go_wp2
     go_ret
     exact ⟨ret_int HF.out, rfl⟩
  case neg =>
   have hltz : ¬ (k : Int) < (xs.length : Int) := by omega
   have HF := hid (fstNZ_zero (xs := xs) fun i hi => AL.out i hi (by omega));clear AL BW;go_wp2
   go_ret
   exact ⟨ret_int HF.out, rfl⟩
theorem sl_two {w : World} {B T : Nat} {a b : Int} (h : w.heap[B]? = some (.cells #[.int .i64 a, .int .i64 b] T (0, 0))) (ha : -9223372036854775808 <= a /\ a <= 9223372036854775807) (hb : -9223372036854775808 <= b /\ b <= 9223372036854775807) :
  Sl IntR 1 w (.slice (some ⟨B, 0, none⟩) 2 2) [a, b] := by
 refine ⟨some ⟨B, 0, none⟩, 2, rfl, by simp, by simp [maxLen], fun i hi => ⟨B, 0, [.int .i64 ([a, b][i])], rfl, rfl, fun j u hj => ?_, rfl, ?_⟩⟩
 . cases j with
   | zero =>
     simp at hj; subst hj;unfold World.cell?;simp only [h];simp at hi;rcases (show i = 0 ∨ i = 1 by omega) with rfl | rfl <;> rfl
   | succ j => simp at hj
 . simp at hi
   rcases (show i = 0 ∨ i = 1 by omega) with rfl | rfl
   . exact ha
   . exact hb
def cmpE (a b : Ed) : Int := fstNZ [cmpS a.1 b.1, cmpS a.2 b.2]
theorem cmpS_lt {a b : ByteArray} : cmpS a b < 0 ↔ ltB a b = true := by
 rw [ltB_iff];unfold cmpS
 by_cases h1 : a.data.toList < b.data.toList
 . simp [h1]
 . rw [if_neg h1]
   by_cases h2 : b.data.toList < a.data.toList <;> simp [h1, h2]
theorem cmpE_lt {a b : Ed} : cmpE a b < 0 ↔ lessE a b = true := by
 unfold cmpE lessE fstNZ fstNZ fstNZ;simp only [Bool.or_eq_true, Bool.and_eq_true, decide_eq_true_eq, <- cmpS_lt]
 by_cases h : cmpS a.1 b.1 = 0
 . have := cmpS_zero.1 h
   rw [if_neg (by simpa using h)]
   by_cases h2 : cmpS a.2 b.2 = 0
   . rw [if_neg (by simpa using h2)]
     constructor
     . intro hh; omega
     . rintro (hh | ⟨_, hh⟩) <;> omega
   . rw [if_pos h2]
     constructor
     . intro hh; exact Or.inr ⟨this, hh⟩
     . rintro (hh | ⟨_, hh⟩)
       . omega
       . exact hh
 . rw [if_pos h]
   have : a.1 ≠ b.1 := fun e => h (cmpS_zero.2 e);simp [this]
theorem cmpE_eq (a b : Ed) : ltOf cmpE a b = lessE a b := by
 unfold ltOf;rw [Bool.eq_iff_iff, decide_eq_true_eq]; exact cmpE_lt
set_option maxRecDepth 100000 in
set_option maxHeartbeats 4000000 in
theorem compare_any (a b : Ed) (w : World) :
  Calls Tryz.prog 77 #[.agg (encE a).toArray, .agg (encE b).toArray] w fun e w' => e = .returned (.int .i64 (cmpE a b)) /\ ∃ q os, w' = grow (w.drewN q) os := by
 obtain ⟨a1, a2⟩ := a;obtain ⟨b1, b2⟩ := b;have CS1 := hid (fun W => scmp_any a1 b1 W);have CS2 := hid (fun W => scmp_any a2 b2 W);have TA := hid (show -9223372036854775808 <= cmpS a1 b1 /\ cmpS a1 b1 <= 9223372036854775807 by have := cmpS_tri a1 b1; unfold Tri at this; omega);have TB := hid (show -9223372036854775808 <= cmpS a2 b2 /\ cmpS a2 b2 <= 9223372036854775807 by have := cmpS_tri a2 b2; unfold Tri at this; omega);have HR := hid (show cmpE (a1, a2) (b1, b2) = fstNZ [cmpS a1 b1, cmpS a2 b2] from rfl);generalize cmpE (a1, a2) (b1, b2) = R at *;generalize cmpS a1 b1 = A at *;generalize cmpS a2 b2 = B at *;show Calls Tryz.prog 77 #[.agg #[.string a1, .string a2], .agg #[.string b1, .string b2]] w _;go_enter Tryz.func77, Tryz.ntmps77;go_wp2
 generalize hW0 : ((w.alloc (.cells #[.string a1, .string a2] 64)).alloc (.cells #[.string b1, .string b2] 64)) = W0 at *;have z0 : W0.cell? ⟨w.heap.size, 0, none⟩ = some (.string a1) := by rw [<- hW0]; exact (bget ((Below.refl _ _).alloc (Nat.le_refl _) _) (cell_at rfl rfl))
 have z1 : W0.cell? ⟨w.heap.size, 1, none⟩ = some (.string a2) := by rw [<- hW0]; exact (bget ((Below.refl _ _).alloc (Nat.le_refl _) _) (cell_at rfl rfl))
 have z2 : W0.cell? ⟨w.heap.size + 1, 0, none⟩ = some (.string b1) := by rw [<- hW0]; exact cell_at (by simp) rfl
 have z3 : W0.cell? ⟨w.heap.size + 1, 1, none⟩ = some (.string b2) := by rw [<- hW0]; exact cell_at (by simp) rfl
 have HW := hid hW0;clear hW0
 go_region_held3 (fun w' => w'.cell? ⟨w.heap.size, 0, none⟩ = some (.string a1) /\ w'.cell? ⟨w.heap.size, 1, none⟩ = some (.string a2) /\ w'.cell? ⟨w.heap.size + 1, 0, none⟩ = some (.string b1) /\ w'.cell? ⟨w.heap.size + 1, 1, none⟩ = some (.string b2))
  (go_keep)
  (first | (go_at_call 115; first | (refine (CS1.out _).mono ?_; rintro e w1 ⟨rfl, rfl⟩) | (refine (CS2.out _).mono ?_; rintro e w1 ⟨rfl, rfl⟩)) | (go_at_call 114; refine (or_any [A, B] _ _ _ (sl_two (by exact (MapKept.heap_alloc W0 _).1) TA.out TB.out)).mono ?_; rintro e w1 ⟨rfl, rfl⟩; rw [<- HR.out]))
 all_goals
  go_wp2
  go_ret
  refine ⟨rfl, 1, #[.cells #[.string a1, .string a2] 64, .cells #[.string b1, .string b2] 64, .cells #[.int .i64 A, .int .i64 B] 3], ?_⟩;rw [<- HW.out];simp only [alloc_eq_grow, grow_grow];rfl
end Go.Proofs.YtpnogmicfomofaaGreatDoor
namespace Go.Proofs.YtpnogmicfomofaaGreatDoor
open Go.RowKit Go.Sort Go.Lib Go.Maps
open Go.Lib (hid)
abbrev GEd := {e : Ed // e.1.size <= maxLen /\ e.2.size <= maxLen}
def edVal (e : GEd) : Value := .agg (encE e.1).toArray
def edLit (e : GEd) : Lit := .string (keyBytes [.string e.1.1.data.toList, .string e.1.2.data.toList])
theorem laidOut : laidOutB Tryz.prog = true := by kernel_rfl
theorem kwide : (match Tryz.prog.underlying 64 with | some (.array _ _) | some (.struct _) => true | _ => false) = true := by rw [Tryz.underlying64]
theorem krow : (64 : TypeId) < Tryz.prog.types.size := of_decide_eq_true (by kernel_rfl)
theorem kty2 : Tryz.prog.keyTypeAt 2 64 = true := by kernel_rfl
set_option maxRecDepth 100000 in
theorem klaw : WideMaps.KeyLaw Tryz.prog 64 := deep_law_laid laidOut (m := 2) (by omega) krow kty2 kwide
theorem kcells : Tryz.prog.cellsOf 64 = 2 := by kernel_rfl
theorem kcell1 : Tryz.prog.cellsOf 9 = 1 := by kernel_rfl
theorem ktype : Tryz.prog.keyType 64 = true := by kernel_rfl
theorem lits_ed (n : Nat) (c0 c1 : Value) : Tryz.prog.keyLits (n + 2) 64 [c0, c1] = (do let a <- Tryz.prog.keyLits (n + 1) 9 [c0]; let b <- Tryz.prog.keyLits (n + 1) 9 [c1]; some (a ++ b)) := by
 conv => lhs; unfold Program.keyLits
 simp [Tryz.underlying64, kcells, kcell1];cases Tryz.prog.keyLits (n + 1) 9 [c0] with
 | none => simp
 | some a =>
   cases Tryz.prog.keyLits (n + 1) 9 [c1] with
   | none => simp
   | some b => simp
theorem lits_str (n : Nat) (s : ByteArray) (h : s.size <= maxLen) : Tryz.prog.keyLits (n + 1) 9 [.string s] = some [.string s.data.toList] := by
 conv => lhs; unfold Program.keyLits
 simp [Tryz.underlying9, h]
theorem lits_str_inv (n : Nat) (c : Value) (L : List Lit) (h : Tryz.prog.keyLits (n + 1) 9 [c] = some L) : ∃ s, c = .string s /\ s.size <= maxLen /\ L = [.string s.data.toList] := by
 unfold Program.keyLits at h;simp only [Tryz.underlying9] at h;cases c <;> simp at h
 exact ⟨_, rfl, h.1, h.2.symm⟩
theorem keyOf_ed (e : GEd) : keyOf Tryz.prog 64 (edVal e) = some (edLit e) := by
 obtain ⟨⟨a, b⟩, ha, hb⟩ := e;have hn : ∃ n, Tryz.prog.types.size + 1 = n + 2 := ⟨Tryz.prog.types.size - 1, by have : 0 < Tryz.prog.types.size := of_decide_eq_true (by kernel_rfl); omega⟩;obtain ⟨n, hn⟩ := hn;have hf : (edVal ⟨(a, b), ha, hb⟩).formed Tryz.prog 64 = true := by simp [edVal, encE, Value.formed, Tryz.underlying64, kcells]
 unfold keyOf;rw [Tryz.underlying64];simp only [ktype, hf, Bool.and_self, if_true];show (Tryz.prog.keyLits (Tryz.prog.types.size + 1) 64 [.string a, .string b]).map _ = _;rw [hn, lits_ed, lits_str n a ha, lits_str n b hb];rfl
set_option maxRecDepth 100000 in
theorem edT : KeyT Tryz.prog 64 (fun _ : GEd => True) edVal edLit where
 K := Keyed.of_law klaw
 key x _ := keyOf_ed x
 inj x y h := by
  have := klaw.inj (keyOf_ed x) (by rw [h]; exact keyOf_ed y);obtain ⟨⟨a, b⟩, ha⟩ := x;obtain ⟨⟨c, d⟩, hc⟩ := y;simp [edVal, encE] at this;obtain ⟨rfl, rfl⟩ := this;rfl
 isKey x := by simp [edLit, WideAt.IsKeyLit]
 inv v l h := by
  have hn : ∃ n, Tryz.prog.types.size + 1 = n + 2 := ⟨Tryz.prog.types.size - 1, by have : 0 < Tryz.prog.types.size := of_decide_eq_true (by kernel_rfl); omega⟩;obtain ⟨n, hn⟩ := hn;obtain ⟨xs, L, rfl, hL, rfl⟩ := keyOf_top kwide h;obtain ⟨xs⟩ := xs;rw [hn] at hL
  have hlen : xs.length = 2 := by
   unfold Program.keyLits at hL;simp only [Tryz.underlying64, kcells] at hL;split at hL
   . rename_i hh; exact hh.1
   . cases hL
  obtain ⟨c0, c1, rfl⟩ : ∃ c0 c1, xs = [c0, c1] := by
   match xs, hlen with
   | [c0, c1], _ => exact ⟨c0, c1, rfl⟩
  rw [lits_ed] at hL;cases h0 : Tryz.prog.keyLits (n + 1) 9 [c0] with
  | none => rw [h0] at hL; cases hL
  | some L0 =>
    cases h1 : Tryz.prog.keyLits (n + 1) 9 [c1] with
    | none => rw [h0, h1] at hL; cases hL
    | some L1 =>
      rw [h0, h1] at hL;obtain ⟨s, rfl, hs, rfl⟩ := lits_str_inv n c0 L0 h0;obtain ⟨t, rfl, ht, rfl⟩ := lits_str_inv n c1 L1 h1;have : L = [.string s.data.toList, .string t.data.toList] := by simpa using hL.symm
      subst this;exact ⟨⟨(s, t), hs, ht⟩, rfl, rfl, trivial⟩
end Go.Proofs.YtpnogmicfomofaaGreatDoor
namespace Go.Proofs.YtpnogmicfomofaaGreatDoor
open Go.RowKit Go.Sort Go.Lib Go.Maps
open Go.Lib (hid)
theorem flatK_eq (ds : List Ed) : (flatK encE 2 ds.toArray).toList = ds.flatMap encE := by
 apply List.ext_getElem?;intro t
 by_cases h : t < ds.length * 2
 . have h1 : t / 2 < ds.length := by omega
   have h2 := flat_get encE 2 encE_len ds (t / 2) h1 (t % 2) (Nat.mod_lt _ (by omega));rw [show t / 2 * 2 + t % 2 = t by omega] at h2;rw [h2];have h3 : t < (flatK encE 2 ds.toArray).size := by simpa using h
   rw [Array.getElem?_toList, Array.getElem?_eq_getElem h3];have h4 := get_flatK encE 2 ds.toArray t (by simpa using h);rw [getElem!_pos _ t h3] at h4;rw [h4, getElem!_pos ds.toArray (t / 2) (by simpa using h1)];simp only [List.getElem_toArray];have h5 : t % 2 < (encE ds[t / 2]).length := by rw [encE_len]; omega
   rw [getElem!_pos _ (t % 2) h5, List.getElem?_eq_getElem h5]
 . have e1 : (ds.flatMap encE)[t]? = none := List.getElem?_eq_none (by rw [flat_len encE 2 encE_len]; omega)
   rw [e1, List.getElem?_eq_none (by simp; omega)]
theorem own_sortK {w : World} {B g n cap q : Nat} {T : TypeId} {es ds : List Ed} {os : Array Obj} (h : w.ownsRow B T 2 (.slice (some ⟨g, 0, none⟩) n cap) n (es.flatMap encE)) (hl : ds.length = n) :
  (sortWorldK encE 2 w g 0 q ds.toArray os).ownsRow B T 2 (.slice (some ⟨g, 0, none⟩) n cap) n (ds.flatMap encE) /\ w.grownBy (sortWorldK encE 2 w g 0 q ds.toArray os) (some g) := by
 rcases h.2 with ⟨e0, _⟩ | ⟨g', cap', cur, e0, hb, hg, hn, hm, hs, ht⟩
 . cases e0
 simp at e0;obtain ⟨rfl, rfl⟩ := e0;have hgl := lt_of_block hg;have hF : (flatK encE 2 ds.toArray).size = n * 2 := by simp [hl]
 have hblk : (sortWorldK encE 2 w g 0 q ds.toArray os).heap[g]? = some (.cells (putCells id 0 (flatK encE 2 ds.toArray) cur) T (0, 0)) := by
  unfold sortWorldK;rw [heap_grow_old _ _ (by simpa [putRowK, putRow, mapBlock, Sort.ahead] using hgl)];simp [putRowK, putRow, mapBlock, Sort.ahead, Array.getElem?_modify, hg, onCells]
 refine ⟨⟨by rw [flat_len encE 2 encE_len, hl], Or.inr ⟨g, cap, _, rfl, hb, hblk, hn, hm, ?_, ?_⟩⟩, ⟨rfl, rfl, rfl, ?_, fun k hk hne => ?_⟩⟩
 . simp [putCells, hs]
 . rw [<- flatK_eq]
   apply List.ext_getElem?;intro t;rw [List.getElem?_take];split
   . rename_i hlt
     have h1 : t < (putCells id 0 (flatK encE 2 ds.toArray) cur).size := by
       have : n * 2 <= cap * 2 := Nat.mul_le_mul_right _ hn;simp [putCells]; omega
     have h2 : t < (flatK encE 2 ds.toArray).size := by omega
     rw [Array.getElem?_toList, Array.getElem?_toList, Array.getElem?_eq_getElem h1, Array.getElem?_eq_getElem h2];simp only [putCells, Array.getElem_mapIdx];rw [if_pos (by omega), getElem!_pos _ _ (by omega)];simp
   . rename_i hlt
     rw [Array.getElem?_toList, Array.getElem?_eq_none (by omega)]
 . simp [sortWorldK, putRowK, putRow, mapBlock, Sort.ahead]
 . have : g ≠ k := fun e => hne (by rw [e])
   unfold sortWorldK;rw [heap_grow_old _ _ (by simpa [putRowK, putRow, mapBlock, Sort.ahead] using hk)];simp [putRowK, putRow, mapBlock, Sort.ahead, Array.getElem?_modify, this]
theorem own_holdsK {w : World} {B g n cap : Nat} {T : TypeId} {es : List Ed} (h : w.ownsRow B T 2 (.slice (some ⟨g, 0, none⟩) n cap) n (es.flatMap encE)) (hl : es.length = n) : HoldsK encE 2 w g 0 es.toArray /\ g < w.heap.size := by
 rcases h.2 with ⟨e0, _⟩ | ⟨g', cap', cur, e0, hb, hg, hn, hm, hs, ht⟩
 . cases e0
 simp at e0;obtain ⟨rfl, rfl⟩ := e0;refine ⟨fun j hj => ?_, lt_of_block hg⟩;have hj' : j < n * 2 := by simpa [hl] using hj
 refine ⟨?_, ?_⟩
 . have e1 : (flatK encE 2 es.toArray).toList[j]? = (cur.toList.take (n * 2))[j]? := by rw [ht, flatK_eq]
   rw [List.getElem?_take, if_pos hj', Array.getElem?_toList, Array.getElem?_toList, Array.getElem?_eq_getElem hj] at e1;unfold World.cell?;simp only [hg, Nat.zero_add];simp only [Option.isSome_none, Bool.false_eq_true, if_false];rw [<- e1, getElem!_pos _ j hj]; rfl
 . unfold World.frozen?
   simp [hg]
theorem sort_ed (B : Nat) (v : Value) (es : List Ed) (W : World) (hown : OwnE B W v es) (hn : es.length <= 1000000) :
  Calls Tryz.prog 76 #[v, .func (.func 77) #[] #[]] W fun e w' =>
   e = .returned (.tuple #[]) /\ ∃ ds : List Ed, ds.Perm es /\ (ds.Pairwise fun x y => lessE y x = false) /\ OwnE B w' v ds /\ W.grownBy w' v.ownBlock := by
 by_cases hv : v = .slice none 0 0
 . subst hv
   have hx : es = [] := by
    rcases hown.1.2 with ⟨_, h⟩ | ⟨g, cap, cur, h, _⟩
    . exact List.eq_nil_of_length_eq_zero h
    . cases h
   subst hx;have h := AnyF.slices_SortFunc_none (P := Tryz.prog) (ρ := Tryz.sortE_ren) Tryz.sortE none 0 (.func (.func 77) #[] #[]) W;exact h.mono fun e w' ⟨he, hw⟩ => ⟨he, [], List.Perm.refl _, List.Pairwise.nil, by rw [hw]; exact hown, by rw [hw]; exact World.grownBy.refl _ _⟩
 . obtain ⟨g, cap, cur, rfl, hb, hg, hn', hm, hs, ht⟩ : ∃ g cap cur, v = .slice (some ⟨g, 0, none⟩) es.length cap /\ B <= g /\ W.heap[g]? = some (.cells cur 64 (0, 0)) /\ es.length <= cap /\ cap <= maxLen /\ cur.size = cap * 2 /\ cur.toList.take (es.length * 2) = es.flatMap encE := by
    rcases hown.1.2 with ⟨h, _⟩ | h
    . exact absurd h hv
    . exact h
   obtain ⟨hH, hlt⟩ := own_holdsK hown.1 rfl
   have hswo : SWO (ltOf cmpE) := {
    irrefl := fun x => by rw [cmpE_eq]; exact stoE.irr x
    trans := fun x y z h1 h2 => by rw [cmpE_eq] at *; exact stoE.tr _ _ _ h1 h2
    ntrans := fun x y z h1 h2 => by
     rw [cmpE_eq] at *;cases hh : lessE x z with
     | false => rfl
     | true =>
       cases h3 : lessE y x with
       | true => rw [stoE.tr _ _ _ h3 hh] at h2; cases h2
       | false => rw [stoE.tot _ _ h1 h3, h2] at hh; cases hh }
   have hcmp : CmpLays Tryz.prog 77 #[] encE 2 cmpE g 0 es.toArray.size W := fun m os dk hs x y => compare_any x y _;have h := AnyQ.slices_SortFunc (P := Tryz.prog) (ρ := Tryz.sortE_ren) Tryz.sortE 2 Tryz.isAgg64 Tryz.sizeOf64 encE encE_len encE_one cmpE hswo 77 #[] g 0 cap es.toArray W (enters_of Tryz.func77 (by kernel_rfl) rfl) hcmp hH hlt (by simp; omega);have hsz : es.toArray.size = es.length := by simp
   rw [hsz] at h;refine Calls.mono (show Calls Tryz.prog 76 _ W _ from h) ?_;rintro e w' ⟨he, d', q, os, hp, hsd, hw⟩;obtain ⟨d'⟩ := d';have hl : d'.length = es.length := by have := hp.1; simpa using this
   have hpl : d'.Perm es := by
    obtain ⟨h1, _, h2⟩ := hp;have e1 : ((⟨d'⟩ : Array Ed).extract 0 es.length) = ⟨d'⟩ := by rw [<- hl]; simp
    have e2 : (es.toArray.extract 0 es.length) = es.toArray := by simp
    rw [e1, e2] at h2;exact h2
   obtain ⟨k1, k2⟩ := own_sortK (q := q) (os := os) hown.1 hl;rw [hw];refine ⟨he, d', hpl, ?_, ⟨by rw [hl]; exact k1, fun x hx => hown.2 x (hpl.mem_iff.1 hx)⟩, k2⟩;rw [List.pairwise_iff_getElem];intro i j hi hj hij;have := hsd i j (Nat.zero_le _) hij (by omega);rw [getElem!_pos (⟨d'⟩ : Array Ed) i (by simpa using hi), getElem!_pos (⟨d'⟩ : Array Ed) j (by simpa using hj), cmpE_eq] at this;simpa using this
theorem asc_of_sorted {ds : List Ed} (h : ds.Pairwise fun x y => lessE y x = false) (hn : ds.Nodup) : AscE ds :=
 (h.and hn).imp fun {x y} ⟨h1, h2⟩ => by
  cases hh : lessE x y with
  | true => rfl
  | false => exact absurd (stoE.tot _ _ hh h1) h2
end Go.Proofs.YtpnogmicfomofaaGreatDoor
namespace Go.Proofs.YtpnogmicfomofaaGreatDoor
open Go.RowKit Go.Sort Go.Lib Go.Maps
open Go.Lib (hid)
def hasE (e : Ed) (l : List Ed) : Bool := l.any fun y => decide (y = e)
theorem hasE_iff {e : Ed} {l : List Ed} : hasE e l = true ↔ e ∈ l := by
 unfold hasE;rw [List.any_eq_true];constructor
 . rintro ⟨y, hy, h⟩
   rw [decide_eq_true_eq] at h;exact h ▸ hy
 . intro h
   exact ⟨e, h, by simp⟩
theorem hasE_snoc (e x : Ed) (l : List Ed) : hasE e (l ++ [x]) = (hasE e l || decide (x = e)) := by simp [hasE]
def edSetF (l : List Ed) : GEd -> Option Value := fun e => if hasE e.1 l = true then some (.bool true) else none
theorem edSetF_snoc (l : List Ed) (x : GEd) : upd (edSetF l) x (some (.bool true)) = edSetF (l ++ [x.1]) := by
 funext y
 by_cases e : y = x
 . subst e; rw [upd_same]; simp [edSetF, hasE_snoc]
 . rw [upd_other _ _ e]; unfold edSetF
   have : y.1 ≠ x.1 := fun h => e (Subtype.ext h);rw [hasE_snoc, decide_eq_false (fun h => this h.symm), Bool.or_false]
theorem edSetF_same {l : List Ed} {x : Ed} (h : x ∈ l) : edSetF (l ++ [x]) = edSetF l := by
 funext y; unfold edSetF;rw [hasE_snoc]
 by_cases e : x = y.1
 . have := hasE_iff.2 (e ▸ h)
   rw [this]; rfl
 . rw [decide_eq_false e, Bool.or_false]
theorem zbool (w : World) : (zeroValue 4).run Tryz.prog w = .ok (.bool false) w := by kernel_rfl
theorem mk_edset (w : World) : (Instr.makeMap 129 none).run Tryz.prog w = .ok (.map (some w.heap.size)) (w.alloc (.map #[] 0)) := by
 simp [Instr.makeMap, run_underlying Tryz.underlying129]
theorem grown_ne {w w' : World} {g b o : Nat} {v : Value} (hg : w.grownBy w' (some g)) (hb : b ≠ g) (h : w.cell? ⟨b, o, none⟩ = some v) : w'.cell? ⟨b, o, none⟩ = some v :=
 grown_cell hg (World.block_lt_of_cell? w _ h) (fun k hk e => by cases hk; exact hb e.symm) h
set_option maxRecDepth 100000 in
set_option maxHeartbeats 1000000 in
theorem edges_any (l : List Ed) (v : Value) (w : World) (hS : Sl EdR 2 w v l) (hn : l.length <= 1000000) :
  Calls Tryz.prog 49 #[v] w fun e w' => ∃ v', e = .returned v' /\ OwnE (w.heap.size + 1) w' v' (canE l) /\ Below w.heap.size w w' := by
 obtain ⟨r, c, rfl, _⟩ := id hS;obtain ⟨_, hl, hm⟩ := sl_len hS;have HE := hid (fun (W : World) (hW : Below w.heap.size w W) => ed_at (hS.below edR_mono hW));clear hS;have hmm := mk_edset w;have B0 := hid (show Below w.heap.size w (w.alloc (.map #[] 0)) from (Below.refl _ _).alloc (Nat.le_refl _) _);have O0 := hid (OwnF.made w Tryz.prog 64 edLit);go_enter Tryz.func49, Tryz.ntmps49;go_wp2
 go_loopw [4, 10] (fun vo i wr => ∃ (k : Nat) (dd : List Ed), k <= l.length /\ i = .int .i64 k /\ Below w.heap.size w wr /\ w.heap.size + 1 <= wr.heap.size /\ Hid (∃ n c, n <= k /\ OwnF wr Tryz.prog 64 edLit w.heap.size n c (edSetF (l.take k))) /\ Hid (OwnE (w.heap.size + 1) wr vo dd) /\ Hid (dd.Nodup) /\ Hid (∀ x, x ∈ dd ↔ x ∈ l.take k)) (fun _ i _ => l.length - (intOf i).toNat)
 case atStart => exact ⟨0, [], by omega, rfl, B0.out, by simp, ⟨0, 0, Nat.le_refl _, O0.out⟩, ownE_nil _ _, List.nodup_nil, hid (by simp)⟩
 case round =>
  obtain ⟨k, dd, hk, rfl, hbl, hz, HNO, HD, HU, HM⟩ := hrel;obtain ⟨n, c3, hn3, ho3⟩ := HNO.out;have HN := hid hn3;have HO := hid ho3;clear hn3 ho3 HNO;have HB := hid hbl;have HDl := hid (show dd.length <= k from Nat.le_trans (nodup_len HU.out fun x hx => (HM.out x).1 hx) (by simp; omega));obtain ⟨r2, c2, rfl, hc21, hc22⟩ := HD.out.form
  by_cases hlt : k < l.length
  . obtain ⟨b, off, rfl, hb, g0, g1, hs0, hs1⟩ := HE.out _ hbl k hlt
    have HT := hid (show l.take (k + 1) = l.take k ++ [l[k]] from List.take_succ_eq_append_getElem hlt);clear HE hbl;generalize l[k] = y at *;obtain ⟨y1, y2⟩ := y;have HS := hid (show y1.size <= maxLen /\ y2.size <= maxLen from ⟨hs0, hs1⟩);have HO1 := hid (HO.out.alloc (.cells #[.string y1, .string y2] 64));have HB1 := hid (HB.out.alloc (by omega) (.cells #[.string y1, .string y2] 64));have HD1 := hid (HD.out.below ((Below.refl _ _).alloc (Nat.le_refl _) (.cells #[.string y1, .string y2] 64)));have HC0 := hid (show (wr.alloc (.cells #[.string y1, .string y2] 64)).cell? ⟨wr.heap.size, 0, none⟩ = some (.string y1) from cell_at rfl rfl);have HC1 := hid (show (wr.alloc (.cells #[.string y1, .string y2] 64)).cell? ⟨wr.heap.size, 1, none⟩ = some (.string y2) from cell_at rfl rfl);clear hs0 hs1
    by_cases hy : (y1, y2) ∈ l.take k
    . have HF := hid (show edSetF (l.take k) ⟨(y1, y2), HS.out⟩ = some (.bool true) by unfold edSetF; rw [if_pos (hasE_iff.2 hy)])
      have HY := hid hy;clear hy;go_wp2_with (at_lookup; refine wpList_look _ rfl _ _ 129 rfl edT Tryz.underlying129 (zbool _) w.heap.size n c3 _ rfl HO1.out ⟨(y1, y2), HS.out⟩ rfl trivial ?_; rw [HF.out])
      go_round
      case rel => exact ⟨k + 1, dd, by omega, by go_num, HB1.out, by simp; omega, ⟨n, c3, Nat.le_succ_of_le HN.out, by rw [HT.out, edSetF_same HY.out]; exact HO1.out⟩, HD1.out, HU.out, fun x => by
       rw [HT.out, HM.out, List.mem_append, List.mem_singleton];exact ⟨Or.inl, fun h => h.elim id fun h => h ▸ HY.out⟩⟩
      case measure => simp [intOf]; omega
    . have HF := hid (show edSetF (l.take k) ⟨(y1, y2), HS.out⟩ = none by unfold edSetF; rw [if_neg (fun h => hy (hasE_iff.1 h))])
      have HY := hid hy;have HDn := hid (show (dd ++ [(y1, y2)]).Nodup from List.nodup_append.2 ⟨HU.out, by simp, fun a ha b hb => by simp at hb; subst hb; rintro rfl; exact HY.out ((HM.out _).1 ha)⟩);have HMn := hid (show ∀ x, x ∈ dd ++ [(y1, y2)] ↔ x ∈ l.take (k + 1) from fun x => by rw [HT.out, List.mem_append, List.mem_append, HM.out]);have HDl1 := hid (show dd.length + 1 <= 1000000 by have := HDl.out; omega);clear hy
      go_wp2_with (first
       | (at_lookup; refine wpList_look _ rfl _ _ 129 rfl edT Tryz.underlying129 (zbool _) w.heap.size n c3 _ rfl HO1.out ⟨(y1, y2), HS.out⟩ rfl trivial ?_; rw [HF.out])
       | (at_mapUpdate; refine wpList_store _ rfl _ _ _ 129 rfl edT Tryz.underlying129 w.heap.size n c3 _ rfl HO1.out (by have := HN.out; unfold maxLen; omega) ⟨(y1, y2), HS.out⟩ (.bool true) rfl rfl trivial ?_
          intro w2 ho2 hg2;have z0 := grown_ne hg2 (show wr.heap.size ≠ w.heap.size by omega) HC0.out;have z1 := grown_ne hg2 (show wr.heap.size ≠ w.heap.size by omega) HC1.out;have hz2 : wr.heap.size + 1 <= w2.heap.size := by have := hg2.size; simpa using this
          have HD2 := hid ((HD1.out.kept hg2 fun g hg e => by cases e; have := HD.out.lt _ hg; omega).below ((Below.refl _ _).alloc (Nat.le_refl _) (.cells #[.string y1, .string y2] 64)));have HB2 := hid ((Below.grown HB1.out hg2 HB1.out.size (fun k hk => by cases hk; exact Nat.le_refl _)).alloc (by omega) (.cells #[.string y1, .string y2] 64));have HO3 := hid (ho2.alloc (.cells #[.string y1, .string y2] 64));clear ho2 hg2)
       | (at_builtin; refine app_ed rfl _ _ rfl (w.heap.size + 1) _ dd rfl HD2.out w2.heap.size 1 (y1, y2) rfl (fr := (0, 0)) (by exact (MapKept.heap_alloc w2 _).1) HS.out HDl1.out (by simp; omega) (w2.heap.size + 1) (by simp) ?_; intro g cap w3 hm3; clear z0 z1))
      have HM3 := hid hm3;clear hm3;go_wp2
      go_round
      case rel =>
       obtain ⟨m1, m2, m3, m4⟩ := HM3.out;refine ⟨k + 1, dd ++ [(y1, y2)], by omega, by go_num, Below.grown HB2.out m2 HB2.out.size (fun g hg => by have := (HD.out.lt g hg).1; omega), ?_, ?_, ?_, HDn.out, HMn.out⟩
       . have := m2.size; simp at this; omega
       . have key := HO3.out.kept m2 (fun e => by have := HD.out.lt _ e.symm; omega)
         rw [edSetF_snoc] at key;exact ⟨n + 1, _, Nat.succ_le_succ HN.out, by rw [HT.out]; exact key⟩
       . rw [List.length_append, List.length_singleton] at m1
         exact m1
      case measure => simp [intOf]; omega
  . have hke : k = l.length := by omega
    have HK := hid hke;have hdn : dd.length <= 1000000 := by have := HDl.out; omega
    have HC := hid hdn;clear hke HE hbl hdn;go_wp2_with (go_at_call 76; refine (sort_ed (w.heap.size + 1) _ dd _ HD.out HC.out).mono ?_; rintro e w4 ⟨rfl, ds, h1, h2, h3, h4⟩)
    have H1 := hid h1;have H2 := hid h2;have H3 := hid h3;have H4 := hid h4;clear h1 h2 h3 h4;have hle := HD.out.lt;have HL := hid hle;clear hle;go_wp2
    go_ret
    have hds : ds = canE l := by
     have hk2 := HK.out;subst hk2;refine ascE_eq (asc_of_sorted H2.out (H1.out.nodup_iff.2 HU.out)) (canE_asc l) fun x => ?_;rw [H1.out.mem_iff, HM.out, List.take_length, mem_canE]
    refine ⟨_, rfl, ?_, Below.grown HB.out H4.out HB.out.size (fun g hg => by have := (HL.out g hg).1; omega)⟩;rw [<- hds];have := H3.out;exact this
end Go.Proofs.YtpnogmicfomofaaGreatDoor
namespace Go.Proofs.YtpnogmicfomofaaGreatDoor
open Go.RowKit Go.Sort Go.Lib Go.Maps
open Go.Lib (hid)
def tgt (es : List Ed) (x : ByteArray) : List ByteArray := (es.filter fun e => decide (e.1 = x)).map (·.2)
theorem tgt_snoc (es : List Ed) (e : Ed) (x : ByteArray) : tgt (es ++ [e]) x = if e.1 = x then tgt es x ++ [e.2] else tgt es x := by
 unfold tgt;rw [List.filter_append, List.map_append]
 by_cases h : e.1 = x
 . rw [if_pos h]; simp [List.filter_cons, h]
 . rw [if_neg h]; simp [List.filter_cons, h]
theorem tgt_len (es : List Ed) (x : ByteArray) : (tgt es x).length <= es.length := by unfold tgt; rw [List.length_map]; exact List.length_filter_le _ _
theorem mem_tgt {es : List Ed} {x y : ByteArray} : y ∈ tgt es x ↔ (x, y) ∈ es := by
 unfold tgt;rw [List.mem_map];constructor
 . rintro ⟨⟨a, b⟩, h, rfl⟩
   rw [List.mem_filter] at h;have := of_decide_eq_true h.2;simp at this;subst this;exact h.1
 . intro h
   exact ⟨(x, y), List.mem_filter.2 ⟨h, by simp⟩, rfl⟩
def nilV : Value := .slice none 0 0
structure Grp (B : Nat) (w : World) (b n : Nat) (F : ByteArray -> List ByteArray) : Prop where
 ex : ∃ c f, OwnF w Tryz.prog 9 strLit b n c f /\ (∀ x, OwnS B w ((f x).getD nilV) (F x)) /\ (∀ x y, x ≠ y -> Apart ((f x).getD nilV) ((f y).getD nilV))
 lt : b < B
theorem OwnF.below' {κ : Type} {P : Program} {k : TypeId} {lit : κ -> Lit} {w w' : World} {b n c : Nat} {f : κ -> Option Value} (h : OwnF w P k lit b n c f) (hb : Below w.heap.size w w') : OwnF w' P k lit b n c f := h.kept (grown_below hb) (by simp)
theorem zsl (w : World) : (zeroValue 27).run Tryz.prog w = .ok nilV w := by kernel_rfl
theorem grp_start (w : World) (B : Nat) (hB : w.heap.size < B) : Grp B (w.alloc (.map #[] 0)) w.heap.size 0 (fun _ => []) :=
 ⟨⟨0, _, OwnF.made w Tryz.prog 9 strLit, fun x => ownS_nil _ _, fun x y _ => Apart.nil' _⟩, hB⟩
theorem Grp.kept {B : Nat} {w w' : World} {b n k : Nat} {F : ByteArray -> List ByteArray} (h : Grp B w b n F) (hg : w.grownBy w' (some k)) (hb : k ≠ b) (hk : k < B) : Grp B w' b n F := by
 obtain ⟨c, f, h1, h2, h3⟩ := h.ex;exact ⟨⟨c, f, h1.kept hg (by simp; exact fun e => hb e.symm), fun x => (h2 x).kept hg (fun g hg e => by cases e; have := ((h2 x).lt _ hg).1; omega), h3⟩, h.lt⟩
theorem insert_len' {H : Type} (x : Lit × DataW H) : ∀ l : List (Lit × DataW H), (DataW.insert x l).length = l.length + 1
 | [] => rfl
 | y :: r => by
   unfold DataW.insert;split
   . rfl
   . simp [insert_len' x r]
theorem fold_len' {H : Type} : ∀ l : List (Lit × DataW H), (l.foldr DataW.insert []).length = l.length
 | [] => rfl
 | y :: r => by rw [List.foldr_cons, insert_len', fold_len' r]; rfl
theorem OwnF.tight {κ : Type} {P : Program} {k : TypeId} {lit : κ -> Lit} {w : World} {b n c : Nat} {f : κ -> Option Value} (h : OwnF w P k lit b n c f) : OwnF w P k lit b c c f := by
 obtain ⟨D, ⟨es, clock, h1, h2, h3, h4⟩, h5, h6⟩ := h.ex;have : es.size = c := by rw [<- h5, h4]; simp [Maps.size, fold_len']
 exact ⟨D, ⟨es, clock, h1, h2, by omega, h4⟩, h5, h6⟩
theorem mk_map (T : TypeId) {k e : TypeId} (hT : Tryz.prog.underlying T = some (.map k e)) (n : Nat) (w : World) : (Instr.makeMap T (some (.int .i64 (n : Nat)))).run Tryz.prog w = .ok (.map (some w.heap.size)) (w.alloc (.map #[] 0)) := by
 simp [Instr.makeMap, run_underlying hT];rfl
theorem grp_push {B : Nat} {W w3 w4 : World} {b n cc : Nat} {f : ByteArray -> Option Value} {F : ByteArray -> List ByteArray} {x y : ByteArray} {v : Value} {g cap H : Nat} (hv : (f x).getD nilV = v) (hrow : ∀ z, OwnS B W ((f z).getD nilV) (F z)) (hap : ∀ x y, x ≠ y -> Apart ((f x).getD nilV) ((f y).getD nilV))
  (hm : MoreS B W v (F x ++ [y]) H g cap w3) (hH : W.heap.size <= H) (ho4 : OwnF w4 Tryz.prog 9 strLit b (n + 1) cc (upd f x (some (.slice (some ⟨g, 0, none⟩) ((F x).length + 1) cap)))) (hg4 : w3.grownBy w4 (some b)) (hb : b < B) : Grp B w4 b (n + 1) (fun z => if x = z then F z ++ [y] else F z) := by
 subst hv;obtain ⟨m1, m2, m3, m4⟩ := hm;rw [List.length_append, List.length_singleton] at m1;refine ⟨⟨cc, _, ho4, fun z => ?_, fun z z' hzz => ?_⟩, hb⟩
 . by_cases e : x = z
   . subst e
     rw [if_pos rfl, upd_same];exact m1.kept hg4 fun k hk e => by cases e; have := (m1.lt _ hk).1; omega
   . rw [if_neg e, upd_other _ _ (fun h => e h.symm)]
     have h1 := (hrow z).kept m2 fun k hk e' => hap z x (fun h => e h.symm) k hk e';exact h1.kept hg4 fun k hk e => by cases e; have := (h1.lt _ hk).1; omega
 . by_cases e : x = z
   . subst e
     rw [upd_same, upd_other _ _ (fun h => hzz h.symm)];exact (Apart.app (hrow z').1 (hap z' x (fun h => hzz h.symm)) m3 hH).symm
   . by_cases e' : x = z'
     . subst e'
       rw [upd_same, upd_other _ _ hzz];exact Apart.app (hrow z).1 (hap z x hzz) m3 hH
     . rw [upd_other _ _ (fun h => e h.symm), upd_other _ _ (fun h => e' h.symm)]
       exact hap z z' hzz
set_option maxRecDepth 100000 in
set_option maxHeartbeats 1000000 in
theorem next_any (vn : Value) (ns : List ByteArray) (es : List Ed) (ve : Value) (w : World) (hN : Sl StrR 1 w vn ns) (hS : Sl EdR 2 w ve es) (hn : es.length <= 1000000) :
  Calls Tryz.prog 50 #[.agg #[vn, ve]] w fun e w' => e = .returned (.map (some (w.heap.size + 1))) /\ (∃ n, Grp (w.heap.size + 2) w' (w.heap.size + 1) n (tgt es)) /\ Below w.heap.size w w' := by
 obtain ⟨r, c, rfl, _⟩ := id hS;obtain ⟨rn, cn, rfl, _⟩ := id hN;obtain ⟨_, hl, hm⟩ := sl_len hS;obtain ⟨_, hl1, hm1⟩ := sl_len hN;have HE := hid (fun (W : World) (hW : Below w.heap.size w W) => ed_at (hS.below edR_mono hW));clear hS hN;have HB0 := hid (show Below w.heap.size w ((w.alloc (.cells #[.slice rn ns.length cn, .slice r es.length c] 66)).alloc (.map #[] 0)) from ((Below.refl _ _).alloc (Nat.le_refl _) _).alloc (by simp) _)
 have HG0 := hid (show Grp (w.heap.size + 2) ((w.alloc (.cells #[.slice rn ns.length cn, .slice r es.length c] 66)).alloc (.map #[] 0)) (w.heap.size + 1) 0 (fun _ => []) from by
  have := grp_start (w.alloc (.cells #[.slice rn ns.length cn, .slice r es.length c] 66)) (w.heap.size + 2) (by simp);simpa using this)
 have hmm := fun W => mk_map 100 Tryz.underlying100 ns.length W;have HC1 := hid (show ((w.alloc (.cells #[.slice rn ns.length cn, .slice r es.length c] 66)).alloc (.map #[] 0)).cell? ⟨w.heap.size, 1, none⟩ = some (.slice r es.length c) from bget ((Below.refl _ _).alloc (Nat.le_refl _) _) (cell_at rfl rfl));go_enter Tryz.func50, Tryz.ntmps50;go_wp2
 go_loopw [13] (fun i wr => ∃ k : Nat, k <= es.length /\ i = .int .i64 k /\ Below w.heap.size w wr /\ w.heap.size + 2 <= wr.heap.size /\ Hid (∃ n, n <= k /\ Grp (w.heap.size + 2) wr (w.heap.size + 1) n (tgt (es.take k)))) (fun i _ => es.length - (intOf i).toNat)
 case atStart => exact ⟨0, by omega, rfl, HB0.out, by simp, ⟨0, Nat.le_refl _, HG0.out⟩⟩
 case round =>
  obtain ⟨k, hk, rfl, hbl, hz, HG⟩ := hrel;have HB := hid hbl
  by_cases hlt : k < es.length
  . obtain ⟨b, off, rfl, hb, g0, g1, hs0, hs1⟩ := HE.out _ hbl k hlt
    have HT := hid (show es.take (k + 1) = es.take k ++ [es[k]] from List.take_succ_eq_append_getElem hlt);have HTl := hid (tgt_len (es.take k));have HKl := hid (show (es.take k).length <= k by simp; omega);clear HE hbl;generalize es[k] = y at *;obtain ⟨y1, y2⟩ := y;have HS := hid (show y1.size <= maxLen /\ y2.size <= maxLen from ⟨hs0, hs1⟩);have hW1 : Below wr.heap.size wr (wr.alloc (.cells #[.string y1, .string y2] 64)) := (Below.refl _ _).alloc (Nat.le_refl _) _;have HB1 := hid (HB.out.alloc (by omega) (.cells #[.string y1, .string y2] 64));have c0 : (wr.alloc (.cells #[.string y1, .string y2] 64)).cell? ⟨wr.heap.size, 0, none⟩ = some (.string y1) := cell_at rfl rfl;have c1 : (wr.alloc (.cells #[.string y1, .string y2] 64)).cell? ⟨wr.heap.size, 1, none⟩ = some (.string y2) := cell_at rfl rfl;obtain ⟨n, hn0, hg0⟩ := HG.out;have HN := hid hn0;obtain ⟨cc, f, ho, hrow, hap⟩ := hg0.ex;have HLt := hid (fun x g h => (hrow x).lt g h);have HO := hid (ho.below' hW1);have HR := hid (fun x => (hrow x).below hW1);have HA := hid hap;have hz1 : w.heap.size + 3 <= (wr.alloc (.cells #[.string y1, .string y2] 64)).heap.size := by simp; omega
    have hz2 : wr.heap.size + 1 = (wr.alloc (.cells #[.string y1, .string y2] 64)).heap.size := by simp
    have HZ2 := hid hz2;clear hs0 hs1 hn0 hg0 ho hrow hap hW1 hz2;go_wp2
    generalize hWW : (wr.alloc (.cells #[.string y1, .string y2] 64)) = W1 at *;clear hWW;have T := strT (P := Tryz.prog) (k := 9) Tryz.underlying9;obtain ⟨r3, c3, hv, hc31, hc32⟩ := (HR.out y1).form;have L1 := HO.out.drew.look T Tryz.underlying100 (zsl _) y1 HS.out.1;have L2 := (HO.out.alloc (.cells #[.string y2] 9)).drew.look T Tryz.underlying100 (zsl _) y1 HS.out.1;have hrow1 : OwnS (w.heap.size + 2) ((W1.alloc (.cells #[.string y2] 9)).drew) ((f y1).getD nilV) (tgt (es.take k) y1) := (HR.out y1).below (((Below.refl _ _).alloc (Nat.le_refl _) _).drew);rw [hv] at L1 L2 hrow1;have HV := hid hv;have HRW := hid hrow1;have HLen := hid (show (tgt (es.take k) y1).length + 1 <= 1000000 by have := HTl.out y1; have := HKl.out; omega);have hne : ∀ g, ((f y1).getD nilV).ownBlock = some g -> w.heap.size + 2 <= g /\ g < wr.heap.size := fun g hg => HLt.out y1 g hg;rw [hv] at hne;have HNE := hid hne;have HTG := hid (show ∀ x, tgt (es.take (k + 1)) x = if y1 = x then tgt (es.take k) x ++ [y2] else tgt (es.take k) x from fun x => by rw [HT.out, tgt_snoc]);have HA1 := hid (show ∀ x, x ≠ y1 -> Apart ((f x).getD nilV) (.slice r3 (tgt (es.take k) y1).length c3) from fun x hx => by rw [<- hv]; exact HA.out x y1 hx);clear hv hrow1 hne HTl HKl HT;generalize hF0 : tgt (es.take k) = F0 at *;clear hF0
    go_region_held3 (fun w' => w'.cell? ⟨wr.heap.size, 0, none⟩ = some (.string y1) /\ w'.cell? ⟨wr.heap.size, 1, none⟩ = some (.string y2)) (go_keep)
     ((refine step_str (by rfl) _ _ (by rfl) (w.heap.size + 2) (.slice r3 (F0 y1).length c3) (F0 y1) (by rfl) HRW.out W1.heap.size 1 y2 (by rfl) (fr := (0, 0)) (by exact (MapKept.heap_alloc W1 _).1) HS.out.2 (by have := HLen.out; omega) (by simp; omega) (W1.heap.size + 1) (by simp) ?_
       intro g cap w3 hm3;have ho3 := (HO.out.alloc (.cells #[.string y2] 9)).drew.kept hm3.2.1 (fun e => by have := HNE.out _ e.symm; omega);obtain ⟨w4, hrun, ho4, hg4, _⟩ := ho3.store T Tryz.underlying100 (by have := HN.out; unfold maxLen; omega) y1 HS.out.1 (.slice (some ⟨g, 0, none⟩) ((F0 y1).length + 1) cap);have HO4 := hid ho4;have HG4 := hid hg4;have HM3 := hid hm3;have z0 := grown_cell (o := 0) hm3.2.1 (lt_alloc_drew (show wr.heap.size < W1.heap.size by have := HZ2.out; omega)) (fun g' hg' e => by have := HNE.out _ hg'; omega) (cell_alloc_drew c0);have z1 := grown_cell (o := 1) hm3.2.1 (lt_alloc_drew (show wr.heap.size < W1.heap.size by have := HZ2.out; omega)) (fun g' hg' e => by have := HNE.out _ hg'; omega) (cell_alloc_drew c1);have y0 := grown_ne hg4 (show wr.heap.size ≠ w.heap.size + 1 by omega) z0;have y1 := grown_ne hg4 (show wr.heap.size ≠ w.heap.size + 1 by omega) z1;clear hm3 ho3 ho4 hg4))
    all_goals
     go_wp2
     go_roundw
     case rel =>
      have hgf := HG4.out;have hm3 := HM3.out;have hB3 := Below.grown ((HB1.out.alloc (by omega) (.cells #[.string y2] 9)).drew) hm3.2.1 (by simp; omega) (fun g hg => by have := HNE.out g hg; omega);refine ⟨k + 1, by omega, by go_num, Below.grown hB3 hgf hB3.size (fun g hg => by cases hg; omega), ?_, ?_⟩
      . have h1 := hgf.size
        have h2 := hm3.2.1.size;simp at h2;omega
      . have key := grp_push (B := w.heap.size + 2) (b := w.heap.size + 1) (n := n) HV.out (fun z => (HR.out z).below (below_alloc_drew _ _)) HA.out hm3 (by simp) HO4.out hgf (by omega)
        exact ⟨n + 1, Nat.succ_le_succ HN.out, by rw [show tgt (es.take (k + 1)) = _ from funext HTG.out]; exact key⟩
     case measure => simp [intOf]; omega
  . have hke : k = es.length := by omega
    have HK := hid hke;clear hke HE hbl;go_wp2
    go_ret
    have hk2 := HK.out;subst hk2;obtain ⟨n, _, hg⟩ := HG.out;rw [List.take_length] at hg;exact ⟨rfl, ⟨n, hg⟩, HB.out⟩
end Go.Proofs.YtpnogmicfomofaaGreatDoor
namespace Go.Proofs.YtpnogmicfomofaaGreatDoor
open Go.RowKit Go.Sort Go.Lib
open Go.Lib (hid)
theorem run_copy_k {P : Program} (k : Nat) (w : World) (dT sT ty elem : TypeId) (b o dLen dCap : Nat) (a : Addr) (sLen sCap m : Nat) (cs : List Value)
  (hu : P.underlying dT = some (.slice elem)) (hs : (P.info? elem).map (·.size) = some k) (hm : Nat.min sLen dLen = m) (hn : cs.length = m * k)
  (hsrc : ∀ j v, cs[j]? = some v -> w.cell? (a.add j) = some v) (hc : ∀ j, j < cs.length -> (w.cell? ⟨b, o + j, none⟩).isSome = true) (hf : ∀ j, j < cs.length -> w.frozen? ⟨b, o + j, none⟩ = false) (h1 : ∀ v ∈ cs, v.oneCell' = true) :
  (Builtin.copy_ #[dT, sT] ty #[.slice (some ⟨b, o, none⟩) dLen dCap, .slice (some a) sLen sCap]).run P w = .ok (goInt m) (w.setCells b o cs) := by
 have hl := run_loadCells_list (P := P) w a cs hsrc;have hst := run_storeCells_cells (P := P) b o cs 0 w (by simpa using hc) (by simpa using hf) h1;cases hq : P.info? elem with
 | none => simp [hq] at hs
 | some i =>
   have hi : i.size = k := by simpa [hq] using hs
   rw [hn] at hl;simp [Builtin.copy_, run_underlying hu, Builtin.lenOf, Builtin.firstCells, sizeOf, typeInfo, hq, hi, hm, hl, hst]
def spl (X : List Value) (o : Nat) (vs : List Value) : List Value := X.take o ++ vs ++ X.drop (o + vs.length)
theorem spl_len {X vs : List Value} {o : Nat} (h : o + vs.length <= X.length) : (spl X o vs).length = X.length := by
 unfold spl; simp; omega
theorem heap_setCell_at {w : World} {g o : Nat} {v : Value} {cur : Array Value} {e : TypeId} {fr : Nat × Nat} (h : w.heap[g]? = some (.cells cur e fr)) : (w.setCell ⟨g, o, none⟩ v).heap[g]? = some (.cells (cur.setIfInBounds o v) e fr) := by
 simp only [World.setCell, Array.getElem?_modify, h];simp
theorem spl_cons (X : List Value) (o : Nat) (v : Value) (vs : List Value) (h : o < X.length) : spl (X.set o v) (o + 1) vs = spl X o (v :: vs) := by
 unfold spl
 have e1 : (X.set o v).take (o + 1) = X.take o ++ [v] := by
  rw [List.take_succ_eq_append_getElem (by simpa using h), List.take_set_of_le (Nat.le_refl _)];simp
 have e2 : (X.set o v).drop (o + 1 + vs.length) = X.drop (o + 1 + vs.length) := by rw [List.drop_set_of_lt (by omega)]
 rw [e1, e2, List.length_cons];have e3 : o + 1 + vs.length = o + (vs.length + 1) := by omega
 rw [e3]; simp
theorem heap_setCells_at (g : Nat) {e : TypeId} {fr : Nat × Nat} : ∀ (vs : List Value) (o : Nat) (w : World) (cur : Array Value), w.heap[g]? = some (.cells cur e fr) -> o + vs.length <= cur.size -> (w.setCells g o vs).heap[g]? = some (.cells (spl cur.toList o vs).toArray e fr)
 | [], o, w, cur, h, _ => by
   rw [World.setCells, h]; simp [spl]
 | v :: vs, o, w, cur, h, hl => by
   rw [World.setCells];simp only [List.length_cons] at hl;rw [heap_setCells_at g vs (o + 1) _ (cur.setIfInBounds o v) (heap_setCell_at h) (by simp; omega)];rw [Array.toList_setIfInBounds, spl_cons _ _ _ _ (by simpa using (show o < cur.size by omega))]
theorem heap_setCells_ne (g : Nat) {b : Nat} : ∀ (vs : List Value) (o : Nat) (w : World), b ≠ g -> (w.setCells g o vs).heap[b]? = w.heap[b]?
 | [], _, _, _ => rfl
 | v :: vs, o, w, h => by rw [World.setCells, heap_setCells_ne g vs (o + 1) _ h, Below.heap_setCell _ _ _ _ h]
theorem size_setCells' (g : Nat) : ∀ (vs : List Value) (o : Nat) (w : World), (w.setCells g o vs).heap.size = w.heap.size
 | [], _, _ => rfl
 | v :: vs, o, w => by rw [World.setCells, size_setCells' g vs (o + 1) _]; simp [World.setCell]
theorem same_setCells (g : Nat) : ∀ (vs : List Value) (o : Nat) (w : World), (w.setCells g o vs).os = w.os /\ (w.setCells g o vs).tape = w.tape /\ (w.setCells g o vs).output = w.output
 | [], _, _ => ⟨rfl, rfl, rfl⟩
 | v :: vs, o, w => by rw [World.setCells]; exact same_setCells g vs (o + 1) _
theorem spl_mid (A M R Y : List Value) (h : M.length = Y.length) : spl (A ++ (M ++ R)) A.length Y = A ++ (Y ++ R) := by
 unfold spl;rw [List.take_left', List.drop_append, List.append_assoc]
 . simp only [<- h, Nat.add_sub_cancel_left]
   rw [List.drop_eq_nil_of_le (by omega), List.nil_append, List.drop_left'];rfl
 . rfl
theorem parts4 (X : List Value) (p s d : Nat) (h : p + s + d <= X.length) : ∃ A M1 M2 R, X = A ++ (M1 ++ (M2 ++ R)) /\ A.length = p /\ M1.length = s /\ M2.length = d /\ A = X.take p :=
 ⟨X.take p, (X.drop p).take s, ((X.drop p).drop s).take d, ((X.drop p).drop s).drop d, by rw [List.take_append_drop, List.take_append_drop, List.take_append_drop], by simp; omega, by simp; omega, by simp; omega, rfl⟩
theorem spl_YD (X Y D : List Value) (p s d : Nat) (h : p + s + d <= X.length) (hY : Y.length = s) (hD : D.length = d) : ∃ R, spl (spl X p Y) (p + s) D = X.take p ++ Y ++ D ++ R := by
 obtain ⟨A, M1, M2, R, rfl, h1, h2, h3, hA⟩ := parts4 X p s d h;refine ⟨R, ?_⟩;rw [<- hA, <- h1, spl_mid A M1 (M2 ++ R) Y (by omega)];have e : A ++ (Y ++ (M2 ++ R)) = (A ++ Y) ++ (M2 ++ R) := by simp
 have e2 : A.length + s = (A ++ Y).length := by simp; omega
 rw [e, e2, spl_mid (A ++ Y) M2 R D (by omega)];simp
theorem spl_DY (X Y D : List Value) (p s d : Nat) (h : p + s + d <= X.length) (hY : Y.length = s) (hD : D.length = d) : ∃ R, spl (spl X (p + s) D) p Y = X.take p ++ Y ++ D ++ R := by
 obtain ⟨A, M1, M2, R, rfl, h1, h2, h3, hA⟩ := parts4 X p s d h;refine ⟨R, ?_⟩;rw [<- hA];have e : A ++ (M1 ++ (M2 ++ R)) = (A ++ M1) ++ (M2 ++ R) := by simp
 have e2 : p + s = (A ++ M1).length := by simp; omega
 rw [e, e2, spl_mid (A ++ M1) M2 R D (by omega)];have e3 : (A ++ M1) ++ (D ++ R) = A ++ (M1 ++ (D ++ R)) := by simp
 rw [e3, <- h1, spl_mid A M1 (D ++ R) Y (by omega)];simp
theorem insert_flat {α : Type} (enc : α -> List Value) {sz : Nat} (hsz : ∀ x, (enc x).length = sz) (ys : List α) (y : α) (i : Nat) (hi : i <= ys.length) : (ys.insertIdx i y).flatMap enc = (ys.flatMap enc).take (i * sz) ++ enc y ++ (ys.flatMap enc).drop (i * sz) := by
 have e : ys.insertIdx i y = ys.take i ++ y :: ys.drop i := by
  induction ys generalizing i with
  | nil =>
    have h0 : i = 0 := by simpa using hi
    subst h0;rfl
  | cons a l ih =>
    cases i with
    | zero => rfl
    | succ i => simp [ih i (by simpa using hi)]
 have hl : ((ys.take i).flatMap enc).length = i * sz := by rw [flat_len enc sz hsz]; simp [Nat.min_eq_left hi]
 have e2 : ys.flatMap enc = (ys.take i).flatMap enc ++ (ys.drop i).flatMap enc := by rw [<- List.flatMap_append, List.take_append_drop]
 rw [e, e2, List.flatMap_append, List.flatMap_cons, <- hl, List.take_left', List.drop_left']
 . simp
 . rfl
 . rfl
def InsP {α : Type} (enc : α -> List Value) (E : TypeId) (sz B : Nat) (ys : List α) (y : α) (i : Nat) (v : Value) (w : World) (e : Ending) (w' : World) : Prop :=
 ∃ g cap, e = .returned (.slice (some ⟨g, 0, none⟩) (ys.length + 1) cap) /\ w'.ownsRow B E sz (.slice (some ⟨g, 0, none⟩) (ys.length + 1) cap) (ys.insertIdx i y).length ((ys.insertIdx i y).flatMap enc) /\ w.grownBy w' v.ownBlock /\ (v.ownBlock = some g ∨ g = w.heap.size)
theorem insert_len {α : Type} (ys : List α) (y : α) (i : Nat) (hi : i <= ys.length) : (ys.insertIdx i y).length = ys.length + 1 := by rw [List.length_insertIdx]; simp [hi]
theorem insert_end {α : Type} (ys : List α) (y : α) : ys.insertIdx ys.length y = ys ++ [y] := by
 induction ys with
 | nil => rfl
 | cons a l ih => simp [ih]
theorem heap_setCells_congr (g : Nat) : ∀ (vs : List Value) (o : Nat) (W W' : World), W.heap = W'.heap -> (W.setCells g o vs).heap = (W'.setCells g o vs).heap
 | [], _, _, _, h => h
 | v :: vs, o, W, W', h => by
   rw [World.setCells, World.setCells];exact heap_setCells_congr g vs (o + 1) _ _ (by simp [World.setCell, h])
theorem shape_of {w : World} {b : Nat} {C : Array Value} {E : TypeId} {fr : Nat × Nat} (h : w.heap[b]? = some (.cells C E fr)) : w.shape? b = some (E, C.size) := by unfold World.shape?; rw [h]
theorem frozen_of {w : World} {b : Nat} {C : Array Value} {E : TypeId} (h : w.heap[b]? = some (.cells C E (0, 0))) (o : Nat) : w.frozen? ⟨b, o, none⟩ = false := by unfold World.frozen?; simp [h]
theorem cell_of {w : World} {b : Nat} {C : Array Value} {E : TypeId} {fr : Nat × Nat} (h : w.heap[b]? = some (.cells C E fr)) (o : Nat) : w.cell? ⟨b, o, none⟩ = C[o]? := by unfold World.cell?; simp [h]
theorem own_of {w : World} {g n cap sz B : Nat} {E : TypeId} {X xs : List Value} (h : w.heap[g]? = some (.cells X.toArray E (0, 0))) (hB : B <= g) (hn : n <= cap) (hc : cap <= maxLen) (hX : X.length = cap * sz) (hl : xs.length = n * sz) (ht : X.take (n * sz) = xs) : w.ownsRow B E sz (.slice (some ⟨g, 0, none⟩) n cap) n xs :=
 ⟨hl, Or.inr ⟨g, cap, X.toArray, rfl, hB, h, hn, hc, by simpa using hX, by simpa using ht⟩⟩
set_option maxHeartbeats 4000000 in
set_option maxRecDepth 100000 in
theorem ins_str (B : Nat) (ys : List ByteArray) (y : ByteArray) (i : Nat) (v : Value) (vb : Nat) (w : World) (hi : i <= ys.length) (hown : w.ownsRow B 9 1 v ys.length (ys.flatMap encS)) (hy : w.heap[vb]? = some (.cells (encS y).toArray 9 (0, 0))) (hvb : v.ownBlock ≠ some vb) (hn : ys.length + 1 <= 1000000) (hB : B <= w.heap.size) :
  Calls Tryz.prog 54 #[v, .int .i64 (i : Nat), .slice (some ⟨vb, 0, none⟩) 1 1] w (InsP encS 9 1 B ys y i v w) := by
 by_cases hin : i = ys.length
 . subst hin
   have HO := hid hown;obtain ⟨r, c, rfl, hnc, hcm⟩ := own_form hown;unfold maxLen at hcm;have hy' : w.heap[vb]? = some (.cells (([y] : List ByteArray).flatMap encS).toArray 9 (0, 0)) := by simpa using hy
   have HY := hid hy';have HN := hid hn;obtain ⟨ob, hob⟩ : ∃ ob, ∀ n k, (Value.slice r n k).ownBlock = ob := ⟨(Value.slice r 0 0).ownBlock, fun n k => by cases r <;> rfl⟩;have HOB := hid hob;clear hown hy hy' hvb hi hob;go_enter Tryz.func54, Tryz.ntmps54;go_wp2_with (at_builtin; refine wpList_append_rows encS encS_len encS_one Tryz.underlying27 strinfo rfl (by omega) (by omega) rfl (.tmp 23) (.tmp 24) rfl B _ ys rfl HO.out vb 1 1 [y] rfl (by omega) rfl HY.out (by have := HN.out; omega) hB ?_; intro g cap w' ho hg hat hlt)
   all_goals
    have HO2 := hid ho;have HG2 := hid (show w.grownBy w' ob from by rw [<- HOB.out ys.length c]; exact hg);have HA2 := hid (show ob = some g ∨ g = w.heap.size from by rw [<- HOB.out ys.length c]; exact hat);clear ho hg hat hlt;go_wp2
    go_ret
    exact ⟨g, cap, rfl, by rw [insert_end]; exact HO2.out, by rw [HOB.out]; exact HG2.out, by rw [HOB.out]; exact HA2.out⟩
 have hlt : i < ys.length := by omega
 have HP := hid (show ∀ g cap w', w'.ownsRow B 9 1 (.slice (some ⟨g, 0, none⟩) (ys.length + 1) cap) (ys.insertIdx i y).length ((ys.insertIdx i y).flatMap encS) -> w.grownBy w' v.ownBlock -> (v.ownBlock = some g ∨ g = w.heap.size) -> InsP encS 9 1 B ys y i v w (.returned (.slice (some ⟨g, 0, none⟩) (ys.length + 1) cap)) w' from fun g cap w' h1 h2 h3 => ⟨g, cap, rfl, h1, h2, h3⟩);rw [insert_flat encS encS_len ys y i hi, insert_len ys y i hi] at HP;simp only [Nat.mul_one] at HP;obtain ⟨hfl, hr⟩ := hown
 have hone : ∀ u ∈ ys.flatMap encS, u.oneCell' = true := fun u hu => by
  obtain ⟨x, _, hx⟩ := List.mem_flatMap.1 hu;exact encS_one x u hx
 have hyl := encS_len y;have hyo := encS_one y;generalize hYS : ys.flatMap encS = fl at *;clear hYS;generalize encS y = ey at *;generalize ys.length = n at *;rcases hr with ⟨_, h0⟩ | ⟨g0, cap, cur, rfl, hg0, hh, hnc, hcm, hcs, htk⟩
 . omega
 have hne : g0 ≠ vb := fun e => hvb (by simp [Value.ownBlock, e]);have hgl : g0 < w.heap.size := lt_of_block hh;have hvl : vb < w.heap.size := lt_of_block hy;unfold maxLen at hcm
 have hcell : ∀ (j : Nat) (u : Value), fl[j]? = some u -> w.cell? ⟨g0, j, none⟩ = some u := fun j u hj => by
  have hj' : j < n * 1 := by have := (List.getElem?_eq_some_iff.1 hj).1; omega
  rw [cell_of hh, <- hj, <- htk, List.getElem?_take, if_pos hj', Array.getElem?_toList]
 have hvc : ∀ (j : Nat) (u : Value), ey[j]? = some u -> w.cell? ⟨vb, j, none⟩ = some u := fun j u hj => by
  rw [cell_of hy]; simpa using hj
 have hsz : (Tryz.prog.info? 9).map (·.size) = some 1 := by
  obtain ⟨i0, h0, _, h1, _⟩ := info_parts strinfo;rw [h0]; simp [h1]
 have hdl : (fl.drop (i)).length = (n - i) * 1 := by rw [List.length_drop, hfl]; omega
 have htl : (fl.take (i)).length = i * 1 := by rw [List.length_take, hfl]; omega
 have hdo : ∀ u ∈ fl.drop (i), u.oneCell' = true := fun u hu => hone u (List.mem_of_mem_drop hu);have hadd : ∀ b o j : Nat, (⟨b, o, none⟩ : Addr).add j = ⟨b, o + j, none⟩ := fun b o j => by unfold Addr.add; by_cases h : j = 0 <;> simp [h]
 have hz2 : ¬ ((i : Int) = (n : Int)) := by omega
 have hw1 : IntKind.i64.wrap ((i : Int) + 1) = (i : Int) + 1 := by rw [IntKind.wrap_i64]; omega
 have htn : ((i : Int) + 1).toNat = i + 1 := by omega
 have hi0 : (0 : Int) <= (i : Int) + 1 := by omega
 have hi3 : (i : Int) <= (n : Int) := by omega
 by_cases hroom : cap < n + 1
 ·
  obtain ⟨i0, hinf, hz0, hzs, hzb⟩ := info_parts strinfo;have hz3 : (cap : Int) < (n : Int) + 1 := by omega
  have hkk : (n : Int) + 1 - (i : Int) = ((n + 1 - i : Nat) : Int) := by omega
  have hik : i + (n + 1 - i) = n + 1 := by omega
  have hold : (Builtin.firstCells i0.size i (.slice (some ⟨g0, 0, none⟩) i cap)).run Tryz.prog w.drew = .ok (fl.take (i)).toArray w.drew := by
   rw [hzs]
   exact run_firstCells_some w.drew 1 i ⟨g0, 0, none⟩ i cap (fl.take (i)) htl (fun j u hj => by
    rw [hadd, Nat.zero_add];rw [List.getElem?_take] at hj;split at hj
    . exact hcell j u hj
    . cases hj)
  have hrz : ∀ ty, (Builtin.append_ #[27, 3] ty #[.slice (some ⟨g0, 0, none⟩) i cap, .int .i64 ((n : Int) + 1 - (i : Int))]).run Tryz.prog w =
    .ok (.slice (some ⟨w.heap.size, 0, none⟩) (n + 1) (grownCap w (n + 1) cap 9)) (w.drew.alloc (.cells ((fl.take (i)).toArray ++ Builtin.zeroCells (.string ByteArray.empty : Value).cells (n + 1 - i) ++ Builtin.zeroCells (.string ByteArray.empty : Value).cells (grownCap w (n + 1) cap 9 - (n + 1))) 9)) := fun ty => by
   have h := Lib.run_append_grow_zeros w 27 3 ty 9 i0 _ .i64 .i64 Tryz.underlying27 Tryz.underlying3 hinf hz0 (some ⟨g0, 0, none⟩) i cap (fl.take (i)) hold (n + 1 - i) (by omega) (by omega) (by omega) (by omega) (by rw [hzb]; omega) (by rw [hzb, hik]; exact growslice_fits hroom (by omega));rw [hik] at h;rw [hkk];exact h
  have hGn : n + 1 <= grownCap w (n + 1) cap 9 := grownCap_ge w _ _ _
  have hG63 : grownCap w (n + 1) cap 9 <= 9223372036854775807 := by
   have := grownCap_le_maxLen w (n + 1) cap 9 (by unfold maxLen; omega);unfold maxLen at this;omega
  generalize hG : grownCap w (n + 1) cap 9 = G at *;clear hG;obtain ⟨ROW, hROW⟩ : ∃ ROW : Array Value, ROW = (fl.take (i)).toArray ++ Builtin.zeroCells (.string ByteArray.empty : Value).cells (n + 1 - i) ++ Builtin.zeroCells (.string ByteArray.empty : Value).cells (G - (n + 1)) := ⟨_, rfl⟩;rw [<- hROW] at hrz
  have hRl : ROW.size = G * 1 := by
   rw [hROW];simp only [Array.size_append, List.size_toArray, htl, Builtin.zeroCells];simp [Value.cells];omega
  have hRt : ROW.toList.take (i) = fl.take (i) := by
   rw [hROW];simp only [Array.toList_append, List.append_assoc];rw [List.take_append_of_le_length (by simp [htl] <;> omega), List.take_of_length_le (by simp [htl] <;> omega)]
  clear hROW
  have HW : ∀ W : World, W.heap = (w.alloc (.cells ROW 9)).heap -> ∀ ty dc, (Builtin.copy_ #[27, 27] ty #[.slice (some ⟨w.heap.size, i, none⟩) (n + 1 - i) dc, .slice (some ⟨vb, 0, none⟩) 1 1]).run Tryz.prog W = .ok (goInt 1) (W.setCells w.heap.size (i) ey) := fun W hW ty dc => by
   have hN : W.heap[w.heap.size]? = some (.cells ROW 9 (0, 0)) := by rw [hW]; exact heap_alloc_new w _
   have hV : W.heap[vb]? = some (.cells ey.toArray 9 (0, 0)) := by rw [hW, Below.heap_alloc _ _ _ hvl]; exact hy
   exact run_copy_k 1 W _ _ ty 9 w.heap.size (i) (n + 1 - i) dc ⟨vb, 0, none⟩ 1 1 1 ey Tryz.underlying27 hsz (by simp only [Nat.min_def]; split <;> omega) (by rw [hyl])
    (fun j u hj => by rw [hadd, Nat.zero_add, cell_of hV]; simpa using hj)
    (fun j hj => by rw [cell_of hN, Array.getElem?_eq_getElem (by omega)]; rfl) (fun j _ => frozen_of hN _) hyo
  have HW2 : ∀ W : World, W.heap = ((w.alloc (.cells ROW 9)).setCells w.heap.size (i) ey).heap -> ∀ ty dc sc, (Builtin.copy_ #[27, 27] ty #[.slice (some ⟨w.heap.size, i + 1, none⟩) (n + 1 - (i + 1)) dc, .slice (some ⟨g0, i, none⟩) (n - i) sc]).run Tryz.prog W = .ok (goInt (n - i : Nat)) (W.setCells w.heap.size (i + 1) (fl.drop (i))) := fun W hW ty dc sc => by
   have hN : W.heap[w.heap.size]? = some (.cells (spl ROW.toList (i) ey).toArray 9 (0, 0)) := by rw [hW]; exact heap_setCells_at _ ey _ _ _ (heap_alloc_new w _) (by omega)
   have hG : W.heap[g0]? = some (.cells cur 9 (0, 0)) := by rw [hW, heap_setCells_ne _ _ _ _ (show g0 ≠ w.heap.size by omega), Below.heap_alloc _ _ _ hgl]; exact hh
   have hl := spl_len (X := ROW.toList) (vs := ey) (o := i) (by simp; omega)
   exact run_copy_k 1 W _ _ ty 9 w.heap.size (i + 1) (n + 1 - (i + 1)) dc ⟨g0, i, none⟩ (n - i) sc (n - i) (fl.drop (i)) Tryz.underlying27 hsz (by simp only [Nat.min_def]; split <;> omega) hdl
    (fun j u hj => by
     rw [hadd, cell_of hG];have := hcell (i + j) u (by rwa [List.getElem?_drop] at hj)
     rwa [cell_of hh] at this)
    (fun j hj => by rw [cell_of hN, Array.getElem?_eq_getElem (by simp at hl ⊢; omega)]; rfl) (fun j _ => frozen_of hN _) hdo
  have HROW : ∃ R, (spl (spl ROW.toList (i) ey) (i + 1) (fl.drop (i))) = fl.take (i) ++ ey ++ fl.drop (i) ++ R := by
   obtain ⟨R, hR⟩ := spl_YD ROW.toList ey (fl.drop (i)) (i) 1 ((n - i) * 1) (by simp; omega) hyl hdl;exact ⟨R, by rw [show i + 1 = i + 1 by omega, hR, hRt]⟩
  have HFB := hid (show ∀ W : World, W.heap = (((w.alloc (.cells ROW 9)).setCells w.heap.size (i) ey).setCells w.heap.size (i + 1) (fl.drop (i))).heap -> W.os = w.os -> W.tape = w.tape -> W.output = w.output -> InsP encS 9 1 B ys y i (.slice (some ⟨g0, 0, none⟩) n cap) w (.returned (.slice (some ⟨w.heap.size, 0, none⟩) (n + 1) G)) W from fun W hW e1 e2 e3 => by
   obtain ⟨R, hR⟩ := HROW;have hl1 := spl_len (X := ROW.toList) (vs := ey) (o := i) (by simp; omega);have hl2 := spl_len (X := spl ROW.toList (i) ey) (vs := fl.drop (i)) (o := i + 1) (by rw [hl1, hdl]; simp; omega)
   have hN : W.heap[w.heap.size]? = some (.cells (spl (spl ROW.toList (i) ey) (i + 1) (fl.drop (i))).toArray 9 (0, 0)) := by
    rw [hW];have h1 := heap_setCells_at w.heap.size ey (i) (w.alloc (.cells ROW 9)) ROW (heap_alloc_new w _) (by omega);have h2 := heap_setCells_at w.heap.size (fl.drop (i)) (i + 1) _ _ h1 (by simp only [List.size_toArray]; rw [hl1, hdl]; simp; omega);simpa using h2
   refine HP.out w.heap.size G W (own_of hN hB hGn (by unfold maxLen; omega) (by rw [hl2, hl1]; simpa using hRl) (by simp only [List.length_append, htl, hdl, hyl]; omega) ?_) ⟨e1, e2, e3, ?_, fun b hb hrow => ?_⟩ (Or.inr rfl)
   . rw [hR, List.take_left' (by simp only [List.length_append, htl, hdl, hyl]; omega)]
   . rw [hW, size_setCells', size_setCells']; simp
   . rw [hW, heap_setCells_ne _ _ _ _ (show b ≠ w.heap.size by omega), heap_setCells_ne _ _ _ _ (show b ≠ w.heap.size by omega), Below.heap_alloc _ _ _ hb])
  have hGi : ¬ (G = i) := by omega
  have hGim : ¬ (G = i + 1) := by omega
  have hci : ¬ (cap = i) := by omega
  obtain ⟨W1, hW1⟩ : ∃ W1, W1 = ((w.alloc (.cells ROW 9)).drew).setCells w.heap.size (i) ey := ⟨_, rfl⟩;have hS1 := same_setCells w.heap.size ey (i) ((w.alloc (.cells ROW 9)).drew);have HC1 := HW ((w.alloc (.cells ROW 9)).drew) rfl;rw [<- hW1] at hS1 HC1;have hH1 : W1.heap = ((w.alloc (.cells ROW 9)).setCells w.heap.size (i) ey).heap := by rw [hW1]; exact heap_setCells_congr _ _ _ _ _ rfl
  have HC2 := HW2 W1.drew hH1;obtain ⟨W2, hW2⟩ : ∃ W2, W2 = (W1.drew).setCells w.heap.size (i + 1) (fl.drop (i)) := ⟨_, rfl⟩;have hS2 := same_setCells w.heap.size (fl.drop (i)) (i + 1) W1.drew;rw [<- hW2] at hS2 HC2;have HFIN := hid (HFB.out W2 (by rw [hW2]; exact heap_setCells_congr _ _ _ _ _ hH1) (hS2.1.trans hS1.1) (hS2.2.1.trans hS1.2.1) (hS2.2.2.trans hS1.2.2));have HC1h := hid HC1;have HC2h := hid HC2;have HRZ := hid hrz;clear HW HW2 hrz HROW hcell hvc hone hyo hdo hadd hRl hRt htl hdl hfl hyl hcs htk hh hy hinf hz0 hzs hzb hold hkk hik hsz hvb hB hg0 HP hS1 hS2 HC1 HC2 hW1 hW2 hH1 HFB;go_enter Tryz.func54, Tryz.ntmps54
  go_wp2_with (first
   | (at_builtin; refine Lib.wpList_append_run _ rfl _ _ _ _ rfl _ _ rfl rfl _ _ (HRZ.out _) ?_)
   | (at_builtin; refine wpList_copy_runI _ rfl _ _ 27 27 rfl _ _ rfl rfl (HC1h.out _ _) ?_)
   | (simp only [HC1h.out, Result.andThen]))
  go_region_law (refine step_copy_runI rfl _ _ 27 27 rfl (.slice (some ⟨w.heap.size, i + 1, none⟩) (n + 1 - (i + 1)) (G - (i + 1))) (.slice (some ⟨g0, i, none⟩) (n - i) (cap - i)) (by simp [Act.eval, Act.put]) (by simp [Act.eval, Act.put]) (HC2h.out 3 (G - (i + 1)) (cap - i)) ?_)
  all_goals
   go_wp2
   go_ret
   exact HFIN.out
 ·
  have hov : ∀ lb cb, (callFunc 80 #[.slice (some ⟨vb, 0, none⟩) 1 1, .slice (some ⟨g0, i + 1, none⟩) lb cb]).run Tryz.prog w = .ok (.value (.bool false)) w := fun lb cb => by
   rw [run_callFunc_extern Tryz.func80 (by kernel_rfl) (by kernel_rfl) (by kernel_rfl) (e := Extern.SlicesOverlaps.overlaps #[27, 27] #[4]) (by kernel_rfl),
    Lib.run_overlaps_apart w 27 4 9 Tryz.underlying27 1 Tryz.sizeOf9 ⟨vb, 0, none⟩ ⟨g0, i + 1, none⟩ 1 1 lb cb (fun e => hne e.symm) 9 9 _ _ (shape_of hy) (shape_of hh) (by rw [hcs]; omega) (frozen_of hy _) (frozen_of hy _)]
   rfl
  have hct : cur.toList.take (i) = fl.take (i) := by rw [<- htk, List.take_take]; congr 1; omega
  have HC1 : ∀ ty dc sc, (Builtin.copy_ #[27, 27] ty #[.slice (some ⟨g0, i + 1, none⟩) (n + 1 - (i + 1)) dc, .slice (some ⟨g0, i, none⟩) (n + 1 - i) sc]).run Tryz.prog w.drew = .ok (goInt (n - i : Nat)) ((w.drew).setCells g0 (i + 1) (fl.drop (i))) := fun ty dc sc => by
   have hN : w.drew.heap[g0]? = some (.cells cur 9 (0, 0)) := hh
   exact run_copy_k 1 w.drew _ _ ty 9 g0 (i + 1) (n + 1 - (i + 1)) dc ⟨g0, i, none⟩ (n + 1 - i) sc (n - i) (fl.drop (i)) Tryz.underlying27 hsz (by simp only [Nat.min_def]; split <;> omega) hdl
    (fun j u hj => by
     rw [hadd];exact hcell (i + j) u (by rwa [List.getElem?_drop] at hj))
    (fun j hj => by rw [cell_of hN, Array.getElem?_eq_getElem (by omega)]; rfl) (fun j _ => frozen_of hN _) hdo
  obtain ⟨W1, hW1⟩ : ∃ W1, W1 = (w.drew).setCells g0 (i + 1) (fl.drop (i)) := ⟨_, rfl⟩;have hS1 := same_setCells g0 (fl.drop (i)) (i + 1) w.drew;have hl1 := spl_len (X := cur.toList) (vs := fl.drop (i)) (o := i + 1) (by rw [hdl]; simp; omega);have hN1 : W1.heap[g0]? = some (.cells (spl cur.toList (i + 1) (fl.drop (i))).toArray 9 (0, 0)) := by rw [hW1]; exact heap_setCells_at _ _ _ _ _ hh (by rw [hdl]; omega)
  have hO1 : ∀ b, b ≠ g0 -> W1.heap[b]? = w.heap[b]? := fun b hb => by rw [hW1, heap_setCells_ne _ _ _ _ hb]; rfl
  have hZ1 : W1.heap.size = w.heap.size := by rw [hW1, size_setCells']; rfl
  rw [<- hW1] at hS1 HC1
  have HC2 : ∀ W : World, W.heap = W1.heap -> ∀ ty dc, (Builtin.copy_ #[27, 27] ty #[.slice (some ⟨g0, i, none⟩) (n + 1 - i) dc, .slice (some ⟨vb, 0, none⟩) 1 1]).run Tryz.prog W = .ok (goInt 1) (W.setCells g0 (i) ey) := fun W hW ty dc => by
   have hN : W.heap[g0]? = some (.cells (spl cur.toList (i + 1) (fl.drop (i))).toArray 9 (0, 0)) := by rw [hW]; exact hN1
   have hV : W.heap[vb]? = some (.cells ey.toArray 9 (0, 0)) := by rw [hW, hO1 vb (fun e => hne e.symm)]; exact hy
   exact run_copy_k 1 W _ _ ty 9 g0 (i) (n + 1 - i) dc ⟨vb, 0, none⟩ 1 1 1 ey Tryz.underlying27 hsz (by simp only [Nat.min_def]; split <;> omega) (by rw [hyl])
    (fun j u hj => by rw [hadd, Nat.zero_add, cell_of hV]; simpa using hj)
    (fun j hj => by rw [cell_of hN, Array.getElem?_eq_getElem (by simp at hl1 ⊢; omega)]; rfl) (fun j _ => frozen_of hN _) hyo
  have HFC : ∀ W : World, W.heap = W1.heap -> W.os = w.os -> W.tape = w.tape -> W.output = w.output -> InsP encS 9 1 B ys y i (.slice (some ⟨g0, 0, none⟩) n cap) w (.returned (.slice (some ⟨g0, 0, none⟩) (n + 1) cap)) (W.setCells g0 (i) ey) := fun W hW e1 e2 e3 => by
   obtain ⟨R, hR⟩ := spl_DY cur.toList ey (fl.drop (i)) (i) 1 ((n - i) * 1) (by simp; omega) hyl hdl;rw [show i + 1 = i + 1 by omega, hct] at hR;have hS := same_setCells g0 ey (i) W;have hN : W.heap[g0]? = some (.cells (spl cur.toList (i + 1) (fl.drop (i))).toArray 9 (0, 0)) := by rw [hW]; exact hN1
   have hN2 := heap_setCells_at g0 ey (i) W _ hN (by simp only [List.size_toArray]; rw [hl1, hyl]; simp; omega);have hl2 := spl_len (X := spl cur.toList (i + 1) (fl.drop (i))) (vs := ey) (o := i) (by rw [hl1, hyl]; simp; omega);refine HP.out g0 cap _ (own_of (X := spl (spl cur.toList (i + 1) (fl.drop (i))) (i) ey) (by simpa using hN2) hg0 (by omega) (by unfold maxLen; omega) (by rw [hl2, hl1]; simpa using hcs) (by simp only [List.length_append, htl, hdl, hyl]; omega) ?_) ⟨hS.1.trans e1, hS.2.1.trans e2, hS.2.2.trans e3, ?_, fun b hb hrow => ?_⟩ (Or.inl rfl)
   . rw [hR, List.take_left' (by simp only [List.length_append, htl, hdl, hyl]; omega)]
   . rw [size_setCells', hW, hZ1]; exact Nat.le_refl _
   . have hbg : b ≠ g0 := fun e => by subst e; first | exact hrow rfl | exact absurd hrow (by simp [Value.ownBlock])
     rw [heap_setCells_ne _ _ _ _ hbg, hW, hO1 b hbg]
  have HFh := hid (fun W h => HFC W h);have HFIN := hid (HFC W1 rfl hS1.1 hS1.2.1 hS1.2.2);have HFIN2 := hid (HFC W1.drew rfl hS1.1 hS1.2.1 hS1.2.2);have HC1h := hid HC1;have HC2h := hid (HC2 W1 rfl);have HC2d := hid (HC2 W1.drew rfl);have hcap : ¬ ((cap : Int) < (n : Int) + 1) := by omega
  have hci : ¬ (cap = i) := by omega
  have hcim : ¬ (cap = i + 1) := by omega
  have hrm : n + 1 <= cap := by omega
  have hb3 : (i : Int) <= (n : Int) + 1 := by omega
  clear HC1 HC2 HFC hcell hvc hone hyo hdo hadd htl hdl hfl hyl hcs htk hh hy hsz hvb hB hg0 HP hS1 hW1 hN1 hO1 hZ1 hl1 hct HFh;go_enter Tryz.func54, Tryz.ntmps54
  go_wp2_with (first
   | (simp only [hov])
   | (simp only [HC2h.out, Result.andThen])
   | (simp only [HC2d.out, Result.andThen]))
  have mixed : Tryz.prog.follows Departure.mixedOrders = true := by kernel_rfl
  go_region_law_o (refine step_copy_runI rfl _ _ 27 27 rfl (.slice (some ⟨g0, i + 1, none⟩) (n + 1 - (i + 1)) (cap - (i + 1))) (.slice (some ⟨g0, i, none⟩) (n + 1 - i) (cap - i)) (by simp [Act.eval, Act.put]) (by simp [Act.eval, Act.put]) (HC1h.out 3 (cap - (i + 1)) (cap - i)) ?_)
  all_goals
   go_wp2_with (first
    | (at_builtin; refine wpList_copy_runI _ rfl _ _ 27 27 rfl _ _ rfl rfl (HC2h.out _ _) ?_)
    | (simp only [HC2h.out, Result.andThen])
    | (simp only [HC2d.out, Result.andThen]))
   go_ret
   first | exact HFIN.out | exact HFIN2.out
end Go.Proofs.YtpnogmicfomofaaGreatDoor
namespace Go.Proofs.YtpnogmicfomofaaGreatDoor
open Go.RowKit Go.Sort Go.Lib Go.Maps
open Go.Lib (hid)
abbrev BL := List UInt8
theorem compact_asc (d : Array BL) (hs : ∀ j, j + 1 < d.size -> d[j]! <= d[j + 1]!) : ∀ m, m <= d.size ->
  (Lib.compactUpTo d m).Pairwise (· < ·) /\ (∀ x ∈ Lib.compactUpTo d m, 0 < m /\ x <= d[m - 1]!) /\ (∀ x, x ∈ Lib.compactUpTo d m ↔ ∃ j, j < m /\ d[j]! = x) := by
 intro m
 induction m with
 | zero => intro _; refine ⟨by simp [Lib.compactUpTo], by simp [Lib.compactUpTo], by simp [Lib.compactUpTo]⟩
 | succ m ih =>
   intro hm;obtain ⟨h1, h2, h3⟩ := ih (by omega);rw [Lib.compactUpTo_succ]
   by_cases h0 : m = 0
   . subst h0
     have : Lib.keeps d 0 = true := by simp [Lib.keeps]
     rw [this];refine ⟨by simp [Lib.compactUpTo], ?_, ?_⟩
     . intro x hx
       simp [Lib.compactUpTo] at hx;subst hx;exact ⟨by omega, List.le_refl _⟩
     . intro x
       simp only [Lib.compactUpTo, List.range_zero, List.filter_nil, List.map_nil, List.nil_append, if_true, List.mem_singleton];constructor
       . intro h; exact ⟨0, by omega, h.symm⟩
       . rintro ⟨j, hj, h⟩
         obtain rfl : j = 0 := by omega
         exact h.symm
   . have hle : d[m - 1]! <= d[m]! := by have := hs (m - 1) (by omega); rwa [show m - 1 + 1 = m from by omega] at this
     by_cases he : d[m]! = d[m - 1]!
     . rw [Lib.keeps_neg (by omega) he]
       simp only [Bool.false_eq_true, if_false, List.append_nil];refine ⟨h1, fun x hx => ⟨by omega, ?_⟩, fun x => ?_⟩
       . rw [show m + 1 - 1 = m from rfl, he]; exact (h2 x hx).2
       . rw [h3]
         constructor
         . rintro ⟨j, hj, h⟩; exact ⟨j, by omega, h⟩
         . rintro ⟨j, hj, h⟩
           by_cases hjm : j = m
           . subst hjm; exact ⟨j - 1, by omega, by rw [<- he]; exact h⟩
           . exact ⟨j, by omega, h⟩
     . rw [Lib.keeps_pos he]
       simp only [if_true];have hlt : d[m - 1]! < d[m]! := Std.lt_of_le_of_ne hle (fun e => he e.symm);refine ⟨?_, ?_, ?_⟩
       . rw [List.pairwise_append]
         refine ⟨h1, by simp, ?_⟩;intro a ha b hb;simp at hb; subst hb;exact List.lt_of_le_of_lt (h2 a ha).2 hlt
       . intro x hx
         rw [List.mem_append] at hx;refine ⟨by omega, ?_⟩;rw [show m + 1 - 1 = m from rfl];rcases hx with hx | hx
         . exact List.le_trans (h2 x hx).2 hle
         . simp at hx; subst hx; exact List.le_refl _
       . intro x
         rw [List.mem_append, h3];constructor
         . rintro (⟨j, hj, h⟩ | h)
           . exact ⟨j, by omega, h⟩
           . simp at h; exact ⟨m, by omega, h.symm⟩
         . rintro ⟨j, hj, h⟩
           by_cases hjm : j = m
           . subst hjm; right; simp [h]
           . left; exact ⟨j, by omega, h⟩
theorem bytes_str (l : List ByteArray) : l.flatMap encS = (l.map (·.data.toList)).map encStr := by rw [encS_flat, Lib.map_encStr]
def ofB (l : List BL) : List ByteArray := l.map fun s => ⟨s.toArray⟩
theorem ofB_bytes (l : List BL) : (ofB l).map (·.data.toList) = l := by unfold ofB; rw [List.map_map]; simp [Function.comp_def]
theorem ofB_of (l : List ByteArray) : ofB (l.map (·.data.toList)) = l := by
 unfold ofB; rw [List.map_map]
 conv => rhs; rw [<- List.map_id l]
 apply List.map_congr_left;intro x _;obtain ⟨⟨x⟩⟩ := x;rfl
theorem grownBy_grow {w w' : World} {row : Option Nat} (h : w.grownBy w' row) (os : Array Obj) : w.grownBy (grow w' os) row :=
 ⟨h.os, h.tape, h.output, by have := h.size; simp; omega, fun k hk hne => by rw [heap_grow_old _ _ (by have := h.size; omega)]; exact h.block k hk hne⟩
theorem grownBy_put {α : Type} [Inhabited α] {enc : α -> Value} {w : World} {g n : Nat} (d : Array α) : w.grownBy (putRow enc (Sort.ahead w n) g 0 d) (some g) := by
 refine ⟨rfl, rfl, rfl, by simp [putRow, mapBlock, Sort.ahead], fun k hk hne => ?_⟩;have : g ≠ k := fun e => hne (by rw [e]);simp [putRow, mapBlock, Sort.ahead, Array.getElem?_modify, this]
theorem ownsRow_grow {w : World} {base : Nat} {e : TypeId} {size : Nat} {v : Value} {n : Nat} {xs : List Value} (h : w.ownsRow base e size v n xs) (os : Array Obj) : (grow w os).ownsRow base e size v n xs :=
 h.kept (row := none) ⟨rfl, rfl, rfl, by simp, fun k hk _ => heap_grow_old w os hk⟩ (by cases hv : v.ownBlock <;> simp)
theorem own_nil {B : Nat} {w : World} {xs : List ByteArray} (h : OwnS B w (.slice none 0 0) xs) : xs = [] := by
 rcases h.1.2 with ⟨_, h⟩ | ⟨g, cap, cur, h, _⟩
 . exact List.eq_nil_of_length_eq_zero h
 . cases h
theorem clone_s (ks : List ByteArray) (v : Value) (w : World) (h : Sl StrR 1 w v ks) (hn : ks.length <= 1000000) :
  Calls Tryz.prog 45 #[v] w fun e w' => ∃ v', e = .returned v' /\ OwnS w.heap.size w' v' ks /\ Below w.heap.size w w' := by
 obtain ⟨r, c, rfl, _⟩ := id h;have hs := strs_le h;cases r with
 | none =>
   have h0 : ks = [] := by
    cases ks with
    | nil => rfl
    | cons k ks => obtain ⟨_, _, hr, _⟩ := str_at h 0 (by simp); cases hr
   subst h0;exact (Tryz.slices_Clone_string_nil 0 c w).mono fun e w' ⟨he, hw⟩ => ⟨_, he, ownS_nil _ _, by rw [hw]; exact Below.refl _ _⟩
 | some a =>
   by_cases h0 : ks = []
   . subst h0
     exact (Tryz.slices_Clone_string_zero a c w).mono fun e w' ⟨v', he, ho, _, hb⟩ => ⟨v', he, ⟨ho, by simp⟩, hb⟩
   . have hpos : 0 < ks.length := List.length_pos_iff.2 h0
     obtain ⟨b, off, hr, _⟩ := str_at h 0 hpos;obtain rfl : a = ⟨b, off, none⟩ := by simpa using hr
     refine (Tryz.slices_Clone_string b off ks.length c ks w (Nat.le_refl _) (by omega) (fun j hj => ?_)).mono fun e w' ⟨v', he, ho, _, hb⟩ => ⟨v', he, ⟨?_, hs⟩, hb⟩
     . obtain ⟨b', off', hr', _, g0, _⟩ := str_at h j hj
       simp only [Option.some.injEq, Addr.mk.injEq, and_true] at hr';obtain ⟨rfl, rfl⟩ := hr';rw [g0, List.getD_eq_getElem?_getD, List.getElem?_eq_getElem hj]; rfl
     . have := ho
       rw [List.take_length] at this;rw [encS_flat];exact this
theorem sort_str (B : Nat) (v : Value) (xs : List ByteArray) (w : World) (h : OwnS B w v xs) (hn : xs.length <= 1000000) :
  Calls Tryz.prog 46 #[v] w fun e w' => e = .returned (.tuple #[]) /\ ∃ ys : List ByteArray, ys.Perm xs /\ (ys.map (·.data.toList)).Pairwise (· <= ·) /\ OwnS B w' v ys /\ w.grownBy w' v.ownBlock := by
 by_cases hv : v = .slice none 0 0
 . subst hv
   obtain rfl := own_nil h;exact (Tryz.slices_Sort_string_none none 0 w).mono fun e w' ⟨he, hw⟩ => ⟨he, [], List.Perm.refl _, List.Pairwise.nil, by rw [hw]; exact h, by rw [hw]; exact World.grownBy.refl _ _⟩
 . have ho := h.1
   rw [bytes_str] at ho;obtain ⟨g, cap, rfl, hbg, hgl, hn', hcm, hl, hH⟩ := Lib.holds_of_ownsRow ho hv;have h1 := Tryz.slices_Sort_string g 0 cap (xs.map (·.data.toList)) w hH hgl (by simp; omega);rw [hl] at h1;refine h1.mono ?_;rintro e w' ⟨he, q, os, hw⟩
   have hp : ((xs.map (·.data.toList)).mergeSort fun x y => decide (x <= y)).Pairwise (fun a b => a <= b) := by
    have := List.pairwise_mergeSort (le := fun x y : BL => decide (x <= y)) (fun a b c h1 h2 => by simp only [decide_eq_true_eq] at *; exact List.le_trans h1 h2) (fun a b => by simp only [Bool.or_eq_true, decide_eq_true_eq]; exact List.le_total a b) (xs.map (·.data.toList));exact this.imp (by intro a b h; simpa using h)
   have hpm : ((xs.map (·.data.toList)).mergeSort fun x y => decide (x <= y)).Perm (xs.map (·.data.toList)) := List.mergeSort_perm _ _;generalize ((xs.map (·.data.toList)).mergeSort fun x y => decide (x <= y)) = ms at *;have hml : ms.length = xs.length := by have := hpm.length_eq; simpa using this
   have hperm : (ofB ms).Perm xs := by have := hpm.map (fun s : BL => (⟨s.toArray⟩ : ByteArray)); rw [<- ofB_of xs]; exact this
   refine ⟨he, ofB ms, hperm, by rw [ofB_bytes]; exact hp, ⟨?_, fun x hx => h.2 x (hperm.mem_iff.1 hx)⟩, ?_⟩
   . have := ownsRow_grow (Lib.ownsRow_putRow (q := q) (k := xs.length) ho hml (Nat.le_refl _)) os
     rw [<- hml, List.take_length, hml] at this;rw [hw, bytes_str, ofB_bytes, hperm.length_eq];exact this
   . rw [hw]; exact grownBy_grow (grownBy_put _) os
theorem compact_len (l : List BL) : (Lib.compact l).length <= l.length := by
 unfold Lib.compact Lib.compactUpTo;rw [List.length_map];exact Nat.le_trans (List.length_filter_le _ _) (by simp)
theorem compact_can (ys : List ByteArray) (hs : (ys.map (·.data.toList)).Pairwise (· <= ·)) : ofB (Lib.compact (ys.map (·.data.toList))) = canB ys := by
 have key : ∀ s : List BL, s.Pairwise (· <= ·) -> (Lib.compact s).Pairwise (· < ·) /\ ∀ x, x ∈ Lib.compact s ↔ x ∈ s := by
  intro s hp
  have hs : ∀ j, j + 1 < s.toArray.size -> s.toArray[j]! <= s.toArray[j + 1]! := by
   intro j hj;simp only [List.size_toArray] at hj;rw [getElem!_pos _ j (by simp; omega), getElem!_pos _ (j + 1) (by simpa using hj)];simp only [List.getElem_toArray];exact List.pairwise_iff_getElem.1 hp j (j + 1) (by omega) hj (by omega)
  obtain ⟨h1, _, h3⟩ := compact_asc s.toArray hs s.length (by simp);refine ⟨h1, fun x => ?_⟩;unfold Lib.compact;rw [h3];constructor
  . rintro ⟨j, hj, rfl⟩
    rw [getElem!_pos _ j (by simpa using hj)];simp
  . intro hx
    obtain ⟨j, hj, rfl⟩ := List.mem_iff_getElem.1 hx;exact ⟨j, hj, by rw [getElem!_pos _ j (by simpa using hj)]; simp⟩
 obtain ⟨h1, h2⟩ := key _ hs;refine ascB_eq ?_ (canB_asc ys) fun x => ?_
 . show (ofB _).Pairwise fun a b => ltB a b = true
   have h3 : ((ofB (Lib.compact (ys.map (·.data.toList)))).map (·.data.toList)).Pairwise (· < ·) := by rw [ofB_bytes]; exact h1
   rw [List.pairwise_map] at h3;exact h3.imp fun h => ltB_iff.2 h
 . rw [mem_canB]
   have hm : ∀ l : List BL, x ∈ ofB l ↔ x.data.toList ∈ l := fun l => by
    unfold ofB;rw [List.mem_map];constructor
    . rintro ⟨s, hs, rfl⟩; simpa using hs
    . intro h; exact ⟨_, h, by obtain ⟨⟨x⟩⟩ := x; rfl⟩
   rw [hm, h2, List.mem_map];constructor
   . rintro ⟨y, hy, e⟩; exact ba_ext e ▸ hy
   . intro h; exact ⟨x, h, rfl⟩
theorem compact_str (B : Nat) (v : Value) (ys : List ByteArray) (w : World) (h : OwnS B w v ys) (hs : (ys.map (·.data.toList)).Pairwise (· <= ·)) (hn : ys.length <= 1000000) :
  Calls Tryz.prog 47 #[v] w fun e w' => ∃ v', e = .returned v' /\ OwnS B w' v' (canB ys) /\ w.grownBy w' v.ownBlock /\ v'.ownBlock = v.ownBlock := by
 by_cases hv : v = .slice none 0 0
 . subst hv
   obtain rfl := own_nil h;exact (Tryz.slices_Compact_string_empty none 0 w).mono fun e w' ⟨he, hw⟩ => ⟨_, he, by rw [hw]; exact h, by rw [hw]; exact World.grownBy.refl _ _, rfl⟩
 . have ho := h.1
   rw [bytes_str] at ho;obtain ⟨g, cap, rfl, hbg, hgl, hn', hcm, hl, hH⟩ := Lib.holds_of_ownsRow ho hv;unfold maxLen at hcm;have h1 := Tryz.slices_Compact_string g 0 cap (ys.map (·.data.toList)) w hH (by simp; omega) (by simpa using hn');rw [hl] at h1;refine h1.mono ?_;rintro e w' ⟨he, q, hw⟩;have hcl := compact_len (ys.map (·.data.toList));rw [hl] at hcl;have hcc := compact_can ys hs;have hlen : (canB ys).length = (Lib.compact (ys.map (·.data.toList))).length := by rw [<- hcc]; simp [ofB]
   refine ⟨_, he, ⟨?_, fun x hx => h.2 x (mem_canB.1 hx)⟩, by rw [hw]; exact grownBy_put _, rfl⟩;have := Lib.ownsRow_putRow (q := q) (k := (Lib.compact (ys.map (·.data.toList))).length) (ys := Lib.compact (ys.map (·.data.toList)) ++ List.replicate (ys.length - (Lib.compact (ys.map (·.data.toList))).length) []) ho (by simp; omega) hcl;rw [List.take_left] at this;rw [hw, hlen, bytes_str, <- hcc, ofB_bytes];exact this
theorem del_str (B : Nat) (v : Value) (x : ByteArray) (xs : List ByteArray) (w : World) (h : OwnS B w v (x :: xs)) :
  Calls Tryz.prog 52 #[v, .int .i64 0, .int .i64 1] w fun e w' => ∃ v', e = .returned v' /\ OwnS B w' v' xs /\ w.grownBy w' v.ownBlock /\ v'.ownBlock = v.ownBlock := by
 have hv : v ≠ .slice none 0 0 := by rintro rfl; have := own_nil h; cases this
 have ho := h.1;rw [bytes_str] at ho;obtain ⟨g, cap, rfl, hbg, hgl, hn', hcm, hl, hH⟩ := Lib.holds_of_ownsRow ho hv;unfold maxLen at hcm;have h1 := Tryz.slices_Delete_string g 0 cap 0 1 ((x :: xs).map (·.data.toList)) w hH (by simpa using hn') (by omega) (by omega) (by simp);rw [hl] at h1;refine h1.mono ?_;rintro e w' ⟨he, q, hw⟩;have e1 : (x :: xs).length - (1 - 0) = xs.length := by simp
 rw [e1] at he;refine ⟨_, he, ⟨?_, fun y hy => h.2 y (List.mem_cons_of_mem _ hy)⟩, by rw [hw]; exact grownBy_put _, rfl⟩;have := Lib.ownsRow_putRow (q := q) (k := xs.length) (ys := ((x :: xs).map (·.data.toList)).take 0 ++ ((x :: xs).map (·.data.toList)).drop 1 ++ List.replicate (1 - 0) []) ho (by simp) (by simp);have e2 : (((x :: xs).map (·.data.toList)).take 0 ++ ((x :: xs).map (·.data.toList)).drop 1 ++ List.replicate (1 - 0) ([] : BL)).take xs.length = xs.map (·.data.toList) := by simp
 rw [e2] at this;rw [hw, bytes_str];exact this
theorem bs_str (ks : List ByteArray) (v : Value) (x : ByteArray) (w : World) (h : Sl StrR 1 w v ks) (ha : AscB ks) (hn : ks.length <= 10000000000000) :
  Calls Tryz.prog 53 #[v, .string x] w fun e w' => ∃ bb, e = .returned (.tuple #[.int .i64 (lowL ltB x ks : Nat), .bool bb]) /\ Below w.heap.size w w' := by
 obtain ⟨r, c, rfl, _⟩ := id h
 by_cases h0 : ks = []
 . subst h0
   exact (Any2.slices_BinarySearch_string_empty Tryz.laysB26 r c x w).mono fun e w' ⟨he, hw⟩ => ⟨false, he, by rw [hw]; exact Below.refl _ _⟩
 have hpos : 0 < ks.length := List.length_pos_iff.2 h0;obtain ⟨b, off, hr, _⟩ := str_at h 0 hpos;subst hr
 have hI : bsGo (fun t => Op.bytesLess ((fun j => if hj : j < ks.length then ks[j] else x) t).toList x.toList) ks.length 0 ks.length = lowL ltB x ks := by
  have hl := lowL_le (lt := ltB) x ks;refine bsGo_spec _ _ (fun t ht => ?_) (fun t ht => ?_) _ _ _ (by omega) (by omega) hl
  . have : t < ks.length := by omega
    simp only [this, dif_pos];rw [less_bytes]; exact lowL_low x ks t this ht
  . by_cases hlt : t < ks.length
    . simp only [hlt, dif_pos]
      rw [less_bytes];have h1 := lowL_at (lt := ltB) x ks (by omega)
      by_cases e : lowL ltB x ks = t
      . subst e; exact h1
      . have h2 := asc_getElem ha (by omega) hlt (show lowL ltB x ks < t by omega)
        cases hh : ltB ks[t] x with
        | false => rfl
        | true => rw [stoB.tr _ _ _ h2 hh] at h1; cases h1
    . simp only [hlt, dif_neg, not_false_eq_true]
      rw [less_bytes]; exact stoB.irr x
 refine (Any2.slices_BinarySearch_string Tryz.laysB26 b off ks.length c (fun j => if hj : j < ks.length then ks[j] else x) x w (by omega) (fun j hj => ?_)).mono ?_
 . obtain ⟨b', off', hr', _, g0, _⟩ := str_at h j hj
   simp only [Option.some.injEq, Addr.mk.injEq, and_true] at hr';obtain ⟨rfl, rfl⟩ := hr';simp only [hj, dif_pos];exact g0
 . rintro e w' ⟨he, q, hw⟩
   rw [hI] at he;exact ⟨_, he, by rw [hw]; exact ⟨rfl, rfl, rfl, Nat.le_refl _, fun _ _ => rfl⟩⟩
end Go.Proofs.YtpnogmicfomofaaGreatDoor
