import Derived.Test.YtpnogmicfomofaaGreatDoorY2
import Derived.Test.YtpnogmicfomofaaGreatDoorY6
import Derived.Deep.RegionHeld3
import Derived.Deep.RegionLaw
import Derived.Test.YtpnogmicfomofaaGreatDoorY1
import Derived.Shelf.Spec.SlicesGrow
import Derived.Ground.Names8Prog
import Derived.Laws.AppendOwnNone
import Derived.Maps.OwnSet
import Derived.Maps.OwnOps
import Derived.Maps.RangeWalk
import Derived.Maps.Ext
import Derived.Shelf.Spec.SlicesInsertGrow
set_option linter.unusedVariables false
set_option linter.unusedSimpArgs false
namespace Go.Proofs.YtpnogmicfomofaaGreatDoor.Stp
open Go.RowKit Go.Sort Go.Lib Go.Maps
open Go.Lib (hid)
open Adr (WT prE stcB pstatic_any)
def resB (a : ByteArray) : ByteArray := if prE a.data.toList = 0 then ⟨(stcB a.data.toList).toArray⟩ else a
set_option maxRecDepth 100000 in
theorem resource_any (x : CV) (w : World) (hT : WT w) (hs : x.ad.size <= 1000000) : Calls Tryz.prog 30 #[.agg x.arr] w fun e w' => e = .returned (.string (resB x.ad)) /\ Below w.heap.size w w' := by
 have h0 : x.arr[0]? = some (.string x.ad) := rfl;have HC := hid (fun (W : World) (hW : Below w.heap.size w W) => pstatic_any x.ad W (hT.below hW) (by omega));have HB0 := hid (show Below w.heap.size w (w.alloc (.cells x.arr 31)) from (Below.refl _ _).alloc (Nat.le_refl _) _);have HR := hid (show resB x.ad = if prE x.ad.data.toList = 0 then ⟨(stcB x.ad.data.toList).toArray⟩ else x.ad from rfl);obtain ⟨E, hE⟩ : ∃ E, prE x.ad.data.toList = E := ⟨_, rfl⟩;obtain ⟨T, hT2⟩ : ∃ T, (⟨(stcB x.ad.data.toList).toArray⟩ : ByteArray) = T := ⟨_, rfl⟩;rw [hT2] at HC HR;rw [hE] at HC HR;obtain ⟨R, hR⟩ : ∃ R, resB x.ad = R := ⟨_, rfl⟩;rw [hR] at HR ⊢;clear hs hT hE hT2 hR;generalize x.arr = X at *;generalize x.ad = a at *
 by_cases hE : E = 0
 . subst hE
   have hR := HR.out;rw [if_pos rfl] at hR;clear HR;subst hR;go_enter Tryz.func30, Tryz.ntmps30;go_wp2_with (go_at_call 57; refine (HC.out _ HB0.out).mono ?_; rintro e w1 ⟨rfl, hb⟩)
   go_ret
   exact ⟨rfl, HB0.out.trans (hb.mono HB0.out.size)⟩
 . have hn : (E != 0) = true := by simp [hE]
   have hR := HR.out;rw [if_neg hE] at hR;clear hE HR;subst hR;go_enter Tryz.func30, Tryz.ntmps30;go_wp2_with (go_at_call 57; refine (HC.out _ HB0.out).mono ?_; rintro e w1 ⟨rfl, hb⟩; obtain ⟨hc, hf⟩ := bcellB hb)
   go_ret
   exact ⟨rfl, HB0.out.trans (hb.mono HB0.out.size)⟩
end Go.Proofs.YtpnogmicfomofaaGreatDoor.Stp
namespace Go.Proofs.YtpnogmicfomofaaGreatDoor.Stp
open Go.RowKit Go.Sort Go.Lib Go.Maps
open Go.Lib (hid)
structure MkP (mb M : Nat) (rc : Option Addr) (cc : Nat) (w : World) (cs : List Ch) (f : Nat -> ByteArray) : Prop where
 c0 : w.cell? ⟨mb, 0, none⟩ = some (.slice rc cs.length cc)
 c1 : w.cell? ⟨mb, 1, none⟩ = some (.slice (some ⟨M, 0, none⟩) cs.length cs.length)
 chs : Sl ChR 22 w (.slice rc cs.length cc) cs
 rs : ∀ i, i < cs.length -> w.cell? ⟨M, i, none⟩ = some (.string (f i))
theorem MkP.below {mb M : Nat} {rc : Option Addr} {cc : Nat} {w w' : World} {cs : List Ch} {f : Nat -> ByteArray} (h : MkP mb M rc cc w cs f) (hb : Below w.heap.size w w') : MkP mb M rc cc w' cs f :=
 ⟨bget hb h.c0, bget hb h.c1, h.chs.below chR_mono hb, fun i hi => bget hb (h.rs i hi)⟩
def inS (l : List ByteArray) (s : ByteArray) : Bool := Lib.containsS l s
theorem inS_iff {l : List ByteArray} {s : ByteArray} : inS l s = true ↔ s ∈ l := Lib.containsS_iff l s
theorem cont_any (r : Option Addr) (n c : Nat) (zs : List ByteArray) (x : ByteArray) (w : World) (h : Sl StrR 1 w (.slice r n c) zs) : Calls Tryz.prog 89 #[.slice r n c, .string x] w fun e w' => e = .returned (.bool (inS zs x)) /\ w' = w := by
 obtain ⟨rfl, h1, h2⟩ := sl_len h
 by_cases h0 : zs.length = 0
 . have := List.length_eq_zero_iff.1 h0
   subst this;exact (Tryz.slices_Contains_string_empty r c x w).mono fun e w' h => h
 . obtain ⟨b, off, rfl, _⟩ := str_at h 0 (by omega)
   have hq := Tryz.slices_Contains_string b off zs.length c zs x w (Nat.le_refl _) (by omega) (fun j hj => by
    obtain ⟨b2, off2, e, _, g, _⟩ := str_at h j hj;cases e;rw [g];rw [List.getD_eq_getElem?_getD, List.getElem?_eq_getElem hj];rfl)
   refine hq.mono fun e w' ⟨h1, h2⟩ => ⟨?_, h2⟩;rw [h1, List.take_length];rfl
def makesB (cs : List Ch) (f : Nat -> ByteArray) (i : Nat) (op : Int) (j : Nat) (op2 : Int) : Bool :=
 match cs[i]? with
 | none => false
 | some x => if i = j then decide (op = 1) && decide (op2 = 3) && lastB x.act x.cf else !decide (op2 = 3) && inS x.deps (f j)
attribute [local go_sem ↓] ldC_eq
attribute [local go_sem] ldC_run
attribute [local go_sem ↓] stC_eq
attribute [local go_sem] stC_run there_drew there_new put22_drew put22_new lies_new rd22_new lies_drew rd22_drew
theorem ints_eq (i j : Nat) : (((i : Nat) : Int) == ((j : Nat) : Int)) = decide (i = j) := by
 rw [Bool.eq_iff_iff]; simp; omega
set_option maxRecDepth 100000 in
set_option maxHeartbeats 4000000 in
theorem makes_any (mb M : Nat) (rc : Option Addr) (cc : Nat) (cs : List Ch) (f : Nat -> ByteArray) (i j : Nat) (op op2 : Int) (sv tv : SV) (w : World) (h : MkP mb M rc cc w cs f) (hi : i < cs.length) (hj : j < cs.length) (hn : cs.length <= 1000000) :
  Calls Tryz.prog 59 #[.pointer (some ⟨mb, 0, none⟩), .agg #[.int .i64 i, .int .i64 op, .slice sv.r sv.n sv.c], .agg #[.int .i64 j, .int .i64 op2, .slice tv.r tv.n tv.c]] w fun e w' => e = .returned (.bool (makesB cs f i op j op2)) /\ Below w.heap.size w w' := by
 obtain ⟨cb, coff, x, rfl, hcb, hcell, hx⟩ := ch_at h.chs i hi
 have hm : makesB cs f i op j op2 = if i = j then decide (op = 1) && decide (op2 = 3) && lastB x.ac x.cf else !decide (op2 = 3) && inS (cs[i]).deps (f j) := by
  unfold makesB;rw [List.getElem?_eq_getElem hi];simp only;rw [hx.2.1, hx.2.2.1]
 have hmb := World.block_lt_of_cell? w _ h.c0;simp only at hmb;have HX22 := cells22 x;obtain ⟨l1, l2⟩ := lies_of HX22 hcell;have hmb := World.block_lt_of_cell? w _ h.c0;simp only at hmb;have HS := hid (fun (W : World) (hb : Below w.heap.size w W) => show W.cell? ⟨mb, 0, none⟩ = some (.slice (some ⟨cb, coff, none⟩) cs.length cc) /\ Lies W cb (coff + i * 22) /\ rd22 W cb (coff + i * 22) = x.arr from ⟨bget hb h.c0, (l1.below hb).1, ((l1.below hb).2).trans l2⟩);have q0 := h.c0;have hii : (0 : Int) <= (i : Int) := by omega
 have hii2 : (i : Int) < (cs.length : Int) := by omega
 have HLA := hid (fun W => last_any x W);have HM := hid (fun (W : World) (hb : Below w.heap.size w W) => show W.cell? ⟨mb, 1, none⟩ = some (.slice (some ⟨M, 0, none⟩) cs.length cs.length) /\ W.cell? ⟨M, j, none⟩ = some (.string (f j)) from ⟨bget hb h.c1, bget hb (h.rs j hj)⟩);have HCO := hid (fun (W : World) (hb : Below w.heap.size w W) => cont_any x.dp.r x.dp.n x.dp.c (cs[i]).deps (f j) W (hx.2.2.2.2.1.below strR_mono hb));have h12 : x.arr[20]? = some (.slice x.dp.r x.dp.n x.dp.c) := rfl;have hsz : x.arr.size = 22 := rfl;obtain ⟨R, hR⟩ : ∃ R, makesB cs f i op j op2 = R := ⟨_, rfl⟩;rw [hR] at hm ⊢;have HRES := hid hm;clear hcell h l1 l2 hx hm hR;generalize x.arr = X at *;generalize lastB x.ac x.cf = LB at *;generalize inS (cs[i]).deps (f j) = IB2 at *;go_enter Tryz.func59, Tryz.ntmps59;go_wp2_with fail
 go_region_held3 (fun w' => Below w.heap.size w w' /\ w'.cell? ⟨mb, 0, none⟩ = some (.slice (some ⟨cb, coff, none⟩) cs.length cc) /\ w'.cell? ⟨w.heap.size, 0, none⟩ = some (.int .i64 i) /\ Lies w' cb (coff + i * 22) /\ rd22 w' cb (coff + i * 22) = X)
  (refine ⟨?_, (HS.out _ ?_).1, ?_, (HS.out _ ?_).2.1, (HS.out _ ?_).2.2⟩ <;> first | ((repeat (first | exact Below.refl _ _ | refine Below.drew ?_ | refine Below.alloc ?_ (by simp <;> omega) _)); done) | (go_simp; done)) (fail)
 have HB3 := hid (show Below w.heap.size w ((((w.alloc (.cells #[.int .i64 (i : Int), .int .i64 op, .slice sv.r sv.n sv.c] 48)).alloc (.cells #[.int .i64 (j : Int), .int .i64 op2, .slice tv.r tv.n tv.c] 48)).alloc (.cells X 31)).drew) from ((((Below.refl _ _).alloc (Nat.le_refl _) _).alloc (by simp) _).alloc (by simp; omega) _).drew);have b0 : ((((w.alloc (.cells #[.int .i64 (i : Int), .int .i64 op, .slice sv.r sv.n sv.c] 48)).alloc (.cells #[.int .i64 (j : Int), .int .i64 op2, .slice tv.r tv.n tv.c] 48)).alloc (.cells X 31)).drew).cell? ⟨w.heap.size, 0, none⟩ = some (.int .i64 (i : Int)) := by go_simp
 have b1 : ((((w.alloc (.cells #[.int .i64 (i : Int), .int .i64 op, .slice sv.r sv.n sv.c] 48)).alloc (.cells #[.int .i64 (j : Int), .int .i64 op2, .slice tv.r tv.n tv.c] 48)).alloc (.cells X 31)).drew).cell? ⟨w.heap.size, 1, none⟩ = some (.int .i64 op) := by go_simp
 have c0 : ((((w.alloc (.cells #[.int .i64 (i : Int), .int .i64 op, .slice sv.r sv.n sv.c] 48)).alloc (.cells #[.int .i64 (j : Int), .int .i64 op2, .slice tv.r tv.n tv.c] 48)).alloc (.cells X 31)).drew).cell? ⟨w.heap.size + 1, 0, none⟩ = some (.int .i64 (j : Int)) := by go_simp
 have c1 : ((((w.alloc (.cells #[.int .i64 (i : Int), .int .i64 op, .slice sv.r sv.n sv.c] 48)).alloc (.cells #[.int .i64 (j : Int), .int .i64 op2, .slice tv.r tv.n tv.c] 48)).alloc (.cells X 31)).drew).cell? ⟨w.heap.size + 1, 1, none⟩ = some (.int .i64 op2) := by go_simp
 have x0 : Lies ((((w.alloc (.cells #[.int .i64 (i : Int), .int .i64 op, .slice sv.r sv.n sv.c] 48)).alloc (.cells #[.int .i64 (j : Int), .int .i64 op2, .slice tv.r tv.n tv.c] 48)).alloc (.cells X 31)).drew) (w.heap.size + 1 + 1) 0 /\ rd22 ((((w.alloc (.cells #[.int .i64 (i : Int), .int .i64 op, .slice sv.r sv.n sv.c] 48)).alloc (.cells #[.int .i64 (j : Int), .int .i64 op2, .slice tv.r tv.n tv.c] 48)).alloc (.cells X 31)).drew) (w.heap.size + 1 + 1) 0 = X := by
  rw [lies_drew, rd22_drew, lies_new _ X _ _ (by simp) HX22, rd22_new _ X _ _ (by simp) HX22];exact ⟨trivial, rfl⟩
 have x12 : ((((w.alloc (.cells #[.int .i64 (i : Int), .int .i64 op, .slice sv.r sv.n sv.c] 48)).alloc (.cells #[.int .i64 (j : Int), .int .i64 op2, .slice tv.r tv.n tv.c] 48)).alloc (.cells X 31)).drew).cell? ⟨w.heap.size + 1 + 1, 20, none⟩ = some (.slice x.dp.r x.dp.n x.dp.c) := by
  rw [cell_new _ X _ _ (by simp)];exact h12
 obtain ⟨x1, x2⟩ := x0;obtain ⟨m1, m2⟩ := HM.out _ HB3.out;have HCO2 := hid (fun n => HCO.out _ (bel_drewN HB3.out n));clear HCO HM HS q0 h12 hsz;have hz3 : w.heap.size + 3 = ((((w.alloc (.cells #[.int .i64 (i : Int), .int .i64 op, .slice sv.r sv.n sv.c] 48)).alloc (.cells #[.int .i64 (j : Int), .int .i64 op2, .slice tv.r tv.n tv.c] 48)).alloc (.cells X 31)).drew).heap.size := by simp
 generalize (((w.alloc (.cells #[.int .i64 (i : Int), .int .i64 op, .slice sv.r sv.n sv.c] 48)).alloc (.cells #[.int .i64 (j : Int), .int .i64 op2, .slice tv.r tv.n tv.c] 48)).alloc (.cells X 31)).drew = W3 at *
 by_cases hij : i = j
 . subst hij
   by_cases h1 : op = 1
   . have e1 := eqb h1
     by_cases h3 : op2 = 3
     . have e3 := eqb h3
       subst h1 h3;go_wp2_with (go_at_call 90; refine (HLA.out _).mono ?_; rintro e w5 ⟨rfl, hb5⟩; have HB5 := hid hb5; clear hb5)
       go_ret
       exact ⟨ret_bool (by rw [HRES.out]; simp), HB3.out.trans (HB5.out.mono HB3.out.size)⟩
     . have e3 := neb h3
       clear h3;subst h1;go_wp2
       go_ret
       exact ⟨ret_bool (by rw [HRES.out]; have := beq_eq_false_iff_ne.1 e3; simp [this]), HB3.out⟩
   . have e1 := neb h1
     clear h1;go_wp2
     go_ret
     exact ⟨ret_bool (by rw [HRES.out]; have := beq_eq_false_iff_ne.1 e1; simp [this]), HB3.out⟩
 . have e0 : (((i : Nat) : Int) == ((j : Nat) : Int)) = false := by rw [ints_eq]; simp [hij]
   by_cases h3 : op2 = 3
   . subst h3
     go_wp2_with fail
     go_quiet (fail)
     go_wp2
     go_ret
     exact ⟨ret_bool (by rw [HRES.out, if_neg hij]; simp), bel_drewN HB3.out _⟩
   . have e3 : (op2 != 3) = true := by simp [h3]
     have hjj : (0 : Int) <= (j : Int) := by omega
     have hjj2 : (j : Int) < (cs.length : Int) := by omega
     have hij2 := hid hij;have h32 := hid h3;clear hij h3;go_wp2_with fail
     go_quiet ((go_at_call 89; exact Calls.quiet_of_same (HCO2.out _)))
     go_wp2
     go_ret
     exact ⟨ret_bool (by rw [HRES.out, if_neg hij2.out]; have := h32.out; simp [this]), bel_drewN HB3.out _⟩
end Go.Proofs.YtpnogmicfomofaaGreatDoor.Stp
namespace Go.Proofs.YtpnogmicfomofaaGreatDoor.Stp
open Go.RowKit Go.Sort Go.Lib Go.Maps
open Go.Lib (hid)
attribute [local go_sem ↓] ldC_eq
attribute [local go_sem] ldC_run
attribute [local go_sem ↓] stC_eq
attribute [local go_sem] stC_run there_drew there_new there_past put22_drew put22_new put22_past lies_new rd22_new lies_drew rd22_drew lies_drewN rd22_drewN
theorem cell_old {W : World} {o : Obj} {b k : Nat} (hb : b < W.heap.size) : (W.alloc o).cell? ⟨b, k, none⟩ = W.cell? ⟨b, k, none⟩ := ((Below.refl W.heap.size W).alloc (Nat.le_refl _) o).cell (p := ⟨b, k, none⟩) hb
theorem cell_new' (W : World) (X : Array Value) (T : TypeId) (k : Nat) : (W.alloc (.cells X T)).cell? ⟨W.heap.size, k, none⟩ = X[k]? := cell_new W X T _ rfl k
theorem two_new {w : World} {s : Obj} {C X Y : Array Value} {T T1 T2 : TypeId} (h : Below w.heap.size w (((((w.alloc s).alloc (.cells C T)).alloc (.cells X T1)).alloc (.cells Y T2)).drew)) (hX : Cells22 X) (hY : Cells22 Y) :
  ∃ W3, W3 = ((((w.alloc s).alloc (.cells C T)).alloc (.cells X T1)).alloc (.cells Y T2)).drew /\ Below w.heap.size w W3 /\ (∀ k, W3.cell? ⟨w.heap.size + 1, k, none⟩ = C[k]?) /\ (∀ k, W3.cell? ⟨w.heap.size + 1 + 1, k, none⟩ = X[k]?) /\ (∀ k, W3.cell? ⟨w.heap.size + 1 + 1 + 1, k, none⟩ = Y[k]?) /\ (Lies W3 (w.heap.size + 1 + 1) 0 /\ rd22 W3 (w.heap.size + 1 + 1) 0 = X) /\ (Lies W3 (w.heap.size + 1 + 1 + 1) 0 /\ rd22 W3 (w.heap.size + 1 + 1 + 1) 0 = Y) := by
 have e1 : (w.alloc s).heap.size = w.heap.size + 1 := by simp
 have e2 : ((w.alloc s).alloc (.cells C T)).heap.size = w.heap.size + 1 + 1 := by simp
 have e3 : (((w.alloc s).alloc (.cells C T)).alloc (.cells X T1)).heap.size = w.heap.size + 1 + 1 + 1 := by simp
 have k1 : ∀ k, (((((w.alloc s).alloc (.cells C T)).alloc (.cells X T1)).alloc (.cells Y T2)).drew).cell? ⟨w.heap.size + 1, k, none⟩ = C[k]? := fun k => by
  show ((((w.alloc s).alloc (.cells C T)).alloc (.cells X T1)).alloc (.cells Y T2)).cell? _ = _;rw [cell_old (by rw [e3]; omega), cell_old (by rw [e2]; omega)];have := cell_new' (w.alloc s) C T k;rw [e1] at this;exact this
 have k2 : ∀ k, (((((w.alloc s).alloc (.cells C T)).alloc (.cells X T1)).alloc (.cells Y T2)).drew).cell? ⟨w.heap.size + 1 + 1, k, none⟩ = X[k]? := fun k => by
  show ((((w.alloc s).alloc (.cells C T)).alloc (.cells X T1)).alloc (.cells Y T2)).cell? _ = _;rw [cell_old (by rw [e3]; omega)];have := cell_new' ((w.alloc s).alloc (.cells C T)) X T1 k;rw [e2] at this;exact this
 have k3 : ∀ k, (((((w.alloc s).alloc (.cells C T)).alloc (.cells X T1)).alloc (.cells Y T2)).drew).cell? ⟨w.heap.size + 1 + 1 + 1, k, none⟩ = Y[k]? := fun k => by
  show ((((w.alloc s).alloc (.cells C T)).alloc (.cells X T1)).alloc (.cells Y T2)).cell? _ = _;have := cell_new' (((w.alloc s).alloc (.cells C T)).alloc (.cells X T1)) Y T2 k;rw [e3] at this;exact this
 refine ⟨_, rfl, h, k1, k2, k3, ?_, ?_⟩
 . exact lies_of hX (fun j u hu => by rw [k2, Nat.zero_add]; simpa using hu)
 . exact lies_of hY (fun j u hu => by rw [k3, Nat.zero_add]; simpa using hu)
def removesB (cs : List Ch) (f : Nat -> ByteArray) (i j : Nat) (op2 : Int) : Bool :=
 match cs[i]?, cs[j]? with
 | some x, some y => if i = j then decide (op2 = 1) && firstB x.act x.cf else if op2 = 3 then inS y.old (f i) else firstB x.act x.cf && !decide (op2 = 4) && inS y.deps (f i)
 | _, _ => false
set_option maxRecDepth 100000 in
set_option maxHeartbeats 8000000 in
theorem removes_any (mb M : Nat) (rc : Option Addr) (cc : Nat) (cs : List Ch) (f : Nat -> ByteArray) (i j : Nat) (op op2 : Int) (sv tv : SV) (w : World) (h : MkP mb M rc cc w cs f) (hi : i < cs.length) (hj : j < cs.length) (hn : cs.length <= 1000000) :
  Calls Tryz.prog 58 #[.pointer (some ⟨mb, 0, none⟩), .agg #[.int .i64 i, .int .i64 op, .slice sv.r sv.n sv.c], .agg #[.int .i64 j, .int .i64 op2, .slice tv.r tv.n tv.c]] w fun e w' => e = .returned (.bool (removesB cs f i j op2)) /\ Below w.heap.size w w' := by
 obtain ⟨cb, coff, x, rfl, hcb, hcell, hx⟩ := ch_at h.chs i hi;obtain ⟨cb2, coff2, y, he2, _, hcell2, hy⟩ := ch_at h.chs j hj;cases he2
 have hm : removesB cs f i j op2 = if i = j then decide (op2 = 1) && firstB x.ac x.cf else if op2 = 3 then inS (cs[j]).old (f i) else firstB x.ac x.cf && !decide (op2 = 4) && inS (cs[j]).deps (f i) := by
  unfold removesB;rw [List.getElem?_eq_getElem hi, List.getElem?_eq_getElem hj];simp only;rw [hx.2.1, hx.2.2.1]
 have HX22 := cells22 x;have HY22 := cells22 y;obtain ⟨l1, l2⟩ := lies_of HX22 hcell;obtain ⟨k1, k2⟩ := lies_of HY22 hcell2;have hmb := World.block_lt_of_cell? w _ h.c0;simp only at hmb;have HS := hid (fun (W : World) (hb : Below w.heap.size w W) => show W.cell? ⟨mb, 0, none⟩ = some (.slice (some ⟨cb, coff, none⟩) cs.length cc) /\ Lies W cb (coff + i * 22) /\ rd22 W cb (coff + i * 22) = x.arr /\ Lies W cb (coff + j * 22) /\ rd22 W cb (coff + j * 22) = y.arr from ⟨bget hb h.c0, (l1.below hb).1, ((l1.below hb).2).trans l2, (k1.below hb).1, ((k1.below hb).2).trans k2⟩);have q0 := h.c0;have hii : (0 : Int) <= (i : Int) := by omega
 have hii2 : (i : Int) < (cs.length : Int) := by omega
 have hjj : (0 : Int) <= (j : Int) := by omega
 have hjj2 : (j : Int) < (cs.length : Int) := by omega
 have HLA := hid (fun W => first_any x W);have HM := hid (fun (W : World) (hb : Below w.heap.size w W) => show W.cell? ⟨mb, 1, none⟩ = some (.slice (some ⟨M, 0, none⟩) cs.length cs.length) /\ W.cell? ⟨M, i, none⟩ = some (.string (f i)) from ⟨bget hb h.c1, bget hb (h.rs i hi)⟩);have HCO := hid (fun (W : World) (hb : Below w.heap.size w W) => cont_any y.dp.r y.dp.n y.dp.c (cs[j]).deps (f i) W (hy.2.2.2.2.1.below strR_mono hb));have HCP := hid (fun (W : World) (hb : Below w.heap.size w W) => cont_any y.od.r y.od.n y.od.c (cs[j]).old (f i) W (hy.2.2.2.2.2.below strR_mono hb));have h20 : y.arr[20]? = some (.slice y.dp.r y.dp.n y.dp.c) := rfl;have h21 : y.arr[21]? = some (.slice y.od.r y.od.n y.od.c) := rfl;obtain ⟨R, hR⟩ : ∃ R, removesB cs f i j op2 = R := ⟨_, rfl⟩;rw [hR] at hm ⊢;have HRES := hid hm;clear hcell hcell2 h l1 l2 k1 k2 hx hy hm hR;generalize x.arr = X at *;generalize y.arr = Y at *;generalize firstB x.ac x.cf = LB at *;generalize inS (cs[j]).deps (f i) = I1 at *;generalize inS (cs[j]).old (f i) = I2 at *;go_enter Tryz.func58, Tryz.ntmps58;go_wp2_with fail
 go_region_held3 (fun w' => Below w.heap.size w w' /\ w'.cell? ⟨mb, 0, none⟩ = some (.slice (some ⟨cb, coff, none⟩) cs.length cc) /\ w'.cell? ⟨w.heap.size, 0, none⟩ = some (.int .i64 i) /\ w'.cell? ⟨w.heap.size + 1, 0, none⟩ = some (.int .i64 j) /\ Lies w' cb (coff + i * 22) /\ rd22 w' cb (coff + i * 22) = X /\ Lies w' cb (coff + j * 22) /\ rd22 w' cb (coff + j * 22) = Y)
  (refine ⟨?_, (HS.out _ ?_).1, ?_, ?_, (HS.out _ ?_).2.1, (HS.out _ ?_).2.2.1, (HS.out _ ?_).2.2.2.1, (HS.out _ ?_).2.2.2.2⟩ <;> first | ((repeat (first | exact Below.refl _ _ | refine Below.drew ?_ | refine Below.alloc ?_ (by simp <;> omega) _)); done) | (go_simp; done)) (fail)
 all_goals
  rename_i hHeld;have hw3 := hHeld.1;have hs0 := hHeld.2.2.1;clear hHeld q0 HS
  first
  | (obtain ⟨W3, hW3, hb3, g1, g2, g3, ⟨gx1, gx2⟩, _⟩ := two_new hw3 HX22 HY22
     rw [<- hW3] at hs0 ⊢;have y20 := (g3 20).trans h20;have y21 := (g3 21).trans h21;clear g2 g3;generalize hby : w.heap.size + 1 + 1 + 1 = by3 at *;generalize hbx : w.heap.size + 1 + 1 = bx at *)
  | (obtain ⟨W3, hW3, hb3, g1, g2, g3, _, ⟨gx1, gx2⟩⟩ := two_new hw3 HY22 HX22
     rw [<- hW3] at hs0 ⊢;have y20 := (g2 20).trans h20;have y21 := (g2 21).trans h21;clear g2 g3;generalize hby : w.heap.size + 1 + 1 + 1 = bx at *;generalize hbx : w.heap.size + 1 + 1 = by3 at *)
  clear hW3 hw3 hbx hby h20 h21;have t0 := (g1 0).trans (show (#[Value.int .i64 (j : Int), .int .i64 op2, .slice tv.r tv.n tv.c])[0]? = some (.int .i64 (j : Int)) from rfl);have t1 := (g1 1).trans (show (#[Value.int .i64 (j : Int), .int .i64 op2, .slice tv.r tv.n tv.c])[1]? = some (.int .i64 op2) from rfl);clear g1;obtain ⟨m1, m2⟩ := HM.out _ hb3;have HB3 := hid hb3;have HCO2 := hid (fun n => HCO.out _ (bel_drewN hb3 n));have HCP2 := hid (fun n => HCP.out _ (bel_drewN hb3 n));clear HM HCP hb3;go_wp2_with fail
  go_quiet (fail)
  by_cases hij : i = j
  . subst hij
    by_cases h1 : op2 = 1
    . subst h1
      go_wp2_with (go_at_call 88; refine (HLA.out _).mono ?_; rintro e w5 ⟨rfl, hb5⟩; have HB5 := hid hb5; clear hb5)
      go_ret
      exact ⟨ret_bool (by rw [HRES.out]; simp), (bel_drewN HB3.out _).trans (HB5.out.mono (bel_drewN HB3.out _).size)⟩
    . have e1 := neb h1
      clear h1;go_wp2
      go_ret
      exact ⟨ret_bool (by rw [HRES.out]; have := beq_eq_false_iff_ne.1 e1; simp [this]), bel_drewN HB3.out _⟩
  . have e0 : (((i : Nat) : Int) == ((j : Nat) : Int)) = false := by rw [ints_eq]; simp [hij]
    have hij2 := hid hij;clear hij
    by_cases h3 : op2 = 3
    . subst h3
      go_wp2_with (go_at_call 89; refine (HCP2.out _).mono ?_; rintro e w5 ⟨rfl, rfl⟩)
      go_ret
      exact ⟨ret_bool (by rw [HRES.out, if_neg hij2.out]; simp), bel_drewN HB3.out _⟩
    . have e3 := neb h3
      have h32 := hid h3;clear h3;cases LB with
      | false =>
        go_wp2_with (go_at_call 88; refine (HLA.out _).mono ?_; rintro e w5 ⟨rfl, hb5⟩; have HB5 := hid hb5; clear hb5)
        go_ret
        exact ⟨ret_bool (by rw [HRES.out, if_neg hij2.out, if_neg h32.out]; simp), (bel_drewN HB3.out _).trans (HB5.out.mono (bel_drewN HB3.out _).size)⟩
      | true =>
        by_cases h4 : op2 = 4
        . subst h4
          go_wp2_with (go_at_call 88; refine (HLA.out _).mono ?_; rintro e w5 ⟨rfl, hb5⟩; have t15 := bget hb5 t1; have HB5 := hid hb5; clear hb5)
          go_ret
          exact ⟨ret_bool (by rw [HRES.out, if_neg hij2.out]; simp), (bel_drewN HB3.out _).trans (HB5.out.mono (bel_drewN HB3.out _).size)⟩
        . have e4 : (op2 != 4) = true := by simp [h4]
          have h42 := hid h4;clear h4
          go_wp2_with (first
           | (go_at_call 88; refine (HLA.out _).mono ?_; rintro e w5 ⟨rfl, hb5⟩; have t15 := bget hb5 t1; have y25 := bget hb5 y20; have HB5 := hid ((bel_drewN HB3.out _).trans (hb5.mono (bel_drewN HB3.out _).size)); clear hb5)
           | (go_at_call 89; refine (HCO.out _ HB5.out).mono ?_; rintro e w6 ⟨rfl, rfl⟩))
          go_ret
          exact ⟨ret_bool (by rw [HRES.out, if_neg hij2.out, if_neg h32.out]; have := h42.out; simp [this]), HB5.out⟩
end Go.Proofs.YtpnogmicfomofaaGreatDoor.Stp
namespace Go.Proofs.YtpnogmicfomofaaGreatDoor.Stp
open Go.RowKit Go.Sort Go.Lib Go.Maps
open Go.Lib (hid)
open Adr (WT prE stcB pstatic_any)
set_option maxRecDepth 100000 in
theorem lresource_any (x : CV) (w : World) (hT : WT w) (hs : x.ad.size <= 1000000) : Calls Tryz.prog 82 #[.agg x.arr] w fun e w' => e = .returned (.string (resB x.ad)) /\ Below w.heap.size w w' := by
 have h0 : x.arr[0]? = some (.string x.ad) := rfl;have HC := hid (fun (W : World) (hW : Below w.heap.size w W) => pstatic_any x.ad W (hT.below hW) (by omega));have HB0 := hid (show Below w.heap.size w (w.alloc (.cells x.arr 31)) from (Below.refl _ _).alloc (Nat.le_refl _) _);have HR := hid (show resB x.ad = if prE x.ad.data.toList = 0 then ⟨(stcB x.ad.data.toList).toArray⟩ else x.ad from rfl);obtain ⟨E, hE⟩ : ∃ E, prE x.ad.data.toList = E := ⟨_, rfl⟩;obtain ⟨T, hT2⟩ : ∃ T, (⟨(stcB x.ad.data.toList).toArray⟩ : ByteArray) = T := ⟨_, rfl⟩;rw [hT2] at HC HR;rw [hE] at HC HR;obtain ⟨R, hR⟩ : ∃ R, resB x.ad = R := ⟨_, rfl⟩;rw [hR] at HR ⊢;clear hs hT hE hT2 hR;generalize x.arr = X at *;generalize x.ad = a at *
 by_cases hE : E = 0
 . subst hE
   have hR := HR.out;rw [if_pos rfl] at hR;clear HR;subst hR;go_enter Tryz.func82, Tryz.ntmps82;go_wp2_with (go_at_call 57; refine (HC.out _ HB0.out).mono ?_; rintro e w1 ⟨rfl, hb⟩)
   go_ret
   exact ⟨rfl, HB0.out.trans (hb.mono HB0.out.size)⟩
 . have hn : (E != 0) = true := by simp [hE]
   have hR := HR.out;rw [if_neg hE] at hR;clear hE HR;subst hR;go_enter Tryz.func82, Tryz.ntmps82;go_wp2_with (go_at_call 57; refine (HC.out _ HB0.out).mono ?_; rintro e w1 ⟨rfl, hb⟩; obtain ⟨hc, hf⟩ := bcellB hb)
   go_ret
   exact ⟨rfl, HB0.out.trans (hb.mono HB0.out.size)⟩
theorem wpList_append_own_none' {P : Program} {w : World} {ops : Array Oper} {rest : List Oper} {o : Oper} {a : Act} {Q : Exit -> Act -> World -> Prop} (hgd : o.guard = none) (s x : Operand) (t : TypeId)
  (ho : o.op = .call { callee := .builtin .append, args := #[s, x], argTypes := #[t, t] })
  (base : Nat) (e : TypeId) (i : TypeInfo) (size : Nat) (ht : P.underlying t = some (.slice e)) (hi : P.info? e = some i)
  (v : Value) (n : Nat) (xs : List Value) (c : Nat) (hs : a.eval s = v) (hown : w.ownsRow base e size v n xs) (hx : a.eval x = .slice none 0 c)
  (h : wpList P ops Q rest (a.put o.dst v) w) : wpList P ops Q (o :: rest) a w := by
 refine wpList_plain hgd fun K hK => ?_
 have hrun : (Builtin.append_ #[t, t] o.type #[v, .slice none 0 c]).run P w = .ok v w := by
  rcases hown.2 with ⟨rfl, rfl⟩ | ⟨g, cap, cur, rfl, _, _, hnc, _⟩
  . simp [Builtin.append_, run_underlying ht, sizeOf, typeInfo, hi, Builtin.lenOf, Builtin.firstCells]
  . simp [Builtin.append_, run_underlying ht, sizeOf, typeInfo, hi, Builtin.lenOf, Builtin.firstCells, hnc, storeCells]
 unfold Oper.wp;simp [execOp, ho, resolve, invoke, builtin, hs, hx, hrun, Result.andThen];exact hK _ _ h
theorem wpList_append_sl {α : Type} (enc : α -> List Value) {sz bytes : Nat} {T E : TypeId} {z : Value} {w : World} {ops : Array Oper} {rest : List Oper} {o : Oper} {a : Act} {Q : Exit -> Act -> World -> Prop} (hsz : ∀ x, (enc x).length = sz) (hone : ∀ x, ∀ u ∈ enc x, u.oneCell' = true)
  (hT : Tryz.prog.underlying T = some (.slice E)) (hinfo : (Tryz.prog.info? E).map (fun i => (i.zero, i.size, i.bytes)) = some (some z, sz, bytes)) (hzs : z.cells.size = sz) (hpos : 0 < sz) (hbytes : bytes <= 1000)
  (hgd : o.guard = none) (s x : Operand) (ho : o.op = .call { callee := .builtin .append, args := #[s, x], argTypes := #[T, T] })
  (B : Nat) (v : Value) (xs : List α) (hs : a.eval s = v) (hown : w.ownsRow B E sz v xs.length (xs.flatMap enc)) (r : Option Addr) (m c : Nat) (ys : List α) (hx : a.eval x = .slice r m c)
  (hy : Sl (fun _ cs (x : α) => cs = enc x) sz w (.slice r m c) ys) (hn : xs.length + m <= 1000000) (hbase : B <= w.heap.size)
  (h : ∀ v' w', w'.ownsRow B E sz v' (xs ++ ys).length ((xs ++ ys).flatMap enc) -> w.grownBy w' v.ownBlock -> wpList Tryz.prog ops Q rest (a.put o.dst v') w') : wpList Tryz.prog ops Q (o :: rest) a w := by
 obtain ⟨i0, hi, hz0, hz1, hz2⟩ := info_parts hinfo;obtain ⟨r', cap', hv, hl, hcm, he⟩ := hy;simp at hv;obtain ⟨rfl, rfl, rfl⟩ := hv;cases hr : r with
 | none =>
   subst hr
   have hy0 : ys = [] := by
    cases ys with
    | nil => rfl
    | cons y ys => obtain ⟨b, off, cs, h1, _⟩ := he 0 (by simp); cases h1
   subst hy0;refine wpList_append_own_none' hgd s x T ho B E i0 sz hT hi v xs.length (xs.flatMap enc) c hs hown hx ?_;refine h v w (by simpa using hown) ⟨rfl, rfl, rfl, Nat.le_refl _, fun _ _ _ => rfl⟩
 | some ad =>
   subst hr;refine wpList_append_own w hgd s x T ho B E i0 z sz bytes hT hi hz0 hz1 hz2 hzs hpos v xs.length (xs.flatMap enc) hs hown ad ys.length c (ys.flatMap enc) hx (flat_len enc sz hsz ys) ?_ ?_ (by unfold maxLen; omega) ?_ hbase ?_
   . intro j u hj
     have hjl : j < ys.length * sz := by have := (List.getElem?_eq_some_iff.1 hj).1; rwa [flat_len enc sz hsz] at this
     have hi1 : j / sz < ys.length := by rw [Nat.div_lt_iff_lt_mul hpos]; exact hjl
     obtain ⟨b, off, cs, h1, h2, h3, h4⟩ := he (j / sz) hi1;simp at h1;subst h1;subst h4;have hmod : j % sz < sz := Nat.mod_lt _ hpos;have e : j / sz * sz + j % sz = j := by rw [Nat.mul_comm]; exact Nat.div_add_mod j sz
     have hg := flat_get enc sz hsz ys (j / sz) hi1 (j % sz) hmod;rw [e, hj] at hg;have := h3 (j % sz) u hg.symm;rw [Nat.add_assoc, e] at this;have hadd : (⟨b, off, none⟩ : Addr).add j = ⟨b, off + j, none⟩ := by unfold Addr.add; split <;> simp_all
     rw [hadd]; exact this
   . intro u hu
     obtain ⟨y, _, hy2⟩ := List.mem_flatMap.1 hu;exact hone y u hy2
   . have : (xs.length + ys.length) * bytes <= 1000000 * 1000 := Nat.mul_le_mul hn hbytes
     omega
   . intro v' w' h1 h2 _
     refine h v' w' ?_ h2;rw [List.flatMap_append, List.length_append];exact h1
def growS_ren : Go.Shelf.Ren := ⟨fun | 4 => 118 | n => n, fun | 22 => 27 | 25 => 9 | 3 => 3 | 4 => 4 | 9 => 9 | 20 => 20 | 0 => 0 | n => n, fun | n => n⟩
theorem growS : Go.Proofs.Lays8.n4 Tryz.prog growS_ren := {
 mixed := by kernel_rfl
 f4 := ⟨Tryz.f118.name, by decide, Tryz.func118.trans (congrArg some (by kernel_rfl))⟩
 t0 := Tryz.underlying0
 a0 := Tryz.isAgg0
 z0 := Tryz.sizeOf0
 v0 := Tryz.zeroValue0
 t3 := Tryz.underlying3
 a3 := Tryz.isAgg3
 z3 := Tryz.sizeOf3
 v3 := Tryz.zeroValue3
 t4 := Tryz.underlying4
 a4 := Tryz.isAgg4
 z4 := Tryz.sizeOf4
 v4 := Tryz.zeroValue4
 t9 := Tryz.underlying9
 a9 := Tryz.isAgg9
 z9 := Tryz.sizeOf9
 v9 := Tryz.zeroValue9
 t20 := Tryz.underlying20
 a20 := Tryz.isAgg20
 z20 := Tryz.sizeOf20
 v20 := Tryz.zeroValue20
 t22 := Tryz.underlying27
 a22 := Tryz.isAgg27
 z22 := Tryz.sizeOf27
 v22 := Tryz.zeroValue27 }
theorem grow0 (n : Nat) (w : World) (hn : n <= 900000) : Calls Tryz.prog 118 #[.slice none 0 0, .int .i64 n] w fun e w' => ∃ v', e = .returned v' /\ OwnS w.heap.size w' v' [] /\ Below w.heap.size w w' := by
 by_cases h0 : n = 0
 . subst h0
   exact (Any8.slices_Grow_room growS none 0 0 0 w (Nat.le_refl _) (by omega) (by omega) (by omega)).mono fun e w' ⟨he, hw⟩ => ⟨_, he, ownS_nil _ _, by rw [hw]; exact Below.refl _ _⟩
 . obtain ⟨i0, hi, hz0, hz1, hz2⟩ := info_parts strinfo
   refine (Any8.slices_Grow_grow growS i0 (.string ByteArray.empty) hi hz0 (by rw [hz1]; decide) none 0 0 n [] w (Nat.le_refl _) (by omega) (by rw [hz2]; omega) (by omega) (by simp) (fun _ => rfl) (fun a h => by cases h)).mono fun e w' ⟨he, hw⟩ => ⟨_, he, ?_, ?_⟩
   . have hG : 0 + n <= grownCap w (0 + n) 0 (growS_ren.t 25) := grownCap_ge w _ _ _
     have hM := grownCap_le_maxLen w (0 + n) 0 (growS_ren.t 25) (by unfold maxLen; omega);generalize grownCap w (0 + n) 0 (growS_ren.t 25) = G at *;refine ⟨⟨by simp, .inr ⟨w.heap.size, G, _, rfl, Nat.le_refl _, by rw [hw]; exact heap_alloc_new w.drew _, Nat.zero_le _, hM, ?_, by simp⟩⟩, by simp⟩
     have zc : ∀ k : Nat, (Builtin.zeroCells (Value.string ByteArray.empty).cells k).size = k := fun k => by
      unfold Builtin.zeroCells;simp [Value.cells]
     simp only [Array.size_append, zc];simp;omega
   . rw [hw]
     exact ((Below.refl w.heap.size w).drew).alloc (Nat.le_refl _) _
theorem sl_encS {w : World} {v : Value} {xs : List ByteArray} (h : Sl StrR 1 w v xs) : Sl (fun _ cs (x : ByteArray) => cs = encS x) 1 w v xs := by
 obtain ⟨r, c, e, h1, h2, he⟩ := h;refine ⟨r, c, e, h1, h2, fun i hi => ?_⟩;obtain ⟨b, off, cs, hr, hs, hc, hx⟩ := he i hi
 exact ⟨b, off, cs, hr, hs, hc, by
  obtain ⟨_, _⟩ := hx
  match cs, hs with
  | [u], _ => simp_all [encS]⟩
def ccP (xs ys : List ByteArray) (i : Nat) : List ByteArray := if i = 0 then [] else if i = 1 then xs else xs ++ ys
set_option maxRecDepth 100000 in
set_option maxHeartbeats 4000000 in
theorem concat_any (r1 r2 : Option Addr) (c1 c2 : Nat) (xs ys : List ByteArray) (nb : Nat) (w : World) (h1 : Sl StrR 1 w (.slice r1 xs.length c1) xs) (h2 : Sl StrR 1 w (.slice r2 ys.length c2) ys)
  (g0 : w.cell? ⟨nb, 0, none⟩ = some (.slice r1 xs.length c1)) (g1 : w.cell? ⟨nb, 1, none⟩ = some (.slice r2 ys.length c2)) (hn : xs.length + ys.length <= 900000) :
  Calls Tryz.prog 83 #[.slice (some ⟨nb, 0, none⟩) 2 2] w fun e w' => ∃ v', e = .returned v' /\ OwnS w.heap.size w' v' (xs ++ ys) /\ Below w.heap.size w w' := by
 have HG := hid (fun (W : World) => grow0 (xs.length + ys.length) W hn);have HS1 := hid h1;have HS2 := hid h2;have hx1 : (0 : Int) <= (xs.length : Int) := by omega
 have hx2 : (0 : Int) <= ((xs.length + ys.length : Nat) : Int) := by omega
 clear h1 h2;go_enter Tryz.func83, Tryz.ntmps83;go_wp2_with fail
 go_loopg [3, 11] 2 (fun gg s3 s11 wr => ∃ i : Nat, i <= 2 /\ 2 - i <= gg /\ s11 = .int .i64 i /\ s3 = .int .i64 ((ccP xs ys i).length : Nat) /\ wr = w)
 case atStart => exact ⟨0, by omega, by omega, rfl, rfl, rfl⟩
 case round =>
  obtain ⟨i, hi, hgg, rfl, rfl, hww⟩ := hrel;have hww := hww.symm;subst hww;rcases (show i = 0 ∨ i = 1 ∨ i = 2 by omega) with rfl | rfl | rfl
  . have hw1 : IntKind.i64.wrap (((ccP xs ys 0).length : Nat) + (xs.length : Int)) = ((ccP xs ys 1).length : Nat) := by unfold ccP; rw [IntWalk.i64_in _ (by simp; omega)]; simp
    have hp : ¬ (((ccP xs ys 1).length : Nat) : Int) < 0 := by omega
    generalize (ccP xs ys 0).length = A0 at *;generalize hA1 : (ccP xs ys 1).length = A1 at *;go_wp2_with fail
    go_roundg 1
    case measure => omega
    case rel => exact ⟨1, by omega, by omega, by go_num, by rw [hA1], rfl⟩
  . have hw1 : IntKind.i64.wrap (((ccP xs ys 1).length : Nat) + (ys.length : Int)) = ((ccP xs ys 2).length : Nat) := by unfold ccP; rw [IntWalk.i64_in _ (by simp; omega)]; simp
    have hp : ¬ (((ccP xs ys 2).length : Nat) : Int) < 0 := by omega
    generalize (ccP xs ys 1).length = A0 at *;generalize hA1 : (ccP xs ys 2).length = A1 at *;go_wp2_with fail
    go_roundg 0
    case measure => omega
    case rel => exact ⟨2, by omega, by omega, by go_num, by rw [hA1], rfl⟩
  . have hA : (ccP xs ys 2).length = xs.length + ys.length := by unfold ccP; simp
    rw [hA];go_wp2_with (go_at_call 118; refine (HG.out _).mono ?_; rintro e w3 ⟨v3, rfl, ho3, hb3⟩)
    have HO3 := hid ho3;have HB3 := hid hb3;clear ho3 hb3 HG;obtain ⟨r3, c3, hv3, _, _⟩ := HO3.out.form;subst hv3;go_loopg [6, 27] 2 (fun gg s6 s27 wr => ∃ i : Nat, ∃ r c, i <= 2 /\ 2 - i <= gg /\ s27 = .int .i64 i /\ s6 = .slice r (ccP xs ys i).length c /\ Hid (OwnS w.heap.size wr (.slice r (ccP xs ys i).length c) (ccP xs ys i)) /\ Hid (Below w.heap.size w wr))
    case atStart => exact ⟨0, r3, c3, by omega, by omega, rfl, rfl, HO3, HB3⟩
    case round =>
     clear HO3 HB3;obtain ⟨i, r, c, hi, hgg, rfl, rfl, HO, HB⟩ := hrel;have l0 := bget HB.out g0;have l1 := bget HB.out g1;have hbase := HB.out.size;rcases (show i = 0 ∨ i = 1 ∨ i = 2 by omega) with rfl | rfl | rfl
     . skip
       have hl : IntKind.i64.wrap ((0 : Int) + 1) = 1 := by decide
       go_wp2_with (at_builtin; refine wpList_append_sl encS encS_len encS_one Tryz.underlying27 strinfo rfl (by omega) (by omega) rfl _ _ rfl w.heap.size _ (ccP xs ys 0) rfl HO.out.1 r1 _ c1 xs rfl (sl_encS (HS1.out.below strR_mono HB.out)) (by simp [ccP]; omega) hbase ?_)
       intro v' w' ho hg;obtain ⟨r', c', hv', _, _⟩ := own_form ho;subst hv'
       have HO2 := hid (show OwnS w.heap.size w' (.slice r' (ccP xs ys 1).length c') (ccP xs ys 1) from ⟨by simpa [ccP] using ho, fun z hz => by
        have hz : z ∈ xs ++ ys := by simp [ccP] at hz ⊢; first | exact Or.inl hz | exact hz
        rcases List.mem_append.1 hz with hz | hz
        . exact strs_le HS1.out z hz
        . exact strs_le HS2.out z hz⟩)
       have HB2 := hid (show Below w.heap.size w w' from HB.out.grown hg (by omega) (by intro k hk; exact (HO.out.lt k hk).1));have hlen : (ccP xs ys 0 ++ xs).length = (ccP xs ys 1).length := by simp [ccP]
       go_wp2_with fail
       go_roundg 1
       case measure => omega
       case rel => exact ⟨1, r', c', by omega, by omega, by go_num, by rw [<- hlen, List.length_append], HO2, HB2⟩
     . skip
       have hl : IntKind.i64.wrap ((1 : Int) + 1) = 2 := by decide
       go_wp2_with (at_builtin; refine wpList_append_sl encS encS_len encS_one Tryz.underlying27 strinfo rfl (by omega) (by omega) rfl _ _ rfl w.heap.size _ (ccP xs ys 1) rfl HO.out.1 r2 _ c2 ys rfl (sl_encS (HS2.out.below strR_mono HB.out)) (by simp [ccP]; omega) hbase ?_)
       intro v' w' ho hg;obtain ⟨r', c', hv', _, _⟩ := own_form ho;subst hv'
       have HO2 := hid (show OwnS w.heap.size w' (.slice r' (ccP xs ys 2).length c') (ccP xs ys 2) from ⟨by simpa [ccP] using ho, fun z hz => by
        have hz : z ∈ xs ++ ys := by simp [ccP] at hz ⊢; first | exact Or.inl hz | exact hz
        rcases List.mem_append.1 hz with hz | hz
        . exact strs_le HS1.out z hz
        . exact strs_le HS2.out z hz⟩)
       have HB2 := hid (show Below w.heap.size w w' from HB.out.grown hg (by omega) (by intro k hk; exact (HO.out.lt k hk).1));have hlen : (ccP xs ys 1 ++ ys).length = (ccP xs ys 2).length := by simp [ccP]
       go_wp2_with fail
       go_roundg 0
       case measure => omega
       case rel => exact ⟨2, r', c', by omega, by omega, by go_num, by rw [<- hlen, List.length_append], HO2, HB2⟩
     . have HF := hid (show OwnS w.heap.size wr (.slice r (ccP xs ys 2).length c) (xs ++ ys) from by simpa [ccP] using HO.out)
       go_wp2_with fail
       go_ret
       exact ⟨_, rfl, HF.out, HB.out⟩
end Go.Proofs.YtpnogmicfomofaaGreatDoor.Stp
namespace Go.Proofs.YtpnogmicfomofaaGreatDoor
open Go Go.Maps Go.ChangeMaps
def anyE : Value -> Option (DataW Value × List MemPlace) := fun v => some (.held v, [])
theorem anyE_inv {v : Value} {z : DataW Value × List MemPlace} (h : anyE v = some z) : z = (.held v, []) := by unfold anyE at h; exact (Option.some.inj h).symm
structure KeyT (P : Program) (k : TypeId) {κ : Type} (good : κ -> Prop) (val : κ -> Value) (lit : κ -> Lit) : Prop where
 K : Keyed P k
 key : ∀ x, good x -> keyOf P k (val x) = some (lit x)
 inj : ∀ x y, lit x = lit y -> x = y
 isKey : ∀ x, WideAt.IsKeyLit (lit x)
 inv : ∀ v l, keyOf P k v = some l -> ∃ x, v = val x /\ l = lit x /\ good x
open Classical in
noncomputable def upd {κ : Type} (f : κ -> Option Value) (x : κ) (v : Option Value) : κ -> Option Value := fun y => if y = x then v else f y
theorem upd_same {κ : Type} (f : κ -> Option Value) (x : κ) (v : Option Value) : upd f x v x = v := by simp [upd]
theorem upd_other {κ : Type} (f : κ -> Option Value) {x y : κ} (v : Option Value) (h : y ≠ x) : upd f x v y = f y := by simp [upd, h]
structure OwnF {κ : Type} (w : World) (P : Program) (k : TypeId) (lit : κ -> Lit) (b n c : Nat) (f : κ -> Option Value) : Prop where
 ex : ∃ D : DataW Value, w.ownsMap P k anyE b n D /\ Maps.size D = c /\ (∀ x, Maps.has D (lit x) = (f x).isSome) /\ ∀ x z, D.atKey (lit x) (.held z) = .held ((f x).getD z)
section
variable {κ : Type} {P : Program} {k : TypeId} {good : κ -> Prop} {val : κ -> Value} {lit : κ -> Lit} {w : World} {b n c : Nat} {f : κ -> Option Value}
theorem OwnF.made (w : World) (P : Program) (k : TypeId) (lit : κ -> Lit) : OwnF (w.alloc (.map #[] 0)) P k lit w.heap.size 0 0 (fun _ => none) :=
 ⟨.map [], World.ownsMap_made w P k anyE, rfl, fun x => rfl, fun x z => rfl⟩
theorem OwnF.lt (h : OwnF w P k lit b n c f) : b < w.heap.size := by
 obtain ⟨D, h1, h2⟩ := h.ex;exact h1.lt
theorem OwnF.kept {w' : World} {row : Option Nat} (h : OwnF w P k lit b n c f) (hg : w.grownBy w' row) (hne : some b ≠ row) : OwnF w' P k lit b n c f := by
 obtain ⟨D, h1, h2⟩ := h.ex;exact ⟨D, h1.kept hg hne, h2⟩
theorem OwnF.alloc (h : OwnF w P k lit b n c f) (o : Obj) : OwnF (w.alloc o) P k lit b n c f := by
 obtain ⟨D, h1, h2⟩ := h.ex;exact ⟨D, h1.alloc o, h2⟩
theorem OwnF.drew (h : OwnF w P k lit b n c f) : OwnF w.drew P k lit b n c f := by
 obtain ⟨D, h1, h2⟩ := h.ex;exact ⟨D, h1.drew, h2⟩
theorem OwnF.look {t e : TypeId} (h : OwnF w P k lit b n c f) (T : KeyT P k good val lit) (ht : P.underlying t = some (.map k e)) {z : Value} (hz : (zeroValue e).run P w = .ok z w) (x : κ) (hx : good x) :
  (Instr.lookup t (.map (some b)) (val x) false).run P w = .ok ((f x).getD z) w := by
 obtain ⟨D, h1, _, _, h4⟩ := h.ex;obtain ⟨v, ps, hrun, hv⟩ := h1.lookup T.K ht hz (zd := .held z) (zp := []) rfl (T.key x hx);rw [h4 x z] at hv;have := anyE_inv hv;simp only [Prod.mk.injEq, DataW.held.injEq] at this;rw [hrun, this.1]
theorem OwnF.len {t e : TypeId} (h : OwnF w P k lit b n c f) (ht : P.underlying t = some (.map k e)) (ty : TypeId) : (Builtin.len_ #[t] ty #[.map (some b)]).run P w = .ok (.int .i64 (c : Nat)) w := by
 obtain ⟨D, h1, rfl, _⟩ := h.ex;exact h1.len ht ty
theorem OwnF.store {t e : TypeId} (h : OwnF w P k lit b n c f) (T : KeyT P k good val lit) (ht : P.underlying t = some (.map k e)) (hn : n < maxLen) (x : κ) (hx : good x) (v : Value) :
  ∃ w', (Instr.mapUpdate t (.map (some b)) (val x) v).run P w = .ok () w' /\ OwnF w' P k lit b (n + 1) (if (f x).isSome then c else c + 1) (upd f x (some v)) /\ w.grownBy w' (some b) /\ w.mapTurned w' b := by
 obtain ⟨D, h1, h2, h3, h4⟩ := h.ex;obtain ⟨w', hrun, ho, ht'⟩ := h1.store T.K ht hn (val := v) (T.key x hx) rfl;refine ⟨w', hrun, ⟨_, ho, ?_, fun y => ?_, fun y z => ?_⟩, ht'.grown, ht'⟩
 . rw [size_put (h1.tidy T.K), h3 x, h2]
 . by_cases e : y = x
   . subst e; rw [has_put_same h1.isMap (T.isKey y), upd_same]; rfl
   . rw [has_put_other (fun e' => e (T.inj _ _ e')), upd_other f _ e, h3 y]
 . by_cases e : y = x
   . subst e; rw [atKey_put_same h1.isMap (T.isKey y), upd_same]; rfl
   . rw [atKey_put_other (fun e' => e (T.inj _ _ e')), upd_other f _ e, h4 y z]
theorem OwnF.drop {t e : TypeId} (h : OwnF w P k lit b n c f) (T : KeyT P k good val lit) (ht : P.underlying t = some (.map k e)) (x : κ) (hx : good x) (ty : TypeId) :
  ∃ w', (Builtin.delete_ #[t, k] ty #[.map (some b), val x]).run P w = .ok (.tuple #[]) w' /\ OwnF w' P k lit b n (c - (if (f x).isSome then 1 else 0)) (upd f x none) /\ w.grownBy w' (some b) /\ w.mapTurned w' b := by
 obtain ⟨D, h1, h2, h3, h4⟩ := h.ex;obtain ⟨w', hrun, ho, ht'⟩ := h1.drop T.K ht (T.key x hx) ty;refine ⟨w', hrun, ⟨_, ho, ?_, fun y => ?_, fun y z => ?_⟩, ht'.grown, ht'⟩
 . have := size_del (k := lit x) (h1.tidy T.K)
   rw [h3 x, h2] at this;omega
 . by_cases e : y = x
   . subst e; rw [has_del_same, upd_same]; rfl
   . rw [has_del_other (fun e' => e (T.inj _ _ e')), upd_other f _ e, h3 y]
 . by_cases e : y = x
   . subst e; rw [atKey_del_same, upd_same]; rfl
   . rw [atKey_del_other (fun e' => e (T.inj _ _ e')), upd_other f _ e, h4 y z]
end
def strLit (s : ByteArray) : Lit := .string s.data.toList
theorem strT {P : Program} {k : TypeId} (hk : P.underlying k = some .string) : KeyT P k (fun s : ByteArray => s.size <= maxLen) Value.string strLit :=
 ⟨string_keyed hk, fun x hx => WideMaps.keyOf_string_mk hk hx, fun x y h => by
  simp only [strLit, Lit.string.injEq] at h;obtain ⟨⟨x⟩⟩ := x;obtain ⟨⟨y⟩⟩ := y;simpa using h, fun x => by simp [strLit, WideAt.IsKeyLit], fun v l h => by
  obtain ⟨s, h1, h2, h3⟩ := WideMaps.string_of_keyOf hk h;exact ⟨s, h1, h2, h3⟩⟩
section
variable {κ : Type} {P : Program} {k : TypeId} {good : κ -> Prop} {val : κ -> Value} {lit : κ -> Lit} (w : World) {ops : Array Oper} {rest : List Oper} {o : Oper} {a : Act} {Q : Exit -> Act -> World -> Prop}
theorem wpList_look (hg : o.guard = none) (m x : Operand) (t : TypeId) (hop : o.op = Op.lookup t m x false) (T : KeyT P k good val lit) {e : TypeId} (ht : P.underlying t = some (.map k e)) {z : Value} (hz : (zeroValue e).run P w = .ok z w) (b n c : Nat) (f : κ -> Option Value)
  (hm : a.eval m = .map (some b)) (hown : OwnF w P k lit b n c f) (y : κ) (hx : a.eval x = val y) (hy : good y) (hK : wpList P ops Q rest (a.put o.dst ((f y).getD z)) w) : wpList P ops Q (o :: rest) a w := by
 refine wpList_plain hg fun K' hK' => ?_;unfold Oper.wp;simp [execOp, hop, hm, hx, hown.look T ht hz y hy, Result.andThen];exact hK' _ _ hK
theorem wpList_store (hg : o.guard = none) (m x v : Operand) (t : TypeId) (hop : o.op = Op.mapUpdate t m x v) (T : KeyT P k good val lit) {e : TypeId} (ht : P.underlying t = some (.map k e)) (b n c : Nat) (f : κ -> Option Value)
  (hm : a.eval m = .map (some b)) (hown : OwnF w P k lit b n c f) (hn : n < maxLen) (y : κ) (u : Value) (hx : a.eval x = val y) (hv : a.eval v = u) (hy : good y)
  (hK : ∀ w', OwnF w' P k lit b (n + 1) (if (f y).isSome then c else c + 1) (upd f y (some u)) -> w.grownBy w' (some b) -> wpList P ops Q rest (a.put o.dst undef) w') : wpList P ops Q (o :: rest) a w := by
 refine wpList_plain hg fun K' hK' => ?_;obtain ⟨w', hrun, r1, r2, _⟩ := hown.store T ht hn y hy u;unfold Oper.wp;simp [execOp, hop, hm, hx, hv, hrun, Result.andThen];exact hK' _ _ (hK w' r1 r2)
theorem wpList_del (hg : o.guard = none) (m x : Operand) (t : TypeId) (hop : o.op = Op.call { callee := Callee.builtin Builtin.delete, args := #[m, x], argTypes := #[t, k] }) (T : KeyT P k good val lit) {e : TypeId} (ht : P.underlying t = some (.map k e)) (b n c : Nat) (f : κ -> Option Value)
  (hm : a.eval m = .map (some b)) (hown : OwnF w P k lit b n c f) (y : κ) (hx : a.eval x = val y) (hy : good y)
  (hK : ∀ w', OwnF w' P k lit b n (c - (if (f y).isSome then 1 else 0)) (upd f y none) -> w.grownBy w' (some b) -> wpList P ops Q rest (a.put o.dst (.tuple #[])) w') : wpList P ops Q (o :: rest) a w := by
 refine wpList_plain hg fun K' hK' => ?_;obtain ⟨w', hrun, r1, r2, _⟩ := hown.drop T ht y hy o.type;unfold Oper.wp;simp [execOp, hop, resolve, invoke, builtin, hm, hx, hrun, Result.andThen];exact hK' _ _ (hK w' r1 r2)
end
section
variable {κ : Type} {P : Program} {k : TypeId} {good : κ -> Prop} {val : κ -> Value} {lit : κ -> Lit} {w : World} {b r n c : Nat} {f : κ -> Option Value} {left : κ -> Bool} {cnt : Nat}
end
section
variable {κ : Type} {P : Program} {k : TypeId} {good : κ -> Prop} {val : κ -> Value} {lit : κ -> Lit} (w : World) {ops : Array Oper} {rest : List Oper} {o : Oper} {a : Act} {Q : Exit -> Act -> World -> Prop}
end
end Go.Proofs.YtpnogmicfomofaaGreatDoor
namespace Go.Proofs.YtpnogmicfomofaaGreatDoor.Stp
open Go.RowKit Go.Sort Go.Lib Go.Maps
open Go.Lib (hid)
set_option maxRecDepth 100000 in
set_option maxHeartbeats 4000000 in
theorem before_any (v : Value) (ss : List St) (a b : Int) (w : World) (hS : Sl StR 3 w v ss) (hn : ss.length <= 900000) :
  Calls Tryz.prog 16 #[v, .int .i64 a, .int .i64 b] w fun e w' => e = .returned (.bool (befS ss a b)) /\ Below w.heap.size w w' := by
 obtain ⟨r, c, rfl, _⟩ := id hS;obtain ⟨_, hl, hm⟩ := sl_len hS;have HIX := hid (indexes_any _ ss w hS);have HNE := hid (fun (hr : rightS ss = true) (W : World) (hW : Below w.heap.size w W) (x : Nat) (hx : x < ss.length) => need_at (hS.below stR_mono hW) hr x hx);obtain ⟨i0, hi, hz0, hz1, hz2⟩ := info_parts boolinfo;obtain ⟨C, hC, hCc, hmk⟩ := make_fact (P := Tryz.prog) Tryz.underlying82 hi hz0 hz1 hz2 rfl ss.length (by omega) (by omega);have HCC := hid hCc;clear hS hCc hC hi hz0 hz1 hz2
 by_cases a0 : a < 0
 . have HR := hid (befS_no (ss := ss) (a := a) (b := b) (Or.inr (Or.inl (inR_no (Or.inl a0)))))
   go_enter Tryz.func16, Tryz.ntmps16;go_wp2
   go_ret
   exact ⟨ret_bool HR.out, Below.refl _ _⟩
 by_cases b0 : b < 0
 . have HR := hid (befS_no (ss := ss) (a := a) (b := b) (Or.inr (Or.inr (inR_no (Or.inl b0)))))
   go_enter Tryz.func16, Tryz.ntmps16;go_wp2
   go_ret
   exact ⟨ret_bool HR.out, Below.refl _ _⟩
 by_cases a1 : (ss.length : Int) <= a
 . have HR := hid (befS_no (ss := ss) (a := a) (b := b) (Or.inr (Or.inl (inR_no (Or.inr a1)))))
   go_enter Tryz.func16, Tryz.ntmps16;go_wp2
   go_ret
   exact ⟨ret_bool HR.out, Below.refl _ _⟩
 by_cases b1 : (ss.length : Int) <= b
 . have HR := hid (befS_no (ss := ss) (a := a) (b := b) (Or.inr (Or.inr (inR_no (Or.inr b1)))))
   go_enter Tryz.func16, Tryz.ntmps16;go_wp2
   go_ret
   exact ⟨ret_bool HR.out, Below.refl _ _⟩
 obtain ⟨A, rfl⟩ : ∃ A : Nat, a = A := ⟨a.toNat, by omega⟩;obtain ⟨D, rfl⟩ : ∃ D : Nat, b = D := ⟨b.toNat, by omega⟩;have hA : A < ss.length := by omega
 have hD : D < ss.length := by omega
 go_enter Tryz.func16, Tryz.ntmps16;go_wp2_with fail
 refine HIX.out.mono ?_;rintro e w1 ⟨rfl, hb1⟩;have HB1 := hid hb1;clear hb1 HIX;cases hr : rightS ss
 . have HR := hid (befS_no (ss := ss) (a := (A : Int)) (b := (D : Int)) (Or.inl hr))
   go_wp2
   go_ret
   exact ⟨ret_bool HR.out, HB1.out⟩
 . have HOK := hid (befS_ok hr hA hD)
   have HN := hid (HNE.out hr);have HLT := hid (nd_lt hr)
   have I0 := hid (show BefI ss.length w1.heap.size (2 * ss.length + 1) w ((w1.alloc (.cells C 4)).alloc (.cells #[.int .i64 (D : Int)] 3)) (.slice (some ⟨w1.heap.size + 1, 0, none⟩) 1 1) [] [D] from by
    have hs : (w1.alloc (.cells C 4)).heap.size = w1.heap.size + 1 := by simp
    have hrem : remN (List.range ss.length) [] <= ss.length := by simpa using remN_le (List.range ss.length) []
    have ho := (own_int1 (w1.alloc (.cells C 4)) (w1.heap.size + 1) (D : Int) (by simp) (ib_nat (by omega))).toJ;rw [hs] at ho;have hal : Below w.heap.size (w1.alloc (.cells C 4)) ((w1.alloc (.cells C 4)).alloc (.cells #[.int .i64 (D : Int)] 3)) := (Below.refl _ _).alloc (by have := HB1.out.size; simp; omega) _;exact ⟨(HB1.out.alloc HB1.out.size (.cells C 4)).trans hal, by simp, (Mk.made HCC.out).below ((Below.refl _ _).alloc (Nat.le_refl _) _), ho, by simp; exact hD, by simp; omega, by simp; omega⟩)
   have D0 := hid (Bf.start (nd (nls ss)) A D);have HMl := hid HB1.out.size;clear HNE HCC hr;go_wp2
   generalize w1.heap.size = M at *;clear hmk HB1;go_loopg [8] (2 * ss.length + 1) (fun gg s8 wr => ∃ sn L, Hid (BefI ss.length M gg w wr s8 sn L) /\ Hid (Bf (nd (nls ss)) A D sn L))
   case atStart => exact ⟨[], [D], I0, D0⟩
   case round =>
    obtain ⟨sn, L, HI, HD⟩ := hrel;rcases List.eq_nil_or_concat L with hnil | ⟨L0, x, hcat⟩
    . subst hnil
      obtain ⟨r6, c6, rfl, h61, h62⟩ := HI.out.own.form;have HR := hid (HOK.out.trans (befN_none HD.out.fin));go_wp2
      go_ret
      exact ⟨ret_bool HR.out, HI.out.bel⟩
    . rw [List.concat_eq_append] at hcat
      subst hcat
      have hown := HI.out.own;rw [List.map_append, List.map_singleton] at hown;obtain ⟨g, o, cap, rfl, hc1, hc2, hcell, hxs⟩ := hown.last;rw [List.length_map] at hc1 hcell hown;have hms := HI.out.ms;simp only [List.length_append, List.length_singleton] at hms;have hxn : x < ss.length := HI.out.inb x (by simp);obtain ⟨b3, o3, rn, cn, rfl, hb3, gx0, hl3, hm3, hnx⟩ := HN.out w (Below.refl _ _) x hxn;have gx := bget HI.out.bel gx0;have hb3' : b3 < wr.heap.size := by have := HI.out.bel.size; omega
      have HSL := hid hnx;have hini := hown.init;rw [List.length_map] at hini
      have HI1 := hid (show BefI ss.length M (2 * remN (List.range ss.length) sn + L0.length) w wr (.slice (some ⟨g, o, none⟩) L0.length cap) sn L0 from
       ⟨HI.out.bel, HI.out.sz, HI.out.mks, hini, fun y hy => HI.out.inb y (by simp [hy]), by have := HI.out.len; simp at this; omega, Nat.le_refl _⟩)
      have HD1 := hid HD.out.pop;have HMS := hid hms;have HT := hid (HLT.out x);clear hnx hini hown HI HD hms gx0;simp only [List.length_map];generalize hT : nd (nls ss) x = T at *;have HFT := hid hT;clear hT;go_wp2
      go_loopg [8, 60] T.length (fun gg s8 s60 wx => ∃ (k : Nat) (sm Lm : List Nat), k <= T.length /\ T.length - k <= gg /\ s60 = .int .i64 k /\ Hid (BefI ss.length M (2 * remN (List.range ss.length) sn + L0.length) w wx s8 sm Lm) /\ Hid (BfI (nd (nls ss)) A D x k sm Lm))
      case atStart => exact ⟨0, sn, L0, by omega, by omega, rfl, HI1, HD1⟩
      case round =>
       obtain ⟨k, sm, Lm, hk, hg, rfl, HJ, HE⟩ := hrel;obtain ⟨r7, c7, hv7, h71, h72⟩ := HJ.out.own.form;rw [List.length_map] at hv7 h71;subst hv7
       by_cases hlt : k < T.length
       . obtain ⟨b4, o4, rfl, hb4, g4, hyn⟩ := HSL.out _ HJ.out.bel k hlt
         have hmk := HJ.out.mks.cell T[k] hyn;have hmf := HJ.out.mks.free T[k];have HHIT := hid (fun (h : T[k] = A) => HE.out.hit (by rw [HFT.out]; exact hlt) (by simp only [HFT.out]; exact h));have HSK := hid (fun (h : T[k] ∈ sm) (h2 : T[k] ≠ A) => HE.out.skip (by rw [HFT.out]; exact hlt) (by simpa only [HFT.out] using h) (by simpa only [HFT.out] using h2))
         have HPU : Hid (T[k] ≠ A -> BfI (nd (nls ss)) A D x (k + 1) (sm ++ [T[k]]) (Lm ++ [T[k]])) := hid (fun h2 => by
          have := HE.out.push (by rw [HFT.out]; exact hlt) (by simpa only [HFT.out] using h2);simp only [HFT.out] at this;exact this)
         have HST := hid (fun (h : T[k] ∉ sm) => remN_add (U := List.range ss.length) (by simpa using hyn) h);clear HE;generalize T[k] = y at *
         by_cases hya : y = A
         . subst hya
           have HR := hid (HOK.out.trans (befN_yes (HHIT.out rfl)));clear HHIT HSK HPU HST hmk hmf;go_wp2
           go_ret
           exact ⟨ret_bool HR.out, HJ.out.bel⟩
         . have hne : ((y : Int) == (A : Int)) = false := by simpa using (by omega : (y : Int) ≠ A)
           have HYA := hid hya;clear hya HHIT;cases hy : hasN y sm
           case true =>
               have HS1 := hid (HSK.out (hasN_iff.1 hy) HYA.out);rw [hy] at hmk;clear HSK HPU HST hmf;go_wp2
               go_roundg (T.length - (k + 1))
               case measure => omega
               case rel => exact ⟨k + 1, sm, Lm, by omega, by omega, by go_num, HJ, HS1⟩
           case false =>
               have hno : y ∉ sm := fun h => by rw [hasN_iff.2 h] at hy; cases hy
               have HS1 := hid (HPU.out HYA.out);have HR := hid (HST.out hno);rw [hy] at hmk;have HYN := hid hyn;have HL := hid HJ.out.own.lt;have HLl := hid (show (Lm.map Nat.cast : List Int).length + 1 <= 1000000 by have := HJ.out.len; have := HR.out; rw [List.length_map]; omega);have HZ := hid HJ.out.sz;have HOw3 := hid ((HJ.out.own.setBelow (a := ⟨M, y, none⟩) (by simp) (.bool true)).below ((Below.refl _ _).alloc (Nat.le_refl _) (.cells #[.int .i64 (y : Int)] 3)));have HMk3 := hid ((HJ.out.mks.set hyn).below ((Below.refl _ _).alloc (Nat.le_refl _) (.cells #[.int .i64 (y : Int)] 3)));have HB3 := hid (show Below w.heap.size w ((wr.setCell ⟨M, y, none⟩ (.bool true)).alloc (.cells #[.int .i64 (y : Int)] 3)) from (HJ.out.bel.setCell (by simpa using HMl.out) _).alloc (by have := HJ.out.bel.size; simpa [World.setCell] using this) _)
               have HBL : Hid (((wr.setCell ⟨M, y, none⟩ (.bool true)).alloc (.cells #[.int .i64 (y : Int)] 3)).heap[wr.heap.size]? = some (.cells #[.int .i64 (y : Int)] 3 (0, 0))) := hid (by
                have h1 := (MapKept.heap_alloc (wr.setCell ⟨M, y, none⟩ (.bool true)) (.cells #[.int .i64 (y : Int)] 3)).1;have h2 : (wr.setCell ⟨M, y, none⟩ (.bool true)).heap.size = wr.heap.size := by simp [World.setCell]
                rw [h2] at h1;exact h1)
               clear HSK HPU HST hno hy
               go_wp2_with (at_builtin
                            go_loud (refine app_j rfl _ _ rfl (M + 1) _ (Lm.map Nat.cast) rfl HOw3.out wr.heap.size 1 y rfl (fr := (0, 0)) HBL.out (ib_nat (by have := HYN.out; omega)) HLl.out (by have := HZ.out; simp [World.setCell]; omega) ?_)
                            intro v4 w4 hm4;have HM4 := hid hm4;clear hm4)
               go_roundg (T.length - (k + 1))
               case measure => omega
               case rel =>
                obtain ⟨m1, m2, m3⟩ := HM4.out;have hr := HR.out;refine ⟨k + 1, sm ++ [y], Lm ++ [y], by omega, by omega, by go_num, hid ⟨Below.grown HB3.out m2 HB3.out.size (fun g hg => by have := (HL.out g hg).1; have := HMl.out; omega), ?_, HMk3.out.grown m2 (fun e => by have := (HL.out _ e).1; omega), ?_, ?_, ?_, ?_⟩, HS1⟩
                . have := m2.size; have := HZ.out; simp [World.setCell] at *; omega
                . rw [List.map_append, List.map_singleton]; exact m1
                . intro z hz
                  rw [List.mem_append, List.mem_singleton] at hz;rcases hz with hz | rfl
                  . exact HJ.out.inb z hz
                  . exact HYN.out
                . have := HJ.out.len; simp; omega
                . have := HJ.out.ms; simp; omega
       . have hke : k = T.length := by omega
         have HK := hid hke;have hms2 := HJ.out.ms;have HM2 := hid hms2;clear hke hms2;go_wp2
         go_roundg (2 * remN (List.range ss.length) sm + Lm.length)
         case measure => have h1 := HM2.out; have h2 := HMS.out; omega
         case rel =>
          have hk2 := HK.out;have he := HE.out;rw [hk2, <- HFT.out] at he;exact ⟨sm, Lm, hid ⟨HJ.out.bel, HJ.out.sz, HJ.out.mks, HJ.out.own, HJ.out.inb, HJ.out.len, Nat.le_refl _⟩, hid he.done⟩
end Go.Proofs.YtpnogmicfomofaaGreatDoor.Stp
namespace Go.Proofs.YtpnogmicfomofaaGreatDoor.Stp
open Go.RowKit Go.Sort Go.Lib Go.Maps
open Go.Lib (hid)
end Go.Proofs.YtpnogmicfomofaaGreatDoor.Stp
namespace Go.Proofs.YtpnogmicfomofaaGreatDoor.Stp
open Go.RowKit Go.Sort Go.Lib Go.Maps
open Go.Lib (hid)
theorem ret_pair {v : Value} {a b : Int} (h : a = b) : Ending.returned (.tuple #[v, .int .i64 b]) = .returned (.tuple #[v, .int .i64 a]) := by rw [h]
def ordL (ss : List St) : List Nat := if rightS ss = true then ordOn (List.range ss.length) (esN (nls ss)) else []
def ordR (ss : List St) : Int := if rightS ss = true then ordEn (List.range ss.length) (esN (nls ss)) else 1
def OrdPN (ss : List St) (w : World) (e : Ending) (w' : World) : Prop :=
 ∃ v, e = .returned (.tuple #[v, .int .i64 (ordR ss)]) /\ Sl IntR 1 w' v ((ordL ss).map Nat.cast) /\ Below w.heap.size w w'
theorem ordU_bad {ss : List St} (h : rightS ss = false) : ordL ss = [] /\ ordR ss = 1 := by unfold ordL ordR; rw [h]; exact ⟨rfl, rfl⟩
theorem OwnI.setBelow {B : Nat} {w : World} {v : Value} {xs : List Int} (h : OwnI B w v xs) {a : Addr} (ha : a.block < B) (u : Value) : OwnI B (w.setCell a u) v xs := by
 refine h.kept (row := some a.block) ⟨rfl, rfl, rfl, by simp [World.setCell], fun k hk hne => Below.heap_setCell _ _ _ _ (fun e => hne (by rw [e]))⟩ fun g hg e => ?_;have := (h.lt g hg).1;cases e;omega
end Go.Proofs.YtpnogmicfomofaaGreatDoor.Stp
namespace Go.Proofs.YtpnogmicfomofaaGreatDoor.Stp
open Go.RowKit Go.Sort Go.Lib Go.Maps
open Go.Lib (hid)
theorem bs_j (B g o cap : Nat) (xs : List Int) (x : Int) (w : World) (h : OwnJ B w (.slice (some ⟨g, o, none⟩) xs.length cap) xs) (hs : xs.Pairwise (· <= ·)) (hn : xs.length <= 1000000) :
  Calls Tryz.prog 33 #[.slice (some ⟨g, o, none⟩) xs.length cap, .int .i64 x] w fun e w' =>
   (∃ bb, e = .returned (.tuple #[.int .i64 (xs.countP (· < x) : Nat), .bool bb])) /\ Below w.heap.size w w' := by
 obtain ⟨r, c, e, h2, h3, h4, h5, h6⟩ := h.ex;simp at e;obtain ⟨rfl, rfl⟩ := e;obtain ⟨g', o', e, h7, h8, h9, h10⟩ := h6 _ rfl;simp at e;obtain ⟨rfl, rfl⟩ := e;refine (Any.slices_BinarySearch_int Tryz.laysB25 g o xs.length cap xs x w (Nat.le_refl _) (by omega) (fun j hj => ?_) (by rw [List.take_length]; exact hs)).mono ?_
 . rw [h9 j hj, List.getD_eq_getElem?_getD, List.getElem?_eq_getElem hj]; rfl
 . rintro e w' ⟨he, q, rfl⟩
   rw [List.take_length] at he;exact ⟨⟨_, he⟩, bel_drewN (Below.refl _ _) _⟩
end Go.Proofs.YtpnogmicfomofaaGreatDoor.Stp
namespace Go.Proofs.YtpnogmicfomofaaGreatDoor.Stp
open Go.RowKit Go.Sort Go.Lib Go.Maps
open Go.Lib (hid)
theorem ins_get {xs : List Int} {i : Nat} {y : Int} (hi : i <= xs.length) {j : Nat} (hj : j < (xs.insertIdx i y).length) :
  (j < i -> ∃ h : j < xs.length, (xs.insertIdx i y)[j] = xs[j]) /\ (j = i -> (xs.insertIdx i y)[j] = y) /\ (i < j -> ∃ h : j - 1 < xs.length, (xs.insertIdx i y)[j] = xs[j - 1]) := by
 have hl : (xs.insertIdx i y).length = xs.length + 1 := by rw [List.length_insertIdx, if_pos hi]
 refine ⟨fun h => ⟨by omega, List.getElem_insertIdx_of_lt h ..⟩, fun h => by subst h; exact List.getElem_insertIdx_self .., fun h => ⟨by omega, List.getElem_insertIdx_of_gt h ..⟩⟩
theorem ins_mem {xs : List Int} {i : Nat} {y z : Int} (hi : i <= xs.length) (h : z ∈ xs.insertIdx i y) : z = y ∨ z ∈ xs := (List.mem_insertIdx hi).1 h
theorem vals_get {xs : List Int} {j : Nat} {u : Value} (h : (xs.map (Value.int .i64))[j]? = some u) : ∃ hj : j < xs.length, u = .int .i64 xs[j] := by
 rw [List.getElem?_map] at h;cases hx : xs[j]? with
 | none => rw [hx] at h; cases h
 | some z =>
   rw [hx] at h;obtain ⟨hjl, rfl⟩ := List.getElem?_eq_some_iff.1 hx;exact ⟨hjl, by simpa using h.symm⟩
theorem ins_cells {g o i : Nat} {xs : List Int} {y : Int} {W W2 : World} (hi : i <= xs.length)
  (hlow : ∀ j (hj : j < i), W.cell? ⟨g, o + j, none⟩ = some (.int .i64 (xs[j]'(by omega)))) (hsome : ∀ j, j <= xs.length -> (W.cell? ⟨g, o + j, none⟩).isSome = true)
  (h1 : W2 = (W.setCells g (o + (i + 1)) ((xs.map (Value.int .i64)).drop i)).setCells g (o + i) [.int .i64 y] ∨ W2 = (W.setCells g (o + i) [.int .i64 y]).setCells g (o + (i + 1)) ((xs.map (Value.int .i64)).drop i)) :
  ∀ j (hj : j < (xs.insertIdx i y).length), W2.cell? ⟨g, o + j, none⟩ = some (.int .i64 (xs.insertIdx i y)[j]) := by
 intro j hj;have hl : (xs.insertIdx i y).length = xs.length + 1 := by rw [List.length_insertIdx, if_pos hi]
 obtain ⟨k1, k2, k3⟩ := ins_get hi hj;have hdl : ((xs.map (Value.int .i64)).drop i).length = xs.length - i := by simp
 have some1 : ∀ k, k < ((xs.map (Value.int .i64)).drop i).length -> (W.cell? ⟨g, o + (i + 1) + k, none⟩).isSome = true := fun k hk => by
  rw [hdl] at hk;have := hsome (i + 1 + k) (by omega)
  rwa [show o + (i + 1 + k) = o + (i + 1) + k by omega] at this
 have some2 : ∀ k, k < ([Value.int .i64 y] : List Value).length -> (W.cell? ⟨g, o + i + k, none⟩).isSome = true := fun k hk => by
  have h0 : k = 0 := by simpa using hk
  subst h0;exact hsome i hi
 rcases h1 with rfl | rfl
 . by_cases c1 : j = i
   . subst c1
     have := World.cell?_setCells_in g [.int .i64 y] (o + j) (W.setCells g (o + (j + 1)) ((xs.map (Value.int .i64)).drop j)) (fun k hk => isSome_setCells g _ _ _ some1 _ (some2 k hk)) 0 (by simp);rw [k2 rfl];simpa using this
   . rw [World.cell?_setCells_out _ _ _ _ _ (fun _ _ => by simp only [List.length_singleton]; omega)]
     by_cases c2 : j < i
     . obtain ⟨h, e⟩ := k1 c2
       rw [World.cell?_setCells_out _ _ _ _ _ (fun _ _ => Or.inl (by simp only; omega)), e, hlow j c2]
     . obtain ⟨h, e⟩ := k3 (by omega)
       have := World.cell?_setCells_in g ((xs.map (Value.int .i64)).drop i) (o + (i + 1)) W some1 (j - (i + 1)) (by rw [hdl]; omega);rw [show o + (i + 1) + (j - (i + 1)) = o + j by omega] at this;rw [this, e];simp only [List.getElem_drop, List.getElem_map]
       congr 3
       omega
 . by_cases c1 : i < j
   . obtain ⟨h, e⟩ := k3 c1
     have := World.cell?_setCells_in g ((xs.map (Value.int .i64)).drop i) (o + (i + 1)) (W.setCells g (o + i) [.int .i64 y]) (fun k hk => isSome_setCells g _ _ _ some2 _ (some1 k hk)) (j - (i + 1)) (by rw [hdl]; omega);rw [show o + (i + 1) + (j - (i + 1)) = o + j by omega] at this;rw [this, e];simp only [List.getElem_drop, List.getElem_map]
     congr 3
     omega
   . rw [World.cell?_setCells_out _ _ _ _ _ (fun _ _ => Or.inl (by simp only; omega))]
     by_cases c2 : j = i
     . subst c2
       have := World.cell?_setCells_in g [.int .i64 y] (o + j) W some2 0 (by simp);rw [k2 rfl];simpa using this
     . obtain ⟨h, e⟩ := k1 (by omega)
       rw [World.cell?_setCells_out _ _ _ _ _ (fun _ _ => Or.inl (by simp only; omega)), e, hlow j (by omega)]
theorem block_setCells (b : Nat) : ∀ (vs : List Value) (o : Nat) (w : World) {C : Array Value} {E : TypeId} {fr : Nat × Nat}, w.heap[b]? = some (.cells C E fr) -> ∃ C', (w.setCells b o vs).heap[b]? = some (.cells C' E fr) /\ C'.size = C.size
 | [], _, w, C, E, fr, h => ⟨C, h, rfl⟩
 | v :: r, o, w, C, E, fr, h => by
   have h1 : ∃ C', (w.setCell ⟨b, o, none⟩ v).heap[b]? = some (.cells C' E fr) /\ C'.size = C.size := by
    have hb := (Array.getElem?_eq_some_iff.1 h).1;refine ⟨C.setIfInBounds o v, ?_, by simp⟩;show (w.heap.modify b _)[b]? = _;rw [Array.getElem?_modify, if_pos rfl, h];rfl
   obtain ⟨C', h2, h3⟩ := h1;obtain ⟨C2, h4, h5⟩ := block_setCells b r (o + 1) (w.setCell ⟨b, o, none⟩ v) h2;exact ⟨C2, by rw [World.setCells]; exact h4, h5.trans h3⟩
set_option maxRecDepth 100000 in
set_option maxHeartbeats 4000000 in
theorem ins_j (B : Nat) (v : Value) (xs : List Int) (i : Nat) (y : Int) (nb : Nat) (w : World) (h : OwnJ B w v xs) (hi : i <= xs.length) (hy : w.heap[nb]? = some (.cells #[.int .i64 y] 3 (0, 0))) (hne : v.ownBlock ≠ some nb) (hyb : IB y) (hn : xs.length + 1 <= 1000000) (hbase : B <= w.heap.size) :
  Calls Tryz.prog 34 #[v, .int .i64 i, .slice (some ⟨nb, 0, none⟩) 1 1] w fun e w' => ∃ g o c, e = .returned (.slice (some ⟨g, o, none⟩) (xs.length + 1) c) /\ xs.length + 1 <= c /\ c <= 9223372036854775807 /\ MoreJ B w v (xs.insertIdx i y) (.slice (some ⟨g, o, none⟩) (xs.length + 1) c) w' := by
 obtain ⟨r, cap, rfl, h2, h3, h4, h5, h6⟩ := h.ex;have hl : (xs.insertIdx i y).length = xs.length + 1 := by rw [List.length_insertIdx, if_pos hi]
 have hcl : (xs.map (Value.int .i64)).length = xs.length := by simp
 have hnews : ∀ j u, ([Value.int .i64 y] : List Value)[j]? = some u -> w.cell? ⟨nb, 0 + j, none⟩ = some u := fun j u hj => by
  rw [cell_of hy, Nat.zero_add]; simpa using hj
 have hone : ∀ u ∈ ([Value.int .i64 y] : List Value), u.oneCell' = true := fun u hu => by simp at hu; subst hu; rfl
 have honec : ∀ u ∈ xs.map (Value.int .i64), u.oneCell' = true := fun u hu => by
  obtain ⟨x, _, rfl⟩ := List.mem_map.1 hu;rfl
 have hsz : ∀ z ∈ xs.insertIdx i y, IB z := fun z hz => by
  rcases ins_mem hi hz with rfl | hz
  . exact hyb
  . exact h5 z hz
 have hcap63 : cap <= 9223372036854775807 := by unfold maxLen at h3; omega
 by_cases hroom : xs.length + 1 <= cap
 ·
  obtain ⟨a0, rfl⟩ : ∃ a0, r = some a0 := by
   cases r with
   | none => have := h4 rfl; omega
   | some a0 => exact ⟨a0, rfl⟩
  obtain ⟨g, o, rfl, h7, h8, h9, h10⟩ := h6 _ rfl;have hgn : nb ≠ g := fun e => hne (by rw [e]; rfl)
  have place : ∀ W2 : World, W2 = (w.setCells g (o + (i + 1)) ((xs.map (Value.int .i64)).drop i)).setCells g (o + i) [.int .i64 y] ∨ W2 = (w.setCells g (o + i) [.int .i64 y]).setCells g (o + (i + 1)) ((xs.map (Value.int .i64)).drop i) -> ∀ W', (∀ a, W'.cell? a = W2.cell? a) -> (∀ a, W'.frozen? a = W2.frozen? a) -> W'.heap = W2.heap -> W'.os = w.os -> W'.tape = w.tape -> W'.output = w.output ->
    MoreJ B w (.slice (some ⟨g, o, none⟩) xs.length cap) (xs.insertIdx i y) (.slice (some ⟨g, o, none⟩) (xs.length + 1) cap) W' := by
   intro W2 hW W' hc' hf' hh' e1 e2 e3;have hsize : W'.heap.size = w.heap.size := by rw [hh']; rcases hW with rfl | rfl <;> rw [size_setCells', size_setCells']
   have hblk : ∀ k, k ≠ g -> W'.heap[k]? = w.heap[k]? := fun k hk => by
    rw [hh'];rcases hW with rfl | rfl <;> rw [heap_setCells_ne _ _ _ _ hk, heap_setCells_ne _ _ _ _ hk]
   have hcells := ins_cells (W2 := W2) hi (fun j hj => h9 j (by omega)) (fun j hj => (h10 j (by omega)).1) hW;refine ⟨⟨some ⟨g, o, none⟩, cap, by rw [hl], by omega, h3, (fun h => by cases h), hsz, fun a ha => ?_⟩, ⟨e1, e2, e3, by omega, fun k hk hne' => hblk k (fun e => hne' (by rw [e]; rfl))⟩, fun g' hg' => Or.inl hg'⟩;cases ha;refine ⟨g, o, rfl, h7, by omega, fun j hj => (hc' _).trans (hcells j hj), fun j hj => ⟨?_, ?_⟩⟩
   . rw [hc']
     by_cases hjl : j < (xs.insertIdx i y).length
     . rw [hcells j hjl]; rfl
     . have hd : ((xs.map (Value.int .i64)).drop i).length = xs.length - i := by simp
       rcases hW with rfl | rfl
       . rw [World.cell?_setCells_out _ _ _ _ _ (fun _ _ => by simp only [List.length_singleton]; omega), World.cell?_setCells_out _ _ _ _ _ (fun _ _ => by simp only [hd]; omega)]
         exact (h10 j hj).1
       . rw [World.cell?_setCells_out _ _ _ _ _ (fun _ _ => by simp only [hd]; omega), World.cell?_setCells_out _ _ _ _ _ (fun _ _ => by simp only [List.length_singleton]; omega)]
         exact (h10 j hj).1
   . rw [hf']
     rcases hW with rfl | rfl <;> rw [World.frozen?_setCells, World.frozen?_setCells] <;> exact (h10 j hj).2
  by_cases hie : i < xs.length
  . obtain ⟨eB, kB, hsb, hkB, _⟩ := World.shape?_of_cell? (h9 0 (by omega))
    have hsa : w.shape? nb = some (3, 1) := by unfold World.shape?; rw [hy]; rfl
    refine (Any2.slices_Insert_int_shift Tryz.laysB21 g o xs.length cap i nb 0 1 1 (xs.map (Value.int .i64)) [.int .i64 y] w hie (by omega) hroom hcap63 hgn hcl rfl (fun j u hj => ?_) (fun j hj => (h10 j (by omega)).1) (fun j hj => (h10 j (by omega)).2) hnews honec hone _ eB 1 kB hsa hsb (by omega) (frozen_of hy _) (frozen_of hy _)).mono ?_
    . obtain ⟨hjl, rfl⟩ := vals_get hj
      exact h9 j hjl
    . rintro e w' ⟨rfl, rfl⟩
      refine ⟨_, _, _, rfl, hroom, hcap63, place _ (Or.inl rfl) _ (fun a => ?_) (fun a => ?_) ?_ ?_ ?_ ?_⟩
      . rw [<- drew_setCells, <- drew_setCells]; rfl
      . rw [<- drew_setCells, <- drew_setCells]; rfl
      . rw [<- drew_setCells, <- drew_setCells]; rfl
      . exact (same_setCells g _ _ _).1.trans (same_setCells g _ _ _).1
      . exact (same_setCells g _ _ _).2.1.trans (same_setCells g _ _ _).2.1
      . exact (same_setCells g _ _ _).2.2.trans (same_setCells g _ _ _).2.2
  . have hie2 : i = xs.length := by omega
    subst hie2;refine (Any2.slices_Insert_int_end_room Tryz.laysB21 g o xs.length cap nb 0 1 1 [.int .i64 y] w (by omega) hroom hcap63 rfl (fun j hj => ?_) (fun j hj => ?_) hnews hone).mono ?_
    . have h0 : j = 0 := by omega
      subst h0;exact (h10 xs.length (by omega)).1
    . have h0 : j = 0 := by omega
      subst h0;exact (h10 xs.length (by omega)).2
    . rintro e w' ⟨rfl, rfl⟩
      have hd : (xs.map (Value.int .i64)).drop xs.length = [] := by simp
      exact ⟨_, _, _, rfl, hroom, hcap63, place _ (Or.inl rfl) _ (fun a => by rw [hd]; rfl) (fun a => by rw [hd]; rfl) (by rw [hd]; rfl) (same_setCells g _ _ _).1 (same_setCells g _ _ _).2.1 (same_setCells g _ _ _).2.2⟩
 . have hc1 := grownCap_ge w (xs.length + 1) cap 3
   have hc2 := grownCap_le_maxLen w (xs.length + 1) cap 3 (by unfold maxLen; omega);have hzc : ∀ n, (Builtin.zeroCells (Value.int .i64 0).cells n).size = n := fun n => by rw [size_zeroCells]; show n * 1 = n; omega
   have fin : ∀ W' C E, W'.heap[w.heap.size]? = some (.cells C E (0, 0)) -> C.size = grownCap w (xs.length + 1) cap 3 -> (∀ j (hj : j < (xs.insertIdx i y).length), W'.cell? ⟨w.heap.size, 0 + j, none⟩ = some (.int .i64 (xs.insertIdx i y)[j])) -> w.grownBy W' none ->
     MoreJ B w (.slice r xs.length cap) (xs.insertIdx i y) (.slice (some ⟨w.heap.size, 0, none⟩) (xs.length + 1) (grownCap w (xs.length + 1) cap 3)) W' := by
    intro W' C E hb hC hcells hg;refine ⟨⟨some ⟨w.heap.size, 0, none⟩, _, by rw [hl], by omega, hc2, (fun h => by cases h), hsz, fun a ha => ?_⟩, grown_any hg _, fun g hg' => ?_⟩
    . cases ha
      exact ⟨w.heap.size, 0, rfl, hbase, lt_of_block hb, hcells, fun j hj => ⟨by rw [cell_of hb, Array.getElem?_eq_getElem (by omega)]; rfl, frozen_of hb _⟩⟩
    . simp [Value.ownBlock] at hg'
      subst hg';exact Or.inr (Nat.le_refl _)
   by_cases hie : i < xs.length
   . obtain ⟨a0, rfl⟩ : ∃ a0, r = some a0 := by
      cases r with
      | none => have := h4 rfl; omega
      | some a0 => exact ⟨a0, rfl⟩
     obtain ⟨g, o, rfl, h7, h8, h9, h10⟩ := h6 _ rfl;refine (Any2.slices_Insert_int_grow Tryz.laysB21 g o xs.length cap i nb 0 1 1 (xs.map (Value.int .i64)) [.int .i64 y] w hie (by omega) h2 (by omega) (by omega) hcl rfl (fun j u hj => ?_) hnews honec hone).mono ?_
     . obtain ⟨hjl, rfl⟩ := vals_get hj
       exact h9 j hjl
     . rintro e w' ⟨rfl, rfl⟩
       refine ⟨_, _, _, rfl, hc1, (show grownCap w (xs.length + 1) cap 3 <= 9223372036854775807 from by have := hc2; unfold maxLen at this; omega), ?_⟩;simp only [<- drew_setCells];have ht3 : Tryz.laysB21_ren.t 3 = 3 := rfl;rw [ht3];generalize hA : ((xs.map (Value.int .i64)).take i).toArray ++ Builtin.zeroCells (Value.int .i64 0).cells (xs.length + 1 - i) ++ Builtin.zeroCells (Value.int .i64 0).cells (grownCap w (xs.length + 1) cap _ - (xs.length + 1)) = A0
       have hAs : A0.size = grownCap w (xs.length + 1) cap 3 := by
        rw [<- hA, Array.size_append, Array.size_append, hzc, hzc, List.size_toArray, List.length_take, hcl];have : min i xs.length = i := by omega
        rw [this];show i + (xs.length + 1 - i) + (grownCap w (xs.length + 1) cap 3 - (xs.length + 1)) = _;omega
       have hb0 := (MapKept.heap_alloc w (.cells A0 3)).1;obtain ⟨C1, hb1, hs1⟩ := block_setCells w.heap.size [Value.int .i64 y] i (w.alloc (.cells A0 3)) hb0;obtain ⟨C2, hb2, hs2⟩ := block_setCells w.heap.size ((xs.map (Value.int .i64)).drop i) (i + 1) _ hb1;refine fin _ C2 3 ?_ (by rw [hs2, hs1, hAs]) (fun j hj => ?_) ?_
       . exact hb2
       . have hcs := ins_cells (g := w.heap.size) (o := 0) (i := i) (xs := xs) (y := y) (W := w.alloc (.cells A0 3)) (W2 := ((w.alloc (.cells A0 3)).setCells w.heap.size (0 + i) [.int .i64 y]).setCells w.heap.size (0 + (i + 1)) ((xs.map (Value.int .i64)).drop i)) hi (fun j hj => ?_) (fun j hj => ?_) (Or.inr rfl) j hj
         . rw [Nat.zero_add, Nat.zero_add] at hcs
           exact (congrArg (fun q => World.cell? _ ⟨w.heap.size, q, none⟩) (Nat.zero_add j)).trans (by rw [Nat.zero_add] at hcs; exact hcs)
         . rw [cell_of hb0, <- hA, Nat.zero_add, Array.getElem?_append_left (by rw [Array.size_append, hzc, List.size_toArray, List.length_take, hcl]; omega), Array.getElem?_append_left (by rw [List.size_toArray, List.length_take, hcl]; omega)]
           have hjx : j < xs.length := by omega
           simp [hj, hjx]
         . rw [cell_of hb0, Array.getElem?_eq_getElem (by rw [hAs]; omega)]; rfl
       . refine ⟨(same_setCells _ _ _ _).1.trans (same_setCells _ _ _ _).1, (same_setCells _ _ _ _).2.1.trans (same_setCells _ _ _ _).2.1, (same_setCells _ _ _ _).2.2.trans (same_setCells _ _ _ _).2.2, ?_, fun k hk _ => ?_⟩
         . show _ <= (World.setCells _ _ _ _).heap.size
           rw [size_setCells', size_setCells'];simp
         . have hk' : k ≠ w.heap.size := by omega
           show (World.setCells _ _ _ _).heap[k]? = _;rw [heap_setCells_ne _ _ _ _ hk', heap_setCells_ne _ _ _ _ hk'];exact Below.heap_alloc _ _ _ hk
   . have hie2 : i = xs.length := by omega
     subst hie2;refine (Any2.slices_Insert_int_end_grow Tryz.laysB21 r xs.length cap nb 0 1 1 (xs.map (Value.int .i64)) [.int .i64 y] w (by omega) h2 (by omega) (by omega) hcl rfl (fun e => by have := h4 e; omega) (fun a ha j u hj => ?_) hnews hone).mono ?_
     . obtain ⟨hjl, rfl⟩ := vals_get hj
       obtain ⟨g, o, rfl, h7, h8, h9, h10⟩ := h6 _ ha;rw [Addr.add_lit];exact h9 j hjl
     . rintro e w' ⟨rfl, rfl⟩
       refine ⟨_, _, _, rfl, hc1, (show grownCap w (xs.length + 1) cap 3 <= 9223372036854775807 from by have := hc2; unfold maxLen at this; omega), ?_⟩;have ht3 : Tryz.laysB21_ren.t 3 = 3 := rfl;rw [ht3];generalize hA : (xs.map (Value.int .i64) ++ [Value.int .i64 y]).toArray ++ Builtin.zeroCells (Value.int .i64 0).cells (grownCap w (xs.length + 1) cap _ - (xs.length + 1)) = A0
       have hAs : A0.size = grownCap w (xs.length + 1) cap 3 := by
        rw [<- hA, Array.size_append, hzc, List.size_toArray, List.length_append, hcl];show xs.length + 1 + (grownCap w (xs.length + 1) cap 3 - (xs.length + 1)) = _;omega
       have hb0 : (w.drew.alloc (.cells A0 3)).heap[w.heap.size]? = some (.cells A0 3 (0, 0)) := (MapKept.heap_alloc w.drew (.cells A0 3)).1;refine fin _ A0 3 hb0 hAs (fun j hj => ?_) ?_
       . rw [cell_of hb0, <- hA, Nat.zero_add, Array.getElem?_append_left (by rw [List.size_toArray, List.length_append, hcl]; simp; omega)]
         obtain ⟨k1, k2, k3⟩ := ins_get hi hj
         by_cases c1 : j < xs.length
         . obtain ⟨_, e⟩ := k1 c1
           rw [e];simp [c1, List.getElem?_append_left]
         . have hje : j = xs.length := by omega
           rw [k2 hje];subst hje;simp
       . exact grown_below ((show Below w.heap.size w w.drew from (Below.refl _ _).drew).alloc (Nat.le_refl _) _)
end Go.Proofs.YtpnogmicfomofaaGreatDoor.Stp
namespace Go.Proofs.YtpnogmicfomofaaGreatDoor.Stp
open Go.RowKit Go.Sort Go.Lib Go.Maps
open Go.Lib (hid)
theorem grown_set (w : World) (a : Addr) (u : Value) : w.grownBy (w.setCell a u) (some a.block) := ⟨rfl, rfl, rfl, by simp [World.setCell], fun k hk hne => Below.heap_setCell _ _ _ _ (fun e => hne (by rw [e]))⟩
structure Lf (M n : Nat) (w : World) (v : Nat -> Nat) : Prop where
 lt : M < w.heap.size
 cell : ∀ i, i < n -> w.cell? ⟨M, i, none⟩ = some (.int .i64 (v i : Nat))
 free : ∀ o, w.frozen? ⟨M, o, none⟩ = false
theorem Lf.kept {M n : Nat} {w w' : World} {v : Nat -> Nat} {row : Option Nat} (h : Lf M n w v) (hg : w.grownBy w' row) (hr : row ≠ some M) : Lf M n w' v := by
 have hne : ∀ k, row = some k -> k ≠ M := fun k hk e => hr (by rw [hk, e]);exact ⟨Nat.lt_of_lt_of_le h.lt hg.size, fun i hi => grown_cell hg h.lt hne (h.cell i hi), fun o => by rw [grown_frozen hg h.lt hne]; exact h.free o⟩
theorem Lf.set {M n : Nat} {w : World} {v v' : Nat -> Nat} (h : Lf M n w v) {y : Nat} (hy : y < n) (hv : ∀ i, i ≠ y -> v' i = v i) {z : Int} (hz : z = (v' y : Nat)) : Lf M n (w.setCell ⟨M, y, none⟩ (.int .i64 z)) v' := by
 refine ⟨by simpa [World.setCell] using h.lt, fun i hi => ?_, fun o => by simpa using h.free o⟩
 by_cases e : y = i
 . subst e
   rw [scell_same (h.cell y hy), hz]
 . rw [scell_ne e, h.cell i hi, hv i (fun h => e h.symm)]
structure Us (B M n : Nat) (w : World) (vs : Nat -> Value) (F : Nat -> List Nat) : Prop where
 lt : M < w.heap.size
 cell : ∀ i, i < n -> w.cell? ⟨M, i, none⟩ = some (vs i)
 free : ∀ o, w.frozen? ⟨M, o, none⟩ = false
 own : ∀ i, i < n -> OwnI B w (vs i) ((F i).map Nat.cast)
 ap : ∀ i j, i < n -> j < n -> i ≠ j -> Apart (vs i) (vs j)
theorem Us.kept {B M n : Nat} {w w' : World} {vs : Nat -> Value} {F : Nat -> List Nat} {row : Option Nat} (h : Us B M n w vs F) (hg : w.grownBy w' row) (hr : row ≠ some M) (hv : ∀ i, i < n -> ∀ g, (vs i).ownBlock = some g -> row ≠ some g) : Us B M n w' vs F := by
 have hne : ∀ k, row = some k -> k ≠ M := fun k hk e => hr (by rw [hk, e]);exact ⟨Nat.lt_of_lt_of_le h.lt hg.size, fun i hi => grown_cell hg h.lt hne (h.cell i hi), fun o => by rw [grown_frozen hg h.lt hne]; exact h.free o, fun i hi => (h.own i hi).kept hg (hv i hi), h.ap⟩
structure Og (n M : Nat) (w wr : World) (vs : Nat -> Value) (F : Nat -> List Nat) (v : Nat -> Nat) (vR : Value) (R : List Nat) (vo : Value) (out : List Nat) : Prop where
 hM : w.heap.size <= M
 bel : Below w.heap.size w wr
 sz : M + 2 <= wr.heap.size
 lf : Lf M n wr v
 us : Us (M + 2) (M + 1) n wr vs F
 oR : OwnJ (M + 2) wr vR (R.map Nat.cast)
 oo : OwnI (M + 2) wr vo (out.map Nat.cast)
 ap : Apart vR vo
 aR : ∀ i, i < n -> Apart (vs i) vR
 ao : ∀ i, i < n -> Apart (vs i) vo
section
variable {n M : Nat} {w wr : World} {vs : Nat -> Value} {F : Nat -> List Nat} {v : Nat -> Nat} {vR vo : Value} {R out : List Nat}
theorem Og.below {wx : World} (h : Og n M w wr vs F v vR R vo out) (hb : Below wr.heap.size wr wx) : Og n M w wx vs F v vR R vo out :=
 ⟨h.hM, h.bel.trans (hb.mono h.bel.size), Nat.le_trans h.sz hb.size, h.lf.kept (grown_below hb) (fun e => by cases e), h.us.kept (grown_below hb) (fun e => by cases e) (fun _ _ _ _ e => by cases e), h.oR.below hb, h.oo.below hb, h.ap, h.aR, h.ao⟩
theorem Og.setLeft (h : Og n M w wr vs F v vR R vo out) {y : Nat} (hy : y < n) {v' : Nat -> Nat} (hv : ∀ i, i ≠ y -> v' i = v i) {z : Int} (hz : z = (v' y : Nat)) : Og n M w (wr.setCell ⟨M, y, none⟩ (.int .i64 z)) vs F v' vR R vo out := by
 have hg := grown_set wr ⟨M, y, none⟩ (.int .i64 z);have hn : ∀ {g : Nat}, M + 2 <= g -> (some M : Option Nat) ≠ some g := fun h e => by cases e; omega
 exact ⟨h.hM, Below.grown h.bel hg h.bel.size (fun g e => by cases e; exact h.hM), Nat.le_trans h.sz hg.size, h.lf.set hy hv hz, h.us.kept hg (fun e => by simp at e) (fun i hi g hgg => hn ((h.us.own i hi).lt g hgg).1), h.oR.kept hg (fun g hgg => hn (h.oR.lt g hgg).1), h.oo.kept hg (fun g hgg => hn (h.oo.lt g hgg).1), h.ap, h.aR, h.ao⟩
theorem apart_new {a b : Value} {g : Nat} {len cap : Nat} (h : Apart a b) (hat : b.ownBlock = some g ∨ ∀ k, a.ownBlock = some k -> k < g) : Apart a (.slice (some ⟨g, 0, none⟩) len cap) := by
 intro k hk e;simp [Value.ownBlock] at e;subst e;rcases hat with hat | hat
 . exact h g hk hat
 . have := hat _ hk; omega
theorem Og.user (h : Og n M w wr vs F v vR R vo out) {k : Nat} (hk : k < n) {i : Nat} {g cap len : Nat} {w' : World} (hl : len = (F k).length + 1) (hm : MoreI (M + 2) wr (vs k) ((F k).map Nat.cast ++ [(i : Int)]) wr.heap.size g cap w') :
  Og n M w (w'.setCell ⟨M + 1, k, none⟩ (.slice (some ⟨g, 0, none⟩) len cap)) (fun j => if j = k then .slice (some ⟨g, 0, none⟩) len cap else vs j) (fun j => if j = k then F j ++ [i] else F j) v vR R vo out := by
 obtain ⟨m1, m2, m3, m4⟩ := hm;have hlen : ((F k).map Nat.cast ++ [(i : Int)]).length = len := by simp [hl]
 rw [hlen] at m1;have hkown := h.us.own k hk;have hrow : ∀ {g' : Nat}, g' < M + 2 -> (vs k).ownBlock ≠ some g' := fun hlt e => by have := (hkown.lt _ e).1; omega
 have hg2 := grown_set w' ⟨M + 1, k, none⟩ (.slice (some ⟨g, 0, none⟩) len cap);have hn : ∀ {x : Nat}, M + 2 <= x -> (some (M + 1) : Option Nat) ≠ some x := fun h e => by cases e; omega
 have lf1 := h.lf.kept m2 (hrow (by omega));have oR1 := h.oR.kept m2 (fun x hx e => h.aR k hk x e hx);have oo1 := h.oo.kept m2 (fun x hx e => h.ao k hk x e hx)
 have hat : ∀ {b : Value}, (∀ x, b.ownBlock = some x -> x < wr.heap.size) -> Apart b (vs k) -> Apart b (.slice (some ⟨g, 0, none⟩) len cap) := fun hb hap =>
  apart_new hap (m3.imp id fun e x hx => by have := hb x hx; omega)
 have hus : Us (M + 2) (M + 1) n (w'.setCell ⟨M + 1, k, none⟩ (.slice (some ⟨g, 0, none⟩) len cap)) (fun j => if j = k then .slice (some ⟨g, 0, none⟩) len cap else vs j) (fun j => if j = k then F j ++ [i] else F j) := by
  have hne : ∀ x, (vs k).ownBlock = some x -> x ≠ M + 1 := fun x hx e => by have := (hkown.lt _ hx).1; omega
  have hc1 : ∀ i, i < n -> w'.cell? ⟨M + 1, i, none⟩ = some (vs i) := fun i hi => grown_cell m2 h.us.lt hne (h.us.cell i hi);refine ⟨by have := h.us.lt; have := m2.size; simp [World.setCell]; omega, fun j hj => ?_, fun o => ?_, fun j hj => ?_, fun a b ha hb hab => ?_⟩
  . by_cases e : j = k
    . subst e
      rw [scell_same (hc1 j hj)]; simp
    . rw [scell_ne (fun e2 => e e2.symm), hc1 j hj]; simp [e]
  . simp only [World.frozen?_setCell]
    rw [grown_frozen m2 h.us.lt hne]; exact h.us.free o
  . by_cases e : j = k
    . subst e
      simp only [if_pos rfl];have := m1.setBelow (a := ⟨M + 1, j, none⟩) (by simp) (.slice (some ⟨g, 0, none⟩) len cap);simpa using this
    . simp only [if_neg e]
      exact ((h.us.own j hj).kept m2 (fun x hx e2 => h.us.ap j k hj hk e x hx e2)).setBelow (a := ⟨M + 1, k, none⟩) (by simp) _
  . by_cases e1 : a = k
    . by_cases e2 : b = k
      . omega
      . subst e1
        simp only [if_pos rfl, if_neg e2];exact (hat (fun x hx => ((h.us.own b hb).lt x hx).2) (h.us.ap b a hb ha (fun h => hab h.symm))).symm
    . by_cases e2 : b = k
      . subst e2
        simp only [if_pos rfl, if_neg e1];exact hat (fun x hx => ((h.us.own a ha).lt x hx).2) (h.us.ap a b ha hb hab)
      . simp only [if_neg e1, if_neg e2]
        exact h.us.ap a b ha hb hab
 refine ⟨h.hM, Below.grown (Below.grown h.bel m2 h.bel.size (fun x hx => by have := (hkown.lt _ hx).1; have := h.hM; omega)) hg2 (by have := h.bel.size; have := m2.size; omega) (fun x e => by cases e; have := h.hM; simp; omega), ?_, lf1.kept hg2 (by simp), hus, oR1.kept hg2 (fun x hx => hn (oR1.lt x hx).1), oo1.kept hg2 (fun x hx => hn (oo1.lt x hx).1), h.ap, fun j hj => ?_, fun j hj => ?_⟩
 . have := h.sz; have := m2.size; simp [World.setCell]; omega
 . by_cases e : j = k
   . simp only [if_pos e]
     exact (hat (fun x hx => (h.oR.lt x hx).2) (h.aR k hk).symm).symm
   . simp only [if_neg e]; exact h.aR j hj
 . by_cases e : j = k
   . simp only [if_pos e]
     exact (hat (fun x hx => (h.oo.lt x hx).2) (h.ao k hk).symm).symm
   . simp only [if_neg e]; exact h.ao j hj
theorem Og.ready (h : Og n M w wr vs F v vR R vo out) {R' : List Nat} {vR' : Value} {w' : World} (hm : MoreJ (M + 2) wr vR (R'.map Nat.cast) vR' w') : Og n M w w' vs F v vR' R' vo out := by
 obtain ⟨m1, m2, m3⟩ := hm;have hrow : ∀ {g' : Nat}, g' < M + 2 -> vR.ownBlock ≠ some g' := fun hlt e => by have := (h.oR.lt _ e).1; omega
 have hat : ∀ {b : Value}, (∀ x, b.ownBlock = some x -> x < wr.heap.size) -> Apart b vR -> Apart b vR' := fun hb hap x hx e => by
  rcases m3 x e with h1 | h1
  . exact hap x hx h1
  . have := hb x hx; omega
 exact ⟨h.hM, Below.grown h.bel m2 h.bel.size (fun x hx => by have := (h.oR.lt _ hx).1; have := h.hM; omega), Nat.le_trans h.sz m2.size, h.lf.kept m2 (hrow (by omega)), h.us.kept m2 (hrow (by omega)) (fun i hi g hg e => h.aR i hi g hg e), m1, h.oo.kept m2 (fun g hg e => h.ap g e hg), (hat (fun x hx => (h.oo.lt x hx).2) h.ap.symm).symm, fun i hi => hat (fun x hx => ((h.us.own i hi).lt x hx).2) (h.aR i hi), h.ao⟩
theorem Og.pop {R' : List Nat} {vR' : Value} (h : Og n M w wr vs F v vR R vo out) (ho : OwnJ (M + 2) wr vR' (R'.map Nat.cast)) (hb : vR'.ownBlock = vR.ownBlock) : Og n M w wr vs F v vR' R' vo out :=
 ⟨h.hM, h.bel, h.sz, h.lf, h.us, ho, h.oo, fun g hg => h.ap g (by rw [<- hb]; exact hg), fun i hi g hg e => h.aR i hi g hg (by rw [<- hb]; exact e), h.ao⟩
theorem Og.list (h : Og n M w wr vs F v vR R vo out) {x : Nat} {g cap len : Nat} {w' : World} (hl : len = out.length + 1) (hm : MoreI (M + 2) wr vo (out.map Nat.cast ++ [(x : Int)]) wr.heap.size g cap w') : Og n M w w' vs F v vR R (.slice (some ⟨g, 0, none⟩) len cap) (out ++ [x]) := by
 obtain ⟨m1, m2, m3, m4⟩ := hm;have hlen : (out.map Nat.cast ++ [(x : Int)]).length = len := by simp [hl]
 rw [hlen] at m1;have hrow : ∀ {g' : Nat}, g' < M + 2 -> vo.ownBlock ≠ some g' := fun hlt e => by have := (h.oo.lt _ e).1; omega
 have hat : ∀ {b : Value}, (∀ x, b.ownBlock = some x -> x < wr.heap.size) -> Apart b vo -> Apart b (.slice (some ⟨g, 0, none⟩) len cap) := fun hb hap =>
  apart_new hap (m3.imp id fun e x hx => by have := hb x hx; omega)
 exact ⟨h.hM, Below.grown h.bel m2 h.bel.size (fun x hx => by have := (h.oo.lt _ hx).1; have := h.hM; omega), Nat.le_trans h.sz m2.size, h.lf.kept m2 (hrow (by omega)), h.us.kept m2 (hrow (by omega)) (fun i hi g hg e => h.ao i hi g hg e), h.oR.kept m2 (fun g hg e => h.ap g hg e), by rw [List.map_append, List.map_singleton]; exact m1, hat (fun x hx => (h.oR.lt x hx).2) h.ap, h.aR, fun i hi => hat (fun x hx => ((h.us.own i hi).lt x hx).2) (h.ao i hi)⟩
end
theorem rdL_snocN (l : List Nat) (y : Nat) (v : Nat -> Nat) : rdL (l ++ [y]) [] v = rdL l [] v ++ if v y = 0 then [y] else [] := by
 unfold rdL;rw [List.filter_append, List.filter_cons];have : hasN y [] = false := rfl;rw [this]
 by_cases h : v y = 0 <;> simp [h]
theorem rdL_lenN (l out : List Nat) (v : Nat -> Nat) : (rdL l out v).length <= l.length := List.length_filter_le _ _
theorem esN_take {N : List (List Nat)} {k : Nat} (hk : k < N.length) : esN (N.take (k + 1)) = esN (N.take k) ++ (nd N k).map fun y => (k, y) := by
 unfold esN nd;rw [List.take_succ_eq_append_getElem hk, List.zipIdx_append, List.flatMap_append]
 congr 1
 have : (N.take k).length = k := by simp; omega
 simp [this, List.getElem?_eq_getElem hk]
end Go.Proofs.YtpnogmicfomofaaGreatDoor.Stp
namespace Go.Proofs.YtpnogmicfomofaaGreatDoor.Stp
open Go.RowKit Go.Sort Go.Lib Go.Maps
open Go.Lib (hid)
theorem slinfo : (Tryz.prog.info? 40).map (fun i => (i.zero, i.size, i.bytes)) = some (some (.slice none 0 0), 1, 24) := by kernel_rfl
theorem Og.congrV {n M : Nat} {w wr : World} {vs : Nat -> Value} {F : Nat -> List Nat} {v v' : Nat -> Nat} {vR vo : Value} {R out : List Nat} (h : Og n M w wr vs F v vR R vo out) (hv : ∀ i, i < n -> v' i = v i) : Og n M w wr vs F v' vR R vo out :=
 ⟨h.hM, h.bel, h.sz, ⟨h.lf.lt, fun i hi => by rw [h.lf.cell i hi, hv i hi], h.lf.free⟩, h.us, h.oR, h.oo, h.ap, h.aR, h.ao⟩
theorem pre_len {N : List (List Nat)} : ∀ {k : Nat}, k <= N.length -> (esN (N.take k)).length <= (esN N).length := by
 intro k
 induction hn : N.length - k generalizing k with
 | zero => intro hk; have : k = N.length := by omega
           subst this; rw [List.take_length]; exact Nat.le_refl _
 | succ d ih =>
   intro hk;have h1 := ih (k := k + 1) (by omega) (by omega);rw [esN_take (by omega), List.length_append] at h1;omega
theorem pre_len2 {N : List (List Nat)} {k j : Nat} (hk : k < N.length) : (esN (N.take k) ++ ((nd N k).take j).map fun y => (k, y)).length <= (esN N).length := by
 have h1 := pre_len (N := N) (k := k + 1) (by omega);rw [esN_take hk, List.length_append] at h1;simp at h1 ⊢;omega
theorem lt_map {R : List Nat} : (R.map (Nat.cast : Nat -> Int)).length = R.length := List.length_map ..
theorem asc_ints {R : List Nat} (h : AscN R) : (R.map (Nat.cast : Nat -> Int)).Pairwise (· <= ·) := by
 rw [List.pairwise_map];exact h.imp fun h => by simp [ltN] at h; omega
theorem low_ints {R : List Nat} (h : AscN R) (u : Nat) : (R.map (Nat.cast : Nat -> Int)).countP (· < (u : Int)) = lowL ltN u R := by
 induction R with
 | nil => rfl
 | cons x R ih =>
   have h2 := List.pairwise_cons.1 h;rw [List.map_cons, List.countP_cons, lowL_cons]
   by_cases hx : x < u
   . have e1 : decide ((x : Int) < (u : Int)) = true := by simp; omega
     have e2 : ltN x u = true := by simp [ltN]; exact hx
     rw [if_pos e1, if_pos e2, ih h2.2]
   . have e1 : ¬ decide ((x : Int) < (u : Int)) = true := by simp; omega
     have e2 : ¬ ltN x u = true := by simp [ltN]; omega
     rw [if_neg e1, if_neg e2, Nat.add_zero, List.countP_eq_zero];intro z hz;obtain ⟨y, hy, rfl⟩ := List.mem_map.1 hz;have := h2.1 y hy;simp [ltN] at this;simp; omega
theorem ins_ints (R : List Nat) (u : Nat) : (R.map (Nat.cast : Nat -> Int)).insertIdx (lowL ltN u R) (u : Int) = (putL ltN u R).map Nat.cast := by
 rw [<- putL_insert];generalize lowL ltN u R = i
 induction R generalizing i with
 | nil => cases i <;> rfl
 | cons x R ih =>
   cases i with
   | zero => rfl
   | succ i => simp [ih i]
theorem Lf.made {w : World} {C : Array Value} {n : Nat} (hC : ∀ (k j : Nat) (u : Value), k < n -> (Value.int .i64 0).cells[j]? = some u -> C[k * 1 + j]? = some u) : Lf w.heap.size n (w.alloc (.cells C 3)) (fun _ => 0) := by
 refine ⟨by simp, fun i hi => ?_, fun o => by simp⟩;have := hC i 0 (.int .i64 0) hi rfl;unfold World.cell?;rw [(MapKept.heap_alloc w _).1];simpa using this
theorem Us.made {w : World} {C : Array Value} {n B : Nat} (hC : ∀ (k j : Nat) (u : Value), k < n -> (Value.slice none 0 0).cells[j]? = some u -> C[k * 1 + j]? = some u) : Us B w.heap.size n (w.alloc (.cells C 40)) (fun _ => .slice none 0 0) (fun _ => []) := by
 refine ⟨by simp, fun i hi => ?_, fun o => by simp, fun i hi => ownI_nil _ _, fun i j _ _ _ => Apart.nil _⟩;have := hC i 0 (.slice none 0 0) hi rfl;unfold World.cell?;rw [(MapKept.heap_alloc w _).1];simpa using this
theorem Og.start {w w1 : World} {C D : Array Value} {n : Nat} (hb : Below w.heap.size w w1) (hC : ∀ (k j : Nat) (u : Value), k < n -> (Value.int .i64 0).cells[j]? = some u -> C[k * 1 + j]? = some u) (hD : ∀ (k j : Nat) (u : Value), k < n -> (Value.slice none 0 0).cells[j]? = some u -> D[k * 1 + j]? = some u) :
  Og n w1.heap.size w ((w1.alloc (.cells C 3)).alloc (.cells D 40)) (fun _ => .slice none 0 0) (fun _ => []) (fun _ => 0) (.slice none 0 0) [] (.slice none 0 0) [] := by
 have hs : (w1.alloc (.cells C 3)).heap.size = w1.heap.size + 1 := by simp
 have hal : Below (w1.alloc (.cells C 3)).heap.size (w1.alloc (.cells C 3)) ((w1.alloc (.cells C 3)).alloc (.cells D 40)) := (Below.refl _ _).alloc (Nat.le_refl _) _;have hus := Us.made (B := w1.heap.size + 2) (w := w1.alloc (.cells C 3)) hD;rw [hs] at hus;exact ⟨hb.size, (hb.alloc hb.size _).trans (hal.mono (by have := hb.size; omega)), by simp, (Lf.made hC).kept (grown_below hal) (fun e => by cases e), hus, (ownI_nil _ _).toJ, ownI_nil _ _, Apart.nil _, fun _ _ => Apart.nil _, fun _ _ => Apart.nil _⟩
theorem occ_usrN (es : List (Nat × Nat)) (out : List Nat) (n : Nat) (h : n ∉ out) (x : Nat) : cnt es (out ++ [n]) x + occ x (usr es n) = cnt es out x := by rw [occ_usr]; exact cnt_more es out n x h
theorem bs_n (B g o cap : Nat) (R : List Nat) (u : Nat) (w : World) (h : OwnJ B w (.slice (some ⟨g, o, none⟩) R.length cap) (R.map Nat.cast)) (hs : AscN R) (hn : R.length <= 1000000) :
  Calls Tryz.prog 33 #[.slice (some ⟨g, o, none⟩) R.length cap, .int .i64 u] w fun e w' =>
   (∃ bb, e = .returned (.tuple #[.int .i64 (lowL ltN u R : Nat), .bool bb])) /\ Below w.heap.size w w' := by
 have h1 := bs_j B g o cap (R.map Nat.cast) u w (by rw [lt_map]; exact h) (asc_ints hs) (by rw [lt_map]; exact hn);rw [lt_map, low_ints hs] at h1;exact h1
theorem ins_n (B : Nat) (v : Value) (R : List Nat) (u nb : Nat) (w : World) (h : OwnJ B w v (R.map Nat.cast)) (hy : w.heap[nb]? = some (.cells #[.int .i64 (u : Int)] 3 (0, 0))) (hne : v.ownBlock ≠ some nb) (hyb : IB u) (hn : R.length + 1 <= 1000000) (hbase : B <= w.heap.size) :
  Calls Tryz.prog 34 #[v, .int .i64 (lowL ltN u R : Nat), .slice (some ⟨nb, 0, none⟩) 1 1] w fun e w' => ∃ g o c, e = .returned (.slice (some ⟨g, o, none⟩) (R.length + 1) c) /\ MoreJ B w v ((putL ltN u R).map Nat.cast) (.slice (some ⟨g, o, none⟩) (R.length + 1) c) w' := by
 refine (ins_j B v (R.map Nat.cast) (lowL ltN u R) u nb w h (by rw [lt_map]; exact lowL_le _ _) hy hne hyb (by rw [lt_map]; exact hn) hbase).mono ?_;rintro e w' ⟨g, o, c, rfl, _, _, hm⟩;rw [ins_ints, lt_map] at hm;exact ⟨g, o, c, by rw [lt_map], hm⟩
set_option maxRecDepth 100000 in
set_option maxHeartbeats 40000000 in
theorem porder_any (v : Value) (ss : List St) (w : World) (hS : Sl StR 3 w v ss) (hn : ss.length <= 900000) (hen : (esN (nls ss)).length <= 900000) :
  Calls Tryz.prog 13 #[v] w (OrdPN ss w) := by
 obtain ⟨r, c, rfl, _⟩ := id hS;obtain ⟨_, hl, hm⟩ := sl_len hS;have HIX := hid (indexes_any _ ss w hS);have HST := hid (fun (W : World) (hW : Below w.heap.size w W) => st_at (hS.below stR_mono hW));have HNE := hid (fun (hr : rightS ss = true) (W : World) (hW : Below w.heap.size w W) (x : Nat) (hx : x < ss.length) => need_at (hS.below stR_mono hW) hr x hx);obtain ⟨i0, hi, hz0, hz1, hz2⟩ := info_parts intinfo;obtain ⟨C, hC, hCc, hmk⟩ := make_fact (P := Tryz.prog) Tryz.underlying40 hi hz0 hz1 hz2 rfl ss.length (by omega) (by omega);obtain ⟨j0, hj, hy0, hy1, hy2⟩ := info_parts slinfo;obtain ⟨D, hD, hDc, hmk2⟩ := make_fact (P := Tryz.prog) Tryz.underlying78 hj hy0 hy1 hy2 rfl ss.length (by omega) (by omega);have HCC := hid hCc;have HDD := hid hDc;have HEN := hid hen;clear hS hCc hC hi hz0 hz1 hz2 hDc hD hj hy0 hy1 hy2 hen;cases hr : rightS ss
 . rw [hr] at HIX
   have HR := hid (ordU_bad hr);go_enter Tryz.func13, Tryz.ntmps13;go_wp2_with fail
   refine HIX.out.mono ?_;rintro e w1 ⟨rfl, hb1⟩;have HB1 := hid hb1;clear hb1;go_wp2
   go_ret2
   exact ⟨.slice none 0 0, ret_pair HR.out.2, by rw [HR.out.1]; exact (ownI_nil 0 _).sl, HB1.out⟩
 rw [hr] at HIX;have HRT := hid hr;have HN := hid (HNE.out hr);have HLT := hid (nd_lt hr);have HNL := hid (nls_len ss);clear HNE hr;go_enter Tryz.func13, Tryz.ntmps13;go_wp2_with fail
 refine HIX.out.mono ?_;rintro e w1 ⟨rfl, hb1⟩;have HB1 := hid hb1;clear hb1 HIX;have I0 := hid (Og.start (n := ss.length) HB1.out HCC.out HDD.out);clear HCC HDD HB1;go_wp2
 generalize w1.heap.size = M at *;clear hmk hmk2;generalize (w1.alloc (.cells C 3)).alloc (.cells D 40) = W1 at *;generalize hNN : nls ss = N at *;have HNN := hid hNN;clear hNN;go_loopg [6, 28] ss.length (fun gg s6 s28 wr => ∃ (k : Nat) (vs : Nat -> Value), k <= ss.length /\ ss.length - k <= gg /\ s28 = .int .i64 k /\ Hid (Og ss.length M w wr vs (usr (esN (N.take k))) (fun i => if i < k then (nd N i).length else 0) s6 (rdL (List.range k) [] (cnt (esN N) [])) (.slice none 0 0) []))
 case atStart => exact ⟨0, fun _ => .slice none 0 0, by omega, by omega, rfl, hid (by simpa [rdL, esN, show usr ([] : List (Nat × Nat)) = fun _ => [] from rfl] using I0.out)⟩
 case round =>
  clear I0;obtain ⟨k, vs, hk, hgg, rfl, HI⟩ := hrel;obtain ⟨r6, c6, hv6, h61, h62⟩ := HI.out.oR.form;rw [lt_map] at hv6 h61;subst hv6
  by_cases hlt : k < ss.length
  . obtain ⟨b, o, rn0, cn0, rfl, hb0, g00, g10, g20, hsn, _⟩ := HST.out w (Below.refl _ _) k hlt
    obtain ⟨b', o', rn, cn, hbo, hb', g2', hl3, hm3, hnx⟩ := HN.out w (Below.refl _ _) k hlt;simp at hbo;obtain ⟨rfl, rfl⟩ := hbo;rw [g2'] at g20;simp at g20;obtain ⟨hrn, hlen, hcn⟩ := g20;subst hrn hcn;have g0 := bget HI.out.bel g00;have g1 := bget HI.out.bel g10;have g2 := bget HI.out.bel g2';have hb : b < wr.heap.size := by have := HI.out.bel.size; omega
    have HSL := hid hnx;have HT := hid (HLT.out k);have HNLk := hid (show k < N.length by rw [HNL.out]; exact hlt);have HTK := hid (esN_take (N := N) HNLk.out);have HC0 := hid (cnt_esN0 N HNLk.out);have HPL := hid (fun j => pre_len2 (N := N) (j := j) HNLk.out);have HKL := hid hlt;clear hnx hlen g00 g10 g2' hsn hb0 hb';generalize (ss[k]).change = chg at *;generalize (ss[k]).op = opp at *;generalize hTk : nd N k = T at *;have HTT := hid hTk;clear hTk;have hMlt : M < wr.heap.size := by have := HI.out.sz; omega
    have l0 := HI.out.lf.cell k hlt;have l1 := HI.out.lf.free k;have HO1 := hid ((HI.out.setLeft hlt (v' := fun i => if i < k + 1 then (nd N i).length else 0) (z := (T.length : Nat)) (fun i hne => by by_cases h : i < k <;> by_cases h2 : i < k + 1 <;> simp [h, h2] <;> omega) (by simp [HTT.out])).below ((Below.refl _ _).alloc (Nat.le_refl _) (.cells #[.int .i64 chg, .int .i64 opp, .slice rn T.length cn] 48)));have c1 : ((wr.setCell ⟨M, k, none⟩ (.int .i64 ((T.length : Nat) : Int))).alloc (.cells #[.int .i64 chg, .int .i64 opp, .slice rn T.length cn] 48)).cell? ⟨wr.heap.size, 2, none⟩ = some (.slice rn T.length cn) := cell_at (by simp [World.setCell]) rfl;clear HI;go_wp2
    generalize (wr.setCell ⟨M, k, none⟩ (.int .i64 ((T.length : Nat) : Int))).alloc (.cells #[.int .i64 chg, .int .i64 opp, .slice rn T.length cn] 48) = W2 at *;clear l0 l1 c1 hMlt;go_loopg [42] T.length (fun gg s42 wx => ∃ (j : Nat) (us : Nat -> Value), j <= T.length /\ T.length - j <= gg /\ s42 = .int .i64 j /\ Hid (Og ss.length M w wx us (usr (esN (N.take k) ++ (T.take j).map fun y => (k, y))) (fun i => if i < k + 1 then (nd N i).length else 0) (.slice r6 (rdL (List.range k) [] (cnt (esN N) [])).length c6) (rdL (List.range k) [] (cnt (esN N) [])) (.slice none 0 0) []))
    case atStart => exact ⟨0, vs, by omega, by omega, rfl, hid (by simpa using HO1.out)⟩
    case round =>
     clear HO1 g0 g1 g2 hb;obtain ⟨j, us, hj, hgj, rfl, HJ⟩ := hrel
     by_cases hjl : j < T.length
     . obtain ⟨b4, o4, rfl, hb4, g4, hyn⟩ := HSL.out _ HJ.out.bel j hjl
       have HTJ := hid (show T.take (j + 1) = T.take j ++ [T[j]] from List.take_succ_eq_append_getElem hjl);have HPj := hid (HPL.out j);have HYN := hid hyn;generalize T[j] = y at *;obtain ⟨ru, cu, hv, hu1, hu2⟩ := (HJ.out.us.own y hyn).form;have k0 := HJ.out.us.cell y hyn;rw [hv, lt_map] at k0;rw [lt_map] at hu1;have HUL := hid (show ((usr (esN (N.take k) ++ (T.take j).map fun y => (k, y)) y).map (Nat.cast : Nat -> Int)).length + 1 <= 1000000 by rw [lt_map]; have := usr_len (esN (N.take k) ++ (T.take j).map fun y => (k, y)) y; have := HPj.out; have := HEN.out; omega);have HJ1 := hid (HJ.out.below ((Below.refl wr.heap.size wr).alloc (Nat.le_refl _) (.cells #[.int .i64 (k : Int)] 3)))
       have HOw := hid (show OwnI (M + 2) (wr.alloc (.cells #[.int .i64 (k : Int)] 3)) (.slice ru (usr (esN (N.take k) ++ (T.take j).map fun y => (k, y)) y).length cu) ((usr (esN (N.take k) ++ (T.take j).map fun y => (k, y)) y).map Nat.cast) from by
        have h := HJ1.out.us.own y hyn;rw [hv, lt_map] at h;exact h)
       have HV := hid hv;have hsz := HJ.out.sz;have HUU := hid (fun j' => usr_snoc (esN (N.take k) ++ (T.take j).map fun y => (k, y)) k y j');unfold maxLen at hu2;clear hv hyn HJ;generalize hU : usr (esN (N.take k) ++ (T.take j).map fun y => (k, y)) = U at *;generalize hUy : U y = Uy at *;have HUy := hid hUy;clear hU hUy
       go_wp2_with (at_builtin
                    go_loud (refine app_int rfl _ _ rfl (M + 2) (.slice ru Uy.length cu) (Uy.map Nat.cast) rfl HOw.out wr.heap.size 1 k rfl (fr := (0, 0)) (by exact (MapKept.heap_alloc wr _).1) (ib_nat (by have := HKL.out; omega)) HUL.out (by simp; omega) (wr.heap.size + 1) (by simp) ?_)
                    intro g cap w7 hm7
                    have hm8 : MoreI (M + 2) (wr.alloc (.cells #[.int .i64 (k : Int)] 3)) (us y) ((U y).map Nat.cast ++ [(k : Int)]) (wr.alloc (.cells #[.int .i64 (k : Int)] 3)).heap.size g cap w7 := by
                       rw [HV.out, HUy.out]; simpa using hm7
                    have HU8 := hid (HJ1.out.user HYN.out (len := Uy.length + 1) (by rw [HUy.out]) hm8);have hst := HJ1.out.us.lt;have hs1 := grown_cell hm8.2.1 HJ1.out.us.lt (fun q hq e => by have := ((HJ1.out.us.own y HYN.out).lt q hq).1; omega) (HJ1.out.us.cell y HYN.out);have hs2 := (grown_frozen (o := y) hm8.2.1 HJ1.out.us.lt (fun q hq e => by have := ((HJ1.out.us.own y HYN.out).lt q hq).1; omega)).trans (HJ1.out.us.free y);rw [lt_map];clear hm7 hm8)
       go_roundg (T.length - (j + 1))
       case measure => omega
       case rel =>
        have e1 : (fun j' => if j' = y then U j' ++ [k] else U j') = usr (esN (N.take k) ++ (T.take (j + 1)).map fun y => (k, y)) := by
            funext j';rw [HTJ.out, List.map_append, <- List.append_assoc];have := HUU.out j';simp only [List.map_cons, List.map_nil];rw [this]
            by_cases e : y = j'
            . subst e; simp
            . rw [if_neg (fun h => e h.symm), if_neg e]
        have h8 := HU8.out;rw [e1] at h8;exact ⟨j + 1, _, by omega, by omega, by go_num, hid h8⟩
     . have hje : j = T.length := by omega
       have HJ2 := hid (show Og ss.length M w wr us (usr (esN (N.take (k + 1)))) (fun i => if i < k + 1 then (nd N i).length else 0) (.slice r6 (rdL (List.range k) [] (cnt (esN N) [])).length c6) (rdL (List.range k) [] (cnt (esN N) [])) (.slice none 0 0) [] from by
        have h := HJ.out;rw [hje, List.take_length] at h;rw [HTK.out];exact h)
       have HRS := hid (show rdL (List.range (k + 1)) [] (cnt (esN N) []) = rdL (List.range k) [] (cnt (esN N) []) ++ if T.length = 0 then [k] else [] from by
        rw [List.range_succ, rdL_snocN, HC0.out])
       clear hje HJ hj;have l0 := HJ2.out.lf.cell k HKL.out;simp only [if_pos (Nat.lt_succ_self k), HTT.out] at l0;have HRL := hid (show ((rdL (List.range k) [] (cnt (esN N) [])).map (Nat.cast : Nat -> Int)).length + 1 <= 1000000 by rw [lt_map]; have := rdL_lenN (List.range k) [] (cnt (esN N) []); simp at this; omega);generalize rdL (List.range k) [] (cnt (esN N) []) = R at *
       by_cases h0 : T.length = 0
       . have e0 : ((T.length : Int) == 0) = true := by simp [h0]
         have HJ1 := hid (HJ2.out.below ((Below.refl wr.heap.size wr).alloc (Nat.le_refl _) (.cells #[.int .i64 (k : Int)] 3)));have HRS1 := hid (HRS.out.trans (by rw [if_pos h0]));have hsz := HJ2.out.sz;clear h0 HRS
         go_wp2_with (at_builtin
                      go_loud (refine app_j rfl _ _ rfl (M + 2) (.slice r6 R.length c6) (R.map Nat.cast) rfl HJ1.out.oR wr.heap.size 1 k rfl (fr := (0, 0)) (by exact (MapKept.heap_alloc wr _).1) (ib_nat (by have := HKL.out; omega)) HRL.out (by simp; omega) ?_)
                      intro v7 w7 hm7;have HM7 := hid (HJ1.out.ready (R' := R ++ [k]) (by rw [List.map_append, List.map_singleton]; exact hm7));clear hm7)
         go_roundg (ss.length - (k + 1))
         case measure => omega
         case rel =>
            have h8 := HM7.out;rw [<- HRS1.out] at h8;exact ⟨k + 1, us, by omega, by omega, by go_num, hid h8⟩
       . have e0 : ((T.length : Int) == 0) = false := by simp [h0]
         have HRS1 := hid (HRS.out.trans (by rw [if_neg h0, List.append_nil]));clear h0 HRS;go_wp2
         go_roundg (ss.length - (k + 1))
         case measure => omega
         case rel =>
            exact ⟨k + 1, us, by omega, by omega, by go_num, hid (by rw [HRS1.out]; exact HJ2.out)⟩
  . have hke : k = ss.length := by omega
    subst hke
    have I1 := hid (show Og ss.length M w wr vs (usr (esN N)) (cnt (esN N) []) (.slice r6 (rdL (List.range ss.length) [] (cnt (esN N) [])).length c6) (rdL (List.range ss.length) [] (cnt (esN N) [])) (.slice none 0 0) [] from by
     have h := HI.out;rw [show N.take ss.length = N by rw [<- HNL.out, List.take_length]] at h;exact h.congrV (fun i hi => by simp only [if_pos hi]; exact cnt_esN0 N (by rw [HNL.out]; exact hi)))
    have L0 := hid (Lst.start (List.range ss.length) (esN N))
    have HUB := hid (show ∀ x u, u ∈ usr (esN N) x -> u < ss.length /\ (u, x) ∈ esN N from fun x u hu => by
     have h := mem_usr.1 hu;refine ⟨?_, h⟩;have h2 := mem_esN.1 h
     have h3 : u < N.length := by
      apply Classical.byContradiction;intro hno;unfold nd at h2;rw [List.getD_eq_getElem?_getD, List.getElem?_eq_none (by omega)] at h2;simp at h2
     rw [<- HNL.out]; exact h3)
    have HES := hid (show ∀ x, (usr (esN N) x).length <= 900000 from fun x => Nat.le_trans (usr_len _ _) HEN.out)
    have HOX := hid (show (∀ out, ordF (List.range ss.length) (esN N) (List.range ss.length).length [] = out -> out.length < ss.length -> ordL ss = [] /\ ordR ss = 10) /\ (∀ out, ordF (List.range ss.length) (esN N) (List.range ss.length).length [] = out -> ¬ out.length < ss.length -> ordL ss = out /\ ordR ss = 0) from by
     unfold ordL ordR;rw [if_pos HRT.out, if_pos HRT.out, HNN.out];unfold ordOn ordEn;constructor
     . intro out h1 h2
       rw [h1, List.length_range, if_pos h2, if_pos h2]; exact ⟨rfl, rfl⟩
     . intro out h1 h2
       rw [h1, List.length_range, if_neg h2, if_neg h2]; exact ⟨rfl, rfl⟩)
    clear HI hlt hk;go_wp2
    clear HRT HST HN HLT;go_loopg [6, 7] ss.length (fun gg s6 s7 wr => ∃ out, ss.length - out.length <= gg /\ Hid (Og ss.length M w wr vs (usr (esN N)) (cnt (esN N) out) s6 (rdL (List.range ss.length) out (cnt (esN N) out)) s7 out) /\ Hid (Lst (List.range ss.length) (esN N) out))
    case atStart => exact ⟨[], by simp, I1, L0⟩
    case round =>
     clear I1 L0;obtain ⟨out, hg, HI, HL⟩ := hrel;obtain ⟨ro, co, hvo, hro1, hro2⟩ := HI.out.oo.form;rw [lt_map] at hvo hro1;subst hvo;have hoL := HL.out.len;rw [List.length_range] at hoL;cases hR : rdL (List.range ss.length) out (cnt (esN N) out) with
     | nil =>
       have hoR := HI.out.oR;rw [hR] at hoR;obtain ⟨rr, cr, hvr, hrr1, hrr2⟩ := hoR.form;rw [lt_map] at hvr hrr1;subst hvr;have HF := hid (HL.out.fin hR);have HOO := hid HI.out.oo.sl;have HBB := hid HI.out.bel;clear hR hoR HI HL
       by_cases hlast : out.length < ss.length
       . have HX := hid (HOX.out.1 out HF.out hlast)
         have hlz : (out.length : Int) < (ss.length : Int) := by omega
         go_wp2
         go_ret2
         exact ⟨.slice none 0 0, ret_pair HX.out.2, by rw [HX.out.1]; exact (ownI_nil 0 _).sl, HBB.out⟩
       . have HX := hid (HOX.out.2 out HF.out hlast)
         have hlz : ¬ (out.length : Int) < (ss.length : Int) := by omega
         go_wp2
         go_ret2
         exact ⟨.slice ro out.length co, ret_pair HX.out.2, by rw [HX.out.1]; exact HOO.out, HBB.out⟩
     | cons n R =>
       obtain ⟨L1, hnn1, hno1⟩ := HL.out.more hR;have HL1 := hid L1;have hnl : n < ss.length := List.mem_range.1 hnn1;have HNl := hid hnl;have HNo := hid hno1;have hPop := rd_pop (range_asc ss.length) hR;have hR0 := (mem_rdL.1 (show n ∈ rdL (List.range ss.length) out (cnt (esN N) out) by rw [hR]; simp)).2.2;have HC0 := hid (cnt_zero.1 hR0);have HCls := hid HL.out.cls;have hoR := HI.out.oR;rw [hR, List.map_cons] at hoR;obtain ⟨g, o, cap, rfl, hc1, hc2, hcell, _⟩ := hoR.head;have hTL := hoR.tail;rw [lt_map] at hc1 hTL;have HPP := hid (show ∀ v0, v0.ownBlock = some g -> OwnJ (M + 2) wr v0 (R.map Nat.cast) -> Og ss.length M w wr vs (usr (esN N)) (cnt (esN N) out) v0 R (.slice ro out.length co) out from fun v0 hb0 h0 => HI.out.pop h0 (by rw [hb0]; simp [Value.ownBlock]))
       have hgoal2 : ∃ v0, (cap = 1 /\ v0 = .slice (some ⟨g, o, none⟩) 0 0 /\ OwnJ (M + 2) wr v0 (R.map Nat.cast)) ∨ (¬ cap = 1 /\ v0 = .slice (some ⟨g, o + 1, none⟩) R.length (cap - 1) /\ OwnJ (M + 2) wr v0 (R.map Nat.cast)) := by
        by_cases h : cap = 1
        . exact ⟨_, Or.inl ⟨h, rfl, (hTL.2 h).2⟩⟩
        . exact ⟨_, Or.inr ⟨h, rfl, hTL.1 h⟩⟩
       have HOn := hid (show (out.map (Nat.cast : Nat -> Int)).length + 1 <= 1000000 by rw [lt_map]; omega);have HOL := hid (show out.length + 1 <= ss.length by have := L1.len; simpa using this)
       have HVal := hid (show ∀ u, u ∈ usr (esN N) n -> u < ss.length /\ u ∉ out ++ [n] from fun u hu => by
        obtain ⟨h0, h1⟩ := HUB.out n u hu;refine ⟨h0, fun h2 => ?_⟩;rw [List.mem_append, List.mem_singleton] at h2;rcases h2 with h2 | h2
        . exact hno1 (HCls.out _ h1 h2)
        . subst h2; exact hno1 (HC0.out _ h1 rfl))
       have HOc := hid (occ_usrN (esN N) out n hno1);have HTl := hid (HES.out n);have hsz := HI.out.sz;have HPop := hid hPop;obtain ⟨rT, cT, hvT, hT1, hT2⟩ := (HI.out.us.own n hnl).form;rw [lt_map] at hvT hT1;have HVT := hid hvT;have hRL : R.length + 1 = (rdL (List.range ss.length) out (cnt (esN N) out)).length := by rw [hR]; rfl
       simp only [List.length_map];clear hR L1 hnn1 hno1 hPop hR0 HC0 HCls hoR hTL HI HL hvT hRL;obtain ⟨v0, hv0⟩ := hgoal2;unfold maxLen at hT2
       rcases hv0 with ⟨hcap, hv0, hown⟩ | ⟨hcap, hv0, hown⟩ <;> (
        have HP0 := hid (HPP.out v0 (by rw [hv0]; rfl) hown);have HV := hid hv0;clear hv0 hown HPP
        try subst hcap
        have HJ1 := hid (HP0.out.below ((Below.refl wr.heap.size wr).alloc (Nat.le_refl _) (.cells #[.int .i64 (n : Int)] 3)));clear HP0
        go_wp2_with (at_builtin
                     go_loud (refine app_int rfl _ _ rfl (M + 2) (.slice ro out.length co) (out.map Nat.cast) rfl HJ1.out.oo wr.heap.size 1 n rfl (fr := (0, 0)) (by exact (MapKept.heap_alloc wr _).1) (ib_nat (by have := HNl.out; omega)) HOn.out (by simp; omega) (wr.heap.size + 1) (by simp) ?_)
                     intro g9 cap9 w9 hm9;have HJ9 := hid (HJ1.out.list (x := n) (len := out.length + 1) (by omega) (by simpa using hm9));have hu9 := HJ9.out.us.cell n HNl.out;rw [HVT.out] at hu9;rw [lt_map];clear hm9)
        rw [<- HV.out]
        have J0 := hid (show Og ss.length M w w9 vs (usr (esN N)) (fun x => cnt (esN N) out x - occ x ((usr (esN N) n).take 0)) v0 (rdL (List.range ss.length) (out ++ [n]) (fun x => cnt (esN N) out x - occ x ((usr (esN N) n).take 0))) (.slice (some ⟨g9, 0, none⟩) (out.length + 1) cap9) (out ++ [n]) from by
         have e0 : (fun x => cnt (esN N) out x - occ x ((usr (esN N) n).take 0)) = cnt (esN N) out := by funext x; simp [occ]
         rw [e0, <- HPop.out];exact HJ9.out)
        have hv0 : ∃ g o len c, v0 = .slice (some ⟨g, o, none⟩) len c := by rw [HV.out]; exact ⟨_, _, _, _, rfl⟩
        have HV0 := hid hv0;clear hv0 HJ9 HJ1 HPop hcell hc1 hc2 HV;generalize hT : usr (esN N) n = T at *;have HTT := hid hT;clear hT;go_loopg [6, 84] T.length (fun gg s6 s84 wr => ∃ k : Nat, k <= T.length /\ T.length - k <= gg /\ s84 = .int .i64 k /\ Hid (∃ g o len c, s6 = .slice (some ⟨g, o, none⟩) len c) /\ Hid (Og ss.length M w wr vs (usr (esN N)) (fun x => cnt (esN N) out x - occ x (T.take k)) s6 (rdL (List.range ss.length) (out ++ [n]) (fun x => cnt (esN N) out x - occ x (T.take k))) (.slice (some ⟨g9, 0, none⟩) (out.length + 1) cap9) (out ++ [n])))
        case atStart => exact ⟨0, by omega, by omega, rfl, HV0, J0⟩
        case round =>
         clear J0 hu9 HV0;obtain ⟨k, hk, hgk, rfl, HV6, HJ⟩ := hrel;obtain ⟨g6, o6, n6, c6, hs6⟩ := HV6.out;subst hs6;obtain ⟨r6, c6', hv6, h61, h62⟩ := HJ.out.oR.form;rw [lt_map] at hv6 h61;simp at hv6;obtain ⟨hv6a, hv6b, hv6c⟩ := hv6;subst hv6a hv6b hv6c
         by_cases hlt : k < T.length
         . have hsl := (HJ.out.us.own n HNl.out).sl
           rw [HVT.out, HTT.out] at hsl;obtain ⟨b3, o3, rfl, hb3, g3, _⟩ := int_at hsl k (by rw [lt_map]; exact hlt);rw [List.getElem_map] at g3;have HTk := hid (show T.take (k + 1) = T.take k ++ [T[k]] from List.take_succ_eq_append_getElem hlt);have hval := HVal.out T[k] (List.getElem_mem hlt);have hoc1 := occ_take_le T[k] T (k + 1);rw [HTk.out, occ_snoc, if_pos rfl] at hoc1;have hoc2 := HOc.out T[k];have hcl := cnt_le (esN N) out T[k];have HUo := hid hval.2;have HUl := hid hval.1;clear hsl;generalize T[k] = u at *
           have HDec := hid (show (fun x => cnt (esN N) out x - occ x (T.take (k + 1))) = decV (fun x => cnt (esN N) out x - occ x (T.take k)) u from by
            funext x;unfold decV;rw [HTk.out, occ_snoc]
            by_cases e : x = u
            . subst e
              rw [if_pos rfl, if_pos rfl];show cnt (esN N) out x - (occ x (T.take k) + 1) = cnt (esN N) out x - occ x (T.take k) - 1;omega
            . rw [if_neg (fun h => e h.symm), if_neg e]; rfl)
           have hm1 : 1 <= cnt (esN N) out u - occ u (T.take k) := by omega
           have hm2 : cnt (esN N) out u - occ u (T.take k) <= 900000 := by have := HEN.out; omega
           generalize hvk : (fun x => cnt (esN N) out x - occ x (T.take k)) = vk at *;have hmk : vk u = cnt (esN N) out u - occ u (T.take k) := by rw [<- hvk]
           rw [<- hmk] at hm1 hm2;have l0 := HJ.out.lf.cell u HUl.out;have l1 := HJ.out.lf.free u;have hMlt := HJ.out.lf.lt
           have hb3M : b3 ≠ M := by
            have := (HJ.out.us.own n HNl.out).lt b3 (by rw [HVT.out]; rfl);omega
           clear hval hoc1 hoc2 hcl hvk hmk HTk
           by_cases hm : vk u = 1
           . have HPut := hid (show rdL (List.range ss.length) (out ++ [n]) (decV vk u) = putL ltN u (rdL (List.range ss.length) (out ++ [n]) vk) from rd_put (range_asc _) (List.mem_range.2 HUl.out) HUo.out hm)
             rw [hm] at l0;have l0 : wr.cell? ⟨M, u, none⟩ = some (.int .i64 1) := l0;have s0 : (wr.setCell ⟨M, u, none⟩ (.int .i64 0)).cell? ⟨M, u, none⟩ = some (.int .i64 0) := scell_same l0;have HJ1 := hid (HJ.out.setLeft HUl.out (v' := decV vk u) (z := 0) (fun i hi => by unfold decV; rw [if_neg hi]) (by unfold decV; rw [if_pos rfl, hm]; rfl));have HRl := hid (show (rdL (List.range ss.length) (out ++ [n]) vk).length + 1 <= 1000000 by have := rdL_lenN (List.range ss.length) (out ++ [n]) vk; simp at this; omega);have HAs := hid (rdL_asc (range_asc ss.length) (out ++ [n]) vk);have e0 : ((1 : Int) - 1) = 0 := by omega
             clear hm hm1 hm2 HJ;generalize rdL (List.range ss.length) (out ++ [n]) vk = R6 at *
             go_wp2_with (first
              | (go_at_call 33
                 go_loud (refine (bs_n (M + 2) g6 o6 c6 R6 u _ HJ1.out.oR HAs.out (by have := HRl.out; omega)).mono ?_)
                 rintro e w11 ⟨⟨bb, rfl⟩, hb11⟩;have HJ11 := hid (HJ1.out.below (hb11.trans ((show Below w11.heap.size w11 (w11.alloc (.cells #[.int .i64 (u : Int)] 3)) from (Below.refl _ _).alloc (Nat.le_refl _) _).mono hb11.size)));have HZ11 := hid (show ∀ q, (Value.slice (some ⟨g6, o6, none⟩) R6.length c6).ownBlock = some q -> q < w11.heap.size from fun q hq => Nat.lt_of_lt_of_le (HJ1.out.oR.lt q hq).2 hb11.size);clear hb11)
              | (go_at_call 34
                 go_loud (refine (ins_n (M + 2) (.slice (some ⟨g6, o6, none⟩) R6.length c6) R6 u w11.heap.size _ HJ11.out.oR (by exact (MapKept.heap_alloc w11 _).1) (fun e => by have := HZ11.out _ e; omega) (ib_nat (by have := HUl.out; omega)) HRl.out HJ11.out.sz).mono ?_)
                 rintro e w13 ⟨g13, o13, c13, rfl, hm13⟩;have HJ13 := hid (HJ11.out.ready hm13);clear hm13))
             go_roundg (T.length - (k + 1))
             case measure => omega
             case rel =>
              refine ⟨k + 1, by omega, by omega, by go_num, hid ⟨_, _, _, _, rfl⟩, ?_⟩;rw [HDec.out, HPut.out];exact HJ13
           . have hm3 : 2 <= vk u := by omega
             have HSame := hid (show rdL (List.range ss.length) (out ++ [n]) (decV vk u) = rdL (List.range ss.length) (out ++ [n]) vk from rd_same hm3);have HJ1 := hid (HJ.out.setLeft HUl.out (v' := decV vk u) (z := (vk u : Nat) - 1) (fun i hi => by unfold decV; rw [if_neg hi]) (by unfold decV; rw [if_pos rfl]; omega));have s0 : (wr.setCell ⟨M, u, none⟩ (.int .i64 (((vk u : Nat) : Int) - 1))).cell? ⟨M, u, none⟩ = some (.int .i64 (((vk u : Nat) : Int) - 1)) := scell_same l0;have e0 : ((((vk u : Nat) : Int) - 1) == 0) = false := by simp; omega
             clear hm hm1 HJ;generalize vk u = m at *;go_wp2
             go_roundg (T.length - (k + 1))
             case measure => omega
             case rel =>
              refine ⟨k + 1, by omega, by omega, by go_num, hid ⟨_, _, _, _, rfl⟩, ?_⟩;rw [HDec.out, HSame.out];exact HJ1
         . have hke : k = T.length := by omega
           have HK := hid hke;clear hke;go_wp2
           go_roundg (ss.length - (out ++ [n]).length)
           case measure => have := HOL.out; simp; omega
           case rel =>
            have j := HJ.out
            have e : (fun x => cnt (esN N) out x - occ x (T.take k)) = cnt (esN N) (out ++ [n]) := by
             funext x;rw [HK.out, List.take_length];have := HOc.out x;omega
            rw [e] at j ⊢;exact ⟨out ++ [n], Nat.le_refl _, hid (by simpa using j), HL1⟩)
end Go.Proofs.YtpnogmicfomofaaGreatDoor.Stp
namespace Go.Proofs.YtpnogmicfomofaaGreatDoor.Stp
open Go.RowKit Go.Sort Go.Lib Go.Maps
open Go.Lib (hid)
def StpR (_ : World) (cs : List Value) (p : Nat × Int) : Prop := ∃ sv : SV, cs = [.int .i64 p.1, .int .i64 p.2, .slice sv.r sv.n sv.c]
theorem stpR_mono : Mono StpR := fun _ _ _ _ _ h => h
theorem stp_at {w : World} {r : Option Addr} {n c : Nat} {ps : List (Nat × Int)} (h : Sl StpR 3 w (.slice r n c) ps) (i : Nat) (hi : i < ps.length) :
  ∃ b off sv, r = some ⟨b, off, none⟩ /\ b < w.heap.size /\ w.cell? ⟨b, off + i * 3, none⟩ = some (.int .i64 (ps[i]).1) /\ w.cell? ⟨b, off + i * 3 + 1, none⟩ = some (.int .i64 (ps[i]).2) /\ w.cell? ⟨b, off + i * 3 + 2, none⟩ = some (SV.v sv) := by
 obtain ⟨r', c', e, h1, h2, he⟩ := h;simp at e;obtain ⟨rfl, rfl, rfl⟩ := e;obtain ⟨b, off, cs, hr, hs, hc, sv, hv⟩ := he i hi;subst hv;have g0 := hc 0 _ rfl;exact ⟨b, off, sv, hr, World.block_lt_of_cell? w _ g0, g0, hc 1 _ rfl, hc 2 _ rfl⟩
def ndB (cs : List Ch) (f : Nat -> ByteArray) (a b : Nat × Int) : Bool := if a.2 = 3 then removesB cs f a.1 b.1 b.2 else makesB cs f a.1 a.2 b.1 b.2
def ndK (cs : List Ch) (f : Nat -> ByteArray) (ps : List (Nat × Int)) (a : Nat × Int) (k : Nat) : List Nat := (List.range k).filter fun i => ndB cs f a (ps.getD i (0, 0))
theorem ndK_succ {cs : List Ch} {f : Nat -> ByteArray} {ps : List (Nat × Int)} {a : Nat × Int} {k : Nat} (hk : k < ps.length) : ndK cs f ps a (k + 1) = ndK cs f ps a k ++ if ndB cs f a ps[k] = true then [k] else [] := by
 unfold ndK;rw [List.range_succ, List.filter_append, List.filter_cons, List.filter_nil, List.getD_eq_getElem?_getD, List.getElem?_eq_getElem hk];rfl
theorem ndK_len (cs : List Ch) (f : Nat -> ByteArray) (ps : List (Nat × Int)) (a : Nat × Int) (k : Nat) : (ndK cs f ps a k).length <= k := by
 unfold ndK;exact Nat.le_trans (List.length_filter_le _ _) (by rw [List.length_range]; exact Nat.le_refl _)
def NdR (w : World) (xs : List Nat) (e : Ending) (w' : World) : Prop := ∃ v, e = .returned v /\ OwnI w.heap.size w' v (xs.map Nat.cast) /\ Below w.heap.size w w'
theorem nd_contract (mb M : Nat) (rc : Option Addr) (cc : Nat) (cs : List Ch) (f : Nat -> ByteArray) (a b : Nat × Int) (sv tv : SV) (w : World) (h : MkP mb M rc cc w cs f) (hi : a.1 < cs.length) (hj : b.1 < cs.length) (hn : cs.length <= 1000000) :
  (a.2 = 3 -> Calls Tryz.prog 58 #[.pointer (some ⟨mb, 0, none⟩), .agg #[.int .i64 a.1, .int .i64 a.2, .slice sv.r sv.n sv.c], .agg #[.int .i64 b.1, .int .i64 b.2, .slice tv.r tv.n tv.c]] w fun e w' => e = .returned (.bool (ndB cs f a b)) /\ Below w.heap.size w w') /\
  (a.2 ≠ 3 -> Calls Tryz.prog 59 #[.pointer (some ⟨mb, 0, none⟩), .agg #[.int .i64 a.1, .int .i64 a.2, .slice sv.r sv.n sv.c], .agg #[.int .i64 b.1, .int .i64 b.2, .slice tv.r tv.n tv.c]] w fun e w' => e = .returned (.bool (ndB cs f a b)) /\ Below w.heap.size w w') := by
 constructor
 . intro h3
   unfold ndB;rw [if_pos h3];exact removes_any mb M rc cc cs f a.1 b.1 a.2 b.2 sv tv w h hi hj hn
 . intro h3
   unfold ndB;rw [if_neg h3];exact makes_any mb M rc cc cs f a.1 b.1 a.2 b.2 sv tv w h hi hj hn
theorem row_le0 {w : World} {B sz n : Nat} {e : TypeId} {v : Value} {xs : List Value} (h : w.ownsRow (B + 1) e sz v n xs) : w.ownsRow B e sz v n xs := Adr.row_le h (by omega)
set_option maxRecDepth 100000 in
set_option maxHeartbeats 8000000 in
theorem needs_any (mb M : Nat) (rc : Option Addr) (cc : Nat) (cs : List Ch) (f : Nat -> ByteArray) (rs : Option Addr) (cp : Nat) (ps : List (Nat × Int)) (k : Nat) (w : World) (h : MkP mb M rc cc w cs f) (c2 : w.cell? ⟨mb, 2, none⟩ = some (.slice rs ps.length cp)) (hp : Sl StpR 3 w (.slice rs ps.length cp) ps) (hlt : ∀ p ∈ ps, p.1 < cs.length) (hk : k < ps.length) (hn : cs.length <= 1000000) (hn2 : ps.length <= 900000) :
  Calls Tryz.prog 31 #[.pointer (some ⟨mb, 0, none⟩), .int .i64 k] w (NdR w (ndK cs f ps ps[k] ps.length)) := by
 obtain ⟨_, hl, hm⟩ := sl_len hp;obtain ⟨sb, soff, sv, rfl, hsb, s0, s1, s2⟩ := stp_at hp k hk;have hik := hlt ps[k] (List.getElem_mem hk);have HCT := hid (fun (q : Nat) (hq : q < ps.length) (tv : SV) (W : World) (hW : Below w.heap.size w W) => nd_contract mb M rc cc cs f ps[k] ps[q] sv tv W (h.below hW) hik (hlt _ (List.getElem_mem hq)) hn);have HST := hid (fun (W : World) (hW : Below w.heap.size w W) (q : Nat) (hq : q < ps.length) => stp_at (hp.below stpR_mono hW) q hq);have HC2 := hid (fun (W : World) (hW : Below w.heap.size w W) => bget hW c2);have HSU := hid (fun (q : Nat) (hq : q < ps.length) => ndK_succ (cs := cs) (f := f) (ps := ps) (a := ps[k]) hq);have HLN := hid (fun (q : Nat) => ndK_len cs f ps ps[k] q);have hmb := World.block_lt_of_cell? w _ c2;simp only at hmb;have hkk : (0 : Int) <= (k : Int) := by omega
 have hkk2 : (k : Int) < (ps.length : Int) := by omega
 unfold SV.v at s2;clear h hp hlt;generalize hNK : ndK cs f ps ps[k] = NK at *;generalize hnb : ndB cs f ps[k] = NB at *;generalize ps[k] = a at *;obtain ⟨ia, oa⟩ := a;simp only at *;go_enter Tryz.func31, Tryz.ntmps31;go_wp2
 have HB0 := hid (show Below w.heap.size w (w.alloc (.cells #[.int .i64 (ia : Int), .int .i64 oa, .slice sv.r sv.n sv.c] 48)) from (Below.refl _ _).alloc (Nat.le_refl _) _);have HS0 := hid (show (w.alloc (.cells #[.int .i64 (ia : Int), .int .i64 oa, .slice sv.r sv.n sv.c] 48)).heap.size = w.heap.size + 1 by simp);have z0 := cell_new' w #[.int .i64 (ia : Int), .int .i64 oa, .slice sv.r sv.n sv.c] 48;have z00 : (w.alloc (.cells #[.int .i64 (ia : Int), .int .i64 oa, .slice sv.r sv.n sv.c] 48)).cell? ⟨w.heap.size, 0, none⟩ = some (.int .i64 (ia : Int)) := z0 0;have z01 : (w.alloc (.cells #[.int .i64 (ia : Int), .int .i64 oa, .slice sv.r sv.n sv.c] 48)).cell? ⟨w.heap.size, 1, none⟩ = some (.int .i64 oa) := z0 1;have z02 : (w.alloc (.cells #[.int .i64 (ia : Int), .int .i64 oa, .slice sv.r sv.n sv.c] 48)).cell? ⟨w.heap.size, 2, none⟩ = some (.slice sv.r sv.n sv.c) := z0 2;have HZ := hid (And.intro z00 (And.intro z01 z02));clear z0 z00 z01 z02 s0 s1 s2 HC2;generalize w.alloc (.cells #[.int .i64 (ia : Int), .int .i64 oa, .slice sv.r sv.n sv.c] 48) = W0 at *;go_loopw [6, 21] (fun s6 t wr => ∃ q : Nat, q <= ps.length /\ t = .int .i64 q /\ Hid (OwnI (w.heap.size + 1) wr s6 ((NK q).map Nat.cast)) /\ Hid (Below W0.heap.size W0 wr)) (fun _ t _ => ps.length - (RowKit.intOf t).toNat)
 case atStart => exact ⟨0, Nat.zero_le _, rfl, hid (by rw [show NK 0 = [] by rw [<- hNK]; rfl]; exact ownI_nil _ _), hid (Below.refl _ _)⟩
 case round =>
  clear hNK;obtain ⟨q, hq, rfl, HO, HW⟩ := hrel
  by_cases hlt : q < ps.length
  . have hwr : Below w.heap.size w wr := HB0.out.trans (HW.out.mono (by rw [HS0.out]; omega))
    obtain ⟨b, off, tv, he, hb, g0, g1, g2⟩ := HST.out wr hwr q hlt;cases he;unfold SV.v at g2;obtain ⟨z0, z1, z2⟩ := HZ.out;have y0 := bget HW.out z0;have y1 := bget HW.out z1;have y2 := bget HW.out z2;have hw0 : w.heap.size < wr.heap.size := by have := HW.out.size; have := HS0.out; omega
    clear z0 z1 z2;have HWA := hid (show Below wr.heap.size wr (wr.alloc (.cells #[.int .i64 ((ps[q]).1 : Int), .int .i64 (ps[q]).2, .slice tv.r tv.n tv.c] 48)) from (Below.refl _ _).alloc (Nat.le_refl _) _);have HCW := hid (HCT.out q hlt tv _ (hwr.trans (HWA.out.mono hwr.size)));clear hwr
    by_cases h3 : oa = 3
    . have HCQ := hid (HCW.out.1 h3)
      subst h3;clear HCW;cases hB : NB ps[q] with
      | false =>
        rw [hB] at HCQ;have HSQ := hid (show NK (q + 1) = NK q by rw [HSU.out q hlt, hB]; simp);clear hB;go_wp2_with (go_at_call 58; refine Calls.mono HCQ.out ?_; rintro e w5 ⟨rfl, hb5⟩; have HB5 := hid (HWA.out.trans (hb5.mono HWA.out.size)); have v1 := bget HB5.out y1; clear hb5)
        go_roundw
        case rel => exact ⟨q + 1, by omega, by go_num, hid (by rw [HSQ.out]; exact HO.out.below HB5.out), hid (HW.out.trans (HB5.out.mono HW.out.size))⟩
        case measure => simp [RowKit.intOf]; omega
      | true =>
        rw [hB] at HCQ;have HSQ := hid (show NK (q + 1) = NK q ++ [q] by rw [HSU.out q hlt, hB]; simp);clear hB;obtain ⟨ro, co, hv, hro1, hro2⟩ := HO.out.form;rw [List.length_map] at hv hro1;subst hv;have HNL := hid (show (NK q).length <= 900000 by have := HLN.out q; omega);have HQB := hid (show q <= 1000000 by omega)
        go_wp2_with (first
         | (go_at_call 58
            refine Calls.mono HCQ.out ?_;rintro e w5 ⟨rfl, hb5⟩;have HB5 := hid (HWA.out.trans (hb5.mono HWA.out.size));have v1 := bget HB5.out y1;have HO5 := hid ((HO.out.below HB5.out).below ((Below.refl w5.heap.size w5).alloc (Nat.le_refl _) (.cells #[.int .i64 (q : Int)] 3)));have HZ5 := hid (show w.heap.size + 1 <= (w5.alloc (.cells #[.int .i64 (q : Int)] 3)).heap.size by have h1 := HW.out.size; have h2 := HB5.out.size; have h3 := HS0.out; simp; omega);clear hb5)
         | (at_builtin
            refine app_int rfl _ _ rfl (w.heap.size + 1) (.slice ro (NK q).length co) ((NK q).map Nat.cast) rfl HO5.out w5.heap.size 1 q rfl (fr := (0, 0)) (by exact (MapKept.heap_alloc w5 _).1) (by have := HQB.out; exact ⟨by omega, by omega⟩) (by have := HNL.out; rw [List.length_map]; omega) HZ5.out (w5.heap.size + 1) (by simp) ?_;intro g6 cap6 w6 hm6;rw [List.length_map];have HM6 := hid hm6;clear hm6))
        go_roundw
        case rel =>
         refine ⟨q + 1, by omega, by go_num, hid ?_, hid ?_⟩
         . rw [HSQ.out, List.map_append]
           have := HM6.out.1;rw [show ((NK q).map (Nat.cast : Nat -> Int) ++ [(q : Int)]).length = (NK q).length + 1 by simp] at this;exact this
         . have h1 := (HW.out.trans (HB5.out.mono HW.out.size)).trans (((Below.refl w5.heap.size w5).alloc (Nat.le_refl _) (.cells #[.int .i64 (q : Int)] 3)).mono (Nat.le_trans HW.out.size HB5.out.size))
           exact h1.grown HM6.out.2.1 h1.size (fun k hk => by have := (HO5.out.lt k hk).1; have := HS0.out; omega)
        case measure => simp [RowKit.intOf]; omega
    . have HCQ := hid (HCW.out.2 h3)
      have e3 := neb h3;have e4 : (oa != 3) = true := by simp [h3]
      clear HCW h3;cases hB : NB ps[q] with
      | false =>
        rw [hB] at HCQ;have HSQ := hid (show NK (q + 1) = NK q by rw [HSU.out q hlt, hB]; simp);clear hB;go_wp2_with (go_at_call 59; refine Calls.mono HCQ.out ?_; rintro e w5 ⟨rfl, hb5⟩; have HB5 := hid (HWA.out.trans (hb5.mono HWA.out.size)); have v1 := bget HB5.out y1; clear hb5)
        go_roundw
        case rel => exact ⟨q + 1, by omega, by go_num, hid (by rw [HSQ.out]; exact HO.out.below HB5.out), hid (HW.out.trans (HB5.out.mono HW.out.size))⟩
        case measure => simp [RowKit.intOf]; omega
      | true =>
        rw [hB] at HCQ;have HSQ := hid (show NK (q + 1) = NK q ++ [q] by rw [HSU.out q hlt, hB]; simp);clear hB;obtain ⟨ro, co, hv, hro1, hro2⟩ := HO.out.form;rw [List.length_map] at hv hro1;subst hv;have HNL := hid (show (NK q).length <= 900000 by have := HLN.out q; omega);have HQB := hid (show q <= 1000000 by omega)
        go_wp2_with (first
         | (go_at_call 59
            refine Calls.mono HCQ.out ?_;rintro e w5 ⟨rfl, hb5⟩;have HB5 := hid (HWA.out.trans (hb5.mono HWA.out.size));have v1 := bget HB5.out y1;have HO5 := hid ((HO.out.below HB5.out).below ((Below.refl w5.heap.size w5).alloc (Nat.le_refl _) (.cells #[.int .i64 (q : Int)] 3)));have HZ5 := hid (show w.heap.size + 1 <= (w5.alloc (.cells #[.int .i64 (q : Int)] 3)).heap.size by have h1 := HW.out.size; have h2 := HB5.out.size; have h3 := HS0.out; simp; omega);clear hb5)
         | (at_builtin
            refine app_int rfl _ _ rfl (w.heap.size + 1) (.slice ro (NK q).length co) ((NK q).map Nat.cast) rfl HO5.out w5.heap.size 1 q rfl (fr := (0, 0)) (by exact (MapKept.heap_alloc w5 _).1) (by have := HQB.out; exact ⟨by omega, by omega⟩) (by have := HNL.out; rw [List.length_map]; omega) HZ5.out (w5.heap.size + 1) (by simp) ?_;intro g6 cap6 w6 hm6;rw [List.length_map];have HM6 := hid hm6;clear hm6))
        go_roundw
        case rel =>
         refine ⟨q + 1, by omega, by go_num, hid ?_, hid ?_⟩
         . rw [HSQ.out, List.map_append]
           have := HM6.out.1;rw [show ((NK q).map (Nat.cast : Nat -> Int) ++ [(q : Int)]).length = (NK q).length + 1 by simp] at this;exact this
         . have h1 := (HW.out.trans (HB5.out.mono HW.out.size)).trans (((Below.refl w5.heap.size w5).alloc (Nat.le_refl _) (.cells #[.int .i64 (q : Int)] 3)).mono (Nat.le_trans HW.out.size HB5.out.size))
           exact h1.grown HM6.out.2.1 h1.size (fun k hk => by have := (HO5.out.lt k hk).1; have := HS0.out; omega)
        case measure => simp [RowKit.intOf]; omega
  . obtain rfl : q = ps.length := by omega
    obtain ⟨ro, co, hv, hro1, hro2⟩ := HO.out.form;subst hv;go_wp2
    go_ret
    exact ⟨_, rfl, ⟨row_le0 HO.out.1, HO.out.2⟩, HB0.out.trans (HW.out.mono (by rw [HS0.out]; omega))⟩
end Go.Proofs.YtpnogmicfomofaaGreatDoor.Stp
namespace Go.Proofs.YtpnogmicfomofaaGreatDoor.Stp
open Go.RowKit Go.Sort Go.Lib Go.Maps
open Go.Lib (hid)
def opl (c : Ch) : List Int := (if opA c.act c.cf = 0 then [] else [opA c.act c.cf]) ++ (if opB c.act c.cf = 0 then [] else [opB c.act c.cf])
def plusK (cs : List Ch) (i : Nat) : List (Nat × Int) := match cs[i]? with | some c => (opl c).map fun o => (i, o) | none => []
def psK (cs : List Ch) (k : Nat) : List (Nat × Int) := (List.range k).flatMap (plusK cs)
def rsK (cs : List Ch) (k i : Nat) : ByteArray := if i < k then (match cs[i]? with | some c => if opA c.act c.cf = 0 then ByteArray.empty else resB c.addr | none => ByteArray.empty) else ByteArray.empty
theorem psK_succ (cs : List Ch) (k : Nat) : psK cs (k + 1) = psK cs k ++ plusK cs k := by
 unfold psK;rw [List.range_succ, List.flatMap_append];simp
theorem plusK_at {cs : List Ch} {k : Nat} (hk : k < cs.length) : plusK cs k = (opl cs[k]).map fun o => (k, o) := by
 unfold plusK;rw [List.getElem?_eq_getElem hk]
theorem opl_len (c : Ch) : (opl c).length <= 2 := by
 unfold opl;rw [List.length_append];split <;> split <;> simp
theorem plusK_len (cs : List Ch) (k : Nat) : (plusK cs k).length <= 2 := by
 unfold plusK;split
 . rw [List.length_map]; exact opl_len _
 . simp
theorem psK_len (cs : List Ch) (k : Nat) : (psK cs k).length <= 2 * k := by
 induction k with
 | zero => simp [psK]
 | succ k ih => rw [psK_succ, List.length_append]; have := plusK_len cs k; omega
theorem psK_mono (cs : List Ch) {k n : Nat} (h : k <= n) : (psK cs k).length <= (psK cs n).length := by
 induction n with
 | zero => rw [show k = 0 by omega]; exact Nat.le_refl _
 | succ n ih =>
   rcases Nat.lt_or_ge k (n + 1) with h1 | h1
   . rw [psK_succ, List.length_append]; have := ih (by omega); omega
   . rw [show k = n + 1 by omega]; exact Nat.le_refl _
theorem psK_lt (cs : List Ch) (k : Nat) : ∀ p ∈ psK cs k, p.1 < k /\ p.1 < cs.length := by
 intro p hp;unfold psK at hp;obtain ⟨i, hi, hp⟩ := List.mem_flatMap.1 hp;rw [List.mem_range] at hi;unfold plusK at hp;cases hc : cs[i]? with
 | none => rw [hc] at hp; simp at hp
 | some c =>
   rw [hc] at hp;simp only [List.mem_map] at hp;obtain ⟨o, _, rfl⟩ := hp;exact ⟨hi, (List.getElem?_eq_some_iff.1 hc).1⟩
theorem opA_ib (a : Int) (c : Bool) (h : opA a c ≠ 0) : 1 <= opA a c /\ opA a c <= 4 := by
 revert h;unfold opA
 (repeat' split) <;> intro h <;> first | decide | exact absurd rfl h
theorem opB_ib (a : Int) (c : Bool) (h : opB a c ≠ 0) : 1 <= opB a c /\ opB a c <= 4 := by
 revert h;unfold opB
 (repeat' split) <;> intro h <;> first | decide | exact absurd rfl h
theorem opl_ib (c : Ch) : ∀ o ∈ opl c, 1 <= o /\ o <= 4 := by
 intro o ho;unfold opl at ho;rw [List.mem_append] at ho;rcases ho with ho | ho
 . by_cases h : opA c.act c.cf = 0
   . rw [if_pos h] at ho; cases ho
   . rw [if_neg h, List.mem_singleton] at ho
     subst ho;exact opA_ib _ _ h
 . by_cases h : opB c.act c.cf = 0
   . rw [if_pos h] at ho; cases ho
   . rw [if_neg h, List.mem_singleton] at ho
     subst ho;exact opB_ib _ _ h
theorem psK_ib (cs : List Ch) (k : Nat) : ∀ p ∈ psK cs k, 1 <= p.2 /\ p.2 <= 4 := by
 intro p hp;unfold psK at hp;obtain ⟨i, hi, hp⟩ := List.mem_flatMap.1 hp;unfold plusK at hp;cases hc : cs[i]? with
 | none => rw [hc] at hp; simp at hp
 | some c =>
   rw [hc] at hp;simp only [List.mem_map] at hp;obtain ⟨o, ho, rfl⟩ := hp;exact opl_ib c o ho
theorem rsK_same (cs : List Ch) (k i : Nat) (h : i ≠ k) : rsK cs (k + 1) i = rsK cs k i := by
 unfold rsK
 by_cases h1 : i < k
 . rw [if_pos h1, if_pos (by omega)]
 . rw [if_neg h1, if_neg (by omega)]
theorem rsK_zero (cs : List Ch) (i : Nat) : rsK cs 0 i = ByteArray.empty := by unfold rsK; rw [if_neg (by omega)]
theorem rsK_new (cs : List Ch) (k : Nat) : rsK cs k k = ByteArray.empty := by unfold rsK; rw [if_neg (by omega)]
theorem rsK_skip {cs : List Ch} {k : Nat} (hk : k < cs.length) (h : opA (cs[k]).act (cs[k]).cf = 0) : rsK cs (k + 1) = rsK cs k := by
 funext i
 by_cases e : i = k
 . subst e
   rw [rsK_new];unfold rsK;rw [if_pos (by omega), List.getElem?_eq_getElem hk];simp only [h, if_true]
 . exact rsK_same cs k i e
theorem rsK_put {cs : List Ch} {k : Nat} (hk : k < cs.length) (h : opA (cs[k]).act (cs[k]).cf ≠ 0) : rsK cs (k + 1) k = resB (cs[k]).addr := by
 unfold rsK;rw [if_pos (by omega), List.getElem?_eq_getElem hk];simp only [if_neg h]
theorem opB_of {a : Int} {c : Bool} (h : opA a c = 0) : opB a c = 0 := by
 unfold opA at h;unfold opB;revert h
 (repeat' split) <;> intro h <;> first | rfl | exact absurd h (by decide) | contradiction
def encT (p : Nat × Int) : List Value := [.int .i64 p.1, .int .i64 p.2, .slice none 0 0]
theorem encT_len : ∀ x, (encT x).length = 3 := fun _ => rfl
theorem encT_one : ∀ x, ∀ u ∈ encT x, u.oneCell' = true := fun x u hu => by
 simp only [encT, List.mem_cons, List.mem_nil_iff, or_false] at hu;rcases hu with rfl | rfl | rfl <;> rfl
theorem stepinfo : (Tryz.prog.info? 48).map (fun i => (i.zero, i.size, i.bytes)) = some (some (.agg #[.int .i64 0, .int .i64 0, .slice none 0 0]), 3, 40) := by kernel_rfl
def OwnT (B : Nat) (w : World) (v : Value) (xs : List (Nat × Int)) : Prop := w.ownsRow B 48 3 v xs.length (xs.flatMap encT)
theorem ownT_nil (B : Nat) (w : World) : OwnT B w (.slice none 0 0) [] := World.ownsRow_nil w B _ 3
def MoreT (B : Nat) (w : World) (v : Value) (xs : List (Nat × Int)) (H : Nat) (g cap : Nat) (w' : World) : Prop :=
 OwnT B w' (.slice (some ⟨g, 0, none⟩) xs.length cap) xs /\ w.grownBy w' v.ownBlock /\ (v.ownBlock = some g ∨ g = H) /\ g < w'.heap.size
section
variable {w : World} {ops : Array Oper} {rest : List Oper} {o : Oper} {a : Act} {Q : Exit -> Act -> World -> Prop}
theorem app_t (hgd : o.guard = none) (s x : Operand) (ho : o.op = .call { callee := .builtin .append, args := #[s, x], argTypes := #[34, 34] })
  (B : Nat) (v : Value) (xs : List (Nat × Int)) (hs : a.eval s = v) (hown : OwnT B w v xs) (nb c : Nat) (y : Nat × Int) (hx : a.eval x = .slice (some ⟨nb, 0, none⟩) 1 c) {fr : Nat × Nat} (hy : w.heap[nb]? = some (.cells #[.int .i64 y.1, .int .i64 y.2, .slice none 0 0] 48 fr))
  (hn : xs.length + 1 <= 1000000) (hbase : B <= w.heap.size) (H : Nat) (hH : w.heap.size = H)
  (h : ∀ g cap w', MoreT B w v (xs ++ [y]) H g cap w' -> wpList Tryz.prog ops Q rest (a.put o.dst (.slice (some ⟨g, 0, none⟩) (xs.length + 1) cap)) w') : wpList Tryz.prog ops Q (o :: rest) a w := by
 subst hH;refine wpList_append_rows encT encT_len encT_one Tryz.underlying34 stepinfo rfl (by omega) (by omega) hgd s x ho B v xs hs hown nb 1 c [y] rfl (by omega) hx (fr := fr) hy (by omega) hbase ?_;intro g cap w' h1 h2 h3 h4;refine h g cap w' ⟨?_, h2, h3, h4⟩;unfold OwnT;simpa using h1
end
structure MkS (w : World) (rc : Option Addr) (cc n : Nat) (W : World) (f : Nat -> ByteArray) (v : Value) (ps : List (Nat × Int)) : Prop where
 c0 : W.cell? ⟨w.heap.size + 1, 0, none⟩ = some (.slice rc n cc)
 c1 : W.cell? ⟨w.heap.size + 1, 1, none⟩ = some (.slice (some ⟨w.heap.size, 0, none⟩) n n)
 c2 : W.cell? ⟨w.heap.size + 1, 2, none⟩ = some v
 f2 : W.frozen? ⟨w.heap.size + 1, 2, none⟩ = false
 rs : ∀ i, i < n -> W.cell? ⟨w.heap.size, i, none⟩ = some (.string (f i))
 fr : ∀ i, W.frozen? ⟨w.heap.size, i, none⟩ = false
 own : OwnT (w.heap.size + 2) W v ps
 bel : Below w.heap.size w W
 sz : w.heap.size + 2 <= W.heap.size
section
variable {w W : World} {rc : Option Addr} {cc n : Nat} {f : Nat -> ByteArray} {v : Value} {ps : List (Nat × Int)}
theorem MkS.kept {W' : World} {row : Option Nat} (h : MkS w rc cc n W f v ps) (hg : W.grownBy W' row) (hr : ∀ g, row = some g -> w.heap.size + 2 <= g /\ v.ownBlock ≠ some g) : MkS w rc cc n W' f v ps := by
 have hsz := h.sz;have e1 : ∀ g, row = some g -> g ≠ w.heap.size + 1 := fun g hg2 => by have := (hr g hg2).1; omega
 have e2 : ∀ g, row = some g -> g ≠ w.heap.size := fun g hg2 => by have := (hr g hg2).1; omega
 exact ⟨grown_cell hg (by omega) e1 h.c0, grown_cell hg (by omega) e1 h.c1, grown_cell hg (by omega) e1 h.c2, (grown_frozen hg (by omega) e1).trans h.f2, fun i hi => grown_cell hg (by omega) e2 (h.rs i hi), fun i => (grown_frozen hg (by omega) e2).trans (h.fr i), kept_off h.own hg (fun g hg2 e => (hr g e).2 hg2), h.bel.grown hg h.bel.size (fun k hk => by have := (hr k hk).1; omega), Nat.le_trans h.sz hg.size⟩
theorem MkS.below {W' : World} (h : MkS w rc cc n W f v ps) (hb : Below W.heap.size W W') : MkS w rc cc n W' f v ps := h.kept (grown_below hb) (fun _ e => by cases e)
theorem ownT_lt {B : Nat} {w : World} {v : Value} {xs : List (Nat × Int)} (h : OwnT B w v xs) : ∀ g, v.ownBlock = some g -> B <= g /\ g < w.heap.size := World.ownsRow.lt h
theorem MkS.res (h : MkS w rc cc n W f v ps) {i : Nat} (hi : i < n) {f' : Nat -> ByteArray} (hf : ∀ j, j ≠ i -> f' j = f j) {s : ByteArray} (hs : s = f' i) : MkS w rc cc n (W.setCell ⟨w.heap.size, i, none⟩ (.string s)) f' v ps := by
 have hsz := h.sz;have hg := grown_set W ⟨w.heap.size, i, none⟩ (.string s);have e1 : ∀ g, some (w.heap.size) = some g -> g ≠ w.heap.size + 1 := fun g hg2 => by cases hg2; omega
 refine ⟨grown_cell hg (by omega) e1 h.c0, grown_cell hg (by omega) e1 h.c1, grown_cell hg (by omega) e1 h.c2, (grown_frozen hg (by omega) e1).trans h.f2, fun j hj => ?_, fun j => by simpa using h.fr j, kept_off h.own hg (fun g hg2 e => by have := (ownT_lt h.own g hg2).1; simp at e; omega), h.bel.grown hg h.bel.size (fun k hk => by cases hk; exact Nat.le_refl _), Nat.le_trans h.sz hg.size⟩
 by_cases e : i = j
 . subst e
   rw [scell_same (h.rs i hi), hs]
 . rw [scell_ne e, h.rs j hj, hf j (fun h => e h.symm)]
theorem MkS.app {W1 W2 : World} (h : MkS w rc cc n W f v ps) (hb : Below W.heap.size W W1) {y : Nat × Int} {H g cap len : Nat} (hl : len = ps.length + 1) (hm : MoreT (w.heap.size + 2) W1 v (ps ++ [y]) H g cap W2) :
  (W2.cell? ⟨w.heap.size + 1, 2, none⟩ = some v /\ W2.frozen? ⟨w.heap.size + 1, 2, none⟩ = false) /\ MkS w rc cc n (W2.setCell ⟨w.heap.size + 1, 2, none⟩ (.slice (some ⟨g, 0, none⟩) len cap)) f (.slice (some ⟨g, 0, none⟩) len cap) (ps ++ [y]) := by
 have hl2 : len = (ps ++ [y]).length := by simp [hl]
 rw [hl2];clear hl hl2;have h1 := h.below hb;obtain ⟨m1, m2, m3, m4⟩ := hm;have hsz := h1.sz;have hlt := ownT_lt h1.own;have e1 : ∀ g, v.ownBlock = some g -> g ≠ w.heap.size + 1 := fun g hg2 => by have := (hlt g hg2).1; omega
 have e2 : ∀ g, v.ownBlock = some g -> g ≠ w.heap.size := fun g hg2 => by have := (hlt g hg2).1; omega
 have k2 := grown_cell m2 (by omega) e1 h1.c2;have kf : W2.frozen? ⟨w.heap.size + 1, 2, none⟩ = false := (grown_frozen m2 (by omega) e1).trans h1.f2;have hg := grown_set W2 ⟨w.heap.size + 1, 2, none⟩ (.slice (some ⟨g, 0, none⟩) (ps ++ [y]).length cap);have hs2 : w.heap.size + 2 <= W2.heap.size := Nat.le_trans h1.sz m2.size;have e3 : ∀ g, some (w.heap.size + 1) = some g -> g ≠ w.heap.size := fun g hg2 => by cases hg2; omega
 refine ⟨⟨k2, kf⟩, ?_⟩;refine ⟨?_, ?_, scell_same k2, by simpa using kf, fun j hj => grown_cell hg (by omega) e3 (grown_cell m2 (by omega) e2 (h1.rs j hj)), fun j => (grown_frozen hg (by omega) e3).trans ((grown_frozen m2 (by omega) e2).trans (h1.fr j)), kept_off m1 hg (fun q hq e => by have := (ownT_lt m1 q hq).1; simp at e; omega), ?_, Nat.le_trans hs2 hg.size⟩
 . rw [scell_ne (by decide)]
   exact grown_cell m2 (by omega) e1 h1.c0
 . rw [scell_ne (by decide)]
   exact grown_cell m2 (by omega) e1 h1.c1
 . have hbel : Below w.heap.size w W2 := h1.bel.grown m2 h1.bel.size (fun k hk => by have := (hlt k hk).1; omega)
   exact hbel.grown hg hbel.size (fun k hk => by cases hk; show w.heap.size <= w.heap.size + 1; omega)
end
theorem MkS.start (w : World) (rc : Option Addr) (cc n : Nat) {C : Array Value} (hC : ∀ (k j : Nat) (u : Value), k < n -> (Value.string ByteArray.empty).cells[j]? = some u -> C[k * 1 + j]? = some u) :
  MkS w rc cc n ((w.alloc (.cells C 9)).alloc (.cells #[.slice rc n cc, .slice (some ⟨w.heap.size, 0, none⟩) n n, .slice none 0 0] 74)) (fun _ => ByteArray.empty) (.slice none 0 0) [] := by
 have hb1 : Below w.heap.size w (w.alloc (.cells C 9)) := (Below.refl _ _).alloc (Nat.le_refl _) _;have s1 : (w.alloc (.cells C 9)).heap.size = w.heap.size + 1 := by simp
 have r1 : ∀ i, i < n -> (w.alloc (.cells C 9)).cell? ⟨w.heap.size, i, none⟩ = some (.string ByteArray.empty) := fun i hi => cell_at rfl (by
  have h1 := hC i 0 (Value.string ByteArray.empty) hi rfl;simpa using h1)
 have f1 : ∀ i, (w.alloc (.cells C 9)).frozen? ⟨w.heap.size, i, none⟩ = false := fun i => by
  unfold World.frozen?;rw [(MapKept.heap_alloc w _).1];simp
 generalize w.alloc (.cells C 9) = W1 at *;have hb2 : Below W1.heap.size W1 (W1.alloc (.cells #[.slice rc n cc, .slice (some ⟨w.heap.size, 0, none⟩) n n, .slice none 0 0] 74)) := (Below.refl _ _).alloc (Nat.le_refl _) _;have hg := grown_below hb2;refine ⟨cell_at s1.symm rfl, cell_at s1.symm rfl, cell_at s1.symm rfl, ?_, fun i hi => bget hb2 (r1 i hi), fun i => (grown_frozen hg (by omega) (fun _ e => by cases e)).trans (f1 i), ownT_nil _ _, hb1.trans (hb2.mono (by omega)), by simp; omega⟩;unfold World.frozen?;have := (MapKept.heap_alloc W1 (.cells #[.slice rc n cc, .slice (some ⟨w.heap.size, 0, none⟩) n n, .slice none 0 0] 74)).1;rw [s1] at this;simp [this]
end Go.Proofs.YtpnogmicfomofaaGreatDoor.Stp
namespace Go.Proofs.YtpnogmicfomofaaGreatDoor.Stp
open Go.RowKit Go.Sort Go.Lib Go.Maps
open Go.Lib (hid)
structure MkN (w : World) (rc : Option Addr) (cc n G g : Nat) (W : World) (f : Nat -> ByteArray) (rs : Option Addr) (cp : Nat) (ps : List (Nat × Int)) (vs : Nat -> SV) (F : Nat -> List Nat) (k : Nat) : Prop where
 c0 : W.cell? ⟨w.heap.size + 1, 0, none⟩ = some (.slice rc n cc)
 c1 : W.cell? ⟨w.heap.size + 1, 1, none⟩ = some (.slice (some ⟨w.heap.size, 0, none⟩) n n)
 c2 : W.cell? ⟨w.heap.size + 1, 2, none⟩ = some (.slice rs ps.length cp)
 res : ∀ i, i < n -> W.cell? ⟨w.heap.size, i, none⟩ = some (.string (f i))
 rsg : 0 < ps.length -> rs = some ⟨g, 0, none⟩ /\ w.heap.size + 2 <= g /\ g < G
 el : ∀ j (hj : j < ps.length), W.cell? ⟨g, j * 3, none⟩ = some (.int .i64 (ps[j]).1) /\ W.cell? ⟨g, j * 3 + 1, none⟩ = some (.int .i64 (ps[j]).2) /\ W.cell? ⟨g, j * 3 + 2, none⟩ = some (vs j).v /\ W.frozen? ⟨g, j * 3 + 2, none⟩ = false
 nd : ∀ j, j < k -> OwnI G W (vs j).v ((F j).map Nat.cast)
 bel : Below w.heap.size w W
 sz : G <= W.heap.size
 gs : w.heap.size + 2 <= G
 cap : ps.length <= cp /\ cp <= maxLen
section
variable {w W : World} {rc : Option Addr} {cc n G g : Nat} {f : Nat -> ByteArray} {rs : Option Addr} {cp : Nat} {ps : List (Nat × Int)} {vs : Nat -> SV} {F : Nat -> List Nat} {k : Nat}
theorem MkN.below {W' : World} (h : MkN w rc cc n G g W f rs cp ps vs F k) (hb : Below W.heap.size W W') : MkN w rc cc n G g W' f rs cp ps vs F k := by
 refine ⟨bget hb h.c0, bget hb h.c1, bget hb h.c2, fun i hi => bget hb (h.res i hi), h.rsg, fun j hj => ?_, fun j hj => (h.nd j hj).below hb, h.bel.trans (hb.mono h.bel.size), Nat.le_trans h.sz hb.size, h.gs, h.cap⟩;obtain ⟨e1, e2, e3, e4⟩ := h.el j hj;have hl := (h.rsg (by omega)).2.2;have hs := h.sz;exact ⟨bget hb e1, bget hb e2, bget hb e3, (grown_frozen (grown_below hb) (by omega) (fun _ e => by cases e)).trans e4⟩
theorem MkN.put {W' : World} (h : MkN w rc cc n G g W f rs cp ps vs F k) (hb : Below W.heap.size W W') (hk : k < ps.length) {sv : SV} (ho : OwnI W.heap.size W' sv.v ((F k).map Nat.cast)) :
  MkN w rc cc n G g (W'.setCell ⟨g, k * 3 + 2, none⟩ sv.v) f rs cp ps (fun j => if j = k then sv else vs j) F (k + 1) := by
 have h1 := h.below hb;have hsz := h.sz;have hs1 := h1.sz;have hgs := h.gs;obtain ⟨hrs, hg1, hg2⟩ := h.rsg (by omega);have hg := grown_set W' ⟨g, k * 3 + 2, none⟩ sv.v;have e1 : ∀ q, some g = some q -> q ≠ w.heap.size + 1 := fun q hq => by cases hq; omega
 have e2 : ∀ q, some g = some q -> q ≠ w.heap.size := fun q hq => by cases hq; omega
 refine ⟨grown_cell hg (by omega) e1 h1.c0, grown_cell hg (by omega) e1 h1.c1, grown_cell hg (by omega) e1 h1.c2, fun i hi => grown_cell hg (by omega) e2 (h1.res i hi), h.rsg, fun j hj => ?_, fun j hj => ?_, h1.bel.grown hg h1.bel.size (fun q hq => by cases hq; show w.heap.size <= g; omega), Nat.le_trans h1.sz hg.size, h.gs, h.cap⟩
 . obtain ⟨a1, a2, a3, a4⟩ := h1.el j hj
   refine ⟨by rw [scell_ne (by omega)]; exact a1, by rw [scell_ne (by omega)]; exact a2, ?_, by simpa using a4⟩
   by_cases e : j = k
   . subst e
     rw [scell_same a3];simp
   . rw [scell_ne (by omega), a3]
     simp [e]
 . by_cases e : j = k
   . subst e
     simp only [if_true];refine ((show OwnI G W' sv.v ((F j).map Nat.cast) from ⟨Adr.row_le ho.1 hsz, ho.2⟩)).kept hg (fun q hq e => ?_);have := (ho.lt q hq).1;simp at e;omega
   . simp only [if_neg e]
     refine (h1.nd j (by omega)).kept hg (fun q hq e => ?_);have := ((h1.nd j (by omega)).lt q hq).1;simp at e;omega
theorem MkN.stp (h : MkN w rc cc n G g W f rs cp ps vs F k) : Sl StpR 3 W (.slice rs ps.length cp) ps := by
 refine ⟨rs, cp, rfl, h.cap.1, h.cap.2, fun i hi => ?_⟩;obtain ⟨hrs, _⟩ := h.rsg (by omega);obtain ⟨e1, e2, e3, _⟩ := h.el i hi;refine ⟨g, 0, [.int .i64 (ps[i]).1, .int .i64 (ps[i]).2, (vs i).v], hrs, rfl, fun j u hj => ?_, vs i, rfl⟩;rw [Nat.zero_add]
 match j, hj with
 | 0, hj => cases hj; exact e1
 | 1, hj => cases hj; exact e2
 | 2, hj => cases hj; exact e3
 | j + 3, hj => cases hj
theorem MkN.mkp {cs : List Ch} (h : MkN w rc cc cs.length G g W f rs cp ps vs F k) (hc : Sl ChR 22 w (.slice rc cs.length cc) cs) : MkP (w.heap.size + 1) w.heap.size rc cc W cs f :=
 ⟨h.c0, h.c1, hc.below chR_mono h.bel, h.res⟩
theorem MkN.fin (h : MkN w rc cc n G g W f rs cp ps vs F ps.length) (hp : ∀ p ∈ ps, p.1 <= 1000000 /\ 1 <= p.2 /\ p.2 <= 4) (ss : List St) (hl : ss.length = ps.length) (hss : ∀ j (hj : j < ps.length) (hj' : j < ss.length), ss[j] = ⟨(ps[j]).1, (ps[j]).2, (F j).map Nat.cast⟩) :
  Sl StR 3 W (.slice rs ps.length cp) ss := by
 refine ⟨rs, cp, by rw [hl], by rw [hl]; exact h.cap.1, h.cap.2, fun i hi => ?_⟩;rw [hl] at hi;obtain ⟨hrs, _⟩ := h.rsg (by omega);obtain ⟨e1, e2, e3, _⟩ := h.el i hi;have hb := hp _ (List.getElem_mem hi);refine ⟨g, 0, [.int .i64 (ps[i]).1, .int .i64 (ps[i]).2, (vs i).v], hrs, rfl, fun j u hj => ?_, (vs i).v, ?_⟩
 . rw [Nat.zero_add]
   match j, hj with
   | 0, hj => cases hj; exact e1
   | 1, hj => cases hj; exact e2
   | 2, hj => cases hj; exact e3
   | j + 3, hj => cases hj
 . rw [hss i hi (by omega)]
   exact ⟨rfl, (h.nd i hi).sl, ⟨by simp only; omega, by simp only; omega⟩, ⟨by simp only; omega, by simp only; omega⟩⟩
end
theorem MkS.next {w W : World} {rc : Option Addr} {cc n : Nat} {f : Nat -> ByteArray} {v : Value} {ps : List (Nat × Int)} (h : MkS w rc cc n W f v ps) (F : Nat -> List Nat) :
  ∃ g rs cp, v = .slice rs ps.length cp /\ MkN w rc cc n W.heap.size g W f rs cp ps (fun _ => ⟨none, 0, 0⟩) F 0 := by
 have hc2 := h.c2;have hsl := sl_of_own encT encT_len h.own;rcases h.own.2 with ⟨rfl, h0⟩ | ⟨g, cap, cur, rfl, hb, hg, hn, hc, hs, ht⟩
 . refine ⟨0, none, 0, by rw [h0], h.c0, h.c1, by rw [h0]; exact hc2, h.rs, fun hp => by omega, fun j hj => by omega, fun j hj => by omega, h.bel, Nat.le_refl _, h.sz, by rw [h0]; unfold maxLen; omega⟩
 . refine ⟨g, some ⟨g, 0, none⟩, cap, rfl, h.c0, h.c1, hc2, h.rs, fun _ => ⟨rfl, hb, lt_of_block hg⟩, fun j hj => ?_, fun j hj => by omega, h.bel, Nat.le_refl _, h.sz, hn, hc⟩
   obtain ⟨_, _, e, _, _, he⟩ := hsl;obtain ⟨b, off, ds, hr, _, hcell, hd⟩ := he j hj;simp at e;obtain ⟨e1, _⟩ := e;subst hd;rw [<- e1] at hr;simp at hr;obtain ⟨rfl, rfl⟩ := hr;have g0 := hcell 0 _ rfl;have g1 := hcell 1 _ rfl;have g2 := hcell 2 _ rfl;simp only [Nat.zero_add, Nat.add_zero] at g0 g1 g2;exact ⟨g0, g1, g2, frozen_of hg _⟩
def psF (cs : List Ch) : List (Nat × Int) := psK cs cs.length
def ndF (cs : List Ch) (j : Nat) : List Nat := ndK cs (rsK cs cs.length) (psF cs) ((psF cs).getD j (0, 0)) (psF cs).length
def stF (cs : List Ch) : List St := (psF cs).map fun a => ⟨a.1, a.2, (ndK cs (rsK cs cs.length) (psF cs) a (psF cs).length).map Nat.cast⟩
theorem stF_len (cs : List Ch) : (stF cs).length = (psF cs).length := by simp [stF]
theorem stF_at (cs : List Ch) (j : Nat) (hj : j < (psF cs).length) (hj' : j < (stF cs).length) : (stF cs)[j] = ⟨((psF cs)[j]).1, ((psF cs)[j]).2, (ndF cs j).map Nat.cast⟩ := by
 have h1 : (stF cs)[j]? = some ⟨((psF cs)[j]).1, ((psF cs)[j]).2, (ndK cs (rsK cs cs.length) (psF cs) (psF cs)[j] (psF cs).length).map Nat.cast⟩ := by
  unfold stF;rw [List.getElem?_map, List.getElem?_eq_getElem hj];rfl
 rw [List.getElem?_eq_getElem hj'] at h1
 have h2 : ndF cs j = ndK cs (rsK cs cs.length) (psF cs) (psF cs)[j] (psF cs).length := by
  unfold ndF;rw [List.getD_eq_getElem?_getD, List.getElem?_eq_getElem hj];rfl
 rw [h2];exact Option.some.inj h1
theorem esN_le : ∀ (N : List (List Nat)) (m : Nat), (∀ l ∈ N, l.length <= m) -> ∀ k, k <= N.length -> (esN (N.take k)).length <= k * m
 | N, m, h, 0, _ => by simp [esN]
 | N, m, h, k + 1, hk => by
   rw [esN_take (by omega), List.length_append, List.length_map, Nat.add_mul, Nat.one_mul];have h1 := esN_le N m h k (by omega)
   have h2 : (nd N k).length <= m := by
    unfold nd;rw [List.getD_eq_getElem?_getD, List.getElem?_eq_getElem (by omega)];exact h _ (List.getElem_mem _)
   omega
theorem esN_few (cs : List Ch) (h : cs.length <= 60) : (stF cs).length <= 900000 /\ (esN (nls (stF cs))).length <= 900000 := by
 have h1 : (psF cs).length <= 2 * cs.length := psK_len cs cs.length;have h2 := stF_len cs;refine ⟨by omega, ?_⟩
 have h3 := esN_le (nls (stF cs)) 120 (fun l hl => by
  unfold nls at hl;obtain ⟨s, hs, rfl⟩ := List.mem_map.1 hl;unfold stF at hs;obtain ⟨a, _, rfl⟩ := List.mem_map.1 hs;rw [List.length_map, List.length_map];have := ndK_len cs (rsK cs cs.length) (psF cs) a (psF cs).length;omega) (nls (stF cs)).length (Nat.le_refl _)
 rw [List.take_length, nls_len] at h3;have : (stF cs).length * 120 <= 120 * 120 := Nat.mul_le_mul_right _ (by omega);omega
noncomputable def stE (cs : List Ch) : Int := if 2048 < (psF cs).length then 14 else ordR (stF cs)
noncomputable def stL (cs : List Ch) : List St := if stE cs = 0 then stF cs else []
def StpP (cs : List Ch) (w : World) (e : Ending) (w' : World) : Prop := ∃ v, e = .returned (.tuple #[v, .int .i64 (stE cs)]) /\ Sl StR 3 w' v (stL cs) /\ Below w.heap.size w w'
end Go.Proofs.YtpnogmicfomofaaGreatDoor.Stp
