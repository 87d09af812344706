import Derived.Test.YtpnogmicfomofaaGreatDoorY13
set_option linter.unusedVariables false
set_option linter.unusedSimpArgs false
namespace Go.Proofs.YtpnogmicfomofaaGreatDoor
section
variable {F : ByteArray -> List ByteArray}
end
theorem hasS_app (x : ByteArray) (l m : List ByteArray) : hasS x (l ++ m) = (hasS x l || hasS x m) := by simp [hasS]
section
variable {F : ByteArray -> List ByteArray} {frm U sn L : List ByteArray}
end
end Go.Proofs.YtpnogmicfomofaaGreatDoor
namespace Go.Proofs.YtpnogmicfomofaaGreatDoor
def cnt (es : List Ed) (out : List ByteArray) (x : ByteArray) : Nat := (es.filter fun e => decide (e.1 = x) && !hasS e.2 out).length
def occ (x : ByteArray) (l : List ByteArray) : Nat := (l.filter fun y => decide (y = x)).length
theorem cnt_snoc (es : List Ed) (e : Ed) (out : List ByteArray) (x : ByteArray) : cnt (es ++ [e]) out x = cnt es out x + if (decide (e.1 = x) && !hasS e.2 out) = true then 1 else 0 := by
 unfold cnt;rw [List.filter_append, List.length_append, List.filter_cons];split <;> simp
theorem cnt_le (es : List Ed) (out : List ByteArray) (x : ByteArray) : cnt es out x <= es.length := List.length_filter_le _ _
theorem cnt_zero {es : List Ed} {out : List ByteArray} {x : ByteArray} : cnt es out x = 0 ↔ ∀ e ∈ es, e.1 = x -> e.2 ∈ out := by
 unfold cnt;rw [List.length_eq_zero_iff, List.filter_eq_nil_iff];constructor
 . intro h e he hx
   have := h e he;simp [hx] at this;exact hasS_iff.1 this
 . intro h e he
   by_cases hx : e.1 = x
   . have := hasS_iff.2 (h e he hx); simp [hx, this]
   . simp [hx]
theorem occ_snoc (x y : ByteArray) (l : List ByteArray) : occ x (l ++ [y]) = occ x l + if y = x then 1 else 0 := by
 unfold occ;rw [List.filter_append, List.length_append]
 by_cases h : y = x <;> simp [List.filter_cons, h]
theorem occ_perm {x : ByteArray} {l m : List ByteArray} (h : l.Perm m) : occ x l = occ x m := (h.filter _).length_eq
theorem occ_take_le (x : ByteArray) (l : List ByteArray) (k : Nat) : occ x (l.take k) <= occ x l := by
 unfold occ;have := ((List.take_sublist k l).filter fun y => decide (y = x)).length_le;exact this
theorem cnt_more (es : List Ed) (out : List ByteArray) (n x : ByteArray) (hn : n ∉ out) : cnt es (out ++ [n]) x + (es.filter fun e => decide (e.1 = x) && decide (e.2 = n)).length = cnt es out x := by
 unfold cnt
 induction es with
 | nil => rfl
 | cons e es ih =>
   rw [List.filter_cons, List.filter_cons, List.filter_cons];have ha : hasS e.2 (out ++ [n]) = (hasS e.2 out || decide (n = e.2)) := by rw [hasS_app]; simp [hasS]
   rw [ha]
   by_cases h1 : e.1 = x
   . by_cases h2 : e.2 = n
     . have h3 : hasS e.2 out = false := by cases h : hasS e.2 out with | false => rfl | true => exact absurd (h2 ▸ hasS_iff.1 h) hn
       simp [h1, h2] at h3 ⊢;rw [h3]; simp; omega
     . have h4 : n ≠ e.2 := fun h => h2 h.symm
       cases h3 : hasS e.2 out <;> simp [h1, h2, h4] <;> omega
   . simp [h1]; exact ih
def tg (es : List Ed) (x : ByteArray) : List ByteArray := (es.filter fun e => decide (e.1 = x)).map (·.2)
theorem occ_tg (es rs : List Ed) (hp : rs.Perm (es.map fun e => (e.2, e.1))) (n x : ByteArray) : occ x (tg rs n) = (es.filter fun e => decide (e.1 = x) && decide (e.2 = n)).length := by
 have h1 : (tg rs n).Perm (tg (es.map fun e => (e.2, e.1)) n) := (hp.filter _).map _;rw [occ_perm h1];unfold occ tg;rw [List.filter_map, List.length_map, List.filter_filter, List.filter_map, List.length_map];rfl
def rdL (ns out : List ByteArray) (v : ByteArray -> Nat) : List ByteArray := ns.filter fun x => !hasS x out && decide (v x = 0)
def decV (v : ByteArray -> Nat) (u : ByteArray) : ByteArray -> Nat := fun x => if x = u then v x - 1 else v x
theorem mem_rdL {ns out : List ByteArray} {v : ByteArray -> Nat} {x : ByteArray} : x ∈ rdL ns out v ↔ x ∈ ns /\ x ∉ out /\ v x = 0 := by
 unfold rdL;rw [List.mem_filter];have : (!hasS x out) = true ↔ x ∉ out := by rw [<- hasS_iff]; simp
 rw [Bool.and_eq_true, this, decide_eq_true_eq]
theorem rdL_asc {ns : List ByteArray} (h : AscB ns) (out : List ByteArray) (v : ByteArray -> Nat) : AscB (rdL ns out v) := asc_filter h _
theorem rd_put {ns out : List ByteArray} {v : ByteArray -> Nat} {u : ByteArray} (h : AscB ns) (hu : u ∈ ns) (ho : u ∉ out) (h1 : v u = 1) : rdL ns out (decV v u) = putL ltB u (rdL ns out v) := by
 have hnu : u ∉ rdL ns out v := fun hh => by have := (mem_rdL.1 hh).2.2; omega
 refine ascB_eq (rdL_asc h _ _) (putL_asc stoB u _ (rdL_asc h _ _) hnu) fun x => ?_;rw [mem_putL, mem_rdL, mem_rdL];unfold decV
 by_cases e : x = u
 . subst e; simp [hu, ho, h1]
 . simp [e]
theorem rd_same {ns out : List ByteArray} {v : ByteArray -> Nat} {u : ByteArray} (h1 : 2 <= v u) : rdL ns out (decV v u) = rdL ns out v := by
 unfold rdL;apply List.filter_congr;intro x _;unfold decV
 by_cases e : x = u
 . subst e
   have a : ¬ v x - 1 = 0 := by omega
   have b : ¬ v x = 0 := by omega
   simp [a, b]
 . simp [e]
theorem rd_pop {ns out : List ByteArray} {v : ByteArray -> Nat} {n : ByteArray} {R : List ByteArray} (h : AscB ns) (hR : rdL ns out v = n :: R) : R = rdL ns (out ++ [n]) v := by
 have ha := rdL_asc h out v;rw [hR] at ha
 have hn : ∀ x ∈ R, x ≠ n := fun x hx e => by
  have := (List.pairwise_cons.1 ha).1 x hx;rw [e, stoB.irr] at this; cases this
 refine ascB_eq (List.pairwise_cons.1 ha).2 (rdL_asc h _ _) fun x => ?_;have hx : x ∈ rdL ns out v ↔ x ∈ n :: R := by rw [hR]
 rw [mem_rdL] at hx;rw [mem_rdL, List.mem_append, List.mem_singleton];constructor
 . intro hm
   obtain ⟨h1, h2, h3⟩ := hx.2 (List.mem_cons_of_mem _ hm);exact ⟨h1, fun hh => hh.elim h2 (hn x hm), h3⟩
 . rintro ⟨h1, h2, h3⟩
   rcases List.mem_cons.1 (hx.1 ⟨h1, fun hh => h2 (Or.inl hh), h3⟩) with e | e
   . exact absurd (Or.inr e) h2
   . exact e
theorem putL_insert {α : Type} {lt : α -> α -> Bool} (x : α) (l : List α) : l.insertIdx (lowL lt x l) x = putL lt x l := by
 have key : ∀ (l : List α) (i : Nat), i <= l.length -> l.insertIdx i x = l.take i ++ x :: l.drop i := by
  intro l
  induction l with
  | nil =>
    intro i hi;have h0 : i = 0 := by simpa using hi
    subst h0;rfl
  | cons y l ih =>
    intro i hi;cases i with
    | zero => rfl
    | succ i => simp [ih i (by simpa using hi)]
 exact key l _ (lowL_le x l)
def pick (ns : List ByteArray) (es : List Ed) (out : List ByteArray) : Option ByteArray := ns.find? fun x => !hasS x out && decide (cnt es out x = 0)
def ordF (ns : List ByteArray) (es : List Ed) : Nat -> List ByteArray -> List ByteArray
 | 0, out => out
 | n + 1, out => match pick ns es out with
   | none => out
   | some x => ordF ns es n (out ++ [x])
theorem pick_head (ns : List ByteArray) (es : List Ed) (out : List ByteArray) : pick ns es out = (rdL ns out (cnt es out)).head? := by
 unfold pick rdL;rw [List.head?_filter]
structure Lst (ns : List ByteArray) (es : List Ed) (out : List ByteArray) : Prop where
 nod : out.Nodup
 sub : ∀ x ∈ out, x ∈ ns
 cls : ∀ e ∈ es, e.1 ∈ out -> e.2 ∈ out
 top : ordF ns es (ns.length - out.length) out = ordF ns es ns.length []
theorem Lst.start (ns : List ByteArray) (es : List Ed) : Lst ns es [] := ⟨List.nodup_nil, by simp, by simp, rfl⟩
theorem Lst.len {ns : List ByteArray} {es : List Ed} {out : List ByteArray} (h : Lst ns es out) : out.length <= ns.length := nodup_len h.nod h.sub
theorem Lst.more {ns : List ByteArray} {es : List Ed} {out R : List ByteArray} {n : ByteArray} (h : Lst ns es out) (hR : rdL ns out (cnt es out) = n :: R) : Lst ns es (out ++ [n]) /\ n ∈ ns /\ n ∉ out := by
 have hm : n ∈ rdL ns out (cnt es out) := by rw [hR]; simp
 obtain ⟨h1, h2, h3⟩ := mem_rdL.1 hm;have hnod : (out ++ [n]).Nodup := List.nodup_append.2 ⟨h.nod, by simp, fun a ha b hb => by simp at hb; subst hb; rintro rfl; exact h2 ha⟩
 have hsub : ∀ x ∈ out ++ [n], x ∈ ns := fun x hx => by
  rw [List.mem_append, List.mem_singleton] at hx;rcases hx with hx | rfl
  . exact h.sub x hx
  . exact h1
 have hl := nodup_len hnod hsub;refine ⟨⟨hnod, hsub, fun e he hx => ?_, ?_⟩, h1, h2⟩
 . rw [List.mem_append, List.mem_singleton] at hx ⊢
   rcases hx with hx | hx
   . exact Or.inl (h.cls e he hx)
   . exact Or.inl (cnt_zero.1 h3 e he hx)
 . rw [<- h.top]
   have e1 : ns.length - out.length = (ns.length - (out ++ [n]).length) + 1 := by simp at hl ⊢; omega
   rw [e1, ordF, pick_head, hR];rfl
theorem Lst.fin {ns : List ByteArray} {es : List Ed} {out : List ByteArray} (h : Lst ns es out) (hR : rdL ns out (cnt es out) = []) : ordF ns es ns.length [] = out := by
 rw [<- h.top];cases ns.length - out.length with
 | zero => rfl
 | succ k => rw [ordF, pick_head, hR]; rfl
end Go.Proofs.YtpnogmicfomofaaGreatDoor
namespace Go.Proofs.YtpnogmicfomofaaGreatDoor
open Go.RowKit Go.Sort Go.Lib Go.Maps
open Go.Lib (hid)
structure SetM (w : World) (b : Nat) (p : ByteArray -> Bool) : Prop where
 ex : ∃ n c f, OwnF w Tryz.prog 9 strLit b n c f /\ ∀ x, (f x).getD (.bool false) = .bool (p x)
theorem SetM.below {w w' : World} {b : Nat} {p : ByteArray -> Bool} (h : SetM w b p) (hb : Below w.heap.size w w') : SetM w' b p := by
 obtain ⟨n, c, f, h1, h2⟩ := h.ex;exact ⟨n, c, f, h1.below' hb, h2⟩
theorem SetM.look {w : World} {b : Nat} {p : ByteArray -> Bool} (h : SetM w b p) (x : ByteArray) (hx : x.size <= maxLen) : (Instr.lookup 96 (.map (some b)) (.string x) false).run Tryz.prog w = .ok (.bool (p x)) w := by
 obtain ⟨n, c, f, h1, h2⟩ := h.ex;have := h1.look (strT Tryz.underlying9) Tryz.underlying96 (zbool w) x hx;rw [h2] at this;exact this
theorem setM_of {w : World} {b n c : Nat} {l : List ByteArray} (h : OwnF w Tryz.prog 9 strLit b n c (setF l)) : SetM w b (fun x => hasS x l) :=
 ⟨n, c, _, h, fun x => by unfold setF; cases hasS x l <;> rfl⟩
theorem zint (w : World) : (zeroValue 3).run Tryz.prog w = .ok (.int .i64 0) w := by kernel_rfl
end Go.Proofs.YtpnogmicfomofaaGreatDoor
namespace Go.Proofs.YtpnogmicfomofaaGreatDoor
open Go.RowKit Go.Sort Go.Lib Go.Maps
open Go.Lib (hid)
theorem OwnS.setBelow {B : Nat} {w : World} {v : Value} {xs : List ByteArray} (h : OwnS B w v xs) {a : Addr} (ha : a.block < B) (u : Value) : OwnS B (w.setCell a u) v xs := ⟨ownsRow_setCell_below h.1 ha u, h.2⟩
theorem OwnE.setBelow {B : Nat} {w : World} {v : Value} {xs : List Ed} (h : OwnE B w v xs) {a : Addr} (ha : a.block < B) (u : Value) : OwnE B (w.setCell a u) v xs := ⟨ownsRow_setCell_below h.1 ha u, h.2⟩
def swapE (e : Ed) : Ed := (e.2, e.1)
theorem own_block {w w' : World} {row : Option Nat} {b : Nat} {o : Obj} (hg : w.grownBy w' row) (hr : ∀ g, row = some g -> g ≠ b) (h : w.heap[b]? = some o) : w'.heap[b]? = some o :=
 (hg.block b (lt_of_block h) (fun e => hr b e.symm rfl)).trans h
theorem cellv {w : World} {b : Nat} {C : Array Value} {E : TypeId} {fr : Nat × Nat} (h : w.heap[b]? = some (.cells C E fr)) (o : Nat) {v : Value} (hv : C[o]? = some v) : w.cell? ⟨b, o, none⟩ = some v := (cell_of h o).trans hv
def RevP (ns : List ByteArray) (es : List Ed) (w : World) (e : Ending) (w' : World) : Prop :=
 ∃ vn ve rs, e = .returned (.agg #[vn, ve]) /\ Sl StrR 1 w' vn ns /\ Sl EdR 2 w' ve rs /\ rs.Perm (es.map swapE) /\ (rs.Pairwise fun x y => lessE y x = false) /\ Below w.heap.size w w'
set_option maxRecDepth 100000 in
set_option maxHeartbeats 1000000 in
theorem reverse_any (vn : Value) (ns : List ByteArray) (es : List Ed) (ve : Value) (w : World) (hN : Sl StrR 1 w vn ns) (hS : Sl EdR 2 w ve es) (hn : es.length <= 1000000) (hnn : ns.length <= 1000000) :
  Calls Tryz.prog 51 #[.agg #[vn, ve]] w (RevP ns es w) := by
 obtain ⟨r, c, rfl, _⟩ := id hS;obtain ⟨rn, cn, rfl, _⟩ := id hN;obtain ⟨_, hl, hm⟩ := sl_len hS;obtain ⟨_, hl1, hm1⟩ := sl_len hN;have HE := hid (fun (W : World) (hW : Below w.heap.size w W) => ed_at (hS.below edR_mono hW));have HNs := hid (fun (W : World) (hW : Below w.heap.size w W) => hN.below strR_mono hW);clear hS hN;have hB0 : Below w.heap.size w ((w.alloc (.cells #[.slice rn ns.length cn, .slice r es.length c] 66)).alloc (.cells #[.slice none 0 0, .slice none 0 0] 66)) := ((Below.refl _ _).alloc (Nat.le_refl _) _).alloc (by simp) _;have HB0 := hid hB0;clear hB0;have HC1 := hid (show ((w.alloc (.cells #[.slice rn ns.length cn, .slice r es.length c] 66)).alloc (.cells #[.slice none 0 0, .slice none 0 0] 66)).heap[w.heap.size]? = some (.cells #[.slice rn ns.length cn, .slice r es.length c] 66 (0, 0)) from ((Below.heap_alloc _ _ _ (by simp)).trans (MapKept.heap_alloc w _).1));have HC2 := hid (show ((w.alloc (.cells #[.slice rn ns.length cn, .slice r es.length c] 66)).alloc (.cells #[.slice none 0 0, .slice none 0 0] 66)).heap[w.heap.size + 1]? = some (.cells #[.slice none 0 0, .slice none 0 0] 66 (0, 0)) from (congrArg _ (by simp)).trans (MapKept.heap_alloc _ _).1);go_enter Tryz.func51, Tryz.ntmps51;go_wp2_with fail
 refine (clone_s ns _ _ (HNs.out _ HB0.out) hnn).mono ?_;rintro e w1 ⟨vn2, rfl, ho1, hb1⟩;have hsz : ((w.alloc (.cells #[.slice rn ns.length cn, .slice r es.length c] 66)).alloc (.cells #[.slice none 0 0, .slice none 0 0] 66)).heap.size = w.heap.size + 2 := by simp
 have hz1 : w.heap.size + 2 <= w1.heap.size := by have := hb1.size; rw [hsz] at this; exact this
 rw [hsz] at ho1 hb1;have D1 := hid ((hb1.block w.heap.size (by omega)).trans HC1.out);have D2 := hid ((hb1.block (w.heap.size + 1) (by omega)).trans HC2.out);have O1 := hid ho1;have B1 := hid (HB0.out.trans (hb1.mono (by omega)));obtain ⟨rv, cv, rfl, hcv1, hcv2⟩ := ho1.form;clear HC1 HC2 ho1 hb1 hsz HB0;have q1 := cellv D1.out 1 rfl;have HW := hid (show Below w1.heap.size w1 (w1.alloc (.cells #[.slice rv ns.length cv, .slice none 0 0] 66)) from (Below.refl _ _).alloc (Nat.le_refl _) _);have q2 := bget HW.out q1;have HWc := hid (show (w1.alloc (.cells #[.slice rv ns.length cv, .slice none 0 0] 66)).heap[w1.heap.size]? = some (.cells #[.slice rv ns.length cv, .slice none 0 0] 66 (0, 0)) from (MapKept.heap_alloc w1 _).1);go_wp2
 go_loopw [13] (fun i wr => ∃ (k : Nat) (vo : Value), k <= es.length /\ i = .int .i64 k /\ Hid (Below w1.heap.size w1 wr) /\ w1.heap.size + 1 <= wr.heap.size /\ Hid (wr.heap[w1.heap.size]? = some (.cells #[.slice rv ns.length cv, vo] 66 (0, 0))) /\ Hid (OwnE (w1.heap.size + 1) wr vo ((es.take k).map swapE))) (fun i _ => es.length - (intOf i).toNat)
 case atStart => exact ⟨0, _, by omega, rfl, HW, by simp, HWc, ownE_nil _ _⟩
 case round =>
  obtain ⟨k, vo, hk, rfl, HB, hz, HC, HO⟩ := hrel;have hbw := B1.out.trans (HB.out.mono (by omega));obtain ⟨r2, c2, rfl, hc21, hc22⟩ := HO.out.form
  by_cases hlt : k < es.length
  . obtain ⟨b, off, rfl, hb, g0, g1, hs0, hs1⟩ := HE.out _ hbw k hlt
    have HT := hid (show (es.take (k + 1)).map swapE = (es.take k).map swapE ++ [swapE es[k]] by rw [List.take_succ_eq_append_getElem hlt, List.map_append]; rfl);have HLn := hid (show ((es.take k).map swapE).length + 1 <= 1000000 by simp; omega);clear HE hbw;generalize es[k] = y at *;obtain ⟨y1, y2⟩ := y;have HS := hid (show y2.size <= maxLen /\ y1.size <= maxLen from ⟨hs1, hs0⟩);clear hs0 hs1;have c0 : (wr.alloc (.cells #[.string y1, .string y2] 64)).cell? ⟨wr.heap.size, 0, none⟩ = some (.string y1) := cell_at rfl rfl;have c1 : (wr.alloc (.cells #[.string y1, .string y2] 64)).cell? ⟨wr.heap.size, 1, none⟩ = some (.string y2) := cell_at rfl rfl;have HCx := hid (show (wr.alloc (.cells #[.string y1, .string y2] 64)).heap[w1.heap.size]? = some (.cells #[.slice rv ns.length cv, .slice r2 ((es.take k).map swapE).length c2] 66 (0, 0)) from (Below.heap_alloc _ _ _ (by omega)).trans HC.out);have c2x := cellv HCx.out 1 rfl;have HOx := hid ((HO.out.below ((Below.refl _ _).alloc (Nat.le_refl _) (.cells #[.string y1, .string y2] 64))).below ((Below.refl _ _).alloc (Nat.le_refl _) (.cells #[.string y2, .string y1] 64)));have HCy := hid (show ((wr.alloc (.cells #[.string y1, .string y2] 64)).alloc (.cells #[.string y2, .string y1] 64)).heap[w1.heap.size]? = some (.cells #[.slice rv ns.length cv, .slice r2 ((es.take k).map swapE).length c2] 66 (0, 0)) from (Below.heap_alloc _ _ _ (by simp; omega)).trans HCx.out);have HBy := hid (show Below w1.heap.size w1 ((wr.alloc (.cells #[.string y1, .string y2] 64)).alloc (.cells #[.string y2, .string y1] 64)) from (HB.out.alloc HB.out.size _).alloc (by simp; omega) _);have HL := hid HO.out.lt;generalize hF0 : (es.take k).map swapE = F0 at *;clear hF0
    go_wp2_with (at_builtin
                 refine app_ed rfl _ _ rfl (w1.heap.size + 1) _ F0 rfl HOx.out (wr.heap.size + 1) 1 (y2, y1) rfl (fr := (0, 0)) (by exact (congrArg _ (by simp)).trans (MapKept.heap_alloc _ _).1) HS.out HLn.out (by simp; omega) (wr.heap.size + 1 + 1) (by simp) ?_;intro g cap w3 hm3;have hne : ∀ g, (Value.slice r2 F0.length c2).ownBlock = some g -> g ≠ w1.heap.size := fun g hg => by have := HL.out g hg; omega
                 have HC3 := hid (own_block hm3.2.1 hne HCy.out);have z1 := cellv HC3.out 1 rfl;have f1 := frozen_of HC3.out 1;have HM3 := hid hm3;clear hm3 hne)
    go_round
    case rel =>
     obtain ⟨m1, m2, m3, m4⟩ := HM3.out;rw [List.length_append, List.length_singleton] at m1;refine ⟨k + 1, _, by omega, by go_num, (Below.grown HBy.out m2 HBy.out.size (fun g hg => by have := (HL.out g hg).1; omega)).setCell (Nat.le_refl _) _, ?_, heap_setCell_at HC3.out, ?_⟩
     . have := m2.size; simp at this ⊢; omega
     . rw [HT.out]
       exact m1.setBelow (by simp) _
    case measure => simp [intOf]; omega
  . have hke : k = es.length := by omega
    have HK := hid hke;have HLn := hid (show ((es.take k).map swapE).length <= 1000000 by simp; omega);have HL := hid HO.out.lt;have D2r := hid ((HB.out.block (w.heap.size + 1) (by omega)).trans D2.out);have c2x := cellv HC.out 1 rfl;have HOn := hid (O1.out.below HB.out);have HBw := hid hbw;clear hke HE hbw;generalize hF0 : (es.take k).map swapE = F0 at *;have HF0 := hid hF0;clear hF0
    go_wp2_with (go_at_call 76
                 refine (sort_ed (w1.heap.size + 1) _ F0 _ HO.out HLn.out).mono ?_;rintro e w4 ⟨rfl, ds, h1, h2, h3, h4⟩;have hne : ∀ j, j < w1.heap.size + 1 -> ∀ g, (Value.slice r2 F0.length c2).ownBlock = some g -> g ≠ j := fun j hj g hg => by have := HL.out g hg; omega
                 have E1 := hid (own_block h4 (hne _ (by omega)) HC.out);have E2 := hid (own_block h4 (hne _ (by omega)) D2r.out);have z0 := cellv E1.out 0 rfl;have z1 := cellv E1.out 1 rfl;have t0 := cellv E2.out 0 rfl;have t1 := cellv E2.out 1 rfl;have f0 := frozen_of E2.out 0;have f1 := frozen_of E2.out 1;have H1 := hid h1;have H2 := hid h2;have H3 := hid h3;have H4 := hid h4;clear h1 h2 h3 h4 hne)
    have hk2 := HK.out;subst hk2;have hf := HF0.out;rw [List.take_length] at hf;have hB4 := (Below.grown HBw.out H4.out HBw.out.size (fun g hg => by have := (HL.out g hg).1; omega));have hO4 := HOn.out.kept H4.out (fun g hg e => by have h1 := (HL.out g e).1; have h2 := (O1.out.lt g hg).2; omega);refine bodyPost_ret (v := .agg #[.slice rv ns.length cv, .slice r2 F0.length c2]) (by simp [results, Tryz.results51, go_sem, t0, t1]) rfl ⟨_, _, ds, rfl, ((hO4.setBelow (by simp) _).setBelow (by simp) _).sl, ?_, by rw [hf]; exact H1.out, H2.out, (hB4.setCell (by simp) _).setCell (by simp) _⟩;have := ((H3.out.setBelow (a := ⟨w.heap.size + 1, 0, none⟩) (by simp; omega) (.slice rv ns.length cv)).setBelow (a := ⟨w.heap.size + 1, 1, none⟩) (by simp; omega) (.slice r2 F0.length c2)).sl;exact this
end Go.Proofs.YtpnogmicfomofaaGreatDoor
namespace Go.Proofs.YtpnogmicfomofaaGreatDoor
open Go.RowKit Go.Sort Go.Lib Go.Maps
open Go.Lib (hid)
theorem grown_any {w w' : World} (h : w.grownBy w' none) (row : Option Nat) : w.grownBy w' row := ⟨h.os, h.tape, h.output, h.size, fun k hk _ => h.block k hk (by simp)⟩
end Go.Proofs.YtpnogmicfomofaaGreatDoor
namespace Go.Proofs.YtpnogmicfomofaaGreatDoor
open Go.RowKit Go.Sort Go.Lib Go.Maps
open Go.Lib (hid)
theorem hasS_false {x : ByteArray} {l : List ByteArray} (h : x ∉ l) : hasS x l = false := by
 cases hh : hasS x l with
 | false => rfl
 | true => exact absurd (hasS_iff.1 hh) h
end Go.Proofs.YtpnogmicfomofaaGreatDoor
namespace Go.Proofs.YtpnogmicfomofaaGreatDoor
open Go.RowKit Go.Sort Go.Lib Go.Maps
open Go.Lib (hid)
theorem grown_set (w : World) (a : Addr) (u : Value) : w.grownBy (w.setCell a u) (some a.block) := ⟨rfl, rfl, rfl, by simp [World.setCell], fun k hk hne => Below.heap_setCell _ _ _ _ (fun e => hne (by rw [e]))⟩
theorem OwnS.setNe {B : Nat} {w : World} {v : Value} {xs : List ByteArray} (h : OwnS B w v xs) {a : Addr} (ha : ∀ g, v.ownBlock = some g -> g ≠ a.block) (u : Value) : OwnS B (w.setCell a u) v xs := h.kept (grown_set w a u) fun g hg e => by cases e; exact ha _ hg rfl
def endsIn (ns : List ByteArray) (l : List Ed) : Bool := l.all fun e => hasS e.1 ns && hasS e.2 ns
def ofG (nodes : List ByteArray) (l : List Ed) : List ByteArray × List Ed × Int :=
 if 2048 < (canB nodes).length then ([], [], 14) else if endsIn (canB nodes) l = true then (canB nodes, canE l, 0) else ([], [], 9)
def GrP (x : List ByteArray × List Ed × Int) (w : World) (e : Ending) (w' : World) : Prop :=
 ∃ vn ve, e = .returned (.tuple #[.agg #[vn, ve], .int .i64 x.2.2]) /\ Sl StrR 1 w' vn x.1 /\ Sl EdR 2 w' ve x.2.1 /\ Below w.heap.size w w'
theorem endsIn_take {ns : List ByteArray} {l : List Ed} {k : Nat} (hk : k < l.length) : endsIn ns (l.take (k + 1)) = (endsIn ns (l.take k) && (hasS (l[k]).1 ns && hasS (l[k]).2 ns)) := by
 unfold endsIn;rw [List.take_succ_eq_append_getElem hk, List.all_append]; simp
theorem endsIn_no {ns : List ByteArray} {l : List Ed} {k : Nat} (hk : k < l.length) (h : (hasS (l[k]).1 ns && hasS (l[k]).2 ns) = false) : endsIn ns l = false := by
 unfold endsIn;rw [List.all_eq_false];exact ⟨_, List.getElem_mem hk, by rw [h]; simp⟩
theorem sl_nilS (w : World) : Sl StrR 1 w (.slice none 0 0) [] := (ownS_nil 0 w).sl
theorem sl_nilE (w : World) : Sl EdR 2 w (.slice none 0 0) [] := (ownE_nil 0 w).sl
set_option maxRecDepth 100000 in
set_option maxHeartbeats 2000000 in
theorem of_any (nodes : List ByteArray) (l : List Ed) (vn ve : Value) (w : World) (hN : Sl StrR 1 w vn nodes) (hS : Sl EdR 2 w ve l) (hnn : nodes.length <= 900000) (hn : l.length <= 900000) :
  Calls Tryz.prog 26 #[vn, ve] w (GrP (ofG nodes l) w) := by
 obtain ⟨r, c, rfl, _⟩ := id hS;obtain ⟨rn, cn, rfl, _⟩ := id hN;obtain ⟨_, hl, hm⟩ := sl_len hS;obtain ⟨_, hl1, hm1⟩ := sl_len hN;have HE := hid (fun (W : World) (hW : Below w.heap.size w W) => ed_at (hS.below edR_mono hW));have HEs := hid (fun (W : World) (hW : Below w.heap.size w W) => hS.below edR_mono hW);have HNs := hid (fun (W : World) (hW : Below w.heap.size w W) => hN.below strR_mono hW);clear hS hN;have HB0 := hid (show Below w.heap.size w (w.alloc (.cells #[.slice none 0 0, .slice none 0 0] 66)) from (Below.refl _ _).alloc (Nat.le_refl _) _);have HC4 := hid (show (w.alloc (.cells #[.slice none 0 0, .slice none 0 0] 66)).heap[w.heap.size]? = some (.cells #[.slice none 0 0, .slice none 0 0] 66 (0, 0)) from (MapKept.heap_alloc w _).1);go_enter Tryz.func26, Tryz.ntmps26;go_wp2_with fail
 refine (clone_s nodes _ _ (HNs.out _ HB0.out) (by omega)).mono ?_;rintro e w1 ⟨v2, rfl, ho1, hb1⟩;have hsz : (w.alloc (.cells #[.slice none 0 0, .slice none 0 0] 66)).heap.size = w.heap.size + 1 := by simp
 have hz1 : w.heap.size + 1 <= w1.heap.size := by have := hb1.size; rw [hsz] at this; exact this
 rw [hsz] at ho1 hb1;have D4 := hid ((hb1.block w.heap.size (by omega)).trans HC4.out);have B1 := hid (HB0.out.trans (hb1.mono (by omega)));obtain ⟨r2, c2, rfl, hc21, hc22⟩ := ho1.form;have HL2 := hid ho1.lt;have hW1 : Below w1.heap.size w1 (w1.alloc (.cells #[.slice r2 nodes.length c2, .slice none 0 0] 66)) := (Below.refl _ _).alloc (Nat.le_refl _) _;have O1 := hid (ho1.below hW1);have E4 := hid ((hW1.block w.heap.size (by omega)).trans D4.out);have E6 := hid (show (w1.alloc (.cells #[.slice r2 nodes.length c2, .slice none 0 0] 66)).heap[w1.heap.size]? = some (.cells #[.slice r2 nodes.length c2, .slice none 0 0] 66 (0, 0)) from (MapKept.heap_alloc w1 _).1);have B2 := hid (B1.out.trans (hW1.mono (by omega)));have hz2 : w1.heap.size + 1 = (w1.alloc (.cells #[.slice r2 nodes.length c2, .slice none 0 0] 66)).heap.size := by simp
 have HZ2 := hid hz2;clear ho1 hb1 hsz hW1 hz2 D4 HC4 HB0 B1;have q0 := cellv E6.out 0 rfl
 go_wp2_with (go_at_call 46
              refine (sort_str (w.heap.size + 1) _ nodes _ O1.out (by omega)).mono ?_;rintro e w3 ⟨rfl, ys, hp, hs, ho3, hg3⟩;have hne : ∀ j, (j = w.heap.size ∨ j = w1.heap.size) -> ∀ g, (Value.slice r2 nodes.length c2).ownBlock = some g -> g ≠ j := fun j hj g hg => by have := HL2.out g hg; omega
              have F4 := hid (own_block hg3 (hne _ (Or.inl rfl)) E4.out);have F6 := hid (own_block hg3 (hne _ (Or.inr rfl)) E6.out);have q1 := cellv F6.out 0 rfl;have O3 := hid ho3;have HP := hid hp;have HSr := hid hs;have B3 := hid (Below.grown B2.out hg3 B2.out.size (fun g hg => by have := (HL2.out g hg).1; omega));have hz3 : w1.heap.size + 1 <= w3.heap.size := by have h1 := hg3.size; have h2 := HZ2.out; omega
              clear hp hs ho3 hg3 hne)
 have HYl := hid (show ys.length <= 1000000 by rw [HP.out.length_eq]; omega);refine (compact_str (w.heap.size + 1) _ ys _ O3.out HSr.out HYl.out).mono ?_;rintro e w4 ⟨v5, rfl, ho4, hg4, hob⟩;have hcan : canB ys = canB nodes := ascB_eq (canB_asc _) (canB_asc _) fun x => by rw [mem_canB, mem_canB, HP.out.mem_iff]
 rw [hcan] at ho4;have HOF := hid (show ofG nodes l = if 2048 < (canB nodes).length then ([], [], 14) else if endsIn (canB nodes) l = true then (canB nodes, canE l, 0) else ([], [], 9) from rfl);have hNl : (canB nodes).length <= 900000 := Nat.le_trans (canB_len nodes) hnn;generalize hofg : ofG nodes l = R at *;generalize canB nodes = N at *;obtain ⟨r5, c5, rfl, hc51, hc52⟩ := ho4.form;have hne : ∀ j, (j = w.heap.size ∨ j = w1.heap.size) -> ∀ g, (Value.slice r2 nodes.length c2).ownBlock = some g -> g ≠ j := fun j hj g hg => by have := HL2.out g hg; omega
 have G4 := hid (own_block hg4 (hne _ (Or.inl rfl)) F4.out);have G6 := hid (own_block hg4 (hne _ (Or.inr rfl)) F6.out);have B4 := hid (Below.grown B3.out hg4 B3.out.size (fun g hg => by have := (HL2.out g hg).1; omega));have hz4 : w1.heap.size + 1 <= w4.heap.size := by have := hg4.size; omega
 have hL5 : ∀ g, (Value.slice r5 N.length c5).ownBlock = some g -> w.heap.size + 1 <= g /\ g < w1.heap.size := fun g hg => by
  rw [hob] at hg; exact HL2.out g hg
 have HL5 := hid hL5;have O4 := hid ho4;have y0 := cellv G6.out 0 rfl;have y1 := cellv G6.out 1 rfl;have yf := frozen_of G6.out 0;have HOFG := hid hofg;clear hcan ho4 hg4 hob hne hL5 HP HSr O3 F4 F6 E4 E6 O1 HYl hofg;have O5 := hid (O4.out.setNe (a := ⟨w1.heap.size, 0, none⟩) (fun g hg => by have := HL5.out g hg; simp only; omega) (.slice r5 N.length c5));have K6 := hid (heap_setCell_at (o := 0) (v := .slice r5 N.length c5) G6.out);have K4 := hid (show (w4.setCell ⟨w1.heap.size, 0, none⟩ (.slice r5 N.length c5)).heap[w.heap.size]? = _ from (Below.heap_setCell _ _ _ _ (by simp only; omega)).trans G4.out);have B5 := hid (B4.out.setCell (p := ⟨w1.heap.size, 0, none⟩) (by simp only; omega) (.slice r5 N.length c5));have x0 := cellv K6.out 0 rfl;have x1 := cellv K6.out 1 rfl;have xf := frozen_of K6.out 1;have u0 := cellv K4.out 0 rfl;have u1 := cellv K4.out 1 rfl;have uf0 := frozen_of K4.out 0;have uf1 := frozen_of K4.out 1
 by_cases hlim : 2048 < N.length
 . have HR := hid (HOF.out.trans (if_pos hlim))
   have hlz : (2048 : Int) < (N.length : Int) := by omega
   go_wp2
   rw [HR.out];exact bodyPost_ret (v := .tuple #[.agg #[.slice none 0 0, .slice none 0 0], .int .i64 14]) (by simp [results, Tryz.results26, go_sem, u0, u1]) rfl ⟨_, _, rfl, sl_nilS _, sl_nilE _, (B5.out.setCell (p := ⟨w.heap.size, 0, none⟩) (Nat.le_refl _) _).setCell (p := ⟨w.heap.size, 1, none⟩) (Nat.le_refl _) _⟩
 . have HOF2 := hid (HOF.out.trans (if_neg hlim))
   have hlz : ¬ (2048 : Int) < (N.length : Int) := by omega
   clear hlim HOF;go_wp2_with fail
   have hz5 : w1.heap.size + 1 <= (w4.setCell ⟨w1.heap.size, 0, none⟩ (.slice r5 N.length c5)).heap.size := by simp [World.setCell]; omega
   generalize (w4.setCell ⟨w1.heap.size, 0, none⟩ (.slice r5 N.length c5)) = W5 at *;refine (set_any N _ W5 O5.out.sl (by omega)).mono ?_;rintro e w6 ⟨rfl, ⟨n6, c6, hn6, ho6⟩, hb6⟩;have M6 := hid (fun (W : World) (hW : Below w6.heap.size w6 W) => ((setM_of ho6).below hW).look);have hz6 := hb6.size;have B6 := hid (B5.out.trans (hb6.mono B5.out.size));have O6 := hid (O5.out.below hb6);have P6 := hid ((hb6.block w1.heap.size (by omega)).trans K6.out);have P4 := hid ((hb6.block w.heap.size (by omega)).trans K4.out);clear ho6 hb6 K6 K4 O5 B5 x0 x1 xf u0 u1 uf0 uf1 y0 y1 yf O4 G4 G6 B4 q0 q1;go_wp2
   go_loopw [30] (fun i wr => ∃ k : Nat, k <= l.length /\ i = .int .i64 k /\ Below w6.heap.size w6 wr /\ Hid (endsIn N (l.take k) = true)) (fun i _ => l.length - (intOf i).toNat)
   case atStart => exact ⟨0, by omega, rfl, Below.refl _ _, hid rfl⟩
   case round =>
    obtain ⟨k, hk, rfl, hbl, HEn⟩ := hrel;have hbw := B6.out.trans (hbl.mono B6.out.size);have HBL := hid hbl;have HBW := hid hbw;have Q6 := hid ((hbl.block w1.heap.size (by omega)).trans P6.out);have Q4 := hid ((hbl.block w.heap.size (by omega)).trans P4.out);have hzr : w1.heap.size + 1 <= wr.heap.size := by have := hbl.size; omega
    by_cases hlt : k < l.length
    . obtain ⟨b, off, rfl, hb, g0, g1, hs0, hs1⟩ := HE.out _ hbw k hlt
      have HT := hid (endsIn_take (ns := N) hlt);have HNo := hid (endsIn_no (ns := N) hlt);have hW1 : Below wr.heap.size wr (wr.alloc (.cells #[.string (l[k]).1, .string (l[k]).2] 64)) := (Below.refl _ _).alloc (Nat.le_refl _) _;have L1 := M6.out _ (hbl.trans (hW1.mono hbl.size)) (l[k]).1 hs0;have L2 := M6.out _ (hbl.trans (hW1.mono hbl.size)) (l[k]).2 hs1;have R4 := hid ((Below.heap_alloc wr (.cells #[.string (l[k]).1, .string (l[k]).2] 64) w.heap.size (by omega)).trans Q4.out);have BW1 := hid (hbw.trans (hW1.mono hbw.size));have BL1 := hid (hbl.trans (hW1.mono hbl.size));clear HE hbl hbw hW1 hs0 hs1;generalize l[k] = y at *;obtain ⟨y1, y2⟩ := y;simp only at L1 L2 HT HNo g0 g1 R4 BW1 BL1;have c0 : (wr.alloc (.cells #[.string y1, .string y2] 64)).cell? ⟨wr.heap.size, 0, none⟩ = some (.string y1) := cell_at rfl rfl;have c1 : (wr.alloc (.cells #[.string y1, .string y2] 64)).cell? ⟨wr.heap.size, 1, none⟩ = some (.string y2) := cell_at rfl rfl;have u0 := cellv R4.out 0 rfl;have u1 := cellv R4.out 1 rfl;have uf0 := frozen_of R4.out 0;have uf1 := frozen_of R4.out 1;generalize hasS y1 N = p1 at *;generalize hasS y2 N = p2 at *;cases p1
      case false =>
       have HR := hid (HOF2.out.trans (if_neg (by rw [HNo.out rfl]; simp)));go_wp2
       rw [HR.out];exact bodyPost_ret (v := .tuple #[.agg #[.slice none 0 0, .slice none 0 0], .int .i64 9]) (by simp [results, Tryz.results26, go_sem, u0, u1]) rfl ⟨_, _, rfl, sl_nilS _, sl_nilE _, (BW1.out.setCell (p := ⟨w.heap.size, 0, none⟩) (Nat.le_refl _) _).setCell (p := ⟨w.heap.size, 1, none⟩) (Nat.le_refl _) _⟩
      case true =>
       cases p2
       case false =>
        have HR := hid (HOF2.out.trans (if_neg (by rw [HNo.out rfl]; simp)));go_wp2
        rw [HR.out];exact bodyPost_ret (v := .tuple #[.agg #[.slice none 0 0, .slice none 0 0], .int .i64 9]) (by simp [results, Tryz.results26, go_sem, u0, u1]) rfl ⟨_, _, rfl, sl_nilS _, sl_nilE _, (BW1.out.setCell (p := ⟨w.heap.size, 0, none⟩) (Nat.le_refl _) _).setCell (p := ⟨w.heap.size, 1, none⟩) (Nat.le_refl _) _⟩
       case true =>
        go_wp2
        go_round
        case rel => exact ⟨k + 1, by omega, by go_num, BL1.out, hid (by rw [HT.out, HEn.out]; rfl)⟩
        case measure => simp [intOf]; omega
    . have hke : k = l.length := by omega
      have HR := hid (HOF2.out.trans (if_pos (by have := HEn.out; rwa [hke, List.take_length] at this)));have HED := hid (edges_any l _ wr (HEs.out _ hbw) (by omega));have O7 := hid (O6.out.below hbl);clear hke HE hbl hbw;go_wp2_with fail
      refine HED.out.mono ?_;rintro e w8 ⟨v8, rfl, ho8, hb8⟩;obtain ⟨r8, c8, rfl, hc81, hc82⟩ := ho8.form;have O8 := hid ho8;have N8 := hid (O7.out.below hb8);have S6 := hid ((hb8.block w1.heap.size (by omega)).trans Q6.out);have S4 := hid ((hb8.block w.heap.size (by omega)).trans Q4.out);have B8 := hid (HBW.out.trans (hb8.mono HBW.out.size));have hz8 := hb8.size;have z0 := cellv S6.out 0 rfl;have z1 := cellv S6.out 1 rfl;have zf := frozen_of S6.out 1;have u0 := cellv S4.out 0 rfl;have u1 := cellv S4.out 1 rfl;have uf0 := frozen_of S4.out 0;have uf1 := frozen_of S4.out 1;clear ho8 hb8;go_wp2
      rw [HR.out];have hN := ((N8.out.setNe (a := ⟨w1.heap.size, 1, none⟩) (fun g hg => by have := HL5.out g hg; simp only; omega) (.slice r8 (canE l).length c8)).setNe (a := ⟨w.heap.size, 0, none⟩) (fun g hg => by have := HL5.out g hg; simp only; omega) (.slice r5 N.length c5)).setNe (a := ⟨w.heap.size, 1, none⟩) (fun g hg => by have := HL5.out g hg; simp only; omega) (.slice r8 (canE l).length c8);have hE := ((O8.out.setBelow (a := ⟨w1.heap.size, 1, none⟩) (by simp only; omega) (.slice r8 (canE l).length c8)).setBelow (a := ⟨w.heap.size, 0, none⟩) (by simp only; omega) (.slice r5 N.length c5)).setBelow (a := ⟨w.heap.size, 1, none⟩) (by simp only; omega) (.slice r8 (canE l).length c8);have hB := ((B8.out.setCell (p := ⟨w1.heap.size, 1, none⟩) (by simp only; omega) (.slice r8 (canE l).length c8)).setCell (p := ⟨w.heap.size, 0, none⟩) (Nat.le_refl _) (.slice r5 N.length c5)).setCell (p := ⟨w.heap.size, 1, none⟩) (Nat.le_refl _) (.slice r8 (canE l).length c8);exact bodyPost_ret (v := .tuple #[.agg #[.slice r5 N.length c5, .slice r8 (canE l).length c8], .int .i64 0]) (by simp [results, Tryz.results26, go_sem, u0, u1]) rfl ⟨_, _, rfl, hN.sl, hE.sl, hB⟩
end Go.Proofs.YtpnogmicfomofaaGreatDoor
namespace Go.Proofs.YtpnogmicfomofaaGreatDoor
open Go.RowKit Go.Sort Go.Lib Go.Maps
open Go.Lib (hid)
def wF (ns out : List ByteArray) (v : ByteArray -> Nat) : ByteArray -> Option Value := fun x => if (hasS x ns && !hasS x out) = true then some (.int .i64 (v x : Nat)) else none
theorem wF_in {ns out : List ByteArray} {v : ByteArray -> Nat} {x : ByteArray} (h1 : x ∈ ns) (h2 : x ∉ out) : wF ns out v x = some (.int .i64 (v x : Nat)) := by
 unfold wF; rw [if_pos]; rw [hasS_iff.2 h1, hasS_false h2]; rfl
theorem wF_outN {ns out : List ByteArray} {v : ByteArray -> Nat} {x : ByteArray} (h1 : x ∉ ns) : wF ns out v x = none := by
 unfold wF; rw [if_neg]; rw [hasS_false h1]; simp
theorem wF_node (ns : List ByteArray) (y : ByteArray) : upd (wF ns [] fun _ => 0) y (some (.int .i64 0)) = wF (ns ++ [y]) [] fun _ => 0 := by
 funext x
 by_cases e : x = y
 . subst e; rw [upd_same, wF_in (by simp) (by simp)]; rfl
 . rw [upd_other _ _ e]; unfold wF; rw [hasS_app]; have : hasS x [y] = false := hasS_false (by simp [e]); rw [this, Bool.or_false]
theorem wF_set {ns out : List ByteArray} {v v' : ByteArray -> Nat} {u : ByteArray} (h1 : u ∈ ns) (h2 : u ∉ out) (hv : ∀ x, x ≠ u -> v' x = v x) {z : Int} (hz : z = (v' u : Nat)) : upd (wF ns out v) u (some (.int .i64 z)) = wF ns out v' := by
 subst hz;funext x
 by_cases e : x = u
 . subst e; rw [upd_same, wF_in h1 h2]
 . rw [upd_other _ _ e]; unfold wF; rw [hv x e]
theorem wF_del {ns out : List ByteArray} {v : ByteArray -> Nat} {n : ByteArray} : upd (wF ns out v) n none = wF ns (out ++ [n]) v := by
 funext x
 by_cases e : x = n
 . subst e; rw [upd_same]; unfold wF; rw [if_neg]; rw [hasS_app]; have : hasS x [x] = true := hasS_iff.2 (by simp); rw [this]; simp
 . rw [upd_other _ _ e]; unfold wF; rw [hasS_app]; have : hasS x [n] = false := hasS_false (by simp [e]); rw [this, Bool.or_false]
theorem rdL_snoc (l : List ByteArray) (y : ByteArray) (v : ByteArray -> Nat) : rdL (l ++ [y]) [] v = rdL l [] v ++ if v y = 0 then [y] else [] := by
 unfold rdL;rw [List.filter_append, List.filter_cons];have : hasS y [] = false := rfl;rw [this]
 by_cases h : v y = 0 <;> simp [h]
theorem rdL_len (l out : List ByteArray) (v : ByteArray -> Nat) : (rdL l out v).length <= l.length := List.length_filter_le _ _
def ordO (ns : List ByteArray) (es : List Ed) : List ByteArray := if (ordF ns es ns.length []).length < ns.length then [] else ordF ns es ns.length []
def ordE (ns : List ByteArray) (es : List Ed) : Int := if (ordF ns es ns.length []).length < ns.length then 10 else 0
def OrdP (ns : List ByteArray) (es : List Ed) (w : World) (e : Ending) (w' : World) : Prop :=
 ∃ v, e = .returned (.tuple #[v, .int .i64 (ordE ns es)]) /\ Sl StrR 1 w' v (ordO ns es) /\ Below w.heap.size w w'
structure OrdI (ns : List ByteArray) (es : List Ed) (B bw : Nat) (w w6 wr : World) (vR vo : Value) (out : List ByteArray) : Prop where
 bel : Below w.heap.size w wr
 gr : w6.grownBy wr (some bw)
 map : OwnF wr Tryz.prog 9 strLit bw (ns.length - out.length) (ns.length - out.length) (wF ns out (cnt es out))
 oR : OwnS B wr vR (rdL ns out (cnt es out))
 oo : OwnS B wr vo out
 ap : Apart vR vo
structure OrdJ (ns : List ByteArray) (B bw : Nat) (w w6 wr : World) (vR vo : Value) (out : List ByteArray) (v : ByteArray -> Nat) : Prop where
 bel : Below w.heap.size w wr
 gr : w6.grownBy wr (some bw)
 map : OwnF wr Tryz.prog 9 strLit bw (ns.length - out.length) (ns.length - out.length) (wF ns out v)
 oR : OwnS B wr vR (rdL ns out v)
 oo : OwnS B wr vo out
 ap : Apart vR vo
theorem ret_pair {v : Value} {a b : Int} (h : a = b) : Ending.returned (.tuple #[v, .int .i64 b]) = .returned (.tuple #[v, .int .i64 a]) := by rw [h]
theorem grown_two {w6 wr w' : World} {bw : Nat} {row : Option Nat} (h : w6.grownBy wr (some bw)) (hg : wr.grownBy w' row) (hr : ∀ g, row = some g -> g = bw ∨ w6.heap.size <= g) : w6.grownBy w' (some bw) :=
 ⟨hg.os.trans h.os, hg.tape.trans h.tape, hg.output.trans h.output, Nat.le_trans h.size hg.size, fun k hk hne => (hg.block k (Nat.lt_of_lt_of_le hk h.size) (fun e => by
  rcases hr k e.symm with e' | e'
  . exact hne (by rw [e'])
  . omega)).trans (h.block k hk hne)⟩
theorem Grp.look6 {B : Nat} {w6 : World} {b n bw : Nat} {F : ByteArray -> List ByteArray} (h : Grp B w6 b n F) (h1 : bw ≠ b) (h2 : bw < B) (x : ByteArray) (hx : x.size <= maxLen) :
  ∃ r c, (F x).length <= c /\ c <= 9223372036854775807 /\ ∀ W, w6.grownBy W (some bw) -> (Instr.lookup 100 (.map (some b)) (.string x) false).run Tryz.prog W = .ok (.slice r (F x).length c) W /\ Sl StrR 1 W (.slice r (F x).length c) (F x) := by
 obtain ⟨c0, f, h3, h4, h5⟩ := h.ex;obtain ⟨r, c, hv, hc1, hc2⟩ := (h4 x).form;unfold maxLen at hc2;refine ⟨r, c, hc1, by omega, fun W hW => ?_⟩;obtain ⟨c0', f', h3', h4', _⟩ := (h.kept hW h1 h2).ex;have k1 := (h3.kept hW (by simp; exact fun e => h1 e.symm)).look (strT Tryz.underlying9) Tryz.underlying100 (zsl W) x hx;rw [hv] at k1;have k2 := ((h4 x).kept hW (fun g hg e => by cases e; have := ((h4 x).lt _ hg).1; omega)).sl;rw [hv] at k2;exact ⟨k1, k2⟩
set_option maxRecDepth 100000 in
set_option maxHeartbeats 4000000 in
theorem order_any (vn : Value) (ns : List ByteArray) (es : List Ed) (ve : Value) (w : World) (hN : Sl StrR 1 w vn ns) (hS : Sl EdR 2 w ve es) (ha : AscB ns) (he : endsIn ns es = true) (hnn : ns.length <= 100000) (hn : es.length <= 100000) :
  Calls Tryz.prog 27 #[.agg #[vn, ve]] w (OrdP ns es w) := by
 obtain ⟨r, c, rfl, _⟩ := id hS;obtain ⟨rn, cn, rfl, _⟩ := id hN;obtain ⟨_, hl, hm⟩ := sl_len hS;obtain ⟨_, hl1, hm1⟩ := sl_len hN;have HE := hid (fun (W : World) (hW : Below w.heap.size w W) => ed_at (hS.below edR_mono hW));have HEs := hid (fun (W : World) (hW : Below w.heap.size w W) => hS.below edR_mono hW);have HN := hid (fun (W : World) (hW : Below w.heap.size w W) => str_at (hN.below strR_mono hW));have HNs := hid (fun (W : World) (hW : Below w.heap.size w W) => hN.below strR_mono hW);have HA := hid ha;have HNod := hid (asc_nodup stoB ha)
 have HIn := hid (show ∀ e ∈ es, e.1 ∈ ns /\ e.2 ∈ ns from fun e hh => by
  unfold endsIn at he;have := List.all_eq_true.1 he e hh;rw [Bool.and_eq_true] at this;exact ⟨hasS_iff.1 this.1, hasS_iff.1 this.2⟩)
 clear hS hN ha he;have hmm := fun W => mk_map 99 Tryz.underlying99 ns.length W;have T := strT (P := Tryz.prog) (k := 9) Tryz.underlying9;have HB0 := hid (show Below w.heap.size w ((w.alloc (.cells #[.slice rn ns.length cn, .slice r es.length c] 66)).alloc (.map #[] 0)) from ((Below.refl _ _).alloc (Nat.le_refl _) _).alloc (by simp) _)
 have HO0 := hid (show OwnF ((w.alloc (.cells #[.slice rn ns.length cn, .slice r es.length c] 66)).alloc (.map #[] 0)) Tryz.prog 9 strLit (w.heap.size + 1) 0 0 (wF [] [] fun _ => 0) from by
  have h := OwnF.made (w.alloc (.cells #[.slice rn ns.length cn, .slice r es.length c] 66)) Tryz.prog 9 strLit;have e : (fun _ => none : ByteArray -> Option Value) = wF [] [] fun _ => 0 := by funext x; rw [wF_outN (by simp)]
  rw [e] at h;simpa using h)
 have HC0 := hid (show ((w.alloc (.cells #[.slice rn ns.length cn, .slice r es.length c] 66)).alloc (.map #[] 0)).heap[w.heap.size]? = some (.cells #[.slice rn ns.length cn, .slice r es.length c] 66 (0, 0)) from (Below.heap_alloc _ _ _ (by simp)).trans (MapKept.heap_alloc w _).1);have z0 := cellv HC0.out 0 rfl;go_enter Tryz.func27, Tryz.ntmps27;go_wp2
 go_loopw [26] (fun i wr => ∃ k : Nat, k <= ns.length /\ i = .int .i64 k /\ Below w.heap.size w wr /\ w.heap.size + 2 <= wr.heap.size /\ Hid (OwnF wr Tryz.prog 9 strLit (w.heap.size + 1) k k (wF (ns.take k) [] fun _ => 0)) /\ Hid (wr.heap[w.heap.size]? = some (.cells #[.slice rn ns.length cn, .slice r es.length c] 66 (0, 0)))) (fun i _ => ns.length - (intOf i).toNat)
 case atStart => exact ⟨0, by omega, rfl, HB0.out, by simp, HO0, HC0⟩
 case round =>
  obtain ⟨k, hk, rfl, hbl, hz, HO, HC⟩ := hrel;have HB := hid hbl
  by_cases hlt : k < ns.length
  . obtain ⟨b, off, rfl, hb, g0, hs⟩ := HN.out _ hbl k hlt
    have HT := hid (show ns.take (k + 1) = ns.take k ++ [ns[k]] from List.take_succ_eq_append_getElem hlt)
    have HNew := hid (show ns[k] ∉ ns.take k from fun hh => by
     have h1 := HNod.out.sublist (List.take_sublist (k + 1) ns);rw [HT.out] at h1;exact (List.nodup_append.1 h1).2.2 _ hh _ (by simp) rfl)
    clear hbl z0;generalize ns[k] = y at *;have HS := hid hs;have HF := hid (show wF (ns.take k) [] (fun _ => 0) y = none from wF_outN HNew.out);clear hs
    go_wp2_with (at_mapUpdate
                 refine wpList_store _ rfl _ _ _ 99 rfl T Tryz.underlying99 (w.heap.size + 1) k k _ rfl HO.out (by unfold maxLen; omega) y (.int .i64 0) rfl rfl HS.out ?_;intro w2 ho2 hg2;rw [HF.out, wF_node] at ho2;have HO2 := hid ho2;have HG2 := hid hg2;clear ho2 hg2)
    go_round
    case rel => exact ⟨k + 1, by omega, by go_num, Below.grown HB.out HG2.out HB.out.size (fun g hg => by cases hg; omega), by have := HG2.out.size; omega, by rw [HT.out]; exact HO2, own_block HG2.out (fun g hg => by cases hg; omega) HC.out⟩
    case measure => simp [intOf]; omega
  . have hke : k = ns.length := by omega
    have HO2 := hid (show OwnF wr Tryz.prog 9 strLit (w.heap.size + 1) ns.length ns.length (wF ns [] (cnt (es.take 0) [])) from by
     have h := HO.out;rw [hke, List.take_length] at h;exact h)
    clear hke HO hbl z0 HB0 HO0 HC0;have z1 := cellv HC.out 1 rfl;go_wp2
    clear z1;go_loopw [36] (fun i wr => ∃ k : Nat, k <= es.length /\ i = .int .i64 k /\ Below w.heap.size w wr /\ w.heap.size + 2 <= wr.heap.size /\ Hid (OwnF wr Tryz.prog 9 strLit (w.heap.size + 1) ns.length ns.length (wF ns [] (cnt (es.take k) []))) /\ Hid (wr.heap[w.heap.size]? = some (.cells #[.slice rn ns.length cn, .slice r es.length c] 66 (0, 0)))) (fun i _ => es.length - (intOf i).toNat)
    case atStart => exact ⟨0, by omega, rfl, HB.out, by omega, HO2, HC⟩
    case round =>
     clear HB HO2 HC hz hk hlt;obtain ⟨k, hk, rfl, hbl, hz, HO, HC⟩ := hrel;have HB := hid hbl
     by_cases hlt : k < es.length
     . obtain ⟨b, off, rfl, hb, g0, g1, hs0, hs1⟩ := HE.out _ hbl k hlt
       have HT := hid (show es.take (k + 1) = es.take k ++ [es[k]] from List.take_succ_eq_append_getElem hlt);have HI1 := hid (HIn.out es[k] (List.getElem_mem hlt)).1;clear hbl HE;generalize es[k] = y at *;obtain ⟨y1, y2⟩ := y;have HS := hid (show y1.size <= maxLen from hs0);have HM := hid (show y1 ∈ ns from HI1.out);have c0 : (wr.alloc (.cells #[.string y1, .string y2] 64)).cell? ⟨wr.heap.size, 0, none⟩ = some (.string y1) := cell_at rfl rfl;have HO1 := hid (HO.out.alloc (.cells #[.string y1, .string y2] 64));have HB1 := hid (HB.out.alloc HB.out.size (.cells #[.string y1, .string y2] 64));have HC1 := hid ((Below.heap_alloc wr (.cells #[.string y1, .string y2] 64) w.heap.size (by omega)).trans HC.out);have hv1 : cnt (es.take (k + 1)) [] y1 = cnt (es.take k) [] y1 + 1 := by rw [HT.out, cnt_snoc]; simp [hasS]
       have HV0 := hid (show ∀ x, x ≠ y1 -> cnt (es.take (k + 1)) [] x = cnt (es.take k) [] x from fun x hx => by rw [HT.out, cnt_snoc]; simp [Ne.symm hx]);have HV1 := hid hv1;have HL := hid (Nat.le_trans (cnt_le (es.take k) [] y1) (show (es.take k).length <= 100000 by simp; omega));have HF := hid (wF_in (v := cnt (es.take k) []) HM.out (show y1 ∉ [] by simp));generalize hmm1 : cnt (es.take k) [] y1 = m1 at *;have hm1b : m1 <= 100000 := HL.out;have HMM := hid hmm1;clear hs0 hs1 HI1 hv1 hmm1
       go_wp2_with (first
        | (at_lookup; refine wpList_look _ rfl _ _ 99 rfl T Tryz.underlying99 (zint _) (w.heap.size + 1) ns.length ns.length _ rfl HO1.out y1 rfl HS.out ?_; rw [HF.out])
        | (at_mapUpdate
           refine wpList_store _ rfl _ _ _ 99 rfl T Tryz.underlying99 (w.heap.size + 1) ns.length ns.length _ rfl HO1.out (by unfold maxLen; omega) y1 (.int .i64 ((m1 : Int) + 1)) rfl rfl HS.out ?_;intro w2 ho2 hg2;rw [HF.out, wF_set (v' := cnt (es.take (k + 1)) []) HM.out (by simp) HV0.out (by rw [HV1.out]; omega)] at ho2;have HO2 := hid ho2.tight;have HG2 := hid hg2;clear ho2 hg2))
       go_round
       case rel => exact ⟨k + 1, by omega, by go_num, Below.grown HB1.out HG2.out HB1.out.size (fun g hg => by cases hg; omega), by have := HG2.out.size; simp at this; omega, HO2, own_block HG2.out (fun g hg => by cases hg; omega) HC1.out⟩
       case measure => simp [intOf]; omega
     . have hke : k = es.length := by omega
       have HO2 := hid (show OwnF wr Tryz.prog 9 strLit (w.heap.size + 1) ns.length ns.length (wF ns [] (cnt es [])) from by
        have h := HO.out;rw [hke, List.take_length] at h;exact h)
       have HRV := hid (reverse_any (.slice rn ns.length cn) ns es (.slice r es.length c) wr (HNs.out _ hbl) (HEs.out _ hbl) (by omega) (by omega));have z0 := cellv HC.out 0 rfl;have z1 := cellv HC.out 1 rfl;clear hke HO hbl;go_wp2_with fail
       refine HRV.out.mono ?_;rintro e w5 ⟨vn5, ve5, rs, rfl, hn5, hs5, hp5, _, hb5⟩;have HP5 := hid hp5;have HL5 := hid (show rs.length <= 100000 by rw [hp5.length_eq]; simp; omega);have HB5 := hid (HB.out.trans (hb5.mono HB.out.size));have HO5 := hid (HO2.out.below' hb5);have HC5 := hid ((hb5.block w.heap.size (by omega)).trans HC.out);have hz5 := hb5.size;have HNX := hid (next_any vn5 ns rs ve5 w5 hn5 hs5 (by have := HL5.out; omega));clear hn5 hs5 hp5 hb5 HO2 HRV z0 z1 HB HC;go_wp2_with fail
       refine HNX.out.mono ?_;rintro e w6 ⟨rfl, ⟨n6, hg6⟩, hb6⟩;have HB6 := hid (HB5.out.trans (hb6.mono HB5.out.size));have HO6 := hid (HO5.out.below' hb6);have HC6 := hid ((hb6.block w.heap.size (by omega)).trans HC5.out);have HG6 := hid hg6;have hz6 := hb6.size;have hlt6 : w5.heap.size + 1 < w6.heap.size := by obtain ⟨_, _, h, _⟩ := hg6.ex; exact h.lt
       have z0 := cellv HC6.out 0 rfl;clear hg6 hb6 HNX HO5 HC5 HB5;go_wp2
       clear z0 hlt hk hm1 hl1;go_loopw [10, 52] (fun vR i wr => ∃ k : Nat, k <= ns.length /\ i = .int .i64 k /\ Below w6.heap.size w6 wr /\ Hid (OwnS w6.heap.size wr vR (rdL (ns.take k) [] (cnt es [])))) (fun _ i _ => ns.length - (intOf i).toNat)
       case atStart => exact ⟨0, by omega, rfl, Below.refl _ _, ownS_nil _ _⟩
       case round =>
        obtain ⟨k, hk, rfl, hbl, HR⟩ := hrel;have hbw := HB6.out.trans (hbl.mono HB6.out.size);obtain ⟨r7, c7, rfl, h71, h72⟩ := HR.out.form
        by_cases hlt : k < ns.length
        . obtain ⟨b, off, rfl, hb, g0, hs⟩ := HN.out _ hbw k hlt
          have HT := hid (show ns.take (k + 1) = ns.take k ++ [ns[k]] from List.take_succ_eq_append_getElem hlt);have HM := hid (List.getElem_mem hlt);have HO7 := hid (HO6.out.below' hbl);have HBL := hid hbl;have HLn := hid (show (rdL (ns.take k) [] (cnt es [])).length + 1 <= 1000000 by have := rdL_len (ns.take k) [] (cnt es []); simp at this; omega);clear hbw HN;generalize ns[k] = y at *;have HS := hid hs;have HF := hid (wF_in (v := cnt es []) HM.out (show y ∉ [] by simp));have HRs := hid (rdL_snoc (ns.take k) y (cnt es []));clear hs;generalize cnt es [] y = m at *
          by_cases hm0 : m = 0
          . subst hm0
            have HR1 := hid (HR.out.below ((Below.refl _ _).alloc (Nat.le_refl _) (.cells #[.string y] 9)));have HB1 := hid (hbl.alloc hbl.size (.cells #[.string y] 9));have hsz := hbl.size;have HL := hid HR.out.lt;have HRs2 := hid (show rdL (ns.take (k + 1)) [] (cnt es []) = rdL (ns.take k) [] (cnt es []) ++ [y] by rw [HT.out, HRs.out]; rfl);clear hbl
            go_wp2_with (first
             | (at_lookup; refine wpList_look _ rfl _ _ 99 rfl T Tryz.underlying99 (zint _) (w.heap.size + 1) ns.length ns.length _ rfl HO7.out y rfl HS.out ?_; rw [HF.out])
             | (at_builtin; refine app_str rfl _ _ rfl w6.heap.size _ _ rfl HR1.out wr.heap.size 1 y rfl (fr := (0, 0)) (by exact (MapKept.heap_alloc wr _).1) HS.out (by have := HLn.out; omega) (by simp; omega) (wr.heap.size + 1) (by simp) ?_; intro g cap w7 hm7))
            have HM7 := hid hm7;clear hm7;go_wp2
            go_round
            case rel =>
             obtain ⟨m1, m2, m3, m4⟩ := HM7.out;rw [List.length_append, List.length_singleton] at m1;exact ⟨k + 1, by omega, by go_num, Below.grown HB1.out m2 HB1.out.size (fun g hg => (HL.out g hg).1), by rw [HRs2.out]; exact m1⟩
            case measure => simp [intOf]; omega
          . have e0 : ((m : Int) == 0) = false := by simp; omega
            have HRs2 := hid (show rdL (ns.take (k + 1)) [] (cnt es []) = rdL (ns.take k) [] (cnt es []) by rw [HT.out, HRs.out, if_neg hm0]; simp);have HBL2 := hid hbl;clear hbl hm0;go_wp2_with (at_lookup; refine wpList_look _ rfl _ _ 99 rfl T Tryz.underlying99 (zint _) (w.heap.size + 1) ns.length ns.length _ rfl HO7.out y rfl HS.out ?_; rw [HF.out])
            go_round
            case rel => exact ⟨k + 1, by omega, by go_num, HBL2.out, by rw [HRs2.out]; exact HR⟩
            case measure => simp [intOf]; omega
        . have hke : k = ns.length := by omega
          have HR2 := hid (show OwnS w6.heap.size wr (.slice r7 (rdL (ns.take k) [] (cnt es [])).length c7) (rdL ns [] (cnt es [])) from by
           have h := HR.out;have e : ns.take k = ns := by rw [hke, List.take_length]
           rw [e] at h ⊢;exact h)
          have I0 := hid (show OrdI ns es w6.heap.size (w.heap.size + 1) w w6 wr (.slice r7 (rdL (ns.take k) [] (cnt es [])).length c7) (.slice none 0 0) [] from
           ⟨hbw, grown_any (grown_below hbl) _, by have := HO6.out.below' hbl; simpa using this, HR2.out, ownS_nil _ _, Apart.nil _⟩)
          have L0 := hid (Lst.start ns es);clear hke hbl hbw HR HR2 HO6;go_wp2
          have HGL := hid (fun x hx => HG6.out.look6 (bw := w.heap.size + 1) (show w.heap.size + 1 ≠ w5.heap.size + 1 by omega) (by omega) x hx);have HTG := hid (fun n x => occ_tg es rs HP5.out n x)
          have HTM := hid (show ∀ n u, u ∈ tgt rs n -> (u, n) ∈ es from fun n u hu => by
           have h1 := HP5.out.mem_iff.1 (mem_tgt.1 hu);obtain ⟨e, he, h2⟩ := List.mem_map.1 h1;unfold swapE at h2;simp at h2;obtain ⟨rfl, rfl⟩ := h2;exact he)
          have HTL := hid (fun n => Nat.le_trans (tgt_len rs n) HL5.out);clear hlt hk HC6 HP5 HL5 HG6 h71 h72;go_loopg [10, 11] ns.length (fun gg s10 s11 wr => ∃ out, ns.length - out.length <= gg /\ Hid (OrdI ns es w6.heap.size (w.heap.size + 1) w w6 wr s10 s11 out) /\ Hid (Lst ns es out))
          case atStart => exact ⟨[], by simp, I0, L0⟩
          case round =>
           clear I0 L0;obtain ⟨out, hg, HI, HL⟩ := hrel;obtain ⟨ro, co, rfl, hro1, hro2⟩ := HI.out.oo.form;have hoL := HL.out.len;cases hR : rdL ns out (cnt es out) with
           | nil =>
             have hoR := HI.out.oR;rw [hR] at hoR;obtain ⟨rr, cr, rfl, hrr1, hrr2⟩ := hoR.form;have HF := hid (HL.out.fin hR);have HOO := hid HI.out.oo.sl;have HBB := hid HI.out.bel;clear hR hoR
             by_cases hlast : out.length < ns.length
             . have HX := hid (show ordO ns es = [] /\ ordE ns es = 10 by unfold ordO ordE; rw [HF.out, if_pos hlast, if_pos hlast]; exact ⟨rfl, rfl⟩)
               have hz : (0 : Int) < ((ns.length - out.length : Nat) : Int) := by omega
               have hlen := fun ty => HI.out.map.len Tryz.underlying99 ty;generalize ns.length - out.length = q at *;go_wp2
               go_ret2
               exact ⟨.slice none 0 0, ret_pair HX.out.2, by rw [HX.out.1]; exact sl_nilS _, HBB.out⟩
             . have HX := hid (show ordO ns es = out /\ ordE ns es = 0 by unfold ordO ordE; rw [HF.out, if_neg hlast, if_neg hlast]; exact ⟨rfl, rfl⟩)
               have hlen := fun ty => HI.out.map.len Tryz.underlying99 ty;have hz : ns.length - out.length = 0 := by omega
               rw [hz] at hlen;clear hz;go_wp2
               go_ret2
               exact ⟨.slice ro out.length co, ret_pair HX.out.2, by rw [HX.out.1]; exact HOO.out, HBB.out⟩
           | cons n R =>
             obtain ⟨L1, hnn1, hno1⟩ := HL.out.more hR;have HL1 := hid L1;have HNn := hid hnn1;have HNo := hid hno1;have hoR := HI.out.oR;rw [hR] at hoR;obtain ⟨rr, cr, rfl, hrr1, hrr2⟩ := hoR.form;unfold maxLen at hrr2;obtain ⟨b0, o0, rfl, hb0, g0, hns⟩ := str_at hoR.sl 0 (by simp);simp only [List.getElem_cons_zero, Nat.add_zero] at g0 hns;have HSn := hid hns;have HPop := hid (rd_pop HA.out hR);have hR0 := (mem_rdL.1 (show n ∈ rdL ns out (cnt es out) by rw [hR]; simp)).2.2;have HC0 := hid (cnt_zero.1 hR0);have HOR := hid hoR;have hLB := hoR.lt;have HLB := hid hLB;have hBw6 := HI.out.gr.size;have HCls := hid HL.out.cls;clear hR hoR L1 hnn1 hno1 hns hR0 hLB HL;obtain ⟨rT, cT, hcT1, hcT2, hlkT⟩ := HGL.out n HSn.out;have HLK := hid hlkT;have HOn := hid (show out.length + 1 <= 1000000 by omega);clear hlkT
             go_wp2_with (first
                   | (go_at_call 52
                      refine (del_str w6.heap.size _ n R _ HOR.out).mono ?_;rintro e w7 ⟨v7, rfl, ho7, hg7, hob7⟩;have HO7 := hid ho7;have HB7 := hid hob7;have HMp7 := hid (HI.out.map.kept hg7 (fun e => by have := (HLB.out _ e.symm).1; omega));have HOO7 := hid (HI.out.oo.kept hg7 (fun g hg e => HI.out.ap g e hg));have HGR7 := hid (grown_two HI.out.gr hg7 (fun g hg => Or.inr (HLB.out g hg).1));have HBL7 := hid (Below.grown HI.out.bel hg7 HI.out.bel.size (fun g hg => by have := (HLB.out g hg).1; omega));clear ho7 hob7 hg7)
                   | (at_delete
                      refine wpList_del _ rfl _ _ 99 rfl T Tryz.underlying99 (w.heap.size + 1) _ _ _ rfl HMp7.out n rfl HSn.out ?_;intro w8 ho8 hg8;rw [wF_in HNn.out HNo.out, wF_del] at ho8;have HMp8 := hid ((ho8.tight).alloc (.cells #[.string n] 9));have HO8 := hid ((HO7.out.kept hg8 (fun g hg e => by cases e; have := (HO7.out.lt _ hg).1; omega)).below ((Below.refl _ _).alloc (Nat.le_refl _) (.cells #[.string n] 9)));have HOO8 := hid ((HOO7.out.kept hg8 (fun g hg e => by cases e; have := (HOO7.out.lt _ hg).1; omega)).below ((Below.refl _ _).alloc (Nat.le_refl _) (.cells #[.string n] 9)));have HGR8 := hid (grown_two (grown_two HGR7.out hg8 (fun g hg => by cases hg; exact Or.inl rfl)) (grown_below ((Below.refl _ _).alloc (Nat.le_refl _) (.cells #[.string n] 9))) (fun g hg => by cases hg));have HBL8 := hid ((Below.grown HBL7.out hg8 HBL7.out.size (fun g hg => by cases hg; omega)).trans (((Below.refl _ _).alloc (Nat.le_refl _) (.cells #[.string n] 9)).mono (by have h1 := hg8.size; have h2 := HBL7.out.size; omega)));have hz8 : w6.heap.size <= w8.heap.size := by have h1 := hg8.size; have h2 := HGR7.out.size; omega
                      have HZ8 := hid hz8;clear ho8 hg8 hz8)
                   | (at_builtin
                      refine app_str rfl _ _ rfl w6.heap.size _ out rfl HOO8.out w8.heap.size 1 n rfl (fr := (0, 0)) (by exact (MapKept.heap_alloc w8 _).1) HSn.out (by have := HOn.out; omega) (by have := HZ8.out; simp; omega) (w8.heap.size + 1) (by simp) ?_;intro g cap w9 hm9;have hlo := HOO8.out.lt;have HGR9 := hid (grown_two HGR8.out hm9.2.1 (fun g hg => Or.inr (hlo g hg).1));have hl9 := (HLK.out w9 HGR9.out).1;have HSl := hid (fun W h => (HLK.out W h).2);have HM9 := hid hm9;have HLO := hid hlo;clear hm9 hlo))
             obtain ⟨m1, m2, m3, m4⟩ := HM9.out;rw [List.length_append, List.length_singleton] at m1
             have J0 := hid (show OrdJ ns w6.heap.size (w.heap.size + 1) w w6 w9 v7 (.slice (some ⟨g, 0, none⟩) (out.length + 1) cap) (out ++ [n]) (fun x => cnt es out x - occ x ((tgt rs n).take 0)) from by
                   have e0 : (fun x => cnt es out x - occ x ((tgt rs n).take 0)) = cnt es out := by funext x; simp [occ]
                   rw [e0];have hap : Apart v7 (.slice ro out.length co) := fun g hg => HI.out.ap g (by rw [<- HB7.out]; exact hg);refine ⟨Below.grown HBL8.out m2 HBL8.out.size (fun g hg => by have := (HLO.out g hg).1; omega), HGR9.out, ?_, ?_, m1, hap.app HO8.out.1 m3 (by simp)⟩
                   . have h := HMp8.out.kept m2 (fun e => by have := (HLO.out _ e.symm).1; omega)
                     have e1 : ns.length - (out ++ [n]).length = ns.length - out.length - 1 := by simp; omega
                     rw [e1];exact h
                   . rw [<- HPop.out]
                     exact HO8.out.kept m2 (fun g hg e => hap g hg e))
             have HVal := hid (show ∀ u, u ∈ tgt rs n -> u ∈ ns /\ u ∉ out ++ [n] from fun u hu => by
                   have h1 := HTM.out n u hu;refine ⟨(HIn.out _ h1).1, fun h2 => ?_⟩;rw [List.mem_append, List.mem_singleton] at h2;rcases h2 with h2 | h2
                   . exact HNo.out (HCls.out _ h1 h2)
                   . subst h2; exact HNo.out (HC0.out _ h1 rfl))
             have HOc := hid (show ∀ x, cnt es (out ++ [n]) x + occ x (tgt rs n) = cnt es out x from fun x => by
                   rw [<- cnt_more es out n x HNo.out]; exact congrArg _ (HTG.out n x))
             have HTL1 := hid (HTL.out n);clear m1 m2 m3 m4 HM9 HLO HGR8 HBL8 HOO8 HO8 HMp8 HZ8 HBL7 HGR7 HOO7 HMp7 HB7 HO7 HI HOR HPop HC0 HCls HTM HTG HTL HGL HGR9 HLK hrr1 hrr2 hb0 g0 hro1 hro2 HLB hBw6;generalize hT : tgt rs n = Tn at *;clear hT;go_loopg [10, 83] Tn.length (fun gg s10 s83 wr => ∃ k : Nat, k <= Tn.length /\ Tn.length - k <= gg /\ s83 = .int .i64 k /\ Hid (OrdJ ns w6.heap.size (w.heap.size + 1) w w6 wr s10 (.slice (some ⟨g, 0, none⟩) (out.length + 1) cap) (out ++ [n]) (fun x => cnt es out x - occ x (Tn.take k))))
             case atStart => exact ⟨0, by omega, by omega, rfl, J0⟩
             case round =>
                   clear J0 hl9;obtain ⟨k, hk, hgk, rfl, HJ⟩ := hrel;obtain ⟨rv, cv, rfl, hcv1, hcv2⟩ := HJ.out.oR.form;unfold maxLen at hcv2
                   by_cases hlt : k < Tn.length
                   . have hsl := HSl.out wr HJ.out.gr
                     obtain ⟨b3, o3, rfl, hb3, g3, hus⟩ := str_at hsl k hlt;have HT := hid (show Tn.take (k + 1) = Tn.take k ++ [Tn[k]] from List.take_succ_eq_append_getElem hlt);have hval := HVal.out Tn[k] (List.getElem_mem hlt);have hoc1 := occ_take_le Tn[k] Tn (k + 1);rw [HT.out, occ_snoc, if_pos rfl] at hoc1;have hoc2 := HOc.out Tn[k];have hcl := cnt_le es out Tn[k];clear hsl;generalize Tn[k] = u at *;have HUs := hid hus;have HV1 := hid hval.1;have HV2 := hid hval.2
                     have HDec := hid (show (fun x => cnt es out x - occ x (Tn.take (k + 1))) = decV (fun x => cnt es out x - occ x (Tn.take k)) u from by
                      funext x;unfold decV;rw [HT.out, occ_snoc]
                      by_cases e : x = u
                      . subst e
                        rw [if_pos rfl, if_pos rfl];show cnt es out x - (occ x (Tn.take k) + 1) = cnt es out x - occ x (Tn.take k) - 1;omega
                      . rw [if_neg (fun h => e h.symm), if_neg e]; rfl)
                     have hm1 : 1 <= cnt es out u - occ u (Tn.take k) := by omega
                     have hm2 : cnt es out u - occ u (Tn.take k) <= 100000 := by omega
                     generalize hvk : (fun x => cnt es out x - occ x (Tn.take k)) = vk at *;have hmk : vk u = cnt es out u - occ u (Tn.take k) := by rw [<- hvk]
                     rw [<- hmk] at hm1 hm2;have HF := hid (wF_in (v := vk) HV1.out HV2.out);have HLv := hid HJ.out.oR.lt;have HZr := hid HJ.out.gr.size;have HMp := hid HJ.out.map;clear hus hval hoc1 hoc2 hcl hvk hmk HVal HT
                     by_cases hm : vk u = 1
                     . have HPut := hid (show rdL ns (out ++ [n]) (decV vk u) = putL ltB u (rdL ns (out ++ [n]) vk) from rd_put HA.out HV1.out HV2.out hm)
                       rw [hm] at HF;have HSet := hid (show upd (wF ns (out ++ [n]) vk) u (some (.int .i64 0)) = wF ns (out ++ [n]) (decV vk u) from wF_set HV1.out HV2.out (fun x hx => by unfold decV; rw [if_neg hx]) (by unfold decV; rw [if_pos rfl, hm]; rfl));have HF2 := hid (show wF ns (out ++ [n]) (decV vk u) u = some (.int .i64 0) from by rw [wF_in HV1.out HV2.out]; unfold decV; rw [if_pos rfl, hm]; rfl);have HRl := hid (show (rdL ns (out ++ [n]) vk).length + 1 <= 1000000 by have := rdL_len ns (out ++ [n]) vk; omega);have HAs := hid (rdL_asc HA.out (out ++ [n]) vk);have tok1 : True := trivial;clear hm hm1 hm2
                       go_wp2_with (first
                        | (at_lookup; have _t := tok1; refine wpList_look _ rfl _ _ 99 rfl T Tryz.underlying99 (zint _) (w.heap.size + 1) _ _ _ rfl HMp.out u rfl HUs.out ?_; rw [HF.out]; clear tok1 _t)
                        | (at_mapUpdate
                           refine wpList_store _ rfl _ _ _ 99 rfl T Tryz.underlying99 (w.heap.size + 1) _ _ _ rfl HMp.out (by unfold maxLen; omega) u (.int .i64 0) rfl rfl HUs.out ?_;intro w10 ho10 hg10;rw [HF.out, HSet.out] at ho10;have HMq := hid ho10.tight;have HR10 := hid (HJ.out.oR.kept hg10 (fun g hg e => by cases e; have := (HLv.out _ hg).1; omega));have HO10 := hid (HJ.out.oo.kept hg10 (fun g hg e => by cases e; have := (HJ.out.oo.lt _ hg).1; omega));have HG10 := hid (grown_two HJ.out.gr hg10 (fun g hg => by cases hg; exact Or.inl rfl));have HB10 := hid (Below.grown HJ.out.bel hg10 HJ.out.bel.size (fun g hg => by cases hg; omega));clear ho10 hg10)
                        | (at_lookup; refine wpList_look _ rfl _ _ 99 rfl T Tryz.underlying99 (zint _) (w.heap.size + 1) _ _ _ rfl HMq.out u rfl HUs.out ?_; rw [HF2.out])
                        | (go_at_call 53
                           refine (bs_str _ _ u _ HR10.out.sl HAs.out (by have := HRl.out; omega)).mono ?_;rintro e w11 ⟨bb, rfl, hb11⟩;have hal : Below w11.heap.size w11 (w11.alloc (.cells #[.string u] 9)) := (Below.refl _ _).alloc (Nat.le_refl _) _;have hb12 := hb11.trans (hal.mono hb11.size);have HMq2 := hid (HMq.out.below' hb12);have HR12 := hid (HR10.out.below hb12);have HO12 := hid (HO10.out.below hb12);have HG12 := hid (grown_two HG10.out (grown_below hb12) (fun g hg => by cases hg));have HB12 := hid (HB10.out.trans (hb12.mono HB10.out.size));have HLw := hid (show ∀ g, (Value.slice rv (rdL ns (out ++ [n]) vk).length cv).ownBlock = some g -> w6.heap.size <= g /\ g < w11.heap.size from fun g hg => ((HR10.out.below hb11).lt g hg));have HZ := hid (show w6.heap.size <= (w11.alloc (.cells #[.string u] 9)).heap.size from HG12.out.size);clear hb11 hal hb12)
                        | (go_at_call 54
                           refine (ins_str w6.heap.size (rdL ns (out ++ [n]) vk) u (lowL ltB u (rdL ns (out ++ [n]) vk)) _ w11.heap.size _ (lowL_le _ _) HR12.out.1 (by exact (MapKept.heap_alloc w11 _).1) (fun e => by have := (HLw.out _ e).2; omega) HRl.out HZ.out).mono ?_;rintro e w13 ⟨g2, cap2, rfl, h1, h2, h3⟩;rw [putL_insert, <- HPut.out] at h1;have H1 := hid h1;have H2 := hid h2;have H3 := hid h3;clear h1 h2 h3))
                       go_roundg (Tn.length - (k + 1))
                       case measure => omega
                       case rel =>
                        refine ⟨k + 1, by omega, by omega, by go_num, ?_⟩;rw [HDec.out];have hlo := HO12.out.lt;refine hid ⟨Below.grown HB12.out H2.out HB12.out.size (fun g hg => by have := (HLw.out g hg).1; omega), grown_two HG12.out H2.out (fun g hg => Or.inr (HLw.out g hg).1), HMq2.out.kept H2.out (fun e => by have := (HLw.out _ e.symm).1; omega), ⟨?_, ?_⟩, HO12.out.kept H2.out (fun g hg e => HJ.out.ap g e hg), ?_⟩
                        . exact H1.out
                        . intro x hx
                          have := (mem_rdL.1 hx).1;obtain ⟨i, hi, rfl⟩ := List.mem_iff_getElem.1 this;exact strs_le (HNs.out _ (Below.refl _ _)) _ (List.getElem_mem hi)
                        . exact (Apart.app HO12.out.1 HJ.out.ap.symm H3.out (Nat.le_refl _)).symm
                     . have hm3 : 2 <= vk u := by omega
                       have HSame := hid (show rdL ns (out ++ [n]) (decV vk u) = rdL ns (out ++ [n]) vk from rd_same hm3);have HSet := hid (show upd (wF ns (out ++ [n]) vk) u (some (.int .i64 ((vk u : Nat) - 1 : Int))) = wF ns (out ++ [n]) (decV vk u) from wF_set HV1.out HV2.out (fun x hx => by unfold decV; rw [if_neg hx]) (by unfold decV; rw [if_pos rfl]; omega));have HF2 := hid (show wF ns (out ++ [n]) (decV vk u) u = some (.int .i64 ((vk u : Nat) - 1 : Int)) from by rw [<- HSet.out, upd_same]);have tok1 : True := trivial;have e0 : (((vk u : Nat) : Int) - 1 == 0) = false := by simp; omega
                       clear hm hm1;generalize vk u = m at *
                       go_wp2_with (first
                        | (at_lookup; have _t := tok1; refine wpList_look _ rfl _ _ 99 rfl T Tryz.underlying99 (zint _) (w.heap.size + 1) _ _ _ rfl HMp.out u rfl HUs.out ?_; rw [HF.out]; clear tok1 _t)
                        | (at_mapUpdate
                           refine wpList_store _ rfl _ _ _ 99 rfl T Tryz.underlying99 (w.heap.size + 1) _ _ _ rfl HMp.out (by unfold maxLen; omega) u (.int .i64 ((m : Int) - 1)) rfl rfl HUs.out ?_;intro w10 ho10 hg10;rw [HF.out, HSet.out] at ho10;have HMq := hid ho10.tight;have HR10 := hid (HJ.out.oR.kept hg10 (fun g hg e => by cases e; have := (HLv.out _ hg).1; omega));have HO10 := hid (HJ.out.oo.kept hg10 (fun g hg e => by cases e; have := (HJ.out.oo.lt _ hg).1; omega));have HG10 := hid (grown_two HJ.out.gr hg10 (fun g hg => by cases hg; exact Or.inl rfl));have HB10 := hid (Below.grown HJ.out.bel hg10 HJ.out.bel.size (fun g hg => by cases hg; omega));clear ho10 hg10)
                        | (at_lookup; refine wpList_look _ rfl _ _ 99 rfl T Tryz.underlying99 (zint _) (w.heap.size + 1) _ _ _ rfl HMq.out u rfl HUs.out ?_; rw [HF2.out]))
                       go_roundg (Tn.length - (k + 1))
                       case measure => omega
                       case rel =>
                        refine ⟨k + 1, by omega, by omega, by go_num, ?_⟩;rw [HDec.out];exact hid ⟨HB10.out, HG10.out, HMq.out, by rw [HSame.out]; exact HR10.out, HO10.out, HJ.out.ap⟩
                   . have hke : k = Tn.length := by omega
                     have HK := hid hke;clear hke;go_wp2
                     go_roundg (ns.length - (out ++ [n]).length)
                     case measure => have := HL1.out.len; simp at this ⊢; omega
                     case rel =>
                      have j := HJ.out
                      have e : (fun x => cnt es out x - occ x (Tn.take k)) = cnt es (out ++ [n]) := by
                       funext x;rw [HK.out, List.take_length];have := HOc.out x;omega
                      rw [e] at j ⊢;exact ⟨out ++ [n], Nat.le_refl _, hid ⟨j.bel, j.gr, j.map, j.oR, j.oo, j.ap⟩, HL1⟩
end Go.Proofs.YtpnogmicfomofaaGreatDoor
namespace Go.Proofs.YtpnogmicfomofaaGreatDoor
theorem ends_mem {ns : List ByteArray} {es : List Ed} (h : endsIn ns es = true) : ∀ e ∈ es, e.1 ∈ ns /\ e.2 ∈ ns := by
 unfold endsIn at h;rw [List.all_eq_true] at h;intro e he;have := h e he;rw [Bool.and_eq_true] at this;exact ⟨hasS_iff.1 this.1, hasS_iff.1 this.2⟩
theorem pos_lt {x : ByteArray} : ∀ {l : List ByteArray}, x ∈ l -> pos x l < l.length
 | y :: l, h => by
   unfold pos
   by_cases e : y = x
   . rw [if_pos e]; simp
   . rw [if_neg e]
     have := pos_lt (l := l) (by rcases List.mem_cons.1 h with h | h; exact absurd h.symm e; exact h);simp; omega
theorem pos_left {x : ByteArray} {m : List ByteArray} : ∀ {l : List ByteArray}, x ∈ l -> pos x (l ++ m) = pos x l
 | y :: l, h => by
   rw [List.cons_append];unfold pos
   by_cases e : y = x
   . rw [if_pos e, if_pos e]
   . rw [if_neg e, if_neg e, pos_left (by rcases List.mem_cons.1 h with h | h; exact absurd h.symm e; exact h)]
theorem pos_new {x : ByteArray} : ∀ {l : List ByteArray}, x ∉ l -> pos x (l ++ [x]) = l.length
 | [], _ => by simp [pos]
 | y :: l, h => by
   rw [List.cons_append];unfold pos;rw [if_neg (fun e => h (by simp [e])), pos_new (fun hh => h (List.mem_cons_of_mem _ hh))];simp
theorem atS_in {x : ByteArray} {l : List ByteArray} (h : x ∈ l) : atS x l = (pos x l : Nat) := by unfold atS; rw [if_pos (hasS_iff.2 h)]
theorem atS_out {x : ByteArray} {l : List ByteArray} (h : x ∉ l) : atS x l = -1 := by unfold atS; rw [if_neg (fun hh => h (hasS_iff.1 hh))]
theorem atS_bd (x : ByteArray) (l : List ByteArray) : -1 <= atS x l /\ atS x l <= l.length := by
 by_cases h : x ∈ l
 . rw [atS_in h]; have := pos_lt h; omega
 . rw [atS_out h]; omega
def Ordd (es : List Ed) (out : List ByteArray) : Prop := ∀ e ∈ es, e.1 ∈ out -> e.2 ∈ out /\ pos e.2 out < pos e.1 out
theorem Ordd.more {es : List Ed} {out : List ByteArray} {n : ByteArray} (h : Ordd es out) (h1 : n ∉ out) (h2 : cnt es out n = 0) : Ordd es (out ++ [n]) := by
 intro e he hx;rw [List.mem_append, List.mem_singleton] at hx;rcases hx with hx | hx
 . obtain ⟨h3, h4⟩ := h e he hx
   exact ⟨by simp [h3], by rw [pos_left h3, pos_left hx]; exact h4⟩
 . have h3 := cnt_zero.1 h2 e he hx
   exact ⟨by simp [h3], by rw [pos_left h3, hx, pos_new h1]; exact pos_lt h3⟩
theorem ord_run {ns : List ByteArray} {es : List Ed} : ∀ (k : Nat) (out : List ByteArray), ns.length - out.length <= k -> Lst ns es out -> Ordd es out -> ∃ o, Lst ns es o /\ Ordd es o /\ rdL ns o (cnt es o) = [] := by
 intro k
 induction k with
 | zero =>
   intro out hk hL hO;cases hR : rdL ns out (cnt es out) with
   | nil => exact ⟨out, hL, hO, hR⟩
   | cons n R =>
     have h2 := (hL.more hR).1.len;simp at h2; omega
 | succ k ih =>
   intro out hk hL hO;cases hR : rdL ns out (cnt es out) with
   | nil => exact ⟨out, hL, hO, hR⟩
   | cons n R =>
     have h1 := hL.more hR;have hm : n ∈ rdL ns out (cnt es out) := by rw [hR]; simp
     exact ih (out ++ [n]) (by simp; omega) h1.1 (hO.more h1.2.2 (mem_rdL.1 hm).2.2)
theorem ord_fin (ns : List ByteArray) (es : List Ed) : Lst ns es (ordF ns es ns.length []) /\ Ordd es (ordF ns es ns.length []) /\ rdL ns (ordF ns es ns.length []) (cnt es (ordF ns es ns.length [])) = [] := by
 obtain ⟨o, h1, h2, h3⟩ := ord_run (ns := ns) (es := es) ns.length [] (by simp) (Lst.start ns es) (fun e he h => by simp at h);rw [h1.fin h3];exact ⟨h1, h2, h3⟩
theorem ordE_zero {ns : List ByteArray} {es : List Ed} : ordE ns es = 0 ↔ (ordF ns es ns.length []).length = ns.length := by
 have := (ord_fin ns es).1.len;unfold ordE;constructor
 . intro h
   by_cases h2 : (ordF ns es ns.length []).length < ns.length
   . rw [if_pos h2] at h; omega
   . omega
 . intro h
   rw [if_neg (by omega)]
theorem ordO_ok {ns : List ByteArray} {es : List Ed} (h : ordE ns es = 0) : ordO ns es = ordF ns es ns.length [] := by
 have := ordE_zero.1 h;unfold ordO;rw [if_neg (by omega)]
theorem ordO_all {ns : List ByteArray} {es : List Ed} (h : ordE ns es = 0) : (ordO ns es).length = ns.length /\ ∀ x ∈ ns, x ∈ ordO ns es := by
 have h2 := ordE_zero.1 h;have h3 := (ord_fin ns es).1;rw [ordO_ok h];refine ⟨h2, fun x hx => ?_⟩;refine Classical.byContradiction fun hn => ?_
 have h4 := nodup_len (a := x :: ordF ns es ns.length []) (b := ns) (List.nodup_cons.2 ⟨hn, h3.nod⟩) (fun y hy => by
  rcases List.mem_cons.1 hy with rfl | hy
  . exact hx
  . exact h3.sub y hy)
 simp at h4; omega
theorem ordO_edge {ns : List ByteArray} {es : List Ed} (h : ordE ns es = 0) (hin : endsIn ns es = true) {e : Ed} (he : e ∈ es) : atS e.2 (ordO ns es) < atS e.1 (ordO ns es) := by
 have h1 := (ordO_all h).2 e.1 (ends_mem hin e he).1;rw [ordO_ok h] at h1 ⊢;obtain ⟨h2, h3⟩ := (ord_fin ns es).2.1 e he h1;rw [atS_in h1, atS_in h2];omega
theorem ord_rank {ns : List ByteArray} {es : List Ed} (h : ordE ns es = 0) (hin : endsIn ns es = true) : ∃ (ρ : ByteArray -> Nat) (M : Nat), (∀ s, ρ s <= M) /\ ∀ e ∈ es, ρ e.2 < ρ e.1 :=
 ⟨fun s => (atS s (ordO ns es) + 1).toNat, (ordO ns es).length + 1, fun s => by have := atS_bd s (ordO ns es); show (atS s (ordO ns es) + 1).toNat <= _; omega, fun e he => by
  have h1 := ordO_edge h hin he;have := atS_bd e.1 (ordO ns es);have := atS_bd e.2 (ordO ns es);show (atS e.2 (ordO ns es) + 1).toNat < (atS e.1 (ordO ns es) + 1).toNat
  omega⟩
end Go.Proofs.YtpnogmicfomofaaGreatDoor
