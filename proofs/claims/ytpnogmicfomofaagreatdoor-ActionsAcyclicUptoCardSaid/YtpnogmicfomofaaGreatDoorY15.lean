import Derived.Test.YtpnogmicfomofaaGreatDoorY12
import Derived.Test.YtpnogmicfomofaaGreatDoorY13
import Derived.Test.YtpnogmicfomofaaGreatDoorY9
import Derived.Test.YtpnogmicfomofaaGreatDoorY11
import Derived.Deep.DeepCutAuto
import Derived.Test.YtpnogmicfomofaaGreatDoorY14
import Derived.Test.YtpnogmicfomofaaGreatDoorY1
import Derived.Test.YtpnogmicfomofaaGreatDoorY2
import Derived.Lib.SmallJoins
import Derived.ShutString
import Derived.ChangeOld
set_option linter.unusedVariables false
set_option linter.unusedSimpArgs false
namespace Go.Proofs.YtpnogmicfomofaaGreatDoor.Stp
open Go.RowKit Go.Sort Go.Lib Go.Maps
open Go.Lib (hid)
open Adr (WT prE stcB rstatic_any)
attribute [local go_sem] frUpon
attribute [local go_sem ↓] ldC_eq
attribute [local go_sem] ldC_run
attribute [local go_sem ↓] stC_eq
attribute [local go_sem] stC_run there_drew there_new put22_drew put22_new lies_new rd22_new lies_drew rd22_drew lies_drewN rd22_drewN
theorem run_append_owned_zero {P : Program} {w : World} (base : Nat) (t ty e : TypeId) (i : TypeInfo) (size : Nat) (ht : P.underlying t = some (.slice e)) (hi : P.info? e = some i)
  (v : Value) (n : Nat) (xs : List Value) (r : Option Addr) (c : Nat) (hown : w.ownsRow base e size v n xs) :
  (Builtin.append_ #[t, t] ty #[v, .slice r 0 c]).run P w = .ok v w := by
 have hf : ∀ size, (Builtin.firstCells size 0 (.slice r 0 c)).run P w = .ok #[] w := fun size => by
  cases r with
  | none => exact run_firstCells_none w size 0 0 c
  | some a => exact run_firstCells_some w size 0 a 0 c [] (by simp) (fun j v h => by simp at h)
 rcases hown.2 with ⟨rfl, rfl⟩ | ⟨g, cap, cur, rfl, _, _, hnc, _⟩
 . simp [Builtin.append_, run_underlying ht, sizeOf, typeInfo, hi, Builtin.lenOf, hf]
 . simp [Builtin.append_, run_underlying ht, sizeOf, typeInfo, hi, Builtin.lenOf, hf, hnc, storeCells]
theorem wpList_append_strs {w : World} {ops : Array Oper} {rest : List Oper} {o : Oper} {a : Act} {Q : Exit -> Act -> World -> Prop}
  (hgd : o.guard = none) (s x : Operand) (ho : o.op = .call { callee := .builtin .append, args := #[s, x], argTypes := #[27, 27] })
  (B : Nat) (v : Value) (xs : List ByteArray) (hs : a.eval s = v) (hown : OwnS B w v xs) (r : Option Addr) (c : Nat) (ys : List ByteArray) (hx : a.eval x = .slice r ys.length c)
  (hy : Sl StrR 1 w (.slice r ys.length c) ys) (hn : xs.length + ys.length <= 1000000) (hbase : B <= w.heap.size)
  (h : ∀ v' w', OwnS B w' v' (xs ++ ys) -> w.grownBy w' v.ownBlock -> (∀ g, v'.ownBlock = some g -> v.ownBlock = some g ∨ w.heap.size <= g) -> wpList Tryz.prog ops Q rest (a.put o.dst v') w') : wpList Tryz.prog ops Q (o :: rest) a w := by
 obtain ⟨i0, hi, hz0, hz1, hz2⟩ := info_parts strinfo;have hsz := strs_le hy
 by_cases hm : ys.length = 0
 . have hy0 : ys = [] := List.eq_nil_of_length_eq_zero hm
   subst hy0;refine wpList_plain hgd fun K hK => ?_;have hrun := run_append_owned_zero (P := Tryz.prog) (w := w) B 27 o.type 9 i0 1 Tryz.underlying27 hi v _ _ r c hown.1;have hx : a.eval x = .slice r 0 c := hx;unfold Oper.wp;simp [execOp, ho, resolve, invoke, builtin, hs, hx, hrun, Result.andThen];exact hK _ _ (h v w (by simpa using hown) ⟨rfl, rfl, rfl, Nat.le_refl _, fun _ _ _ => rfl⟩ fun g hg => Or.inl hg)
 . cases r with
   | none =>
     obtain ⟨_, _, e, _, _, he⟩ := hy;obtain ⟨_, _, _, hr, _⟩ := he 0 (by omega);simp at e;rw [<- e.1] at hr;cases hr
   | some ad =>
     obtain ⟨b, off, hr, _⟩ := str_at hy 0 (by omega);obtain rfl : ad = ⟨b, off, none⟩ := by simpa using hr
     refine wpList_append_lies w hgd s x 27 ho B 9 i0 _ 1 16 Tryz.underlying27 hi hz0 hz1 hz2 rfl (by omega) v xs.length (xs.flatMap encS) hs hown.1 ⟨b, off, none⟩ ys.length c (ys.flatMap encS) hx (by rw [flat_len encS 1 encS_len]) ?_ ?_ (by omega) (by unfold maxLen; omega) (by omega) hbase _ rfl ?_
     . intro j u hj
       rw [encS_flat, List.getElem?_map] at hj
       by_cases hjl : j < ys.length
       . rw [List.getElem?_eq_getElem hjl] at hj
         simp at hj;subst hj;obtain ⟨b', off', hr', _, g0, _⟩ := str_at hy j hjl;simp only [Option.some.injEq, Addr.mk.injEq, and_true] at hr';obtain ⟨rfl, rfl⟩ := hr';have hadd : (⟨b, off, none⟩ : Addr).add j = ⟨b, off + j, none⟩ := by unfold Addr.add; split <;> simp_all
         rw [hadd]; exact g0
       . rw [List.getElem?_eq_none (by omega)] at hj
         cases hj
     . intro u hu
       obtain ⟨y, _, hy2⟩ := List.mem_flatMap.1 hu;exact encS_one y u hy2
     . intro g cap w' h1 h2 h3 h4
       refine h _ w' ⟨?_, fun z hz => ?_⟩ h2 fun q hq => ?_
       . rw [List.flatMap_append, List.length_append]; exact h1
       . rcases List.mem_append.1 hz with hz | hz
         . exact hown.2 z hz
         . exact hsz z hz
       . simp [Value.ownBlock] at hq
         subst hq;rcases h3 with h3 | h3
         . exact Or.inl h3
         . exact Or.inr (by omega)
def nodC (c : Ch) : List ByteArray := resB c.addr :: (c.deps ++ c.old)
def edgC (c : Ch) : List Ed := (c.deps ++ c.old).map fun d => (resB c.addr, d)
structure GrI (w wr : World) (vn ve : Value) (NL : List ByteArray) (EL : List Ed) : Prop where
 bel : Below w.heap.size w wr
 nn : OwnS w.heap.size wr vn NL
 ee : OwnE w.heap.size wr ve EL
 ap : Apart vn ve
theorem GrI.start (w : World) : GrI w w (.slice none 0 0) (.slice none 0 0) [] [] := ⟨Below.refl _ _, ownS_nil _ _, ownE_nil _ _, Apart.nil _⟩
theorem GrI.below {w wr wr' : World} {vn ve : Value} {NL : List ByteArray} {EL : List Ed} (h : GrI w wr vn ve NL EL) (hb : Below wr.heap.size wr wr') : GrI w wr' vn ve NL EL :=
 ⟨h.bel.trans (hb.mono h.bel.size), h.nn.below hb, h.ee.below hb, h.ap⟩
theorem GrI.nodes {w W W' : World} {vn vn' ve : Value} {NL NL' : List ByteArray} {EL : List Ed} (h : GrI w W vn ve NL EL) (ho : OwnS w.heap.size W' vn' NL') (hg : W.grownBy W' vn.ownBlock) (hat : ∀ g, vn'.ownBlock = some g -> vn.ownBlock = some g ∨ W.heap.size <= g) : GrI w W' vn' ve NL' EL :=
 ⟨Below.grown h.bel hg h.bel.size (fun g hg => (h.nn.lt g hg).1), ho, h.ee.kept hg (fun g hg e => h.ap g e hg), fun g hg e => by
  rcases hat g hg with h1 | h1
  . exact h.ap g h1 e
  . have := (h.ee.lt g e).2; omega⟩
theorem GrI.edges {w W W' : World} {vn ve ve' : Value} {NL : List ByteArray} {EL EL' : List Ed} (h : GrI w W vn ve NL EL) (ho : OwnE w.heap.size W' ve' EL') (hg : W.grownBy W' ve.ownBlock) (hat : ∀ g, ve'.ownBlock = some g -> ve.ownBlock = some g ∨ W.heap.size <= g) : GrI w W' vn ve' NL EL' :=
 ⟨Below.grown h.bel hg h.bel.size (fun g hg => (h.ee.lt g hg).1), h.nn.kept hg (fun g hg e => h.ap g hg e), ho, fun g hg e => by
  rcases hat g e with h1 | h1
  . exact h.ap g hg h1
  . have := (h.nn.lt g hg).2; omega⟩
set_option maxRecDepth 100000 in
theorem astatic_any (x : CV) (w : World) (hs : x.ad.size <= 100001) : Calls Tryz.prog 20 #[.agg x.arr] w fun e w' => e = .returned (.string (resB x.ad)) /\ Below w.heap.size w w' := by
 have h0 : x.arr[0]? = some (.string x.ad) := rfl;have HC := hid (fun (W : World) => rstatic_any x.ad W (by omega));have HB0 := hid (show Below w.heap.size w (w.alloc (.cells x.arr 31)) from (Below.refl _ _).alloc (Nat.le_refl _) _);have HR := hid (show resB x.ad = if prE x.ad.data.toList = 0 then ⟨(stcB x.ad.data.toList).toArray⟩ else x.ad from rfl);obtain ⟨E, hE⟩ : ∃ E, prE x.ad.data.toList = E := ⟨_, rfl⟩;obtain ⟨T, hT2⟩ : ∃ T, (⟨(stcB x.ad.data.toList).toArray⟩ : ByteArray) = T := ⟨_, rfl⟩;rw [hT2] at HC HR;rw [hE] at HC HR;obtain ⟨R, hR⟩ : ∃ R, resB x.ad = R := ⟨_, rfl⟩;rw [hR] at HR ⊢;clear hs hE hT2 hR;generalize x.arr = X at *;generalize x.ad = a at *
 by_cases hE : E = 0
 . subst hE
   have hR := HR.out;rw [if_pos rfl] at hR;clear HR;subst hR;go_enter Tryz.func20, Tryz.ntmps20;go_wp2_with (go_at_call 37; refine (HC.out _).mono ?_; rintro e w1 ⟨rfl, hb⟩)
   go_ret
   exact ⟨rfl, HB0.out.trans (hb.mono HB0.out.size)⟩
 . have hn : (E != 0) = true := by simp [hE]
   have hR := HR.out;rw [if_neg hE] at hR;clear hE HR;subst hR;go_enter Tryz.func20, Tryz.ntmps20;go_wp2_with (go_at_call 37; refine (HC.out _).mono ?_; rintro e w1 ⟨rfl, hb⟩; obtain ⟨hc, hf⟩ := bcellB hb)
   go_ret
   exact ⟨rfl, HB0.out.trans (hb.mono HB0.out.size)⟩
end Go.Proofs.YtpnogmicfomofaaGreatDoor.Stp
namespace Go.Proofs.YtpnogmicfomofaaGreatDoor.Stp
open Go.RowKit Go.Sort Go.Lib Go.Maps
open Go.Lib (hid)
open Adr (WT prE stcB rparse_any RPaP)
attribute [local go_sem] frUpon
attribute [local go_sem ↓] ldC_eq
attribute [local go_sem] ldC_run
attribute [local go_sem ↓] stC_eq
attribute [local go_sem] stC_run there_drew there_new put22_drew put22_new lies_new rd22_new lies_drew rd22_drew lies_drewN rd22_drewN
structure GrC (GOK : List ByteArray -> List Ed -> List ByteArray -> List Ed -> Prop) : Prop where
 of : ∀ (ns : List ByteArray) (es : List Ed) (vn ve : Value) (W : World), Sl StrR 1 W vn ns -> Sl EdR 2 W ve es -> ns.length <= 100000 -> es.length <= 100000 ->
  Calls Tryz.prog 26 #[vn, ve] W fun e W' => ∃ v1 v2 gn ge er, e = .returned (.tuple #[.agg #[v1, v2], .int .i64 er]) /\ Sl StrR 1 W' v1 gn /\ Sl EdR 2 W' v2 ge /\ Below W.heap.size W W' /\ (er = 0 -> GOK ns es gn ge)
 ord : ∀ (ns : List ByteArray) (es : List Ed) (gn : List ByteArray) (ge : List Ed) (v1 v2 : Value) (W : World), GOK ns es gn ge -> Sl StrR 1 W v1 gn -> Sl EdR 2 W v2 ge ->
  Calls Tryz.prog 27 #[.agg #[v1, v2]] W fun e W' => ∃ v3 er, e = .returned (.tuple #[v3, .int .i64 er]) /\ Below W.heap.size W W' /\ (er = 0 -> ∃ (ρ : ByteArray -> Nat) (M : Nat), (∀ s, ρ s <= M) /\ ∀ e ∈ es, ρ e.2 < ρ e.1)
def sNew (n : Nat) (o : Obj) : Spc := ⟨fun v => ∃ b, v = .slice (some ⟨b, 0, none⟩) n n, fun v w => ∃ b, v = .slice (some ⟨b, 0, none⟩) n n /\ w.heap[b]? = some o⟩
theorem stNew (n : Nat) (o : Obj) : ∀ v, Stb ((sNew n o).R v) := fun _ _ _ ⟨b, e, h⟩ hl => ⟨b, e, (Below.block hl b (lt_of_block h)).trans h⟩
theorem sNew_at {n b : Nat} {o : Obj} {w : World} (h : (sNew n o).R (.slice (some ⟨b, 0, none⟩) n n) w) : w.heap[b]? = some o := by
 obtain ⟨b', e, h'⟩ := h;simp at e;subst e;exact h'
theorem wp_of_step {P : Program} {o : Oper} {a : Act} {w : World} {K : Act -> World -> Prop} {Q : Exit -> Act -> World -> Prop} {ops : Array Oper} {F : Prop} (hg : o.guard = none) (h : if Region.wanted o (yielded ops a.tmps) = true then Oper.wp P o a w K Q else F) : Oper.wp P o a w K Q := by
 have hw : Region.wanted o (yielded ops a.tmps) = true := by unfold Region.wanted; rw [hg]
 rwa [if_pos hw] at h
theorem wp_region_tail_16_2 {P : Program} {id : Nat} {Q : Exit -> Act -> World -> Prop} {a : Act} {w : World} {x0 x1 x2 x3 x4 x5 x6 x7 x8 x9 x10 x11 x12 x13 x14 x15 x16 x17 : Oper} (sp : Nat -> Option Spc) (hm : P.follows .mixedOrders = true) (hB : Region.lexB .any [x0, x1, x2, x3, x4, x5, x6, x7, x8, x9, x10, x11, x12, x13, x14, x15].toArray = true) (hL : tailB [x0, x1, x2, x3, x4, x5, x6, x7, x8, x9, x10, x11, x12, x13, x14, x15] [x16, x17] = true)
  (h : wpF P .any [x0, x1, x2, x3, x4, x5, x6, x7, x8, x9, x10, x11, x12, x13, x14, x15].toArray (fun w' => ∃ p : Regrown, w' = grow (redrawn w p.d) p.os) sp (fun E a' => ∀ w', Grw w w' -> (∀ j, E j w') -> seqW P Q [x16, x17] a' w') [x0, x1, x2, x3, x4, x5, x6, x7, x8, x9, x10, x11, x12, x13, x14, x15] 0 (fun _ _ => True) a) : (Code.region id [x0, x1, x2, x3, x4, x5, x6, x7, x8, x9, x10, x11, x12, x13, x14, x15, x16, x17].toArray true).wp P Q a w :=
 wp_region_tail (l := [x0, x1, x2, x3, x4, x5, x6, x7, x8, x9, x10, x11, x12, x13, x14, x15]) (s := [x16, x17]) sp rfl hm hB hL h
theorem take_flat {α β : Type} {f : α -> List β} {xs : List α} {k : Nat} (h : k < xs.length) : (xs.take (k + 1)).flatMap f = (xs.take k).flatMap f ++ f xs[k] := by
 rw [List.take_succ_eq_append_getElem h, List.flatMap_append]; simp
theorem flat_le {α β : Type} {f : α -> List β} {m : Nat} : ∀ {xs : List α}, (∀ x ∈ xs, (f x).length <= m) -> (xs.flatMap f).length <= xs.length * m
 | [], _ => by simp
 | x :: xs, h => by
   have h1 := h x (List.mem_cons_self ..);have h2 := flat_le (f := f) (m := m) (xs := xs) fun y hy => h y (List.mem_cons_of_mem _ hy);rw [List.flatMap_cons, List.length_append, List.length_cons, Nat.add_mul]; omega
theorem psF_small (cs : List Ch) : (psF cs).length <= cs.length * 2 := by
 have h := flat_le (f := plusK cs) (m := 2) (xs := List.range cs.length) fun i _ => by
  unfold plusK opl;split
  . rw [List.length_map, List.length_append]
    split <;> split <;> simp
  . simp
 rw [List.length_range] at h;exact h
theorem steps_prop {cs : List Ch} {g : Nat -> Bool} (hcl : Clo cs g) (r : Option Addr) (c : Nat) (W : World) (hT : WT W) (hS : Sl ChR 22 W (.slice r cs.length c) (propL cs g)) (hn : cs.length <= 60) (had : ∀ c ∈ cs, c.addr.size <= 1000000)
  (hρ : ∃ (ρ : ByteArray -> Nat) (M : Nat), (∀ s, ρ s <= M) /\ ∀ e ∈ cs.flatMap edgC, ρ e.2 < ρ e.1) : Calls Tryz.prog 11 #[.slice r cs.length c] W fun e W' => ∃ v, e = .returned (.tuple #[v, .int .i64 0]) /\ Below W.heap.size W W' := by
 obtain ⟨ρ, M, hM, hr⟩ := hρ;have hL := propL_len cs g
 have h0 : stE (propL cs g) = 0 := by
  unfold stE;have := psF_small (propL cs g);rw [if_neg (by omega)];exact prop_order hcl ρ M hM fun i hi s hs => hr (resB (cs[i]).addr, s) (List.mem_flatMap.2 ⟨cs[i], List.getElem_mem hi, List.mem_map.2 ⟨s, hs, rfl⟩⟩)
 have h := steps_any r c (propL cs g) W hT (by rw [hL]; exact hS) (by omega) (fun x hx => by
  obtain ⟨i, hi, e⟩ := List.getElem_of_mem hx;rw [propL_at (by omega)] at e;subst e;exact had (cs[i]'(by omega)) (List.getElem_mem _)) (Or.inr (by omega))
 rw [hL] at h;refine h.mono ?_;rintro e W' ⟨v, rfl, _, hb⟩;exact ⟨v, by rw [h0], hb⟩
set_option maxRecDepth 100000 in
set_option maxHeartbeats 40000000 in
theorem acyclic_any (GOK : List ByteArray -> List Ed -> List ByteArray -> List Ed -> Prop) (hG : GrC GOK) (v : Value) (cs : List Ch) (w : World) (hS : Sl ChF 22 w v cs) (hT : WT w) :
  Calls Tryz.prog 8 #[v] w fun e w' => e = .returned (.bool true) /\ Below w.heap.size w w' := by
 have HL := hid (light_any v cs w (chF_R hS));have HA := hid (fun (W : World) (hW : Below w.heap.size w W) => awake_any W (hT.below hW));obtain ⟨r, c, rfl, _⟩ := id hS;obtain ⟨_, hcl, hcm⟩ := sl_len hS;cases hl : lightB cs with
 | false =>
   rw [hl] at HL;clear hl hS hT hG;go_enter Tryz.func8, Tryz.ntmps8
   go_wp2_with (first
    | (go_at_call 18; refine HL.out.mono ?_; rintro e w1 ⟨rfl, rfl⟩)
    | (go_at_call 10; refine (HA.out _ (Below.refl _ _)).mono ?_; rintro e w9 ⟨rfl, hb9⟩))
   go_ret
   exact ⟨rfl, hb9⟩
 | true =>
   rw [hl] at HL;have HLB := hid (lightB_bd hl);have HCH := hid (fun (W : World) (hW : Below w.heap.size w W) => chF_at (hS.below chF_mono hW));have HG := hid hG;have HPG := hid (fun (W : World) (hW : Below w.heap.size w W) => propagate_any r c cs W (hT.below hW) (hS.below chF_mono hW) HLB.out.1 (fun d hd => Nat.le_trans (HLB.out.2 d hd).1 (by omega)) (fun d hd => by have := HLB.out.2 d hd; omega));have HT := hid hT;clear hl hS hG hT;go_enter Tryz.func8, Tryz.ntmps8;go_wp2_with (go_at_call 18; refine HL.out.mono ?_; rintro e w1 ⟨rfl, hw1⟩; have hw1 := hw1.symm; subst hw1)
   clear HL;go_loopg [3, 4, 5] cs.length (fun gg s3 s4 s5 wr => ∃ k : Nat, k <= cs.length /\ cs.length - k <= gg /\ s5 = .int .i64 k /\ Hid (GrI w wr s3 s4 ((cs.take k).flatMap nodC) ((cs.take k).flatMap edgC)))
   case atStart => exact ⟨0, by omega, by omega, rfl, hid (GrI.start w)⟩
   case round =>
    obtain ⟨k, hk, hgg, rfl, HI⟩ := hrel;have HB := hid HI.out.bel
    by_cases hlt : k < cs.length
    . obtain ⟨cb, coff, x, rfl, hcb, hcell, hx⟩ := HCH.out w (Below.refl _ _) k hlt
      have HX22 := cells22 x;obtain ⟨hl1, hl2, hl3⟩ := HLB.out.2 _ (List.getElem_mem hlt);have hkk : (0 : Int) <= (k : Int) := by omega
      have hkk2 : (k : Int) < (cs.length : Int) := by omega
      have hdn := (sl_len hx.cv.2.2.2.2.1).1;have hon := (sl_len hx.cv.2.2.2.2.2).1;have hx0 : x.arr[0]? = some (.string (cs[k]).addr) := by rw [<- hx.cv.1]; rfl
      have hx20 : x.arr[20]? = some (.slice x.dp.r (cs[k]).deps.length x.dp.c) := by rw [<- hdn]; rfl
      have hx21 : x.arr[21]? = some (.slice x.od.r (cs[k]).old.length x.od.c) := by rw [<- hon]; rfl
      have HDP := hid hx.cv.2.2.2.2.1;have HOD := hid hx.cv.2.2.2.2.2;rw [hdn] at HDP;rw [hon] at HOD
      have HCE := hid (fun (W : World) (hW : Below w.heap.size w W) => show W.cell? ⟨cb, coff + k * 22, none⟩ = some (.string (cs[k]).addr) /\ W.cell? ⟨cb, coff + k * 22 + 20, none⟩ = some (.slice x.dp.r (cs[k]).deps.length x.dp.c) /\ W.cell? ⟨cb, coff + k * 22 + 21, none⟩ = some (.slice x.od.r (cs[k]).old.length x.od.c) from
       ⟨bget hW (hcell 0 _ hx0), bget hW (hcell 20 _ hx20), bget hW (hcell 21 _ hx21)⟩)
      obtain ⟨l1, l2⟩ := lies_of HX22 hcell;have HLX := hid (fun (W : World) (hW : Below w.heap.size w W) => show Lies W cb (coff + k * 22) /\ rd22 W cb (coff + k * 22) = x.arr from ⟨(l1.below hW).1, ((l1.below hW).2).trans l2⟩);have HST := hid (fun W => astatic_any x W (by rw [hx.cv.1]; omega));have HEA := hid (show x.ad = (cs[k]).addr from hx.cv.1);have HPA := hid (fun W => rparse_any (cs[k]).addr W (by omega));have HNK := hid (take_flat (f := nodC) hlt);have HEK := hid (take_flat (f := edgC) hlt);obtain ⟨q0, q20, q21⟩ := HCE.out wr HB.out;clear hcell hx hdn hon hx0 hx20 hx21 l1 l2 HX22;generalize x.arr = X at *
      go_upto_region 9 with (go_at_call 25
                             refine (HPA.out _).mono ?_;rintro e w2 ⟨v6, xs6, d6, ty6, nm6, k6, rfl, ho6, hb2, _⟩;obtain ⟨r6, c6, rfl, _, _⟩ := Adr.ownM_form ho6;clear ho6;have HB2 := hid hb2;clear hb2)
      have HB3 := hid (show Below wr.heap.size wr (w2.alloc (.cells #[.slice r6 xs6.length c6, .bool d6, .string ⟨ty6.toArray⟩, .string ⟨nm6.toArray⟩, .int .i64 k6.1, .int .i64 k6.2.1, .string ⟨k6.2.2.toArray⟩] 60)) from HB2.out.alloc HB2.out.size _);generalize w2.alloc (.cells #[.slice r6 xs6.length c6, .bool d6, .string ⟨ty6.toArray⟩, .string ⟨nm6.toArray⟩, .int .i64 k6.1, .int .i64 k6.2.1, .string ⟨k6.2.2.toArray⟩] 60) = W3 at *;clear HB2 q0 q20 q21 HPA;obtain ⟨q0, q20, q21⟩ := HCE.out W3 (HB.out.trans (HB3.out.mono HB.out.size));obtain ⟨E, hE⟩ : ∃ E, prE (cs[k]).addr.data.toList = E := ⟨_, rfl⟩;rw [hE];clear hE;generalize hdl : (cs[k]).deps.length = dn at *;generalize hol : (cs[k]).old.length = on at *;have hwp : IntKind.i64.wrap ((dn : Int) + (on : Int)) = ((dn + on : Nat) : Int) := by rw [IntWalk.i64_in _ (by omega)]; omega
      by_cases hE : E = 0
      case neg =>
       have e0 : (E != 0) = true := by simp [hE]
       have HBE := hid (fun (n : Nat) => show Below w.heap.size w (W3.drewN n) from bel_drewN (HB.out.trans (HB3.out.mono HB.out.size)) n);clear hE HI HCH HG HPG HT HCE HLX HST;go_quiet (fail)
       go_wp2_with (go_at_call 10; refine (HA.out _ (HBE.out _)).mono ?_; rintro e w9 ⟨rfl, hb9⟩; have HB9 := hid ((HBE.out _).trans (hb9.mono (HBE.out _).size)); clear hb9)
       go_ret
       exact ⟨rfl, HB9.out⟩
      case pos =>
       subst hE
       by_cases hgt : 20 < dn + on
       . have e1 : (20 : Int) < ((dn + on : Nat) : Int) := by omega
         have HBE := hid (fun (n : Nat) => show Below w.heap.size w (W3.drewN n) from bel_drewN (HB.out.trans (HB3.out.mono HB.out.size)) n);clear HI HCH HG HPG HT HCE HLX HST;go_quiet (fail)
         go_wp2_with (go_at_call 10; refine (HA.out _ (HBE.out _)).mono ?_; rintro e w9 ⟨rfl, hb9⟩; have HB9 := hid ((HBE.out _).trans (hb9.mono (HBE.out _).size)); clear hb9)
         go_ret
         exact ⟨rfl, HB9.out⟩
       . have e1 : ¬ (20 : Int) < ((dn + on : Nat) : Int) := by omega
         go_quiet (fail)
         go_upto_region 11 with (fail)
         generalize hW4 : W3.drewN nq = W4 at *;have HB4 := hid (show Below wr.heap.size wr W4 by rw [<- hW4]; exact bel_drewN HB3.out nq);clear hW4 HB3 q0 q20 q21 e1 hwp;have HI4 := hid (HI.out.below HB4.out);obtain ⟨l1, l2⟩ := HLX.out W4 HI4.out.bel;subst hdl hol;have HRS := hid (show (resB (cs[k]).addr).size <= maxLen from resB_size (by omega));rw [HEA.out] at HST;have HN1 := hid (show (cs.take (k + 1)).flatMap nodC = (cs.take k).flatMap nodC ++ (resB (cs[k]).addr :: ((cs[k]).deps ++ (cs[k]).old)) from HNK.out);have HE1 := hid (show (cs.take (k + 1)).flatMap edgC = (cs.take k).flatMap edgC ++ ((cs[k]).deps ++ (cs[k]).old).map fun d => (resB (cs[k]).addr, d) from HEK.out);have HNL := hid (show ((cs.take k).flatMap nodC).length <= 60 * 121 from Nat.le_trans (flat_le (m := 121) fun y hy => by have := HLB.out.2 y (List.mem_of_mem_take hy); unfold nodC; simp; omega) (Nat.mul_le_mul (by rw [List.length_take]; have := HLB.out.1; omega) (Nat.le_refl _)));have HEL0 := hid (show ((cs.take k).flatMap edgC).length <= 60 * 121 from Nat.le_trans (flat_le (m := 121) fun y hy => by have := HLB.out.2 y (List.mem_of_mem_take hy); unfold edgC; simp; omega) (Nat.mul_le_mul (by rw [List.length_take]; have := HLB.out.1; omega) (Nat.le_refl _)));have HEL := hid (show ((cs.take k).flatMap edgC).length + (cs[k]).deps.length + (cs[k]).old.length <= 8000 by have := HEL0.out; omega);clear HNK HEK HEA HEL0;generalize resB (cs[k]).addr = RS at *;generalize (cs.take k).flatMap nodC = NL at *;generalize (cs.take k).flatMap edgC = EL at *;generalize (cs[k]).deps = dl at *;generalize (cs[k]).old = ol at *;generalize (cs[k]).addr = AD at *;obtain ⟨N6, hN6⟩ : ∃ N6 : List ByteArray, N6 = NL ++ [RS] := ⟨_, rfl⟩;obtain ⟨N7, hN7⟩ : ∃ N7 : List ByteArray, N7 = N6 ++ dl := ⟨_, rfl⟩;obtain ⟨N9, hN9⟩ : ∃ N9 : List ByteArray, N9 = N7 ++ ol := ⟨_, rfl⟩;have HN6 := hid hN6;have HN7 := hid hN7;have HN9 := hid hN9;have HNLb := hid (show N6.length + dl.length <= 1000000 by have := HNL.out; rw [hN6]; simp; omega);have HNLc := hid (show N7.length + ol.length <= 1000000 by have := HNL.out; rw [hN7, hN6]; simp; omega);clear hN6 hN7 hN9;obtain ⟨rn, cn, hvn, hvn1, hvn2⟩ := HI4.out.nn.form;obtain ⟨re0, ce0, hve0, hve01, hve02⟩ := HI4.out.ee.form;subst hvn hve0
         go_upto_region 12 with (first
          | (go_at_call 20
             refine (HST.out _).mono ?_;rintro e w5 ⟨rfl, hb5⟩;have HI5 := hid ((HI4.out.below hb5).below ((Below.refl w5.heap.size w5).alloc (Nat.le_refl _) (.cells #[.string RS] 9)));have HZ5 := hid (show w.heap.size <= w5.heap.size by have := (HI4.out.below hb5).bel.size; exact this);clear hb5)
          | (at_builtin
             refine app_str rfl _ _ rfl w.heap.size _ NL rfl HI5.out.nn w5.heap.size 1 RS rfl (fr := (0, 0)) (by exact (MapKept.heap_alloc w5 _).1) HRS.out (by have := HNL.out; omega) (by have := HZ5.out; simp; omega) (w5.heap.size + 1) (by simp) ?_;intro g cap w6 hm6
             have HI6 := hid (HI5.out.nodes hm6.1 hm6.2.1 (fun g' hg' => by
              simp [Value.ownBlock] at hg';subst hg';rcases hm6.2.2.1 with h1 | h1
              . exact Or.inl h1
              . exact Or.inr (by simp; omega)))
             rw [List.length_append, List.length_singleton, <- HN6.out] at HI6;clear hm6))
         obtain ⟨q0, q20, q21⟩ := HCE.out w6 HI6.out.bel;have hsz6 := HI6.out.bel.size;clear l1 l2 HI5 HZ5
         go_upto_region 13 with (first
          | (at_builtin
             refine wpList_append_strs rfl _ _ rfl w.heap.size _ N6 rfl HI6.out.nn x.dp.r x.dp.c dl rfl (HDP.out.below strR_mono HI6.out.bel) HNLb.out hsz6 ?_;intro v7 w7 ho7 hg7 ha7;rw [<- HN7.out] at ho7;have HI7 := hid (HI6.out.nodes ho7 hg7 ha7);obtain ⟨r7, c7, hv7, _, _⟩ := ho7.form;subst hv7;clear ho7 hg7 ha7))
         obtain ⟨q0, q20, q21⟩ := HCE.out w7 HI7.out.bel;have hsz7 := HI7.out.bel.size
         go_upto_region 14 with (first
          | (at_builtin
             refine wpList_append_strs rfl _ _ rfl w.heap.size _ N7 rfl HI7.out.nn x.od.r x.od.c ol rfl (HOD.out.below strR_mono HI7.out.bel) HNLc.out hsz7 ?_;intro v9 w9 ho9 hg9 ha9;rw [<- HN9.out] at ho9;have HI9 := hid (HI7.out.nodes ho9 hg9 ha9);obtain ⟨r9, c9, hv9, _, _⟩ := ho9.form;subst hv9;clear ho9 hg9 ha9))
         have HIX := hid (show GrI w w9 (.slice r9 N9.length c9) (.slice re0 EL.length ce0) (NL ++ (RS :: (dl ++ ol))) EL from by
          have := HI9.out
          rwa [show N9 = NL ++ (RS :: (dl ++ ol)) by rw [HN9.out, HN7.out, HN6.out]; simp] at this ⊢)
         have HWL := hid (show w.heap.size <= w9.heap.size from HI9.out.bel.size);clear HI6 HI7 HI9 HNLb HNLc hsz6 hsz7 q0 q20 q21 HI4 HI HB HB4;generalize (Value.slice r9 N9.length c9) = vn9 at *;go_wp2_with fail
         go_loopg [4, 8] dl.length (fun gg s4 s8 wz => ∃ q : Nat, q <= dl.length /\ dl.length - q <= gg /\ s8 = .int .i64 q /\ Hid (GrI w wz vn9 s4 (NL ++ (RS :: (dl ++ ol))) (EL ++ (dl.take q).map fun d => (RS, d))))
         case atStart => exact ⟨0, by omega, by omega, rfl, hid (by rw [List.take_zero, List.map_nil, List.append_nil]; exact HIX.out)⟩
         case round =>
          clear HIX;obtain ⟨q, hq, hgq, rfl, HZ⟩ := hrel;have HBZ := hid HZ.out.bel;obtain ⟨re, ce, hve, hve1, hve2⟩ := HZ.out.ee.form;subst hve;obtain ⟨t0, t20, t21⟩ := HCE.out wr HBZ.out
          by_cases hlq : q < dl.length
          . obtain ⟨b4, o4, hr4, hb4, g4, hs4⟩ := str_at (HDP.out.below strR_mono HBZ.out) q hlq
            have hq0 : (0 : Int) <= (q : Int) := by omega
            have hq1 : (q : Int) < (dl.length : Int) := by omega
            rw [hr4] at t20;have HTK := hid (show EL ++ (dl.take (q + 1)).map (fun d => (RS, d)) = (EL ++ (dl.take q).map fun d => (RS, d)) ++ [(RS, dl[q])] by rw [List.take_succ_eq_append_getElem hlq, List.map_append, List.append_assoc]; rfl);have HS4 := hid hs4;have k0 := fun d os => cell_regrown t20 d os;have k1 := fun d os => cell_regrown g4 d os;have HLN := hid (show (EL ++ (dl.take q).map fun d => (RS, d)).length + 1 <= 1000000 by have := HEL.out; simp; omega);clear hs4 hr4;generalize dl[q] = S at *;generalize (EL ++ (dl.take q).map fun d => (RS, d)) = EL9 at *;go_upto_region 17 with (fail)
            refine wp_region_tail_16_2 (fun qq => match qq with | 4 => some (sVal (.agg X)) | 5 => some (sVal (.string RS)) | 15 => some (sNew 1 (.cells #[.string RS, .string S] 64 (0, 0))) | _ => none) (by kernel_rfl) (by kernel_rfl) (by kernel_rfl) ?_
            iterate 4 (refine wpF_quiet (grw_ex _) (by kernel_rfl) rfl (noEnter_op (by rfl)) ?_; intro K hK; go_big_quiet_op; go_big_quiet_on)
            refine wpF_told (sVal (.agg X)) (by kernel_rfl) rfl ⟨_, rfl⟩ stTrue (fun w4 hw4 hE4 => ?_) ?_
            . have hb4 := grw_below hw4
              obtain ⟨l1, l2⟩ := HLX.out w4 (HBZ.out.trans (hb4.mono HBZ.out.size));clear hw4 hE4 hb4;go_simp
              exact ⟨Lat.refl _, rfl, trivial⟩
            rintro _ rfl
            (refine wpF_put ?_; intro K hK; go_simp; refine hK _ ?_; clear hK K)
            refine wpF_told (sVal (.string RS)) (by kernel_rfl) rfl ⟨_, rfl⟩ stTrue (fun w4 hw4 hE4 => ?_) ?_
            . have hb4 := grw_below hw4
              have hh := HST.out w4;clear hw4 hE4 hb4;go_simp
              go_at_call 20;refine Calls.mono hh ?_;rintro e w5 ⟨rfl, hb5⟩;exact ⟨_, rfl, hb5, rfl, trivial⟩
            rintro _ rfl
            (refine wpF_put ?_; intro K hK; go_simp; refine hK _ ?_; clear hK K)
            iterate 9 (refine wpF_quiet (grw_ex _) (by kernel_rfl) rfl (noEnter_op (by rfl)) ?_; intro K hK; go_big_quiet_op; go_big_quiet_on)
            refine wpF_told (sNew 1 (.cells #[.string RS, .string S] 64 (0, 0))) (by kernel_rfl) rfl ⟨_, 0, rfl⟩ (stNew _ _) (fun w4 hw4 hE4 => ?_) ?_
            . have hb4 := grw_below hw4
              clear hw4 hE4;go_simp
              exact ⟨(Below.refl _ _).alloc (Nat.le_refl _) _, ⟨_, rfl⟩, _, rfl, (MapKept.heap_alloc _ _).1⟩
            rintro _ ⟨nb, rfl⟩
            (refine wpF_put ?_; intro K hK; go_simp; refine hK _ ?_; clear hK K)
            refine wpF_nil ?_;intro w6 hw6 hE6;have hb6 := grw_below hw6;have hnb := sNew_at (hE6 15);clear hw6 hE6;have HW6 := hid hb6;have HNB := hid hnb;have HZ6 := hid (HZ.out.below hb6);have hz6 := HZ6.out.bel.size;simp only [seqW];refine wp_of_step rfl (step_ed (ops := #[]) (F := True) rfl _ _ rfl w.heap.size _ EL9 rfl HZ6.out.ee nb 1 (RS, S) rfl (fr := (0, 0)) HNB.out ⟨HRS.out, HS4.out⟩ HLN.out (by omega) w6.heap.size rfl ?_);intro g cap w7 hm7
            have HZ7 := hid (HZ6.out.edges hm7.1 hm7.2.1 (fun g' hg' => by
             simp [Value.ownBlock] at hg';subst hg';rcases hm7.2.2.1 with h1 | h1
             . exact Or.inl h1
             . exact Or.inr (by omega)))
            rw [List.length_append, List.length_singleton] at HZ7;clear hm7 hb6 hnb;go_simp
            go_wp2_with fail
            go_roundg (dl.length - (q + 1))
            case measure => omega
            case rel => exact ⟨q + 1, by omega, by omega, by go_num, hid (by rw [HTK.out]; exact HZ7.out)⟩
          . obtain rfl : q = dl.length := by omega
            have E8h := hid (show (EL ++ dl.map fun d => (RS, d)) = EL ++ (dl.take dl.length).map fun d => (RS, d) by rw [List.take_length]);generalize (EL ++ (dl.take dl.length).map fun d => (RS, d)) = E8 at *;have HIX := hid HZ.out;go_wp2_with fail
            clear HZ t0 t20 t21;have HEL2 := hid (show E8.length + ol.length <= 8000 by have := HEL.out; rw [<- E8h.out]; simp; omega);go_loopg [4, 9] ol.length (fun gg s4 s9 wz => ∃ q : Nat, q <= ol.length /\ ol.length - q <= gg /\ s9 = .int .i64 q /\ Hid (GrI w wz vn9 s4 (NL ++ (RS :: (dl ++ ol))) (E8 ++ (ol.take q).map fun d => (RS, d))))
            case atStart => exact ⟨0, by omega, by omega, rfl, hid (by rw [List.take_zero, List.map_nil, List.append_nil]; exact HIX.out)⟩
            case round =>
             clear HIX;obtain ⟨q, hq, hgq, rfl, HZ⟩ := hrel;have HBZ := hid HZ.out.bel;obtain ⟨re, ce, hve, hve1, hve2⟩ := HZ.out.ee.form;subst hve;obtain ⟨t0, t20, t21⟩ := HCE.out wr HBZ.out
             by_cases hlq : q < ol.length
             . obtain ⟨b4, o4, hr4, hb4, g4, hs4⟩ := str_at (HOD.out.below strR_mono HBZ.out) q hlq
               have hq0 : (0 : Int) <= (q : Int) := by omega
               have hq1 : (q : Int) < (ol.length : Int) := by omega
               rw [hr4] at t21;have HTK := hid (show E8 ++ (ol.take (q + 1)).map (fun d => (RS, d)) = (E8 ++ (ol.take q).map fun d => (RS, d)) ++ [(RS, ol[q])] by rw [List.take_succ_eq_append_getElem hlq, List.map_append, List.append_assoc]; rfl);have HS4 := hid hs4;have k0 := fun d os => cell_regrown t21 d os;have k1 := fun d os => cell_regrown g4 d os;have HLN := hid (show (E8 ++ (ol.take q).map fun d => (RS, d)).length + 1 <= 1000000 by have := HEL2.out; simp; omega);clear hs4 hr4;generalize ol[q] = S at *;generalize (E8 ++ (ol.take q).map fun d => (RS, d)) = EL9 at *;go_upto_region 21 with (fail)
               refine wp_region_tail_16_2 (fun qq => match qq with | 4 => some (sVal (.agg X)) | 5 => some (sVal (.string RS)) | 15 => some (sNew 1 (.cells #[.string RS, .string S] 64 (0, 0))) | _ => none) (by kernel_rfl) (by kernel_rfl) (by kernel_rfl) ?_
               iterate 4 (refine wpF_quiet (grw_ex _) (by kernel_rfl) rfl (noEnter_op (by rfl)) ?_; intro K hK; go_big_quiet_op; go_big_quiet_on)
               refine wpF_told (sVal (.agg X)) (by kernel_rfl) rfl ⟨_, rfl⟩ stTrue (fun w4 hw4 hE4 => ?_) ?_
               . have hb4 := grw_below hw4
                 obtain ⟨l1, l2⟩ := HLX.out w4 (HBZ.out.trans (hb4.mono HBZ.out.size));clear hw4 hE4 hb4;go_simp
                 exact ⟨Lat.refl _, rfl, trivial⟩
               rintro _ rfl
               (refine wpF_put ?_; intro K hK; go_simp; refine hK _ ?_; clear hK K)
               refine wpF_told (sVal (.string RS)) (by kernel_rfl) rfl ⟨_, rfl⟩ stTrue (fun w4 hw4 hE4 => ?_) ?_
               . have hb4 := grw_below hw4
                 have hh := HST.out w4;clear hw4 hE4 hb4;go_simp
                 go_at_call 20;refine Calls.mono hh ?_;rintro e w5 ⟨rfl, hb5⟩;exact ⟨_, rfl, hb5, rfl, trivial⟩
               rintro _ rfl
               (refine wpF_put ?_; intro K hK; go_simp; refine hK _ ?_; clear hK K)
               iterate 9 (refine wpF_quiet (grw_ex _) (by kernel_rfl) rfl (noEnter_op (by rfl)) ?_; intro K hK; go_big_quiet_op; go_big_quiet_on)
               refine wpF_told (sNew 1 (.cells #[.string RS, .string S] 64 (0, 0))) (by kernel_rfl) rfl ⟨_, 0, rfl⟩ (stNew _ _) (fun w4 hw4 hE4 => ?_) ?_
               . have hb4 := grw_below hw4
                 clear hw4 hE4;go_simp
                 exact ⟨(Below.refl _ _).alloc (Nat.le_refl _) _, ⟨_, rfl⟩, _, rfl, (MapKept.heap_alloc _ _).1⟩
               rintro _ ⟨nb, rfl⟩
               (refine wpF_put ?_; intro K hK; go_simp; refine hK _ ?_; clear hK K)
               refine wpF_nil ?_;intro w6 hw6 hE6;have hb6 := grw_below hw6;have hnb := sNew_at (hE6 15);clear hw6 hE6;have HW6 := hid hb6;have HNB := hid hnb;have HZ6 := hid (HZ.out.below hb6);have hz6 := HZ6.out.bel.size;simp only [seqW];refine wp_of_step rfl (step_ed (ops := #[]) (F := True) rfl _ _ rfl w.heap.size _ EL9 rfl HZ6.out.ee nb 1 (RS, S) rfl (fr := (0, 0)) HNB.out ⟨HRS.out, HS4.out⟩ HLN.out (by omega) w6.heap.size rfl ?_);intro g cap w7 hm7
               have HZ7 := hid (HZ6.out.edges hm7.1 hm7.2.1 (fun g' hg' => by
                     simp [Value.ownBlock] at hg';subst hg';rcases hm7.2.2.1 with h1 | h1
                     . exact Or.inl h1
                     . exact Or.inr (by omega)))
               rw [List.length_append, List.length_singleton] at HZ7;clear hm7 hb6 hnb;go_simp
               go_wp2_with fail
               go_roundg (ol.length - (q + 1))
               case measure => omega
               case rel => exact ⟨q + 1, by omega, by omega, by go_num, hid (by rw [HTK.out]; exact HZ7.out)⟩
             . obtain rfl : q = ol.length := by omega
               have E7h := hid (show (E8 ++ ol.map fun d => (RS, d)) = E8 ++ (ol.take ol.length).map fun d => (RS, d) by rw [List.take_length]);generalize (E8 ++ (ol.take ol.length).map fun d => (RS, d)) = E7 at *;have HIX := hid HZ.out;go_wp2_with fail
               clear HZ t0 t20 t21;go_roundg (cs.length - (k + 1))
               case measure => omega
               case rel => exact ⟨k + 1, by omega, by omega, by go_num, hid (by rw [HN1.out, HE1.out, List.map_append, <- List.append_assoc, E8h.out, E7h.out]; exact HIX.out)⟩
    . obtain rfl : k = cs.length := by omega
      have hz := HI.out;rw [List.take_length] at hz;have HZ := hid hz;clear hz;have HNL := hid (show (cs.flatMap nodC).length <= 60 * 121 from Nat.le_trans (flat_le (m := 121) fun y hy => by have := HLB.out.2 y hy; unfold nodC; simp; omega) (Nat.mul_le_mul HLB.out.1 (Nat.le_refl _)));have HEL0 := hid (show (cs.flatMap edgC).length <= 60 * 121 from Nat.le_trans (flat_le (m := 121) fun y hy => by have := HLB.out.2 y hy; unfold edgC; simp; omega) (Nat.mul_le_mul HLB.out.1 (Nat.le_refl _)));have HA2 := hid (fun (W : World) (hW : Below w.heap.size w W) => (HA.out W hW).mono fun e w' h => (⟨h.1, hW.trans (h.2.mono hW.size)⟩ : e = .returned (.bool true) /\ Below w.heap.size w w'));clear HI HB HA
      go_wp2_with (first
       | (go_at_call 26
          refine (HG.out.of _ _ _ _ _ HZ.out.nn.sl HZ.out.ee.sl (by have := HNL.out; omega) (by have := HEL0.out; omega)).mono ?_;rintro e w1 ⟨v1, v2, gn, ge, er, rfl, hgn, hge, hb1, hok⟩;obtain ⟨rA, cA, rfl, _⟩ := id hgn;obtain ⟨rB, cB, rfl, _⟩ := id hge;have hbz := HZ.out.bel.trans (hb1.mono HZ.out.bel.size);have HB1 := hid (fun o => hbz.alloc hbz.size o);have HGN := hid (fun o => hgn.below strR_mono ((Below.refl w1.heap.size w1).alloc (Nat.le_refl _) o));have HGE := hid (fun o => hge.below edR_mono ((Below.refl w1.heap.size w1).alloc (Nat.le_refl _) o));have HOK := hid hok;clear hgn hge hok hb1 hbz)
       | (go_at_call 27
          refine (HG.out.ord _ _ _ _ _ _ _ (HOK.out (by simpa using ‹(er != 0) = false›)) (HGN.out _) (HGE.out _)).mono ?_;rintro e w2 ⟨v3, er2, rfl, hb2, hok2⟩;have HB2 := hid ((HB1.out _).trans (hb2.mono (HB1.out _).size));have HOK2 := hid hok2;clear hb2 hok2)
       | (go_at_call 28
          refine (HPG.out _ HB2.out).mono ?_;rintro e w3 ⟨r3, c3, g3, rfl, hcl3, hS3, hb3⟩;have HB3 := hid (HB2.out.trans (hb3.mono HB2.out.size));have HCL3 := hid hcl3;have HS3 := hid hS3;clear hb3 hcl3 hS3)
       | (go_at_call 11
          refine (steps_prop HCL3.out _ _ _ (HT.out.below HB3.out) HS3.out HLB.out.1 (fun d hd => Nat.le_trans (HLB.out.2 d hd).1 (by omega)) (HOK2.out (by simpa using ‹(er2 != 0) = false›))).mono ?_;rintro e w4 ⟨v4, rfl, hb4⟩;have HB4 := hid (HB3.out.trans (hb4.mono HB3.out.size));clear hb4)
       | (go_at_call 10
          refine (HA2.out _ (by first | exact HB4.out | exact HB2.out | exact HB1.out _)).mono ?_;rintro e w9 ⟨rfl, hb9⟩;have HB9 := hid hb9;clear hb9))
      all_goals (go_ret; exact ⟨rfl, HB9.out⟩)
end Go.Proofs.YtpnogmicfomofaaGreatDoor.Stp
namespace Go.Proofs.YtpnogmicfomofaaGreatDoor.Stp
open Go.RowKit Go.Sort Go.Lib Go.Maps
open Go.Lib (hid)
open Adr (WT)
def GOKc (ns : List ByteArray) (es : List Ed) (gn : List ByteArray) (ge : List Ed) : Prop := gn = canB ns /\ ge = canE es /\ Go.Proofs.YtpnogmicfomofaaGreatDoor.endsIn gn es = true /\ ns.length <= 100000 /\ es.length <= 100000
theorem ends_can {ns : List ByteArray} {es : List Ed} (h : Go.Proofs.YtpnogmicfomofaaGreatDoor.endsIn ns es = true) : Go.Proofs.YtpnogmicfomofaaGreatDoor.endsIn ns (canE es) = true := by
 unfold Go.Proofs.YtpnogmicfomofaaGreatDoor.endsIn at h ⊢;rw [List.all_eq_true] at h ⊢;exact fun e he => h e (mem_canE.1 he)
theorem grC : GrC GOKc where
 of ns es vn ve W hn he h1 h2 := (of_any ns es vn ve W hn he (by omega) (by omega)).mono (by
  rintro e W' ⟨v1, v2, rfl, hs1, hs2, hb⟩;refine ⟨v1, v2, _, _, _, rfl, hs1, hs2, hb, fun h0 => ?_⟩;unfold ofG at h0 ⊢;split at h0
  . cases h0
  . rename_i hh
    split at h0
    . rename_i hq
      rw [if_neg hh, if_pos hq];exact ⟨rfl, rfl, hq, h1, h2⟩
    . cases h0)
 ord ns es gn ge v1 v2 W hg hs1 hs2 := by
  obtain ⟨rfl, rfl, hin, h1, h2⟩ := hg;have l1 := canB_len ns;have l2 := canE_len es;refine (order_any v1 _ _ v2 W hs1 hs2 (canB_asc ns) (ends_can hin) (by omega) (by omega)).mono ?_;rintro e W' ⟨v, rfl, _, hb⟩;refine ⟨v, _, rfl, hb, fun h0 => ?_⟩;obtain ⟨ρ, M, hM, hr⟩ := ord_rank h0 (ends_can hin);exact ⟨ρ, M, hM, fun e he => hr e (mem_canE.2 he)⟩
theorem acyclic_full (v : Value) (cs : List Ch) (w : World) (hS : Sl ChF 22 w v cs) (hT : WT w) :
  Calls Tryz.prog 8 #[v] w fun e w' => e = .returned (.bool true) /\ Below w.heap.size w w' :=
 acyclic_any GOKc grC v cs w hS hT
end Go.Proofs.YtpnogmicfomofaaGreatDoor.Stp
namespace Go.Proofs.YtpnogmicfomofaaGreatDoor.Blk
open Go.RowKit Go.Sort Go.ChangeShapes Go.WideShapes Go.ChangeAt
def Bk {H : Type} (B : Nat) (d : DataW H) : Prop := Rows.uptoBulk d <= B
theorem one_le {H : Type} (d : DataW H) : 1 <= Rows.uptoBulk d := by
 cases d with
 | lit l => cases l <;> simp [Rows.uptoBulk]
 | nil => simp [Rows.uptoBulk]
 | ptr d => simp [Rows.uptoBulk]
 | slice elems spare => simp [Rows.uptoBulk]
 | agg parts => simp [Rows.uptoBulk]
 | iface t d => simp [Rows.uptoBulk]
 | map entries => simp [Rows.uptoBulk]
 | held h => simp [Rows.uptoBulk]
theorem part_le {H : Type} {d : DataW H} : ∀ {l : List (DataW H)}, d ∈ l -> Rows.uptoBulk d <= Rows.uptoBulkAll l
 | x :: r, h => by
   rw [Rows.uptoBulkAll];rcases List.mem_cons.1 h with rfl | h
   . omega
   . have := part_le h; omega
theorem length_le {H : Type} : ∀ l : List (DataW H), l.length <= Rows.uptoBulkAll l
 | [] => by simp [Rows.uptoBulkAll]
 | x :: r => by have := one_le x; have := length_le r; simp only [Rows.uptoBulkAll, List.length_cons]; omega
theorem Bk.elem {H : Type} {B : Nat} {es rest : List (DataW H)} (h : Bk B (.slice es rest)) {d : DataW H} (hd : d ∈ es) : Bk B d := by
 have := part_le hd;simp only [Bk, Rows.uptoBulk] at *; omega
theorem Bk.len {H : Type} {B : Nat} {es rest : List (DataW H)} (h : Bk B (.slice es rest)) : es.length <= B := by
 have := length_le es;simp only [Bk, Rows.uptoBulk] at *; omega
theorem Bk.part {H : Type} {B : Nat} {ps : List (DataW H)} (h : Bk B (.agg ps)) {d : DataW H} (hd : d ∈ ps) : Bk B d := by
 have := part_le hd;simp only [Bk, Rows.uptoBulk] at *; omega
theorem sl_of_trod_b {α H : Type} {enc : TypeId × Value -> H} {P : Program} {w : World} {sz : Nat} {T E : TypeId} {fuel : Nat} {v : Value} {x : DataW H × List MemPlace} (R : World -> List Value -> α -> Prop) (B : Nat)
  (hT : P.underlying T = some (.slice E)) (hE : P.cellsOf E = sz) (hsz : 0 < sz)
  (hR : ∀ fuel', fuel' < fuel -> ∀ cs y, cs.length = sz -> Bk B y.1 -> DataW.trod enc P w 0 (fun _ => true) true fuel' E cs = some y -> ∃ z, R w cs z)
  (hw : Bk B x.1) (h : DataW.trod enc P w 0 (fun _ => true) true fuel T [v] = some x) : ∃ xs, Sl R sz w v xs /\ xs.length <= B := by
 rcases DataW.trod_slice hT h with ⟨hv, _⟩ | ⟨a, len, cap, elems, rest, m, hm, hv, hx, _, hl, hc, hlen, hget, _, _⟩
 . simp at hv; subst hv
   exact ⟨[], ⟨none, 0, rfl, Nat.le_refl _, by simp, fun i hi => absurd hi (by simp)⟩, by simp⟩
 . simp at hv; subst hv
   subst hx
   have hel : ∀ i, i < len -> ∃ cs' z, w.cells? 0 (a.add (i * P.cellsOf E)) (P.cellsOf E) = some cs' /\ DataW.trod enc P w 0 (fun _ => true) true m E cs' = some z /\ Bk B z.1 := fun i hi => by
    have h1 := hget i hi;rw [List.getElem?_eq_getElem (by omega)] at h1;obtain ⟨cs', e1, e2⟩ := Option.bind_eq_some_iff.1 h1;exact ⟨cs', _, e1, e2, hw.elem (List.mem_map_of_mem (List.getElem_mem _))⟩
   have key : ∀ i, i < len -> ∃ z, ∃ cs, cs.length = sz /\ (∀ (j : Nat) (u : Value), cs[j]? = some u -> w.cell? ⟨a.block, a.off + i * sz + j, none⟩ = some u) /\ a.spot = none /\ R w cs z := by
    intro i hi
    have h0 : a.spot = none := by
     obtain ⟨cs, _, hcs, _⟩ := hel 0 (by omega);obtain ⟨hlen, hcell⟩ := cells_list hcs;have hne : 0 < cs.length := by omega
     have := hcell 0 cs[0] (List.getElem?_eq_getElem hne);simp [Addr.add] at this;unfold World.cell? at this;split at this
     . split at this
       . cases this
       . rename_i hsp; simpa using hsp
     . cases this
    obtain ⟨cs, y, hcs, htr, hwt⟩ := hel i (by omega);obtain ⟨hlen, hcell⟩ := cells_list hcs;rw [hE] at hlen;obtain ⟨z, hz⟩ := hR m (by omega) _ _ hlen hwt htr;refine ⟨z, cs, hlen, fun j u hj => ?_, h0, hz⟩;have := hcell j u hj;rw [hE] at this
    have e : (a.add (i * sz)).add j = ⟨a.block, a.off + i * sz + j, none⟩ := by
     obtain ⟨ab, ao, asp⟩ := a;simp at h0;subst h0;unfold Addr.add
     by_cases hi0 : i * sz = 0 <;> by_cases hj0 : j = 0 <;> simp [hi0, hj0]
    rw [e] at this;exact this
   obtain ⟨xs, hxl, hxs⟩ := list_of len _ key;have hle := hw.len;rw [List.length_map, hlen] at hle;refine ⟨xs, ⟨some a, cap, by rw [hxl], by omega, hc, fun i hi => ?_⟩, by rw [hxl]; exact hle⟩;obtain ⟨cs, h1, h2, h3, h4⟩ := hxs i hi;refine ⟨a.block, a.off, cs, ?_, h1, h2, h4⟩;obtain ⟨ab, ao, asp⟩ := a;simp at h3;simp [h3]
theorem struct_b {H : Type} {enc : TypeId × Value -> H} {P : Program} {w : World} {T : TypeId} {fs : Array Field} {fuel B : Nat} {cs : List Value} {x : DataW H × List MemPlace}
  (hT : P.underlying T = some (.struct fs)) (hb : Bk B x.1) (h : DataW.trod enc P w 0 (fun _ => true) true fuel T cs = some x) :
  cs.length = P.cellsOf T /\ ∃ n, fuel = n + 1 /\ ∀ (k : Nat) (f : Field), fs[k]? = some f -> ∃ y, DataW.trod enc P w 0 (fun _ => true) true n f.type ((cs.drop f.offset).take (P.cellsOf f.type)) = some y /\ Bk B y.1 := by
 obtain ⟨xs, n, rfl, hy, hl, hxl, hf⟩ := DataW.trod_struct hT h;subst hy;refine ⟨hl, n, rfl, fun k f hk => ?_⟩;have hk2 : k < xs.length := by rw [hxl]; exact (Array.getElem?_eq_some_iff.1 hk).1
 refine ⟨xs[k], (hf k f hk).trans (List.getElem?_eq_getElem hk2), hb.part (List.mem_map_of_mem (List.getElem_mem hk2))⟩
theorem str_b {H : Type} {enc : TypeId × Value -> H} {P : Program} {w : World} {T : TypeId} {fuel B : Nat} {cs : List Value} {x : DataW H × List MemPlace} (hT : P.underlying T = some .string) (hb : Bk B x.1) (h : DataW.trod enc P w 0 (fun _ => true) true fuel T cs = some x) :
  ∃ s : ByteArray, cs = [.string s] /\ s.size <= maxLen /\ s.size <= B := by
 obtain ⟨s, h1, h2, h3⟩ := DataW.trod_string hT h;subst h2;refine ⟨s, h1, h3, ?_⟩;have : s.data.toList.length = s.size := by simp
 simp only [Bk, Rows.uptoBulk] at hb; omega
def StB (B : Nat) (w : World) (cs : List Value) (x : ByteArray) : Prop := StrR w cs x /\ x.size <= B
theorem stb_of_trod {H : Type} {enc : TypeId × Value -> H} {P : Program} {w : World} {T : TypeId} {B : Nat} (hT : P.underlying T = some .string) : ∀ fuel cs (y : DataW H × List MemPlace), Bk B y.1 -> DataW.trod enc P w 0 (fun _ => true) true fuel T cs = some y -> ∃ z, StB B w cs z := by
 intro fuel cs y hb h;obtain ⟨s, h1, h3, h4⟩ := str_b hT hb h;subst h1;exact ⟨s, ⟨rfl, h3⟩, h4⟩
theorem sl_imp {α : Type} {R R' : World -> List Value -> α -> Prop} {sz : Nat} {w : World} {v : Value} {xs : List α} (hR : ∀ cs x, R w cs x -> R' w cs x) (h : Sl R sz w v xs) : Sl R' sz w v xs := by
 obtain ⟨r, c, e, h1, h2, he⟩ := h;refine ⟨r, c, e, h1, h2, fun i hi => ?_⟩;obtain ⟨b, off, cs, hr, hs, hc, hx⟩ := he i hi;exact ⟨b, off, cs, hr, hs, hc, hR _ _ hx⟩
theorem sl_all {α : Type} {R : World -> List Value -> α -> Prop} {p : α -> Prop} {sz : Nat} {w : World} {v : Value} {xs : List α} (hR : ∀ cs x, R w cs x -> p x) (h : Sl R sz w v xs) : ∀ x ∈ xs, p x := by
 obtain ⟨r, c, e, h1, h2, he⟩ := h;intro x hx;obtain ⟨i, hi, rfl⟩ := List.mem_iff_getElem.1 hx;obtain ⟨b, off, cs, hr, hs, hc, hx⟩ := he i hi;exact hR _ _ hx
theorem field_str_b {H : Type} {enc : TypeId × Value -> H} {P : Program} {w : World} {T : TypeId} {fuel o B : Nat} {cs : List Value} {y : DataW H × List MemPlace} (hT : P.underlying T = some .string) (hb : Bk B y.1) (h : DataW.trod enc P w 0 (fun _ => true) true fuel T ((cs.drop o).take 1) = some y) :
  ∃ s, cs[o]? = some (.string s) /\ s.size <= maxLen /\ s.size <= B := by
 obtain ⟨s, h1, h3, h4⟩ := str_b hT hb h;exact ⟨s, cell_of_field h1, h3, h4⟩
theorem field_strs_b {H : Type} {enc : TypeId × Value -> H} {P : Program} {w : World} {T E : TypeId} {fuel o B : Nat} {cs : List Value} {y : DataW H × List MemPlace} (hT : P.underlying T = some (.slice E)) (hE : P.underlying E = some .string) (hc : P.cellsOf E = 1) (ho : o < cs.length) (hb : Bk B y.1)
  (h : DataW.trod enc P w 0 (fun _ => true) true fuel T ((cs.drop o).take 1) = some y) : ∃ v xs, cs[o]? = some v /\ Sl StrR 1 w v xs /\ xs.length <= B /\ ∀ x ∈ xs, x.size <= B := by
 rw [cell_of_slice_field ho] at h;obtain ⟨xs, h1, h2⟩ := sl_of_trod_b (StB B) B hT hc (by omega) (fun _ _ cs y _ hb h => stb_of_trod hE _ cs y hb h) hb h;exact ⟨_, xs, List.getElem?_eq_getElem ho, sl_imp (fun _ _ h => h.1) h1, h2, sl_all (fun _ _ h => h.2) h1⟩
end Go.Proofs.YtpnogmicfomofaaGreatDoor.Blk
namespace Go.Proofs.YtpnogmicfomofaaGreatDoor.Blk
open Go.RowKit Go.Sort Go.ChangeShapes Go.WideShapes Go.ChangeAt
theorem sum_le {α H : Type} (m : α -> Nat) : ∀ (xs : List α) (es : List (DataW H)), xs.length = es.length -> (∀ i (h1 : i < xs.length) (h2 : i < es.length), m xs[i] <= Rows.uptoBulk es[i]) -> (xs.map m).sum <= Rows.uptoBulkAll es
 | [], [], _, _ => by simp [Rows.uptoBulkAll]
 | x :: xs, e :: es, hl, h => by
   have h0 : m x <= Rows.uptoBulk e := h 0 (by simp) (by simp);have h1 := sum_le m xs es (by simpa using hl) fun i a b => h (i + 1) (by simpa using a) (by simpa using b);simp only [Rows.uptoBulkAll, List.map_cons, List.sum_cons]; omega
 | [], _ :: _, hl, _ => by simp at hl
 | _ :: _, [], hl, _ => by simp at hl
theorem five_le {H : Type} : ∀ (l : List (DataW H)) (h : 4 < l.length), Rows.uptoBulk l[0] + Rows.uptoBulk l[1] + Rows.uptoBulk l[2] + Rows.uptoBulk l[3] + Rows.uptoBulk l[4] <= Rows.uptoBulkAll l
 | a :: b :: c :: d :: e :: r, _ => by simp only [Rows.uptoBulkAll, List.getElem_cons_zero, List.getElem_cons_succ]; omega
theorem ones_sum {α : Type} : ∀ xs : List α, (xs.map fun _ => 1).sum = xs.length
 | [] => rfl
 | x :: xs => by rw [List.map_cons, List.sum_cons, ones_sum xs, List.length_cons]; omega
def meas (x : Val) : Nat := 6 * nodes x + nkeys x
theorem meas_sum : ∀ is : List Val, (is.map meas).sum = 6 * nodesL is + nkeysL is
 | [] => by simp [nodesL, nkeysL]
 | x :: xs => by rw [List.map_cons, List.sum_cons, meas_sum xs, nodesL, nkeysL, meas]; omega
theorem meas_mk (a b : Int) (s : ByteArray) (is : List Val) (ks : List ByteArray) : meas (.mk a b s is ks) = 6 + (is.map meas).sum + ks.length := by rw [meas_sum, meas, nodes, nkeys]; omega
theorem sl_of_trod_m {α H : Type} {enc : TypeId × Value -> H} {P : Program} {w : World} {sz : Nat} {T E : TypeId} {fuel : Nat} {v : Value} {x : DataW H × List MemPlace} (R : World -> List Value -> α -> Prop) (m : α -> Nat) (B : Nat)
  (hT : P.underlying T = some (.slice E)) (hE : P.cellsOf E = sz) (hsz : 0 < sz)
  (hR : ∀ fuel', fuel' < fuel -> ∀ cs y, cs.length = sz -> Bk B y.1 -> DataW.trod enc P w 0 (fun _ => true) true fuel' E cs = some y -> ∃ z, R w cs z /\ m z <= Rows.uptoBulk y.1)
  (hw : Bk B x.1) (h : DataW.trod enc P w 0 (fun _ => true) true fuel T [v] = some x) : ∃ xs, Sl R sz w v xs /\ xs.length <= B /\ (xs.map m).sum + 1 <= Rows.uptoBulk x.1 := by
 rcases DataW.trod_slice hT h with ⟨hv, _⟩ | ⟨a, len, cap, elems, rest, n, hm, hv, hx, _, hl, hc, hlen, hget, _, _⟩
 . simp at hv; subst hv
   exact ⟨[], ⟨none, 0, rfl, Nat.le_refl _, by simp, fun i hi => absurd hi (by simp)⟩, by simp, by have := one_le x.1; simpa using this⟩
 . simp at hv; subst hv
   subst hx
   have hel : ∀ i, i < len -> ∃ cs' z, w.cells? 0 (a.add (i * P.cellsOf E)) (P.cellsOf E) = some cs' /\ DataW.trod enc P w 0 (fun _ => true) true n E cs' = some z /\ Bk B z.1 /\ ∀ (h : i < elems.length), z = elems[i] := fun i hi => by
    have h1 := hget i hi;rw [List.getElem?_eq_getElem (by omega)] at h1;obtain ⟨cs', e1, e2⟩ := Option.bind_eq_some_iff.1 h1;exact ⟨cs', _, e1, e2, hw.elem (List.mem_map_of_mem (List.getElem_mem _)), fun _ => rfl⟩
   have key : ∀ i, i < len -> ∃ z, ∃ cs, cs.length = sz /\ (∀ (j : Nat) (u : Value), cs[j]? = some u -> w.cell? ⟨a.block, a.off + i * sz + j, none⟩ = some u) /\ a.spot = none /\ R w cs z /\ ∀ (h : i < elems.length), m z <= Rows.uptoBulk (elems[i]).1 := by
    intro i hi
    have h0 : a.spot = none := by
     obtain ⟨cs, _, hcs, _⟩ := hel 0 (by omega);obtain ⟨hlen, hcell⟩ := cells_list hcs;have hne : 0 < cs.length := by omega
     have := hcell 0 cs[0] (List.getElem?_eq_getElem hne);simp [Addr.add] at this;unfold World.cell? at this;split at this
     . split at this
       . cases this
       . rename_i hsp; simpa using hsp
     . cases this
    obtain ⟨cs, y, hcs, htr, hwt, hye⟩ := hel i (by omega);obtain ⟨hlen, hcell⟩ := cells_list hcs;rw [hE] at hlen;obtain ⟨z, hz, hzm⟩ := hR n (by omega) _ _ hlen hwt htr;refine ⟨z, cs, hlen, fun j u hj => ?_, h0, hz, fun h => by rw [<- hye h]; exact hzm⟩;have := hcell j u hj;rw [hE] at this
    have e : (a.add (i * sz)).add j = ⟨a.block, a.off + i * sz + j, none⟩ := by
     obtain ⟨ab, ao, asp⟩ := a;simp at h0;subst h0;unfold Addr.add
     by_cases hi0 : i * sz = 0 <;> by_cases hj0 : j = 0 <;> simp [hi0, hj0]
    rw [e] at this;exact this
   obtain ⟨xs, hxl, hxs⟩ := list_of len _ key;have hle := hw.len;rw [List.length_map, hlen] at hle;refine ⟨xs, ⟨some a, cap, by rw [hxl], by omega, hc, fun i hi => ?_⟩, by rw [hxl]; exact hle, ?_⟩
   rotate_left
   . have := sum_le m xs (elems.map (·.1)) (by simp; omega) fun i h1 h2 => by
      obtain ⟨_, _, _, _, _, h5⟩ := hxs i h1;rw [List.getElem_map];exact h5 (by simpa using h2)
     simp only [Rows.uptoBulk]; omega
   obtain ⟨cs, h1, h2, h3, h4, _⟩ := hxs i hi;refine ⟨a.block, a.off, cs, ?_, h1, h2, h4⟩;obtain ⟨ab, ao, asp⟩ := a;simp at h3;simp [h3]
theorem vr_of_trod_m {H : Type} {enc : TypeId × Value -> H} {P : Program} {w : World} {T TK TN TS TI TL : TypeId} {fs : Array Field} {B : Nat} (hB : B <= 10000000000000) (hT : P.underlying T = some (.struct fs)) (hc5 : P.cellsOf T = 5)
  (f0 : ∃ f, fs[0]? = some f /\ f.type = TK /\ f.offset = 0) (f1 : ∃ f, fs[1]? = some f /\ f.type = TN /\ f.offset = 1) (f2 : ∃ f, fs[2]? = some f /\ f.type = TS /\ f.offset = 2) (f3 : ∃ f, fs[3]? = some f /\ f.type = TI /\ f.offset = 3) (f4 : ∃ f, fs[4]? = some f /\ f.type = TL /\ f.offset = 4)
  (uK : P.underlying TK = some (.int .i64)) (cK : P.cellsOf TK = 1) (uN : P.underlying TN = some (.int .i64)) (cN : P.cellsOf TN = 1) (uS : P.underlying TS = some .string) (cS : P.cellsOf TS = 1)
  (uI : P.underlying TI = some (.slice T)) (cI : P.cellsOf TI = 1) (uL : P.underlying TL = some (.slice TS)) (cL : P.cellsOf TL = 1) :
  ∀ (fuel : Nat) (cs : List Value) (y : DataW H × List MemPlace), cs.length = 5 -> Bk B y.1 -> DataW.trod enc P w 0 (fun _ => true) true fuel T cs = some y -> ∃ x, VR w cs x /\ meas x <= Rows.uptoBulk y.1 := by
 intro fuel
 induction fuel using Nat.strongRecOn with
 | _ fuel ih =>
   intro cs y hl hwt h;obtain ⟨xs, n, rfl, hy, _, hxl, hff⟩ := DataW.trod_struct hT h;subst hy;obtain ⟨g0, e0, t0, o0⟩ := f0;obtain ⟨g1, e1, t1, o1⟩ := f1;obtain ⟨g2, e2, t2, o2⟩ := f2;obtain ⟨g3, e3, t3, o3⟩ := f3;obtain ⟨g4, e4, t4, o4⟩ := f4;have l0 : 0 < xs.length := by rw [hxl]; exact (Array.getElem?_eq_some_iff.1 e0).1
   have h0 := (hff 0 g0 e0).trans (List.getElem?_eq_getElem l0);have w0 := hwt.part (List.mem_map_of_mem (List.getElem_mem l0));have l1 : 1 < xs.length := by rw [hxl]; exact (Array.getElem?_eq_some_iff.1 e1).1
   have h1 := (hff 1 g1 e1).trans (List.getElem?_eq_getElem l1);have w1 := hwt.part (List.mem_map_of_mem (List.getElem_mem l1));have l2 : 2 < xs.length := by rw [hxl]; exact (Array.getElem?_eq_some_iff.1 e2).1
   have h2 := (hff 2 g2 e2).trans (List.getElem?_eq_getElem l2);have w2 := hwt.part (List.mem_map_of_mem (List.getElem_mem l2));have l3 : 3 < xs.length := by rw [hxl]; exact (Array.getElem?_eq_some_iff.1 e3).1
   have h3 := (hff 3 g3 e3).trans (List.getElem?_eq_getElem l3);have w3 := hwt.part (List.mem_map_of_mem (List.getElem_mem l3));have l4 : 4 < xs.length := by rw [hxl]; exact (Array.getElem?_eq_some_iff.1 e4).1
   have h4 := (hff 4 g4 e4).trans (List.getElem?_eq_getElem l4);have w4 := hwt.part (List.mem_map_of_mem (List.getElem_mem l4));rw [t0, o0, cK] at h0;rw [t1, o1, cN] at h1;rw [t2, o2, cS] at h2;rw [t3, o3, cI] at h3;rw [t4, o4, cL] at h4;obtain ⟨a, c0, wa⟩ := field_int uK h0;obtain ⟨b, c1, wb⟩ := field_int uN h1;obtain ⟨s, c2, ws⟩ := field_str uS h2;rw [cell_of_slice_field (by omega)] at h3 h4
   obtain ⟨ks, hK, hkl, hkm⟩ := sl_of_trod_m StrR (fun _ => 1) B uL cS (by omega) (fun _ _ cs y _ hb h => by
    obtain ⟨z, hz⟩ := stb_of_trod (B := B) uS _ cs y hb h;exact ⟨z, hz.1, one_le _⟩) w4 h4
   obtain ⟨is, hS, hsl, hsm⟩ := sl_of_trod_m VR meas B uI hc5 (by omega) (fun fuel' hlt cs' y' hl' hw' h' => ih fuel' (by omega) cs' y' hl' hw' h') w3 h3;obtain ⟨r', c', hv', _⟩ := id hS;have c3 : cs[3]? = some (.slice r' is.length c') := by rw [List.getElem?_eq_getElem (by omega), hv']
   rw [hv'] at hS;have c4 : cs[4]? = some cs[4] := List.getElem?_eq_getElem (by omega);have e := list_fit5 hl c0 c1 c2 c3 c4;refine ⟨.mk a b s is ks, ?_, ?_⟩
   rotate_left
   . have h5 := five_le (xs.map (·.1)) (by simpa using l4)
     simp only [List.getElem_map] at h5;have := one_le (xs[0]).1;have := one_le (xs[1]).1;have := one_le (xs[2]).1;rw [ones_sum] at hkm;rw [meas_mk];simp only [Rows.uptoBulk]; omega
   rw [e];exact VR.make (x := .mk a b s is ks) hS hK (bounds_i64 wa) (bounds_i64 wb) ws (by simp only [Val.keys]; omega) (by simp only [Val.items]; omega)
end Go.Proofs.YtpnogmicfomofaaGreatDoor.Blk
namespace Go.Proofs.YtpnogmicfomofaaGreatDoor.Stp
open Go.RowKit Go.Sort Go.ChangeShapes Go.WideShapes Go.ChangeAt
theorem kCC : Tryz.prog.cellsOf 31 = 22 := by kernel_rfl
theorem list_fit {cs l : List Value} (hl : cs.length = l.length) (h : ∀ i, i < l.length -> cs[i]? = l[i]?) : cs = l := by
 apply List.ext_getElem?;intro i
 by_cases hi : i < l.length
 . exact h i hi
 . rw [List.getElem?_eq_none (by omega), List.getElem?_eq_none (by omega)]
theorem sub_cell {cs : List Value} {o n k : Nat} {v : Value} (hk : k < n) (h : ((cs.drop o).take n)[k]? = some v) : cs[o + k]? = some v := by
 rw [List.getElem?_take, if_pos hk, List.getElem?_drop] at h;exact h
end Go.Proofs.YtpnogmicfomofaaGreatDoor.Stp
namespace Go.Proofs.YtpnogmicfomofaaGreatDoor.Stp
open Go.RowKit Go.Sort Go.ChangeShapes Go.WideShapes Go.ChangeAt
theorem zC0 : Tryz.prog.cellsOf 27 = 1 := by kernel_rfl
theorem zC1 : Tryz.prog.cellsOf 4 = 1 := by kernel_rfl
theorem zC2 : Tryz.prog.cellsOf 23 = 1 := by kernel_rfl
theorem zC3 : Tryz.prog.cellsOf 24 = 1 := by kernel_rfl
theorem zC4 : Tryz.prog.cellsOf 9 = 1 := by kernel_rfl
theorem zCV : Tryz.prog.cellsOf 29 = 5 := by kernel_rfl
theorem val_m {H : Type} {enc : TypeId × Value -> H} {w : World} {fuel B : Nat} {cs : List Value} {y : DataW H × List MemPlace} (hB : B <= 1048576) (hl : cs.length = 5) (hb : Blk.Bk B y.1) (h : DataW.trod enc Tryz.prog w 0 (fun _ => true) true fuel 29 cs = some y) :
  ∃ (x : Val) (r : Option Addr) (c : Nat) (rk : Option Addr) (ck : Nat), cs = [.int .i64 x.kind, .int .i64 x.num, .string x.str, .slice r x.items.length c, .slice rk x.keys.length ck] /\ VR5 w r c rk ck x /\ nodes x <= 1000000 /\ nkeys x <= 1100000 := by
 obtain ⟨x, hx, hm⟩ := Blk.vr_of_trod_m (by omega) Tryz.underlying29 (by kernel_rfl) ⟨_, rfl, rfl, rfl⟩ ⟨_, rfl, rfl, rfl⟩ ⟨_, rfl, rfl, rfl⟩ ⟨_, rfl, rfl, rfl⟩ ⟨_, rfl, rfl, rfl⟩ Tryz.underlying25 (by kernel_rfl) Tryz.underlying3 (by kernel_rfl) Tryz.underlying9 (by kernel_rfl) Tryz.underlying26 (by kernel_rfl) Tryz.underlying27 (by kernel_rfl) fuel cs y hl hb h;obtain ⟨r, c, vK, e, _, ⟨rk, ck, e2, _⟩, _⟩ := id hx.open';subst e2;subst e;unfold Blk.meas at hm;unfold Blk.Bk at hb;exact ⟨x, r, c, rk, ck, rfl, hx, by omega, by omega⟩
set_option maxRecDepth 100000 in
theorem chF_b {H : Type} {enc : TypeId × Value -> H} {w : World} {B : Nat} (hB : B <= 1048576) : ∀ fuel cs (y : DataW H × List MemPlace), cs.length = 22 -> Blk.Bk B y.1 -> DataW.trod enc Tryz.prog w 0 (fun _ => true) true fuel 31 cs = some y -> ∃ z, ChF w cs z := by
 intro fuel cs y hl hb h;obtain ⟨_, n, rfl, hf⟩ := Blk.struct_b Tryz.underlying31 hb h;obtain ⟨z0, h0, b0⟩ : ∃ y, DataW.trod enc Tryz.prog w 0 (fun _ => true) true n 9 ((cs.drop 0).take (Tryz.prog.cellsOf 9)) = some y /\ Blk.Bk B y.1 := hf 0 _ rfl;rw [zC4] at h0;obtain ⟨z1, h1, b1⟩ : ∃ y, DataW.trod enc Tryz.prog w 0 (fun _ => true) true n 9 ((cs.drop 1).take (Tryz.prog.cellsOf 9)) = some y /\ Blk.Bk B y.1 := hf 1 _ rfl;rw [zC4] at h1;obtain ⟨z2, h2, b2⟩ : ∃ y, DataW.trod enc Tryz.prog w 0 (fun _ => true) true n 9 ((cs.drop 2).take (Tryz.prog.cellsOf 9)) = some y /\ Blk.Bk B y.1 := hf 2 _ rfl;rw [zC4] at h2;obtain ⟨z3, h3, b3⟩ : ∃ y, DataW.trod enc Tryz.prog w 0 (fun _ => true) true n 23 ((cs.drop 3).take (Tryz.prog.cellsOf 23)) = some y /\ Blk.Bk B y.1 := hf 3 _ rfl;rw [zC2] at h3;obtain ⟨z4, h4, b4⟩ : ∃ y, DataW.trod enc Tryz.prog w 0 (fun _ => true) true n 24 ((cs.drop 4).take (Tryz.prog.cellsOf 24)) = some y /\ Blk.Bk B y.1 := hf 4 _ rfl;rw [zC3] at h4;obtain ⟨z5, h5, b5⟩ : ∃ y, DataW.trod enc Tryz.prog w 0 (fun _ => true) true n 29 ((cs.drop 5).take (Tryz.prog.cellsOf 29)) = some y /\ Blk.Bk B y.1 := hf 5 _ rfl;rw [zCV] at h5;obtain ⟨z6, h6, b6⟩ : ∃ y, DataW.trod enc Tryz.prog w 0 (fun _ => true) true n 29 ((cs.drop 10).take (Tryz.prog.cellsOf 29)) = some y /\ Blk.Bk B y.1 := hf 6 _ rfl;rw [zCV] at h6;obtain ⟨z7, h7, b7⟩ : ∃ y, DataW.trod enc Tryz.prog w 0 (fun _ => true) true n 9 ((cs.drop 15).take (Tryz.prog.cellsOf 9)) = some y /\ Blk.Bk B y.1 := hf 7 _ rfl;rw [zC4] at h7;obtain ⟨z8, h8, b8⟩ : ∃ y, DataW.trod enc Tryz.prog w 0 (fun _ => true) true n 27 ((cs.drop 16).take (Tryz.prog.cellsOf 27)) = some y /\ Blk.Bk B y.1 := hf 8 _ rfl;rw [zC0] at h8;obtain ⟨z9, h9, b9⟩ : ∃ y, DataW.trod enc Tryz.prog w 0 (fun _ => true) true n 4 ((cs.drop 17).take (Tryz.prog.cellsOf 4)) = some y /\ Blk.Bk B y.1 := hf 9 _ rfl;rw [zC1] at h9;obtain ⟨z10, h10, b10⟩ : ∃ y, DataW.trod enc Tryz.prog w 0 (fun _ => true) true n 4 ((cs.drop 18).take (Tryz.prog.cellsOf 4)) = some y /\ Blk.Bk B y.1 := hf 10 _ rfl;rw [zC1] at h10;obtain ⟨z11, h11, b11⟩ : ∃ y, DataW.trod enc Tryz.prog w 0 (fun _ => true) true n 4 ((cs.drop 19).take (Tryz.prog.cellsOf 4)) = some y /\ Blk.Bk B y.1 := hf 11 _ rfl;rw [zC1] at h11;obtain ⟨z12, h12, b12⟩ : ∃ y, DataW.trod enc Tryz.prog w 0 (fun _ => true) true n 27 ((cs.drop 20).take (Tryz.prog.cellsOf 27)) = some y /\ Blk.Bk B y.1 := hf 12 _ rfl;rw [zC0] at h12;obtain ⟨z13, h13, b13⟩ : ∃ y, DataW.trod enc Tryz.prog w 0 (fun _ => true) true n 27 ((cs.drop 21).take (Tryz.prog.cellsOf 27)) = some y /\ Blk.Bk B y.1 := hf 13 _ rfl;rw [zC0] at h13;obtain ⟨v0, e0, w0, _⟩ := Blk.field_str_b Tryz.underlying9 b0 h0;obtain ⟨v1, e1, w1, _⟩ := Blk.field_str_b Tryz.underlying9 b1 h1;obtain ⟨v2, e2, w2, _⟩ := Blk.field_str_b Tryz.underlying9 b2 h2;obtain ⟨v3, e3, w3⟩ := field_int Tryz.underlying23 h3;obtain ⟨v4, e4, w4⟩ := field_int Tryz.underlying24 h4;obtain ⟨x5, r5, c5, rk5, ck5, e5, v5, n5, k5⟩ := val_m hB (by rw [List.length_take, List.length_drop, hl]; decide) b5 h5;have e5_0 := sub_cell (k := 0) (by decide) (show ((cs.drop 5).take 5)[0]? = _ by rw [e5]; rfl);have e5_1 := sub_cell (k := 1) (by decide) (show ((cs.drop 5).take 5)[1]? = _ by rw [e5]; rfl);have e5_2 := sub_cell (k := 2) (by decide) (show ((cs.drop 5).take 5)[2]? = _ by rw [e5]; rfl);have e5_3 := sub_cell (k := 3) (by decide) (show ((cs.drop 5).take 5)[3]? = _ by rw [e5]; rfl);have e5_4 := sub_cell (k := 4) (by decide) (show ((cs.drop 5).take 5)[4]? = _ by rw [e5]; rfl);obtain ⟨x6, r6, c6, rk6, ck6, e6, v6, n6, k6⟩ := val_m hB (by rw [List.length_take, List.length_drop, hl]; decide) b6 h6;have e6_0 := sub_cell (k := 0) (by decide) (show ((cs.drop 10).take 5)[0]? = _ by rw [e6]; rfl);have e6_1 := sub_cell (k := 1) (by decide) (show ((cs.drop 10).take 5)[1]? = _ by rw [e6]; rfl);have e6_2 := sub_cell (k := 2) (by decide) (show ((cs.drop 10).take 5)[2]? = _ by rw [e6]; rfl);have e6_3 := sub_cell (k := 3) (by decide) (show ((cs.drop 10).take 5)[3]? = _ by rw [e6]; rfl);have e6_4 := sub_cell (k := 4) (by decide) (show ((cs.drop 10).take 5)[4]? = _ by rw [e6]; rfl);obtain ⟨v7, e7, w7, _⟩ := Blk.field_str_b Tryz.underlying9 b7 h7;obtain ⟨u8, xs8, e8, S8, l8, _⟩ := Blk.field_strs_b Tryz.underlying27 Tryz.underlying9 zC4 (by omega) b8 h8;obtain ⟨r8, c8, e8x, _⟩ := id S8;subst e8x;obtain ⟨v9, e9⟩ := field_bool Tryz.underlying4 h9;obtain ⟨v10, e10⟩ := field_bool Tryz.underlying4 h10;obtain ⟨v11, e11⟩ := field_bool Tryz.underlying4 h11;obtain ⟨u12, xs12, e12, S12, l12, _⟩ := Blk.field_strs_b Tryz.underlying27 Tryz.underlying9 zC4 (by omega) b12 h12;obtain ⟨r12, c12, e12x, _⟩ := id S12;subst e12x;obtain ⟨u13, xs13, e13, S13, l13, _⟩ := Blk.field_strs_b Tryz.underlying27 Tryz.underlying9 zC4 (by omega) b13 h13;obtain ⟨r13, c13, e13x, _⟩ := id S13;subst e13x;refine ⟨⟨v0, v3, v9, xs12, xs13⟩, ⟨v0, v1, v2, v3, v4, x5.kind, x5.num, x5.str, ⟨r5, x5.items.length, c5⟩, ⟨rk5, x5.keys.length, ck5⟩, x6.kind, x6.num, x6.str, ⟨r6, x6.items.length, c6⟩, ⟨rk6, x6.keys.length, ck6⟩, v7, ⟨r8, xs8.length, c8⟩, v9, v10, v11, ⟨r12, xs12.length, c12⟩, ⟨r13, xs13.length, c13⟩⟩, list_fit (by rw [hl]; rfl) (fun i hi => ?_), ⟨⟨rfl, rfl, rfl, bounds_i64 w3, S12, S13⟩, ⟨x5, rfl, rfl, rfl, rfl, rfl, v5, n5, k5⟩, ⟨x6, rfl, rfl, rfl, rfl, rfl, v6, n6, k6⟩, ⟨xs8, S8, by omega⟩, ⟨by show xs12.length <= _; omega, by show xs13.length <= _; omega⟩⟩⟩
 match i, hi with
 | 0, _ => exact e0
 | 1, _ => exact e1
 | 2, _ => exact e2
 | 3, _ => exact e3
 | 4, _ => exact e4
 | 5, _ => exact e5_0
 | 6, _ => exact e5_1
 | 7, _ => exact e5_2
 | 8, _ => exact e5_3
 | 9, _ => exact e5_4
 | 10, _ => exact e6_0
 | 11, _ => exact e6_1
 | 12, _ => exact e6_2
 | 13, _ => exact e6_3
 | 14, _ => exact e6_4
 | 15, _ => exact e7
 | 16, _ => exact e8
 | 17, _ => exact e9
 | 18, _ => exact e10
 | 19, _ => exact e11
 | 20, _ => exact e12
 | 21, _ => exact e13
 | k + 22, h => exact absurd (show k + 22 < 22 from h) (by omega)
set_option maxRecDepth 100000 in
theorem open_changes_b {H : Type} {enc : TypeId × Value -> H} {W : World} {base : Nat} {v : Value} {d : DataW H} {p : List MemPlace} (hb : Blk.Bk 1048576 d)
  (o : Value.okWide Tryz.prog W .any base 22 v) (h : DataW.Trod enc Tryz.prog W 0 (fun _ => true) true 22 v d p) : ∃ cs, Sl ChF 22 W v cs := by
 obtain ⟨a, len, cap, rfl⟩ := okWide_slice Tryz.underlying22 o;obtain ⟨fuel, hf⟩ := h;obtain ⟨xs, hS, _⟩ := Blk.sl_of_trod_b ChF 1048576 Tryz.underlying22 kCC (by omega) (fun f _ cs y hl hb h => chF_b (by omega) f cs y hl hb h) hb hf;exact ⟨xs, hS⟩
end Go.Proofs.YtpnogmicfomofaaGreatDoor.Stp
namespace Go.Proofs.YtpnogmicfomofaaGreatDoor
open Go.RowKit Go.Sort Go.ChangeShapes Go.WideShapes Go.ChangeAt
open Adr (WT)
set_option maxRecDepth 100000 in
theorem acyclic_from (H : Type) (enc : TypeId × Value -> H) (W : World) (base : Nat) (v0 : Value) (d0 : DataW H) (p0 : List MemPlace) (o0 : Value.okWide Tryz.prog W .any base 22 v0)
  (h0 : DataW.Trod enc Tryz.prog W 0 (fun _ => true) true 22 v0 d0 p0) (b0 : Blk.Bk 1048576 d0) (hu : WT W) :
  Calls Tryz.prog 8 #[v0] W fun e W' => e = .returned (.bool true) /\ Below W.heap.size W W' := by
 obtain ⟨cs, hS⟩ := Stp.open_changes_b b0 o0 h0;exact Stp.acyclic_full v0 cs W hS hu
end Go.Proofs.YtpnogmicfomofaaGreatDoor
