import Derived.Test.YtpnogmicfomofaaGreatDoorY7
import Derived.Lib.Bytes2
set_option linter.unusedVariables false
set_option linter.unusedSimpArgs false
namespace Go.Proofs.YtpnogmicfomofaaGreatDoor.Adr
open Go.RowKit Go.Sort Go.Lib Go.Maps
open Go.Lib (hid)
def plO (v : Value) (d : Bool) (ty nm : List UInt8) (k : KeyT) (wh : Bool) : Obj := .cells #[v, .bool d, .string ⟨ty.toArray⟩, .string ⟨nm.toArray⟩, .int .i64 k.1, .int .i64 k.2.1, .string ⟨k.2.2.toArray⟩, .bool wh] 91 (0, 0)
def plV (v : Value) (d : Bool) (ty nm : List UInt8) (k : KeyT) (wh : Bool) : Value := .agg #[v, .bool d, .string ⟨ty.toArray⟩, .string ⟨nm.toArray⟩, .int .i64 k.1, .int .i64 k.2.1, .string ⟨k.2.2.toArray⟩, .bool wh]
theorem pl_cells {W : World} {r : Nat} {v : Value} {d wh : Bool} {ty nm : List UInt8} {k : KeyT} (h : W.heap[r]? = some (plO v d ty nm k wh)) : (W.cell? ⟨r, 0, none⟩ = some v /\ W.cell? ⟨r, 1, none⟩ = some (.bool d) /\ W.cell? ⟨r, 2, none⟩ = some (.string ⟨ty.toArray⟩) /\ W.cell? ⟨r, 3, none⟩ = some (.string ⟨nm.toArray⟩) /\ W.cell? ⟨r, 4, none⟩ = some (.int .i64 k.1) /\ W.cell? ⟨r, 5, none⟩ = some (.int .i64 k.2.1) /\ W.cell? ⟨r, 6, none⟩ = some (.string ⟨k.2.2.toArray⟩) /\ W.cell? ⟨r, 7, none⟩ = some (.bool wh)) /\ (∀ o, W.frozen? ⟨r, o, none⟩ = false) /\ r < W.heap.size := by
 unfold plO at h;refine ⟨⟨by unfold World.cell?; simp [h], by unfold World.cell?; simp [h], by unfold World.cell?; simp [h], by unfold World.cell?; simp [h], by unfold World.cell?; simp [h], by unfold World.cell?; simp [h], by unfold World.cell?; simp [h], by unfold World.cell?; simp [h]⟩, fun o => by unfold World.frozen?; simp [h], lt_of_block h⟩
structure Pl (w : World) (W : World) (v : Value) (xs : List MS) (d : Bool) (ty nm : List UInt8) (k : KeyT) (wh : Bool) : Prop where
 ad : W.heap[w.heap.size + 1]? = some (plO v d ty nm k wh)
 re : W.heap[w.heap.size]? = some (plO (.slice none 0 0) false [] [] (0, 0, []) false)
 own : OwnM (w.heap.size + 2) W v xs
 bel : Below w.heap.size w W
 sz : w.heap.size + 2 <= W.heap.size
section
variable {w W : World} {v : Value} {xs : List MS} {d wh : Bool} {ty nm : List UInt8} {k : KeyT}
theorem ownM_far {B : Nat} (h : OwnM B W v xs) : ∀ g, v.ownBlock = some g -> B <= g /\ g < W.heap.size := World.ownsRow.lt h
theorem Pl.below {W' : World} (h : Pl w W v xs d ty nm k wh) (hb : Below W.heap.size W W') : Pl w W' v xs d ty nm k wh :=
 ⟨(hb.block _ (lt_of_block h.ad)).trans h.ad, (hb.block _ (lt_of_block h.re)).trans h.re, kept_off h.own (grown_below hb) (fun _ _ e => by cases e), h.bel.trans (hb.mono h.bel.size), Nat.le_trans h.sz hb.size⟩
theorem Pl.put {v' : Value} {xs' : List MS} {d' wh' : Bool} {ty' nm' : List UInt8} {k' : KeyT} (h : Pl w W v xs d ty nm k wh) (i : Nat) (u : Value) (e : (W.setCell ⟨w.heap.size + 1, i, none⟩ u).heap[w.heap.size + 1]? = some (plO v' d' ty' nm' k' wh')) (ho : OwnM (w.heap.size + 2) W v' xs') :
  Pl w (W.setCell ⟨w.heap.size + 1, i, none⟩ u) v' xs' d' ty' nm' k' wh' := by
 have hg := grown_setC W ⟨w.heap.size + 1, i, none⟩ u;refine ⟨e, (Below.heap_setCell _ _ _ _ (by simp)).trans h.re, kept_off ho hg (fun g hg2 e => ?_), h.bel.grown hg h.bel.size (fun k hk => by cases hk; show w.heap.size <= w.heap.size + 1; omega), Nat.le_trans h.sz hg.size⟩;have := ownM_far ho g hg2;simp at e;omega
theorem Pl.p1 (h : Pl w W v xs d ty nm k wh) (d2 : Bool) : Pl w (W.setCell ⟨w.heap.size + 1, 1, none⟩ (.bool d2)) v xs d2 ty nm k wh := by
 refine h.put 1 (.bool d2) ?_ h.own;have had := h.ad;unfold World.setCell plO at *;simp only [Array.getElem?_modify, if_true, had, Option.map_some];rfl
theorem Pl.p2 (h : Pl w W v xs d ty nm k wh) (s2 : List UInt8) : Pl w (W.setCell ⟨w.heap.size + 1, 2, none⟩ (.string ⟨s2.toArray⟩)) v xs d s2 nm k wh := by
 refine h.put 2 (.string ⟨s2.toArray⟩) ?_ h.own;have had := h.ad;unfold World.setCell plO at *;simp only [Array.getElem?_modify, if_true, had, Option.map_some];rfl
theorem Pl.p3 (h : Pl w W v xs d ty nm k wh) (s2 : List UInt8) : Pl w (W.setCell ⟨w.heap.size + 1, 3, none⟩ (.string ⟨s2.toArray⟩)) v xs d ty s2 k wh := by
 refine h.put 3 (.string ⟨s2.toArray⟩) ?_ h.own;have had := h.ad;unfold World.setCell plO at *;simp only [Array.getElem?_modify, if_true, had, Option.map_some];rfl
theorem Pl.p4 (h : Pl w W v xs d ty nm k wh) (k2 : KeyT) : Pl w (((W.setCell ⟨w.heap.size + 1, 4, none⟩ (.int .i64 k2.1)).setCell ⟨w.heap.size + 1, 5, none⟩ (.int .i64 k2.2.1)).setCell ⟨w.heap.size + 1, 6, none⟩ (.string ⟨k2.2.2.toArray⟩)) v xs d ty nm k2 wh := by
 have h1 : Pl w (W.setCell ⟨w.heap.size + 1, 4, none⟩ (.int .i64 k2.1)) v xs d ty nm (k2.1, k.2.1, k.2.2) wh := by
  refine h.put 4 (.int .i64 k2.1) ?_ h.own;have had := h.ad;unfold World.setCell plO at *;simp only [Array.getElem?_modify, if_true, had, Option.map_some];rfl
 have h2 : Pl w ((W.setCell ⟨w.heap.size + 1, 4, none⟩ (.int .i64 k2.1)).setCell ⟨w.heap.size + 1, 5, none⟩ (.int .i64 k2.2.1)) v xs d ty nm (k2.1, k2.2.1, k.2.2) wh := by
  refine h1.put 5 (.int .i64 k2.2.1) ?_ h1.own;have had := h1.ad;generalize W.setCell ⟨w.heap.size + 1, 4, none⟩ (.int .i64 k2.1) = Y at *;unfold World.setCell plO at *;simp only [Array.getElem?_modify, if_true, had, Option.map_some];rfl
 refine h2.put 6 (.string ⟨k2.2.2.toArray⟩) ?_ h2.own;have had := h2.ad;generalize (W.setCell ⟨w.heap.size + 1, 4, none⟩ (.int .i64 k2.1)).setCell ⟨w.heap.size + 1, 5, none⟩ (.int .i64 k2.2.1) = Y at *;unfold World.setCell plO at *;simp only [Array.getElem?_modify, if_true, had, Option.map_some];rfl
theorem Pl.p7 (h : Pl w W v xs d ty nm k wh) (d2 : Bool) : Pl w (W.setCell ⟨w.heap.size + 1, 7, none⟩ (.bool d2)) v xs d ty nm k d2 := by
 refine h.put 7 (.bool d2) ?_ h.own;have had := h.ad;unfold World.setCell plO at *;simp only [Array.getElem?_modify, if_true, had, Option.map_some];rfl
theorem Pl.app {W1 W2 : World} (h : Pl w W v xs d ty nm k wh) (hb : Below W.heap.size W W1) {y : MS} {H g cap len : Nat} (hl : len = xs.length + 1) (hm : MoreM (w.heap.size + 2) W1 v (xs ++ [y]) H g cap W2) :
  (W2.cell? ⟨w.heap.size + 1, 0, none⟩ = some v /\ W2.frozen? ⟨w.heap.size + 1, 0, none⟩ = false) /\ Pl w (W2.setCell ⟨w.heap.size + 1, 0, none⟩ (.slice (some ⟨g, 0, none⟩) len cap)) (.slice (some ⟨g, 0, none⟩) len cap) (xs ++ [y]) d ty nm k wh := by
 have hl2 : len = (xs ++ [y]).length := by simp [hl]
 rw [hl2];clear hl hl2;have h1 := h.below hb;have hf := ownM_far h1.own;have hg := hm.2.1;have hne : ∀ j, j < w.heap.size + 2 -> W2.heap[j]? = W1.heap[j]? := fun j hj => hg.block j (Nat.lt_of_lt_of_le hj h1.sz) (fun e => by have := (hf j e.symm).1; omega);have had := (hne _ (by omega)).trans h1.ad;have hre := (hne _ (by omega)).trans h1.re;obtain ⟨⟨c0, _⟩, cf, _⟩ := pl_cells had;refine ⟨⟨c0, cf 0⟩, ?_⟩;have hgs := grown_setC W2 ⟨w.heap.size + 1, 0, none⟩ (.slice (some ⟨g, 0, none⟩) (xs ++ [y]).length cap);have hbel : Below w.heap.size w W2 := h1.bel.grown hg h1.bel.size (fun k hk => by have := (hf k hk).1; omega);refine ⟨?_, (Below.heap_setCell _ _ _ _ (by simp)).trans hre, kept_off hm.1 hgs (fun g2 hg2 e => ?_), hbel.grown hgs hbel.size (fun k hk => by cases hk; show w.heap.size <= w.heap.size + 1; omega), Nat.le_trans (Nat.le_trans h1.sz hg.size) hgs.size⟩
 . unfold World.setCell plO at *
   simp only [Array.getElem?_modify, if_true, had, Option.map_some];rfl
 . have := (ownM_far hm.1 g2 hg2).1
   simp at e;omega
set_option maxHeartbeats 8000000 in
theorem Pl.fin (h : Pl w W v xs d ty nm k wh) (v2 : Value) (d2 : Bool) (ty2 nm2 : List UInt8) (k2 : KeyT) (wh2 : Bool) :
  ∃ W', W' = (((((((W.setCell ⟨w.heap.size, 0, none⟩ v2).setCell ⟨w.heap.size, 1, none⟩ (.bool d2)).setCell ⟨w.heap.size, 2, none⟩ (.string ⟨ty2.toArray⟩)).setCell ⟨w.heap.size, 3, none⟩ (.string ⟨nm2.toArray⟩)).setCell ⟨w.heap.size, 4, none⟩ (.int .i64 k2.1)).setCell ⟨w.heap.size, 5, none⟩ (.int .i64 k2.2.1)).setCell ⟨w.heap.size, 6, none⟩ (.string ⟨k2.2.2.toArray⟩)).setCell ⟨w.heap.size, 7, none⟩ (.bool wh2) /\
   W'.heap[w.heap.size]? = some (plO v2 d2 ty2 nm2 k2 wh2) /\ OwnM (w.heap.size + 2) W' v xs /\ Below w.heap.size w W' := by
 refine ⟨_, rfl, ?_, ?_, ?_⟩
 . have hre := h.re
   unfold World.setCell plO at *;simp only [Array.getElem?_modify, if_true, hre, Option.map_some];rfl
 . have hS : ∀ (X : World) (i : Nat) (u : Value), OwnM (w.heap.size + 2) X v xs -> OwnM (w.heap.size + 2) (X.setCell ⟨w.heap.size, i, none⟩ u) v xs := fun X i u ho => kept_off ho (grown_setC X _ u) (fun g hg2 e => by have := (ownM_far ho g hg2).1; simp at e; omega)
   exact hS _ _ _ (hS _ _ _ (hS _ _ _ (hS _ _ _ (hS _ _ _ (hS _ _ _ (hS _ _ _ (hS _ _ _ h.own)))))))
 . exact (((((((h.bel.setCell (Nat.le_refl _) _).setCell (Nat.le_refl _) _).setCell (Nat.le_refl _) _).setCell (Nat.le_refl _) _).setCell (Nat.le_refl _) _).setCell (Nat.le_refl _) _).setCell (Nat.le_refl _) _).setCell (Nat.le_refl _) _
end
theorem Pl.start (w : World) : Pl w ((w.alloc (plO (.slice none 0 0) false [] [] (0, 0, []) false)).alloc (plO (.slice none 0 0) false [] [] (0, 0, []) false)) (.slice none 0 0) [] false [] [] (0, 0, []) false := by
 have hb1 : Below w.heap.size w (w.alloc (plO (.slice none 0 0) false [] [] (0, 0, []) false)) := (Below.refl _ _).alloc (Nat.le_refl _) _;have n1 := ko_new w (plO (.slice none 0 0) false [] [] (0, 0, []) false);have s1 : (w.alloc (plO (.slice none 0 0) false [] [] (0, 0, []) false)).heap.size = w.heap.size + 1 := by simp [World.size_alloc]
 generalize w.alloc (plO (.slice none 0 0) false [] [] (0, 0, []) false) = w1 at *;have hb2 : Below w1.heap.size w1 (w1.alloc (plO (.slice none 0 0) false [] [] (0, 0, []) false)) := (Below.refl _ _).alloc (Nat.le_refl _) _;have n2 := ko_new w1 (plO (.slice none 0 0) false [] [] (0, 0, []) false);refine ⟨by rw [<- s1]; exact n2, (hb2.block _ (lt_of_block n1)).trans n1, ownM_nil _ _, hb1.trans (hb2.mono (by omega)), by simp [World.size_alloc]; omega⟩
theorem keyR_len (l : List UInt8) : (keyR l).2.1.length <= l.length := by
 unfold keyR;split
 . exact Nat.le_refl _
 . split
   . split
     . exact Nat.zero_le _
     . show (l.drop _).length <= l.length
       rw [List.length_drop]; omega
   . split
     . exact Nat.zero_le _
     . show (l.drop _).length <= l.length
       rw [List.length_drop]; omega
theorem stR_len (l : List UInt8) : (stR l).2.1.length <= l.length := by
 show (keyR (wdD l)).2.1.length <= l.length;have h1 := keyR_len (wdD l);have h2 := (wd_len l).2;omega
theorem pre_len7 {l : List UInt8} (h : ¬ Lib.hasPrefix l MODP = false) : 7 <= l.length := by
 have h1 : Lib.hasPrefix l MODP = true := by cases hh : Lib.hasPrefix l MODP with
  | true => rfl
  | false => exact absurd hh h
 exact Lib.hasPrefix_le h1
theorem stR_less {l : List UInt8} {n : Nat} (h1 : ¬ Lib.hasPrefix l MODP = false) (h3 : ¬ (stR (l.drop 7)).2.1 = []) (hn : l.length < n + 1) : (stR (l.drop 7)).2.1.tail.length < n := by
 have h7 := pre_len7 h1;have h4 := stR_len (l.drop 7);rw [List.length_drop] at h4;rw [List.length_tail];omega
theorem modsR_fuel : ∀ (n m : Nat) (l : List UInt8), l.length < n -> l.length < m -> modsR n l = modsR m l
 | 0, _, _, h, _ => by omega
 | _, 0, _, _, h => by omega
 | n + 1, m + 1, l, hn, hm => by
   rw [modsR, modsR]
   by_cases h1 : Lib.hasPrefix l MODP = false
   . rw [if_pos h1, if_pos h1]
   . rw [if_neg h1, if_neg h1]
     by_cases h2 : (stR (l.drop 7)).2.2 = false
     . rw [if_pos h2, if_pos h2]
     . rw [if_neg h2, if_neg h2]
       by_cases h3 : (stR (l.drop 7)).2.1 = []
       . rw [if_pos h3, if_pos h3]
       . rw [if_neg h3, if_neg h3]
         by_cases h4 : ((stR (l.drop 7)).2.1.getD 0 0).toNat ≠ 46
         . rw [if_pos h4, if_pos h4]
         . rw [if_neg h4, if_neg h4, modsR_fuel n m _ (stR_less h1 h3 hn) (stR_less h1 h3 hm)]
end Go.Proofs.YtpnogmicfomofaaGreatDoor.Adr
namespace Go.Proofs.YtpnogmicfomofaaGreatDoor.Adr
open Go.RowKit Go.Sort Go.Lib Go.Maps
open Go.Lib (hid)
def PlcP (l : List UInt8) (w : World) (e : Ending) (w' : World) : Prop :=
 ∃ v xs d ty nm k wh ok, e = .returned (.tuple #[plV v d ty nm k wh, .bool ok]) /\ OwnM (w.heap.size + 2) w' v xs /\ Below w.heap.size w w' /\
  ((ok = false /\ prR l = none) ∨ (ok = true /\ wh = false /\ ∃ xs', prR l = some (xs', none)) ∨ (ok = true /\ wh = true /\ prR l = some (xs, some (d, ty, nm, k))))
theorem modsR_one (l : List UInt8) : modsR (l.length + 1) l =
  if Lib.hasPrefix l MODP = false then some ([], some l)
  else if (stR (l.drop 7)).2.2 = false then none
  else if (stR (l.drop 7)).2.1 = [] then some ([(stR (l.drop 7)).1], none)
  else if ((stR (l.drop 7)).2.1.getD 0 0).toNat ≠ 46 then none
  else (modsR ((stR (l.drop 7)).2.1.tail.length + 1) (stR (l.drop 7)).2.1.tail).map fun x => ((stR (l.drop 7)).1 :: x.1, x.2) := by
 rw [modsR]
 by_cases h1 : Lib.hasPrefix l MODP = false
 . rw [if_pos h1, if_pos h1]
 . rw [if_neg h1, if_neg h1]
   by_cases h2 : (stR (l.drop 7)).2.2 = false
   . rw [if_pos h2, if_pos h2]
   . rw [if_neg h2, if_neg h2]
     by_cases h3 : (stR (l.drop 7)).2.1 = []
     . rw [if_pos h3, if_pos h3]
     . rw [if_neg h3, if_neg h3]
       by_cases h4 : ((stR (l.drop 7)).2.1.getD 0 0).toNat ≠ 46
       . rw [if_pos h4, if_pos h4]
       . rw [if_neg h4, if_neg h4, modsR_fuel l.length _ _ (stR_less h1 h3 (Nat.lt_succ_self _)) (Nat.lt_succ_self _)]
def Mds (l0 : List UInt8) (xs : List MS) (l : List UInt8) : Prop := modsR (l0.length + 1) l0 = (modsR (l.length + 1) l).map fun x => (xs ++ x.1, x.2)
theorem mds_start (l : List UInt8) : Mds l [] l := by
 unfold Mds;cases modsR (l.length + 1) l with
 | none => rfl
 | some x => simp
theorem mds_more {l0 l : List UInt8} {xs : List MS} (h : Mds l0 xs l) (h1 : Lib.hasPrefix l MODP = true) (h2 : (stR (l.drop 7)).2.2 = true) (h3 : ¬ (stR (l.drop 7)).2.1 = []) (h4 : ((stR (l.drop 7)).2.1.getD 0 0).toNat = 46) : Mds l0 (xs ++ [(stR (l.drop 7)).1]) (stR (l.drop 7)).2.1.tail := by
 unfold Mds at *;rw [h, modsR_one l, if_neg (by rw [h1]; simp), if_neg (by rw [h2]; simp), if_neg h3, if_neg (fun hc => hc h4)];cases modsR ((stR (l.drop 7)).2.1.tail.length + 1) (stR (l.drop 7)).2.1.tail with
 | none => rfl
 | some x => simp
theorem mds_bad {l0 l : List UInt8} {xs : List MS} (h : Mds l0 xs l) (h1 : Lib.hasPrefix l MODP = true) (h2 : (stR (l.drop 7)).2.2 = false ∨ (¬ (stR (l.drop 7)).2.1 = [] /\ ((stR (l.drop 7)).2.1.getD 0 0).toNat ≠ 46)) : prR l0 = none := by
 unfold prR;unfold Mds at h;rw [h, modsR_one l, if_neg (by rw [h1]; simp)];rcases h2 with h2 | ⟨h3, h4⟩
 . rw [if_pos h2]; rfl
 . by_cases h2 : (stR (l.drop 7)).2.2 = false
   . rw [if_pos h2]; rfl
   . rw [if_neg h2, if_neg h3, if_pos h4]; rfl
theorem mds_end {l0 l : List UInt8} {xs : List MS} (h : Mds l0 xs l) (h1 : Lib.hasPrefix l MODP = true) (h2 : (stR (l.drop 7)).2.2 = true) (h3 : (stR (l.drop 7)).2.1 = []) : ∃ xs', prR l0 = some (xs', none) := by
 unfold prR;unfold Mds at h;rw [h, modsR_one l, if_neg (by rw [h1]; simp), if_neg (by rw [h2]; simp), if_pos h3];exact ⟨_, rfl⟩
theorem mds_tl {l0 l : List UInt8} {xs : List MS} (h : Mds l0 xs l) (h1 : Lib.hasPrefix l MODP = false) : prR l0 = (tlR l).map fun t => (xs, some t) := by
 unfold prR;unfold Mds at h;rw [h, modsR_one l, if_pos h1];simp
end Go.Proofs.YtpnogmicfomofaaGreatDoor.Adr
namespace Go.Proofs.YtpnogmicfomofaaGreatDoor.Adr
open Go.RowKit Go.Sort Go.Lib Go.Maps
open Go.Lib (hid)
section
variable {w : World} {ops : Array Oper} {rest : List Oper} {o : Oper} {a : Act} {Q : Exit -> Act -> World -> Prop}
theorem app_m (hgd : o.guard = none) (s x : Operand) (ho : o.op = .call { callee := .builtin .append, args := #[s, x], argTypes := #[55, 55] })
  (B : Nat) (v : Value) (xs : List MS) (hs : a.eval s = v) (hown : OwnM B w v xs) (nb c : Nat) (y : MS) (hx : a.eval x = .slice (some ⟨nb, 0, none⟩) 1 c) {fr : Nat × Nat} (hy : w.heap[nb]? = some (.cells #[.string ⟨y.1.toArray⟩, .int .i64 y.2.1, .int .i64 y.2.2.1, .string ⟨y.2.2.2.toArray⟩] 119 fr))
  (hn : xs.length + 1 <= 2000000) (hbase : B <= w.heap.size) (H : Nat) (hH : w.heap.size = H)
  (h : ∀ g cap w', MoreM B w v (xs ++ [y]) H g cap w' -> wpList Tryz.prog ops Q rest (a.put o.dst (.slice (some ⟨g, 0, none⟩) (xs.length + 1) cap)) w') : wpList Tryz.prog ops Q (o :: rest) a w := by
 subst hH;refine wpList_append_rows encM encM_len encM_one Tryz.underlying55 msinfo rfl (by omega) (by omega) hgd s x ho B v xs hs hown nb 1 c [y] rfl (by omega) hx (fr := fr) hy hn hbase ?_;intro g cap w' h1 h2 h3 h4;exact h g cap w' (morem_of h1 h2 h3 h4)
end
theorem ownM_form {B : Nat} {w : World} {v : Value} {xs : List MS} (h : OwnM B w v xs) : ∃ r c, v = .slice r xs.length c /\ xs.length <= c /\ c <= maxLen := own_form h
theorem ls_nil {l : List UInt8} (h : l = []) : (⟨l.toArray⟩ : ByteArray).toList.isEmpty = true := by subst h; rw [ByteArray.toList_eq]; rfl
theorem ls_cons {l : List UInt8} (h : ¬ l = []) : (⟨l.toArray⟩ : ByteArray).toList.isEmpty = false := by
 rw [ByteArray.toList_eq];cases l with
 | nil => exact absurd rfl h
 | cons c r => rfl
theorem ls_size (l : List UInt8) : (⟨l.toArray⟩ : ByteArray).size = l.length := by simp [ByteArray.size]
theorem ls_at {l : List UInt8} (h : ¬ l = []) : ∃ hp : 0 < (⟨l.toArray⟩ : ByteArray).size, ((⟨l.toArray⟩ : ByteArray)[0]'hp) = l.getD 0 0 := by
 cases l with
 | nil => exact absurd rfl h
 | cons c r => exact ⟨by rw [ls_size]; simp, rfl⟩
theorem ls_ext (l : List UInt8) (n : Nat) : (⟨l.toArray⟩ : ByteArray).extract n (⟨l.toArray⟩ : ByteArray).size = ⟨(l.drop n).toArray⟩ := ext_arr ⟨l.toArray⟩ n
theorem tl_facts {l0 l : List UInt8} {xs : List MS} (h : prR l0 = (tlR l).map fun t => (xs, some t)) {ty rs : List UInt8} (h1 : wdL (Lib.trimPrefix l DATP) = ty) (h2 : wdD (Lib.trimPrefix l DATP) = rs) :
  ((idB ty = false ∨ rsv ty = true ∨ (rs.getD 0 0).toNat ≠ 46) -> prR l0 = none) /\
  (¬ (idB ty = false ∨ rsv ty = true ∨ (rs.getD 0 0).toNat ≠ 46) -> (idB (wdL rs.tail) = false ∨ (keyR (wdD rs.tail)).2.2 = false ∨ (keyR (wdD rs.tail)).2.1 ≠ []) -> prR l0 = none) /\
  (¬ (idB ty = false ∨ rsv ty = true ∨ (rs.getD 0 0).toNat ≠ 46) -> ¬ (idB (wdL rs.tail) = false ∨ (keyR (wdD rs.tail)).2.2 = false ∨ (keyR (wdD rs.tail)).2.1 ≠ []) -> prR l0 = some (xs, some (Lib.hasPrefix l DATP, ty, wdL rs.tail, (keyR (wdD rs.tail)).1))) := by
 subst h1 h2;refine ⟨fun a => ?_, fun a b => ?_, fun a b => ?_⟩
 . rw [h, show tlR l = none by unfold tlR; rw [if_pos a]]; rfl
 . rw [h, show tlR l = none by unfold tlR; rw [if_neg a, if_pos b]]; rfl
 . rw [h, show tlR l = some (Lib.hasPrefix l DATP, wdL (Lib.trimPrefix l DATP), wdL (wdD (Lib.trimPrefix l DATP)).tail, (keyR (wdD (wdD (Lib.trimPrefix l DATP)).tail)).1) by unfold tlR; rw [if_neg a, if_neg b]]; rfl
set_option maxRecDepth 100000 in
set_option maxHeartbeats 40000000 in
theorem rplace_any (s : ByteArray) (w : World) (hs : s.size <= 1200001) : Calls Tryz.prog 44 #[.string s] w (PlcP s.data.toList w) := by
 have I0 := hid (Pl.start w);unfold plO at I0;have HTL := hid True.intro;go_enter Tryz.func44, Tryz.ntmps44;go_wp2
 clear HTL;generalize hW0 : (World.alloc _ _) = W0 at *;go_loopg [0] (s.size + 1) (fun gg s0 wr => ∃ (b : ByteArray) (v : Value) (xs : List MS), s0 = .string b /\ b.size <= gg /\ b.size <= s.size /\ Hid (Pl w wr v xs false [] [] (0, 0, []) false) /\ Hid (Mds s.data.toList xs b.data.toList) /\ xs.length + b.size <= s.size)
 case atStart => exact ⟨s, _, [], rfl, by omega, Nat.le_refl _, I0, hid (mds_start _), by simp⟩
 case round =>
  clear I0;obtain ⟨b, v, xs, rfl, hgg, hls, HP, HM, hxl⟩ := hrel;obtain ⟨ro, co, hv, hc1, hc2⟩ := ownM_form HP.out.own;subst hv;have hsz : b.size <= 1200001 := by omega
  have hlen := size_list b;have HBG : Hid (∀ W : World, Calls Tryz.prog 68 #[.string b, .string ⟨#[109, 111, 100, 117, 108, 101, 46]⟩] W fun e w' => e = .returned (.bool (Lib.hasPrefix b.data.toList MODP)) /\ W = w') := hid (fun W => rbegins_any b ⟨#[109, 111, 100, 117, 108, 101, 46]⟩ W (by omega) (by decide));have HBD : Hid (∀ W : World, Calls Tryz.prog 68 #[.string b, .string ⟨#[100, 97, 116, 97, 46]⟩] W fun e w' => e = .returned (.bool (Lib.hasPrefix b.data.toList DATP)) /\ W = w') := hid (fun W => rbegins_any b ⟨#[100, 97, 116, 97, 46]⟩ W (by omega) (by decide));have HST0 := hid (fun (W : World) h7 => rstep_any b W hsz h7);have hx5 := extract_list b 5;obtain ⟨l, hl⟩ : ∃ l, b.data.toList = l := ⟨_, rfl⟩;rw [hl] at HBG HBD HM HST0 hlen hx5;have HBL := hid hl;clear hl;have HLN := hid (show xs.length + 1 <= 2000000 by omega);cases hm : Lib.hasPrefix l MODP with
  | true =>
    rw [hm] at HBG;have h7 := pre_len7 (l := l) (by rw [hm]; simp);have HST := hid (fun W => HST0.out W (by omega));have HBAD := hid (fun h => mds_bad HM.out hm h);have HEND := hid (fun h2 h3 => mds_end HM.out hm h2 h3);have HMORE := hid (fun h2 h3 h4 => mds_more HM.out hm h2 h3 h4);have hrlen := stR_len (l.drop 7);rw [List.length_drop] at hrlen;generalize stR (l.drop 7) = X at *;obtain ⟨⟨nm, kk, kn, kt⟩, rest, ok⟩ := X;simp only at HBAD HEND HMORE hrlen;clear HM hsz HBD HST0 hx5 HBL;cases ok with
    | false =>
      simp only [stV, StpV] at HST;have HRR := hid (HBAD.out (Or.inl rfl));clear HBAD HEND HMORE
      go_wp2_with (first
       | (go_at_call 68
          have hh := HBG.out;clear HBG;refine Calls.mono (hh _) ?_;clear hh;rintro e w1 ⟨rfl, rfl⟩
          )
       | (go_at_call 69
          have hh := HST.out;clear HST;refine Calls.mono (hh _) ?_;clear hh;rintro e w2 ⟨rfl, hb2⟩;have HA5 := hid (hb2.trans ((show Below w2.heap.size w2 (w2.alloc (.cells #[.string ⟨nm.toArray⟩, .int .i64 kk, .int .i64 kn, .string ⟨kt.toArray⟩] 119)) from (Below.refl _ _).alloc (Nat.le_refl _) _).mono hb2.size));have HP5 := hid (HP.out.below HA5.out);obtain ⟨⟨b0, b1, b2, b3, b4, b5, b6, b7⟩, bf, bl⟩ := pl_cells HP5.out.re;have bz0 := bf 0;have bz1 := bf 1;have bz2 := bf 2;have bz3 := bf 3;have bz4 := bf 4;have bz5 := bf 5;have bz6 := bf 6;have bz7 := bf 7;clear bf;clear hb2))
      obtain ⟨W9, hW9, f1, f2, f3⟩ := HP5.out.fin (.slice none 0 0) false [] [] (0, 0, []) false;obtain ⟨⟨r0, r1, r2, r3, r4, r5, r6, r7⟩, _, _⟩ := pl_cells f1
      first | rw [<- hW9] | (simp only [] at hW9; rw [<- hW9])
      exact bodyPost_ret (v := .tuple #[plV (.slice none 0 0) false [] [] (0, 0, []) false, .bool false]) (by simp [results, Tryz.results44, go_sem, plV, r0, r1, r2, r3, r4, r5, r6, r7]) rfl ⟨_, [], _, _, _, _, _, _, rfl, ownM_nil _ _, f3, Or.inl ⟨rfl, HRR.out⟩⟩
    | true =>
      by_cases hrs : rest = []
      . simp only [stV, StpV] at HST
        have HRR := hid (HEND.out rfl hrs);clear HBAD HEND HMORE;subst hrs
        go_wp2_with (first
         | (go_at_call 68
            have hh := HBG.out;clear HBG;refine Calls.mono (hh _) ?_;clear hh;rintro e w1 ⟨rfl, rfl⟩
            )
         | (go_at_call 69
            have hh := HST.out;clear HST;refine Calls.mono (hh _) ?_;clear hh;rintro e w2 ⟨rfl, hb2⟩;have HA5 := hid (hb2.trans ((show Below w2.heap.size w2 (w2.alloc (.cells #[.string ⟨nm.toArray⟩, .int .i64 kk, .int .i64 kn, .string ⟨kt.toArray⟩] 119)) from (Below.refl _ _).alloc (Nat.le_refl _) _).mono hb2.size));have HP5 := hid (HP.out.below HA5.out);obtain ⟨⟨a0, a1, a2, a3, a4, a5, a6, a7⟩, af, al⟩ := pl_cells HP5.out.ad;have az0 := af 0;have az1 := af 1;have az2 := af 2;have az3 := af 3;have az4 := af 4;have az5 := af 5;have az6 := af 6;have az7 := af 7;clear af;obtain ⟨s0, s1, s2, s3, _, s5⟩ := so_cells (n := nm) (k := kk) (m := kn) (t := kt) (ko_new w2 (sO nm kk kn kt));unfold sO at s0 s1 s2 s3;have HA6 := hid (show Below (w2.alloc (.cells #[.string ⟨nm.toArray⟩, .int .i64 kk, .int .i64 kn, .string ⟨kt.toArray⟩] 119)).heap.size (w2.alloc (.cells #[.string ⟨nm.toArray⟩, .int .i64 kk, .int .i64 kn, .string ⟨kt.toArray⟩] 119)) ((w2.alloc (.cells #[.string ⟨nm.toArray⟩, .int .i64 kk, .int .i64 kn, .string ⟨kt.toArray⟩] 119)).alloc (.cells #[.string ⟨nm.toArray⟩, .int .i64 kk, .int .i64 kn, .string ⟨kt.toArray⟩] 119)) from (Below.refl _ _).alloc (Nat.le_refl _) _)
            have HN6 := hid (show ((w2.alloc (.cells #[.string ⟨nm.toArray⟩, .int .i64 kk, .int .i64 kn, .string ⟨kt.toArray⟩] 119)).alloc (.cells #[.string ⟨nm.toArray⟩, .int .i64 kk, .int .i64 kn, .string ⟨kt.toArray⟩] 119)).heap[w2.heap.size + 1]? = some (.cells #[.string ⟨nm.toArray⟩, .int .i64 kk, .int .i64 kn, .string ⟨kt.toArray⟩] 119 (0, 0)) from by
             have h := ko_new (w2.alloc (.cells #[.string ⟨nm.toArray⟩, .int .i64 kk, .int .i64 kn, .string ⟨kt.toArray⟩] 119)) (sO nm kk kn kt);rw [show (w2.alloc (.cells #[.string ⟨nm.toArray⟩, .int .i64 kk, .int .i64 kn, .string ⟨kt.toArray⟩] 119)).heap.size = w2.heap.size + 1 by simp] at h;exact h)
            have HO6 := hid (show OwnM (w.heap.size + 2) ((w2.alloc (.cells #[.string ⟨nm.toArray⟩, .int .i64 kk, .int .i64 kn, .string ⟨kt.toArray⟩] 119)).alloc (.cells #[.string ⟨nm.toArray⟩, .int .i64 kk, .int .i64 kn, .string ⟨kt.toArray⟩] 119)) (.slice ro xs.length co) xs from kept_off HP5.out.own (grown_below HA6.out) (fun _ _ e => by cases e));have HZ6 := hid (show w.heap.size + 2 <= ((w2.alloc (.cells #[.string ⟨nm.toArray⟩, .int .i64 kk, .int .i64 kn, .string ⟨kt.toArray⟩] 119)).alloc (.cells #[.string ⟨nm.toArray⟩, .int .i64 kk, .int .i64 kn, .string ⟨kt.toArray⟩] 119)).heap.size from Nat.le_trans HP5.out.sz HA6.out.size);clear hb2)
         | (at_builtin
            refine app_m rfl _ _ rfl (w.heap.size + 2) (.slice ro xs.length co) xs rfl HO6.out (w2.heap.size + 1) 1 (nm, kk, kn, kt) rfl (fr := (0, 0)) (by exact HN6.out) HLN.out HZ6.out (w2.heap.size + 2) (by simp) ?_;intro g cap w8 hm8;have HM8 := hid (HP5.out.app HA6.out rfl hm8);obtain ⟨u1, u2⟩ := HM8.out.1;obtain ⟨⟨b0, b1, b2, b3, b4, b5, b6, b7⟩, bf, bl⟩ := pl_cells HM8.out.2.re;have bz0 := bf 0;have bz1 := bf 1;have bz2 := bf 2;have bz3 := bf 3;have bz4 := bf 4;have bz5 := bf 5;have bz6 := bf 6;have bz7 := bf 7;clear bf;obtain ⟨⟨c0, c1, c2, c3, c4, c5, c6, c7⟩, cf, cl⟩ := pl_cells HM8.out.2.ad;clear cf;clear hm8))
        obtain ⟨W9, hW9, f1, f2, f3⟩ := HM8.out.2.fin (.slice (some ⟨g, 0, none⟩) (xs.length + 1) cap) false [] [] (0, 0, []) false;obtain ⟨⟨r0, r1, r2, r3, r4, r5, r6, r7⟩, _, _⟩ := pl_cells f1
        first | rw [<- hW9] | (simp only [] at hW9; rw [<- hW9])
        exact bodyPost_ret (v := .tuple #[plV (.slice (some ⟨g, 0, none⟩) (xs.length + 1) cap) false [] [] (0, 0, []) false, .bool true]) (by simp [results, Tryz.results44, go_sem, plV, r0, r1, r2, r3, r4, r5, r6, r7]) rfl ⟨_, _, _, _, _, _, _, _, rfl, f2, f3, Or.inr (Or.inl ⟨rfl, rfl, HRR.out⟩)⟩
      . by_cases h46 : (rest.getD 0 0).toNat = 46
        . simp only [stV, StpV] at HST
          obtain ⟨rb, hrb, eL, ⟨hp0, hat⟩, hex⟩ : ∃ rb : ByteArray, rb = ⟨rest.toArray⟩ /\ rb.toList.isEmpty = false /\ (∃ hp : 0 < rb.size, (rb[0]'hp) = rest.getD 0 0) /\ rb.extract 1 rb.size = ⟨rest.tail.toArray⟩ := ⟨_, rfl, ls_cons hrs, ls_at hrs, by rw [ls_ext, List.drop_one]⟩;rw [<- hrb] at HST;clear hrb;have hpi : (0 : Int) < (rb.size : Int) := by omega
          have e46 : ((((rb[0]'hp0).toNat : Nat) : Int) != 46) = false := by rw [hat, h46]; rfl
          have hp1 : (1 : Int) <= (rb.size : Int) := by omega
          have HLX := hid hex;have HRL := hid hrlen;have HRR := hid (HMORE.out rfl hrs h46);clear hat hex hrlen hrs h46 HBAD HEND HMORE
          go_wp2_with (first
           | (go_at_call 68
              have hh := HBG.out;clear HBG;refine Calls.mono (hh _) ?_;clear hh;rintro e w1 ⟨rfl, rfl⟩
              )
           | (go_at_call 69
              have hh := HST.out;clear HST;refine Calls.mono (hh _) ?_;clear hh;rintro e w2 ⟨rfl, hb2⟩;have HA5 := hid (hb2.trans ((show Below w2.heap.size w2 (w2.alloc (.cells #[.string ⟨nm.toArray⟩, .int .i64 kk, .int .i64 kn, .string ⟨kt.toArray⟩] 119)) from (Below.refl _ _).alloc (Nat.le_refl _) _).mono hb2.size));have HP5 := hid (HP.out.below HA5.out);obtain ⟨⟨a0, a1, a2, a3, a4, a5, a6, a7⟩, af, al⟩ := pl_cells HP5.out.ad;have az0 := af 0;have az1 := af 1;have az2 := af 2;have az3 := af 3;have az4 := af 4;have az5 := af 5;have az6 := af 6;have az7 := af 7;clear af;obtain ⟨s0, s1, s2, s3, _, s5⟩ := so_cells (n := nm) (k := kk) (m := kn) (t := kt) (ko_new w2 (sO nm kk kn kt));unfold sO at s0 s1 s2 s3;have HA6 := hid (show Below (w2.alloc (.cells #[.string ⟨nm.toArray⟩, .int .i64 kk, .int .i64 kn, .string ⟨kt.toArray⟩] 119)).heap.size (w2.alloc (.cells #[.string ⟨nm.toArray⟩, .int .i64 kk, .int .i64 kn, .string ⟨kt.toArray⟩] 119)) ((w2.alloc (.cells #[.string ⟨nm.toArray⟩, .int .i64 kk, .int .i64 kn, .string ⟨kt.toArray⟩] 119)).alloc (.cells #[.string ⟨nm.toArray⟩, .int .i64 kk, .int .i64 kn, .string ⟨kt.toArray⟩] 119)) from (Below.refl _ _).alloc (Nat.le_refl _) _)
              have HN6 := hid (show ((w2.alloc (.cells #[.string ⟨nm.toArray⟩, .int .i64 kk, .int .i64 kn, .string ⟨kt.toArray⟩] 119)).alloc (.cells #[.string ⟨nm.toArray⟩, .int .i64 kk, .int .i64 kn, .string ⟨kt.toArray⟩] 119)).heap[w2.heap.size + 1]? = some (.cells #[.string ⟨nm.toArray⟩, .int .i64 kk, .int .i64 kn, .string ⟨kt.toArray⟩] 119 (0, 0)) from by
               have h := ko_new (w2.alloc (.cells #[.string ⟨nm.toArray⟩, .int .i64 kk, .int .i64 kn, .string ⟨kt.toArray⟩] 119)) (sO nm kk kn kt);rw [show (w2.alloc (.cells #[.string ⟨nm.toArray⟩, .int .i64 kk, .int .i64 kn, .string ⟨kt.toArray⟩] 119)).heap.size = w2.heap.size + 1 by simp] at h;exact h)
              have HO6 := hid (show OwnM (w.heap.size + 2) ((w2.alloc (.cells #[.string ⟨nm.toArray⟩, .int .i64 kk, .int .i64 kn, .string ⟨kt.toArray⟩] 119)).alloc (.cells #[.string ⟨nm.toArray⟩, .int .i64 kk, .int .i64 kn, .string ⟨kt.toArray⟩] 119)) (.slice ro xs.length co) xs from kept_off HP5.out.own (grown_below HA6.out) (fun _ _ e => by cases e));have HZ6 := hid (show w.heap.size + 2 <= ((w2.alloc (.cells #[.string ⟨nm.toArray⟩, .int .i64 kk, .int .i64 kn, .string ⟨kt.toArray⟩] 119)).alloc (.cells #[.string ⟨nm.toArray⟩, .int .i64 kk, .int .i64 kn, .string ⟨kt.toArray⟩] 119)).heap.size from Nat.le_trans HP5.out.sz HA6.out.size);clear hb2)
           | (at_builtin
              refine app_m rfl _ _ rfl (w.heap.size + 2) (.slice ro xs.length co) xs rfl HO6.out (w2.heap.size + 1) 1 (nm, kk, kn, kt) rfl (fr := (0, 0)) (by exact HN6.out) HLN.out HZ6.out (w2.heap.size + 2) (by simp) ?_;intro g cap w8 hm8;have HM8 := hid (HP5.out.app HA6.out rfl hm8);obtain ⟨u1, u2⟩ := HM8.out.1;clear hm8))
          go_roundg (b.size - 7)
          case measure => omega
          case rel =>
           have hrl := HRL.out;have hxs : (rb.extract 1 rb.size).size = rest.tail.length := by rw [HLX.out, ls_size]
           have hrt : rest.tail.length = rest.length - 1 := List.length_tail;exact ⟨rb.extract 1 rb.size, _, xs ++ [(nm, kk, kn, kt)], rfl, by rw [hxs]; omega, by rw [hxs]; omega, hid HM8.out.2, by rw [HLX.out]; exact HRR, by rw [hxs, List.length_append, List.length_singleton]; omega⟩
        . simp only [stV, StpV] at HST
          obtain ⟨rb, hrb, eL, ⟨hp0, hat⟩, hex⟩ : ∃ rb : ByteArray, rb = ⟨rest.toArray⟩ /\ rb.toList.isEmpty = false /\ (∃ hp : 0 < rb.size, (rb[0]'hp) = rest.getD 0 0) /\ rb.extract 1 rb.size = ⟨rest.tail.toArray⟩ := ⟨_, rfl, ls_cons hrs, ls_at hrs, by rw [ls_ext, List.drop_one]⟩;rw [<- hrb] at HST;clear hrb;have hpi : (0 : Int) < (rb.size : Int) := by omega
          have e46 : ((((rb[0]'hp0).toNat : Nat) : Int) != 46) = true := by rw [hat]; exact bne_iff_ne.2 (by omega)
          have HRR := hid (HBAD.out (Or.inr ⟨hrs, h46⟩));clear hat hex hrs h46 HBAD HEND HMORE
          go_wp2_with (first
           | (go_at_call 68
              have hh := HBG.out;clear HBG;refine Calls.mono (hh _) ?_;clear hh;rintro e w1 ⟨rfl, rfl⟩
              )
           | (go_at_call 69
              have hh := HST.out;clear HST;refine Calls.mono (hh _) ?_;clear hh;rintro e w2 ⟨rfl, hb2⟩;have HA5 := hid (hb2.trans ((show Below w2.heap.size w2 (w2.alloc (.cells #[.string ⟨nm.toArray⟩, .int .i64 kk, .int .i64 kn, .string ⟨kt.toArray⟩] 119)) from (Below.refl _ _).alloc (Nat.le_refl _) _).mono hb2.size));have HP5 := hid (HP.out.below HA5.out);obtain ⟨⟨a0, a1, a2, a3, a4, a5, a6, a7⟩, af, al⟩ := pl_cells HP5.out.ad;have az0 := af 0;have az1 := af 1;have az2 := af 2;have az3 := af 3;have az4 := af 4;have az5 := af 5;have az6 := af 6;have az7 := af 7;clear af;obtain ⟨s0, s1, s2, s3, _, s5⟩ := so_cells (n := nm) (k := kk) (m := kn) (t := kt) (ko_new w2 (sO nm kk kn kt));unfold sO at s0 s1 s2 s3;have HA6 := hid (show Below (w2.alloc (.cells #[.string ⟨nm.toArray⟩, .int .i64 kk, .int .i64 kn, .string ⟨kt.toArray⟩] 119)).heap.size (w2.alloc (.cells #[.string ⟨nm.toArray⟩, .int .i64 kk, .int .i64 kn, .string ⟨kt.toArray⟩] 119)) ((w2.alloc (.cells #[.string ⟨nm.toArray⟩, .int .i64 kk, .int .i64 kn, .string ⟨kt.toArray⟩] 119)).alloc (.cells #[.string ⟨nm.toArray⟩, .int .i64 kk, .int .i64 kn, .string ⟨kt.toArray⟩] 119)) from (Below.refl _ _).alloc (Nat.le_refl _) _)
              have HN6 := hid (show ((w2.alloc (.cells #[.string ⟨nm.toArray⟩, .int .i64 kk, .int .i64 kn, .string ⟨kt.toArray⟩] 119)).alloc (.cells #[.string ⟨nm.toArray⟩, .int .i64 kk, .int .i64 kn, .string ⟨kt.toArray⟩] 119)).heap[w2.heap.size + 1]? = some (.cells #[.string ⟨nm.toArray⟩, .int .i64 kk, .int .i64 kn, .string ⟨kt.toArray⟩] 119 (0, 0)) from by
               have h := ko_new (w2.alloc (.cells #[.string ⟨nm.toArray⟩, .int .i64 kk, .int .i64 kn, .string ⟨kt.toArray⟩] 119)) (sO nm kk kn kt);rw [show (w2.alloc (.cells #[.string ⟨nm.toArray⟩, .int .i64 kk, .int .i64 kn, .string ⟨kt.toArray⟩] 119)).heap.size = w2.heap.size + 1 by simp] at h;exact h)
              have HO6 := hid (show OwnM (w.heap.size + 2) ((w2.alloc (.cells #[.string ⟨nm.toArray⟩, .int .i64 kk, .int .i64 kn, .string ⟨kt.toArray⟩] 119)).alloc (.cells #[.string ⟨nm.toArray⟩, .int .i64 kk, .int .i64 kn, .string ⟨kt.toArray⟩] 119)) (.slice ro xs.length co) xs from kept_off HP5.out.own (grown_below HA6.out) (fun _ _ e => by cases e));have HZ6 := hid (show w.heap.size + 2 <= ((w2.alloc (.cells #[.string ⟨nm.toArray⟩, .int .i64 kk, .int .i64 kn, .string ⟨kt.toArray⟩] 119)).alloc (.cells #[.string ⟨nm.toArray⟩, .int .i64 kk, .int .i64 kn, .string ⟨kt.toArray⟩] 119)).heap.size from Nat.le_trans HP5.out.sz HA6.out.size);clear hb2)
           | (at_builtin
              refine app_m rfl _ _ rfl (w.heap.size + 2) (.slice ro xs.length co) xs rfl HO6.out (w2.heap.size + 1) 1 (nm, kk, kn, kt) rfl (fr := (0, 0)) (by exact HN6.out) HLN.out HZ6.out (w2.heap.size + 2) (by simp) ?_;intro g cap w8 hm8;have HM8 := hid (HP5.out.app HA6.out rfl hm8);obtain ⟨u1, u2⟩ := HM8.out.1;obtain ⟨⟨b0, b1, b2, b3, b4, b5, b6, b7⟩, bf, bl⟩ := pl_cells HM8.out.2.re;have bz0 := bf 0;have bz1 := bf 1;have bz2 := bf 2;have bz3 := bf 3;have bz4 := bf 4;have bz5 := bf 5;have bz6 := bf 6;have bz7 := bf 7;clear bf;clear hm8))
          obtain ⟨W9, hW9, f1, f2, f3⟩ := HM8.out.2.fin (.slice none 0 0) false [] [] (0, 0, []) false;obtain ⟨⟨r0, r1, r2, r3, r4, r5, r6, r7⟩, _, _⟩ := pl_cells f1
          first | rw [<- hW9] | (simp only [] at hW9; rw [<- hW9])
          exact bodyPost_ret (v := .tuple #[plV (.slice none 0 0) false [] [] (0, 0, []) false, .bool false]) (by simp [results, Tryz.results44, go_sem, plV, r0, r1, r2, r3, r4, r5, r6, r7]) rfl ⟨_, [], _, _, _, _, _, _, rfl, ownM_nil _ _, f3, Or.inl ⟨rfl, HRR.out⟩⟩
  | false =>
    rw [hm] at HBG;clear HST0;cases hd : Lib.hasPrefix l DATP with
    | false =>
      rw [hd] at HBD;have HP1 := HP;have hbl : b.data.toList = Lib.trimPrefix l DATP := HBL.out.trans (trim_no hd).symm;have hbs : b.size <= 1200001 := hsz;have HW1 := hid (fun W => rword_any b W (by omega));unfold WdR at HW1;have hw := wd_len b.data.toList;rw [size_list] at hw;rw [hbl] at HW1 hw;obtain ⟨ty, hty⟩ : ∃ ty, wdL (Lib.trimPrefix l DATP) = ty := ⟨_, rfl⟩;obtain ⟨rs, hrs⟩ : ∃ rs, wdD (Lib.trimPrefix l DATP) = rs := ⟨_, rfl⟩;obtain ⟨hF1, hF2, hF3⟩ := tl_facts (mds_tl HM.out hm) hty hrs;rw [hd] at hF3;rw [hty, hrs] at HW1 hw;obtain ⟨hw1, hw2⟩ := hw;clear hty hrs hbl;have HI1 : Hid (∀ W : World, Calls Tryz.prog 71 #[.string ⟨ty.toArray⟩] W fun e w' => e = .returned (.bool (idB ty)) /\ W = w') := hid (fun W => rident_any ⟨ty.toArray⟩ W (by rw [ls_size]; omega));have HRV : Hid (∀ W : World, Calls Tryz.prog 72 #[.string ⟨ty.toArray⟩] W fun e w' => e = .returned (.bool (rsv ty)) /\ Below W.heap.size W w') := hid (fun W => rreserved_any ⟨ty.toArray⟩ W);obtain ⟨tb, htb⟩ : ∃ tb : ByteArray, tb = ⟨ty.toArray⟩ := ⟨_, rfl⟩;obtain ⟨rsb, hrsb⟩ : ∃ tb : ByteArray, tb = ⟨rs.toArray⟩ := ⟨_, rfl⟩;rw [<- htb] at HW1 HI1 HRV;rw [<- hrsb] at HW1;have hex : rsb.extract 1 rsb.size = ⟨rs.tail.toArray⟩ := by rw [hrsb, ls_ext, List.drop_one]
      have hrz : rsb.size = rs.length := by rw [hrsb, ls_size]
      have hrt : rs.tail.length = rs.length - 1 := List.length_tail;have hw3 := wd_len rs.tail
      have HW2 : Hid (∀ W : World, Calls Tryz.prog 70 #[.string (rsb.extract 1 rsb.size)] W fun e w' => e = .returned (.tuple #[.string ⟨(wdL rs.tail).toArray⟩, .string ⟨(wdD rs.tail).toArray⟩]) /\ Below W.heap.size W w') := by
       rw [hex];exact hid (fun W => rword_any ⟨rs.tail.toArray⟩ W (by rw [ls_size]; omega))
      obtain ⟨nm, hnm⟩ : ∃ ty, wdL rs.tail = ty := ⟨_, rfl⟩;obtain ⟨kd, hkd⟩ : ∃ rs', wdD rs.tail = rs' := ⟨_, rfl⟩;rw [hnm, hkd] at HW2 hF2 hF3 hw3;obtain ⟨hw4, hw5⟩ := hw3;have HI2 : Hid (∀ W : World, Calls Tryz.prog 71 #[.string ⟨nm.toArray⟩] W fun e w' => e = .returned (.bool (idB nm)) /\ W = w') := hid (fun W => rident_any ⟨nm.toArray⟩ W (by rw [ls_size]; omega));have HKY : Hid (∀ W : World, Calls Tryz.prog 73 #[.string ⟨kd.toArray⟩] W fun e w' => e = KyR (keyR kd) /\ Below W.heap.size W w') := hid (fun W => rkey_any ⟨kd.toArray⟩ W (by rw [ls_size]; omega));generalize keyR kd = X at *;obtain ⟨⟨kk, kn, kt⟩, r3, ok⟩ := X;unfold KyR kV at HKY;simp only at HKY hF2 hF3;obtain ⟨nb, hnb⟩ : ∃ tb : ByteArray, tb = ⟨nm.toArray⟩ := ⟨_, rfl⟩;obtain ⟨kb, hkb⟩ : ∃ tb : ByteArray, tb = ⟨kd.toArray⟩ := ⟨_, rfl⟩;obtain ⟨r3b, hr3b⟩ : ∃ tb : ByteArray, tb = ⟨r3.toArray⟩ := ⟨_, rfl⟩;rw [<- hnb] at HW2 HI2;rw [<- hkb] at HW2 HKY;rw [<- hr3b] at HKY;clear hw1 hw2 hw4 hw5 hbs hex hnm hkd hrt hkb HM hsz;clear hx5 hlen HBL hd hls hxl hgg;cases hi1 : idB ty with
      | false =>
        have HRR := hid (hF1 (Or.inl hi1));rw [hi1] at HI1;clear hF1 hF2 hF3 hi1 htb hrsb hnb hr3b
        go_wp2_with (first
         | (go_at_call 68
            have hh := HBG.out;clear HBG;refine Calls.mono (hh _) ?_;clear hh;rintro e w1 ⟨rfl, rfl⟩)
         | (go_at_call 68
            have hh := HBD.out;clear HBD;refine Calls.mono (hh _) ?_;clear hh;rintro e w1 ⟨rfl, rfl⟩)
         | (go_at_call 70
            have hh := HW1.out;clear HW1;refine Calls.mono (hh _) ?_;clear hh;rintro e w3 ⟨rfl, hb3⟩;have HP3 := hid (HP1.out.below hb3);obtain ⟨⟨b0, b1, b2, b3, b4, b5, b6, b7⟩, bf, bl⟩ := pl_cells HP3.out.re;have bz0 := bf 0;have bz1 := bf 1;have bz2 := bf 2;have bz3 := bf 3;have bz4 := bf 4;have bz5 := bf 5;have bz6 := bf 6;have bz7 := bf 7;clear bf;clear hb3)
         | (go_at_call 71
            have hh := HI1.out;clear HI1;refine Calls.mono (hh _) ?_;clear hh;rintro e w4 ⟨rfl, rfl⟩))
        obtain ⟨W9, hW9, f1, f2, f3⟩ := HP3.out.fin (.slice none 0 0) false [] [] (0, 0, []) false;obtain ⟨⟨r0, r1, r2, r3, r4, r5, r6, r7⟩, _, _⟩ := pl_cells f1
        first | rw [<- hW9] | (simp only [] at hW9; rw [<- hW9])
        exact bodyPost_ret (v := .tuple #[plV (.slice none 0 0) false [] [] (0, 0, []) false, .bool false]) (by simp [results, Tryz.results44, go_sem, plV, r0, r1, r2, r3, r4, r5, r6, r7]) rfl ⟨_, [], _, _, _, _, _, _, rfl, ownM_nil _ _, f3, Or.inl ⟨rfl, HRR.out⟩⟩
      | true =>
        rw [hi1] at HI1;cases hv : rsv ty with
        | true =>
          have HRR := hid (hF1 (Or.inr (Or.inl hv)));rw [hv] at HRV;clear hF1 hF2 hF3 hi1 hv htb hrsb hnb hr3b
          go_wp2_with (first
           | (go_at_call 68
              have hh := HBG.out;clear HBG;refine Calls.mono (hh _) ?_;clear hh;rintro e w1 ⟨rfl, rfl⟩)
           | (go_at_call 68
              have hh := HBD.out;clear HBD;refine Calls.mono (hh _) ?_;clear hh;rintro e w1 ⟨rfl, rfl⟩)
           | (go_at_call 70
              have hh := HW1.out;clear HW1;refine Calls.mono (hh _) ?_;clear hh;rintro e w3 ⟨rfl, hb3⟩;have HP3 := hid (HP1.out.below hb3);clear hb3)
           | (go_at_call 71
              have hh := HI1.out;clear HI1;refine Calls.mono (hh _) ?_;clear hh;rintro e w4 ⟨rfl, rfl⟩)
           | (go_at_call 72
              have hh := HRV.out;clear HRV;refine Calls.mono (hh _) ?_;clear hh;rintro e w5 ⟨rfl, hb5⟩;have HP5 := hid (HP3.out.below hb5);obtain ⟨⟨b0, b1, b2, b3, b4, b5, b6, b7⟩, bf, bl⟩ := pl_cells HP5.out.re;have bz0 := bf 0;have bz1 := bf 1;have bz2 := bf 2;have bz3 := bf 3;have bz4 := bf 4;have bz5 := bf 5;have bz6 := bf 6;have bz7 := bf 7;clear bf;clear hb5))
          obtain ⟨W9, hW9, f1, f2, f3⟩ := HP5.out.fin (.slice none 0 0) false [] [] (0, 0, []) false;obtain ⟨⟨r0, r1, r2, r3, r4, r5, r6, r7⟩, _, _⟩ := pl_cells f1
          first | rw [<- hW9] | (simp only [] at hW9; rw [<- hW9])
          exact bodyPost_ret (v := .tuple #[plV (.slice none 0 0) false [] [] (0, 0, []) false, .bool false]) (by simp [results, Tryz.results44, go_sem, plV, r0, r1, r2, r3, r4, r5, r6, r7]) rfl ⟨_, [], _, _, _, _, _, _, rfl, ownM_nil _ _, f3, Or.inl ⟨rfl, HRR.out⟩⟩
        | false =>
          rw [hv] at HRV
          by_cases hrn : rs = []
          . have HRR := hid (hF1 (Or.inr (Or.inr (by subst hrn; decide))))
            have eL : rsb.toList.isEmpty = true := by subst hrsb; exact ls_nil hrn
            clear hF1 hF2 hF3 hi1 hv hrn htb hrsb hnb hr3b hrz
            go_wp2_with (first
             | (go_at_call 68
                have hh := HBG.out;clear HBG;refine Calls.mono (hh _) ?_;clear hh;rintro e w1 ⟨rfl, rfl⟩)
             | (go_at_call 68
                have hh := HBD.out;clear HBD;refine Calls.mono (hh _) ?_;clear hh;rintro e w1 ⟨rfl, rfl⟩)
             | (go_at_call 70
                have hh := HW1.out;clear HW1;refine Calls.mono (hh _) ?_;clear hh;rintro e w3 ⟨rfl, hb3⟩;have HP3 := hid (HP1.out.below hb3);clear hb3)
             | (go_at_call 71
                have hh := HI1.out;clear HI1;refine Calls.mono (hh _) ?_;clear hh;rintro e w4 ⟨rfl, rfl⟩)
             | (go_at_call 72
                have hh := HRV.out;clear HRV;refine Calls.mono (hh _) ?_;clear hh;rintro e w5 ⟨rfl, hb5⟩;have HP5 := hid (HP3.out.below hb5);obtain ⟨⟨b0, b1, b2, b3, b4, b5, b6, b7⟩, bf, bl⟩ := pl_cells HP5.out.re;have bz0 := bf 0;have bz1 := bf 1;have bz2 := bf 2;have bz3 := bf 3;have bz4 := bf 4;have bz5 := bf 5;have bz6 := bf 6;have bz7 := bf 7;clear bf;clear hb5))
            obtain ⟨W9, hW9, f1, f2, f3⟩ := HP5.out.fin (.slice none 0 0) false [] [] (0, 0, []) false;obtain ⟨⟨r0, r1, r2, r3, r4, r5, r6, r7⟩, _, _⟩ := pl_cells f1
            first | rw [<- hW9] | (simp only [] at hW9; rw [<- hW9])
            exact bodyPost_ret (v := .tuple #[plV (.slice none 0 0) false [] [] (0, 0, []) false, .bool false]) (by simp [results, Tryz.results44, go_sem, plV, r0, r1, r2, r3, r4, r5, r6, r7]) rfl ⟨_, [], _, _, _, _, _, _, rfl, ownM_nil _ _, f3, Or.inl ⟨rfl, HRR.out⟩⟩
          . obtain ⟨hp0, hat⟩ : ∃ hp : 0 < rsb.size, (rsb[0]'hp) = rs.getD 0 0 := by subst hrsb; exact ls_at hrn
            have eL : rsb.toList.isEmpty = false := by subst hrsb; exact ls_cons hrn
            clear hrsb;have hpi : (0 : Int) < (rsb.size : Int) := by omega
            by_cases h46 : (rs.getD 0 0).toNat = 46
            . have e46 : ((((rsb[0]'hp0).toNat : Nat) : Int) != 46) = false := by rw [hat, h46]; rfl
              have hp1 : (1 : Int) <= (rsb.size : Int) := by omega
              have N1 : ¬ (idB ty = false ∨ rsv ty = true ∨ (rs.getD 0 0).toNat ≠ 46) := fun h => by
               rcases h with h | h | h
               . rw [hi1] at h; cases h
               . rw [hv] at h; cases h
               . exact h h46
              have hF2 := hF2 N1;have hF3 := hF3 N1;clear hF1 N1 hat h46 hrn hi1 hv hrz;cases hi2 : idB nm with
              | false =>
                have HRR := hid (hF2 (Or.inl hi2));rw [hi2] at HI2;clear hF2 hF3 hi2 htb hnb hr3b
                go_wp2_with (first
                 | (go_at_call 68
                    have hh := HBG.out;clear HBG;refine Calls.mono (hh _) ?_;clear hh;rintro e w1 ⟨rfl, rfl⟩)
                 | (go_at_call 68
                    have hh := HBD.out;clear HBD;refine Calls.mono (hh _) ?_;clear hh;rintro e w1 ⟨rfl, rfl⟩)
                 | (go_at_call 70
                    have hh := HW1.out;clear HW1;refine Calls.mono (hh _) ?_;clear hh;rintro e w3 ⟨rfl, hb3⟩;have HP3 := hid (HP1.out.below hb3);clear hb3)
                 | (go_at_call 71
                    have hh := HI1.out;clear HI1;refine Calls.mono (hh _) ?_;clear hh;rintro e w4 ⟨rfl, rfl⟩)
                 | (go_at_call 72
                    have hh := HRV.out;clear HRV;refine Calls.mono (hh _) ?_;clear hh;rintro e w5 ⟨rfl, hb5⟩;have HP5 := hid (HP3.out.below hb5);clear hb5)
                 | (go_at_call 70
                    have hh := HW2.out;clear HW2;refine Calls.mono (hh _) ?_;clear hh;rintro e w6 ⟨rfl, hb6⟩;have HP6 := hid (HP5.out.below hb6);clear hb6)
                 | (go_at_call 73
                    have hh := HKY.out;clear HKY;refine Calls.mono (hh _) ?_;clear hh;rintro e w7 ⟨rfl, hb7⟩;have HS7 := hid ((HP6.out.below hb7).sz);have HP8 := hid (HP6.out.below (hb7.trans ((show Below w7.heap.size w7 (w7.alloc (.cells #[.int .i64 kk, .int .i64 kn, .string ⟨kt.toArray⟩] 58)) from (Below.refl _ _).alloc (Nat.le_refl _) _).mono hb7.size)));obtain ⟨⟨b0, b1, b2, b3, b4, b5, b6, b7⟩, bf, bl⟩ := pl_cells HP8.out.re;have bz0 := bf 0;have bz1 := bf 1;have bz2 := bf 2;have bz3 := bf 3;have bz4 := bf 4;have bz5 := bf 5;have bz6 := bf 6;have bz7 := bf 7;clear bf;clear hb7)
                 | (go_at_call 71
                    have hh := HI2.out;clear HI2;refine Calls.mono (hh _) ?_;clear hh;rintro e w9 ⟨rfl, rfl⟩))
                obtain ⟨W9, hW9, f1, f2, f3⟩ := HP8.out.fin (.slice none 0 0) false [] [] (0, 0, []) false;obtain ⟨⟨r0, r1, r2, r3, r4, r5, r6, r7⟩, _, _⟩ := pl_cells f1
                first | rw [<- hW9] | (simp only [] at hW9; rw [<- hW9])
                exact bodyPost_ret (v := .tuple #[plV (.slice none 0 0) false [] [] (0, 0, []) false, .bool false]) (by simp [results, Tryz.results44, go_sem, plV, r0, r1, r2, r3, r4, r5, r6, r7]) rfl ⟨_, [], _, _, _, _, _, _, rfl, ownM_nil _ _, f3, Or.inl ⟨rfl, HRR.out⟩⟩
              | true =>
                rw [hi2] at HI2;cases ok with
                | false =>
                  have HRR := hid (hF2 (Or.inr (Or.inl rfl)));clear hF2 hF3 hi2 htb hnb hr3b
                  go_wp2_with (first
                    | (go_at_call 68
                       have hh := HBG.out;clear HBG;refine Calls.mono (hh _) ?_;clear hh;rintro e w1 ⟨rfl, rfl⟩)
                    | (go_at_call 68
                       have hh := HBD.out;clear HBD;refine Calls.mono (hh _) ?_;clear hh;rintro e w1 ⟨rfl, rfl⟩)
                    | (go_at_call 70
                       have hh := HW1.out;clear HW1;refine Calls.mono (hh _) ?_;clear hh;rintro e w3 ⟨rfl, hb3⟩;have HP3 := hid (HP1.out.below hb3);clear hb3)
                    | (go_at_call 71
                       have hh := HI1.out;clear HI1;refine Calls.mono (hh _) ?_;clear hh;rintro e w4 ⟨rfl, rfl⟩)
                    | (go_at_call 72
                       have hh := HRV.out;clear HRV;refine Calls.mono (hh _) ?_;clear hh;rintro e w5 ⟨rfl, hb5⟩;have HP5 := hid (HP3.out.below hb5);clear hb5)
                    | (go_at_call 70
                       have hh := HW2.out;clear HW2;refine Calls.mono (hh _) ?_;clear hh;rintro e w6 ⟨rfl, hb6⟩;have HP6 := hid (HP5.out.below hb6);clear hb6)
                    | (go_at_call 73
                       have hh := HKY.out;clear HKY;refine Calls.mono (hh _) ?_;clear hh;rintro e w7 ⟨rfl, hb7⟩;have HS7 := hid ((HP6.out.below hb7).sz);have HP8 := hid (HP6.out.below (hb7.trans ((show Below w7.heap.size w7 (w7.alloc (.cells #[.int .i64 kk, .int .i64 kn, .string ⟨kt.toArray⟩] 58)) from (Below.refl _ _).alloc (Nat.le_refl _) _).mono hb7.size)));obtain ⟨⟨b0, b1, b2, b3, b4, b5, b6, b7⟩, bf, bl⟩ := pl_cells HP8.out.re;have bz0 := bf 0;have bz1 := bf 1;have bz2 := bf 2;have bz3 := bf 3;have bz4 := bf 4;have bz5 := bf 5;have bz6 := bf 6;have bz7 := bf 7;clear bf;clear hb7)
                    | (go_at_call 71
                       have hh := HI2.out;clear HI2;refine Calls.mono (hh _) ?_;clear hh;rintro e w9 ⟨rfl, rfl⟩))
                  obtain ⟨W9, hW9, f1, f2, f3⟩ := HP8.out.fin (.slice none 0 0) false [] [] (0, 0, []) false;obtain ⟨⟨r0, r1, r2, r3, r4, r5, r6, r7⟩, _, _⟩ := pl_cells f1
                  first | rw [<- hW9] | (simp only [] at hW9; rw [<- hW9])
                  exact bodyPost_ret (v := .tuple #[plV (.slice none 0 0) false [] [] (0, 0, []) false, .bool false]) (by simp [results, Tryz.results44, go_sem, plV, r0, r1, r2, r3, r4, r5, r6, r7]) rfl ⟨_, [], _, _, _, _, _, _, rfl, ownM_nil _ _, f3, Or.inl ⟨rfl, HRR.out⟩⟩
                | true =>
                  by_cases h3 : r3 = []
                  . have HRR := hid (hF3 (fun h => by
                     rcases h with h | h | h
                     . rw [hi2] at h; cases h
                     . cases h
                     . exact h h3))
                    have eL3 : r3b.toList.isEmpty = true := by subst hr3b; exact ls_nil h3
                    clear hF2 hF3 hi2 h3 hr3b;subst htb hnb
                    go_wp2_with (first
                     | (go_at_call 68
                        have hh := HBG.out;clear HBG;refine Calls.mono (hh _) ?_;clear hh;rintro e w1 ⟨rfl, rfl⟩)
                     | (go_at_call 68
                        have hh := HBD.out;clear HBD;refine Calls.mono (hh _) ?_;clear hh;rintro e w1 ⟨rfl, rfl⟩)
                     | (go_at_call 70
                        have hh := HW1.out;clear HW1;refine Calls.mono (hh _) ?_;clear hh;rintro e w3 ⟨rfl, hb3⟩;have HP3 := hid (HP1.out.below hb3);clear hb3)
                     | (go_at_call 71
                        have hh := HI1.out;clear HI1;refine Calls.mono (hh _) ?_;clear hh;rintro e w4 ⟨rfl, rfl⟩)
                     | (go_at_call 72
                        have hh := HRV.out;clear HRV;refine Calls.mono (hh _) ?_;clear hh;rintro e w5 ⟨rfl, hb5⟩;have HP5 := hid (HP3.out.below hb5);clear hb5)
                     | (go_at_call 70
                        have hh := HW2.out;clear HW2;refine Calls.mono (hh _) ?_;clear hh;rintro e w6 ⟨rfl, hb6⟩;have HP6 := hid (HP5.out.below hb6);clear hb6)
                     | (go_at_call 73
                        have hh := HKY.out;clear HKY;refine Calls.mono (hh _) ?_;clear hh;rintro e w7 ⟨rfl, hb7⟩;have HS7 := hid ((HP6.out.below hb7).sz);have HP8 := hid (HP6.out.below (hb7.trans ((show Below w7.heap.size w7 (w7.alloc (.cells #[.int .i64 kk, .int .i64 kn, .string ⟨kt.toArray⟩] 58)) from (Below.refl _ _).alloc (Nat.le_refl _) _).mono hb7.size)));obtain ⟨⟨a0, a1, a2, a3, a4, a5, a6, a7⟩, af, al⟩ := pl_cells HP8.out.ad;have az0 := af 0;have az1 := af 1;have az2 := af 2;have az3 := af 3;have az4 := af 4;have az5 := af 5;have az6 := af 6;have az7 := af 7;clear af;obtain ⟨s0, s1, s2, _, s4⟩ := ko_cells (k := kk) (n := kn) (t := kt) (ko_new w7 (kO kk kn kt));unfold kO at s0 s1 s2;clear hb7)
                     | (go_at_call 71
                        have hh := HI2.out;clear HI2;refine Calls.mono (hh _) ?_;clear hh;rintro e w9 ⟨rfl, rfl⟩;have HPA := hid (HP8.out.p2 ty);have HPB := hid (HPA.out.p3 nm);have HPC := hid (HPB.out.p4 (kk, kn, kt));have HPF := hid (HPC.out.p7 true);obtain ⟨⟨_, _, _, m3, _⟩, mf, _⟩ := pl_cells HPA.out.ad;have mz3 := mf 3;clear mf;obtain ⟨⟨_, _, _, _, n4, n5, n6, _⟩, nf, _⟩ := pl_cells HPB.out.ad;have hk0 := ko_new w7 (kO kk kn kt);have hk1 := (Below.heap_setCell (w7.alloc (kO kk kn kt)) ⟨w.heap.size + 1, 2, none⟩ (.string ⟨ty.toArray⟩) w7.heap.size (fun e => by simp only at e; have := HS7.out; omega)).trans hk0;have hk2 := (Below.heap_setCell _ ⟨w.heap.size + 1, 3, none⟩ (.string ⟨nm.toArray⟩) w7.heap.size (fun e => by simp only at e; have := HS7.out; omega)).trans hk1;obtain ⟨k0, k1, k2, _, _⟩ := ko_cells hk2;unfold kO at k0 k1 k2;clear hk0 hk1 hk2 s0 s1 s2;have nz4 := nf 4;have nz5 := nf 5;have nz6 := nf 6;clear nf;obtain ⟨⟨_, _, _, _, _, _, _, o7⟩, of, _⟩ := pl_cells HPC.out.ad;have oz7 := of 7;clear of;obtain ⟨⟨y0, y1, y2, y3, y4, y5, y6, y7⟩, yf, _⟩ := pl_cells HPF.out.ad;clear yf;obtain ⟨⟨z0, z1, z2, z3, z4, z5, z6, z7⟩, zf, _⟩ := pl_cells HPF.out.re;have zz0 := zf 0;have zz1 := zf 1;have zz2 := zf 2;have zz3 := zf 3;have zz4 := zf 4;have zz5 := zf 5;have zz6 := zf 6;have zz7 := zf 7;clear zf))
                    obtain ⟨W9, hW9, f1, f2, f3⟩ := HPF.out.fin (.slice ro xs.length co) false ty nm (kk, kn, kt) true;obtain ⟨⟨r0, r1, r2, r3, r4, r5, r6, r7⟩, _, _⟩ := pl_cells f1
                    first | rw [<- hW9] | (simp only [] at hW9; rw [<- hW9])
                    exact bodyPost_ret (v := .tuple #[plV (.slice ro xs.length co) false ty nm (kk, kn, kt) true, .bool true]) (by simp [results, Tryz.results44, go_sem, plV, r0, r1, r2, r3, r4, r5, r6, r7]) rfl ⟨_, _, _, _, _, _, _, _, rfl, f2, f3, Or.inr (Or.inr ⟨rfl, rfl, HRR.out⟩)⟩
                  . have HRR := hid (hF2 (Or.inr (Or.inr h3)))
                    have eL3 : r3b.toList.isEmpty = false := by subst hr3b; exact ls_cons h3
                    clear hF2 hF3 hi2 h3 hr3b htb hnb
                    go_wp2_with (first
                     | (go_at_call 68
                        have hh := HBG.out;clear HBG;refine Calls.mono (hh _) ?_;clear hh;rintro e w1 ⟨rfl, rfl⟩)
                     | (go_at_call 68
                        have hh := HBD.out;clear HBD;refine Calls.mono (hh _) ?_;clear hh;rintro e w1 ⟨rfl, rfl⟩)
                     | (go_at_call 70
                        have hh := HW1.out;clear HW1;refine Calls.mono (hh _) ?_;clear hh;rintro e w3 ⟨rfl, hb3⟩;have HP3 := hid (HP1.out.below hb3);clear hb3)
                     | (go_at_call 71
                        have hh := HI1.out;clear HI1;refine Calls.mono (hh _) ?_;clear hh;rintro e w4 ⟨rfl, rfl⟩)
                     | (go_at_call 72
                        have hh := HRV.out;clear HRV;refine Calls.mono (hh _) ?_;clear hh;rintro e w5 ⟨rfl, hb5⟩;have HP5 := hid (HP3.out.below hb5);clear hb5)
                     | (go_at_call 70
                        have hh := HW2.out;clear HW2;refine Calls.mono (hh _) ?_;clear hh;rintro e w6 ⟨rfl, hb6⟩;have HP6 := hid (HP5.out.below hb6);clear hb6)
                     | (go_at_call 73
                        have hh := HKY.out;clear HKY;refine Calls.mono (hh _) ?_;clear hh;rintro e w7 ⟨rfl, hb7⟩;have HS7 := hid ((HP6.out.below hb7).sz);have HP8 := hid (HP6.out.below (hb7.trans ((show Below w7.heap.size w7 (w7.alloc (.cells #[.int .i64 kk, .int .i64 kn, .string ⟨kt.toArray⟩] 58)) from (Below.refl _ _).alloc (Nat.le_refl _) _).mono hb7.size)));obtain ⟨⟨b0, b1, b2, b3, b4, b5, b6, b7⟩, bf, bl⟩ := pl_cells HP8.out.re;have bz0 := bf 0;have bz1 := bf 1;have bz2 := bf 2;have bz3 := bf 3;have bz4 := bf 4;have bz5 := bf 5;have bz6 := bf 6;have bz7 := bf 7;clear bf;clear hb7)
                     | (go_at_call 71
                        have hh := HI2.out;clear HI2;refine Calls.mono (hh _) ?_;clear hh;rintro e w9 ⟨rfl, rfl⟩))
                    obtain ⟨W9, hW9, f1, f2, f3⟩ := HP8.out.fin (.slice none 0 0) false [] [] (0, 0, []) false;obtain ⟨⟨r0, r1, r2, r3, r4, r5, r6, r7⟩, _, _⟩ := pl_cells f1
                    first | rw [<- hW9] | (simp only [] at hW9; rw [<- hW9])
                    exact bodyPost_ret (v := .tuple #[plV (.slice none 0 0) false [] [] (0, 0, []) false, .bool false]) (by simp [results, Tryz.results44, go_sem, plV, r0, r1, r2, r3, r4, r5, r6, r7]) rfl ⟨_, [], _, _, _, _, _, _, rfl, ownM_nil _ _, f3, Or.inl ⟨rfl, HRR.out⟩⟩
            . have HRR := hid (hF1 (Or.inr (Or.inr h46)))
              have e46 : ((((rsb[0]'hp0).toNat : Nat) : Int) != 46) = true := by rw [hat]; exact bne_iff_ne.2 (by omega)
              clear hF1 hF2 hF3 hi1 hv hrn htb hnb hr3b hat h46 hrz
              go_wp2_with (first
               | (go_at_call 68
                  have hh := HBG.out;clear HBG;refine Calls.mono (hh _) ?_;clear hh;rintro e w1 ⟨rfl, rfl⟩)
               | (go_at_call 68
                  have hh := HBD.out;clear HBD;refine Calls.mono (hh _) ?_;clear hh;rintro e w1 ⟨rfl, rfl⟩)
               | (go_at_call 70
                  have hh := HW1.out;clear HW1;refine Calls.mono (hh _) ?_;clear hh;rintro e w3 ⟨rfl, hb3⟩;have HP3 := hid (HP1.out.below hb3);clear hb3)
               | (go_at_call 71
                  have hh := HI1.out;clear HI1;refine Calls.mono (hh _) ?_;clear hh;rintro e w4 ⟨rfl, rfl⟩)
               | (go_at_call 72
                  have hh := HRV.out;clear HRV;refine Calls.mono (hh _) ?_;clear hh;rintro e w5 ⟨rfl, hb5⟩;have HP5 := hid (HP3.out.below hb5);obtain ⟨⟨b0, b1, b2, b3, b4, b5, b6, b7⟩, bf, bl⟩ := pl_cells HP5.out.re;have bz0 := bf 0;have bz1 := bf 1;have bz2 := bf 2;have bz3 := bf 3;have bz4 := bf 4;have bz5 := bf 5;have bz6 := bf 6;have bz7 := bf 7;clear bf;clear hb5))
              obtain ⟨W9, hW9, f1, f2, f3⟩ := HP5.out.fin (.slice none 0 0) false [] [] (0, 0, []) false;obtain ⟨⟨r0, r1, r2, r3, r4, r5, r6, r7⟩, _, _⟩ := pl_cells f1
              first | rw [<- hW9] | (simp only [] at hW9; rw [<- hW9])
              exact bodyPost_ret (v := .tuple #[plV (.slice none 0 0) false [] [] (0, 0, []) false, .bool false]) (by simp [results, Tryz.results44, go_sem, plV, r0, r1, r2, r3, r4, r5, r6, r7]) rfl ⟨_, [], _, _, _, _, _, _, rfl, ownM_nil _ _, f3, Or.inl ⟨rfl, HRR.out⟩⟩
    | true =>
      rw [hd] at HBD;have h5 : 5 <= b.size := by have h := Lib.hasPrefix_le hd; rw [hlen] at h; exact h
      have h50 : (5 : Int) <= (b.size : Int) := by omega
      have HP1 := hid (HP.out.p1 true);obtain ⟨⟨_, d1, _⟩, df, dl⟩ := pl_cells HP.out.ad;have dz1 := df 1;clear df;have hbl : (b.extract 5 b.size).data.toList = Lib.trimPrefix l DATP := by rw [hx5, trim_yes hd]; rfl
      have hbs : (b.extract 5 b.size).size <= 1200001 := by rw [ext_size b 5 h5]; omega
      have HW1 := hid (fun W => rword_any (b.extract 5 b.size) W (by omega));unfold WdR at HW1;have hw := wd_len (b.extract 5 b.size).data.toList;rw [size_list] at hw;rw [hbl] at HW1 hw;obtain ⟨ty, hty⟩ : ∃ ty, wdL (Lib.trimPrefix l DATP) = ty := ⟨_, rfl⟩;obtain ⟨rs, hrs⟩ : ∃ rs, wdD (Lib.trimPrefix l DATP) = rs := ⟨_, rfl⟩;obtain ⟨hF1, hF2, hF3⟩ := tl_facts (mds_tl HM.out hm) hty hrs;rw [hd] at hF3;rw [hty, hrs] at HW1 hw;obtain ⟨hw1, hw2⟩ := hw;clear hty hrs hbl;have HI1 : Hid (∀ W : World, Calls Tryz.prog 71 #[.string ⟨ty.toArray⟩] W fun e w' => e = .returned (.bool (idB ty)) /\ W = w') := hid (fun W => rident_any ⟨ty.toArray⟩ W (by rw [ls_size]; omega));have HRV : Hid (∀ W : World, Calls Tryz.prog 72 #[.string ⟨ty.toArray⟩] W fun e w' => e = .returned (.bool (rsv ty)) /\ Below W.heap.size W w') := hid (fun W => rreserved_any ⟨ty.toArray⟩ W);obtain ⟨tb, htb⟩ : ∃ tb : ByteArray, tb = ⟨ty.toArray⟩ := ⟨_, rfl⟩;obtain ⟨rsb, hrsb⟩ : ∃ tb : ByteArray, tb = ⟨rs.toArray⟩ := ⟨_, rfl⟩;rw [<- htb] at HW1 HI1 HRV;rw [<- hrsb] at HW1;have hex : rsb.extract 1 rsb.size = ⟨rs.tail.toArray⟩ := by rw [hrsb, ls_ext, List.drop_one]
      have hrz : rsb.size = rs.length := by rw [hrsb, ls_size]
      have hrt : rs.tail.length = rs.length - 1 := List.length_tail;have hw3 := wd_len rs.tail
      have HW2 : Hid (∀ W : World, Calls Tryz.prog 70 #[.string (rsb.extract 1 rsb.size)] W fun e w' => e = .returned (.tuple #[.string ⟨(wdL rs.tail).toArray⟩, .string ⟨(wdD rs.tail).toArray⟩]) /\ Below W.heap.size W w') := by
       rw [hex];exact hid (fun W => rword_any ⟨rs.tail.toArray⟩ W (by rw [ls_size]; omega))
      obtain ⟨nm, hnm⟩ : ∃ ty, wdL rs.tail = ty := ⟨_, rfl⟩;obtain ⟨kd, hkd⟩ : ∃ rs', wdD rs.tail = rs' := ⟨_, rfl⟩;rw [hnm, hkd] at HW2 hF2 hF3 hw3;obtain ⟨hw4, hw5⟩ := hw3;have HI2 : Hid (∀ W : World, Calls Tryz.prog 71 #[.string ⟨nm.toArray⟩] W fun e w' => e = .returned (.bool (idB nm)) /\ W = w') := hid (fun W => rident_any ⟨nm.toArray⟩ W (by rw [ls_size]; omega));have HKY : Hid (∀ W : World, Calls Tryz.prog 73 #[.string ⟨kd.toArray⟩] W fun e w' => e = KyR (keyR kd) /\ Below W.heap.size W w') := hid (fun W => rkey_any ⟨kd.toArray⟩ W (by rw [ls_size]; omega));generalize keyR kd = X at *;obtain ⟨⟨kk, kn, kt⟩, r3, ok⟩ := X;unfold KyR kV at HKY;simp only at HKY hF2 hF3;obtain ⟨nb, hnb⟩ : ∃ tb : ByteArray, tb = ⟨nm.toArray⟩ := ⟨_, rfl⟩;obtain ⟨kb, hkb⟩ : ∃ tb : ByteArray, tb = ⟨kd.toArray⟩ := ⟨_, rfl⟩;obtain ⟨r3b, hr3b⟩ : ∃ tb : ByteArray, tb = ⟨r3.toArray⟩ := ⟨_, rfl⟩;rw [<- hnb] at HW2 HI2;rw [<- hkb] at HW2 HKY;rw [<- hr3b] at HKY;clear hw1 hw2 hw4 hw5 hbs hex hnm hkd hrt hkb HM hsz;clear hx5 hlen HBL hd hls hxl hgg h5;cases hi1 : idB ty with
      | false =>
        have HRR := hid (hF1 (Or.inl hi1));rw [hi1] at HI1;clear hF1 hF2 hF3 hi1 htb hrsb hnb hr3b
        go_wp2_with (first
         | (go_at_call 68
            have hh := HBG.out;clear HBG;refine Calls.mono (hh _) ?_;clear hh;rintro e w1 ⟨rfl, rfl⟩)
         | (go_at_call 68
            have hh := HBD.out;clear HBD;refine Calls.mono (hh _) ?_;clear hh;rintro e w1 ⟨rfl, rfl⟩)
         | (go_at_call 70
            have hh := HW1.out;clear HW1;refine Calls.mono (hh _) ?_;clear hh;rintro e w3 ⟨rfl, hb3⟩;have HP3 := hid (HP1.out.below hb3);obtain ⟨⟨b0, b1, b2, b3, b4, b5, b6, b7⟩, bf, bl⟩ := pl_cells HP3.out.re;have bz0 := bf 0;have bz1 := bf 1;have bz2 := bf 2;have bz3 := bf 3;have bz4 := bf 4;have bz5 := bf 5;have bz6 := bf 6;have bz7 := bf 7;clear bf;clear hb3)
         | (go_at_call 71
            have hh := HI1.out;clear HI1;refine Calls.mono (hh _) ?_;clear hh;rintro e w4 ⟨rfl, rfl⟩))
        obtain ⟨W9, hW9, f1, f2, f3⟩ := HP3.out.fin (.slice none 0 0) false [] [] (0, 0, []) false;obtain ⟨⟨r0, r1, r2, r3, r4, r5, r6, r7⟩, _, _⟩ := pl_cells f1
        first | rw [<- hW9] | (simp only [] at hW9; rw [<- hW9])
        exact bodyPost_ret (v := .tuple #[plV (.slice none 0 0) false [] [] (0, 0, []) false, .bool false]) (by simp [results, Tryz.results44, go_sem, plV, r0, r1, r2, r3, r4, r5, r6, r7]) rfl ⟨_, [], _, _, _, _, _, _, rfl, ownM_nil _ _, f3, Or.inl ⟨rfl, HRR.out⟩⟩
      | true =>
        rw [hi1] at HI1;cases hv : rsv ty with
        | true =>
          have HRR := hid (hF1 (Or.inr (Or.inl hv)));rw [hv] at HRV;clear hF1 hF2 hF3 hi1 hv htb hrsb hnb hr3b
          go_wp2_with (first
           | (go_at_call 68
              have hh := HBG.out;clear HBG;refine Calls.mono (hh _) ?_;clear hh;rintro e w1 ⟨rfl, rfl⟩)
           | (go_at_call 68
              have hh := HBD.out;clear HBD;refine Calls.mono (hh _) ?_;clear hh;rintro e w1 ⟨rfl, rfl⟩)
           | (go_at_call 70
              have hh := HW1.out;clear HW1;refine Calls.mono (hh _) ?_;clear hh;rintro e w3 ⟨rfl, hb3⟩;have HP3 := hid (HP1.out.below hb3);clear hb3)
           | (go_at_call 71
              have hh := HI1.out;clear HI1;refine Calls.mono (hh _) ?_;clear hh;rintro e w4 ⟨rfl, rfl⟩)
           | (go_at_call 72
              have hh := HRV.out;clear HRV;refine Calls.mono (hh _) ?_;clear hh;rintro e w5 ⟨rfl, hb5⟩;have HP5 := hid (HP3.out.below hb5);obtain ⟨⟨b0, b1, b2, b3, b4, b5, b6, b7⟩, bf, bl⟩ := pl_cells HP5.out.re;have bz0 := bf 0;have bz1 := bf 1;have bz2 := bf 2;have bz3 := bf 3;have bz4 := bf 4;have bz5 := bf 5;have bz6 := bf 6;have bz7 := bf 7;clear bf;clear hb5))
          obtain ⟨W9, hW9, f1, f2, f3⟩ := HP5.out.fin (.slice none 0 0) false [] [] (0, 0, []) false;obtain ⟨⟨r0, r1, r2, r3, r4, r5, r6, r7⟩, _, _⟩ := pl_cells f1
          first | rw [<- hW9] | (simp only [] at hW9; rw [<- hW9])
          exact bodyPost_ret (v := .tuple #[plV (.slice none 0 0) false [] [] (0, 0, []) false, .bool false]) (by simp [results, Tryz.results44, go_sem, plV, r0, r1, r2, r3, r4, r5, r6, r7]) rfl ⟨_, [], _, _, _, _, _, _, rfl, ownM_nil _ _, f3, Or.inl ⟨rfl, HRR.out⟩⟩
        | false =>
          rw [hv] at HRV
          by_cases hrn : rs = []
          . have HRR := hid (hF1 (Or.inr (Or.inr (by subst hrn; decide))))
            have eL : rsb.toList.isEmpty = true := by subst hrsb; exact ls_nil hrn
            clear hF1 hF2 hF3 hi1 hv hrn htb hrsb hnb hr3b hrz
            go_wp2_with (first
             | (go_at_call 68
                have hh := HBG.out;clear HBG;refine Calls.mono (hh _) ?_;clear hh;rintro e w1 ⟨rfl, rfl⟩)
             | (go_at_call 68
                have hh := HBD.out;clear HBD;refine Calls.mono (hh _) ?_;clear hh;rintro e w1 ⟨rfl, rfl⟩)
             | (go_at_call 70
                have hh := HW1.out;clear HW1;refine Calls.mono (hh _) ?_;clear hh;rintro e w3 ⟨rfl, hb3⟩;have HP3 := hid (HP1.out.below hb3);clear hb3)
             | (go_at_call 71
                have hh := HI1.out;clear HI1;refine Calls.mono (hh _) ?_;clear hh;rintro e w4 ⟨rfl, rfl⟩)
             | (go_at_call 72
                have hh := HRV.out;clear HRV;refine Calls.mono (hh _) ?_;clear hh;rintro e w5 ⟨rfl, hb5⟩;have HP5 := hid (HP3.out.below hb5);obtain ⟨⟨b0, b1, b2, b3, b4, b5, b6, b7⟩, bf, bl⟩ := pl_cells HP5.out.re;have bz0 := bf 0;have bz1 := bf 1;have bz2 := bf 2;have bz3 := bf 3;have bz4 := bf 4;have bz5 := bf 5;have bz6 := bf 6;have bz7 := bf 7;clear bf;clear hb5))
            obtain ⟨W9, hW9, f1, f2, f3⟩ := HP5.out.fin (.slice none 0 0) false [] [] (0, 0, []) false;obtain ⟨⟨r0, r1, r2, r3, r4, r5, r6, r7⟩, _, _⟩ := pl_cells f1
            first | rw [<- hW9] | (simp only [] at hW9; rw [<- hW9])
            exact bodyPost_ret (v := .tuple #[plV (.slice none 0 0) false [] [] (0, 0, []) false, .bool false]) (by simp [results, Tryz.results44, go_sem, plV, r0, r1, r2, r3, r4, r5, r6, r7]) rfl ⟨_, [], _, _, _, _, _, _, rfl, ownM_nil _ _, f3, Or.inl ⟨rfl, HRR.out⟩⟩
          . obtain ⟨hp0, hat⟩ : ∃ hp : 0 < rsb.size, (rsb[0]'hp) = rs.getD 0 0 := by subst hrsb; exact ls_at hrn
            have eL : rsb.toList.isEmpty = false := by subst hrsb; exact ls_cons hrn
            clear hrsb;have hpi : (0 : Int) < (rsb.size : Int) := by omega
            by_cases h46 : (rs.getD 0 0).toNat = 46
            . have e46 : ((((rsb[0]'hp0).toNat : Nat) : Int) != 46) = false := by rw [hat, h46]; rfl
              have hp1 : (1 : Int) <= (rsb.size : Int) := by omega
              have N1 : ¬ (idB ty = false ∨ rsv ty = true ∨ (rs.getD 0 0).toNat ≠ 46) := fun h => by
               rcases h with h | h | h
               . rw [hi1] at h; cases h
               . rw [hv] at h; cases h
               . exact h h46
              have hF2 := hF2 N1;have hF3 := hF3 N1;clear hF1 N1 hat h46 hrn hi1 hv hrz;cases hi2 : idB nm with
              | false =>
                have HRR := hid (hF2 (Or.inl hi2));rw [hi2] at HI2;clear hF2 hF3 hi2 htb hnb hr3b
                go_wp2_with (first
                 | (go_at_call 68
                    have hh := HBG.out;clear HBG;refine Calls.mono (hh _) ?_;clear hh;rintro e w1 ⟨rfl, rfl⟩)
                 | (go_at_call 68
                    have hh := HBD.out;clear HBD;refine Calls.mono (hh _) ?_;clear hh;rintro e w1 ⟨rfl, rfl⟩)
                 | (go_at_call 70
                    have hh := HW1.out;clear HW1;refine Calls.mono (hh _) ?_;clear hh;rintro e w3 ⟨rfl, hb3⟩;have HP3 := hid (HP1.out.below hb3);clear hb3)
                 | (go_at_call 71
                    have hh := HI1.out;clear HI1;refine Calls.mono (hh _) ?_;clear hh;rintro e w4 ⟨rfl, rfl⟩)
                 | (go_at_call 72
                    have hh := HRV.out;clear HRV;refine Calls.mono (hh _) ?_;clear hh;rintro e w5 ⟨rfl, hb5⟩;have HP5 := hid (HP3.out.below hb5);clear hb5)
                 | (go_at_call 70
                    have hh := HW2.out;clear HW2;refine Calls.mono (hh _) ?_;clear hh;rintro e w6 ⟨rfl, hb6⟩;have HP6 := hid (HP5.out.below hb6);clear hb6)
                 | (go_at_call 73
                    have hh := HKY.out;clear HKY;refine Calls.mono (hh _) ?_;clear hh;rintro e w7 ⟨rfl, hb7⟩;have HS7 := hid ((HP6.out.below hb7).sz);have HP8 := hid (HP6.out.below (hb7.trans ((show Below w7.heap.size w7 (w7.alloc (.cells #[.int .i64 kk, .int .i64 kn, .string ⟨kt.toArray⟩] 58)) from (Below.refl _ _).alloc (Nat.le_refl _) _).mono hb7.size)));obtain ⟨⟨b0, b1, b2, b3, b4, b5, b6, b7⟩, bf, bl⟩ := pl_cells HP8.out.re;have bz0 := bf 0;have bz1 := bf 1;have bz2 := bf 2;have bz3 := bf 3;have bz4 := bf 4;have bz5 := bf 5;have bz6 := bf 6;have bz7 := bf 7;clear bf;clear hb7)
                 | (go_at_call 71
                    have hh := HI2.out;clear HI2;refine Calls.mono (hh _) ?_;clear hh;rintro e w9 ⟨rfl, rfl⟩))
                obtain ⟨W9, hW9, f1, f2, f3⟩ := HP8.out.fin (.slice none 0 0) false [] [] (0, 0, []) false;obtain ⟨⟨r0, r1, r2, r3, r4, r5, r6, r7⟩, _, _⟩ := pl_cells f1
                first | rw [<- hW9] | (simp only [] at hW9; rw [<- hW9])
                exact bodyPost_ret (v := .tuple #[plV (.slice none 0 0) false [] [] (0, 0, []) false, .bool false]) (by simp [results, Tryz.results44, go_sem, plV, r0, r1, r2, r3, r4, r5, r6, r7]) rfl ⟨_, [], _, _, _, _, _, _, rfl, ownM_nil _ _, f3, Or.inl ⟨rfl, HRR.out⟩⟩
              | true =>
                rw [hi2] at HI2;cases ok with
                | false =>
                  have HRR := hid (hF2 (Or.inr (Or.inl rfl)));clear hF2 hF3 hi2 htb hnb hr3b
                  go_wp2_with (first
                    | (go_at_call 68
                       have hh := HBG.out;clear HBG;refine Calls.mono (hh _) ?_;clear hh;rintro e w1 ⟨rfl, rfl⟩)
                    | (go_at_call 68
                       have hh := HBD.out;clear HBD;refine Calls.mono (hh _) ?_;clear hh;rintro e w1 ⟨rfl, rfl⟩)
                    | (go_at_call 70
                       have hh := HW1.out;clear HW1;refine Calls.mono (hh _) ?_;clear hh;rintro e w3 ⟨rfl, hb3⟩;have HP3 := hid (HP1.out.below hb3);clear hb3)
                    | (go_at_call 71
                       have hh := HI1.out;clear HI1;refine Calls.mono (hh _) ?_;clear hh;rintro e w4 ⟨rfl, rfl⟩)
                    | (go_at_call 72
                       have hh := HRV.out;clear HRV;refine Calls.mono (hh _) ?_;clear hh;rintro e w5 ⟨rfl, hb5⟩;have HP5 := hid (HP3.out.below hb5);clear hb5)
                    | (go_at_call 70
                       have hh := HW2.out;clear HW2;refine Calls.mono (hh _) ?_;clear hh;rintro e w6 ⟨rfl, hb6⟩;have HP6 := hid (HP5.out.below hb6);clear hb6)
                    | (go_at_call 73
                       have hh := HKY.out;clear HKY;refine Calls.mono (hh _) ?_;clear hh;rintro e w7 ⟨rfl, hb7⟩;have HS7 := hid ((HP6.out.below hb7).sz);have HP8 := hid (HP6.out.below (hb7.trans ((show Below w7.heap.size w7 (w7.alloc (.cells #[.int .i64 kk, .int .i64 kn, .string ⟨kt.toArray⟩] 58)) from (Below.refl _ _).alloc (Nat.le_refl _) _).mono hb7.size)));obtain ⟨⟨b0, b1, b2, b3, b4, b5, b6, b7⟩, bf, bl⟩ := pl_cells HP8.out.re;have bz0 := bf 0;have bz1 := bf 1;have bz2 := bf 2;have bz3 := bf 3;have bz4 := bf 4;have bz5 := bf 5;have bz6 := bf 6;have bz7 := bf 7;clear bf;clear hb7)
                    | (go_at_call 71
                       have hh := HI2.out;clear HI2;refine Calls.mono (hh _) ?_;clear hh;rintro e w9 ⟨rfl, rfl⟩))
                  obtain ⟨W9, hW9, f1, f2, f3⟩ := HP8.out.fin (.slice none 0 0) false [] [] (0, 0, []) false;obtain ⟨⟨r0, r1, r2, r3, r4, r5, r6, r7⟩, _, _⟩ := pl_cells f1
                  first | rw [<- hW9] | (simp only [] at hW9; rw [<- hW9])
                  exact bodyPost_ret (v := .tuple #[plV (.slice none 0 0) false [] [] (0, 0, []) false, .bool false]) (by simp [results, Tryz.results44, go_sem, plV, r0, r1, r2, r3, r4, r5, r6, r7]) rfl ⟨_, [], _, _, _, _, _, _, rfl, ownM_nil _ _, f3, Or.inl ⟨rfl, HRR.out⟩⟩
                | true =>
                  by_cases h3 : r3 = []
                  . have HRR := hid (hF3 (fun h => by
                     rcases h with h | h | h
                     . rw [hi2] at h; cases h
                     . cases h
                     . exact h h3))
                    have eL3 : r3b.toList.isEmpty = true := by subst hr3b; exact ls_nil h3
                    clear hF2 hF3 hi2 h3 hr3b;subst htb hnb
                    go_wp2_with (first
                     | (go_at_call 68
                        have hh := HBG.out;clear HBG;refine Calls.mono (hh _) ?_;clear hh;rintro e w1 ⟨rfl, rfl⟩)
                     | (go_at_call 68
                        have hh := HBD.out;clear HBD;refine Calls.mono (hh _) ?_;clear hh;rintro e w1 ⟨rfl, rfl⟩)
                     | (go_at_call 70
                        have hh := HW1.out;clear HW1;refine Calls.mono (hh _) ?_;clear hh;rintro e w3 ⟨rfl, hb3⟩;have HP3 := hid (HP1.out.below hb3);clear hb3)
                     | (go_at_call 71
                        have hh := HI1.out;clear HI1;refine Calls.mono (hh _) ?_;clear hh;rintro e w4 ⟨rfl, rfl⟩)
                     | (go_at_call 72
                        have hh := HRV.out;clear HRV;refine Calls.mono (hh _) ?_;clear hh;rintro e w5 ⟨rfl, hb5⟩;have HP5 := hid (HP3.out.below hb5);clear hb5)
                     | (go_at_call 70
                        have hh := HW2.out;clear HW2;refine Calls.mono (hh _) ?_;clear hh;rintro e w6 ⟨rfl, hb6⟩;have HP6 := hid (HP5.out.below hb6);clear hb6)
                     | (go_at_call 73
                        have hh := HKY.out;clear HKY;refine Calls.mono (hh _) ?_;clear hh;rintro e w7 ⟨rfl, hb7⟩;have HS7 := hid ((HP6.out.below hb7).sz);have HP8 := hid (HP6.out.below (hb7.trans ((show Below w7.heap.size w7 (w7.alloc (.cells #[.int .i64 kk, .int .i64 kn, .string ⟨kt.toArray⟩] 58)) from (Below.refl _ _).alloc (Nat.le_refl _) _).mono hb7.size)));obtain ⟨⟨a0, a1, a2, a3, a4, a5, a6, a7⟩, af, al⟩ := pl_cells HP8.out.ad;have az0 := af 0;have az1 := af 1;have az2 := af 2;have az3 := af 3;have az4 := af 4;have az5 := af 5;have az6 := af 6;have az7 := af 7;clear af;obtain ⟨s0, s1, s2, _, s4⟩ := ko_cells (k := kk) (n := kn) (t := kt) (ko_new w7 (kO kk kn kt));unfold kO at s0 s1 s2;clear hb7)
                     | (go_at_call 71
                        have hh := HI2.out;clear HI2;refine Calls.mono (hh _) ?_;clear hh;rintro e w9 ⟨rfl, rfl⟩;have HPA := hid (HP8.out.p2 ty);have HPB := hid (HPA.out.p3 nm);have HPC := hid (HPB.out.p4 (kk, kn, kt));have HPF := hid (HPC.out.p7 true);obtain ⟨⟨_, _, _, m3, _⟩, mf, _⟩ := pl_cells HPA.out.ad;have mz3 := mf 3;clear mf;obtain ⟨⟨_, _, _, _, n4, n5, n6, _⟩, nf, _⟩ := pl_cells HPB.out.ad;have hk0 := ko_new w7 (kO kk kn kt);have hk1 := (Below.heap_setCell (w7.alloc (kO kk kn kt)) ⟨w.heap.size + 1, 2, none⟩ (.string ⟨ty.toArray⟩) w7.heap.size (fun e => by simp only at e; have := HS7.out; omega)).trans hk0;have hk2 := (Below.heap_setCell _ ⟨w.heap.size + 1, 3, none⟩ (.string ⟨nm.toArray⟩) w7.heap.size (fun e => by simp only at e; have := HS7.out; omega)).trans hk1;obtain ⟨k0, k1, k2, _, _⟩ := ko_cells hk2;unfold kO at k0 k1 k2;clear hk0 hk1 hk2 s0 s1 s2;have nz4 := nf 4;have nz5 := nf 5;have nz6 := nf 6;clear nf;obtain ⟨⟨_, _, _, _, _, _, _, o7⟩, of, _⟩ := pl_cells HPC.out.ad;have oz7 := of 7;clear of;obtain ⟨⟨y0, y1, y2, y3, y4, y5, y6, y7⟩, yf, _⟩ := pl_cells HPF.out.ad;clear yf;obtain ⟨⟨z0, z1, z2, z3, z4, z5, z6, z7⟩, zf, _⟩ := pl_cells HPF.out.re;have zz0 := zf 0;have zz1 := zf 1;have zz2 := zf 2;have zz3 := zf 3;have zz4 := zf 4;have zz5 := zf 5;have zz6 := zf 6;have zz7 := zf 7;clear zf))
                    obtain ⟨W9, hW9, f1, f2, f3⟩ := HPF.out.fin (.slice ro xs.length co) true ty nm (kk, kn, kt) true;obtain ⟨⟨r0, r1, r2, r3, r4, r5, r6, r7⟩, _, _⟩ := pl_cells f1
                    first | rw [<- hW9] | (simp only [] at hW9; rw [<- hW9])
                    exact bodyPost_ret (v := .tuple #[plV (.slice ro xs.length co) true ty nm (kk, kn, kt) true, .bool true]) (by simp [results, Tryz.results44, go_sem, plV, r0, r1, r2, r3, r4, r5, r6, r7]) rfl ⟨_, _, _, _, _, _, _, _, rfl, f2, f3, Or.inr (Or.inr ⟨rfl, rfl, HRR.out⟩)⟩
                  . have HRR := hid (hF2 (Or.inr (Or.inr h3)))
                    have eL3 : r3b.toList.isEmpty = false := by subst hr3b; exact ls_cons h3
                    clear hF2 hF3 hi2 h3 hr3b htb hnb
                    go_wp2_with (first
                     | (go_at_call 68
                        have hh := HBG.out;clear HBG;refine Calls.mono (hh _) ?_;clear hh;rintro e w1 ⟨rfl, rfl⟩)
                     | (go_at_call 68
                        have hh := HBD.out;clear HBD;refine Calls.mono (hh _) ?_;clear hh;rintro e w1 ⟨rfl, rfl⟩)
                     | (go_at_call 70
                        have hh := HW1.out;clear HW1;refine Calls.mono (hh _) ?_;clear hh;rintro e w3 ⟨rfl, hb3⟩;have HP3 := hid (HP1.out.below hb3);clear hb3)
                     | (go_at_call 71
                        have hh := HI1.out;clear HI1;refine Calls.mono (hh _) ?_;clear hh;rintro e w4 ⟨rfl, rfl⟩)
                     | (go_at_call 72
                        have hh := HRV.out;clear HRV;refine Calls.mono (hh _) ?_;clear hh;rintro e w5 ⟨rfl, hb5⟩;have HP5 := hid (HP3.out.below hb5);clear hb5)
                     | (go_at_call 70
                        have hh := HW2.out;clear HW2;refine Calls.mono (hh _) ?_;clear hh;rintro e w6 ⟨rfl, hb6⟩;have HP6 := hid (HP5.out.below hb6);clear hb6)
                     | (go_at_call 73
                        have hh := HKY.out;clear HKY;refine Calls.mono (hh _) ?_;clear hh;rintro e w7 ⟨rfl, hb7⟩;have HS7 := hid ((HP6.out.below hb7).sz);have HP8 := hid (HP6.out.below (hb7.trans ((show Below w7.heap.size w7 (w7.alloc (.cells #[.int .i64 kk, .int .i64 kn, .string ⟨kt.toArray⟩] 58)) from (Below.refl _ _).alloc (Nat.le_refl _) _).mono hb7.size)));obtain ⟨⟨b0, b1, b2, b3, b4, b5, b6, b7⟩, bf, bl⟩ := pl_cells HP8.out.re;have bz0 := bf 0;have bz1 := bf 1;have bz2 := bf 2;have bz3 := bf 3;have bz4 := bf 4;have bz5 := bf 5;have bz6 := bf 6;have bz7 := bf 7;clear bf;clear hb7)
                     | (go_at_call 71
                        have hh := HI2.out;clear HI2;refine Calls.mono (hh _) ?_;clear hh;rintro e w9 ⟨rfl, rfl⟩))
                    obtain ⟨W9, hW9, f1, f2, f3⟩ := HP8.out.fin (.slice none 0 0) false [] [] (0, 0, []) false;obtain ⟨⟨r0, r1, r2, r3, r4, r5, r6, r7⟩, _, _⟩ := pl_cells f1
                    first | rw [<- hW9] | (simp only [] at hW9; rw [<- hW9])
                    exact bodyPost_ret (v := .tuple #[plV (.slice none 0 0) false [] [] (0, 0, []) false, .bool false]) (by simp [results, Tryz.results44, go_sem, plV, r0, r1, r2, r3, r4, r5, r6, r7]) rfl ⟨_, [], _, _, _, _, _, _, rfl, ownM_nil _ _, f3, Or.inl ⟨rfl, HRR.out⟩⟩
            . have HRR := hid (hF1 (Or.inr (Or.inr h46)))
              have e46 : ((((rsb[0]'hp0).toNat : Nat) : Int) != 46) = true := by rw [hat]; exact bne_iff_ne.2 (by omega)
              clear hF1 hF2 hF3 hi1 hv hrn htb hnb hr3b hat h46 hrz
              go_wp2_with (first
               | (go_at_call 68
                  have hh := HBG.out;clear HBG;refine Calls.mono (hh _) ?_;clear hh;rintro e w1 ⟨rfl, rfl⟩)
               | (go_at_call 68
                  have hh := HBD.out;clear HBD;refine Calls.mono (hh _) ?_;clear hh;rintro e w1 ⟨rfl, rfl⟩)
               | (go_at_call 70
                  have hh := HW1.out;clear HW1;refine Calls.mono (hh _) ?_;clear hh;rintro e w3 ⟨rfl, hb3⟩;have HP3 := hid (HP1.out.below hb3);clear hb3)
               | (go_at_call 71
                  have hh := HI1.out;clear HI1;refine Calls.mono (hh _) ?_;clear hh;rintro e w4 ⟨rfl, rfl⟩)
               | (go_at_call 72
                  have hh := HRV.out;clear HRV;refine Calls.mono (hh _) ?_;clear hh;rintro e w5 ⟨rfl, hb5⟩;have HP5 := hid (HP3.out.below hb5);obtain ⟨⟨b0, b1, b2, b3, b4, b5, b6, b7⟩, bf, bl⟩ := pl_cells HP5.out.re;have bz0 := bf 0;have bz1 := bf 1;have bz2 := bf 2;have bz3 := bf 3;have bz4 := bf 4;have bz5 := bf 5;have bz6 := bf 6;have bz7 := bf 7;clear bf;clear hb5))
              obtain ⟨W9, hW9, f1, f2, f3⟩ := HP5.out.fin (.slice none 0 0) false [] [] (0, 0, []) false;obtain ⟨⟨r0, r1, r2, r3, r4, r5, r6, r7⟩, _, _⟩ := pl_cells f1
              first | rw [<- hW9] | (simp only [] at hW9; rw [<- hW9])
              exact bodyPost_ret (v := .tuple #[plV (.slice none 0 0) false [] [] (0, 0, []) false, .bool false]) (by simp [results, Tryz.results44, go_sem, plV, r0, r1, r2, r3, r4, r5, r6, r7]) rfl ⟨_, [], _, _, _, _, _, _, rfl, ownM_nil _ _, f3, Or.inl ⟨rfl, HRR.out⟩⟩
end Go.Proofs.YtpnogmicfomofaaGreatDoor.Adr
