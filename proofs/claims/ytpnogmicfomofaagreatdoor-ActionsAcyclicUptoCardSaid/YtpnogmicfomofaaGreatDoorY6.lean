import Derived.Test.YtpnogmicfomofaaGreatDoorY5
import Derived.Laws.StructEq
import Derived.Deep.RegionHeld3
import Derived.Deep.RegionLaw
import Derived.Test.YtpnogmicfomofaaGreatDoorY3
import Derived.Lib.RuneBytes
import Derived.Lib.MapLaws
set_option linter.unusedVariables false
set_option linter.unusedSimpArgs false
namespace Go.Proofs.YtpnogmicfomofaaGreatDoor.Adr
open Go.RowKit Go.Sort Go.Lib Go.Maps
open Go.Lib (hid)
def laysC_ren : Go.Shelf.Ren := ⟨fun | 41 => 130 | n => n, fun | 22 => 55 | 23 => 119 | 4 => 4 | n => n, fun | n => n⟩
theorem laysC : Go.Proofs.SlLaysE0.n41 Tryz.prog laysC_ren := {
 mixed := by kernel_rfl
 f41 := ⟨Tryz.f130.name, by decide, Tryz.func130.trans (congrArg some (by kernel_rfl))⟩
 t4 := Tryz.underlying4
 a4 := Tryz.isAgg4
 z4 := Tryz.sizeOf4
 v4 := Tryz.zeroValue4
 t22 := Tryz.underlying55
 a22 := Tryz.isAgg55
 z22 := Tryz.sizeOf55
 v22 := Tryz.zeroValue55 }
theorem clone_m (B : Nat) (v : Value) (xs : List MS) (w : World) (h : OwnM B w v xs) (hn : xs.length <= 2000000) : Calls Tryz.prog 130 #[v] w fun e w' =>
  ∃ v', e = .returned v' /\ OwnM w.heap.size w' v' xs /\ Below w.heap.size w w' := by
 rcases h.2 with ⟨rfl, h0⟩ | ⟨g, cap, cur, rfl, hb, hg, hnc, hc, hs, ht⟩
 . have : xs = [] := List.eq_nil_of_length_eq_zero h0
   subst this;exact (AnyE.slices_Clone_nil laysC 0 0 w).mono fun e w' ⟨he, hw⟩ => ⟨_, he, ownM_nil _ _, by rw [hw]; exact Below.refl _ _⟩
 . obtain ⟨i0, hi, hz0, hz1, hz2⟩ := info_parts msinfo
   refine (AnyE.slices_Clone laysC i0 _ 4 48 hi hz0 hz1 hz2 rfl (by decide) Tryz.sizeOf119 g 0 xs.length cap (xs.flatMap encM) w (flat_len encM 4 encM_len xs) (by unfold maxLen; omega) (by omega) (fun j u hu => ?_) (fun u hu => ?_)).mono fun e w' ⟨v', he, ho, _, hb⟩ => ⟨v', he, ho, hb⟩
   . have h1 := hu
     rw [<- ht, List.getElem?_take] at h1;split at h1
     . unfold World.cell?
       simp only [hg, Nat.zero_add];simpa using h1
     . cases h1
   . obtain ⟨y, _, hy2⟩ := List.mem_flatMap.1 hu
     exact encM_one y u hy2
def barM (x : MS) : MS := (x.1, (0, 0, []))
theorem own_setc {B sz g n cap : Nat} {e : TypeId} {w : World} {xs : List Value} (h : w.ownsRow B e sz (.slice (some ⟨g, 0, none⟩) n cap) n xs) (i : Nat) (u : Value) : (w.setCell ⟨g, i, none⟩ u).ownsRow B e sz (.slice (some ⟨g, 0, none⟩) n cap) n (xs.set i u) := by
 refine ⟨by rw [List.length_set]; exact h.1, ?_⟩;rcases h.2 with ⟨he, _⟩ | ⟨g2, cap2, cur, he, hb, hg, hn, hc, hs, ht⟩
 . cases he
 . cases he
   refine .inr ⟨g, cap, cur.setIfInBounds i u, rfl, hb, ?_, hn, hc, by rw [Array.size_setIfInBounds]; exact hs, ?_⟩
   . unfold World.setCell
     simp only [Array.getElem?_modify, if_true, hg, Option.map_some];rfl
   . rw [Array.toList_setIfInBounds, List.take_set, ht]
theorem set_app4 (x : MS) (r : List Value) (i : Nat) (u : Value) : (encM x ++ r).set (i + 4) u = encM x ++ r.set i u := rfl
theorem flat_bare : ∀ (xs : List MS) (k : Nat) (hk : k < xs.length), (((xs.flatMap encM).set (k * 4 + 1) (.int .i64 0)).set (k * 4 + 2) (.int .i64 0)).set (k * 4 + 3) (.string ⟨#[]⟩) = (xs.set k (barM xs[k])).flatMap encM
 | [], k, hk => by simp at hk
 | x :: xs, 0, _ => rfl
 | x :: xs, k + 1, hk => by
   have IH := flat_bare xs k (by simpa using hk);rw [List.set_cons_succ, List.flatMap_cons, List.flatMap_cons];rw [show (k + 1) * 4 + 1 = (k * 4 + 1) + 4 by omega, show (k + 1) * 4 + 2 = (k * 4 + 2) + 4 by omega, show (k + 1) * 4 + 3 = (k * 4 + 3) + 4 by omega, set_app4, set_app4, set_app4, IH];rfl
def aV (v : Value) (d : Bool) (ty nm : List UInt8) (k : KeyT) : Value := .agg #[v, .bool d, .string ⟨ty.toArray⟩, .string ⟨nm.toArray⟩, .int .i64 k.1, .int .i64 k.2.1, .string ⟨k.2.2.toArray⟩]
def mix (k : Nat) (xs : List MS) : List MS := (xs.take k).map barM ++ xs.drop k
theorem mix_len (k : Nat) (xs : List MS) : (mix k xs).length = xs.length := by
 unfold mix;rw [List.length_append, List.length_map, List.length_take, List.length_drop]; omega
theorem mix_get {k : Nat} {xs : List MS} (hk : k < xs.length) : (mix k xs)[k]'(by rw [mix_len]; exact hk) = xs[k] := by
 have h : (mix k xs)[k]? = xs[k]? := by
  unfold mix;rw [List.getElem?_append_right (by rw [List.length_map, List.length_take]; omega), List.getElem?_drop, List.length_map, List.length_take]
  congr 1; omega
 rw [List.getElem?_eq_getElem hk, List.getElem?_eq_getElem (by rw [mix_len]; exact hk)] at h;exact Option.some.inj h
theorem mix_set {k : Nat} {xs : List MS} (hk : k < xs.length) : (mix k xs).set k (barM xs[k]) = mix (k + 1) xs := by
 unfold mix;rw [List.set_append_right _ _ (by rw [List.length_map, List.length_take]; omega), List.drop_eq_getElem_cons hk, List.length_map, List.length_take, show k - min k xs.length = 0 by omega, List.set_cons_zero, List.take_succ_eq_append_getElem hk, List.map_append];simp
structure Sp (w W : World) (v : Value) (xs : List MS) (d : Bool) (ty nm : List UInt8) : Prop where
 ad : W.heap[w.heap.size + 1 + 1]? = some (aO v d ty nm (0, 0, []))
 re : W.heap[w.heap.size + 1]? = some (aO (.slice none 0 0) false [] [] (0, 0, []))
 own : OwnM (w.heap.size + 3) W v xs
 bel : Below w.heap.size w W
theorem Sp.step {w W : World} {v : Value} {xs : List MS} {d : Bool} {ty nm : List UInt8} {k : Nat} (h : Sp w W v (mix k xs) d ty nm) (hk : k < xs.length) : ∃ g cap, v = .slice (some ⟨g, 0, none⟩) xs.length cap /\ xs.length <= cap /\ cap <= 9223372036854775807 /\
  (∀ o, W.frozen? ⟨g, o, none⟩ = false) /\ (∀ j, j < 4 -> ∃ u, W.cell? ⟨g, k * 4 + j, none⟩ = some u) /\
  Sp w (((W.setCell ⟨g, k * 4 + 1, none⟩ (.int .i64 0)).setCell ⟨g, k * 4 + 2, none⟩ (.int .i64 0)).setCell ⟨g, k * 4 + 3, none⟩ (.string ⟨#[]⟩)) v (mix (k + 1) xs) d ty nm := by
 have ho := h.own;unfold OwnM at ho;rw [mix_len] at ho;have hlt := ho.lt;rcases ho.2 with ⟨rfl, h0⟩ | ⟨g, cap, cur, rfl, hb, hg, hn, hc, hs, ht⟩
 . omega
 unfold maxLen at hc;refine ⟨g, cap, rfl, hn, hc, fun o => by unfold World.frozen?; simp [hg], fun j hj => ⟨cur[k * 4 + j]'(by omega), by unfold World.cell?; simp only [hg]; exact Array.getElem?_eq_getElem _⟩, ?_⟩;have hne : ∀ (X : World) (i j : Nat) (u : Value), j < w.heap.size + 3 -> (X.setCell ⟨g, i, none⟩ u).heap[j]? = X.heap[j]? := fun X i j u hj => Below.heap_setCell _ _ _ _ (by simp only; omega);refine ⟨?_, ?_, ?_, ?_⟩
 . rw [hne _ _ _ _ (by omega), hne _ _ _ _ (by omega), hne _ _ _ _ (by omega)]; exact h.ad
 . rw [hne _ _ _ _ (by omega), hne _ _ _ _ (by omega), hne _ _ _ _ (by omega)]; exact h.re
 . have hs3 := own_setc (own_setc (own_setc ho (k * 4 + 1) (.int .i64 0)) (k * 4 + 2) (.int .i64 0)) (k * 4 + 3) (.string ⟨#[]⟩)
   rw [flat_bare (mix k xs) k (by rw [mix_len]; exact hk), mix_get hk, mix_set hk] at hs3;unfold OwnM;rw [mix_len];exact hs3
 . exact (((h.bel.setCell (show w.heap.size <= g by omega) _).setCell (show w.heap.size <= g by omega) _).setCell (show w.heap.size <= g by omega) _)
def StaR (w : World) (xs : List MS) (d : Bool) (ty nm : List UInt8) (e : Ending) (w' : World) : Prop := ∃ v', e = .returned (aV v' d ty nm (0, 0, [])) /\ OwnM w.heap.size w' v' (xs.map barM) /\ Below w.heap.size w w'
theorem mix_zero (xs : List MS) : mix 0 xs = xs := by simp [mix]
theorem mix_all (xs : List MS) : mix xs.length xs = xs.map barM := by simp [mix]
theorem Sp.start {w w1 : World} {o : Obj} {u v' : Value} {xs : List MS} {d : Bool} {ty nm : List UInt8} (hb : Below ((((w.alloc o).alloc (aO (.slice none 0 0) false [] [] (0, 0, []))).alloc (aO u d ty nm (0, 0, []))).heap.size) (((w.alloc o).alloc (aO (.slice none 0 0) false [] [] (0, 0, []))).alloc (aO u d ty nm (0, 0, []))) w1) (ho : OwnM (((w.alloc o).alloc (aO (.slice none 0 0) false [] [] (0, 0, []))).alloc (aO u d ty nm (0, 0, []))).heap.size w1 v' xs) :
  (w1.cell? ⟨w.heap.size + 1 + 1, 0, none⟩ = some u /\ w1.frozen? ⟨w.heap.size + 1 + 1, 0, none⟩ = false) /\ Sp w (w1.setCell ⟨w.heap.size + 1 + 1, 0, none⟩ v') v' (mix 0 xs) d ty nm := by
 have hW : Below w.heap.size w (((w.alloc o).alloc (aO (.slice none 0 0) false [] [] (0, 0, []))).alloc (aO u d ty nm (0, 0, []))) := (((Below.refl _ _).alloc (Nat.le_refl _) _).alloc (by simp) _).alloc (by simp; omega) _;have hz : ((((w.alloc o).alloc (aO (.slice none 0 0) false [] [] (0, 0, []))).alloc (aO u d ty nm (0, 0, []))).heap.size) = w.heap.size + 3 := by simp
 have h2 : ((((w.alloc o).alloc (aO (.slice none 0 0) false [] [] (0, 0, []))).alloc (aO u d ty nm (0, 0, []))).heap)[w.heap.size + 1 + 1]? = some (aO u d ty nm (0, 0, [])) := by
  have := ko_new ((w.alloc o).alloc (aO (.slice none 0 0) false [] [] (0, 0, []))) (aO u d ty nm (0, 0, []));simpa using this
 have h1 : ((((w.alloc o).alloc (aO (.slice none 0 0) false [] [] (0, 0, []))).alloc (aO u d ty nm (0, 0, []))).heap)[w.heap.size + 1]? = some (aO (.slice none 0 0) false [] [] (0, 0, [])) := by
  have hk := ko_new (w.alloc o) (aO (.slice none 0 0) false [] [] (0, 0, []));have hbb : Below ((w.alloc o).alloc (aO (.slice none 0 0) false [] [] (0, 0, []))).heap.size ((w.alloc o).alloc (aO (.slice none 0 0) false [] [] (0, 0, []))) (((w.alloc o).alloc (aO (.slice none 0 0) false [] [] (0, 0, []))).alloc (aO u d ty nm (0, 0, []))) := (Below.refl _ _).alloc (Nat.le_refl _) _;have := (hbb.block _ (lt_of_block hk)).trans hk;simpa using this
 rw [hz] at hb ho;generalize ((w.alloc o).alloc (aO (.slice none 0 0) false [] [] (0, 0, []))).alloc (aO u d ty nm (0, 0, [])) = W3 at *;have k2 := (hb.block _ (by omega)).trans h2;have k1 := (hb.block _ (by omega)).trans h1;obtain ⟨c0, _, _, _, _, _, _, cf, _⟩ := ao_cells k2;refine ⟨⟨c0, cf 0⟩, ?_, ?_, ?_, ?_⟩
 . unfold World.setCell aO at *
   simp only [Array.getElem?_modify, if_true, k2, Option.map_some];rfl
 . rw [Below.heap_setCell _ _ _ _ (by simp only; omega)]; exact k1
 . rw [mix_zero]
   refine kept_off ho (grown_setC w1 ⟨w.heap.size + 1 + 1, 0, none⟩ v') (fun g hg e => ?_);have := (ho.lt g hg).1;simp at e;omega
 . exact (hW.trans (hb.mono (by omega))).setCell (show w.heap.size <= w.heap.size + 1 + 1 by omega) _
theorem row_le {w : World} {B B' sz n : Nat} {e : TypeId} {v : Value} {xs : List Value} (h : w.ownsRow B e sz v n xs) (hb : B' <= B) : w.ownsRow B' e sz v n xs := ⟨h.1, h.2.imp id fun ⟨g, cap, cur, e, hb2, r⟩ => ⟨g, cap, cur, e, by omega, r⟩⟩
theorem ao_fin {W : World} {b : Nat} {v0 : Value} {d0 : Bool} {ty0 nm0 : List UInt8} {k0 : KeyT} (hre : W.heap[b]? = some (aO v0 d0 ty0 nm0 k0)) (v2 : Value) (d2 : Bool) (ty2 nm2 : List UInt8) (k2 : KeyT) (W' : World)
  (e : W' = ((((((W.setCell ⟨b, 0, none⟩ v2).setCell ⟨b, 1, none⟩ (.bool d2)).setCell ⟨b, 2, none⟩ (.string ⟨ty2.toArray⟩)).setCell ⟨b, 3, none⟩ (.string ⟨nm2.toArray⟩)).setCell ⟨b, 4, none⟩ (.int .i64 k2.1)).setCell ⟨b, 5, none⟩ (.int .i64 k2.2.1)).setCell ⟨b, 6, none⟩ (.string ⟨k2.2.2.toArray⟩)) : W'.heap[b]? = some (aO v2 d2 ty2 nm2 k2) /\ W.grownBy W' (some b) := by
 subst e;refine ⟨?_, grown_trans (grown_trans (grown_trans (grown_trans (grown_trans (grown_trans (grown_setC W ⟨b, 0, none⟩ v2) (grown_setC _ ⟨b, 1, none⟩ (.bool d2))) (grown_setC _ ⟨b, 2, none⟩ (.string ⟨ty2.toArray⟩))) (grown_setC _ ⟨b, 3, none⟩ (.string ⟨nm2.toArray⟩))) (grown_setC _ ⟨b, 4, none⟩ (.int .i64 k2.1))) (grown_setC _ ⟨b, 5, none⟩ (.int .i64 k2.2.1))) (grown_setC _ ⟨b, 6, none⟩ (.string ⟨k2.2.2.toArray⟩))⟩;unfold World.setCell aO at *;simp only [Array.getElem?_modify, if_true, hre, Option.map_some];rfl
theorem Sp.fin {w W W' : World} {v : Value} {xs : List MS} {d : Bool} {ty nm : List UInt8} (h : Sp w W v xs d ty nm) (e : W' = ((((((W.setCell ⟨w.heap.size + 1, 0, none⟩ v).setCell ⟨w.heap.size + 1, 1, none⟩ (.bool d)).setCell ⟨w.heap.size + 1, 2, none⟩ (.string ⟨ty.toArray⟩)).setCell ⟨w.heap.size + 1, 3, none⟩ (.string ⟨nm.toArray⟩)).setCell ⟨w.heap.size + 1, 4, none⟩ (.int .i64 0)).setCell ⟨w.heap.size + 1, 5, none⟩ (.int .i64 0)).setCell ⟨w.heap.size + 1, 6, none⟩ (.string ⟨#[]⟩)) :
  W'.heap[w.heap.size + 1]? = some (aO v d ty nm (0, 0, [])) /\ OwnM w.heap.size W' v xs /\ Below w.heap.size w W' := by
 obtain ⟨h1, hg⟩ := ao_fin h.re v d ty nm (0, 0, []) W' e;refine ⟨h1, row_le (kept_off h.own hg (fun g hg2 e => ?_)) (by omega), h.bel.grown hg h.bel.size (fun k hk => by cases hk; omega)⟩;have := (h.own.lt g hg2).1;simp at e;omega
set_option maxHeartbeats 4000000 in
theorem static_any (B : Nat) (v : Value) (xs : List MS) (d : Bool) (ty nm : List UInt8) (k : KeyT) (w : World) (h : OwnM B w v xs) (hn : xs.length <= 2000000) : Calls Tryz.prog 87 #[aV v d ty nm k] w (StaR w xs d ty nm) := by
 obtain ⟨r, c, rfl, _, _⟩ := own_form h;have HCL := hid (fun (W : World) (hW : Below w.heap.size w W) => clone_m B (.slice r xs.length c) xs W (kept_off h (grown_below hW) (fun _ _ e => by cases e)) hn);clear h;unfold aV;go_enter Tryz.func87, Tryz.ntmps87;go_wp2_with fail
 refine Calls.mono (HCL.out _ (by exact (((Below.refl _ _).alloc (Nat.le_refl _) _).alloc (by simp) _).alloc (by simp; omega) _)) ?_;clear HCL;rintro e w1 ⟨v', rfl, ho, hb⟩;obtain ⟨r2, c2, rfl, hc1, hc2⟩ := own_form ho;obtain ⟨⟨s0, s1⟩, hP⟩ := Sp.start hb ho;have HP := hid hP;clear hP hb ho;go_wp2
 go_loopw [15] (fun t wr => ∃ k : Nat, k <= xs.length /\ t = .int .i64 k /\ Hid (Sp w wr (.slice r2 (xs.length) c2) (mix k xs) d ty nm)) (fun t _ => xs.length - (RowKit.intOf t).toNat)
 case atStart => exact ⟨0, Nat.zero_le _, rfl, HP⟩
 case round =>
  clear HP s0 s1;obtain ⟨k, hk, rfl, HP⟩ := hrel;obtain ⟨a0, _, _, _, _, _, _, af, _⟩ := ao_cells HP.out.ad;have f0 := af 0;clear af
  by_cases hlt : k < xs.length
  . obtain ⟨g, cap, hv, h1, h2, h3, h4, h5⟩ := HP.out.step hlt
    cases hv;obtain ⟨u1, q1⟩ := h4 1 (by omega);obtain ⟨u2, q2⟩ := h4 2 (by omega);obtain ⟨u3, q3⟩ := h4 3 (by omega);have p1 := h3 (k * 4 + 1);have p2 := h3 (k * 4 + 2);have p3 := h3 (k * 4 + 3);have HP5 := hid h5;clear h5 h3 h4;go_wp2
    go_roundw
    case rel => exact ⟨k + 1, by omega, by go_num, HP5⟩
    case measure => simp [RowKit.intOf]; omega
  . obtain ⟨_, a1, a2, a3, a4, a5, a6, _, _⟩ := ao_cells HP.out.ad
    obtain ⟨e0, e1, e2, e3, e4, e5, e6, ef, _⟩ := ao_cells HP.out.re;have g0 := ef 0;have g1 := ef 1;have g2 := ef 2;have g3 := ef 3;have g4 := ef 4;have g5 := ef 5;have g6 := ef 6;obtain rfl : k = xs.length := by omega
    go_wp2
    obtain ⟨hb, ho, hbel⟩ := HP.out.fin rfl;obtain ⟨k0, k1, k2, k3, k4, k5, k6, _, _⟩ := ao_cells hb;rw [mix_all] at ho;exact bodyPost_ret (v := aV (.slice r2 xs.length c2) d ty nm (0, 0, [])) (by simp [results, Tryz.results87, go_sem, k0, k1, k2, k3, k4, k5, k6, aV]) rfl ⟨_, rfl, ho, hbel⟩
def k0V : Value := .agg #[.int .i64 0, .int .i64 0, .string ⟨#[]⟩]
theorem valid0 (w : World) : Calls Tryz.prog 162 #[k0V] w fun e w' => e = .returned (.bool true) /\ Below w.heap.size w w' := by
 unfold k0V;go_enter Tryz.func162, Tryz.ntmps162;go_wp2
 go_ret
 exact ⟨rfl, (Below.refl _ _).alloc (Nat.le_refl _) _⟩
theorem fkey0 (w : World) : Calls Tryz.prog 128 #[k0V] w fun e w' => e = .returned (.string ⟨#[]⟩) /\ Below w.heap.size w w' := by
 have HV := hid (fun W => valid0 W);unfold k0V at *;go_enter Tryz.func128, Tryz.ntmps128;go_wp2_with (go_at_call 162; refine (HV.out _).mono ?_; rintro e w1 ⟨rfl, hb⟩; obtain ⟨hc, hf⟩ := bcellB hb)
 go_ret
 exact ⟨rfl, ((Below.refl _ _).alloc (Nat.le_refl _) _).trans (hb.mono (by simp))⟩
def MsR (_ : World) (cs : List Value) (x : MS) : Prop := cs = encM x
theorem msR_mono : Mono MsR := fun _ _ _ _ _ h => h
theorem OwnM.sl {B : Nat} {w : World} {v : Value} {xs : List MS} (h : OwnM B w v xs) : Sl MsR 4 w v xs := sl_of_own encM encM_len h
theorem ms_at {w : World} {r : Option Addr} {n c : Nat} {xs : List MS} (h : Sl MsR 4 w (.slice r n c) xs) (i : Nat) (hi : i < xs.length) :
  ∃ b off, r = some ⟨b, off, none⟩ /\ b < w.heap.size /\ w.cell? ⟨b, off + i * 4, none⟩ = some (.string ⟨(xs[i]).1.toArray⟩) /\ w.cell? ⟨b, off + i * 4 + 1, none⟩ = some (.int .i64 (xs[i]).2.1) /\ w.cell? ⟨b, off + i * 4 + 2, none⟩ = some (.int .i64 (xs[i]).2.2.1) /\ w.cell? ⟨b, off + i * 4 + 3, none⟩ = some (.string ⟨(xs[i]).2.2.2.toArray⟩) := by
 obtain ⟨r', c', e, h1, h2, he⟩ := h;simp at e;obtain ⟨rfl, rfl, rfl⟩ := e;obtain ⟨b, off, cs, hr, hs, hc, hv⟩ := he i hi;unfold MsR at hv;subst hv;have g0 := hc 0 _ rfl;exact ⟨b, off, hr, World.block_lt_of_cell? w _ g0, g0, hc 1 _ rfl, hc 2 _ rfl, hc 3 _ rfl⟩
def Bare (xs : List MS) : Prop := xs.length <= 16 /\ ∀ x ∈ xs, idB x.1 = true /\ x.2 = (0, 0, [])
theorem id_len {l : List UInt8} (h : idB l = true) : l.length <= 64 := by
 unfold idB at h;simp only [Bool.and_eq_true, decide_eq_true_eq] at h;exact h.1.1.2
theorem id_yes {l : List UInt8} (h : idB l = true) (w : World) : Calls Tryz.prog 156 #[.string ⟨l.toArray⟩] w fun e w' => e = .returned (.bool true) /\ w = w' := by
 have h2 := pident_any ⟨l.toArray⟩ w (by rw [arr_size]; have := id_len h; omega);rw [show idB (⟨l.toArray⟩ : ByteArray).data.toList = true from h] at h2;exact h2
theorem kd_yes {l : List UInt8} (h : kdB l = true) (w : World) : Calls Tryz.prog 125 #[.string ⟨l.toArray⟩] w fun e w' => e = .returned (.bool true) /\ w = w' := by
 have h1 : (idB l && !rsv l) = true := h;have h2 := pkind_any ⟨l.toArray⟩ w (by rw [arr_size]; rw [Bool.and_eq_true] at h1; have := id_len h1.1; omega);rw [show (idB (⟨l.toArray⟩ : ByteArray).data.toList && !rsv (⟨l.toArray⟩ : ByteArray).data.toList) = true from h1] at h2;exact h2
set_option maxHeartbeats 4000000 in
theorem check0 (r : Option Addr) (c : Nat) (xs : List MS) (d : Bool) (ty nm : List UInt8) (w : World) (h : Sl MsR 4 w (.slice r xs.length c) xs) (hx : Bare xs) (hty : kdB ty = true) (hnm : idB nm = true) :
  Calls Tryz.prog 126 #[aV (.slice r xs.length c) d ty nm (0, 0, [])] w fun e w' => e = .returned (.int .i64 0) /\ Below w.heap.size w w' := by
 obtain ⟨_, hl, hm⟩ := sl_len h;have h16 := hx.1;have HE := hid (fun (W : World) (hW : Below w.heap.size w W) => ms_at (h.below msR_mono hW));have HX := hid hx.2;have HV := hid (fun W => valid0 W);have HK := hid (fun W => kd_yes hty W);have HN := hid (fun W => id_yes hnm W);have HB0 := hid (show Below w.heap.size w (w.alloc (.cells #[.slice r xs.length c, .bool d, .string ⟨ty.toArray⟩, .string ⟨nm.toArray⟩, .int .i64 0, .int .i64 0, .string ⟨#[]⟩] 60)) from (Below.refl _ _).alloc (Nat.le_refl _) _);clear h hx hty hnm;unfold aV;unfold k0V at HV;go_enter Tryz.func126, Tryz.ntmps126;go_wp2
 have hz : (w.alloc (.cells #[.slice r xs.length c, .bool d, .string ⟨ty.toArray⟩, .string ⟨nm.toArray⟩, .int .i64 0, .int .i64 0, .string ⟨#[]⟩] 60)).heap.size = w.heap.size + 1 := by simp
 obtain ⟨z0, z1, z2, z3, z4, z5, z6, _⟩ := ao_cells (v := .slice r xs.length c) (d := d) (ty := ty) (nm := nm) (k := (0, 0, [])) (ko_new w (.cells #[.slice r xs.length c, .bool d, .string ⟨ty.toArray⟩, .string ⟨nm.toArray⟩, .int .i64 0, .int .i64 0, .string ⟨#[]⟩] 60));have HZ := hid (And.intro z2 (And.intro z3 (And.intro z4 (And.intro z5 z6))));clear z0 z1 z2 z3 z4 z5 z6;generalize w.alloc (.cells #[.slice r xs.length c, .bool d, .string ⟨ty.toArray⟩, .string ⟨nm.toArray⟩, .int .i64 0, .int .i64 0, .string ⟨#[]⟩] 60) = W0 at *;have HS := hid hz;clear hz;go_loopw [12] (fun t wr => ∃ k : Nat, k <= xs.length /\ t = .int .i64 k /\ Hid (Below W0.heap.size W0 wr)) (fun t _ => xs.length - (RowKit.intOf t).toNat)
 case atStart => exact ⟨0, Nat.zero_le _, rfl, hid (Below.refl _ _)⟩
 case round =>
  obtain ⟨k, hk, rfl, HW⟩ := hrel
  by_cases hlt : k < xs.length
  . obtain ⟨b, off, rfl, hb, g0, g1, g2, g3⟩ := HE.out wr (HB0.out.trans (HW.out.mono (by rw [HS.out]; omega))) k hlt
    obtain ⟨j1, j2⟩ := HX.out xs[k] (List.getElem_mem hlt);rw [j2] at g1 g2 g3;have HI := hid (fun W => id_yes j1 W);clear j1 j2;generalize xs[k].1 = s at *
    go_wp2_with (first
     | (go_at_call 156; refine (HI.out _).mono ?_; rintro e w3 ⟨rfl, rfl⟩)
     | (go_at_call 162; refine (HV.out _).mono ?_; rintro e w4 ⟨rfl, hb4⟩; have HB4 := hid hb4; clear hb4))
    go_roundw
    case rel => exact ⟨k + 1, by omega, by go_num, hid (HW.out.trans ((((Below.refl _ _).alloc (Nat.le_refl _) _).trans (HB4.out.mono (by simp))).mono HW.out.size))⟩
    case measure => simp [RowKit.intOf]; omega
  . obtain ⟨z2, z3, z4, z5, z6⟩ := HZ.out
    have q2 := bget HW.out z2;have q3 := bget HW.out z3;have q4 := bget HW.out z4;have q5 := bget HW.out z5;have q6 := bget HW.out z6;clear z2 z3 z4 z5 z6
    go_wp2_with (first
     | (go_at_call 125; refine (HK.out _).mono ?_; rintro e w3 ⟨rfl, rfl⟩)
     | (go_at_call 156; refine (HN.out _).mono ?_; rintro e w3 ⟨rfl, rfl⟩)
     | (go_at_call 162; refine (HV.out _).mono ?_; rintro e w4 ⟨rfl, hb4⟩; have HB4 := hid hb4; clear hb4))
    go_ret
    exact ⟨rfl, (HB0.out.trans (HW.out.mono (by rw [HS.out]; omega))).trans (HB4.out.mono (by have := HW.out.size; have := HS.out; omega))⟩
def stpB (x : MS) : List UInt8 := MODP ++ x.1 ++ [46]
def fmtB (xs : List MS) (d : Bool) (ty nm : List UInt8) : List UInt8 := xs.flatMap stpB ++ (if d = true then DATP else []) ++ (ty ++ [46] ++ nm)
theorem pre_len {xs : List MS} (h : ∀ x ∈ xs, idB x.1 = true) : (xs.flatMap stpB).length <= xs.length * 72 := by
 induction xs with
 | nil => simp
 | cons x xs ih =>
   have h1 := id_len (h x (by simp));have h2 := ih (fun y hy => h y (by simp [hy]));rw [List.flatMap_cons, List.length_append, List.length_cons];have : (stpB x).length <= 72 := by unfold stpB MODP; simp; omega
   omega
theorem cat_mod (s : List UInt8) (h : s.length <= 64) (W : World) : (Op.stringOp .add ⟨#[109, 111, 100, 117, 108, 101, 46]⟩ ⟨s.toArray⟩).run Tryz.prog W = .ok (.string ⟨(MODP ++ s).toArray⟩) W := cat_run W MODP s (by unfold MODP; simp; omega)
theorem cat_nil (p : List UInt8) (h : p.length <= 1200000) (W : World) : (Op.stringOp .add ⟨p.toArray⟩ ⟨#[]⟩).run Tryz.prog W = .ok (.string ⟨p.toArray⟩) W := by
 have := cat_run W p [] (by simp; omega);rw [List.append_nil] at this;exact this
theorem cat_dot (p : List UInt8) (h : p.length <= 1200000) (W : World) : (Op.stringOp .add ⟨p.toArray⟩ ⟨#[46]⟩).run Tryz.prog W = .ok (.string ⟨(p ++ [46]).toArray⟩) W := cat_run W p [46] (by simp; omega)
set_option maxHeartbeats 8000000 in
theorem format0 (r : Option Addr) (c : Nat) (xs : List MS) (d : Bool) (ty nm : List UInt8) (w : World) (h : Sl MsR 4 w (.slice r xs.length c) xs) (hx : Bare xs) (hty : kdB ty = true) (hnm : idB nm = true) :
  Calls Tryz.prog 86 #[aV (.slice r xs.length c) d ty nm (0, 0, [])] w fun e w' => e = .returned (.string ⟨(fmtB xs d ty nm).toArray⟩) /\ Below w.heap.size w w' := by
 obtain ⟨_, hl, hm⟩ := sl_len h;have h16 := hx.1;have HE := hid (fun (W : World) (hW : Below w.heap.size w W) => ms_at (h.below msR_mono hW));have HX := hid hx.2;have HC := hid (fun (W : World) (hW : Below w.heap.size w W) => check0 r c xs d ty nm W (h.below msR_mono hW) hx hty hnm);have HF := hid (fun W => fkey0 W)
 have hty2 : ty.length <= 64 := by
  have h1 : (idB ty && !rsv ty) = true := hty;rw [Bool.and_eq_true] at h1;exact id_len h1.1
 have hnm2 := id_len hnm;have HP := hid (fun k => pre_len (xs := xs.take k) (fun x hx2 => (hx.2 x (List.mem_of_mem_take hx2)).1));have HB0 := hid (show Below w.heap.size w (w.alloc (.cells #[.slice r xs.length c, .bool d, .string ⟨ty.toArray⟩, .string ⟨nm.toArray⟩, .int .i64 0, .int .i64 0, .string ⟨#[]⟩] 60)) from (Below.refl _ _).alloc (Nat.le_refl _) _)
 have HZ := hid (fun (W : World) (hb : Below (w.alloc (.cells #[.slice r xs.length c, .bool d, .string ⟨ty.toArray⟩, .string ⟨nm.toArray⟩, .int .i64 0, .int .i64 0, .string ⟨#[]⟩] 60)).heap.size (w.alloc (.cells #[.slice r xs.length c, .bool d, .string ⟨ty.toArray⟩, .string ⟨nm.toArray⟩, .int .i64 0, .int .i64 0, .string ⟨#[]⟩] 60)) W) => show (W.cell? ⟨w.heap.size, 0, none⟩ = some (.slice r xs.length c) /\ W.cell? ⟨w.heap.size, 1, none⟩ = some (.bool d) /\ W.cell? ⟨w.heap.size, 2, none⟩ = some (.string ⟨ty.toArray⟩) /\ W.cell? ⟨w.heap.size, 3, none⟩ = some (.string ⟨nm.toArray⟩) /\ W.cell? ⟨w.heap.size, 4, none⟩ = some (.int .i64 0) /\ W.cell? ⟨w.heap.size, 5, none⟩ = some (.int .i64 0) /\ W.cell? ⟨w.heap.size, 6, none⟩ = some (.string ⟨#[]⟩)) /\ w.heap.size < W.heap.size from by
  obtain ⟨z0, z1, z2, z3, z4, z5, z6, _⟩ := ao_cells (v := .slice r xs.length c) (d := d) (ty := ty) (nm := nm) (k := (0, 0, [])) (ko_new w (.cells #[.slice r xs.length c, .bool d, .string ⟨ty.toArray⟩, .string ⟨nm.toArray⟩, .int .i64 0, .int .i64 0, .string ⟨#[]⟩] 60));exact ⟨⟨bget hb z0, bget hb z1, bget hb z2, bget hb z3, bget hb z4, bget hb z5, bget hb z6⟩, by have := hb.size; simp at this; omega⟩)
 clear h hx hty hnm;unfold aV at *;unfold k0V at HF;go_enter Tryz.func86, Tryz.ntmps86;go_wp2_with (go_at_call 126; refine (HC.out _ HB0.out).mono ?_; rintro e w1 ⟨rfl, hb1⟩; have HB1 := hid (HB0.out.trans (hb1.mono HB0.out.size)); obtain ⟨⟨q0, q1, q2, q3, q4, q5, q6⟩, hlt1⟩ := HZ.out _ hb1; clear hb1 HZ)
 have HBN := hid (bl_new w1 w1.heap.size (Nat.le_refl _));have HBA := hid (show Below w1.heap.size w1 (w1.alloc (.cells #[.pointer none, .slice none 0 0] 174)) from (Below.refl _ _).alloc (Nat.le_refl _) _);have HQ := hid (And.intro q1 (And.intro q2 (And.intro q3 (And.intro q4 (And.intro q5 q6)))));clear q0 q1 q2 q3 q4 q5 q6;generalize w1.alloc (.cells #[.pointer none, .slice none 0 0] 174) = wA at *;go_loopw [12] (fun t wr => ∃ k : Nat, k <= xs.length /\ t = .int .i64 k /\ Hid (BL w1.heap.size w1.heap.size ((xs.take k).flatMap stpB) wr) /\ Hid (Below w1.heap.size w1 wr)) (fun t _ => xs.length - (RowKit.intOf t).toNat)
 case atStart => exact ⟨0, Nat.zero_le _, rfl, hid (by simpa using HBN.out), HBA⟩
 case round =>
  clear HBN HBA;obtain ⟨k, hk, rfl, HL, HW⟩ := hrel
  by_cases hlt : k < xs.length
  . obtain ⟨b, off, rfl, hb, g0, g1, g2, g3⟩ := HE.out wr (HB1.out.trans (HW.out.mono HB1.out.size)) k hlt
    have HTK := hid (show (xs.take (k + 1)).flatMap stpB = (xs.take k).flatMap stpB ++ (MODP ++ xs[k].1 ++ [46]) by rw [List.take_succ_eq_append_getElem hlt, List.flatMap_append]; simp [stpB]);have hp := HP.out k;obtain ⟨j1, j2⟩ := HX.out xs[k] (List.getElem_mem hlt);have hs := id_len j1;rw [j2] at g1 g2 g3;clear j1 j2;generalize xs[k].1 = s at *;have HPL := hid (show ((xs.take k).flatMap stpB).length <= 1000000000 by rw [List.length_take] at hp; omega);clear hp;have hm1 := cat_mod s hs;have hp1 : (MODP ++ s).length <= 100 := by unfold MODP; simp; omega
    generalize hpe : MODP ++ s = p1 at *;have hn1 := cat_nil p1 (by omega);have hd1 := cat_dot p1 (by omega);have hp2 : (p1 ++ [46]).length <= 101 := by rw [List.length_append]; simp; omega
    generalize p1 ++ [46] = p2 at *;have HP2 := hid (show (⟨p2.toArray⟩ : ByteArray).size <= 1000000000 by rw [arr_size]; omega);clear hpe hp1 hp2 hs hl hm hty2 hnm2;have HBS := hid (show Below wr.heap.size wr ((wr.alloc (.cells #[.string ⟨s.toArray⟩, .int .i64 0, .int .i64 0, .string ⟨#[]⟩] 119)).drew) from below_alloc_drew _ _);have HLD := hid (bl_kept HL.out HBS.out);go_wp2_with fail
    go_region_law
     (first
     | (go_simp
        go_at_call 128;refine (HF.out _).mono ?_;rintro e w3 ⟨rfl, hb3⟩;obtain ⟨hc3, hf3⟩ := bcellB hb3;have HL3 := hid (bl_kept HLD.out hb3);have HB3 := hid (HBS.out.trans (hb3.mono HBS.out.size));clear hb3)
     | (go_simp
        go_at_call 127;refine (bstr_b w1.heap.size w1.heap.size _ _ _ HL3.out HPL.out HP2.out (Nat.le_trans HW.out.size HB3.out.size)).mono ?_;rintro e w4 ⟨rfl, hl4, hb4⟩;have HL4 := hid hl4;have HB4 := hid hb4;clear hb4 hl4))
    all_goals go_wp2
    all_goals go_roundw
    all_goals first
     | (case measure => simp [RowKit.intOf]; omega)
     | exact ⟨k + 1, by omega, by go_num, hid (by rw [HTK.out]; exact HL4.out), hid (HW.out.trans ((HB3.out.mono HW.out.size).trans HB4.out))⟩
     | skip
  . obtain rfl : k = xs.length := by omega
    rw [List.take_length] at HL;have hp := HP.out xs.length;rw [List.take_length] at hp;have hdt := cat_dot ty (by omega);have hdn := fun W => cat_run W (ty ++ [46]) nm (by rw [List.length_append]; simp; omega);have hl1 : (ty ++ [46] ++ nm).length <= 129 := by rw [List.length_append, List.length_append]; simp; omega
    have hnn := cat_nil (ty ++ [46] ++ nm) (by omega);have HFM := hid (show fmtB xs d ty nm = xs.flatMap stpB ++ (if d = true then DATP else []) ++ (ty ++ [46] ++ nm) from rfl);generalize xs.flatMap stpB = P at *;generalize ty ++ [46] ++ nm = p2 at *;generalize ty ++ [46] = p1 at *;have HP2 := hid (show (⟨p2.toArray⟩ : ByteArray).size <= 1000000000 by rw [arr_size]; omega);have HPL := hid (show P.length <= 2000 by omega);clear hl1 hp hty2 hnm2 hl hm hlt;obtain ⟨q1, q2, q3, q4, q5, q6⟩ := HQ.out;have bg : ∀ (o : Nat) (v : Value) (A B : World), Below w1.heap.size A B -> A.cell? ⟨w.heap.size, o, none⟩ = some v -> B.cell? ⟨w.heap.size, o, none⟩ = some v := fun _ _ _ _ hb h => (hb.cell (p := ⟨w.heap.size, _, none⟩) hlt1).trans h;have HBG := hid bg;clear bg;have r1 := HBG.out _ _ _ _ HW.out q1;have r2 := HBG.out _ _ _ _ HW.out q2;have r3 := HBG.out _ _ _ _ HW.out q3;have r4 := HBG.out _ _ _ _ HW.out q4;have r5 := HBG.out _ _ _ _ HW.out q5;have r6 := HBG.out _ _ _ _ HW.out q6;clear q1 q2 q3 q4 q5 q6 HQ;have HST := hid (fun (l : List UInt8) (W : World) (h : BL w1.heap.size w1.heap.size l W) (hW : w1.heap.size <= W.heap.size) => Tryz.Builder_String_any w1.heap.size w1.heap.size l W h hW);cases d
    case false =>
     have HPF := hid (show P.length <= 1000000000 by have := HPL.out; omega);go_wp2_with fail
     have HD := hid (show Below wr.heap.size wr wr.drew from (Below.refl _ _).drew);have HLD := hid (bl_kept HL.out HD.out);have HS0 := hid (show wr.drew.cell? ⟨w.heap.size, 2, none⟩ = some (.string ⟨ty.toArray⟩) /\ wr.drew.cell? ⟨w.heap.size, 3, none⟩ = some (.string ⟨nm.toArray⟩) /\ wr.drew.cell? ⟨w.heap.size, 4, none⟩ = some (.int .i64 0) /\ wr.drew.cell? ⟨w.heap.size, 5, none⟩ = some (.int .i64 0) /\ wr.drew.cell? ⟨w.heap.size, 6, none⟩ = some (.string ⟨#[]⟩) from ⟨bget HD.out r2, bget HD.out r3, bget HD.out r4, bget HD.out r5, bget HD.out r6⟩);clear r1 r2 r3 r4 r5 r6
     go_region_held3 (fun w' => w'.cell? ⟨w.heap.size, 2, none⟩ = some (.string ⟨ty.toArray⟩) /\ w'.cell? ⟨w.heap.size, 3, none⟩ = some (.string ⟨nm.toArray⟩) /\ w'.cell? ⟨w.heap.size, 4, none⟩ = some (.int .i64 0) /\ w'.cell? ⟨w.heap.size, 5, none⟩ = some (.int .i64 0) /\ w'.cell? ⟨w.heap.size, 6, none⟩ = some (.string ⟨#[]⟩)) (first | exact HS0.out | exact HS3.out | exact HS4.out)
      ((first
        | (go_at_call 128
           refine (HF.out _).mono ?_;rintro e w3 ⟨rfl, hb3⟩;have HL3 := hid (bl_kept HLD.out hb3);have HB3 := hid (HD.out.trans (hb3.mono HD.out.size));obtain ⟨s2, s3, s4, s5, s6⟩ := HS0.out;have HS3 := hid (And.intro (bget hb3 s2) (And.intro (bget hb3 s3) (And.intro (bget hb3 s4) (And.intro (bget hb3 s5) (bget hb3 s6)))));clear hb3 s2 s3 s4 s5 s6)
        | (go_at_call 127
           refine (bstr_b w1.heap.size w1.heap.size _ _ _ HL3.out HPF.out HP2.out (Nat.le_trans HW.out.size HB3.out.size)).mono ?_;rintro e w4 ⟨rfl, hl4, hb4⟩;have HL4 := hid hl4;have HB4 := hid hb4;obtain ⟨s2, s3, s4, s5, s6⟩ := HS3.out;have HS4 := hid (And.intro (HBG.out _ _ _ _ hb4 s2) (And.intro (HBG.out _ _ _ _ hb4 s3) (And.intro (HBG.out _ _ _ _ hb4 s4) (And.intro (HBG.out _ _ _ _ hb4 s5) (HBG.out _ _ _ _ hb4 s6)))));clear hb4 hl4 s2 s3 s4 s5 s6)))
     go_wp2_with (go_at_call 129; refine (HST.out _ _ HL4.out (Nat.le_trans (Nat.le_trans HW.out.size HB3.out.size) HB4.out.size)).mono ?_; rintro e w5 ⟨rfl, hb5⟩; have HB5 := hid hb5; clear hb5)
     go_ret
     have HBB := HW.out.trans ((HB3.out.mono HW.out.size).trans HB4.out);exact ⟨ret_str (by rw [HFM.out]; simp), HB1.out.trans ((HBB.trans HB5.out).mono HB1.out.size)⟩
    case true =>
     have HPF := hid (show P.length <= 1000000000 by have := HPL.out; omega);have HPG := hid (show (P ++ DATP).length <= 1000000000 by have := HPL.out; rw [List.length_append]; unfold DATP; simp; omega);go_wp2_with (go_at_call 127; refine (bstr_b w1.heap.size w1.heap.size P ⟨#[100, 97, 116, 97, 46]⟩ _ HL.out HPF.out (by show 5 <= 1000000000; omega) HW.out.size).mono ?_; rintro e w2 ⟨rfl, hl2, hb2⟩; have HL2 := hid (show BL w1.heap.size w1.heap.size (P ++ DATP) w2 from hl2); have HW2 := hid (HW.out.trans hb2); have t1 := HBG.out _ _ _ _ hb2 r1; have t2 := HBG.out _ _ _ _ hb2 r2; have t3 := HBG.out _ _ _ _ hb2 r3; have t4 := HBG.out _ _ _ _ hb2 r4; have t5 := HBG.out _ _ _ _ hb2 r5; have t6 := HBG.out _ _ _ _ hb2 r6; clear hb2 hl2 r1 r2 r3 r4 r5 r6)
     have HD := hid (show Below w2.heap.size w2 w2.drew from (Below.refl _ _).drew);have HLD := hid (bl_kept HL2.out HD.out);have HS0 := hid (show w2.drew.cell? ⟨w.heap.size, 2, none⟩ = some (.string ⟨ty.toArray⟩) /\ w2.drew.cell? ⟨w.heap.size, 3, none⟩ = some (.string ⟨nm.toArray⟩) /\ w2.drew.cell? ⟨w.heap.size, 4, none⟩ = some (.int .i64 0) /\ w2.drew.cell? ⟨w.heap.size, 5, none⟩ = some (.int .i64 0) /\ w2.drew.cell? ⟨w.heap.size, 6, none⟩ = some (.string ⟨#[]⟩) from ⟨bget HD.out t2, bget HD.out t3, bget HD.out t4, bget HD.out t5, bget HD.out t6⟩);clear t1 t2 t3 t4 t5 t6
     go_region_held3 (fun w' => w'.cell? ⟨w.heap.size, 2, none⟩ = some (.string ⟨ty.toArray⟩) /\ w'.cell? ⟨w.heap.size, 3, none⟩ = some (.string ⟨nm.toArray⟩) /\ w'.cell? ⟨w.heap.size, 4, none⟩ = some (.int .i64 0) /\ w'.cell? ⟨w.heap.size, 5, none⟩ = some (.int .i64 0) /\ w'.cell? ⟨w.heap.size, 6, none⟩ = some (.string ⟨#[]⟩)) (first | exact HS0.out | exact HS3.out | exact HS4.out)
      ((first
        | (go_at_call 128
           refine (HF.out _).mono ?_;rintro e w3 ⟨rfl, hb3⟩;have HL3 := hid (bl_kept HLD.out hb3);have HB3 := hid (HD.out.trans (hb3.mono HD.out.size));obtain ⟨s2, s3, s4, s5, s6⟩ := HS0.out;have HS3 := hid (And.intro (bget hb3 s2) (And.intro (bget hb3 s3) (And.intro (bget hb3 s4) (And.intro (bget hb3 s5) (bget hb3 s6)))));clear hb3 s2 s3 s4 s5 s6)
        | (go_at_call 127
           refine (bstr_b w1.heap.size w1.heap.size _ _ _ HL3.out HPG.out HP2.out (Nat.le_trans HW2.out.size HB3.out.size)).mono ?_;rintro e w4 ⟨rfl, hl4, hb4⟩;have HL4 := hid hl4;have HB4 := hid hb4;obtain ⟨s2, s3, s4, s5, s6⟩ := HS3.out;have HS4 := hid (And.intro (HBG.out _ _ _ _ hb4 s2) (And.intro (HBG.out _ _ _ _ hb4 s3) (And.intro (HBG.out _ _ _ _ hb4 s4) (And.intro (HBG.out _ _ _ _ hb4 s5) (HBG.out _ _ _ _ hb4 s6)))));clear hb4 hl4 s2 s3 s4 s5 s6)))
     go_wp2_with (go_at_call 129; refine (HST.out _ _ HL4.out (Nat.le_trans (Nat.le_trans HW2.out.size HB3.out.size) HB4.out.size)).mono ?_; rintro e w5 ⟨rfl, hb5⟩; have HB5 := hid hb5; clear hb5)
     go_ret
     have HBB := HW2.out.trans ((HB3.out.mono HW2.out.size).trans HB4.out);exact ⟨ret_str (by rw [HFM.out]; simp), HB1.out.trans ((HBB.trans HB5.out).mono HB1.out.size)⟩
theorem uv_getD {a b : List UInt8} {i : Nat} (h : i < a.length) : (a ++ b).getD i 0 = a.getD i 0 := by
 rw [List.getD_eq_getElem?_getD, List.getD_eq_getElem?_getD, List.getElem?_append_left h]
theorem decRN_more {n n' b0 b1 b2 b3 c1 c2 c3 : Nat} (hn : n <= n') (h1 : 1 < n -> c1 = b1) (h2 : 2 < n -> c2 = b2) (h3 : 3 < n -> c3 = b3) (h : decRN n b0 b1 b2 b3 ≠ 0) : decRN n' b0 c1 c2 c3 = decRN n b0 b1 b2 b3 := by
 unfold decRN at h ⊢
 by_cases e1 : b0 < 128
 . rw [if_pos e1, if_pos e1]
 rw [if_neg e1] at h ⊢;rw [if_neg e1]
 by_cases e2 : 194 <= b0 /\ b0 <= 223 /\ 1 < n /\ 128 <= b1 /\ b1 <= 191
 . have := h1 e2.2.2.1
   rw [if_pos e2, if_pos (by omega)]
 rw [if_neg e2] at h ⊢
 by_cases e3 : 224 <= b0 /\ b0 <= 239 /\ 1 < n /\ (if b0 = 224 then 160 else 128) <= b1 /\ b1 <= (if b0 = 237 then 159 else 191) /\ 2 < n /\ 128 <= b2 /\ b2 <= 191
 . have k1 := h1 e3.2.2.1
   have k2 := h2 e3.2.2.2.2.2.1;subst k1 k2;rw [if_pos e3, if_neg (by omega), if_pos ⟨e3.1, e3.2.1, by omega, e3.2.2.2.1, e3.2.2.2.2.1, by omega, e3.2.2.2.2.2.2⟩]
 rw [if_neg e3] at h ⊢
 by_cases e4 : 240 <= b0 /\ b0 <= 244 /\ 1 < n /\ (if b0 = 240 then 144 else 128) <= b1 /\ b1 <= (if b0 = 244 then 143 else 191) /\ 2 < n /\ 128 <= b2 /\ b2 <= 191 /\ 3 < n /\ 128 <= b3 /\ b3 <= 191
 . have k1 := h1 e4.2.2.1
   have k2 := h2 e4.2.2.2.2.2.1;have k3 := h3 e4.2.2.2.2.2.2.2.2.1;subst k1 k2 k3;rw [if_pos e4, if_neg (by omega), if_neg (by omega), if_pos ⟨e4.1, e4.2.1, by omega, e4.2.2.2.1, e4.2.2.2.2.1, by omega, e4.2.2.2.2.2.2.1, e4.2.2.2.2.2.2.2.1, by omega, e4.2.2.2.2.2.2.2.2.2⟩]
 . rw [if_neg e4] at h
   exact absurd rfl h
theorem uv_app {a : List UInt8} (b : List UInt8) (hne : a ≠ []) (h : decR a ≠ 0) : decR (a ++ b) = decR a := by
 have hl : 0 < a.length := List.length_pos_iff.2 hne;unfold decR at h ⊢;rw [uv_getD hl];exact decRN_more (by simp) (fun h1 => by rw [uv_getD h1]) (fun h1 => by rw [uv_getD h1]) (fun h1 => by rw [uv_getD h1]) h
theorem uv_le {a : List UInt8} (hne : a ≠ []) : decR a <= a.length := by
 have hl : 0 < a.length := List.length_pos_iff.2 hne;unfold decR;generalize a.length = n at *;generalize (a.getD 0 0).toNat = b0;generalize (a.getD 1 0).toNat = b1;generalize (a.getD 2 0).toNat = b2;generalize (a.getD 3 0).toNat = b3;unfold decRN
 by_cases e1 : b0 < 128
 . rw [if_pos e1]; omega
 rw [if_neg e1]
 by_cases e2 : 194 <= b0 /\ b0 <= 223 /\ 1 < n /\ 128 <= b1 /\ b1 <= 191
 . rw [if_pos e2]; omega
 rw [if_neg e2]
 by_cases e3 : 224 <= b0 /\ b0 <= 239 /\ 1 < n /\ (if b0 = 224 then 160 else 128) <= b1 /\ b1 <= (if b0 = 237 then 159 else 191) /\ 2 < n /\ 128 <= b2 /\ b2 <= 191
 . rw [if_pos e3]; have := e3.2.2.2.2.2.1; omega
 rw [if_neg e3]
 by_cases e4 : 240 <= b0 /\ b0 <= 244 /\ 1 < n /\ (if b0 = 240 then 144 else 128) <= b1 /\ b1 <= (if b0 = 244 then 143 else 191) /\ 2 < n /\ 128 <= b2 /\ b2 <= 191 /\ 3 < n /\ 128 <= b3 /\ b3 <= 191
 . rw [if_pos e4]; have := e4.2.2.2.2.2.2.2.2.1; omega
 . rw [if_neg e4]; omega
theorem validD_app : ∀ (n : Nat) (a b : List UInt8), a.length <= n -> validD a = true -> validD (a ++ b) = validD b
 | 0, a, b, h, _ => by rw [List.length_eq_zero_iff.1 (Nat.le_zero.1 h)]; rfl
 | n + 1, a, b, h, hv => by
   by_cases hne : a = []
   . rw [hne]; rfl
   have hv2 := hv;rw [validD_ref a hne] at hv2
   by_cases h0 : decR a = 0
   . rw [if_pos h0] at hv2; cases hv2
   rw [if_neg h0] at hv2;have hle := uv_le hne;rw [validD_ref (a ++ b) (by simp [hne]), uv_app b hne h0, if_neg h0, List.drop_append_of_le_length hle];exact validD_app n _ b (by rw [List.length_drop]; omega) hv2
theorem validD_both {a b : List UInt8} (h : validD a = true) (h2 : validD b = true) : validD (a ++ b) = true := by rw [validD_app a.length a b (Nat.le_refl _) h]; exact h2
theorem validD_one {p : List UInt8} (hne : p ≠ []) (h : decR p = p.length) : validD p = true := by
 have hl : 0 < p.length := List.length_pos_iff.2 hne;rw [validD_ref p hne, if_neg (by omega), h, List.drop_length];exact validD_nil
theorem u8n {x : Int} (h0 : 0 <= x) (h1 : x < 256) : (x.toNat.toUInt8).toNat = x.toNat := by
 rw [Nat.toUInt8_eq, UInt8.toNat_ofNat'];omega
theorem uv_enc (r : Int) : decR (Lib.encodeRune r) = (Lib.encodeRune r).length /\ Lib.encodeRune r ≠ [] := by
 have hb := Lib.encodeRuneZ_byte r;have hz : (0 : UInt8).toNat = 0 := rfl;unfold Lib.encodeRune
 by_cases h1 : r < 0 ∨ (55296 <= r /\ r <= 57343) ∨ 1114111 < r
 . rw [Lib.encodeRuneZ_bad h1]; exact ⟨by decide, by simp⟩
 by_cases h2 : r <= 127
 . rw [Lib.encodeRuneZ_one (by omega) h2] at hb ⊢
   have e0 := u8n (hb r (by simp)).1 (hb r (by simp)).2;refine ⟨?_, by simp⟩;simp only [List.map_cons, List.map_nil, decR, List.length_cons, List.length_nil, List.getD_cons_zero, e0];unfold decRN;rw [if_pos (by omega)]
 by_cases h3 : r <= 2047
 . rw [Lib.encodeRuneZ_two (by omega) h3] at hb ⊢
   have e0 := u8n (hb (192 + r / 64) (by simp)).1 (hb _ (by simp)).2;have e1 := u8n (hb (128 + r % 64) (by simp)).1 (hb _ (by simp)).2;refine ⟨?_, by simp⟩;simp only [List.map_cons, List.map_nil, decR, List.length_cons, List.length_nil, List.getD_cons_zero, List.getD_cons_succ, e0, e1];unfold decRN;rw [if_neg (by omega), if_pos (by omega)]
 by_cases h4 : r <= 65535
 . rw [Lib.encodeRuneZ_three (by omega)] at hb ⊢
   have e0 := u8n (hb (224 + r / 4096) (by simp)).1 (hb _ (by simp)).2;have e1 := u8n (hb (128 + r / 64 % 64) (by simp)).1 (hb _ (by simp)).2;have e2 := u8n (hb (128 + r % 64) (by simp)).1 (hb _ (by simp)).2;refine ⟨?_, by simp⟩;simp only [List.map_cons, List.map_nil, decR, List.length_cons, List.length_nil, List.getD_cons_zero, List.getD_cons_succ, e0, e1, e2];unfold decRN;rw [if_neg (by omega), if_neg (by omega), if_pos ⟨by omega, by omega, by omega, by split <;> omega, by split <;> omega, by omega, by omega, by omega⟩]
 . rw [Lib.encodeRuneZ_four (by omega) (by omega)] at hb ⊢
   have e0 := u8n (hb (240 + r / 262144) (by simp)).1 (hb _ (by simp)).2;have e1 := u8n (hb (128 + r / 4096 % 64) (by simp)).1 (hb _ (by simp)).2;have e2 := u8n (hb (128 + r / 64 % 64) (by simp)).1 (hb _ (by simp)).2;have e3 := u8n (hb (128 + r % 64) (by simp)).1 (hb _ (by simp)).2;refine ⟨?_, by simp⟩;simp only [List.map_cons, List.map_nil, decR, List.length_cons, List.length_nil, List.getD_cons_zero, List.getD_cons_succ, e0, e1, e2, e3];unfold decRN;rw [if_neg (by omega), if_neg (by omega), if_neg (by omega), if_pos ⟨by omega, by omega, by omega, by split <;> omega, by split <;> omega, by omega, by omega, by omega, by omega, by omega, by omega⟩]
theorem validD_enc (r : Int) : validD (Lib.encodeRune r) = true := validD_one (uv_enc r).2 (uv_enc r).1
theorem uv_take {l : List UInt8} (hne : l ≠ []) (h : decR l ≠ 0) : decR (l.take (decR l)) = decR l := by
 have hl : 0 < l.length := List.length_pos_iff.2 hne;have hle := uv_le hne
 have g : ∀ i, i < decR l -> (l.take (decR l)).getD i 0 = l.getD i 0 := fun i hi => by
  rw [List.getD_eq_getElem?_getD, List.getD_eq_getElem?_getD, List.getElem?_take, if_pos hi]
 have hlen : (l.take (decR l)).length = decR l := by rw [List.length_take]; omega
 have hb := g 0 (by omega);generalize hD : decR l = D at *;unfold decR at hD ⊢;rw [hlen, hb];generalize l.length = n at *;have g1 : 1 < D -> (l.take D).getD 1 0 = l.getD 1 0 := fun h => g 1 h;have g2 : 2 < D -> (l.take D).getD 2 0 = l.getD 2 0 := fun h => g 2 h;have g3 : 3 < D -> (l.take D).getD 3 0 = l.getD 3 0 := fun h => g 3 h;generalize (l.take D).getD 1 0 = x1 at *;generalize (l.take D).getD 2 0 = x2 at *;generalize (l.take D).getD 3 0 = x3 at *;clear g;generalize l.getD 0 0 = b0 at *;generalize l.getD 1 0 = b1 at *;generalize l.getD 2 0 = b2 at *;generalize l.getD 3 0 = b3 at *;clear hb;unfold decRN at hD ⊢
 by_cases e1 : b0.toNat < 128
 . rw [if_pos e1] at hD ⊢; omega
 rw [if_neg e1] at hD ⊢
 by_cases e2 : 194 <= b0.toNat /\ b0.toNat <= 223 /\ 1 < n /\ 128 <= b1.toNat /\ b1.toNat <= 191
 . rw [if_pos e2] at hD
   have k1 := g1 (by omega);subst k1;rw [if_pos (by omega)]; exact hD
 rw [if_neg e2] at hD
 by_cases e3 : 224 <= b0.toNat /\ b0.toNat <= 239 /\ 1 < n /\ (if b0.toNat = 224 then 160 else 128) <= b1.toNat /\ b1.toNat <= (if b0.toNat = 237 then 159 else 191) /\ 2 < n /\ 128 <= b2.toNat /\ b2.toNat <= 191
 . rw [if_pos e3] at hD
   have k1 := g1 (by omega);have k2 := g2 (by omega);subst k1 k2;rw [if_neg (by omega), if_pos ⟨e3.1, e3.2.1, by omega, e3.2.2.2.1, e3.2.2.2.2.1, by omega, e3.2.2.2.2.2.2⟩]; exact hD
 rw [if_neg e3] at hD
 by_cases e4 : 240 <= b0.toNat /\ b0.toNat <= 244 /\ 1 < n /\ (if b0.toNat = 240 then 144 else 128) <= b1.toNat /\ b1.toNat <= (if b0.toNat = 244 then 143 else 191) /\ 2 < n /\ 128 <= b2.toNat /\ b2.toNat <= 191 /\ 3 < n /\ 128 <= b3.toNat /\ b3.toNat <= 191
 . rw [if_pos e4] at hD
   have k1 := g1 (by omega);have k2 := g2 (by omega);have k3 := g3 (by omega);subst k1 k2 k3;rw [if_neg (by omega), if_neg (by omega), if_pos ⟨e4.1, e4.2.1, by omega, e4.2.2.2.1, e4.2.2.2.2.1, by omega, e4.2.2.2.2.2.2.1, e4.2.2.2.2.2.2.2.1, by omega, e4.2.2.2.2.2.2.2.2.2⟩]; exact hD
 . rw [if_neg e4] at hD; omega
theorem validD_take {l : List UInt8} (hne : l ≠ []) (h : decR l ≠ 0) : validD (l.take (decR l)) = true := by
 have hl : 0 < l.length := List.length_pos_iff.2 hne;have hle := uv_le hne;refine validD_one (fun e => ?_) ?_
 . have := congrArg List.length e
   rw [List.length_take, List.length_nil] at this;omega
 . rw [uv_take hne h, List.length_take]; omega
theorem one_ok {l : List UInt8} (hne : l ≠ []) (h : (oneS l).1 = 0) : validD (oneS l).2.1 = true := by
 unfold oneS at *
 by_cases h92 : (l.getD 0 0).toNat = 92
 . rw [if_pos h92] at h ⊢
   by_cases he : (escS l.tail).1 ≠ 0
   . rw [if_pos he] at h; exact absurd h he
   . rw [if_neg he]; exact validD_enc _
 . rw [if_neg h92] at h ⊢
   by_cases hd : decR l = 0 ∨ (l.getD 0 0).toNat < 32 ∨ (l.getD 0 0).toNat = 127
   . rw [if_pos hd] at h; cases h
   . rw [if_neg hd]; exact validD_take hne (fun e => hd (Or.inl e))
theorem unqL_valid : ∀ (n : Nat) (l out : List UInt8), l.length <= n -> validD out = true -> (unqL l out).1 = 0 -> validD (unqL l out).2.1 = true /\ (unqL l out).2.1.length <= 4096
 | n, [], out, _, _, h => by rw [unqL_nil] at h; cases h
 | 0, c :: r, out, hl, _, _ => by simp at hl
 | n + 1, c :: r, out, hl, hv, h => by
   by_cases hc : c.toNat = 34
   . rw [unqL_quote c r out hc] at h ⊢
     by_cases h4 : 4096 < out.length
     . rw [if_pos h4] at h; cases h
     . rw [if_neg h4]; exact ⟨hv, Nat.le_of_not_lt h4⟩
   . by_cases h1 : (oneS (c :: r)).1 ≠ 0
     . rw [unqL_bad c r out hc h1] at h; exact absurd h h1
     . have h0 : (oneS (c :: r)).1 = 0 := Classical.not_not.1 h1
       rw [unqL, if_neg hc, if_neg h1] at h ⊢;exact unqL_valid n _ _ (by rw [List.length_drop]; rw [List.length_cons] at hl; omega) (validD_both hv (one_ok (by simp) h0)) h
theorem unqS_valid {l : List UInt8} (h : (unqS l).1 = 0) : validD (unqS l).2.1 = true /\ (unqS l).2.1.length <= 4096 := by
 unfold unqS at *
 by_cases h0 : l.length = 0
 . rw [if_pos h0] at h; cases h
 rw [if_neg h0] at h ⊢
 by_cases h1 : (l.getD 0 0).toNat ≠ 34
 . rw [if_pos h1] at h; cases h
 rw [if_neg h1] at h ⊢
 by_cases h2 : (unqL l.tail []).1 ≠ 0
 . rw [if_pos h2] at h; exact absurd h h2
 . rw [if_neg h2]; exact unqL_valid l.length _ _ (by rw [List.length_tail]; omega) validD_nil (Classical.not_not.1 h2)
theorem un8 {a b : UInt8} (h : a.toNat = b.toNat) : a = b := UInt8.toNat_inj.1 h
theorem hp_one {c : UInt8} {l : List UInt8} : Lib.hasPrefix l [c] = true ↔ ∃ t, l = c :: t := by
 cases l with
 | nil => simp [Lib.hasPrefix]
 | cons x t =>
   simp [Lib.hasPrefix];exact eq_comm
theorem trim_one (c : UInt8) (t : List UInt8) : Lib.trimPrefix (c :: t) [c] = t := by
 unfold Lib.trimPrefix;rw [if_pos (hp_one.2 ⟨t, rfl⟩)]; rfl
theorem trim_no {l p : List UInt8} (h : Lib.hasPrefix l p = false) : Lib.trimPrefix l p = l := by
 unfold Lib.trimPrefix;rw [if_neg (by rw [h]; simp)]
theorem trim_yes {l p : List UInt8} (h : Lib.hasPrefix l p = true) : Lib.trimPrefix l p = l.drop p.length := by
 unfold Lib.trimPrefix;rw [if_pos h]
def wdL (l : List UInt8) : List UInt8 := l.takeWhile fun c => wrd c.toNat
def wdD (l : List UInt8) : List UInt8 := l.dropWhile fun c => wrd c.toNat
def dgL (l : List UInt8) : List UInt8 := l.takeWhile fun c => dig c.toNat
def keyR (l : List UInt8) : KeyT × List UInt8 × Bool :=
 if (l.getD 0 0).toNat ≠ 91 then ((0, 0, []), l, true)
 else if (l.getD 1 0).toNat = 34 then
  (if (unqS l.tail).1 ≠ 0 ∨ (l.getD ((unqS l.tail).2.2 + 1) 0).toNat ≠ 93 ∨ quo (unqS l.tail).2.1 ≠ l.tail.take (unqS l.tail).2.2 then ((0, 0, []), [], false)
   else ((2, 0, (unqS l.tail).2.1), l.drop ((unqS l.tail).2.2 + 2), true))
 else
  (if (numS (dgL l.tail)).2 ≠ 0 ∨ (l.getD ((dgL l.tail).length + 1) 0).toNat ≠ 93 then ((0, 0, []), [], false)
   else ((1, (numS (dgL l.tail)).1, []), l.drop ((dgL l.tail).length + 2), true))
theorem tw_app {α : Type} {p : α -> Bool} : ∀ {a : List α} {c : α} {r : List α}, (∀ x ∈ a, p x = true) -> p c = false -> (a ++ c :: r).takeWhile p = a
 | [], c, r, _, hc => by rw [List.nil_append, List.takeWhile_cons, hc]; rfl
 | x :: a, c, r, h, hc => by rw [List.cons_append, List.takeWhile_cons, h x (by simp), if_pos rfl, tw_app (fun y hy => h y (by simp [hy])) hc]
theorem tw_all {α : Type} {p : α -> Bool} : ∀ {a : List α}, ∀ x ∈ a.takeWhile p, p x = true
 | [], x, h => by simp at h
 | y :: a, x, h => by
   rw [List.takeWhile_cons] at h;cases hy : p y with
   | false => rw [hy] at h; simp at h
   | true =>
     rw [hy, if_pos rfl] at h;rcases List.mem_cons.1 h with rfl | h
     . exact hy
     . exact tw_all x h
theorem dw_all {α : Type} {p : α -> Bool} : ∀ {a : List α}, (∀ x ∈ a, p x = true) -> a.dropWhile p = []
 | [], _ => rfl
 | y :: a, h => by rw [List.dropWhile_cons, h y (by simp), if_pos rfl, dw_all (fun x hx => h x (by simp [hx]))]
theorem ib_app : ∀ {a : List UInt8} {c : UInt8} {r : List UInt8}, (∀ x ∈ a, x ≠ c) -> Lib.indexByte (a ++ c :: r) c = (a.length : Nat)
 | [], c, r, _ => by simp [Lib.indexByte]
 | x :: a, c, r, h => by
   rw [List.cons_append, Lib.indexByte, ib_app (fun y hy => h y (by simp [hy]))];have hx : (x == c) = false := by simpa using h x (by simp)
   rw [hx];have : ¬ ((a.length : Int) == -1) = true := by intro e; have := eq_of_beq e; omega
   rw [if_neg (by simp), if_neg this];simp
theorem valL_pos {l : List UInt8} (h : digB l = true) (h2 : (l == [48]) = false) : 1 <= valL l := by
 obtain ⟨h1, hne, h3⟩ := digB_parts h;cases l with
 | nil => exact absurd rfl hne
 | cons c r =>
   have hg := fold_ge r (10 * 0 + (c.toNat - 48));have hc := (dig_iff c.toNat).1 (by rw [List.all_cons, Bool.and_eq_true] at h1; exact h1.1);have hv : valL (c :: r) = r.foldl (fun n c => 10 * n + (c.toNat - 48)) (10 * 0 + (c.toNat - 48)) := by unfold valL; rw [fold_cons]
   rw [hv];rcases h3 with h3 | h3
   . have : c.toNat ≠ 48 := by simpa using h3
     omega
   . have hr : r = [] := List.length_eq_zero_iff.1 (by simpa using h3)
     subst hr
     have : c.toNat ≠ 48 := fun e => by
      have : c = 48 := un8 e;subst this;simp at h2
     omega
theorem num_dig {x : List UInt8} (h : (numS x).2 = 0) (h0 : ¬ (numS x).1 < 0) : ∀ c ∈ x, dig c.toNat = true := by
 unfold numS at *;cases hc : canS x with
 | false => rw [hc, if_pos rfl] at h; cases h
 | true =>
   rw [hc, if_neg (by simp)] at h h0;have hd := canS_dig hc
   by_cases hn : (x.getD 0 0).toNat = 45
   . exfalso
     have hlt : svS x < 0 := by
      unfold canS at hc;rw [if_pos hn, Bool.and_eq_true] at hc;have := valL_pos hc.1 (by simpa using hc.2);unfold svS tlS;rw [if_pos hn, if_pos hn];omega
     by_cases h16 : 16 < (tlS x).length
     . rw [if_pos h16] at h; cases h
     rw [if_neg h16] at h h0
     by_cases hr : -9007199254740992 <= svS x /\ svS x <= 9007199254740992
     . rw [if_pos hr] at h0; exact h0 hlt
     . rw [if_neg hr] at h; cases h
   . have ht : tlS x = x := by unfold tlS; rw [if_neg hn]
     rw [ht] at hd;exact fun c hc2 => List.all_eq_true.1 (digB_parts hd).1 c hc2
theorem num_nn {x : List UInt8} (h : ∀ c ∈ x, dig c.toNat = true) (h2 : (numS x).2 = 0) : ¬ (numS x).1 < 0 := by
 unfold numS at *;cases hc : canS x with
 | false => rw [if_pos rfl]; decide
 | true =>
   rw [hc, if_neg (by simp)] at h2;rw [if_neg (by simp)]
   by_cases h16 : 16 < (tlS x).length
   . rw [if_pos h16]; decide
   rw [if_neg h16]
   by_cases hr : -9007199254740992 <= svS x /\ svS x <= 9007199254740992
   . rw [if_pos hr]
     have hn : (x.getD 0 0).toNat ≠ 45 := by
      cases x with
      | nil => decide
      | cons c r => have := (dig_iff c.toNat).1 (h c (by simp)); simp; omega
     unfold svS;rw [if_neg hn];simp only;omega
   . rw [if_neg hr]; decide
theorem getD_93 {t : List UInt8} {n : Nat} (h : (t.getD n 0).toNat = 93) : ∃ r, t.drop n = 93 :: r /\ n < t.length := by
 by_cases hn : n < t.length
 . refine ⟨t.drop (n + 1), ?_, hn⟩
   rw [List.drop_eq_getElem_cons hn]
   congr 1
   rw [List.getD_eq_getElem?_getD, List.getElem?_eq_getElem hn] at h;exact un8 h
 . rw [List.getD_eq_getElem?_getD, List.getElem?_eq_none (by omega)] at h
   cases h
theorem drop_93 {t r : List UInt8} {n : Nat} (h : t.drop n = 93 :: r) : (t.getD n 0).toNat = 93 /\ t.drop (n + 1) = r /\ t = t.take n ++ 93 :: r := by
 have hg : t[n]? = some 93 := by
  have := congrArg (fun l => l[0]?) h;simpa using this
 refine ⟨by rw [List.getD_eq_getElem?_getD, hg]; rfl, ?_, ?_⟩
 . rw [<- List.tail_drop, h]; rfl
 . rw [<- h, List.take_append_drop]
theorem skip_93 {l : List UInt8} (r : List UInt8) (bad : Bool) (h : l = 93 :: r) : skipP [93] l bad = (r, bad) := by
 subst h;unfold skipP;rw [trim_one, hp_one.2 ⟨r, rfl⟩];simp
theorem skip_bad {p l : List UInt8} (h : (skipP p l false).2 = false) : Lib.hasPrefix l p = true := by
 unfold skipP at h;simpa using h
theorem key_no2 {l : List UInt8} (h : (l.getD 0 0).toNat ≠ 91) : keyP l false = ((0, 0, []), l, false) /\ keyR l = ((0, 0, []), l, true) := by
 have hp : Lib.hasPrefix l [91] = false := by
  cases hp : Lib.hasPrefix l [91] with
  | false => rfl
  | true =>
    obtain ⟨t, rfl⟩ := hp_one.1 hp;exact absurd rfl h
 refine ⟨?_, by unfold keyR; rw [if_pos h]⟩;unfold keyP;rw [if_neg (by simp), if_pos hp, trim_no hp]
theorem key_good {l : List UInt8} (h : (keyR l).2.2 = true) : keyP l false = ((keyR l).1, (keyR l).2.1, false) := by
 by_cases h91 : (l.getD 0 0).toNat ≠ 91
 . rw [(key_no2 h91).1, (key_no2 h91).2]
 obtain ⟨t, rfl⟩ : ∃ t, l = 91 :: t := by
  cases l with
  | nil => exact absurd (by decide) h91
  | cons c t => exact ⟨t, by rw [un8 (a := c) (b := 91) (Classical.not_not.1 h91)]⟩
 unfold keyR at *;rw [if_neg h91] at h ⊢;unfold keyP;rw [if_neg (by simp), if_neg (by rw [hp_one.2 ⟨t, rfl⟩]; simp), trim_one];simp only [List.tail_cons, List.getD_cons_succ] at h ⊢
 by_cases h34 : (t.getD 0 0).toNat = 34
 . obtain ⟨u, rfl⟩ : ∃ u, t = 34 :: u := by
    cases t with
    | nil => cases h34
    | cons c u => exact ⟨u, by rw [un8 (a := c) (b := 34) h34]⟩
   rw [if_pos h34] at h ⊢;rw [if_pos (hp_one.2 ⟨u, rfl⟩)];generalize (34 :: u : List UInt8) = t at *;generalize unqS t = x at *
   by_cases hb : x.1 ≠ 0 ∨ (t.getD x.2.2 0).toNat ≠ 93 ∨ quo x.2.1 ≠ t.take x.2.2
   . rw [if_pos hb] at h; cases h
   rw [if_neg hb];rw [if_neg (fun e => hb (Or.inl e)), if_neg (fun e => hb (Or.inr (Or.inr e)))];obtain ⟨r, hr, _⟩ := getD_93 (Classical.not_not.1 fun e => hb (Or.inr (Or.inl e)));rw [skip_93 r _ hr, show (91 :: t).drop (x.2.2 + 2) = t.drop (x.2.2 + 1) from rfl, (drop_93 hr).2.1]
 . have hq : Lib.hasPrefix t [34] = false := by
    cases hq : Lib.hasPrefix t [34] with
    | false => rfl
    | true =>
      obtain ⟨u, rfl⟩ := hp_one.1 hq;exact absurd rfl h34
   rw [if_neg h34] at h ⊢;rw [if_neg (by rw [hq]; simp)]
   by_cases hb : (numS (dgL t)).2 ≠ 0 ∨ (t.getD (dgL t).length 0).toNat ≠ 93
   . rw [if_pos hb] at h; cases h
   rw [if_neg hb];obtain ⟨r, hr, _⟩ := getD_93 (Classical.not_not.1 fun e => hb (Or.inr e));have hd : ∀ c ∈ dgL t, dig c.toNat = true := fun c hc => tw_all (p := fun c : UInt8 => dig c.toNat) c hc
   have htk : t.take (dgL t).length = dgL t := by
    have := List.takeWhile_prefix (l := t) (fun c => dig c.toNat);exact (List.prefix_iff_eq_take.1 this).symm
   have h3 := (drop_93 hr).2.2;rw [htk] at h3
   have hn : nmAt t = (dgL t).length := by
    unfold nmAt;have := ib_app (a := dgL t) (c := 93) (r := r) (fun x hx e => by have := hd x hx; rw [e] at this; revert this; decide);rw [<- h3] at this;rw [this];omega
   have hv := Classical.not_not.1 fun e => hb (Or.inl e);rw [hn, htk, skip_93 r _ hr, show (91 :: t).drop ((dgL t).length + 2) = t.drop ((dgL t).length + 1) from rfl, (drop_93 hr).2.1];rw [decide_eq_false (fun e => e hv), decide_eq_false (num_nn hd hv)];rfl
theorem key_back {l : List UInt8} (h : (keyP l false).2.2 = false) : (keyR l).2.2 = true := by
 by_cases h91 : (l.getD 0 0).toNat ≠ 91
 . rw [(key_no2 h91).2]
 obtain ⟨t, rfl⟩ : ∃ t, l = 91 :: t := by
  cases l with
  | nil => exact absurd (by decide) h91
  | cons c t => exact ⟨t, by rw [un8 (a := c) (b := 91) (Classical.not_not.1 h91)]⟩
 unfold keyP at h;rw [if_neg (by simp), if_neg (by rw [hp_one.2 ⟨t, rfl⟩]; simp), trim_one] at h;unfold keyR;rw [if_neg h91];simp only [List.tail_cons, List.getD_cons_succ] at h ⊢
 by_cases h34 : (t.getD 0 0).toNat = 34
 . obtain ⟨u, rfl⟩ : ∃ u, t = 34 :: u := by
    cases t with
    | nil => cases h34
    | cons c u => exact ⟨u, by rw [un8 (a := c) (b := 34) h34]⟩
   rw [if_pos h34];rw [if_pos (hp_one.2 ⟨u, rfl⟩)] at h;generalize (34 :: u : List UInt8) = t at *;generalize unqS t = x at *
   by_cases h1 : x.1 ≠ 0
   . rw [if_pos h1] at h; cases h
   rw [if_neg h1] at h
   by_cases h2 : quo x.2.1 ≠ t.take x.2.2
   . rw [if_pos h2] at h; cases h
   rw [if_neg h2] at h;obtain ⟨r, hr⟩ := hp_one.1 (skip_bad h);rw [if_neg (by rintro (e | e | e); exact h1 e; exact e (drop_93 hr).1; exact h2 e)]
 . have hq : Lib.hasPrefix t [34] = false := by
    cases hq : Lib.hasPrefix t [34] with
    | false => rfl
    | true =>
      obtain ⟨u, rfl⟩ := hp_one.1 hq;exact absurd rfl h34
   rw [if_neg h34];rw [if_neg (by rw [hq]; simp)] at h;unfold skipP at h;simp only [Bool.or_eq_false_iff, decide_eq_false_iff_not, Classical.not_not, Bool.not_eq_false'] at h;obtain ⟨⟨h1, h2⟩, h3⟩ := h;obtain ⟨r, hr⟩ := hp_one.1 h3;have hd := num_dig h1 h2;have ht := (drop_93 hr).2.2
   have hg : dgL t = t.take (nmAt t) := by
    have := tw_app (p := fun c : UInt8 => dig c.toNat) (c := 93) (r := r) hd (by decide);rw [<- ht] at this;exact this
   have hlen : (t.take (nmAt t)).length = nmAt t := by rw [List.length_take]; have := nmAt_le t; omega
   rw [hg, hlen, if_neg (by rintro (e | e); exact e h1; exact e (drop_93 hr).1)]
theorem key_same {l : List UInt8} (h : (keyP l false).2.2 = false) : (keyR l).2.2 = true /\ keyP l false = ((keyR l).1, (keyR l).2.1, false) := ⟨key_back h, key_good (key_back h)⟩
theorem wd_cases : ∀ (l : List UInt8), (wdL l = l.take (dotN l) /\ wdD l = l.drop (dotN l)) ∨ (idB (l.take (dotN l)) = false /\ ∃ c r, wdD l = c :: r /\ c.toNat ≠ 46 /\ c.toNat ≠ 91)
 | [] => Or.inl ⟨rfl, rfl⟩
 | c :: l => by
   have hall : ∀ {x : List UInt8}, idB x = true -> ∀ y ∈ x, wrd y.toNat = true := fun h y hy => by
    unfold idB at h;simp only [Bool.and_eq_true, List.all_eq_true] at h;exact h.2 y hy
   cases hx : [46, 91].contains c with
   | true =>
     have hd : dotN (c :: l) = 0 := by unfold dotN; rw [List.takeWhile_cons, hx]; rfl
     have hw : wrd c.toNat = false := by
      have : c = 46 ∨ c = 91 := by simpa using hx
      rcases this with rfl | rfl <;> decide
     left;rw [hd];unfold wdL wdD;rw [List.takeWhile_cons, List.dropWhile_cons, hw];exact ⟨rfl, rfl⟩
   | false =>
     have hd : dotN (c :: l) = dotN l + 1 := by unfold dotN; rw [List.takeWhile_cons, hx]; rfl
     have hc : c.toNat ≠ 46 /\ c.toNat ≠ 91 := by
      constructor
      . intro e; rw [un8 (a := c) (b := 46) e] at hx; revert hx; decide
      . intro e; rw [un8 (a := c) (b := 91) e] at hx; revert hx; decide
     cases hw : wrd c.toNat with
     | false =>
       right;refine ⟨?_, c, l, by unfold wdD; rw [List.dropWhile_cons, hw]; rfl, hc⟩;cases hi : idB ((c :: l).take (dotN (c :: l))) with
       | false => rfl
       | true =>
         have := hall hi c (by rw [hd]; simp);rw [hw] at this; cases this
     | true =>
       rcases wd_cases l with ⟨h1, h2⟩ | ⟨h1, y, r, h2, h3⟩
       . left
         rw [hd];unfold wdL wdD at *;rw [List.takeWhile_cons, List.dropWhile_cons, hw, if_pos rfl, if_pos rfl, h1, h2];exact ⟨rfl, rfl⟩
       . right
         refine ⟨?_, y, r, by unfold wdD at *; rw [List.dropWhile_cons, hw, if_pos rfl, h2], h3⟩;cases hi : idB ((c :: l).take (dotN (c :: l))) with
         | false => rfl
         | true =>
           exfalso;have hi2 := hall hi;rw [hd] at hi2;have h5 : ∀ z ∈ l.take (dotN l), wrd z.toNat = true := fun z hz => hi2 z (by simp [hz]);have h6 : wdL l = wdL (l.take (dotN l) ++ l.drop (dotN l)) := by rw [List.take_append_drop]
           have h7 : wdD l = wdD (l.take (dotN l) ++ l.drop (dotN l)) := by rw [List.take_append_drop]
           have h8 : wdD (l.take (dotN l) ++ l.drop (dotN l)) = wdD (l.drop (dotN l)) := by
             unfold wdD;rw [List.dropWhile_append];have : (l.take (dotN l)).dropWhile (fun c => wrd c.toNat) = [] := dw_all h5;rw [this]; rfl
           rw [h7, h8] at h2;have hq := (dotN_noany l).2;cases hdr : l.drop (dotN l) with
           | nil => rw [hdr] at h2; cases h2
           | cons z zs =>
             have hz : l[dotN l]? = some z := by
              have := congrArg (fun l => l[0]?) hdr;simpa using this
             have hz2 := hq z hz;rw [hdr] at h2
             have hzw : wrd z.toNat = false := by
              have : z = 46 ∨ z = 91 := by simpa using hz2
              rcases this with rfl | rfl <;> decide
             unfold wdD at h2;rw [List.dropWhile_cons, hzw] at h2;have : z = y := by simpa using (List.cons.inj (by simpa using h2)).1
             subst this;have : z = 46 ∨ z = 91 := by simpa using hz2
             rcases this with rfl | rfl
             . exact h3.1 rfl
             . exact h3.2 rfl
theorem keyP_true (l : List UInt8) : keyP l true = ((0, 0, []), l, true) := by unfold keyP; rw [if_pos rfl]
def stR (l : List UInt8) : MS × List UInt8 × Bool := ((wdL l, (keyR (wdD l)).1), (keyR (wdD l)).2.1, (keyR (wdD l)).2.2 && idB (wdL l))
theorem st_back {l : List UInt8} (h : (stepP l false).2.2 = false) : (stR l).2.2 = true /\ stepP l false = ((stR l).1, (stR l).2.1, false) := by
 unfold stepP at *;cases hi : idB (l.take (dotN l)) with
 | false => rw [hi] at h; simp only [Bool.not_false, Bool.or_true] at h; rw [keyP_true] at h; cases h
 | true =>
   rw [hi] at h;simp only [Bool.not_true, Bool.or_false] at h ⊢;obtain ⟨k1, k2⟩ := key_same h;rcases wd_cases l with ⟨e1, e2⟩ | ⟨e1, _⟩
   . unfold stR
     rw [e1, e2, k1, hi, k2];exact ⟨rfl, rfl⟩
   . rw [hi] at e1; cases e1
theorem st_good {l : List UInt8} (h : (stR l).2.2 = true) (h2 : (stR l).2.1 = [] ∨ ((stR l).2.1.getD 0 0).toNat = 46) : stepP l false = ((stR l).1, (stR l).2.1, false) := by
 rcases wd_cases l with ⟨e1, e2⟩ | ⟨e1, c, r, e2, e3, e4⟩
 . unfold stR at h
   rw [e1, e2] at h;simp only [Bool.and_eq_true] at h;unfold stepP stR;rw [h.2, e1, e2];simp only [Bool.not_true, Bool.or_false];rw [key_good h.1]
 . exfalso
   unfold stR at h2;rw [e2, (key_no2 (l := c :: r) e4).2] at h2;rcases h2 with h2 | h2
   . cases h2
   . exact e3 h2
def modsR : Nat -> List UInt8 -> Option (List MS × Option (List UInt8))
 | 0, _ => none
 | n + 1, l => if Lib.hasPrefix l MODP = false then some ([], some l)
   else if (stR (l.drop 7)).2.2 = false then none
   else if (stR (l.drop 7)).2.1 = [] then some ([(stR (l.drop 7)).1], none)
   else if ((stR (l.drop 7)).2.1.getD 0 0).toNat ≠ 46 then none
   else (modsR n (stR (l.drop 7)).2.1.tail).map fun x => ((stR (l.drop 7)).1 :: x.1, x.2)
def tlR (l : List UInt8) : Option (Bool × List UInt8 × List UInt8 × KeyT) :=
 if idB (wdL (Lib.trimPrefix l DATP)) = false ∨ rsv (wdL (Lib.trimPrefix l DATP)) = true ∨ ((wdD (Lib.trimPrefix l DATP)).getD 0 0).toNat ≠ 46 then none
 else if idB (wdL (wdD (Lib.trimPrefix l DATP)).tail) = false ∨ (keyR (wdD (wdD (Lib.trimPrefix l DATP)).tail)).2.2 = false ∨ (keyR (wdD (wdD (Lib.trimPrefix l DATP)).tail)).2.1 ≠ [] then none
 else some (Lib.hasPrefix l DATP, wdL (Lib.trimPrefix l DATP), wdL (wdD (Lib.trimPrefix l DATP)).tail, (keyR (wdD (wdD (Lib.trimPrefix l DATP)).tail)).1)
def Syn (t : TlT) : Prop := t.bad = true ∨ t.l ≠ [] ∨ kdB t.ty = false
theorem tlP_bad (l : List UInt8) : (tlP l true).bad = true := by
 unfold tlP;simp only [Bool.true_or, skipP];rw [keyP_true]
theorem syn_or {t : TlT} (h : ¬ Syn t) : t.bad = false /\ t.l = [] /\ kdB t.ty = true := by
 unfold Syn at h;refine ⟨?_, ?_, ?_⟩
 . cases hb : t.bad with
   | false => rfl
   | true => exact absurd (Or.inl hb) h
 . exact Classical.not_not.1 fun e => h (Or.inr (Or.inl e))
 . cases hb : kdB t.ty with
   | true => rfl
   | false => exact absurd (Or.inr (Or.inr hb)) h
theorem skip_46 {l : List UInt8} (h : (l.getD 0 0).toNat = 46) : skipP [46] l false = (l.tail, false) /\ l ≠ [] := by
 cases l with
 | nil => cases h
 | cons c t =>
   rw [show c = 46 from un8 h];unfold skipP;rw [trim_one, hp_one.2 ⟨t, rfl⟩];exact ⟨rfl, by simp⟩
theorem skip_46n {l : List UInt8} (b : Bool) (h : (l.getD 0 0).toNat ≠ 46) : (skipP [46] l b).2 = true := by
 unfold skipP;cases hp : Lib.hasPrefix l [46] with
 | false => simp
 | true =>
   obtain ⟨t, rfl⟩ := hp_one.1 hp;exact absurd rfl h
theorem tl_some {l : List UInt8} {d : Bool} {ty nm : List UInt8} {k : KeyT} (h : tlR l = some (d, ty, nm, k)) : tlP l false = ⟨d, ty, nm, k, [], false⟩ /\ kdB ty = true := by
 unfold tlR at h;unfold tlP;generalize Lib.trimPrefix l DATP = l1 at *
 by_cases h1 : idB (wdL l1) = false ∨ rsv (wdL l1) = true ∨ ((wdD l1).getD 0 0).toNat ≠ 46
 . rw [if_pos h1] at h; cases h
 rw [if_neg h1] at h;have i1 : idB (wdL l1) = true := by cases hx : idB (wdL l1) with | true => rfl | false => exact absurd (Or.inl hx) h1
 have i2 : rsv (wdL l1) = false := by cases hx : rsv (wdL l1) with | false => rfl | true => exact absurd (Or.inr (Or.inl hx)) h1
 have i3 : ((wdD l1).getD 0 0).toNat = 46 := Classical.not_not.1 fun e => h1 (Or.inr (Or.inr e));rcases wd_cases l1 with ⟨e1, e2⟩ | ⟨e1, c, r, e2, e3, e4⟩
 case inr => rw [e2] at i3; exact absurd i3 e3
 simp only [Bool.false_or];rw [<- e1, <- e2];simp only [i1, Bool.not_true, Bool.or_false];rw [(skip_46 i3).1];generalize (wdD l1).tail = l2 at *
 by_cases h2 : idB (wdL l2) = false ∨ (keyR (wdD l2)).2.2 = false ∨ (keyR (wdD l2)).2.1 ≠ []
 . rw [if_pos h2] at h; cases h
 rw [if_neg h2] at h;have j1 : idB (wdL l2) = true := by cases hx : idB (wdL l2) with | true => rfl | false => exact absurd (Or.inl hx) h2
 have j2 : (keyR (wdD l2)).2.2 = true := by cases hx : (keyR (wdD l2)).2.2 with | true => rfl | false => exact absurd (Or.inr (Or.inl hx)) h2
 have j3 : (keyR (wdD l2)).2.1 = [] := Classical.not_not.1 fun e => h2 (Or.inr (Or.inr e));rcases wd_cases l2 with ⟨f1, f2⟩ | ⟨f1, c, r, f2, f3, f4⟩
 case inr => rw [f2, (key_no2 (l := c :: r) f4).2] at j3; cases j3
 simp only [Bool.false_or];rw [<- f1, <- f2];simp only [j1, Bool.not_true, Bool.or_false];rw [key_good j2, j3];cases h;exact ⟨rfl, by unfold kdB; rw [i1, i2]; rfl⟩
theorem tl_none {l : List UInt8} (h : tlR l = none) : Syn (tlP l false) := by
 refine Classical.not_not.1 fun hs => ?_;obtain ⟨s1, s2, s3⟩ := syn_or hs;clear hs;unfold tlR at h;unfold tlP at s1 s2 s3;generalize Lib.trimPrefix l DATP = l1 at *;simp only [Bool.false_or] at s1 s2 s3;unfold kdB at s3;rw [Bool.and_eq_true] at s3;rcases wd_cases l1 with ⟨e1, e2⟩ | ⟨e1, _⟩
 case inr => rw [e1] at s3; cases s3.1
 rw [<- e1, <- e2] at s1 s2;rw [<- e1] at s3;rw [s3.1] at s1 s2;simp only [Bool.not_true] at s1 s2
 by_cases i3 : ((wdD l1).getD 0 0).toNat = 46
 . rw [(skip_46 i3).1] at s1 s2
   rw [if_neg (by rintro (e | e | e); rw [s3.1] at e; cases e; rw [e] at s3; cases s3.2; exact e i3)] at h;generalize (wdD l1).tail = l2 at *;simp only [Bool.false_or] at s1 s2;cases j1 : idB (l2.take (dotN l2)) with
   | false => rw [j1] at s1; simp only [Bool.not_false] at s1; rw [keyP_true] at s1; cases s1
   | true =>
     rw [j1] at s1 s2;simp only [Bool.not_true] at s1 s2;rcases wd_cases l2 with ⟨f1, f2⟩ | ⟨f1, _⟩
     case inr => rw [j1] at f1; cases f1
     rw [<- f2] at s1 s2;rw [<- f1] at j1;obtain ⟨k1, k2⟩ := key_same s1;rw [k2] at s2;rw [if_neg (by rintro (e | e | e); rw [j1] at e; cases e; rw [k1] at e; cases e; exact e s2)] at h;cases h
 . rw [skip_46n _ i3] at s1
   simp only [Bool.true_or] at s1;rw [keyP_true] at s1;cases s1
theorem modsP_true (n : Nat) (l : List UInt8) : modsP n l true = ([], l, true) := by
 cases n with
 | zero => rfl
 | succ n => exact modsP_bad n l
def allS (X : List MS × List UInt8 × Bool) : Prop := Syn (tlP X.2.1 X.2.2)
theorem all_bad {X : List MS × List UInt8 × Bool} (h : X.2.2 = true) : allS X := by
 unfold allS Syn;rw [h];exact Or.inl (tlP_bad _)
theorem mods_eq : ∀ (n : Nat) (l : List UInt8), l.length < n -> match modsR n l with
  | none => allS (modsP n l false)
  | some (xs, none) => allS (modsP n l false)
  | some (xs, some r) => modsP n l false = (xs, r, false)
 | 0, l, h => by omega
 | n + 1, l, h => by
   unfold modsR;cases hp : Lib.hasPrefix l MODP with
   | false =>
     rw [if_pos rfl];simp only;rw [modsP_no n l hp, trim_no hp]
   | true =>
     rw [if_neg (by simp), modsP_yes n l hp, trim_yes hp, show MODP.length = 7 from rfl];have hlen := hp_len hp;have hl7 : (l.drop 7).length < n := by rw [List.length_drop]; rw [show MODP.length = 7 from rfl] at hlen; omega
     generalize l.drop 7 = t at *;cases ho : (stR t).2.2 with
     | false =>
       rw [if_pos rfl];simp only
       have hb : (stepP t false).2.2 = true := by
        cases hb : (stepP t false).2.2 with
        | true => rfl
        | false => have := (st_back hb).1; rw [ho] at this; cases this
       refine all_bad ?_;rw [hb, show skipP [46] (stepP t false).2.1 true = (Lib.trimPrefix (stepP t false).2.1 [46], true) by unfold skipP; simp];simp only;rw [modsP_true]
     | true =>
       rw [if_neg (by simp)]
       by_cases h0 : (stR t).2.1 = []
       . rw [if_pos h0]
         simp only;rw [st_good ho (Or.inl h0), h0];refine all_bad ?_;simp only;rw [show skipP [46] [] false = ([], true) from rfl];simp only;rw [modsP_true]
       rw [if_neg h0]
       by_cases h46 : ((stR t).2.1.getD 0 0).toNat ≠ 46
       . rw [if_pos h46]
         simp only;refine all_bad ?_
         have hz : (skipP [46] (stepP t false).2.1 (stepP t false).2.2).2 = true := by
          cases hb : (stepP t false).2.2 with
          | true => unfold skipP; simp
          | false => rw [(st_back hb).2]; exact skip_46n _ h46
         generalize skipP [46] (stepP t false).2.1 (stepP t false).2.2 = z at *;rw [hz];simp only;rw [modsP_true]
       . rw [if_neg h46]
         have h46' := Classical.not_not.1 h46;have hgd := st_good ho (Or.inr h46');have hsl := stepP_len t false;rw [hgd] at hsl;simp only at hsl;rw [hgd];simp only;rw [(skip_46 h46').1];simp only;have hlt : (stR t).2.1.tail.length < n := by rw [List.length_tail]; omega
         have IH := mods_eq n (stR t).2.1.tail hlt;cases hm : modsR n (stR t).2.1.tail with
         | none =>
           rw [hm] at IH;exact IH
         | some x =>
           obtain ⟨xs, o⟩ := x;rw [hm] at IH;cases o with
           | none => exact IH
           | some r =>
             simp only [Option.map_some] at IH ⊢;rw [IH]
def prR (l : List UInt8) : Option (List MS × Option (Bool × List UInt8 × List UInt8 × KeyT)) :=
 match modsR (l.length + 1) l with
 | none => none
 | some (xs, none) => some (xs, none)
 | some (xs, some r) => (tlR r).map fun t => (xs, some t)
def prE (l : List UInt8) : Int := match prR l with
 | some (xs, some _) => if 16 < xs.length then 4 else 0
 | _ => 2
theorem par_none {l : List UInt8} (h : ∀ xs t, prR l ≠ some (xs, some t)) : prE l = 2 /\ parE (modsP (l.length + 1) l false).1 (tlP (modsP (l.length + 1) l false).2.1 (modsP (l.length + 1) l false).2.2) = 2 := by
 have hm := mods_eq (l.length + 1) l (Nat.lt_succ_self _);constructor
 . unfold prE
   cases hp : prR l with
   | none => rfl
   | some x =>
     obtain ⟨xs, o⟩ := x;cases o with
     | none => rfl
     | some t => exact absurd hp (h xs t)
 . have hS : Syn (tlP (modsP (l.length + 1) l false).2.1 (modsP (l.length + 1) l false).2.2) := by
    unfold prR at h;cases hr : modsR (l.length + 1) l with
    | none => rw [hr] at hm; exact hm
    | some x =>
      obtain ⟨xs, o⟩ := x;rw [hr] at hm h;cases o with
      | none => exact hm
      | some r =>
        simp only at hm h;rw [hm];cases ht : tlR r with
        | none => exact tl_none ht
        | some t => rw [ht] at h; exact absurd rfl (h xs t)
   unfold parE;unfold Syn at hS;rw [if_pos hS]
theorem par_some {l : List UInt8} {xs : List MS} {d : Bool} {ty nm : List UInt8} {k : KeyT} (h : prR l = some (xs, some (d, ty, nm, k))) :
  prE l = (if 16 < xs.length then 4 else 0) /\ (modsP (l.length + 1) l false).1 = xs /\ tlP (modsP (l.length + 1) l false).2.1 (modsP (l.length + 1) l false).2.2 = ⟨d, ty, nm, k, [], false⟩ /\ kdB ty = true /\ parE (modsP (l.length + 1) l false).1 (tlP (modsP (l.length + 1) l false).2.1 (modsP (l.length + 1) l false).2.2) = prE l := by
 have hm := mods_eq (l.length + 1) l (Nat.lt_succ_self _);have hE : prE l = (if 16 < xs.length then 4 else 0) := by unfold prE; rw [h]
 unfold prR at h;cases hr : modsR (l.length + 1) l with
 | none => rw [hr] at h; cases h
 | some x =>
   obtain ⟨ys, o⟩ := x;rw [hr] at h hm;cases o with
   | none => cases h
   | some r =>
     simp only at h hm;cases ht : tlR r with
     | none => rw [ht] at h; cases h
     | some t =>
       rw [ht] at h;cases h;obtain ⟨h1, h2⟩ := tl_some ht;refine ⟨hE, by rw [hm], by rw [hm]; exact h1, h2, ?_⟩;rw [hE, hm];simp only;rw [h1];unfold parE;rw [if_neg (by simp [h2])]
theorem par_eq (l : List UInt8) : parE (modsP (l.length + 1) l false).1 (tlP (modsP (l.length + 1) l false).2.1 (modsP (l.length + 1) l false).2.2) = prE l := by
 by_cases h : ∃ xs t, prR l = some (xs, some t)
 . obtain ⟨xs, ⟨d, ty, nm, k⟩, h⟩ := h
   exact (par_some h).2.2.2.2
 . obtain ⟨h1, h2⟩ := par_none (l := l) (fun xs t e => h ⟨xs, t, e⟩)
   rw [h1, h2]
theorem mods_id : ∀ (n : Nat) (l : List UInt8) (xs : List MS) (o : Option (List UInt8)), modsR n l = some (xs, o) -> ∀ x ∈ xs, idB x.1 = true
 | 0, l, xs, o, h => by cases h
 | n + 1, l, xs, o, h => by
   unfold modsR at h
   by_cases h1 : Lib.hasPrefix l MODP = false
   . rw [if_pos h1] at h; cases h; simp
   rw [if_neg h1] at h
   by_cases h2 : (stR (l.drop 7)).2.2 = false
   . rw [if_pos h2] at h; cases h
   rw [if_neg h2] at h
   have hi : idB (stR (l.drop 7)).1.1 = true := by
    cases hx : (stR (l.drop 7)).2.2 with
    | false => exact absurd hx h2
    | true =>
      unfold stR at hx ⊢;simp only [Bool.and_eq_true] at hx;exact hx.2
   by_cases h3 : (stR (l.drop 7)).2.1 = []
   . rw [if_pos h3] at h
     cases h;intro x hx;rw [List.mem_singleton] at hx;rw [hx]; exact hi
   rw [if_neg h3] at h
   by_cases h4 : ((stR (l.drop 7)).2.1.getD 0 0).toNat ≠ 46
   . rw [if_pos h4] at h; cases h
   rw [if_neg h4] at h;cases hm : modsR n (stR (l.drop 7)).2.1.tail with
   | none => rw [hm] at h; cases h
   | some y =>
     obtain ⟨ys, o2⟩ := y;rw [hm] at h;cases h;intro x hx;rcases List.mem_cons.1 hx with rfl | hx
     . exact hi
     . exact mods_id n _ ys _ hm x hx
theorem tl_id {l : List UInt8} {d : Bool} {ty nm : List UInt8} {k : KeyT} (h : tlR l = some (d, ty, nm, k)) : idB nm = true := by
 unfold tlR at h
 by_cases h1 : idB (wdL (Lib.trimPrefix l DATP)) = false ∨ rsv (wdL (Lib.trimPrefix l DATP)) = true ∨ ((wdD (Lib.trimPrefix l DATP)).getD 0 0).toNat ≠ 46
 . rw [if_pos h1] at h; cases h
 rw [if_neg h1] at h
 by_cases h2 : idB (wdL (wdD (Lib.trimPrefix l DATP)).tail) = false ∨ (keyR (wdD (wdD (Lib.trimPrefix l DATP)).tail)).2.2 = false ∨ (keyR (wdD (wdD (Lib.trimPrefix l DATP)).tail)).2.1 ≠ []
 . rw [if_pos h2] at h; cases h
 rw [if_neg h2] at h;cases h;cases hx : idB (wdL (wdD (Lib.trimPrefix l DATP)).tail) with
 | true => rfl
 | false => exact absurd (Or.inl hx) h2
structure Addr0 (l : List UInt8) (xs : List MS) (d : Bool) (ty nm : List UInt8) (k : KeyT) : Prop where
 pr : prR l = some (xs, some (d, ty, nm, k))
 len : xs.length <= 16
 ids : ∀ x ∈ xs, idB x.1 = true
 nm : idB nm = true
 ty : kdB ty = true
theorem addr_of {l : List UInt8} (h : prE l = 0) : ∃ xs d ty nm k, Addr0 l xs d ty nm k := by
 have h2 := h;unfold prE at h;cases hp : prR l with
 | none => rw [hp] at h; cases h
 | some x =>
   obtain ⟨xs, o⟩ := x;rw [hp] at h;cases o with
   | none => cases h
   | some t =>
     obtain ⟨d, ty, nm, k⟩ := t;simp only at h
     have hl : xs.length <= 16 := by
      by_cases hx : 16 < xs.length
      . rw [if_pos hx] at h; cases h
      . omega
     refine ⟨xs, d, ty, nm, k, hp, hl, ?_, ?_, (par_some hp).2.2.2.1⟩
     . unfold prR at hp
       cases hm : modsR (l.length + 1) l with
       | none => rw [hm] at hp; cases hp
       | some y =>
         obtain ⟨ys, o⟩ := y;rw [hm] at hp;cases o with
         | none => cases hp
         | some r =>
           simp only at hp;cases ht : tlR r with
           | none => rw [ht] at hp; cases hp
           | some t =>
             rw [ht] at hp;cases hp;exact mods_id _ _ _ _ hm
     . unfold prR at hp
       cases hm : modsR (l.length + 1) l with
       | none => rw [hm] at hp; cases hp
       | some y =>
         obtain ⟨ys, o⟩ := y;rw [hm] at hp;cases o with
         | none => cases hp
         | some r =>
           simp only at hp;cases ht : tlR r with
           | none => rw [ht] at hp; cases hp
           | some t =>
             rw [ht] at hp;cases hp;exact tl_id ht
def stcB (l : List UInt8) : List UInt8 := if prE l = 0 then (match prR l with | some (xs, some (d, ty, nm, _)) => fmtB (xs.map barM) d ty nm | _ => []) else []
theorem stcB_ok {l : List UInt8} {xs : List MS} {d : Bool} {ty nm : List UInt8} {k : KeyT} (h : Addr0 l xs d ty nm k) (h0 : prE l = 0) : stcB l = fmtB (xs.map barM) d ty nm := by unfold stcB; rw [if_pos h0, h.pr]
theorem Addr0.bare {l : List UInt8} {xs : List MS} {d : Bool} {ty nm : List UInt8} {k : KeyT} (h : Addr0 l xs d ty nm k) : Bare (xs.map barM) := by
 refine ⟨by rw [List.length_map]; exact h.len, fun x hx => ?_⟩;obtain ⟨y, hy, rfl⟩ := List.mem_map.1 hx;exact ⟨h.ids y hy, rfl⟩
def PaOk (w : World) (xs : List MS) (d : Bool) (ty nm : List UInt8) (k : KeyT) (e : Ending) (w' : World) : Prop := ∃ v, e = .returned (.tuple #[aV v d ty nm k, .int .i64 0]) /\ OwnM (w.heap.size + 3) w' v xs /\ Below w.heap.size w w'
theorem parse_ok (s : ByteArray) (w : World) (hT : WT w) (hs : s.size <= 2000000) {xs : List MS} {d : Bool} {ty nm : List UInt8} {k : KeyT} (h : Addr0 s.data.toList xs d ty nm k) (h0 : prE s.data.toList = 0) : Calls Tryz.prog 85 #[.string s] w (PaOk w xs d ty nm k) := by
 refine (parse_any s w hT hs).mono fun e w' hP => ?_;unfold ParR at hP;rw [<- size_list] at hP;obtain ⟨_, p1, p2, _, p3⟩ := par_some h.pr;rw [p3, h0, if_pos rfl, p1, p2] at hP;obtain ⟨⟨v, h1, h2⟩, h3⟩ := hP;exact ⟨v, h1, h2, h3⟩
theorem parse_no (s : ByteArray) (w : World) (hT : WT w) (hs : s.size <= 2000000) (h0 : prE s.data.toList ≠ 0) : Calls Tryz.prog 85 #[.string s] w fun e w' => e = .returned (.tuple #[ad0, .int .i64 (prE s.data.toList)]) /\ Below w.heap.size w w' := by
 refine (parse_any s w hT hs).mono fun e w' hP => ?_;unfold ParR at hP;rw [<- size_list, par_eq, if_neg h0] at hP;exact hP
set_option maxHeartbeats 4000000 in
theorem pstatic_any (s : ByteArray) (w : World) (hT : WT w) (hs : s.size <= 2000000) : Calls Tryz.prog 57 #[.string s] w fun e w' => e = .returned (.tuple #[.string ⟨(stcB s.data.toList).toArray⟩, .int .i64 (prE s.data.toList)]) /\ Below w.heap.size w w' := by
 by_cases h0 : prE s.data.toList = 0
 . obtain ⟨xs, d, ty, nm, k, hA⟩ := addr_of h0
   have HC := hid (parse_ok s w hT hs hA h0);have hB := hA.bare;rw [stcB_ok hA h0, h0];have HST := hid (fun (B : Nat) (v : Value) (W : World) (h : OwnM B W v xs) => show Calls Tryz.prog 87 #[aV v d ty nm k] W (fun e w' => ∃ v', e = .returned (aV v' d ty nm (0, 0, [])) /\ OwnM W.heap.size w' v' (xs.map barM) /\ Below W.heap.size W w') from static_any B v xs d ty nm k W h (by have := hA.len; omega));have HF := hid (fun (r : Option Addr) (c : Nat) (W : World) (h : Sl MsR 4 W (.slice r (xs.map barM).length c) (xs.map barM)) => format0 r c (xs.map barM) d ty nm W h hB hA.ty hA.nm);clear hT hs hA hB h0;generalize xs.map barM = ys at *;go_enter Tryz.func57, Tryz.ntmps57;unfold aV at *
   go_wp2_with (first
    | (go_at_call 85
       refine HC.out.mono ?_;rintro e w1 ⟨v1, rfl, ho1, hb1⟩;obtain ⟨r1, c1, rfl, _, _⟩ := own_form ho1;have HO1 := hid ho1;have HB1 := hid hb1;clear ho1 hb1;unfold aV)
    | (go_at_call 87
       refine (HST.out (w.heap.size + 3) _ _ (by exact kept_off HO1.out (grown_below ((Below.refl _ _).alloc (Nat.le_refl _) _)) (fun _ _ e => by cases e))).mono ?_;rintro e w2 ⟨v2, rfl, ho2, hb2⟩;obtain ⟨r2, c2, rfl, _, _⟩ := own_form ho2;have HO2 := hid (OwnM.sl ho2);have HB2 := hid hb2;clear ho2 hb2)
    | (go_at_call 86
       refine (HF.out _ _ _ HO2.out).mono ?_;rintro e w3 ⟨rfl, hb3⟩;have HB3 := hid hb3;clear hb3))
   go_ret2
   have h12 := HB1.out.trans ((((Below.refl _ _).alloc (Nat.le_refl _) _).trans (HB2.out.mono (by simp))).mono HB1.out.size);exact ⟨rfl, h12.trans (HB3.out.mono h12.size)⟩
 . have HC := hid (parse_no s w hT hs h0)
   rw [show stcB s.data.toList = [] by unfold stcB; rw [if_neg h0]];have hn : (prE s.data.toList != 0) = true := by simp [h0]
   clear h0 hT hs;generalize prE s.data.toList = E at *;unfold ad0 at HC;go_enter Tryz.func57, Tryz.ntmps57;go_wp2_with (go_at_call 85; refine HC.out.mono ?_; rintro e w1 ⟨rfl, hb1⟩; have HB1 := hid hb1; clear hb1)
   go_ret2
   exact ⟨rfl, HB1.out.trans (((Below.refl _ _).alloc (Nat.le_refl _) _).mono HB1.out.size)⟩
end Go.Proofs.YtpnogmicfomofaaGreatDoor.Adr
