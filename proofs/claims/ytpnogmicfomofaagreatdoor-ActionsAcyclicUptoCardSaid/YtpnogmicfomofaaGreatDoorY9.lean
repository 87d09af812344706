import Derived.Test.YtpnogmicfomofaaGreatDoorY8
import Derived.Test.YtpnogmicfomofaaGreatDoorY6
import Derived.Test.YtpnogmicfomofaaGreatDoorY2
set_option linter.unusedVariables false
set_option linter.unusedSimpArgs false
namespace Go.Proofs.YtpnogmicfomofaaGreatDoor.Adr
open Go.RowKit Go.Sort Go.Lib Go.Maps
open Go.Lib (hid)
def RPaP (l : List UInt8) (w : World) (e : Ending) (w' : World) : Prop :=
 ∃ v xs d ty nm k, e = .returned (.tuple #[.agg #[v, .bool d, .string ⟨ty.toArray⟩, .string ⟨nm.toArray⟩, .int .i64 k.1, .int .i64 k.2.1, .string ⟨k.2.2.toArray⟩], .int .i64 (prE l)]) /\ OwnM w.heap.size w' v xs /\ Below w.heap.size w w' /\
  (prE l = 0 -> prR l = some (xs, some (d, ty, nm, k)))
theorem ao_end {W : World} {r : Nat} {v : Value} {d : Bool} {ty nm : List UInt8} {k : KeyT} (h : W.heap[r]? = some (aO v d ty nm k)) (v2 : Value) (d2 : Bool) (ty2 nm2 : List UInt8) (k2 : KeyT) :
  ∃ W', W' = ((((((W.setCell ⟨r, 0, none⟩ v2).setCell ⟨r, 1, none⟩ (.bool d2)).setCell ⟨r, 2, none⟩ (.string ⟨ty2.toArray⟩)).setCell ⟨r, 3, none⟩ (.string ⟨nm2.toArray⟩)).setCell ⟨r, 4, none⟩ (.int .i64 k2.1)).setCell ⟨r, 5, none⟩ (.int .i64 k2.2.1)).setCell ⟨r, 6, none⟩ (.string ⟨k2.2.2.toArray⟩) /\
   W'.heap[r]? = some (aO v2 d2 ty2 nm2 k2) := by
 refine ⟨_, rfl, ?_⟩;unfold World.setCell aO at *;simp only [Array.getElem?_modify, if_true, h, Option.map_some];rfl
theorem set7 {B b : Nat} {w W : World} (h : Below B w W) (hb : B <= b) (v0 v1 v2 v3 v4 v5 v6 : Value) : Below B w (((((((W.setCell ⟨b, 0, none⟩ v0).setCell ⟨b, 1, none⟩ v1).setCell ⟨b, 2, none⟩ v2).setCell ⟨b, 3, none⟩ v3).setCell ⟨b, 4, none⟩ v4).setCell ⟨b, 5, none⟩ v5).setCell ⟨b, 6, none⟩ v6) :=
 ((((((h.setCell hb _).setCell hb _).setCell hb _).setCell hb _).setCell hb _).setCell hb _).setCell hb _
set_option maxRecDepth 100000 in
set_option maxHeartbeats 8000000 in
theorem rparse_any (s : ByteArray) (w : World) (hs : s.size <= 1200001) : Calls Tryz.prog 25 #[.string s] w (RPaP s.data.toList w) := by
 have HP := hid (fun W => rplace_any s W hs);have HO := hid (ko_new w (aO (.slice none 0 0) false [] [] (0, 0, [])));have HB0 := hid (show Below w.heap.size w (w.alloc (aO (.slice none 0 0) false [] [] (0, 0, []))) from (Below.refl _ _).alloc (Nat.le_refl _) _);unfold aO at HO HB0;go_enter Tryz.func25, Tryz.ntmps25;go_wp2_with fail
 refine (HP.out _).mono ?_;rintro e w2 ⟨v, xs, d, ty, nm, k, wh, ok, rfl, ho, hb, hcase⟩;have hsz1 : w.heap.size + 1 <= w2.heap.size := by have := hb.size; simp at this; omega
 have HB2 := hid (HB0.out.trans (hb.mono HB0.out.size));have HO2 := hid ((hb.block w.heap.size (by simp)).trans HO.out);have HOW := hid ho;clear ho hb HB0 HO HP;obtain ⟨ro, co, hv, _, _⟩ := ownM_form HOW.out;subst hv;simp only [plV];have HA3 := hid (show Below w2.heap.size w2 (w2.alloc (.cells #[.slice ro xs.length co, .bool d, .string ⟨ty.toArray⟩, .string ⟨nm.toArray⟩, .int .i64 k.1, .int .i64 k.2.1, .string ⟨k.2.2.toArray⟩, .bool wh] 91)) from (Below.refl _ _).alloc (Nat.le_refl _) _);have HB3 := hid (HB2.out.trans (HA3.out.mono HB2.out.size));have HO3 := hid (show (w2.alloc (.cells #[.slice ro xs.length co, .bool d, .string ⟨ty.toArray⟩, .string ⟨nm.toArray⟩, .int .i64 k.1, .int .i64 k.2.1, .string ⟨k.2.2.toArray⟩, .bool wh] 91)).heap[w.heap.size]? = some (aO (.slice none 0 0) false [] [] (0, 0, [])) from (HA3.out.block w.heap.size (by omega)).trans HO2.out);have HW3 := hid (show OwnM (w.heap.size + 1) (w2.alloc (.cells #[.slice ro xs.length co, .bool d, .string ⟨ty.toArray⟩, .string ⟨nm.toArray⟩, .int .i64 k.1, .int .i64 k.2.1, .string ⟨k.2.2.toArray⟩, .bool wh] 91)) (.slice ro xs.length co) xs from kept_off (row_le HOW.out (by simp)) (grown_below HA3.out) (fun _ _ e => by cases e));have hpn := ko_new w2 (plO (.slice ro xs.length co) d ty nm k wh);obtain ⟨⟨a0, a1, a2, a3, a4, a5, a6, a7⟩, _, al⟩ := pl_cells hpn;unfold plO at a0 a1 a2 a3 a4 a5 a6 a7;obtain ⟨b0, b1, b2, b3, b4, b5, b6, bf, bl⟩ := ao_cells HO3.out;have bz0 := bf 0;have bz1 := bf 1;have bz2 := bf 2;have bz3 := bf 3;have bz4 := bf 4;have bz5 := bf 5;have bz6 := bf 6;clear bf hpn al;rcases hcase with ⟨rfl, hn⟩ | ⟨rfl, rfl, xs', hn⟩ | ⟨rfl, rfl, hn⟩
 . have HPE := hid (show prE s.data.toList = 2 by unfold prE; rw [hn])
   clear hn;go_wp2
   obtain ⟨W9, hW9, f1⟩ := ao_end HO3.out (.slice none 0 0) false ([] : List UInt8) ([] : List UInt8) ((0, 0, []) : KeyT)
   try simp only at hW9
   have hb9 : Below w.heap.size w W9 := by rw [hW9]; exact set7 HB3.out (Nat.le_refl _) _ _ _ _ _ _ _
   have hg9 : OwnM (w.heap.size + 1) W9 (.slice ro xs.length co) xs := by
    rw [hW9];have hS : ∀ (X : World) (i : Nat) (u : Value), OwnM (w.heap.size + 1) X (.slice ro xs.length co) xs -> OwnM (w.heap.size + 1) (X.setCell ⟨w.heap.size, i, none⟩ u) (.slice ro xs.length co) xs := fun X i u ho => kept_off ho (grown_setC X _ u) (fun g hg2 e => by have := (ownM_far ho g hg2).1; simp at e; omega);exact hS _ _ _ (hS _ _ _ (hS _ _ _ (hS _ _ _ (hS _ _ _ (hS _ _ _ (hS _ _ _ HW3.out))))))
   obtain ⟨r0, r1, r2, r3, r4, r5, r6, _, _⟩ := ao_cells f1;rw [<- hW9];exact bodyPost_ret (v := .tuple #[.agg #[.slice none 0 0, .bool false, .string ⟨List.toArray ([] : List UInt8)⟩, .string ⟨List.toArray ([] : List UInt8)⟩, .int .i64 (((0, 0, []) : KeyT) : KeyT).1, .int .i64 (((0, 0, []) : KeyT) : KeyT).2.1, .string ⟨List.toArray (((0, 0, []) : KeyT) : KeyT).2.2⟩], .int .i64 2]) (by simp [results, Tryz.results25, go_sem, r0, r1, r2, r3, r4, r5, r6]) rfl ⟨_, _, _, _, _, _, by rw [HPE.out], ownM_nil _ _, hb9, fun h => by rw [HPE.out] at h; cases h⟩
 . have HPE := hid (show prE s.data.toList = 2 by unfold prE; rw [hn])
   clear hn;go_wp2
   obtain ⟨W9, hW9, f1⟩ := ao_end HO3.out (.slice none 0 0) false ([] : List UInt8) ([] : List UInt8) ((0, 0, []) : KeyT)
   try simp only at hW9
   have hb9 : Below w.heap.size w W9 := by rw [hW9]; exact set7 HB3.out (Nat.le_refl _) _ _ _ _ _ _ _
   have hg9 : OwnM (w.heap.size + 1) W9 (.slice ro xs.length co) xs := by
    rw [hW9];have hS : ∀ (X : World) (i : Nat) (u : Value), OwnM (w.heap.size + 1) X (.slice ro xs.length co) xs -> OwnM (w.heap.size + 1) (X.setCell ⟨w.heap.size, i, none⟩ u) (.slice ro xs.length co) xs := fun X i u ho => kept_off ho (grown_setC X _ u) (fun g hg2 e => by have := (ownM_far ho g hg2).1; simp at e; omega);exact hS _ _ _ (hS _ _ _ (hS _ _ _ (hS _ _ _ (hS _ _ _ (hS _ _ _ (hS _ _ _ HW3.out))))))
   obtain ⟨r0, r1, r2, r3, r4, r5, r6, _, _⟩ := ao_cells f1;rw [<- hW9];exact bodyPost_ret (v := .tuple #[.agg #[.slice none 0 0, .bool false, .string ⟨List.toArray ([] : List UInt8)⟩, .string ⟨List.toArray ([] : List UInt8)⟩, .int .i64 (((0, 0, []) : KeyT) : KeyT).1, .int .i64 (((0, 0, []) : KeyT) : KeyT).2.1, .string ⟨List.toArray (((0, 0, []) : KeyT) : KeyT).2.2⟩], .int .i64 2]) (by simp [results, Tryz.results25, go_sem, r0, r1, r2, r3, r4, r5, r6]) rfl ⟨_, _, _, _, _, _, by rw [HPE.out], ownM_nil _ _, hb9, fun h => by rw [HPE.out] at h; cases h⟩
 . by_cases h16 : 16 < xs.length
   . have HPE := hid (show prE s.data.toList = 4 by unfold prE; rw [hn]; simp only; rw [if_pos h16])
     have h17 : (16 : Int) < (xs.length : Int) := by omega
     clear hn;go_wp2
     obtain ⟨W9, hW9, f1⟩ := ao_end HO3.out (.slice none 0 0) false ([] : List UInt8) ([] : List UInt8) ((0, 0, []) : KeyT)
     try simp only at hW9
     have hb9 : Below w.heap.size w W9 := by rw [hW9]; exact set7 HB3.out (Nat.le_refl _) _ _ _ _ _ _ _
     have hg9 : OwnM (w.heap.size + 1) W9 (.slice ro xs.length co) xs := by
      rw [hW9];have hS : ∀ (X : World) (i : Nat) (u : Value), OwnM (w.heap.size + 1) X (.slice ro xs.length co) xs -> OwnM (w.heap.size + 1) (X.setCell ⟨w.heap.size, i, none⟩ u) (.slice ro xs.length co) xs := fun X i u ho => kept_off ho (grown_setC X _ u) (fun g hg2 e => by have := (ownM_far ho g hg2).1; simp at e; omega);exact hS _ _ _ (hS _ _ _ (hS _ _ _ (hS _ _ _ (hS _ _ _ (hS _ _ _ (hS _ _ _ HW3.out))))))
     obtain ⟨r0, r1, r2, r3, r4, r5, r6, _, _⟩ := ao_cells f1;rw [<- hW9];exact bodyPost_ret (v := .tuple #[.agg #[.slice none 0 0, .bool false, .string ⟨List.toArray ([] : List UInt8)⟩, .string ⟨List.toArray ([] : List UInt8)⟩, .int .i64 (((0, 0, []) : KeyT) : KeyT).1, .int .i64 (((0, 0, []) : KeyT) : KeyT).2.1, .string ⟨List.toArray (((0, 0, []) : KeyT) : KeyT).2.2⟩], .int .i64 4]) (by simp [results, Tryz.results25, go_sem, r0, r1, r2, r3, r4, r5, r6]) rfl ⟨_, _, _, _, _, _, by rw [HPE.out], ownM_nil _ _, hb9, fun h => by rw [HPE.out] at h; cases h⟩
   . have HPE := hid (show prE s.data.toList = 0 by unfold prE; rw [hn]; simp only; rw [if_neg h16])
     have h17 : ¬ (16 : Int) < (xs.length : Int) := by omega
     have HN := hid hn;clear hn;go_wp2
     obtain ⟨W9, hW9, f1⟩ := ao_end HO3.out (.slice ro xs.length co) d ty nm k
     try simp only at hW9
     have hb9 : Below w.heap.size w W9 := by rw [hW9]; exact set7 HB3.out (Nat.le_refl _) _ _ _ _ _ _ _
     have hg9 : OwnM (w.heap.size + 1) W9 (.slice ro xs.length co) xs := by
      rw [hW9];have hS : ∀ (X : World) (i : Nat) (u : Value), OwnM (w.heap.size + 1) X (.slice ro xs.length co) xs -> OwnM (w.heap.size + 1) (X.setCell ⟨w.heap.size, i, none⟩ u) (.slice ro xs.length co) xs := fun X i u ho => kept_off ho (grown_setC X _ u) (fun g hg2 e => by have := (ownM_far ho g hg2).1; simp at e; omega);exact hS _ _ _ (hS _ _ _ (hS _ _ _ (hS _ _ _ (hS _ _ _ (hS _ _ _ (hS _ _ _ HW3.out))))))
     obtain ⟨r0, r1, r2, r3, r4, r5, r6, _, _⟩ := ao_cells f1;rw [<- hW9];exact bodyPost_ret (v := .tuple #[.agg #[.slice ro xs.length co, .bool d, .string ⟨List.toArray ty⟩, .string ⟨List.toArray nm⟩, .int .i64 (k : KeyT).1, .int .i64 (k : KeyT).2.1, .string ⟨List.toArray (k : KeyT).2.2⟩], .int .i64 0]) (by simp [results, Tryz.results25, go_sem, r0, r1, r2, r3, r4, r5, r6]) rfl ⟨_, _, _, _, _, _, by rw [HPE.out], row_le hg9 (by omega), hb9, fun h => HN.out⟩
end Go.Proofs.YtpnogmicfomofaaGreatDoor.Adr
namespace Go.Proofs.YtpnogmicfomofaaGreatDoor.Adr
open Go.RowKit Go.Sort Go.Lib Go.Maps
open Go.Lib (hid)
set_option maxHeartbeats 4000000 in
theorem rfkey0 (w : World) : Calls Tryz.prog 95 #[k0V] w fun e w' => e = .returned (.string ⟨#[]⟩) /\ Below w.heap.size w w' := by
 have HK : Hid (∀ W : World, Calls Tryz.prog 101 #[k0V] W fun e w' => e = .returned (.bool true) /\ Below W.heap.size W w') := hid (fun W => rKey0 W);unfold k0V at *;have HA := hid (show Below w.heap.size w (w.alloc (.cells #[.int .i64 0, .int .i64 0, .string ⟨#[]⟩] 58)) from (Below.refl _ _).alloc (Nat.le_refl _) _);obtain ⟨d0, d1, d2, _, d4⟩ := ko_cells (W := w.alloc (kO 0 0 [])) (r := w.heap.size) (k := 0) (n := 0) (t := []) (ko_new w _);unfold kO at d0 d1 d2;go_enter Tryz.func95, Tryz.ntmps95;go_wp2_with (go_at_call 101; refine (HK.out _).mono ?_; rintro e w1 ⟨rfl, hb1⟩; have c0 := bget hb1 d0; have HB1 := hid (HA.out.trans (hb1.mono HA.out.size)); clear hb1)
 go_ret
 exact ⟨rfl, HB1.out⟩
set_option maxHeartbeats 8000000 in
theorem rcheck0 (r : Option Addr) (c : Nat) (xs : List MS) (d : Bool) (ty nm : List UInt8) (w : World) (h : Sl MsR 4 w (.slice r xs.length c) xs) (hx : Bare xs) (hty : kdB ty = true) (hnm : idB nm = true) :
  Calls Tryz.prog 93 #[aV (.slice r xs.length c) d ty nm (0, 0, [])] w fun e w' => e = .returned (.int .i64 0) /\ Below w.heap.size w w' := by
 obtain ⟨_, hl, hm⟩ := sl_len h;have h16 := hx.1;have h17 : ¬ (16 : Int) < (xs.length : Int) := by omega
 have hlen : ∀ {l : List UInt8}, idB l = true -> (⟨l.toArray⟩ : ByteArray).size <= 2000000 := fun {l} h => by
  unfold idB at h;simp only [Bool.and_eq_true, decide_eq_true_eq] at h;rw [ls_size];have := h.1.1.2;omega
 have hid1 : ∀ {l : List UInt8}, idB l = true -> ∀ W : World, Calls Tryz.prog 71 #[.string ⟨l.toArray⟩] W fun e w' => e = .returned (.bool true) /\ W = w' := fun {l} h W => by
  have h2 := rident_any ⟨l.toArray⟩ W (hlen h);rw [show (⟨l.toArray⟩ : ByteArray).data.toList = l from rfl, h] at h2;exact h2
 have hk : idB ty = true /\ rsv ty = false := by unfold kdB at hty; simpa using hty
 have HE := hid (fun (W : World) (hW : Below w.heap.size w W) => ms_at (h.below msR_mono hW));have HX := hid (fun x hx2 => hx.2 x hx2);have HV : Hid (∀ W : World, Calls Tryz.prog 101 #[k0V] W fun e w' => e = .returned (.bool true) /\ Below W.heap.size W w') := hid (fun W => rKey0 W);have HID := hid (fun (l : List UInt8) (h : idB l = true) => hid1 h);have HT := hid (hid1 hk.1);have HN := hid (hid1 hnm)
 have HR : Hid (∀ W : World, Calls Tryz.prog 72 #[.string ⟨ty.toArray⟩] W fun e w' => e = .returned (.bool false) /\ Below W.heap.size W w') := hid (fun W => by
  have h2 := rreserved_any ⟨ty.toArray⟩ W;rw [show (⟨ty.toArray⟩ : ByteArray).data.toList = ty from rfl, hk.2] at h2;exact h2)
 have HB0 := hid (show Below w.heap.size w (w.alloc (.cells #[.slice r xs.length c, .bool d, .string ⟨ty.toArray⟩, .string ⟨nm.toArray⟩, .int .i64 0, .int .i64 0, .string ⟨#[]⟩] 60)) from (Below.refl _ _).alloc (Nat.le_refl _) _);clear h hx hty hnm hk hid1 hlen;unfold aV;unfold k0V at HV;go_enter Tryz.func93, Tryz.ntmps93;go_wp2
 have hz : (w.alloc (.cells #[.slice r xs.length c, .bool d, .string ⟨ty.toArray⟩, .string ⟨nm.toArray⟩, .int .i64 0, .int .i64 0, .string ⟨#[]⟩] 60)).heap.size = w.heap.size + 1 := by simp
 obtain ⟨z0, z1, z2, z3, z4, z5, z6, _⟩ := ao_cells (v := .slice r xs.length c) (d := d) (ty := ty) (nm := nm) (k := (0, 0, [])) (ko_new w (.cells #[.slice r xs.length c, .bool d, .string ⟨ty.toArray⟩, .string ⟨nm.toArray⟩, .int .i64 0, .int .i64 0, .string ⟨#[]⟩] 60));have HZ := hid (And.intro z0 (And.intro z2 (And.intro z3 (And.intro z4 (And.intro z5 z6)))));clear z0 z1 z2 z3 z4 z5 z6;generalize w.alloc (.cells #[.slice r xs.length c, .bool d, .string ⟨ty.toArray⟩, .string ⟨nm.toArray⟩, .int .i64 0, .int .i64 0, .string ⟨#[]⟩] 60) = W0 at *;have HS := hid hz;clear hz;go_loopw [3] (fun t wr => ∃ k : Nat, k <= xs.length /\ t = .int .i64 k /\ Hid (Below W0.heap.size W0 wr)) (fun t _ => xs.length - (RowKit.intOf t).toNat)
 case atStart => exact ⟨0, Nat.zero_le _, rfl, hid (Below.refl _ _)⟩
 case round =>
  obtain ⟨k, hk, rfl, HW⟩ := hrel;obtain ⟨z0, z2, z3, z4, z5, z6⟩ := HZ.out;have q0 := bget HW.out z0;have q2 := bget HW.out z2;have q3 := bget HW.out z3;have q4 := bget HW.out z4;have q5 := bget HW.out z5;have q6 := bget HW.out z6;clear z0 z2 z3 z4 z5 z6
  by_cases hlt : k < xs.length
  . obtain ⟨b, off, rfl, hb, g0, g1, g2, g3⟩ := HE.out wr (HB0.out.trans (HW.out.mono (by rw [HS.out]; omega))) k hlt
    obtain ⟨j1, j2⟩ := HX.out xs[k] (List.getElem_mem hlt);rw [j2] at g1 g2 g3;have HI := hid (HID.out _ j1);have hk0 : (0 : Int) <= (k : Int) := by omega
    have hk1 : (k : Int) < (xs.length : Int) := by omega
    clear j1 j2 HT HN HR;generalize xs[k].1 = s at *
    go_wp2_with (first
     | (go_at_call 71; refine (HI.out _).mono ?_; rintro e w3 ⟨rfl, rfl⟩)
     | (go_at_call 101; refine (HV.out _).mono ?_; rintro e w4 ⟨rfl, hb4⟩; have HB4 := hid hb4; clear hb4))
    go_roundw
    case rel => exact ⟨k + 1, by omega, by go_num, hid (HW.out.trans (HB4.out.mono HW.out.size))⟩
    case measure => simp [RowKit.intOf]; omega
  . have hk1 : ¬ (k : Int) < (xs.length : Int) := by omega
    clear HID
    go_wp2_with (first
     | (go_at_call 71; have hh := HT.out; clear HT; refine Calls.mono (hh _) ?_; clear hh; rintro e w3 ⟨rfl, rfl⟩)
     | (go_at_call 72; refine (HR.out _).mono ?_; rintro e w3 ⟨rfl, hb3⟩; have p3 := bget hb3 q3; have p4 := bget hb3 q4; have p5 := bget hb3 q5; have p6 := bget hb3 q6; have HB3 := hid hb3; clear hb3)
     | (go_at_call 71; have hh := HN.out; clear HN; refine Calls.mono (hh _) ?_; clear hh; rintro e w5 ⟨rfl, rfl⟩)
     | (go_at_call 101; refine (HV.out _).mono ?_; rintro e w4 ⟨rfl, hb4⟩; have HB4 := hid (HB3.out.trans (hb4.mono HB3.out.size)); clear hb4))
    go_ret
    exact ⟨rfl, (HB0.out.trans (HW.out.mono (by rw [HS.out]; omega))).trans (HB4.out.mono (by have := HW.out.size; have := HS.out; omega))⟩
end Go.Proofs.YtpnogmicfomofaaGreatDoor.Adr
namespace Go.Proofs.YtpnogmicfomofaaGreatDoor.Adr
open Go.RowKit Go.Sort Go.Lib Go.Maps
open Go.Lib (hid)
open Stp (Spc frUpon Lat Lat.refl wp_region_fresh wpF_quiet wpF_told wpF_skip wpF_put wpF_nil grw_ex grw_below noEnter_op sVal sBool stTrue Grw)
attribute [local go_sem] frUpon
set_option maxRecDepth 100000 in
set_option maxHeartbeats 8000000 in
theorem rsteps0 (r : Option Addr) (c : Nat) (xs : List MS) (w : World) (h : Sl MsR 4 w (.slice r xs.length c) xs) (hx : Bare xs) :
  Calls Tryz.prog 94 #[.slice r xs.length c] w fun e w' => e = .returned (.string ⟨(xs.flatMap stpB).toArray⟩) /\ Below w.heap.size w w' := by
 obtain ⟨_, hl, hm⟩ := sl_len h;have h16 := hx.1;have HE := hid (fun (W : World) (hW : Below w.heap.size w W) => ms_at (h.below msR_mono hW));have HX := hid (fun x hx2 => hx.2 x hx2);have HF := hid (fun W => rfkey0 W);have HP := hid (fun k => pre_len (xs := xs.take k) (fun x hx2 => (hx.2 x (List.mem_of_mem_take hx2)).1));clear h hx;unfold k0V at HF;go_enter Tryz.func94, Tryz.ntmps94;go_wp2
 go_loopg [3, 4] xs.length (fun gg s3 s4 wr => ∃ k : Nat, k <= xs.length /\ xs.length - k <= gg /\ s4 = .int .i64 k /\ s3 = .string ⟨((xs.take k).flatMap stpB).toArray⟩ /\ Hid (Below w.heap.size w wr))
 case atStart => exact ⟨0, by omega, by omega, rfl, by simp, hid (Below.refl _ _)⟩
 case round =>
  obtain ⟨k, hk, hgg, rfl, rfl, HB⟩ := hrel
  by_cases hlt : k < xs.length
  . obtain ⟨b, off, rfl, hb, g0, g1, g2, g3⟩ := HE.out wr HB.out k hlt
    have HTK := hid (show (xs.take (k + 1)).flatMap stpB = (xs.take k).flatMap stpB ++ (MODP ++ xs[k].1 ++ [46]) by rw [List.take_succ_eq_append_getElem hlt, List.flatMap_append]; simp [stpB]);have hp := HP.out k;obtain ⟨j1, j2⟩ := HX.out xs[k] (List.getElem_mem hlt);have hs := id_len j1;rw [j2] at g1 g2 g3;clear j1 j2;generalize xs[k].1 = s at *;have hpl : ((xs.take k).flatMap stpB).length <= 1000000000 := by rw [List.length_take] at hp; omega
    clear hp;generalize hP0 : (xs.take k).flatMap stpB = P0 at *;have c1 := fun W => cat_run W P0 [109, 111, 100, 117, 108, 101, 46] (by simp; omega);have l1 : (P0 ++ [109, 111, 100, 117, 108, 101, 46]).length <= 1000000010 := by simp; omega
    obtain ⟨P1, hP1⟩ : ∃ P1, P0 ++ [109, 111, 100, 117, 108, 101, 46] = P1 := ⟨_, rfl⟩;rw [hP1] at c1 l1;have c2 := fun W => cat_run W P1 s (by omega);have l2 : (P1 ++ s).length <= 1000000100 := by simp; omega
    obtain ⟨P2, hP2⟩ : ∃ P2, P1 ++ s = P2 := ⟨_, rfl⟩;rw [hP2] at c2 l2;have c3 := fun W => cat_run W P2 [] (by simp; omega);rw [List.append_nil] at c3;have c4 := fun W => cat_run W P2 [46] (by simp; omega);have HRE := hid (show P2 ++ [46] = (xs.take (k + 1)).flatMap stpB by rw [HTK.out, <- hP2, <- hP1]; simp [MODP]);obtain ⟨P4, hP4⟩ : ∃ P4, P2 ++ [46] = P4 := ⟨_, rfl⟩;rw [hP4] at c4 HRE;have e0 := fun d os => cell_regrown g0 d os;have e1 := fun d os => cell_regrown g1 d os;have e2 := fun d os => cell_regrown g2 d os;have e3 := fun d os => cell_regrown g3 d os;have hk0 : (0 : Int) <= (k : Int) := by omega
    have hk1 : (k : Int) < (xs.length : Int) := by omega
    clear hs hP0 hP1 hP2 hP4 l1 l2 hpl;go_wp2_with fail
    refine wp_region_fresh (fun k => match k with | 13 => some (sStr []) | _ => none) (by kernel_rfl) (by kernel_rfl) ?_
    iterate 13 (refine wpF_quiet (grw_ex _) (by kernel_rfl) rfl (noEnter_op (by rfl)) ?_; intro K hK; go_big_quiet_op; go_big_quiet_on)
    refine wpF_told (sStr []) (by kernel_rfl) rfl ⟨_, rfl⟩ stTrue (fun w4 hw4 hE4 => ?_) ?_
    . have hb4 := grw_below hw4
      have hh := HF.out w4;clear hw4 hE4 hb4;go_simp
      go_at_call 95;refine Calls.mono hh ?_;rintro e w5 ⟨rfl, hb5⟩;exact ⟨_, rfl, hb5, rfl, trivial⟩
    rintro _ rfl
    (refine wpF_put ?_; intro K hK; go_simp; refine hK _ ?_; clear hK K)
    iterate 3 (refine wpF_quiet (grw_ex _) (by kernel_rfl) rfl (noEnter_op (by rfl)) ?_; intro K hK; go_big_quiet_op; go_big_quiet_on)
    refine wpF_nil ?_;intro w6 hw6 hE6;have hb6 := grw_below hw6;clear hw6 hE6;go_wp2
    go_roundg (xs.length - (k + 1))
    case measure => omega
    case rel => exact ⟨k + 1, by omega, by omega, by go_num, by rw [<- HRE.out], hid (HB.out.trans (hb6.mono HB.out.size))⟩
  . obtain rfl : k = xs.length := by omega
    have HT := hid (show xs.take xs.length = xs from List.take_length);go_wp2
    go_ret
    exact ⟨by first | rfl | (rw [HT.out]; rfl), HB.out⟩
end Go.Proofs.YtpnogmicfomofaaGreatDoor.Adr
namespace Go.Proofs.YtpnogmicfomofaaGreatDoor.Adr
open Go.RowKit Go.Sort Go.Lib Go.Maps
open Go.Lib (hid)
open Stp (Spc frUpon Lat Lat.refl wp_region_fresh wpF_quiet wpF_told wpF_skip wpF_put wpF_nil grw_ex grw_below noEnter_op sVal sBool stTrue Grw)
attribute [local go_sem] frUpon
set_option maxRecDepth 100000 in
set_option maxHeartbeats 8000000 in
theorem rformat0 (r : Option Addr) (c : Nat) (xs : List MS) (d : Bool) (ty nm : List UInt8) (w : World) (h : Sl MsR 4 w (.slice r xs.length c) xs) (hx : Bare xs) (hty : kdB ty = true) (hnm : idB nm = true) :
  Calls Tryz.prog 64 #[aV (.slice r xs.length c) d ty nm (0, 0, [])] w fun e w' => e = .returned (.string ⟨(fmtB xs d ty nm).toArray⟩) /\ Below w.heap.size w w' := by
 have HC := hid (fun (W : World) (hW : Below w.heap.size w W) => rcheck0 r c xs d ty nm W (h.below msR_mono hW) hx hty hnm);have HS := hid (fun (W : World) (hW : Below w.heap.size w W) => rsteps0 r c xs W (h.below msR_mono hW) hx);have HF := hid (fun W => rfkey0 W)
 have hty2 : ty.length <= 64 := by
  have h1 : (idB ty && !rsv ty) = true := hty;rw [Bool.and_eq_true] at h1;exact id_len h1.1
 have hnm2 := id_len hnm
 have l0 : (xs.flatMap stpB).length <= 1000000000 := by
  have hp := pre_len (xs := xs) (fun x hx2 => (hx.2 x hx2).1);have := hx.1;omega
 clear h hx hty hnm;unfold aV at *;unfold k0V at HF;generalize hP0 : xs.flatMap stpB = P0 at *;cases d with
 | false =>
   have k1 : P0.length <= 1000001000 := by omega
   have c2 := fun W => cat_run W P0 ty (by omega);have k2 : (P0 ++ ty).length <= 1000002000 := by simp; omega
   obtain ⟨P2, hP2⟩ : ∃ P2, P0 ++ ty = P2 := ⟨_, rfl⟩;rw [hP2] at c2 k2;have c3 := fun W => cat_run W P2 [46] (by simp; omega);have k3 : (P2 ++ [46]).length <= 1000003000 := by simp; omega
   obtain ⟨P3, hP3⟩ : ∃ P3, P2 ++ [46] = P3 := ⟨_, rfl⟩;rw [hP3] at c3 k3;have c4 := fun W => cat_run W P3 nm (by omega);have k4 : (P3 ++ nm).length <= 1000004000 := by simp; omega
   obtain ⟨P4, hP4⟩ : ∃ P4, P3 ++ nm = P4 := ⟨_, rfl⟩;rw [hP4] at c4 k4;have c5 := fun W => cat_run W P4 [] (by simp; omega);rw [List.append_nil] at c5;have HRE := hid (show fmtB xs false ty nm = P4 by unfold fmtB; rw [hP0, <- hP4, <- hP3, <- hP2]; simp [DATP]);clear hP2 hP3 hP4 k1 k2 k3 k4 l0 hP0;rw [HRE.out];have HB0 := hid (show Below w.heap.size w (w.alloc (.cells #[.slice r xs.length c, .bool false, .string ⟨ty.toArray⟩, .string ⟨nm.toArray⟩, .int .i64 0, .int .i64 0, .string ⟨#[]⟩] 60)) from (Below.refl _ _).alloc (Nat.le_refl _) _)
   have HZ := hid (fun (W : World) (hb : Below (w.alloc (.cells #[.slice r xs.length c, .bool false, .string ⟨ty.toArray⟩, .string ⟨nm.toArray⟩, .int .i64 0, .int .i64 0, .string ⟨#[]⟩] 60)).heap.size (w.alloc (.cells #[.slice r xs.length c, .bool false, .string ⟨ty.toArray⟩, .string ⟨nm.toArray⟩, .int .i64 0, .int .i64 0, .string ⟨#[]⟩] 60)) W) => show (W.cell? ⟨w.heap.size, 0, none⟩ = some (.slice r xs.length c) /\ W.cell? ⟨w.heap.size, 1, none⟩ = some (.bool false) /\ W.cell? ⟨w.heap.size, 2, none⟩ = some (.string ⟨ty.toArray⟩) /\ W.cell? ⟨w.heap.size, 3, none⟩ = some (.string ⟨nm.toArray⟩) /\ W.cell? ⟨w.heap.size, 4, none⟩ = some (.int .i64 0) /\ W.cell? ⟨w.heap.size, 5, none⟩ = some (.int .i64 0) /\ W.cell? ⟨w.heap.size, 6, none⟩ = some (.string ⟨#[]⟩)) /\ w.heap.size < W.heap.size from by
    obtain ⟨z0, z1, z2, z3, z4, z5, z6, _⟩ := ao_cells (v := .slice r xs.length c) (d := false) (ty := ty) (nm := nm) (k := (0, 0, [])) (ko_new w (.cells #[.slice r xs.length c, .bool false, .string ⟨ty.toArray⟩, .string ⟨nm.toArray⟩, .int .i64 0, .int .i64 0, .string ⟨#[]⟩] 60));exact ⟨⟨bget hb z0, bget hb z1, bget hb z2, bget hb z3, bget hb z4, bget hb z5, bget hb z6⟩, by have := hb.size; simp at this; omega⟩)
   obtain ⟨⟨o0, o1, o2, o3, o4, o5, o6⟩, _⟩ := HZ.out _ (Below.refl _ _);go_enter Tryz.func64, Tryz.ntmps64
   go_wp2_with (first
    | (go_at_call 93; refine (HC.out _ HB0.out).mono ?_; rintro e w1 ⟨rfl, hb1⟩; have HB1 := hid (HB0.out.trans (hb1.mono HB0.out.size)); have HX1 := hid hb1; obtain ⟨⟨q0, q1, q2, q3, q4, q5, q6⟩, q7⟩ := HZ.out _ hb1; clear hb1)
    | (go_at_call 94; refine (HS.out _ HB1.out).mono ?_; rintro e w2 ⟨rfl, hb2⟩; have HB2 := hid (HB1.out.trans (hb2.mono HB1.out.size)); have hx2 := HX1.out.trans (hb2.mono HX1.out.size); obtain ⟨⟨p0, p1, p2, p3, p4, p5, p6⟩, p7⟩ := HZ.out _ hx2; clear hb2 hx2))
   have e2 := fun d os => cell_regrown p2 d os;have e3 := fun d os => cell_regrown p3 d os;have e4 := fun d os => cell_regrown p4 d os;have e5 := fun d os => cell_regrown p5 d os;have e6 := fun d os => cell_regrown p6 d os;refine wp_region_fresh (fun k => match k with | 10 => some (sStr []) | _ => none) (by kernel_rfl) (by kernel_rfl) ?_
   iterate 10 (refine wpF_quiet (grw_ex _) (by kernel_rfl) rfl (noEnter_op (by rfl)) ?_; intro K hK; go_big_quiet_op; go_big_quiet_on)
   refine wpF_told (sStr []) (by kernel_rfl) rfl ⟨_, rfl⟩ stTrue (fun w4 hw4 hE4 => ?_) ?_
   . have hb4 := grw_below hw4
     have hh := HF.out w4;clear hw4 hE4 hb4;go_simp
     go_at_call 95;refine Calls.mono hh ?_;rintro e w5 ⟨rfl, hb5⟩;exact ⟨_, rfl, hb5, rfl, trivial⟩
   rintro _ rfl
   (refine wpF_put ?_; intro K hK; go_simp; refine hK _ ?_; clear hK K)
   iterate 2 (refine wpF_quiet (grw_ex _) (by kernel_rfl) rfl (noEnter_op (by rfl)) ?_; intro K hK; go_big_quiet_op; go_big_quiet_on)
   refine wpF_nil ?_;intro w6 hw6 hE6;have hb6 := grw_below hw6;clear hw6 hE6;go_wp2
   go_ret
   exact ⟨rfl, HB2.out.trans (hb6.mono HB2.out.size)⟩
 | true =>
   have d1 := fun W => cat_run W P0 [100, 97, 116, 97, 46] (by simp; omega);have k1 : (P0 ++ [100, 97, 116, 97, 46]).length <= 1000001000 := by simp; omega
   obtain ⟨P1, hP1⟩ : ∃ P1, P0 ++ [100, 97, 116, 97, 46] = P1 := ⟨_, rfl⟩;rw [hP1] at d1 k1;have c2 := fun W => cat_run W P1 ty (by omega);have k2 : (P1 ++ ty).length <= 1000002000 := by simp; omega
   obtain ⟨P2, hP2⟩ : ∃ P2, P1 ++ ty = P2 := ⟨_, rfl⟩;rw [hP2] at c2 k2;have c3 := fun W => cat_run W P2 [46] (by simp; omega);have k3 : (P2 ++ [46]).length <= 1000003000 := by simp; omega
   obtain ⟨P3, hP3⟩ : ∃ P3, P2 ++ [46] = P3 := ⟨_, rfl⟩;rw [hP3] at c3 k3;have c4 := fun W => cat_run W P3 nm (by omega);have k4 : (P3 ++ nm).length <= 1000004000 := by simp; omega
   obtain ⟨P4, hP4⟩ : ∃ P4, P3 ++ nm = P4 := ⟨_, rfl⟩;rw [hP4] at c4 k4;have c5 := fun W => cat_run W P4 [] (by simp; omega);rw [List.append_nil] at c5;have HRE := hid (show fmtB xs true ty nm = P4 by unfold fmtB; rw [hP0, <- hP4, <- hP3, <- hP2, <- hP1]; simp [DATP]);clear hP1 hP2 hP3 hP4 k1 k2 k3 k4 l0 hP0;rw [HRE.out];have HB0 := hid (show Below w.heap.size w (w.alloc (.cells #[.slice r xs.length c, .bool true, .string ⟨ty.toArray⟩, .string ⟨nm.toArray⟩, .int .i64 0, .int .i64 0, .string ⟨#[]⟩] 60)) from (Below.refl _ _).alloc (Nat.le_refl _) _)
   have HZ := hid (fun (W : World) (hb : Below (w.alloc (.cells #[.slice r xs.length c, .bool true, .string ⟨ty.toArray⟩, .string ⟨nm.toArray⟩, .int .i64 0, .int .i64 0, .string ⟨#[]⟩] 60)).heap.size (w.alloc (.cells #[.slice r xs.length c, .bool true, .string ⟨ty.toArray⟩, .string ⟨nm.toArray⟩, .int .i64 0, .int .i64 0, .string ⟨#[]⟩] 60)) W) => show (W.cell? ⟨w.heap.size, 0, none⟩ = some (.slice r xs.length c) /\ W.cell? ⟨w.heap.size, 1, none⟩ = some (.bool true) /\ W.cell? ⟨w.heap.size, 2, none⟩ = some (.string ⟨ty.toArray⟩) /\ W.cell? ⟨w.heap.size, 3, none⟩ = some (.string ⟨nm.toArray⟩) /\ W.cell? ⟨w.heap.size, 4, none⟩ = some (.int .i64 0) /\ W.cell? ⟨w.heap.size, 5, none⟩ = some (.int .i64 0) /\ W.cell? ⟨w.heap.size, 6, none⟩ = some (.string ⟨#[]⟩)) /\ w.heap.size < W.heap.size from by
    obtain ⟨z0, z1, z2, z3, z4, z5, z6, _⟩ := ao_cells (v := .slice r xs.length c) (d := true) (ty := ty) (nm := nm) (k := (0, 0, [])) (ko_new w (.cells #[.slice r xs.length c, .bool true, .string ⟨ty.toArray⟩, .string ⟨nm.toArray⟩, .int .i64 0, .int .i64 0, .string ⟨#[]⟩] 60));exact ⟨⟨bget hb z0, bget hb z1, bget hb z2, bget hb z3, bget hb z4, bget hb z5, bget hb z6⟩, by have := hb.size; simp at this; omega⟩)
   obtain ⟨⟨o0, o1, o2, o3, o4, o5, o6⟩, _⟩ := HZ.out _ (Below.refl _ _);go_enter Tryz.func64, Tryz.ntmps64
   go_wp2_with (first
    | (go_at_call 93; refine (HC.out _ HB0.out).mono ?_; rintro e w1 ⟨rfl, hb1⟩; have HB1 := hid (HB0.out.trans (hb1.mono HB0.out.size)); have HX1 := hid hb1; obtain ⟨⟨q0, q1, q2, q3, q4, q5, q6⟩, q7⟩ := HZ.out _ hb1; clear hb1)
    | (go_at_call 94; refine (HS.out _ HB1.out).mono ?_; rintro e w2 ⟨rfl, hb2⟩; have HB2 := hid (HB1.out.trans (hb2.mono HB1.out.size)); have hx2 := HX1.out.trans (hb2.mono HX1.out.size); obtain ⟨⟨p0, p1, p2, p3, p4, p5, p6⟩, p7⟩ := HZ.out _ hx2; clear hb2 hx2))
   have e2 := fun d os => cell_regrown p2 d os;have e3 := fun d os => cell_regrown p3 d os;have e4 := fun d os => cell_regrown p4 d os;have e5 := fun d os => cell_regrown p5 d os;have e6 := fun d os => cell_regrown p6 d os;refine wp_region_fresh (fun k => match k with | 10 => some (sStr []) | _ => none) (by kernel_rfl) (by kernel_rfl) ?_
   iterate 10 (refine wpF_quiet (grw_ex _) (by kernel_rfl) rfl (noEnter_op (by rfl)) ?_; intro K hK; go_big_quiet_op; go_big_quiet_on)
   refine wpF_told (sStr []) (by kernel_rfl) rfl ⟨_, rfl⟩ stTrue (fun w4 hw4 hE4 => ?_) ?_
   . have hb4 := grw_below hw4
     have hh := HF.out w4;clear hw4 hE4 hb4;go_simp
     go_at_call 95;refine Calls.mono hh ?_;rintro e w5 ⟨rfl, hb5⟩;exact ⟨_, rfl, hb5, rfl, trivial⟩
   rintro _ rfl
   (refine wpF_put ?_; intro K hK; go_simp; refine hK _ ?_; clear hK K)
   iterate 2 (refine wpF_quiet (grw_ex _) (by kernel_rfl) rfl (noEnter_op (by rfl)) ?_; intro K hK; go_big_quiet_op; go_big_quiet_on)
   refine wpF_nil ?_;intro w6 hw6 hE6;have hb6 := grw_below hw6;clear hw6 hE6;go_wp2
   go_ret
   exact ⟨rfl, HB2.out.trans (hb6.mono HB2.out.size)⟩
end Go.Proofs.YtpnogmicfomofaaGreatDoor.Adr
namespace Go.Proofs.YtpnogmicfomofaaGreatDoor.Adr
open Go.RowKit Go.Sort Go.Lib Go.Maps
open Go.Lib (hid)
structure Br (w W : World) (va : Value) (k : KeyT) (v : Value) (xs : List MS) (d : Bool) (ty nm : List UInt8) : Prop where
 ad : W.heap[w.heap.size]? = some (aO va d ty nm k)
 re : W.heap[w.heap.size + 1]? = some (aO (.slice none 0 0) false [] [] (0, 0, []))
 ou : W.heap[w.heap.size + 1 + 1]? = some (aO v d ty nm (0, 0, []))
 own : OwnM (w.heap.size + 3) W v xs
 bel : Below w.heap.size w W
 sz : w.heap.size + 3 <= W.heap.size
section
variable {w W W1 W2 : World} {va v : Value} {k : KeyT} {xs : List MS} {d : Bool} {ty nm : List UInt8}
theorem Br.below {W' : World} (h : Br w W va k v xs d ty nm) (hb : Below W.heap.size W W') : Br w W' va k v xs d ty nm :=
 ⟨(hb.block _ (lt_of_block h.ad)).trans h.ad, (hb.block _ (lt_of_block h.re)).trans h.re, (hb.block _ (lt_of_block h.ou)).trans h.ou, kept_off h.own (grown_below hb) (fun _ _ e => by cases e), h.bel.trans (hb.mono h.bel.size), Nat.le_trans h.sz hb.size⟩
theorem Br.start : Br w (((w.alloc (aO va d ty nm k)).alloc (aO (.slice none 0 0) false [] [] (0, 0, []))).alloc (aO (.slice none 0 0) d ty nm (0, 0, []))) va k (.slice none 0 0) [] d ty nm := by
 have hW : Below w.heap.size w (((w.alloc (aO va d ty nm k)).alloc (aO (.slice none 0 0) false [] [] (0, 0, []))).alloc (aO (.slice none 0 0) d ty nm (0, 0, []))) := (((Below.refl _ _).alloc (Nat.le_refl _) _).alloc (by simp) _).alloc (by simp; omega) _;have n1 : ∀ (X : World) (o o2 : Obj) (j : Nat), X.heap[j]? = some o -> (X.alloc o2).heap[j]? = some o := fun X o o2 j hx => (((Below.refl X.heap.size X).alloc (Nat.le_refl _) o2).block _ (lt_of_block hx)).trans hx;have k0 := ko_new w (aO va d ty nm k);have k1 := ko_new (w.alloc (aO va d ty nm k)) (aO (.slice none 0 0) false [] [] (0, 0, []));have k2 := ko_new ((w.alloc (aO va d ty nm k)).alloc (aO (.slice none 0 0) false [] [] (0, 0, []))) (aO (.slice none 0 0) d ty nm (0, 0, []));have e1 : (w.alloc (aO va d ty nm k)).heap.size = w.heap.size + 1 := by simp
 have e2 : ((w.alloc (aO va d ty nm k)).alloc (aO (.slice none 0 0) false [] [] (0, 0, []))).heap.size = w.heap.size + 1 + 1 := by simp
 rw [e1] at k1;rw [e2] at k2;exact ⟨n1 _ _ _ _ (n1 _ _ _ _ k0), n1 _ _ _ _ k1, k2, ownM_nil _ _, hW, by simp⟩
theorem Br.app (h : Br w W va k v xs d ty nm) (hb : Below W.heap.size W W1) {y : MS} {H g cap : Nat} (hm : MoreM (w.heap.size + 3) W1 v (xs ++ [y]) H g cap W2) :
  (W2.cell? ⟨w.heap.size + 1 + 1, 0, none⟩ = some v /\ W2.frozen? ⟨w.heap.size + 1 + 1, 0, none⟩ = false) /\ Br w (W2.setCell ⟨w.heap.size + 1 + 1, 0, none⟩ (.slice (some ⟨g, 0, none⟩) (xs ++ [y]).length cap)) va k (.slice (some ⟨g, 0, none⟩) (xs ++ [y]).length cap) (xs ++ [y]) d ty nm := by
 have h1 := h.below hb;have hf := own_far h1.own;have hg := hm.2.1;have hne : ∀ j, j < w.heap.size + 3 -> W2.heap[j]? = W1.heap[j]? := fun j hj => hg.block j (Nat.lt_of_lt_of_le hj h1.sz) (fun e => by have := (hf j e.symm).1; omega);have hou := (hne _ (by omega)).trans h1.ou;obtain ⟨c0, _, _, _, _, _, _, cf, _⟩ := ao_cells hou;refine ⟨⟨c0, cf 0⟩, ?_⟩;have had := (hne _ (by omega)).trans h1.ad;have hre := (hne _ (by omega)).trans h1.re;have hgs := grown_setC W2 ⟨w.heap.size + 1 + 1, 0, none⟩ (.slice (some ⟨g, 0, none⟩) (xs ++ [y]).length cap);have hbel : Below w.heap.size w W2 := h1.bel.grown hg h1.bel.size (fun k hk => by have := (hf k hk).1; omega);refine ⟨ko_kept had hgs (by simp only; omega), ko_kept hre hgs (by simp only; omega), ?_, kept_off hm.1 hgs (fun g2 hg2 e => ?_), hbel.grown hgs hbel.size (fun k hk => by cases hk; show w.heap.size <= w.heap.size + 1 + 1; omega), Nat.le_trans (Nat.le_trans h1.sz hg.size) hgs.size⟩
 . unfold World.setCell aO at *
   simp only [Array.getElem?_modify, if_true, hou, Option.map_some];rfl
 . have := (own_far hm.1 g2 hg2).1
   simp at e;omega
theorem Br.fin {W' : World} (h : Br w W va k v xs d ty nm) (e : W' = ((((((W.setCell ⟨w.heap.size + 1, 0, none⟩ v).setCell ⟨w.heap.size + 1, 1, none⟩ (.bool d)).setCell ⟨w.heap.size + 1, 2, none⟩ (.string ⟨ty.toArray⟩)).setCell ⟨w.heap.size + 1, 3, none⟩ (.string ⟨nm.toArray⟩)).setCell ⟨w.heap.size + 1, 4, none⟩ (.int .i64 0)).setCell ⟨w.heap.size + 1, 5, none⟩ (.int .i64 0)).setCell ⟨w.heap.size + 1, 6, none⟩ (.string ⟨#[]⟩)) :
  W'.heap[w.heap.size + 1]? = some (aO v d ty nm (0, 0, [])) /\ OwnM w.heap.size W' v xs /\ Below w.heap.size w W' := by
 obtain ⟨h1, hg⟩ := ao_fin h.re v d ty nm (0, 0, []) W' e;refine ⟨h1, row_le (kept_off h.own hg (fun g hg2 e => ?_)) (by omega), h.bel.grown hg h.bel.size (fun k hk => by cases hk; omega)⟩;have := (h.own.lt g hg2).1;simp at e;omega
end
set_option maxRecDepth 100000 in
set_option maxHeartbeats 8000000 in
theorem rbare_any (r : Option Addr) (c : Nat) (xs : List MS) (d : Bool) (ty nm : List UInt8) (k : KeyT) (w : World) (h : Sl MsR 4 w (.slice r xs.length c) xs) (hn : xs.length <= 1200000) :
  Calls Tryz.prog 65 #[aV (.slice r xs.length c) d ty nm k] w (StaR w xs d ty nm) := by
 have HE := hid (fun (W : World) (hW : Below w.heap.size w W) => ms_at (h.below msR_mono hW));have I0 := hid (Br.start (w := w) (va := .slice r xs.length c) (k := k) (d := d) (ty := ty) (nm := nm));clear h;unfold aO at I0;unfold aV;go_enter Tryz.func65, Tryz.ntmps65;go_wp2
 generalize hW0 : World.alloc _ _ = W0 at *;go_loopw [4] (fun t wr => ∃ (n : Nat) (v : Value), n <= xs.length /\ t = .int .i64 n /\ Hid (Br w wr (.slice r xs.length c) k v ((xs.take n).map barM) d ty nm)) (fun t _ => xs.length - (RowKit.intOf t).toNat)
 case atStart => exact ⟨0, _, Nat.zero_le _, rfl, I0⟩
 case round =>
  clear I0;obtain ⟨n, v, hnn, rfl, HP⟩ := hrel;obtain ⟨a0, _⟩ := ao_cells HP.out.ad
  by_cases hlt : n < xs.length
  . obtain ⟨b, off, rfl, hb, g0, g1, g2, g3⟩ := HE.out wr HP.out.bel n hlt
    have HBD := hid (show Below wr.heap.size wr (wr.drew.alloc (.cells #[.string ⟨(xs[n]).1.toArray⟩, .int .i64 0, .int .i64 0, .string ⟨#[]⟩] 119)) from ((Below.refl _ _).drew).alloc (Nat.le_refl _) _);have HTK := hid (show (xs.take (n + 1)).map barM = (xs.take n).map barM ++ [barM xs[n]] by rw [List.take_succ_eq_append_getElem hlt, List.map_append]; rfl);have HLN := hid (show ((xs.take n).map barM).length + 1 <= 2000000 by rw [List.length_map, List.length_take]; omega);have hbM : barM xs[n] = ((xs[n]).1, (0, 0, [])) := rfl;generalize (xs.take n).map barM = ys at *;rw [hbM] at HTK;clear hbM g1 g2 g3;generalize (xs[n]).1 = s at *;obtain ⟨u0, _, _, _, _, _, _, uf, _⟩ := ao_cells HP.out.ou;have uf0 := uf 0;obtain ⟨ro, co, hv, hc1, hc2⟩ := ownM_form HP.out.own;subst hv;have HD := hid (show Below wr.heap.size wr wr.drew from (Below.refl _ _).drew);have HN := hid (ko_new wr.drew (.cells #[.string ⟨s.toArray⟩, .int .i64 0, .int .i64 0, .string ⟨#[]⟩] 119));have HOW := hid (HP.out.below HBD.out).own;have HSZ := hid (HP.out.below HBD.out).sz;clear uf;go_wp2_with fail
    go_region_law
     (refine step_append_row encM encM_len encM_one Tryz.underlying55 msinfo rfl (by omega) (by omega) (by rfl) _ _ (by rfl) (w.heap.size + 3) (.slice ro ys.length co) ys (by rfl) HOW.out wr.drew.heap.size 1 (s, 0, 0, []) (by rfl) (fr := (0, 0)) (by exact HN.out) HLN.out HSZ.out (wr.drew.heap.size + 1) (by simp) ?_
      intro g cap w5 m1 m2 m3 m4;have HP5 := hid (HP.out.app HBD.out (morem_of m1 m2 m3 m4));rw [show (ys ++ [((s, 0, 0, []) : MS)]).length = ys.length + 1 by simp] at HP5;obtain ⟨⟨q5, f5⟩, _⟩ := HP5.out;clear m1 m2 m3 m4)
    all_goals go_wp2
    all_goals go_roundw
    all_goals first
     | (case measure => simp [RowKit.intOf]; omega)
     | exact ⟨n + 1, _, by omega, by go_num, hid (by rw [HTK.out]; exact HP5.out.2)⟩
     | skip
  . obtain rfl : n = xs.length := by omega
    rw [List.take_length] at HP;unfold StaR;generalize hys : xs.map barM = ys at *;obtain ⟨ro, co, hv, hc1, hc2⟩ := ownM_form HP.out.own;subst hv;obtain ⟨_, a1, a2, a3, a4, a5, a6, _, _⟩ := ao_cells HP.out.ou;obtain ⟨o0, _⟩ := ao_cells HP.out.ou;obtain ⟨e0, e1, e2, e3, e4, e5, e6, ef, _⟩ := ao_cells HP.out.re;have g0 := ef 0;have g1 := ef 1;have g2 := ef 2;have g3 := ef 3;have g4 := ef 4;have g5 := ef 5;have g6 := ef 6;go_wp2
    obtain ⟨hb, ho, hbel⟩ := HP.out.fin rfl;obtain ⟨k0, k1, k2, k3, k4, k5, k6, _, _⟩ := ao_cells hb;exact bodyPost_ret (v := aV (.slice ro ys.length co) d ty nm (0, 0, [])) (by simp [results, Tryz.results65, go_sem, k0, k1, k2, k3, k4, k5, k6, aV]) rfl ⟨_, rfl, by subst hys; exact ho, hbel⟩
end Go.Proofs.YtpnogmicfomofaaGreatDoor.Adr
namespace Go.Proofs.YtpnogmicfomofaaGreatDoor.Adr
open Go.RowKit Go.Sort Go.Lib Go.Maps
open Go.Lib (hid)
set_option maxHeartbeats 4000000 in
theorem rstatic_any (s : ByteArray) (w : World) (hs : s.size <= 1200001) : Calls Tryz.prog 37 #[.string s] w fun e w' => e = .returned (.tuple #[.string ⟨(stcB s.data.toList).toArray⟩, .int .i64 (prE s.data.toList)]) /\ Below w.heap.size w w' := by
 have HC := hid (rparse_any s w hs);unfold RPaP at HC
 by_cases h0 : prE s.data.toList = 0
 . obtain ⟨xs, d, ty, nm, k, hA⟩ := addr_of h0
   have hB := hA.bare;have HPR := hid hA.pr;rw [stcB_ok hA h0];rw [h0] at HC ⊢;have hl : xs.length <= 1200000 := by have := hA.len; omega
   have HST := hid (fun (r : Option Addr) (c : Nat) (W : World) (h : Sl MsR 4 W (.slice r xs.length c) xs) => show Calls Tryz.prog 65 #[aV (.slice r xs.length c) d ty nm k] W (fun e w' => ∃ v', e = .returned (aV v' d ty nm (0, 0, [])) /\ OwnM W.heap.size w' v' (xs.map barM) /\ Below W.heap.size W w') from rbare_any r c xs d ty nm k W h hl);have HF := hid (fun (r : Option Addr) (c : Nat) (W : World) (h : Sl MsR 4 W (.slice r (xs.map barM).length c) (xs.map barM)) => rformat0 r c (xs.map barM) d ty nm W h hB hA.ty hA.nm);clear hs hA hB h0 hl;generalize xs.map barM = ys at *;go_enter Tryz.func37, Tryz.ntmps37;unfold aV at *
   go_wp2_with (first
    | (go_at_call 25
       refine HC.out.mono ?_;rintro e w1 ⟨v1, xs1, d1, ty1, nm1, k1, rfl, ho1, hb1, hp1⟩;have hp2 := hp1 rfl;rw [HPR.out] at hp2;obtain ⟨rfl, rfl, rfl, rfl, rfl⟩ : xs = xs1 /\ d = d1 /\ ty = ty1 /\ nm = nm1 /\ k = k1 := by simpa using hp2
       clear hp1 hp2;obtain ⟨r1, c1, rfl, _, _⟩ := own_form ho1;have HO1 := hid ho1;have HB1 := hid hb1;clear ho1 hb1)
    | (go_at_call 65
       refine (HST.out _ _ _ (OwnM.sl (by exact kept_off HO1.out (grown_below ((Below.refl _ _).alloc (Nat.le_refl _) _)) (fun _ _ e => by cases e)))).mono ?_;rintro e w2 ⟨v2, rfl, ho2, hb2⟩;obtain ⟨r2, c2, rfl, _, _⟩ := own_form ho2;have HO2 := hid (OwnM.sl ho2);have HB2 := hid hb2;clear ho2 hb2)
    | (go_at_call 64
       refine (HF.out _ _ _ HO2.out).mono ?_;rintro e w3 ⟨rfl, hb3⟩;have HB3 := hid hb3;clear hb3))
   go_ret2
   have h12 := HB1.out.trans ((((Below.refl _ _).alloc (Nat.le_refl _) _).trans (HB2.out.mono (by simp))).mono HB1.out.size);exact ⟨rfl, h12.trans (HB3.out.mono h12.size)⟩
 . rw [show stcB s.data.toList = [] by unfold stcB; rw [if_neg h0]]
   have hn : (prE s.data.toList != 0) = true := by simp [h0]
   clear h0 hs;generalize prE s.data.toList = E at *;go_enter Tryz.func37, Tryz.ntmps37;go_wp2_with (go_at_call 25; refine HC.out.mono ?_; rintro e w1 ⟨v1, xs1, d1, ty1, nm1, k1, rfl, ho1, hb1, hp1⟩; have HB1 := hid hb1; obtain ⟨r1, c1, rfl, _, _⟩ := own_form ho1; clear hb1 hp1 ho1)
   go_ret2
   exact ⟨rfl, HB1.out.trans (((Below.refl _ _).alloc (Nat.le_refl _) _).mono HB1.out.size)⟩
end Go.Proofs.YtpnogmicfomofaaGreatDoor.Adr
namespace Go.Proofs.YtpnogmicfomofaaGreatDoor.Stp
open Go.RowKit Go.Sort Go.Lib Go.Maps
open Go.Lib (hid)
attribute [local go_sem] frUpon
def lightB (cs : List Ch) : Bool := decide (cs.length <= 60) && cs.all fun c => decide (c.addr.size <= 500) && decide (c.deps.length <= 60) && decide (c.old.length <= 60)
theorem lightB_no {cs : List Ch} {k : Nat} (hk : k < cs.length) (h : ¬ ((cs[k]).addr.size <= 500 /\ (cs[k]).deps.length <= 60 /\ (cs[k]).old.length <= 60)) : lightB cs = false := by
 unfold lightB;rw [Bool.and_eq_false_iff];exact Or.inr (List.all_eq_false.2 ⟨_, List.getElem_mem hk, by simpa [and_assoc] using h⟩)
theorem lightB_big {cs : List Ch} (h : 60 < cs.length) : lightB cs = false := by
 unfold lightB;rw [Bool.and_eq_false_iff];exact Or.inl (decide_eq_false (by omega))
theorem lightB_ok {cs : List Ch} (h : cs.length <= 60) (ha : ∀ j (hj : j < cs.length), (cs[j]).addr.size <= 500 /\ (cs[j]).deps.length <= 60 /\ (cs[j]).old.length <= 60) : lightB cs = true := by
 unfold lightB;rw [Bool.and_eq_true];refine ⟨decide_eq_true h, List.all_eq_true.2 fun s hs => ?_⟩;obtain ⟨j, hj, rfl⟩ := List.mem_iff_getElem.1 hs;simpa [and_assoc] using ha j hj
theorem lightB_bd {cs : List Ch} (h : lightB cs = true) : cs.length <= 60 /\ ∀ c ∈ cs, c.addr.size <= 500 /\ c.deps.length <= 60 /\ c.old.length <= 60 := by
 unfold lightB at h;rw [Bool.and_eq_true, List.all_eq_true] at h;exact ⟨of_decide_eq_true h.1, fun s hs => by simpa [and_assoc] using h.2 s hs⟩
set_option maxRecDepth 100000 in
set_option maxHeartbeats 8000000 in
theorem light_any (v : Value) (cs : List Ch) (w : World) (hS : Sl ChR 22 w v cs) :
  Calls Tryz.prog 18 #[v] w fun e w' => e = .returned (.bool (lightB cs)) /\ w' = w := by
 obtain ⟨r, c, rfl, _⟩ := id hS;obtain ⟨_, hl, hm⟩ := sl_len hS;have HE := hid (ch_at hS);clear hS;go_enter Tryz.func18, Tryz.ntmps18;go_wp2
 go_loop [3] (fun i => ∃ k : Nat, k <= cs.length /\ k <= 61 /\ i = .int .i64 k /\ Hid (∀ j (hj : j < cs.length), j < k -> (cs[j]).addr.size <= 500 /\ (cs[j]).deps.length <= 60 /\ (cs[j]).old.length <= 60)) (fun i => 61 - (RowKit.intOf i).toNat)
 case atStart => exact ⟨0, by omega, by omega, rfl, hid (fun j hj h => absurd h (by omega))⟩
 case round =>
  obtain ⟨k, hk, hk1, rfl, HA⟩ := hrel
  by_cases hlt : k < cs.length
  . by_cases hle : k <= 60
    . obtain ⟨b, off, x, rfl, hb, hcell, hx⟩ := HE.out k hlt
      have g0 : w.cell? ⟨b, off + k * 22, none⟩ = some (.string x.ad) := hcell 0 _ rfl;have g20 := hcell 20 _ rfl;have g21 := hcell 21 _ rfl;obtain ⟨_, hd1, hd2⟩ := sl_len hx.2.2.2.2.1;obtain ⟨_, ho1, ho2⟩ := sl_len hx.2.2.2.2.2;obtain ⟨hxa, _, _, _, hxd, hxo⟩ := hx;obtain ⟨_, _, hve, _⟩ := hxd;obtain ⟨_, _, hvo, _⟩ := hxo;simp at hve hvo;obtain ⟨_, hve, _⟩ := hve;obtain ⟨_, hvo, _⟩ := hvo;rw [hxa] at g0;rw [hve] at g20;rw [hvo] at g21;have HN := hid (fun h => lightB_no hlt h)
      have HX := hid (fun (h : (cs[k]).addr.size <= 500 /\ (cs[k]).deps.length <= 60 /\ (cs[k]).old.length <= 60) => show ∀ j (hj : j < cs.length), j < k + 1 -> (cs[j]).addr.size <= 500 /\ (cs[j]).deps.length <= 60 /\ (cs[j]).old.length <= 60 from fun j hj hjk => by
       by_cases e : j < k
       . exact HA.out j hj e
       . obtain rfl : j = k := by omega
         exact h)
      have k2 : (0 : Int) <= (k : Int) := by omega
      have k3 : (k : Int) < (cs.length : Int) := by omega
      have k4 : (k : Int) <= 60 := by omega
      clear hcell hxa hve hvo;generalize cs[k] = s at *
      by_cases h1 : s.addr.size <= 500
      . have f1 : ¬ (500 : Int) < (s.addr.size : Int) := by omega
        by_cases h2 : s.deps.length <= 60
        . have f2 : ¬ (60 : Int) < (s.deps.length : Int) := by omega
          by_cases h3 : s.old.length <= 60
          . have f3 : ¬ (60 : Int) < (s.old.length : Int) := by omega
            have HX2 := hid (HX.out ⟨h1, h2, h3⟩);clear HX HN;go_wp2
            go_round
            case rel => exact ⟨k + 1, by omega, by omega, by go_num, HX2⟩
            case measure => simp [RowKit.intOf]; omega
          . have HR := hid (HN.out (fun h => h3 h.2.2))
            have f3 : (60 : Int) < (s.old.length : Int) := by omega
            clear HX HN h3;go_wp2
            go_ret
            exact ⟨ret_bool HR.out, rfl⟩
        . have HR := hid (HN.out (fun h => h2 h.2.1))
          have f2 : (60 : Int) < (s.deps.length : Int) := by omega
          clear HX HN h2;go_wp2
          go_ret
          exact ⟨ret_bool HR.out, rfl⟩
      . have HR := hid (HN.out (fun h => h1 h.1))
        have f1 : (500 : Int) < (s.addr.size : Int) := by omega
        clear HX HN h1;go_wp2
        go_ret
        exact ⟨ret_bool HR.out, rfl⟩
    . have HR := hid (lightB_big (cs := cs) (by omega))
      have h1 : ¬ (k : Int) <= 60 := by omega
      have h2 : ¬ (cs.length : Int) <= 60 := by omega
      have k3 : (k : Int) < (cs.length : Int) := by omega
      go_wp2
      go_ret
      exact ⟨ret_bool HR.out, rfl⟩
  . obtain rfl : k = cs.length := by omega
    by_cases hle : cs.length <= 60
    . have HR := hid (lightB_ok hle fun j hj => HA.out j hj hj)
      have h2 : (cs.length : Int) <= 60 := by omega
      go_wp2
      go_ret
      exact ⟨ret_bool HR.out, rfl⟩
    . have HR := hid (lightB_big (cs := cs) (by omega))
      have h2 : ¬ (cs.length : Int) <= 60 := by omega
      go_wp2
      go_ret
      exact ⟨ret_bool HR.out, rfl⟩
end Go.Proofs.YtpnogmicfomofaaGreatDoor.Stp
namespace Go.Proofs.YtpnogmicfomofaaGreatDoor.Stp
open Go.RowKit Go.Sort Go.Lib Go.Maps
open Go.Lib (hid)
end Go.Proofs.YtpnogmicfomofaaGreatDoor.Stp
