import Derived.Test.YtpnogmicfomofaaGreatDoorZn
import Derived.Deep.RegionHeld3
import Derived.Deep.RegionLaw
/-
  Addresses without keys: the program's Format. Conditions: those ahead of each theorem.
-/
namespace Go.Proofs.YtpnogmicfomofaaGreatDoor.Adr
open Go.RowKit Go.Sort Go.Lib Go.Maps
open Go.Lib (hid)
set_option linter.unusedVariables false
set_option linter.unusedSimpArgs false

def stpB (x : MS) : List UInt8 := MODP ++ x.1 ++ [46]
/-- The text of an address without keys. -/
def fmtB (xs : List MS) (d : Bool) (ty nm : List UInt8) : List UInt8 := xs.flatMap stpB ++ (if d = true then DATP else []) ++ (ty ++ [46] ++ nm)
theorem pre_len {xs : List MS} (h : ∀ x ∈ xs, idB x.1 = true) : (xs.flatMap stpB).length ≤ xs.length * 72 := by
  induction xs with
  | nil => simp
  | cons x xs ih =>
    have h1 := id_len (h x (by simp))
    have h2 := ih (fun y hy => h y (by simp [hy]))
    rw [List.flatMap_cons, List.length_append, List.length_cons]
    have : (stpB x).length ≤ 72 := by unfold stpB MODP; simp; omega
    omega
theorem cat_mod (s : List UInt8) (h : s.length ≤ 64) (W : World) : (Op.stringOp .add ⟨#[109, 111, 100, 117, 108, 101, 46]⟩ ⟨s.toArray⟩).run Tryz.prog W = .ok (.string ⟨(MODP ++ s).toArray⟩) W := cat_run W MODP s (by unfold MODP; simp; omega)
theorem cat_nil (p : List UInt8) (h : p.length ≤ 100000) (W : World) : (Op.stringOp .add ⟨p.toArray⟩ ⟨#[]⟩).run Tryz.prog W = .ok (.string ⟨p.toArray⟩) W := by
  have := cat_run W p [] (by simp; omega)
  rw [List.append_nil] at this
  exact this
theorem cat_dot (p : List UInt8) (h : p.length ≤ 100000) (W : World) : (Op.stringOp .add ⟨p.toArray⟩ ⟨#[46]⟩).run Tryz.prog W = .ok (.string ⟨(p ++ [46]).toArray⟩) W := cat_run W p [46] (by simp; omega)
set_option maxHeartbeats 8000000 in
theorem format0 (r : Option Addr) (c : Nat) (xs : List MS) (d : Bool) (ty nm : List UInt8) (w : World) (h : Sl MsR 4 w (.slice r xs.length c) xs) (hx : Bare xs) (hty : kdB ty = true) (hnm : idB nm = true) :
    Calls Tryz.prog 86 #[aV (.slice r xs.length c) d ty nm (0, 0, [])] w fun e w' => e = .returned (.string ⟨(fmtB xs d ty nm).toArray⟩) ∧ Below w.heap.size w w' := by
  obtain ⟨_, hl, hm⟩ := sl_len h
  have h16 := hx.1
  have HE := hid (fun (W : World) (hW : Below w.heap.size w W) => ms_at (h.below msR_mono hW))
  have HX := hid hx.2
  have HC := hid (fun (W : World) (hW : Below w.heap.size w W) => check0 r c xs d ty nm W (h.below msR_mono hW) hx hty hnm)
  have HF := hid (fun W => fkey0 W)
  have hty2 : ty.length ≤ 64 := by
    have h1 : (idB ty && !rsv ty) = true := hty
    rw [Bool.and_eq_true] at h1
    exact id_len h1.1
  have hnm2 := id_len hnm
  have HP := hid (fun k => pre_len (xs := xs.take k) (fun x hx2 => (hx.2 x (List.mem_of_mem_take hx2)).1))
  have HB0 := hid (show Below w.heap.size w (w.alloc (.cells #[.slice r xs.length c, .bool d, .string ⟨ty.toArray⟩, .string ⟨nm.toArray⟩, .int .i64 0, .int .i64 0, .string ⟨#[]⟩] 60)) from (Below.refl _ _).alloc (Nat.le_refl _) _)
  have HZ := hid (fun (W : World) (hb : Below (w.alloc (.cells #[.slice r xs.length c, .bool d, .string ⟨ty.toArray⟩, .string ⟨nm.toArray⟩, .int .i64 0, .int .i64 0, .string ⟨#[]⟩] 60)).heap.size (w.alloc (.cells #[.slice r xs.length c, .bool d, .string ⟨ty.toArray⟩, .string ⟨nm.toArray⟩, .int .i64 0, .int .i64 0, .string ⟨#[]⟩] 60)) W) => show (W.cell? ⟨w.heap.size, 0, none⟩ = some (.slice r xs.length c) ∧ W.cell? ⟨w.heap.size, 1, none⟩ = some (.bool d) ∧ W.cell? ⟨w.heap.size, 2, none⟩ = some (.string ⟨ty.toArray⟩) ∧ W.cell? ⟨w.heap.size, 3, none⟩ = some (.string ⟨nm.toArray⟩) ∧ W.cell? ⟨w.heap.size, 4, none⟩ = some (.int .i64 0) ∧ W.cell? ⟨w.heap.size, 5, none⟩ = some (.int .i64 0) ∧ W.cell? ⟨w.heap.size, 6, none⟩ = some (.string ⟨#[]⟩)) ∧ w.heap.size < W.heap.size from by
    obtain ⟨z0, z1, z2, z3, z4, z5, z6, _⟩ := ao_cells (v := .slice r xs.length c) (d := d) (ty := ty) (nm := nm) (k := (0, 0, [])) (ko_new w (.cells #[.slice r xs.length c, .bool d, .string ⟨ty.toArray⟩, .string ⟨nm.toArray⟩, .int .i64 0, .int .i64 0, .string ⟨#[]⟩] 60))
    exact ⟨⟨bget hb z0, bget hb z1, bget hb z2, bget hb z3, bget hb z4, bget hb z5, bget hb z6⟩, by have := hb.size; simp at this; omega⟩)
  clear h hx hty hnm
  unfold aV at *
  unfold k0V at HF
  go_enter Tryz.func86, Tryz.ntmps86
  go_wp2_with (go_at_call 126; refine (HC.out _ HB0.out).mono ?_; rintro e w1 ⟨rfl, hb1⟩; have HB1 := hid (HB0.out.trans (hb1.mono HB0.out.size)); obtain ⟨⟨q0, q1, q2, q3, q4, q5, q6⟩, hlt1⟩ := HZ.out _ hb1; clear hb1 HZ)
  have HBN := hid (bl_new w1 w1.heap.size (Nat.le_refl _))
  have HBA := hid (show Below w1.heap.size w1 (w1.alloc (.cells #[.pointer none, .slice none 0 0] 174)) from (Below.refl _ _).alloc (Nat.le_refl _) _)
  have HQ := hid (And.intro q1 (And.intro q2 (And.intro q3 (And.intro q4 (And.intro q5 q6)))))
  clear q0 q1 q2 q3 q4 q5 q6
  generalize w1.alloc (.cells #[.pointer none, .slice none 0 0] 174) = wA at *
  go_loopw [12] (fun t wr => ∃ k : Nat, k ≤ xs.length ∧ t = .int .i64 k ∧ Hid (BL w1.heap.size w1.heap.size ((xs.take k).flatMap stpB) wr) ∧ Hid (Below w1.heap.size w1 wr)) (fun t _ => xs.length - (RowKit.intOf t).toNat)
  case atStart => exact ⟨0, Nat.zero_le _, rfl, hid (by simpa using HBN.out), HBA⟩
  case round =>
    clear HBN HBA
    obtain ⟨k, hk, rfl, HL, HW⟩ := hrel
    by_cases hlt : k < xs.length
    · obtain ⟨b, off, rfl, hb, g0, g1, g2, g3⟩ := HE.out wr (HB1.out.trans (HW.out.mono HB1.out.size)) k hlt
      have HTK := hid (show (xs.take (k + 1)).flatMap stpB = (xs.take k).flatMap stpB ++ (MODP ++ xs[k].1 ++ [46]) by rw [List.take_succ_eq_append_getElem hlt, List.flatMap_append]; simp [stpB])
      have hp := HP.out k
      obtain ⟨j1, j2⟩ := HX.out xs[k] (List.getElem_mem hlt)
      have hs := id_len j1
      rw [j2] at g1 g2 g3
      clear j1 j2
      generalize xs[k].1 = s at *
      have HPL := hid (show ((xs.take k).flatMap stpB).length ≤ 1000000000 by rw [List.length_take] at hp; omega)
      clear hp
      have hm1 := cat_mod s hs
      have hp1 : (MODP ++ s).length ≤ 100 := by unfold MODP; simp; omega
      generalize hpe : MODP ++ s = p1 at *
      have hn1 := cat_nil p1 (by omega)
      have hd1 := cat_dot p1 (by omega)
      have hp2 : (p1 ++ [46]).length ≤ 101 := by rw [List.length_append]; simp; omega
      generalize p1 ++ [46] = p2 at *
      have HP2 := hid (show (⟨p2.toArray⟩ : ByteArray).size ≤ 1000000000 by rw [arr_size]; omega)
      clear hpe hp1 hp2 hs hl hm hty2 hnm2
      have HBS := hid (show Below wr.heap.size wr ((wr.alloc (.cells #[.string ⟨s.toArray⟩, .int .i64 0, .int .i64 0, .string ⟨#[]⟩] 119)).drew) from below_alloc_drew _ _)
      have HLD := hid (bl_kept HL.out HBS.out)
      go_wp2_with fail
      go_region_law
        (first
        | (go_simp
           go_at_call 128
           refine (HF.out _).mono ?_
           rintro e w3 ⟨rfl, hb3⟩
           obtain ⟨hc3, hf3⟩ := bcellB hb3
           have HL3 := hid (bl_kept HLD.out hb3)
           have HB3 := hid (HBS.out.trans (hb3.mono HBS.out.size))
           clear hb3)
        | (go_simp
           go_at_call 127
           refine (bstr_b w1.heap.size w1.heap.size _ _ _ HL3.out HPL.out HP2.out (Nat.le_trans HW.out.size HB3.out.size)).mono ?_
           rintro e w4 ⟨rfl, hl4, hb4⟩
           have HL4 := hid hl4
           have HB4 := hid hb4
           clear hb4 hl4))
      all_goals go_wp2
      all_goals go_roundw
      all_goals first
        | (case measure => simp [RowKit.intOf]; omega)
        | exact ⟨k + 1, by omega, by go_num, hid (by rw [HTK.out]; exact HL4.out), hid (HW.out.trans ((HB3.out.mono HW.out.size).trans HB4.out))⟩
        | skip
    · obtain rfl : k = xs.length := by omega
      rw [List.take_length] at HL
      have hp := HP.out xs.length
      rw [List.take_length] at hp
      have hdt := cat_dot ty (by omega)
      have hdn := fun W => cat_run W (ty ++ [46]) nm (by rw [List.length_append]; simp; omega)
      have hl1 : (ty ++ [46] ++ nm).length ≤ 129 := by rw [List.length_append, List.length_append]; simp; omega
      have hnn := cat_nil (ty ++ [46] ++ nm) (by omega)
      have HFM := hid (show fmtB xs d ty nm = xs.flatMap stpB ++ (if d = true then DATP else []) ++ (ty ++ [46] ++ nm) from rfl)
      generalize xs.flatMap stpB = P at *
      generalize ty ++ [46] ++ nm = p2 at *
      generalize ty ++ [46] = p1 at *
      have HP2 := hid (show (⟨p2.toArray⟩ : ByteArray).size ≤ 1000000000 by rw [arr_size]; omega)
      have HPL := hid (show P.length ≤ 2000 by omega)
      clear hl1 hp hty2 hnm2 hl hm hlt
      obtain ⟨q1, q2, q3, q4, q5, q6⟩ := HQ.out
      have bg : ∀ (o : Nat) (v : Value) (A B : World), Below w1.heap.size A B → A.cell? ⟨w.heap.size, o, none⟩ = some v → B.cell? ⟨w.heap.size, o, none⟩ = some v := fun _ _ _ _ hb h => (hb.cell (p := ⟨w.heap.size, _, none⟩) hlt1).trans h
      have HBG := hid bg
      clear bg
      have r1 := HBG.out _ _ _ _ HW.out q1
      have r2 := HBG.out _ _ _ _ HW.out q2
      have r3 := HBG.out _ _ _ _ HW.out q3
      have r4 := HBG.out _ _ _ _ HW.out q4
      have r5 := HBG.out _ _ _ _ HW.out q5
      have r6 := HBG.out _ _ _ _ HW.out q6
      clear q1 q2 q3 q4 q5 q6 HQ
      have HST := hid (fun (l : List UInt8) (W : World) (h : BL w1.heap.size w1.heap.size l W) (hW : w1.heap.size ≤ W.heap.size) => Tryz.Builder_String_any w1.heap.size w1.heap.size l W h hW)
      cases d
      case false =>
        have HPF := hid (show P.length ≤ 1000000000 by have := HPL.out; omega)
        go_wp2_with fail
        have HD := hid (show Below wr.heap.size wr wr.drew from (Below.refl _ _).drew)
        have HLD := hid (bl_kept HL.out HD.out)
        have HS0 := hid (show wr.drew.cell? ⟨w.heap.size, 2, none⟩ = some (.string ⟨ty.toArray⟩) ∧ wr.drew.cell? ⟨w.heap.size, 3, none⟩ = some (.string ⟨nm.toArray⟩) ∧ wr.drew.cell? ⟨w.heap.size, 4, none⟩ = some (.int .i64 0) ∧ wr.drew.cell? ⟨w.heap.size, 5, none⟩ = some (.int .i64 0) ∧ wr.drew.cell? ⟨w.heap.size, 6, none⟩ = some (.string ⟨#[]⟩) from ⟨bget HD.out r2, bget HD.out r3, bget HD.out r4, bget HD.out r5, bget HD.out r6⟩)
        clear r1 r2 r3 r4 r5 r6
        go_region_held3 (fun w' => w'.cell? ⟨w.heap.size, 2, none⟩ = some (.string ⟨ty.toArray⟩) ∧ w'.cell? ⟨w.heap.size, 3, none⟩ = some (.string ⟨nm.toArray⟩) ∧ w'.cell? ⟨w.heap.size, 4, none⟩ = some (.int .i64 0) ∧ w'.cell? ⟨w.heap.size, 5, none⟩ = some (.int .i64 0) ∧ w'.cell? ⟨w.heap.size, 6, none⟩ = some (.string ⟨#[]⟩)) (first | exact HS0.out | exact HS3.out | exact HS4.out)
          ((first
            | (go_at_call 128
               refine (HF.out _).mono ?_
               rintro e w3 ⟨rfl, hb3⟩
               have HL3 := hid (bl_kept HLD.out hb3)
               have HB3 := hid (HD.out.trans (hb3.mono HD.out.size))
               obtain ⟨s2, s3, s4, s5, s6⟩ := HS0.out
               have HS3 := hid (And.intro (bget hb3 s2) (And.intro (bget hb3 s3) (And.intro (bget hb3 s4) (And.intro (bget hb3 s5) (bget hb3 s6)))))
               clear hb3 s2 s3 s4 s5 s6)
            | (go_at_call 127
               refine (bstr_b w1.heap.size w1.heap.size _ _ _ HL3.out HPF.out HP2.out (Nat.le_trans HW.out.size HB3.out.size)).mono ?_
               rintro e w4 ⟨rfl, hl4, hb4⟩
               have HL4 := hid hl4
               have HB4 := hid hb4
               obtain ⟨s2, s3, s4, s5, s6⟩ := HS3.out
               have HS4 := hid (And.intro (HBG.out _ _ _ _ hb4 s2) (And.intro (HBG.out _ _ _ _ hb4 s3) (And.intro (HBG.out _ _ _ _ hb4 s4) (And.intro (HBG.out _ _ _ _ hb4 s5) (HBG.out _ _ _ _ hb4 s6)))))
               clear hb4 hl4 s2 s3 s4 s5 s6)))
        go_wp2_with (go_at_call 129; refine (HST.out _ _ HL4.out (Nat.le_trans (Nat.le_trans HW.out.size HB3.out.size) HB4.out.size)).mono ?_; rintro e w5 ⟨rfl, hb5⟩; have HB5 := hid hb5; clear hb5)
        go_ret
        have HBB := HW.out.trans ((HB3.out.mono HW.out.size).trans HB4.out)
        exact ⟨ret_str (by rw [HFM.out]; simp), HB1.out.trans ((HBB.trans HB5.out).mono HB1.out.size)⟩
      case true =>
        have HPF := hid (show P.length ≤ 1000000000 by have := HPL.out; omega)
        have HPG := hid (show (P ++ DATP).length ≤ 1000000000 by have := HPL.out; rw [List.length_append]; unfold DATP; simp; omega)
        go_wp2_with (go_at_call 127; refine (bstr_b w1.heap.size w1.heap.size P ⟨#[100, 97, 116, 97, 46]⟩ _ HL.out HPF.out (by show 5 ≤ 1000000000; omega) HW.out.size).mono ?_; rintro e w2 ⟨rfl, hl2, hb2⟩; have HL2 := hid (show BL w1.heap.size w1.heap.size (P ++ DATP) w2 from hl2); have HW2 := hid (HW.out.trans hb2); have t1 := HBG.out _ _ _ _ hb2 r1; have t2 := HBG.out _ _ _ _ hb2 r2; have t3 := HBG.out _ _ _ _ hb2 r3; have t4 := HBG.out _ _ _ _ hb2 r4; have t5 := HBG.out _ _ _ _ hb2 r5; have t6 := HBG.out _ _ _ _ hb2 r6; clear hb2 hl2 r1 r2 r3 r4 r5 r6)
        have HD := hid (show Below w2.heap.size w2 w2.drew from (Below.refl _ _).drew)
        have HLD := hid (bl_kept HL2.out HD.out)
        have HS0 := hid (show w2.drew.cell? ⟨w.heap.size, 2, none⟩ = some (.string ⟨ty.toArray⟩) ∧ w2.drew.cell? ⟨w.heap.size, 3, none⟩ = some (.string ⟨nm.toArray⟩) ∧ w2.drew.cell? ⟨w.heap.size, 4, none⟩ = some (.int .i64 0) ∧ w2.drew.cell? ⟨w.heap.size, 5, none⟩ = some (.int .i64 0) ∧ w2.drew.cell? ⟨w.heap.size, 6, none⟩ = some (.string ⟨#[]⟩) from ⟨bget HD.out t2, bget HD.out t3, bget HD.out t4, bget HD.out t5, bget HD.out t6⟩)
        clear t1 t2 t3 t4 t5 t6
        go_region_held3 (fun w' => w'.cell? ⟨w.heap.size, 2, none⟩ = some (.string ⟨ty.toArray⟩) ∧ w'.cell? ⟨w.heap.size, 3, none⟩ = some (.string ⟨nm.toArray⟩) ∧ w'.cell? ⟨w.heap.size, 4, none⟩ = some (.int .i64 0) ∧ w'.cell? ⟨w.heap.size, 5, none⟩ = some (.int .i64 0) ∧ w'.cell? ⟨w.heap.size, 6, none⟩ = some (.string ⟨#[]⟩)) (first | exact HS0.out | exact HS3.out | exact HS4.out)
          ((first
            | (go_at_call 128
               refine (HF.out _).mono ?_
               rintro e w3 ⟨rfl, hb3⟩
               have HL3 := hid (bl_kept HLD.out hb3)
               have HB3 := hid (HD.out.trans (hb3.mono HD.out.size))
               obtain ⟨s2, s3, s4, s5, s6⟩ := HS0.out
               have HS3 := hid (And.intro (bget hb3 s2) (And.intro (bget hb3 s3) (And.intro (bget hb3 s4) (And.intro (bget hb3 s5) (bget hb3 s6)))))
               clear hb3 s2 s3 s4 s5 s6)
            | (go_at_call 127
               refine (bstr_b w1.heap.size w1.heap.size _ _ _ HL3.out HPG.out HP2.out (Nat.le_trans HW2.out.size HB3.out.size)).mono ?_
               rintro e w4 ⟨rfl, hl4, hb4⟩
               have HL4 := hid hl4
               have HB4 := hid hb4
               obtain ⟨s2, s3, s4, s5, s6⟩ := HS3.out
               have HS4 := hid (And.intro (HBG.out _ _ _ _ hb4 s2) (And.intro (HBG.out _ _ _ _ hb4 s3) (And.intro (HBG.out _ _ _ _ hb4 s4) (And.intro (HBG.out _ _ _ _ hb4 s5) (HBG.out _ _ _ _ hb4 s6)))))
               clear hb4 hl4 s2 s3 s4 s5 s6)))
        go_wp2_with (go_at_call 129; refine (HST.out _ _ HL4.out (Nat.le_trans (Nat.le_trans HW2.out.size HB3.out.size) HB4.out.size)).mono ?_; rintro e w5 ⟨rfl, hb5⟩; have HB5 := hid hb5; clear hb5)
        go_ret
        have HBB := HW2.out.trans ((HB3.out.mono HW2.out.size).trans HB4.out)
        exact ⟨ret_str (by rw [HFM.out]; simp), HB1.out.trans ((HBB.trans HB5.out).mono HB1.out.size)⟩
end Go.Proofs.YtpnogmicfomofaaGreatDoor.Adr
