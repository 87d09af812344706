import Derived.Test.YtedpdpcibkceeaaDoorSmall
import Derived.Test.YtedpdpcibkceeaaDoorRchk
/-
  Contract of the law's own 'valid'. Conditions: those ahead of the theorem.
-/
namespace Go.Proofs.YtedpdpcibkceeaaDoor
open Go.RowKit Go.Sort Go.Lib
open Go.Lib (hid)
set_option linter.unusedVariables false
set_option linter.unusedSimpArgs false

def okV (x : Val) : Bool := smallB x 400 && decide (checkV vU x = 0)
theorem all_take_snoc (is : List Val) (k : Nat) (hk : k < is.length) (h : (is.take k).all okV = true) (h' : okV is[k] = true) : (is.take (k + 1)).all okV = true := by
  rw [List.take_succ_eq_append_getElem hk, List.all_append, h]
  simp [h']

set_option maxRecDepth 100000 in
theorem valid_any (is : List Val) (r : Option Addr) (c : Nat) (w : World) (hI : Sl VR 5 w (.slice r is.length c) is) :
    Calls Tryd.prog 14 #[.slice r is.length c] w fun e w' => e = .returned (.bool (is.all okV)) ∧ Below w.heap.size w w' := by
  obtain ⟨_, hlc, hcm⟩ := sl_len hI
  have HI := hid hI
  clear hI
  have B0 := hid (Below.refl w.heap.size w)
  have HALL := hid (show (is.take is.length).all okV = true → is.all okV = true from fun h => by rwa [List.take_length] at h)
  have HNO := hid (show ∀ (k : Nat) (h : k < is.length), okV is[k] = false → is.all okV = false from fun k h hf => by
    rw [List.all_eq_false]
    exact ⟨is[k], List.getElem_mem h, by simp [hf]⟩)
  generalize is.all okV = res at *
  go_enter Tryd.func14, Tryd.ntmps14
  go_wp2
  go_loopg [3] is.length (fun gg s3 wr => ∃ k : Nat, k ≤ is.length ∧ is.length - k ≤ gg ∧ s3 = .int .i64 k ∧ Aside ((is.take k).all okV = true) ∧ Aside (Below w.heap.size w wr))
  case atStart => exact ⟨0, Nat.zero_le _, by omega, rfl, by simp [Aside], Below.refl _ _⟩
  case round =>
    obtain ⟨k, hk, hg, rfl, HK, BW⟩ := hrel
    by_cases hlt : k < is.length
    · have hltz : (k : Int) < (is.length : Int) := by omega
      obtain ⟨b, off, ri, ci, rk', ck', rfl, hb, g0, g1, g2, g3, g4, h5⟩ := val_at (slv_mono HI.out BW.out) k hlt
      have C1 := rsmall_any is[k] 400 ri ci rk' ck' wr h5 (by omega)
      rw [show (((400 : Nat) : Int)) = 400 from rfl] at C1
      have C1 := hid C1
      have C2 := hid (fun (W : World) (hW : Below wr.heap.size wr W) => rCheck_any is[k] ri ci rk' ck' W (h5.below hW))
      have HT := hid (fun h => all_take_snoc is k hlt HK.out h)
      have HF := hid (HNO.out k hlt)
      unfold okV at HT HF
      generalize smallB is[k] 400 = sm at *
      generalize checkV vU is[k] = cv at *
      clear h5
      generalize is[k] = y at *
      obtain ⟨yk, yn, ys, yi, yks⟩ := y
      simp only [Val.kind, Val.num, Val.str, Val.items, Val.keys] at g0 g1 g2 g3 g4 C1 C2
      go_wp2_with fail
      refine C1.out.mono ?_
      rintro e w1 ⟨rfl, hb1⟩
      have B1 := hid (BW.out.trans (hb1.mono BW.out.size))
      have BB1 := hid hb1
      have g0' := bget hb1 g0
      have g1' := bget hb1 g1
      have g2' := bget hb1 g2
      have g3' := bget hb1 g3
      have g4' := bget hb1 g4
      clear hb1 g0 g1 g2 g3 g4
      cases sm with
      | false =>
        have HR := hid (HF.out rfl)
        clear HF HT
        go_wp2
        go_ret
        exact ⟨ret_bool HR.out, B1.out⟩
      | true =>
        go_wp2_with fail
        refine (C2.out w1 BB1.out).mono ?_
        rintro e w2 ⟨rfl, hb2⟩
        have B2 := hid (B1.out.trans (hb2.mono B1.out.size))
        clear hb2 g0' g1' g2' g3' g4'
        by_cases hcv : cv = 0
        · have HT2 := hid (HT.out (by simp [hcv]))
          subst hcv
          clear HF HT
          go_wp2
          go_roundg (is.length - (k + 1))
          case measure => omega
          case rel => exact ⟨k + 1, by omega, by omega, by go_num, HT2.out, B2.out⟩
        · have HR := hid (HF.out (by simp [hcv]))
          clear HF HT
          go_wp2
          go_ret
          exact ⟨ret_bool HR.out, B2.out⟩
    · have hltz : ¬ (k : Int) < (is.length : Int) := by omega
      have hke : k = is.length := by omega
      have HT := hid (show res = true from HALL.out (by rw [← hke]; exact HK.out))
      clear hlt hk hke
      go_wp2
      go_ret
      exact ⟨ret_bool HT.out, BW.out⟩
end Go.Proofs.YtedpdpcibkceeaaDoor
