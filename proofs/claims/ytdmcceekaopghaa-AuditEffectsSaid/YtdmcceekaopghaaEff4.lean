/-
  Contract of audit.Effects. Conditions: those ahead of each theorem.
-/
import Derived.Test.YtdmcceekaopghaaEff3
import Derived.Test.YtdmcceekaopghaaOrdR
import Derived.Lib.QuietBelow
import Derived.BigQuiet
namespace Go.Proofs.Ytdmcceekaopghaa
open Go.RowKit Go.Sort Go.Lib
open Go.Lib (hid)

def gCh (n : Nat) (s : St) : Bool := decide (0 ≤ s.change) && decide (s.change < n)
def gEv (n : Nat) (e : Ev) : Bool := !(e.kind == 3) || (decide (0 ≤ e.step) && decide (e.step < n))
def gEf (ch : List ByteArray) (ss : List St) (b a : List In) (e : Ev) : Bool := !(e.kind == 3) || effB (ss.getD e.step.toNat s0).op (ch.getD (ss.getD e.step.toNat s0).change.toNat ib0) e.id b a
def eff (ch : List ByteArray) (ss : List St) (l : List Ev) (b a : List In) : Int :=
  if ss.all (gCh ch.length) then (if l.all (gEv ss.length) then (if l.all (gEf ch ss b a) then (if b.all (fKep ss l a) && a.all (fExp ch ss l b) then 0 else 36) else 36) else 1) else 1

set_option maxHeartbeats 4000000 in
theorem effects_any (lin lin2 : ByteArray) (ser ser2 : Int) (vC vS vL vI vP vO vI2 vP2 vO2 : Value) (ch : List ByteArray) (ss : List St) (l : List Ev) (b a : List In) (w : World) (hC : Sl ChR 22 w vC ch) (hS : Sl StR 3 w vS ss) (hL : Sl EvR 6 w vL l)
    (hI : Sl InR 13 w vI b) (hP : ∃ r n c, vP = .slice r n c) (hO : ∃ r n c, vO = .slice r n c) (hI2 : Sl InR 13 w vI2 a) (hP2 : ∃ r n c, vP2 = .slice r n c) (hO2 : ∃ r n c, vO2 = .slice r n c) :
    Calls Try.prog 22 #[vC, vS, vL, .agg #[.string lin, .int .i64 ser, vI, vP, vO], .agg #[.string lin2, .int .i64 ser2, vI2, vP2, vO2]] w fun r w' => r = .returned (.int .i64 (eff ch ss l b a)) ∧ Below w.heap.size w w' := by
  have KP := Lib.hid hP
  have KO := Lib.hid hO
  have KP2 := Lib.hid hP2
  have KO2 := Lib.hid hO2
  obtain ⟨rP, nP, cP, rfl⟩ := hP
  obtain ⟨rO, nO, cO, rfl⟩ := hO
  obtain ⟨rP2, nP2, cP2, rfl⟩ := hP2
  obtain ⟨rO2, nO2, cO2, rfl⟩ := hO2
  have HC := Lib.hid hC
  have HS := Lib.hid hS
  have HL := Lib.hid hL
  have HI := Lib.hid hI
  have HI2 := Lib.hid hI2
  obtain ⟨rC, cC, rfl, hlC, hmC, _⟩ := hC
  obtain ⟨rS, cS, rfl, hlS, hmS, _⟩ := hS
  obtain ⟨rL, cL, rfl, hlL, hmL, _⟩ := hL
  obtain ⟨r, c, rfl, _⟩ := hI
  obtain ⟨r2, c2, rfl, _⟩ := hI2
  unfold maxLen at hmC hmS hmL
  have hb : Below w.heap.size w ((w.alloc (.cells #[.string lin, .int .i64 ser, .slice r b.length c, .slice rP nP cP, .slice rO nO cO] 42)).alloc (.cells #[.string lin2, .int .i64 ser2, .slice r2 a.length c2, .slice rP2 nP2 cP2, .slice rO2 nO2 cO2] 42)) := ((Below.refl _ _).alloc (Nat.le_refl _) _).alloc (by simp) _
  have HB0 := Lib.hid hb
  have b0 := Lib.hid (show ((w.alloc (.cells #[.string lin, .int .i64 ser, .slice r b.length c, .slice rP nP cP, .slice rO nO cO] 42)).alloc (.cells #[.string lin2, .int .i64 ser2, .slice r2 a.length c2, .slice rP2 nP2 cP2, .slice rO2 nO2 cO2] 42)).cell? ⟨w.heap.size, 0, none⟩ = some (.string lin) from cell_up (cell_at rfl rfl))
  have b1 := Lib.hid (show ((w.alloc (.cells #[.string lin, .int .i64 ser, .slice r b.length c, .slice rP nP cP, .slice rO nO cO] 42)).alloc (.cells #[.string lin2, .int .i64 ser2, .slice r2 a.length c2, .slice rP2 nP2 cP2, .slice rO2 nO2 cO2] 42)).cell? ⟨w.heap.size, 1, none⟩ = some (.int .i64 ser) from cell_up (cell_at rfl rfl))
  have b2 := Lib.hid (show ((w.alloc (.cells #[.string lin, .int .i64 ser, .slice r b.length c, .slice rP nP cP, .slice rO nO cO] 42)).alloc (.cells #[.string lin2, .int .i64 ser2, .slice r2 a.length c2, .slice rP2 nP2 cP2, .slice rO2 nO2 cO2] 42)).cell? ⟨w.heap.size, 2, none⟩ = some (.slice r b.length c) from cell_up (cell_at rfl rfl))
  have b3 := Lib.hid (show ((w.alloc (.cells #[.string lin, .int .i64 ser, .slice r b.length c, .slice rP nP cP, .slice rO nO cO] 42)).alloc (.cells #[.string lin2, .int .i64 ser2, .slice r2 a.length c2, .slice rP2 nP2 cP2, .slice rO2 nO2 cO2] 42)).cell? ⟨w.heap.size, 3, none⟩ = some (.slice rP nP cP) from cell_up (cell_at rfl rfl))
  have b4 := Lib.hid (show ((w.alloc (.cells #[.string lin, .int .i64 ser, .slice r b.length c, .slice rP nP cP, .slice rO nO cO] 42)).alloc (.cells #[.string lin2, .int .i64 ser2, .slice r2 a.length c2, .slice rP2 nP2 cP2, .slice rO2 nO2 cO2] 42)).cell? ⟨w.heap.size, 4, none⟩ = some (.slice rO nO cO) from cell_up (cell_at rfl rfl))
  have a0 := Lib.hid (show ((w.alloc (.cells #[.string lin, .int .i64 ser, .slice r b.length c, .slice rP nP cP, .slice rO nO cO] 42)).alloc (.cells #[.string lin2, .int .i64 ser2, .slice r2 a.length c2, .slice rP2 nP2 cP2, .slice rO2 nO2 cO2] 42)).cell? ⟨w.heap.size + 1, 0, none⟩ = some (.string lin2) from cell_at (by simp) rfl)
  have a1 := Lib.hid (show ((w.alloc (.cells #[.string lin, .int .i64 ser, .slice r b.length c, .slice rP nP cP, .slice rO nO cO] 42)).alloc (.cells #[.string lin2, .int .i64 ser2, .slice r2 a.length c2, .slice rP2 nP2 cP2, .slice rO2 nO2 cO2] 42)).cell? ⟨w.heap.size + 1, 1, none⟩ = some (.int .i64 ser2) from cell_at (by simp) rfl)
  have a2 := Lib.hid (show ((w.alloc (.cells #[.string lin, .int .i64 ser, .slice r b.length c, .slice rP nP cP, .slice rO nO cO] 42)).alloc (.cells #[.string lin2, .int .i64 ser2, .slice r2 a.length c2, .slice rP2 nP2 cP2, .slice rO2 nO2 cO2] 42)).cell? ⟨w.heap.size + 1, 2, none⟩ = some (.slice r2 a.length c2) from cell_at (by simp) rfl)
  have a3 := Lib.hid (show ((w.alloc (.cells #[.string lin, .int .i64 ser, .slice r b.length c, .slice rP nP cP, .slice rO nO cO] 42)).alloc (.cells #[.string lin2, .int .i64 ser2, .slice r2 a.length c2, .slice rP2 nP2 cP2, .slice rO2 nO2 cO2] 42)).cell? ⟨w.heap.size + 1, 3, none⟩ = some (.slice rP2 nP2 cP2) from cell_at (by simp) rfl)
  have a4 := Lib.hid (show ((w.alloc (.cells #[.string lin, .int .i64 ser, .slice r b.length c, .slice rP nP cP, .slice rO nO cO] 42)).alloc (.cells #[.string lin2, .int .i64 ser2, .slice r2 a.length c2, .slice rP2 nP2 cP2, .slice rO2 nO2 cO2] 42)).cell? ⟨w.heap.size + 1, 4, none⟩ = some (.slice rO2 nO2 cO2) from cell_at (by simp) rfl)
  have HE := Lib.hid (show eff ch ss l b a = if ss.all (gCh ch.length) then (if l.all (gEv ss.length) then (if l.all (gEf ch ss b a) then (if b.all (fKep ss l a) && a.all (fExp ch ss l b) then 0 else 36) else 36) else 1) else 1 from rfl)
  clear hb
  go_enter Try.func22, Try.ntmps22
  go_wp2
  generalize ((w.alloc (.cells #[.string lin, .int .i64 ser, .slice r b.length c, .slice rP nP cP, .slice rO nO cO] 42)).alloc (.cells #[.string lin2, .int .i64 ser2, .slice r2 a.length c2, .slice rP2 nP2 cP2, .slice rO2 nO2 cO2] 42)) = W0 at *
  go_loopg [19] ss.length (fun gg s15 wr => ∃ k : Nat, k ≤ ss.length ∧ ss.length - k ≤ gg ∧ s15 = .int .i64 k ∧ Aside (Below W0.heap.size W0 wr) ∧ Aside ((ss.take k).all (gCh ch.length) = true))
  case atStart => exact ⟨0, Nat.zero_le _, by omega, rfl, Below.refl _ _, rfl⟩
  case round =>
    obtain ⟨k, hk, hg, rfl, BW, AL⟩ := hrel
    by_cases hlt : k < ss.length
    case pos =>
      have hltz : (k : Int) < (ss.length : Int) := by omega
      have BX := HB0.out.trans (BW.out.mono HB0.out.size)
      have HT := Lib.hid (show (ss.take (k + 1)).all (gCh ch.length) = gCh ch.length (ss.getD k s0) by rw [all_snoc hlt, AL.out, List.getD_eq_getElem?_getD, List.getElem?_eq_getElem hlt]; simp)
      have HF := Lib.hid (show gCh ch.length (ss.getD k s0) = false → ss.all (gCh ch.length) = false from fun h => all_no hlt (by rw [List.getD_eq_getElem?_getD, List.getElem?_eq_getElem hlt] at h; exact h))
      obtain ⟨bb, off, s, rfl, _, hbb, hgd, _, g0, g1, r', n', c', g2⟩ := st_at (HS.out.below stR_mono BX) k hlt
      rw [hgd] at HT HF
      obtain ⟨sc, so, sn⟩ := s
      simp only at g0 g1
      have BX2 := Lib.hid (fun o => BX.alloc BX.size o)
      have BW2 := Lib.hid (fun o => BW.out.alloc BW.out.size o)
      clear BX BW AL hgd
      by_cases h0 : 0 ≤ sc
      case neg =>
        have h0' : sc < 0 := by omega
        have HF2 := Lib.hid (HF.out (by simp [gCh, h0]))
        have HR0 := Lib.hid (HE.out.trans (if_neg (by rw [HF2.out]; decide)))
        clear HF HT h0
        go_wp2
        go_ret
        exact ⟨ret_int HR0.out, BX2.out _⟩
      by_cases h1 : sc < ch.length
      case neg =>
        have h1' : (ch.length : Int) ≤ sc := by omega
        have HF2 := Lib.hid (HF.out (by simp [gCh]; omega))
        have HR0 := Lib.hid (HE.out.trans (if_neg (by rw [HF2.out]; decide)))
        clear HF HT h1
        go_wp2
        go_ret
        exact ⟨ret_int HR0.out, BX2.out _⟩
      have HT2 := Lib.hid (show (ss.take (k + 1)).all (gCh ch.length) = true from HT.out.trans (by simp [gCh, h0, h1]))
      clear HT HF
      go_wp2
      go_roundg (ss.length - (k + 1))
      case measure => omega
      case rel => exact ⟨k + 1, by omega, by omega, by go_num, BW2.out _, HT2.out⟩
    case neg =>
    have hke : k = ss.length := by omega
    have HX := (show ss.all (gCh ch.length) = true by have := AL.out; rwa [hke, List.take_length] at this)
    have HG := Lib.hid (show ∀ s ∈ ss, 0 ≤ s.change ∧ s.change < ch.length from fun s hs => by have := List.all_eq_true.1 HX s hs; simp [gCh] at this; exact this)
    have HE := Lib.hid (HE.out.trans (if_pos HX))
    clear HX AL hke
    obtain ⟨W1, rfl⟩ : ∃ W1 : World, W1 = wr := ⟨_, rfl⟩
    have BW1 := Lib.hid BW.out
    clear BW
    go_wp2
    go_loopg [36] l.length (fun gg s15 wr => ∃ k : Nat, k ≤ l.length ∧ l.length - k ≤ gg ∧ s15 = .int .i64 k ∧ Aside (Below W0.heap.size W0 wr) ∧ Aside ((l.take k).all (gEv ss.length) = true))
    case atStart => exact ⟨0, Nat.zero_le _, by omega, rfl, BW1.out, rfl⟩
    case round =>
      obtain ⟨j, hj, hg2, rfl, BW, AL⟩ := hrel
      by_cases hlt2 : j < l.length
      case pos =>
        have hltz : (j : Int) < (l.length : Int) := by omega
        have BX := HB0.out.trans (BW.out.mono HB0.out.size)
        have HT := Lib.hid (show (l.take (j + 1)).all (gEv ss.length) = gEv ss.length l[j] by rw [all_snoc hlt2, AL.out]; simp)
        have HF := Lib.hid (show gEv ss.length l[j] = false → l.all (gEv ss.length) = false from all_no hlt2)
        obtain ⟨_, _, _, hE⟩ := ev_cells (HL.out.below evR_mono BX) rfl
        obtain ⟨bb, off, rfl, hbb, g0, g1, g2, g3, g4, g5⟩ := hE j hlt2
        clear hE
        generalize l[j] = y at *
        obtain ⟨yk, yst, yop, ya, yid, yer⟩ := y
        simp only at g0 g1 g2 g3 g4 g5
        have BX2 := Lib.hid (fun o => BX.alloc BX.size o)
        have BW2 := Lib.hid (fun o => BW.out.alloc BW.out.size o)
        clear BX BW AL
        by_cases h3 : yk = 3
        case neg =>
          have e1 : (yk == 3) = false := by simpa using h3
          have HT2 := Lib.hid (show (l.take (j + 1)).all (gEv ss.length) = true from HT.out.trans (by simp [gEv, e1]))
          clear HT HF h3
          go_wp2
          go_roundg (l.length - (j + 1))
          case measure => omega
          case rel => exact ⟨j + 1, by omega, by omega, by go_num, BW2.out _, HT2.out⟩
        subst h3
        by_cases h0 : 0 ≤ yst
        case neg =>
          have h0' : yst < 0 := by omega
          have HF2 := Lib.hid (HF.out (by simp [gEv, h0]))
          have HR0 := Lib.hid (HE.out.trans (if_neg (by rw [HF2.out]; decide)))
          clear HF HT h0
          go_wp2
          go_ret
          exact ⟨ret_int HR0.out, BX2.out _⟩
        by_cases h1 : yst < ss.length
        case neg =>
          have h1' : (ss.length : Int) ≤ yst := by omega
          have HF2 := Lib.hid (HF.out (by simp [gEv]; omega))
          have HR0 := Lib.hid (HE.out.trans (if_neg (by rw [HF2.out]; decide)))
          clear HF HT h1
          go_wp2
          go_ret
          exact ⟨ret_int HR0.out, BX2.out _⟩
        have HT2 := Lib.hid (show (l.take (j + 1)).all (gEv ss.length) = true from HT.out.trans (by simp [gEv, h0, h1]))
        clear HT HF
        go_wp2
        go_roundg (l.length - (j + 1))
        case measure => omega
        case rel => exact ⟨j + 1, by omega, by omega, by go_num, BW2.out _, HT2.out⟩
      case neg =>
      have hke : j = l.length := by omega
      have HX := (show l.all (gEv ss.length) = true by have := AL.out; rwa [hke, List.take_length] at this)
      have HR := Lib.hid (show ∀ e ∈ l, e.kind = 3 → 0 ≤ e.step ∧ e.step < ss.length from fun e he h3 => by have := List.all_eq_true.1 HX e he; simp [gEv, h3] at this; exact this)
      have HE := Lib.hid (HE.out.trans (if_pos HX))
      clear HX AL hke
      obtain ⟨W2, rfl⟩ : ∃ W2 : World, W2 = wr := ⟨_, rfl⟩
      have BW2 := Lib.hid BW.out
      clear BW
      go_wp2
      go_loopg [58] l.length (fun gg s15 wr => ∃ k : Nat, k ≤ l.length ∧ l.length - k ≤ gg ∧ s15 = .int .i64 k ∧ Aside (Below W0.heap.size W0 wr) ∧ Aside ((l.take k).all (gEf ch ss b a) = true))
      case atStart => exact ⟨0, Nat.zero_le _, by omega, rfl, BW2.out, rfl⟩
      case round =>
        obtain ⟨i, hi, hg3, rfl, BW, AL⟩ := hrel
        by_cases hlt3 : i < l.length
        case pos =>
          have hltz : (i : Int) < (l.length : Int) := by omega
          have BX := HB0.out.trans (BW.out.mono HB0.out.size)
          have HT := Lib.hid (show (l.take (i + 1)).all (gEf ch ss b a) = gEf ch ss b a l[i] by rw [all_snoc hlt3, AL.out]; simp)
          have HF := Lib.hid (show gEf ch ss b a l[i] = false → l.all (gEf ch ss b a) = false from all_no hlt3)
          obtain ⟨_, _, _, hE⟩ := ev_cells (HL.out.below evR_mono BX) rfl
          obtain ⟨bb, off, rfl, hbb, g0, g1, g2, g3, g4, g5⟩ := hE i hlt3
          have hr3 := HR.out _ (List.getElem_mem hlt3)
          clear hE
          generalize l[i] = y at *
          obtain ⟨yk, yst, yop, ya, yid, yer⟩ := y
          simp only at g0 g1 g2 g3 g4 g5 hr3
          have BX2 := Lib.hid (fun o => BX.alloc BX.size o)
          have BW3 := Lib.hid (fun o => BW.out.alloc BW.out.size o)
          by_cases h3 : yk = 3
          case neg =>
            have e1 : (yk == 3) = false := by simpa using h3
            have e2 : (yk != 3) = true := by simpa using h3
            have HT2 := Lib.hid (show (l.take (i + 1)).all (gEf ch ss b a) = true from HT.out.trans (by simp [gEf, e1]))
            clear HT HF h3 hr3 BX BW AL
            go_wp2
            go_roundg (l.length - (i + 1))
            case measure => omega
            case rel => exact ⟨i + 1, by omega, by omega, by go_num, BW3.out _, HT2.out⟩
          obtain ⟨h0, h1⟩ := hr3 h3
          subst h3
          clear hr3
          obtain ⟨q, rfl⟩ : ∃ q : Nat, yst = q := ⟨yst.toNat, by omega⟩
          obtain ⟨bs, os, s, hrs, _, hbs, hgd, hmem, s0', s1', r', n', c', s2'⟩ := st_at (HS.out.below stR_mono BX) q (by omega)
          subst hrs
          obtain ⟨c0, c1⟩ := HG.out s hmem
          obtain ⟨sc, so, sn⟩ := s
          simp only at s0' s1' c0 c1
          obtain ⟨p, rfl⟩ : ∃ p : Nat, sc = p := ⟨sc.toNat, by omega⟩
          obtain ⟨bc, oc, x, hrc, _, hbc, hgx, k0⟩ := ch_at (HC.out.below chR_mono BX) p (by omega)
          subst hrc
          have x0 := bget BW.out b0.out
          have x1 := bget BW.out b1.out
          have x2 := bget BW.out b2.out
          have x3 := bget BW.out b3.out
          have x4 := bget BW.out b4.out
          have z0 := bget BW.out a0.out
          have z1 := bget BW.out a1.out
          have z2 := bget BW.out a2.out
          have z3 := bget BW.out a3.out
          have z4 := bget BW.out a4.out
          have hz1 := World.block_lt_of_cell? _ _ z0
          simp only at hz1
          have hz0 := World.block_lt_of_cell? _ _ x0
          simp only at hz0
          have HQ := Lib.hid (show gEf ch ss b a ⟨3, q, yop, ya, yid, yer⟩ = effB so x yid b a by simp only [gEf, Int.toNat_natCast]; rw [hgd]; simp only [Int.toNat_natCast]; rw [hgx]; simp)
          clear hgd hgx hmem BX BW AL
          go_wp2
          have hcg := cells_regrown (wr.alloc (.cells #[.int .i64 3, .int .i64 q, .int .i64 yop, .string ya, .string yid, .int .i64 yer] 34))
          refine wp_region_quiet_below (by kernel_rfl) (by kernel_rfl) ?_
          repeat (quiet_step (exact Calls.regrown_of (effect_any lin lin2 ser ser2 _ _ _ _ _ _ b a x yid so _ (HI.out.below inR_mono ((BX2.out _).trans ((below_regrown _ _ _).mono (BX2.out _).size))) KP.out KO.out (HI2.out.below inR_mono ((BX2.out _).trans ((below_regrown _ _ _).mono (BX2.out _).size))) KP2.out KO2.out)))
          refine wpQuiet_nil ?_
          intro _ hw'
          obtain ⟨⟨dq, osq⟩, hw''⟩ := hw'
          subst hw''
          clear hcg
          have BX4 := Lib.hid ((BX2.out _).trans ((below_regrown (wr.alloc (.cells #[.int .i64 3, .int .i64 q, .int .i64 yop, .string ya, .string yid, .int .i64 yer] 34)) dq osq).mono (BX2.out _).size))
          have BW4 := Lib.hid ((BW3.out _).trans ((below_regrown (wr.alloc (.cells #[.int .i64 3, .int .i64 q, .int .i64 yop, .string ya, .string yid, .int .i64 yer] 34)) dq osq).mono (BW3.out _).size))
          cases q1 : effB so x yid b a
          case true =>
            have HT2 := Lib.hid (HT.out.trans (HQ.out.trans q1))
            clear HT HF HQ q1
            go_wp2
            go_roundg (l.length - (i + 1))
            case measure => omega
            case rel => exact ⟨i + 1, by omega, by omega, by go_num, BW4.out, HT2.out⟩
          case false =>
            have HF2 := Lib.hid (HF.out (HQ.out.trans q1))
            have HR0 := Lib.hid (HE.out.trans (if_neg (by rw [HF2.out]; decide)))
            clear HT HF HQ q1
            go_wp2
            go_ret
            exact ⟨ret_int HR0.out, BX4.out⟩
        case neg =>
        have hke : i = l.length := by omega
        have HX := (show l.all (gEf ch ss b a) = true by have := AL.out; rwa [hke, List.take_length] at this)
        have HE := Lib.hid (HE.out.trans (if_pos HX))
        clear HX AL hke
        have BX := Lib.hid (HB0.out.trans (BW.out.mono HB0.out.size))
        have x0 := bget BW.out b0.out
        have x1 := bget BW.out b1.out
        have x2 := bget BW.out b2.out
        have x3 := bget BW.out b3.out
        have x4 := bget BW.out b4.out
        have z0 := bget BW.out a0.out
        have z1 := bget BW.out a1.out
        have z2 := bget BW.out a2.out
        have z3 := bget BW.out a3.out
        have z4 := bget BW.out a4.out
        have hz1 := World.block_lt_of_cell? _ _ z0
        simp only at hz1
        have hz0 := World.block_lt_of_cell? _ _ x0
        simp only at hz0
        clear BW
        go_wp2_with fail
        refine (kept_any lin lin2 ser ser2 _ _ _ _ _ _ _ _ ss l b a _ (HS.out.below stR_mono BX.out) (HL.out.below evR_mono BX.out) HR.out (HI.out.below inR_mono BX.out) KP.out KO.out (HI2.out.below inR_mono BX.out) KP2.out KO2.out).mono ?_
        rintro e w2 ⟨rfl, hb2⟩
        have BX2 := Lib.hid (BX.out.trans (hb2.mono BX.out.size))
        cases q1 : b.all (fKep ss l a)
        case false =>
          have HR0 := Lib.hid (HE.out.trans (if_neg (by rw [q1]; simp)))
          clear hb2 q1
          go_wp2
          go_ret
          exact ⟨ret_int HR0.out, BX2.out⟩
        case true =>
          have x0 := bget hb2 x0
          have x1 := bget hb2 x1
          have x2 := bget hb2 x2
          have x3 := bget hb2 x3
          have x4 := bget hb2 x4
          have z0 := bget hb2 z0
          have z1 := bget hb2 z1
          have z2 := bget hb2 z2
          have z3 := bget hb2 z3
          have z4 := bget hb2 z4
          have hz1 := World.block_lt_of_cell? _ _ z0
          simp only at hz1
          have hz0 := World.block_lt_of_cell? _ _ x0
          simp only at hz0
          have Q1 := Lib.hid q1
          clear hb2 q1
          go_wp2_with fail
          refine (explained_any lin lin2 ser ser2 _ _ _ _ _ _ _ _ _ ch ss l b a _ (HC.out.below chR_mono BX2.out) (HS.out.below stR_mono BX2.out) (HL.out.below evR_mono BX2.out) HG.out HR.out (HI.out.below inR_mono BX2.out) KP.out KO.out (HI2.out.below inR_mono BX2.out) KP2.out KO2.out).mono ?_
          rintro e w3 ⟨rfl, hb3⟩
          have BX3 := Lib.hid (BX2.out.trans (hb3.mono BX2.out.size))
          clear hb3
          cases q2 : a.all (fExp ch ss l b)
          case false =>
            have HR0 := Lib.hid (HE.out.trans (if_neg (by rw [Q1.out, q2]; decide)))
            clear q2
            go_wp2
            go_ret
            exact ⟨ret_int HR0.out, BX3.out⟩
          case true =>
            have HR0 := Lib.hid (HE.out.trans (if_pos (by rw [Q1.out, q2]; rfl)))
            clear q2
            go_wp2
            go_ret
            exact ⟨ret_int HR0.out, BX3.out⟩
end Go.Proofs.Ytdmcceekaopghaa
