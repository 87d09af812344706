/-
  Contract of the reference's EffectsOf. Conditions: those ahead of each theorem.
-/
import Derived.Test.YtdmcceekaopghaaEff6
import Derived.Deep.RegionWith
import Derived.Deep.RegionHeld3
import Derived.Lib.QuietBelow
import Derived.BigQuiet
import Derived.Test.YtdmcceekaopghaaSkips
namespace Go.Proofs.Ytdmcceekaopghaa
open Go.RowKit Go.Sort Go.Lib
open Go.Lib (hid)

set_option maxRecDepth 100000 in
set_option maxHeartbeats 40000000 in
theorem reffects_any (lin lin2 : ByteArray) (ser ser2 : Int) (vC vS vL vI vP vO vI2 vP2 vO2 : Value) (ch : List ByteArray) (ss : List St) (l : List Ev) (b a : List In) (w : World) (hC : Sl ChR 22 w vC ch) (hS : Sl StR 3 w vS ss) (hL : Sl EvR 6 w vL l)
    (hI : Sl InR 13 w vI b) (hP : ∃ r n c, vP = .slice r n c) (hO : ∃ r n c, vO = .slice r n c) (hI2 : Sl InR 13 w vI2 a) (hP2 : ∃ r n c, vP2 = .slice r n c) (hO2 : ∃ r n c, vO2 = .slice r n c) (hb1000 : b.length ≤ 1000) (ha1000 : a.length ≤ 1000) (hbs : ∀ x ∈ b, x.id.size ≤ maxLen) (has : ∀ x ∈ a, x.id.size ≤ maxLen) :
    Calls Try.prog 40 #[vC, vS, vL, .agg #[.string lin, .int .i64 ser, vI, vP, vO], .agg #[.string lin2, .int .i64 ser2, vI2, vP2, vO2]] w fun r w' => r = .returned (.int .i64 (eff ch ss l b a)) ∧ Below w.heap.size w w' := by
  have KB := Lib.hid hbs
  have KA := Lib.hid has
  clear hbs has
  have KP := Lib.hid hP
  have KO := Lib.hid hO
  have KP2 := Lib.hid hP2
  have KO2 := Lib.hid hO2
  obtain ⟨rP, nP, cP, rfl⟩ := hP
  obtain ⟨rO, nO, cO, rfl⟩ := hO
  obtain ⟨rP2, nP2, cP2, rfl⟩ := hP2
  obtain ⟨rO2, nO2, cO2, rfl⟩ := hO2
  have HC := Lib.hid hC
  have HS := Lib.hid hS
  have HL := Lib.hid hL
  have HI := Lib.hid hI
  have HI2 := Lib.hid hI2
  obtain ⟨rC, cC, rfl, hlC, hmC, _⟩ := hC
  obtain ⟨rS, cS, rfl, hlS, hmS, _⟩ := hS
  obtain ⟨rL, cL, rfl, hlL, hmL, _⟩ := hL
  obtain ⟨r, c, rfl, hlI, hmI, _⟩ := hI
  obtain ⟨r2, c2, rfl, hlJ, hmJ, _⟩ := hI2
  unfold maxLen at hmC hmS hmL hmI hmJ
  have hb : Below w.heap.size w ((w.alloc (.cells #[.string lin, .int .i64 ser, .slice r b.length c, .slice rP nP cP, .slice rO nO cO] 42)).alloc (.cells #[.string lin2, .int .i64 ser2, .slice r2 a.length c2, .slice rP2 nP2 cP2, .slice rO2 nO2 cO2] 42)) := ((Below.refl _ _).alloc (Nat.le_refl _) _).alloc (by simp) _
  have HB0 := Lib.hid hb
  have b0 := Lib.hid (show ((w.alloc (.cells #[.string lin, .int .i64 ser, .slice r b.length c, .slice rP nP cP, .slice rO nO cO] 42)).alloc (.cells #[.string lin2, .int .i64 ser2, .slice r2 a.length c2, .slice rP2 nP2 cP2, .slice rO2 nO2 cO2] 42)).cell? ⟨w.heap.size, 0, none⟩ = some (.string lin) from cell_up (cell_at rfl rfl))
  have b1 := Lib.hid (show ((w.alloc (.cells #[.string lin, .int .i64 ser, .slice r b.length c, .slice rP nP cP, .slice rO nO cO] 42)).alloc (.cells #[.string lin2, .int .i64 ser2, .slice r2 a.length c2, .slice rP2 nP2 cP2, .slice rO2 nO2 cO2] 42)).cell? ⟨w.heap.size, 1, none⟩ = some (.int .i64 ser) from cell_up (cell_at rfl rfl))
  have b2 := Lib.hid (show ((w.alloc (.cells #[.string lin, .int .i64 ser, .slice r b.length c, .slice rP nP cP, .slice rO nO cO] 42)).alloc (.cells #[.string lin2, .int .i64 ser2, .slice r2 a.length c2, .slice rP2 nP2 cP2, .slice rO2 nO2 cO2] 42)).cell? ⟨w.heap.size, 2, none⟩ = some (.slice r b.length c) from cell_up (cell_at rfl rfl))
  have b3 := Lib.hid (show ((w.alloc (.cells #[.string lin, .int .i64 ser, .slice r b.length c, .slice rP nP cP, .slice rO nO cO] 42)).alloc (.cells #[.string lin2, .int .i64 ser2, .slice r2 a.length c2, .slice rP2 nP2 cP2, .slice rO2 nO2 cO2] 42)).cell? ⟨w.heap.size, 3, none⟩ = some (.slice rP nP cP) from cell_up (cell_at rfl rfl))
  have b4 := Lib.hid (show ((w.alloc (.cells #[.string lin, .int .i64 ser, .slice r b.length c, .slice rP nP cP, .slice rO nO cO] 42)).alloc (.cells #[.string lin2, .int .i64 ser2, .slice r2 a.length c2, .slice rP2 nP2 cP2, .slice rO2 nO2 cO2] 42)).cell? ⟨w.heap.size, 4, none⟩ = some (.slice rO nO cO) from cell_up (cell_at rfl rfl))
  have a0 := Lib.hid (show ((w.alloc (.cells #[.string lin, .int .i64 ser, .slice r b.length c, .slice rP nP cP, .slice rO nO cO] 42)).alloc (.cells #[.string lin2, .int .i64 ser2, .slice r2 a.length c2, .slice rP2 nP2 cP2, .slice rO2 nO2 cO2] 42)).cell? ⟨w.heap.size + 1, 0, none⟩ = some (.string lin2) from cell_at (by simp) rfl)
  have a1 := Lib.hid (show ((w.alloc (.cells #[.string lin, .int .i64 ser, .slice r b.length c, .slice rP nP cP, .slice rO nO cO] 42)).alloc (.cells #[.string lin2, .int .i64 ser2, .slice r2 a.length c2, .slice rP2 nP2 cP2, .slice rO2 nO2 cO2] 42)).cell? ⟨w.heap.size + 1, 1, none⟩ = some (.int .i64 ser2) from cell_at (by simp) rfl)
  have a2 := Lib.hid (show ((w.alloc (.cells #[.string lin, .int .i64 ser, .slice r b.length c, .slice rP nP cP, .slice rO nO cO] 42)).alloc (.cells #[.string lin2, .int .i64 ser2, .slice r2 a.length c2, .slice rP2 nP2 cP2, .slice rO2 nO2 cO2] 42)).cell? ⟨w.heap.size + 1, 2, none⟩ = some (.slice r2 a.length c2) from cell_at (by simp) rfl)
  have a3 := Lib.hid (show ((w.alloc (.cells #[.string lin, .int .i64 ser, .slice r b.length c, .slice rP nP cP, .slice rO nO cO] 42)).alloc (.cells #[.string lin2, .int .i64 ser2, .slice r2 a.length c2, .slice rP2 nP2 cP2, .slice rO2 nO2 cO2] 42)).cell? ⟨w.heap.size + 1, 3, none⟩ = some (.slice rP2 nP2 cP2) from cell_at (by simp) rfl)
  have a4 := Lib.hid (show ((w.alloc (.cells #[.string lin, .int .i64 ser, .slice r b.length c, .slice rP nP cP, .slice rO nO cO] 42)).alloc (.cells #[.string lin2, .int .i64 ser2, .slice r2 a.length c2, .slice rP2 nP2 cP2, .slice rO2 nO2 cO2] 42)).cell? ⟨w.heap.size + 1, 4, none⟩ = some (.slice rO2 nO2 cO2) from cell_at (by simp) rfl)
  have HE := Lib.hid (show eff ch ss l b a = if ss.all (gCh ch.length) then (if l.all (gEv ss.length) then (if l.all (gEf ch ss b a) then (if b.all (fKep ss l a) && a.all (fExp ch ss l b) then 0 else 36) else 36) else 1) else 1 from rfl)
  clear hb
  go_enter Try.func40, Try.ntmps40
  go_wp2
  generalize ((w.alloc (.cells #[.string lin, .int .i64 ser, .slice r b.length c, .slice rP nP cP, .slice rO nO cO] 42)).alloc (.cells #[.string lin2, .int .i64 ser2, .slice r2 a.length c2, .slice rP2 nP2 cP2, .slice rO2 nO2 cO2] 42)) = W0 at *
  go_loopg [11] ss.length (fun gg s15 wr => ∃ k : Nat, k ≤ ss.length ∧ ss.length - k ≤ gg ∧ s15 = .int .i64 k ∧ Aside (Below W0.heap.size W0 wr) ∧ Aside ((ss.take k).all (gCh ch.length) = true))
  case atStart => exact ⟨0, Nat.zero_le _, by omega, rfl, Below.refl _ _, rfl⟩
  case round =>
    obtain ⟨k, hk, hg, rfl, BW, AL⟩ := hrel
    by_cases hlt : k < ss.length
    case pos =>
      have hltz : (k : Int) < (ss.length : Int) := by omega
      have BX := HB0.out.trans (BW.out.mono HB0.out.size)
      have HT := Lib.hid (show (ss.take (k + 1)).all (gCh ch.length) = gCh ch.length (ss.getD k s0) by rw [all_snoc hlt, AL.out, List.getD_eq_getElem?_getD, List.getElem?_eq_getElem hlt]; simp)
      have HF := Lib.hid (show gCh ch.length (ss.getD k s0) = false → ss.all (gCh ch.length) = false from fun h => all_no hlt (by rw [List.getD_eq_getElem?_getD, List.getElem?_eq_getElem hlt] at h; exact h))
      obtain ⟨bb, off, s, rfl, _, hbb, hgd, _, g0, g1, r', n', c', g2⟩ := st_at (HS.out.below stR_mono BX) k hlt
      rw [hgd] at HT HF
      obtain ⟨sc, so, sn⟩ := s
      simp only at g0 g1
      have BX2 := Lib.hid BX
      have BW2 := Lib.hid BW.out
      clear BX BW AL hgd
      by_cases h0 : 0 ≤ sc
      case neg =>
        have h0' : sc < 0 := by omega
        have HF2 := Lib.hid (HF.out (by simp [gCh, h0]))
        have HR0 := Lib.hid (HE.out.trans (if_neg (by rw [HF2.out]; decide)))
        clear HF HT h0
        go_wp2
        go_ret
        exact ⟨ret_int HR0.out, BX2.out⟩
      by_cases h1 : sc < ch.length
      case neg =>
        have h1' : (ch.length : Int) ≤ sc := by omega
        have HF2 := Lib.hid (HF.out (by simp [gCh]; omega))
        have HR0 := Lib.hid (HE.out.trans (if_neg (by rw [HF2.out]; decide)))
        clear HF HT h1
        go_wp2
        go_ret
        exact ⟨ret_int HR0.out, BX2.out⟩
      have HT2 := Lib.hid (show (ss.take (k + 1)).all (gCh ch.length) = true from HT.out.trans (by simp [gCh, h0, h1]))
      clear HT HF
      go_wp2
      go_roundg (ss.length - (k + 1))
      case measure => omega
      case rel => exact ⟨k + 1, by omega, by omega, by go_num, BW2.out, HT2.out⟩
    case neg =>
    have hke : k = ss.length := by omega
    have HX := (show ss.all (gCh ch.length) = true by have := AL.out; rwa [hke, List.take_length] at this)
    have HG := Lib.hid (show ∀ s ∈ ss, 0 ≤ s.change ∧ s.change < ch.length from fun s hs => by have := List.all_eq_true.1 HX s hs; simp [gCh] at this; exact this)
    have HE := Lib.hid (HE.out.trans (if_pos HX))
    clear HX AL hke
    obtain ⟨W1, rfl⟩ : ∃ W1 : World, W1 = wr := ⟨_, rfl⟩
    have BW1 := Lib.hid BW.out
    clear BW
    go_wp2
    go_loopg [12] l.length (fun gg s15 wr => ∃ k : Nat, k ≤ l.length ∧ l.length - k ≤ gg ∧ s15 = .int .i64 k ∧ Aside (Below W0.heap.size W0 wr) ∧ Aside ((l.take k).all (gEv ss.length) = true))
    case atStart => exact ⟨0, Nat.zero_le _, by omega, rfl, BW1.out, rfl⟩
    case round =>
      obtain ⟨j, hj, hg2, rfl, BW, AL⟩ := hrel
      by_cases hlt2 : j < l.length
      case pos =>
        have hltz : (j : Int) < (l.length : Int) := by omega
        have BX := HB0.out.trans (BW.out.mono HB0.out.size)
        have HT := Lib.hid (show (l.take (j + 1)).all (gEv ss.length) = gEv ss.length l[j] by rw [all_snoc hlt2, AL.out]; simp)
        have HF := Lib.hid (show gEv ss.length l[j] = false → l.all (gEv ss.length) = false from all_no hlt2)
        obtain ⟨_, _, _, hE⟩ := ev_cells (HL.out.below evR_mono BX) rfl
        obtain ⟨bb, off, rfl, hbb, g0, g1, g2, g3, g4, g5⟩ := hE j hlt2
        clear hE
        generalize l[j] = y at *
        obtain ⟨yk, yst, yop, ya, yid, yer⟩ := y
        simp only at g0 g1 g2 g3 g4 g5
        have BX2 := Lib.hid BX
        have BW2 := Lib.hid BW.out
        clear BX BW AL
        by_cases h3 : yk = 3
        case neg =>
          have e1 : (yk == 3) = false := by simpa using h3
          have HT2 := Lib.hid (show (l.take (j + 1)).all (gEv ss.length) = true from HT.out.trans (by simp [gEv, e1]))
          clear HT HF h3
          go_wp2
          go_roundg (l.length - (j + 1))
          case measure => omega
          case rel => exact ⟨j + 1, by omega, by omega, by go_num, BW2.out, HT2.out⟩
        subst h3
        by_cases h0 : 0 ≤ yst
        case neg =>
          have h0' : yst < 0 := by omega
          have HF2 := Lib.hid (HF.out (by simp [gEv, h0]))
          have HR0 := Lib.hid (HE.out.trans (if_neg (by rw [HF2.out]; decide)))
          clear HF HT h0
          go_wp2
          go_ret
          exact ⟨ret_int HR0.out, BX2.out⟩
        by_cases h1 : yst < ss.length
        case neg =>
          have h1' : (ss.length : Int) ≤ yst := by omega
          have HF2 := Lib.hid (HF.out (by simp [gEv]; omega))
          have HR0 := Lib.hid (HE.out.trans (if_neg (by rw [HF2.out]; decide)))
          clear HF HT h1
          go_wp2
          go_ret
          exact ⟨ret_int HR0.out, BX2.out⟩
        have HT2 := Lib.hid (show (l.take (j + 1)).all (gEv ss.length) = true from HT.out.trans (by simp [gEv, h0, h1]))
        clear HT HF
        go_wp2
        go_roundg (l.length - (j + 1))
        case measure => omega
        case rel => exact ⟨j + 1, by omega, by omega, by go_num, BW2.out, HT2.out⟩
      case neg =>
      have hke : j = l.length := by omega
      have HX := (show l.all (gEv ss.length) = true by have := AL.out; rwa [hke, List.take_length] at this)
      have HR := Lib.hid (show ∀ e ∈ l, e.kind = 3 → 0 ≤ e.step ∧ e.step < ss.length from fun e he h3 => by have := List.all_eq_true.1 HX e he; simp [gEv, h3] at this; exact this)
      have HE := Lib.hid (HE.out.trans (if_pos HX))
      clear HX AL hke
      obtain ⟨W2, rfl⟩ : ∃ W2 : World, W2 = wr := ⟨_, rfl⟩
      have BW2 := Lib.hid BW.out
      clear BW
      go_wp2
      go_loopg [13] l.length (fun gg s15 wr => ∃ k : Nat, k ≤ l.length ∧ l.length - k ≤ gg ∧ s15 = .int .i64 k ∧ Aside (Below W0.heap.size W0 wr) ∧ Aside ((l.take k).all (gEf ch ss b a) = true))
      case atStart => exact ⟨0, Nat.zero_le _, by omega, rfl, BW2.out, rfl⟩
      case round =>
        obtain ⟨i, hi, hg3, rfl, BW, AL⟩ := hrel
        by_cases hlt3 : i < l.length
        case pos =>
          have hltz : (i : Int) < (l.length : Int) := by omega
          have BX := HB0.out.trans (BW.out.mono HB0.out.size)
          have HT := Lib.hid (show (l.take (i + 1)).all (gEf ch ss b a) = gEf ch ss b a l[i] by rw [all_snoc hlt3, AL.out]; simp)
          have HF := Lib.hid (show gEf ch ss b a l[i] = false → l.all (gEf ch ss b a) = false from all_no hlt3)
          obtain ⟨_, _, _, hE⟩ := ev_cells (HL.out.below evR_mono BX) rfl
          obtain ⟨bb, off, rfl, hbb, g0, g1, g2, g3, g4, g5⟩ := hE i hlt3
          have hr3 := HR.out _ (List.getElem_mem hlt3)
          clear hE
          generalize l[i] = y at *
          obtain ⟨yk, yst, yop, ya, yid, yer⟩ := y
          simp only at g0 g1 g2 g3 g4 g5 hr3
          have BX2 := Lib.hid (fun o => BX.alloc BX.size o)
          have BW3 := Lib.hid (fun o => BW.out.alloc BW.out.size o)
          have BW0 := Lib.hid BW.out
          by_cases h3 : yk = 3
          case neg =>
            have e1 : (yk == 3) = false := by simpa using h3
            have e2 : (yk != 3) = true := by simpa using h3
            have HT2 := Lib.hid (show (l.take (i + 1)).all (gEf ch ss b a) = true from HT.out.trans (by simp [gEf, e1]))
            clear HT HF h3 hr3 BX BW AL
            go_wp2
            go_roundg (l.length - (i + 1))
            case measure => omega
            case rel => exact ⟨i + 1, by omega, by omega, by go_num, BW0.out, HT2.out⟩
          obtain ⟨h0, h1⟩ := hr3 h3
          subst h3
          clear hr3
          obtain ⟨q, rfl⟩ : ∃ q : Nat, yst = q := ⟨yst.toNat, by omega⟩
          obtain ⟨bs, os, s, hrs, _, hbs, hgd, hmem, s0', s1', r', n', c', s2'⟩ := st_at (HS.out.below stR_mono BX) q (by omega)
          subst hrs
          obtain ⟨c0, c1⟩ := HG.out s hmem
          obtain ⟨sc, so, sn⟩ := s
          simp only at s0' s1' c0 c1
          obtain ⟨p, rfl⟩ : ∃ p : Nat, sc = p := ⟨sc.toNat, by omega⟩
          obtain ⟨bc, oc, x, hrc, _, hbc, hgx, k0⟩ := ch_at (HC.out.below chR_mono BX) p (by omega)
          subst hrc
          have x0 := bget BW.out b0.out
          have x1 := bget BW.out b1.out
          have x2 := bget BW.out b2.out
          have x3 := bget BW.out b3.out
          have x4 := bget BW.out b4.out
          have z0 := bget BW.out a0.out
          have z1 := bget BW.out a1.out
          have z2 := bget BW.out a2.out
          have z3 := bget BW.out a3.out
          have z4 := bget BW.out a4.out
          have hz1 := World.block_lt_of_cell? _ _ z0
          simp only at hz1
          have hz0 := World.block_lt_of_cell? _ _ x0
          simp only at hz0
          have HQ := Lib.hid (show gEf ch ss b a ⟨3, q, yop, ya, yid, yer⟩ = effB so x yid b a by simp only [gEf, Int.toNat_natCast]; rw [hgd]; simp only [Int.toNat_natCast]; rw [hgx]; simp)
          clear hgd hgx hmem BX BW AL
          go_wp2
          have hcg := cells_regrown (wr.alloc (.cells #[.int .i64 p, .int .i64 so, .slice r' n' c'] 70))
          refine wp_region_quiet_below (by kernel_rfl) (by kernel_rfl) ?_
          repeat (quiet_step (exact Calls.regrown_of (effectOf_any lin lin2 ser ser2 _ _ _ _ _ _ b a 3 q yop ya yid yer x so _ (HI.out.below inR_mono ((BX2.out _).trans ((below_regrown _ _ _).mono (BX2.out _).size))) KP.out KO.out (HI2.out.below inR_mono ((BX2.out _).trans ((below_regrown _ _ _).mono (BX2.out _).size))) KP2.out KO2.out hb1000 ha1000 KB.out KA.out)))
          refine wpQuiet_nil ?_
          intro _ hw'
          obtain ⟨⟨dq, osq⟩, hw''⟩ := hw'
          subst hw''
          clear hcg
          have BX4 := Lib.hid ((BX2.out _).trans ((below_regrown (wr.alloc (.cells #[.int .i64 p, .int .i64 so, .slice r' n' c'] 70)) dq osq).mono (BX2.out _).size))
          have BW4 := Lib.hid ((BW3.out _).trans ((below_regrown (wr.alloc (.cells #[.int .i64 p, .int .i64 so, .slice r' n' c'] 70)) dq osq).mono (BW3.out _).size))
          cases q1 : effB so x yid b a
          case true =>
            have HT2 := Lib.hid (HT.out.trans (HQ.out.trans q1))
            clear HT HF HQ q1
            go_wp2
            go_roundg (l.length - (i + 1))
            case measure => omega
            case rel => exact ⟨i + 1, by omega, by omega, by go_num, BW4.out, HT2.out⟩
          case false =>
            have HF2 := Lib.hid (HF.out (HQ.out.trans q1))
            have HR0 := Lib.hid (HE.out.trans (if_neg (by rw [HF2.out]; decide)))
            clear HT HF HQ q1
            go_wp2
            go_ret
            exact ⟨ret_int HR0.out, BX4.out⟩
        case neg =>
        have hke : i = l.length := by omega
        have HX := (show l.all (gEf ch ss b a) = true by have := AL.out; rwa [hke, List.take_length] at this)
        have HE := Lib.hid (HE.out.trans (if_pos HX))
        clear HX AL hke
        have EB := Lib.hid (show b.all (fKep ss l a) = false → eff ch ss l b a = 36 from fun h => HE.out.trans (if_neg (by rw [h]; simp)))
        have EA := Lib.hid (show a.all (fExp ch ss l b) = false → eff ch ss l b a = 36 from fun h => HE.out.trans (if_neg (by rw [h]; simp)))
        have EZ := Lib.hid (show b.all (fKep ss l a) = true → a.all (fExp ch ss l b) = true → eff ch ss l b a = 0 from fun h1 h2 => HE.out.trans (if_pos (by rw [h1, h2]; rfl)))
        obtain ⟨W3, rfl⟩ : ∃ W3 : World, W3 = wr := ⟨_, rfl⟩
        have BW3 := Lib.hid BW.out
        clear BW HE
        go_wp2
        go_loopg [15] b.length (fun gg s15 wr => ∃ k : Nat, k ≤ b.length ∧ b.length - k ≤ gg ∧ s15 = .int .i64 k ∧ Aside (Below W0.heap.size W0 wr) ∧ Aside ((b.take k).all (fKep ss l a) = true))
        case atStart => exact ⟨0, Nat.zero_le _, by omega, rfl, BW3.out, rfl⟩
        case round =>
          obtain ⟨k4, hk4, hg4, rfl, BW, AL⟩ := hrel
          have x2 := bget BW.out b2.out
          have hxw := World.block_lt_of_cell? wr _ x2
          simp only at hxw
          have BX := HB0.out.trans (BW.out.mono HB0.out.size)
          by_cases hlt4 : k4 < b.length
          case pos =>
            have hltz : (k4 : Int) < (b.length : Int) := by omega
            obtain ⟨bb, off, rfl, hbb, l2⟩ := in_at HI.out k4 hlt4
            have HT := Lib.hid (show (b.take (k4 + 1)).all (fKep ss l a) = fKep ss l a b[k4] by rw [all_snoc hlt4, AL.out]; simp)
            have HF := Lib.hid (show fKep ss l a b[k4] = false → b.all (fKep ss l a) = false from all_no hlt4)
            generalize b[k4] = y at *
            obtain ⟨ya, yd, yid, yt, ⟨yk, yn, ys, ⟨i1, i2, i3⟩, ⟨j1, j2, j3⟩⟩, yv, yta, ycf, ⟨k1, k2, k3⟩⟩ := y
            have g0 := bget BX (l2 0 _ rfl)
            have g1 := bget BX (l2 1 _ rfl)
            have g2 := bget BX (l2 2 _ rfl)
            have g3 := bget BX (l2 3 _ rfl)
            have g4 := bget BX (l2 4 _ rfl)
            have g5 := bget BX (l2 5 _ rfl)
            have g6 := bget BX (l2 6 _ rfl)
            have g7 := bget BX (l2 7 _ rfl)
            have g8 := bget BX (l2 8 _ rfl)
            have g9 := bget BX (l2 9 _ rfl)
            have g10 := bget BX (l2 10 _ rfl)
            have g11 := bget BX (l2 11 _ rfl)
            have g12 := bget BX (l2 12 _ rfl)
            simp only [Nat.add_zero] at g0
            simp only [Sv.val] at g7 g8 g12
            have hbw := World.block_lt_of_cell? wr _ g0
            simp only at hbw
            have BX2 := Lib.hid (show Below w.heap.size w (wr.alloc (.cells #[.string ya, .string yd, .string yid, .string yt, .int .i64 yk, .int .i64 yn, .string ys, .slice i1 i2 i3, .slice j1 j2 j3, .int .i64 yv, .bool yta, .bool ycf, .slice k1 k2 k3] 55)) from BX.alloc BX.size _)
            have BV2 := Lib.hid (show Below W0.heap.size W0 (wr.alloc (.cells #[.string ya, .string yd, .string yid, .string yt, .int .i64 yk, .int .i64 yn, .string ys, .slice i1 i2 i3, .slice j1 j2 j3, .int .i64 yv, .bool yta, .bool ycf, .slice k1 k2 k3] 55)) from BW.out.alloc BW.out.size _)
            have HQ := Lib.hid (show fKep ss l a ⟨ya, yd, yid, yt, ⟨yk, yn, ys, ⟨i1, i2, i3⟩, ⟨j1, j2, j3⟩⟩, yv, yta, ycf, ⟨k1, k2, k3⟩⟩ = (a.any (pKep ya yid) || l.any (pSuc ss 3 yid)) from rfl)
            have z0 := bget BV2.out a0.out
            have z1 := bget BV2.out a1.out
            have z2 := bget BV2.out a2.out
            have z3 := bget BV2.out a3.out
            have z4 := bget BV2.out a4.out
            have hz1 := World.block_lt_of_cell? _ _ z0
            simp only at hz1
            clear l2 BX BW AL
            go_wp2_with fail
            refine (doneBy_any ss l _ _ 3 yid _ (HS.out.below stR_mono BX2.out) (HL.out.below evR_mono BX2.out) HR.out).mono ?_
            rintro e w1 ⟨rfl, rfl⟩
            cases q1 : l.any (pSuc ss 3 yid)
            case true =>
              have HT2 := Lib.hid (show (b.take (k4 + 1)).all (fKep ss l a) = true from HT.out.trans (HQ.out.trans (by rw [q1]; simp)))
              clear HT HF HQ q1
              go_wp2
              go_roundg (b.length - (k4 + 1))
              case measure => omega
              case rel => exact ⟨k4 + 1, by omega, by omega, by go_num, BV2.out, HT2.out⟩
            case false =>
              have HQ := Lib.hid (show fKep ss l a ⟨ya, yd, yid, yt, ⟨yk, yn, ys, ⟨i1, i2, i3⟩, ⟨j1, j2, j3⟩⟩, yv, yta, ycf, ⟨k1, k2, k3⟩⟩ = a.any (pKep ya yid) from HQ.out.trans (by rw [q1]; simp))
              clear q1
              go_wp2_with fail
              refine (recAt_kep lin2 ser2 _ _ _ a ya yid _ (HI2.out.below inR_mono BX2.out) KP2.out KO2.out).mono ?_
              rintro e w2 ⟨rfl, hb2⟩
              have BX3 := Lib.hid (BX2.out.trans (hb2.mono BX2.out.size))
              have BV3 := Lib.hid (BV2.out.trans (hb2.mono BV2.out.size))
              clear hb2
              cases q2 : a.any (pKep ya yid)
              case true =>
                have HT2 := Lib.hid (show (b.take (k4 + 1)).all (fKep ss l a) = true from HT.out.trans (HQ.out.trans q2))
                clear HT HF HQ q2
                go_wp2
                go_roundg (b.length - (k4 + 1))
                case measure => omega
                case rel => exact ⟨k4 + 1, by omega, by omega, by go_num, BV3.out, HT2.out⟩
              case false =>
                have HR0 := Lib.hid (EB.out (HF.out (HQ.out.trans q2)))
                clear HT HF HQ q2
                go_wp2
                go_ret
                exact ⟨ret_int HR0.out, BX3.out⟩
          case neg =>
          have hltz : ¬ (k4 : Int) < (b.length : Int) := by omega
          have hke : k4 = b.length := by omega
          have HKB := Lib.hid (show b.all (fKep ss l a) = true by have := AL.out; rwa [hke, List.take_length] at this)
          obtain ⟨W4, rfl⟩ : ∃ W4 : World, W4 = wr := ⟨_, rfl⟩
          have BW4 := Lib.hid BW.out
          clear hke AL BX BW
          go_wp2
          go_loopg [17] a.length (fun gg s15 wr => ∃ k : Nat, k ≤ a.length ∧ a.length - k ≤ gg ∧ s15 = .int .i64 k ∧ Aside (Below W0.heap.size W0 wr) ∧ Aside ((a.take k).all (fExp ch ss l b) = true))
          case atStart => exact ⟨0, Nat.zero_le _, by omega, rfl, BW4.out, rfl⟩
          case round =>
            clear x2 hxw
            obtain ⟨k5, hk5, hg5, rfl, BW, AL⟩ := hrel
            have x2 := bget BW.out a2.out
            have hxw := World.block_lt_of_cell? wr _ x2
            simp only at hxw
            have BX := HB0.out.trans (BW.out.mono HB0.out.size)
            by_cases hlt5 : k5 < a.length
            case pos =>
              have hltz5 : (k5 : Int) < (a.length : Int) := by omega
              obtain ⟨bb, off, rfl, hbb, l2⟩ := in_at HI2.out k5 hlt5
              have HT := Lib.hid (show (a.take (k5 + 1)).all (fExp ch ss l b) = fExp ch ss l b a[k5] by rw [all_snoc hlt5, AL.out]; simp)
              have HF := Lib.hid (show fExp ch ss l b a[k5] = false → a.all (fExp ch ss l b) = false from all_no hlt5)
              generalize a[k5] = y at *
              obtain ⟨ya, yd, yid, yt, ⟨yk, yn, ys, ⟨i1, i2, i3⟩, ⟨j1, j2, j3⟩⟩, yv, yta, ycf, ⟨k1, k2, k3⟩⟩ := y
              have g0 := bget BX (l2 0 _ rfl)
              have g1 := bget BX (l2 1 _ rfl)
              have g2 := bget BX (l2 2 _ rfl)
              have g3 := bget BX (l2 3 _ rfl)
              have g4 := bget BX (l2 4 _ rfl)
              have g5 := bget BX (l2 5 _ rfl)
              have g6 := bget BX (l2 6 _ rfl)
              have g7 := bget BX (l2 7 _ rfl)
              have g8 := bget BX (l2 8 _ rfl)
              have g9 := bget BX (l2 9 _ rfl)
              have g10 := bget BX (l2 10 _ rfl)
              have g11 := bget BX (l2 11 _ rfl)
              have g12 := bget BX (l2 12 _ rfl)
              simp only [Nat.add_zero] at g0
              simp only [Sv.val] at g7 g8 g12
              have hbw := World.block_lt_of_cell? wr _ g0
              simp only at hbw
              have BX2 := Lib.hid (show Below w.heap.size w (wr.alloc (.cells #[.string ya, .string yd, .string yid, .string yt, .int .i64 yk, .int .i64 yn, .string ys, .slice i1 i2 i3, .slice j1 j2 j3, .int .i64 yv, .bool yta, .bool ycf, .slice k1 k2 k3] 55)) from BX.alloc BX.size _)
              have BV2 := Lib.hid (show Below W0.heap.size W0 (wr.alloc (.cells #[.string ya, .string yd, .string yid, .string yt, .int .i64 yk, .int .i64 yn, .string ys, .slice i1 i2 i3, .slice j1 j2 j3, .int .i64 yv, .bool yta, .bool ycf, .slice k1 k2 k3] 55)) from BW.out.alloc BW.out.size _)
              have e0 := Lib.hid (show (wr.alloc (.cells #[.string ya, .string yd, .string yid, .string yt, .int .i64 yk, .int .i64 yn, .string ys, .slice i1 i2 i3, .slice j1 j2 j3, .int .i64 yv, .bool yta, .bool ycf, .slice k1 k2 k3] 55)).cell? ⟨wr.heap.size, 0, none⟩ = some (.string ya) from cell_at rfl rfl)
              have e2 := Lib.hid (show (wr.alloc (.cells #[.string ya, .string yd, .string yid, .string yt, .int .i64 yk, .int .i64 yn, .string ys, .slice i1 i2 i3, .slice j1 j2 j3, .int .i64 yv, .bool yta, .bool ycf, .slice k1 k2 k3] 55)).cell? ⟨wr.heap.size, 2, none⟩ = some (.string yid) from cell_at rfl rfl)
              have HQ := Lib.hid (show fExp ch ss l b ⟨ya, yd, yid, yt, ⟨yk, yn, ys, ⟨i1, i2, i3⟩, ⟨j1, j2, j3⟩⟩, yv, yta, ycf, ⟨k1, k2, k3⟩⟩ = ((l.any (pFai ch ss ya) || hasS (b.map (·.id)) yid) || l.any (pSuc ss 1 yid)) by rw [rec_has]; rfl)
              have z0 := bget BV2.out b0.out
              have z1 := bget BV2.out b1.out
              have z2 := bget BV2.out b2.out
              have z3 := bget BV2.out b3.out
              have z4 := bget BV2.out b4.out
              have hz1 := World.block_lt_of_cell? _ _ z0
              simp only at hz1
              have hz5 : wr.heap.size < (wr.alloc (.cells #[.string ya, .string yd, .string yid, .string yt, .int .i64 yk, .int .i64 yn, .string ys, .slice i1 i2 i3, .slice j1 j2 j3, .int .i64 yv, .bool yta, .bool ycf, .slice k1 k2 k3] 55)).heap.size := by simp
              clear l2 BX BW AL
              go_upto_region 28 with (fail)
              clear g0 g1 g2 g3 g4 g5 g6 g7 g8 g9 g10 g11 g12
              have u0 := e0.out
              have u2 := e2.out
              generalize (wr.alloc (.cells #[.string ya, .string yd, .string yid, .string yt, .int .i64 yk, .int .i64 yn, .string ys, .slice i1 i2 i3, .slice j1 j2 j3, .int .i64 yv, .bool yta, .bool ycf, .slice k1 k2 k3] 55)) = W5 at *
              have D0 := Lib.hid (fun (W : World) (hW : Below w.heap.size w W) => doneBy_any ss l _ _ 1 yid W (HS.out.below stR_mono hW) (HL.out.below evR_mono hW) HR.out)
              have F0 := Lib.hid (fun (W : World) (hW : Below w.heap.size w W) => failedAt_any ch ss l _ _ _ ya W (HC.out.below chR_mono hW) (HS.out.below stR_mono hW) (HL.out.below evR_mono hW) HG.out)
              cases q1 : l.any (pSuc ss 1 yid)
              case true =>
                have HT2 := Lib.hid (show (a.take (k5 + 1)).all (fExp ch ss l b) = true from HT.out.trans (HQ.out.trans (by rw [q1]; simp)))
                rw [q1] at D0
                clear HT HF HQ q1
                have hcg := cells_regrown W5
                refine wp_region_quiet_below (by kernel_rfl) (by kernel_rfl) ?_
                repeat (first | go_big_quiet_step (exact same_regrown (D0.out _ (BX2.out.trans ((below_regrown _ _ _).mono BX2.out.size)))) | quiet_step (exact same_regrown (D0.out _ (BX2.out.trans ((below_regrown _ _ _).mono BX2.out.size)))))
                refine wpQuiet_nil ?_
                intro _ hw'
                obtain ⟨⟨dq, osq⟩, hw''⟩ := hw'
                subst hw''
                clear hcg
                have BV4 := Lib.hid (BV2.out.trans ((below_regrown W5 dq osq).mono BV2.out.size))
                go_wp2
                go_roundg (a.length - (k5 + 1))
                case measure => omega
                case rel => exact ⟨k5 + 1, by omega, by omega, by go_num, BV4.out, HT2.out⟩
              case false =>
                rw [q1] at D0
                have HQ := Lib.hid (show fExp ch ss l b ⟨ya, yd, yid, yt, ⟨yk, yn, ys, ⟨i1, i2, i3⟩, ⟨j1, j2, j3⟩⟩, yv, yta, ycf, ⟨k1, k2, k3⟩⟩ = (l.any (pFai ch ss ya) || hasS (b.map (·.id)) yid) from HQ.out.trans (by rw [q1]; simp))
                clear q1
                cases q2 : hasS (b.map (·.id)) yid
                case true =>
                  have HT2 := Lib.hid (show (a.take (k5 + 1)).all (fExp ch ss l b) = true from HT.out.trans (HQ.out.trans (by rw [q2]; simp)))
                  have Q2 := Lib.hid q2
                  clear HT HF HQ q2 F0
                  refine wp_region_held_drew (S := (fun w' => w'.cell? ⟨wr.heap.size, 2, none⟩ = some (.string yid) ∧ w'.cell? ⟨w.heap.size, 0, none⟩ = some (.string lin) ∧ w'.cell? ⟨w.heap.size, 1, none⟩ = some (.int .i64 ser) ∧ w'.cell? ⟨w.heap.size, 2, none⟩ = some (.slice r b.length c) ∧ w'.cell? ⟨w.heap.size, 3, none⟩ = some (.slice rP nP cP) ∧ w'.cell? ⟨w.heap.size, 4, none⟩ = some (.slice rO nO cO))) (by kernel_rfl) ⟨u2, z0, z1, z2, z3, z4⟩ (fun hHeld => ?_)
                  refine wpAnyH_takeD 0 146 (v := ?_) rfl rfl (by kernel_rfl) (by kernel_rfl) (by kernel_rfl) (fun _ _ _ _ h => h) (by assumption) (Or.inl ⟨by rfl, ?_⟩) ?_
                  rotate_left
                  · ((intro w hSw; (try dsimp only at hSw); go_simp) <;> with_reducible rfl)
                  conv => arg 8; simp only [Act.put, List.setIfInBounds_toArray, List.set_cons_zero, List.set_cons_succ]
                  refine wpAnyH_takeD 1 147 (v := ?_) rfl rfl (by kernel_rfl) (by kernel_rfl) (by kernel_rfl) (fun _ _ _ _ h => h) (by assumption) (Or.inl ⟨by rfl, ?_⟩) ?_
                  rotate_left
                  · ((intro w hSw; (try dsimp only at hSw); go_simp) <;> with_reducible rfl)
                  conv => arg 8; simp only [Act.put, List.setIfInBounds_toArray, List.set_cons_zero, List.set_cons_succ]
                  refine wpAnyH_takeD 2 148 (v := ?_) rfl rfl (by kernel_rfl) (by kernel_rfl) (by kernel_rfl) (fun _ _ _ _ h => h) (by assumption) (Or.inl ⟨by rfl, ?_⟩) ?_
                  rotate_left
                  · ((intro w hSw; (try dsimp only at hSw); go_simp) <;> with_reducible rfl)
                  conv => arg 8; simp only [Act.put, List.setIfInBounds_toArray, List.set_cons_zero, List.set_cons_succ]
                  refine wpAnyH_takeD 3 149 (v := ?_) rfl rfl (by kernel_rfl) (by kernel_rfl) (by kernel_rfl) (fun _ _ _ _ h => h) (by assumption) (Or.inl ⟨by rfl, ?_⟩) ?_
                  rotate_left
                  · ((intro w hSw; (try dsimp only at hSw); go_simp) <;> with_reducible rfl)
                  conv => arg 8; simp only [Act.put, List.setIfInBounds_toArray, List.set_cons_zero, List.set_cons_succ]
                  refine wpAnyH_ready (rs := [4]) (by kernel_rfl) (by simp) ?_
                  refine AllReadyH.cons rfl (fun K hK => ?_) AllReadyH.nil
                  go_simp
                  refine (D0.out _ (by exact BX2.out.drew)).mono ?_
                  rintro e w1 ⟨rfl, rfl⟩
                  go_wp2_with fail
                  refine hK.out _ _ (hHeld) (fun hHeld2 => ?_)
                  clear hK K hHeld
                  have hHeld := hHeld2
                  clear hHeld2
                  try simp only [Act.put, List.setIfInBounds_toArray, List.set_cons_zero, List.set_cons_succ]
                  refine wpAnyH_takeD 5 151 (v := ?_) rfl rfl (by kernel_rfl) (by kernel_rfl) (by kernel_rfl) (fun _ _ _ _ h => h) (by assumption) (Or.inl ⟨by rfl, ?_⟩) ?_
                  rotate_left
                  · ((intro w hSw; (try dsimp only at hSw); go_simp) <;> with_reducible rfl)
                  conv => arg 8; simp only [Act.put, List.setIfInBounds_toArray, List.set_cons_zero, List.set_cons_succ]
                  refine wpAnyH_takeD 6 152 (v := ?_) rfl rfl (by kernel_rfl) (by kernel_rfl) (by kernel_rfl) (fun _ _ _ _ h => h) (by assumption) (Or.inl ⟨by rfl, ?_⟩) ?_
                  rotate_left
                  · ((intro w hSw; (try dsimp only at hSw); go_simp) <;> with_reducible rfl)
                  conv => arg 8; simp only [Act.put, List.setIfInBounds_toArray, List.set_cons_zero, List.set_cons_succ]
                  refine wpAnyH_takeD 7 153 (v := ?_) rfl rfl (by kernel_rfl) (by kernel_rfl) (by kernel_rfl) (fun _ _ _ _ h => h) (by assumption) (Or.inl ⟨by rfl, ?_⟩) ?_
                  rotate_left
                  · ((intro w hSw; (try dsimp only at hSw); go_simp) <;> with_reducible rfl)
                  conv => arg 8; simp only [Act.put, List.setIfInBounds_toArray, List.set_cons_zero, List.set_cons_succ]
                  refine wpAnyH_takeD 9 155 (v := ?_) rfl rfl (by kernel_rfl) (by kernel_rfl) (by kernel_rfl) (fun _ _ _ _ h => h) (by assumption) (Or.inl ⟨by rfl, ?_⟩) ?_
                  rotate_left
                  · ((intro w hSw; (try dsimp only at hSw); go_simp) <;> with_reducible rfl)
                  conv => arg 8; simp only [Act.put, List.setIfInBounds_toArray, List.set_cons_zero, List.set_cons_succ]
                  refine wpAnyH_takeD 10 156 (v := ?_) rfl rfl (by kernel_rfl) (by kernel_rfl) (by kernel_rfl) (fun _ _ _ _ h => h) (by assumption) (Or.inl ⟨by rfl, ?_⟩) ?_
                  rotate_left
                  · ((intro w hSw; (try dsimp only at hSw); go_simp) <;> with_reducible rfl)
                  conv => arg 8; simp only [Act.put, List.setIfInBounds_toArray, List.set_cons_zero, List.set_cons_succ]
                  refine wpAnyH_ready (rs := [8]) (by kernel_rfl) (by simp) ?_
                  refine AllReadyH.cons rfl (fun K hK => ?_) AllReadyH.nil
                  go_simp
                  refine (ids_any lin ser _ _ _ b _ (HI.out.below inR_mono (by exact BX2.out.drew)) KP.out KO.out hb1000 KB.out).mono ?_
                  rintro e w1 ⟨v1, rfl, ho1, hb1⟩
                  go_wp2_with fail
                  refine hK.out _ _ (⟨bget hb1 hHeld.1, bget hb1 hHeld.2.1, bget hb1 hHeld.2.2.1, bget hb1 hHeld.2.2.2.1, bget hb1 hHeld.2.2.2.2.1, bget hb1 hHeld.2.2.2.2.2⟩) (fun hHeld2 => ?_)
                  clear hK K hHeld
                  have hHeld := hHeld2
                  clear hHeld2
                  try simp only [Act.put, List.setIfInBounds_toArray, List.set_cons_zero, List.set_cons_succ]
                  refine wpAnyH_ready (rs := [11]) (by kernel_rfl) (by simp) ?_
                  refine AllReadyH.cons rfl (fun K hK => ?_) AllReadyH.nil
                  go_simp
                  refine (hasT_any (b.map (·.id)) yid _ _ (OwnS.sl ho1)).mono ?_
                  rintro e w2 ⟨rfl, rfl⟩
                  rw [Q2.out]
                  go_wp2_with fail
                  refine hK.out _ _ (hHeld) (fun hHeld2 => ?_)
                  clear hK K hHeld
                  have hHeld := hHeld2
                  clear hHeld2
                  try simp only [Act.put, List.setIfInBounds_toArray, List.set_cons_zero, List.set_cons_succ]
                  refine wpAnyH_takeD 12 158 (v := ?_) rfl rfl (by kernel_rfl) (by kernel_rfl) (by kernel_rfl) (fun _ _ _ _ h => h) (by assumption) (Or.inl ⟨by rfl, ?_⟩) ?_
                  rotate_left
                  · ((intro w hSw; (try dsimp only at hSw); go_simp) <;> with_reducible rfl)
                  conv => arg 8; simp only [Act.put, List.setIfInBounds_toArray, List.set_cons_zero, List.set_cons_succ]
                  refine wpAnyH_takeD 13 159 (v := ?_) rfl rfl (by kernel_rfl) (by kernel_rfl) (by kernel_rfl) (fun _ _ _ _ h => h) (by assumption) (Or.inl ⟨by rfl, ?_⟩) ?_
                  rotate_left
                  · ((intro w hSw; (try dsimp only at hSw); go_simp) <;> with_reducible rfl)
                  conv => arg 8; simp only [Act.put, List.setIfInBounds_toArray, List.set_cons_zero, List.set_cons_succ]
                  refine wpAnyH_takeD 14 160 (v := ?_) rfl rfl (by kernel_rfl) (by kernel_rfl) (by kernel_rfl) (fun _ _ _ _ h => h) (by assumption) (Or.inl ⟨by rfl, ?_⟩) ?_
                  rotate_left
                  · ((intro w hSw; (try dsimp only at hSw); go_simp) <;> with_reducible rfl)
                  conv => arg 8; simp only [Act.put, List.setIfInBounds_toArray, List.set_cons_zero, List.set_cons_succ]
                  refine wpAnyH_skips [(15, 161), (16, 162), (17, 163), (18, 164), (19, 165), (20, 166), (21, 167)] 1 (by rfl) (by kernel_rfl) (fun _ _ _ _ h => h) hHeld (by kernel_rfl) ?_
                  conv => arg 7; simp only [List.foldl_cons, List.foldl_nil]
                  conv => arg 8; simp only [skipsA]
                  conv => arg 8; simp only [Act.put, List.setIfInBounds_toArray, List.set_cons_zero, List.set_cons_succ]
                  refine wpAnyH_takeD 22 168 (v := ?_) rfl rfl (by kernel_rfl) (by kernel_rfl) (by kernel_rfl) (fun _ _ _ _ h => h) (by assumption) (Or.inl ⟨by rfl, ?_⟩) ?_
                  rotate_left
                  · ((intro w hSw; (try dsimp only at hSw); go_simp) <;> with_reducible rfl)
                  conv => arg 8; simp only [Act.put, List.setIfInBounds_toArray, List.set_cons_zero, List.set_cons_succ]
                  refine wpAnyH_done (by kernel_rfl) ?_ _
                  have BV4 := Lib.hid (BV2.out.drew.trans (hb1.mono BV2.out.drew.size))
                  clear hb1 ho1 hHeld u0 u2 z0 z1 z2 z3 z4
                  go_wp2
                  go_roundg (a.length - (k5 + 1))
                  case measure => omega
                  case rel => exact ⟨k5 + 1, by omega, by omega, by go_num, BV4.out, HT2.out⟩
                case false =>
                  have HQ := Lib.hid (show fExp ch ss l b ⟨ya, yd, yid, yt, ⟨yk, yn, ys, ⟨i1, i2, i3⟩, ⟨j1, j2, j3⟩⟩, yv, yta, ycf, ⟨k1, k2, k3⟩⟩ = l.any (pFai ch ss ya) from HQ.out.trans (by rw [q2]; simp))
                  have Q2 := Lib.hid q2
                  clear q2
                  go_region_held3 (fun w' => w'.cell? ⟨wr.heap.size, 0, none⟩ = some (.string ya) ∧ w'.cell? ⟨wr.heap.size, 2, none⟩ = some (.string yid) ∧ w'.cell? ⟨w.heap.size, 0, none⟩ = some (.string lin) ∧ w'.cell? ⟨w.heap.size, 1, none⟩ = some (.int .i64 ser) ∧ w'.cell? ⟨w.heap.size, 2, none⟩ = some (.slice r b.length c) ∧ w'.cell? ⟨w.heap.size, 3, none⟩ = some (.slice rP nP cP) ∧ w'.cell? ⟨w.heap.size, 4, none⟩ = some (.slice rO nO cO))
                    (first | go_keep | (go_split_ands; refine ⟨?_, ?_, ?_, ?_, ?_, ?_, ?_⟩ <;> (refine bget (by assumption) ?_; assumption)))
                    (first | (go_at_call 59; ((with_reducible refine (D0.out _ (by exact BX2.out.drew)).mono ?_); rintro e w1 ⟨rfl, rfl⟩)) | (go_at_call 48; ((with_reducible refine (ids_any lin ser _ _ _ b _ (HI.out.below inR_mono (by exact BX2.out.drew)) KP.out KO.out hb1000 KB.out).mono ?_); rintro e w1 ⟨v1, rfl, ho1, hb1⟩)) | (go_at_call 35; ((with_reducible refine (hasT_any (b.map (·.id)) yid _ _ (OwnS.sl ho1)).mono ?_); rintro e w2 ⟨rfl, rfl⟩; rw [Q2.out])) | (go_at_call 61; ((with_reducible refine (F0.out _ (by exact BX2.out.drew.trans (hb1.mono BX2.out.drew.size))).mono ?_); rintro e w2 ⟨rfl, rfl⟩)))
                  all_goals
                    have BX4 := Lib.hid (BX2.out.drew.trans (hb1.mono BX2.out.drew.size))
                    have BV4 := Lib.hid (BV2.out.drew.trans (hb1.mono BV2.out.drew.size))
                    clear hb1 ho1 u0 u2 z0 z1 z2 z3 z4
                    cases q3 : l.any (pFai ch ss ya)
                    case true =>
                      have HT2 := Lib.hid (show (a.take (k5 + 1)).all (fExp ch ss l b) = true from HT.out.trans (HQ.out.trans q3))
                      clear HT HF HQ q3
                      go_wp2
                      go_roundg (a.length - (k5 + 1))
                      case measure => omega
                      case rel => exact ⟨k5 + 1, by omega, by omega, by go_num, BV4.out, HT2.out⟩
                    case false =>
                      have HR0 := Lib.hid (EA.out (HF.out (HQ.out.trans q3)))
                      clear HT HF HQ q3
                      go_wp2
                      go_ret
                      exact ⟨ret_int HR0.out, BX4.out⟩
            case neg =>
            have hltz5 : ¬ (k5 : Int) < (a.length : Int) := by omega
            have hke : k5 = a.length := by omega
            have HR0 := Lib.hid (EZ.out HKB.out (by have := AL.out; rwa [hke, List.take_length] at this))
            have BX2 := Lib.hid BX
            clear hke AL BX BW
            go_wp2
            go_ret
            exact ⟨ret_int HR0.out, BX2.out⟩
end Go.Proofs.Ytdmcceekaopghaa
