/-
  Contracts of audit.kept and audit.explained. Conditions: those ahead of each theorem.
-/
import Derived.Test.YtdmcceekaopghaaEff2
import Derived.Deep.DeepCutAuto
namespace Go.Proofs.Ytdmcceekaopghaa
open Go.RowKit Go.Sort Go.Lib
open Go.Lib (hid)

def fKep (ss : List St) (l : List Ev) (a : List In) (i : In) : Bool := a.any (pKep i.addr i.id) || l.any (pSuc ss 3 i.id)
def fExp (ch : List ByteArray) (ss : List St) (l : List Ev) (b : List In) (i : In) : Bool := (l.any (pFai ch ss i.addr) || b.any (pRec i.id)) || l.any (pSuc ss 1 i.id)
theorem cell_up {W : World} {a : Addr} {v : Value} {o : Obj} (h : W.cell? a = some v) : (W.alloc o).cell? a = some v := bget ((Below.refl _ _).alloc (Nat.le_refl _) _) h
theorem cell_at {W : World} {C : Array Value} {T b j : Nat} {v : Value} {fr : Nat × Nat} (hb : b = W.heap.size) (h : C[j]? = some v) : (W.alloc (.cells C T fr)).cell? ⟨b, j, none⟩ = some v := by
  subst hb
  unfold World.cell?
  rw [show (W.alloc (.cells C T fr)).heap[(⟨W.heap.size, j, none⟩ : Addr).block]? = some (.cells C T fr) from heap_alloc_new W _]
  simpa using h
theorem all_snoc {α : Type} {xs : List α} {f : α → Bool} {k : Nat} (h : k < xs.length) : (xs.take (k + 1)).all f = ((xs.take k).all f && f xs[k]) := by
  rw [List.take_succ_eq_append_getElem h, List.all_append]; simp
theorem all_no {α : Type} {xs : List α} {f : α → Bool} {k : Nat} (h : k < xs.length) (hf : f xs[k] = false) : xs.all f = false := by
  rw [List.all_eq_false]; exact ⟨_, List.getElem_mem h, by simp [hf]⟩
theorem in_at {is : List In} {w : World} {r : Option Addr} {n c : Nat} (hS : Sl InR 13 w (.slice r n c) is) (i : Nat) (hi : i < is.length) :
    ∃ b off, r = some ⟨b, off, none⟩ ∧ b < w.heap.size ∧ ∀ (j : Nat) (u : Value), (is[i]).cells[j]? = some u → w.cell? ⟨b, off + i * 13 + j, none⟩ = some u := by
  obtain ⟨r', cap', hv, hl, hm, he⟩ := hS
  simp at hv
  obtain ⟨rfl, rfl, rfl⟩ := hv
  obtain ⟨b, off, cs, hr, _, hc, hN⟩ := he i hi
  simp only [InR] at hN
  subst hN
  have g0 := hc 0 _ rfl
  exact ⟨b, off, hr, World.block_lt_of_cell? w _ g0, hc⟩

set_option maxHeartbeats 2000000 in
theorem kept_any (lin lin2 : ByteArray) (ser ser2 : Int) (vS vL vI vP vO vI2 vP2 vO2 : Value) (ss : List St) (l : List Ev) (b a : List In) (w : World) (hS : Sl StR 3 w vS ss) (hL : Sl EvR 6 w vL l) (hr : ∀ e ∈ l, e.kind = 3 → 0 ≤ e.step ∧ e.step < ss.length)
    (hI : Sl InR 13 w vI b) (hP : ∃ r n c, vP = .slice r n c) (hO : ∃ r n c, vO = .slice r n c) (hI2 : Sl InR 13 w vI2 a) (hP2 : ∃ r n c, vP2 = .slice r n c) (hO2 : ∃ r n c, vO2 = .slice r n c) :
    Calls Try.prog 38 #[vS, vL, .agg #[.string lin, .int .i64 ser, vI, vP, vO], .agg #[.string lin2, .int .i64 ser2, vI2, vP2, vO2]] w fun r w' => r = .returned (.bool (b.all (fKep ss l a))) ∧ Below w.heap.size w w' := by
  obtain ⟨rP, nP, cP, rfl⟩ := hP
  obtain ⟨rO, nO, cO, rfl⟩ := hO
  obtain ⟨rP2, nP2, cP2, rfl⟩ := hP2
  obtain ⟨rO2, nO2, cO2, rfl⟩ := hO2
  have HS := Lib.hid hS
  have HL := Lib.hid hL
  have HI := Lib.hid hI
  have HI2 := Lib.hid hI2
  have HR := Lib.hid hr
  obtain ⟨rS, cS, rfl, _⟩ := hS
  obtain ⟨rL, cL, rfl, _⟩ := hL
  obtain ⟨r, c, rfl, hl, hm, _⟩ := hI
  obtain ⟨r2, c2, rfl, _⟩ := hI2
  unfold maxLen at hm
  have hb : Below w.heap.size w ((w.alloc (.cells #[.string lin, .int .i64 ser, .slice r b.length c, .slice rP nP cP, .slice rO nO cO] 42)).alloc (.cells #[.string lin2, .int .i64 ser2, .slice r2 a.length c2, .slice rP2 nP2 cP2, .slice rO2 nO2 cO2] 42)) := ((Below.refl _ _).alloc (Nat.le_refl _) _).alloc (by simp) _
  have HB0 := Lib.hid hb
  have d2 := Lib.hid (show ((w.alloc (.cells #[.string lin, .int .i64 ser, .slice r b.length c, .slice rP nP cP, .slice rO nO cO] 42)).alloc (.cells #[.string lin2, .int .i64 ser2, .slice r2 a.length c2, .slice rP2 nP2 cP2, .slice rO2 nO2 cO2] 42)).cell? ⟨w.heap.size + 1, 2, none⟩ = some (.slice r2 a.length c2) by simp)
  clear hb hr
  go_enter Try.func38, Try.ntmps38
  go_wp2
  generalize (w.alloc (.cells #[.string lin, .int .i64 ser, .slice r b.length c, .slice rP nP cP, .slice rO nO cO] 42)).alloc (.cells #[.string lin2, .int .i64 ser2, .slice r2 a.length c2, .slice rP2 nP2 cP2, .slice rO2 nO2 cO2] 42) = W0 at *
  go_loopg [15] b.length (fun gg s15 wr => ∃ k : Nat, k ≤ b.length ∧ b.length - k ≤ gg ∧ s15 = .int .i64 k ∧ Aside (Below W0.heap.size W0 wr) ∧ Aside ((b.take k).all (fKep ss l a) = true))
  case atStart => exact ⟨0, Nat.zero_le _, by omega, rfl, Below.refl _ _, rfl⟩
  case round =>
    obtain ⟨k, hk, hg, rfl, BW, AL⟩ := hrel
    by_cases hlt : k < b.length
    · have hltz : (k : Int) < (b.length : Int) := by omega
      obtain ⟨bb, off, rfl, hbb, l2⟩ := in_at HI.out k hlt
      have HT := Lib.hid (show (b.take (k + 1)).all (fKep ss l a) = fKep ss l a b[k] by rw [all_snoc hlt, AL.out]; simp)
      have HF := Lib.hid (show fKep ss l a b[k] = false → b.all (fKep ss l a) = false from all_no hlt)
      generalize b[k] = y at *
      obtain ⟨ya, yd, yid, yt, ⟨yk, yn, ys, ⟨i1, i2, i3⟩, ⟨j1, j2, j3⟩⟩, yv, yta, ycf, ⟨k1, k2, k3⟩⟩ := y
      have g0 := bget BW.out (bget HB0.out (l2 0 _ rfl))
      have g1 := bget BW.out (bget HB0.out (l2 1 _ rfl))
      have g2 := bget BW.out (bget HB0.out (l2 2 _ rfl))
      have g3 := bget BW.out (bget HB0.out (l2 3 _ rfl))
      have g4 := bget BW.out (bget HB0.out (l2 4 _ rfl))
      have g5 := bget BW.out (bget HB0.out (l2 5 _ rfl))
      have g6 := bget BW.out (bget HB0.out (l2 6 _ rfl))
      have g7 := bget BW.out (bget HB0.out (l2 7 _ rfl))
      have g8 := bget BW.out (bget HB0.out (l2 8 _ rfl))
      have g9 := bget BW.out (bget HB0.out (l2 9 _ rfl))
      have g10 := bget BW.out (bget HB0.out (l2 10 _ rfl))
      have g11 := bget BW.out (bget HB0.out (l2 11 _ rfl))
      have g12 := bget BW.out (bget HB0.out (l2 12 _ rfl))
      simp only [Nat.add_zero] at g0
      have hbw := World.block_lt_of_cell? wr _ g0
      simp only at hbw
      have x2 := bget BW.out d2.out
      have hxw := World.block_lt_of_cell? wr _ x2
      simp only at hxw
      have hwb : Below wr.heap.size wr (wr.alloc (.cells #[.string ya, .string yd, .string yid, .string yt, .int .i64 yk, .int .i64 yn, .string ys, .slice i1 i2 i3, .slice j1 j2 j3, .int .i64 yv, .bool yta, .bool ycf, .slice k1 k2 k3] 55)) := (Below.refl _ _).alloc (Nat.le_refl _) _
      have B1 := BW.out.trans (hwb.mono BW.out.size)
      have HB1 := Lib.hid B1
      have HBW := Lib.hid (HB0.out.trans (B1.mono HB0.out.size))
      have e0 : (wr.alloc (.cells #[.string ya, .string yd, .string yid, .string yt, .int .i64 yk, .int .i64 yn, .string ys, .slice i1 i2 i3, .slice j1 j2 j3, .int .i64 yv, .bool yta, .bool ycf, .slice k1 k2 k3] 55)).cell? ⟨wr.heap.size, 0, none⟩ = some (.string ya) := by simp
      have e2 : (wr.alloc (.cells #[.string ya, .string yd, .string yid, .string yt, .int .i64 yk, .int .i64 yn, .string ys, .slice i1 i2 i3, .slice j1 j2 j3, .int .i64 yv, .bool yta, .bool ycf, .slice k1 k2 k3] 55)).cell? ⟨wr.heap.size, 2, none⟩ = some (.string yid) := by simp
      have HC := Lib.hid (contains_ins (pKep ya yid) 54 #[.pointer (some ⟨wr.heap.size, 0, none⟩)] enters54 (.slice r2 a.length c2) a _ (HI2.out.below inR_mono HBW.out) (clo54 wr.heap.size ya yid _ e0 e2))
      have E2 := Lib.hid e2
      clear l2 hwb B1 e0 e2
      simp only [Sv.val] at g7 g8 g12
      go_wp2_with fail
      refine HC.out.mono ?_
      rintro e w1 ⟨rfl, hb1⟩
      have f2 := bget hb1 E2.out
      have hf1 := World.block_lt_of_cell? w1 _ f2
      simp only at hf1
      have BW1 := Lib.hid (HBW.out.trans (hb1.mono HBW.out.size))
      have BV1 := Lib.hid (HB1.out.trans (hb1.mono HB1.out.size))
      have HQ := Lib.hid (show fKep ss l a ⟨ya, yd, yid, yt, ⟨yk, yn, ys, ⟨i1, i2, i3⟩, ⟨j1, j2, j3⟩⟩, yv, yta, ycf, ⟨k1, k2, k3⟩⟩ = (a.any (pKep ya yid) || l.any (pSuc ss 3 yid)) from rfl)
      clear HC E2 HBW HB1 hb1 BW AL
      cases q1 : a.any (pKep ya yid)
      case true =>
        have HT2 := Lib.hid (HT.out.trans (HQ.out.trans (by rw [q1]; try rfl)))
        clear HT HF HQ q1
        go_wp2
        go_roundg (b.length - (k + 1))
        case measure => omega
        case rel => exact ⟨k + 1, by omega, by omega, by go_num, BV1.out, HT2.out⟩
      case false =>
        go_wp2_with fail
        refine (succeeded_any ss l _ _ 3 yid _ (HS.out.below stR_mono BW1.out) (HL.out.below evR_mono BW1.out) HR.out).mono ?_
        rintro e w2 ⟨rfl, hb2⟩
        have BW2 := Lib.hid (BW1.out.trans (hb2.mono BW1.out.size))
        have BV2 := Lib.hid (BV1.out.trans (hb2.mono BV1.out.size))
        clear hb2 BW1 BV1
        cases q2 : l.any (pSuc ss 3 yid)
        case true =>
          have HT2 := Lib.hid (HT.out.trans (HQ.out.trans (by rw [q1, q2]; try rfl)))
          clear HT HF HQ q1 q2
          go_wp2
          go_roundg (b.length - (k + 1))
          case measure => omega
          case rel => exact ⟨k + 1, by omega, by omega, by go_num, BV2.out, HT2.out⟩
        case false =>
          have HF2 := Lib.hid (HF.out (HQ.out.trans (by rw [q1, q2]; try rfl)))
          clear HT HF HQ q1 q2
          go_wp2
          go_ret
          exact ⟨ret_bool HF2.out, BW2.out⟩
    · have hltz : ¬ (k : Int) < (b.length : Int) := by omega
      have hke : k = b.length := by omega
      have HX := Lib.hid (show b.all (fKep ss l a) = true by have := AL.out; rwa [hke, List.take_length] at this)
      have HB2 := Lib.hid (HB0.out.trans (BW.out.mono HB0.out.size))
      clear hke AL BW
      go_wp2
      go_ret
      exact ⟨ret_bool HX.out, HB2.out⟩

set_option maxHeartbeats 2000000 in
theorem explained_any (lin lin2 : ByteArray) (ser ser2 : Int) (vC vS vL vI vP vO vI2 vP2 vO2 : Value) (ch : List ByteArray) (ss : List St) (l : List Ev) (b a : List In) (w : World) (hC : Sl ChR 22 w vC ch) (hS : Sl StR 3 w vS ss) (hL : Sl EvR 6 w vL l) (hcg : ∀ s ∈ ss, 0 ≤ s.change ∧ s.change < ch.length) (hr : ∀ e ∈ l, e.kind = 3 → 0 ≤ e.step ∧ e.step < ss.length)
    (hI : Sl InR 13 w vI b) (hP : ∃ r n c, vP = .slice r n c) (hO : ∃ r n c, vO = .slice r n c) (hI2 : Sl InR 13 w vI2 a) (hP2 : ∃ r n c, vP2 = .slice r n c) (hO2 : ∃ r n c, vO2 = .slice r n c) :
    Calls Try.prog 39 #[vC, vS, vL, .agg #[.string lin, .int .i64 ser, vI, vP, vO], .agg #[.string lin2, .int .i64 ser2, vI2, vP2, vO2]] w fun r w' => r = .returned (.bool (a.all (fExp ch ss l b))) ∧ Below w.heap.size w w' := by
  have KP := Lib.hid hP
  have KO := Lib.hid hO
  obtain ⟨rP, nP, cP, rfl⟩ := hP
  obtain ⟨rO, nO, cO, rfl⟩ := hO
  obtain ⟨rP2, nP2, cP2, rfl⟩ := hP2
  obtain ⟨rO2, nO2, cO2, rfl⟩ := hO2
  have HC := Lib.hid hC
  have HS := Lib.hid hS
  have HL := Lib.hid hL
  have HI := Lib.hid hI
  have HI2 := Lib.hid hI2
  have HR := Lib.hid hr
  have HG := Lib.hid hcg
  obtain ⟨rC, cC, rfl, _⟩ := hC
  obtain ⟨rS, cS, rfl, _⟩ := hS
  obtain ⟨rL, cL, rfl, _⟩ := hL
  obtain ⟨r, c, rfl, _⟩ := hI
  obtain ⟨r2, c2, rfl, hl, hm, _⟩ := hI2
  unfold maxLen at hm
  have hb : Below w.heap.size w ((((w.alloc (.cells #[.slice rC ch.length cC] 63)).alloc (.cells #[.slice rS ss.length cS] 22)).alloc (.cells #[.string lin, .int .i64 ser, .slice r b.length c, .slice rP nP cP, .slice rO nO cO] 42)).alloc (.cells #[.string lin2, .int .i64 ser2, .slice r2 a.length c2, .slice rP2 nP2 cP2, .slice rO2 nO2 cO2] 42)) := ((((Below.refl _ _).alloc (Nat.le_refl _) _).alloc (by simp) _).alloc (by simp; omega) _).alloc (by simp; omega) _
  have HB0 := Lib.hid hb
  have d0 := Lib.hid (show ((((w.alloc (.cells #[.slice rC ch.length cC] 63)).alloc (.cells #[.slice rS ss.length cS] 22)).alloc (.cells #[.string lin, .int .i64 ser, .slice r b.length c, .slice rP nP cP, .slice rO nO cO] 42)).alloc (.cells #[.string lin2, .int .i64 ser2, .slice r2 a.length c2, .slice rP2 nP2 cP2, .slice rO2 nO2 cO2] 42)).cell? ⟨w.heap.size, 0, none⟩ = some (.slice rC ch.length cC) from cell_up (cell_up (cell_up (cell_at rfl rfl))))
  have d1 := Lib.hid (show ((((w.alloc (.cells #[.slice rC ch.length cC] 63)).alloc (.cells #[.slice rS ss.length cS] 22)).alloc (.cells #[.string lin, .int .i64 ser, .slice r b.length c, .slice rP nP cP, .slice rO nO cO] 42)).alloc (.cells #[.string lin2, .int .i64 ser2, .slice r2 a.length c2, .slice rP2 nP2 cP2, .slice rO2 nO2 cO2] 42)).cell? ⟨w.heap.size + 1, 0, none⟩ = some (.slice rS ss.length cS) from cell_up (cell_up (cell_at (by simp) rfl)))
  have b0 := Lib.hid (show ((((w.alloc (.cells #[.slice rC ch.length cC] 63)).alloc (.cells #[.slice rS ss.length cS] 22)).alloc (.cells #[.string lin, .int .i64 ser, .slice r b.length c, .slice rP nP cP, .slice rO nO cO] 42)).alloc (.cells #[.string lin2, .int .i64 ser2, .slice r2 a.length c2, .slice rP2 nP2 cP2, .slice rO2 nO2 cO2] 42)).cell? ⟨w.heap.size + 1 + 1, 0, none⟩ = some (.string lin) from cell_up (cell_at (by simp) rfl))
  have b1 := Lib.hid (show ((((w.alloc (.cells #[.slice rC ch.length cC] 63)).alloc (.cells #[.slice rS ss.length cS] 22)).alloc (.cells #[.string lin, .int .i64 ser, .slice r b.length c, .slice rP nP cP, .slice rO nO cO] 42)).alloc (.cells #[.string lin2, .int .i64 ser2, .slice r2 a.length c2, .slice rP2 nP2 cP2, .slice rO2 nO2 cO2] 42)).cell? ⟨w.heap.size + 1 + 1, 1, none⟩ = some (.int .i64 ser) from cell_up (cell_at (by simp) rfl))
  have b2 := Lib.hid (show ((((w.alloc (.cells #[.slice rC ch.length cC] 63)).alloc (.cells #[.slice rS ss.length cS] 22)).alloc (.cells #[.string lin, .int .i64 ser, .slice r b.length c, .slice rP nP cP, .slice rO nO cO] 42)).alloc (.cells #[.string lin2, .int .i64 ser2, .slice r2 a.length c2, .slice rP2 nP2 cP2, .slice rO2 nO2 cO2] 42)).cell? ⟨w.heap.size + 1 + 1, 2, none⟩ = some (.slice r b.length c) from cell_up (cell_at (by simp) rfl))
  have b3 := Lib.hid (show ((((w.alloc (.cells #[.slice rC ch.length cC] 63)).alloc (.cells #[.slice rS ss.length cS] 22)).alloc (.cells #[.string lin, .int .i64 ser, .slice r b.length c, .slice rP nP cP, .slice rO nO cO] 42)).alloc (.cells #[.string lin2, .int .i64 ser2, .slice r2 a.length c2, .slice rP2 nP2 cP2, .slice rO2 nO2 cO2] 42)).cell? ⟨w.heap.size + 1 + 1, 3, none⟩ = some (.slice rP nP cP) from cell_up (cell_at (by simp) rfl))
  have b4 := Lib.hid (show ((((w.alloc (.cells #[.slice rC ch.length cC] 63)).alloc (.cells #[.slice rS ss.length cS] 22)).alloc (.cells #[.string lin, .int .i64 ser, .slice r b.length c, .slice rP nP cP, .slice rO nO cO] 42)).alloc (.cells #[.string lin2, .int .i64 ser2, .slice r2 a.length c2, .slice rP2 nP2 cP2, .slice rO2 nO2 cO2] 42)).cell? ⟨w.heap.size + 1 + 1, 4, none⟩ = some (.slice rO nO cO) from cell_up (cell_at (by simp) rfl))
  clear hb hr hcg
  go_enter Try.func39, Try.ntmps39
  go_wp2
  generalize ((((w.alloc (.cells #[.slice rC ch.length cC] 63)).alloc (.cells #[.slice rS ss.length cS] 22)).alloc (.cells #[.string lin, .int .i64 ser, .slice r b.length c, .slice rP nP cP, .slice rO nO cO] 42)).alloc (.cells #[.string lin2, .int .i64 ser2, .slice r2 a.length c2, .slice rP2 nP2 cP2, .slice rO2 nO2 cO2] 42)) = W0 at *
  go_loopg [17] a.length (fun gg s15 wr => ∃ k : Nat, k ≤ a.length ∧ a.length - k ≤ gg ∧ s15 = .int .i64 k ∧ Aside (Below W0.heap.size W0 wr) ∧ Aside ((a.take k).all (fExp ch ss l b) = true))
  case atStart => exact ⟨0, Nat.zero_le _, by omega, rfl, Below.refl _ _, rfl⟩
  case round =>
    obtain ⟨k, hk, hg, rfl, BW, AL⟩ := hrel
    by_cases hlt : k < a.length
    · have hltz : (k : Int) < (a.length : Int) := by omega
      obtain ⟨bb, off, rfl, hbb, l2⟩ := in_at HI2.out k hlt
      have HT := Lib.hid (show (a.take (k + 1)).all (fExp ch ss l b) = fExp ch ss l b a[k] by rw [all_snoc hlt, AL.out]; simp)
      have HF := Lib.hid (show fExp ch ss l b a[k] = false → a.all (fExp ch ss l b) = false from all_no hlt)
      generalize a[k] = y at *
      obtain ⟨ya, yd, yid, yt, ⟨yk, yn, ys, ⟨i1, i2, i3⟩, ⟨j1, j2, j3⟩⟩, yv, yta, ycf, ⟨k1, k2, k3⟩⟩ := y
      have g0 := bget BW.out (bget HB0.out (l2 0 _ rfl))
      have g1 := bget BW.out (bget HB0.out (l2 1 _ rfl))
      have g2 := bget BW.out (bget HB0.out (l2 2 _ rfl))
      have g3 := bget BW.out (bget HB0.out (l2 3 _ rfl))
      have g4 := bget BW.out (bget HB0.out (l2 4 _ rfl))
      have g5 := bget BW.out (bget HB0.out (l2 5 _ rfl))
      have g6 := bget BW.out (bget HB0.out (l2 6 _ rfl))
      have g7 := bget BW.out (bget HB0.out (l2 7 _ rfl))
      have g8 := bget BW.out (bget HB0.out (l2 8 _ rfl))
      have g9 := bget BW.out (bget HB0.out (l2 9 _ rfl))
      have g10 := bget BW.out (bget HB0.out (l2 10 _ rfl))
      have g11 := bget BW.out (bget HB0.out (l2 11 _ rfl))
      have g12 := bget BW.out (bget HB0.out (l2 12 _ rfl))
      simp only [Nat.add_zero] at g0
      have hbw := World.block_lt_of_cell? wr _ g0
      simp only at hbw
      have hwb : Below wr.heap.size wr (wr.alloc (.cells #[.string ya, .string yd, .string yid, .string yt, .int .i64 yk, .int .i64 yn, .string ys, .slice i1 i2 i3, .slice j1 j2 j3, .int .i64 yv, .bool yta, .bool ycf, .slice k1 k2 k3] 55)) := (Below.refl _ _).alloc (Nat.le_refl _) _
      have B1 := BW.out.trans (hwb.mono BW.out.size)
      have HB1 := Lib.hid B1
      have HBW := Lib.hid (HB0.out.trans (B1.mono HB0.out.size))
      have e0 : (wr.alloc (.cells #[.string ya, .string yd, .string yid, .string yt, .int .i64 yk, .int .i64 yn, .string ys, .slice i1 i2 i3, .slice j1 j2 j3, .int .i64 yv, .bool yta, .bool ycf, .slice k1 k2 k3] 55)).cell? ⟨wr.heap.size, 0, none⟩ = some (.string ya) := by simp
      have e2 : (wr.alloc (.cells #[.string ya, .string yd, .string yid, .string yt, .int .i64 yk, .int .i64 yn, .string ys, .slice i1 i2 i3, .slice j1 j2 j3, .int .i64 yv, .bool yta, .bool ycf, .slice k1 k2 k3] 55)).cell? ⟨wr.heap.size, 2, none⟩ = some (.string yid) := by simp
      have HCO := Lib.hid (contains_ev2 (pFai ch ss ya) 57 #[.pointer (some ⟨w.heap.size + 1, 0, none⟩), .pointer (some ⟨w.heap.size, 0, none⟩), .pointer (some ⟨wr.heap.size, 0, none⟩)] enters57 (.slice rL l.length cL) l _ (HL.out.below evR_mono HBW.out)
        (fun W x _ hW => clo57 (w.heap.size + 1) w.heap.size wr.heap.size ss ch _ _ ya _ (HS.out.below stR_mono HBW.out) (HC.out.below chR_mono HBW.out) HG.out (bget B1 d1.out) (bget B1 d0.out) e0 W x hW))
      have E2 := Lib.hid e2
      clear l2 hwb B1 e0 e2
      simp only [Sv.val] at g7 g8 g12
      go_wp2_with fail
      refine HCO.out.mono ?_
      rintro e w1 ⟨rfl, hb1⟩
      have f2 := bget hb1 E2.out
      have hf1 := World.block_lt_of_cell? w1 _ f2
      simp only at hf1
      have BW1 := Lib.hid (HBW.out.trans (hb1.mono HBW.out.size))
      have BV1 := HB1.out.trans (hb1.mono HB1.out.size)
      have x0 := bget BV1 b0.out
      have x1 := bget BV1 b1.out
      have x2 := bget BV1 b2.out
      have x3 := bget BV1 b3.out
      have x4 := bget BV1 b4.out
      have hxw := World.block_lt_of_cell? w1 _ x2
      simp only at hxw
      have BV1 := Lib.hid BV1
      have HQ := Lib.hid (show fExp ch ss l b ⟨ya, yd, yid, yt, ⟨yk, yn, ys, ⟨i1, i2, i3⟩, ⟨j1, j2, j3⟩⟩, yv, yta, ycf, ⟨k1, k2, k3⟩⟩ = ((l.any (pFai ch ss ya) || b.any (pRec yid)) || l.any (pSuc ss 1 yid)) from rfl)
      clear HCO E2 HBW HB1 hb1 BW AL
      cases q1 : l.any (pFai ch ss ya)
      case true =>
        have HT2 := Lib.hid (HT.out.trans (HQ.out.trans (by rw [q1]; try rfl)))
        clear HT HF HQ q1
        go_wp2
        go_roundg (a.length - (k + 1))
        case measure => omega
        case rel => exact ⟨k + 1, by omega, by omega, by go_num, BV1.out, HT2.out⟩
      case false =>
        go_wp2_with fail
        refine (records_any lin ser _ _ _ b yid _ (HI.out.below inR_mono BW1.out) KP.out KO.out).mono ?_
        rintro e w2 ⟨rfl, hb2⟩
        have f2 := bget hb2 f2
        have hf1 := World.block_lt_of_cell? w2 _ f2
        simp only at hf1
        have x5 := bget hb2 (bget BV1.out d1.out)
        have hx5 := World.block_lt_of_cell? w2 _ x5
        simp only at hx5
        have BW2 := Lib.hid (BW1.out.trans (hb2.mono BW1.out.size))
        have BV2 := Lib.hid (BV1.out.trans (hb2.mono BV1.out.size))
        clear hb2 BW1 BV1
        cases q2 : b.any (pRec yid)
        case true =>
          have HT2 := Lib.hid (HT.out.trans (HQ.out.trans (by rw [q1, q2]; try rfl)))
          clear HT HF HQ q1 q2
          go_wp2
          go_roundg (a.length - (k + 1))
          case measure => omega
          case rel => exact ⟨k + 1, by omega, by omega, by go_num, BV2.out, HT2.out⟩
        case false =>
        go_wp2_with fail
        refine (succeeded_any ss l _ _ 1 yid _ (HS.out.below stR_mono BW2.out) (HL.out.below evR_mono BW2.out) HR.out).mono ?_
        rintro e w3 ⟨rfl, hb3⟩
        have BW3 := Lib.hid (BW2.out.trans (hb3.mono BW2.out.size))
        have BV3 := Lib.hid (BV2.out.trans (hb3.mono BV2.out.size))
        clear hb3 BW2 BV2
        cases q3 : l.any (pSuc ss 1 yid)
        case true =>
          have HT2 := Lib.hid (HT.out.trans (HQ.out.trans (by rw [q1, q2, q3]; try rfl)))
          clear HT HF HQ q1 q2 q3
          go_wp2
          go_roundg (a.length - (k + 1))
          case measure => omega
          case rel => exact ⟨k + 1, by omega, by omega, by go_num, BV3.out, HT2.out⟩
        case false =>
          have HF2 := Lib.hid (HF.out (HQ.out.trans (by rw [q1, q2, q3]; try rfl)))
          clear HT HF HQ q1 q2 q3
          go_wp2
          go_ret
          exact ⟨ret_bool HF2.out, BW3.out⟩
    · have hltz : ¬ (k : Int) < (a.length : Int) := by omega
      have hke : k = a.length := by omega
      have HX := Lib.hid (show a.all (fExp ch ss l b) = true by have := AL.out; rwa [hke, List.take_length] at this)
      have HB2 := Lib.hid (HB0.out.trans (BW.out.mono HB0.out.size))
      clear hke AL BW
      go_wp2
      go_ret
      exact ⟨ret_bool HX.out, HB2.out⟩
end Go.Proofs.Ytdmcceekaopghaa
