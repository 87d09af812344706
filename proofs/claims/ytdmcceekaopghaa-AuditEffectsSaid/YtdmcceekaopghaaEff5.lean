/-
  Contracts of the reference's recordsAt, doneBy and failedAt. Conditions: those ahead of each theorem.
-/
import Derived.Test.YtdmcceekaopghaaEff4
namespace Go.Proofs.Ytdmcceekaopghaa
open Go.RowKit Go.Sort Go.Lib
open Go.Lib (hid)

theorem any_snoc {α : Type} {xs : List α} {f : α → Bool} {k : Nat} (h : k < xs.length) : (xs.take (k + 1)).any f = ((xs.take k).any f || f xs[k]) := by
  rw [List.take_succ_eq_append_getElem h, List.any_append]; simp
theorem any_yes {α : Type} {xs : List α} {f : α → Bool} {k : Nat} (h : k < xs.length) (hf : f xs[k] = true) : xs.any f = true := List.any_eq_true.2 ⟨_, List.getElem_mem h, hf⟩
def pRA (addr id : ByteArray) (cur : Bool) (x : In) : Bool := (eqS x.addr addr && eqS x.id id) && (!cur || x.dep.toList.isEmpty)

set_option maxHeartbeats 2000000 in
theorem recordsAt_any (lin : ByteArray) (ser : Int) (vI vP vO : Value) (is : List In) (addr id : ByteArray) (cur : Bool) (w : World) (hI : Sl InR 13 w vI is) (hP : ∃ r n c, vP = .slice r n c) (hO : ∃ r n c, vO = .slice r n c) :
    Calls Try.prog 60 #[.agg #[.string lin, .int .i64 ser, vI, vP, vO], .string addr, .string id, .bool cur] w fun r w' => r = .returned (.bool (is.any (pRA addr id cur))) ∧ Below w.heap.size w w' := by
  obtain ⟨rP, nP, cP, rfl⟩ := hP
  obtain ⟨rO, nO, cO, rfl⟩ := hO
  have HI := Lib.hid hI
  obtain ⟨r, c, rfl, hl, hm, _⟩ := hI
  unfold maxLen at hm
  have hb : Below w.heap.size w (w.alloc (.cells #[.string lin, .int .i64 ser, .slice r is.length c, .slice rP nP cP, .slice rO nO cO] 42)) := (Below.refl _ _).alloc (Nat.le_refl _) _
  have HB0 := Lib.hid hb
  have d2 := Lib.hid (show (w.alloc (.cells #[.string lin, .int .i64 ser, .slice r is.length c, .slice rP nP cP, .slice rO nO cO] 42)).cell? ⟨w.heap.size, 2, none⟩ = some (.slice r is.length c) from cell_at rfl rfl)
  clear hb
  go_enter Try.func60, Try.ntmps60
  go_wp2
  generalize (w.alloc (.cells #[.string lin, .int .i64 ser, .slice r is.length c, .slice rP nP cP, .slice rO nO cO] 42)) = W0 at *
  go_loopg [9] is.length (fun gg s9 wr => ∃ k : Nat, k ≤ is.length ∧ is.length - k ≤ gg ∧ s9 = .int .i64 k ∧ Aside (Below W0.heap.size W0 wr) ∧ Aside ((is.take k).any (pRA addr id cur) = false))
  case atStart => exact ⟨0, Nat.zero_le _, by omega, rfl, Below.refl _ _, rfl⟩
  case round =>
    obtain ⟨k, hk, hg, rfl, BW, AL⟩ := hrel
    have x2 := bget BW.out d2.out
    have hxw := World.block_lt_of_cell? wr _ x2
    simp only at hxw
    have BX := HB0.out.trans (BW.out.mono HB0.out.size)
    by_cases hlt : k < is.length
    · have hltz : (k : Int) < (is.length : Int) := by omega
      obtain ⟨bb, off, rfl, hbb, l2⟩ := in_at HI.out k hlt
      have HT := Lib.hid (show (is.take (k + 1)).any (pRA addr id cur) = pRA addr id cur is[k] by rw [any_snoc hlt, AL.out]; simp)
      have HY := Lib.hid (show pRA addr id cur is[k] = true → is.any (pRA addr id cur) = true from any_yes hlt)
      generalize is[k] = y at *
      obtain ⟨ya, yd, yid, yt, ⟨yk, yn, ys, ⟨i1, i2, i3⟩, ⟨j1, j2, j3⟩⟩, yv, yta, ycf, ⟨k1, k2, k3⟩⟩ := y
      have g0 := bget BX (l2 0 _ rfl)
      have g1 := bget BX (l2 1 _ rfl)
      have g2 := bget BX (l2 2 _ rfl)
      have g3 := bget BX (l2 3 _ rfl)
      have g4 := bget BX (l2 4 _ rfl)
      have g5 := bget BX (l2 5 _ rfl)
      have g6 := bget BX (l2 6 _ rfl)
      have g7 := bget BX (l2 7 _ rfl)
      have g8 := bget BX (l2 8 _ rfl)
      have g9 := bget BX (l2 9 _ rfl)
      have g10 := bget BX (l2 10 _ rfl)
      have g11 := bget BX (l2 11 _ rfl)
      have g12 := bget BX (l2 12 _ rfl)
      simp only [Nat.add_zero] at g0
      simp only [Sv.val] at g7 g8 g12
      have hbw := World.block_lt_of_cell? wr _ g0
      simp only at hbw
      have BX2 := Lib.hid (fun o => BX.alloc BX.size o)
      have BW2 := Lib.hid (fun o => BW.out.alloc BW.out.size o)
      have HQ := Lib.hid (show pRA addr id cur ⟨ya, yd, yid, yt, ⟨yk, yn, ys, ⟨i1, i2, i3⟩, ⟨j1, j2, j3⟩⟩, yv, yta, ycf, ⟨k1, k2, k3⟩⟩ = (((ya.toList == addr.toList) && (yid.toList == id.toList)) && (!cur || yd.toList.isEmpty)) from rfl)
      clear l2 BX BW AL
      cases q1 : (ya.toList == addr.toList)
      case false =>
        have HT2 := Lib.hid (show _ = false from HT.out.trans (HQ.out.trans (by rw [q1]; simp)))
        clear HT HY HQ
        go_wp2
        go_roundg (is.length - (k + 1))
        case measure => omega
        case rel => exact ⟨k + 1, by omega, by omega, by go_num, BW2.out _, HT2.out⟩
      case true =>
      cases q2 : (yid.toList == id.toList)
      case false =>
        have HT2 := Lib.hid (show _ = false from HT.out.trans (HQ.out.trans (by rw [q1, q2]; simp)))
        clear HT HY HQ
        go_wp2
        go_roundg (is.length - (k + 1))
        case measure => omega
        case rel => exact ⟨k + 1, by omega, by omega, by go_num, BW2.out _, HT2.out⟩
      case true =>
      cases cur
      case false =>
        have HY2 := Lib.hid (HY.out (HQ.out.trans (by rw [q1, q2]; simp)))
        clear HT HY HQ
        go_wp2
        go_ret
        exact ⟨ret_bool HY2.out, BX2.out _⟩
      case true =>
      cases q3 : yd.toList.isEmpty
      case false =>
        have HT2 := Lib.hid (show _ = false from HT.out.trans (HQ.out.trans (by rw [q1, q2, q3]; simp)))
        clear HT HY HQ
        go_wp2
        go_roundg (is.length - (k + 1))
        case measure => omega
        case rel => exact ⟨k + 1, by omega, by omega, by go_num, BW2.out _, HT2.out⟩
      case true =>
        have HY2 := Lib.hid (HY.out (HQ.out.trans (by rw [q1, q2, q3]; simp)))
        clear HT HY HQ
        go_wp2
        go_ret
        exact ⟨ret_bool HY2.out, BX2.out _⟩
    · have hltz : ¬ (k : Int) < (is.length : Int) := by omega
      have hke : k = is.length := by omega
      have HX := Lib.hid (show is.any (pRA addr id cur) = false by have := AL.out; rwa [hke, List.take_length] at this)
      have BX2 := Lib.hid BX
      clear hke AL BW BX
      go_wp2
      go_ret
      exact ⟨ret_bool HX.out, BX2.out⟩

set_option maxHeartbeats 2000000 in
theorem doneBy_any (ss : List St) (l : List Ev) (vS vL : Value) (op : Int) (id : ByteArray) (w : World) (hS : Sl StR 3 w vS ss) (hL : Sl EvR 6 w vL l) (hr : ∀ e ∈ l, e.kind = 3 → 0 ≤ e.step ∧ e.step < ss.length) :
    Calls Try.prog 59 #[vL, vS, .int .i64 op, .string id] w fun r w' => r = .returned (.bool (l.any (pSuc ss op id))) ∧ w = w' := by
  have HS := Lib.hid hS
  have HR := Lib.hid hr
  have hL2 := hL
  obtain ⟨rS, cS, rfl, hlS, hmS, _⟩ := hS
  obtain ⟨rL, cL, rfl, hlL, hmL, _⟩ := hL2
  obtain ⟨_, _, _, hE⟩ := ev_cells hL rfl
  have HE := Lib.hid hE
  unfold maxLen at hmS hmL
  clear hr hL hE
  go_enter Try.func59, Try.ntmps59
  go_wp2
  go_loop [9] (fun i => ∃ k : Nat, k ≤ l.length ∧ i = .int .i64 k ∧ Aside ((l.take k).any (pSuc ss op id) = false)) (fun i => l.length - (intOf i).toNat)
  case atStart => exact ⟨0, by omega, rfl, rfl⟩
  case round =>
    obtain ⟨k, hk, rfl, AL⟩ := hrel
    by_cases hlt : k < l.length
    · have hltz : (k : Int) < (l.length : Int) := by omega
      obtain ⟨bb, off, rfl, hbb, g0, g1, g2, g3, g4, g5⟩ := HE.out k hlt
      have HT := Lib.hid (show (l.take (k + 1)).any (pSuc ss op id) = pSuc ss op id l[k] by rw [any_snoc hlt, AL.out]; simp)
      have HY := Lib.hid (show pSuc ss op id l[k] = true → l.any (pSuc ss op id) = true from any_yes hlt)
      have hr3 := HR.out _ (List.getElem_mem hlt)
      generalize l[k] = y at *
      obtain ⟨yk, yst, yop, ya, yid, yer⟩ := y
      simp only at g0 g1 g2 g3 g4 g5 hr3
      have HQ := Lib.hid (show pSuc ss op id ⟨yk, yst, yop, ya, yid, yer⟩ = ((yk == 3 && ((ss.getD yst.toNat s0).op == op)) && (yid.toList == id.toList)) from rfl)
      clear AL
      by_cases h3 : yk = 3
      case neg =>
        have e1 : (yk == 3) = false := by simpa using h3
        have HT2 := Lib.hid (show _ = false from HT.out.trans (HQ.out.trans (by rw [e1]; simp)))
        clear HT HY HQ h3 hr3
        go_wp2
        go_round
        case rel => exact ⟨k + 1, by omega, by go_num, HT2.out⟩
        case measure => simp [intOf]; omega
      obtain ⟨h0, h1⟩ := hr3 h3
      subst h3
      clear hr3
      obtain ⟨q, rfl⟩ : ∃ q : Nat, yst = q := ⟨yst.toNat, by omega⟩
      obtain ⟨bs, os, s, hrs, _, hbs, hgd, hmem, t0, t1, r', n', c', t2⟩ := st_at HS.out q (by omega)
      subst hrs
      obtain ⟨sc, so, sn⟩ := s
      simp only at t0 t1
      rw [Int.toNat_natCast, hgd] at HQ
      simp only at HQ
      clear hgd hmem
      cases q1 : (so == op)
      case false =>
        have HT2 := Lib.hid (show _ = false from HT.out.trans (HQ.out.trans (by rw [q1]; simp)))
        clear HT HY HQ
        go_wp2
        go_round
        case rel => exact ⟨k + 1, by omega, by go_num, HT2.out⟩
        case measure => simp [intOf]; omega
      case true =>
      cases q2 : (yid.toList == id.toList)
      case false =>
        have HT2 := Lib.hid (show _ = false from HT.out.trans (HQ.out.trans (by rw [q1, q2]; simp)))
        clear HT HY HQ
        go_wp2
        go_round
        case rel => exact ⟨k + 1, by omega, by go_num, HT2.out⟩
        case measure => simp [intOf]; omega
      case true =>
        have HY2 := Lib.hid (HY.out (HQ.out.trans (by rw [q1, q2]; simp)))
        clear HT HY HQ
        go_wp2
        go_ret
        exact ⟨ret_bool HY2.out, rfl⟩
    · have hltz : ¬ (k : Int) < (l.length : Int) := by omega
      have hke : k = l.length := by omega
      have HX := Lib.hid (show l.any (pSuc ss op id) = false by have := AL.out; rwa [hke, List.take_length] at this)
      clear hke AL
      go_wp2
      go_ret
      exact ⟨ret_bool HX.out, rfl⟩

set_option maxHeartbeats 2000000 in
theorem failedAt_any (ch : List ByteArray) (ss : List St) (l : List Ev) (vC vS vL : Value) (addr : ByteArray) (w : World) (hC : Sl ChR 22 w vC ch) (hS : Sl StR 3 w vS ss) (hL : Sl EvR 6 w vL l) (hcg : ∀ s ∈ ss, 0 ≤ s.change ∧ s.change < ch.length) :
    Calls Try.prog 61 #[vC, vS, vL, .string addr] w fun r w' => r = .returned (.bool (l.any (pFai ch ss addr))) ∧ w = w' := by
  have HC := Lib.hid hC
  have HS := Lib.hid hS
  have HG := Lib.hid hcg
  have hL2 := hL
  obtain ⟨rC, cC, rfl, hlC, hmC, _⟩ := hC
  obtain ⟨rS, cS, rfl, hlS, hmS, _⟩ := hS
  obtain ⟨rL, cL, rfl, hlL, hmL, _⟩ := hL2
  obtain ⟨_, _, _, hE⟩ := ev_cells hL rfl
  have HE := Lib.hid hE
  unfold maxLen at hmS hmL hmC
  clear hcg hL hE
  go_enter Try.func61, Try.ntmps61
  go_wp2
  go_loop [9] (fun i => ∃ k : Nat, k ≤ l.length ∧ i = .int .i64 k ∧ Aside ((l.take k).any (pFai ch ss addr) = false)) (fun i => l.length - (intOf i).toNat)
  case atStart => exact ⟨0, by omega, rfl, rfl⟩
  case round =>
    obtain ⟨k, hk, rfl, AL⟩ := hrel
    by_cases hlt : k < l.length
    · have hltz : (k : Int) < (l.length : Int) := by omega
      obtain ⟨bb, off, rfl, hbb, g0, g1, g2, g3, g4, g5⟩ := HE.out k hlt
      have HT := Lib.hid (show (l.take (k + 1)).any (pFai ch ss addr) = pFai ch ss addr l[k] by rw [any_snoc hlt, AL.out]; simp)
      have HY := Lib.hid (show pFai ch ss addr l[k] = true → l.any (pFai ch ss addr) = true from any_yes hlt)
      generalize l[k] = y at *
      obtain ⟨yk, yst, yop, ya, yid, yer⟩ := y
      simp only at g0 g1 g2 g3 g4 g5
      have HQ := Lib.hid (show pFai ch ss addr ⟨yk, yst, yop, ya, yid, yer⟩ = if yk = 4 ∧ 0 ≤ yst ∧ yst < ss.length then ((ss.getD yst.toNat s0).op == 1) && eqS (ch.getD (ss.getD yst.toNat s0).change.toNat ib0) addr else false from rfl)
      clear AL
      by_cases h3 : yk = 4
      case neg =>
        have e1 : (yk == 4) = false := by simpa using h3
        have HT2 := Lib.hid (show _ = false from HT.out.trans (HQ.out.trans (if_neg (fun h => h3 h.1))))
        clear HT HY HQ h3
        go_wp2
        go_round
        case rel => exact ⟨k + 1, by omega, by go_num, HT2.out⟩
        case measure => simp [intOf]; omega
      subst h3
      by_cases h0 : 0 ≤ yst
      case neg =>
        have h0' : yst < 0 := by omega
        have HT2 := Lib.hid (show _ = false from HT.out.trans (HQ.out.trans (if_neg (fun h => h0 h.2.1))))
        clear HT HY HQ h0
        go_wp2
        go_round
        case rel => exact ⟨k + 1, by omega, by go_num, HT2.out⟩
        case measure => simp [intOf]; omega
      by_cases h1 : yst < ss.length
      case neg =>
        have h1' : (ss.length : Int) ≤ yst := by omega
        have HT2 := Lib.hid (show _ = false from HT.out.trans (HQ.out.trans (if_neg (fun h => h1 h.2.2))))
        clear HT HY HQ h1
        go_wp2
        go_round
        case rel => exact ⟨k + 1, by omega, by go_num, HT2.out⟩
        case measure => simp [intOf]; omega
      have HQ := Lib.hid (HQ.out.trans (if_pos ⟨rfl, h0, h1⟩))
      obtain ⟨q, rfl⟩ : ∃ q : Nat, yst = q := ⟨yst.toNat, by omega⟩
      obtain ⟨bs, os, s, hrs, _, hbs, hgd, hmem, t0, t1, r', n', c', t2⟩ := st_at HS.out q (by omega)
      subst hrs
      obtain ⟨c0, c1⟩ := HG.out s hmem
      obtain ⟨sc, so, sn⟩ := s
      simp only at t0 t1 c0 c1
      obtain ⟨p, rfl⟩ : ∃ p : Nat, sc = p := ⟨sc.toNat, by omega⟩
      obtain ⟨bc, oc, x, hrc, _, hbc, hgx, k0⟩ := ch_at HC.out p (by omega)
      subst hrc
      rw [Int.toNat_natCast, hgd] at HQ
      simp only [Int.toNat_natCast] at HQ
      rw [hgx] at HQ
      have HQ := Lib.hid (show _ = ((so == 1) && (x.toList == addr.toList)) from HQ.out)
      clear hgd hmem hgx
      cases q1 : (so == 1)
      case false =>
        have HT2 := Lib.hid (show _ = false from HT.out.trans (HQ.out.trans (by rw [q1]; simp)))
        clear HT HY HQ
        go_wp2
        go_round
        case rel => exact ⟨k + 1, by omega, by go_num, HT2.out⟩
        case measure => simp [intOf]; omega
      case true =>
      cases q2 : (x.toList == addr.toList)
      case false =>
        have HT2 := Lib.hid (show _ = false from HT.out.trans (HQ.out.trans (by rw [q1, q2]; simp)))
        clear HT HY HQ
        go_wp2
        go_round
        case rel => exact ⟨k + 1, by omega, by go_num, HT2.out⟩
        case measure => simp [intOf]; omega
      case true =>
        have HY2 := Lib.hid (HY.out (HQ.out.trans (by rw [q1, q2]; simp)))
        clear HT HY HQ
        go_wp2
        go_ret
        exact ⟨ret_bool HY2.out, rfl⟩
    · have hltz : ¬ (k : Int) < (l.length : Int) := by omega
      have hke : k = l.length := by omega
      have HX := Lib.hid (show l.any (pFai ch ss addr) = false by have := AL.out; rwa [hke, List.take_length] at this)
      clear hke AL
      go_wp2
      go_ret
      exact ⟨ret_bool HX.out, rfl⟩
end Go.Proofs.Ytdmcceekaopghaa
