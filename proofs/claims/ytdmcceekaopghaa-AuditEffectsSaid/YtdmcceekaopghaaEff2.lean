/-
  Contracts of audit.succeeded, kept and explained. Conditions: those ahead of each theorem.
-/
import Derived.Test.YtdmcceekaopghaaEff1
namespace Go.Proofs.Ytdmcceekaopghaa
open Go.RowKit Go.Sort Go.Lib
open Go.Lib (hid)

set_option maxHeartbeats 1000000 in
theorem index_ev2 (p : Ev → Bool) (g : Nat) (lb : Array Value) (eg : ∀ args w, (callFunc g args).run Try.prog w = .ok (.enter g args) w) (v : Value) (xs : List Ev) (w : World)
    (hS : Sl (fun _ cs (x : Ev) => cs = x.cells) 6 w v xs) (hp : ∀ (W : World) (x : Ev), x ∈ xs → Below w.heap.size w W → Calls Try.prog g (#[.agg x.cells.toArray] ++ lb) W fun e w' => e = .returned (.bool (p x)) ∧ Below w.heap.size w w') :
    Calls Try.prog 70 #[v, .func (.func g) #[] lb] w fun e w' => (∃ k : Int, e = .returned (.int .i64 k) ∧ decide (0 ≤ k) = xs.any p) ∧ Below w.heap.size w w' := by
  obtain ⟨r, cap, rfl, hl, hm, he⟩ := hS
  unfold maxLen at hm
  have hrow : ∀ (W : World), Below w.heap.size w W → ∀ (j : Nat) (hj : j < xs.length), ∃ b off, r = some ⟨b, off, none⟩ ∧ Aside (∀ (i : Nat) (u : Value), (xs[j]).cells[i]? = some u → W.cell? ⟨b, off + j * 6 + i, none⟩ = some u) := fun W hW j hj => by
    obtain ⟨b, off, cs, hr, hs, hc, hx⟩ := he j hj
    exact ⟨b, off, hr, fun i v hi => bget hW (hc i v (by rw [hx]; exact hi))⟩
  clear he
  go_enter Try.func70, Try.ntmps70
  go_wp2
  go_loopg [5, 8] xs.length (fun gg _ s8 wr => ∃ kk : Nat, kk ≤ xs.length ∧ xs.length - kk ≤ gg ∧ s8 = .int .i64 kk ∧ Aside (Below w.heap.size w wr) ∧ Aside ((xs.take kk).any p = false))
  case atStart => exact ⟨0, Nat.zero_le _, by omega, rfl, Below.refl _ w, rfl⟩
  case round =>
    obtain ⟨kk, hkk, hg, rfl, BW, A⟩ := hrel
    by_cases hlt : kk < xs.length
    · have hltz : (kk : Int) < (xs.length : Int) := by omega
      obtain ⟨b, off, rfl, l2⟩ := hrow wr BW.out kk hlt
      have hcall := hp wr (xs[kk]) (List.getElem_mem hlt) BW.out
      have HT : Aside ((xs.take (kk + 1)).any p = p (xs[kk])) := by
        show _ = _
        rw [List.take_succ_eq_append_getElem hlt, List.any_append, A.out]; simp
      have HY : Aside (p (xs[kk]) = true → xs.any p = true) := fun h => List.any_eq_true.2 ⟨_, List.getElem_mem hlt, h⟩
      clear hrow hp
      generalize xs[kk] = y at *
      obtain ⟨yk, yst, yop, ya, yid, yer⟩ := y
      have g0 := l2.out 0 _ rfl
      have g1 := l2.out 1 _ rfl
      have g2 := l2.out 2 _ rfl
      have g3 := l2.out 3 _ rfl
      have g4 := l2.out 4 _ rfl
      have g5 := l2.out 5 _ rfl
      simp only [Nat.add_zero] at g0
      simp only [Ev.cells] at hcall
      clear l2
      cases hq : p (⟨yk, yst, yop, ya, yid, yer⟩ : Ev) with
      | true =>
        rw [hq] at hcall
        have HY2 : Aside (xs.any p = true) := HY.out hq
        clear HY HT hq
        go_wp2_with (go_at_fn g; refine hcall.mono ?_; rintro e w' ⟨rfl, hb'⟩)
        go_ret
        exact ⟨⟨kk, rfl, by rw [HY2.out]; simp⟩, hb'⟩
      | false =>
        rw [hq] at hcall
        have HT2 : Aside ((xs.take (kk + 1)).any p = false) := HT.out.trans hq
        clear HY HT hq
        go_wp2_with (go_at_fn g; refine hcall.mono ?_; rintro e w' ⟨rfl, hb'⟩)
        go_roundg (xs.length - (kk + 1))
        case measure => omega
        case rel => exact ⟨kk + 1, by omega, by omega, by go_num, hb', HT2⟩
    · have hltz : ¬ (kk : Int) < (xs.length : Int) := by omega
      have hk : kk = xs.length := by omega
      have HX : Aside (xs.any p = false) := by have := A.out; rw [hk, List.take_length] at this; exact this
      clear hk A
      go_wp2
      go_ret
      exact ⟨⟨-1, rfl, by rw [HX.out]; rfl⟩, BW.out⟩

theorem contains_ev2 (p : Ev → Bool) (g : Nat) (lb : Array Value) (eg : ∀ args w, (callFunc g args).run Try.prog w = .ok (.enter g args) w) (v : Value) (xs : List Ev) (w : World)
    (hS : Sl (fun _ cs (x : Ev) => cs = x.cells) 6 w v xs) (hp : ∀ (W : World) (x : Ev), x ∈ xs → Below w.heap.size w W → Calls Try.prog g (#[.agg x.cells.toArray] ++ lb) W fun e w' => e = .returned (.bool (p x)) ∧ Below w.heap.size w w') :
    Calls Try.prog 56 #[v, .func (.func g) #[] lb] w fun e w' => e = .returned (.bool (xs.any p)) ∧ Below w.heap.size w w' := by
  have hi := Lib.hid (index_ev2 p g lb eg v xs w hS hp)
  clear hS hp
  go_enter Try.func56, Try.ntmps56
  go_wp2_with fail
  refine hi.out.mono ?_
  rintro e w' ⟨⟨k, rfl, hk⟩, hb⟩
  have HK := Lib.hid hk
  clear hk
  go_wp2
  go_ret
  exact ⟨ret_bool HK.out.symm, hb⟩

theorem drN {B : Nat} {a w : World} (h : Below B a w) (n : Nat) : Below B a (w.drewN n) := h.trans ⟨rfl, rfl, rfl, Nat.le_refl _, fun _ _ => rfl⟩
def pSuc (ss : List St) (op : Int) (id : ByteArray) (e : Ev) : Bool := (e.kind == 3 && ((ss.getD e.step.toNat s0).op == op)) && eqS e.id id
theorem enters69 : ∀ args w, (callFunc 69 args).run Try.prog w = .ok (.enter 69 args) w := enters_of Try.func69 (by kernel_rfl) rfl
theorem enters57 : ∀ args w, (callFunc 57 args).run Try.prog w = .ok (.enter 57 args) w := enters_of Try.func57 (by kernel_rfl) rfl

theorem st_at {ss : List St} {w : World} {r : Option Addr} {n c : Nat} (hS : Sl StR 3 w (.slice r n c) ss) (i : Nat) (hi : i < ss.length) :
    ∃ b off s, r = some ⟨b, off, none⟩ ∧ n = ss.length ∧ b < w.heap.size ∧ ss.getD i s0 = s ∧ s ∈ ss ∧ w.cell? ⟨b, off + i * 3, none⟩ = some (.int .i64 s.change) ∧ w.cell? ⟨b, off + i * 3 + 1, none⟩ = some (.int .i64 s.op) ∧
      ∃ r' n' c', w.cell? ⟨b, off + i * 3 + 2, none⟩ = some (.slice r' n' c') := by
  obtain ⟨r', cap', hv, hl, hm, he⟩ := hS
  simp at hv
  obtain ⟨rfl, rfl, rfl⟩ := hv
  obtain ⟨b, off, cs, hr, _, hc, v, rfl, hN⟩ := he i hi
  obtain ⟨rn, cn, rfl, _⟩ := hN
  have g0 := hc 0 _ rfl
  have g1 := hc 1 _ rfl
  have g2 := hc 2 _ rfl
  exact ⟨b, off, ss[i], hr, rfl, World.block_lt_of_cell? w _ g0, by rw [List.getD_eq_getElem?_getD, List.getElem?_eq_getElem hi]; rfl, List.getElem_mem hi, by simpa using g0, g1, _, _, _, g2⟩

set_option maxHeartbeats 1000000 in
theorem clo69 (V U X : Nat) (ss : List St) (vS : Value) (op : Int) (id : ByteArray) (w0 : World) (hS : Sl StR 3 w0 vS ss) (hv : w0.cell? ⟨V, 0, none⟩ = some vS) (hu : w0.cell? ⟨U, 0, none⟩ = some (.int .i64 op)) (hx : w0.cell? ⟨X, 0, none⟩ = some (.string id)) :
    ∀ (W : World) (x : Ev), (x.kind = 3 → 0 ≤ x.step ∧ x.step < ss.length) → Below w0.heap.size w0 W →
    Calls Try.prog 69 (#[.agg x.cells.toArray] ++ #[.pointer (some ⟨V, 0, none⟩), .pointer (some ⟨U, 0, none⟩), .pointer (some ⟨X, 0, none⟩)]) W fun e w' => e = .returned (.bool (pSuc ss op id x)) ∧ Below w0.heap.size w0 w' := by
  intro W x hr hb
  obtain ⟨yk, yst, yop, ya, yid, yer⟩ := x
  have hV := bget hb hv
  have hU := bget hb hu
  have hX := bget hb hx
  have hV1 := World.block_lt_of_cell? _ _ hV
  have hU1 := World.block_lt_of_cell? _ _ hU
  have hX1 := World.block_lt_of_cell? _ _ hX
  simp at hV1 hU1 hX1
  have hS := hS.below stR_mono hb
  have HB := Lib.hid (show Below w0.heap.size w0 (W.alloc (.cells #[.int .i64 yk, .int .i64 yst, .int .i64 yop, .string ya, .string yid, .int .i64 yer] 34)) from hb.alloc hb.size _)
  have HP := Lib.hid (show pSuc ss op id ⟨yk, yst, yop, ya, yid, yer⟩ = ((yk == 3 && ((ss.getD yst.toNat s0).op == op)) && (yid.toList == id.toList)) from rfl)
  clear hb hv hu hx
  simp only [Ev.cells]
  show Calls Try.prog 69 #[.agg #[.int .i64 yk, .int .i64 yst, .int .i64 yop, .string ya, .string yid, .int .i64 yer], .pointer (some ⟨V, 0, none⟩), .pointer (some ⟨U, 0, none⟩), .pointer (some ⟨X, 0, none⟩)] W _
  rw [HP.out]
  simp only at hr
  by_cases h3 : yk = 3
  case neg =>
    have e1 : (yk == 3) = false := by simpa using h3
    rw [e1]
    clear HP hr h3
    simp only [Bool.false_and]
    go_enter Try.func69, Try.ntmps69
    go_wp2
    go_quiet (fail)
    go_wp2
    go_ret
    exact ⟨rfl, drN HB.out _⟩
  case pos =>
    obtain ⟨h0, h1⟩ := hr h3
    subst h3
    obtain ⟨k, rfl⟩ : ∃ k : Nat, yst = k := ⟨yst.toNat, by omega⟩
    have hS2 := hS
    obtain ⟨r, c, hvs, hlS, hmS, _⟩ := hS2
    subst hvs
    unfold maxLen at hmS
    obtain ⟨b, off, s, rfl, _, hbl, hgd, _, g0, g1, rn, nn, cn, g2⟩ := st_at hS k (by omega)
    rw [Int.toNat_natCast, hgd]
    have hk : (k : Int) < (ss.length : Int) := h1
    clear HP hgd hS h1
    obtain ⟨sc, so, sn⟩ := s
    simp only at g0 g1
    cases q1 : (so == op)
    case false =>
      simp only [Bool.and_false, Bool.false_and]
      go_enter Try.func69, Try.ntmps69
      go_wp2
      go_quiet (fail)
      go_wp2
      go_ret
      exact ⟨rfl, drN HB.out _⟩
    case true =>
      cases q2 : (yid.toList == id.toList)
      all_goals
        simp only [Bool.and_false, Bool.and_true]
        go_enter Try.func69, Try.ntmps69
        go_wp2
        go_quiet (fail)
        go_wp2
        go_ret
        exact ⟨rfl, drN HB.out _⟩

def ChR (_ : World) (cs : List Value) (x : ByteArray) : Prop := cs.length = 22 ∧ cs[0]? = some (.string x)
theorem chR_mono : Mono ChR := fun _ _ _ _ _ h => h
def pFai (ch : List ByteArray) (ss : List St) (addr : ByteArray) (e : Ev) : Bool :=
  if e.kind = 4 ∧ 0 ≤ e.step ∧ e.step < ss.length then ((ss.getD e.step.toNat s0).op == 1) && eqS (ch.getD (ss.getD e.step.toNat s0).change.toNat ib0) addr else false

theorem ch_at {ch : List ByteArray} {w : World} {r : Option Addr} {n c : Nat} (hS : Sl ChR 22 w (.slice r n c) ch) (i : Nat) (hi : i < ch.length) :
    ∃ b off x, r = some ⟨b, off, none⟩ ∧ n = ch.length ∧ b < w.heap.size ∧ ch.getD i ib0 = x ∧ w.cell? ⟨b, off + i * 22, none⟩ = some (.string x) := by
  obtain ⟨r', cap', hv, hl, hm, he⟩ := hS
  simp at hv
  obtain ⟨rfl, rfl, rfl⟩ := hv
  obtain ⟨b, off, cs, hr, _, hc, _, hN⟩ := he i hi
  have g0 := hc 0 _ hN
  exact ⟨b, off, ch[i], hr, rfl, World.block_lt_of_cell? w _ g0, by rw [List.getD_eq_getElem?_getD, List.getElem?_eq_getElem hi]; rfl, by simpa using g0⟩

set_option maxHeartbeats 1000000 in
theorem clo57 (V U X : Nat) (ss : List St) (ch : List ByteArray) (vS vC : Value) (addr : ByteArray) (w0 : World) (hS : Sl StR 3 w0 vS ss) (hC : Sl ChR 22 w0 vC ch) (hcg : ∀ s ∈ ss, 0 ≤ s.change ∧ s.change < ch.length)
    (hv : w0.cell? ⟨V, 0, none⟩ = some vS) (hu : w0.cell? ⟨U, 0, none⟩ = some vC) (hx : w0.cell? ⟨X, 0, none⟩ = some (.string addr)) :
    ∀ (W : World) (x : Ev), Below w0.heap.size w0 W →
    Calls Try.prog 57 (#[.agg x.cells.toArray] ++ #[.pointer (some ⟨V, 0, none⟩), .pointer (some ⟨U, 0, none⟩), .pointer (some ⟨X, 0, none⟩)]) W fun e w' => e = .returned (.bool (pFai ch ss addr x)) ∧ Below w0.heap.size w0 w' := by
  intro W x hb
  obtain ⟨yk, yst, yop, ya, yid, yer⟩ := x
  have hV := bget hb hv
  have hU := bget hb hu
  have hX := bget hb hx
  have hV1 := World.block_lt_of_cell? _ _ hV
  have hU1 := World.block_lt_of_cell? _ _ hU
  have hX1 := World.block_lt_of_cell? _ _ hX
  simp at hV1 hU1 hX1
  have hS := hS.below stR_mono hb
  have hC := hC.below chR_mono hb
  have hb1 : Below w0.heap.size w0 (W.alloc (.cells #[.int .i64 yk, .int .i64 yst, .int .i64 yop, .string ya, .string yid, .int .i64 yer] 34)) := hb.alloc hb.size _
  have HB := Lib.hid hb1
  have HB2 := Lib.hid (fun o => hb1.alloc hb1.size o)
  have hS2 := hS
  obtain ⟨rS, cS, hvs, hlS, hmS, _⟩ := hS2
  subst hvs
  unfold maxLen at hmS
  have HP := Lib.hid (show pFai ch ss addr ⟨yk, yst, yop, ya, yid, yer⟩ = if yk = 4 ∧ 0 ≤ yst ∧ yst < ss.length then ((ss.getD yst.toNat s0).op == 1) && eqS (ch.getD (ss.getD yst.toNat s0).change.toNat ib0) addr else false from rfl)
  clear hb hv hu hx hb1
  simp only [Ev.cells]
  show Calls Try.prog 57 #[.agg #[.int .i64 yk, .int .i64 yst, .int .i64 yop, .string ya, .string yid, .int .i64 yer], .pointer (some ⟨V, 0, none⟩), .pointer (some ⟨U, 0, none⟩), .pointer (some ⟨X, 0, none⟩)] W _
  rw [HP.out]
  clear HP
  by_cases h3 : yk = 4
  case neg =>
    have e1 : (yk == 4) = false := by simpa using h3
    have e2 : (yk != 4) = true := by simpa using h3
    rw [if_neg (fun h => h3 h.1)]
    clear h3 hcg hS hC
    go_enter Try.func57, Try.ntmps57
    go_wp2
    go_ret
    exact ⟨rfl, HB.out⟩
  subst h3
  by_cases h0 : 0 ≤ yst
  case neg =>
    have h0' : yst < 0 := by omega
    rw [if_neg (fun h => h0 h.2.1)]
    clear hcg hS hC h0
    go_enter Try.func57, Try.ntmps57
    go_wp2
    go_ret
    exact ⟨rfl, HB.out⟩
  by_cases h1 : yst < ss.length
  case neg =>
    have h1' : (ss.length : Int) ≤ yst := by omega
    rw [if_neg (fun h => h1 h.2.2)]
    clear hcg hS hC h1
    go_enter Try.func57, Try.ntmps57
    go_wp2
    go_ret
    exact ⟨rfl, HB.out⟩
  rw [if_pos ⟨rfl, h0, h1⟩]
  obtain ⟨k, rfl⟩ : ∃ k : Nat, yst = k := ⟨yst.toNat, by omega⟩
  obtain ⟨b, off, s, rfl, _, hbl, hgd, hmem, g0, g1, rn, nn, cn, g2⟩ := st_at hS k (by omega)
  rw [Int.toNat_natCast, hgd]
  obtain ⟨c0, c1⟩ := hcg s hmem
  clear hgd hS hcg hmem
  obtain ⟨sc, so, sn⟩ := s
  simp only at g0 g1 c0 c1
  obtain ⟨q, rfl⟩ : ∃ q : Nat, sc = q := ⟨sc.toNat, by omega⟩
  have hC2 := hC
  obtain ⟨rC, cC, hvc, hlC, hmC, _⟩ := hC2
  subst hvc
  unfold maxLen at hmC
  obtain ⟨bc, oc, x, rfl, _, hbc, hgx, k0⟩ := ch_at hC q (by omega)
  simp only [Int.toNat_natCast]
  rw [hgx]
  clear hgx hC
  cases q1 : (so == 1)
  case false =>
    simp only [Bool.false_and]
    go_enter Try.func57, Try.ntmps57
    go_wp2
    go_quiet (fail)
    go_wp2
    go_ret
    exact ⟨rfl, drN (HB2.out _) _⟩
  case true =>
    have HQ := Lib.hid (show eqS x addr = (x.toList == addr.toList) from rfl)
    rw [HQ.out]
    cases q2 : (x.toList == addr.toList)
    all_goals
      simp only [Bool.and_false, Bool.and_true]
      go_enter Try.func57, Try.ntmps57
      go_wp2
      go_quiet (fail)
      go_wp2
      go_ret
      exact ⟨rfl, drN (HB2.out _) _⟩

theorem succeeded_any (ss : List St) (l : List Ev) (vS vL : Value) (op : Int) (id : ByteArray) (w : World) (hS : Sl StR 3 w vS ss) (hL : Sl EvR 6 w vL l) (hr : ∀ e ∈ l, e.kind = 3 → 0 ≤ e.step ∧ e.step < ss.length) :
    Calls Try.prog 55 #[vS, vL, .int .i64 op, .string id] w fun r w' => r = .returned (.bool (l.any (pSuc ss op id))) ∧ Below w.heap.size w w' := by
  have HS := Lib.hid hS
  have HL := Lib.hid hL
  obtain ⟨r, c, rfl, _⟩ := hS
  obtain ⟨r2, c2, rfl, _⟩ := hL
  have hb : Below w.heap.size w (((w.alloc (.cells #[.slice r ss.length c] 22)).alloc (.cells #[.int .i64 op] 32)).alloc (.cells #[.string id] 9)) := (((Below.refl _ _).alloc (Nat.le_refl _) _).alloc (by simp) _).alloc (by simp; omega) _
  have HB := Lib.hid hb
  have hS3 := HS.out.below stR_mono hb
  have HC := Lib.hid (contains_ev2 (pSuc ss op id) 69 #[.pointer (some ⟨w.heap.size, 0, none⟩), .pointer (some ⟨w.heap.size + 1, 0, none⟩), .pointer (some ⟨w.heap.size + 1 + 1, 0, none⟩)] enters69 (.slice r2 l.length c2) l (((w.alloc (.cells #[.slice r ss.length c] 22)).alloc (.cells #[.int .i64 op] 32)).alloc (.cells #[.string id] 9)) (HL.out.below evR_mono hb)
    (fun W x hx hW => clo69 w.heap.size (w.heap.size + 1) (w.heap.size + 1 + 1) ss _ op id _ hS3 (bget ((Below.refl _ _).alloc (Nat.le_refl _) _) (cell_mid _ _ _ _ _ rfl)) (cell_mid _ _ _ _ _ (by simp)) (cell_new _ _ _ _ (by simp)) W x (hr x hx) hW))
  clear hb hS3 hr
  go_enter Try.func55, Try.ntmps55
  go_wp2_with fail
  refine HC.out.mono ?_
  rintro e w' ⟨rfl, hb'⟩
  have H2 := Lib.hid (HB.out.trans (hb'.mono HB.out.size))
  clear hb'
  go_wp2
  go_ret
  exact ⟨rfl, H2.out⟩
end Go.Proofs.Ytdmcceekaopghaa
