import Derived.Test.YtedpdpcibkceeaaDoorPnode
import Derived.Test.YtedpdpcibkceeaaDoorPeq
import Derived.OneCell
import Derived.Laws.EntriesVeiled
import Derived.Deep.DeepCutAuto
/-
  Contracts of the program's Check and of the closure in it. Conditions: those ahead of each theorem.
-/
namespace Go.Proofs.YtedpdpcibkceeaaDoor
open Go.RowKit Go.Sort Go.Lib
open Go.Lib (hid)
set_option linter.unusedVariables false
set_option linter.unusedSimpArgs false

theorem entersCk : ∀ args w, (callFunc 43 args).run Tryd.prog w = .ok (.enter 43 args) w := enters_of Tryd.func43 (by kernel_rfl) rfl
theorem heap_below {w w' : World} {b : Nat} {o : Obj} (hb : Below w.heap.size w w') (h : w.heap[b]? = some o) : w'.heap[b]? = some o := (hb.block b (lt_of_block h)).trans h
theorem heap_set {w : World} {b : Nat} {o : Obj} {p : Addr} {v : Value} (hne : b ≠ p.block) (h : w.heap[b]? = some o) : (w.setCell p v).heap[b]? = some o := (Below.heap_setCell w p v b hne).trans h

/-- What the closure leaves. -/
structure CkP (w0 W : World) (Bc Bv : Nat) (fv : Value) (res : Int × Nat) (w' : World) : Prop where
  below : Below w0.heap.size w0 w'
  size : W.heap.size ≤ w'.heap.size
  fn : w'.heap[Bv]? = some (.cells #[fv] 57 (0, 0))
  cnt : ∃ n' : Nat, w'.heap[Bc]? = some (.cells #[.int .i64 (n' : Int)] 3 (0, 0)) ∧ (res.1 = 0 → n' = res.2)

set_option maxRecDepth 100000 in
set_option maxHeartbeats 4000000 in
theorem pck_any (w0 : World) (hu : UT w0) (Bc Bv : Nat) (hBc : w0.heap.size ≤ Bc) (hBv : w0.heap.size ≤ Bv) (hne : Bc ≠ Bv) (x : Val) : ∀ (lv : Int) (n : Nat) (r : Option Addr) (c : Nat) (rk : Option Addr) (ck : Nat) (W : World), VR5 w0 r c rk ck x → 0 ≤ lv → lv ≤ 33 → n ≤ 4096 → Below w0.heap.size w0 W →
    W.heap[Bv]? = some (.cells #[.func (.func 43) #[] #[.pointer (some ⟨Bc, 0, none⟩), .pointer (some ⟨Bv, 0, none⟩)]] 57 (0, 0)) → W.heap[Bc]? = some (.cells #[.int .i64 (n : Int)] 3 (0, 0)) →
    Calls Tryd.prog 43 #[.agg #[.int .i64 x.kind, .int .i64 x.num, .string x.str, .slice r x.items.length c, .slice rk x.keys.length ck], .int .i64 lv, .pointer (some ⟨Bc, 0, none⟩), .pointer (some ⟨Bv, 0, none⟩)] W fun e w' => e = .returned (.int .i64 (chkV vU x lv n).1) ∧ CkP w0 W Bc Bv (.func (.func 43) #[] #[.pointer (some ⟨Bc, 0, none⟩), .pointer (some ⟨Bv, 0, none⟩)]) (chkV vU x lv n) w' := by
  refine Val.ind (P := fun x => ∀ (lv : Int) (n : Nat) (r : Option Addr) (c : Nat) (rk : Option Addr) (ck : Nat) (W : World), VR5 w0 r c rk ck x → 0 ≤ lv → lv ≤ 33 → n ≤ 4096 → Below w0.heap.size w0 W →
    W.heap[Bv]? = some (.cells #[.func (.func 43) #[] #[.pointer (some ⟨Bc, 0, none⟩), .pointer (some ⟨Bv, 0, none⟩)]] 57 (0, 0)) → W.heap[Bc]? = some (.cells #[.int .i64 (n : Int)] 3 (0, 0)) →
    Calls Tryd.prog 43 #[.agg #[.int .i64 x.kind, .int .i64 x.num, .string x.str, .slice r x.items.length c, .slice rk x.keys.length ck], .int .i64 lv, .pointer (some ⟨Bc, 0, none⟩), .pointer (some ⟨Bv, 0, none⟩)] W fun e w' => e = .returned (.int .i64 (chkV vU x lv n).1) ∧ CkP w0 W Bc Bv (.func (.func 43) #[] #[.pointer (some ⟨Bc, 0, none⟩), .pointer (some ⟨Bv, 0, none⟩)]) (chkV vU x lv n) w') ?_ x
  intro x ih lv n r c rk ck W hx hl0 hl1 hn hbw hfv hcn
  obtain ⟨hI, hK, _, _, hs, hkl, hil⟩ := hx.parts
  obtain ⟨_, hlc, hcm⟩ := sl_len hI
  have HI := hid hI
  have HU := hid hu
  have HX := hid hx
  have hb0 : Below W.heap.size W (W.alloc (.cells #[.int .i64 x.kind, .int .i64 x.num, .string x.str, .slice r x.items.length c, .slice rk x.keys.length ck] 26)) := (Below.refl _ _).alloc (Nat.le_refl _) _
  have BW := hid (hbw.trans (hb0.mono hbw.size))
  have SZ := hid hb0.size
  have FV := hid (heap_below hb0 hfv)
  have CN := hid (heap_below hb0 hcn)
  have HN := hid (chkV_eq vU x lv n)
  have c1 := cell_of_one (heap_below hb0 hcn)
  have f1 := free_of_one (heap_below hb0 hcn)
  have hlt1 := lt_of_block hcn
  have hlt2 := lt_of_block hfv
  have HN1 := hid hne
  have HB1 := hid hBc
  have HB2 := hid hBv
  have IH := hid ih
  have V0 := hid (show (W.alloc (.cells #[.int .i64 x.kind, .int .i64 x.num, .string x.str, .slice r x.items.length c, .slice rk x.keys.length ck] 26)).cell? ⟨W.heap.size, 3, none⟩ = some (.slice r x.items.length c) from cell_at rfl rfl)
  have ND := hid (fun (W2 : World) (h5 : VR5 W2 r c rk ck x) (h : UT W2) => pnode_any x r c rk ck W2 h5 h)
  have CR := hid (show ∀ j v, #[.int .i64 x.kind, .int .i64 x.num, .string x.str, .slice r x.items.length c, .slice rk x.keys.length ck][j]? = some v → (W.alloc (.cells #[.int .i64 x.kind, .int .i64 x.num, .string x.str, .slice r x.items.length c, .slice rk x.keys.length ck] 26)).cell? ⟨W.heap.size, j, none⟩ = some v from fun j v h => cell_at rfl h)
  clear hb0 hI hK ih hbw hfv hcn hne hBc hBv hu hx
  generalize hnv : nodeV vU x = nv at *
  clear hnv
  generalize hnx : chkV vU x lv n = nx at *
  clear hnx
  obtain ⟨nx1, nx2⟩ := nx
  simp only at *
  generalize x.kind = xk at *
  generalize x.num = xn at *
  generalize x.str = xs at *
  generalize x.keys.length = nk at *
  generalize hxi : x.items = is at *
  clear hxi
  by_cases h1 : 32 < lv
  · have HF := hid (show nx1 = 4 ∧ nx2 = n by have := HN.out; rw [if_pos h1] at this; simpa using this)
    clear V0 CR ND IH c1 f1
    go_enter Tryd.func43, Tryd.ntmps43
    go_wp2
    go_ret
    exact ⟨ret_int HF.out.1, BW.out, SZ.out, FV.out, n, CN.out, fun h => by have := HF.out.1; simp only at h; omega⟩
  have HN2 := hid (HN.out.trans (if_neg h1))
  clear HN
  by_cases h2 : 4096 ≤ n
  · have HF := hid (show nx1 = 14 ∧ nx2 = n by have := HN2.out; rw [if_pos h2] at this; simpa using this)
    have h2z : 4096 ≤ (n : Int) := by omega
    clear V0 CR ND IH
    go_enter Tryd.func43, Tryd.ntmps43
    go_wp2
    go_ret
    exact ⟨ret_int HF.out.1, BW.out, SZ.out, FV.out, n, CN.out, fun h => by have := HF.out.1; simp only at h; omega⟩
  have HN3 := hid (HN2.out.trans (if_neg h2))
  have h2z : ¬ 4096 ≤ (n : Int) := by omega
  clear HN2 h2
  -- the world behind the count
  have hc0 := CR.out 0 _ rfl
  have hc1 := CR.out 1 _ rfl
  have hc2 := CR.out 2 _ rfl
  have hc3 := CR.out 3 _ rfl
  have hc4 := CR.out 4 _ rfl
  clear CR V0
  generalize hW1 : W.alloc (.cells #[.int .i64 xk, .int .i64 xn, .string xs, .slice r is.length c, .slice rk nk ck] 26) = W1 at *
  have hcv : Bc ≠ W.heap.size := by omega
  have BW2 := hid (show Below w0.heap.size w0 (W1.setCell ⟨Bc, 0, none⟩ (.int .i64 ((n : Int) + 1))) from BW.out.setCell HB1.out _)
  have FV2 := hid (show (W1.setCell ⟨Bc, 0, none⟩ (.int .i64 ((n : Int) + 1))).heap[Bv]? = _ from heap_set (Ne.symm HN1.out) FV.out)
  have CN2 := hid (show (W1.setCell ⟨Bc, 0, none⟩ (.int .i64 ((n : Int) + 1))).heap[Bc]? = _ from one_setCell CN.out)
  have SZ2 := hid (show W.heap.size ≤ (W1.setCell ⟨Bc, 0, none⟩ (.int .i64 ((n : Int) + 1))).heap.size by have := SZ.out; simpa [World.setCell] using this)
  have hd : ∀ j v, W1.cell? ⟨W.heap.size, j, none⟩ = some v → (W1.setCell ⟨Bc, 0, none⟩ (.int .i64 ((n : Int) + 1))).cell? ⟨W.heap.size, j, none⟩ = some v := fun j v h => by
    rw [World.cell?_of_block (w := W1) (Below.heap_setCell W1 ⟨Bc, 0, none⟩ _ W.heap.size (Ne.symm hcv))]; exact h
  have D0 := hid (hd 0 _ hc0)
  have D1 := hid (hd 1 _ hc1)
  have D2 := hid (hd 2 _ hc2)
  have D3 := hid (hd 3 _ hc3)
  have D4 := hid (hd 4 _ hc4)
  have ND2 := hid (ND.out _ (HX.out.below BW2.out) (HU.out.below BW2.out))
  have hw1b : n + 1 ≤ 4097 := by omega
  clear hd ND hc0 hc1 hc2 hc3 hc4 BW FV CN SZ
  have H3 := hid (show nv = 0 ∨ nv ≠ 0 from Decidable.em _)
  have eg := entersCk
  go_enter Tryd.func43, Tryd.ntmps43
  go_upto_region 6 with (fail)
  clear hW1 c1 f1
  generalize (W1.setCell ⟨Bc, 0, none⟩ (.int .i64 ((n : Int) + 1))) = W2 at *
  have d0 := D0.out
  have d1 := D1.out
  have d2 := D2.out
  have d3 := D3.out
  have d4 := D4.out
  go_wp2_with fail
  refine ND2.out.mono ?_
  rintro e w3 ⟨rfl, hb3⟩
  have B3 := hid (BW2.out.trans (hb3.mono BW2.out.size))
  have FV3 := hid (heap_below hb3 FV2.out)
  have CN3 := hid (heap_below hb3 CN2.out)
  have SZ3 := hid (Nat.le_trans SZ2.out hb3.size)
  have e3 := bget hb3 D3.out
  clear hb3 d0 d1 d2 d3 d4 ND2 FV2 CN2 SZ2 D0 D1 D2 D3 D4 BW2
  rcases H3.out with h3 | h3
  case inr =>
    have HF := hid (show nx1 = nv ∧ nx2 = n by have := HN3.out; rw [if_pos h3] at this; simpa using this)
    have e1 : (nv != 0) = true := by simpa using h3
    have e2 : (nv == 0) = false := by simpa using h3
    have h3' := hid h3
    clear h3 HN3 H3
    go_wp2
    go_ret
    exact ⟨ret_int HF.out.1, B3.out, SZ3.out, FV3.out, n + 1, CN3.out, fun h => absurd (HF.out.1.symm.trans h) h3'.out⟩
  case inl =>
  subst h3
  have HN4 := hid (HN3.out.trans (if_neg (by simp)))
  clear HN3 H3
  go_wp2
  clear e3
  go_loopg [25] is.length (fun gg s25 wr => ∃ k m : Nat, k ≤ is.length ∧ is.length - k ≤ gg ∧ s25 = .int .i64 k ∧ m ≤ 4096 ∧ Aside (Below w0.heap.size w0 wr) ∧ Aside (W.heap.size ≤ wr.heap.size) ∧ Aside (wr.heap[Bv]? = some (.cells #[.func (.func 43) #[] #[.pointer (some ⟨Bc, 0, none⟩), .pointer (some ⟨Bv, 0, none⟩)]] 57 (0, 0))) ∧ Aside (wr.heap[Bc]? = some (.cells #[.int .i64 (m : Int)] 3 (0, 0))) ∧ Aside (chkL vU (is.take k) (lv + 1) (n + 1) = (0, m)))
  case atStart => exact ⟨0, n + 1, Nat.zero_le _, by omega, rfl, by omega, B3.out, SZ3.out, FV3.out, CN3.out, by show chkL vU (is.take 0) (lv + 1) (n + 1) = (0, n + 1); rw [List.take_zero, chkL]⟩
  case round =>
    clear B3 FV3 CN3 SZ3
    obtain ⟨k, m, hk, hg, rfl, hm, BX, SX, FX, CX, AL⟩ := hrel
    by_cases hlt : k < is.length
    case neg =>
      have hltz : ¬ (k : Int) < (is.length : Int) := by omega
      have HF := hid (show nx1 = 0 ∧ nx2 = m by
        have := AL.out
        rw [show k = is.length by omega, List.take_length, ← HN4.out] at this
        simpa using this)
      clear AL
      go_wp2
      go_ret
      exact ⟨ret_int HF.out.1, BX.out, SX.out, FX.out, m, CX.out, fun _ => HF.out.2.symm⟩
    have hltz : (k : Int) < (is.length : Int) := by omega
    obtain ⟨b, off, ri, ci, rk', ck', rfl, hb, g0, g1, g2, g3, g4, h5⟩ := val_at HI.out k hlt
    have g0' := bget BX.out g0
    have g1' := bget BX.out g1
    have g2' := bget BX.out g2
    have g3' := bget BX.out g3
    have g4' := bget BX.out g4
    have C := hid (fun (W' : World) => IH.out _ (List.getElem_mem hlt) (lv + 1) m ri ci rk' ck' W' h5 (by omega) (by omega) hm)
    have HS := hid (fun h0 => chkL_snoc vU hlt AL.out h0)
    have HP := hid (fun h0 => chkL_stop vU hlt AL.out h0)
    have hbd := chk_bd vU is[k] (lv + 1) m hm
    clear h5 AL g0 g1 g2 g3 g4 hb
    generalize is[k] = y at *
    generalize chkV vU y (lv + 1) m = cv at *
    obtain ⟨c1, c2⟩ := cv
    obtain ⟨yk, yn, ys, yi, yks⟩ := y
    simp only [Val.kind, Val.num, Val.str, Val.items, Val.keys] at g0' g1' g2' g3' g4' C HS HP hbd
    have hbA : Below wr.heap.size wr (wr.alloc (.cells #[.int .i64 yk, .int .i64 yn, .string ys, .slice ri yi.length ci, .slice rk' yks.length ck'] 26)) := (Below.refl _ _).alloc (Nat.le_refl _) _
    have v1 := cell_of_one (heap_below hbA FX.out)
    have v2 := lt_of_block FX.out
    have v3 := cell_of_one FX.out
    have CA := hid (C.out _ (BX.out.trans (hbA.mono BX.out.size)) (heap_below hbA FX.out) (heap_below hbA CX.out))
    have SA := hid (Nat.le_trans SX.out hbA.size)
    clear hbA C
    by_cases h0 : c1 = 0
    case pos =>
      subst h0
      have HT := hid (HS.out rfl)
      clear HS HP
      go_wp2_with fail
      refine CA.out.mono ?_
      rintro e w4 ⟨rfl, hp4⟩
      have HP4 := hid hp4
      clear hp4
      go_wp2
      obtain ⟨p1, p2, p3, n', p4, p5⟩ := HP4.out
      obtain rfl : n' = c2 := p5 rfl
      have P1 := hid p1
      have P2 := hid (Nat.le_trans SA.out p2)
      have P3 := hid p3
      have P4 := hid p4
      clear p1 p2 p3 p4 p5
      go_roundg (is.length - (k + 1))
      case measure => omega
      case rel => exact ⟨k + 1, n', by omega, by omega, by go_num, hbd, P1.out, P2.out, P3.out, P4.out, HT.out⟩
    case neg =>
      have HF := hid (show nx1 = c1 ∧ nx2 = c2 by have := HN4.out.trans (HP.out h0); simpa using this)
      have e1 : (c1 != 0) = true := by simpa using h0
      have e2 : (c1 == 0) = false := by simpa using h0
      have h0' := hid h0
      clear HS HP h0
      go_wp2_with fail
      refine CA.out.mono ?_
      rintro e w4 ⟨rfl, hp4⟩
      have HP4 := hid hp4
      clear hp4
      go_wp2
      obtain ⟨p1, p2, p3, n', p4, p5⟩ := HP4.out
      go_ret
      exact ⟨ret_int HF.out.1, p1, Nat.le_trans SA.out p2, p3, n', p4, fun h => absurd (HF.out.1.symm.trans h) h0'.out⟩

set_option maxRecDepth 100000 in
set_option maxHeartbeats 4000000 in
theorem pCheck_any (x : Val) (r : Option Addr) (c : Nat) (rk : Option Addr) (ck : Nat) (w : World) (hx : VR5 w r c rk ck x) (hu : UT w) :
    Calls Tryd.prog 12 #[.agg #[.int .i64 x.kind, .int .i64 x.num, .string x.str, .slice r x.items.length c, .slice rk x.keys.length ck]] w fun e w' => e = .returned (.int .i64 (checkV vU x)) ∧ Below w.heap.size w w' := by
  have hb : Below w.heap.size w (((w.alloc (.cells #[.int .i64 x.kind, .int .i64 x.num, .string x.str, .slice r x.items.length c, .slice rk x.keys.length ck] 26)).alloc (.cells #[.int .i64 0] 3)).alloc (.cells #[.func (.func 43) #[] #[.pointer (some ⟨w.heap.size + 1, 0, none⟩), .pointer (some ⟨w.heap.size + 1 + 1, 0, none⟩)]] 57)) := (((Below.refl _ _).alloc (Nat.le_refl _) _).alloc (by simp) _).alloc (by simp; omega) _
  have C := hid (pck_any w hu (w.heap.size + 1) (w.heap.size + 1 + 1) (by omega) (by omega) (by omega) x 1 0 r c rk ck _ hx (by omega) (by omega) (by omega) hb
    ((congrArg _ (by simp)).trans (MapKept.heap_alloc _ _).1) ((Below.heap_alloc _ _ _ (by simp)).trans ((congrArg _ (by simp)).trans (MapKept.heap_alloc _ _).1)))
  have HN := hid (show checkV vU x = (chkV vU x 1 0).1 from rfl)
  clear hb hx hu
  generalize chkV vU x 1 0 = cv at *
  obtain ⟨c1, c2⟩ := cv
  simp only at *
  generalize checkV vU x = nx at *
  generalize x.kind = xk at *
  generalize x.num = xn at *
  generalize x.str = xs at *
  generalize x.keys.length = nk at *
  generalize x.items.length = ni at *
  have eg := entersCk
  have hmf : ∀ (fn : Fn) (first cap : Array Value) (w : World), (Instr.makeFunc fn first cap).run Tryd.prog w = .ok (.func fn first cap) w := fun _ _ _ _ => rfl
  go_enter Tryd.func12, Tryd.ntmps12
  go_wp2_with fail
  refine C.out.mono ?_
  rintro e w4 ⟨rfl, hp4⟩
  have HP4 := hid hp4
  clear hp4
  go_wp2
  go_ret
  exact ⟨ret_int HN.out, HP4.out.below⟩
end Go.Proofs.YtedpdpcibkceeaaDoor
