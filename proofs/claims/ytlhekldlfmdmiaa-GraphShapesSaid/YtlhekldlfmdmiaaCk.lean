import Derived.Test.YtlhekldlfmdmiaaAk
import Derived.Laws.Cover1
/-
  The program's Check. Conditions: those ahead of each theorem.
-/
namespace Go.Proofs.Ytlhekldlfmdmiaa
open Go.RowKit Go.Sort Go.Lib Go.Maps
open Go.Lib (hid)
set_option linter.unusedVariables false
set_option linter.unusedSimpArgs false

/-- Is a list in strict order? -/
def ascI (ns : List ByteArray) : Bool := (List.range ns.length).all fun i => decide (i = 0) || ltB (ns.getD (i - 1) ⟨#[]⟩) (ns.getD i ⟨#[]⟩)
def e0 : Ed := (⟨#[]⟩, ⟨#[]⟩)
/-- What is wrong with an edge. -/
def errA (ns : List ByteArray) (es : List Ed) (j : Nat) : Int :=
  if (hasS (es.getD j e0).1 ns && hasS (es.getD j e0).2 ns) = false then 9 else if (decide (0 < j) && !lessE (es.getD (j - 1) e0) (es.getD j e0)) = true then 1 else 0
def chkE (ns : List ByteArray) (es : List Ed) : Int := fstNZ ((List.range es.length).map (errA ns es))
def chkG (ns : List ByteArray) (es : List Ed) : Int := if 2048 < ns.length then 14 else if ascI ns = false then 1 else chkE ns es
theorem ascI_no {ns : List ByteArray} {k : Nat} (hk : k < ns.length) (h0 : 0 < k) (h : ltB (ns[k - 1]'(by omega)) ns[k] = false) : ascI ns = false := by
  unfold ascI
  rw [List.all_eq_false]
  refine ⟨k, by simpa using hk, ?_⟩
  have h1 : ¬ k = 0 := by omega
  simp [h1, hk, show k - 1 < ns.length by omega, h]
theorem ascI_yes {ns : List ByteArray} (h : ∀ k (hk : k < ns.length), 0 < k → ltB (ns[k - 1]'(by omega)) ns[k] = true) : ascI ns = true := by
  unfold ascI
  rw [List.all_eq_true]
  intro k hk
  have hk' : k < ns.length := by simpa using hk
  by_cases h0 : k = 0
  · simp [h0]
  · have := h k hk' (by omega)
    simp [h0, hk', show k - 1 < ns.length by omega, this]
theorem ascI_iff {ns : List ByteArray} : ascI ns = true ↔ AscB ns := by
  constructor
  · intro h
    have hk : ∀ k (hk : k + 1 < ns.length), ltB ns[k] ns[k + 1] = true := fun k hk => by
      cases hh : ltB ns[k] ns[k + 1] with
      | true => rfl
      | false => rw [ascI_no (k := k + 1) hk (by omega) hh] at h; cases h
    refine List.pairwise_iff_getElem.2 fun i j hi hj hij => ?_
    induction j with
    | zero => omega
    | succ j ih =>
      by_cases e : i = j
      · subst e; exact hk i hj
      · exact stoB.tr _ _ _ (ih (by omega) (by omega)) (hk j hj)
  · intro h
    exact ascI_yes fun k hk h0 => asc_getElem h (by omega) hk (by omega)
theorem chkE_stop {ns : List ByteArray} {es : List Ed} {k : Nat} (hk : k < es.length) (hz : ∀ j, j < k → errA ns es j = 0) (hx : errA ns es k ≠ 0) : chkE ns es = errA ns es k := by
  unfold chkE
  have := fstNZ_stop (xs := (List.range es.length).map (errA ns es)) (k := k) (by simpa using hk) (fun i hi hik => by simp; exact hz i hik) (by simpa using hx)
  rw [this]; simp
theorem chkE_zero {ns : List ByteArray} {es : List Ed} (hz : ∀ j, j < es.length → errA ns es j = 0) : chkE ns es = 0 := by
  unfold chkE
  exact fstNZ_zero fun i hi => by simp at hi ⊢; exact hz i hi
theorem errA_in {ns : List ByteArray} {es : List Ed} {k : Nat} (hk : k < es.length) :
    errA ns es k = if (hasS (es[k]).1 ns && hasS (es[k]).2 ns) = false then 9 else if (decide (0 < k) && !lessE (es[k - 1]'(by omega)) es[k]) = true then 1 else 0 := by
  unfold errA
  rw [show es.getD k e0 = es[k] by simp [hk], show es.getD (k - 1) e0 = es[k - 1]'(by omega) by simp [show k - 1 < es.length by omega]]
theorem below_grow' {w : World} (q : Nat) (os : Array Obj) : Below w.heap.size w (grow (w.drewN q) os) :=
  ⟨rfl, rfl, rfl, by simp [grow, World.drewN], fun b hb => by simp only [grow, World.drewN]; rw [Array.getElem?_append_left (by exact hb)]⟩
theorem _root_.Go.RowKit.Below.drewN {B : Nat} {a w : World} (h : Below B a w) (n : Nat) : Below B a (w.drewN n) := h.trans ⟨rfl, rfl, rfl, Nat.le_refl _, fun _ _ => rfl⟩
theorem getD_in {α : Type} {l : List α} {i : Nat} (h : i < l.length) (d : α) : l.getD i d = l[i] := by simp [h]

set_option maxRecDepth 100000 in
set_option maxHeartbeats 4000000 in
theorem check_any (vn : Value) (ns : List ByteArray) (es : List Ed) (ve : Value) (w : World) (hN : Sl StrR 1 w vn ns) (hS : Sl EdR 2 w ve es) (hn : es.length ≤ 1000000) :
    Calls Try.prog 30 #[.agg #[vn, ve]] w fun e w' => e = .returned (.int .i64 (chkG ns es)) ∧ Below w.heap.size w w' := by
  obtain ⟨r, c, rfl, _⟩ := id hS
  obtain ⟨rn, cn, rfl, _⟩ := id hN
  obtain ⟨_, hl, hm⟩ := sl_len hS
  obtain ⟨_, hl1, hm1⟩ := sl_len hN
  have HN := hid (fun (W : World) (hW : Below w.heap.size w W) => str_at (hN.below strR_mono hW))
  have HNs := hid (fun (W : World) (hW : Below w.heap.size w W) => hN.below strR_mono hW)
  have HE := hid (fun (W : World) (hW : Below w.heap.size w W) => ed_at (hS.below edR_mono hW))
  have HB0 := hid (show Below w.heap.size w (w.alloc (.cells #[.slice rn ns.length cn, .slice r es.length c] 25)) from (Below.refl _ _).alloc (Nat.le_refl _) _)
  have HC0 := hid (show (w.alloc (.cells #[.slice rn ns.length cn, .slice r es.length c] 25)).heap[w.heap.size]? = some (.cells #[.slice rn ns.length cn, .slice r es.length c] 25 (0, 0)) from (MapKept.heap_alloc w _).1)
  have HR := hid (show chkG ns es = if 2048 < ns.length then 14 else if ascI ns = false then 1 else chkE ns es from rfl)
  generalize chkG ns es = R at *
  clear hN hS
  by_cases hlim : 2048 < ns.length
  · have hlz : (2048 : Int) < (ns.length : Int) := by omega
    have HR1 := hid (HR.out.trans (if_pos hlim))
    go_enter Try.func30, Try.ntmps30
    go_wp2
    go_ret
    exact ⟨ret_int HR1.out, HB0.out⟩
  have hlz : ¬ (2048 : Int) < (ns.length : Int) := by omega
  have HR1 := hid (HR.out.trans (if_neg hlim))
  clear hlim HR
  go_enter Try.func30, Try.ntmps30
  go_wp2
  generalize (w.alloc (.cells #[.slice rn ns.length cn, .slice r es.length c] 25)) = W0 at *
  go_loopw [3] (fun i wr => ∃ k : Nat, 1 ≤ k ∧ k ≤ 1 + ns.length ∧ i = .int .i64 k ∧ Hid (Below W0.heap.size W0 wr) ∧ Hid (∀ j (hj : j < ns.length), 0 < j → j < k → ltB (ns[j - 1]'(by omega)) ns[j] = true)) (fun i _ => 1 + ns.length - (intOf i).toNat)
  case atStart => exact ⟨1, by omega, by omega, rfl, Below.refl _ _, hid (fun j hj h0 h1 => by omega)⟩
  case round =>
    obtain ⟨k, hk1, hk, rfl, HB, HA⟩ := hrel
    have hbw := HB0.out.trans (HB.out.mono HB0.out.size)
    have HC := hid ((HB.out.block _ (lt_of_block HC0.out)).trans HC0.out)
    have z0 := cellv HC.out 0 rfl
    by_cases hlt : k < ns.length
    · obtain ⟨b, off, rfl, hb, g0, hs⟩ := HN.out _ hbw k hlt
      obtain ⟨b', off', e, hb', g1, hs1⟩ := HN.out _ hbw (k - 1) (by omega)
      simp at e
      obtain ⟨rfl, rfl⟩ := e
      have HNo := hid (ascI_no (k := k) hlt (by omega))
      have HY := hid (fun (h : ltB (ns[k - 1]'(by omega)) ns[k] = true) => show ∀ j (hj : j < ns.length), 0 < j → j < k + 1 → ltB (ns[j - 1]'(by omega)) ns[j] = true from fun j hj h0 h1 => by
        by_cases e : j < k
        · exact HA.out j hj h0 e
        · obtain rfl : j = k := by omega
          exact h)
      have k0 : (0 : Int) ≤ (k : Int) - 1 := by omega
      have k1 : (k : Int) - 1 < (ns.length : Int) := by omega
      have k2 : (0 : Int) ≤ (k : Int) := by omega
      have k3 : (k : Int) < (ns.length : Int) := by omega
      have k4 : ((k : Int) - 1).toNat = k - 1 := by omega
      have k5 : IntKind.i64.wrap ((k : Int) - 1) = (k : Int) - 1 := by rw [IntKind.wrap_i64]; omega
      have HBw := hid hbw
      clear hbw HN HA hs hs1
      generalize ns[k] = y at *
      generalize ns[k - 1] = x at *
      have h1 := less_bytes x y
      have h3 := less_bytes y x
      have h4 := eq_bytes y x
      have h5 := eq_bytes x y
      cases hxy : ltB x y with
      | true =>
        have HY2 := hid (HY.out hxy)
        have hyx := stoB.asym hxy
        have hne : decide (y = x) = false := decide_eq_false (by rintro rfl; rw [stoB.irr] at hxy; cases hxy)
        have hne2 : decide (x = y) = false := decide_eq_false (by rintro rfl; rw [stoB.irr] at hxy; cases hxy)
        rw [hxy] at h1
        rw [hyx] at h3
        rw [hne] at h4
        rw [hne2] at h5
        clear hxy hyx hne hne2 HY HNo
        go_wp2
        go_quiet (fail)
        go_wp2
        go_roundw
        case rel => exact ⟨k + 1, by omega, by omega, by go_num, HB.out.drewN _, HY2⟩
        case measure => simp [intOf]; omega
      | false =>
        have HR2 := hid (HR1.out.trans (if_pos (HNo.out hxy)))
        rw [hxy] at h1
        clear hxy h3 h4 h5 HY HNo
        go_wp2
        go_quiet (fail)
        go_wp2
        go_ret
        exact ⟨ret_int HR2.out, HBw.out.drewN _⟩
    · have hke : ns.length ≤ k := by omega
      have HR2 := hid (HR1.out.trans (if_neg (by rw [ascI_yes (fun j hj h0 => HA.out j hj h0 (by omega))]; simp)))
      have HBw := hid hbw
      have HNw := hid (HNs.out _ hbw)
      clear HR1 HA hke hbw
      obtain ⟨wo, rfl⟩ : ∃ wo : World, wo = wr := ⟨_, rfl⟩
      go_wp2_with fail
      refine (set_ex ns _ wo HNw.out (by omega)).mono ?_
      rintro e w2 ⟨bm, rfl, hSM, hb2⟩
      have M2 := hid (fun (W : World) (hW : Below w2.heap.size w2 W) => (hSM.below hW).look)
      have B2 := hid (HBw.out.trans (hb2.mono HBw.out.size))
      have hsz0 : w.heap.size + 1 ≤ wo.heap.size := by have := HB.out.size; have := lt_of_block HC0.out; omega
      have HC2 := hid ((hb2.block w.heap.size (by omega)).trans (by assumption : wo.heap[w.heap.size]? = some (.cells #[.slice rn ns.length cn, .slice r es.length c] 25 (0, 0))))
      have hsz2 : w.heap.size + 1 ≤ w2.heap.size := by have := hb2.size; omega
      clear hSM hb2 HNw HN HNs HB z0 HB0 HC0
      have z1 := cellv HC2.out 1 rfl
      go_wp2
      go_loopw [36] (fun i wr => ∃ k : Nat, k ≤ es.length ∧ i = .int .i64 k ∧ Below w2.heap.size w2 wr ∧ Hid (∀ j, j < k → errA ns es j = 0)) (fun i _ => es.length - (intOf i).toNat)
      case atStart => exact ⟨0, by omega, rfl, Below.refl _ _, hid (fun j hj => by omega)⟩
      case round =>
        obtain ⟨k, hk, rfl, hbl, HZ⟩ := hrel
        have hbw := B2.out.trans (hbl.mono B2.out.size)
        have hzr : w.heap.size + 1 ≤ wr.heap.size := by have := hbl.size; omega
        by_cases hlt : k < es.length
        · obtain ⟨b, off, rfl, hb, g0, g1, hs0, hs1⟩ := HE.out _ hbw k hlt
          have HX := hid (errA_in (ns := ns) hlt)
          have HNo := hid (fun (h : errA ns es k ≠ 0) => chkE_stop hlt HZ.out h)
          have HY := hid (fun (h : errA ns es k = 0) => show ∀ j, j < k + 1 → errA ns es j = 0 from fun j hj => by
            by_cases e : j < k
            · exact HZ.out j e
            · obtain rfl : j = k := by omega
              exact h)
          have hW1 : Below wr.heap.size wr (wr.alloc (.cells #[.string (es[k]).1, .string (es[k]).2] 43)) := (Below.refl _ _).alloc (Nat.le_refl _) _
          have L1 := M2.out _ (hbl.trans (hW1.mono hbl.size)) (es[k]).1 hs0
          have L2 := M2.out _ (hbl.trans (hW1.mono hbl.size)) (es[k]).2 hs1
          have BW1 := hid (hbw.trans (hW1.mono hbw.size))
          have BL1 := hid (hbl.trans (hW1.mono hbl.size))
          have HC4 := hid ((hW1.block w.heap.size (by omega)).trans ((hbl.block w.heap.size (by omega)).trans HC2.out))
          have u1 := cellv HC4.out 1 rfl
          have BW2 := hid hW1
          have HPr := hid (fun (h : k ≠ 0) => HE.out _ hbw (k - 1) (by omega))
          clear HE hbl hbw hW1 hs0 hs1 HZ
          generalize errA ns es k = er at *
          generalize es[k] = y at *
          have HX2 := hid (fun (h : k ≠ 0) x (hx : es[k - 1]'(by omega) = x) => (show er = if (hasS y.1 ns && hasS y.2 ns) = false then 9 else if (decide (0 < k) && !lessE x y) = true then 1 else 0 by rw [HX.out, hx]))
          obtain ⟨y1, y2⟩ := y
          simp only at L1 L2 HX HX2 g0 g1 BW1 BL1
          have c0 : (wr.alloc (.cells #[.string y1, .string y2] 43)).cell? ⟨wr.heap.size, 0, none⟩ = some (.string y1) := cell_at rfl rfl
          have c1 : (wr.alloc (.cells #[.string y1, .string y2] 43)).cell? ⟨wr.heap.size, 1, none⟩ = some (.string y2) := cell_at rfl rfl
          generalize hasS y1 ns = p1 at *
          generalize hasS y2 ns = p2 at *
          cases p1
          case false =>
            have h9 : er = 9 := by rw [HX.out]; rfl
            have HR := hid (HR2.out.trans ((HNo.out (by omega)).trans h9))
            go_wp2
            go_ret
            exact ⟨ret_int HR.out, BW1.out⟩
          case true =>
            cases p2
            case false =>
              have h9 : er = 9 := by rw [HX.out]; rfl
              have HR := hid (HR2.out.trans ((HNo.out (by omega)).trans h9))
              go_wp2
              go_ret
              exact ⟨ret_int HR.out, BW1.out⟩
            case true =>
              by_cases h0 : k = 0
              · subst h0
                have HY2 := hid (HY.out (by rw [HX.out]; rfl))
                clear HX HX2 HY HNo HPr
                simp only [Nat.zero_mul, Nat.add_zero] at g0 g1
                go_wp2
                go_quiet (fail)
                go_wp2
                go_roundw
                case rel => exact ⟨1, by omega, rfl, BL1.out.drewN _, HY2⟩
                case measure => simp [intOf]; omega
              · obtain ⟨b', off', e, hb', f0, f1, _, _⟩ := HPr.out h0
                simp at e
                obtain ⟨rfl, rfl⟩ := e
                have HX3 := hid (HX2.out h0 _ rfl)
                clear HX HX2 HPr
                generalize es[k - 1] = x at *
                obtain ⟨x1, x2⟩ := x
                simp only at f0 f1
                have d0 := bget BW2.out f0
                have d1 := bget BW2.out f1
                have k0 : (0 : Int) ≤ (k : Int) - 1 := by omega
                have k1 : (k : Int) - 1 < (es.length : Int) := by omega
                have k4 : ((k : Int) - 1).toNat = k - 1 := by omega
                have k5 : IntKind.i64.wrap ((k : Int) - 1) = (k : Int) - 1 := by rw [IntKind.wrap_i64]; omega
                have k6 : (0 : Int) < (k : Int) := by omega
                have hpos : 0 < k := by omega
                have HG := hid (cmpE_ge (x1, x2) (y1, y2))
                have HX4 := hid (show er = if (!lessE (x1, x2) (y1, y2)) = true then 1 else 0 by rw [HX3.out]; simp [hpos])
                have hcb := cmpE_bd (x1, x2) (y1, y2)
                have HCM := hid (fun (W : World) => compare_any (x1, x2) (y1, y2) W)
                have hd : decide ((0 : Int) < (k : Int)) = true := decide_eq_true k6
                have k7 : (1 : Int) ≤ (k : Int) := by omega
                have k8 : 1 ≤ k := hpos
                have k9 : (k : Int) ≤ (es.length : Int) := by omega
                clear HX3 f0 f1
                generalize cmpE (x1, x2) (y1, y2) = cv at *
                generalize lessE (x1, x2) (y1, y2) = lv at *
                go_wp2
                generalize (wr.alloc (.cells #[.string y1, .string y2] 43)) = W1 at *
                go_region_held3 (fun w' => w'.cell? ⟨w.heap.size, 1, none⟩ = some (.slice (some ⟨b, off, none⟩) es.length c) ∧ w'.cell? ⟨b, off + (k - 1) * 2, none⟩ = some (.string x1) ∧ w'.cell? ⟨b, off + (k - 1) * 2 + 1, none⟩ = some (.string x2) ∧ w'.cell? ⟨wr.heap.size, 0, none⟩ = some (.string y1) ∧ w'.cell? ⟨wr.heap.size, 1, none⟩ = some (.string y2))
                  (first | go_keep | exact ⟨bget (below_grow' _ _) u1, bget (below_grow' _ _) d0, bget (below_grow' _ _) d1, bget (below_grow' _ _) c0, bget (below_grow' _ _) c1⟩)
                  ((go_at_call 49
                    refine (HCM.out _).mono ?_
                    rintro e w3 ⟨rfl, q, os, rfl⟩))
                all_goals
                  have hg := HG.out
                  have BLe := hid (BL1.out.trans ((below_grow' (w := W1) (1 + q) os).mono BL1.out.size))
                  have BWe := hid (BW1.out.trans ((below_grow' (w := W1) (1 + q) os).mono BW1.out.size))
                  cases lv with
                  | false =>
                    have hg2 : (0 : Int) ≤ cv := by simpa using hg
                    have h1 : er = 1 := by rw [HX4.out]; rfl
                    have HR := hid (HR2.out.trans ((HNo.out (by omega)).trans h1))
                    clear hg
                    go_wp2
                    go_ret
                    exact ⟨ret_int HR.out, BWe.out⟩
                  | true =>
                    have hg2 : ¬ (0 : Int) ≤ cv := by simpa using hg
                    have HY2 := hid (HY.out (by rw [HX4.out]; rfl))
                    clear hg
                    go_wp2
                    go_roundw
                    case rel => exact ⟨k + 1, by omega, by go_num, BLe.out, HY2⟩
                    case measure => simp [intOf]; omega
        · have hke : k = es.length := by omega
          have HR := hid (HR2.out.trans (chkE_zero fun j hj => HZ.out j (by omega)))
          have HBw := hid hbw
          clear hke HZ HE hbl hbw
          go_wp2
          go_ret
          exact ⟨ret_int HR.out, HBw.out⟩
end Go.Proofs.Ytlhekldlfmdmiaa
