import Derived.Test.YtlhekldlfmdmiaaLr
import Derived.Laws.StructEq
/-
  same: are two graphs equal. Conditions: those ahead of each theorem.
-/
namespace Go.Proofs.Ytlhekldlfmdmiaa
open Go.RowKit Go.Sort Go.Lib Go.Maps
open Go.Lib (hid)
set_option linter.unusedVariables false
set_option linter.unusedSimpArgs false

def sameB (ns ms : List ByteArray) (es fs : List Ed) : Bool := decide (ns = ms) && decide (es = fs)
theorem same_stop {es fs : List Ed} {k : Nat} (h : es.length = fs.length) (hk : k < es.length) (h2 : es[k] ≠ fs[k]'(by omega)) : decide (es = fs) = false :=
  decide_eq_false fun e => by subst e; exact h2 rfl
theorem same_all {es fs : List Ed} (h : es.length = fs.length) (h2 : ∀ j (hj : j < es.length), es[j] = fs[j]'(by omega)) : decide (es = fs) = true :=
  decide_eq_true (List.ext_getElem h fun j h3 h4 => h2 j h3)

set_option maxRecDepth 100000 in
theorem run_neq_ed (y1 y2 z1 z2 : ByteArray) (W : World) : (binOp .neq 43 (.agg #[.string y1, .string y2]) (.agg #[.string z1, .string z2])).run Try.prog W = .ok (.bool (!decide ((y1, y2) = (z1, z2)))) W := by
  have u3 := Try.underlying9
  have hS : Try.prog.underlying 43 = some (.struct (Try.prog.fieldsOf 43)) := by kernel_rfl
  have hp : Try.prog.stoodInHeld 43 = false := by kernel_rfl
  have a3 := Try.isAgg9
  have z3 := Try.sizeOf9
  have e1 := eq_bytes y1 z1
  have e2 := eq_bytes y2 z2
  rw [run_neq_struct, show (10000 : Nat) = 9999 + 1 from rfl, run_equalIn_agg W 9999 _ _ _ hS hp]
  simp only [Program.fieldsOf, Try.underlying43]
  go_simp
  by_cases h1 : y1 = z1 <;> by_cases h2 : y2 = z2 <;> simp [h1, h2]

set_option maxRecDepth 100000 in
set_option maxHeartbeats 2000000 in
theorem same_any (vn vm ve vf : Value) (ns ms : List ByteArray) (es fs : List Ed) (w : World) (hN : Sl StrR 1 w vn ns) (hM : Sl StrR 1 w vm ms) (hS : Sl EdR 2 w ve es) (hF : Sl EdR 2 w vf fs) :
    Calls Try.prog 20 #[.agg #[vn, ve], .agg #[vm, vf]] w fun e w' => e = .returned (.bool (sameB ns ms es fs)) ∧ Below w.heap.size w w' := by
  obtain ⟨r, c, rfl, _⟩ := id hS
  obtain ⟨rf, cf, rfl, _⟩ := id hF
  obtain ⟨rn, cn, rfl, _⟩ := id hN
  obtain ⟨rm, cm, rfl, _⟩ := id hM
  obtain ⟨_, hl, hm⟩ := sl_len hS
  obtain ⟨_, hl2, hm2⟩ := sl_len hF
  have HN := hid (fun (W : World) (hW : Below w.heap.size w W) => hN.below strR_mono hW)
  have HM := hid (fun (W : World) (hW : Below w.heap.size w W) => hM.below strR_mono hW)
  have HE := hid (fun (W : World) (hW : Below w.heap.size w W) => ed_at (hS.below edR_mono hW))
  have HF := hid (fun (W : World) (hW : Below w.heap.size w W) => ed_at (hF.below edR_mono hW))
  have HB0 := hid (show Below w.heap.size w ((w.alloc (.cells #[.slice rn ns.length cn, .slice r es.length c] 25)).alloc (.cells #[.slice rm ms.length cm, .slice rf fs.length cf] 25)) from ((Below.refl _ _).alloc (Nat.le_refl _) _).alloc (by simp) _)
  have z0 : ((w.alloc (.cells #[.slice rn ns.length cn, .slice r es.length c] 25)).alloc (.cells #[.slice rm ms.length cm, .slice rf fs.length cf] 25)).cell? ⟨w.heap.size, 0, none⟩ = some (.slice rn ns.length cn) := bget ((Below.refl _ _).alloc (Nat.le_refl _) _) (cell_at rfl rfl)
  have z1 : ((w.alloc (.cells #[.slice rn ns.length cn, .slice r es.length c] 25)).alloc (.cells #[.slice rm ms.length cm, .slice rf fs.length cf] 25)).cell? ⟨w.heap.size, 1, none⟩ = some (.slice r es.length c) := bget ((Below.refl _ _).alloc (Nat.le_refl _) _) (cell_at rfl rfl)
  have z2 : ((w.alloc (.cells #[.slice rn ns.length cn, .slice r es.length c] 25)).alloc (.cells #[.slice rm ms.length cm, .slice rf fs.length cf] 25)).cell? ⟨w.heap.size + 1, 0, none⟩ = some (.slice rm ms.length cm) := cell_at (by simp) rfl
  have z3 : ((w.alloc (.cells #[.slice rn ns.length cn, .slice r es.length c] 25)).alloc (.cells #[.slice rm ms.length cm, .slice rf fs.length cf] 25)).cell? ⟨w.heap.size + 1, 1, none⟩ = some (.slice rf fs.length cf) := cell_at (by simp) rfl
  have HR := hid (show sameB ns ms es fs = (decide (ns = ms) && decide (es = fs)) from rfl)
  generalize sameB ns ms es fs = R at *
  clear hN hS hM hF
  go_enter Try.func20, Try.ntmps20
  go_wp2_with fail
  generalize ((w.alloc (.cells #[.slice rn ns.length cn, .slice r es.length c] 25)).alloc (.cells #[.slice rm ms.length cm, .slice rf fs.length cf] 25)) = W0 at *
  refine (words_any ns ms _ _ W0 (HN.out _ HB0.out) (HM.out _ HB0.out)).mono ?_
  rintro e w1 ⟨rfl, hb1⟩
  have HB1 := hid (HB0.out.trans (hb1.mono HB0.out.size))
  have y1 := bget hb1 z1
  have y3 := bget hb1 z3
  clear hb1 z0 z1 z2 z3 HB0 HN HM
  cases hw : decide (ns = ms) with
  | false =>
    have HR1 := hid (show R = false by rw [HR.out, hw]; rfl)
    clear hw
    go_wp2
    go_ret
    exact ⟨ret_bool HR1.out, HB1.out⟩
  | true =>
    have HR1 := hid (show R = decide (es = fs) by rw [HR.out, hw]; rfl)
    clear hw HR
    by_cases hlen : es.length = fs.length
    case neg =>
      have HR2 := hid (HR1.out.trans (decide_eq_false fun e => hlen (by rw [e])))
      have hz : ¬ (es.length : Int) = (fs.length : Int) := by omega
      go_wp2
      go_ret
      exact ⟨ret_bool HR2.out, HB1.out⟩
    have HSt := hid (fun k hk h2 => same_stop (k := k) hlen hk h2)
    have HAl := hid (fun h2 => same_all hlen h2)
    have hz : (es.length : Int) = (fs.length : Int) := by omega
    go_wp2
    go_loopw [5] (fun i wr => ∃ k : Nat, k ≤ es.length ∧ i = .int .i64 k ∧ Below w1.heap.size w1 wr ∧ Hid (∀ j (hj : j < es.length), j < k → es[j] = fs[j]'(by omega))) (fun i _ => es.length - (intOf i).toNat)
    case atStart => exact ⟨0, by omega, rfl, Below.refl _ _, hid (fun j hj h => by omega)⟩
    case round =>
      obtain ⟨k, hk, rfl, hbl, HK⟩ := hrel
      have hbw := HB1.out.trans (hbl.mono HB1.out.size)
      have x1 := bget hbl y1
      have x3 := bget hbl y3
      by_cases hlt : k < es.length
      · obtain ⟨b, off, rfl, hb, g0, g1, _, _⟩ := HE.out _ hbw k hlt
        obtain ⟨b', off', rfl, hb', f0, f1, _, _⟩ := HF.out _ hbw k (by omega)
        have HS1 := hid (HSt.out k hlt)
        have HY := hid (fun (h : es[k] = fs[k]'(by omega)) => show ∀ j (hj : j < es.length), j < k + 1 → es[j] = fs[j]'(by omega) from fun j hj h2 => by
          by_cases e : j < k
          · exact HK.out j hj e
          · obtain rfl : j = k := by omega
            exact h)
        have k2 : (0 : Int) ≤ (k : Int) := by omega
        have k3 : (k : Int) < (es.length : Int) := by omega
        have k4 : (k : Int) < (fs.length : Int) := by omega
        have k5 : k < fs.length := by omega
        have HBw := hid hbw
        have HBl := hid hbl
        clear HE HF HK hbw hbl
        generalize es[k] = y at *
        generalize fs[k]'k5 = z at *
        obtain ⟨y1', y2'⟩ := y
        obtain ⟨w1', w2'⟩ := z
        simp only at g0 g1 f0 f1
        have HQ := hid (fun (W : World) => run_neq_ed y1' y2' w1' w2' W)
        by_cases hyz : (y1', y2') = (w1', w2')
        · have HY2 := hid (HY.out hyz)
          have HN := fun (W : World) => (HQ.out W).trans (by rw [decide_eq_true hyz]; rfl : Result.ok (Value.bool (!decide ((y1', y2') = (w1', w2')))) W = Result.ok (Value.bool false) W)
          clear hyz HQ HY
          go_wp2
          go_quiet (fail)
          go_wp2
          go_roundw
          case rel => exact ⟨k + 1, by omega, by go_num, HBl.out.drewN _, HY2⟩
          case measure => simp [intOf]; omega
        · have HR2 := hid (HR1.out.trans (HS1.out hyz))
          have HN := fun (W : World) => (HQ.out W).trans (by rw [decide_eq_false hyz]; rfl : Result.ok (Value.bool (!decide ((y1', y2') = (w1', w2')))) W = Result.ok (Value.bool true) W)
          clear hyz HQ HY
          go_wp2
          go_quiet (fail)
          go_wp2
          go_ret
          exact ⟨ret_bool HR2.out, HBw.out.drewN _⟩
      · have HR2 := hid (HR1.out.trans (HAl.out fun j hj => HK.out j hj (by omega)))
        have HBw := hid hbw
        clear HE HF HK hbw hbl
        go_wp2
        go_ret
        exact ⟨ret_bool HR2.out, HBw.out⟩
end Go.Proofs.Ytlhekldlfmdmiaa
