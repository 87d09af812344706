import Derived.Test.YtlhekldlfmdmiaaRk
/-
  light and right: is a graph small, is it valid. Conditions: those ahead of each theorem.
-/
namespace Go.Proofs.Ytlhekldlfmdmiaa
open Go.RowKit Go.Sort Go.Lib Go.Maps
open Go.Lib (hid)
set_option linter.unusedVariables false
set_option linter.unusedSimpArgs false

def shortB (l : List ByteArray) : Bool := l.all fun s => decide (s.size ≤ 100)
def lightB (ns : List ByteArray) (es : List Ed) : Bool := decide (ns.length ≤ 60) && decide (es.length ≤ 200) && shortB ns
theorem shortB_no {l : List ByteArray} {k : Nat} (hk : k < l.length) (h : ¬ (l[k]).size ≤ 100) : shortB l = false := by
  unfold shortB
  rw [List.all_eq_false]
  exact ⟨_, List.getElem_mem hk, by simpa using h⟩
theorem shortB_take {l : List ByteArray} {k : Nat} (hk : k < l.length) : shortB (l.take (k + 1)) = (shortB (l.take k) && decide ((l[k]).size ≤ 100)) := by
  unfold shortB
  rw [List.take_succ_eq_append_getElem hk, List.all_append]; simp

set_option maxRecDepth 100000 in
set_option maxHeartbeats 2000000 in
theorem light_any (vn : Value) (ns : List ByteArray) (es : List Ed) (ve : Value) (w : World) (hN : Sl StrR 1 w vn ns) (hS : Sl EdR 2 w ve es) :
    Calls Try.prog 17 #[vn, ve] w fun e w' => e = .returned (.bool (lightB ns es)) ∧ w' = w := by
  obtain ⟨r, c, rfl, _⟩ := id hS
  obtain ⟨rn, cn, rfl, _⟩ := id hN
  obtain ⟨_, hl, hm⟩ := sl_len hS
  obtain ⟨_, hl1, hm1⟩ := sl_len hN
  have HN := hid (str_at hN)
  have HR := hid (show lightB ns es = (decide (ns.length ≤ 60) && decide (es.length ≤ 200) && shortB ns) from rfl)
  generalize lightB ns es = R at *
  clear hN hS
  by_cases h1 : ns.length ≤ 60
  case neg =>
    have HR1 := hid (show R = false by rw [HR.out, decide_eq_false h1]; rfl)
    have z1 : (60 : Int) < (ns.length : Int) := by omega
    go_enter Try.func17, Try.ntmps17
    go_wp2
    go_ret
    exact ⟨ret_bool HR1.out, rfl⟩
  by_cases h2 : es.length ≤ 200
  case neg =>
    have HR1 := hid (show R = false by rw [HR.out, decide_eq_false h2, Bool.and_false]; rfl)
    have z1 : ¬ (60 : Int) < (ns.length : Int) := by omega
    have z2 : (200 : Int) < (es.length : Int) := by omega
    go_enter Try.func17, Try.ntmps17
    go_wp2
    go_ret
    exact ⟨ret_bool HR1.out, rfl⟩
  have HR1 := hid (show R = shortB ns by rw [HR.out, decide_eq_true h1, decide_eq_true h2]; rfl)
  have z1 : ¬ (60 : Int) < (ns.length : Int) := by omega
  have z2 : ¬ (200 : Int) < (es.length : Int) := by omega
  clear HR
  go_enter Try.func17, Try.ntmps17
  go_wp2
  go_loopw [5] (fun i wr => ∃ k : Nat, k ≤ ns.length ∧ i = .int .i64 k ∧ wr = w ∧ Hid (shortB (ns.take k) = true)) (fun i _ => ns.length - (intOf i).toNat)
  case atStart => exact ⟨0, by omega, rfl, rfl, hid rfl⟩
  case round =>
    obtain ⟨k, hk, rfl, rfl, HK⟩ := hrel
    by_cases hlt : k < ns.length
    · obtain ⟨b, off, rfl, hb, g0, hs⟩ := HN.out k hlt
      have HT := hid (shortB_take hlt)
      have HNo := hid (shortB_no hlt)
      have k2 : (0 : Int) ≤ (k : Int) := by omega
      have k3 : (k : Int) < (ns.length : Int) := by omega
      generalize ns[k] = y at *
      by_cases h3 : y.size ≤ 100
      · have z3 : ¬ (100 : Int) < (y.size : Int) := by omega
        have HT2 := hid (show shortB (ns.take (k + 1)) = true by rw [HT.out, HK.out, decide_eq_true h3]; rfl)
        clear HT HNo
        go_wp2
        go_roundw
        case rel => exact ⟨k + 1, by omega, by go_num, by first | trivial | rfl, HT2⟩
        case measure => simp [intOf]; omega
      · have z3 : (100 : Int) < (y.size : Int) := by omega
        have HR2 := hid (HR1.out.trans (HNo.out h3))
        clear HT HNo
        go_wp2
        go_ret
        exact ⟨ret_bool HR2.out, rfl⟩
    · obtain rfl : k = ns.length := by omega
      have HR2 := hid (show R = true by have h5 := HK.out; rw [List.take_length] at h5; rw [HR1.out, h5])
      go_wp2
      go_ret
      exact ⟨ret_bool HR2.out, rfl⟩

def rightB (ns : List ByteArray) (es : List Ed) : Bool := lightB ns es && decide (chkG ns es = 0)
theorem lightB_bd {ns : List ByteArray} {es : List Ed} (h : lightB ns es = true) : ns.length ≤ 60 ∧ es.length ≤ 200 := by
  unfold lightB at h
  simp only [Bool.and_eq_true, decide_eq_true_eq] at h
  exact ⟨h.1.1, h.1.2⟩

set_option maxRecDepth 100000 in
set_option maxHeartbeats 2000000 in
theorem right_any (vn : Value) (ns : List ByteArray) (es : List Ed) (ve : Value) (w : World) (hN : Sl StrR 1 w vn ns) (hS : Sl EdR 2 w ve es) :
    Calls Try.prog 10 #[.agg #[vn, ve]] w fun e w' => e = .returned (.bool (rightB ns es)) ∧ Below w.heap.size w w' := by
  obtain ⟨r, c, rfl, _⟩ := id hS
  obtain ⟨rn, cn, rfl, _⟩ := id hN
  have HN := hid (fun (W : World) (hW : Below w.heap.size w W) => hN.below strR_mono hW)
  have HE := hid (fun (W : World) (hW : Below w.heap.size w W) => hS.below edR_mono hW)
  have HB0 := hid (show Below w.heap.size w (w.alloc (.cells #[.slice rn ns.length cn, .slice r es.length c] 25)) from (Below.refl _ _).alloc (Nat.le_refl _) _)
  have HC0 := hid (show (w.alloc (.cells #[.slice rn ns.length cn, .slice r es.length c] 25)).heap[w.heap.size]? = some (.cells #[.slice rn ns.length cn, .slice r es.length c] 25 (0, 0)) from (MapKept.heap_alloc w _).1)
  have HR := hid (show rightB ns es = (lightB ns es && decide (chkG ns es = 0)) from rfl)
  have HBD := hid (fun h => lightB_bd (ns := ns) (es := es) h)
  generalize rightB ns es = R at *
  clear hN hS
  go_enter Try.func10, Try.ntmps10
  go_wp2_with fail
  generalize (w.alloc (.cells #[.slice rn ns.length cn, .slice r es.length c] 25)) = W0 at *
  have z0 := cellv HC0.out 0 rfl
  have z1 := cellv HC0.out 1 rfl
  go_wp2_with fail
  refine (light_any _ ns es _ W0 (HN.out _ HB0.out) (HE.out _ HB0.out)).mono ?_
  rintro e w1 ⟨rfl, rfl⟩
  cases hl : lightB ns es with
  | false =>
    have HR1 := hid (show R = false by rw [HR.out, hl]; rfl)
    clear hl
    go_wp2
    go_ret
    exact ⟨ret_bool HR1.out, HB0.out⟩
  | true =>
    have hb := HBD.out hl
    have HR1 := hid (show R = decide (chkG ns es = 0) by rw [HR.out, hl]; rfl)
    clear hl
    go_wp2_with fail
    refine (rcheck_any _ ns es _ w1 (HN.out _ HB0.out) (HE.out _ HB0.out) (by omega)).mono ?_
    rintro e w2 ⟨rfl, hb2⟩
    have HB2 := hid (HB0.out.trans (hb2.mono HB0.out.size))
    clear hb2
    generalize chkG ns es = cv at *
    by_cases h0 : cv = 0
    · subst h0
      have HR2 := hid (HR1.out.trans (decide_eq_true rfl))
      go_wp2
      go_ret
      exact ⟨ret_bool HR2.out, HB2.out⟩
    · have HR2 := hid (show R = (cv == 0) from HR1.out)
      go_wp2
      go_ret
      exact ⟨ret_bool HR2.out, HB2.out⟩
end Go.Proofs.Ytlhekldlfmdmiaa
