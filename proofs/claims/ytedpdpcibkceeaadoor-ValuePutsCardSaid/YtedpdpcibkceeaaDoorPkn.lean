import Derived.Test.YtedpdpcibkceeaaDoorPeq2
/-
  Contracts of slices.ContainsFunc and IndexFunc at values, and of the program's Known and Nodes. Conditions: those ahead of each theorem.
-/
namespace Go.Proofs.YtedpdpcibkceeaaDoor
open Go.RowKit Go.Sort Go.Lib
open Go.Lib (hid)
set_option linter.unusedVariables false
set_option linter.unusedSimpArgs false

set_option maxRecDepth 100000 in
set_option maxHeartbeats 1000000 in
theorem index_val (p : Val → Bool) (g : Nat) (lb : Array Value) (eg : ∀ args w, (callFunc g args).run Tryd.prog w = .ok (.enter g args) w) (is : List Val) (r : Option Addr) (c : Nat) (w : World)
    (hI : Sl VR 5 w (.slice r is.length c) is) (hp : ∀ x ∈ is, ∀ (r : Option Addr) (c : Nat) (rk : Option Addr) (ck : Nat) (W : World), Below w.heap.size w W → VR5 W r c rk ck x →
      Calls Tryd.prog g (#[.agg #[.int .i64 x.kind, .int .i64 x.num, .string x.str, .slice r x.items.length c, .slice rk x.keys.length ck]] ++ lb) W fun e w' => e = .returned (.bool (p x)) ∧ Below w.heap.size w w') :
    Calls Tryd.prog 73 #[.slice r is.length c, .func (.func g) #[] lb] w fun e w' => (∃ k : Int, e = .returned (.int .i64 k) ∧ decide (0 ≤ k) = is.any p) ∧ Below w.heap.size w w' := by
  obtain ⟨_, hlc, hcm⟩ := sl_len hI
  have HI := hid hI
  have HP := hid hp
  clear hI hp
  go_enter Tryd.func73, Tryd.ntmps73
  go_wp2
  go_loopg [5, 8] is.length (fun gg _ s8 wr => ∃ kk : Nat, kk ≤ is.length ∧ is.length - kk ≤ gg ∧ s8 = .int .i64 kk ∧ Aside (Below w.heap.size w wr) ∧ Aside ((is.take kk).any p = false))
  case atStart => exact ⟨0, Nat.zero_le _, by omega, rfl, Below.refl _ w, rfl⟩
  case round =>
    obtain ⟨kk, hkk, hg, rfl, BW, A⟩ := hrel
    by_cases hlt : kk < is.length
    · have hltz : (kk : Int) < (is.length : Int) := by omega
      obtain ⟨b, off, ri, ci, rk', ck', rfl, hb, g0, g1, g2, g3, g4, h5⟩ := val_at (slv_mono HI.out BW.out) kk hlt
      have hcall := HP.out _ (List.getElem_mem hlt) ri ci rk' ck' wr BW.out h5
      have HT : Aside ((is.take (kk + 1)).any p = p (is[kk])) := by
        show _ = _
        rw [List.take_succ_eq_append_getElem hlt, List.any_append, A.out]; simp
      have HY : Aside (p (is[kk]) = true → is.any p = true) := fun h => List.any_eq_true.2 ⟨_, List.getElem_mem hlt, h⟩
      clear h5
      generalize is[kk] = y at *
      generalize hq : p y = q at *
      clear hq
      obtain ⟨yk, yn, ys, yi, yks⟩ := y
      simp only [Val.kind, Val.num, Val.str, Val.items, Val.keys] at g0 g1 g2 g3 g4 hcall
      cases q with
      | true =>
        have HY2 : Aside (is.any p = true) := HY.out rfl
        clear HY HT
        go_wp2_with (go_at_fn g; refine hcall.mono ?_; rintro e w' ⟨rfl, hb'⟩)
        go_ret
        exact ⟨⟨kk, rfl, by rw [HY2.out]; simp⟩, hb'⟩
      | false =>
        have HT2 : Aside ((is.take (kk + 1)).any p = false) := HT.out
        clear HY HT
        go_wp2_with (go_at_fn g; refine hcall.mono ?_; rintro e w' ⟨rfl, hb'⟩)
        go_roundg (is.length - (kk + 1))
        case measure => omega
        case rel => exact ⟨kk + 1, by omega, by omega, by go_num, hb', HT2⟩
    · have hltz : ¬ (kk : Int) < (is.length : Int) := by omega
      have hk : kk = is.length := by omega
      have HX : Aside (is.any p = false) := by have := A.out; rw [hk, List.take_length] at this; exact this
      clear hk A
      go_wp2
      go_ret
      exact ⟨⟨-1, rfl, by rw [HX.out]; rfl⟩, BW.out⟩

theorem contains_val (p : Val → Bool) (g : Nat) (lb : Array Value) (eg : ∀ args w, (callFunc g args).run Tryd.prog w = .ok (.enter g args) w) (is : List Val) (r : Option Addr) (c : Nat) (w : World)
    (hI : Sl VR 5 w (.slice r is.length c) is) (hp : ∀ x ∈ is, ∀ (r : Option Addr) (c : Nat) (rk : Option Addr) (ck : Nat) (W : World), Below w.heap.size w W → VR5 W r c rk ck x →
      Calls Tryd.prog g (#[.agg #[.int .i64 x.kind, .int .i64 x.num, .string x.str, .slice r x.items.length c, .slice rk x.keys.length ck]] ++ lb) W fun e w' => e = .returned (.bool (p x)) ∧ Below w.heap.size w w') :
    Calls Tryd.prog 56 #[.slice r is.length c, .func (.func g) #[] lb] w fun e w' => e = .returned (.bool (is.any p)) ∧ Below w.heap.size w w' := by
  have hi := Lib.hid (index_val p g lb eg is r c w hI hp)
  clear hI hp
  go_enter Tryd.func56, Tryd.ntmps56
  go_wp2_with fail
  refine hi.out.mono ?_
  rintro e w' ⟨⟨k, rfl, hk⟩, hb⟩
  have HK := Lib.hid hk
  clear hk
  go_wp2
  go_ret
  exact ⟨ret_bool HK.out.symm, hb⟩

theorem knownL_any (is : List Val) : knownL is = !(is.any fun x => !knownV x) := by
  induction is with
  | nil => rfl
  | cons x xs ih => rw [knownL, ih, List.any_cons]; cases knownV x <;> simp
theorem entersKn : ∀ args w, (callFunc 57 args).run Tryd.prog w = .ok (.enter 57 args) w := enters_of Tryd.func57 (by kernel_rfl) rfl

set_option maxRecDepth 100000 in
set_option maxHeartbeats 1000000 in
theorem pknown_any (x : Val) : ∀ (r : Option Addr) (c : Nat) (rk : Option Addr) (ck : Nat) (w : World), VR5 w r c rk ck x →
    Calls Tryd.prog 21 #[.agg #[.int .i64 x.kind, .int .i64 x.num, .string x.str, .slice r x.items.length c, .slice rk x.keys.length ck]] w fun e w' => e = .returned (.bool (knownV x)) ∧ Below w.heap.size w w' := by
  refine Val.ind (P := fun x => ∀ (r : Option Addr) (c : Nat) (rk : Option Addr) (ck : Nat) (w : World), VR5 w r c rk ck x →
    Calls Tryd.prog 21 #[.agg #[.int .i64 x.kind, .int .i64 x.num, .string x.str, .slice r x.items.length c, .slice rk x.keys.length ck]] w fun e w' => e = .returned (.bool (knownV x)) ∧ Below w.heap.size w w') ?_ x
  intro x ih r c rk ck w hx
  obtain ⟨hI, hK, _, _, _, hkl, hil⟩ := hx.parts
  have HI := hid hI
  have HN := hid (knownV_eq x)
  have clo : ∀ y ∈ x.items, ∀ (r : Option Addr) (c : Nat) (rk : Option Addr) (ck : Nat) (W : World), VR5 W r c rk ck y →
      Calls Tryd.prog 57 (#[.agg #[.int .i64 y.kind, .int .i64 y.num, .string y.str, .slice r y.items.length c, .slice rk y.keys.length ck]] ++ #[]) W fun e w' => e = .returned (.bool (!knownV y)) ∧ Below W.heap.size W w' := by
    intro y hy r c rk ck W h5
    have hb0 : Below W.heap.size W (W.alloc (.cells #[.int .i64 y.kind, .int .i64 y.num, .string y.str, .slice r y.items.length c, .slice rk y.keys.length ck] 26)) := (Below.refl _ _).alloc (Nat.le_refl _) _
    have C := hid (ih y hy r c rk ck _ (h5.below hb0))
    have B0 := hid hb0
    clear hb0 h5 ih HI HN hI hK hx
    generalize knownV y = q at *
    generalize y.kind = yk at *
    generalize y.num = yn at *
    generalize y.str = ys at *
    generalize y.items.length = yi at *
    generalize y.keys.length = yks at *
    show Calls Tryd.prog 57 #[.agg #[.int .i64 yk, .int .i64 yn, .string ys, .slice r yi c, .slice rk yks ck]] W _
    go_enter Tryd.func57, Tryd.ntmps57
    go_wp2_with fail
    refine C.out.mono ?_
    rintro e w1 ⟨rfl, hb1⟩
    have B1 := hid (B0.out.trans (hb1.mono B0.out.size))
    clear hb1
    go_wp2
    go_ret
    exact ⟨rfl, B1.out⟩
  have HL := hid (fun (W : World) (h1 : Sl VR 5 W (.slice r x.items.length c) x.items) => contains_val (fun y => !knownV y) 57 #[] entersKn x.items r c W h1 (fun y hy r c rk ck W' hW h5 => (clo y hy r c rk ck W' h5).mono fun e w' ⟨he, hb⟩ => ⟨he, hW.trans (hb.mono hW.size)⟩))
  have HA := hid (knownL_any x.items)
  clear ih hI hK hx clo
  generalize x.kind = xk at *
  generalize x.num = xn at *
  generalize x.str = xs at *
  generalize x.keys.length = xkl at *
  generalize hnx : knownV x = nx at *
  clear hnx
  generalize x.items = is at *
  generalize (is.any fun y => !knownV y) = q at *
  have B0 := hid (show Below w.heap.size w (w.alloc (.cells #[.int .i64 xk, .int .i64 xn, .string xs, .slice r is.length c, .slice rk xkl ck] 26)) from (Below.refl _ _).alloc (Nat.le_refl _) _)
  by_cases h6 : xk = 6
  · subst h6
    have HF := hid (show nx = false by rw [HN.out]; simp)
    go_enter Tryd.func21, Tryd.ntmps21
    go_wp2
    go_ret
    exact ⟨ret_bool HF.out, B0.out⟩
  have e6 : (xk != 6) = true := by simpa using h6
  have e6' : (xk == 6) = false := by simpa using h6
  have HF := hid (show nx = !q by rw [HN.out, HA.out]; simp [h6])
  clear h6
  have CL := hid (HL.out (w.alloc (.cells #[.int .i64 xk, .int .i64 xn, .string xs, .slice r is.length c, .slice rk xkl ck] 26)) (slv_mono HI.out B0.out))
  go_enter Tryd.func21, Tryd.ntmps21
  go_wp2_with fail
  refine CL.out.mono ?_
  rintro e w1 ⟨rfl, hb1⟩
  have B1 := hid (B0.out.trans (hb1.mono B0.out.size))
  clear hb1
  go_wp2
  go_ret
  exact ⟨ret_bool HF.out, B1.out⟩

set_option maxRecDepth 100000 in
theorem pnodes_any (x : Val) : ∀ (r : Option Addr) (c : Nat) (rk : Option Addr) (ck : Nat) (w : World), VR5 w r c rk ck x → nodes x ≤ 1000000 →
    Calls Tryd.prog 25 #[.agg #[.int .i64 x.kind, .int .i64 x.num, .string x.str, .slice r x.items.length c, .slice rk x.keys.length ck]] w fun e w' => e = .returned (.int .i64 (nodes x)) ∧ Below w.heap.size w w' := by
  refine Val.ind (P := fun x => ∀ (r : Option Addr) (c : Nat) (rk : Option Addr) (ck : Nat) (w : World), VR5 w r c rk ck x → nodes x ≤ 1000000 →
    Calls Tryd.prog 25 #[.agg #[.int .i64 x.kind, .int .i64 x.num, .string x.str, .slice r x.items.length c, .slice rk x.keys.length ck]] w fun e w' => e = .returned (.int .i64 (nodes x)) ∧ Below w.heap.size w w') ?_ x
  intro x ih r c rk ck w hx hn
  obtain ⟨hI, hK, hk, hnu, hs, hkl, hil⟩ := hx.parts
  obtain ⟨_, hlc, hcm⟩ := sl_len hI
  have HI := hid hI
  have HN := hid (nodes_eq x)
  have HX := hid (show nodesL x.items + 1 ≤ 1000000 by have := nodes_eq x; omega)
  have IH := hid ih
  clear ih hI hK hx hk hnu hs hkl hn
  generalize x.kind = xk at *
  generalize x.num = xn at *
  generalize x.str = xs at *
  generalize x.keys.length = xkl at *
  generalize hnx : nodes x = nx at *
  clear hnx
  generalize hxi : x.items = is at *
  clear hxi
  have B0 := hid (show Below w.heap.size w (w.alloc (.cells #[.int .i64 xk, .int .i64 xn, .string xs, .slice r is.length c, .slice rk xkl ck] 26)) from (Below.refl _ _).alloc (Nat.le_refl _) _)
  go_enter Tryd.func25, Tryd.ntmps25
  go_wp2
  go_loopg [3, 9] is.length (fun gg s3 s4 wr => ∃ k : Nat, k ≤ is.length ∧ is.length - k ≤ gg ∧ s4 = .int .i64 k ∧ s3 = .int .i64 ((1 + nodesL (is.take k) : Nat) : Int) ∧ Aside (Below (w.heap.size + 1) (w.alloc (.cells #[.int .i64 xk, .int .i64 xn, .string xs, .slice r is.length c, .slice rk xkl ck] 26)) wr))
  case atStart => exact ⟨0, Nat.zero_le _, by omega, rfl, rfl, Below.refl _ _⟩
  case round =>
    obtain ⟨k, hk, hg, rfl, rfl, BW⟩ := hrel
    have BX := hid (B0.out.trans (BW.out.mono (by simp)))
    by_cases hlt : k < is.length
    · have hltz : (k : Int) < (is.length : Int) := by omega
      obtain ⟨b, off, ri, ci, rk', ck', rfl, hb, g0, g1, g2, g3, g4, h5⟩ := val_at (slv_mono HI.out BX.out) k hlt
      have HT := hid (nodesL_snoc hlt)
      have hle := nodesL_take_le is (k + 1)
      have hle2 := HT.out
      have hle3 := HX.out
      have C := hid (fun (W : World) (hW : Below wr.heap.size wr W) => IH.out _ (List.getElem_mem hlt) ri ci rk' ck' W (h5.below hW) (by omega))
      have b1 : nodesL (is.take k) + nodes is[k] ≤ 1000000 := by omega
      clear hle hle2 hle3 h5
      generalize is[k] = y at *
      obtain ⟨yk, yn, ys, yi, yks⟩ := y
      simp only [Val.kind, Val.num, Val.str, Val.items, Val.keys] at g0 g1 g2 g3 g4 C
      have BA := hid (show Below wr.heap.size wr (wr.alloc (.cells #[.int .i64 yk, .int .i64 yn, .string ys, .slice ri yi.length ci, .slice rk' yks.length ck'] 26)) from (Below.refl _ _).alloc (Nat.le_refl _) _)
      go_wp2_with fail
      refine (C.out _ BA.out).mono ?_
      rintro e w1 ⟨rfl, hb1⟩
      have B1 := hid (BW.out.trans ((BA.out.trans (hb1.mono BA.out.size)).mono (by have := BW.out.size; simpa using this)))
      clear hb1
      go_wp2
      go_roundg (is.length - (k + 1))
      case measure => omega
      case rel => exact ⟨k + 1, by omega, by omega, by go_num, by rw [HT.out]; go_num, B1.out⟩
    · have hltz : ¬ (k : Int) < (is.length : Int) := by omega
      have hke : k = is.length := by omega
      have HT := hid (show 1 + nodesL (is.take k) = nx by rw [hke, List.take_length, HN.out])
      clear hlt hk hke
      go_wp2
      go_ret
      exact ⟨ret_int (by have := HT.out; omega), BX.out⟩
end Go.Proofs.YtedpdpcibkceeaaDoor
