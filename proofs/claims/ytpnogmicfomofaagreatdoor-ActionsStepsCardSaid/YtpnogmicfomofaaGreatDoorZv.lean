import Derived.Test.YtpnogmicfomofaaGreatDoorZq
import Derived.Test.YtpnogmicfomofaaGreatDoorZu
import Derived.Test.YtpnogmicfomofaaGreatDoorFq
import Derived.Test.YtpnogmicfomofaaGreatDoorZx
/-
  Layer 44: the reference's ops, resource and has; the law's static and has. Conditions: those ahead of each theorem.
-/
namespace Go.Proofs.YtpnogmicfomofaaGreatDoor.Stp
open Go.RowKit Go.Sort Go.Lib Go.Maps
open Go.Lib (hid)
open Adr (WT prE stcB rstatic_any)
set_option linter.unusedVariables false
set_option linter.unusedSimpArgs false

/-- The operations of a change as a list. -/
def opV (ac : Int) (cf : Bool) : List Int := if ac = 1 then [1] else if ac = 2 then [2] else if ac = 3 then (if cf = true then [1, 3] else [3, 1]) else if ac = 4 then [3] else if ac = 5 then [4] else []
theorem opV_eq (c : Ch) : opV c.act c.cf = opl c := by
  unfold opV opl opA opB
  by_cases h3 : c.act = 3
  · cases hc : c.cf <;> simp [h3]
  · by_cases h1 : c.act = 1
    · simp [h1]
    by_cases h2 : c.act = 2
    · simp [h2]
    by_cases h4 : c.act = 4
    · simp [h4]
    by_cases h5 : c.act = 5
    · simp [h5]
    simp [h1, h2, h3, h4, h5]
theorem opV_len (ac : Int) (cf : Bool) : (opV ac cf).length ≤ 2 := by
  unfold opV
  (repeat' split) <;> simp
theorem sl_nilI (w : World) (c : Nat) (hc : c ≤ maxLen) : Sl IntR 1 w (.slice none 0 c) [] := ⟨none, c, rfl, Nat.zero_le _, hc, fun i hi => by simp at hi⟩
theorem sl_lit1 (w : World) (a : Int) (T : TypeId) (n : Nat) (hn : n = w.heap.size) (h : IB a) : Sl IntR 1 (w.alloc (.cells #[.int .i64 a] T)) (.slice (some ⟨n, 0, none⟩) 1 1) [a] := by
  subst hn
  exact ⟨_, _, rfl, Nat.le_refl _, by unfold maxLen; omega, fun i hi => by
    obtain rfl : i = 0 := by simpa using hi
    refine ⟨_, 0, [.int .i64 a], rfl, rfl, fun j u hj => ?_, rfl, h⟩
    rw [cell_new' w #[.int .i64 a] T]
    simpa using hj⟩
theorem sl_lit2 (w : World) (a b : Int) (T : TypeId) (n : Nat) (hn : n = w.heap.size) (h : IB a) (h2 : IB b) : Sl IntR 1 (w.alloc (.cells #[.int .i64 a, .int .i64 b] T)) (.slice (some ⟨n, 0, none⟩) 2 2) [a, b] := by
  subst hn
  exact ⟨_, _, rfl, Nat.le_refl _, by unfold maxLen; omega, fun i hi => by
    have : i = 0 ∨ i = 1 := by simp at hi; omega
    rcases this with rfl | rfl
    · refine ⟨_, 0, [.int .i64 a], rfl, rfl, fun j u hj => ?_, rfl, h⟩
      rw [cell_new' w #[.int .i64 a, .int .i64 b] T]
      have : j = 0 := by
        rcases Nat.lt_or_ge j 1 with h | h
        · omega
        · rw [List.getElem?_eq_none (by simpa using h)] at hj; cases hj
      subst this
      simpa using hj
    · refine ⟨_, 0, [.int .i64 b], rfl, rfl, fun j u hj => ?_, rfl, h2⟩
      rw [cell_new' w #[.int .i64 a, .int .i64 b] T]
      have : j = 0 := by
        rcases Nat.lt_or_ge j 1 with h | h
        · omega
        · rw [List.getElem?_eq_none (by simpa using h)] at hj; cases hj
      subst this
      simpa using hj⟩
def OpsP (xs : List Int) (w : World) (e : Ending) (w' : World) : Prop := ∃ r c, e = .returned (.slice r xs.length c) ∧ Sl IntR 1 w' (.slice r xs.length c) xs ∧ (∀ a, r = some a → w.heap.size ≤ a.block) ∧ Below w.heap.size w w'
set_option maxHeartbeats 8000000 in
theorem rops_any (x : CV) (w : World) : Calls Tryz.prog 66 #[.agg x.arr] w (OpsP (opV x.ac x.cf) w) := by
  unfold CV.arr
  obtain ⟨ac, hac⟩ : ∃ ac, x.ac = ac := ⟨_, rfl⟩
  rw [hac]
  clear hac
  have HB := hid (fun (W : World) (o : Obj) => show Below W.heap.size W (W.alloc o) from (Below.refl _ _).alloc (Nat.le_refl _) _)
  by_cases h1 : ac = 1
  · subst h1
    rw [show opV 1 x.cf = [1] from rfl]
    go_enter Tryz.func66, Tryz.ntmps66
    go_wp2
    go_ret
    exact ⟨some ⟨w.heap.size + 1, 0, none⟩, 1, rfl, sl_lit1 _ 1 _ _ (by simp) (by unfold IB; decide), fun a ha => (by cases ha; exact Nat.le_succ _), by first | exact HB.out _ _ | exact (HB.out _ _).trans ((HB.out _ _).mono (by simp))⟩
  by_cases h2 : ac = 2
  · subst h2
    rw [show opV 2 x.cf = [2] from rfl]
    go_enter Tryz.func66, Tryz.ntmps66
    go_wp2
    go_ret
    exact ⟨some ⟨w.heap.size + 1, 0, none⟩, 1, rfl, sl_lit1 _ 2 _ _ (by simp) (by unfold IB; decide), fun a ha => (by cases ha; exact Nat.le_succ _), by first | exact HB.out _ _ | exact (HB.out _ _).trans ((HB.out _ _).mono (by simp))⟩
  by_cases h4 : ac = 4
  · subst h4
    rw [show opV 4 x.cf = [3] from rfl]
    go_enter Tryz.func66, Tryz.ntmps66
    go_wp2
    go_ret
    exact ⟨some ⟨w.heap.size + 1, 0, none⟩, 1, rfl, sl_lit1 _ 3 _ _ (by simp) (by unfold IB; decide), fun a ha => (by cases ha; exact Nat.le_succ _), by first | exact HB.out _ _ | exact (HB.out _ _).trans ((HB.out _ _).mono (by simp))⟩
  by_cases h5 : ac = 5
  · subst h5
    rw [show opV 5 x.cf = [4] from rfl]
    go_enter Tryz.func66, Tryz.ntmps66
    go_wp2
    go_ret
    exact ⟨some ⟨w.heap.size + 1, 0, none⟩, 1, rfl, sl_lit1 _ 4 _ _ (by simp) (by unfold IB; decide), fun a ha => (by cases ha; exact Nat.le_succ _), by first | exact HB.out _ _ | exact (HB.out _ _).trans ((HB.out _ _).mono (by simp))⟩
  by_cases h3 : ac = 3
  · subst h3
    cases hf : x.cf with
    | true =>
      rw [show opV 3 true = [1, 3] from rfl]
      go_enter Tryz.func66, Tryz.ntmps66
      go_wp2
      go_ret
      exact ⟨some ⟨w.heap.size + 1, 0, none⟩, 2, rfl, sl_lit2 _ 1 3 _ _ (by simp) (by unfold IB; decide) (by unfold IB; decide), fun a ha => (by cases ha; exact Nat.le_succ _), by first | exact HB.out _ _ | exact (HB.out _ _).trans ((HB.out _ _).mono (by simp))⟩
    | false =>
      rw [show opV 3 false = [3, 1] from rfl]
      go_enter Tryz.func66, Tryz.ntmps66
      go_wp2
      go_ret
      exact ⟨some ⟨w.heap.size + 1, 0, none⟩, 2, rfl, sl_lit2 _ 3 1 _ _ (by simp) (by unfold IB; decide) (by unfold IB; decide), fun a ha => (by cases ha; exact Nat.le_succ _), by first | exact HB.out _ _ | exact (HB.out _ _).trans ((HB.out _ _).mono (by simp))⟩
  rw [show opV ac x.cf = [] by unfold opV; rw [if_neg h1, if_neg h2, if_neg h3, if_neg h4, if_neg h5]]
  have b1 := neb h1
  have b2 := neb h2
  have b3 := neb h3
  have b4 := neb h4
  have b5 := neb h5
  clear h1 h2 h3 h4 h5
  go_enter Tryz.func66, Tryz.ntmps66
  go_wp2
  go_ret
  exact ⟨none, 0, rfl, sl_nilI _ _ (by unfold maxLen; omega), fun a ha => (by cases ha), by first | exact Below.refl _ _ | exact HB.out _ _⟩
set_option maxRecDepth 100000 in
theorem rresource_any (x : CV) (w : World) (hs : x.ad.size ≤ 100001) : Calls Tryz.prog 97 #[.agg x.arr] w fun e w' => e = .returned (.string (resB x.ad)) ∧ Below w.heap.size w w' := by
  have h0 : x.arr[0]? = some (.string x.ad) := rfl
  have HC := hid (fun (W : World) => rstatic_any x.ad W hs)
  have HB0 := hid (show Below w.heap.size w (w.alloc (.cells x.arr 31)) from (Below.refl _ _).alloc (Nat.le_refl _) _)
  have HR := hid (show resB x.ad = if prE x.ad.data.toList = 0 then ⟨(stcB x.ad.data.toList).toArray⟩ else x.ad from rfl)
  obtain ⟨E, hE⟩ : ∃ E, prE x.ad.data.toList = E := ⟨_, rfl⟩
  obtain ⟨T, hT2⟩ : ∃ T, (⟨(stcB x.ad.data.toList).toArray⟩ : ByteArray) = T := ⟨_, rfl⟩
  rw [hT2] at HC HR
  rw [hE] at HC HR
  obtain ⟨R, hR⟩ : ∃ R, resB x.ad = R := ⟨_, rfl⟩
  rw [hR] at HR ⊢
  clear hs hE hT2 hR
  generalize x.arr = X at *
  generalize x.ad = a at *
  by_cases hE : E = 0
  · subst hE
    have hR := HR.out
    rw [if_pos rfl] at hR
    clear HR
    subst hR
    go_enter Tryz.func97, Tryz.ntmps97
    go_wp2_with (go_at_call 37; refine (HC.out _).mono ?_; rintro e w1 ⟨rfl, hb⟩)
    go_ret
    exact ⟨rfl, HB0.out.trans (hb.mono HB0.out.size)⟩
  · have hn : (E != 0) = true := by simp [hE]
    have hR := HR.out
    rw [if_neg hE] at hR
    clear hE HR
    subst hR
    go_enter Tryz.func97, Tryz.ntmps97
    go_wp2_with (go_at_call 37; refine (HC.out _).mono ?_; rintro e w1 ⟨rfl, hb⟩; obtain ⟨hc, hf⟩ := bcellB hb)
    go_ret
    exact ⟨rfl, HB0.out.trans (hb.mono HB0.out.size)⟩
theorem inS_take {xs : List ByteArray} {s : ByteArray} (h : ∀ j (hj : j < xs.length), xs[j] ≠ s) : inS xs s = false := by
  cases h1 : inS xs s with
  | false => rfl
  | true =>
    obtain ⟨j, hj, e⟩ := List.mem_iff_getElem.1 (inS_iff.1 h1)
    exact absurd e (h j hj)
set_option maxHeartbeats 4000000 in
theorem rhas_any (v : Value) (xs : List ByteArray) (s : ByteArray) (w : World) (h : Sl StrR 1 w v xs) : Calls Tryz.prog 96 #[v, .string s] w fun e w' => e = .returned (.bool (inS xs s)) ∧ w' = w := by
  obtain ⟨r, c, rfl, _⟩ := id h
  obtain ⟨_, hl, hm⟩ := sl_len h
  have HE := hid (fun k (hk : k < xs.length) => str_at h k hk)
  clear h
  go_enter Tryz.func96, Tryz.ntmps96
  go_wp2
  go_loopg [5] xs.length (fun gg i wr => ∃ k : Nat, k ≤ xs.length ∧ xs.length - k ≤ gg ∧ i = .int .i64 k ∧ wr = w ∧ Hid (∀ j (hj : j < xs.length), j < k → xs[j] ≠ s))
  case atStart => exact ⟨0, by omega, by omega, rfl, rfl, hid (fun j hj h => absurd h (by omega))⟩
  case round =>
    obtain ⟨k, hk, hgg, rfl, rfl, HA⟩ := hrel
    by_cases hlt : k < xs.length
    · obtain ⟨b, off, rfl, _, g, _⟩ := HE.out k hlt
      by_cases he : xs[k] = s
      · have HT := hid (show inS xs s = true from inS_iff.2 (by rw [← he]; exact List.getElem_mem hlt))
        have he1 : (xs[k].toList == s.toList) = true := by rw [he]; simp
        clear he
        generalize xs[k] = x at *
        go_wp2
        go_ret
        exact ⟨ret_bool HT.out, rfl⟩
      · have HX := hid (show ∀ j (hj : j < xs.length), j < k + 1 → xs[j] ≠ s from fun j hj hjk => by
          by_cases e : j < k
          · exact HA.out j hj e
          · obtain rfl : j = k := by omega
            exact he)
        have he1 : (xs[k].toList == s.toList) = false := str_ne he
        clear he
        generalize xs[k] = x at *
        go_wp2
        go_roundg (xs.length - (k + 1))
        case measure => omega
        case rel => exact ⟨k + 1, by omega, by omega, by go_num, rfl, HX⟩
    · obtain rfl : k = xs.length := by omega
      have HF := hid (inS_take (fun j hj => HA.out j hj hj))
      go_wp2
      go_ret
      exact ⟨ret_bool HF.out, rfl⟩
end Go.Proofs.YtpnogmicfomofaaGreatDoor.Stp
/-
  Layer 44: the reference's needs. Conditions: those ahead of each theorem.
-/
namespace Go.Proofs.YtpnogmicfomofaaGreatDoor.Stp
open Go.RowKit Go.Sort Go.Lib Go.Maps
open Go.Lib (hid)
attribute [local go_sem] frUpon
attribute [local go_sem ↓] ldC_eq
attribute [local go_sem] ldC_run
attribute [local go_sem ↓] stC_eq
attribute [local go_sem] stC_run there_drew there_new there_past put22_drew put22_new put22_past lies_new rd22_new lies_drew rd22_drew lies_drewN rd22_drewN
set_option linter.unusedVariables false
set_option linter.unusedSimpArgs false

/-- Whether step b needs step a, for the reference. -/
def rndB (cs : List Ch) (a b : Nat × Int) : Bool :=
  match cs[b.1]?, cs[a.1]? with
  | some x, some y =>
    if b.2 = 3 then (if a.1 = b.1 then decide (a.2 = 1) && x.cf else if a.2 = 3 then inS y.old (resB x.addr) else decide (x.act = 3) && x.cf && (decide (a.2 = 1) || decide (a.2 = 2)) && inS y.deps (resB x.addr))
    else (if a.1 = b.1 then decide (b.2 = 1) && decide (a.2 = 3) && !x.cf else !decide (a.2 = 3) && inS x.deps (resB y.addr))
  | _, _ => false
/-- Two changes in memory, made one behind the other, behind two boxes. -/
theorem two_new2 {w : World} {A C X Y : Array Value} {T0 T T1 T2 : TypeId} (h : Below w.heap.size w (((((w.alloc (.cells A T0)).alloc (.cells C T)).alloc (.cells X T1)).alloc (.cells Y T2)).drew)) (hX : Cells22 X) (hY : Cells22 Y) :
    ∃ W3, W3 = ((((w.alloc (.cells A T0)).alloc (.cells C T)).alloc (.cells X T1)).alloc (.cells Y T2)).drew ∧ Below w.heap.size w W3 ∧ (∀ k, W3.cell? ⟨w.heap.size, k, none⟩ = A[k]?) ∧ (∀ k, W3.cell? ⟨w.heap.size + 1, k, none⟩ = C[k]?) ∧ (∀ k, W3.cell? ⟨w.heap.size + 1 + 1, k, none⟩ = X[k]?) ∧ (∀ k, W3.cell? ⟨w.heap.size + 1 + 1 + 1, k, none⟩ = Y[k]?) ∧ (Lies W3 (w.heap.size + 1 + 1) 0 ∧ rd22 W3 (w.heap.size + 1 + 1) 0 = X) ∧ (Lies W3 (w.heap.size + 1 + 1 + 1) 0 ∧ rd22 W3 (w.heap.size + 1 + 1 + 1) 0 = Y) := by
  have k0 : ∀ k, (((((w.alloc (.cells A T0)).alloc (.cells C T)).alloc (.cells X T1)).alloc (.cells Y T2)).drew).cell? ⟨w.heap.size, k, none⟩ = A[k]? := fun k => by
    show ((((w.alloc (.cells A T0)).alloc (.cells C T)).alloc (.cells X T1)).alloc (.cells Y T2)).cell? _ = _
    rw [cell_old (by simp; omega), cell_old (by simp; omega), cell_old (by simp), cell_new']
  obtain ⟨W3, hW, h1, h2, h3, h4, h5, h6⟩ := two_new h hX hY
  refine ⟨W3, hW, h1, ?_, h2, h3, h4, h5, h6⟩
  rw [hW]
  exact k0
set_option maxRecDepth 100000 in
set_option maxHeartbeats 16000000 in
theorem rneeds_any (rc : Option Addr) (cc : Nat) (cs : List Ch) (a b : Nat × Int) (sv tv : SV) (w : World) (h : Sl ChR 22 w (.slice rc cs.length cc) cs) (hi : a.1 < cs.length) (hj : b.1 < cs.length) (hn : cs.length ≤ 1000000) (had : ∀ c ∈ cs, c.addr.size ≤ 100001) :
    Calls Tryz.prog 67 #[.slice rc cs.length cc, .agg #[.int .i64 a.1, .int .i64 a.2, .slice sv.r sv.n sv.c], .agg #[.int .i64 b.1, .int .i64 b.2, .slice tv.r tv.n tv.c]] w fun e w' => e = .returned (.bool (rndB cs a b)) ∧ Below w.heap.size w w' := by
  obtain ⟨ia, oa⟩ := a
  obtain ⟨ib, ob⟩ := b
  simp only at hi hj ⊢
  obtain ⟨cb, coff, x, rfl, hcb, hcell, hx⟩ := ch_at h ib hj
  obtain ⟨cb2, coff2, y, he2, _, hcell2, hy⟩ := ch_at h ia hi
  cases he2
  have hm : rndB cs (ia, oa) (ib, ob) = if ob = 3 then (if ia = ib then decide (oa = 1) && x.cf else if oa = 3 then inS (cs[ia]).old (resB x.ad) else decide (x.ac = 3) && x.cf && (decide (oa = 1) || decide (oa = 2)) && inS (cs[ia]).deps (resB x.ad))
    else (if ia = ib then decide (ob = 1) && decide (oa = 3) && !x.cf else !decide (oa = 3) && inS (cs[ib]).deps (resB y.ad)) := by
    unfold rndB
    simp only
    rw [List.getElem?_eq_getElem hi, List.getElem?_eq_getElem hj]
    simp only
    rw [hx.1, hx.2.1, hx.2.2.1, hy.1]
  have HX22 := cells22 x
  have HY22 := cells22 y
  obtain ⟨l1, l2⟩ := lies_of HX22 hcell
  obtain ⟨k1, k2⟩ := lies_of HY22 hcell2
  have HS := hid (fun (W : World) (hb : Below w.heap.size w W) => show Lies W cb (coff + ib * 22) ∧ rd22 W cb (coff + ib * 22) = x.arr ∧ Lies W cb (coff + ia * 22) ∧ rd22 W cb (coff + ia * 22) = y.arr from ⟨(l1.below hb).1, ((l1.below hb).2).trans l2, (k1.below hb).1, ((k1.below hb).2).trans k2⟩)
  have hii : (0 : Int) ≤ (ia : Int) := by omega
  have hii2 : (ia : Int) < (cs.length : Int) := by omega
  have hjj : (0 : Int) ≤ (ib : Int) := by omega
  have hjj2 : (ib : Int) < (cs.length : Int) := by omega
  have HRX := hid (fun W => rresource_any x W (by rw [hx.1]; exact had _ (List.getElem_mem hj)))
  have HRY := hid (fun W => rresource_any y W (by rw [hy.1]; exact had _ (List.getElem_mem hi)))
  have HC1 := hid (fun (W : World) (hb : Below w.heap.size w W) => rhas_any (.slice x.dp.r x.dp.n x.dp.c) (cs[ib]).deps (resB y.ad) W (hx.2.2.2.2.1.below strR_mono hb))
  have HC2 := hid (fun (W : World) (hb : Below w.heap.size w W) => rhas_any (.slice y.od.r y.od.n y.od.c) (cs[ia]).old (resB x.ad) W (hy.2.2.2.2.2.below strR_mono hb))
  have HC3 := hid (fun (W : World) (hb : Below w.heap.size w W) => rhas_any (.slice y.dp.r y.dp.n y.dp.c) (cs[ia]).deps (resB x.ad) W (hy.2.2.2.2.1.below strR_mono hb))
  have i3 : x.arr[3]? = some (.int .i64 x.ac) := rfl
  have i17 : x.arr[17]? = some (.bool x.cf) := rfl
  have i20 : x.arr[20]? = some (.slice x.dp.r x.dp.n x.dp.c) := rfl
  have h20 : y.arr[20]? = some (.slice y.dp.r y.dp.n y.dp.c) := rfl
  have h21 : y.arr[21]? = some (.slice y.od.r y.od.n y.od.c) := rfl
  obtain ⟨R, hR⟩ : ∃ R, rndB cs (ia, oa) (ib, ob) = R := ⟨_, rfl⟩
  rw [hR] at hm ⊢
  have HRES := hid hm
  clear hcell hcell2 h l1 l2 k1 k2 hx hy hm hR had
  generalize inS (cs[ib]).deps (resB y.ad) = I1 at *
  generalize inS (cs[ia]).old (resB x.ad) = I2 at *
  generalize inS (cs[ia]).deps (resB x.ad) = I3 at *
  generalize resB x.ad = RX at *
  generalize resB y.ad = RY at *
  generalize x.arr = X at *
  generalize y.arr = Y at *
  generalize x.ac = ac at *
  generalize x.cf = CF at *
  generalize x.dp = xd at *
  generalize y.dp = yd at *
  generalize y.od = yo at *
  go_enter Tryz.func67, Tryz.ntmps67
  go_wp2_with fail
  go_region_held3 (fun w' => Below w.heap.size w w' ∧ w'.cell? ⟨w.heap.size, 0, none⟩ = some (.int .i64 ia) ∧ w'.cell? ⟨w.heap.size + 1, 0, none⟩ = some (.int .i64 ib) ∧ Lies w' cb (coff + ib * 22) ∧ rd22 w' cb (coff + ib * 22) = X ∧ Lies w' cb (coff + ia * 22) ∧ rd22 w' cb (coff + ia * 22) = Y)
    (refine ⟨?_, ?_, ?_, (HS.out _ ?_).1, (HS.out _ ?_).2.1, (HS.out _ ?_).2.2.1, (HS.out _ ?_).2.2.2⟩ <;> first | ((repeat (first | exact Below.refl _ _ | refine Below.drew ?_ | refine Below.alloc ?_ (by simp <;> omega) _)); done) | (go_simp; done)) (fail)
  all_goals
    rename_i hHeld
    have hw3 := hHeld.1
    clear hHeld HS
    first
    | (obtain ⟨W3, hW3, hb3, g0, g1, g2, g3, ⟨gx1, gx2⟩, ⟨gy1, gy2⟩⟩ := two_new2 hw3 HX22 HY22
       rw [← hW3]
       have x3 := (g2 3).trans i3
       have x17 := (g2 17).trans i17
       have x20 := (g2 20).trans i20
       have y20 := (g3 20).trans h20
       have y21 := (g3 21).trans h21
       clear g2 g3
       generalize hby : w.heap.size + 1 + 1 + 1 = by3 at *
       generalize hbx : w.heap.size + 1 + 1 = bx at *)
    | (obtain ⟨W3, hW3, hb3, g0, g1, g2, g3, ⟨gy1, gy2⟩, ⟨gx1, gx2⟩⟩ := two_new2 hw3 HY22 HX22
       rw [← hW3]
       have x3 := (g3 3).trans i3
       have x17 := (g3 17).trans i17
       have x20 := (g3 20).trans i20
       have y20 := (g2 20).trans h20
       have y21 := (g2 21).trans h21
       clear g2 g3
       generalize hby : w.heap.size + 1 + 1 + 1 = bx at *
       generalize hbx : w.heap.size + 1 + 1 = by3 at *)
    clear hW3 hw3 hbx hby h20 h21 i3 i17 i20
    have a0 := (g0 0).trans (show (#[Value.int .i64 (ia : Int), .int .i64 oa, .slice sv.r sv.n sv.c])[0]? = some (.int .i64 (ia : Int)) from rfl)
    have a1 := (g0 1).trans (show (#[Value.int .i64 (ia : Int), .int .i64 oa, .slice sv.r sv.n sv.c])[1]? = some (.int .i64 oa) from rfl)
    have b0 := (g1 0).trans (show (#[Value.int .i64 (ib : Int), .int .i64 ob, .slice tv.r tv.n tv.c])[0]? = some (.int .i64 (ib : Int)) from rfl)
    have b1 := (g1 1).trans (show (#[Value.int .i64 (ib : Int), .int .i64 ob, .slice tv.r tv.n tv.c])[1]? = some (.int .i64 ob) from rfl)
    have HB3 := hid hb3
    have HLX := hid (fun (W : World) (hW : Below W3.heap.size W3 W) => show Lies W bx 0 ∧ rd22 W bx 0 = X from ⟨(gx1.below hW).1, ((gx1.below hW).2).trans gx2⟩)
    have HLY := hid (fun (W : World) (hW : Below W3.heap.size W3 W) => show Lies W by3 0 ∧ rd22 W by3 0 = Y from ⟨(gy1.below hW).1, ((gy1.below hW).2).trans gy2⟩)
    have HH1 := hid (fun (W : World) (hW : Below W3.heap.size W3 W) => HC1.out W (hb3.trans (hW.mono hb3.size)))
    have HH2 := hid (fun (W : World) (hW : Below W3.heap.size W3 W) => HC2.out W (hb3.trans (hW.mono hb3.size)))
    have HH3 := hid (fun (W : World) (hW : Below W3.heap.size W3 W) => HC3.out W (hb3.trans (hW.mono hb3.size)))
    have hs3 := hb3.size
    clear g0 g1 gx1 gx2 gy1 gy2 hb3 HC1 HC2 HC3
    generalize w.heap.size + 1 = bb at *
    generalize hba : w.heap.size = ba at *
    have HBA := hid hba
    clear hba
    have c1 := fun d os => cell_regrown a0 d os
    have c2 := fun d os => cell_regrown a1 d os
    have c3 := fun d os => cell_regrown b1 d os
    have c4 := fun d os => cell_regrown x3 d os
    have c5 := fun d os => cell_regrown x17 d os
    have c6 := fun d os => cell_regrown x20 d os
    have c7 := fun d os => cell_regrown y20 d os
    have c8 := fun d os => cell_regrown y21 d os
    by_cases hij : ia = ib
    · subst hij
      have hij2 := hid (Nat.le_refl 0)
      by_cases h3 : ob = 3
      · subst h3
        have h32 := hid (Nat.le_refl 0)
        by_cases h1 : oa = 1
        · subst h1
          cases CF with
          | true =>
            go_wp2
            go_ret
            exact ⟨ret_bool (by rw [HRES.out]; simp [hij2.out]), by rw [HBA.out]; exact HB3.out⟩
          | false =>
            go_wp2
            go_ret
            exact ⟨ret_bool (by rw [HRES.out]; simp [hij2.out]), by rw [HBA.out]; exact HB3.out⟩
        · have e4 : (oa == 1) = false := neb h1
          have H1 := hid h1
          clear h1
          go_wp2
          go_ret
          exact ⟨ret_bool (by rw [HRES.out]; simp [hij2.out, H1.out]), by rw [HBA.out]; exact HB3.out⟩
      · have e3 : (ob != 3) = true := by simp [h3]
        have h32 := hid h3
        clear h3
        by_cases h1 : ob = 1
        · subst h1
          by_cases ha : oa = 3
          · subst ha
            cases CF with
            | true =>
              go_wp2
              go_ret
              exact ⟨ret_bool (by rw [HRES.out]; simp [hij2.out]), by rw [HBA.out]; exact HB3.out⟩
            | false =>
              go_wp2
              go_ret
              exact ⟨ret_bool (by rw [HRES.out]; simp [hij2.out]), by rw [HBA.out]; exact HB3.out⟩
          · have e4 : (oa == 3) = false := neb ha
            have HA3 := hid ha
            clear ha
            go_wp2
            go_ret
            exact ⟨ret_bool (by rw [HRES.out]; simp [hij2.out, HA3.out]), by rw [HBA.out]; exact HB3.out⟩
        · have e4 : (ob == 1) = false := neb h1
          have H1 := hid h1
          clear h1
          go_wp2
          go_ret
          exact ⟨ret_bool (by rw [HRES.out]; simp [hij2.out, h32.out, H1.out]), by rw [HBA.out]; exact HB3.out⟩
    · have e0 : (((ia : Nat) : Int) == ((ib : Nat) : Int)) = false := by rw [ints_eq]; simp [hij]
      have hij2 := hid hij
      clear hij
      by_cases h3 : ob = 3
      · subst h3
        have h32 := hid (Nat.le_refl 0)
        by_cases h4 : oa = 3
        · subst h4
          go_wp2_with fail
          refine wp_region_fresh (fun k => match k with | 2 => some (sVal (.agg X)) | 3 => some (sVal (.string RX)) | 4 => some (sBool I2) | _ => none) (by kernel_rfl) (by kernel_rfl) ?_
          iterate 2 (refine wpF_quiet (grw_ex _) (by kernel_rfl) rfl (noEnter_op (by rfl)) ?_; intro K hK; go_big_quiet_op; go_big_quiet_on)
          refine wpF_told (sVal (.agg X)) (by kernel_rfl) rfl ⟨_, rfl⟩ stTrue (fun w4 hw4 hE4 => ?_) ?_
          · have hb4 := grw_below hw4
            obtain ⟨l1, l2⟩ := HLX.out w4 hb4
            clear hw4 hE4 hb4
            go_simp
            exact ⟨Lat.refl _, rfl, trivial⟩
          rintro _ rfl
          (refine wpF_put ?_; intro K hK; go_simp; refine hK _ ?_; clear hK K)
          refine wpF_told (sVal (.string RX)) (by kernel_rfl) rfl ⟨_, rfl⟩ stTrue (fun w4 hw4 hE4 => ?_) ?_
          · have hb4 := grw_below hw4
            have hh := HRX.out w4
            clear hw4 hE4 hb4
            go_simp
            go_at_call 97
            refine Calls.mono hh ?_
            rintro e w5 ⟨rfl, hb5⟩
            exact ⟨_, rfl, hb5, rfl, trivial⟩
          rintro _ rfl
          (refine wpF_put ?_; intro K hK; go_simp; refine hK _ ?_; clear hK K)
          refine wpF_told (sBool I2) (by kernel_rfl) rfl ⟨_, rfl⟩ stTrue (fun w4 hw4 hE4 => ?_) ?_
          · have hb4 := grw_below hw4
            have hh := HH2.out w4 hb4
            clear hw4 hE4 hb4
            go_simp
            go_at_call 96
            refine Calls.mono hh ?_
            rintro e w5 ⟨rfl, rfl⟩
            exact ⟨_, rfl, Lat.refl _, rfl, trivial⟩
          rintro _ rfl
          (refine wpF_put ?_; intro K hK; go_simp; refine hK _ ?_; clear hK K)
          (refine wpF_quiet (grw_ex _) (by kernel_rfl) rfl (noEnter_op (by rfl)) ?_; intro K hK; go_big_quiet_op; go_big_quiet_on)
          refine wpF_nil ?_
          intro w6 hw6 hE6
          have hb6 := grw_below hw6
          clear hw6 hE6
          have HB6 := hid (HB3.out.trans (hb6.mono (by rw [← HBA.out]; exact HB3.out.size)))
          clear hb6
          go_wp2
          go_ret
          exact ⟨ret_bool (by rw [HRES.out]; simp [hij2.out]), by rw [HBA.out]; exact HB6.out⟩
        · have e4 : (oa == 3) = false := neb h4
          have H4 := hid h4
          clear h4
          by_cases h5 : ac = 3
          · subst h5
            cases CF with
            | false =>
              go_wp2_with fail
              refine wp_region_fresh (fun _ => none) (by kernel_rfl) (by kernel_rfl) ?_
              iterate 8 (refine wpF_quiet (grw_ex _) (by kernel_rfl) rfl (noEnter_op (by rfl)) ?_; intro K hK; go_big_quiet_op; go_big_quiet_on)
              iterate 8 (refine wpF_skip (by kernel_rfl) ?_)
              (refine wpF_put ?_; intro K hK; go_simp; refine hK _ ?_; clear hK K)
              iterate 2 (refine wpF_quiet (grw_ex _) (by kernel_rfl) rfl (noEnter_op (by rfl)) ?_; intro K hK; go_big_quiet_op; go_big_quiet_on)
              iterate 5 (refine wpF_skip (by kernel_rfl) ?_)
              (refine wpF_put ?_; intro K hK; go_simp; refine hK _ ?_; clear hK K)
              iterate 2 (refine wpF_quiet (grw_ex _) (by kernel_rfl) rfl (noEnter_op (by rfl)) ?_; intro K hK; go_big_quiet_op; go_big_quiet_on)
              refine wpF_nil ?_
              intro w6 hw6 hE6
              have hb6 := grw_below hw6
              clear hw6 hE6
              have HB6 := hid (HB3.out.trans (hb6.mono (by rw [← HBA.out]; exact HB3.out.size)))
              clear hb6
              go_wp2
              go_ret
              exact ⟨ret_bool (by rw [HRES.out]; simp [hij2.out, H4.out]), by rw [HBA.out]; exact HB6.out⟩
            | true =>
              by_cases h6 : oa = 1
              · subst h6
                go_wp2_with fail
                refine wp_region_fresh (fun k => match k with | 20 => some (sVal (.agg X)) | 21 => some (sVal (.string RX)) | 22 => some (sBool I3) | _ => none) (by kernel_rfl) (by kernel_rfl) ?_
                iterate 12 (refine wpF_quiet (grw_ex _) (by kernel_rfl) rfl (noEnter_op (by rfl)) ?_; intro K hK; go_big_quiet_op; go_big_quiet_on)
                iterate 3 (refine wpF_skip (by kernel_rfl) ?_)
                (refine wpF_put ?_; intro K hK; go_simp; refine hK _ ?_; clear hK K)
                iterate 5 (refine wpF_quiet (grw_ex _) (by kernel_rfl) rfl (noEnter_op (by rfl)) ?_; intro K hK; go_big_quiet_op; go_big_quiet_on)
                refine wpF_told (sVal (.agg X)) (by kernel_rfl) rfl ⟨_, rfl⟩ stTrue (fun w4 hw4 hE4 => ?_) ?_
                · have hb4 := grw_below hw4
                  obtain ⟨l1, l2⟩ := HLX.out w4 hb4
                  clear hw4 hE4 hb4
                  go_simp
                  exact ⟨Lat.refl _, rfl, trivial⟩
                rintro _ rfl
                (refine wpF_put ?_; intro K hK; go_simp; refine hK _ ?_; clear hK K)
                refine wpF_told (sVal (.string RX)) (by kernel_rfl) rfl ⟨_, rfl⟩ stTrue (fun w4 hw4 hE4 => ?_) ?_
                · have hb4 := grw_below hw4
                  have hh := HRX.out w4
                  clear hw4 hE4 hb4
                  go_simp
                  go_at_call 97
                  refine Calls.mono hh ?_
                  rintro e w5 ⟨rfl, hb5⟩
                  exact ⟨_, rfl, hb5, rfl, trivial⟩
                rintro _ rfl
                (refine wpF_put ?_; intro K hK; go_simp; refine hK _ ?_; clear hK K)
                refine wpF_told (sBool I3) (by kernel_rfl) rfl ⟨_, rfl⟩ stTrue (fun w4 hw4 hE4 => ?_) ?_
                · have hb4 := grw_below hw4
                  have hh := HH3.out w4 hb4
                  clear hw4 hE4 hb4
                  go_simp
                  go_at_call 96
                  refine Calls.mono hh ?_
                  rintro e w5 ⟨rfl, rfl⟩
                  exact ⟨_, rfl, Lat.refl _, rfl, trivial⟩
                rintro _ rfl
                (refine wpF_put ?_; intro K hK; go_simp; refine hK _ ?_; clear hK K)
                iterate 2 (refine wpF_quiet (grw_ex _) (by kernel_rfl) rfl (noEnter_op (by rfl)) ?_; intro K hK; go_big_quiet_op; go_big_quiet_on)
                refine wpF_nil ?_
                intro w6 hw6 hE6
                have hb6 := grw_below hw6
                clear hw6 hE6
                have HB6 := hid (HB3.out.trans (hb6.mono (by rw [← HBA.out]; exact HB3.out.size)))
                clear hb6
                go_wp2
                go_ret
                exact ⟨ret_bool (by rw [HRES.out]; simp [hij2.out]), by rw [HBA.out]; exact HB6.out⟩
              · have e6 : (oa == 1) = false := neb h6
                have H6 := hid h6
                clear h6
                by_cases h7 : oa = 2
                · subst h7
                  go_wp2_with fail
                  refine wp_region_fresh (fun k => match k with | 20 => some (sVal (.agg X)) | 21 => some (sVal (.string RX)) | 22 => some (sBool I3) | _ => none) (by kernel_rfl) (by kernel_rfl) ?_
                  iterate 20 (refine wpF_quiet (grw_ex _) (by kernel_rfl) rfl (noEnter_op (by rfl)) ?_; intro K hK; go_big_quiet_op; go_big_quiet_on)
                  refine wpF_told (sVal (.agg X)) (by kernel_rfl) rfl ⟨_, rfl⟩ stTrue (fun w4 hw4 hE4 => ?_) ?_
                  · have hb4 := grw_below hw4
                    obtain ⟨l1, l2⟩ := HLX.out w4 hb4
                    clear hw4 hE4 hb4
                    go_simp
                    exact ⟨Lat.refl _, rfl, trivial⟩
                  rintro _ rfl
                  (refine wpF_put ?_; intro K hK; go_simp; refine hK _ ?_; clear hK K)
                  refine wpF_told (sVal (.string RX)) (by kernel_rfl) rfl ⟨_, rfl⟩ stTrue (fun w4 hw4 hE4 => ?_) ?_
                  · have hb4 := grw_below hw4
                    have hh := HRX.out w4
                    clear hw4 hE4 hb4
                    go_simp
                    go_at_call 97
                    refine Calls.mono hh ?_
                    rintro e w5 ⟨rfl, hb5⟩
                    exact ⟨_, rfl, hb5, rfl, trivial⟩
                  rintro _ rfl
                  (refine wpF_put ?_; intro K hK; go_simp; refine hK _ ?_; clear hK K)
                  refine wpF_told (sBool I3) (by kernel_rfl) rfl ⟨_, rfl⟩ stTrue (fun w4 hw4 hE4 => ?_) ?_
                  · have hb4 := grw_below hw4
                    have hh := HH3.out w4 hb4
                    clear hw4 hE4 hb4
                    go_simp
                    go_at_call 96
                    refine Calls.mono hh ?_
                    rintro e w5 ⟨rfl, rfl⟩
                    exact ⟨_, rfl, Lat.refl _, rfl, trivial⟩
                  rintro _ rfl
                  (refine wpF_put ?_; intro K hK; go_simp; refine hK _ ?_; clear hK K)
                  iterate 2 (refine wpF_quiet (grw_ex _) (by kernel_rfl) rfl (noEnter_op (by rfl)) ?_; intro K hK; go_big_quiet_op; go_big_quiet_on)
                  refine wpF_nil ?_
                  intro w6 hw6 hE6
                  have hb6 := grw_below hw6
                  clear hw6 hE6
                  have HB6 := hid (HB3.out.trans (hb6.mono (by rw [← HBA.out]; exact HB3.out.size)))
                  clear hb6
                  go_wp2
                  go_ret
                  exact ⟨ret_bool (by rw [HRES.out]; simp [hij2.out]), by rw [HBA.out]; exact HB6.out⟩
                · have e7 : (oa == 2) = false := neb h7
                  have H7 := hid h7
                  clear h7
                  go_wp2_with fail
                  refine wp_region_fresh (fun _ => none) (by kernel_rfl) (by kernel_rfl) ?_
                  iterate 18 (refine wpF_quiet (grw_ex _) (by kernel_rfl) rfl (noEnter_op (by rfl)) ?_; intro K hK; go_big_quiet_op; go_big_quiet_on)
                  iterate 5 (refine wpF_skip (by kernel_rfl) ?_)
                  (refine wpF_put ?_; intro K hK; go_simp; refine hK _ ?_; clear hK K)
                  iterate 2 (refine wpF_quiet (grw_ex _) (by kernel_rfl) rfl (noEnter_op (by rfl)) ?_; intro K hK; go_big_quiet_op; go_big_quiet_on)
                  refine wpF_nil ?_
                  intro w6 hw6 hE6
                  have hb6 := grw_below hw6
                  clear hw6 hE6
                  have HB6 := hid (HB3.out.trans (hb6.mono (by rw [← HBA.out]; exact HB3.out.size)))
                  clear hb6
                  go_wp2
                  go_ret
                  exact ⟨ret_bool (by rw [HRES.out]; simp [hij2.out, H4.out, H6.out, H7.out]), by rw [HBA.out]; exact HB6.out⟩
          · have e5 : (ac == 3) = false := neb h5
            have H5 := hid h5
            clear h5
            go_wp2_with fail
            refine wp_region_fresh (fun _ => none) (by kernel_rfl) (by kernel_rfl) ?_
            iterate 4 (refine wpF_quiet (grw_ex _) (by kernel_rfl) rfl (noEnter_op (by rfl)) ?_; intro K hK; go_big_quiet_op; go_big_quiet_on)
            iterate 2 (refine wpF_skip (by kernel_rfl) ?_)
            (refine wpF_put ?_; intro K hK; go_simp; refine hK _ ?_; clear hK K)
            iterate 2 (refine wpF_quiet (grw_ex _) (by kernel_rfl) rfl (noEnter_op (by rfl)) ?_; intro K hK; go_big_quiet_op; go_big_quiet_on)
            iterate 8 (refine wpF_skip (by kernel_rfl) ?_)
            (refine wpF_put ?_; intro K hK; go_simp; refine hK _ ?_; clear hK K)
            iterate 2 (refine wpF_quiet (grw_ex _) (by kernel_rfl) rfl (noEnter_op (by rfl)) ?_; intro K hK; go_big_quiet_op; go_big_quiet_on)
            iterate 5 (refine wpF_skip (by kernel_rfl) ?_)
            (refine wpF_put ?_; intro K hK; go_simp; refine hK _ ?_; clear hK K)
            iterate 2 (refine wpF_quiet (grw_ex _) (by kernel_rfl) rfl (noEnter_op (by rfl)) ?_; intro K hK; go_big_quiet_op; go_big_quiet_on)
            refine wpF_nil ?_
            intro w6 hw6 hE6
            have hb6 := grw_below hw6
            clear hw6 hE6
            have HB6 := hid (HB3.out.trans (hb6.mono (by rw [← HBA.out]; exact HB3.out.size)))
            clear hb6
            go_wp2
            go_ret
            exact ⟨ret_bool (by rw [HRES.out]; simp [hij2.out, H4.out, H5.out]), by rw [HBA.out]; exact HB6.out⟩
      · have e3 : (ob != 3) = true := by simp [h3]
        have h32 := hid h3
        clear h3
        by_cases h4 : oa = 3
        · subst h4
          go_wp2_with fail
          refine wp_region_fresh (fun _ => none) (by kernel_rfl) (by kernel_rfl) ?_
          iterate 4 (refine wpF_quiet (grw_ex _) (by kernel_rfl) rfl (noEnter_op (by rfl)) ?_; intro K hK; go_big_quiet_op; go_big_quiet_on)
          iterate 5 (refine wpF_skip (by kernel_rfl) ?_)
          (refine wpF_put ?_; intro K hK; go_simp; refine hK _ ?_; clear hK K)
          iterate 2 (refine wpF_quiet (grw_ex _) (by kernel_rfl) rfl (noEnter_op (by rfl)) ?_; intro K hK; go_big_quiet_op; go_big_quiet_on)
          refine wpF_nil ?_
          intro w6 hw6 hE6
          have hb6 := grw_below hw6
          clear hw6 hE6
          have HB6 := hid (HB3.out.trans (hb6.mono (by rw [← HBA.out]; exact HB3.out.size)))
          clear hb6
          go_wp2
          go_ret
          exact ⟨ret_bool (by rw [HRES.out]; simp [hij2.out, h32.out]), by rw [HBA.out]; exact HB6.out⟩
        · have e4 : (oa != 3) = true := by simp [h4]
          have H4 := hid h4
          clear h4
          go_wp2_with fail
          refine wp_region_fresh (fun k => match k with | 6 => some (sVal (.agg Y)) | 7 => some (sVal (.string RY)) | 8 => some (sBool I1) | _ => none) (by kernel_rfl) (by kernel_rfl) ?_
          iterate 6 (refine wpF_quiet (grw_ex _) (by kernel_rfl) rfl (noEnter_op (by rfl)) ?_; intro K hK; go_big_quiet_op; go_big_quiet_on)
          refine wpF_told (sVal (.agg Y)) (by kernel_rfl) rfl ⟨_, rfl⟩ stTrue (fun w4 hw4 hE4 => ?_) ?_
          · have hb4 := grw_below hw4
            obtain ⟨l1, l2⟩ := HLY.out w4 hb4
            clear hw4 hE4 hb4
            go_simp
            exact ⟨Lat.refl _, rfl, trivial⟩
          rintro _ rfl
          (refine wpF_put ?_; intro K hK; go_simp; refine hK _ ?_; clear hK K)
          refine wpF_told (sVal (.string RY)) (by kernel_rfl) rfl ⟨_, rfl⟩ stTrue (fun w4 hw4 hE4 => ?_) ?_
          · have hb4 := grw_below hw4
            have hh := HRY.out w4
            clear hw4 hE4 hb4
            go_simp
            go_at_call 97
            refine Calls.mono hh ?_
            rintro e w5 ⟨rfl, hb5⟩
            exact ⟨_, rfl, hb5, rfl, trivial⟩
          rintro _ rfl
          (refine wpF_put ?_; intro K hK; go_simp; refine hK _ ?_; clear hK K)
          refine wpF_told (sBool I1) (by kernel_rfl) rfl ⟨_, rfl⟩ stTrue (fun w4 hw4 hE4 => ?_) ?_
          · have hb4 := grw_below hw4
            have hh := HH1.out w4 hb4
            clear hw4 hE4 hb4
            go_simp
            go_at_call 96
            refine Calls.mono hh ?_
            rintro e w5 ⟨rfl, rfl⟩
            exact ⟨_, rfl, Lat.refl _, rfl, trivial⟩
          rintro _ rfl
          (refine wpF_put ?_; intro K hK; go_simp; refine hK _ ?_; clear hK K)
          iterate 2 (refine wpF_quiet (grw_ex _) (by kernel_rfl) rfl (noEnter_op (by rfl)) ?_; intro K hK; go_big_quiet_op; go_big_quiet_on)
          refine wpF_nil ?_
          intro w6 hw6 hE6
          have hb6 := grw_below hw6
          clear hw6 hE6
          have HB6 := hid (HB3.out.trans (hb6.mono (by rw [← HBA.out]; exact HB3.out.size)))
          clear hb6
          go_wp2
          go_ret
          exact ⟨ret_bool (by rw [HRES.out]; simp [hij2.out, h32.out, H4.out]), by rw [HBA.out]; exact HB6.out⟩
end Go.Proofs.YtpnogmicfomofaaGreatDoor.Stp
/-
  Layer 44: the reference's list: what it holds in memory, and that the reference needs what the program needs. Conditions: those ahead of each theorem.
-/
namespace Go.Proofs.YtpnogmicfomofaaGreatDoor.Stp
open Go.RowKit Go.Sort Go.Lib Go.Maps
open Go.Lib (hid)
set_option linter.unusedVariables false
set_option linter.unusedSimpArgs false

/-- The reference's needs are the program's, for steps of changes. -/
theorem rndB_eq {cs : List Ch} {a b : Nat × Int} (ha : a ∈ psF cs) (hb : b ∈ psF cs) : rndB cs a b = ndB cs (rsK cs cs.length) b a := by
  obtain ⟨hia, _, hoa⟩ := psK_mem (cs := cs) (k := cs.length) ha
  obtain ⟨hib, _, hob⟩ := psK_mem (cs := cs) (k := cs.length) hb
  have hra := rsK_all hia hoa
  have hrb := rsK_all hib hob
  obtain ⟨ia, oa⟩ := a
  obtain ⟨ib, ob⟩ := b
  simp only at *
  unfold rndB ndB removesB makesB
  simp only
  rw [List.getElem?_eq_getElem hia, List.getElem?_eq_getElem hib]
  simp only
  by_cases h3 : ob = 3
  · rw [if_pos h3, if_pos h3]
    by_cases hij : ia = ib
    · subst hij
      rw [if_pos rfl, if_pos rfl]
      by_cases h1 : oa = 1
      · have h2 := (opl_two hoa hob (by omega)).1
        rw [decide_eq_true h1, Bool.true_and, Bool.true_and]
        cases hc : (cs[ia]).cf with
        | true => exact (firstB_iff.2 ⟨h2, rfl⟩).symm
        | false =>
          cases hf : firstB (cs[ia]).act false with
          | false => rfl
          | true => have := (firstB_iff.1 hf).2; cases this
      · rw [decide_eq_false h1]; rfl
    · rw [if_neg hij, if_neg (Ne.symm hij)]
      by_cases h4 : oa = 3
      · rw [if_pos h4, if_pos h4, hrb]
      · rw [if_neg h4, if_neg h4, hrb]
        have e1 : (decide ((cs[ib]).act = 3) && (cs[ib]).cf) = firstB (cs[ib]).act (cs[ib]).cf := by
          rw [Bool.eq_iff_iff, firstB_iff]; simp
        have e2 : (decide (oa = 1) || decide (oa = 2)) = !decide (oa = 4) := by
          rcases opl_mem hoa with ⟨_, h⟩ | ⟨_, h⟩ | ⟨_, h⟩ | ⟨_, h⟩ | ⟨_, h | h⟩ <;> simp [h] <;> omega
        rw [e1, e2]
  · rw [if_neg h3, if_neg h3]
    by_cases hij : ia = ib
    · subst hij
      rw [if_pos rfl, if_pos rfl]
      by_cases h1 : oa = 3
      · by_cases h5 : ob = 1
        · have h2 := (opl_two hoa hob (by omega)).1
          rw [decide_eq_true h1, decide_eq_true h5, Bool.true_and, Bool.true_and]
          cases hc : (cs[ia]).cf with
          | false => exact (lastB_iff.2 ⟨h2, rfl⟩).symm
          | true =>
            cases hf : lastB (cs[ia]).act true with
            | false => rfl
            | true => have := (lastB_iff.1 hf).2; cases this
        · rw [decide_eq_false h5]; rfl
      · rw [decide_eq_false h1]; simp
    · rw [if_neg hij, if_neg (Ne.symm hij), hra]
/-- What the first i steps ask of the needs of step j. -/
def rnK (cs : List Ch) (ps : List (Nat × Int)) (j i : Nat) : List Nat := (List.range i).filter fun k => rndB cs (ps.getD k (0, 0)) (ps.getD j (0, 0))
theorem rnK_succ {cs : List Ch} {ps : List (Nat × Int)} {j i : Nat} (hi : i < ps.length) (hj : j < ps.length) : rnK cs ps j (i + 1) = rnK cs ps j i ++ if rndB cs ps[i] ps[j] = true then [i] else [] := by
  have e1 : ps.getD i (0, 0) = ps[i] := by rw [List.getD_eq_getElem?_getD, List.getElem?_eq_getElem hi]; rfl
  have e2 : ps.getD j (0, 0) = ps[j] := by rw [List.getD_eq_getElem?_getD, List.getElem?_eq_getElem hj]; rfl
  unfold rnK
  rw [List.range_succ, List.filter_append, List.filter_cons, List.filter_nil, e1, e2]
theorem rnK_len (cs : List Ch) (ps : List (Nat × Int)) (j i : Nat) : (rnK cs ps j i).length ≤ i := by
  unfold rnK
  exact Nat.le_trans (List.length_filter_le _ _) (by rw [List.length_range]; exact Nat.le_refl _)
theorem rnK_all {cs : List Ch} {j : Nat} (hj : j < (psF cs).length) : rnK cs (psF cs) j (psF cs).length = ndF cs j := by
  unfold rnK ndF ndK
  apply List.filter_congr
  intro k hk
  rw [List.mem_range] at hk
  have e1 : (psF cs).getD k (0, 0) = (psF cs)[k] := by rw [List.getD_eq_getElem?_getD, List.getElem?_eq_getElem hk]; rfl
  have e2 : (psF cs).getD j (0, 0) = (psF cs)[j] := by rw [List.getD_eq_getElem?_getD, List.getElem?_eq_getElem hj]; rfl
  rw [e1, e2]
  exact rndB_eq (List.getElem_mem hk) (List.getElem_mem hj)
/-- The needs while they are collected: those of the steps ahead of b are complete, those of b as far as step a. -/
def rnF (cs : List Ch) (ps : List (Nat × Int)) (b a : Nat) : Nat → List Nat := fun j => if j < b then rnK cs ps j ps.length else if j = b then rnK cs ps j a else []
theorem rnF_start (cs : List Ch) (ps : List (Nat × Int)) : rnF cs ps 0 0 = fun _ => [] := by
  funext j
  unfold rnF
  rw [if_neg (by omega)]
  split
  · rfl
  · rfl
theorem rnF_next (cs : List Ch) (ps : List (Nat × Int)) (b : Nat) : rnF cs ps (b + 1) 0 = rnF cs ps b ps.length := by
  funext j
  unfold rnF
  by_cases h1 : j < b
  · rw [if_pos (by omega), if_pos h1]
  · by_cases h2 : j = b
    · subst h2
      rw [if_pos (by omega), if_neg h1, if_pos rfl]
    · rw [if_neg (by omega), if_neg h1, if_neg h2]
      split
      · rfl
      · rfl
theorem rnF_keep {cs : List Ch} {ps : List (Nat × Int)} {b a : Nat} (ha : a < ps.length) (hb : b < ps.length) (h : rndB cs ps[a] ps[b] = false) : rnF cs ps b (a + 1) = rnF cs ps b a := by
  funext j
  unfold rnF
  by_cases h2 : j = b
  · subst h2
    rw [if_neg (by omega), if_pos rfl, if_neg (by omega), if_pos rfl, rnK_succ ha hb, h]
    simp
  · rw [if_neg h2, if_neg h2]
theorem rnF_add {cs : List Ch} {ps : List (Nat × Int)} {b a : Nat} (ha : a < ps.length) (hb : b < ps.length) (h : rndB cs ps[a] ps[b] = true) : rnF cs ps b (a + 1) = fun j => if j = b then rnF cs ps b a j ++ [a] else rnF cs ps b a j := by
  funext j
  by_cases h2 : j = b
  · subst h2
    rw [if_pos rfl]
    unfold rnF
    rw [if_neg (by omega), if_pos rfl, if_neg (by omega), if_pos rfl, rnK_succ ha hb, h]
    simp
  · rw [if_neg h2]
    unfold rnF
    rw [if_neg h2, if_neg h2]
theorem rnF_len (cs : List Ch) (ps : List (Nat × Int)) (b a j : Nat) (ha : a ≤ ps.length) : (rnF cs ps b a j).length ≤ ps.length := by
  unfold rnF
  split
  · exact rnK_len _ _ _ _
  · split
    · exact Nat.le_trans (rnK_len _ _ _ _) ha
    · exact Nat.zero_le _
/-- The steps in memory while the needs are collected. -/
structure MkL (w : World) (G g : Nat) (W : World) (rs : Option Addr) (cp : Nat) (ps : List (Nat × Int)) (vs : Nat → SV) (F : Nat → List Nat) : Prop where
  rsg : 0 < ps.length → rs = some ⟨g, 0, none⟩ ∧ w.heap.size ≤ g ∧ g < G
  el : ∀ j (hj : j < ps.length), W.cell? ⟨g, j * 3, none⟩ = some (.int .i64 (ps[j]).1) ∧ W.cell? ⟨g, j * 3 + 1, none⟩ = some (.int .i64 (ps[j]).2) ∧ W.cell? ⟨g, j * 3 + 2, none⟩ = some (vs j).v ∧ W.frozen? ⟨g, j * 3 + 2, none⟩ = false
  nd : ∀ j, j < ps.length → OwnI G W (vs j).v ((F j).map Nat.cast)
  ap : ∀ i j, i < ps.length → j < ps.length → i ≠ j → Apart (vs i).v (vs j).v
  bel : Below w.heap.size w W
  sz : G ≤ W.heap.size
  gs : w.heap.size ≤ G
  cap : ps.length ≤ cp ∧ cp ≤ maxLen
section
variable {w W : World} {G g : Nat} {rs : Option Addr} {cp : Nat} {ps : List (Nat × Int)} {vs : Nat → SV} {F : Nat → List Nat}
theorem MkL.below {W' : World} (h : MkL w G g W rs cp ps vs F) (hb : Below W.heap.size W W') : MkL w G g W' rs cp ps vs F := by
  refine ⟨h.rsg, fun j hj => ?_, fun j hj => (h.nd j hj).below hb, h.ap, h.bel.trans (hb.mono h.bel.size), Nat.le_trans h.sz hb.size, h.gs, h.cap⟩
  obtain ⟨e1, e2, e3, e4⟩ := h.el j hj
  have hl := (h.rsg (by omega)).2.2
  have hs := h.sz
  exact ⟨bget hb e1, bget hb e2, bget hb e3, (grown_frozen (grown_below hb) (by omega) (fun _ e => by cases e)).trans e4⟩
theorem MkL.add {W' : World} (h : MkL w G g W rs cp ps vs F) {k : Nat} (hk : k < ps.length) {i gn len cap : Nat} (hl : len = (F k).length + 1) (hm : MoreI G W (vs k).v ((F k).map Nat.cast ++ [(i : Int)]) W.heap.size gn cap W') :
    MkL w G g (W'.setCell ⟨g, k * 3 + 2, none⟩ (.slice (some ⟨gn, 0, none⟩) len cap)) rs cp ps (fun j => if j = k then ⟨some ⟨gn, 0, none⟩, len, cap⟩ else vs j) (fun j => if j = k then F j ++ [i] else F j) := by
  obtain ⟨m1, m2, m3, m4⟩ := hm
  have hlen : ((F k).map Nat.cast ++ [(i : Int)]).length = len := by simp [hl]
  rw [hlen] at m1
  obtain ⟨hrs, hg1, hg2⟩ := h.rsg (by omega)
  have hkown := h.nd k hk
  have hsz := h.sz
  have hgs := h.gs
  have hne : ∀ x, (vs k).v.ownBlock = some x → x ≠ g := fun x hx e => by have := (hkown.lt _ hx).1; omega
  have hg := grown_set W' ⟨g, k * 3 + 2, none⟩ (.slice (some ⟨gn, 0, none⟩) len cap)
  have hat : ∀ {b : Value}, (∀ x, b.ownBlock = some x → x < W.heap.size) → Apart b (vs k).v → Apart b (.slice (some ⟨gn, 0, none⟩) len cap) := fun hb hap =>
    apart_new hap (m3.imp id fun e x hx => by have := hb x hx; omega)
  refine ⟨h.rsg, fun j hj => ?_, fun j hj => ?_, fun a b ha hb hab => ?_, Below.grown (Below.grown h.bel m2 h.bel.size (fun x hx => by have := (hkown.lt _ hx).1; omega)) hg (by have := h.bel.size; have := m2.size; omega) (fun x e => by cases e; exact hg1), ?_, h.gs, h.cap⟩
  · obtain ⟨a1, a2, a3, a4⟩ := h.el j hj
    have b1 := grown_cell m2 (by omega) hne a1
    have b2 := grown_cell m2 (by omega) hne a2
    have b3 := grown_cell m2 (by omega) hne a3
    have b4 := (grown_frozen (o := j * 3 + 2) m2 (b := g) (by omega) hne).trans a4
    refine ⟨by rw [scell_ne (by omega)]; exact b1, by rw [scell_ne (by omega)]; exact b2, ?_, by simpa using b4⟩
    by_cases e : j = k
    · subst e
      rw [scell_same b3]
      simp [SV.v]
    · rw [scell_ne (by omega), b3]
      simp [e]
  · by_cases e : j = k
    · subst e
      simp only [if_pos rfl]
      have := m1.setBelow (a := ⟨g, j * 3 + 2, none⟩) (by simpa using hg2) (.slice (some ⟨gn, 0, none⟩) len cap)
      simpa [SV.v] using this
    · simp only [if_neg e]
      exact ((h.nd j hj).kept m2 (fun x hx e2 => h.ap j k hj hk e x hx e2)).setBelow (a := ⟨g, k * 3 + 2, none⟩) (by simpa using hg2) _
  · by_cases e1 : a = k
    · by_cases e2 : b = k
      · omega
      · subst e1
        simp only [if_pos rfl, if_neg e2]
        exact (hat (fun x hx => ((h.nd b hb).lt x hx).2) (h.ap b a hb ha (fun h => hab h.symm))).symm
    · by_cases e2 : b = k
      · subst e2
        simp only [if_pos rfl, if_neg e1]
        exact hat (fun x hx => ((h.nd a ha).lt x hx).2) (h.ap a b ha hb hab)
      · simp only [if_neg e1, if_neg e2]
        exact h.ap a b ha hb hab
  · have := m2.size
    simp [World.setCell]
    omega
theorem MkL.hole {W' : World} (h : MkL w G g W rs cp ps vs F) {k : Nat} (hk : k < ps.length) {v : Value} {xs : List Int} {H gn cap : Nat} (hv : v = (vs k).v) (hm : MoreI G W v xs H gn cap W') :
    W'.cell? ⟨g, k * 3 + 2, none⟩ = some v ∧ W'.frozen? ⟨g, k * 3 + 2, none⟩ = false := by
  subst hv
  obtain ⟨hrs, hg1, hg2⟩ := h.rsg (by omega)
  have hkown := h.nd k hk
  have hsz := h.sz
  have hne : ∀ x, (vs k).v.ownBlock = some x → x ≠ g := fun x hx e => by have := (hkown.lt _ hx).1; omega
  obtain ⟨_, _, a3, a4⟩ := h.el k hk
  exact ⟨grown_cell hm.2.1 (by omega) hne a3, (grown_frozen (o := k * 3 + 2) hm.2.1 (b := g) (by omega) hne).trans a4⟩
theorem MkL.fin (h : MkL w G g W rs cp ps vs F) (hp : ∀ p ∈ ps, p.1 ≤ 1000000 ∧ 1 ≤ p.2 ∧ p.2 ≤ 4) (ss : List St) (hl : ss.length = ps.length) (hss : ∀ j (hj : j < ps.length) (hj' : j < ss.length), ss[j] = ⟨(ps[j]).1, (ps[j]).2, (F j).map Nat.cast⟩) :
    Sl StR 3 W (.slice rs ps.length cp) ss := by
  refine ⟨rs, cp, by rw [hl], by rw [hl]; exact h.cap.1, h.cap.2, fun i hi => ?_⟩
  rw [hl] at hi
  obtain ⟨hrs, _⟩ := h.rsg (by omega)
  obtain ⟨e1, e2, e3, _⟩ := h.el i hi
  have hb := hp _ (List.getElem_mem hi)
  refine ⟨g, 0, [.int .i64 (ps[i]).1, .int .i64 (ps[i]).2, (vs i).v], hrs, rfl, fun j u hj => ?_, (vs i).v, ?_⟩
  · rw [Nat.zero_add]
    match j, hj with
    | 0, hj => cases hj; exact e1
    | 1, hj => cases hj; exact e2
    | 2, hj => cases hj; exact e3
    | j + 3, hj => cases hj
  · rw [hss i hi (by omega)]
    exact ⟨rfl, (h.nd i hi).sl, ⟨by simp only; omega, by simp only; omega⟩, ⟨by simp only; omega, by simp only; omega⟩⟩
end
/-- Where it begins. -/
theorem MkL.start {w W : World} {v : Value} {ps : List (Nat × Int)} (h : OwnT w.heap.size W v ps) (hb : Below w.heap.size w W) :
    ∃ g rs cp, v = .slice rs ps.length cp ∧ MkL w W.heap.size g W rs cp ps (fun _ => ⟨none, 0, 0⟩) (fun _ => []) := by
  have hsl := sl_of_own encT encT_len h
  rcases h.2 with ⟨rfl, h0⟩ | ⟨g, cap, cur, rfl, hbb, hg, hn, hc, hs, ht⟩
  · exact ⟨0, none, 0, by rw [h0], fun hp => by omega, fun j hj => by omega, fun j hj => by omega, fun i j hi => by omega, hb, Nat.le_refl _, hb.size, by rw [h0]; unfold maxLen; omega⟩
  · refine ⟨g, some ⟨g, 0, none⟩, cap, rfl, fun _ => ⟨rfl, hbb, lt_of_block hg⟩, fun j hj => ?_, fun j hj => ownI_nil _ _, fun i j _ _ _ x hx => by simp [SV.v, Value.ownBlock] at hx, hb, Nat.le_refl _, hb.size, hn, hc⟩
    obtain ⟨_, _, e, _, _, he⟩ := hsl
    obtain ⟨b, off, ds, hr, _, hcell, hd⟩ := he j hj
    simp at e
    obtain ⟨e1, _⟩ := e
    subst hd
    rw [← e1] at hr
    simp at hr
    obtain ⟨rfl, rfl⟩ := hr
    have g0 := hcell 0 _ rfl
    have g1 := hcell 1 _ rfl
    have g2 := hcell 2 _ rfl
    simp only [Nat.zero_add, Nat.add_zero] at g0 g1 g2
    exact ⟨g0, g1, g2, frozen_of hg _⟩
end Go.Proofs.YtpnogmicfomofaaGreatDoor.Stp
/-
  Layer 44: the reference's list. Conditions: those ahead of each theorem.
-/
namespace Go.Proofs.YtpnogmicfomofaaGreatDoor.Stp
open Go.RowKit Go.Sort Go.Lib Go.Maps
open Go.Lib (hid)
attribute [local go_sem] frUpon
attribute [local go_sem ↓] ldC_eq
attribute [local go_sem] ldC_run lies_drew rd22_drew lies_drewN rd22_drewN
set_option linter.unusedVariables false
set_option linter.unusedSimpArgs false

/-- The first q operations of change i as steps. -/
def pqL (cs : List Ch) (i : Nat) (xs : List Int) (q : Nat) : List (Nat × Int) := psK cs i ++ (xs.take q).map fun o => (i, o)
theorem pqL_zero (cs : List Ch) (i : Nat) (xs : List Int) : pqL cs i xs 0 = psK cs i := by unfold pqL; simp
theorem pqL_succ {cs : List Ch} {i : Nat} {xs : List Int} {q : Nat} (hq : q < xs.length) : pqL cs i xs (q + 1) = pqL cs i xs q ++ [(i, xs[q])] := by
  unfold pqL
  rw [List.take_succ_eq_append_getElem hq, List.map_append, ← List.append_assoc]
  rfl
theorem pqL_all {cs : List Ch} {i : Nat} (hi : i < cs.length) : pqL cs i (opl cs[i]) (opl cs[i]).length = psK cs (i + 1) := by
  unfold pqL
  rw [psK_succ, plusK_at hi, List.take_length]
theorem pqL_len (cs : List Ch) (i : Nat) (xs : List Int) (q : Nat) (h : xs.length ≤ 2) : (pqL cs i xs q).length ≤ 2 * i + 2 := by
  have := psK_len cs i
  unfold pqL
  rw [List.length_append, List.length_map, List.length_take]
  omega
/-- The operations in memory, apart from a row. -/
def OpC (r : Option Addr) (xs : List Int) (W : World) (v : Value) : Prop := ∀ q (hq : q < xs.length), ∃ b o, r = some ⟨b, o, none⟩ ∧ b < W.heap.size ∧ W.cell? ⟨b, o + q, none⟩ = some (.int .i64 xs[q]) ∧ v.ownBlock ≠ some b
theorem OpC.start {r : Option Addr} {c : Nat} {xs : List Int} {W W1 : World} {B : Nat} {v : Value} {ys : List (Nat × Int)} (h : Sl IntR 1 W1 (.slice r xs.length c) xs) (hr : ∀ a, r = some a → W.heap.size ≤ a.block) (ho : OwnT B W v ys) : OpC r xs W1 v := fun q hq => by
  obtain ⟨b, o, rfl, hb, g, _⟩ := int_at h q hq
  exact ⟨b, o, rfl, hb, g, fun e => by have := (ownT_lt ho b e).2; have := hr _ rfl; simp only at this; omega⟩
theorem OpC.more {r : Option Addr} {xs : List Int} {W W1 W2 : World} {v : Value} {ys : List (Nat × Int)} {B g cap H n : Nat} (h : OpC r xs W v) (hb : Below W.heap.size W W1) (hm : MoreT B W1 v ys H g cap W2) (hH : W.heap.size ≤ H) : OpC r xs W2 (.slice (some ⟨g, 0, none⟩) n cap) := fun q hq => by
  obtain ⟨b, o, hr, hbl, hc, hne⟩ := h q hq
  have hb2 : b < W1.heap.size := Nat.lt_of_lt_of_le hbl hb.size
  refine ⟨b, o, hr, Nat.lt_of_lt_of_le hb2 hm.2.1.size, grown_cell hm.2.1 hb2 (fun x hx e => hne (by rw [hx, e])) (bget hb hc), fun e => ?_⟩
  simp [Value.ownBlock] at e
  rcases hm.2.2.1 with h1 | h1
  · exact hne (by rw [h1, e])
  · omega
def LstP (cs : List Ch) (w : World) (e : Ending) (w' : World) : Prop := ∃ v, e = .returned v ∧ Sl StR 3 w' v (stF cs) ∧ Below w.heap.size w w'
set_option maxRecDepth 100000 in
set_option maxHeartbeats 40000000 in
theorem rlist_any (rc : Option Addr) (cc : Nat) (cs : List Ch) (w : World) (hS : Sl ChR 22 w (.slice rc cs.length cc) cs) (hn : cs.length ≤ 2000) (had : ∀ c ∈ cs, c.addr.size ≤ 100001) :
    Calls Tryz.prog 39 #[.slice rc cs.length cc] w (LstP cs w) := by
  have HND := hid (fun (a b : Nat × Int) (sv tv : SV) (W : World) (hW : Below w.heap.size w W) (hi : a.1 < cs.length) (hj : b.1 < cs.length) => rneeds_any rc cc cs a b sv tv W (hS.below chR_mono hW) hi hj (by omega) had)
  have HCH := hid (fun (W : World) (hW : Below w.heap.size w W) => ch_at (hS.below chR_mono hW))
  obtain ⟨_, hl, hm⟩ := sl_len hS
  clear hS had
  go_enter Tryz.func39, Tryz.ntmps39
  go_wp2
  go_loopg [3, 4] cs.length (fun gg s3 s4 wr => ∃ (i : Nat) (v : Value), i ≤ cs.length ∧ cs.length - i ≤ gg ∧ s4 = .int .i64 i ∧ v = s3 ∧ Hid (OwnT w.heap.size wr v (psK cs i)) ∧ Hid (Below w.heap.size w wr))
  case atStart => exact ⟨0, _, by omega, by omega, rfl, rfl, hid (by rw [show psK cs 0 = [] by simp [psK]]; exact ownT_nil _ _), hid (Below.refl _ _)⟩
  case round =>
    obtain ⟨i, v, hi, hgg, rfl, rfl, HO, HB⟩ := hrel
    by_cases hlt : i < cs.length
    · obtain ⟨cb, coff, x, rfl, hcb, hcell, hx⟩ := HCH.out wr HB.out i hlt
      obtain ⟨l1, l2⟩ := lies_of (cells22 x) hcell
      have HXO := hid (show opV x.ac x.cf = opl cs[i] by rw [hx.2.1, hx.2.2.1, opV_eq])
      have HOP := hid (fun W => rops_any x W)
      rw [HXO.out] at HOP
      have HLN := hid (show (opl cs[i]).length ≤ 2 from opl_len _)
      have HAL := hid (pqL_all (cs := cs) hlt)
      have HIB := hid (fun q (hq : q < (opl cs[i]).length) => opl_ib cs[i] _ (List.getElem_mem hq))
      clear hcell hx HXO
      generalize opl cs[i] = xs at *
      generalize x.arr = X at *
      unfold OpsP at HOP
      have hii : (0 : Int) ≤ (i : Int) := by omega
      have hii2 : (i : Int) < (cs.length : Int) := by omega
      obtain ⟨wo, hwo⟩ : ∃ wo : World, wo = wr := ⟨_, rfl⟩
      go_wp2_with (go_at_call 66; refine (HOP.out _).mono ?_; rintro e w1 ⟨r1, c1, rfl, hs1, hr1, hb1⟩; have HOC := hid (OpC.start hs1 hr1 HO.out); have HB1 := hid hb1; clear hs1 hb1 hr1)
      subst hwo
      have HO1 := hid (show OwnT w.heap.size w1 v (pqL cs i xs 0) by rw [pqL_zero]; exact kept_off HO.out (grown_below HB1.out) (fun _ _ e => by cases e))
      have HBX := hid (HB.out.trans (HB1.out.mono HB.out.size))
      clear HOP l1 l2 HO
      go_loopg [3, 6] xs.length (fun gg s3 s6 wr => ∃ (q : Nat) (v : Value), q ≤ xs.length ∧ xs.length - q ≤ gg ∧ s6 = .int .i64 q ∧ v = s3 ∧ Hid (OwnT w.heap.size wr v (pqL cs i xs q)) ∧ Hid (OpC r1 xs wr v) ∧ Hid (Below w.heap.size w wr))
      case atStart => exact ⟨0, _, by omega, by omega, rfl, rfl, HO1, HOC, HBX⟩
      case round =>
        clear HO1 HOC
        obtain ⟨q, v, hq, hgq, rfl, rfl, HO, HOC, HBW⟩ := hrel
        by_cases hql : q < xs.length
        · obtain ⟨b4, o4, rfl, hb4, g4, _⟩ := HOC.out q hql
          have HSU := hid (pqL_succ (cs := cs) (i := i) hql)
          have HPL := hid (show (pqL cs i xs q).length + 1 ≤ 1000000 by have := pqL_len cs i xs q HLN.out; omega)
          generalize xs[q] = o at *
          obtain ⟨ro, co, hv, ho1, ho2⟩ := ownT_form HO.out
          subst hv
          have hqi : (0 : Int) ≤ (q : Int) := by omega
          have hq3 : q < 2 := by have := HLN.out; omega
          have hqi2 : (q : Int) < (xs.length : Int) := by omega
          generalize hPS : pqL cs i xs q = PS at *
          have HBA := hid (show Below wr.heap.size wr (wr.alloc (.cells #[.int .i64 (i : Int), .int .i64 o, .slice none 0 0] 48)) from (Below.refl _ _).alloc (Nat.le_refl _) _)
          have HO6 := hid (show OwnT w.heap.size (wr.alloc (.cells #[.int .i64 (i : Int), .int .i64 o, .slice none 0 0] 48)) (.slice ro PS.length co) PS from kept_off HO.out (grown_below HBA.out) (fun _ _ e => by cases e))
          have HZ6 := hid (show w.heap.size ≤ (wr.alloc (.cells #[.int .i64 (i : Int), .int .i64 o, .slice none 0 0] 48)).heap.size from Nat.le_trans HBW.out.size HBA.out.size)
          go_wp2_with (at_builtin
                       refine app_t rfl _ _ rfl w.heap.size (.slice ro PS.length co) PS rfl HO6.out wr.heap.size 1 (i, o) rfl (fr := (0, 0)) (by exact (MapKept.heap_alloc wr _).1) HPL.out HZ6.out (wr.heap.size + 1) (by simp) ?_
                       intro g cap w8 hm8
                       have HM8 := hid hm8
                       have HC8 := hid (HOC.out.more (n := PS.length + 1) HBA.out hm8 (by simp))
                       clear hm8)
          go_roundg (xs.length - (q + 1))
          case measure => omega
          case rel => exact ⟨q + 1, _, by omega, by omega, by go_num, rfl, hid (by
              have h := HM8.out.1
              rw [show (PS ++ [(i, o)]).length = PS.length + 1 by simp] at h
              rw [HSU.out]
              exact h), HC8, hid ((HBW.out.trans (HBA.out.mono HBW.out.size)).grown HM8.out.2.1 (Nat.le_trans HBW.out.size HBA.out.size) (fun g hg => (ownT_lt HO6.out g hg).1))⟩
        · obtain rfl : q = xs.length := by omega
          have HO9 := hid (show OwnT w.heap.size wr v (psK cs (i + 1)) by rw [← HAL.out]; exact HO.out)
          obtain ⟨ro, co, hv, ho1, ho2⟩ := ownT_form HO.out
          subst hv
          go_wp2
          go_roundg (cs.length - (i + 1))
          case measure => omega
          case rel => exact ⟨i + 1, _, by omega, by omega, by go_num, rfl, HO9, HBW⟩
    · obtain rfl : i = cs.length := by omega
      have HLM := hid (show (psF cs).length ≤ 4000 by have := psK_len cs cs.length; unfold psF; omega)
      obtain ⟨g, rs, cp, hv, hM⟩ := MkL.start (show OwnT w.heap.size wr v (psF cs) from HO.out) HB.out
      subst hv
      have HPM := hid (fun j (hj : j < (psF cs).length) => psK_mem (cs := cs) (k := cs.length) (List.getElem_mem hj))
      have HFI := hid (fun (W : World) (vs : Nat → SV) (G : Nat) (h : MkL w G g W rs cp (psF cs) vs (rnF cs (psF cs) (psF cs).length 0)) => show Sl StR 3 W (.slice rs (psF cs).length cp) (stF cs) from
        h.fin (fun p hp => ⟨by have := (psK_lt cs cs.length p hp).2; omega, psK_ib cs cs.length p hp⟩) (stF cs) (stF_len cs) (fun j hj hj' => by
          rw [stF_at cs j hj hj']
          unfold rnF
          rw [if_pos hj, rnK_all hj]))
      have HN0 := hid (show MkL w wr.heap.size g wr rs cp (psF cs) (fun _ => ⟨none, 0, 0⟩) (rnF cs (psF cs) 0 0) by rw [rnF_start]; exact hM)
      have HKE := hid (fun a b ha hb h => rnF_keep (cs := cs) (ps := psF cs) (a := a) (b := b) ha hb h)
      have HAD := hid (fun a b ha hb h => rnF_add (cs := cs) (ps := psF cs) (a := a) (b := b) ha hb h)
      have HNX := hid (fun b => rnF_next cs (psF cs) b)
      have HFL := hid (fun b a j h => rnF_len cs (psF cs) b a j h)
      have HPB := hid (fun j (hj : j < (psF cs).length) => (HPM.out j hj).1)
      clear hM HO HPM hlt
      generalize psF cs = ps at *
      have hcap : ps.length ≤ cp ∧ cp ≤ maxLen := HN0.out.cap
      unfold maxLen at hcap
      go_wp2
      generalize wr.heap.size = G at *
      go_loopg [7] ps.length (fun gg s7 wr => ∃ (b : Nat) (vs : Nat → SV), b ≤ ps.length ∧ ps.length - b ≤ gg ∧ s7 = .int .i64 b ∧ Hid (MkL w G g wr rs cp ps vs (rnF cs ps b 0)))
      case atStart => exact ⟨0, _, by omega, by omega, rfl, HN0⟩
      case round =>
        clear HN0 HB
        obtain ⟨b, vs, hb, hgb, rfl, HJ⟩ := hrel
        by_cases hbl : b < ps.length
        · obtain ⟨wo, hwo⟩ : ∃ wo : World, wo = wr := ⟨_, rfl⟩
          go_wp2
          subst hwo
          go_loopg [8] ps.length (fun gg s8 wr => ∃ (a : Nat) (vs : Nat → SV), a ≤ ps.length ∧ ps.length - a ≤ gg ∧ s8 = .int .i64 a ∧ Hid (MkL w G g wr rs cp ps vs (rnF cs ps b a)))
          case atStart => exact ⟨0, _, by omega, by omega, rfl, HJ⟩
          case round =>
            clear HJ
            obtain ⟨a, vs, ha, hga, rfl, HK⟩ := hrel
            by_cases hal : a < ps.length
            · obtain ⟨x1, x2, x3, x4⟩ := HK.out.el a hal
              obtain ⟨y1, y2, y3, y4⟩ := HK.out.el b hbl
              obtain ⟨hrs, hg1, hg2⟩ := HK.out.rsg (by omega)
              have hgl : g < wr.heap.size := Nat.lt_of_lt_of_le hg2 HK.out.sz
              subst hrs
              have HN1 := hid (fun (W : World) (hW : Below wr.heap.size wr W) => HND.out ps[a] ps[b] (vs a) (vs b) W (HK.out.bel.trans (hW.mono HK.out.bel.size)) (HPB.out a hal) (HPB.out b hbl))
              have HKE2 := hid (HKE.out a b hal hbl)
              have HAD2 := hid (HAD.out a b hal hbl)
              unfold SV.v at x3 y3
              have e1 := fun d os => cell_regrown x1 d os
              have e2 := fun d os => cell_regrown x2 d os
              have e3 := fun d os => cell_regrown x3 d os
              have e4 := fun d os => cell_regrown y1 d os
              have e5 := fun d os => cell_regrown y2 d os
              have e6 := fun d os => cell_regrown y3 d os
              have hai : (0 : Int) ≤ (a : Int) := by omega
              have hai2 : (a : Int) < (ps.length : Int) := by omega
              have hbi : (0 : Int) ≤ (b : Int) := by omega
              have hbi2 : (b : Int) < (ps.length : Int) := by omega
              clear x1 x2 x3 x4 y1 y2 y4
              generalize hva : vs a = va at *
              clear hva
              generalize ps[a] = pa at *
              generalize ps[b] = pb at *
              cases hB : rndB cs pa pb with
              | false =>
                rw [hB] at HN1
                have HKK := hid (HKE2.out hB)
                clear HKE2 HAD2 hB y3
                go_wp2_with fail
                refine wp_region_fresh (fun k => match k with | 9 => some (sBool false) | _ => none) (by kernel_rfl) (by kernel_rfl) ?_
                iterate 9 (refine wpF_quiet (grw_ex _) (by kernel_rfl) rfl (noEnter_op (by rfl)) ?_; intro K hK; go_big_quiet_op; go_big_quiet_on)
                refine wpF_told (sBool false) (by kernel_rfl) rfl ⟨_, rfl⟩ stTrue (fun w4 hw4 hE4 => ?_) ?_
                · have hb4 := grw_below hw4
                  have hh := HN1.out w4 hb4
                  clear hw4 hE4 hb4
                  go_simp
                  go_at_call 67
                  refine Calls.mono hh ?_
                  rintro e w5 ⟨rfl, hb5⟩
                  exact ⟨_, rfl, hb5, rfl, trivial⟩
                rintro _ rfl
                (refine wpF_put ?_; intro K hK; go_simp; refine hK _ ?_; clear hK K)
                refine wpF_nil ?_
                intro w6 hw6 hE6
                have hb6 := grw_below hw6
                clear hw6 hE6
                have HK6 := hid (show MkL w G g w6 (some ⟨g, 0, none⟩) cp ps vs (rnF cs ps b (a + 1)) by rw [HKK.out]; exact HK.out.below hb6)
                clear hb6
                go_wp2
                go_roundg (ps.length - (a + 1))
                case measure => omega
                case rel => exact ⟨a + 1, _, by omega, by omega, by go_num, HK6⟩
              | true =>
                rw [hB] at HN1
                have HKK := hid (HAD2.out hB)
                clear HKE2 HAD2 hB
                go_wp2_with fail
                refine wp_region_fresh (fun k => match k with | 9 => some (sBool true) | _ => none) (by kernel_rfl) (by kernel_rfl) ?_
                iterate 9 (refine wpF_quiet (grw_ex _) (by kernel_rfl) rfl (noEnter_op (by rfl)) ?_; intro K hK; go_big_quiet_op; go_big_quiet_on)
                refine wpF_told (sBool true) (by kernel_rfl) rfl ⟨_, rfl⟩ stTrue (fun w4 hw4 hE4 => ?_) ?_
                · have hb4 := grw_below hw4
                  have hh := HN1.out w4 hb4
                  clear hw4 hE4 hb4
                  go_simp
                  go_at_call 67
                  refine Calls.mono hh ?_
                  rintro e w5 ⟨rfl, hb5⟩
                  exact ⟨_, rfl, hb5, rfl, trivial⟩
                rintro _ rfl
                (refine wpF_put ?_; intro K hK; go_simp; refine hK _ ?_; clear hK K)
                refine wpF_nil ?_
                intro w6 hw6 hE6
                have hb6 := grw_below hw6
                clear hw6 hE6
                have HK6 := hid (HK.out.below hb6)
                have z3 := bget hb6 y3
                clear hb6 y3 e1 e2 e3 e4 e5 e6 HN1
                obtain ⟨ru, cu, hvu, hu1, hu2⟩ := (HK6.out.nd b hbl).form
                have HUL := hid (show ((rnF cs ps b a b).map (Nat.cast : Nat → Int)).length + 1 ≤ 1000000 by rw [List.length_map]; have := HFL.out b a b (by omega); have := HLM.out; omega)
                rw [List.length_map] at hvu hu1
                have hzz : w6.cell? ⟨g, b * 3 + 2, none⟩ = some (.slice ru (rnF cs ps b a b).length cu) := by rw [← hvu]; exact z3
                clear z3
                have HK7 := hid (HK6.out.below ((Below.refl w6.heap.size w6).alloc (Nat.le_refl _) (.cells #[.int .i64 (a : Int)] 3)))
                have HOw := hid (show OwnI G (w6.alloc (.cells #[.int .i64 (a : Int)] 3)) (.slice ru (rnF cs ps b a b).length cu) ((rnF cs ps b a b).map Nat.cast) from by
                  have h := HK7.out.nd b hbl
                  rw [hvu] at h
                  exact h)
                have HVU := hid hvu
                have HGL := hid (show G ≤ (w6.alloc (.cells #[.int .i64 (a : Int)] 3)).heap.size from HK7.out.sz)
                have HIB := hid (show IB (a : Int) from ⟨by omega, by have := HLM.out; omega⟩)
                have hgl6 : g < w6.heap.size := Nat.lt_of_lt_of_le hg2 HK6.out.sz
                unfold maxLen at hu2
                clear hvu
                generalize hR : rnF cs ps b a b = R at *
                have HRR := hid hR
                clear hR
                go_wp2_with (at_builtin
                             refine app_int rfl _ _ rfl G (.slice ru R.length cu) (R.map Nat.cast) rfl HOw.out w6.heap.size 1 a rfl (fr := (0, 0)) (by exact (MapKept.heap_alloc w6 _).1) HIB.out HUL.out HGL.out (w6.heap.size + 1) (by simp) ?_
                             intro g8 cap8 w8 hm8
                             rw [List.length_map]
                             have HM8 := hid (HK7.out.add hbl (i := a) (len := R.length + 1) (by rw [HRR.out]) (by rw [HVU.out, HRR.out]; simpa using hm8))
                             obtain ⟨q1, q2⟩ := HK7.out.hole hbl (by rw [HVU.out]) hm8
                             clear hm8)
                go_roundg (ps.length - (a + 1))
                case measure => omega
                case rel => exact ⟨a + 1, _, by omega, by omega, by go_num, hid (show MkL w G g _ _ cp ps _ (rnF cs ps b (a + 1)) from HKK.out ▸ HM8.out)⟩
            · obtain rfl : a = ps.length := by omega
              have HJ9 := hid (show MkL w G g wr rs cp ps vs (rnF cs ps (b + 1) 0) by rw [HNX.out]; exact HK.out)
              go_wp2
              go_roundg (ps.length - (b + 1))
              case measure => omega
              case rel => exact ⟨b + 1, _, by omega, by omega, by go_num, HJ9⟩
        · obtain rfl : b = ps.length := by omega
          have HF9 := hid (HFI.out wr vs G HJ.out)
          go_wp2
          go_ret
          exact ⟨_, rfl, HF9.out, HJ.out.bel⟩
end Go.Proofs.YtpnogmicfomofaaGreatDoor.Stp
