import Derived.Test.YtpnogmicfomofaaGreatDoorZo
import Derived.Test.YtpnogmicfomofaaGreatDoorEk
import Derived.Deep.RegionHeld3
import Derived.Deep.RegionLaw
/-
  Layer 44: the program's resource. Conditions: those ahead of each theorem.
-/
namespace Go.Proofs.YtpnogmicfomofaaGreatDoor.Stp
open Go.RowKit Go.Sort Go.Lib Go.Maps
open Go.Lib (hid)
open Adr (WT prE stcB pstatic_any)
set_option linter.unusedVariables false
set_option linter.unusedSimpArgs false

/-- The resource of a change with an address. -/
def resB (a : ByteArray) : ByteArray := if prE a.data.toList = 0 then ⟨(stcB a.data.toList).toArray⟩ else a
set_option maxRecDepth 100000 in
theorem resource_any (x : CV) (w : World) (hT : WT w) (hs : x.ad.size ≤ 1000000) : Calls Tryz.prog 30 #[.agg x.arr] w fun e w' => e = .returned (.string (resB x.ad)) ∧ Below w.heap.size w w' := by
  have h0 : x.arr[0]? = some (.string x.ad) := rfl
  have HC := hid (fun (W : World) (hW : Below w.heap.size w W) => pstatic_any x.ad W (hT.below hW) hs)
  have HB0 := hid (show Below w.heap.size w (w.alloc (.cells x.arr 31)) from (Below.refl _ _).alloc (Nat.le_refl _) _)
  have HR := hid (show resB x.ad = if prE x.ad.data.toList = 0 then ⟨(stcB x.ad.data.toList).toArray⟩ else x.ad from rfl)
  obtain ⟨E, hE⟩ : ∃ E, prE x.ad.data.toList = E := ⟨_, rfl⟩
  obtain ⟨T, hT2⟩ : ∃ T, (⟨(stcB x.ad.data.toList).toArray⟩ : ByteArray) = T := ⟨_, rfl⟩
  rw [hT2] at HC HR
  rw [hE] at HC HR
  obtain ⟨R, hR⟩ : ∃ R, resB x.ad = R := ⟨_, rfl⟩
  rw [hR] at HR ⊢
  clear hs hT hE hT2 hR
  generalize x.arr = X at *
  generalize x.ad = a at *
  by_cases hE : E = 0
  · subst hE
    have hR := HR.out
    rw [if_pos rfl] at hR
    clear HR
    subst hR
    go_enter Tryz.func30, Tryz.ntmps30
    go_wp2_with (go_at_call 57; refine (HC.out _ HB0.out).mono ?_; rintro e w1 ⟨rfl, hb⟩)
    go_ret
    exact ⟨rfl, HB0.out.trans (hb.mono HB0.out.size)⟩
  · have hn : (E != 0) = true := by simp [hE]
    have hR := HR.out
    rw [if_neg hE] at hR
    clear hE HR
    subst hR
    go_enter Tryz.func30, Tryz.ntmps30
    go_wp2_with (go_at_call 57; refine (HC.out _ HB0.out).mono ?_; rintro e w1 ⟨rfl, hb⟩; obtain ⟨hc, hf⟩ := bcellB hb)
    go_ret
    exact ⟨rfl, HB0.out.trans (hb.mono HB0.out.size)⟩
end Go.Proofs.YtpnogmicfomofaaGreatDoor.Stp
/-
  Layer 44: the program's makes and removes. Conditions: those ahead of each theorem.
-/
namespace Go.Proofs.YtpnogmicfomofaaGreatDoor.Stp
open Go.RowKit Go.Sort Go.Lib Go.Maps
open Go.Lib (hid)
set_option linter.unusedVariables false
set_option linter.unusedSimpArgs false

/-- The maker in memory: the changes, the resources. -/
structure MkP (mb M : Nat) (rc : Option Addr) (cc : Nat) (w : World) (cs : List Ch) (f : Nat → ByteArray) : Prop where
  c0 : w.cell? ⟨mb, 0, none⟩ = some (.slice rc cs.length cc)
  c1 : w.cell? ⟨mb, 1, none⟩ = some (.slice (some ⟨M, 0, none⟩) cs.length cs.length)
  chs : Sl ChR 22 w (.slice rc cs.length cc) cs
  rs : ∀ i, i < cs.length → w.cell? ⟨M, i, none⟩ = some (.string (f i))
theorem MkP.below {mb M : Nat} {rc : Option Addr} {cc : Nat} {w w' : World} {cs : List Ch} {f : Nat → ByteArray} (h : MkP mb M rc cc w cs f) (hb : Below w.heap.size w w') : MkP mb M rc cc w' cs f :=
  ⟨bget hb h.c0, bget hb h.c1, h.chs.below chR_mono hb, fun i hi => bget hb (h.rs i hi)⟩
/-- Whether a list contains a string. -/
def inS (l : List ByteArray) (s : ByteArray) : Bool := Lib.containsS l s
theorem inS_iff {l : List ByteArray} {s : ByteArray} : inS l s = true ↔ s ∈ l := Lib.containsS_iff l s
theorem cont_any (r : Option Addr) (n c : Nat) (zs : List ByteArray) (x : ByteArray) (w : World) (h : Sl StrR 1 w (.slice r n c) zs) : Calls Tryz.prog 89 #[.slice r n c, .string x] w fun e w' => e = .returned (.bool (inS zs x)) ∧ w' = w := by
  obtain ⟨rfl, h1, h2⟩ := sl_len h
  by_cases h0 : zs.length = 0
  · have := List.length_eq_zero_iff.1 h0
    subst this
    exact (Tryz.slices_Contains_string_empty r c x w).mono fun e w' h => h
  · obtain ⟨b, off, rfl, _⟩ := str_at h 0 (by omega)
    have hq := Tryz.slices_Contains_string b off zs.length c zs x w (Nat.le_refl _) (by omega) (fun j hj => by
      obtain ⟨b2, off2, e, _, g, _⟩ := str_at h j hj
      cases e
      rw [g]
      rw [List.getD_eq_getElem?_getD, List.getElem?_eq_getElem hj]
      rfl)
    refine hq.mono fun e w' ⟨h1, h2⟩ => ⟨?_, h2⟩
    rw [h1, List.take_length]
    rfl
def makesB (cs : List Ch) (f : Nat → ByteArray) (i : Nat) (op : Int) (j : Nat) (op2 : Int) : Bool :=
  match cs[i]? with
  | none => false
  | some x => if i = j then decide (op = 1) && decide (op2 = 3) && lastB x.act x.cf else !decide (op2 = 3) && inS x.deps (f j)
attribute [local go_sem ↓] ldC_eq
attribute [local go_sem] ldC_run
attribute [local go_sem ↓] stC_eq
attribute [local go_sem] stC_run there_drew there_new put22_drew put22_new lies_new rd22_new lies_drew rd22_drew
theorem ints_eq (i j : Nat) : (((i : Nat) : Int) == ((j : Nat) : Int)) = decide (i = j) := by
  rw [Bool.eq_iff_iff]; simp; omega
set_option maxRecDepth 100000 in
set_option maxHeartbeats 4000000 in
theorem makes_any (mb M : Nat) (rc : Option Addr) (cc : Nat) (cs : List Ch) (f : Nat → ByteArray) (i j : Nat) (op op2 : Int) (sv tv : SV) (w : World) (h : MkP mb M rc cc w cs f) (hi : i < cs.length) (hj : j < cs.length) (hn : cs.length ≤ 1000000) :
    Calls Tryz.prog 59 #[.pointer (some ⟨mb, 0, none⟩), .agg #[.int .i64 i, .int .i64 op, .slice sv.r sv.n sv.c], .agg #[.int .i64 j, .int .i64 op2, .slice tv.r tv.n tv.c]] w fun e w' => e = .returned (.bool (makesB cs f i op j op2)) ∧ Below w.heap.size w w' := by
  obtain ⟨cb, coff, x, rfl, hcb, hcell, hx⟩ := ch_at h.chs i hi
  have hm : makesB cs f i op j op2 = if i = j then decide (op = 1) && decide (op2 = 3) && lastB x.ac x.cf else !decide (op2 = 3) && inS (cs[i]).deps (f j) := by
    unfold makesB
    rw [List.getElem?_eq_getElem hi]
    simp only
    rw [hx.2.1, hx.2.2.1]
  have hmb := World.block_lt_of_cell? w _ h.c0
  simp only at hmb
  have HX22 := cells22 x
  obtain ⟨l1, l2⟩ := lies_of HX22 hcell
  have hmb := World.block_lt_of_cell? w _ h.c0
  simp only at hmb
  have HS := hid (fun (W : World) (hb : Below w.heap.size w W) => show W.cell? ⟨mb, 0, none⟩ = some (.slice (some ⟨cb, coff, none⟩) cs.length cc) ∧ Lies W cb (coff + i * 22) ∧ rd22 W cb (coff + i * 22) = x.arr from ⟨bget hb h.c0, (l1.below hb).1, ((l1.below hb).2).trans l2⟩)
  have q0 := h.c0
  have hii : (0 : Int) ≤ (i : Int) := by omega
  have hii2 : (i : Int) < (cs.length : Int) := by omega
  have HLA := hid (fun W => last_any x W)
  have HM := hid (fun (W : World) (hb : Below w.heap.size w W) => show W.cell? ⟨mb, 1, none⟩ = some (.slice (some ⟨M, 0, none⟩) cs.length cs.length) ∧ W.cell? ⟨M, j, none⟩ = some (.string (f j)) from ⟨bget hb h.c1, bget hb (h.rs j hj)⟩)
  have HCO := hid (fun (W : World) (hb : Below w.heap.size w W) => cont_any x.dp.r x.dp.n x.dp.c (cs[i]).deps (f j) W (hx.2.2.2.2.1.below strR_mono hb))
  have h12 : x.arr[20]? = some (.slice x.dp.r x.dp.n x.dp.c) := rfl
  have hsz : x.arr.size = 22 := rfl
  obtain ⟨R, hR⟩ : ∃ R, makesB cs f i op j op2 = R := ⟨_, rfl⟩
  rw [hR] at hm ⊢
  have HRES := hid hm
  clear hcell h l1 l2 hx hm hR
  generalize x.arr = X at *
  generalize lastB x.ac x.cf = LB at *
  generalize inS (cs[i]).deps (f j) = IB2 at *
  go_enter Tryz.func59, Tryz.ntmps59
  go_wp2_with fail
  go_region_held3 (fun w' => Below w.heap.size w w' ∧ w'.cell? ⟨mb, 0, none⟩ = some (.slice (some ⟨cb, coff, none⟩) cs.length cc) ∧ w'.cell? ⟨w.heap.size, 0, none⟩ = some (.int .i64 i) ∧ Lies w' cb (coff + i * 22) ∧ rd22 w' cb (coff + i * 22) = X)
    (refine ⟨?_, (HS.out _ ?_).1, ?_, (HS.out _ ?_).2.1, (HS.out _ ?_).2.2⟩ <;> first | ((repeat (first | exact Below.refl _ _ | refine Below.drew ?_ | refine Below.alloc ?_ (by simp <;> omega) _)); done) | (go_simp; done)) (fail)
  have HB3 := hid (show Below w.heap.size w ((((w.alloc (.cells #[.int .i64 (i : Int), .int .i64 op, .slice sv.r sv.n sv.c] 48)).alloc (.cells #[.int .i64 (j : Int), .int .i64 op2, .slice tv.r tv.n tv.c] 48)).alloc (.cells X 31)).drew) from ((((Below.refl _ _).alloc (Nat.le_refl _) _).alloc (by simp) _).alloc (by simp; omega) _).drew)
  have b0 : ((((w.alloc (.cells #[.int .i64 (i : Int), .int .i64 op, .slice sv.r sv.n sv.c] 48)).alloc (.cells #[.int .i64 (j : Int), .int .i64 op2, .slice tv.r tv.n tv.c] 48)).alloc (.cells X 31)).drew).cell? ⟨w.heap.size, 0, none⟩ = some (.int .i64 (i : Int)) := by go_simp
  have b1 : ((((w.alloc (.cells #[.int .i64 (i : Int), .int .i64 op, .slice sv.r sv.n sv.c] 48)).alloc (.cells #[.int .i64 (j : Int), .int .i64 op2, .slice tv.r tv.n tv.c] 48)).alloc (.cells X 31)).drew).cell? ⟨w.heap.size, 1, none⟩ = some (.int .i64 op) := by go_simp
  have c0 : ((((w.alloc (.cells #[.int .i64 (i : Int), .int .i64 op, .slice sv.r sv.n sv.c] 48)).alloc (.cells #[.int .i64 (j : Int), .int .i64 op2, .slice tv.r tv.n tv.c] 48)).alloc (.cells X 31)).drew).cell? ⟨w.heap.size + 1, 0, none⟩ = some (.int .i64 (j : Int)) := by go_simp
  have c1 : ((((w.alloc (.cells #[.int .i64 (i : Int), .int .i64 op, .slice sv.r sv.n sv.c] 48)).alloc (.cells #[.int .i64 (j : Int), .int .i64 op2, .slice tv.r tv.n tv.c] 48)).alloc (.cells X 31)).drew).cell? ⟨w.heap.size + 1, 1, none⟩ = some (.int .i64 op2) := by go_simp
  have x0 : Lies ((((w.alloc (.cells #[.int .i64 (i : Int), .int .i64 op, .slice sv.r sv.n sv.c] 48)).alloc (.cells #[.int .i64 (j : Int), .int .i64 op2, .slice tv.r tv.n tv.c] 48)).alloc (.cells X 31)).drew) (w.heap.size + 1 + 1) 0 ∧ rd22 ((((w.alloc (.cells #[.int .i64 (i : Int), .int .i64 op, .slice sv.r sv.n sv.c] 48)).alloc (.cells #[.int .i64 (j : Int), .int .i64 op2, .slice tv.r tv.n tv.c] 48)).alloc (.cells X 31)).drew) (w.heap.size + 1 + 1) 0 = X := by
    rw [lies_drew, rd22_drew, lies_new _ X _ _ (by simp) HX22, rd22_new _ X _ _ (by simp) HX22]
    exact ⟨trivial, rfl⟩
  have x12 : ((((w.alloc (.cells #[.int .i64 (i : Int), .int .i64 op, .slice sv.r sv.n sv.c] 48)).alloc (.cells #[.int .i64 (j : Int), .int .i64 op2, .slice tv.r tv.n tv.c] 48)).alloc (.cells X 31)).drew).cell? ⟨w.heap.size + 1 + 1, 20, none⟩ = some (.slice x.dp.r x.dp.n x.dp.c) := by
    rw [cell_new _ X _ _ (by simp)]
    exact h12
  obtain ⟨x1, x2⟩ := x0
  obtain ⟨m1, m2⟩ := HM.out _ HB3.out
  have HCO2 := hid (fun n => HCO.out _ (bel_drewN HB3.out n))
  clear HCO HM HS q0 h12 hsz
  have hz3 : w.heap.size + 3 = ((((w.alloc (.cells #[.int .i64 (i : Int), .int .i64 op, .slice sv.r sv.n sv.c] 48)).alloc (.cells #[.int .i64 (j : Int), .int .i64 op2, .slice tv.r tv.n tv.c] 48)).alloc (.cells X 31)).drew).heap.size := by simp
  generalize (((w.alloc (.cells #[.int .i64 (i : Int), .int .i64 op, .slice sv.r sv.n sv.c] 48)).alloc (.cells #[.int .i64 (j : Int), .int .i64 op2, .slice tv.r tv.n tv.c] 48)).alloc (.cells X 31)).drew = W3 at *
  by_cases hij : i = j
  · subst hij
    by_cases h1 : op = 1
    · have e1 := eqb h1
      by_cases h3 : op2 = 3
      · have e3 := eqb h3
        subst h1 h3
        go_wp2_with (go_at_call 90; refine (HLA.out _).mono ?_; rintro e w5 ⟨rfl, hb5⟩; have HB5 := hid hb5; clear hb5)
        go_ret
        exact ⟨ret_bool (by rw [HRES.out]; simp), HB3.out.trans (HB5.out.mono HB3.out.size)⟩
      · have e3 := neb h3
        clear h3
        subst h1
        go_wp2
        go_ret
        exact ⟨ret_bool (by rw [HRES.out]; have := beq_eq_false_iff_ne.1 e3; simp [this]), HB3.out⟩
    · have e1 := neb h1
      clear h1
      go_wp2
      go_ret
      exact ⟨ret_bool (by rw [HRES.out]; have := beq_eq_false_iff_ne.1 e1; simp [this]), HB3.out⟩
  · have e0 : (((i : Nat) : Int) == ((j : Nat) : Int)) = false := by rw [ints_eq]; simp [hij]
    by_cases h3 : op2 = 3
    · subst h3
      go_wp2_with fail
      go_quiet (fail)
      go_wp2
      go_ret
      exact ⟨ret_bool (by rw [HRES.out, if_neg hij]; simp), bel_drewN HB3.out _⟩
    · have e3 : (op2 != 3) = true := by simp [h3]
      have hjj : (0 : Int) ≤ (j : Int) := by omega
      have hjj2 : (j : Int) < (cs.length : Int) := by omega
      have hij2 := hid hij
      have h32 := hid h3
      clear hij h3
      go_wp2_with fail
      go_quiet ((go_at_call 89; exact Calls.quiet_of_same (HCO2.out _)))
      go_wp2
      go_ret
      exact ⟨ret_bool (by rw [HRES.out, if_neg hij2.out]; have := h32.out; simp [this]), bel_drewN HB3.out _⟩
end Go.Proofs.YtpnogmicfomofaaGreatDoor.Stp
/-
  Layer 44: the program's removes. Conditions: those ahead of each theorem.
-/
namespace Go.Proofs.YtpnogmicfomofaaGreatDoor.Stp
open Go.RowKit Go.Sort Go.Lib Go.Maps
open Go.Lib (hid)
set_option linter.unusedVariables false
set_option linter.unusedSimpArgs false

attribute [local go_sem ↓] ldC_eq
attribute [local go_sem] ldC_run
attribute [local go_sem ↓] stC_eq
attribute [local go_sem] stC_run there_drew there_new there_past put22_drew put22_new put22_past lies_new rd22_new lies_drew rd22_drew lies_drewN rd22_drewN
theorem cell_old {W : World} {o : Obj} {b k : Nat} (hb : b < W.heap.size) : (W.alloc o).cell? ⟨b, k, none⟩ = W.cell? ⟨b, k, none⟩ := ((Below.refl W.heap.size W).alloc (Nat.le_refl _) o).cell (p := ⟨b, k, none⟩) hb
theorem cell_new' (W : World) (X : Array Value) (T : TypeId) (k : Nat) : (W.alloc (.cells X T)).cell? ⟨W.heap.size, k, none⟩ = X[k]? := cell_new W X T _ rfl k
/-- Two changes in memory, made one behind the other. -/
theorem two_new {w : World} {s : Obj} {C X Y : Array Value} {T T1 T2 : TypeId} (h : Below w.heap.size w (((((w.alloc s).alloc (.cells C T)).alloc (.cells X T1)).alloc (.cells Y T2)).drew)) (hX : Cells22 X) (hY : Cells22 Y) :
    ∃ W3, W3 = ((((w.alloc s).alloc (.cells C T)).alloc (.cells X T1)).alloc (.cells Y T2)).drew ∧ Below w.heap.size w W3 ∧ (∀ k, W3.cell? ⟨w.heap.size + 1, k, none⟩ = C[k]?) ∧ (∀ k, W3.cell? ⟨w.heap.size + 1 + 1, k, none⟩ = X[k]?) ∧ (∀ k, W3.cell? ⟨w.heap.size + 1 + 1 + 1, k, none⟩ = Y[k]?) ∧ (Lies W3 (w.heap.size + 1 + 1) 0 ∧ rd22 W3 (w.heap.size + 1 + 1) 0 = X) ∧ (Lies W3 (w.heap.size + 1 + 1 + 1) 0 ∧ rd22 W3 (w.heap.size + 1 + 1 + 1) 0 = Y) := by
  have e1 : (w.alloc s).heap.size = w.heap.size + 1 := by simp
  have e2 : ((w.alloc s).alloc (.cells C T)).heap.size = w.heap.size + 1 + 1 := by simp
  have e3 : (((w.alloc s).alloc (.cells C T)).alloc (.cells X T1)).heap.size = w.heap.size + 1 + 1 + 1 := by simp
  have k1 : ∀ k, (((((w.alloc s).alloc (.cells C T)).alloc (.cells X T1)).alloc (.cells Y T2)).drew).cell? ⟨w.heap.size + 1, k, none⟩ = C[k]? := fun k => by
    show ((((w.alloc s).alloc (.cells C T)).alloc (.cells X T1)).alloc (.cells Y T2)).cell? _ = _
    rw [cell_old (by rw [e3]; omega), cell_old (by rw [e2]; omega)]
    have := cell_new' (w.alloc s) C T k
    rw [e1] at this
    exact this
  have k2 : ∀ k, (((((w.alloc s).alloc (.cells C T)).alloc (.cells X T1)).alloc (.cells Y T2)).drew).cell? ⟨w.heap.size + 1 + 1, k, none⟩ = X[k]? := fun k => by
    show ((((w.alloc s).alloc (.cells C T)).alloc (.cells X T1)).alloc (.cells Y T2)).cell? _ = _
    rw [cell_old (by rw [e3]; omega)]
    have := cell_new' ((w.alloc s).alloc (.cells C T)) X T1 k
    rw [e2] at this
    exact this
  have k3 : ∀ k, (((((w.alloc s).alloc (.cells C T)).alloc (.cells X T1)).alloc (.cells Y T2)).drew).cell? ⟨w.heap.size + 1 + 1 + 1, k, none⟩ = Y[k]? := fun k => by
    show ((((w.alloc s).alloc (.cells C T)).alloc (.cells X T1)).alloc (.cells Y T2)).cell? _ = _
    have := cell_new' (((w.alloc s).alloc (.cells C T)).alloc (.cells X T1)) Y T2 k
    rw [e3] at this
    exact this
  refine ⟨_, rfl, h, k1, k2, k3, ?_, ?_⟩
  · exact lies_of hX (fun j u hu => by rw [k2, Nat.zero_add]; simpa using hu)
  · exact lies_of hY (fun j u hu => by rw [k3, Nat.zero_add]; simpa using hu)
def removesB (cs : List Ch) (f : Nat → ByteArray) (i j : Nat) (op2 : Int) : Bool :=
  match cs[i]?, cs[j]? with
  | some x, some y => if i = j then decide (op2 = 1) && firstB x.act x.cf else if op2 = 3 then inS y.old (f i) else firstB x.act x.cf && !decide (op2 = 4) && inS y.deps (f i)
  | _, _ => false
set_option maxRecDepth 100000 in
set_option maxHeartbeats 8000000 in
theorem removes_any (mb M : Nat) (rc : Option Addr) (cc : Nat) (cs : List Ch) (f : Nat → ByteArray) (i j : Nat) (op op2 : Int) (sv tv : SV) (w : World) (h : MkP mb M rc cc w cs f) (hi : i < cs.length) (hj : j < cs.length) (hn : cs.length ≤ 1000000) :
    Calls Tryz.prog 58 #[.pointer (some ⟨mb, 0, none⟩), .agg #[.int .i64 i, .int .i64 op, .slice sv.r sv.n sv.c], .agg #[.int .i64 j, .int .i64 op2, .slice tv.r tv.n tv.c]] w fun e w' => e = .returned (.bool (removesB cs f i j op2)) ∧ Below w.heap.size w w' := by
  obtain ⟨cb, coff, x, rfl, hcb, hcell, hx⟩ := ch_at h.chs i hi
  obtain ⟨cb2, coff2, y, he2, _, hcell2, hy⟩ := ch_at h.chs j hj
  cases he2
  have hm : removesB cs f i j op2 = if i = j then decide (op2 = 1) && firstB x.ac x.cf else if op2 = 3 then inS (cs[j]).old (f i) else firstB x.ac x.cf && !decide (op2 = 4) && inS (cs[j]).deps (f i) := by
    unfold removesB
    rw [List.getElem?_eq_getElem hi, List.getElem?_eq_getElem hj]
    simp only
    rw [hx.2.1, hx.2.2.1]
  have HX22 := cells22 x
  have HY22 := cells22 y
  obtain ⟨l1, l2⟩ := lies_of HX22 hcell
  obtain ⟨k1, k2⟩ := lies_of HY22 hcell2
  have hmb := World.block_lt_of_cell? w _ h.c0
  simp only at hmb
  have HS := hid (fun (W : World) (hb : Below w.heap.size w W) => show W.cell? ⟨mb, 0, none⟩ = some (.slice (some ⟨cb, coff, none⟩) cs.length cc) ∧ Lies W cb (coff + i * 22) ∧ rd22 W cb (coff + i * 22) = x.arr ∧ Lies W cb (coff + j * 22) ∧ rd22 W cb (coff + j * 22) = y.arr from ⟨bget hb h.c0, (l1.below hb).1, ((l1.below hb).2).trans l2, (k1.below hb).1, ((k1.below hb).2).trans k2⟩)
  have q0 := h.c0
  have hii : (0 : Int) ≤ (i : Int) := by omega
  have hii2 : (i : Int) < (cs.length : Int) := by omega
  have hjj : (0 : Int) ≤ (j : Int) := by omega
  have hjj2 : (j : Int) < (cs.length : Int) := by omega
  have HLA := hid (fun W => first_any x W)
  have HM := hid (fun (W : World) (hb : Below w.heap.size w W) => show W.cell? ⟨mb, 1, none⟩ = some (.slice (some ⟨M, 0, none⟩) cs.length cs.length) ∧ W.cell? ⟨M, i, none⟩ = some (.string (f i)) from ⟨bget hb h.c1, bget hb (h.rs i hi)⟩)
  have HCO := hid (fun (W : World) (hb : Below w.heap.size w W) => cont_any y.dp.r y.dp.n y.dp.c (cs[j]).deps (f i) W (hy.2.2.2.2.1.below strR_mono hb))
  have HCP := hid (fun (W : World) (hb : Below w.heap.size w W) => cont_any y.od.r y.od.n y.od.c (cs[j]).old (f i) W (hy.2.2.2.2.2.below strR_mono hb))
  have h20 : y.arr[20]? = some (.slice y.dp.r y.dp.n y.dp.c) := rfl
  have h21 : y.arr[21]? = some (.slice y.od.r y.od.n y.od.c) := rfl
  obtain ⟨R, hR⟩ : ∃ R, removesB cs f i j op2 = R := ⟨_, rfl⟩
  rw [hR] at hm ⊢
  have HRES := hid hm
  clear hcell hcell2 h l1 l2 k1 k2 hx hy hm hR
  generalize x.arr = X at *
  generalize y.arr = Y at *
  generalize firstB x.ac x.cf = LB at *
  generalize inS (cs[j]).deps (f i) = I1 at *
  generalize inS (cs[j]).old (f i) = I2 at *
  go_enter Tryz.func58, Tryz.ntmps58
  go_wp2_with fail
  go_region_held3 (fun w' => Below w.heap.size w w' ∧ w'.cell? ⟨mb, 0, none⟩ = some (.slice (some ⟨cb, coff, none⟩) cs.length cc) ∧ w'.cell? ⟨w.heap.size, 0, none⟩ = some (.int .i64 i) ∧ w'.cell? ⟨w.heap.size + 1, 0, none⟩ = some (.int .i64 j) ∧ Lies w' cb (coff + i * 22) ∧ rd22 w' cb (coff + i * 22) = X ∧ Lies w' cb (coff + j * 22) ∧ rd22 w' cb (coff + j * 22) = Y)
    (refine ⟨?_, (HS.out _ ?_).1, ?_, ?_, (HS.out _ ?_).2.1, (HS.out _ ?_).2.2.1, (HS.out _ ?_).2.2.2.1, (HS.out _ ?_).2.2.2.2⟩ <;> first | ((repeat (first | exact Below.refl _ _ | refine Below.drew ?_ | refine Below.alloc ?_ (by simp <;> omega) _)); done) | (go_simp; done)) (fail)
  all_goals
    rename_i hHeld
    have hw3 := hHeld.1
    have hs0 := hHeld.2.2.1
    clear hHeld q0 HS
    first
    | (obtain ⟨W3, hW3, hb3, g1, g2, g3, ⟨gx1, gx2⟩, _⟩ := two_new hw3 HX22 HY22
       rw [← hW3] at hs0 ⊢
       have y20 := (g3 20).trans h20
       have y21 := (g3 21).trans h21
       clear g2 g3
       generalize hby : w.heap.size + 1 + 1 + 1 = by3 at *
       generalize hbx : w.heap.size + 1 + 1 = bx at *)
    | (obtain ⟨W3, hW3, hb3, g1, g2, g3, _, ⟨gx1, gx2⟩⟩ := two_new hw3 HY22 HX22
       rw [← hW3] at hs0 ⊢
       have y20 := (g2 20).trans h20
       have y21 := (g2 21).trans h21
       clear g2 g3
       generalize hby : w.heap.size + 1 + 1 + 1 = bx at *
       generalize hbx : w.heap.size + 1 + 1 = by3 at *)
    clear hW3 hw3 hbx hby h20 h21
    have t0 := (g1 0).trans (show (#[Value.int .i64 (j : Int), .int .i64 op2, .slice tv.r tv.n tv.c])[0]? = some (.int .i64 (j : Int)) from rfl)
    have t1 := (g1 1).trans (show (#[Value.int .i64 (j : Int), .int .i64 op2, .slice tv.r tv.n tv.c])[1]? = some (.int .i64 op2) from rfl)
    clear g1
    obtain ⟨m1, m2⟩ := HM.out _ hb3
    have HB3 := hid hb3
    have HCO2 := hid (fun n => HCO.out _ (bel_drewN hb3 n))
    have HCP2 := hid (fun n => HCP.out _ (bel_drewN hb3 n))
    clear HM HCP hb3
    go_wp2_with fail
    go_quiet (fail)
    by_cases hij : i = j
    · subst hij
      by_cases h1 : op2 = 1
      · subst h1
        go_wp2_with (go_at_call 88; refine (HLA.out _).mono ?_; rintro e w5 ⟨rfl, hb5⟩; have HB5 := hid hb5; clear hb5)
        go_ret
        exact ⟨ret_bool (by rw [HRES.out]; simp), (bel_drewN HB3.out _).trans (HB5.out.mono (bel_drewN HB3.out _).size)⟩
      · have e1 := neb h1
        clear h1
        go_wp2
        go_ret
        exact ⟨ret_bool (by rw [HRES.out]; have := beq_eq_false_iff_ne.1 e1; simp [this]), bel_drewN HB3.out _⟩
    · have e0 : (((i : Nat) : Int) == ((j : Nat) : Int)) = false := by rw [ints_eq]; simp [hij]
      have hij2 := hid hij
      clear hij
      by_cases h3 : op2 = 3
      · subst h3
        go_wp2_with (go_at_call 89; refine (HCP2.out _).mono ?_; rintro e w5 ⟨rfl, rfl⟩)
        go_ret
        exact ⟨ret_bool (by rw [HRES.out, if_neg hij2.out]; simp), bel_drewN HB3.out _⟩
      · have e3 := neb h3
        have h32 := hid h3
        clear h3
        cases LB with
        | false =>
          go_wp2_with (go_at_call 88; refine (HLA.out _).mono ?_; rintro e w5 ⟨rfl, hb5⟩; have HB5 := hid hb5; clear hb5)
          go_ret
          exact ⟨ret_bool (by rw [HRES.out, if_neg hij2.out, if_neg h32.out]; simp), (bel_drewN HB3.out _).trans (HB5.out.mono (bel_drewN HB3.out _).size)⟩
        | true =>
          by_cases h4 : op2 = 4
          · subst h4
            go_wp2_with (go_at_call 88; refine (HLA.out _).mono ?_; rintro e w5 ⟨rfl, hb5⟩; have t15 := bget hb5 t1; have HB5 := hid hb5; clear hb5)
            go_ret
            exact ⟨ret_bool (by rw [HRES.out, if_neg hij2.out]; simp), (bel_drewN HB3.out _).trans (HB5.out.mono (bel_drewN HB3.out _).size)⟩
          · have e4 : (op2 != 4) = true := by simp [h4]
            have h42 := hid h4
            clear h4
            go_wp2_with (first
              | (go_at_call 88; refine (HLA.out _).mono ?_; rintro e w5 ⟨rfl, hb5⟩; have t15 := bget hb5 t1; have y25 := bget hb5 y20; have HB5 := hid ((bel_drewN HB3.out _).trans (hb5.mono (bel_drewN HB3.out _).size)); clear hb5)
              | (go_at_call 89; refine (HCO.out _ HB5.out).mono ?_; rintro e w6 ⟨rfl, rfl⟩))
            go_ret
            exact ⟨ret_bool (by rw [HRES.out, if_neg hij2.out, if_neg h32.out]; have := h42.out; simp [this]), HB5.out⟩
end Go.Proofs.YtpnogmicfomofaaGreatDoor.Stp
