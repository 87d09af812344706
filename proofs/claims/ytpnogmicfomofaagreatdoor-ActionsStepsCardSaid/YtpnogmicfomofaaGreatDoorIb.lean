import Derived.Test.YtpnogmicfomofaaGreatDoorHi
import Derived.Test.YtpnogmicfomofaaGreatDoorZr
import Derived.Test.YtpnogmicfomofaaGreatDoorSB
import Derived.Test.YtpnogmicfomofaaGreatDoorZc
import Derived.Test.YtpnogmicfomofaaGreatDoorZb
/-
  Layer 44: the law's awake. Conditions: those ahead of each theorem.
-/
namespace Go.Proofs.YtpnogmicfomofaaGreatDoor.Stp
open Go.RowKit Go.Sort Go.Lib Go.Maps
open Go.Lib (hid)
open Adr (WT)
set_option linter.unusedVariables false
set_option linter.unusedSimpArgs false

def netS (l : List UInt8) : ByteArray := ⟨(([110, 101, 116, 46] : List UInt8) ++ l).toArray⟩
def ex1 : List Ch := [⟨netS [97], 3, true, [], []⟩, ⟨netS [98], 2, false, [netS [97]], [netS [97]]⟩]
def ex2 : List Ch := [⟨netS [97], 3, false, [], []⟩]
def ex3 : List Ch := [⟨netS [97], 1, false, [netS [98]], [netS [98]]⟩, ⟨netS [98], 1, false, [netS [97]], [netS [97]]⟩]
def st1 : List St := [⟨0, 1, []⟩, ⟨0, 3, [0, 2]⟩, ⟨1, 2, [0]⟩]
def st2 : List St := [⟨0, 3, []⟩, ⟨0, 1, [0]⟩]
def st4 : List St := [⟨0, 0, [1]⟩, ⟨0, 0, []⟩]
/-- Literals in memory. -/
theorem sl_lit {α : Type} {R : World → List Value → α → Prop} {sz : Nat} {W : World} {b : Nat} {C : Array Value} {T : TypeId} {fr : Nat × Nat} {xs : List α} (hh : W.heap[b]? = some (.cells C T fr)) (hn : xs.length ≤ 1000)
    (h : ∀ i (hi : i < xs.length), ∃ cs : List Value, cs.length = sz ∧ (∀ (j : Nat) (u : Value), cs[j]? = some u → C[i * sz + j]? = some u) ∧ R W cs xs[i]) : Sl R sz W (.slice (some ⟨b, 0, none⟩) xs.length xs.length) xs := by
  refine ⟨_, _, rfl, Nat.le_refl _, by unfold maxLen; omega, fun i hi => ?_⟩
  obtain ⟨cs, h1, h2, h3⟩ := h i hi
  refine ⟨b, 0, cs, rfl, h1, fun j u hj => ?_, h3⟩
  have := h2 j u hj
  unfold World.cell?
  rw [Nat.zero_add]
  simp only [hh]
  exact this
theorem str_lit1 {W : World} {b : Nat} {T : TypeId} {fr : Nat × Nat} {s : ByteArray} (hh : W.heap[b]? = some (.cells #[.string s] T fr)) (hs : s.size ≤ 1000) : Sl StrR 1 W (.slice (some ⟨b, 0, none⟩) 1 1) [s] :=
  sl_lit (xs := [s]) hh (by simp) (fun i hi => by
    obtain rfl : i = 0 := by simp at hi; exact hi
    exact ⟨[.string s], rfl, fun j u hj => by simpa using hj, rfl, by unfold maxLen; simp only [List.getElem_cons_zero]; omega⟩)
theorem str_lit0 (W : World) : Sl StrR 1 W (.slice none 0 0) [] := ⟨none, 0, rfl, Nat.le_refl _, by unfold maxLen; omega, fun i hi => by simp at hi⟩
theorem int_lit1 {W : World} {b : Nat} {T : TypeId} {fr : Nat × Nat} {s : Int} (hh : W.heap[b]? = some (.cells #[.int .i64 s] T fr)) (hs : IB s) : Sl IntR 1 W (.slice (some ⟨b, 0, none⟩) 1 1) [s] :=
  sl_lit (xs := [s]) hh (by simp) (fun i hi => by
    obtain rfl : i = 0 := by simp at hi; exact hi
    exact ⟨[.int .i64 s], rfl, fun j u hj => by simpa using hj, rfl, hs⟩)
theorem int_lit2 {W : World} {b : Nat} {T : TypeId} {fr : Nat × Nat} {s t : Int} (hh : W.heap[b]? = some (.cells #[.int .i64 s, .int .i64 t] T fr)) (hs : IB s) (ht : IB t) : Sl IntR 1 W (.slice (some ⟨b, 0, none⟩) 2 2) [s, t] :=
  sl_lit (xs := [s, t]) hh (by simp) (fun i hi => by
    rcases (show i = 0 ∨ i = 1 by simp at hi; omega) with rfl | rfl
    · exact ⟨[.int .i64 s], rfl, fun j u hj => (by
        match j, hj with
        | 0, hj => exact hj
        | j + 1, hj => cases hj), rfl, hs⟩
    · exact ⟨[.int .i64 t], rfl, fun j u hj => (by
        match j, hj with
        | 0, hj => exact hj
        | j + 1, hj => cases hj), rfl, ht⟩)
theorem int_lit0 (W : World) : Sl IntR 1 W (.slice none 0 0) [] := ⟨none, 0, rfl, Nat.le_refl _, by unfold maxLen; omega, fun i hi => by simp at hi⟩
theorem cv_of {W : World} (nm : List UInt8) (a : Int) (f : Bool) (d : SV) (l : List ByteArray) (hl : Sl StrR 1 W (.slice d.r d.n d.c) l) (ha : IB a) : CvR W (chV nm a f d) ⟨netS nm, a, f, l, l⟩ := ⟨rfl, rfl, rfl, ha, hl, hl⟩
theorem ch_lit1 {W : World} {b : Nat} {T : TypeId} {fr : Nat × Nat} {x : CV} {c : Ch} {X : Array Value} (hX : X = x.arr) (hh : W.heap[b]? = some (.cells X T fr)) (h : CvR W x c) : Sl ChR 22 W (.slice (some ⟨b, 0, none⟩) 1 1) [c] :=
  sl_lit (xs := [c]) hh (by simp) (fun i hi => by
    obtain rfl : i = 0 := by simp at hi; exact hi
    exact ⟨x.arr.toList, rfl, fun j u hj => by rw [hX, Nat.zero_mul, Nat.zero_add]; simpa using hj, x, rfl, h⟩)
theorem ch_lit2 {W : World} {b : Nat} {T : TypeId} {fr : Nat × Nat} {x y : CV} {c d : Ch} {X Y : Array Value} (hX : X = x.arr) (hY : Y = y.arr) (hh : W.heap[b]? = some (.cells (X ++ Y) T fr)) (h : CvR W x c) (h2 : CvR W y d) : Sl ChR 22 W (.slice (some ⟨b, 0, none⟩) 2 2) [c, d] :=
  sl_lit (xs := [c, d]) hh (by simp) (fun i hi => by
    rcases (show i = 0 ∨ i = 1 by simp at hi; omega) with rfl | rfl
    · exact ⟨x.arr.toList, rfl, fun j u hj => by
        have hj2 := (List.getElem?_eq_some_iff.1 hj).1
        rw [Array.length_toList, show x.arr.size = 22 from rfl] at hj2
        rw [hX, hY, Nat.zero_mul, Nat.zero_add, Array.getElem?_append, if_pos (by rw [show x.arr.size = 22 from rfl]; exact hj2)]
        simpa using hj, x, rfl, h⟩
    · exact ⟨y.arr.toList, rfl, fun j u hj => by
        rw [hX, hY, Nat.one_mul, Array.getElem?_append, if_neg (by rw [show x.arr.size = 22 from rfl]; omega), show x.arr.size = 22 from rfl, Nat.add_sub_cancel_left]
        simpa using hj, y, rfl, h2⟩)
theorem st_lit4 {W : World} {b g : Nat} {T : TypeId} {fr : Nat × Nat} (hh : W.heap[b]? = some (.cells #[.int .i64 0, .int .i64 0, .slice (some ⟨g, 0, none⟩) 1 1, .int .i64 0, .int .i64 0, .slice none 0 0] T fr)) (hg : Sl IntR 1 W (.slice (some ⟨g, 0, none⟩) 1 1) [1]) : Sl StR 3 W (.slice (some ⟨b, 0, none⟩) 2 2) st4 :=
  sl_lit (xs := st4) hh (by unfold st4; simp) (fun i hi => by
    rcases (show i = 0 ∨ i = 1 by unfold st4 at hi; simp at hi; omega) with rfl | rfl
    · exact ⟨[.int .i64 0, .int .i64 0, .slice (some ⟨g, 0, none⟩) 1 1], rfl, fun j u hj => (by
        match j, hj with
        | 0, hj => exact hj
        | 1, hj => exact hj
        | 2, hj => exact hj
        | j + 3, hj => cases hj), _, rfl, hg, (show IB (0 : Int) from ⟨by decide, by decide⟩), (show IB (0 : Int) from ⟨by decide, by decide⟩)⟩
    · exact ⟨[.int .i64 0, .int .i64 0, .slice none 0 0], rfl, fun j u hj => (by
        match j, hj with
        | 0, hj => exact hj
        | 1, hj => exact hj
        | 2, hj => exact hj
        | j + 3, hj => cases hj), _, rfl, int_lit0 W, (show IB (0 : Int) from ⟨by decide, by decide⟩), (show IB (0 : Int) from ⟨by decide, by decide⟩)⟩)
theorem ex_bef : befS st1 0 1 = true ∧ befS st1 1 0 = false := by
  have hr : rightS st1 = true := by kernel_rfl
  have h1 : befN (nls st1) 0 1 = true := bef_need (by decide)
  have h2 : befN (nls st1) 1 0 = false := bef_asym (by kernel_rfl) (by decide) (by decide) h1
  exact ⟨(befS_ok (a := 0) (b := 1) hr (by decide) (by decide)).trans h1, (befS_ok (a := 1) (b := 0) hr (by decide) (by decide)).trans h2⟩
theorem ex_facts : (stE ex1 = 0 ∧ stL ex1 = st1) ∧ (stE ex2 = 0 ∧ stL ex2 = st2) ∧ stE ex3 = 10 ∧ (ordR st4 = 0 ∧ ordL st4 = [1, 0]) ∧ befS st1 0 1 = true ∧ befS st1 1 0 = false :=
  ⟨⟨by kernel_rfl, by kernel_rfl⟩, ⟨by kernel_rfl, by kernel_rfl⟩, by kernel_rfl, ⟨by kernel_rfl, by kernel_rfl⟩, ex_bef⟩
theorem few_ex {cs : List Ch} (h : cs = ex1 ∨ cs = ex2 ∨ cs = ex3) : cs.length ≤ 2 ∧ ∀ c ∈ cs, c.addr.size ≤ 1000000 := by
  rcases h with rfl | rfl | rfl <;> exact ⟨by decide, by decide⟩
/-- Steps at the examples. -/
theorem ex_steps (cs : List Ch) (h : cs = ex1 ∨ cs = ex2 ∨ cs = ex3) (v : Value) (w : World) (hT : WT w) (hS : Sl ChR 22 w v cs) : Calls Tryz.prog 11 #[v] w (StpP cs w) := by
  obtain ⟨rc, cc, rfl, _⟩ := id hS
  obtain ⟨h1, h2⟩ := few_ex h
  exact steps_any rc cc cs w hT hS (by omega) h2 (Or.inr (by omega))
attribute [local go_sem ↓] bsC_eq
attribute [local go_sem] bsC_run1 bsC_run2
set_option maxRecDepth 100000 in
set_option maxHeartbeats 40000000 in
theorem awake_any (w : World) (hT : WT w) : Calls Tryz.prog 10 #[] w fun e w' => e = .returned (.bool true) ∧ Below w.heap.size w w' := by
  obtain ⟨X1, hX1⟩ : ∃ X, X = (chV [97] 3 true ⟨none, 0, 0⟩).arr := ⟨_, rfl⟩
  have HC1 := hid (fun W => change_any [97] 3 true ⟨none, 0, 0⟩ W (by decide))
  have HX1 := cells22 (chV [97] 3 true ⟨none, 0, 0⟩)
  rw [← hX1] at HC1 HX1
  obtain ⟨F2, hF2⟩ : ∃ F : SV → Array Value, ∀ d, F d = (chV [98] 2 false d).arr := ⟨_, fun _ => rfl⟩
  have HC2 := hid (fun (d : SV) W => change_any [98] 2 false d W (by decide))
  have HX2 := fun d => cells22 (chV [98] 2 false d)
  simp only [← hF2] at HC2 HX2
  obtain ⟨X3, hX3⟩ : ∃ X, X = (chV [97] 3 false ⟨none, 0, 0⟩).arr := ⟨_, rfl⟩
  have HC3 := hid (fun W => change_any [97] 3 false ⟨none, 0, 0⟩ W (by decide))
  have HX3 := cells22 (chV [97] 3 false ⟨none, 0, 0⟩)
  rw [← hX3] at HC3 HX3
  obtain ⟨F4, hF4⟩ : ∃ F : SV → Array Value, ∀ d, F d = (chV [97] 1 false d).arr := ⟨_, fun _ => rfl⟩
  have HC4 := hid (fun (d : SV) W => change_any [97] 1 false d W (by decide))
  have HX4 := fun d => cells22 (chV [97] 1 false d)
  simp only [← hF4] at HC4 HX4
  obtain ⟨F5, hF5⟩ : ∃ F : SV → Array Value, ∀ d, F d = (chV [98] 1 false d).arr := ⟨_, fun _ => rfl⟩
  have HC5 := hid (fun (d : SV) W => change_any [98] 1 false d W (by decide))
  have HX5 := fun d => cells22 (chV [98] 1 false d)
  simp only [← hF5] at HC5 HX5
  have HD := hid (And.intro hX1 (And.intro hF2 (And.intro hX3 (And.intro hF4 hF5))))
  have HT := hid (fun (W : World) (hW : Below w.heap.size w W) => hT.below hW)
  clear hX1 hF2 hX3 hF4 hF5 hT
  go_enter Tryz.func10, Tryz.ntmps10
  go_wp2_with fail
  refine (HC1.out _).mono ?_
  rintro e w1 ⟨rfl, hb1⟩
  have HB1 := hid hb1
  clear hb1
  go_wp2_with fail
  have HB1a := hid (HB1.out.trans ((show Below w1.heap.size w1 (w1.alloc (.cells #[.string ⟨#[110, 101, 116, 46, 97]⟩] 9)) from (Below.refl _ _).alloc (Nat.le_refl _) _).mono HB1.out.size))
  have HS1a := hid (str_lit1 (MapKept.heap_alloc w1 (.cells #[.string ⟨#[110, 101, 116, 46, 97]⟩] 9)).1 (by decide))
  refine (HC2.out ⟨some ⟨w1.heap.size, 0, none⟩, 1, 1⟩ _).mono ?_
  rintro e w2 ⟨rfl, hb2⟩
  have HB2 := hid (HB1a.out.trans (hb2.mono HB1a.out.size))
  have HS2 := hid (HS1a.out.below strR_mono hb2)
  clear hb2 HB1 HB1a HS1a
  generalize w1.heap.size = B1 at *
  have HF2 := HX2 ⟨some ⟨B1, 0, none⟩, 1, 1⟩
  have HD2 := hid (HD.out.2.1 ⟨some ⟨B1, 0, none⟩, 1, 1⟩)
  generalize F2 ⟨some ⟨B1, 0, none⟩, 1, 1⟩ = X2 at *
  go_wp2_with fail
  have HA2 := hid (show Below w2.heap.size w2 (w2.alloc (.cells (X1 ++ X2) 31)) from (Below.refl _ _).alloc (Nat.le_refl _) _)
  have HB3 := hid (HB2.out.trans (HA2.out.mono HB2.out.size))
  have HS3 := hid (ch_lit2 HD.out.1 HD2.out (MapKept.heap_alloc w2 (.cells (X1 ++ X2) 31)).1 (cv_of [97] 3 true ⟨none, 0, 0⟩ [] (str_lit0 _) ⟨by decide, by decide⟩) (cv_of [98] 2 false _ [netS [97]] (HS2.out.below strR_mono HA2.out) ⟨by decide, by decide⟩))
  refine (ex_steps ex1 (Or.inl rfl) _ _ (HT.out _ HB3.out) HS3.out).mono ?_
  rintro e w3 ⟨v3, rfl, hs3, hb3⟩
  rw [ex_facts.1.1]
  rw [ex_facts.1.2] at hs3
  obtain ⟨r3, c3, hv3, _⟩ := id hs3
  rw [show st1.length = 3 from rfl] at hv3
  subst hv3
  have HB4 := hid (HB3.out.trans (hb3.mono HB3.out.size))
  have HL4 := hid hs3
  clear hb3 hs3 HB2 HS2 HB3 HS3 HA2 HF2 HD2 HX1
  go_wp2_with fail
  refine (HC3.out _).mono ?_
  rintro e w5 ⟨rfl, hb5⟩
  have HB5 := hid (HB4.out.trans (hb5.mono HB4.out.size))
  have HL5 := hid (HL4.out.below stR_mono hb5)
  clear hb5 HB4 HL4
  go_wp2_with fail
  have HA5 := hid (show Below w5.heap.size w5 (w5.alloc (.cells X3 31)) from (Below.refl _ _).alloc (Nat.le_refl _) _)
  have HB6 := hid (HB5.out.trans (HA5.out.mono HB5.out.size))
  have HL6 := hid (HL5.out.below stR_mono HA5.out)
  have HS6 := hid (ch_lit1 HD.out.2.2.1 (MapKept.heap_alloc w5 (.cells X3 31)).1 (cv_of [97] 3 false ⟨none, 0, 0⟩ [] (str_lit0 _) ⟨by decide, by decide⟩))
  refine (ex_steps ex2 (Or.inr (Or.inl rfl)) _ _ (HT.out _ HB6.out) HS6.out).mono ?_
  rintro e w7 ⟨v7, rfl, hs7, hb7⟩
  rw [ex_facts.2.1.1]
  rw [ex_facts.2.1.2] at hs7
  obtain ⟨r7, c7, hv7, _⟩ := id hs7
  rw [show st2.length = 2 from rfl] at hv7
  subst hv7
  have HB7 := hid (HB6.out.trans (hb7.mono HB6.out.size))
  have HL7 := hid (HL6.out.below stR_mono hb7)
  have HM7 := hid hs7
  clear hb7 hs7 HB5 HB6 HL5 HL6 HS6 HA5 HX3
  go_wp2_with fail
  have HA7 := hid (show Below w7.heap.size w7 (w7.alloc (.cells #[.string ⟨#[110, 101, 116, 46, 98]⟩] 9)) from (Below.refl _ _).alloc (Nat.le_refl _) _)
  have HS8 := hid (str_lit1 (MapKept.heap_alloc w7 (.cells #[.string ⟨#[110, 101, 116, 46, 98]⟩] 9)).1 (by decide))
  refine (HC4.out ⟨some ⟨w7.heap.size, 0, none⟩, 1, 1⟩ _).mono ?_
  rintro e w8 ⟨rfl, hb8⟩
  have HA8 := hid (HA7.out.trans (hb8.mono HA7.out.size))
  have HB8 := hid (HB7.out.trans (HA8.out.mono HB7.out.size))
  have HL8 := hid (HL7.out.below stR_mono HA8.out)
  have HM8 := hid (HM7.out.below stR_mono HA8.out)
  have HS9 := hid (HS8.out.below strR_mono hb8)
  clear hb8 HB7 HL7 HM7 HS8 HA7 HA8
  generalize w7.heap.size = B7 at *
  have HF4 := HX4 ⟨some ⟨B7, 0, none⟩, 1, 1⟩
  have HD4 := hid (HD.out.2.2.2.1 ⟨some ⟨B7, 0, none⟩, 1, 1⟩)
  generalize F4 ⟨some ⟨B7, 0, none⟩, 1, 1⟩ = X4 at *
  go_wp2_with fail
  have HA9 := hid (show Below w8.heap.size w8 (w8.alloc (.cells #[.string ⟨#[110, 101, 116, 46, 97]⟩] 9)) from (Below.refl _ _).alloc (Nat.le_refl _) _)
  have HS10 := hid (str_lit1 (MapKept.heap_alloc w8 (.cells #[.string ⟨#[110, 101, 116, 46, 97]⟩] 9)).1 (by decide))
  refine (HC5.out ⟨some ⟨w8.heap.size, 0, none⟩, 1, 1⟩ _).mono ?_
  rintro e w9 ⟨rfl, hb9⟩
  have HA10 := hid (HA9.out.trans (hb9.mono HA9.out.size))
  have HB9 := hid (HB8.out.trans (HA10.out.mono HB8.out.size))
  have HL9 := hid (HL8.out.below stR_mono HA10.out)
  have HM9 := hid (HM8.out.below stR_mono HA10.out)
  have HS11 := hid (HS9.out.below strR_mono HA10.out)
  have HS12 := hid (HS10.out.below strR_mono hb9)
  clear hb9 HB8 HL8 HM8 HS9 HS10 HA9 HA10
  generalize w8.heap.size = B8 at *
  have HF5 := HX5 ⟨some ⟨B8, 0, none⟩, 1, 1⟩
  have HD5 := hid (HD.out.2.2.2.2 ⟨some ⟨B8, 0, none⟩, 1, 1⟩)
  generalize F5 ⟨some ⟨B8, 0, none⟩, 1, 1⟩ = X5 at *
  go_wp2_with fail
  have HA11 := hid (show Below w9.heap.size w9 (w9.alloc (.cells (X4 ++ X5) 31)) from (Below.refl _ _).alloc (Nat.le_refl _) _)
  have HB11 := hid (HB9.out.trans (HA11.out.mono HB9.out.size))
  have HL11 := hid (HL9.out.below stR_mono HA11.out)
  have HM11 := hid (HM9.out.below stR_mono HA11.out)
  have HS13 := hid (ch_lit2 HD4.out HD5.out (MapKept.heap_alloc w9 (.cells (X4 ++ X5) 31)).1 (cv_of [97] 1 false _ [netS [98]] (HS11.out.below strR_mono HA11.out) ⟨by decide, by decide⟩) (cv_of [98] 1 false _ [netS [97]] (HS12.out.below strR_mono HA11.out) ⟨by decide, by decide⟩))
  refine (ex_steps ex3 (Or.inr (Or.inr rfl)) _ _ (HT.out _ HB11.out) HS13.out).mono ?_
  rintro e w12 ⟨v12, rfl, _, hb12⟩
  rw [ex_facts.2.2.1]
  have HB12 := hid (HB11.out.trans (hb12.mono HB11.out.size))
  have HL12 := hid (HL11.out.below stR_mono hb12)
  have HM12 := hid (HM11.out.below stR_mono hb12)
  clear hb12 HB9 HB11 HL9 HL11 HM9 HM11 HS11 HS12 HS13 HA11 HF4 HF5 HD4 HD5 HD HX2 HX4 HX5 HC1 HC2 HC3 HC4 HC5 HT
  go_wp2_with fail
  have HA13 := hid (((Below.refl w12.heap.size w12).alloc (Nat.le_refl _) (.cells #[.int .i64 1] 3)).alloc (by simp) (.cells #[.int .i64 0, .int .i64 0, .slice (some ⟨w12.heap.size, 0, none⟩) 1 1, .int .i64 0, .int .i64 0, .slice none 0 0] 48))
  have HB13 := hid (HB12.out.trans (HA13.out.mono HB12.out.size))
  have HL13 := hid (HL12.out.below stR_mono HA13.out)
  have HM13 := hid (HM12.out.below stR_mono HA13.out)
  have HO13 := hid (st_lit4 (W := (w12.alloc (.cells #[.int .i64 1] 3)).alloc (.cells #[.int .i64 0, .int .i64 0, .slice (some ⟨w12.heap.size, 0, none⟩) 1 1, .int .i64 0, .int .i64 0, .slice none 0 0] 48)) (b := w12.heap.size + 1) (g := w12.heap.size)
    (by have := (MapKept.heap_alloc (w12.alloc (.cells #[.int .i64 1] 3)) (.cells #[.int .i64 0, .int .i64 0, .slice (some ⟨w12.heap.size, 0, none⟩) 1 1, .int .i64 0, .int .i64 0, .slice none 0 0] 48)).1; rw [show (w12.alloc (.cells #[.int .i64 1] 3)).heap.size = w12.heap.size + 1 by simp] at this; exact this)
    ((int_lit1 (MapKept.heap_alloc w12 (.cells #[.int .i64 1] 3)).1 (show IB (1 : Int) from ⟨by decide, by decide⟩)).below intR_mono ((Below.refl _ _).alloc (Nat.le_refl _) _)))
  refine (porder_any _ st4 _ HO13.out (by decide) (by decide)).mono ?_
  rintro e w14 ⟨v14, rfl, hs14, hb14⟩
  rw [ex_facts.2.2.2.1.1]
  rw [ex_facts.2.2.2.1.2] at hs14
  have HB14 := hid (HB13.out.trans (hb14.mono HB13.out.size))
  have HL14 := hid (HL13.out.below stR_mono hb14)
  have HM14 := hid (HM13.out.below stR_mono hb14)
  obtain ⟨r14, c14, hv14, _⟩ := id hs14
  rw [show (([1, 0] : List Nat).map (Nat.cast : Nat → Int)).length = 2 from rfl] at hv14
  subst hv14
  have HN14 := hid (show Sl IntR 1 w14 (.slice r14 2 c14) [1, 0] from hs14)
  clear hb14 hs14 HB12 HB13 HL12 HL13 HM12 HM13 HO13 HA13
  obtain ⟨b, o, rn0, cn0, rfl, hb, _, q01, _⟩ := st_at HL14.out 0 (by decide)
  obtain ⟨b', o', rn1, cn1, e, _, _, q11, q12, n1, _⟩ := st_at HL14.out 1 (by decide)
  cases e
  obtain ⟨b', o', rn2, cn2, e, _, _, _, q22, n2, _⟩ := st_at HL14.out 2 (by decide)
  cases e
  obtain ⟨bm, om, rm0, cm0, rfl, hbm, _, p01, _⟩ := st_at HM14.out 0 (by decide)
  obtain ⟨b', o', rm1, cm1, e, _, _, _, p12, n3, _⟩ := st_at HM14.out 1 (by decide)
  cases e
  have l01 : w14.cell? ⟨b, o + 0 * 3 + 1, none⟩ = some (.int .i64 1) := q01
  rw [Nat.zero_mul, Nat.add_zero] at l01
  have l11 : w14.cell? ⟨b, o + 3 + 1, none⟩ = some (.int .i64 3) := q11
  have l12 : w14.cell? ⟨b, o + 3 + 2, none⟩ = some (.slice rn1 2 cn1) := q12
  have l22 : w14.cell? ⟨b, o + 6 + 2, none⟩ = some (.slice rn2 1 cn2) := q22
  have m01 : w14.cell? ⟨bm, om + 0 * 3 + 1, none⟩ = some (.int .i64 3) := p01
  rw [Nat.zero_mul, Nat.add_zero] at m01
  have m12 : w14.cell? ⟨bm, om + 3 + 2, none⟩ = some (.slice rm1 1 cm1) := p12
  clear q01 q11 q12 q22 p01 p12
  have HN1 := hid (show Sl IntR 1 w14 (.slice rn1 2 cn1) [0, 2] from n1)
  have HN2 := hid (show Sl IntR 1 w14 (.slice rn2 1 cn2) [0] from n2)
  have HN3 := hid (show Sl IntR 1 w14 (.slice rm1 1 cm1) [0] from n3)
  clear n1 n2 n3
  go_wp2_with fail
  have hal : Below w14.heap.size w14 (w14.alloc (.cells #[.int .i64 0, .int .i64 2] 3)) := (Below.refl _ _).alloc (Nat.le_refl _) _
  have HK21 := hid (hal)
  refine (numbers_any _ _ _ _ _ (HN1.out.below intR_mono HK21.out) (int_lit2 (MapKept.heap_alloc w14 (.cells #[.int .i64 0, .int .i64 2] 3)).1 (show IB (0 : Int) from ⟨by decide, by decide⟩) (show IB (2 : Int) from ⟨by decide, by decide⟩))).mono ?_
  rintro e w21 ⟨rfl, hb⟩
  rw [decide_eq_true rfl]
  have HW21 := hid (HK21.out.trans (hb.mono HK21.out.size))
  have l2221 := bget HW21.out l22
  have m0121 := bget HW21.out m01
  have m1221 := bget HW21.out m12
  clear hal hb
  go_wp2_with fail
  have hal : Below w21.heap.size w21 (w21.alloc (.cells #[.int .i64 0] 3)) := (Below.refl _ _).alloc (Nat.le_refl _) _
  have HK22 := hid (HW21.out.trans (hal.mono HW21.out.size))
  refine (numbers_any _ _ _ _ _ (HN2.out.below intR_mono HK22.out) (int_lit1 (MapKept.heap_alloc w21 (.cells #[.int .i64 0] 3)).1 (show IB (0 : Int) from ⟨by decide, by decide⟩))).mono ?_
  rintro e w22 ⟨rfl, hb⟩
  rw [decide_eq_true rfl]
  have HW22 := hid (HK22.out.trans (hb.mono HK22.out.size))
  have m0122 := bget HW22.out m01
  have m1222 := bget HW22.out m12
  clear hal hb
  go_wp2_with fail
  have hal : Below w22.heap.size w22 (w22.alloc (.cells #[.int .i64 0] 3)) := (Below.refl _ _).alloc (Nat.le_refl _) _
  have HK23 := hid (HW22.out.trans (hal.mono HW22.out.size))
  refine (numbers_any _ _ _ _ _ (HN3.out.below intR_mono HK23.out) (int_lit1 (MapKept.heap_alloc w22 (.cells #[.int .i64 0] 3)).1 (show IB (0 : Int) from ⟨by decide, by decide⟩))).mono ?_
  rintro e w23 ⟨rfl, hb⟩
  rw [decide_eq_true rfl]
  have HW23 := hid (HK23.out.trans (hb.mono HK23.out.size))
  clear hal hb
  go_wp2_with fail
  have hal : Below w23.heap.size w23 (w23.alloc (.cells #[.int .i64 1, .int .i64 0] 3)) := (Below.refl _ _).alloc (Nat.le_refl _) _
  have HK24 := hid (HW23.out.trans (hal.mono HW23.out.size))
  refine (numbers_any _ _ _ _ _ (HN14.out.below intR_mono HK24.out) (int_lit2 (MapKept.heap_alloc w23 (.cells #[.int .i64 1, .int .i64 0] 3)).1 (show IB (1 : Int) from ⟨by decide, by decide⟩) (show IB (0 : Int) from ⟨by decide, by decide⟩))).mono ?_
  rintro e w24 ⟨rfl, hb⟩
  rw [decide_eq_true rfl]
  have HW24 := hid (HK24.out.trans (hb.mono HK24.out.size))
  clear hal hb
  go_wp2_with fail
  refine (before_any _ st1 0 1 _ (HL14.out.below stR_mono HW24.out) (by decide)).mono ?_
  rintro e w25 ⟨rfl, hb25⟩
  rw [ex_facts.2.2.2.2.1]
  have HW25 := hid (HW24.out.trans (hb25.mono HW24.out.size))
  clear hb25
  go_wp2_with fail
  refine (before_any _ st1 1 0 _ (HL14.out.below stR_mono HW25.out) (by decide)).mono ?_
  rintro e w26 ⟨rfl, hb26⟩
  rw [ex_facts.2.2.2.2.2]
  have HW26 := hid (HW25.out.trans (hb26.mono HW25.out.size))
  clear hb26
  go_wp2
  go_ret
  exact ⟨rfl, HB14.out.trans (HW26.out.mono HB14.out.size)⟩
end Go.Proofs.YtpnogmicfomofaaGreatDoor.Stp
