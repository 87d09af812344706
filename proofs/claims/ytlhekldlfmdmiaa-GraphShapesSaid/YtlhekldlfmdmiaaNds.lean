import Derived.Test.YtlhekldlfmdmiaaNcl
import Derived.Test.YtlhekldlfmdmiaaPt
/-
  Distances as the reference takes them, in plain Lean: levels and what was seen. Conditions: those ahead of each theorem.
-/
namespace Go.Proofs.Ytlhekldlfmdmiaa
set_option linter.unusedVariables false
set_option linter.unusedSimpArgs false

open Classical in
/-- The length of a shortest walk of at least one edge, or 0. -/
noncomputable def disF (F : ByteArray → List ByteArray) (a b : ByteArray) : Nat := if h : ∃ n, Wk F (n + 1) a b then (least h).choose + 1 else 0
section
variable {F : ByteArray → List ByteArray}
theorem dis_pos {a b : ByteArray} {n : Nat} : disF F a b = n + 1 ↔ Wk F (n + 1) a b ∧ ∀ m, m < n → ¬ Wk F (m + 1) a b := by
  unfold disF
  by_cases h : ∃ n, Wk F (n + 1) a b
  · rw [dif_pos h]
    have hs := (least h).choose_spec
    generalize (least h).choose = q at *
    constructor
    · intro e
      have : q = n := by omega
      subst this; exact hs
    · rintro ⟨h1, h2⟩
      rcases Nat.lt_trichotomy q n with h3 | h3 | h3
      · exact absurd hs.1 (h2 q h3)
      · omega
      · exact absurd h1 (hs.2 n h3)
  · rw [dif_neg h]
    constructor
    · intro h'; omega
    · rintro ⟨h1, _⟩; exact absurd ⟨n, h1⟩ h
theorem dis_gir (a : ByteArray) : disF F a a = girF F a := rfl
theorem dis_le {a b : ByteArray} {n : Nat} (h : Wk F (n + 1) a b) : disF F a b ≠ 0 ∧ disF F a b ≤ n + 1 := by
  unfold disF
  rw [dif_pos ⟨n, h⟩]
  have hs := (least ⟨n, h⟩ : ∃ k, Wk F (k + 1) a b ∧ ∀ m, m < k → ¬ Wk F (m + 1) a b).choose_spec
  refine ⟨by omega, ?_⟩
  refine Nat.succ_le_succ (Nat.le_of_not_lt fun hl => hs.2 n hl h)
theorem dis_dst {a b : ByteArray} {n : Nat} (hab : a ≠ b) : disF F a b = n + 1 ↔ dstF F a b = some (n + 1) := by
  rw [dis_pos, dst_some]
  constructor
  · rintro ⟨h1, h2⟩
    refine ⟨h1, fun m hm hw => ?_⟩
    cases m with
    | zero => exact hab hw
    | succ m => exact h2 m (by omega) hw
  · rintro ⟨h1, h2⟩
    exact ⟨h1, fun m hm hw => h2 (m + 1) (by omega) hw⟩
theorem dis_one {a b : ByteArray} : disF F a b = 1 ↔ b ∈ F a := by
  rw [show (1 : Nat) = 0 + 1 from rfl, dis_pos]
  constructor
  · rintro ⟨⟨c, hc, rfl⟩, _⟩; exact hc
  · intro h; exact ⟨⟨b, h, rfl⟩, fun m hm => by omega⟩
/-- One step ahead of the end. -/
theorem dis_pred {a b : ByteArray} {n : Nat} (h : disF F a b = n + 2) : ∃ c, disF F a c = n + 1 ∧ b ∈ F c := by
  obtain ⟨h1, h2⟩ := dis_pos.1 h
  obtain ⟨c, hc, hb⟩ := wk_snoc.1 h1
  refine ⟨c, dis_pos.2 ⟨hc, fun m hm hw => h2 (m + 1) (by omega) (wk_snoc.2 ⟨c, hw, hb⟩)⟩, hb⟩
theorem dis_down {a : ByteArray} {n : Nat} : ∀ (d : Nat) (b : ByteArray), disF F a b = n + 1 + d → ∃ c, disF F a c = n + 1
  | 0, b, h => ⟨b, h⟩
  | d + 1, b, h => by
    obtain ⟨c, hc, _⟩ := dis_pred (F := F) (a := a) (b := b) (n := n + d) (by omega)
    exact dis_down d c (by omega)
end
theorem rem_mono {sn sm : List ByteArray} (h : ∀ x ∈ sn, x ∈ sm) : ∀ U : List ByteArray, rem U sm ≤ rem U sn
  | [] => Nat.le_refl _
  | u :: U => by
    have ih := rem_mono h U
    unfold rem at ih ⊢
    rw [List.filter_cons, List.filter_cons]
    cases h1 : hasS u sn with
    | true =>
      have h2 : hasS u sm = true := hasS_iff.2 (h u (hasS_iff.1 h1))
      rw [h2]; simpa using ih
    | false => cases h2 : hasS u sm <;> simp <;> omega
theorem rem_more {U sn sm : List ByteArray} {y : ByteArray} (h : ∀ x ∈ sn, x ∈ sm) (hy : y ∈ U) (h1 : y ∉ sn) (h2 : y ∈ sm) : rem U sm + 1 ≤ rem U sn := by
  have := rem_add hy h1
  have := rem_mono (sn := sn ++ [y]) (sm := sm) (fun x hx => by
    rw [List.mem_append, List.mem_singleton] at hx
    rcases hx with hx | rfl
    · exact h x hx
    · exact h2) U
  omega
def nwL (es : List Ed) (lv sn : List ByteArray) : List ByteArray := (nxtL es lv).filter fun x => !hasS x sn
/-- The levels under way. -/
structure Lev (es : List Ed) (a b : ByteArray) (n : Nat) (lv sn : List ByteArray) : Prop where
  pos : 1 ≤ n
  mlv : ∀ x, x ∈ lv ↔ disF (tgt es) a x = n
  msn : ∀ x, x ∈ sn ↔ disF (tgt es) a x ≠ 0 ∧ disF (tgt es) a x ≤ n
  snA : AscB sn
  lvA : AscB lv
  no : disF (tgt es) a b = 0 ∨ n ≤ disF (tgt es) a b
  bd : n + rem (es.map (·.2)) sn ≤ es.length + 1 ∨ lv = [] ∧ n ≤ es.length + 2
theorem nxt_one {es : List Ed} {a x : ByteArray} : x ∈ nxtL es [a] ↔ x ∈ tgt es a := by
  rw [mem_nxtL, mem_tgt]
  constructor
  · rintro ⟨e, he, h1, rfl⟩
    have : e.1 = a := by simpa using h1
    subst this; exact he
  · intro h; exact ⟨_, h, by simp, rfl⟩
theorem Lev.start (es : List Ed) (a b : ByteArray) : Lev es a b 1 (nxtL es [a]) (nxtL es [a]) where
  pos := by omega
  mlv x := by rw [nxt_one, dis_one]
  msn x := by
    rw [nxt_one, ← dis_one]
    omega
  snA := nxtL_asc _ _
  lvA := nxtL_asc _ _
  no := by omega
  bd := by
    have := rem_le (es.map (·.2)) (nxtL es [a])
    rw [List.length_map] at this
    omega
theorem mem_nwL {es : List Ed} {lv sn : List ByteArray} {x : ByteArray} : x ∈ nwL es lv sn ↔ (∃ c ∈ lv, x ∈ tgt es c) ∧ x ∉ sn := by
  unfold nwL
  rw [List.mem_filter, mem_nxtL]
  constructor
  · rintro ⟨⟨e, he, h1, rfl⟩, h2⟩
    refine ⟨⟨e.1, h1, mem_tgt.2 he⟩, fun h => ?_⟩
    rw [hasS_iff.2 h] at h2; cases h2
  · rintro ⟨⟨c, hc, hx⟩, h2⟩
    refine ⟨⟨_, mem_tgt.1 hx, hc, rfl⟩, ?_⟩
    cases h : hasS x sn with
    | false => rfl
    | true => exact absurd (hasS_iff.1 h) h2
theorem Lev.new {es : List Ed} {a b : ByteArray} {n : Nat} {lv sn : List ByteArray} (h : Lev es a b n lv sn) (x : ByteArray) : x ∈ nwL es lv sn ↔ disF (tgt es) a x = n + 1 := by
  have hp := h.pos
  obtain ⟨m, rfl⟩ : ∃ m, n = m + 1 := ⟨n - 1, by omega⟩
  rw [mem_nwL]
  constructor
  · rintro ⟨⟨c, hc, hx⟩, hn⟩
    have h1 := (dis_pos.1 ((h.mlv c).1 hc)).1
    have h2 := dis_le (wk_snoc.2 ⟨c, h1, hx⟩)
    refine Nat.le_antisymm h2.2 (Nat.lt_of_not_le fun hl => hn ((h.msn x).2 ⟨h2.1, hl⟩))
  · intro hx
    obtain ⟨c, hc, hcx⟩ := dis_pred (n := m) hx
    refine ⟨⟨c, (h.mlv c).2 hc, hcx⟩, fun hs => ?_⟩
    have := ((h.msn x).1 hs).2
    omega
theorem mem_morL {out l : List ByteArray} {z : ByteArray} (h : AscB out) : z ∈ morL out l ↔ z ∈ out ∨ z ∈ l := (fold_insB l out h).2 z
theorem Lev.remL {es : List Ed} {a b : ByteArray} {n : Nat} {lv sn : List ByteArray} (h : Lev es a b n lv sn) : rem (es.map (·.2)) (morL sn (nwL es lv sn)) ≤ rem (es.map (·.2)) sn ∧ (nwL es lv sn ≠ [] → rem (es.map (·.2)) (morL sn (nwL es lv sn)) + 1 ≤ rem (es.map (·.2)) sn) := by
  refine ⟨rem_mono (fun x hx => (mem_morL h.snA).2 (Or.inl hx)) _, fun hne => ?_⟩
  obtain ⟨y, hy⟩ := List.exists_mem_of_ne_nil _ hne
  obtain ⟨⟨c, hc, hx⟩, hn⟩ := mem_nwL.1 hy
  exact rem_more (fun x hx => (mem_morL h.snA).2 (Or.inl hx)) (List.mem_map.2 ⟨_, mem_tgt.1 hx, rfl⟩) hn ((mem_morL h.snA).2 (Or.inr hy))
theorem Lev.next {es : List Ed} {a b : ByteArray} {n : Nat} {lv sn : List ByteArray} (h : Lev es a b n lv sn) (hb : b ∉ lv) (hl : lv ≠ []) : Lev es a b (n + 1) (nwL es lv sn) (morL sn (nwL es lv sn)) where
  pos := by omega
  mlv := h.new
  msn x := by
    rw [mem_morL h.snA, h.msn, h.new]
    omega
  snA := (fold_insB _ _ h.snA).1
  lvA := asc_filter (nxtL_asc _ _) _
  no := by
    have h1 := h.no
    have h2 : ¬ disF (tgt es) a b = n := fun e => hb ((h.mlv b).2 e)
    omega
  bd := by
    have hr := h.remL
    have hbd : n + rem (es.map (·.2)) sn ≤ es.length + 1 := by
      rcases h.bd with h1 | h1
      · exact h1
      · exact absurd h1.1 hl
    by_cases e : nwL es lv sn = []
    · exact Or.inr ⟨e, by omega⟩
    · have := hr.2 e
      exact Or.inl (by omega)
theorem Lev.end {es : List Ed} {a b : ByteArray} {n : Nat} {sn : List ByteArray} (h : Lev es a b n [] sn) : disF (tgt es) a b = 0 := by
  refine Classical.byContradiction fun h0 => ?_
  have h1 := h.no
  have hp := h.pos
  obtain ⟨m, rfl⟩ : ∃ m, n = m + 1 := ⟨n - 1, by omega⟩
  obtain ⟨c, hc⟩ := dis_down (F := tgt es) (a := a) (n := m) (disF (tgt es) a b - (m + 1)) b (by omega)
  have := (h.mlv c).2 hc
  simp at this
theorem Lev.le {es : List Ed} {a b : ByteArray} {n : Nat} {lv sn : List ByteArray} (h : Lev es a b n lv sn) : n ≤ es.length + 2 := by
  rcases h.bd with h1 | h1 <;> omega
theorem Lev.lens {es : List Ed} {a b : ByteArray} {n : Nat} {lv sn : List ByteArray} (h : Lev es a b n lv sn) : lv.length ≤ es.length ∧ sn.length ≤ es.length := by
  have key : ∀ l : List ByteArray, AscB l → (∀ x ∈ l, disF (tgt es) a x ≠ 0) → l.length ≤ es.length := fun l hl hm => by
    have := asc_sub_len hl (b := es.map (·.2)) fun x hx => by
      have h0 := hm x hx
      obtain ⟨m, hm⟩ : ∃ m, disF (tgt es) a x = m + 1 := ⟨disF (tgt es) a x - 1, by omega⟩
      obtain ⟨c, _, hc⟩ := wk_snoc.1 (dis_pos.1 hm).1
      exact List.mem_map.2 ⟨_, mem_tgt.1 hc, rfl⟩
    rwa [List.length_map] at this
  have hp := h.pos
  exact ⟨key lv h.lvA fun x hx => by have := (h.mlv x).1 hx; omega, key sn h.snA fun x hx => ((h.msn x).1 hx).1⟩
open Classical in
noncomputable def lms (es : List Ed) (lv sn : List ByteArray) : Nat := 2 * rem (es.map (·.2)) sn + if lv = [] then 0 else 1
theorem Lev.lms_lt {es : List Ed} {a b : ByteArray} {n : Nat} {lv sn : List ByteArray} (h : Lev es a b n lv sn) (hl : lv ≠ []) : lms es (nwL es lv sn) (morL sn (nwL es lv sn)) < lms es lv sn := by
  have hr := h.remL
  unfold lms
  rw [if_neg hl]
  by_cases e : nwL es lv sn = []
  · rw [if_pos e]; omega
  · rw [if_neg e]; have := hr.2 e; omega
theorem Lev.bnd {es : List Ed} {a b : ByteArray} : ∀ (g : Nat) {n : Nat} {lv sn : List ByteArray}, lms es lv sn ≤ g → Lev es a b n lv sn → disF (tgt es) a b ≤ es.length + 2
  | g, n, lv, sn, hg, h => by
    by_cases hl : lv = []
    · subst hl
      rw [h.end]; omega
    by_cases hb : b ∈ lv
    · rw [(h.mlv b).1 hb]; exact h.le
    have h1 := h.lms_lt hl
    cases g with
    | zero => omega
    | succ g => exact Lev.bnd g (by omega) (h.next hb hl)
theorem dis_bd (es : List Ed) (a b : ByteArray) : disF (tgt es) a b ≤ es.length + 2 := Lev.bnd _ (Nat.le_refl _) (Lev.start es a b)
theorem nw_take {l sn : List ByteArray} {k : Nat} (hk : k < l.length) : (l.take (k + 1)).filter (fun x => !hasS x sn) = if hasS l[k] sn = true then (l.take k).filter (fun x => !hasS x sn) else (l.take k).filter (fun x => !hasS x sn) ++ [l[k]] := by
  rw [List.take_succ_eq_append_getElem hk, List.filter_append]
  cases h : hasS l[k] sn <;> simp [List.filter_cons, h]
end Go.Proofs.Ytlhekldlfmdmiaa
/-
  The reference's distance. Conditions: those ahead of each theorem.
-/
namespace Go.Proofs.Ytlhekldlfmdmiaa
open Go.RowKit Go.Sort Go.Lib Go.Maps
open Go.Lib (hid)
set_option linter.unusedVariables false
set_option linter.unusedSimpArgs false

theorem ret_int64 {a b : Int} (h : a = b) : Ending.returned (.int .i64 a) = .returned (.int .i64 b) := by rw [h]
set_option maxRecDepth 100000 in
set_option maxHeartbeats 4000000 in
theorem rdist_any (vn ve : Value) (ns : List ByteArray) (es : List Ed) (a b : ByteArray) (w : World) (hN : Sl StrR 1 w vn ns) (hS : Sl EdR 2 w ve es) (ha : a.size ≤ maxLen) (hn : es.length ≤ 10000) :
    Calls Try.prog 41 #[.agg #[vn, ve], .string a, .string b] w fun e w' => e = .returned (.int .i64 ((disF (tgt es) a b : Nat) : Int)) ∧ Below w.heap.size w w' := by
  obtain ⟨r, c, rfl, _⟩ := id hS
  obtain ⟨rn, cn, rfl, _⟩ := id hN
  have HN := hid (fun (W : World) (hW : Below w.heap.size w W) => hN.below strR_mono hW)
  have HS := hid (fun (W : World) (hW : Below w.heap.size w W) => hS.below edR_mono hW)
  have HB0 := hid (show Below w.heap.size w (w.alloc (.cells #[.slice rn ns.length cn, .slice r es.length c] 25)) from (Below.refl _ _).alloc (Nat.le_refl _) _)
  have HC0 := hid (show (w.alloc (.cells #[.slice rn ns.length cn, .slice r es.length c] 25)).heap[w.heap.size]? = some (.cells #[.slice rn ns.length cn, .slice r es.length c] 25 (0, 0)) from (MapKept.heap_alloc w _).1)
  have HA := hid ha
  have HL1 := hid (Lev.start es a b)
  clear hN hS ha
  have HZ0 := hid (show w.heap.size + 1 = (w.alloc (.cells #[.slice rn ns.length cn, .slice r es.length c] 25)).heap.size by simp)
  go_enter Try.func41, Try.ntmps41
  go_wp2_with fail
  generalize (w.alloc (.cells #[.slice rn ns.length cn, .slice r es.length c] 25)) = W0 at *
  have z0 := cellv HC0.out 0 rfl
  have z1 := cellv HC0.out 1 rfl
  go_wp2_with fail
  have HB1 := hid (HB0.out.alloc HB0.out.size (.cells #[.string a] 9))
  have HC1 := hid ((Below.heap_alloc W0 (.cells #[.string a] 9) w.heap.size (lt_of_block HC0.out)).trans HC0.out)
  refine (rnext_any _ _ _ ns es [a] _ (HN.out _ HB1.out) (HS.out _ HB1.out) (lit_at ((congrArg _ HZ0.out).trans (MapKept.heap_alloc W0 _).1) HA.out) (by omega)).mono ?_
  rintro r' w1 ⟨v1, rfl, hns1, hb1⟩
  have HB2 := hid (HB1.out.trans (hb1.mono HB1.out.size))
  have HC2 := hid ((hb1.block _ (lt_of_block HC1.out)).trans HC1.out)
  have HO1 := hid hns1
  clear hns1 hb1 z0 z1 HC0 HB0 HB1 HC1 HZ0
  generalize nxtL es [a] = L1 at *
  generalize hg0 : lms es L1 L1 = gg0 at *
  have HG0 := hid (show lms es L1 L1 ≤ gg0 by rw [hg0]; exact Nat.le_refl _)
  clear hg0
  go_wp2
  go_loopg [7, 8, 9] gg0 (fun gg s7 s8 s9 wr => ∃ (n : Nat) (lv sn : List ByteArray), Hid (lms es lv sn ≤ gg) ∧ Hid (Lev es a b n lv sn) ∧ s9 = .int .i64 n ∧ Hid (Below w1.heap.size w1 wr) ∧ Hid (NS wr s7 lv) ∧ Hid (NS wr s8 sn))
  case atStart => exact ⟨1, L1, L1, HG0, HL1, rfl, hid (Below.refl _ _), HO1, HO1⟩
  case round =>
    clear HL1 HO1 HG0
    obtain ⟨n, lv, sn, HG, HLv, rfl, HBL, HL, HSn⟩ := hrel
    have HBW := hid (HB2.out.trans (HBL.out.mono HB2.out.size))
    have HCW := hid ((HBL.out.block _ (lt_of_block HC2.out)).trans HC2.out)
    have hlen := HLv.out.lens
    have hnl := HLv.out.le
    obtain ⟨rl, cl, rfl, hrl1, hrl2⟩ := HL.out.form
    obtain ⟨rs, cs, rfl, hrs1, hrs2⟩ := HSn.out.form
    by_cases hl0 : lv = []
    · subst hl0
      have HR := hid HLv.out.end
      go_wp2
      go_ret
      exact ⟨ret_int64 (by rw [HR.out]; rfl), HBW.out⟩
    have hpos : (0 : Int) < (lv.length : Int) := by
      have := List.length_pos_iff.2 hl0; omega
    have HL0 := hid hl0
    clear hl0
    go_wp2_with fail
    refine (has_any lv b _ _ HL.out.1).mono ?_
    rintro r' w' ⟨rfl, rfl⟩
    cases hh : hasS b lv with
    | true =>
      have HR := hid ((HLv.out.mlv b).1 (hasS_iff.1 hh))
      clear hh
      go_wp2
      go_ret
      exact ⟨ret_int64 (by rw [HR.out]), HBW.out⟩
    | false =>
      have HNx := hid (HLv.out.next (fun h => by rw [hasS_iff.2 h] at hh; cases hh) HL0.out)
      have HLt := hid (Nat.lt_of_lt_of_le (HLv.out.lms_lt HL0.out) HG.out)
      clear hh
      have z0 := cellv HCW.out 0 rfl
      have z1 := cellv HCW.out 1 rfl
      go_wp2_with fail
      refine (rnext_any _ _ _ ns es lv _ (HN.out _ HBW.out) (HS.out _ HBW.out) HL.out.1 (by omega)).mono ?_
      rintro r' w3 ⟨v3, rfl, hns3, hb3⟩
      have HB3 := hid (HBW.out.trans (hb3.mono HBW.out.size))
      have HBL3 := hid (HBL.out.trans (hb3.mono HBL.out.size))
      have HSn3 := hid (HSn.out.below hb3)
      have HX3 := hid (fun (W : World) (hW : Below w3.heap.size w3 W) => hns3.below hW)
      obtain ⟨rx, cx, rfl, hrx1, hrx2⟩ := hns3.form
      clear hb3 hns3 z0 z1
      have hxl := nxtL_len es lv
      have HXe := hid (show (nxtL es lv).filter (fun x => !hasS x sn) = nwL es lv sn from rfl)
      generalize nxtL es lv = X at *
      go_wp2
      obtain ⟨wo, rfl⟩ : ∃ wo : World, wo = wr := ⟨_, rfl⟩
      go_loopw [10, 12] (fun s10 i wr => ∃ k : Nat, k ≤ X.length ∧ i = .int .i64 k ∧ Hid (Below w3.heap.size w3 wr) ∧ Hid (OwnS w3.heap.size wr s10 ((X.take k).filter fun x => !hasS x sn))) (fun _ i _ => X.length - (RowKit.intOf i).toNat)
      case atStart => exact ⟨0, by omega, rfl, hid (Below.refl _ _), hid (ownS_nil _ _)⟩
      case round =>
        obtain ⟨k, hk, rfl, HBl, HM⟩ := hrel
        by_cases hlt : k < X.length
        · obtain ⟨b, off, rfl, hb, g0, hz0⟩ := str_at (HX3.out _ HBl.out).1 k hlt
          have HT := hid (nw_take (sn := sn) hlt)
          have HSr := hid (HSn3.out.below HBl.out)
          have HLn := hid (show ((X.take k).filter fun x => !hasS x sn).length + 1 ≤ 1000000 by have := List.length_filter_le (fun x => !hasS x sn) (X.take k); simp at this; omega)
          have k2 : (0 : Int) ≤ (k : Int) := by omega
          have k3 : (k : Int) < (X.length : Int) := by omega
          generalize ((X.take k).filter fun x => !hasS x sn) = L at *
          generalize X[k] = y at *
          have HZ := hid hz0
          clear hz0
          go_wp2_with fail
          refine (has_any sn y _ _ HSr.out.1).mono ?_
          rintro r' w' ⟨rfl, rfl⟩
          cases hh : hasS y sn with
          | true =>
            have HT2 := hid (HT.out.trans (if_pos hh))
            clear hh HT
            go_wp2
            go_roundw
            case rel => exact ⟨k + 1, by omega, by go_num, HBl, hid (by rw [HT2.out]; exact HM.out)⟩
            case measure => simp [RowKit.intOf]; omega
          | false =>
            have HT2 := hid (HT.out.trans (if_neg (by rw [hh]; simp)))
            clear hh HT
            have HOa := hid (HM.out.below ((Below.refl _ _).alloc (Nat.le_refl _) (.cells #[.string y] 9)))
            have HBa := hid (HBl.out.alloc HBl.out.size (.cells #[.string y] 9))
            have HLo := hid HM.out.lt
            have hszz := HBl.out.size
            go_wp2_with (at_builtin
                         refine app_str rfl _ _ rfl w3.heap.size _ L rfl HOa.out wr.heap.size 1 y rfl (fr := (0, 0)) (by exact (MapKept.heap_alloc wr _).1) HZ.out HLn.out (by simp; omega) (wr.heap.size + 1) (by simp) ?_
                         intro g cap w7 hm7
                         have HM7 := hid hm7
                         clear hm7)
            go_roundw
            case rel =>
              obtain ⟨m1, m2, m3, m4⟩ := HM7.out
              have e2 : (L ++ [y]).length = L.length + 1 := by simp
              rw [e2] at m1
              exact ⟨k + 1, by omega, by go_num, hid (Below.grown HBa.out m2 HBa.out.size (fun g hg => (HLo.out g hg).1)), hid (by rw [HT2.out]; exact m1)⟩
            case measure => simp [RowKit.intOf]; omega
        · obtain rfl : k = X.length := by omega
          have HM2 := HM
          rw [List.take_length, HXe.out] at HM2
          have HNS := hid HM2.out.ns
          have HSn4 := hid (HSn3.out.below HBl.out)
          have HB4 := hid (HB3.out.trans (HBl.out.mono HB3.out.size))
          have HBL4 := hid (HBL3.out.trans (HBl.out.mono HBL3.out.size))
          have hnw : (nwL es lv sn).length ≤ es.length := HNx.out.lens.1
          have hmo : ∀ k, (morL sn ((nwL es lv sn).take k)).length ≤ 100000 := fun k => by
            have h1 := (morL_len sn ((nwL es lv sn).take k)).1
            simp at h1; omega
          have HMO := hid hmo
          clear HM HM2 hmo
          generalize nwL es lv sn = M at *
          obtain ⟨w4, rfl⟩ : ∃ w4 : World, w4 = wr := ⟨_, rfl⟩
          obtain ⟨rm, cm, rfl, hrm1, hrm2⟩ := HNS.out.form
          go_wp2
          go_loopw [8, 13] (fun s8 i wr => ∃ k : Nat, k ≤ M.length ∧ i = .int .i64 k ∧ Hid (Below w4.heap.size w4 wr) ∧ Hid (NS wr s8 (morL sn (M.take k)))) (fun _ i _ => M.length - (RowKit.intOf i).toNat)
          case atStart => exact ⟨0, by omega, rfl, hid (Below.refl _ _), HSn4⟩
          case round =>
            obtain ⟨k, hk, rfl, HBm, HQ⟩ := hrel
            have HNm := hid (HNS.out.below HBm.out)
            by_cases hlt : k < M.length
            · obtain ⟨b, off, rfl, hb, g0, hz0⟩ := str_at HNm.out.1 k hlt
              have HT := hid (morL_take (out := sn) hlt)
              have HLn := hid (HMO.out k)
              generalize morL sn (M.take k) = L at *
              generalize M[k] = y at *
              have HZ := hid hz0
              clear hz0
              go_wp2_with fail
              refine (node_any _ L y _ HQ.out HLn.out HZ.out).mono ?_
              rintro r' w5 ⟨v5, rfl, hns5, hb5, _⟩
              have HNS5 := hid hns5
              have HB5 := hid hb5
              clear hns5 hb5 g0
              go_wp2
              go_roundw
              case rel => exact ⟨k + 1, by omega, by go_num, hid (HBm.out.trans (HB5.out.mono HBm.out.size)), hid (by rw [HT.out]; exact HNS5.out)⟩
              case measure => simp [RowKit.intOf]; omega
            · obtain rfl : k = M.length := by omega
              have HQ2 := HQ
              rw [List.take_length] at HQ2
              have HBn := hid (HBL4.out.trans (HBm.out.mono HBL4.out.size))
              clear HQ
              go_wp2
              go_roundg (lms es M (morL sn M))
              case measure => exact HLt.out
              case rel => exact ⟨n + 1, M, morL sn M, hid (Nat.le_refl _), HNx, by go_num, HBn, HNm, HQ2⟩
end Go.Proofs.Ytlhekldlfmdmiaa
