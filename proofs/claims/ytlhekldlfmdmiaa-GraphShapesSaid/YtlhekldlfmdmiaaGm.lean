import Derived.Test.YtlhekldlfmdmiaaGl
/-
  The program's Of. Conditions: those ahead of each theorem.
-/
namespace Go.Proofs.Ytlhekldlfmdmiaa
open Go.RowKit Go.Sort Go.Lib Go.Maps
open Go.Lib (hid)
set_option linter.unusedVariables false
set_option linter.unusedSimpArgs false

theorem grown_set (w : World) (a : Addr) (u : Value) : w.grownBy (w.setCell a u) (some a.block) := ⟨rfl, rfl, rfl, by simp [World.setCell], fun k hk hne => Below.heap_setCell _ _ _ _ (fun e => hne (by rw [e]))⟩
theorem OwnS.setNe {B : Nat} {w : World} {v : Value} {xs : List ByteArray} (h : OwnS B w v xs) {a : Addr} (ha : ∀ g, v.ownBlock = some g → g ≠ a.block) (u : Value) : OwnS B (w.setCell a u) v xs := h.kept (grown_set w a u) fun g hg e => by cases e; exact ha _ hg rfl
theorem OwnE.setNe {B : Nat} {w : World} {v : Value} {xs : List Ed} (h : OwnE B w v xs) {a : Addr} (ha : ∀ g, v.ownBlock = some g → g ≠ a.block) (u : Value) : OwnE B (w.setCell a u) v xs := h.kept (grown_set w a u) fun g hg e => by cases e; exact ha _ hg rfl
/-- Both ends are nodes. -/
def endsIn (ns : List ByteArray) (l : List Ed) : Bool := l.all fun e => hasS e.1 ns && hasS e.2 ns
def ofG (nodes : List ByteArray) (l : List Ed) : List ByteArray × List Ed × Int :=
  if 2048 < (canB nodes).length then ([], [], 14) else if endsIn (canB nodes) l = true then (canB nodes, canE l, 0) else ([], [], 9)
/-- A graph and an error that are handed back. -/
def GrP (x : List ByteArray × List Ed × Int) (w : World) (e : Ending) (w' : World) : Prop :=
  ∃ vn ve, e = .returned (.tuple #[.agg #[vn, ve], .int .i64 x.2.2]) ∧ Sl StrR 1 w' vn x.1 ∧ Sl EdR 2 w' ve x.2.1 ∧ Below w.heap.size w w'
theorem endsIn_take {ns : List ByteArray} {l : List Ed} {k : Nat} (hk : k < l.length) : endsIn ns (l.take (k + 1)) = (endsIn ns (l.take k) && (hasS (l[k]).1 ns && hasS (l[k]).2 ns)) := by
  unfold endsIn
  rw [List.take_succ_eq_append_getElem hk, List.all_append]; simp
theorem endsIn_no {ns : List ByteArray} {l : List Ed} {k : Nat} (hk : k < l.length) (h : (hasS (l[k]).1 ns && hasS (l[k]).2 ns) = false) : endsIn ns l = false := by
  unfold endsIn
  rw [List.all_eq_false]
  exact ⟨_, List.getElem_mem hk, by rw [h]; simp⟩
theorem sl_nilS (w : World) : Sl StrR 1 w (.slice none 0 0) [] := (ownS_nil 0 w).sl
theorem sl_nilE (w : World) : Sl EdR 2 w (.slice none 0 0) [] := (ownE_nil 0 w).sl

set_option maxRecDepth 100000 in
set_option maxHeartbeats 2000000 in
theorem of_any (nodes : List ByteArray) (l : List Ed) (vn ve : Value) (w : World) (hN : Sl StrR 1 w vn nodes) (hS : Sl EdR 2 w ve l) (hnn : nodes.length ≤ 900000) (hn : l.length ≤ 900000) :
    Calls Try.prog 28 #[vn, ve] w (GrP (ofG nodes l) w) := by
  obtain ⟨r, c, rfl, _⟩ := id hS
  obtain ⟨rn, cn, rfl, _⟩ := id hN
  obtain ⟨_, hl, hm⟩ := sl_len hS
  obtain ⟨_, hl1, hm1⟩ := sl_len hN
  have HE := hid (fun (W : World) (hW : Below w.heap.size w W) => ed_at (hS.below edR_mono hW))
  have HEs := hid (fun (W : World) (hW : Below w.heap.size w W) => hS.below edR_mono hW)
  have HNs := hid (fun (W : World) (hW : Below w.heap.size w W) => hN.below strR_mono hW)
  clear hS hN
  have HB0 := hid (show Below w.heap.size w (w.alloc (.cells #[.slice none 0 0, .slice none 0 0] 25)) from (Below.refl _ _).alloc (Nat.le_refl _) _)
  have HC4 := hid (show (w.alloc (.cells #[.slice none 0 0, .slice none 0 0] 25)).heap[w.heap.size]? = some (.cells #[.slice none 0 0, .slice none 0 0] 25 (0, 0)) from (MapKept.heap_alloc w _).1)
  go_enter Try.func28, Try.ntmps28
  go_wp2_with fail
  refine (clone_s nodes _ _ (HNs.out _ HB0.out) (by omega)).mono ?_
  rintro e w1 ⟨v2, rfl, ho1, hb1⟩
  have hsz : (w.alloc (.cells #[.slice none 0 0, .slice none 0 0] 25)).heap.size = w.heap.size + 1 := by simp
  have hz1 : w.heap.size + 1 ≤ w1.heap.size := by have := hb1.size; rw [hsz] at this; exact this
  rw [hsz] at ho1 hb1
  have D4 := hid ((hb1.block w.heap.size (by omega)).trans HC4.out)
  have B1 := hid (HB0.out.trans (hb1.mono (by omega)))
  obtain ⟨r2, c2, rfl, hc21, hc22⟩ := ho1.form
  have HL2 := hid ho1.lt
  have hW1 : Below w1.heap.size w1 (w1.alloc (.cells #[.slice r2 nodes.length c2, .slice none 0 0] 25)) := (Below.refl _ _).alloc (Nat.le_refl _) _
  have O1 := hid (ho1.below hW1)
  have E4 := hid ((hW1.block w.heap.size (by omega)).trans D4.out)
  have E6 := hid (show (w1.alloc (.cells #[.slice r2 nodes.length c2, .slice none 0 0] 25)).heap[w1.heap.size]? = some (.cells #[.slice r2 nodes.length c2, .slice none 0 0] 25 (0, 0)) from (MapKept.heap_alloc w1 _).1)
  have B2 := hid (B1.out.trans (hW1.mono (by omega)))
  have hz2 : w1.heap.size + 1 = (w1.alloc (.cells #[.slice r2 nodes.length c2, .slice none 0 0] 25)).heap.size := by simp
  have HZ2 := hid hz2
  clear ho1 hb1 hsz hW1 hz2 D4 HC4 HB0 B1
  have q0 := cellv E6.out 0 rfl
  go_wp2_with (go_at_call 52
               refine (sort_str (w.heap.size + 1) _ nodes _ O1.out (by omega)).mono ?_
               rintro e w3 ⟨rfl, ys, hp, hs, ho3, hg3⟩
               have hne : ∀ j, (j = w.heap.size ∨ j = w1.heap.size) → ∀ g, (Value.slice r2 nodes.length c2).ownBlock = some g → g ≠ j := fun j hj g hg => by have := HL2.out g hg; omega
               have F4 := hid (own_block hg3 (hne _ (Or.inl rfl)) E4.out)
               have F6 := hid (own_block hg3 (hne _ (Or.inr rfl)) E6.out)
               have q1 := cellv F6.out 0 rfl
               have O3 := hid ho3
               have HP := hid hp
               have HSr := hid hs
               have B3 := hid (Below.grown B2.out hg3 B2.out.size (fun g hg => by have := (HL2.out g hg).1; omega))
               have hz3 : w1.heap.size + 1 ≤ w3.heap.size := by have h1 := hg3.size; have h2 := HZ2.out; omega
               clear hp hs ho3 hg3 hne)
  have HYl := hid (show ys.length ≤ 1000000 by rw [HP.out.length_eq]; omega)
  refine (compact_str (w.heap.size + 1) _ ys _ O3.out HSr.out HYl.out).mono ?_
  rintro e w4 ⟨v5, rfl, ho4, hg4, hob⟩
  have hcan : canB ys = canB nodes := ascB_eq (canB_asc _) (canB_asc _) fun x => by rw [mem_canB, mem_canB, HP.out.mem_iff]
  rw [hcan] at ho4
  have HOF := hid (show ofG nodes l = if 2048 < (canB nodes).length then ([], [], 14) else if endsIn (canB nodes) l = true then (canB nodes, canE l, 0) else ([], [], 9) from rfl)
  have hNl : (canB nodes).length ≤ 900000 := Nat.le_trans (canB_len nodes) hnn
  generalize hofg : ofG nodes l = R at *
  generalize canB nodes = N at *
  obtain ⟨r5, c5, rfl, hc51, hc52⟩ := ho4.form
  have hne : ∀ j, (j = w.heap.size ∨ j = w1.heap.size) → ∀ g, (Value.slice r2 nodes.length c2).ownBlock = some g → g ≠ j := fun j hj g hg => by have := HL2.out g hg; omega
  have G4 := hid (own_block hg4 (hne _ (Or.inl rfl)) F4.out)
  have G6 := hid (own_block hg4 (hne _ (Or.inr rfl)) F6.out)
  have B4 := hid (Below.grown B3.out hg4 B3.out.size (fun g hg => by have := (HL2.out g hg).1; omega))
  have hz4 : w1.heap.size + 1 ≤ w4.heap.size := by have := hg4.size; omega
  have hL5 : ∀ g, (Value.slice r5 N.length c5).ownBlock = some g → w.heap.size + 1 ≤ g ∧ g < w1.heap.size := fun g hg => by
    rw [hob] at hg; exact HL2.out g hg
  have HL5 := hid hL5
  have O4 := hid ho4
  have y0 := cellv G6.out 0 rfl
  have y1 := cellv G6.out 1 rfl
  have yf := frozen_of G6.out 0
  have HOFG := hid hofg
  clear hcan ho4 hg4 hob hne hL5 HP HSr O3 F4 F6 E4 E6 O1 HYl hofg
  have O5 := hid (O4.out.setNe (a := ⟨w1.heap.size, 0, none⟩) (fun g hg => by have := HL5.out g hg; simp only; omega) (.slice r5 N.length c5))
  have K6 := hid (heap_setCell_at (o := 0) (v := .slice r5 N.length c5) G6.out)
  have K4 := hid (show (w4.setCell ⟨w1.heap.size, 0, none⟩ (.slice r5 N.length c5)).heap[w.heap.size]? = _ from (Below.heap_setCell _ _ _ _ (by simp only; omega)).trans G4.out)
  have B5 := hid (B4.out.setCell (p := ⟨w1.heap.size, 0, none⟩) (by simp only; omega) (.slice r5 N.length c5))
  have x0 := cellv K6.out 0 rfl
  have x1 := cellv K6.out 1 rfl
  have xf := frozen_of K6.out 1
  have u0 := cellv K4.out 0 rfl
  have u1 := cellv K4.out 1 rfl
  have uf0 := frozen_of K4.out 0
  have uf1 := frozen_of K4.out 1
  by_cases hlim : 2048 < N.length
  · have HR := hid (HOF.out.trans (if_pos hlim))
    have hlz : (2048 : Int) < (N.length : Int) := by omega
    go_wp2
    rw [HR.out]
    exact bodyPost_ret (v := .tuple #[.agg #[.slice none 0 0, .slice none 0 0], .int .i64 14]) (by simp [results, Try.results28, go_sem, u0, u1]) rfl ⟨_, _, rfl, sl_nilS _, sl_nilE _, (B5.out.setCell (p := ⟨w.heap.size, 0, none⟩) (Nat.le_refl _) _).setCell (p := ⟨w.heap.size, 1, none⟩) (Nat.le_refl _) _⟩
  · have HOF2 := hid (HOF.out.trans (if_neg hlim))
    have hlz : ¬ (2048 : Int) < (N.length : Int) := by omega
    clear hlim HOF
    go_wp2_with fail
    have hz5 : w1.heap.size + 1 ≤ (w4.setCell ⟨w1.heap.size, 0, none⟩ (.slice r5 N.length c5)).heap.size := by simp [World.setCell]; omega
    generalize (w4.setCell ⟨w1.heap.size, 0, none⟩ (.slice r5 N.length c5)) = W5 at *
    refine (set_any N _ W5 O5.out.sl (by omega)).mono ?_
    rintro e w6 ⟨rfl, ⟨n6, c6, hn6, ho6⟩, hb6⟩
    have M6 := hid (fun (W : World) (hW : Below w6.heap.size w6 W) => ((setM_of ho6).below hW).look)
    have hz6 := hb6.size
    have B6 := hid (B5.out.trans (hb6.mono B5.out.size))
    have O6 := hid (O5.out.below hb6)
    have P6 := hid ((hb6.block w1.heap.size (by omega)).trans K6.out)
    have P4 := hid ((hb6.block w.heap.size (by omega)).trans K4.out)
    clear ho6 hb6 K6 K4 O5 B5 x0 x1 xf u0 u1 uf0 uf1 y0 y1 yf O4 G4 G6 B4 q0 q1
    go_wp2
    go_loopw [30] (fun i wr => ∃ k : Nat, k ≤ l.length ∧ i = .int .i64 k ∧ Below w6.heap.size w6 wr ∧ Hid (endsIn N (l.take k) = true)) (fun i _ => l.length - (intOf i).toNat)
    case atStart => exact ⟨0, by omega, rfl, Below.refl _ _, hid rfl⟩
    case round =>
      obtain ⟨k, hk, rfl, hbl, HEn⟩ := hrel
      have hbw := B6.out.trans (hbl.mono B6.out.size)
      have HBL := hid hbl
      have HBW := hid hbw
      have Q6 := hid ((hbl.block w1.heap.size (by omega)).trans P6.out)
      have Q4 := hid ((hbl.block w.heap.size (by omega)).trans P4.out)
      have hzr : w1.heap.size + 1 ≤ wr.heap.size := by have := hbl.size; omega
      by_cases hlt : k < l.length
      · obtain ⟨b, off, rfl, hb, g0, g1, hs0, hs1⟩ := HE.out _ hbw k hlt
        have HT := hid (endsIn_take (ns := N) hlt)
        have HNo := hid (endsIn_no (ns := N) hlt)
        have hW1 : Below wr.heap.size wr (wr.alloc (.cells #[.string (l[k]).1, .string (l[k]).2] 43)) := (Below.refl _ _).alloc (Nat.le_refl _) _
        have L1 := M6.out _ (hbl.trans (hW1.mono hbl.size)) (l[k]).1 hs0
        have L2 := M6.out _ (hbl.trans (hW1.mono hbl.size)) (l[k]).2 hs1
        have R4 := hid ((Below.heap_alloc wr (.cells #[.string (l[k]).1, .string (l[k]).2] 43) w.heap.size (by omega)).trans Q4.out)
        have BW1 := hid (hbw.trans (hW1.mono hbw.size))
        have BL1 := hid (hbl.trans (hW1.mono hbl.size))
        clear HE hbl hbw hW1 hs0 hs1
        generalize l[k] = y at *
        obtain ⟨y1, y2⟩ := y
        simp only at L1 L2 HT HNo g0 g1 R4 BW1 BL1
        have c0 : (wr.alloc (.cells #[.string y1, .string y2] 43)).cell? ⟨wr.heap.size, 0, none⟩ = some (.string y1) := cell_at rfl rfl
        have c1 : (wr.alloc (.cells #[.string y1, .string y2] 43)).cell? ⟨wr.heap.size, 1, none⟩ = some (.string y2) := cell_at rfl rfl
        have u0 := cellv R4.out 0 rfl
        have u1 := cellv R4.out 1 rfl
        have uf0 := frozen_of R4.out 0
        have uf1 := frozen_of R4.out 1
        generalize hasS y1 N = p1 at *
        generalize hasS y2 N = p2 at *
        cases p1
        case false =>
          have HR := hid (HOF2.out.trans (if_neg (by rw [HNo.out rfl]; simp)))
          go_wp2
          rw [HR.out]
          exact bodyPost_ret (v := .tuple #[.agg #[.slice none 0 0, .slice none 0 0], .int .i64 9]) (by simp [results, Try.results28, go_sem, u0, u1]) rfl ⟨_, _, rfl, sl_nilS _, sl_nilE _, (BW1.out.setCell (p := ⟨w.heap.size, 0, none⟩) (Nat.le_refl _) _).setCell (p := ⟨w.heap.size, 1, none⟩) (Nat.le_refl _) _⟩
        case true =>
          cases p2
          case false =>
            have HR := hid (HOF2.out.trans (if_neg (by rw [HNo.out rfl]; simp)))
            go_wp2
            rw [HR.out]
            exact bodyPost_ret (v := .tuple #[.agg #[.slice none 0 0, .slice none 0 0], .int .i64 9]) (by simp [results, Try.results28, go_sem, u0, u1]) rfl ⟨_, _, rfl, sl_nilS _, sl_nilE _, (BW1.out.setCell (p := ⟨w.heap.size, 0, none⟩) (Nat.le_refl _) _).setCell (p := ⟨w.heap.size, 1, none⟩) (Nat.le_refl _) _⟩
          case true =>
            go_wp2
            go_round
            case rel => exact ⟨k + 1, by omega, by go_num, BL1.out, hid (by rw [HT.out, HEn.out]; rfl)⟩
            case measure => simp [intOf]; omega
      · have hke : k = l.length := by omega
        have HR := hid (HOF2.out.trans (if_pos (by have := HEn.out; rwa [hke, List.take_length] at this)))
        have HED := hid (edges_any l _ wr (HEs.out _ hbw) (by omega))
        have O7 := hid (O6.out.below hbl)
        clear hke HE hbl hbw
        go_wp2_with fail
        refine HED.out.mono ?_
        rintro e w8 ⟨v8, rfl, ho8, hb8⟩
        obtain ⟨r8, c8, rfl, hc81, hc82⟩ := ho8.form
        have O8 := hid ho8
        have N8 := hid (O7.out.below hb8)
        have S6 := hid ((hb8.block w1.heap.size (by omega)).trans Q6.out)
        have S4 := hid ((hb8.block w.heap.size (by omega)).trans Q4.out)
        have B8 := hid (HBW.out.trans (hb8.mono HBW.out.size))
        have hz8 := hb8.size
        have z0 := cellv S6.out 0 rfl
        have z1 := cellv S6.out 1 rfl
        have zf := frozen_of S6.out 1
        have u0 := cellv S4.out 0 rfl
        have u1 := cellv S4.out 1 rfl
        have uf0 := frozen_of S4.out 0
        have uf1 := frozen_of S4.out 1
        clear ho8 hb8
        go_wp2
        rw [HR.out]
        have hN := ((N8.out.setNe (a := ⟨w1.heap.size, 1, none⟩) (fun g hg => by have := HL5.out g hg; simp only; omega) (.slice r8 (canE l).length c8)).setNe (a := ⟨w.heap.size, 0, none⟩) (fun g hg => by have := HL5.out g hg; simp only; omega) (.slice r5 N.length c5)).setNe (a := ⟨w.heap.size, 1, none⟩) (fun g hg => by have := HL5.out g hg; simp only; omega) (.slice r8 (canE l).length c8)
        have hE := ((O8.out.setBelow (a := ⟨w1.heap.size, 1, none⟩) (by simp only; omega) (.slice r8 (canE l).length c8)).setBelow (a := ⟨w.heap.size, 0, none⟩) (by simp only; omega) (.slice r5 N.length c5)).setBelow (a := ⟨w.heap.size, 1, none⟩) (by simp only; omega) (.slice r8 (canE l).length c8)
        have hB := ((B8.out.setCell (p := ⟨w1.heap.size, 1, none⟩) (by simp only; omega) (.slice r8 (canE l).length c8)).setCell (p := ⟨w.heap.size, 0, none⟩) (Nat.le_refl _) (.slice r5 N.length c5)).setCell (p := ⟨w.heap.size, 1, none⟩) (Nat.le_refl _) (.slice r8 (canE l).length c8)
        exact bodyPost_ret (v := .tuple #[.agg #[.slice r5 N.length c5, .slice r8 (canE l).length c8], .int .i64 0]) (by simp [results, Try.results28, go_sem, u0, u1]) rfl ⟨_, _, rfl, hN.sl, hE.sl, hB⟩
end Go.Proofs.Ytlhekldlfmdmiaa
