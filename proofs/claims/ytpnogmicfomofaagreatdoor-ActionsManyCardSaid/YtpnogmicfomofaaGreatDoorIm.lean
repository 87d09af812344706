import Derived.Test.YtpnogmicfomofaaGreatDoorIb
/-
  Layer 44: ActionsMany: the law's walk. Conditions: those ahead of each theorem.
-/
namespace Go.Proofs.YtpnogmicfomofaaGreatDoor.Stp
open Go.RowKit Go.Sort Go.Lib Go.Maps
open Go.Lib (hid)
open Adr (WT)
set_option linter.unusedVariables false
set_option linter.unusedSimpArgs false

theorem chinfo2 : ∃ z bytes, (Tryz.prog.info? 31).map (fun i => (i.zero, i.size, i.bytes)) = some (some z, 22, bytes) ∧ z.cells.size = 22 ∧ bytes ≤ 1000 := by
  have hz : (Tryz.prog.info? 31).map (fun i => (i.size, i.zero.map (·.cells.size), decide (i.bytes ≤ 1000))) = some (22, some 22, true) := by kernel_rfl
  cases hi : Tryz.prog.info? 31 with
  | none => rw [hi] at hz; cases hz
  | some ie =>
    rw [hi] at hz
    simp at hz
    obtain ⟨hs, ⟨z, hz, hz2⟩, hb⟩ := hz
    exact ⟨z, ie.bytes, by simp [hz, hs], hz2, hb⟩
/-- Own changes, all alike. -/
def encX (X : Array Value) (_ : Unit) : List Value := X.toList
def OwnC (X : Array Value) (B : Nat) (w : World) (v : Value) (xs : List Unit) : Prop := w.ownsRow B 31 22 v xs.length (xs.flatMap (encX X))
def MoreC (X : Array Value) (B : Nat) (w : World) (v : Value) (xs : List Unit) (H : Nat) (g cap : Nat) (w' : World) : Prop :=
  OwnC X B w' (.slice (some ⟨g, 0, none⟩) xs.length cap) xs ∧ w.grownBy w' v.ownBlock ∧ (v.ownBlock = some g ∨ g = H) ∧ g < w'.heap.size
theorem encX_len {X : Array Value} (hX : Cells22 X) : ∀ x, (encX X x).length = 22 := fun _ => by unfold encX; rw [Array.length_toList, hX.1]
theorem encX_one {X : Array Value} (hX : Cells22 X) : ∀ x, ∀ u ∈ encX X x, u.oneCell' = true := fun _ u hu => by
  unfold encX at hu
  exact Array.all_eq_true_iff_forall_mem.1 hX.2 u (by simpa using hu)
section
variable {w : World} {ops : Array Oper} {rest : List Oper} {o : Oper} {a : Act} {Q : Exit → Act → World → Prop}
theorem app_c {X : Array Value} (hX : Cells22 X) (hgd : o.guard = none) (s x : Operand) (ho : o.op = .call { callee := .builtin .append, args := #[s, x], argTypes := #[22, 22] })
    (B : Nat) (v : Value) (xs : List Unit) (hs : a.eval s = v) (hown : OwnC X B w v xs) (nb c : Nat) (hx : a.eval x = .slice (some ⟨nb, 0, none⟩) 1 c) {fr : Nat × Nat} (hy : w.heap[nb]? = some (.cells X 31 fr))
    (hn : xs.length + 1 ≤ 1000000) (hbase : B ≤ w.heap.size) (H : Nat) (hH : w.heap.size = H)
    (h : ∀ g cap w', MoreC X B w v (xs ++ [()]) H g cap w' → wpList Tryz.prog ops Q rest (a.put o.dst (.slice (some ⟨g, 0, none⟩) (xs.length + 1) cap)) w') : wpList Tryz.prog ops Q (o :: rest) a w := by
  subst hH
  obtain ⟨z, bytes, hi, hz, hb⟩ := chinfo2
  refine wpList_append_rows (encX X) (encX_len hX) (encX_one hX) Tryz.underlying22 hi hz (by omega) hb hgd s x ho B v xs hs hown nb 1 c [()] rfl (by omega) hx (fr := fr) (by rw [hy]; simp [encX]) hn hbase ?_
  intro g cap w' h1 h2 h3 h4
  refine h g cap w' ⟨?_, h2, h3, h4⟩
  unfold OwnC
  simpa using h1
end
theorem ownC_form {X : Array Value} {B : Nat} {w : World} {v : Value} {xs : List Unit} (h : OwnC X B w v xs) : ∃ r c, v = .slice r xs.length c ∧ xs.length ≤ c ∧ c ≤ maxLen := own_form h
theorem ownC_sl {x : CV} {B : Nat} {w : World} {v : Value} {xs : List Unit} {c : Ch} (h : OwnC x.arr B w v xs) (hx : CvR w x c) : Sl ChR 22 w v (List.replicate xs.length c) := by
  obtain ⟨r, cap, e, h1, h2, he⟩ := sl_of_own (encX x.arr) (encX_len (cells22 x)) h
  refine ⟨r, cap, by rw [List.length_replicate]; exact e, by rw [List.length_replicate]; exact h1, h2, fun i hi => ?_⟩
  rw [List.length_replicate] at hi
  obtain ⟨b, off, cs, hr, hs, hc, hx2⟩ := he i hi
  refine ⟨b, off, cs, hr, hs, hc, x, ?_, by rw [List.getElem_replicate]; exact hx⟩
  rw [hx2]
  rfl
theorem psK_rep (c : Ch) (h2 : (opl c).length = 2) (n : Nat) : ∀ k, k ≤ n → (psK (List.replicate n c) k).length = 2 * k
  | 0, _ => by simp [psK]
  | k + 1, hk => by
    rw [psK_succ, List.length_append, psK_rep c h2 n k (by omega), plusK_at (by rw [List.length_replicate]; omega), List.length_map, List.getElem_replicate, h2]
    omega
def chA : Ch := ⟨netS [97], 3, false, [], []⟩
theorem many_steps (n : Nat) (hn : n ≤ 2000) (h2 : 2048 < 2 * n) (v : Value) (w : World) (hT : WT w) (hS : Sl ChR 22 w v (List.replicate n chA)) :
    Calls Tryz.prog 11 #[v] w fun e w' => (∃ r c, e = .returned (.tuple #[.slice r 0 c, .int .i64 14])) ∧ Below w.heap.size w w' := by
  obtain ⟨rc, cc, rfl, _⟩ := id hS
  have hp : (psF (List.replicate n chA)).length = 2 * n := by
    unfold psF
    rw [List.length_replicate]
    exact psK_rep chA (by decide) n n (Nat.le_refl _)
  have hE : stE (List.replicate n chA) = 14 := by unfold stE; rw [if_pos (by omega)]
  refine (steps_any rc cc (List.replicate n chA) w hT hS (by rw [List.length_replicate]; omega) (fun c hc => by rw [List.eq_of_mem_replicate hc]; decide) (Or.inl (by omega))).mono ?_
  rintro e w' ⟨v', rfl, hs, hb⟩
  rw [hE]
  rw [show stL (List.replicate n chA) = [] by unfold stL; rw [hE, if_neg (by decide)]] at hs
  obtain ⟨r, c, rfl, _⟩ := hs
  exact ⟨⟨r, c, rfl⟩, hb⟩
attribute [local go_sem ↓] bsC_eq
attribute [local go_sem] bsC_run1
set_option maxRecDepth 100000 in
set_option maxHeartbeats 8000000 in
theorem many_any (z : Nat) (hz : z < 256) (w : World) (hT : WT w) :
    Calls Tryz.prog 3 #[.int .u8 (z : Int)] w fun e w' => e = .returned (.bool true) ∧ Below w.heap.size w w' := by
  have hm : ((z : Int)).tmod 10 = ((z % 10 : Nat) : Int) := by rw [Int.tmod_eq_emod_of_nonneg (by omega)]; omega
  obtain ⟨K, hK⟩ : ∃ K, 1020 + z % 10 = K := ⟨_, rfl⟩
  have hk1 : 1020 ≤ K := by omega
  have hk2 : K ≤ 1029 := by omega
  have hsum : (1020 : Int) + ((z % 10 : Nat) : Int) = (K : Int) := by omega
  have hz0 : (z : Int) ≤ 255 := by omega
  obtain ⟨X, hXe⟩ : ∃ X, X = (chV [97] 3 false ⟨none, 0, 0⟩).arr := ⟨_, rfl⟩
  have HC := hid (fun W => change_any [97] 3 false ⟨none, 0, 0⟩ W (by decide))
  have HX := cells22 (chV [97] 3 false ⟨none, 0, 0⟩)
  rw [← hXe] at HC HX
  have HS := hid (fun (W : World) (hW : Below w.heap.size w W) (v : Value) (xs : List Unit) (h : OwnC X w.heap.size W v xs) => show Sl ChR 22 W v (List.replicate xs.length chA) from ownC_sl (by rw [← hXe]; exact h) (cv_of [97] 3 false ⟨none, 0, 0⟩ [] (str_lit0 _) ⟨by decide, by decide⟩))
  have HT := hid (fun (W : World) (hW : Below w.heap.size w W) => hT.below hW)
  clear hXe hT hK
  go_enter Tryz.func3, Tryz.ntmps3
  go_wp2
  go_loopg [4, 5] K (fun gg s4 s5 wr => ∃ (i : Nat) (xs : List Unit), i ≤ K ∧ K - i ≤ gg ∧ xs.length = i ∧ s5 = .int .i64 i ∧ Hid (OwnC X w.heap.size wr s4 xs) ∧ Hid (Below w.heap.size w wr))
  case atStart => exact ⟨0, [], by omega, by omega, rfl, rfl, hid (World.ownsRow_nil w _ _ 22), hid (Below.refl _ _)⟩
  case round =>
    obtain ⟨i, xs, hi, hgg, hxl, rfl, HO, HB⟩ := hrel
    obtain ⟨ro, co, hv, _, _⟩ := ownC_form HO.out
    rw [hxl] at hv
    subst hv
    have HXL := hid hxl
    clear hxl
    by_cases hlt : i < K
    · have hii : ((i : Nat) : Int) < ((K : Nat) : Int) := by omega
      go_wp2_with (first
        | (go_at_call 9
           refine (HC.out _).mono ?_
           rintro e w1 ⟨rfl, hb1⟩
           have HB1 := hid (HB.out.trans (hb1.mono HB.out.size))
           have HA1 := hid (show Below w1.heap.size w1 (w1.alloc (.cells X 31)) from (Below.refl _ _).alloc (Nat.le_refl _) _)
           have HO1 := hid (show OwnC X w.heap.size (w1.alloc (.cells X 31)) (.slice ro i co) xs from kept_off (kept_off HO.out (grown_below hb1) (fun _ _ e => by cases e)) (grown_below HA1.out) (fun _ _ e => by cases e))
           clear hb1)
        | (at_builtin
           refine app_c HX rfl _ _ rfl w.heap.size (.slice ro i co) xs rfl HO1.out w1.heap.size 1 rfl (fr := (0, 0)) (by exact (MapKept.heap_alloc w1 _).1) (by have := HXL.out; omega) (Nat.le_trans HB1.out.size HA1.out.size) (w1.heap.size + 1) (by simp) ?_
           intro g cap w2 hm2
           rw [HXL.out]
           have HM2 := hid hm2
           clear hm2))
      go_roundg (K - (i + 1))
      case measure => omega
      case rel =>
        refine ⟨i + 1, xs ++ [()], by omega, by omega, by simp [HXL.out], by go_num, hid ?_, hid ?_⟩
        · have := HM2.out.1
          rw [show (xs ++ [()]).length = i + 1 by simp [HXL.out]] at this
          exact this
        · have h1 := HB1.out.trans (HA1.out.mono HB1.out.size)
          exact h1.grown HM2.out.2.1 h1.size (fun k hk => (World.ownsRow.lt HO1.out k hk).1)
    · obtain rfl : i = K := by omega
      by_cases h5 : 2 * i ≤ 2048
      · have h6 : (2 : Int) * (i : Int) ≤ 2048 := by omega
        go_wp2_with (go_at_call 10; refine (awake_any _ (HT.out _ HB.out)).mono ?_; rintro e w9 ⟨rfl, hb9⟩; have HB9 := hid (HB.out.trans (hb9.mono HB.out.size)); clear hb9)
        go_ret
        exact ⟨rfl, HB9.out⟩
      · have h6 : ¬ (2 : Int) * (i : Int) ≤ 2048 := by omega
        have HST := hid (HS.out _ HB.out _ _ HO.out)
        rw [HXL.out] at HST
        have H5 := hid h5
        clear h5
        go_wp2_with (first
          | (go_at_call 11
             refine (many_steps i (by omega) (by have := H5.out; omega) _ _ (HT.out _ HB.out) HST.out).mono ?_
             rintro e w8 ⟨⟨r8, c8, rfl⟩, hb8⟩
             have HB8 := hid (HB.out.trans (hb8.mono HB.out.size))
             clear hb8)
          | (go_at_call 10; refine (awake_any _ (HT.out _ HB8.out)).mono ?_; rintro e w9 ⟨rfl, hb9⟩; have HB9 := hid (HB8.out.trans (hb9.mono HB8.out.size)); clear hb9))
        go_ret
        exact ⟨rfl, HB9.out⟩
end Go.Proofs.YtpnogmicfomofaaGreatDoor.Stp
