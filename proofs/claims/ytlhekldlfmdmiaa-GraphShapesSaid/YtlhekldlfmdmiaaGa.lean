import Derived.Test.YtlhekldlfmdmiaaMem
import Derived.Test.YtlhekldlfmdmiaaMpv

/-
  Layer 27: strings in slices; the reference's has, the statements' at, the program's set. Conditions: those ahead of each theorem.
-/
namespace Go.Proofs.Ytlhekldlfmdmiaa
open Go.RowKit Go.Sort Go.Lib
open Go.Lib (hid)
set_option linter.unusedVariables false
set_option linter.unusedSimpArgs false

theorem sl_len {α : Type} {R : World → List Value → α → Prop} {sz : Nat} {w : World} {r : Option Addr} {n c : Nat} {xs : List α} (h : Sl R sz w (.slice r n c) xs) : n = xs.length ∧ n ≤ c ∧ c ≤ 9223372036854775807 := by
  obtain ⟨r', c', e, h1, h2, _⟩ := h
  simp at e
  obtain ⟨rfl, rfl, rfl⟩ := e
  unfold maxLen at h2
  exact ⟨rfl, h1, by omega⟩
theorem str_at {w : World} {r : Option Addr} {n c : Nat} {ks : List ByteArray} (h : Sl StrR 1 w (.slice r n c) ks) (i : Nat) (hi : i < ks.length) :
    ∃ b off, r = some ⟨b, off, none⟩ ∧ b < w.heap.size ∧ w.cell? ⟨b, off + i, none⟩ = some (.string ks[i]) ∧ (ks[i]).size ≤ maxLen := by
  obtain ⟨r', c', e, h1, h2, he⟩ := h
  simp at e
  obtain ⟨rfl, rfl, rfl⟩ := e
  obtain ⟨b, off, cs, hr, _, hc, hR, hs⟩ := he i hi
  have g0 := hc 0 _ hR
  simp only [Nat.add_zero, Nat.mul_one] at g0
  exact ⟨b, off, hr, World.block_lt_of_cell? w _ g0, g0, hs⟩
theorem ba_ext {a b : ByteArray} (h : a.data.toList = b.data.toList) : a = b := by
  cases a; cases b; simp at h; subst h; rfl
theorem str_ne {x y : ByteArray} (h : x ≠ y) : (x.toList == y.toList) = false := by
  rw [beq_eq_false_iff_ne]; intro e; apply h; rw [ByteArray.toList_eq, ByteArray.toList_eq] at e; exact ba_ext e
theorem str_ne' {x y : ByteArray} (h : x ≠ y) : (x.toList != y.toList) = true := by rw [bne, str_ne h]; rfl

/-- Is a string in a list? -/
def hasS (x : ByteArray) (l : List ByteArray) : Bool := l.any fun y => decide (y = x)
theorem hasS_iff {x : ByteArray} {l : List ByteArray} : hasS x l = true ↔ x ∈ l := by
  unfold hasS
  rw [List.any_eq_true]
  constructor
  · rintro ⟨y, hy, e⟩
    rw [decide_eq_true_eq] at e
    exact e ▸ hy
  · intro h
    exact ⟨x, h, by simp⟩
/-- The place of a string in a list; the list's length where it is not there. -/
def pos (x : ByteArray) : List ByteArray → Nat
  | [] => 0
  | y :: l => if y = x then 0 else pos x l + 1
theorem pos_eq {x : ByteArray} : ∀ {l : List ByteArray} {k : Nat} (hk : k < l.length), l[k] = x → (∀ j (h : j < l.length), j < k → l[j] ≠ x) → pos x l = k
  | y :: l, 0, _, he, _ => by simp [pos, show y = x from he]
  | y :: l, k + 1, hk, he, ha => by
    have h0 : y ≠ x := ha 0 (by simp) (by omega)
    simp only [pos, if_neg h0]
    rw [pos_eq (k := k) (by simpa using hk) (by simpa using he) fun j h hj => ha (j + 1) (by simpa using h) (by omega)]
theorem pos_none {x : ByteArray} : ∀ {l : List ByteArray}, (∀ j (h : j < l.length), l[j] ≠ x) → x ∉ l := fun ha hx => by
  obtain ⟨j, hj, e⟩ := List.mem_iff_getElem.1 hx
  exact ha j hj e

theorem has_any (l : List ByteArray) (x : ByteArray) (v : Value) (w : World) (hS : Sl StrR 1 w v l) :
    Calls Try.prog 37 #[v, .string x] w fun r w' => r = .returned (.bool (hasS x l)) ∧ w = w' := by
  obtain ⟨r, c, rfl, _⟩ := id hS
  obtain ⟨_, hl, hm⟩ := sl_len hS
  have HE := hid (str_at hS)
  clear hS
  go_enter Try.func37, Try.ntmps37
  go_wp2
  go_loop [5] (fun i => ∃ k : Nat, k ≤ l.length ∧ i = .int .i64 k ∧ ∀ j (h : j < l.length), j < k → l[j] ≠ x) (fun i => l.length - (intOf i).toNat)
  case atStart => exact ⟨0, by omega, rfl, by omega⟩
  case round =>
    obtain ⟨k, hk, rfl, hall⟩ := hrel
    have HA := hid hall
    clear hall
    by_cases hlt : k < l.length
    · obtain ⟨b, off, rfl, hb, g, _⟩ := HE.out k hlt
      have HX := hid (show l[k] = x → x ∈ l from fun h => h ▸ List.getElem_mem hlt)
      have HN := hid (show l[k] ≠ x → ∀ j (h : j < l.length), j < k + 1 → l[j] ≠ x from fun h j hj hjk => by
        by_cases e : j < k
        · exact HA.out j hj e
        · obtain rfl : j = k := by omega
          exact h)
      clear HE
      generalize l[k] = y at *
      by_cases hy : y = x
      · subst hy
        have HX2 := hid (HX.out rfl)
        clear HX HN
        go_wp2
        go_ret
        exact ⟨ret_bool (hasS_iff.2 HX2.out), rfl⟩
      · have HN2 := hid (HN.out hy)
        have e3 := str_ne hy
        clear hy HX HN
        go_wp2
        go_round
        case rel => exact ⟨k + 1, by omega, by go_num, HN2.out⟩
        case measure => simp [intOf]; omega
    · have hke : k = l.length := by omega
      have HX := hid (show hasS x l = false from by
        rw [Bool.eq_false_iff]; intro h
        exact pos_none (fun j hj => HA.out j hj (by omega)) (hasS_iff.1 h))
      clear hke HE
      go_wp2
      go_ret
      exact ⟨ret_bool HX.out, rfl⟩

/-- The set of a list as a function. -/
def setF (l : List ByteArray) : ByteArray → Option Value := fun x => if hasS x l then some (.bool true) else none
theorem setF_snoc (l : List ByteArray) (x : ByteArray) : upd (setF l) x (some (.bool true)) = setF (l ++ [x]) := by
  funext y
  by_cases e : y = x
  · subst e; rw [upd_same]; unfold setF; rw [if_pos (hasS_iff.2 (by simp))]
  · rw [upd_other _ _ e]; unfold setF hasS; rw [List.any_append]; have h2 : ¬ x = y := fun h => e h.symm; simp only [List.any_cons, List.any_nil, decide_eq_false h2, Bool.or_false]

set_option maxRecDepth 100000 in
theorem set_any (l : List ByteArray) (v : Value) (w : World) (hS : Sl StrR 1 w v l) (hn : l.length ≤ 1000000) :
    Calls Try.prog 47 #[v] w fun r w' => r = .returned (.map (some w.heap.size)) ∧ (∃ n c, n ≤ l.length ∧ OwnF w' Try.prog 9 strLit w.heap.size n c (setF l)) ∧ Below w.heap.size w w' := by
  obtain ⟨r, c, rfl, _⟩ := id hS
  obtain ⟨_, hl, hm⟩ := sl_len hS
  have HE := hid (fun (W : World) (hW : Below w.heap.size w W) => str_at (hS.below strR_mono hW))
  clear hS
  have hmm : (Instr.makeMap 64 (some (.int .i64 (l.length : Nat)))).run Try.prog w = .ok (.map (some w.heap.size)) (w.alloc (.map #[] 0)) := by
    simp [Instr.makeMap, run_underlying Try.underlying64]
    rfl
  have T := strT (P := Try.prog) (k := 9) Try.underlying9
  have hb0 : Below w.heap.size w (w.alloc (.map #[] 0)) := (Below.refl _ _).alloc (Nat.le_refl _) _
  have ho0 := OwnF.made w Try.prog 9 strLit
  have B0 := hid hb0
  have O0 := hid ho0
  clear hb0 ho0
  go_enter Try.func47, Try.ntmps47
  go_wp2
  go_loopw [11] (fun i wr => ∃ k n c : Nat, k ≤ l.length ∧ i = .int .i64 k ∧ n ≤ k ∧ Below w.heap.size w wr ∧ OwnF wr Try.prog 9 strLit w.heap.size n c (setF (l.take k))) (fun i _ => l.length - (intOf i).toNat)
  case atStart => exact ⟨0, 0, 0, by omega, rfl, by omega, B0.out, O0.out⟩
  case round =>
    obtain ⟨k, n, c, hk, rfl, hnk, hbl, how⟩ := hrel
    have HB := hid hbl
    have HO := hid how
    have HN := hid hnk
    clear hnk how
    by_cases hlt : k < l.length
    · obtain ⟨b, off, rfl, hb, g, hs⟩ := HE.out _ hbl k hlt
      have HT := hid (show l.take (k + 1) = l.take k ++ [l[k]] from List.take_succ_eq_append_getElem hlt)
      clear HE hbl
      generalize l[k] = y at *
      have HS := hid hs
      clear hs
      go_wp2_with (at_mapUpdate; refine wpList_store _ rfl _ _ _ 64 rfl T Try.underlying64 w.heap.size n c _ rfl HO.out (by have := HN.out; unfold maxLen; omega) y (.bool true) rfl rfl HS.out ?_; intro w2 ho2 hg2)
      have HO2 := hid ho2
      have HB2 := hid (Below.grown HB.out hg2 HB.out.size (fun k hk => by simp at hk; omega))
      clear ho2 hg2
      go_wp2
      go_round
      case rel => exact ⟨k + 1, n + 1, _, by omega, by go_num, by have := HN.out; omega, HB2.out, by rw [HT.out, ← setF_snoc]; exact HO2.out⟩
      case measure => simp [intOf]; omega
    · have hke : k = l.length := by omega
      have HK := hid hke
      clear hke HE hbl
      go_wp2
      go_ret
      have hk2 := HK.out
      subst hk2
      exact ⟨rfl, ⟨n, c, HN.out, by have := HO.out; rwa [List.take_length] at this⟩, HB.out⟩
end Go.Proofs.Ytlhekldlfmdmiaa
