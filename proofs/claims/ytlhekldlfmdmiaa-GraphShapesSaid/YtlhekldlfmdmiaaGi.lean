import Derived.Test.YtlhekldlfmdmiaaGh
import Derived.Test.YtlhekldlfmdmiaaGu
/-
  The program's only, around, Reverse. Conditions: those ahead of each theorem.
-/
namespace Go.Proofs.Ytlhekldlfmdmiaa
open Go.RowKit Go.Sort Go.Lib Go.Maps
open Go.Lib (hid)
set_option linter.unusedVariables false
set_option linter.unusedSimpArgs false

/-- A set and a map of numbers that are only read. -/
structure SetM (w : World) (b : Nat) (p : ByteArray → Bool) : Prop where
  ex : ∃ n c f, OwnF w Try.prog 9 strLit b n c f ∧ ∀ x, (f x).getD (.bool false) = .bool (p x)
structure IntM (w : World) (b : Nat) (d : ByteArray → Option Nat) : Prop where
  ex : ∃ n c, OwnF w Try.prog 9 strLit b n c (fun x => (d x).map fun n => .int .i64 (n : Nat))
theorem SetM.below {w w' : World} {b : Nat} {p : ByteArray → Bool} (h : SetM w b p) (hb : Below w.heap.size w w') : SetM w' b p := by
  obtain ⟨n, c, f, h1, h2⟩ := h.ex
  exact ⟨n, c, f, h1.below' hb, h2⟩
theorem IntM.below {w w' : World} {b : Nat} {d : ByteArray → Option Nat} (h : IntM w b d) (hb : Below w.heap.size w w') : IntM w' b d := by
  obtain ⟨n, c, h1⟩ := h.ex
  exact ⟨n, c, h1.below' hb⟩
theorem SetM.look {w : World} {b : Nat} {p : ByteArray → Bool} (h : SetM w b p) (x : ByteArray) (hx : x.size ≤ maxLen) : (Instr.lookup 64 (.map (some b)) (.string x) false).run Try.prog w = .ok (.bool (p x)) w := by
  obtain ⟨n, c, f, h1, h2⟩ := h.ex
  have := h1.look (strT Try.underlying9) Try.underlying64 (zbool w) x hx
  rw [h2] at this
  exact this
theorem setM_of {w : World} {b n c : Nat} {l : List ByteArray} (h : OwnF w Try.prog 9 strLit b n c (setF l)) : SetM w b (fun x => hasS x l) :=
  ⟨n, c, _, h, fun x => by unfold setF; cases hasS x l <;> rfl⟩
theorem zint (w : World) : (zeroValue 3).run Try.prog w = .ok (.int .i64 0) w := by kernel_rfl
theorem IntM.look_ok {w : World} {b : Nat} {d : ByteArray → Option Nat} (h : IntM w b d) (x : ByteArray) (hx : x.size ≤ maxLen) : (Instr.lookup 51 (.map (some b)) (.string x) true).run Try.prog w = .ok (.tuple #[.int .i64 ((d x).getD 0 : Nat), .bool (d x).isSome]) w := by
  obtain ⟨n, c, h1⟩ := h.ex
  have := h1.look_ok (strT Try.underlying9) Try.underlying51 (zint w) x hx
  cases h2 : d x with
  | none => rw [h2] at this; exact this
  | some n => rw [h2] at this; exact this
theorem IntM.look {w : World} {b : Nat} {d : ByteArray → Option Nat} (h : IntM w b d) (x : ByteArray) (hx : x.size ≤ maxLen) : (Instr.lookup 51 (.map (some b)) (.string x) false).run Try.prog w = .ok (.int .i64 ((d x).getD 0 : Nat)) w := by
  obtain ⟨n, c, h1⟩ := h.ex
  have := h1.look (strT Try.underlying9) Try.underlying51 (zint w) x hx
  cases h2 : d x with
  | none => rw [h2] at this; exact this
  | some n => rw [h2] at this; exact this

set_option maxRecDepth 100000 in
theorem only_any (l : List ByteArray) (v : Value) (b : Nat) (p : ByteArray → Bool) (w : World) (hS : Sl StrR 1 w v l) (hM : SetM w b p) (hn : l.length ≤ 1000000) :
    Calls Try.prog 46 #[v, .map (some b)] w fun e w' => ∃ v', e = .returned v' ∧ OwnS w.heap.size w' v' (l.filter p) ∧ Below w.heap.size w w' := by
  obtain ⟨r, c, rfl, _⟩ := id hS
  obtain ⟨_, hl, hm⟩ := sl_len hS
  have HE := hid (fun (W : World) (hW : Below w.heap.size w W) => str_at (hS.below strR_mono hW))
  have HM := hid (fun (W : World) (hW : Below w.heap.size w W) => (hM.below hW).look)
  clear hS hM
  go_enter Try.func46, Try.ntmps46
  go_wp2
  go_loopw [5, 10] (fun vo i wr => ∃ k : Nat, k ≤ l.length ∧ i = .int .i64 k ∧ Below w.heap.size w wr ∧ Hid (OwnS w.heap.size wr vo ((l.take k).filter p))) (fun _ i _ => l.length - (intOf i).toNat)
  case atStart => exact ⟨0, by omega, rfl, Below.refl _ _, ownS_nil _ _⟩
  case round =>
    obtain ⟨k, hk, rfl, hbl, HO⟩ := hrel
    have HB := hid hbl
    obtain ⟨r2, c2, rfl, hc21, hc22⟩ := HO.out.form
    by_cases hlt : k < l.length
    · obtain ⟨b1, off, rfl, hb, g0, hs⟩ := HE.out _ hbl k hlt
      have HT := hid (show l.take (k + 1) = l.take k ++ [l[k]] from List.take_succ_eq_append_getElem hlt)
      have HLn := hid (show ((l.take k).filter p).length ≤ k from Nat.le_trans (List.length_filter_le _ _) (by simp; omega))
      have hlk := HM.out _ hbl l[k] hs
      clear HE hbl HM
      generalize l[k] = y at *
      have HS := hid hs
      clear hs
      cases hp : p y with
      | false =>
        rw [hp] at hlk
        have HF := hid (show (l.take (k + 1)).filter p = (l.take k).filter p by rw [HT.out, List.filter_append]; simp [List.filter_cons, hp])
        clear hp
        go_wp2
        go_round
        case rel => exact ⟨k + 1, by omega, by go_num, HB.out, by rw [HF.out]; exact HO.out⟩
        case measure => simp [intOf]; omega
      | true =>
        rw [hp] at hlk
        have HF := hid (show (l.take (k + 1)).filter p = (l.take k).filter p ++ [y] by rw [HT.out, List.filter_append]; simp [List.filter_cons, hp])
        have HO1 := hid (HO.out.below ((Below.refl _ _).alloc (Nat.le_refl _) (.cells #[.string y] 9)))
        have HB1 := hid (HB.out.alloc HB.out.size (.cells #[.string y] 9))
        have hsz := HB.out.size
        have HLm := hid (show ((l.take k).filter p).length + 1 ≤ 1000000 by have := HLn.out; omega)
        have hlt2 := HO.out.lt
        have HL := hid hlt2
        clear hp hlt2
        go_wp2_with (at_builtin; refine app_str rfl _ _ rfl w.heap.size _ _ rfl HO1.out wr.heap.size 1 y rfl (fr := (0, 0)) (by exact (MapKept.heap_alloc wr _).1) HS.out HLm.out (by simp; omega) (wr.heap.size + 1) (by simp) ?_; intro g cap w3 hm3)
        have HM3 := hid hm3
        clear hm3
        go_wp2
        go_round
        case rel =>
          obtain ⟨m1, m2, m3, m4⟩ := HM3.out
          rw [List.length_append, List.length_singleton] at m1
          exact ⟨k + 1, by omega, by go_num, Below.grown HB1.out m2 HB1.out.size (fun g hg => (HL.out g hg).1), by rw [HF.out]; exact m1⟩
        case measure => simp [intOf]; omega
    · have hke : k = l.length := by omega
      have HK := hid hke
      clear hke HE hbl HM
      go_wp2
      go_ret
      have hk2 := HK.out
      subst hk2
      have h := HO.out
      have e := List.take_length (l := l)
      refine ⟨_, rfl, ?_, HB.out⟩
      show OwnS w.heap.size wr (.slice r2 ((l.take l.length).filter p).length c2) (l.filter p)
      rw [e] at h ⊢
      exact h

theorem arnd_le (d : ByteArray → Option Nat) (l : List ByteArray) (N : Nat) (h : ∀ x n, d x = some n → n ≤ N) : arnd d l ≤ N + 1 := by
  have key : ∀ (l : List ByteArray) (b : Nat), b ≤ N + 1 → l.foldl (fun b m => match d m with | some n => if b = 0 ∨ n + 1 < b then n + 1 else b | none => b) b ≤ N + 1 := by
    intro l
    induction l with
    | nil => intro b hb; exact hb
    | cons m l ih =>
      intro b hb
      rw [List.foldl_cons]
      apply ih
      cases hd : d m with
      | none => exact hb
      | some n =>
        simp only
        split
        · have := h m n hd; omega
        · exact hb
  exact key l 0 (by omega)
set_option maxRecDepth 100000 in
theorem around_any (l : List ByteArray) (v : Value) (b : Nat) (d : ByteArray → Option Nat) (w : World) (hS : Sl StrR 1 w v l) (hM : IntM w b d) (hd : ∀ x n, d x = some n → n ≤ 1000000) :
    Calls Try.prog 39 #[v, .map (some b)] w fun e w' => e = .returned (.int .i64 (arnd d l : Nat)) ∧ w = w' := by
  obtain ⟨r, c, rfl, _⟩ := id hS
  obtain ⟨_, hl, hm⟩ := sl_len hS
  have HE := hid (str_at hS)
  have HM := hid hM.look_ok
  have HD := hid hd
  clear hS hM hd
  go_enter Try.func39, Try.ntmps39
  go_wp2
  go_loop [5, 12] (fun bs i => ∃ k n : Nat, k ≤ l.length ∧ i = .int .i64 k ∧ bs = .int .i64 n ∧ n ≤ 1000001 ∧ Hid (arnd d (l.take k) = n)) (fun _ i => l.length - (intOf i).toNat)
  case atStart => exact ⟨0, 0, by omega, rfl, rfl, by omega, hid rfl⟩
  case round =>
    obtain ⟨k, n, hk, rfl, rfl, hn, HA⟩ := hrel
    by_cases hlt : k < l.length
    · obtain ⟨b1, off, rfl, hb, g0, hs⟩ := HE.out k hlt
      have HT := hid (show l.take (k + 1) = l.take k ++ [l[k]] from List.take_succ_eq_append_getElem hlt)
      have hlk := HM.out l[k] hs
      clear HE HM
      generalize l[k] = y at *
      clear hs
      cases hd : d y with
      | none =>
        rw [hd] at hlk
        have HF := hid (show arnd d (l.take (k + 1)) = n by rw [HT.out, arnd_snoc, hd]; exact HA.out)
        clear hd
        go_wp2
        go_round
        case rel => exact ⟨k + 1, n, by omega, by go_num, rfl, hn, HF⟩
        case measure => simp [intOf]; omega
      | some m =>
        rw [hd] at hlk
        have hm6 := HD.out y m hd
        have HF := hid (show arnd d (l.take (k + 1)) = if n = 0 ∨ m + 1 < n then m + 1 else n by rw [HT.out, arnd_snoc, hd, HA.out])
        clear hd HA HT
        simp only [Option.getD_some, Option.isSome_some] at hlk
        by_cases h0 : n = 0
        · have HF2 := hid (HF.out.trans (if_pos (Or.inl h0)))
          subst h0
          clear HF
          go_wp2
          go_round
          case rel => exact ⟨k + 1, m + 1, by omega, by go_num, by go_num, by omega, HF2⟩
          case measure => simp [intOf]; omega
        · have e0 : ((n : Int) == 0) = false := by simp; omega
          by_cases h1 : m + 1 < n
          · have HF2 := hid (HF.out.trans (if_pos (Or.inr h1)))
            have h1z : (m : Int) + 1 < (n : Int) := by omega
            clear HF h0
            go_wp2
            go_round
            case rel => exact ⟨k + 1, m + 1, by omega, by go_num, by go_num, by omega, HF2⟩
            case measure => simp [intOf]; omega
          · have HF2 := hid (HF.out.trans (if_neg (fun h => h.elim h0 h1)))
            have h1z : ¬ (m : Int) + 1 < (n : Int) := by omega
            clear HF h0
            go_wp2
            go_round
            case rel => exact ⟨k + 1, n, by omega, by go_num, rfl, by omega, HF2⟩
            case measure => simp [intOf]; omega
    · have hke : k = l.length := by omega
      have HK := hid hke
      clear hke HE HM
      go_wp2
      go_ret
      have hk2 := HK.out
      subst hk2
      have := HA.out
      rw [List.take_length] at this
      exact ⟨by show Ending.returned (.int .i64 (n : Nat)) = _; rw [this], rfl⟩
end Go.Proofs.Ytlhekldlfmdmiaa
