import Derived.Test.YtpnogmicfomofaaGreatDoorZj
import Derived.Lib.OthersKept
import Derived.Lib.IndexAny
import Derived.WalkMore
import Derived.Deep.QuietTactic
import Derived.BigQuiet
import Derived.Lib.RuneCountTail
/-
  strings.IndexAny(s, ".[") at every string. Conditions: those ahead of each theorem.
-/
namespace Go.Proofs.YtpnogmicfomofaaGreatDoor.Adr
open Go.RowKit Go.Sort Go.Lib Go.Maps
open Go.Lib (hid)
set_option linter.unusedVariables false
set_option linter.unusedSimpArgs false

def dots : ByteArray := ⟨#[46, 91]⟩
set_option maxHeartbeats 4000000 in
set_option maxRecDepth 100000 in
theorem irune_bad (w : World) : Calls Tryz.prog 174 #[.string ⟨#[46, 91]⟩, .int .i32 65533] w fun e w' => e = .returned (.int .i64 (-1)) ∧ Below w.heap.size w w' := by
  have HI := hid (fun i => show Below w.heap.size w (w.iter ⟨#[46, 91]⟩ i) from (Below.refl _ _).alloc (Nat.le_refl _) _)
  go_enter Tryz.func174, Tryz.ntmps174
  go_wp2
  go_loopg [5, 6] 2 (fun g _ _ wx => ∃ i : Nat, i + g = 2 ∧ wx = w.iter ⟨#[46, 91]⟩ i)
  case atStart => exact ⟨0, by omega, rfl⟩
  case round =>
    obtain ⟨i, hig, rfl⟩ := hrel
    have hi : i = 0 ∨ i = 1 ∨ i = 2 := by omega
    rcases hi with rfl | rfl | rfl
    · have hnx := fun ty => run_next_ascii (P := Tryz.prog) w ⟨#[46, 91]⟩ 0 ty (by decide) (by decide)
      go_wp2
      go_roundg 1
      case measure => omega
      case rel => exact ⟨1, by omega, rfl⟩
    · have hnx := fun ty => run_next_ascii (P := Tryz.prog) w ⟨#[46, 91]⟩ 1 ty (by decide) (by decide)
      go_wp2
      go_roundg 0
      case measure => omega
      case rel => exact ⟨2, by omega, rfl⟩
    · have hnx := fun ty => run_next_end (P := Tryz.prog) w ⟨#[46, 91]⟩ 2 ty (by decide)
      go_wp2
      go_ret
      exact ⟨rfl, HI.out _⟩

set_option maxHeartbeats 4000000 in
set_option maxRecDepth 100000 in
theorem irune_hi (r : Nat) (h0 : 128 ≤ r) (hv : Lib.validRune (r : Int) = true) (hb : r ≠ 65533) (w : World) : Calls Tryz.prog 174 #[.string ⟨#[46, 91]⟩, .int .i32 r] w fun e w' => e = .returned (.int .i64 (-1)) ∧ Below w.heap.size w w' := by
  have h1 : ¬ (r : Int) < 128 := by omega
  have h2 : ((r : Int) == 65533) = false := by rw [beq_eq_false_iff_ne]; omega
  have HV := hid (fun W => Tryz.utf8_ValidRune (r : Int) W)
  rw [hv] at HV
  have hr := vr_le hv
  obtain ⟨f1, f2, f3⟩ := encode_facts (r : Int) (by rw [validRune_eq]; exact hv) (by omega)
  have HIB := hid (fun (c : Nat) (W : World) => Tryz.strings_IndexByte ⟨#[]⟩ (c : Int) W)
  have HB := hid (Below.refl w.heap.size w)
  have F1 := hid f1
  have F2 := hid f2
  have F4 := hid f3
  clear f1 f2 f3 hv hr hb
  generalize hE : Utf8.encode (r : Int) = E at *
  go_enter Tryz.func174, Tryz.ntmps174
  go_wp2_with (go_at_call 196; refine (HV.out _).mono ?_; rintro e w1 ⟨rfl, rfl⟩)
  have hz : (1 : Int) ≤ (E.size : Int) := by have := F1.out; omega
  have hz2 : (E.size : Int) ≤ 4 := by have := F2.out; omega
  go_step3
  go_wp2
  go_loopg [9, 10] 1 (fun g i f wx => i = .int .i64 ((E.size : Int) - 1) ∧ Hid (wx = w1))
  case atStart => exact ⟨rfl, hid rfl⟩
  case round =>
    obtain ⟨rfl, HWx⟩ := hrel
    by_cases h3 : (E.size : Int) - 1 < 2
    · have hA : E.size = 2 := by have := F1.out; omega
      have h1 : 1 < E.size := by omega
      have hb1 : 128 ≤ E[1].toNat := by
        have h := F4.out (by omega)
        simp only [hA] at h
        exact h
      have hz3 : (E.size : Int) - 1 = 1 := by omega
      have h1z : (1 : Int) < (E.size : Int) := by omega
      have hn1 : (((⟨#[46, 91]⟩ : ByteArray)[1]'(by decide)).toNat : Int) = 91 := rfl
      have hne : ((((⟨#[46, 91]⟩ : ByteArray)[1]'(by decide)).toNat : Int) != (E[1].toNat : Int)) = true := by rw [hn1]; simp; omega
      clear hn1
      have hx : (⟨#[46, 91]⟩ : ByteArray).extract 2 2 = ⟨#[]⟩ := by decide
      have HX := hid (fun (W : World) => Tryz.strings_IndexByte ByteArray.empty (E[1].toNat : Int) W)
      have hIBe : ∀ c, Lib.indexByte ByteArray.empty.data.toList c = -1 := fun _ => rfl
      simp only [hIBe] at HX
      clear hIBe
      clear hA
      rw [hz3]
      go_wp2
      have hz4 : (2 : Int) ≤ 2 := by omega
      go_step3
      go_wp2
      go_quiet (fail)
      go_wp2
      have HW2 := hid (show Below w1.heap.size w1 (wr.drewN nq) from by rw [HWx.out]; exact bel_drewN HB.out nq)
      generalize wr.drewN nq = W2 at *
      go_quiet (exact Calls.quiet_of_same (HX.out _))
      go_wp2
      rw [Exit.noGoto_ret]
      go_wp2
      rw [Exit.noGoto_ret]
      go_ret
      have hW2 := HW2.out
      clear HW2
      obtain ⟨n2, rfl⟩ : ∃ n2, n2 = nq := ⟨_, rfl⟩
      exact ⟨rfl, bel_drewN hW2 _⟩
    · go_wp2
      first | rw [Exit.noGoto_ret] | skip
      go_ret
      exact ⟨rfl, by rw [HWx.out]; exact HB.out⟩
end Go.Proofs.YtpnogmicfomofaaGreatDoor.Adr
/-
  strings.IndexAny(s, ".[") at every string. Conditions: those ahead of each theorem.
-/
namespace Go.Proofs.YtpnogmicfomofaaGreatDoor.Adr
open Go.RowKit Go.Sort Go.Lib Go.Maps
open Go.Lib (hid)
set_option linter.unusedVariables false
set_option linter.unusedSimpArgs false

/-- A code point beyond ASCII: its bytes are beyond ASCII too. -/
theorem dec_high {l : List UInt8} (hne : l ≠ []) (h : 128 ≤ (l.getD 0 0).toNat) :
    128 ≤ (decodeL l).1 ∧ Lib.validRune ((decodeL l).1 : Nat) = true ∧ 1 ≤ (decodeL l).2 ∧ (decodeL l).2 ≤ l.length ∧ ∀ j, j < (decodeL l).2 → 128 ≤ (l.getD j 0).toNat := by
  have hl : 0 < l.length := List.length_pos_iff.2 hne
  have hle := Lib.decodeL_le l hne
  have hsh := Lib.decodeN_shape l.length (l.getD 0 0).toNat (l.getD 1 0).toNat (l.getD 2 0).toNat (l.getD 3 0).toNat
  have h0 : (l.getD 0 0).toNat < 256 := (l.getD 0 0).toNat_lt
  have h1 : (l.getD 1 0).toNat < 256 := (l.getD 1 0).toNat_lt
  have h2 : (l.getD 2 0).toNat < 256 := (l.getD 2 0).toNat_lt
  have h3 : (l.getD 3 0).toNat < 256 := (l.getD 3 0).toNat_lt
  have e0 : ∀ j, j = 0 → (l.getD j 0).toNat = (l.getD 0 0).toNat := fun j h => by rw [h]
  have e1 : ∀ j, j = 1 → (l.getD j 0).toNat = (l.getD 1 0).toNat := fun j h => by rw [h]
  have e2 : ∀ j, j = 2 → (l.getD j 0).toNat = (l.getD 2 0).toNat := fun j h => by rw [h]
  have e3 : ∀ j, j = 3 → (l.getD j 0).toNat = (l.getD 3 0).toNat := fun j h => by rw [h]
  rw [← Lib.decodeL_N] at hsh
  generalize (l.getD 0 0).toNat = b0 at *
  generalize (l.getD 1 0).toNat = b1 at *
  generalize (l.getD 2 0).toNat = b2 at *
  generalize (l.getD 3 0).toNat = b3 at *
  generalize decodeL l = d at *
  obtain ⟨r, n⟩ := d
  simp only [Prod.mk.injEq] at *
  have vr : (r < 55296 ∨ (57343 < r ∧ r ≤ 1114111)) → Lib.validRune ((r : Nat) : Int) = true := fun h => by unfold Lib.validRune; exact decide_eq_true (by omega)
  rcases hsh with ⟨a, f1, f2⟩ | ⟨a, a1, a2, a3, f1, f2⟩ | ⟨a, a1, a2, a3, a4, a5, f1, f2⟩ | ⟨a, a1, a2, a3, a4, a5, a6, f1, f2⟩ | ⟨f1, f2⟩
  · omega
  · refine ⟨by omega, vr (by omega), by omega, by omega, fun j hj => ?_⟩
    have : j = 0 ∨ j = 1 := by omega
    rcases this with rfl | rfl
    · rw [e0 _ rfl]; exact h
    · rw [e1 _ rfl]; omega
  · refine ⟨by omega, vr (by omega), by omega, by omega, fun j hj => ?_⟩
    have : j = 0 ∨ j = 1 ∨ j = 2 := by omega
    rcases this with rfl | rfl | rfl
    · rw [e0 _ rfl]; exact h
    · rw [e1 _ rfl]; omega
    · rw [e2 _ rfl]; omega
  · refine ⟨by omega, vr (by omega), by omega, by omega, fun j hj => ?_⟩
    have : j = 0 ∨ j = 1 ∨ j = 2 ∨ j = 3 := by omega
    rcases this with rfl | rfl | rfl | rfl
    · rw [e0 _ rfl]; exact h
    · rw [e1 _ rfl]; omega
    · rw [e2 _ rfl]; omega
    · rw [e3 _ rfl]; omega
  · refine ⟨by omega, vr (by omega), by omega, by omega, fun j hj => ?_⟩
    have : j = 0 := by omega
    rw [e0 _ this]; exact h
theorem dec_at (s : ByteArray) (i : Nat) (h : i < s.size) : Utf8.decode s i = decodeL (s.data.toList.drop i) := by
  have h1 := dec_go (s.extract i s.size) (by rw [ext_size s i (by omega)]; omega)
  rw [extract_list] at h1
  rw [← h1]
  unfold Lib.decodeGo
  rw [if_neg (by rw [ext_size s i (by omega)]; omega), Lib.tail_decode, Nat.add_zero]
theorem dec_low {l : List UInt8} {c : UInt8} {r : List UInt8} (hl : l = c :: r) (h : c.toNat < 128) : decodeL l = (c.toNat, 1) := by
  have hsh := Lib.decodeN_shape l.length (l.getD 0 0).toNat (l.getD 1 0).toNat (l.getD 2 0).toNat (l.getD 3 0).toNat
  have hD : decodeL l = decodeN l.length (l.getD 0 0).toNat (l.getD 1 0).toNat (l.getD 2 0).toNat (l.getD 3 0).toNat := Lib.decodeL_N l
  have h0 : (l.getD 0 0).toNat = c.toNat := by rw [hl]; rfl
  rw [hD]
  unfold decodeN
  rw [h0, if_pos h]
theorem noany_more {s : ByteArray} {i n : Nat} (h : NoAny s.data.toList [46, 91] i) (hn : ∀ j, j < n → 128 ≤ ((s.data.toList.drop i).getD j 0).toNat) : NoAny s.data.toList [46, 91] (i + n) := by
  intro j b hj hb
  by_cases h1 : j < i
  · exact h j b h1 hb
  · have h2 := hn (j - i) (by omega)
    rw [List.getD_eq_getElem?_getD, List.getElem?_drop, show i + (j - i) = j by omega, hb] at h2
    have h3 : 128 ≤ b.toNat := h2
    have n1 : b ≠ 46 := fun e => by rw [e] at h3; exact absurd h3 (by decide)
    have n2 : b ≠ 91 := fun e => by rw [e] at h3; exact absurd h3 (by decide)
    simp [n1, n2]
theorem zero208 : ∀ w, (zeroValue 208).run Tryz.prog w = .ok (.agg (Array.replicate 256 (.bool false))) w :=
  (zero_of_info (P := Tryz.prog) (t := 208) (v := .agg (Array.replicate 256 (.bool false))) (n := 256) (by kernel_rfl)).1
def dotI (l : List UInt8) : Int := Lib.indexAny l [46, 91]

set_option maxHeartbeats 8000000 in
set_option maxRecDepth 100000 in
theorem idxany_any (s : ByteArray) (w : World) (hs : s.size ≤ 1000000) : Calls Tryz.prog 155 #[.string s, .string ⟨#[46, 91]⟩] w fun e w' => e = .returned (.int .i64 (dotI s.data.toList)) ∧ Below w.heap.size w w' := by
  by_cases h8 : 8 < s.size
  · refine (Tryz.strings_IndexAny_long zero208 s ⟨#[46, 91]⟩ w (by decide) h8 (by omega) (by decide) (fun j b hb => by
      have hm : b ∈ ([46, 91] : List UInt8) := List.mem_of_getElem? hb
      simp at hm
      rcases hm with rfl | rfl <;> decide)).mono ?_
    rintro e w' ⟨rfl, rfl⟩
    exact ⟨rfl, ((Below.refl _ _).alloc (Nat.le_refl _) _).alloc (by simp) _⟩
  have HI0 := hid (show Below w.heap.size w (w.iter s 0) from (Below.refl _ _).alloc (Nat.le_refl _) _)
  have HK0 := hid (show (w.iter s 0).heap[w.heap.size]? = some (.stringIter s 0) from World.iter_heap w s 0)
  have h8z : decide ((8 : Int) < (s.size : Int)) = false := decide_eq_false (by omega)
  have HDH := hid (fun (i : Nat) (hi : i < s.size) (h : 128 ≤ s[i].toNat) => dec_high (l := s.data.toList.drop i) (by rw [drop_cons s i hi]; simp) (by rw [getD_drop0 s i hi]; exact h))
  have HNone := hid (fun (h : NoAny s.data.toList [46, 91] s.size) => show dotI s.data.toList = -1 from Lib.indexAny_none (by rw [size_list]; exact h))
  have HHit := hid (fun (i : Nat) (hi : i < s.size) (h : NoAny s.data.toList [46, 91] i) (hc : [46, 91].contains s[i] = true) => show dotI s.data.toList = i from Lib.indexAny_hit h (by rw [List.getElem?_eq_getElem (by rw [size_list]; exact hi)]; rfl) hc)
  go_enter Tryz.func155, Tryz.ntmps155
  go_wp2_with (go_at_call 175; refine (Tryz.strings_shouldUseASCIISet _ _).mono ?_; rintro e w' ⟨rfl, hw⟩; rw [hw, h8z])
  generalize w.iter s 0 = W0 at *
  go_loopg [9, 10] s.size (fun g _ _ wx => ∃ i : Nat, i ≤ s.size ∧ s.size - i ≤ g ∧ Hid (wx.heap[w.heap.size]? = some (.stringIter s i)) ∧ Hid (Below w.heap.size w wx) ∧ Hid (NoAny s.data.toList [46, 91] i))
  case atStart => exact ⟨0, by omega, by omega, HK0, HI0, hid (NoAny.zero _ _)⟩
  case round =>
    obtain ⟨i, hi, hg, HK, HW, HN⟩ := hrel
    by_cases hlt : i < s.size
    case neg =>
      have hie : i = s.size := by omega
      have hnx := fun ty => run_next_end_at (P := Tryz.prog) wr w.heap.size s i ty HK.out hlt
      have HR := hid (HNone.out (by rw [← hie]; exact HN.out))
      clear hie
      go_wp2
      go_ret
      exact ⟨ret_int HR.out, HW.out⟩
    have hnx := fun ty => run_next_any_at (P := Tryz.prog) wr w.heap.size s i ty HK.out hlt
    rw [dec_at s i hlt] at hnx
    by_cases h128 : s[i].toNat < 128
    · have hdl := dec_low (drop_cons s i hlt) h128
      rw [hdl] at hnx
      simp only at hnx
      have hback : ((s[i].toNat : Int)).toNat.toUInt8 = s[i] := by simp
      have hcon := Lib.contains_iff_indexByte [46, 91] s[i]
      have HIR := hid (fun (W : World) => Tryz.strings_IndexRune_ascii ⟨#[46, 91]⟩ (s[i].toNat : Int) W (by omega) (by omega))
      rw [hback] at HIR
      have HK2 := hid (iterAt_heap wr w.heap.size s i (i + 1) HK.out)
      have HW2 := hid (below_iterAt HW.out (Nat.le_refl _) s (i + 1))
      cases hin : [46, 91].contains s[i]
      · have hneg : Lib.indexByte [46, 91] s[i] < 0 := by
          rw [hin] at hcon
          have := of_decide_eq_false hcon.symm; omega
        have HN2 := hid (HN.out.succ (by rw [List.getElem?_eq_getElem (by rw [size_list]; exact hlt)]; rfl) hin)
        have hz : ¬ (0 : Int) ≤ Lib.indexByte [46, 91] s[i] := by omega
        clear hcon hdl hin hneg
        go_wp2_with (go_at_call 174; refine (HIR.out _).mono ?_; rintro e w' ⟨rfl, rfl⟩)
        go_roundg (s.size - (i + 1))
        case measure => omega
        case rel => exact ⟨i + 1, by omega, by omega, HK2, HW2, HN2⟩
      · have hz : (0 : Int) ≤ Lib.indexByte [46, 91] s[i] := by
          rw [hin] at hcon
          exact of_decide_eq_true hcon.symm
        have HR := hid (HHit.out i hlt HN.out hin)
        clear hcon hdl hin
        go_wp2_with (go_at_call 174; refine (HIR.out _).mono ?_; rintro e w' ⟨rfl, rfl⟩)
        go_ret
        exact ⟨ret_int HR.out, HW2.out⟩
    · obtain ⟨d1, d2, d3, d4, d5⟩ := HDH.out i hlt (by omega)
      rw [List.length_drop, size_list] at d4
      have HN2 := hid (noany_more HN.out d5)
      generalize decodeL (s.data.toList.drop i) = d at *
      obtain ⟨r, n⟩ := d
      simp only at hnx d1 d2 d3 d4 HN2
      have HK2 := hid (iterAt_heap wr w.heap.size s i (i + n) HK.out)
      have HW2 := hid (below_iterAt HW.out (Nat.le_refl _) s (i + n))
      have HIR := hid (fun (W : World) => show Calls Tryz.prog 174 #[.string ⟨#[46, 91]⟩, .int .i32 r] W fun e w' => e = .returned (.int .i64 (-1)) ∧ Below W.heap.size W w' from by
        by_cases hb : r = 65533
        · subst hb; exact irune_bad W
        · exact irune_hi r d1 d2 hb W)
      clear d1 d2 d5 h128
      go_wp2_with (go_at_call 174; refine (HIR.out _).mono ?_; rintro e w' ⟨rfl, hb⟩; have HK3 := hid ((hb.block _ (lt_of_block HK2.out)).trans HK2.out); have HW3 := hid (HW2.out.trans (hb.mono HW2.out.size)); clear hb)
      go_roundg (s.size - (i + n))
      case measure => omega
      case rel => exact ⟨i + n, by omega, by omega, HK3, HW3, HN2⟩
end Go.Proofs.YtpnogmicfomofaaGreatDoor.Adr
/-
  Addresses: the program's reader: word, skip, has. Conditions: those ahead of each theorem.
-/
namespace Go.Proofs.YtpnogmicfomofaaGreatDoor.Adr
open Go.RowKit Go.Sort Go.Lib Go.Maps
open Go.Lib (hid)
set_option linter.unusedVariables false
set_option linter.unusedSimpArgs false

/-- How many bytes stand ahead of the first dot or bracket. -/
def dotN (l : List UInt8) : Nat := (l.takeWhile fun c => !([46, 91].contains c)).length
theorem dotN_le (l : List UInt8) : dotN l ≤ l.length := (List.takeWhile_sublist _).length_le
theorem dotN_noany : ∀ (l : List UInt8), NoAny l [46, 91] (dotN l) ∧ ∀ c, l[dotN l]? = some c → [46, 91].contains c = true
  | [] => ⟨NoAny.zero _ _, fun c h => by simp at h⟩
  | x :: l => by
    obtain ⟨h1, h2⟩ := dotN_noany l
    unfold dotN
    rw [List.takeWhile_cons]
    cases hx : [46, 91].contains x
    · simp only [Bool.not_false, if_true, List.length_cons]
      refine ⟨fun j b hj hb => ?_, fun c hc => h2 c (by unfold dotN; simpa using hc)⟩
      cases j with
      | zero => simp at hb; subst hb; exact hx
      | succ j => exact h1 j b (by unfold dotN; omega) (by simpa using hb)
    · simp only [Bool.not_true, Bool.false_eq_true, if_false, List.length_nil]
      exact ⟨NoAny.zero _ _, fun c hc => by simp at hc; subst hc; exact hx⟩
theorem dotI_eq (l : List UInt8) : dotI l = if dotN l < l.length then (dotN l : Int) else -1 := by
  obtain ⟨h1, h2⟩ := dotN_noany l
  by_cases h : dotN l < l.length
  · rw [if_pos h]
    exact Lib.indexAny_hit h1 (List.getElem?_eq_getElem h) (h2 _ (List.getElem?_eq_getElem h))
  · rw [if_neg h]
    have := dotN_le l
    exact Lib.indexAny_none (by rw [show l.length = dotN l by omega]; exact h1)
def wrdS (s : ByteArray) : ByteArray := s.extract 0 (dotN s.data.toList)
def wrdR (s : ByteArray) : ByteArray := s.extract (dotN s.data.toList) s.size
def cutS (p : List UInt8) (s : ByteArray) : ByteArray := ⟨(Lib.trimPrefix s.data.toList p).toArray⟩
def hasP (p : List UInt8) (s : ByteArray) : Bool := Lib.hasPrefix s.data.toList p
/-- The reader in memory: what is left, and whether something was wrong. -/
def Rd (b : Nat) (w : World) (s : ByteArray) (bad : Bool) : Prop := w.heap[b]? = some (.cells #[.string s, .bool bad] 166 (0, 0))
theorem Rd.cells {b : Nat} {w : World} {s : ByteArray} {bad : Bool} (h : Rd b w s bad) : w.cell? ⟨b, 0, none⟩ = some (.string s) ∧ w.cell? ⟨b, 1, none⟩ = some (.bool bad) ∧ (∀ o, w.frozen? ⟨b, o, none⟩ = false) ∧ b < w.heap.size := by
  unfold Rd at h
  refine ⟨by unfold World.cell?; simp [h], by unfold World.cell?; simp [h], fun o => by unfold World.frozen?; simp [h], lt_of_block h⟩
theorem Rd.set0 {b : Nat} {w : World} {s : ByteArray} {bad : Bool} (h : Rd b w s bad) (t : ByteArray) : Rd b (w.setCell ⟨b, 0, none⟩ (.string t)) t bad := by
  unfold Rd at *
  unfold World.setCell
  have hb := lt_of_block h
  show (w.heap.modify b _)[b]? = _
  rw [Array.getElem?_modify, if_pos rfl, h]
  rfl
theorem Rd.set1 {b : Nat} {w : World} {s : ByteArray} {bad : Bool} (h : Rd b w s bad) (t : Bool) : Rd b (w.setCell ⟨b, 1, none⟩ (.bool t)) s t := by
  unfold Rd at *
  unfold World.setCell
  have hb := lt_of_block h
  show (w.heap.modify b _)[b]? = _
  rw [Array.getElem?_modify, if_pos rfl, h]
  rfl
theorem grown_setC (w : World) (a : Addr) (u : Value) : w.grownBy (w.setCell a u) (some a.block) := ⟨rfl, rfl, rfl, by simp [World.setCell], fun k hk hne => Below.heap_setCell _ _ _ _ (fun e => hne (by rw [e]))⟩
theorem grown_trans {a b c : World} {row : Option Nat} (h : a.grownBy b row) (h2 : b.grownBy c row) : a.grownBy c row :=
  ⟨h2.os.trans h.os, h2.tape.trans h.tape, h2.output.trans h.output, Nat.le_trans h.size h2.size, fun k hk hne => (h2.block k (Nat.lt_of_lt_of_le hk h.size) hne).trans (h.block k hk hne)⟩
theorem grown_of {a b : World} (h : Below a.heap.size a b) (row : Option Nat) : a.grownBy b row := ⟨h.os, h.tape, h.output, h.size, fun k hk _ => h.block k hk⟩
theorem Rd.kept {b : Nat} {w w' : World} {s : ByteArray} {bad : Bool} (h : Rd b w s bad) (hb : Below w.heap.size w w') : Rd b w' s bad := by
  unfold Rd at *
  exact (hb.block _ (lt_of_block h)).trans h

set_option maxHeartbeats 4000000 in
theorem has_any (p s : ByteArray) (b : Nat) (bad : Bool) (w : World) (h : Rd b w s bad) : Calls Tryz.prog 120 #[.pointer (some ⟨b, 0, none⟩), .string p] w fun e w' =>
    e = .returned (.bool (hasP p.data.toList s)) ∧ Rd b w' (cutS p.data.toList s) bad ∧ w.grownBy w' (some b) := by
  obtain ⟨c0, c1, c2, c3⟩ := h.cells
  have HC := hid (fun (W : World) => Tryz.strings_CutPrefix s p W)
  have HR := hid (h.set0 (cutS p.data.toList s))
  have HG := hid (grown_setC w ⟨b, 0, none⟩ (.string (cutS p.data.toList s)))
  have f0 := c2 0
  go_enter Tryz.func120, Tryz.ntmps120
  go_wp2_with (go_at_call 154; refine (HC.out _).mono ?_; rintro e w1 ⟨rfl, rfl⟩)
  go_ret
  exact ⟨rfl, HR.out, HG.out⟩
set_option maxHeartbeats 4000000 in
theorem skip_any (p s : ByteArray) (b : Nat) (bad : Bool) (w : World) (h : Rd b w s bad) : Calls Tryz.prog 122 #[.pointer (some ⟨b, 0, none⟩), .string p] w fun e w' =>
    e = .returned (.tuple #[]) ∧ Rd b w' (cutS p.data.toList s) (bad || !hasP p.data.toList s) ∧ w.grownBy w' (some b) := by
  obtain ⟨c0, c1, c2, c3⟩ := h.cells
  have HC := hid (fun (W : World) => Tryz.strings_CutPrefix s p W)
  have HR1 := h.set0 (cutS p.data.toList s)
  obtain ⟨d0, d1, d2, d3⟩ := HR1.cells
  have HR := hid (HR1.set1 (bad || !hasP p.data.toList s))
  have HG := hid (grown_trans (grown_setC w ⟨b, 0, none⟩ (.string (cutS p.data.toList s))) (grown_setC _ ⟨b, 1, none⟩ (.bool (bad || !hasP p.data.toList s))))
  have f0 := c2 0
  have f1 := d2 1
  unfold cutS at d0 d1 d2 d3 f1 HR HG
  unfold hasP at HR HG
  clear HR1 h
  cases bad
  · go_enter Tryz.func122, Tryz.ntmps122
    go_wp2_with (go_at_call 154; refine (HC.out _).mono ?_; rintro e w1 ⟨rfl, rfl⟩)
    go_end0
    exact ⟨rfl, HR.out, HG.out⟩
  · go_enter Tryz.func122, Tryz.ntmps122
    go_wp2_with (go_at_call 154; refine (HC.out _).mono ?_; rintro e w1 ⟨rfl, rfl⟩)
    go_end0
    exact ⟨rfl, HR.out, HG.out⟩
end Go.Proofs.YtpnogmicfomofaaGreatDoor.Adr
/-
  Addresses: the program's reader: word. Conditions: those ahead of each theorem.
-/
namespace Go.Proofs.YtpnogmicfomofaaGreatDoor.Adr
open Go.RowKit Go.Sort Go.Lib Go.Maps
open Go.Lib (hid)
set_option linter.unusedVariables false
set_option linter.unusedSimpArgs false

set_option maxHeartbeats 4000000 in
theorem word_any (s : ByteArray) (b : Nat) (bad : Bool) (w : World) (hs : s.size ≤ 1000000) (h : Rd b w s bad) : Calls Tryz.prog 123 #[.pointer (some ⟨b, 0, none⟩)] w fun e w' =>
    e = .returned (.string (wrdS s)) ∧ Rd b w' (wrdR s) (bad || !idB (wrdS s).data.toList) ∧ w.grownBy w' (some b) := by
  have HI := hid (fun (W : World) => idxany_any s W hs)
  have HP := hid (fun (W : World) => pident_any (wrdS s) W (by
    have := Lib.extract_data s 0 (dotN s.data.toList)
    rw [← size_list, show (wrdS s).data.toList = _ from this]
    rw [List.length_take, List.length_drop, size_list]; omega))
  have HK := hid (fun (W : World) (hb : Below w.heap.size w W) => h.kept hb)
  have HE := hid (fun (W W' : World) (u : Bool) (hb : Below w.heap.size w W) (e : W' = (W.setCell ⟨b, 0, none⟩ (.string (wrdR s))).setCell ⟨b, 1, none⟩ (.bool u)) => show Rd b W' (wrdR s) u ∧ w.grownBy W' (some b) from by
    subst e
    exact ⟨((h.kept hb).set0 (wrdR s)).set1 u, grown_trans (grown_of hb (some b)) (grown_trans (grown_setC W ⟨b, 0, none⟩ (.string (wrdR s))) (grown_setC _ ⟨b, 1, none⟩ (.bool u)))⟩)
  obtain ⟨c0, c1, c2, c3⟩ := h.cells
  have hm := dotN_le s.data.toList
  rw [size_list] at hm
  have hI := dotI_eq s.data.toList
  rw [size_list] at hI
  have e1 : wrdS s = s.extract 0 (dotN s.data.toList) := rfl
  have e2 : wrdR s = s.extract (dotN s.data.toList) s.size := rfl
  rw [e1] at HP ⊢
  rw [e2] at HE ⊢
  clear e1 e2 h
  generalize dotN s.data.toList = m at hm hI HP HE ⊢
  by_cases hd : m < s.size
  · rw [if_pos hd] at hI
    rw [hI] at HI
    have g0 : decide ((m : Int) < 0) = false := by simp
    have g1 : (m : Int) ≤ s.size := by omega
    clear hI hd
    cases bad
    · go_enter Tryz.func123, Tryz.ntmps123
      go_wp2_with (go_at_call 155; refine (HI.out _).mono ?_; rintro e w1 ⟨rfl, hb⟩; obtain ⟨d0, d1, d2, d3⟩ := (HK.out _ hb).cells; have f0 := d2 0; have f1 := d2 1)
      refine (HP.out _).mono ?_
      rintro e w2 ⟨rfl, rfl⟩
      go_wp2
      go_ret
      exact ⟨rfl, HE.out _ _ _ hb (by simp)⟩
    · go_enter Tryz.func123, Tryz.ntmps123
      go_wp2_with (go_at_call 155; refine (HI.out _).mono ?_; rintro e w1 ⟨rfl, hb⟩; obtain ⟨d0, d1, d2, d3⟩ := (HK.out _ hb).cells; have f0 := d2 0; have f1 := d2 1)
      go_ret
      exact ⟨rfl, HE.out _ _ _ hb (by simp)⟩
  · rw [if_neg hd] at hI
    rw [hI] at HI
    obtain rfl : m = s.size := by omega
    have q1 : s.extract 0 s.size = s := by simp
    have q2 : s.extract s.size s.size = ByteArray.empty := by simp
    rw [q1] at HP ⊢
    rw [q2] at HE ⊢
    have g0 : (0 : Int) ≤ s.size := by omega
    clear hI hd hm q1 q2 hs
    cases bad
    · go_enter Tryz.func123, Tryz.ntmps123
      go_wp2_with (go_at_call 155; refine (HI.out _).mono ?_; rintro e w1 ⟨rfl, hb⟩; obtain ⟨d0, d1, d2, d3⟩ := (HK.out _ hb).cells; have f0 := d2 0; have f1 := d2 1)
      refine (HP.out _).mono ?_
      rintro e w2 ⟨rfl, rfl⟩
      go_wp2
      go_ret
      exact ⟨rfl, HE.out _ _ _ hb (by simp)⟩
    · go_enter Tryz.func123, Tryz.ntmps123
      go_wp2_with (go_at_call 155; refine (HI.out _).mono ?_; rintro e w1 ⟨rfl, hb⟩; obtain ⟨d0, d1, d2, d3⟩ := (HK.out _ hb).cells; have f0 := d2 0; have f1 := d2 1)
      go_ret
      exact ⟨rfl, HE.out _ _ _ hb (by simp)⟩
end Go.Proofs.YtpnogmicfomofaaGreatDoor.Adr
