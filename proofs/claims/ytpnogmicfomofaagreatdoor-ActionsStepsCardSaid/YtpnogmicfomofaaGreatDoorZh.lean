import Derived.Test.YtpnogmicfomofaaGreatDoorZg
import Derived.Test.YtpnogmicfomofaaGreatDoorU
import Derived.Lib.MapLaws
/-
  String literals: Unquote in plain Lean. Conditions: those ahead of each theorem.
-/
namespace Go.Proofs.YtpnogmicfomofaaGreatDoor.Adr
open Go.RowKit Go.Sort Go.Lib Go.Maps
open Go.Lib (hid)
set_option linter.unusedVariables false
set_option linter.unusedSimpArgs false

/-- One code point or escape: the error, its bytes, how many bytes it takes. -/
def oneS (l : List UInt8) : Int × List UInt8 × Nat :=
  if (l.getD 0 0).toNat = 92 then (if (escS l.tail).1 ≠ 0 then ((escS l.tail).1, [], 0) else (0, Lib.encodeRune ((escS l.tail).2.1 : Nat), (escS l.tail).2.2 + 1))
  else if decR l = 0 ∨ (l.getD 0 0).toNat < 32 ∨ (l.getD 0 0).toNat = 127 then (2, [], 0) else (0, l.take (decR l), decR l)
/-- What stands behind the opening quote: the error, the bytes, what is left behind the closing quote. -/
def unqL (l out : List UInt8) : Int × List UInt8 × List UInt8 :=
  match l with
  | [] => (40, [], [])
  | c :: r => if c.toNat = 34 then (if 4096 < out.length then (3, [], []) else (0, out, r))
    else if (oneS (c :: r)).1 ≠ 0 then ((oneS (c :: r)).1, [], []) else unqL (r.drop ((oneS (c :: r)).2.2 - 1)) (out ++ (oneS (c :: r)).2.1)
termination_by l.length
decreasing_by simp; omega
/-- The literal at the beginning: the error, the bytes, how long it is. -/
def unqS (l : List UInt8) : Int × List UInt8 × Nat :=
  if l.length = 0 then (40, [], 0) else if (l.getD 0 0).toNat ≠ 34 then (2, [], 0)
  else if (unqL l.tail []).1 ≠ 0 then ((unqL l.tail []).1, [], 0) else (0, (unqL l.tail []).2.1, l.length - (unqL l.tail []).2.2.length)
theorem unqL_nil (out : List UInt8) : unqL [] out = (40, [], []) := by rw [unqL]
theorem unqL_quote (c : UInt8) (r out : List UInt8) (h : c.toNat = 34) : unqL (c :: r) out = if 4096 < out.length then (3, [], []) else (0, out, r) := by rw [unqL, if_pos h]
theorem unqL_bad (c : UInt8) (r out : List UInt8) (h : c.toNat ≠ 34) (h1 : (oneS (c :: r)).1 ≠ 0) : unqL (c :: r) out = ((oneS (c :: r)).1, [], []) := by rw [unqL, if_neg h, if_pos h1]
theorem unqL_one (c : UInt8) (r out : List UInt8) (h : c.toNat ≠ 34) (h1 : (oneS (c :: r)).1 = 0) (h2 : 1 ≤ (oneS (c :: r)).2.2) : unqL (c :: r) out = unqL ((c :: r).drop (oneS (c :: r)).2.2) (out ++ (oneS (c :: r)).2.1) := by
  rw [unqL, if_neg h, if_neg (by rw [h1]; simp)]
  congr 1
  obtain ⟨n, hn⟩ : ∃ n, (oneS (c :: r)).2.2 = n + 1 := ⟨_, (Nat.sub_add_cancel h2).symm⟩
  rw [hn]
  simp
theorem getD_drop0 (s : ByteArray) (k : Nat) (h : k < s.size) : (s.data.toList.drop k).getD 0 0 = s[k] := by
  rw [List.getD_eq_getElem?_getD, List.getElem?_drop, Nat.add_zero, List.getElem?_eq_getElem (by rw [size_list]; exact h)]
  rfl
theorem drop_cons (s : ByteArray) (k : Nat) (h : k < s.size) : s.data.toList.drop k = s[k] :: s.data.toList.drop (k + 1) := by
  rw [List.drop_eq_getElem_cons (by rw [size_list]; exact h)]
  rfl
theorem hxP_ok {l : List UInt8} (h : (hxP l).1 = 0) : Lib.validRune ((hxP l).2.1 : Nat) = true ∧ 1 ≤ (hxP l).2.2 ∧ (hxP l).2.2 ≤ l.length := by
  unfold hxP at *
  generalize (hxL l).length = k at *
  generalize hxF (hxL l) = F at *
  generalize (l.getD k 0).toNat = x at *
  generalize (l.getD 0 0).toNat = y at *
  by_cases h1 : l.length ≤ k
  · rw [if_pos h1] at h; cases h
  · rw [if_neg h1] at h ⊢
    by_cases h2 : x ≠ 125 ∨ k = 0 ∨ (1 < k ∧ y = 48) ∨ Lib.validRune (F : Nat) = false
    · rw [if_pos h2] at h; cases h
    · rw [if_neg h2]
      refine ⟨?_, by show 1 ≤ k + 1; omega, by show k + 1 ≤ _; omega⟩
      cases h3 : Lib.validRune (F : Nat) with
      | true => rfl
      | false => exact absurd (Or.inr (Or.inr (Or.inr h3))) h2
theorem vr_le {r : Nat} (h : Lib.validRune (r : Int) = true) : r ≤ 1114111 := by unfold Lib.validRune at h; have := of_decide_eq_true h; omega
theorem vr_small {r : Nat} (h : r < 256) : Lib.validRune (r : Int) = true := by unfold Lib.validRune; exact decide_eq_true (by omega)
theorem escS_ok {l : List UInt8} (h : (escS l).1 = 0) : Lib.validRune ((escS l).2.1 : Nat) = true ∧ 1 ≤ (escS l).2.2 ∧ (escS l).2.2 ≤ l.length := by
  have hc : (l.getD 0 0).toNat < 256 := (l.getD 0 0).toNat_lt
  unfold escS at *
  by_cases h0 : l.length = 0
  · rw [if_pos h0] at h; simp at h
  rw [if_neg h0] at h ⊢
  generalize (l.getD 0 0).toNat = b at *
  by_cases h1 : b = 110
  · rw [if_pos h1]; exact ⟨vr_small (by decide), by simp, by simp; omega⟩
  rw [if_neg h1] at h ⊢
  by_cases h2 : b = 114
  · rw [if_pos h2]; exact ⟨vr_small (by decide), by simp, by simp; omega⟩
  rw [if_neg h2] at h ⊢
  by_cases h3 : b = 116
  · rw [if_pos h3]; exact ⟨vr_small (by decide), by simp, by simp; omega⟩
  rw [if_neg h3] at h ⊢
  by_cases h4 : b = 34 ∨ b = 92
  · rw [if_pos h4]; exact ⟨vr_small hc, by simp, by simp; omega⟩
  rw [if_neg h4] at h ⊢
  by_cases h5 : b = 117
  · rw [if_pos h5] at h ⊢
    by_cases h6 : l.length = 1
    · rw [if_pos h6] at h; simp at h
    rw [if_neg h6] at h ⊢
    by_cases h7 : (l.getD 1 0).toNat ≠ 123
    · rw [if_pos h7] at h; simp at h
    rw [if_neg h7] at h ⊢
    obtain ⟨k1, k2, k3⟩ := hxP_ok h
    refine ⟨k1, by simp, ?_⟩
    rw [List.length_drop] at k3
    show _ + 2 ≤ _
    omega
  · rw [if_neg h5] at h; simp at h
theorem enc_len (r : Int) : (Lib.encodeRune r).length ≤ 4 ∧ 1 ≤ (Lib.encodeRune r).length := by
  have := Lib.encodeRuneZ_length r
  unfold Lib.encodeRune
  simp; omega
/-- What the decoder says, beside what the reference asks. -/
theorem dec_facts {l : List UInt8} (hne : l ≠ []) : ((decodeL l).1 = 92 ↔ (l.getD 0 0).toNat = 92) ∧ ((l.getD 0 0).toNat = 92 → (decodeL l).2 = 1) ∧ (decodeL l).1 ≤ 1114111 ∧
    ((((decodeL l).1 = 65533 ∧ (decodeL l).2 = 1) ∨ (decodeL l).1 < 32 ∨ (decodeL l).1 = 127) ↔ (decR l = 0 ∨ (l.getD 0 0).toNat < 32 ∨ (l.getD 0 0).toNat = 127)) ∧
    (¬ (decR l = 0 ∨ (l.getD 0 0).toNat < 32 ∨ (l.getD 0 0).toNat = 127) → (decodeL l).2 = decR l ∧ Lib.encodeRune ((decodeL l).1 : Int) = l.take (decR l) ∧ 1 ≤ decR l ∧ decR l ≤ l.length) := by
  have hl : 0 < l.length := List.length_pos_iff.2 hne
  have hle := Lib.decodeL_le l hne
  have henc := Lib.encode_decode l hne
  have hs := decRN_spec l.length (l.getD 0 0).toNat (l.getD 1 0).toNat (l.getD 2 0).toNat (l.getD 3 0).toNat hl (l.getD 0 0).toNat_lt (l.getD 1 0).toNat_lt (l.getD 2 0).toNat_lt (l.getD 3 0).toNat_lt
  have hsh := Lib.decodeN_shape l.length (l.getD 0 0).toNat (l.getD 1 0).toNat (l.getD 2 0).toNat (l.getD 3 0).toNat
  have h0 : (l.getD 0 0).toNat < 256 := (l.getD 0 0).toNat_lt
  have h1 : (l.getD 1 0).toNat < 256 := (l.getD 1 0).toNat_lt
  have h2 : (l.getD 2 0).toNat < 256 := (l.getD 2 0).toNat_lt
  have h3 : (l.getD 3 0).toNat < 256 := (l.getD 3 0).toNat_lt
  rw [← Lib.decodeL_N] at hs hsh
  have hD1 : (l.getD 0 0).toNat < 128 → decR l = 1 := fun h => by unfold decR decRN; rw [if_pos h]
  have hR : decR l = decRN l.length (l.getD 0 0).toNat (l.getD 1 0).toNat (l.getD 2 0).toNat (l.getD 3 0).toNat := rfl
  rw [← hR] at hs
  clear hR
  generalize (l.getD 0 0).toNat = b0 at *
  generalize (l.getD 1 0).toNat = b1 at *
  generalize (l.getD 2 0).toNat = b2 at *
  generalize (l.getD 3 0).toNat = b3 at *
  generalize decR l = D at *
  generalize hd : decodeL l = d at *
  obtain ⟨r, n⟩ := d
  simp only [Prod.mk.injEq] at *
  rcases hsh with ⟨a, e1, e2⟩ | ⟨a, a1, a2, a3, e1, e2⟩ | ⟨a, a1, a2, a3, a4, a5, e1, e2⟩ | ⟨a, a1, a2, a3, a4, a5, a6, e1, e2⟩ | ⟨e1, e2⟩
  · refine ⟨by omega, by omega, by omega, by omega, fun hg => ?_⟩
    have hb : ¬ (r = 65533 ∧ n = 1) := by omega
    refine ⟨by omega, ?_, by omega, by omega⟩
    rw [henc hb, show n = D by omega]
  · refine ⟨by omega, by omega, by omega, by omega, fun hg => ?_⟩
    have hb : ¬ (r = 65533 ∧ n = 1) := by omega
    refine ⟨by omega, ?_, by omega, by omega⟩
    rw [henc hb, show n = D by omega]
  · refine ⟨by omega, by omega, by omega, by omega, fun hg => ?_⟩
    have hb : ¬ (r = 65533 ∧ n = 1) := by omega
    refine ⟨by omega, ?_, by omega, by omega⟩
    rw [henc hb, show n = D by omega]
  · refine ⟨by omega, by omega, by omega, by omega, fun hg => ?_⟩
    have hb : ¬ (r = 65533 ∧ n = 1) := by omega
    refine ⟨by omega, ?_, by omega, by omega⟩
    rw [henc hb, show n = D by omega]
  · refine ⟨by omega, by omega, by omega, by omega, fun hg => by omega⟩
end Go.Proofs.YtpnogmicfomofaaGreatDoor.Adr
/-
  String literals: the program's Unquote. Conditions: those ahead of each theorem.
-/
namespace Go.Proofs.YtpnogmicfomofaaGreatDoor.Adr
open Go.RowKit Go.Sort Go.Lib Go.Maps
open Go.Lib (hid)
set_option linter.unusedVariables false
set_option linter.unusedSimpArgs false

theorem dec_go (t : ByteArray) (h : t.size ≠ 0) : Lib.decodeGo t = Lib.decodeL t.data.toList := by
  unfold Lib.decodeGo Lib.decodeL
  rw [if_neg h]
theorem ext_size (s : ByteArray) (k : Nat) (h : k ≤ s.size) : (s.extract k s.size).size = s.size - k := by rw [← size_list, extract_list, List.length_drop, size_list]
theorem bf_kept {B b : Nat} {l : List UInt8} {w w' : World} (h : BF B b l w) (hb : Below w.heap.size w w') : BF B b l w' := by
  have key : ∀ p, Lib.BuilderAtF 174 5 B b p (Lib.byteCells l) w → Lib.BuilderAtF 174 5 B b p (Lib.byteCells l) w' := by
    intro p h
    obtain ⟨h1, v, h2, h3, h4⟩ := h
    exact ⟨h1, v, (hb.block _ (lt_of_block h2)).trans h2, h3.kept (grown_below hb) (by cases v.ownBlock <;> simp), h4⟩
  exact h.imp (key _) (key _)
/-- What Unquote hands back. -/
def UqR (x : Int × List UInt8 × Nat) : Ending := .returned (.tuple #[.string ⟨x.2.1.toArray⟩, .int .i64 (x.2.2 : Nat), .int .i64 x.1])
theorem unqS_in {s : ByteArray} (h : 0 < s.size) (hq : s[0].toNat = 34) : unqS s.data.toList = if (unqL (s.data.toList.drop 1) []).1 ≠ 0 then ((unqL (s.data.toList.drop 1) []).1, [], 0) else (0, (unqL (s.data.toList.drop 1) []).2.1, s.size - (unqL (s.data.toList.drop 1) []).2.2.length) := by
  unfold unqS
  rw [size_list, if_neg (by omega), getD_at s h, if_neg (by rw [hq]; simp), List.drop_one]

set_option maxHeartbeats 16000000 in
set_option maxRecDepth 100000 in
theorem punq_any (s : ByteArray) (w : World) (hT : WT w) (hs : s.size ≤ 1000000) : Calls Tryz.prog 158 #[.string s] w fun e w' => e = UqR (unqS s.data.toList) ∧ Below w.heap.size w w' := by
  by_cases h0 : s.size = 0
  · have HR := hid (show unqS s.data.toList = (40, [], 0) by unfold unqS; rw [size_list, if_pos h0])
    have HB := hid (Below.refl w.heap.size w)
    have e0 := str_nil h0
    clear h0 hT
    go_enter Tryz.func158, Tryz.ntmps158
    go_wp2
    go_ret3
    exact ⟨by rw [HR.out]; rfl, HB.out⟩
  have e0 := str_cons h0
  have hpos : 0 < s.size := by omega
  by_cases hq : s[0].toNat = 34
  case neg =>
    have HR := hid (show unqS s.data.toList = (2, [], 0) by unfold unqS; rw [size_list, if_neg h0, getD_at s hpos, if_pos hq])
    have HB := hid (Below.refl w.heap.size w)
    have e1 : ((s[0].toNat : Int) != 34) = true := by simp; omega
    clear h0 hT hq
    go_enter Tryz.func158, Tryz.ntmps158
    go_wp2
    go_ret3
    exact ⟨by rw [HR.out]; rfl, HB.out⟩
  have HU := hid (unqS_in hpos hq)
  have e1 : ((s[0].toNat : Int) != 34) = false := by simp; omega
  have HBN := hid (bf_new w w.heap.size (Nat.le_refl _))
  have HB0 := hid (show Below w.heap.size w (w.alloc (.cells #[.pointer none, .slice none 0 0] 174)) from (Below.refl _ _).alloc (Nat.le_refl _) _)
  have HWT := hid (fun (W : World) (hW : Below w.heap.size w W) => (hT.below hW).u)
  clear h0 hT hq
  go_enter Tryz.func158, Tryz.ntmps158
  go_wp2
  generalize hX : unqL (s.data.toList.drop 1) [] = X at *
  have HX := hid hX
  clear hX
  go_loopg [6] s.size (fun gg s6 wr => ∃ (k : Nat) (acc : List UInt8), 1 ≤ k ∧ k ≤ s.size ∧ s.size - k ≤ gg ∧ s6 = .int .i64 k ∧ Hid (BF w.heap.size w.heap.size acc wr) ∧ Hid (Below w.heap.size w wr) ∧ Hid (unqL (s.data.toList.drop k) acc = X) ∧ Hid (acc.length ≤ 4 * k))
  case atStart => exact ⟨1, [], by omega, by omega, by omega, rfl, HBN, HB0, HX, hid (by simp)⟩
  case round =>
    clear HBN HB0 HX
    obtain ⟨k, acc, hk1, hk, hgk, rfl, HL, HW, HQ, HA⟩ := hrel
    by_cases hlt : k < s.size
    case neg =>
      have hke : (s.data.toList.drop k) = [] := List.drop_eq_nil_of_le (by rw [size_list]; omega)
      have HR := hid (show unqS s.data.toList = (40, [], 0) by
        rw [HU.out]
        have h := HQ.out
        rw [hke, unqL_nil] at h
        rw [← h]; rfl)
      have e2 : ((k : Int) == (s.size : Int)) = true := by simp; omega
      clear hke HU HQ
      go_wp2
      go_ret3
      exact ⟨by rw [HR.out]; rfl, HW.out⟩
    have hltz : (k : Int) < (s.size : Int) := by omega
    have e2 : ((k : Int) == (s.size : Int)) = false := by simp; omega
    have HDC := hid (drop_cons s k hlt)
    by_cases h34 : s[k].toNat = 34
    · have e34 : ((s[k].toNat : Int) != 34) = false := by simp; omega
      have HQ2 := hid (show X = if 4096 < acc.length then (3, [], []) else (0, acc, s.data.toList.drop (k + 1)) by rw [← HQ.out, HDC.out, unqL_quote _ _ _ h34])
      have HLN := hid (Tryz.Builder_Len_f w.heap.size w.heap.size _ wr HL.out)
      have hbl : (Lib.byteCells acc).length = acc.length := by simp [Lib.byteCells]
      rw [hbl] at HLN
      have HST := hid (fun (W : World) (h : BF w.heap.size w.heap.size acc W) (hW : w.heap.size ≤ W.heap.size) => Tryz.Builder_String_any_f w.heap.size w.heap.size _ W h hW)
      clear h34 hbl
      by_cases hlong : 4096 < acc.length
      · have HR := hid (show unqS s.data.toList = (3, [], 0) by
          rw [HU.out, HQ2.out, if_pos hlong]; rfl)
        have hlz : (4096 : Int) < (acc.length : Int) := by omega
        clear HU HQ HQ2 hlong
        go_wp2_with (go_at_call 182; refine HLN.out.mono ?_; rintro e w2 ⟨rfl, rfl⟩)
        go_ret3
        exact ⟨by rw [HR.out]; rfl, HW.out⟩
      · have HR := hid (show unqS s.data.toList = (0, acc, k + 1) by
          rw [HU.out, HQ2.out, if_neg hlong, if_neg (by simp)]
          show (0, acc, s.size - (s.data.toList.drop (k + 1)).length) = _
          rw [List.length_drop, size_list, show s.size - (s.size - (k + 1)) = k + 1 by omega])
        have hlz : ¬ (4096 : Int) < (acc.length : Int) := by omega
        clear HU HQ HQ2 hlong
        go_wp2_with (first
          | (go_at_call 182; refine HLN.out.mono ?_; rintro e w2 ⟨rfl, rfl⟩)
          | (go_at_call 129; refine (HST.out _ HL.out HW.out.size).mono ?_; rintro e w3 ⟨rfl, hb3⟩; have HW3 := hid hb3.2; clear hb3))
        go_ret3
        exact ⟨by rw [HR.out]; rfl, HW.out.trans HW3.out⟩
    · have e34 : ((s[k].toNat : Int) != 34) = true := by simp; omega
      have hsz := ext_size s k hk
      have hgo := dec_go (s.extract k s.size) (by rw [hsz]; omega)
      rw [extract_list] at hgo
      have HD := hid (Tryz.utf8_DecodeRuneInString (s.extract k s.size) wr (HWT.out _ HW.out))
      rw [hgo] at HD
      have hne : s.data.toList.drop k ≠ [] := by rw [HDC.out]; simp
      obtain ⟨d1, d2, d3, d4, d5⟩ := dec_facts hne
      rw [getD_drop0 s k hlt] at d1 d2 d4 d5
      have hone : oneS (s.data.toList.drop k) = if s[k].toNat = 92 then (if (escS (s.data.toList.drop (k + 1))).1 ≠ 0 then ((escS (s.data.toList.drop (k + 1))).1, [], 0) else (0, Lib.encodeRune ((escS (s.data.toList.drop (k + 1))).2.1 : Nat), (escS (s.data.toList.drop (k + 1))).2.2 + 1))
          else if decR (s.data.toList.drop k) = 0 ∨ s[k].toNat < 32 ∨ s[k].toNat = 127 then (2, [], 0) else (0, (s.data.toList.drop k).take (decR (s.data.toList.drop k)), decR (s.data.toList.drop k)) := by
        unfold oneS
        rw [getD_drop0 s k hlt, show (s.data.toList.drop k).tail = s.data.toList.drop (k + 1) by rw [List.tail_drop]]
      have HBAD := hid (fun (h : (oneS (s.data.toList.drop k)).1 ≠ 0) => show X = ((oneS (s.data.toList.drop k)).1, [], []) by
        rw [← HQ.out]
        rw [HDC.out] at h ⊢
        exact unqL_bad _ _ _ h34 h)
      have HONE := hid (fun (h : (oneS (s.data.toList.drop k)).1 = 0) (h1 : 1 ≤ (oneS (s.data.toList.drop k)).2.2) => show unqL (s.data.toList.drop (k + (oneS (s.data.toList.drop k)).2.2)) (acc ++ (oneS (s.data.toList.drop k)).2.1) = X by
        have := unqL_one s[k] (s.data.toList.drop (k + 1)) acc h34 (by rw [← HDC.out]; exact h) (by rw [← HDC.out]; exact h1)
        rw [← HDC.out, HQ.out, List.drop_drop] at this
        exact this.symm)
      have hdl : (s.data.toList.drop k).length = s.size - k := by rw [List.length_drop, size_list]
      rw [hdl] at d5
      clear h34 hgo hne HQ HDC hdl
      have haccz : acc.length ≤ 100000000 := by have := HA.out; omega
      have HAC := hid haccz
      clear haccz
      by_cases h92 : s[k].toNat = 92
      · rw [if_pos h92] at hone
        have hr := d1.2 h92
        have hn := d2 h92
        have HE := hid (fun (W : World) => pesc_any (s.extract (k + 1) s.size) W (by rw [ext_size s (k + 1) (by omega)]; omega))
        rw [extract_list] at HE
        have hok := escS_ok (l := s.data.toList.drop (k + 1))
        rw [List.length_drop, size_list] at hok
        have hkz : (k : Int) + 1 ≤ (s.size : Int) := by omega
        generalize escS (s.data.toList.drop (k + 1)) = x at *
        obtain ⟨x1, x2, x3⟩ := x
        unfold HxR at HE
        simp only at HE hone hok
        rw [hr, hn] at HD
        clear d1 d2 d3 d4 d5 hr hn h92
        by_cases hx : x1 = 0
        · subst hx
          obtain ⟨o1, o2, o3⟩ := hok rfl
          rw [if_neg (by simp)] at hone
          have HX1 := hid (HONE.out (by rw [hone]) (by rw [hone]; show 1 ≤ x3 + 1; omega))
          rw [hone] at HX1
          have HRl := hid (vr_le o1)
          have HEl := hid (enc_len (x2 : Int)).1
          clear hone hok HONE HBAD o1 HU
          go_wp2_with (first | (go_at_call 179; refine HD.out.mono ?_; rintro e w2 ⟨rfl, hb2⟩; have HL2 := hid (bf_kept HL.out hb2); have HW2 := hid (HW.out.trans (hb2.mono HW.out.size)); clear hb2) | (go_at_call 180; refine (HE.out _).mono ?_; rintro e w3 ⟨rfl, rfl⟩) | (go_at_call 181; refine (brune_b w.heap.size w.heap.size acc x2 HRl.out _ HL2.out HAC.out HW2.out.size).mono ?_; rintro e w4 ⟨⟨kk, rfl⟩, hbl, hb4⟩; have HL4 := hid hbl; have HW4 := hid (HW2.out.trans hb4); clear hbl hb4))
          go_roundg (s.size - (k + (x3 + 1)))
          case measure => omega
          case rel => exact ⟨k + (x3 + 1), acc ++ Lib.encodeRune (x2 : Nat), by omega, by omega, by omega, by go_num, HL4, HW4, HX1, hid (by have := HEl.out; have := HA.out; rw [List.length_append]; omega)⟩
        · have e3 : (x1 != 0) = true := by simpa using hx
          rw [if_pos hx] at hone
          have HX1 := hid (HBAD.out (by rw [hone]; exact hx))
          rw [hone] at HX1
          have HR := hid (show unqS s.data.toList = (x1, [], 0) by
            rw [HU.out, HX1.out, if_pos hx])
          clear hone hok HONE HBAD HX1 HU hx
          go_wp2_with (first | (go_at_call 179; refine HD.out.mono ?_; rintro e w2 ⟨rfl, hb2⟩; have HL2 := hid (bf_kept HL.out hb2); have HW2 := hid (HW.out.trans (hb2.mono HW.out.size)); clear hb2) | (go_at_call 180; refine (HE.out _).mono ?_; rintro e w3 ⟨rfl, rfl⟩))
          go_ret3
          exact ⟨by rw [HR.out]; rfl, HW2.out⟩
      · rw [if_neg h92] at hone
        have hr92 : (Lib.decodeL (s.data.toList.drop k)).1 ≠ 92 := fun e => h92 (d1.1 e)
        generalize hdd : Lib.decodeL (s.data.toList.drop k) = d at *
        obtain ⟨r, n⟩ := d
        simp only at HD hr92 d3 d4 d5
        have er92 : ((r : Int) == 92) = false := by simp; omega
        clear d1 d2 hdd hr92
        by_cases hbad : decR (s.data.toList.drop k) = 0 ∨ s[k].toNat < 32 ∨ s[k].toNat = 127
        · rw [if_pos hbad] at hone
          have hb := d4.2 hbad
          have HX1 := hid (HBAD.out (by rw [hone]; simp))
          rw [hone] at HX1
          have HR := hid (show unqS s.data.toList = (2, [], 0) by
            rw [HU.out, HX1.out]; rfl)
          clear hone HONE HBAD HX1 HU hbad d3 d4 d5 h92
          by_cases c1 : r = 65533
          · have f1 : ((r : Int) == 65533) = true := by simp; omega
            have c2 : n = 1 := by omega
            have f2 : ((n : Int) == 1) = true := by simp; omega
            clear hb c1 c2
            go_wp2_with (first | (go_at_call 179; refine HD.out.mono ?_; rintro e w2 ⟨rfl, hb2⟩; have HL2 := hid (bf_kept HL.out hb2); have HW2 := hid (HW.out.trans (hb2.mono HW.out.size)); clear hb2))
            go_ret3
            exact ⟨by rw [HR.out]; rfl, HW2.out⟩
          · have f1 : ((r : Int) == 65533) = false := by simp; omega
            by_cases c3 : (r : Int) < 32
            · clear hb c1
              go_wp2_with (first | (go_at_call 179; refine HD.out.mono ?_; rintro e w2 ⟨rfl, hb2⟩; have HL2 := hid (bf_kept HL.out hb2); have HW2 := hid (HW.out.trans (hb2.mono HW.out.size)); clear hb2))
              go_ret3
              exact ⟨by rw [HR.out]; rfl, HW2.out⟩
            · have f4 : ((r : Int) == 127) = true := by simp; omega
              clear hb c1
              go_wp2_with (first | (go_at_call 179; refine HD.out.mono ?_; rintro e w2 ⟨rfl, hb2⟩; have HL2 := hid (bf_kept HL.out hb2); have HW2 := hid (HW.out.trans (hb2.mono HW.out.size)); clear hb2))
              go_ret3
              exact ⟨by rw [HR.out]; rfl, HW2.out⟩
        · rw [if_neg hbad] at hone
          have hb : ¬ ((r = 65533 ∧ n = 1) ∨ r < 32 ∨ r = 127) := fun h => hbad (d4.1 h)
          obtain ⟨g1, g2, g3, g4⟩ := d5 hbad
          rw [← g1] at g2 g3 g4 hone
          have HX1 := hid (HONE.out (by rw [hone]) (by rw [hone]; exact g3))
          rw [hone, ← g2] at HX1
          have HRl := hid d3
          have HEl := hid (enc_len (r : Int)).1
          clear hone HONE HBAD HU hbad d4 d5 h92 g1 g2 d3
          have f3 : ¬ (r : Int) < 32 := by omega
          have f4 : ((r : Int) == 127) = false := by simp; omega
          by_cases c1 : r = 65533
          · have f1 : ((r : Int) == 65533) = true := by simp; omega
            have f2 : ((n : Int) == 1) = false := by simp; omega
            clear hb c1
            go_wp2_with (first | (go_at_call 179; refine HD.out.mono ?_; rintro e w2 ⟨rfl, hb2⟩; have HL2 := hid (bf_kept HL.out hb2); have HW2 := hid (HW.out.trans (hb2.mono HW.out.size)); clear hb2) | (go_at_call 181; refine (brune_b w.heap.size w.heap.size acc r HRl.out _ HL2.out HAC.out HW2.out.size).mono ?_; rintro e w4 ⟨⟨kk, rfl⟩, hbl, hb4⟩; have HL4 := hid hbl; have HW4 := hid (HW2.out.trans hb4); clear hbl hb4))
            go_roundg (s.size - (k + n))
            case measure => omega
            case rel => exact ⟨k + n, acc ++ Lib.encodeRune (r : Nat), by omega, by omega, by omega, by go_num, HL4, HW4, HX1, hid (by have := HEl.out; have := HA.out; rw [List.length_append]; omega)⟩
          · have f1 : ((r : Int) == 65533) = false := by simp; omega
            clear hb c1
            go_wp2_with (first | (go_at_call 179; refine HD.out.mono ?_; rintro e w2 ⟨rfl, hb2⟩; have HL2 := hid (bf_kept HL.out hb2); have HW2 := hid (HW.out.trans (hb2.mono HW.out.size)); clear hb2) | (go_at_call 181; refine (brune_b w.heap.size w.heap.size acc r HRl.out _ HL2.out HAC.out HW2.out.size).mono ?_; rintro e w4 ⟨⟨kk, rfl⟩, hbl, hb4⟩; have HL4 := hid hbl; have HW4 := hid (HW2.out.trans hb4); clear hbl hb4))
            go_roundg (s.size - (k + n))
            case measure => omega
            case rel => exact ⟨k + n, acc ++ Lib.encodeRune (r : Nat), by omega, by omega, by omega, by go_num, HL4, HW4, HX1, hid (by have := HEl.out; have := HA.out; rw [List.length_append]; omega)⟩
end Go.Proofs.YtpnogmicfomofaaGreatDoor.Adr
