import Derived.Test.YtpnogmicfomofaaGreatDoorDl
import Derived.Laws.BitsLemmas
/-
  String literals: the reference's Encode. Conditions: those ahead of each theorem.
-/
namespace Go.Proofs.YtpnogmicfomofaaGreatDoor.Adr
open Go.RowKit Go.Sort Go.Lib Go.Maps
open Go.Lib (hid)
set_option linter.unusedVariables false
set_option linter.unusedSimpArgs false

theorem and63 (c : Nat) (h : c < 4294967296) : bits BinOp.and IntKind.i64 (c : Int) 63 = ((c % 64 : Nat) : Int) := by
  have h1 := (bits_nat .i64 32 (by decide) (fun n h0 h1 => IntWalk.i64_in n (by omega)) c 63 (by omega) (by decide)).1
  rw [show ((63 : Nat) : Int) = 63 from rfl] at h1
  rw [h1]
  congr 1
  exact Nat.and_two_pow_sub_one_eq_mod c 6
theorem or128 : ∀ x : Fin 64, bits BinOp.or IntKind.i64 128 (x.val : Int) = ((128 + x.val : Nat) : Int) := by decide +kernel
theorem or192 : ∀ x : Fin 32, bits BinOp.or IntKind.i64 192 (x.val : Int) = ((192 + x.val : Nat) : Int) := by decide +kernel
theorem or224 : ∀ x : Fin 16, bits BinOp.or IntKind.i64 224 (x.val : Int) = ((224 + x.val : Nat) : Int) := by decide +kernel
theorem or240 : ∀ x : Fin 8, bits BinOp.or IntKind.i64 240 (x.val : Int) = ((240 + x.val : Nat) : Int) := by decide +kernel
theorem conv_zs (W : World) (b : Nat) (zs : List Nat) (h : ∀ z ∈ zs, z < 256) (hc : ∀ j (hj : j < zs.length), W.cell? ⟨b, j, none⟩ = some (.int .u8 (zs[j] : Nat))) :
    (convert 172 9 (.slice (some ⟨b, 0, none⟩) zs.length zs.length)).run Tryz.prog W = .ok (.string ⟨(zs.map fun z => z.toUInt8).toArray⟩) W := by
  have := run_convert_bytes_back (P := Tryz.prog) W 172 9 5 ⟨b, 0, none⟩ zs.length (zs.map fun z => z.toUInt8) Tryz.underlying172 Tryz.underlying5 Tryz.underlying9 (fun j hj => by
    rw [List.length_map] at hj
    rw [Addr.add_lit, Nat.zero_add, hc j hj, List.getElem_map]
    have hz := h _ (List.getElem_mem hj)
    generalize zs[j] = z at *
    congr 2
    show (z : Int) = ((UInt8.ofNat z).toNat : Int)
    rw [UInt8.toNat_ofNat']
    omega)
  rw [List.length_map] at this
  exact this
set_option maxHeartbeats 4000000 in
set_option maxRecDepth 100000 in
theorem renc_any (c : Nat) (hv : Lib.validRune (c : Int) = true) (w : World) : Calls Tryz.prog 193 #[.int .i64 c] w fun e w' => e = .returned (.string ⟨(Lib.encodeRune (c : Nat)).toArray⟩) ∧ Below w.heap.size w w' := by
  have hle := vr_le hv
  have hvv : (c < 55296 ∨ (57343 < c ∧ c ≤ 1114111)) := by unfold Lib.validRune at hv; have := of_decide_eq_true hv; omega
  have HBA := hid (fun o => (Below.refl w.heap.size w).alloc (Nat.le_refl _) o)
  have a63 : bits BinOp.and IntKind.i64 (c : Int) 63 = (c : Int) % 64 := by have h := and63 c (by omega); push_cast at h; exact h
  have b63 : bits BinOp.and IntKind.i64 ((c : Int) / 64) 63 = (c : Int) / 64 % 64 := by have h := and63 (c / 64) (by omega); push_cast at h; exact h
  have c63 : bits BinOp.and IntKind.i64 ((c : Int) / 4096) 63 = (c : Int) / 4096 % 64 := by have h := and63 (c / 4096) (by omega); push_cast at h; exact h
  have a128 : bits BinOp.or IntKind.i64 128 ((c : Int) % 64) = 128 + (c : Int) % 64 := by have h := or128 ⟨c % 64, by omega⟩; push_cast at h; exact h
  have b128 : bits BinOp.or IntKind.i64 128 ((c : Int) / 64 % 64) = 128 + (c : Int) / 64 % 64 := by have h := or128 ⟨c / 64 % 64, by omega⟩; push_cast at h; exact h
  have c128 : bits BinOp.or IntKind.i64 128 ((c : Int) / 4096 % 64) = 128 + (c : Int) / 4096 % 64 := by have h := or128 ⟨c / 4096 % 64, by omega⟩; push_cast at h; exact h
  by_cases h1 : (c : Int) < 128
  · have HX := hid (show Lib.encodeRune (c : Nat) = ([c] : List Nat).map (fun z => z.toUInt8) by
      unfold Lib.encodeRune
      rw [Lib.encodeRuneZ_one (by omega) (by omega)]
      rfl)
    have hcv := conv_zs (w.alloc (.cells #[.int .u8 ((c : Int))] 5)) w.heap.size ([c] : List Nat) (by intro z hz; simp only [List.mem_cons, List.not_mem_nil, or_false] at hz; omega) (fun j hj => by
      have h0 : j = 0 := by simp at hj; omega
      rcases h0 with rfl
      all_goals exact cell_at rfl (by first | rfl | (simp)))
    rw [← HX.out] at hcv
    simp only [List.length_cons, List.length_nil, Nat.zero_add, Nat.reduceAdd] at hcv
    generalize Lib.encodeRune (c : Nat) = E at *
    clear hv
    go_enter Tryz.func193, Tryz.ntmps193
    go_wp2
    go_ret
    exact ⟨rfl, HBA.out _⟩
  by_cases h2 : (c : Int) < 2048
  · have a192 : bits BinOp.or IntKind.i64 192 ((c : Int) / 64) = 192 + (c : Int) / 64 := by have h := or192 ⟨c / 64, by omega⟩; push_cast at h; exact h
    have HX := hid (show Lib.encodeRune (c : Nat) = ([192 + c / 64, 128 + c % 64] : List Nat).map (fun z => z.toUInt8) by
      unfold Lib.encodeRune
      rw [Lib.encodeRuneZ_two (by omega) (by omega)]
      rfl)
    have hcv := conv_zs (w.alloc (.cells #[.int .u8 (192 + (c : Int) / 64), .int .u8 (128 + (c : Int) % 64)] 5)) w.heap.size ([192 + c / 64, 128 + c % 64] : List Nat) (by intro z hz; simp only [List.mem_cons, List.not_mem_nil, or_false] at hz; omega) (fun j hj => by
      have h0 : j = 0 ∨ j = 1 := by simp at hj; omega
      rcases h0 with rfl | rfl
      all_goals exact cell_at rfl (by first | rfl | (simp)))
    rw [← HX.out] at hcv
    simp only [List.length_cons, List.length_nil, Nat.zero_add, Nat.reduceAdd] at hcv
    generalize Lib.encodeRune (c : Nat) = E at *
    clear hv
    go_enter Tryz.func193, Tryz.ntmps193
    go_wp2
    go_ret
    exact ⟨rfl, HBA.out _⟩
  by_cases h3 : (c : Int) < 65536
  · have a224 : bits BinOp.or IntKind.i64 224 ((c : Int) / 4096) = 224 + (c : Int) / 4096 := by have h := or224 ⟨c / 4096, by omega⟩; push_cast at h; exact h
    have HX := hid (show Lib.encodeRune (c : Nat) = ([224 + c / 4096, 128 + c / 64 % 64, 128 + c % 64] : List Nat).map (fun z => z.toUInt8) by
      unfold Lib.encodeRune
      rw [Lib.encodeRuneZ_three (by omega)]
      rfl)
    have hcv := conv_zs (w.alloc (.cells #[.int .u8 (224 + (c : Int) / 4096), .int .u8 (128 + (c : Int) / 64 % 64), .int .u8 (128 + (c : Int) % 64)] 5)) w.heap.size ([224 + c / 4096, 128 + c / 64 % 64, 128 + c % 64] : List Nat) (by intro z hz; simp only [List.mem_cons, List.not_mem_nil, or_false] at hz; omega) (fun j hj => by
      have h0 : j = 0 ∨ j = 1 ∨ j = 2 := by simp at hj; omega
      rcases h0 with rfl | rfl | rfl
      all_goals exact cell_at rfl (by first | rfl | (simp)))
    rw [← HX.out] at hcv
    simp only [List.length_cons, List.length_nil, Nat.zero_add, Nat.reduceAdd] at hcv
    generalize Lib.encodeRune (c : Nat) = E at *
    clear hv
    go_enter Tryz.func193, Tryz.ntmps193
    go_wp2
    go_ret
    exact ⟨rfl, HBA.out _⟩
  · have a240 : bits BinOp.or IntKind.i64 240 ((c : Int) / 262144) = 240 + (c : Int) / 262144 := by have h := or240 ⟨c / 262144, by omega⟩; have e : ((c / 262144 : Nat) : Int) = (c : Int) / 262144 := (by omega); simp only [Int.natCast_add, e] at h; exact h
    have HX := hid (show Lib.encodeRune (c : Nat) = ([240 + c / 262144, 128 + c / 4096 % 64, 128 + c / 64 % 64, 128 + c % 64] : List Nat).map (fun z => z.toUInt8) by
      unfold Lib.encodeRune
      rw [Lib.encodeRuneZ_four (by omega) (by omega)]
      rfl)
    have hcv := conv_zs (w.alloc (.cells #[.int .u8 (240 + (c : Int) / 262144), .int .u8 (128 + (c : Int) / 4096 % 64), .int .u8 (128 + (c : Int) / 64 % 64), .int .u8 (128 + (c : Int) % 64)] 5)) w.heap.size ([240 + c / 262144, 128 + c / 4096 % 64, 128 + c / 64 % 64, 128 + c % 64] : List Nat) (by intro z hz; simp only [List.mem_cons, List.not_mem_nil, or_false] at hz; omega) (fun j hj => by
      have h0 : j = 0 ∨ j = 1 ∨ j = 2 ∨ j = 3 := by simp at hj; omega
      rcases h0 with rfl | rfl | rfl | rfl
      all_goals exact cell_at rfl (by first | rfl | (simp)))
    rw [← HX.out] at hcv
    simp only [List.length_cons, List.length_nil, Nat.zero_add, Nat.reduceAdd] at hcv
    generalize Lib.encodeRune (c : Nat) = E at *
    clear hv
    go_enter Tryz.func193, Tryz.ntmps193
    go_wp2
    go_ret
    exact ⟨rfl, HBA.out _⟩
end Go.Proofs.YtpnogmicfomofaaGreatDoor.Adr
/-
  String literals: the reference's hex, point. Conditions: those ahead of each theorem.
-/
namespace Go.Proofs.YtpnogmicfomofaaGreatDoor.Adr
open Go.RowKit Go.Sort Go.Lib Go.Maps
open Go.Lib (hid)
set_option linter.unusedVariables false
set_option linter.unusedSimpArgs false

def hxI (c : Nat) : Int := if isHx c = true then (hxv c : Nat) else -1
theorem ret_int {a b : Int} (h : a = b) : Ending.returned (.int .i64 b) = .returned (.int .i64 a) := by rw [h]
set_option maxHeartbeats 4000000 in
theorem rhex_any (c : UInt8) (w : World) : Calls Tryz.prog 208 #[.int .u8 c.toNat] w fun e w' => e = .returned (.int .i64 (hxI c.toNat)) ∧ w = w' := by
  have hc := lt256 c
  generalize c.toNat = n at *
  by_cases h1 : (48 : Int) ≤ n <;> by_cases h2 : (n : Int) ≤ 57 <;> by_cases h3 : (97 : Int) ≤ n <;> by_cases h4 : (n : Int) ≤ 102 <;> first
    | (exfalso; omega)
    | (have HR := hid (show hxI n = n - 48 by unfold hxI isHx hxv; rw [decide_eq_true (show 48 ≤ n ∧ n ≤ 57 by omega), if_pos (by simp), if_pos (by omega)]; omega)
       go_enter Tryz.func208, Tryz.ntmps208
       go_wp2
       go_ret
       exact ⟨ret_int HR.out, rfl⟩)
    | (have HR := hid (show hxI n = n - 97 + 10 by unfold hxI isHx hxv; rw [decide_eq_false (show ¬ (48 ≤ n ∧ n ≤ 57) by omega), decide_eq_true (show 97 ≤ n ∧ n ≤ 102 by omega), if_pos (by simp), if_neg (by omega)]; omega)
       go_enter Tryz.func208, Tryz.ntmps208
       go_wp2
       go_ret
       exact ⟨ret_int HR.out, rfl⟩)
    | (have HR := hid (show hxI n = -1 by unfold hxI isHx; rw [decide_eq_false (show ¬ (48 ≤ n ∧ n ≤ 57) by omega), decide_eq_false (show ¬ (97 ≤ n ∧ n ≤ 102) by omega)]; rfl)
       go_enter Tryz.func208, Tryz.ntmps208
       go_wp2
       go_ret
       exact ⟨ret_int HR.out, rfl⟩)
theorem ext_get (s : ByteArray) (i k : Nat) (h : i + k < s.size) : ((s.extract i s.size)[k]'(by rw [ext_size s i (by omega)]; omega)) = s[i + k] := by
  have h1 : k < (s.extract i s.size).size := by rw [ext_size s i (by omega)]; omega
  have h2 := getD_at (s.extract i s.size) h1
  rw [extract_list] at h2
  rw [← h2, ← getD_at s h, List.getD_eq_getElem?_getD, List.getD_eq_getElem?_getD, List.getElem?_drop]
theorem hxI_yes {c : Nat} (h : isHx c = true) : hxI c = (hxv c : Nat) := by unfold hxI; rw [if_pos h]
theorem hxI_no {c : Nat} (h : isHx c = false) : hxI c = -1 := by unfold hxI; rw [h]; rfl
/-- What point hands back. -/
def PtR (i : Nat) (x : Int × Nat × Nat) : Ending := .returned (.tuple #[.int .i64 (x.2.1 : Nat), .int .i64 ((if x.1 = 0 then i + x.2.2 else 0 : Nat) : Nat), .int .i64 x.1])
set_option maxHeartbeats 8000000 in
set_option maxRecDepth 100000 in
theorem rpoint_any (s : ByteArray) (i : Nat) (w : World) (hi : i ≤ s.size) (hs : s.size ≤ 1000000) : Calls Tryz.prog 192 #[.string s, .int .i64 i] w fun e w' => e = PtR i (hxP (s.data.toList.drop i)) ∧ w = w' := by
  have hsz := ext_size s i hi
  have HL := hid (fun k (hk : i + k ≤ s.size) (h6 : k ≤ 6) (h1 : ∀ j (hj : i + j < s.size), j < k → isHx s[i + j].toNat = true) (h2 : ∀ h : i + k < s.size, k < 6 → isHx s[i + k].toNat = false) => show hxL (s.data.toList.drop i) = (s.data.toList.drop i).take k ∧ (hxL (s.data.toList.drop i)).length = k from by
    have h := hxL_at (s := s.extract i s.size) (k := k) (by omega) h6 (fun j hj hjk => by rw [ext_get s i j (by omega)]; exact h1 j (by omega) hjk) (fun hh hh6 => by rw [ext_get s i k (by omega)]; exact h2 (by omega) hh6)
    rw [extract_list] at h
    refine ⟨h, ?_⟩
    rw [h, List.length_take, List.length_drop, size_list]; omega)
  have hxE : ∀ k, s.size ≤ i + k → (hxL (s.data.toList.drop i) = (s.data.toList.drop i).take k ∧ (hxL (s.data.toList.drop i)).length = k) → hxP (s.data.toList.drop i) = (40, 0, 0) := fun k hk h => by
    have := hxP_end (s := s.extract i s.size) (k := k) (by omega) (by rw [extract_list]; exact h)
    rwa [extract_list] at this
  have hxC : ∀ (k : Nat) (hk : i + k < s.size), (hxL (s.data.toList.drop i) = (s.data.toList.drop i).take k ∧ (hxL (s.data.toList.drop i)).length = k) → hxP (s.data.toList.drop i) = if s[i + k].toNat ≠ 125 ∨ k = 0 ∨ (1 < k ∧ (s[i]'(by omega)).toNat = 48) ∨ Lib.validRune (hxF ((s.data.toList.drop i).take k) : Nat) = false then (2, 0, 0) else (0, hxF ((s.data.toList.drop i).take k), k + 1) := fun k hk h => by
    have := hxP_cut (s := s.extract i s.size) (k := k) (by omega) (by rw [extract_list]; exact h)
    rw [ext_get s i k (by omega), ext_get s i 0 (by omega)] at this
    simpa only [extract_list, Nat.add_zero] using this
  have HXE := hid hxE
  have HXC := hid hxC
  clear hxE hxC hsz
  go_enter Tryz.func192, Tryz.ntmps192
  go_wp2
  go_loop [7, 8] (fun c n => ∃ k : Nat, i + k ≤ s.size ∧ k ≤ 6 ∧ n = .int .i64 k ∧ c = .int .i64 (hxF ((s.data.toList.drop i).take k) : Nat) ∧ Hid (∀ j (hj : i + j < s.size), j < k → isHx s[i + j].toNat = true)) (fun _ n => s.size - i - (RowKit.intOf n).toNat)
  case atStart => exact ⟨0, by omega, by omega, rfl, rfl, hid (fun j hj h => absurd h (by omega))⟩
  case round =>
    obtain ⟨k, hk, h6, rfl, rfl, HA⟩ := hrel
    have HBd := hid (show hxF ((s.data.toList.drop i).take k) < 16 ^ 6 from by
      have h1 := hxF_le ((s.data.toList.drop i).take k) (fun c hc => by
        obtain ⟨j, hj, rfl⟩ := List.mem_iff_getElem.1 hc
        rw [List.length_take, List.length_drop, size_list] at hj
        rw [List.getElem_take, List.getElem_drop, get_list s (i + j) (by omega)]
        exact HA.out j _ (by omega))
      have h2 : ((s.data.toList.drop i).take k).length = k := by rw [List.length_take, List.length_drop, size_list]; omega
      rw [h2] at h1
      exact Nat.lt_of_lt_of_le h1 (Nat.pow_le_pow_right (by decide) h6))
    have hbd := HBd.out
    simp only [Nat.reducePow] at hbd
    have HFin := hid (fun h2 => HL.out k hk h6 HA.out h2)
    by_cases hlt : i + k < s.size
    case neg =>
      have HR := hid (HXE.out k (by omega) (HFin.out (fun h => absurd h hlt)))
      have e0 : ¬ (i : Int) + (k : Int) < (s.size : Int) := by omega
      have e0' : (s.size : Int) ≤ (i : Int) + (k : Int) := by omega
      clear HXE HXC HFin HL HA hlt
      go_wp2
      go_ret3
      exact ⟨by rw [HR.out]; rfl, rfl⟩
    have e0 : (i : Int) + (k : Int) < (s.size : Int) := by omega
    have e0' : ¬ (s.size : Int) ≤ (i : Int) + (k : Int) := by omega
    by_cases h6' : k = 6
    · have HFF := hid (HFin.out (fun _ h => by omega))
      have h6z : ¬ (k : Int) < 6 := by omega
      have hk0 : 1 < k := by omega
      have hxC := HXC.out
      clear h6' HFin HL HXE HXC HA
      have HC := hid (hxC k hlt HFF.out)
      clear hxC
      generalize hxF ((s.data.toList.drop i).take k) = F at *
      clear HFF
      have c2 : ¬ k = 0 := by omega
      have e2 : ((k : Int) == 0) = false := by simp; omega
      by_cases c1 : s[i + k].toNat = 125
      case neg =>
        have e1 : ((s[i + k].toNat : Int) != 125) = true := by simp; omega
        have HR := hid (show hxP (s.data.toList.drop i) = (2, 0, 0) from by rw [HC.out, if_pos (Or.inl c1)])
        clear c1 c2 HC
        go_wp2
        go_ret3
        exact ⟨by rw [HR.out]; rfl, rfl⟩
      have e1 : ((s[i + k].toNat : Int) != 125) = false := by simp; omega
      by_cases c3 : 1 < k
      · have e3 : (1 : Int) < k := by omega
        have hs0 : i < s.size := by omega
        by_cases c4 : s[i].toNat = 48
        · have e4 : ((s[i].toNat : Int) == 48) = true := by simp; omega
          have HR := hid (show hxP (s.data.toList.drop i) = (2, 0, 0) from by rw [HC.out, if_pos (Or.inr (Or.inr (Or.inl ⟨c3, c4⟩)))])
          clear c1 c2 c3 c4 HC
          go_wp2
          go_ret3
          exact ⟨by rw [HR.out]; rfl, rfl⟩
        have e4 : ((s[i].toNat : Int) == 48) = false := by simp; omega
        by_cases c5 : 1114111 < F
        · have e5 : (1114111 : Int) < (F : Int) := by omega
          have c6 : Lib.validRune (F : Int) = false := by unfold Lib.validRune; exact decide_eq_false (by omega)
          have HR := hid (show hxP (s.data.toList.drop i) = (2, 0, 0) from by rw [HC.out, if_pos (Or.inr (Or.inr (Or.inr c6)))])
          clear c5 c6 c1 c2 c3 c4 HC
          go_wp2
          go_ret3
          exact ⟨by rw [HR.out]; rfl, rfl⟩
        have e5 : ¬ (1114111 : Int) < (F : Int) := by omega
        by_cases c7 : 55296 ≤ F
        · have e7 : (55296 : Int) ≤ (F : Int) := by omega
          by_cases c8 : F ≤ 57343
          · have e8 : (F : Int) ≤ 57343 := by omega
            have c6 : Lib.validRune (F : Int) = false := by unfold Lib.validRune; exact decide_eq_false (by omega)
            have HR := hid (show hxP (s.data.toList.drop i) = (2, 0, 0) from by rw [HC.out, if_pos (Or.inr (Or.inr (Or.inr c6)))])
            clear c5 c6 c7 c8 c1 c2 c3 c4 HC
            go_wp2
            go_ret3
            exact ⟨by rw [HR.out]; rfl, rfl⟩
          · have e8 : ¬ (F : Int) ≤ 57343 := by omega
            have c6 : Lib.validRune (F : Int) = true := by unfold Lib.validRune; exact decide_eq_true (by omega)
            have HR := hid (show hxP (s.data.toList.drop i) = (0, F, k + 1) from by rw [HC.out, if_neg (by rintro (h | h | h | h); exact h c1; exact c2 h; exact c4 h.2; rw [c6] at h; cases h)])
            clear c5 c7 c8 c6 c1 c2 c3 c4 HC
            go_wp2
            go_ret3
            exact ⟨by rw [HR.out]; rfl, rfl⟩
        · have e7 : (F : Int) < 55296 := by omega
          have b5 : decide ((1114111 : Int) < (F : Int)) = false := decide_eq_false e5
          have b7 : decide ((55296 : Int) ≤ (F : Int)) = false := decide_eq_false (by omega)
          have c6 : Lib.validRune (F : Int) = true := by unfold Lib.validRune; exact decide_eq_true (by omega)
          have HR := hid (show hxP (s.data.toList.drop i) = (0, F, k + 1) from by rw [HC.out, if_neg (by rintro (h | h | h | h); exact h c1; exact c2 h; exact c4 h.2; rw [c6] at h; cases h)])
          clear c5 c7 e5 e7 hbd HBd c6 c1 c2 c3 c4 HC
          go_wp2
          go_ret3
          exact ⟨by rw [HR.out]; rfl, rfl⟩
      · exact absurd c3 (by omega)
    have h6z : (k : Int) < 6 := by omega
    have hc := lt256 s[i + k]
    have hIB := fun W => rhex_any s[i + k] W
    cases hx : isHx s[i + k].toNat
    · have HFF := hid (HFin.out (fun _ _ => hx))
      rw [hxI_no hx] at hIB
      have HIB := hid hIB
      have hxC := HXC.out
      clear hIB hx HFin HL HXE HXC HA h6'
      have HC := hid (hxC k hlt HFF.out)
      clear hxC
      generalize hxF ((s.data.toList.drop i).take k) = F at *
      clear HFF
      by_cases c2 : k = 0
      case pos =>
        have e2 : ((k : Int) == 0) = true := by simp; omega
        have HR := hid (show hxP (s.data.toList.drop i) = (2, 0, 0) from by rw [HC.out, if_pos (Or.inr (Or.inl c2))])
        clear c2 HC
        go_wp2_with (go_at_call 208; refine (HIB.out _).mono ?_; rintro e w1 ⟨rfl, rfl⟩)
        go_ret3
        exact ⟨by rw [HR.out]; rfl, rfl⟩
      have e2 : ((k : Int) == 0) = false := by simp; omega
      by_cases c1 : s[i + k].toNat = 125
      case neg =>
        have e1 : ((s[i + k].toNat : Int) != 125) = true := by simp; omega
        have HR := hid (show hxP (s.data.toList.drop i) = (2, 0, 0) from by rw [HC.out, if_pos (Or.inl c1)])
        clear c1 c2 HC
        go_wp2_with (go_at_call 208; refine (HIB.out _).mono ?_; rintro e w1 ⟨rfl, rfl⟩)
        go_ret3
        exact ⟨by rw [HR.out]; rfl, rfl⟩
      have e1 : ((s[i + k].toNat : Int) != 125) = false := by simp; omega
      by_cases c3 : 1 < k
      · have e3 : (1 : Int) < k := by omega
        have hs0 : i < s.size := by omega
        by_cases c4 : s[i].toNat = 48
        · have e4 : ((s[i].toNat : Int) == 48) = true := by simp; omega
          have HR := hid (show hxP (s.data.toList.drop i) = (2, 0, 0) from by rw [HC.out, if_pos (Or.inr (Or.inr (Or.inl ⟨c3, c4⟩)))])
          clear c1 c2 c3 c4 HC
          go_wp2_with (go_at_call 208; refine (HIB.out _).mono ?_; rintro e w1 ⟨rfl, rfl⟩)
          go_ret3
          exact ⟨by rw [HR.out]; rfl, rfl⟩
        have e4 : ((s[i].toNat : Int) == 48) = false := by simp; omega
        by_cases c5 : 1114111 < F
        · have e5 : (1114111 : Int) < (F : Int) := by omega
          have c6 : Lib.validRune (F : Int) = false := by unfold Lib.validRune; exact decide_eq_false (by omega)
          have HR := hid (show hxP (s.data.toList.drop i) = (2, 0, 0) from by rw [HC.out, if_pos (Or.inr (Or.inr (Or.inr c6)))])
          clear c5 c6 c1 c2 c3 c4 HC
          go_wp2_with (go_at_call 208; refine (HIB.out _).mono ?_; rintro e w1 ⟨rfl, rfl⟩)
          go_ret3
          exact ⟨by rw [HR.out]; rfl, rfl⟩
        have e5 : ¬ (1114111 : Int) < (F : Int) := by omega
        by_cases c7 : 55296 ≤ F
        · have e7 : (55296 : Int) ≤ (F : Int) := by omega
          by_cases c8 : F ≤ 57343
          · have e8 : (F : Int) ≤ 57343 := by omega
            have c6 : Lib.validRune (F : Int) = false := by unfold Lib.validRune; exact decide_eq_false (by omega)
            have HR := hid (show hxP (s.data.toList.drop i) = (2, 0, 0) from by rw [HC.out, if_pos (Or.inr (Or.inr (Or.inr c6)))])
            clear c5 c6 c7 c8 c1 c2 c3 c4 HC
            go_wp2_with (go_at_call 208; refine (HIB.out _).mono ?_; rintro e w1 ⟨rfl, rfl⟩)
            go_ret3
            exact ⟨by rw [HR.out]; rfl, rfl⟩
          · have e8 : ¬ (F : Int) ≤ 57343 := by omega
            have c6 : Lib.validRune (F : Int) = true := by unfold Lib.validRune; exact decide_eq_true (by omega)
            have HR := hid (show hxP (s.data.toList.drop i) = (0, F, k + 1) from by rw [HC.out, if_neg (by rintro (h | h | h | h); exact h c1; exact c2 h; exact c4 h.2; rw [c6] at h; cases h)])
            clear c5 c7 c8 c6 c1 c2 c3 c4 HC
            go_wp2_with (go_at_call 208; refine (HIB.out _).mono ?_; rintro e w1 ⟨rfl, rfl⟩)
            go_ret3
            exact ⟨by rw [HR.out]; rfl, rfl⟩
        · have e7 : (F : Int) < 55296 := by omega
          have b5 : decide ((1114111 : Int) < (F : Int)) = false := decide_eq_false e5
          have b7 : decide ((55296 : Int) ≤ (F : Int)) = false := decide_eq_false (by omega)
          have c6 : Lib.validRune (F : Int) = true := by unfold Lib.validRune; exact decide_eq_true (by omega)
          have HR := hid (show hxP (s.data.toList.drop i) = (0, F, k + 1) from by rw [HC.out, if_neg (by rintro (h | h | h | h); exact h c1; exact c2 h; exact c4 h.2; rw [c6] at h; cases h)])
          clear c5 c7 e5 e7 hbd HBd c6 c1 c2 c3 c4 HC
          go_wp2_with (go_at_call 208; refine (HIB.out _).mono ?_; rintro e w1 ⟨rfl, rfl⟩)
          go_ret3
          exact ⟨by rw [HR.out]; rfl, rfl⟩
      · have e3 : ¬ (1 : Int) < k := by omega
        have hnn : (k : Int) ≤ 1 := by omega
        by_cases c5 : 1114111 < F
        · have e5 : (1114111 : Int) < (F : Int) := by omega
          have c6 : Lib.validRune (F : Int) = false := by unfold Lib.validRune; exact decide_eq_false (by omega)
          have HR := hid (show hxP (s.data.toList.drop i) = (2, 0, 0) from by rw [HC.out, if_pos (Or.inr (Or.inr (Or.inr c6)))])
          clear c5 c6 c1 c2 c3 HC
          go_wp2_with (go_at_call 208; refine (HIB.out _).mono ?_; rintro e w1 ⟨rfl, rfl⟩)
          go_ret3
          exact ⟨by rw [HR.out]; rfl, rfl⟩
        have e5 : ¬ (1114111 : Int) < (F : Int) := by omega
        by_cases c7 : 55296 ≤ F
        · have e7 : (55296 : Int) ≤ (F : Int) := by omega
          by_cases c8 : F ≤ 57343
          · have e8 : (F : Int) ≤ 57343 := by omega
            have c6 : Lib.validRune (F : Int) = false := by unfold Lib.validRune; exact decide_eq_false (by omega)
            have HR := hid (show hxP (s.data.toList.drop i) = (2, 0, 0) from by rw [HC.out, if_pos (Or.inr (Or.inr (Or.inr c6)))])
            clear c5 c6 c7 c8 c1 c2 c3 HC
            go_wp2_with (go_at_call 208; refine (HIB.out _).mono ?_; rintro e w1 ⟨rfl, rfl⟩)
            go_ret3
            exact ⟨by rw [HR.out]; rfl, rfl⟩
          · have e8 : ¬ (F : Int) ≤ 57343 := by omega
            have c6 : Lib.validRune (F : Int) = true := by unfold Lib.validRune; exact decide_eq_true (by omega)
            have HR := hid (show hxP (s.data.toList.drop i) = (0, F, k + 1) from by rw [HC.out, if_neg (by rintro (h | h | h | h); exact h c1; exact c2 h; exact c3 h.1; rw [c6] at h; cases h)])
            clear c5 c7 c8 c6 c1 c2 c3 HC
            go_wp2_with (go_at_call 208; refine (HIB.out _).mono ?_; rintro e w1 ⟨rfl, rfl⟩)
            go_ret3
            exact ⟨by rw [HR.out]; rfl, rfl⟩
        · have e7 : (F : Int) < 55296 := by omega
          have b5 : decide ((1114111 : Int) < (F : Int)) = false := decide_eq_false e5
          have b7 : decide ((55296 : Int) ≤ (F : Int)) = false := decide_eq_false (by omega)
          have c6 : Lib.validRune (F : Int) = true := by unfold Lib.validRune; exact decide_eq_true (by omega)
          have HR := hid (show hxP (s.data.toList.drop i) = (0, F, k + 1) from by rw [HC.out, if_neg (by rintro (h | h | h | h); exact h c1; exact c2 h; exact c3 h.1; rw [c6] at h; cases h)])
          clear c5 c7 e5 e7 hbd HBd c6 c1 c2 c3 HC
          go_wp2_with (go_at_call 208; refine (HIB.out _).mono ?_; rintro e w1 ⟨rfl, rfl⟩)
          go_ret3
          exact ⟨by rw [HR.out]; rfl, rfl⟩
    · rw [hxI_yes hx] at hIB
      have HIB := hid hIB
      have hv := hxv_le hx
      have HA2 := hid (show ∀ j (hj : i + j < s.size), j < k + 1 → isHx s[i + j].toNat = true from fun j hj hjk => by
        by_cases e : j < k
        · exact HA.out j hj e
        · obtain rfl : j = k := by omega
          exact hx)
      have HSn := hid (show hxF ((s.data.toList.drop i).take (k + 1)) = 16 * hxF ((s.data.toList.drop i).take k) + hxv s[i + k].toNat from by
        rw [List.take_succ_eq_append_getElem (by rw [List.length_drop, size_list]; omega), hxF_snoc, List.getElem_drop, get_list s (i + k) hlt])
      clear hIB hx HFin HL HXE HXC HA h6'
      generalize hxF ((s.data.toList.drop i).take k) = F at *
      generalize hxv s[i + k].toNat = V at *
      go_wp2_with (go_at_call 208; refine (HIB.out _).mono ?_; rintro e w1 ⟨rfl, rfl⟩)
      go_round
      case rel => exact ⟨k + 1, by omega, by omega, by go_num, by rw [HSn.out]; go_num, HA2⟩
      case measure => (simp [RowKit.intOf] <;> omega)
end Go.Proofs.YtpnogmicfomofaaGreatDoor.Adr
/-
  String literals: the reference's Escaped, One. Conditions: those ahead of each theorem.
-/
namespace Go.Proofs.YtpnogmicfomofaaGreatDoor.Adr
open Go.RowKit Go.Sort Go.Lib Go.Maps
open Go.Lib (hid)
set_option linter.unusedVariables false
set_option linter.unusedSimpArgs false

/-- What One hands back. -/
def OneR (i : Nat) (y : Int × List UInt8 × Nat) : Ending := .returned (.tuple #[.string ⟨y.2.1.toArray⟩, .int .i64 ((if y.1 = 0 then i + y.2.2 else 0 : Nat) : Nat), .int .i64 y.1])
def escO (x : Int × Nat × Nat) : Int × List UInt8 × Nat := if x.1 ≠ 0 then (x.1, [], 0) else (0, Lib.encodeRune (x.2.1 : Nat), x.2.2 + 1)
theorem ext_one (s : ByteArray) (k : Nat) (h : k < s.size) : s.extract k (k + 1) = ⟨[s[k]].toArray⟩ := by
  apply ba_ext
  rw [Lib.extract_data, Nat.add_sub_cancel_left, drop_cons s k h]
  rfl
theorem enc_byte (c : UInt8) (h : c.toNat < 128) : Lib.encodeRune (c.toNat : Nat) = [c] := by
  unfold Lib.encodeRune
  rw [Lib.encodeRuneZ_one (by omega) (by omega)]
  simp
theorem enc_lit : Lib.encodeRune (10 : Nat) = [10] ∧ Lib.encodeRune (13 : Nat) = [13] ∧ Lib.encodeRune (9 : Nat) = [9] := by decide

set_option maxHeartbeats 8000000 in
set_option maxRecDepth 100000 in
theorem rescd_any (s : ByteArray) (i : Nat) (w : World) (hi : i < s.size) (hs : s.size ≤ 1000000) : Calls Tryz.prog 165 #[.string s, .int .i64 i] w fun e w' => e = OneR i (escO (escS (s.data.toList.drop (i + 1)))) ∧ Below w.heap.size w w' := by
  have HB := hid (Below.refl w.heap.size w)
  by_cases h0 : i + 1 < s.size
  case neg =>
    have HR := hid (show escS (s.data.toList.drop (i + 1)) = (40, 0, 0) by rw [List.drop_eq_nil_of_le (by rw [size_list]; omega)]; rfl)
    have e0 : (s.size : Int) ≤ (i : Int) + 1 := by omega
    clear h0
    go_enter Tryz.func165, Tryz.ntmps165
    go_wp2
    go_ret3
    exact ⟨by rw [HR.out]; rfl, HB.out⟩
  have e0 : ¬ (s.size : Int) ≤ (i : Int) + 1 := by omega
  have e0' : (i : Int) + 1 < (s.size : Int) := by omega
  have hsz := ext_size s (i + 1) (by omega)
  have hE := escS_at (s.extract (i + 1) s.size) (by omega)
  rw [extract_list, ext_get s (i + 1) 0 (by omega)] at hE
  simp only [Nat.add_zero] at hE
  have HE := hid hE
  have hc := lt256 s[i + 1]
  clear hE
  by_cases h110 : s[i + 1].toNat = 110
  · have e110 : ((s[i + 1].toNat : Int) == 110) = true := by simp; omega
    have HR := hid (show escO (escS (s.data.toList.drop (i + 1))) = (0, [10], 2) by rw [HE.out, if_pos h110]; unfold escO; rw [if_neg (by simp)]; rw [show Lib.encodeRune _ = _ from enc_lit.1])
    clear HE h110  hsz
    go_enter Tryz.func165, Tryz.ntmps165
    go_wp2
    go_ret3
    exact ⟨by rw [HR.out]; rfl, HB.out⟩
  have e110 : ((s[i + 1].toNat : Int) == 110) = false := by simp; omega
  by_cases h114 : s[i + 1].toNat = 114
  · have e114 : ((s[i + 1].toNat : Int) == 114) = true := by simp; omega
    have HR := hid (show escO (escS (s.data.toList.drop (i + 1))) = (0, [13], 2) by rw [HE.out, if_neg h110, if_pos h114]; unfold escO; rw [if_neg (by simp)]; rw [show Lib.encodeRune _ = _ from enc_lit.2.1])
    clear HE h114 h110 hsz
    go_enter Tryz.func165, Tryz.ntmps165
    go_wp2
    go_ret3
    exact ⟨by rw [HR.out]; rfl, HB.out⟩
  have e114 : ((s[i + 1].toNat : Int) == 114) = false := by simp; omega
  by_cases h116 : s[i + 1].toNat = 116
  · have e116 : ((s[i + 1].toNat : Int) == 116) = true := by simp; omega
    have HR := hid (show escO (escS (s.data.toList.drop (i + 1))) = (0, [9], 2) by rw [HE.out, if_neg h110, if_neg h114, if_pos h116]; unfold escO; rw [if_neg (by simp)]; rw [show Lib.encodeRune _ = _ from enc_lit.2.2])
    clear HE h116 h110 h114 hsz
    go_enter Tryz.func165, Tryz.ntmps165
    go_wp2
    go_ret3
    exact ⟨by rw [HR.out]; rfl, HB.out⟩
  have e116 : ((s[i + 1].toNat : Int) == 116) = false := by simp; omega
  by_cases h34 : s[i + 1].toNat = 34
  · have e34 : ((s[i + 1].toNat : Int) == 34) = true := by simp; omega
    have HR := hid (show escO (escS (s.data.toList.drop (i + 1))) = (0, [s[i + 1]], 2) by rw [HE.out, if_neg h110, if_neg h114, if_neg h116, if_pos (Or.inl h34)]; unfold escO; rw [if_neg (by simp)]; rw [show Lib.encodeRune _ = _ from enc_byte s[i + 1] (by omega)])
    have HX := hid (ext_one s (i + 1) h0)
    have hx : s.extract (i + 1) (i + 2) = ⟨[s[i + 1]].toArray⟩ := HX.out
    clear HE h34 h110 h114 h116 hsz
    go_enter Tryz.func165, Tryz.ntmps165
    go_wp2
    go_ret3
    exact ⟨by rw [HR.out, show OneR i (0, [s[i + 1]], 2) = .returned (.tuple #[.string (s.extract (i + 1) (i + 2)), .int .i64 ((i : Int) + 2), .int .i64 0]) from by rw [hx]; rfl]; rfl, HB.out⟩
  have e34 : ((s[i + 1].toNat : Int) == 34) = false := by simp; omega
  by_cases h92 : s[i + 1].toNat = 92
  · have e92 : ((s[i + 1].toNat : Int) == 92) = true := by simp; omega
    have HR := hid (show escO (escS (s.data.toList.drop (i + 1))) = (0, [s[i + 1]], 2) by rw [HE.out, if_neg h110, if_neg h114, if_neg h116, if_pos (Or.inr h92)]; unfold escO; rw [if_neg (by simp)]; rw [show Lib.encodeRune _ = _ from enc_byte s[i + 1] (by omega)])
    have HX := hid (ext_one s (i + 1) h0)
    have hx : s.extract (i + 1) (i + 2) = ⟨[s[i + 1]].toArray⟩ := HX.out
    clear HE h92 h110 h114 h116 h34 hsz
    go_enter Tryz.func165, Tryz.ntmps165
    go_wp2
    go_ret3
    exact ⟨by rw [HR.out, show OneR i (0, [s[i + 1]], 2) = .returned (.tuple #[.string (s.extract (i + 1) (i + 2)), .int .i64 ((i : Int) + 2), .int .i64 0]) from by rw [hx]; rfl]; rfl, HB.out⟩
  have e92 : ((s[i + 1].toNat : Int) == 92) = false := by simp; omega
  have hno : ¬ (s[i + 1].toNat = 34 ∨ s[i + 1].toNat = 92) := by omega
  by_cases h117 : s[i + 1].toNat = 117
  · have e117 : ((s[i + 1].toNat : Int) == 117) = true := by simp; omega
    have HX := hid (HE.out.trans (by rw [if_neg h110, if_neg h114, if_neg h116, if_neg hno, if_pos h117]))
    clear HE h117 h110 h114 h116 h34 h92 hno
    by_cases h1 : s.size = i + 2
    · have HR := hid (show escS (s.data.toList.drop (i + 1)) = (40, 0, 0) from HX.out.trans (dif_pos (by omega)))
      have e1 : (s.size : Int) ≤ (i : Int) + 2 := by omega
      clear HX h1 hsz
      go_enter Tryz.func165, Tryz.ntmps165
      go_wp2
      go_ret3
      exact ⟨by rw [HR.out]; rfl, HB.out⟩
    · have e1 : ¬ (s.size : Int) ≤ (i : Int) + 2 := by omega
      have h2 : i + 2 < s.size := by omega
      have h2z : (i : Int) + 2 < (s.size : Int) := by omega
      have h3z : (i : Int) + 3 ≤ (s.size : Int) := by omega
      have hY := HX.out.trans (dif_neg (by omega))
      rw [ext_get s (i + 1) 1 (by omega), List.drop_drop] at hY
      have HY := hid (show _ from hY)
      clear hY
      by_cases h123 : s[i + 2].toNat = 123
      · have e123 : ((s[i + 2].toNat : Int) != 123) = false := by simp; omega
        have HR := hid (HY.out.trans (if_neg (by simpa using h123)))
        have HP := hid (rpoint_any s (i + 3) w (by omega) hs)
        have hok := hxP_ok (l := s.data.toList.drop (i + 3))
        rw [show i + 1 + 2 = i + 3 from rfl] at HR
        generalize hxP (s.data.toList.drop (i + 3)) = x at *
        obtain ⟨x1, x2, x3⟩ := x
        simp only at HR hok
        unfold PtR at HP
        simp only at HP
        by_cases hx : x1 = 0
        · subst hx
          obtain ⟨o1, o2, o3⟩ := hok rfl
          have HO := hid (fun W => renc_any x2 o1 W)
          have hR2 : escO (escS (s.data.toList.drop (i + 1))) = (0, Lib.encodeRune (x2 : Nat), x3 + 3) := by rw [HR.out]; rfl
          have HR2 := hid hR2
          clear HX HY HR h1 h123 hok hsz hR2 o1
          simp only [if_true] at HP
          go_enter Tryz.func165, Tryz.ntmps165
          go_wp2_with (first
            | (go_at_call 192; refine HP.out.mono ?_; rintro e w1 ⟨rfl, rfl⟩)
            | (go_at_call 193; refine (HO.out _).mono ?_; rintro e w2 ⟨rfl, hb⟩; have HB2 := hid hb; clear hb))
          go_ret3
          refine ⟨?_, HB2.out⟩
          rw [HR2.out]
          unfold OneR
          simp only [if_true]
          rw [show i + (x3 + 3) = i + 3 + x3 by omega]
          rfl
        · have e3 : (x1 != 0) = true := by simpa using hx
          have hR2 : escO (escS (s.data.toList.drop (i + 1))) = (x1, [], 0) := by rw [HR.out]; unfold escO; rw [if_pos hx]
          have HR2 := hid hR2
          have HNx := hid hx
          rw [if_neg hx] at HP
          clear HX HY HR h1 h123 hok hsz hR2 hx
          go_enter Tryz.func165, Tryz.ntmps165
          go_wp2_with (go_at_call 192; refine HP.out.mono ?_; rintro e w1 ⟨rfl, rfl⟩)
          go_ret3
          exact ⟨by rw [HR2.out]; unfold OneR; rw [if_neg HNx.out]; rfl, HB.out⟩
      · have e123 : ((s[i + 2].toNat : Int) != 123) = true := by simp; omega
        have HR := hid (HY.out.trans (if_pos h123))
        clear HX HY h1 h123 hsz
        go_enter Tryz.func165, Tryz.ntmps165
        go_wp2
        go_ret3
        exact ⟨by rw [HR.out]; rfl, HB.out⟩
  · have e117 : ((s[i + 1].toNat : Int) == 117) = false := by simp; omega
    have HR := hid (show escS (s.data.toList.drop (i + 1)) = (2, 0, 0) from HE.out.trans (by rw [if_neg h110, if_neg h114, if_neg h116, if_neg hno, if_neg h117]))
    clear HE h117 h110 h114 h116 h34 h92 hno hsz
    go_enter Tryz.func165, Tryz.ntmps165
    go_wp2
    go_ret3
    exact ⟨by rw [HR.out]; rfl, HB.out⟩
end Go.Proofs.YtpnogmicfomofaaGreatDoor.Adr
