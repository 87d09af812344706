import Derived.Test.YtpnogmicfomofaaGreatDoorZa
import Derived.Deep.LoopGhost
import Derived.IntWalk
import Derived.Lib.Builder
import Derived.Lib.AppendStr
import Derived.Lib.UnsafeStr
import Derived.Laws.Externs
/-
  Addresses: bytes of identifiers, identifiers, types: both sides. Conditions: those ahead of each theorem.
-/
namespace Go.Proofs.YtpnogmicfomofaaGreatDoor.Adr
open Go.RowKit Go.Sort Go.Lib Go.Maps
open Go.Lib (hid)
set_option linter.unusedVariables false
set_option linter.unusedSimpArgs false

def ltr (c : Nat) : Bool := decide (97 ≤ c ∧ c ≤ 122) || decide (65 ≤ c ∧ c ≤ 90) || decide (c = 95)
def dig (c : Nat) : Bool := decide (48 ≤ c ∧ c ≤ 57)
def wrd (c : Nat) : Bool := ltr c || dig c
/-- An identifier. -/
def idB (l : List UInt8) : Bool := !l.isEmpty && decide (l.length ≤ 64) && ltr (l.headD 0).toNat && l.all fun c => wrd c.toNat
theorem orm (c : UInt8) : ∃ m : Nat, bits BinOp.or IntKind.u8 (c.toNat : Int) 32 = (m : Int) ∧ ((97 ≤ m ∧ m ≤ 122) ↔ ((97 ≤ c.toNat ∧ c.toNat ≤ 122) ∨ (65 ≤ c.toNat ∧ c.toNat ≤ 90))) := by
  have : ∀ c : Fin 256, ∃ m : Fin 256, bits BinOp.or IntKind.u8 (c.val : Int) 32 = (m.val : Int) ∧ ((97 ≤ m.val ∧ m.val ≤ 122) ↔ ((97 ≤ c.val ∧ c.val ≤ 122) ∨ (65 ≤ c.val ∧ c.val ≤ 90))) := by decide +kernel
  obtain ⟨m, h⟩ := this ⟨c.toNat, c.toNat_lt⟩
  exact ⟨m.val, h⟩
theorem size_list (s : ByteArray) : s.data.toList.length = s.size := by rw [Array.length_toList]; rfl
theorem get_list (s : ByteArray) (i : Nat) (h : i < s.size) : s.data.toList[i]'(by rw [size_list]; exact h) = s[i] := by rfl
theorem ret_bool {a b : Bool} (h : a = b) : Ending.returned (.bool b) = .returned (.bool a) := by rw [h]
theorem lt256 (c : UInt8) : c.toNat ≤ 255 := by have := c.toNat_lt; omega

theorem rletter_any (c : UInt8) (w : World) : Calls Tryz.prog 98 #[.int .u8 c.toNat] w fun e w' => e = .returned (.bool (ltr c.toNat)) ∧ w = w' := by
  have hc := lt256 c
  generalize c.toNat = n at *
  by_cases h1 : (97 : Int) ≤ n <;> by_cases h2 : (n : Int) ≤ 122 <;> by_cases h3 : (65 : Int) ≤ n <;> by_cases h4 : (n : Int) ≤ 90 <;> first
    | (exfalso; omega)
    | (go_enter Tryz.func98, Tryz.ntmps98
       go_wp2
       go_ret
       exact ⟨ret_bool (by rw [Bool.eq_iff_iff]; simp [ltr]; omega), rfl⟩)

def okI (i c : Nat) : Bool := ltr c || (decide (i ≠ 0) && dig c)
theorem okI_iff (i c : Nat) : okI i c = true ↔ (97 ≤ c ∧ c ≤ 122 ∨ 65 ≤ c ∧ c ≤ 90 ∨ c = 95) ∨ (i ≠ 0 ∧ 48 ≤ c ∧ c ≤ 57) := by simp [okI, ltr, dig]; omega
theorem idB_yes {s : ByteArray} (h : ∀ j (hj : j < s.size), okI j s[j].toNat = true) : idB s.data.toList = (!decide (s.size = 0) && decide (s.size ≤ 64)) := by
  unfold idB
  have hl := size_list s
  cases hs : s.data.toList with
  | nil => rw [hs] at hl; simp at hl; simp [← hl]
  | cons x l =>
    have h0 : s.size = l.length + 1 := by rw [← hl, hs]; rfl
    have hx : okI 0 x.toNat = true := by
      have := h 0 (by omega)
      rw [← get_list s 0 (by omega)] at this
      simpa [hs] using this
    have hall : ((x :: l).all fun c => wrd c.toNat) = true := by
      rw [List.all_eq_true]
      intro c hc
      rw [← hs] at hc
      obtain ⟨j, hj, rfl⟩ := List.mem_iff_getElem.1 hc
      rw [hl] at hj
      have := h j hj
      rw [get_list s j hj]
      simp [okI, wrd, ltr, dig] at this ⊢
      omega
    have hl0 : ltr x.toNat = true := by simpa [okI] using hx
    rw [hall]
    simp [h0, hl0]
theorem idB_no {s : ByteArray} {j : Nat} (hj : j < s.size) (h : okI j s[j].toNat = false) : idB s.data.toList = false := by
  unfold idB
  have hl := size_list s
  cases hs : s.data.toList with
  | nil => rfl
  | cons x l =>
    by_cases h0 : j = 0
    · subst h0
      have : ltr x.toNat = false := by
        rw [← get_list s 0 hj] at h
        simpa [okI, hs] using h
      simp [this]
    · have : ((x :: l).all fun c => wrd c.toNat) = false := by
        rw [List.all_eq_false]
        refine ⟨s[j], ?_, ?_⟩
        · rw [← hs, ← get_list s j hj]; exact List.getElem_mem _
        · simp [okI, wrd, ltr, dig] at h ⊢; omega
      rw [this]; simp

set_option maxHeartbeats 4000000 in
theorem pident_any (s : ByteArray) (w : World) (hs : s.size ≤ 1000000) : Calls Tryz.prog 156 #[.string s] w fun e w' => e = .returned (.bool (idB s.data.toList)) ∧ w = w' := by
  have HY := hid (idB_yes (s := s))
  have HN := hid (fun j hj h => idB_no (s := s) (j := j) hj h)
  go_enter Tryz.func156, Tryz.ntmps156
  go_wp2
  go_loop [7] (fun i => ∃ k : Nat, k ≤ s.size ∧ i = .int .i64 k ∧ Hid (∀ j (hj : j < s.size), j < k → okI j s[j].toNat = true)) (fun i => s.size - (RowKit.intOf i).toNat)
  case atStart => exact ⟨0, by omega, rfl, hid (fun j hj h => absurd h (by omega))⟩
  case round =>
    obtain ⟨k, hk, rfl, HA⟩ := hrel
    by_cases hlt : k < s.size
    · obtain ⟨m, hm, hmi⟩ := orm s[k]
      have HAk := hid (fun (h : okI k s[k].toNat = true) => show ∀ j (hj : j < s.size), j < k + 1 → okI j s[j].toNat = true from fun j hj hjk => by
        by_cases e : j < k
        · exact HA.out j hj e
        · obtain rfl : j = k := by omega
          exact h)
      have HNk := hid (HN.out k hlt)
      have hc := lt256 s[k]
      have hI := okI_iff k s[k].toNat
      clear HA HN HY
      cases hok : okI k s[k].toNat
      · have HR := hid (HNk.out hok)
        have hI2 := mt hI.2 (by rw [hok]; simp)
        clear hI hok HNk HAk
        have h1 : ((s[k].toNat : Int) != 95) = true := by simp; omega
        have h2 : (m : Int) < 97 ∨ 122 < (m : Int) := by omega
        rcases h2 with h2 | h2 <;> by_cases h4 : (k : Int) = 0 <;> by_cases h5 : (s[k].toNat : Int) < 48 <;> first
          | (exfalso; omega)
          | (have h4' := h4
             first | (have h4b : ((k : Int) == 0) = true := by simp; omega) | (have h4b : ((k : Int) == 0) = false := by simp; omega)
             try have h6 : (57 : Int) < (s[k].toNat : Int) := by omega
             clear h4 h4' hI2 hmi
             go_wp2
             go_ret
             exact ⟨ret_bool HR.out, rfl⟩)
      · have HX := hid (HAk.out hok)
        have hI2 := hI.1 hok
        clear hI hok HNk HAk
        by_cases h0 : (s[k].toNat : Int) = 95
        · have h1 : ((s[k].toNat : Int) != 95) = false := by simp; omega
          clear h0 hI2 hmi
          go_wp2
          go_round
          case rel => exact ⟨k + 1, by omega, by go_num, HX⟩
          case measure => (simp [RowKit.intOf] <;> omega)
        · have h1 : ((s[k].toNat : Int) != 95) = true := by simp; omega
          by_cases h2 : (97 : Int) ≤ (m : Int) <;> by_cases h3 : (m : Int) ≤ 122 <;> first
            | (exfalso; omega)
            | (have _hlet : (97 : Int) ≤ (m : Int) ∧ (m : Int) ≤ 122 := ⟨h2, h3⟩
               clear h0 hI2 hmi _hlet
               go_wp2
               go_round
               case rel => exact ⟨k + 1, by omega, by go_num, HX⟩
               case measure => (simp [RowKit.intOf] <;> omega))
            | (have h4 : ((k : Int) == 0) = false := by simp; omega
               have h5 : (48 : Int) ≤ (s[k].toNat : Int) := by omega
               have h6 : (s[k].toNat : Int) ≤ 57 := by omega
               clear h0 hI2 hmi
               go_wp2
               go_round
               case rel => exact ⟨k + 1, by omega, by go_num, HX⟩
               case measure => (simp [RowKit.intOf] <;> omega))
    · have hke : k = s.size := by omega
      have HR := hid (HY.out (fun j hj => HA.out j hj (by omega)))
      clear HY HN HA hke
      by_cases h0 : s.size = 0
      · have e0 : s.toList.isEmpty = true := by rw [ByteArray.toList_eq]; have := size_list s; cases h : s.data.toList with | nil => rfl | cons _ _ => rw [h] at this; simp at this; omega
        have HR2 := hid (show idB s.data.toList = false by rw [HR.out]; simp [h0])
        clear h0
        go_wp2
        go_ret
        exact ⟨ret_bool HR2.out, rfl⟩
      · have e0 : s.toList.isEmpty = false := by rw [ByteArray.toList_eq]; have := size_list s; cases h : s.data.toList with | nil => rw [h] at this; simp at this; omega | cons _ _ => rfl
        have HR2 := hid (show idB s.data.toList = decide (s.size ≤ 64) by rw [HR.out]; simp [h0])
        clear h0
        go_wp2
        go_ret
        exact ⟨ret_bool (by rw [HR2.out, Bool.eq_iff_iff]; simp; omega), rfl⟩

/-- The names that no type bears. -/
def rsv (l : List UInt8) : Bool := [[109, 111, 100, 117, 108, 101], [100, 97, 116, 97], [118, 97, 114], [108, 111, 99, 97, 108], [101, 97, 99, 104], [99, 111, 117, 110, 116], [114, 101, 109, 111, 116, 101], [111, 117, 116, 112, 117, 116], [112, 97, 116, 104], [115, 101, 108, 102], [99, 104, 97, 110, 103, 101]].any fun x => l == x
set_option maxHeartbeats 4000000 in
theorem pkind_any (s : ByteArray) (w : World) (hs : s.size ≤ 1000000) : Calls Tryz.prog 125 #[.string s] w fun e w' => e = .returned (.bool (idB s.data.toList && !rsv s.data.toList)) ∧ w = w' := by
  have HI := hid (pident_any s w hs)
  have HRV := hid (show rsv s.data.toList = ((s.toList == [109, 111, 100, 117, 108, 101]) || (s.toList == [100, 97, 116, 97]) || (s.toList == [118, 97, 114]) || (s.toList == [108, 111, 99, 97, 108]) || (s.toList == [101, 97, 99, 104]) || (s.toList == [99, 111, 117, 110, 116]) || (s.toList == [114, 101, 109, 111, 116, 101]) || (s.toList == [111, 117, 116, 112, 117, 116]) || (s.toList == [112, 97, 116, 104]) || (s.toList == [115, 101, 108, 102]) || (s.toList == [99, 104, 97, 110, 103, 101])) by rw [ByteArray.toList_eq]; simp [rsv, Bool.or_assoc])
  cases h0 : (s.toList == [109, 111, 100, 117, 108, 101])
  case true =>
    have HR := hid (show (idB s.data.toList && !rsv s.data.toList) = false by rw [HRV.out, h0]; simp)
    clear HRV HI
    go_enter Tryz.func125, Tryz.ntmps125
    go_wp2
    go_ret
    exact ⟨ret_bool HR.out, rfl⟩
  cases h1 : (s.toList == [100, 97, 116, 97])
  case true =>
    have HR := hid (show (idB s.data.toList && !rsv s.data.toList) = false by rw [HRV.out, h1]; simp)
    clear HRV HI
    go_enter Tryz.func125, Tryz.ntmps125
    go_wp2
    go_ret
    exact ⟨ret_bool HR.out, rfl⟩
  cases h2 : (s.toList == [118, 97, 114])
  case true =>
    have HR := hid (show (idB s.data.toList && !rsv s.data.toList) = false by rw [HRV.out, h2]; simp)
    clear HRV HI
    go_enter Tryz.func125, Tryz.ntmps125
    go_wp2
    go_ret
    exact ⟨ret_bool HR.out, rfl⟩
  cases h3 : (s.toList == [108, 111, 99, 97, 108])
  case true =>
    have HR := hid (show (idB s.data.toList && !rsv s.data.toList) = false by rw [HRV.out, h3]; simp)
    clear HRV HI
    go_enter Tryz.func125, Tryz.ntmps125
    go_wp2
    go_ret
    exact ⟨ret_bool HR.out, rfl⟩
  cases h4 : (s.toList == [101, 97, 99, 104])
  case true =>
    have HR := hid (show (idB s.data.toList && !rsv s.data.toList) = false by rw [HRV.out, h4]; simp)
    clear HRV HI
    go_enter Tryz.func125, Tryz.ntmps125
    go_wp2
    go_ret
    exact ⟨ret_bool HR.out, rfl⟩
  cases h5 : (s.toList == [99, 111, 117, 110, 116])
  case true =>
    have HR := hid (show (idB s.data.toList && !rsv s.data.toList) = false by rw [HRV.out, h5]; simp)
    clear HRV HI
    go_enter Tryz.func125, Tryz.ntmps125
    go_wp2
    go_ret
    exact ⟨ret_bool HR.out, rfl⟩
  cases h6 : (s.toList == [114, 101, 109, 111, 116, 101])
  case true =>
    have HR := hid (show (idB s.data.toList && !rsv s.data.toList) = false by rw [HRV.out, h6]; simp)
    clear HRV HI
    go_enter Tryz.func125, Tryz.ntmps125
    go_wp2
    go_ret
    exact ⟨ret_bool HR.out, rfl⟩
  cases h7 : (s.toList == [111, 117, 116, 112, 117, 116])
  case true =>
    have HR := hid (show (idB s.data.toList && !rsv s.data.toList) = false by rw [HRV.out, h7]; simp)
    clear HRV HI
    go_enter Tryz.func125, Tryz.ntmps125
    go_wp2
    go_ret
    exact ⟨ret_bool HR.out, rfl⟩
  cases h8 : (s.toList == [112, 97, 116, 104])
  case true =>
    have HR := hid (show (idB s.data.toList && !rsv s.data.toList) = false by rw [HRV.out, h8]; simp)
    clear HRV HI
    go_enter Tryz.func125, Tryz.ntmps125
    go_wp2
    go_ret
    exact ⟨ret_bool HR.out, rfl⟩
  cases h9 : (s.toList == [115, 101, 108, 102])
  case true =>
    have HR := hid (show (idB s.data.toList && !rsv s.data.toList) = false by rw [HRV.out, h9]; simp)
    clear HRV HI
    go_enter Tryz.func125, Tryz.ntmps125
    go_wp2
    go_ret
    exact ⟨ret_bool HR.out, rfl⟩
  cases h10 : (s.toList == [99, 104, 97, 110, 103, 101])
  case true =>
    have HR := hid (show (idB s.data.toList && !rsv s.data.toList) = false by rw [HRV.out, h10]; simp)
    clear HRV HI
    go_enter Tryz.func125, Tryz.ntmps125
    go_wp2
    go_ret
    exact ⟨ret_bool HR.out, rfl⟩
  have HR := hid (show (idB s.data.toList && !rsv s.data.toList) = idB s.data.toList by rw [HRV.out, h0, h1, h2, h3, h4, h5, h6, h7, h8, h9, h10]; simp)
  clear HRV
  go_enter Tryz.func125, Tryz.ntmps125
  go_wp2_with fail
  refine HI.out.mono ?_
  rintro e w1 ⟨rfl, hw⟩
  obtain rfl := hw
  go_wp2
  go_ret
  exact ⟨ret_bool HR.out, rfl⟩
end Go.Proofs.YtpnogmicfomofaaGreatDoor.Adr
/-
  Addresses: the reference's identifiers and reserved names. Conditions: those ahead of each theorem.
-/
namespace Go.Proofs.YtpnogmicfomofaaGreatDoor.Adr
open Go.RowKit Go.Sort Go.Lib Go.Maps
open Go.Lib (hid)
set_option linter.unusedVariables false
set_option linter.unusedSimpArgs false

def nms : List ByteArray := [⟨#[109, 111, 100, 117, 108, 101]⟩, ⟨#[100, 97, 116, 97]⟩, ⟨#[118, 97, 114]⟩, ⟨#[108, 111, 99, 97, 108]⟩, ⟨#[111, 117, 116, 112, 117, 116]⟩, ⟨#[101, 97, 99, 104]⟩, ⟨#[99, 111, 117, 110, 116]⟩, ⟨#[114, 101, 109, 111, 116, 101]⟩, ⟨#[112, 97, 116, 104]⟩, ⟨#[115, 101, 108, 102]⟩, ⟨#[99, 104, 97, 110, 103, 101]⟩]
theorem rsv_eq (s : ByteArray) : rsv s.data.toList = nms.any fun x => (x.toList == s.toList) := by
  have hb : ∀ a b : List UInt8, (a == b) = (b == a) := fun a b => by rw [Bool.eq_iff_iff]; simp only [beq_iff_eq]; exact ⟨Eq.symm, Eq.symm⟩
  have e : ∀ x : ByteArray, x.toList = x.data.toList := fun x => ByteArray.toList_eq x
  simp only [rsv, nms, List.any_cons, List.any_nil, e, Bool.or_false]
  rw [hb s.data.toList [109, 111, 100, 117, 108, 101]]
  rw [hb s.data.toList [100, 97, 116, 97]]
  rw [hb s.data.toList [118, 97, 114]]
  rw [hb s.data.toList [108, 111, 99, 97, 108]]
  rw [hb s.data.toList [101, 97, 99, 104]]
  rw [hb s.data.toList [99, 111, 117, 110, 116]]
  rw [hb s.data.toList [114, 101, 109, 111, 116, 101]]
  rw [hb s.data.toList [111, 117, 116, 112, 117, 116]]
  rw [hb s.data.toList [112, 97, 116, 104]]
  rw [hb s.data.toList [115, 101, 108, 102]]
  rw [hb s.data.toList [99, 104, 97, 110, 103, 101]]
  ac_rfl
theorem ident_first {s : ByteArray} (h : 0 < s.size) : s.data.toList.headD 0 = s[0] := by
  have := get_list s 0 h
  cases hs : s.data.toList with
  | nil => have h2 := size_list s; rw [hs] at h2; simp at h2; omega
  | cons x l => simp [hs] at this; simpa using this
theorem idB_not {s : ByteArray} (h : s.size = 0 ∨ 64 < s.size ∨ ∃ h : 0 < s.size, ltr s[0].toNat = false) : idB s.data.toList = false := by
  have hl := size_list s
  unfold idB
  rcases h with h | h | ⟨h0, h⟩
  · have : s.data.toList = [] := List.eq_nil_of_length_eq_zero (by omega)
    rw [this]; rfl
  · rw [hl, decide_eq_false (by omega)]; simp
  · rw [ident_first h0, h]; simp
theorem okI_of (i c : Nat) (h : ltr c = true) : okI i c = true := by unfold okI; rw [h]; rfl
theorem str_nil {s : ByteArray} (h : s.size = 0) : s.toList.isEmpty = true := by
  rw [ByteArray.toList_eq]
  have := size_list s
  cases hs : s.data.toList with
  | nil => rfl
  | cons _ _ => rw [hs] at this; simp at this; omega
theorem str_cons {s : ByteArray} (h : s.size ≠ 0) : s.toList.isEmpty = false := by
  rw [ByteArray.toList_eq]
  have := size_list s
  cases hs : s.data.toList with
  | nil => rw [hs] at this; simp at this; omega
  | cons _ _ => rfl

set_option maxHeartbeats 4000000 in
theorem rident_any (s : ByteArray) (w : World) (hs : s.size ≤ 1000000) : Calls Tryz.prog 71 #[.string s] w fun e w' => e = .returned (.bool (idB s.data.toList)) ∧ w = w' := by
  by_cases h0 : s.size = 0
  · have HR := hid (idB_not (Or.inl h0))
    have e0 := str_nil h0
    clear h0
    go_enter Tryz.func71, Tryz.ntmps71
    go_wp2
    go_ret
    exact ⟨ret_bool HR.out, rfl⟩
  have e0 := str_cons h0
  have hpos : 0 < s.size := by omega
  by_cases h1 : 64 < s.size
  · have HR := hid (idB_not (Or.inr (Or.inl h1)))
    have h2 : (64 : Int) < s.size := by omega
    clear h0 h1
    go_enter Tryz.func71, Tryz.ntmps71
    go_wp2
    go_ret
    exact ⟨ret_bool HR.out, rfl⟩
  have h2 : ¬ (64 : Int) < s.size := by omega
  have HL0 := hid (rletter_any s[0] w)
  cases hl0 : ltr s[0].toNat
  · have HR := hid (idB_not (Or.inr (Or.inr ⟨hpos, hl0⟩)))
    rw [hl0] at HL0
    clear h0 h1 hl0
    go_enter Tryz.func71, Tryz.ntmps71
    go_wp2_with (go_at_call 98; refine HL0.out.mono ?_; rintro e w1 ⟨rfl, rfl⟩)
    go_ret
    exact ⟨ret_bool HR.out, rfl⟩
  have HY := hid (fun h => (idB_yes (s := s) h).trans (by rw [decide_eq_false h0, decide_eq_true (show s.size ≤ 64 by omega)]))
  have HN := hid (fun j hj h => idB_no (s := s) (j := j) hj h)
  have HF := hid hl0
  rw [hl0] at HL0
  clear h0 h1 hl0
  go_enter Tryz.func71, Tryz.ntmps71
  go_wp2_with (go_at_call 98; refine HL0.out.mono ?_; rintro e w1 ⟨rfl, rfl⟩)
  go_loop [3] (fun i => ∃ k : Nat, k ≤ s.size ∧ i = .int .i64 k ∧ Hid (∀ j (hj : j < s.size), j < k → okI j s[j].toNat = true)) (fun i => s.size - (RowKit.intOf i).toNat)
  case atStart => exact ⟨0, by omega, rfl, hid (fun j hj h => absurd h (by omega))⟩
  case round =>
    obtain ⟨k, hk, rfl, HA⟩ := hrel
    by_cases hlt : k < s.size
    · have HAk := hid (fun (h : okI k s[k].toNat = true) => show ∀ j (hj : j < s.size), j < k + 1 → okI j s[j].toNat = true from fun j hj hjk => by
        by_cases e : j < k
        · exact HA.out j hj e
        · obtain rfl : j = k := by omega
          exact h)
      have HNk := hid (HN.out k hlt)
      have HLk := hid (rletter_any s[k] w)
      have hc := lt256 s[k]
      cases hlk : ltr s[k].toNat
      · have hk0 : k ≠ 0 := fun e => by subst e; rw [HF.out] at hlk; cases hlk
        rw [hlk] at HLk
        by_cases h5 : (s[k].toNat : Int) < 48
        · have HR := hid (HNk.out (by unfold okI dig; rw [hlk]; simp; omega))
          clear HN HA HY hlk HNk HAk hk0
          go_wp2_with (go_at_call 98; refine HLk.out.mono ?_; rintro e w1 ⟨rfl, rfl⟩)
          go_ret
          exact ⟨ret_bool HR.out, rfl⟩
        · by_cases h6 : (57 : Int) < (s[k].toNat : Int)
          · have HR := hid (HNk.out (by unfold okI dig; rw [hlk]; simp; omega))
            clear HN HA HY hlk HNk HAk hk0
            go_wp2_with (go_at_call 98; refine HLk.out.mono ?_; rintro e w1 ⟨rfl, rfl⟩)
            go_ret
            exact ⟨ret_bool HR.out, rfl⟩
          · have HX := hid (HAk.out (by unfold okI dig; rw [decide_eq_true (show 48 ≤ s[k].toNat ∧ s[k].toNat ≤ 57 by omega), decide_eq_true hk0]; simp))
            clear HN HA HY hlk HNk HAk hk0
            go_wp2_with (go_at_call 98; refine HLk.out.mono ?_; rintro e w1 ⟨rfl, rfl⟩)
            go_round
            case rel => exact ⟨k + 1, by omega, by go_num, HX⟩
            case measure => (simp [RowKit.intOf] <;> omega)
      · have HX := hid (HAk.out (okI_of _ _ hlk))
        rw [hlk] at HLk
        clear HN HA HY hlk HNk HAk
        go_wp2_with (go_at_call 98; refine HLk.out.mono ?_; rintro e w1 ⟨rfl, rfl⟩)
        go_round
        case rel => exact ⟨k + 1, by omega, by go_num, HX⟩
        case measure => (simp [RowKit.intOf] <;> omega)
    · have HR := hid (HY.out (fun j hj => HA.out j hj (by omega)))
      clear HY HN HA
      go_wp2
      go_ret
      exact ⟨ret_bool HR.out, rfl⟩

set_option maxHeartbeats 4000000 in
theorem rreserved_any (s : ByteArray) (w : World) : Calls Tryz.prog 72 #[.string s] w fun e w' => e = .returned (.bool (rsv s.data.toList)) ∧ Below w.heap.size w w' := by
  have HRV := hid (rsv_eq s)
  have HB := hid (show Below w.heap.size w (w.alloc (.cells #[.string ⟨#[109, 111, 100, 117, 108, 101]⟩, .string ⟨#[100, 97, 116, 97]⟩, .string ⟨#[118, 97, 114]⟩, .string ⟨#[108, 111, 99, 97, 108]⟩, .string ⟨#[111, 117, 116, 112, 117, 116]⟩, .string ⟨#[101, 97, 99, 104]⟩, .string ⟨#[99, 111, 117, 110, 116]⟩, .string ⟨#[114, 101, 109, 111, 116, 101]⟩, .string ⟨#[112, 97, 116, 104]⟩, .string ⟨#[115, 101, 108, 102]⟩, .string ⟨#[99, 104, 97, 110, 103, 101]⟩] 9)) from (Below.refl _ _).alloc (Nat.le_refl _) _)
  have hc : ∀ k (hk : k < 11), (w.alloc (.cells #[.string ⟨#[109, 111, 100, 117, 108, 101]⟩, .string ⟨#[100, 97, 116, 97]⟩, .string ⟨#[118, 97, 114]⟩, .string ⟨#[108, 111, 99, 97, 108]⟩, .string ⟨#[111, 117, 116, 112, 117, 116]⟩, .string ⟨#[101, 97, 99, 104]⟩, .string ⟨#[99, 111, 117, 110, 116]⟩, .string ⟨#[114, 101, 109, 111, 116, 101]⟩, .string ⟨#[112, 97, 116, 104]⟩, .string ⟨#[115, 101, 108, 102]⟩, .string ⟨#[99, 104, 97, 110, 103, 101]⟩] 9)).cell? ⟨w.heap.size, k, none⟩ = some (.string (nms[k]'(by simpa [nms] using hk))) := fun k hk => by
    refine cell_at rfl ?_
    have : k = 0 ∨ k = 1 ∨ k = 2 ∨ k = 3 ∨ k = 4 ∨ k = 5 ∨ k = 6 ∨ k = 7 ∨ k = 8 ∨ k = 9 ∨ k = 10 := by omega
    rcases this with rfl | rfl | rfl | rfl | rfl | rfl | rfl | rfl | rfl | rfl | rfl <;> rfl
  have HC := hid hc
  clear hc
  go_enter Tryz.func72, Tryz.ntmps72
  go_wp2
  generalize w.alloc (.cells #[.string ⟨#[109, 111, 100, 117, 108, 101]⟩, .string ⟨#[100, 97, 116, 97]⟩, .string ⟨#[118, 97, 114]⟩, .string ⟨#[108, 111, 99, 97, 108]⟩, .string ⟨#[111, 117, 116, 112, 117, 116]⟩, .string ⟨#[101, 97, 99, 104]⟩, .string ⟨#[99, 111, 117, 110, 116]⟩, .string ⟨#[114, 101, 109, 111, 116, 101]⟩, .string ⟨#[112, 97, 116, 104]⟩, .string ⟨#[115, 101, 108, 102]⟩, .string ⟨#[99, 104, 97, 110, 103, 101]⟩] 9) = W at *
  go_loop [4] (fun i => ∃ k : Nat, k ≤ 11 ∧ i = .int .i64 k ∧ Hid (∀ j (hj : j < nms.length), j < k → (nms[j].toList == s.toList) = false)) (fun i => 11 - (RowKit.intOf i).toNat)
  case atStart => exact ⟨0, by omega, rfl, hid (fun j hj h => absurd h (by omega))⟩
  case round =>
    obtain ⟨k, hk, rfl, HA⟩ := hrel
    by_cases hlt : k < 11
    · have g := HC.out k hlt
      have hkn : k < nms.length := by simpa [nms] using hlt
      have HX := hid (fun (h : (nms[k].toList == s.toList) = false) => show ∀ j (hj : j < nms.length), j < k + 1 → (nms[j].toList == s.toList) = false from fun j hj hjk => by
        by_cases e : j < k
        · exact HA.out j hj e
        · obtain rfl : j = k := by omega
          exact h)
      have HYs := hid (fun (h : (nms[k].toList == s.toList) = true) => show rsv s.data.toList = true by rw [HRV.out, List.any_eq_true]; exact ⟨_, List.getElem_mem hkn, h⟩)
      clear HA HC HRV
      generalize nms[k] = x at *
      cases he : (x.toList == s.toList)
      · have HXX := hid (HX.out he)
        clear HX HYs
        go_wp2
        go_round
        case rel => exact ⟨k + 1, by omega, by go_num, HXX⟩
        case measure => (simp [RowKit.intOf] <;> omega)
      · have HR := hid (HYs.out he)
        clear HX HYs
        go_wp2
        go_ret
        exact ⟨ret_bool HR.out, HB.out⟩
    · have HR := hid (show rsv s.data.toList = false by
        rw [HRV.out, List.any_eq_false]
        intro x hx
        obtain ⟨j, hj, rfl⟩ := List.mem_iff_getElem.1 hx
        have := HA.out j hj (by have : nms.length = 11 := rfl; omega)
        rw [this]; simp)
      clear HA HRV HC
      go_wp2
      go_ret
      exact ⟨ret_bool HR.out, HB.out⟩
end Go.Proofs.YtpnogmicfomofaaGreatDoor.Adr
/-
  strings.Builder in this program: its check, WriteByte, WriteString. Conditions: those ahead of each theorem.
-/
namespace Go.Proofs.YtpnogmicfomofaaGreatDoor.Adr
open Go.RowKit Go.Sort Go.Lib Go.Maps
open Go.Lib (hid)
set_option linter.unusedVariables false
set_option linter.unusedSimpArgs false

theorem byteinfo : (Tryz.prog.info? 5).map (fun i => (i.zero, i.size, i.bytes)) = some (some (.int .u8 0), 1, 1) := by kernel_rfl
theorem bldinfo : (Tryz.prog.info? 174).map (·.size) = some 2 := by kernel_rfl
theorem bldlies : liesAt Tryz.prog Tryz.prog.depth 174 (2 / Tryz.prog.cellsOf 174) 0 174 1 = true := by kernel_rfl
/-- A builder of the call's own, in block b, that holds these bytes. -/
abbrev BL (B b : Nat) (l : List UInt8) (w : World) : Prop := Lib.IsBuilder 174 5 B b (Lib.byteCells l) w
set_option maxHeartbeats 1000000 in
set_option maxRecDepth 100000 in
theorem bcheck_any (B b : Nat) (bs : List Value) (w : World) (h : Lib.IsBuilder 174 5 B b bs w) :
    Calls Tryz.prog 163 #[.pointer (some ⟨b, 0, none⟩)] w fun e w' => e = .returned (.tuple #[]) ∧ (Lib.BuilderAt 174 5 B b (.pointer (some ⟨b, 0, none⟩)) bs w' ∧ Below B w w') := by
  obtain ⟨j, hj, hjs⟩ := Option.map_eq_some_iff.1 bldinfo
  rcases h with h | h
  · have h0 := h.cell0
    have hsh := h.shape
    have hfz := h.frozen0
    have H := hid h
    clear h
    go_enter Tryz.func163, Tryz.ntmps163
    go_wp2
    rw [Lib.run_to_unsafe w ⟨b, 0, none⟩ Tryz.underlying171 Tryz.underlying221 hj (by rw [hjs]; decide) hsh (Nat.zero_lt_succ 1)]
    simp only [Result.andThen]
    rw [Oper.upon_value]
    go_wp2
    rw [run_callFunc_extern Tryz.func190 (by kernel_rfl) (by kernel_rfl) (by kernel_rfl) (e := Extern.AbiNoEscape.same) (by kernel_rfl)]
    rw [Lib.run_noEscape]
    simp only [Result.andThen]
    rw [Oper.upon_value]
    go_wp2
    rw [Lib.run_from_unsafe w ⟨b, 0, none⟩ Tryz.underlying221 Tryz.underlying171 hj hsh bldlies]
    simp only [Result.andThen]
    rw [Oper.upon_value]
    go_wp2
    go_end0
    exact ⟨rfl, H.out.used _, (Below.refl B w).setCell (p := ⟨b, 0, none⟩) H.out.1 _⟩
  · have h0 := h.cell0
    have H := hid h
    clear h
    go_enter Tryz.func163, Tryz.ntmps163
    go_wp2
    rw [Lib.run_neq_ptr_same w _ Tryz.underlying171 hj]
    go_wp2
    go_end0
    exact ⟨rfl, H.out, Below.refl B _⟩

set_option maxHeartbeats 2000000 in
set_option maxRecDepth 100000 in
theorem bbyte_any (B b : Nat) (bs : List Value) (c : Int) (w : World) (h : Lib.IsBuilder 174 5 B b bs w) (hlen : bs.length + 1 ≤ 140737488355328) (hBw : B ≤ w.heap.size) :
    Calls Tryz.prog 183 #[.pointer (some ⟨b, 0, none⟩), .int .u8 c] w fun e w' => e = .returned .nilIface ∧ (Lib.BuilderAt 174 5 B b (.pointer (some ⟨b, 0, none⟩)) (bs ++ [.int .u8 c]) w' ∧ Below B w w') := by
  obtain ⟨i0, hi, hz0, hz1, hz2⟩ := info_parts byteinfo
  go_enter Tryz.func183, Tryz.ntmps183
  go_wp2_with (go_at_call 163; refine (bcheck_any B b bs _ h).mono ?_)
  rintro e w1 ⟨rfl, h1, hb1⟩
  obtain ⟨hB, v, hbk, hown, hne⟩ := h1
  have c0 : w1.cell? ⟨b, 0, none⟩ = some (.pointer (some ⟨b, 0, none⟩)) := by rw [Lib.cell_of_heap hbk]; rfl
  have c1 : w1.cell? ⟨b, 1, none⟩ = some v := by rw [Lib.cell_of_heap hbk]; rfl
  go_wp2_with (at_builtin; refine wpList_append_own _ rfl _ _ 172 rfl B 5 i0 (.int .u8 0) 1 1 Tryz.underlying172 hi hz0 hz1 hz2 rfl (by decide) _ _ _ rfl (hown.alloc _) ⟨w1.heap.size, 0, none⟩ 1 1 [.int .u8 c] rfl rfl ?c1 ?c2 ?c3 ?c4 ?c5 ?_)
  case c1 =>
    intro j u hj
    match j, hj with
    | 0, hj => simp at hj; subst hj; simp [Addr.add]
  case c2 => intro u hu; simp at hu; subst hu; rfl
  case c3 => unfold maxLen; omega
  case c4 => omega
  case c5 => have := hb1.size; simp; omega
  intro v' w2 hown' hgrow _
  have hlt : b < w1.heap.size := by
    rcases Nat.lt_or_ge b w1.heap.size with h' | h'
    · exact h'
    · simp [Array.getElem?_eq_none h'] at hbk
  have hb2 : w2.heap[b]? = some (.cells #[.pointer (some ⟨b, 0, none⟩), v] 174 (0, 0)) := by
    rw [hgrow.block b (by simp; omega) (fun e => hne e.symm), Lib.alloc_old w1 _ b hlt]
    exact hbk
  have d0 : w2.cell? ⟨b, 0, none⟩ = some (.pointer (some ⟨b, 0, none⟩)) := by rw [Lib.cell_of_heap hb2]; rfl
  have d1 : w2.cell? ⟨b, 1, none⟩ = some v := by rw [Lib.cell_of_heap hb2]; rfl
  have f1 : w2.frozen? ⟨b, 1, none⟩ = false := Lib.frozen_of_heap hb2 1
  obtain ⟨g, cap, rfl⟩ : ∃ g cap, v' = .slice (some ⟨g, 0, none⟩) (bs.length + 1) cap := by
    rcases hown'.2 with ⟨_, h0⟩ | ⟨g, cap, cur, hv, _⟩
    · omega
    · exact ⟨g, cap, hv⟩
  go_wp2
  go_ret
  refine ⟨rfl, ?_, ?_⟩
  · exact Lib.BuilderAt.put (T := 174) (e := 5) hB hb2 (bs' := bs ++ [.int .u8 c]) (by simpa using hown') (by decide)
  · exact ((hb1.alloc (by have := hb1.size; omega) _).grown hgrow (by have := hb1.size; simp; omega) (fun k hk => (hown.lt k hk).1)).setCell (p := ⟨b, 1, none⟩) hB _

set_option maxHeartbeats 2000000 in
set_option maxRecDepth 100000 in
theorem bstr_any (B b : Nat) (bs : List Value) (s : ByteArray) (w : World) (h : Lib.IsBuilder 174 5 B b bs w) (hlen : bs.length + s.size ≤ 140737488355328) (hBw : B ≤ w.heap.size) :
    Calls Tryz.prog 127 #[.pointer (some ⟨b, 0, none⟩), .string s] w fun e w' => e = .returned (.tuple #[.int .i64 s.size, .nilIface]) ∧ (Lib.BuilderAt 174 5 B b (.pointer (some ⟨b, 0, none⟩)) (bs ++ Lib.strCells s) w' ∧ Below B w w') := by
  obtain ⟨i0, hi, hz0, hz1, hz2⟩ := info_parts byteinfo
  go_enter Tryz.func127, Tryz.ntmps127
  go_wp2_with (go_at_call 163; refine (bcheck_any B b bs _ h).mono ?_)
  rintro e w1 ⟨rfl, h1, hb1⟩
  obtain ⟨hB, v, hbk, hown, hne⟩ := h1
  have c0 : w1.cell? ⟨b, 0, none⟩ = some (.pointer (some ⟨b, 0, none⟩)) := by rw [Lib.cell_of_heap hbk]; rfl
  have c1 : w1.cell? ⟨b, 1, none⟩ = some v := by rw [Lib.cell_of_heap hbk]; rfl
  go_wp2_with (at_builtin; refine Lib.wpList_append_own_string _ rfl _ _ 172 9 rfl B 5 i0 Tryz.underlying172 Tryz.underlying9 hi hz0 hz1 hz2 _ _ _ rfl hown s rfl ?c3 ?c4 ?c5 ?_)
  case c3 => unfold maxLen; omega
  case c4 => omega
  case c5 => have := hb1.size; omega
  intro v' w2 hown' hgrow _
  have hlt : b < w1.heap.size := by
    rcases Nat.lt_or_ge b w1.heap.size with h' | h'
    · exact h'
    · simp [Array.getElem?_eq_none h'] at hbk
  have hb2 : w2.heap[b]? = some (.cells #[.pointer (some ⟨b, 0, none⟩), v] 174 (0, 0)) := by
    rw [hgrow.block b (by omega) (fun e => hne e.symm)]
    exact hbk
  have d0 : w2.cell? ⟨b, 0, none⟩ = some (.pointer (some ⟨b, 0, none⟩)) := by rw [Lib.cell_of_heap hb2]; rfl
  have d1 : w2.cell? ⟨b, 1, none⟩ = some v := by rw [Lib.cell_of_heap hb2]; rfl
  have f1 : w2.frozen? ⟨b, 1, none⟩ = false := Lib.frozen_of_heap hb2 1
  obtain ⟨ao, n', cap, hv'⟩ : ∃ ao n' cap, v' = .slice ao n' cap := by
    rcases hown'.2 with ⟨hv, h0⟩ | ⟨g, cap, cur, hv, _⟩
    · exact ⟨none, 0, 0, hv⟩
    · exact ⟨_, _, cap, hv⟩
  subst hv'
  go_wp2
  go_ret2
  refine ⟨rfl, ?_, ?_⟩
  · exact Lib.BuilderAt.put (T := 174) (e := 5) hB hb2 (bs' := bs ++ Lib.strCells s) (by simpa [Lib.strCells_length] using hown') (by decide)
  · exact (hb1.grown hgrow (by have := hb1.size; omega) (fun k hk => (hown.lt k hk).1)).setCell (p := ⟨b, 1, none⟩) hB _
/-- The same in bytes. -/
theorem bbyte_b (B b : Nat) (l : List UInt8) (c : UInt8) (w : World) (h : BL B b l w) (hlen : l.length ≤ 1000000000) (hBw : B ≤ w.heap.size) :
    Calls Tryz.prog 183 #[.pointer (some ⟨b, 0, none⟩), .int .u8 c.toNat] w fun e w' => e = .returned .nilIface ∧ BL B b (l ++ [c]) w' ∧ Below B w w' := by
  refine (bbyte_any B b _ c.toNat w h (by simp [Lib.byteCells]; omega) hBw).mono ?_
  rintro e w' ⟨rfl, h1, h2⟩
  refine ⟨rfl, Or.inr ?_, h2⟩
  have e : Lib.byteCells (l ++ [c]) = Lib.byteCells l ++ [.int .u8 c.toNat] := by simp [Lib.byteCells]
  rw [e]
  exact h1
theorem bstr_b (B b : Nat) (l : List UInt8) (s : ByteArray) (w : World) (h : BL B b l w) (hlen : l.length ≤ 1000000000) (hs : s.size ≤ 1000000000) (hBw : B ≤ w.heap.size) :
    Calls Tryz.prog 127 #[.pointer (some ⟨b, 0, none⟩), .string s] w fun e w' => e = .returned (.tuple #[.int .i64 s.size, .nilIface]) ∧ BL B b (l ++ s.data.toList) w' ∧ Below B w w' := by
  refine (bstr_any B b _ s w h (by simp [Lib.byteCells]; omega) hBw).mono ?_
  rintro e w' ⟨rfl, h1, h2⟩
  refine ⟨rfl, Or.inr ?_, h2⟩
  have e : Lib.byteCells (l ++ s.data.toList) = Lib.byteCells l ++ Lib.strCells s := by simp [Lib.byteCells, Lib.strCells]
  rw [e]
  exact h1
theorem bl_new (w : World) (B : Nat) (hB : B ≤ w.heap.size) : BL B w.heap.size [] (w.alloc (.cells #[.pointer none, .slice none 0 0] 174)) :=
  Or.inl ⟨hB, .slice none 0 0, (MapKept.heap_alloc w _).1, World.ownsRow_nil _ _ _ _, by simp [Value.ownBlock]⟩
end Go.Proofs.YtpnogmicfomofaaGreatDoor.Adr
