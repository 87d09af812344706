import Derived.Test.YtpnogmicfomofaaGreatDoorY4
import Derived.Lib.OthersKept
import Derived.Lib.IndexAny
import Derived.WalkMore
import Derived.Deep.QuietTactic
import Derived.BigQuiet
import Derived.Lib.RuneCountTail
import Derived.Lib.QuietBelow
import Derived.Test.YtpnogmicfomofaaGreatDoorY1
import Derived.Deep.RegionHeld3
import Derived.Deep.RegionLaw
set_option linter.unusedVariables false
set_option linter.unusedSimpArgs false
namespace Go.Proofs.YtpnogmicfomofaaGreatDoor.Adr
open Go.RowKit Go.Sort Go.Lib Go.Maps
open Go.Lib (hid)
set_option maxHeartbeats 4000000 in
set_option maxRecDepth 100000 in
theorem irune_bad (w : World) : Calls Tryz.prog 174 #[.string ⟨#[46, 91]⟩, .int .i32 65533] w fun e w' => e = .returned (.int .i64 (-1)) /\ Below w.heap.size w w' := by
 have HI := hid (fun i => show Below w.heap.size w (w.iter ⟨#[46, 91]⟩ i) from (Below.refl _ _).alloc (Nat.le_refl _) _);go_enter Tryz.func174, Tryz.ntmps174;go_wp2
 go_loopg [5, 6] 2 (fun g _ _ wx => ∃ i : Nat, i + g = 2 /\ wx = w.iter ⟨#[46, 91]⟩ i)
 case atStart => exact ⟨0, by omega, rfl⟩
 case round =>
  obtain ⟨i, hig, rfl⟩ := hrel;have hi : i = 0 ∨ i = 1 ∨ i = 2 := by omega
  rcases hi with rfl | rfl | rfl
  . have hnx := fun ty => run_next_ascii (P := Tryz.prog) w ⟨#[46, 91]⟩ 0 ty (by decide) (by decide)
    go_wp2
    go_roundg 1
    case measure => omega
    case rel => exact ⟨1, by omega, rfl⟩
  . have hnx := fun ty => run_next_ascii (P := Tryz.prog) w ⟨#[46, 91]⟩ 1 ty (by decide) (by decide)
    go_wp2
    go_roundg 0
    case measure => omega
    case rel => exact ⟨2, by omega, rfl⟩
  . have hnx := fun ty => run_next_end (P := Tryz.prog) w ⟨#[46, 91]⟩ 2 ty (by decide)
    go_wp2
    go_ret
    exact ⟨rfl, HI.out _⟩
set_option maxHeartbeats 4000000 in
set_option maxRecDepth 100000 in
theorem irune_hi (r : Nat) (h0 : 128 <= r) (hv : Lib.validRune (r : Int) = true) (hb : r ≠ 65533) (w : World) : Calls Tryz.prog 174 #[.string ⟨#[46, 91]⟩, .int .i32 r] w fun e w' => e = .returned (.int .i64 (-1)) /\ Below w.heap.size w w' := by
 have h1 : ¬ (r : Int) < 128 := by omega
 have h2 : ((r : Int) == 65533) = false := by rw [beq_eq_false_iff_ne]; omega
 have HV := hid (fun W => Tryz.utf8_ValidRune (r : Int) W);rw [hv] at HV;have hr := vr_le hv;obtain ⟨f1, f2, f3⟩ := encode_facts (r : Int) (by rw [validRune_eq]; exact hv) (by omega);have HIB := hid (fun (c : Nat) (W : World) => Tryz.strings_IndexByte ⟨#[]⟩ (c : Int) W);have HB := hid (Below.refl w.heap.size w);have F1 := hid f1;have F2 := hid f2;have F4 := hid f3;clear f1 f2 f3 hv hr hb;generalize hE : Utf8.encode (r : Int) = E at *;go_enter Tryz.func174, Tryz.ntmps174;go_wp2_with (go_at_call 196; refine (HV.out _).mono ?_; rintro e w1 ⟨rfl, rfl⟩)
 have hz : (1 : Int) <= (E.size : Int) := by have := F1.out; omega
 have hz2 : (E.size : Int) <= 4 := by have := F2.out; omega
 go_step3
 go_wp2
 go_loopg [9, 10] 1 (fun g i f wx => i = .int .i64 ((E.size : Int) - 1) /\ Hid (wx = w1))
 case atStart => exact ⟨rfl, hid rfl⟩
 case round =>
  obtain ⟨rfl, HWx⟩ := hrel
  by_cases h3 : (E.size : Int) - 1 < 2
  . have hA : E.size = 2 := by have := F1.out; omega
    have h1 : 1 < E.size := by omega
    have hb1 : 128 <= E[1].toNat := by
     have h := F4.out (by omega);simp only [hA] at h;exact h
    have hz3 : (E.size : Int) - 1 = 1 := by omega
    have h1z : (1 : Int) < (E.size : Int) := by omega
    have hn1 : (((⟨#[46, 91]⟩ : ByteArray)[1]'(by decide)).toNat : Int) = 91 := rfl;have hne : ((((⟨#[46, 91]⟩ : ByteArray)[1]'(by decide)).toNat : Int) != (E[1].toNat : Int)) = true := by rw [hn1]; simp; omega
    clear hn1;have hx : (⟨#[46, 91]⟩ : ByteArray).extract 2 2 = ⟨#[]⟩ := by decide
    have HX := hid (fun (W : World) => Tryz.strings_IndexByte ByteArray.empty (E[1].toNat : Int) W);have hIBe : ∀ c, Lib.indexByte ByteArray.empty.data.toList c = -1 := fun _ => rfl;simp only [hIBe] at HX;clear hIBe;clear hA;rw [hz3];go_wp2
    have hz4 : (2 : Int) <= 2 := by omega
    go_step3
    go_wp2
    go_quiet (fail)
    go_wp2
    have HW2 := hid (show Below w1.heap.size w1 (wr.drewN nq) from by rw [HWx.out]; exact bel_drewN HB.out nq);generalize wr.drewN nq = W2 at *;go_quiet (exact Calls.quiet_of_same (HX.out _))
    go_wp2
    rw [Exit.noGoto_ret];go_wp2
    rw [Exit.noGoto_ret];go_ret
    have hW2 := HW2.out;clear HW2;obtain ⟨n2, rfl⟩ : ∃ n2, n2 = nq := ⟨_, rfl⟩;exact ⟨rfl, bel_drewN hW2 _⟩
  . go_wp2
    first | rw [Exit.noGoto_ret] | skip
    go_ret
    exact ⟨rfl, by rw [HWx.out]; exact HB.out⟩
theorem dec_high {l : List UInt8} (hne : l ≠ []) (h : 128 <= (l.getD 0 0).toNat) :
 128 <= (decodeL l).1 /\ Lib.validRune ((decodeL l).1 : Nat) = true /\ 1 <= (decodeL l).2 /\ (decodeL l).2 <= l.length /\ ∀ j, j < (decodeL l).2 -> 128 <= (l.getD j 0).toNat := by
 have hl : 0 < l.length := List.length_pos_iff.2 hne;have hle := Lib.decodeL_le l hne;have hsh := Lib.decodeN_shape l.length (l.getD 0 0).toNat (l.getD 1 0).toNat (l.getD 2 0).toNat (l.getD 3 0).toNat
 have h0 : (l.getD 0 0).toNat < 256 := (l.getD 0 0).toNat_lt;have h1 : (l.getD 1 0).toNat < 256 := (l.getD 1 0).toNat_lt;have h2 : (l.getD 2 0).toNat < 256 := (l.getD 2 0).toNat_lt;have h3 : (l.getD 3 0).toNat < 256 := (l.getD 3 0).toNat_lt;have e0 : ∀ j, j = 0 -> (l.getD j 0).toNat = (l.getD 0 0).toNat := fun j h => by rw [h]
 have e1 : ∀ j, j = 1 -> (l.getD j 0).toNat = (l.getD 1 0).toNat := fun j h => by rw [h]
 have e2 : ∀ j, j = 2 -> (l.getD j 0).toNat = (l.getD 2 0).toNat := fun j h => by rw [h]
 have e3 : ∀ j, j = 3 -> (l.getD j 0).toNat = (l.getD 3 0).toNat := fun j h => by rw [h]
 rw [<- Lib.decodeL_N] at hsh;generalize (l.getD 0 0).toNat = b0 at *;generalize (l.getD 1 0).toNat = b1 at *;generalize (l.getD 2 0).toNat = b2 at *;generalize (l.getD 3 0).toNat = b3 at *;generalize decodeL l = d at *;obtain ⟨r, n⟩ := d;simp only [Prod.mk.injEq] at *;have vr : (r < 55296 ∨ (57343 < r /\ r <= 1114111)) -> Lib.validRune ((r : Nat) : Int) = true := fun h => by unfold Lib.validRune; exact decide_eq_true (by omega)
 rcases hsh with ⟨a, f1, f2⟩ | ⟨a, a1, a2, a3, f1, f2⟩ | ⟨a, a1, a2, a3, a4, a5, f1, f2⟩ | ⟨a, a1, a2, a3, a4, a5, a6, f1, f2⟩ | ⟨f1, f2⟩
 . omega
 . refine ⟨by omega, vr (by omega), by omega, by omega, fun j hj => ?_⟩
   have : j = 0 ∨ j = 1 := by omega
   rcases this with rfl | rfl
   . rw [e0 _ rfl]; exact h
   . rw [e1 _ rfl]; omega
 . refine ⟨by omega, vr (by omega), by omega, by omega, fun j hj => ?_⟩
   have : j = 0 ∨ j = 1 ∨ j = 2 := by omega
   rcases this with rfl | rfl | rfl
   . rw [e0 _ rfl]; exact h
   . rw [e1 _ rfl]; omega
   . rw [e2 _ rfl]; omega
 . refine ⟨by omega, vr (by omega), by omega, by omega, fun j hj => ?_⟩
   have : j = 0 ∨ j = 1 ∨ j = 2 ∨ j = 3 := by omega
   rcases this with rfl | rfl | rfl | rfl
   . rw [e0 _ rfl]; exact h
   . rw [e1 _ rfl]; omega
   . rw [e2 _ rfl]; omega
   . rw [e3 _ rfl]; omega
 . refine ⟨by omega, vr (by omega), by omega, by omega, fun j hj => ?_⟩
   have : j = 0 := by omega
   rw [e0 _ this]; exact h
theorem dec_at (s : ByteArray) (i : Nat) (h : i < s.size) : Utf8.decode s i = decodeL (s.data.toList.drop i) := by
 have h1 := dec_go (s.extract i s.size) (by rw [ext_size s i (by omega)]; omega);rw [extract_list] at h1;rw [<- h1];unfold Lib.decodeGo;rw [if_neg (by rw [ext_size s i (by omega)]; omega), Lib.tail_decode, Nat.add_zero]
theorem dec_low {l : List UInt8} {c : UInt8} {r : List UInt8} (hl : l = c :: r) (h : c.toNat < 128) : decodeL l = (c.toNat, 1) := by
 have hsh := Lib.decodeN_shape l.length (l.getD 0 0).toNat (l.getD 1 0).toNat (l.getD 2 0).toNat (l.getD 3 0).toNat
 have hD : decodeL l = decodeN l.length (l.getD 0 0).toNat (l.getD 1 0).toNat (l.getD 2 0).toNat (l.getD 3 0).toNat := Lib.decodeL_N l;have h0 : (l.getD 0 0).toNat = c.toNat := by rw [hl]; rfl
 rw [hD];unfold decodeN;rw [h0, if_pos h]
theorem noany_more {s : ByteArray} {i n : Nat} (h : NoAny s.data.toList [46, 91] i) (hn : ∀ j, j < n -> 128 <= ((s.data.toList.drop i).getD j 0).toNat) : NoAny s.data.toList [46, 91] (i + n) := by
 intro j b hj hb
 by_cases h1 : j < i
 . exact h j b h1 hb
 . have h2 := hn (j - i) (by omega)
   rw [List.getD_eq_getElem?_getD, List.getElem?_drop, show i + (j - i) = j by omega, hb] at h2;have h3 : 128 <= b.toNat := h2;have n1 : b ≠ 46 := fun e => by rw [e] at h3; exact absurd h3 (by decide)
   have n2 : b ≠ 91 := fun e => by rw [e] at h3; exact absurd h3 (by decide)
   simp [n1, n2]
theorem zero208 : ∀ w, (zeroValue 208).run Tryz.prog w = .ok (.agg (Array.replicate 256 (.bool false))) w :=
 (zero_of_info (P := Tryz.prog) (t := 208) (v := .agg (Array.replicate 256 (.bool false))) (n := 256) (by kernel_rfl)).1
def dotI (l : List UInt8) : Int := Lib.indexAny l [46, 91]
set_option maxHeartbeats 8000000 in
set_option maxRecDepth 100000 in
theorem idxany_any (s : ByteArray) (w : World) (hs : s.size <= 2000000) : Calls Tryz.prog 155 #[.string s, .string ⟨#[46, 91]⟩] w fun e w' => e = .returned (.int .i64 (dotI s.data.toList)) /\ Below w.heap.size w w' := by
 by_cases h8 : 8 < s.size
 . refine (Tryz.strings_IndexAny_long zero208 s ⟨#[46, 91]⟩ w (by decide) h8 (by omega) (by decide) (fun j b hb => by
    have hm : b ∈ ([46, 91] : List UInt8) := List.mem_of_getElem? hb;simp at hm;rcases hm with rfl | rfl <;> decide)).mono ?_
   rintro e w' ⟨rfl, rfl⟩;exact ⟨rfl, ((Below.refl _ _).alloc (Nat.le_refl _) _).alloc (by simp) _⟩
 have HI0 := hid (show Below w.heap.size w (w.iter s 0) from (Below.refl _ _).alloc (Nat.le_refl _) _);have HK0 := hid (show (w.iter s 0).heap[w.heap.size]? = some (.stringIter s 0) from World.iter_heap w s 0);have h8z : decide ((8 : Int) < (s.size : Int)) = false := decide_eq_false (by omega);have HDH := hid (fun (i : Nat) (hi : i < s.size) (h : 128 <= s[i].toNat) => dec_high (l := s.data.toList.drop i) (by rw [drop_cons s i hi]; simp) (by rw [getD_drop0 s i hi]; exact h));have HNone := hid (fun (h : NoAny s.data.toList [46, 91] s.size) => show dotI s.data.toList = -1 from Lib.indexAny_none (by rw [size_list]; exact h));have HHit := hid (fun (i : Nat) (hi : i < s.size) (h : NoAny s.data.toList [46, 91] i) (hc : [46, 91].contains s[i] = true) => show dotI s.data.toList = i from Lib.indexAny_hit h (by rw [List.getElem?_eq_getElem (by rw [size_list]; exact hi)]; rfl) hc);go_enter Tryz.func155, Tryz.ntmps155;go_wp2_with (go_at_call 175; refine (Tryz.strings_shouldUseASCIISet _ _).mono ?_; rintro e w' ⟨rfl, hw⟩; rw [hw, h8z])
 generalize w.iter s 0 = W0 at *;go_loopg [9, 10] s.size (fun g _ _ wx => ∃ i : Nat, i <= s.size /\ s.size - i <= g /\ Hid (wx.heap[w.heap.size]? = some (.stringIter s i)) /\ Hid (Below w.heap.size w wx) /\ Hid (NoAny s.data.toList [46, 91] i))
 case atStart => exact ⟨0, by omega, by omega, HK0, HI0, hid (NoAny.zero _ _)⟩
 case round =>
  obtain ⟨i, hi, hg, HK, HW, HN⟩ := hrel
  by_cases hlt : i < s.size
  case neg =>
   have hie : i = s.size := by omega
   have hnx := fun ty => run_next_end_at (P := Tryz.prog) wr w.heap.size s i ty HK.out hlt;have HR := hid (HNone.out (by rw [<- hie]; exact HN.out));clear hie;go_wp2
   go_ret
   exact ⟨ret_int HR.out, HW.out⟩
  have hnx := fun ty => run_next_any_at (P := Tryz.prog) wr w.heap.size s i ty HK.out hlt;rw [dec_at s i hlt] at hnx
  by_cases h128 : s[i].toNat < 128
  . have hdl := dec_low (drop_cons s i hlt) h128
    rw [hdl] at hnx;simp only at hnx;have hback : ((s[i].toNat : Int)).toNat.toUInt8 = s[i] := by simp
    have hcon := Lib.contains_iff_indexByte [46, 91] s[i];have HIR := hid (fun (W : World) => Tryz.strings_IndexRune_ascii ⟨#[46, 91]⟩ (s[i].toNat : Int) W (by omega) (by omega));rw [hback] at HIR;have HK2 := hid (iterAt_heap wr w.heap.size s i (i + 1) HK.out);have HW2 := hid (below_iterAt HW.out (Nat.le_refl _) s (i + 1));cases hin : [46, 91].contains s[i]
    . have hneg : Lib.indexByte [46, 91] s[i] < 0 := by
       rw [hin] at hcon;have := of_decide_eq_false hcon.symm; omega
      have HN2 := hid (HN.out.succ (by rw [List.getElem?_eq_getElem (by rw [size_list]; exact hlt)]; rfl) hin);have hz : ¬ (0 : Int) <= Lib.indexByte [46, 91] s[i] := by omega
      clear hcon hdl hin hneg;go_wp2_with (go_at_call 174; refine (HIR.out _).mono ?_; rintro e w' ⟨rfl, rfl⟩)
      go_roundg (s.size - (i + 1))
      case measure => omega
      case rel => exact ⟨i + 1, by omega, by omega, HK2, HW2, HN2⟩
    . have hz : (0 : Int) <= Lib.indexByte [46, 91] s[i] := by
       rw [hin] at hcon;exact of_decide_eq_true hcon.symm
      have HR := hid (HHit.out i hlt HN.out hin);clear hcon hdl hin;go_wp2_with (go_at_call 174; refine (HIR.out _).mono ?_; rintro e w' ⟨rfl, rfl⟩)
      go_ret
      exact ⟨ret_int HR.out, HW2.out⟩
  . obtain ⟨d1, d2, d3, d4, d5⟩ := HDH.out i hlt (by omega)
    rw [List.length_drop, size_list] at d4;have HN2 := hid (noany_more HN.out d5);generalize decodeL (s.data.toList.drop i) = d at *;obtain ⟨r, n⟩ := d;simp only at hnx d1 d2 d3 d4 HN2;have HK2 := hid (iterAt_heap wr w.heap.size s i (i + n) HK.out);have HW2 := hid (below_iterAt HW.out (Nat.le_refl _) s (i + n))
    have HIR := hid (fun (W : World) => show Calls Tryz.prog 174 #[.string ⟨#[46, 91]⟩, .int .i32 r] W fun e w' => e = .returned (.int .i64 (-1)) /\ Below W.heap.size W w' from by
     by_cases hb : r = 65533
     . subst hb; exact irune_bad W
     . exact irune_hi r d1 d2 hb W)
    clear d1 d2 d5 h128;go_wp2_with (go_at_call 174; refine (HIR.out _).mono ?_; rintro e w' ⟨rfl, hb⟩; have HK3 := hid ((hb.block _ (lt_of_block HK2.out)).trans HK2.out); have HW3 := hid (HW2.out.trans (hb.mono HW2.out.size)); clear hb)
    go_roundg (s.size - (i + n))
    case measure => omega
    case rel => exact ⟨i + n, by omega, by omega, HK3, HW3, HN2⟩
def dotN (l : List UInt8) : Nat := (l.takeWhile fun c => !([46, 91].contains c)).length
theorem dotN_le (l : List UInt8) : dotN l <= l.length := (List.takeWhile_sublist _).length_le
theorem dotN_noany : ∀ (l : List UInt8), NoAny l [46, 91] (dotN l) /\ ∀ c, l[dotN l]? = some c -> [46, 91].contains c = true
 | [] => ⟨NoAny.zero _ _, fun c h => by simp at h⟩
 | x :: l => by
   obtain ⟨h1, h2⟩ := dotN_noany l;unfold dotN;rw [List.takeWhile_cons];cases hx : [46, 91].contains x
   . simp only [Bool.not_false, if_true, List.length_cons]
     refine ⟨fun j b hj hb => ?_, fun c hc => h2 c (by unfold dotN; simpa using hc)⟩;cases j with
     | zero => simp at hb; subst hb; exact hx
     | succ j => exact h1 j b (by unfold dotN; omega) (by simpa using hb)
   . simp only [Bool.not_true, Bool.false_eq_true, if_false, List.length_nil]
     exact ⟨NoAny.zero _ _, fun c hc => by simp at hc; subst hc; exact hx⟩
theorem dotI_eq (l : List UInt8) : dotI l = if dotN l < l.length then (dotN l : Int) else -1 := by
 obtain ⟨h1, h2⟩ := dotN_noany l
 by_cases h : dotN l < l.length
 . rw [if_pos h]
   exact Lib.indexAny_hit h1 (List.getElem?_eq_getElem h) (h2 _ (List.getElem?_eq_getElem h))
 . rw [if_neg h]
   have := dotN_le l;exact Lib.indexAny_none (by rw [show l.length = dotN l by omega]; exact h1)
def wrdS (s : ByteArray) : ByteArray := s.extract 0 (dotN s.data.toList)
def wrdR (s : ByteArray) : ByteArray := s.extract (dotN s.data.toList) s.size
def cutS (p : List UInt8) (s : ByteArray) : ByteArray := ⟨(Lib.trimPrefix s.data.toList p).toArray⟩
def hasP (p : List UInt8) (s : ByteArray) : Bool := Lib.hasPrefix s.data.toList p
def Rd (b : Nat) (w : World) (s : ByteArray) (bad : Bool) : Prop := w.heap[b]? = some (.cells #[.string s, .bool bad] 166 (0, 0))
theorem Rd.cells {b : Nat} {w : World} {s : ByteArray} {bad : Bool} (h : Rd b w s bad) : w.cell? ⟨b, 0, none⟩ = some (.string s) /\ w.cell? ⟨b, 1, none⟩ = some (.bool bad) /\ (∀ o, w.frozen? ⟨b, o, none⟩ = false) /\ b < w.heap.size := by
 unfold Rd at h;refine ⟨by unfold World.cell?; simp [h], by unfold World.cell?; simp [h], fun o => by unfold World.frozen?; simp [h], lt_of_block h⟩
theorem Rd.set0 {b : Nat} {w : World} {s : ByteArray} {bad : Bool} (h : Rd b w s bad) (t : ByteArray) : Rd b (w.setCell ⟨b, 0, none⟩ (.string t)) t bad := by
 unfold Rd at *;unfold World.setCell;have hb := lt_of_block h;show (w.heap.modify b _)[b]? = _;rw [Array.getElem?_modify, if_pos rfl, h];rfl
theorem Rd.set1 {b : Nat} {w : World} {s : ByteArray} {bad : Bool} (h : Rd b w s bad) (t : Bool) : Rd b (w.setCell ⟨b, 1, none⟩ (.bool t)) s t := by
 unfold Rd at *;unfold World.setCell;have hb := lt_of_block h;show (w.heap.modify b _)[b]? = _;rw [Array.getElem?_modify, if_pos rfl, h];rfl
theorem grown_setC (w : World) (a : Addr) (u : Value) : w.grownBy (w.setCell a u) (some a.block) := ⟨rfl, rfl, rfl, by simp [World.setCell], fun k hk hne => Below.heap_setCell _ _ _ _ (fun e => hne (by rw [e]))⟩
theorem grown_trans {a b c : World} {row : Option Nat} (h : a.grownBy b row) (h2 : b.grownBy c row) : a.grownBy c row :=
 ⟨h2.os.trans h.os, h2.tape.trans h.tape, h2.output.trans h.output, Nat.le_trans h.size h2.size, fun k hk hne => (h2.block k (Nat.lt_of_lt_of_le hk h.size) hne).trans (h.block k hk hne)⟩
theorem grown_of {a b : World} (h : Below a.heap.size a b) (row : Option Nat) : a.grownBy b row := ⟨h.os, h.tape, h.output, h.size, fun k hk _ => h.block k hk⟩
theorem Rd.kept {b : Nat} {w w' : World} {s : ByteArray} {bad : Bool} (h : Rd b w s bad) (hb : Below w.heap.size w w') : Rd b w' s bad := by
 unfold Rd at *;exact (hb.block _ (lt_of_block h)).trans h
set_option maxHeartbeats 4000000 in
theorem has_any (p s : ByteArray) (b : Nat) (bad : Bool) (w : World) (h : Rd b w s bad) : Calls Tryz.prog 120 #[.pointer (some ⟨b, 0, none⟩), .string p] w fun e w' =>
 e = .returned (.bool (hasP p.data.toList s)) /\ Rd b w' (cutS p.data.toList s) bad /\ w.grownBy w' (some b) := by
 obtain ⟨c0, c1, c2, c3⟩ := h.cells;have HC := hid (fun (W : World) => Tryz.strings_CutPrefix s p W);have HR := hid (h.set0 (cutS p.data.toList s));have HG := hid (grown_setC w ⟨b, 0, none⟩ (.string (cutS p.data.toList s)));have f0 := c2 0;go_enter Tryz.func120, Tryz.ntmps120;go_wp2_with (go_at_call 154; refine (HC.out _).mono ?_; rintro e w1 ⟨rfl, rfl⟩)
 go_ret
 exact ⟨rfl, HR.out, HG.out⟩
set_option maxHeartbeats 4000000 in
theorem skip_any (p s : ByteArray) (b : Nat) (bad : Bool) (w : World) (h : Rd b w s bad) : Calls Tryz.prog 122 #[.pointer (some ⟨b, 0, none⟩), .string p] w fun e w' =>
 e = .returned (.tuple #[]) /\ Rd b w' (cutS p.data.toList s) (bad || !hasP p.data.toList s) /\ w.grownBy w' (some b) := by
 obtain ⟨c0, c1, c2, c3⟩ := h.cells;have HC := hid (fun (W : World) => Tryz.strings_CutPrefix s p W);have HR1 := h.set0 (cutS p.data.toList s);obtain ⟨d0, d1, d2, d3⟩ := HR1.cells;have HR := hid (HR1.set1 (bad || !hasP p.data.toList s));have HG := hid (grown_trans (grown_setC w ⟨b, 0, none⟩ (.string (cutS p.data.toList s))) (grown_setC _ ⟨b, 1, none⟩ (.bool (bad || !hasP p.data.toList s))));have f0 := c2 0;have f1 := d2 1;unfold cutS at d0 d1 d2 d3 f1 HR HG;unfold hasP at HR HG;clear HR1 h;cases bad
 . go_enter Tryz.func122, Tryz.ntmps122
   go_wp2_with (go_at_call 154; refine (HC.out _).mono ?_; rintro e w1 ⟨rfl, rfl⟩)
   go_end0
   exact ⟨rfl, HR.out, HG.out⟩
 . go_enter Tryz.func122, Tryz.ntmps122
   go_wp2_with (go_at_call 154; refine (HC.out _).mono ?_; rintro e w1 ⟨rfl, rfl⟩)
   go_end0
   exact ⟨rfl, HR.out, HG.out⟩
set_option maxHeartbeats 4000000 in
theorem word_any (s : ByteArray) (b : Nat) (bad : Bool) (w : World) (hs : s.size <= 2000000) (h : Rd b w s bad) : Calls Tryz.prog 123 #[.pointer (some ⟨b, 0, none⟩)] w fun e w' =>
 e = .returned (.string (wrdS s)) /\ Rd b w' (wrdR s) (bad || !idB (wrdS s).data.toList) /\ w.grownBy w' (some b) := by
 have HI := hid (fun (W : World) => idxany_any s W hs)
 have HP := hid (fun (W : World) => pident_any (wrdS s) W (by
  have := Lib.extract_data s 0 (dotN s.data.toList);rw [<- size_list, show (wrdS s).data.toList = _ from this];rw [List.length_take, List.length_drop, size_list]; omega))
 have HK := hid (fun (W : World) (hb : Below w.heap.size w W) => h.kept hb)
 have HE := hid (fun (W W' : World) (u : Bool) (hb : Below w.heap.size w W) (e : W' = (W.setCell ⟨b, 0, none⟩ (.string (wrdR s))).setCell ⟨b, 1, none⟩ (.bool u)) => show Rd b W' (wrdR s) u /\ w.grownBy W' (some b) from by
  subst e;exact ⟨((h.kept hb).set0 (wrdR s)).set1 u, grown_trans (grown_of hb (some b)) (grown_trans (grown_setC W ⟨b, 0, none⟩ (.string (wrdR s))) (grown_setC _ ⟨b, 1, none⟩ (.bool u)))⟩)
 obtain ⟨c0, c1, c2, c3⟩ := h.cells;have hm := dotN_le s.data.toList;rw [size_list] at hm;have hI := dotI_eq s.data.toList;rw [size_list] at hI;have e1 : wrdS s = s.extract 0 (dotN s.data.toList) := rfl;have e2 : wrdR s = s.extract (dotN s.data.toList) s.size := rfl;rw [e1] at HP ⊢;rw [e2] at HE ⊢;clear e1 e2 h;generalize dotN s.data.toList = m at hm hI HP HE ⊢
 by_cases hd : m < s.size
 . rw [if_pos hd] at hI
   rw [hI] at HI;have g0 : decide ((m : Int) < 0) = false := by simp
   have g1 : (m : Int) <= s.size := by omega
   clear hI hd;cases bad
   . go_enter Tryz.func123, Tryz.ntmps123
     go_wp2_with (go_at_call 155; refine (HI.out _).mono ?_; rintro e w1 ⟨rfl, hb⟩; obtain ⟨d0, d1, d2, d3⟩ := (HK.out _ hb).cells; have f0 := d2 0; have f1 := d2 1)
     refine (HP.out _).mono ?_;rintro e w2 ⟨rfl, rfl⟩;go_wp2
     go_ret
     exact ⟨rfl, HE.out _ _ _ hb (by simp)⟩
   . go_enter Tryz.func123, Tryz.ntmps123
     go_wp2_with (go_at_call 155; refine (HI.out _).mono ?_; rintro e w1 ⟨rfl, hb⟩; obtain ⟨d0, d1, d2, d3⟩ := (HK.out _ hb).cells; have f0 := d2 0; have f1 := d2 1)
     go_ret
     exact ⟨rfl, HE.out _ _ _ hb (by simp)⟩
 . rw [if_neg hd] at hI
   rw [hI] at HI;obtain rfl : m = s.size := by omega
   have q1 : s.extract 0 s.size = s := by simp
   have q2 : s.extract s.size s.size = ByteArray.empty := by simp
   rw [q1] at HP ⊢;rw [q2] at HE ⊢;have g0 : (0 : Int) <= s.size := by omega
   clear hI hd hm q1 q2 hs;cases bad
   . go_enter Tryz.func123, Tryz.ntmps123
     go_wp2_with (go_at_call 155; refine (HI.out _).mono ?_; rintro e w1 ⟨rfl, hb⟩; obtain ⟨d0, d1, d2, d3⟩ := (HK.out _ hb).cells; have f0 := d2 0; have f1 := d2 1)
     refine (HP.out _).mono ?_;rintro e w2 ⟨rfl, rfl⟩;go_wp2
     go_ret
     exact ⟨rfl, HE.out _ _ _ hb (by simp)⟩
   . go_enter Tryz.func123, Tryz.ntmps123
     go_wp2_with (go_at_call 155; refine (HI.out _).mono ?_; rintro e w1 ⟨rfl, hb⟩; obtain ⟨d0, d1, d2, d3⟩ := (HK.out _ hb).cells; have f0 := d2 0; have f1 := d2 1)
     go_ret
     exact ⟨rfl, HE.out _ _ _ hb (by simp)⟩
def kO (k n : Int) (t : List UInt8) : Obj := .cells #[.int .i64 k, .int .i64 n, .string ⟨t.toArray⟩] 58 (0, 0)
theorem ko_cells {W : World} {r : Nat} {k n : Int} {t : List UInt8} (h : W.heap[r]? = some (kO k n t)) : W.cell? ⟨r, 0, none⟩ = some (.int .i64 k) /\ W.cell? ⟨r, 1, none⟩ = some (.int .i64 n) /\ W.cell? ⟨r, 2, none⟩ = some (.string ⟨t.toArray⟩) /\ (∀ o, W.frozen? ⟨r, o, none⟩ = false) /\ r < W.heap.size := by
 unfold kO at h;refine ⟨by unfold World.cell?; simp [h], by unfold World.cell?; simp [h], by unfold World.cell?; simp [h], fun o => by unfold World.frozen?; simp [h], lt_of_block h⟩
theorem ko_kept {W W' : World} {r b : Nat} {o : Obj} (h : W.heap[r]? = some o) (hg : W.grownBy W' (some b)) (hne : r ≠ b) : W'.heap[r]? = some o := (hg.block r (lt_of_block h) (by simpa using hne)).trans h
theorem ko_new (w : World) (o : Obj) : (w.alloc o).heap[w.heap.size]? = some o := by
 show (w.heap.push o)[w.heap.size]? = _;simp
theorem ko_set {W : World} {r : Nat} {k n : Int} {t : List UInt8} (h : W.heap[r]? = some (kO k n t)) (k' n' : Int) (t' : List UInt8) : (((W.setCell ⟨r, 0, none⟩ (.int .i64 k')).setCell ⟨r, 1, none⟩ (.int .i64 n')).setCell ⟨r, 2, none⟩ (.string ⟨t'.toArray⟩)).heap[r]? = some (kO k' n' t') := by
 unfold World.setCell kO at *;simp only [Array.getElem?_modify, if_true, h, Option.map_some];rfl
theorem ko_rd {W : World} {r b : Nat} {s : ByteArray} {bad : Bool} (h : Rd b W s bad) (hne : r ≠ b) (i : Nat) (v : Value) : Rd b (W.setCell ⟨r, i, none⟩ v) s bad := by
 unfold Rd at *;rw [<- h];exact Below.heap_setCell _ _ _ _ (fun e => hne e.symm)
theorem rd_alloc {W : World} {b : Nat} {s : ByteArray} {bad : Bool} (h : Rd b W s bad) (o : Obj) : Rd b (W.alloc o) s bad := h.kept ((Below.refl _ _).alloc (Nat.le_refl _) _)
theorem rd_grown {W W' : World} {b r : Nat} {s : ByteArray} {bad : Bool} (h : Rd b W s bad) (hg : W.grownBy W' (some r)) (hne : b ≠ r) : Rd b W' s bad := ko_kept h hg hne
theorem grown_setO {w W : World} {row : Option Nat} (h : w.grownBy W row) (a : Addr) (u : Value) (hle : w.heap.size <= a.block) : w.grownBy (W.setCell a u) row :=
 ⟨h.os, h.tape, h.output, by simp [World.setCell]; exact h.size, fun k hk hne => (Below.heap_setCell _ _ _ _ (fun e => by subst e; omega)).trans (h.block k hk hne)⟩
theorem key_end {w W : World} {r b : Nat} {s : ByteArray} {bad : Bool} {k n : Int} {t : List UInt8} (h : W.heap[r]? = some (kO k n t)) (hr : Rd b W s bad) (hg : w.grownBy W (some b)) (hne : r ≠ b) (hle : w.heap.size <= r) (k' n' : Int) (t' : ByteArray) (W' : World) (e : W' = ((W.setCell ⟨r, 0, none⟩ (.int .i64 k')).setCell ⟨r, 1, none⟩ (.int .i64 n')).setCell ⟨r, 2, none⟩ (.string t')) :
 (W'.cell? ⟨r, 0, none⟩ = some (.int .i64 k') /\ W'.cell? ⟨r, 1, none⟩ = some (.int .i64 n') /\ W'.cell? ⟨r, 2, none⟩ = some (.string t')) /\ Rd b W' s bad /\ w.grownBy W' (some b) := by
 have e2 : (⟨t'.data.toList.toArray⟩ : ByteArray) = t' := by simp
 subst e;have h2 := ko_cells (ko_set h k' n' t'.data.toList);rw [e2] at h2;exact ⟨⟨h2.1, h2.2.1, h2.2.2.1⟩, ko_rd (ko_rd (ko_rd hr hne _ _) hne _ _) hne _ _, grown_setO (grown_setO (grown_setO hg _ _ hle) _ _ hle) _ _ hle⟩
theorem key_mid {w w1 : World} {b : Nat} {s : ByteArray} {bad : Bool} (h0 : w.grownBy (w.alloc (kO 0 0 [])) (some b)) (hg : (w.alloc (kO 0 0 [])).grownBy w1 (some b)) (hr : Rd b w1 s bad) (ho : (w.alloc (kO 0 0 [])).heap[w.heap.size]? = some (kO 0 0 [])) (hne : w.heap.size ≠ b) :
 w.grownBy (w1.alloc (kO 0 0 [])) (some b) /\ Rd b (w1.alloc (kO 0 0 [])) s bad /\ (w1.alloc (kO 0 0 [])).heap[w.heap.size]? = some (kO 0 0 []) /\ (w1.alloc (kO 0 0 [])).heap[w1.heap.size]? = some (kO 0 0 []) := by
 have hb : Below w1.heap.size w1 (w1.alloc (kO 0 0 [])) := (Below.refl _ _).alloc (Nat.le_refl _) _;have h1 := ko_kept ho hg hne;exact ⟨grown_trans (grown_trans h0 hg) (grown_of hb _), rd_alloc hr _, (hb.block _ (lt_of_block h1)).trans h1, ko_new _ _⟩
theorem unqL_ok : ∀ (n : Nat) (l out : List UInt8), l.length <= n -> (unqL l out).1 = 0 -> (unqL l out).2.1.length <= 4096 /\ (unqL l out).2.2.length <= l.length
 | n, [], out, _, h => by rw [unqL_nil] at h; exact absurd h (by simp)
 | 0, c :: r, out, hn, h => by simp at hn
 | n + 1, c :: r, out, hn, h => by
   rw [unqL] at h ⊢
   by_cases hq : c.toNat = 34
   . rw [if_pos hq] at h ⊢
     by_cases h4 : 4096 < out.length
     . rw [if_pos h4] at h; exact absurd h (by simp)
     . rw [if_neg h4]; exact ⟨by show out.length <= 4096; omega, by simp⟩
   . rw [if_neg hq] at h ⊢
     by_cases h1 : (oneS (c :: r)).1 ≠ 0
     . rw [if_pos h1] at h; exact absurd h h1
     . rw [if_neg h1] at h ⊢
       have hl : (r.drop ((oneS (c :: r)).2.2 - 1)).length <= r.length := by rw [List.length_drop]; omega
       obtain ⟨a, b⟩ := unqL_ok n _ _ (by simp at hn; omega) h;exact ⟨a, by simp; omega⟩
theorem unqS_ok (l : List UInt8) : (unqS l).2.1.length <= 4096 /\ (unqS l).2.2 <= l.length := by
 unfold unqS;split
 . simp
 . split
   . simp
   . split
     . simp
     . have := unqL_ok _ l.tail [] (Nat.le_refl _) (by simp_all)
       exact ⟨this.1, by simp⟩
set_option maxHeartbeats 4000000 in
theorem key_bad (s : ByteArray) (b : Nat) (w : World) (h : Rd b w s true) : Calls Tryz.prog 124 #[.pointer (some ⟨b, 0, none⟩)] w fun e w' =>
 e = .returned (.agg #[.int .i64 0, .int .i64 0, .string ⟨#[]⟩]) /\ Rd b w' s true /\ w.grownBy w' (some b) := by
 obtain ⟨c0, c1, c2, c3⟩ := h.cells;have HE := hid (⟨rd_alloc h (kO 0 0 []), grown_of ((Below.refl _ _).alloc (Nat.le_refl _) _) (some b)⟩ : Rd b (w.alloc (kO 0 0 [])) s true /\ w.grownBy (w.alloc (kO 0 0 [])) (some b));clear h;go_enter Tryz.func124, Tryz.ntmps124;go_wp2
 obtain ⟨d0, d1, d2, d3, d4⟩ := ko_cells (W := w.alloc (kO 0 0 [])) (r := w.heap.size) (k := 0) (n := 0) (t := []) (ko_new w _);unfold kO at d0 d1 d2 HE;exact bodyPost_ret (v := .agg #[.int .i64 0, .int .i64 0, .string ⟨#[]⟩]) (by simp [results, Tryz.results124, go_sem, d0, d1, d2]) rfl ⟨rfl, HE.out⟩
theorem key_no (s : ByteArray) (b : Nat) (w : World) (h : Rd b w s false) (hp : hasP [91] s = false) : Calls Tryz.prog 124 #[.pointer (some ⟨b, 0, none⟩)] w fun e w' =>
 e = .returned (.agg #[.int .i64 0, .int .i64 0, .string ⟨#[]⟩]) /\ Rd b w' (cutS [91] s) false /\ w.grownBy w' (some b) := by
 have HA := hid (fun (W : World) (hW : Rd b W s false) => has_any ⟨#[91]⟩ s b false W hW);have HR := hid (rd_alloc h (kO 0 0 []));have HG := hid (grown_of ((Below.refl w.heap.size w).alloc (Nat.le_refl _) (kO 0 0 [])) (some b));have HO := hid (show (w.alloc (kO 0 0 [])).heap[w.heap.size]? = some (kO 0 0 []) from ko_new w _);obtain ⟨c0, c1, c2, c3⟩ := h.cells;have hne : w.heap.size ≠ b := by omega
 clear h;unfold kO at HR HG;go_enter Tryz.func124, Tryz.ntmps124;go_wp2_with (go_at_call 120; refine (HA.out _ HR.out).mono ?_; rintro e w1 ⟨rfl, hr, hg⟩; rw [hp]; obtain ⟨d0, d1, d2, d3, d4⟩ := ko_cells (ko_kept HO.out hg hne); have f0 := d3 0; have f1 := d3 1; have f2 := d3 2)
 obtain ⟨⟨k0, k1, k2⟩, hE⟩ := key_end (ko_kept HO.out hg hne) hr (grown_trans HG.out hg) hne (Nat.le_refl _) 0 0 ⟨#[]⟩ _ rfl;exact bodyPost_ret (v := .agg #[.int .i64 0, .int .i64 0, .string ⟨#[]⟩]) (by simp [results, Tryz.results124, go_sem, k0, k1, k2]) rfl ⟨rfl, hE⟩
set_option maxHeartbeats 4000000 in
theorem key_se (s s1 : ByteArray) (b : Nat) (w w0 : World) (hT : WT w0) (hB : Below w0.heap.size w0 w) (hb0 : w0.heap.size <= b) (hs : s1.size <= 2000000) (h : Rd b w s false) (hp : hasP [91] s = true) (e1 : cutS [91] s = s1) (hq : Lib.hasPrefix s1.data.toList [34] = true) (he : (unqS s1.data.toList).1 ≠ 0) : Calls Tryz.prog 124 #[.pointer (some ⟨b, 0, none⟩)] w fun e w' =>
 e = .returned (.agg #[.int .i64 0, .int .i64 0, .string ⟨#[]⟩]) /\ Rd b w' s1 true /\ w.grownBy w' (some b) := by
 have HA := hid (fun (W : World) (hW : Rd b W s false) => has_any ⟨#[91]⟩ s b false W hW);rw [show cutS (⟨#[91]⟩ : ByteArray).data.toList s = s1 from e1] at HA;have HR := hid (rd_alloc h (kO 0 0 []));have HG := hid (grown_of ((Below.refl w.heap.size w).alloc (Nat.le_refl _) (kO 0 0 [])) (some b));have HO := hid (show (w.alloc (kO 0 0 [])).heap[w.heap.size]? = some (kO 0 0 []) from ko_new w _);have HH := hid (fun (W : World) => Tryz.strings_HasPrefix s1 ⟨#[34]⟩ W);have HU := hid (fun (W : World) (hW : WT W) => punq_any s1 W hW hs);generalize unqS s1.data.toList = x at HU he;obtain ⟨c0, c1, c2, c3⟩ := h.cells;have hne : w.heap.size ≠ b := by omega
 have hge : w0.heap.size <= w.heap.size := hB.size;have HW := hid (fun (W : World) (hg : w.grownBy W (some b)) => hB.grown hg hge (fun k hk => by cases hk; exact hb0));clear h;unfold kO at HR HG;have g0 : decide (x.1 = 0) = false := decide_eq_false he;go_enter Tryz.func124, Tryz.ntmps124;go_wp2_with (go_at_call 120; refine (HA.out _ HR.out).mono ?_; rintro e w1 ⟨rfl, hr, hg⟩; rw [hp]; obtain ⟨d0, d1, d2, d3⟩ := hr.cells; have hne1 : w1.heap.size ≠ b := by omega)
 obtain ⟨HY, HR2, HO2, HV2⟩ := key_mid (HG.out) hg hr HO.out hne;unfold kO at HY HR2 HO2 HV2;go_at_call 157;refine (HH.out _).mono ?_;rintro e w2 ⟨rfl, rfl⟩;rw [show Lib.hasPrefix s1.data.toList (⟨#[34]⟩ : ByteArray).data.toList = true from hq];go_wp2_with (go_at_call 158; refine (HU.out _ (hT.below (HW.out _ HY))).mono ?_; rintro e w3 ⟨rfl, hb3⟩; simp only [UqR])
 have HR3 := HR2.kept hb3;have HO3 := (hb3.block _ (lt_of_block HO2)).trans HO2;have HV3 := (hb3.block _ (lt_of_block HV2)).trans HV2;have HG3 := grown_trans HY (grown_of hb3 (some b));obtain ⟨d0, d1, d2, d3⟩ := HR3.cells;have f1 := d2 1;go_quiet (fail)
 have hb4 := bel_drewN (Below.refl w3.heap.size w3) nq;generalize w3.drewN nq = w4 at *;have HR4 := HR3.kept hb4;have HO4 := (hb4.block _ (lt_of_block HO3)).trans HO3;have HV4 := (hb4.block _ (lt_of_block HV3)).trans HV3;have HG4 := grown_trans HG3 (grown_of hb4 (some b));clear d0 d1 d2 d3 f1;obtain ⟨d0, d1, d2, d3⟩ := HR4.cells;have f1 := d2 1;have HRb := HR4.set1 true;have HOb := ko_kept HO4 (grown_setC w4 ⟨b, 1, none⟩ (.bool true)) hne;have HVb := ko_kept HV4 (grown_setC w4 ⟨b, 1, none⟩ (.bool true)) hne1;have HGb := grown_trans HG4 (grown_setC w4 ⟨b, 1, none⟩ (.bool true));obtain ⟨v0, v1, v2, v3, v4⟩ := ko_cells (k := 0) (n := 0) (t := []) HVb;obtain ⟨o0, o1, o2, o3, o4⟩ := ko_cells (k := 0) (n := 0) (t := []) HOb;have q0 := o3 0;have q1 := o3 1;have q2 := o3 2;go_wp2
 obtain ⟨⟨k0, k1, k2⟩, hE⟩ := key_end (k := 0) (n := 0) (t := []) HOb HRb HGb hne (Nat.le_refl _) 0 0 ⟨#[]⟩ _ rfl;exact bodyPost_ret (v := .agg #[.int .i64 0, .int .i64 0, .string ⟨#[]⟩]) (by simp [results, Tryz.results124, go_sem, k0, k1, k2]) rfl ⟨rfl, hE⟩
set_option maxHeartbeats 4000000 in
theorem key_sq (s s1 : ByteArray) (b : Nat) (w w0 : World) (hT : WT w0) (hB : Below w0.heap.size w0 w) (hb0 : w0.heap.size <= b) (hs : s1.size <= 2000000) (h : Rd b w s false) (hp : hasP [91] s = true) (e1 : cutS [91] s = s1) (hq : Lib.hasPrefix s1.data.toList [34] = true) (he : (unqS s1.data.toList).1 = 0) (hv : quo (unqS s1.data.toList).2.1 ≠ s1.data.toList.take (unqS s1.data.toList).2.2) : Calls Tryz.prog 124 #[.pointer (some ⟨b, 0, none⟩)] w fun e w' =>
 e = .returned (.agg #[.int .i64 0, .int .i64 0, .string ⟨#[]⟩]) /\ Rd b w' s1 true /\ w.grownBy w' (some b) := by
 have HA := hid (fun (W : World) (hW : Rd b W s false) => has_any ⟨#[91]⟩ s b false W hW);rw [show cutS (⟨#[91]⟩ : ByteArray).data.toList s = s1 from e1] at HA;have HR := hid (rd_alloc h (kO 0 0 []));have HG := hid (grown_of ((Below.refl w.heap.size w).alloc (Nat.le_refl _) (kO 0 0 [])) (some b));have HO := hid (show (w.alloc (kO 0 0 [])).heap[w.heap.size]? = some (kO 0 0 []) from ko_new w _);have HH := hid (fun (W : World) => Tryz.strings_HasPrefix s1 ⟨#[34]⟩ W);have HU := hid (fun (W : World) (hW : WT W) => punq_any s1 W hW hs);have hx := unqS_ok s1.data.toList;rw [size_list] at hx;generalize unqS s1.data.toList = x at HU he hx hv;obtain ⟨x1, x2, n⟩ := x;obtain rfl : x1 = 0 := he;have HQ := hid (fun (W : World) (hW : WT W) => pquote_any ⟨x2.toArray⟩ W hW (by rw [ba_size]; have := hx.1; simp only at this; omega));have hn : (n : Int) <= s1.size := by have := hx.2; simp only at this; omega
 have ht : (s1.extract 0 n).toList = s1.data.toList.take n := by
  have := Lib.extract_data s1 0 n;rw [ByteArray.toList_eq, this]; simp
 have hbv : (quo x2 == (s1.extract 0 n).toList) = false := by rw [ht]; simpa using hv
 clear hx hv ht;obtain ⟨c0, c1, c2, c3⟩ := h.cells;have hne : w.heap.size ≠ b := by omega
 have hge : w0.heap.size <= w.heap.size := hB.size;have HW := hid (fun (W : World) (hg : w.grownBy W (some b)) => hB.grown hg hge (fun k hk => by cases hk; exact hb0));clear h;unfold kO at HR HG;go_enter Tryz.func124, Tryz.ntmps124;go_wp2_with (go_at_call 120; refine (HA.out _ HR.out).mono ?_; rintro e w1 ⟨rfl, hr, hg⟩; rw [hp]; obtain ⟨d0, d1, d2, d3⟩ := hr.cells; have hne1 : w1.heap.size ≠ b := by omega)
 obtain ⟨HY, HR2, HO2, HV2⟩ := key_mid (HG.out) hg hr HO.out hne;unfold kO at HY HR2 HO2 HV2;go_at_call 157;refine (HH.out _).mono ?_;rintro e w2 ⟨rfl, rfl⟩;rw [show Lib.hasPrefix s1.data.toList (⟨#[34]⟩ : ByteArray).data.toList = true from hq];go_wp2_with (go_at_call 158; refine (HU.out _ (hT.below (HW.out _ HY))).mono ?_; rintro e w3 ⟨rfl, hb3⟩; simp only [UqR])
 have HR3 := HR2.kept hb3;have HO3 := (hb3.block _ (lt_of_block HO2)).trans HO2;have HV3 := (hb3.block _ (lt_of_block HV2)).trans HV2;have HG3 := grown_trans HY (grown_of hb3 (some b));obtain ⟨d0, d1, d2, d3⟩ := HR3.cells;have f1 := d2 1;have dr := fun d os => cell_regrown d0 d os;have HQR := hid (fun d os => Calls.regrown_of (HQ.out _ (hT.below (HW.out _ (grown_trans HG3 (grown_of (below_regrown w3 d os) (some b)))))));refine wp_region_quiet_below (by kernel_rfl) (by kernel_rfl) ?_
 repeat (go_big_quiet_step (exact HQR.out _ _))
 refine wpQuiet_nil ?_;intro _ hw';obtain ⟨⟨dq, osq⟩, hw''⟩ := hw';subst hw'';simp only [hbv, Bool.not_false, Bool.not_true];have hb4 := below_regrown w3 dq osq;clear dr HQR;generalize grow (redrawn w3 dq) osq = w4 at *;have HR4 := HR3.kept hb4;have HO4 := (hb4.block _ (lt_of_block HO3)).trans HO3;have HV4 := (hb4.block _ (lt_of_block HV3)).trans HV3;have HG4 := grown_trans HG3 (grown_of hb4 (some b));clear d0 d1 d2 d3 f1;obtain ⟨d0, d1, d2, d3⟩ := HR4.cells;have f1 := d2 1;have HRb := HR4.set1 true;have HOb := ko_kept HO4 (grown_setC w4 ⟨b, 1, none⟩ (.bool true)) hne;have HVb := ko_kept HV4 (grown_setC w4 ⟨b, 1, none⟩ (.bool true)) hne1;have HGb := grown_trans HG4 (grown_setC w4 ⟨b, 1, none⟩ (.bool true));obtain ⟨v0, v1, v2, v3, v4⟩ := ko_cells (k := 0) (n := 0) (t := []) HVb;obtain ⟨o0, o1, o2, o3, o4⟩ := ko_cells (k := 0) (n := 0) (t := []) HOb;have q0 := o3 0;have q1 := o3 1;have q2 := o3 2;go_wp2
 obtain ⟨⟨k0, k1, k2⟩, hE⟩ := key_end (k := 0) (n := 0) (t := []) HOb HRb HGb hne (Nat.le_refl _) 0 0 ⟨#[]⟩ _ rfl;exact bodyPost_ret (v := .agg #[.int .i64 0, .int .i64 0, .string ⟨#[]⟩]) (by simp [results, Tryz.results124, go_sem, k0, k1, k2]) rfl ⟨rfl, hE⟩
theorem key_put {w w1 w4 : World} {b : Nat} {s : ByteArray} {bad : Bool} (HR4 : Rd b w4 s bad) (HO4 : w4.heap[w.heap.size]? = some (kO 0 0 [])) (HV4 : w4.heap[w1.heap.size]? = some (kO 0 0 [])) (HG4 : w.grownBy w4 (some b)) (hne : w.heap.size ≠ b) (hne1 : w1.heap.size ≠ b) (hlt : w.heap.size < w1.heap.size) (k n : Int) (x t : List UInt8) (s2 : ByteArray) (W : World)
 (e : W = (((w4.setCell ⟨w1.heap.size, 0, none⟩ (.int .i64 k)).setCell ⟨w1.heap.size, 1, none⟩ (.int .i64 n)).setCell ⟨w1.heap.size, 2, none⟩ (.string ⟨x.toArray⟩)).setCell ⟨b, 0, none⟩ (.string s2)) :
 Rd b W s2 bad /\ W.heap[w.heap.size]? = some (kO 0 0 []) /\ W.heap[w1.heap.size]? = some (kO k n x) /\ w.grownBy W (some b) := by
 subst e;have h1 : ∀ (X : World) (i : Nat) (v : Value), (X.setCell ⟨w1.heap.size, i, none⟩ v).heap[w.heap.size]? = X.heap[w.heap.size]? := fun X i v => Below.heap_setCell _ _ _ _ (fun e => by simp only at e; omega);have hw := HG4.size;refine ⟨(ko_rd (ko_rd (ko_rd HR4 hne1 _ _) hne1 _ _) hne1 _ _).set0 s2, ?_, ?_, ?_⟩
 . exact ko_kept (((h1 _ _ _).trans ((h1 _ _ _).trans (h1 _ _ _))).trans HO4) (grown_setC _ ⟨b, 0, none⟩ _) hne
 . exact ko_kept (ko_set HV4 k n x) (grown_setC _ ⟨b, 0, none⟩ _) hne1
 . exact grown_trans (grown_setO (grown_setO (grown_setO HG4 _ _ (Nat.le_of_lt hlt)) _ _ (Nat.le_of_lt hlt)) _ _ (Nat.le_of_lt hlt)) (grown_setC _ ⟨b, 0, none⟩ _)
set_option maxHeartbeats 4000000 in
theorem key_so (s s1 : ByteArray) (b : Nat) (w w0 : World) (hT : WT w0) (hB : Below w0.heap.size w0 w) (hb0 : w0.heap.size <= b) (hs : s1.size <= 2000000) (h : Rd b w s false) (hp : hasP [91] s = true) (e1 : cutS [91] s = s1) (hq : Lib.hasPrefix s1.data.toList [34] = true) (he : (unqS s1.data.toList).1 = 0) (hv : quo (unqS s1.data.toList).2.1 = s1.data.toList.take (unqS s1.data.toList).2.2) : Calls Tryz.prog 124 #[.pointer (some ⟨b, 0, none⟩)] w fun e w' =>
 e = .returned (.agg #[.int .i64 2, .int .i64 0, .string ⟨(unqS s1.data.toList).2.1.toArray⟩]) /\ Rd b w' (cutS [93] (s1.extract (unqS s1.data.toList).2.2 s1.size)) (false || !hasP [93] (s1.extract (unqS s1.data.toList).2.2 s1.size)) /\ w.grownBy w' (some b) := by
 have HA := hid (fun (W : World) (hW : Rd b W s false) => has_any ⟨#[91]⟩ s b false W hW);rw [show cutS (⟨#[91]⟩ : ByteArray).data.toList s = s1 from e1] at HA;have HR := hid (rd_alloc h (kO 0 0 []));have HG := hid (grown_of ((Below.refl w.heap.size w).alloc (Nat.le_refl _) (kO 0 0 [])) (some b));have HO := hid (show (w.alloc (kO 0 0 [])).heap[w.heap.size]? = some (kO 0 0 []) from ko_new w _);have HH := hid (fun (W : World) => Tryz.strings_HasPrefix s1 ⟨#[34]⟩ W);have HU := hid (fun (W : World) (hW : WT W) => punq_any s1 W hW hs);have hx := unqS_ok s1.data.toList;rw [size_list] at hx;generalize unqS s1.data.toList = x at HU he hx hv ⊢;obtain ⟨x1, x2, n⟩ := x;obtain rfl : x1 = 0 := he;have HQ := hid (fun (W : World) (hW : WT W) => pquote_any ⟨x2.toArray⟩ W hW (by rw [ba_size]; have := hx.1; simp only at this; omega));have hn : (n : Int) <= s1.size := by have := hx.2; simp only at this; omega
 have ht : (s1.extract 0 n).toList = s1.data.toList.take n := by
  have := Lib.extract_data s1 0 n;rw [ByteArray.toList_eq, this]; simp
 have hbv : (quo x2 == (s1.extract 0 n).toList) = true := by rw [ht]; simpa using hv
 clear hx hv ht;have HS := hid (fun (W : World) (hW : Rd b W (s1.extract n s1.size) false) => skip_any ⟨#[93]⟩ (s1.extract n s1.size) b false W hW);rw [show (⟨#[93]⟩ : ByteArray).data.toList = [93] from rfl] at HS;obtain ⟨c0, c1, c2, c3⟩ := h.cells;have hne : w.heap.size ≠ b := by omega
 have hge : w0.heap.size <= w.heap.size := hB.size;have HW := hid (fun (W : World) (hg : w.grownBy W (some b)) => hB.grown hg hge (fun k hk => by cases hk; exact hb0));clear h;unfold kO at HR HG;go_enter Tryz.func124, Tryz.ntmps124;go_wp2_with (go_at_call 120; refine (HA.out _ HR.out).mono ?_; rintro e w1 ⟨rfl, hr, hg⟩; rw [hp]; obtain ⟨d0, d1, d2, d3⟩ := hr.cells; have hne1 : w1.heap.size ≠ b := by omega)
 obtain ⟨HY, HR2, HO2, HV2⟩ := key_mid (HG.out) hg hr HO.out hne;unfold kO at HY HR2 HO2 HV2;go_at_call 157;refine (HH.out _).mono ?_;rintro e w2 ⟨rfl, rfl⟩;rw [show Lib.hasPrefix s1.data.toList (⟨#[34]⟩ : ByteArray).data.toList = true from hq];go_wp2_with (go_at_call 158; refine (HU.out _ (hT.below (HW.out _ HY))).mono ?_; rintro e w3 ⟨rfl, hb3⟩; simp only [UqR])
 have HR3 := HR2.kept hb3;have HO3 := (hb3.block _ (lt_of_block HO2)).trans HO2;have HV3 := (hb3.block _ (lt_of_block HV2)).trans HV2;have HG3 := grown_trans HY (grown_of hb3 (some b));obtain ⟨d0, d1, d2, d3⟩ := HR3.cells;have f1 := d2 1;have dr := fun d os => cell_regrown d0 d os;have HQR := hid (fun d os => Calls.regrown_of (HQ.out _ (hT.below (HW.out _ (grown_trans HG3 (grown_of (below_regrown w3 d os) (some b)))))));refine wp_region_quiet_below (by kernel_rfl) (by kernel_rfl) ?_
 repeat (go_big_quiet_step (exact HQR.out _ _))
 refine wpQuiet_nil ?_;intro _ hw';obtain ⟨⟨dq, osq⟩, hw''⟩ := hw';subst hw'';simp only [hbv, Bool.not_false, Bool.not_true];have hb4 := below_regrown w3 dq osq;clear dr HQR;generalize grow (redrawn w3 dq) osq = w4 at *;have HR4 := HR3.kept hb4;have HO4 := (hb4.block _ (lt_of_block HO3)).trans HO3;have HV4 := (hb4.block _ (lt_of_block HV3)).trans HV3;have HG4 := grown_trans HG3 (grown_of hb4 (some b));clear d0 d1 d2 d3 f1;obtain ⟨d0, d1, d2, d3⟩ := HR4.cells;have f1 := d2 1;have f0 := d2 0;have hlt : w.heap.size < w1.heap.size := by have := hg.size; simp [World.size_alloc] at this; omega
 obtain ⟨v0, v1, v2, v3, v4⟩ := ko_cells (k := 0) (n := 0) (t := []) HV4;have p0 := v3 0;have p1 := v3 1;have p2 := v3 2;go_wp2_with (go_at_call 122; obtain ⟨HR6, HO6, HV6, HG6⟩ := key_put HR4 HO4 HV4 HG4 hne hne1 hlt 2 0 x2 [] (s1.extract n s1.size) _ rfl; refine (HS.out _ HR6).mono ?_; rintro e w7 ⟨rfl, hr7, hg7⟩; obtain ⟨v0, v1, v2, v3, v4⟩ := ko_cells (ko_kept HV6 hg7 hne1); have HO7 := ko_kept HO6 hg7 hne; obtain ⟨o0, o1, o2, o3, o4⟩ := ko_cells (k := 0) (n := 0) (t := []) HO7; have HG7 := grown_trans HG6 hg7; have q0 := o3 0; have q1 := o3 1; have q2 := o3 2)
 obtain ⟨⟨k0, k1, k2⟩, hE⟩ := key_end (k := 0) (n := 0) (t := []) HO7 hr7 HG7 hne (Nat.le_refl _) 2 0 ⟨x2.toArray⟩ _ rfl;exact bodyPost_ret (v := .agg #[.int .i64 2, .int .i64 0, .string ⟨x2.toArray⟩]) (by simp [results, Tryz.results124, go_sem, k0, k1, k2]) rfl ⟨rfl, hE⟩
def nmAt (l : List UInt8) : Nat := (max (Lib.indexByte l 93) 0).toNat
theorem nmAt_le (l : List UInt8) : nmAt l <= l.length := by
 have hg := Lib.indexByte_ge l 93;unfold nmAt
 by_cases h : Lib.indexByte l 93 < 0
 . omega
 . have hk : Lib.indexByte l 93 = ((Lib.indexByte l 93).toNat : Int) := by omega
   have := (List.getElem?_eq_some_iff.mp (Lib.indexByte_some hk).1).1;omega
set_option maxHeartbeats 4000000 in
theorem key_nu (s s1 : ByteArray) (b : Nat) (w w0 : World) (hT : WT w0) (hB : Below w0.heap.size w0 w) (hb0 : w0.heap.size <= b) (hs : s1.size <= 2000000) (h : Rd b w s false) (hp : hasP [91] s = true) (e1 : cutS [91] s = s1) (v : Bool) (hq : Lib.hasPrefix s1.data.toList [34] = false) (hv : (decide ((numS (s1.data.toList.take (nmAt s1.data.toList))).2 ≠ 0) || decide ((numS (s1.data.toList.take (nmAt s1.data.toList))).1 < 0)) = v) : Calls Tryz.prog 124 #[.pointer (some ⟨b, 0, none⟩)] w fun e w' =>
 e = .returned (.agg #[.int .i64 1, .int .i64 (numS (s1.data.toList.take (nmAt s1.data.toList))).1, .string ⟨#[]⟩]) /\ Rd b w' (cutS [93] (s1.extract (nmAt s1.data.toList) s1.size)) (v || !hasP [93] (s1.extract (nmAt s1.data.toList) s1.size)) /\ w.grownBy w' (some b) := by
 have HA := hid (fun (W : World) (hW : Rd b W s false) => has_any ⟨#[91]⟩ s b false W hW);rw [show cutS (⟨#[91]⟩ : ByteArray).data.toList s = s1 from e1] at HA;have HR := hid (rd_alloc h (kO 0 0 []));have HG := hid (grown_of ((Below.refl w.heap.size w).alloc (Nat.le_refl _) (kO 0 0 [])) (some b));have HO := hid (show (w.alloc (kO 0 0 [])).heap[w.heap.size]? = some (kO 0 0 []) from ko_new w _);have HH := hid (fun (W : World) => Tryz.strings_HasPrefix s1 ⟨#[34]⟩ W);have HI := hid (fun (W : World) => Tryz.strings_IndexByte s1 93 W)
 have hz : ∃ z : Int, ∃ m : Nat, Lib.indexByte s1.data.toList 93 = z /\ nmAt s1.data.toList = m /\ (z = (m : Int) ∨ (z = -1 /\ m = 0)) /\ m <= s1.size := by
  have hg := Lib.indexByte_ge s1.data.toList 93;refine ⟨_, _, rfl, rfl, ?_, ?_⟩
  . unfold nmAt; omega
  . rw [<- size_list]; exact nmAt_le _
 obtain ⟨z, m, hz1, hz2, hz3, hm⟩ := hz;rw [show (93 : Int).toNat.toUInt8 = 93 from rfl, hz1] at HI;rw [hz2] at hv ⊢
 have ht : (s1.extract 0 m).data.toList = s1.data.toList.take m := by
  have := Lib.extract_data s1 0 m;rw [this]; simp
 have HN := hid (fun (W : World) (hW : WT W) => pnum_any (s1.extract 0 m) W hW (by rw [<- size_list, ht, List.length_take, size_list]; omega));rw [ht] at HN;have hm2 : (m : Int) <= s1.size := by omega
 generalize numS (s1.data.toList.take m) = x at HN hv ⊢;obtain ⟨num, er⟩ := x;have HS := hid (fun (W : World) (hW : Rd b W (s1.extract m s1.size) v) => skip_any ⟨#[93]⟩ (s1.extract m s1.size) b v W hW);rw [show (⟨#[93]⟩ : ByteArray).data.toList = [93] from rfl] at HS;simp only at hv;clear hz1 hz2 ht hm
 have hv3 : (((er != 0) = true /\ (er == 0) = false /\ decide (er = 0) = false) /\ v = true) ∨ (er = 0 /\ v = decide (num < 0)) := by
  subst hv
  by_cases h1 : er = 0 <;> simp [h1]
 clear hv;obtain ⟨c0, c1, c2, c3⟩ := h.cells;have hne : w.heap.size ≠ b := by omega
 have hge : w0.heap.size <= w.heap.size := hB.size;have HW := hid (fun (W : World) (hg : w.grownBy W (some b)) => hB.grown hg hge (fun k hk => by cases hk; exact hb0));clear h;unfold kO at HR HG;rcases hz3 with rfl | ⟨rfl, rfl⟩ <;> rcases hv3 with ⟨⟨g1, g2, g3⟩, rfl⟩ | ⟨rfl, rfl⟩
 . go_enter Tryz.func124, Tryz.ntmps124
   go_wp2_with (go_at_call 120; refine (HA.out _ HR.out).mono ?_; rintro e w1 ⟨rfl, hr, hg⟩; rw [hp]; obtain ⟨d0, d1, d2, d3⟩ := hr.cells; have hne1 : w1.heap.size ≠ b := by omega)
   obtain ⟨HY, HR2, HO2, HV2⟩ := key_mid (HG.out) hg hr HO.out hne;unfold kO at HY HR2 HO2 HV2;go_at_call 157;refine (HH.out _).mono ?_;rintro e w2 ⟨rfl, rfl⟩;rw [show Lib.hasPrefix s1.data.toList (⟨#[34]⟩ : ByteArray).data.toList = false from hq];go_wp2_with (go_at_call 160; refine (HI.out _).mono ?_; rintro e wq ⟨rfl, rfl⟩)
   go_wp2_with (go_at_call 161; refine (HN.out _ (hT.below (HW.out _ HY))).mono ?_; rintro e w4 ⟨rfl, hb4⟩; simp only [NmR]; have HR4 := HR2.kept hb4; have HO4 := (hb4.block _ (lt_of_block HO2)).trans HO2; have HV4 := (hb4.block _ (lt_of_block HV2)).trans HV2; have HG4 := grown_trans HY (grown_of hb4 (some b)); obtain ⟨d0, d1, d2, d3⟩ := HR4.cells; have f1 := d2 1; have f0 := d2 0; have hlt : w.heap.size < w1.heap.size := (by have := hg.size; simp [World.size_alloc] at this; omega); obtain ⟨v0, v1, v2, v3, v4⟩ := ko_cells (k := 0) (n := 0) (t := []) HV4; have p0 := v3 0; have p1 := v3 1; have p2 := v3 2)
   go_at_call 122;obtain ⟨HR6, HO6, HV6, HG6⟩ := key_put (HR4.set1 _) (ko_kept HO4 (grown_setC w4 ⟨b, 1, none⟩ (.bool _)) hne) (ko_kept HV4 (grown_setC w4 ⟨b, 1, none⟩ (.bool _)) hne1) (grown_trans HG4 (grown_setC w4 ⟨b, 1, none⟩ (.bool _))) hne hne1 hlt 1 num [] [] _ _ rfl;refine (HS.out _ HR6).mono ?_;rintro e w7 ⟨rfl, hr7, hg7⟩;obtain ⟨v0, v1, v2, v3, v4⟩ := ko_cells (ko_kept HV6 hg7 hne1);have HO7 := ko_kept HO6 hg7 hne;obtain ⟨o0, o1, o2, o3, o4⟩ := ko_cells (k := 0) (n := 0) (t := []) HO7;have HG7 := grown_trans HG6 hg7;have q0 := o3 0;have q1 := o3 1;have q2 := o3 2;go_wp2
   obtain ⟨⟨k0, k1, k2⟩, hE⟩ := key_end (k := 0) (n := 0) (t := []) HO7 hr7 HG7 hne (Nat.le_refl _) 1 num ⟨#[]⟩ _ rfl;exact bodyPost_ret (v := .agg #[.int .i64 1, .int .i64 num, .string ⟨#[]⟩]) (by simp [results, Tryz.results124, go_sem, k0, k1, k2]) rfl ⟨rfl, hE⟩
 . go_enter Tryz.func124, Tryz.ntmps124
   go_wp2_with (go_at_call 120; refine (HA.out _ HR.out).mono ?_; rintro e w1 ⟨rfl, hr, hg⟩; rw [hp]; obtain ⟨d0, d1, d2, d3⟩ := hr.cells; have hne1 : w1.heap.size ≠ b := by omega)
   obtain ⟨HY, HR2, HO2, HV2⟩ := key_mid (HG.out) hg hr HO.out hne;unfold kO at HY HR2 HO2 HV2;go_at_call 157;refine (HH.out _).mono ?_;rintro e w2 ⟨rfl, rfl⟩;rw [show Lib.hasPrefix s1.data.toList (⟨#[34]⟩ : ByteArray).data.toList = false from hq];go_wp2_with (go_at_call 160; refine (HI.out _).mono ?_; rintro e wq ⟨rfl, rfl⟩)
   go_wp2_with (go_at_call 161; refine (HN.out _ (hT.below (HW.out _ HY))).mono ?_; rintro e w4 ⟨rfl, hb4⟩; simp only [NmR]; have HR4 := HR2.kept hb4; have HO4 := (hb4.block _ (lt_of_block HO2)).trans HO2; have HV4 := (hb4.block _ (lt_of_block HV2)).trans HV2; have HG4 := grown_trans HY (grown_of hb4 (some b)); obtain ⟨d0, d1, d2, d3⟩ := HR4.cells; have f1 := d2 1; have f0 := d2 0; have hlt : w.heap.size < w1.heap.size := (by have := hg.size; simp [World.size_alloc] at this; omega); obtain ⟨v0, v1, v2, v3, v4⟩ := ko_cells (k := 0) (n := 0) (t := []) HV4; have p0 := v3 0; have p1 := v3 1; have p2 := v3 2)
   go_at_call 122;obtain ⟨HR6, HO6, HV6, HG6⟩ := key_put (HR4.set1 _) (ko_kept HO4 (grown_setC w4 ⟨b, 1, none⟩ (.bool _)) hne) (ko_kept HV4 (grown_setC w4 ⟨b, 1, none⟩ (.bool _)) hne1) (grown_trans HG4 (grown_setC w4 ⟨b, 1, none⟩ (.bool _))) hne hne1 hlt 1 num [] [] _ _ rfl;refine (HS.out _ HR6).mono ?_;rintro e w7 ⟨rfl, hr7, hg7⟩;obtain ⟨v0, v1, v2, v3, v4⟩ := ko_cells (ko_kept HV6 hg7 hne1);have HO7 := ko_kept HO6 hg7 hne;obtain ⟨o0, o1, o2, o3, o4⟩ := ko_cells (k := 0) (n := 0) (t := []) HO7;have HG7 := grown_trans HG6 hg7;have q0 := o3 0;have q1 := o3 1;have q2 := o3 2;go_wp2
   obtain ⟨⟨k0, k1, k2⟩, hE⟩ := key_end (k := 0) (n := 0) (t := []) HO7 hr7 HG7 hne (Nat.le_refl _) 1 num ⟨#[]⟩ _ rfl;exact bodyPost_ret (v := .agg #[.int .i64 1, .int .i64 num, .string ⟨#[]⟩]) (by simp [results, Tryz.results124, go_sem, k0, k1, k2]) rfl ⟨rfl, hE⟩
 . go_enter Tryz.func124, Tryz.ntmps124
   go_wp2_with (go_at_call 120; refine (HA.out _ HR.out).mono ?_; rintro e w1 ⟨rfl, hr, hg⟩; rw [hp]; obtain ⟨d0, d1, d2, d3⟩ := hr.cells; have hne1 : w1.heap.size ≠ b := by omega)
   obtain ⟨HY, HR2, HO2, HV2⟩ := key_mid (HG.out) hg hr HO.out hne;unfold kO at HY HR2 HO2 HV2;go_at_call 157;refine (HH.out _).mono ?_;rintro e w2 ⟨rfl, rfl⟩;rw [show Lib.hasPrefix s1.data.toList (⟨#[34]⟩ : ByteArray).data.toList = false from hq];go_wp2_with (go_at_call 160; refine (HI.out _).mono ?_; rintro e wq ⟨rfl, rfl⟩)
   go_wp2_with (go_at_call 161; refine (HN.out _ (hT.below (HW.out _ HY))).mono ?_; rintro e w4 ⟨rfl, hb4⟩; simp only [NmR]; have HR4 := HR2.kept hb4; have HO4 := (hb4.block _ (lt_of_block HO2)).trans HO2; have HV4 := (hb4.block _ (lt_of_block HV2)).trans HV2; have HG4 := grown_trans HY (grown_of hb4 (some b)); obtain ⟨d0, d1, d2, d3⟩ := HR4.cells; have f1 := d2 1; have f0 := d2 0; have hlt : w.heap.size < w1.heap.size := (by have := hg.size; simp [World.size_alloc] at this; omega); obtain ⟨v0, v1, v2, v3, v4⟩ := ko_cells (k := 0) (n := 0) (t := []) HV4; have p0 := v3 0; have p1 := v3 1; have p2 := v3 2)
   go_at_call 122;obtain ⟨HR6, HO6, HV6, HG6⟩ := key_put (HR4.set1 _) (ko_kept HO4 (grown_setC w4 ⟨b, 1, none⟩ (.bool _)) hne) (ko_kept HV4 (grown_setC w4 ⟨b, 1, none⟩ (.bool _)) hne1) (grown_trans HG4 (grown_setC w4 ⟨b, 1, none⟩ (.bool _))) hne hne1 hlt 1 num [] [] _ _ rfl;refine (HS.out _ HR6).mono ?_;rintro e w7 ⟨rfl, hr7, hg7⟩;obtain ⟨v0, v1, v2, v3, v4⟩ := ko_cells (ko_kept HV6 hg7 hne1);have HO7 := ko_kept HO6 hg7 hne;obtain ⟨o0, o1, o2, o3, o4⟩ := ko_cells (k := 0) (n := 0) (t := []) HO7;have HG7 := grown_trans HG6 hg7;have q0 := o3 0;have q1 := o3 1;have q2 := o3 2;go_wp2
   obtain ⟨⟨k0, k1, k2⟩, hE⟩ := key_end (k := 0) (n := 0) (t := []) HO7 hr7 HG7 hne (Nat.le_refl _) 1 num ⟨#[]⟩ _ rfl;exact bodyPost_ret (v := .agg #[.int .i64 1, .int .i64 num, .string ⟨#[]⟩]) (by simp [results, Tryz.results124, go_sem, k0, k1, k2]) rfl ⟨rfl, hE⟩
 . go_enter Tryz.func124, Tryz.ntmps124
   go_wp2_with (go_at_call 120; refine (HA.out _ HR.out).mono ?_; rintro e w1 ⟨rfl, hr, hg⟩; rw [hp]; obtain ⟨d0, d1, d2, d3⟩ := hr.cells; have hne1 : w1.heap.size ≠ b := by omega)
   obtain ⟨HY, HR2, HO2, HV2⟩ := key_mid (HG.out) hg hr HO.out hne;unfold kO at HY HR2 HO2 HV2;go_at_call 157;refine (HH.out _).mono ?_;rintro e w2 ⟨rfl, rfl⟩;rw [show Lib.hasPrefix s1.data.toList (⟨#[34]⟩ : ByteArray).data.toList = false from hq];go_wp2_with (go_at_call 160; refine (HI.out _).mono ?_; rintro e wq ⟨rfl, rfl⟩)
   go_wp2_with (go_at_call 161; refine (HN.out _ (hT.below (HW.out _ HY))).mono ?_; rintro e w4 ⟨rfl, hb4⟩; simp only [NmR]; have HR4 := HR2.kept hb4; have HO4 := (hb4.block _ (lt_of_block HO2)).trans HO2; have HV4 := (hb4.block _ (lt_of_block HV2)).trans HV2; have HG4 := grown_trans HY (grown_of hb4 (some b)); obtain ⟨d0, d1, d2, d3⟩ := HR4.cells; have f1 := d2 1; have f0 := d2 0; have hlt : w.heap.size < w1.heap.size := (by have := hg.size; simp [World.size_alloc] at this; omega); obtain ⟨v0, v1, v2, v3, v4⟩ := ko_cells (k := 0) (n := 0) (t := []) HV4; have p0 := v3 0; have p1 := v3 1; have p2 := v3 2)
   go_at_call 122;obtain ⟨HR6, HO6, HV6, HG6⟩ := key_put (HR4.set1 _) (ko_kept HO4 (grown_setC w4 ⟨b, 1, none⟩ (.bool _)) hne) (ko_kept HV4 (grown_setC w4 ⟨b, 1, none⟩ (.bool _)) hne1) (grown_trans HG4 (grown_setC w4 ⟨b, 1, none⟩ (.bool _))) hne hne1 hlt 1 num [] [] _ _ rfl;refine (HS.out _ HR6).mono ?_;rintro e w7 ⟨rfl, hr7, hg7⟩;obtain ⟨v0, v1, v2, v3, v4⟩ := ko_cells (ko_kept HV6 hg7 hne1);have HO7 := ko_kept HO6 hg7 hne;obtain ⟨o0, o1, o2, o3, o4⟩ := ko_cells (k := 0) (n := 0) (t := []) HO7;have HG7 := grown_trans HG6 hg7;have q0 := o3 0;have q1 := o3 1;have q2 := o3 2;go_wp2
   obtain ⟨⟨k0, k1, k2⟩, hE⟩ := key_end (k := 0) (n := 0) (t := []) HO7 hr7 HG7 hne (Nat.le_refl _) 1 num ⟨#[]⟩ _ rfl;exact bodyPost_ret (v := .agg #[.int .i64 1, .int .i64 num, .string ⟨#[]⟩]) (by simp [results, Tryz.results124, go_sem, k0, k1, k2]) rfl ⟨rfl, hE⟩
abbrev KeyT := Int × Int × List UInt8
def kV (k : KeyT) : Value := .agg #[.int .i64 k.1, .int .i64 k.2.1, .string ⟨k.2.2.toArray⟩]
def skipP (p l : List UInt8) (bad : Bool) : List UInt8 × Bool := (Lib.trimPrefix l p, bad || !Lib.hasPrefix l p)
def keyP (l : List UInt8) (bad : Bool) : KeyT × List UInt8 × Bool :=
 if bad = true then ((0, 0, []), l, true)
 else if Lib.hasPrefix l [91] = false then ((0, 0, []), Lib.trimPrefix l [91], false)
 else
  let t := Lib.trimPrefix l [91]
  if Lib.hasPrefix t [34] = true then
   (if (unqS t).1 ≠ 0 then ((0, 0, []), t, true)
   else if quo (unqS t).2.1 ≠ t.take (unqS t).2.2 then ((0, 0, []), t, true)
   else ((2, 0, (unqS t).2.1), skipP [93] (t.drop (unqS t).2.2) false))
  else ((1, (numS (t.take (nmAt t))).1, []), skipP [93] (t.drop (nmAt t)) (decide ((numS (t.take (nmAt t))).2 ≠ 0) || decide ((numS (t.take (nmAt t))).1 < 0)))
theorem trim_len (l p : List UInt8) : (Lib.trimPrefix l p).length <= l.length := by unfold Lib.trimPrefix; split <;> simp
theorem cut_size (p : List UInt8) (s : ByteArray) : (cutS p s).size <= s.size := by
 rw [<- size_list, <- size_list s];exact trim_len _ _
theorem ext_arr (s : ByteArray) (n : Nat) : s.extract n s.size = ⟨(s.data.toList.drop n).toArray⟩ := by
 apply ByteArray.ext; apply Array.toList_inj.mp; rw [extract_list]
theorem key_any (s : ByteArray) (b : Nat) (bad : Bool) (w w0 : World) (hT : WT w0) (hB : Below w0.heap.size w0 w) (hb0 : w0.heap.size <= b) (hs : s.size <= 2000000) (h : Rd b w s bad) : Calls Tryz.prog 124 #[.pointer (some ⟨b, 0, none⟩)] w fun e w' =>
 e = .returned (kV (keyP s.data.toList bad).1) /\ Rd b w' ⟨(keyP s.data.toList bad).2.1.toArray⟩ (keyP s.data.toList bad).2.2 /\ w.grownBy w' (some b) := by
 cases bad
 case true =>
  refine (key_bad s b w h).mono ?_;rintro e w' ⟨rfl, h1, h2⟩;exact ⟨rfl, h1, h2⟩
 have hK : keyP s.data.toList false = if Lib.hasPrefix s.data.toList [91] = false then ((0, 0, []), Lib.trimPrefix s.data.toList [91], false)
  else
  let t := Lib.trimPrefix s.data.toList [91]
  if Lib.hasPrefix t [34] = true then
   (if (unqS t).1 ≠ 0 then ((0, 0, []), t, true)
   else if quo (unqS t).2.1 ≠ t.take (unqS t).2.2 then ((0, 0, []), t, true)
   else ((2, 0, (unqS t).2.1), skipP [93] (t.drop (unqS t).2.2) false))
  else ((1, (numS (t.take (nmAt t))).1, []), skipP [93] (t.drop (nmAt t)) (decide ((numS (t.take (nmAt t))).2 ≠ 0) || decide ((numS (t.take (nmAt t))).1 < 0))) := by
  unfold keyP; rw [if_neg (by simp)]
 cases hp : Lib.hasPrefix s.data.toList [91]
 . rw [hK, if_pos hp]
   refine (key_no s b w h hp).mono ?_;rintro e w' ⟨rfl, h1, h2⟩;exact ⟨rfl, h1, h2⟩
 rw [hK, if_neg (by rw [hp]; simp)];have hz : (cutS [91] s).size <= 2000000 := Nat.le_trans (cut_size _ _) hs;have ht : (cutS [91] s).data.toList = Lib.trimPrefix s.data.toList [91] := rfl;simp only;rw [<- ht];generalize hs1 : cutS [91] s = s1 at hz ⊢;cases hq : Lib.hasPrefix s1.data.toList [34]
 case false =>
  rw [if_neg (by simp)];refine (key_nu s s1 b w w0 hT hB hb0 hz h hp hs1 _ hq rfl).mono ?_;rintro e w' ⟨rfl, h1, h2⟩;rw [ext_arr] at h1;exact ⟨rfl, h1, h2⟩
 rw [if_pos rfl]
 by_cases he : (unqS s1.data.toList).1 = 0
 case neg =>
  rw [if_pos he];refine (key_se s s1 b w w0 hT hB hb0 hz h hp hs1 hq he).mono ?_;rintro e w' ⟨rfl, h1, h2⟩;exact ⟨rfl, h1, h2⟩
 rw [if_neg (by simpa using he)]
 by_cases hv : quo (unqS s1.data.toList).2.1 = s1.data.toList.take (unqS s1.data.toList).2.2
 case neg =>
  rw [if_pos hv];refine (key_sq s s1 b w w0 hT hB hb0 hz h hp hs1 hq he hv).mono ?_;rintro e w' ⟨rfl, h1, h2⟩;exact ⟨rfl, h1, h2⟩
 rw [if_neg (by simpa using hv)];refine (key_so s s1 b w w0 hT hB hb0 hz h hp hs1 hq he hv).mono ?_;rintro e w' ⟨rfl, h1, h2⟩;rw [ext_arr] at h1;exact ⟨rfl, h1, h2⟩
theorem wrdR_list (s : ByteArray) : wrdR s = ⟨(s.data.toList.drop (dotN s.data.toList)).toArray⟩ := ext_arr _ _
theorem wrdS_list (s : ByteArray) : (wrdS s).data.toList = s.data.toList.take (dotN s.data.toList) := by
 have := Lib.extract_data s 0 (dotN s.data.toList);unfold wrdS;rw [this]; simp
theorem wrdS_arr (s : ByteArray) : wrdS s = ⟨(s.data.toList.take (dotN s.data.toList)).toArray⟩ := by
 apply ByteArray.ext; apply Array.toList_inj.mp; rw [wrdS_list]
def stepP (l : List UInt8) (bad : Bool) : (List UInt8 × KeyT) × List UInt8 × Bool :=
 ((l.take (dotN l), (keyP (l.drop (dotN l)) (bad || !idB (l.take (dotN l)))).1), (keyP (l.drop (dotN l)) (bad || !idB (l.take (dotN l)))).2)
def stV (x : List UInt8 × KeyT) : Value := .agg #[.string ⟨x.1.toArray⟩, .int .i64 x.2.1, .int .i64 x.2.2.1, .string ⟨x.2.2.2.toArray⟩]
def sO (n : List UInt8) (k m : Int) (t : List UInt8) : Obj := .cells #[.string ⟨n.toArray⟩, .int .i64 k, .int .i64 m, .string ⟨t.toArray⟩] 119 (0, 0)
theorem so_cells {W : World} {r : Nat} {n t : List UInt8} {k m : Int} (h : W.heap[r]? = some (sO n k m t)) : W.cell? ⟨r, 0, none⟩ = some (.string ⟨n.toArray⟩) /\ W.cell? ⟨r, 1, none⟩ = some (.int .i64 k) /\ W.cell? ⟨r, 2, none⟩ = some (.int .i64 m) /\ W.cell? ⟨r, 3, none⟩ = some (.string ⟨t.toArray⟩) /\ (∀ o, W.frozen? ⟨r, o, none⟩ = false) /\ r < W.heap.size := by
 unfold sO at h;refine ⟨by unfold World.cell?; simp [h], by unfold World.cell?; simp [h], by unfold World.cell?; simp [h], by unfold World.cell?; simp [h], fun o => by unfold World.frozen?; simp [h], lt_of_block h⟩
theorem step_mid {w w1 : World} {b : Nat} {s : ByteArray} {bad : Bool} (h0 : w.grownBy (w.alloc (sO [] 0 0 [])) (some b)) (hg : (w.alloc (sO [] 0 0 [])).grownBy w1 (some b)) (hr : Rd b w1 s bad) (ho : (w.alloc (sO [] 0 0 [])).heap[w.heap.size]? = some (sO [] 0 0 [])) (hne : w.heap.size ≠ b) (nm : List UInt8) :
 w.grownBy (w1.alloc (sO nm 0 0 [])) (some b) /\ Rd b (w1.alloc (sO nm 0 0 [])) s bad /\ (w1.alloc (sO nm 0 0 [])).heap[w.heap.size]? = some (sO [] 0 0 []) /\ (w1.alloc (sO nm 0 0 [])).heap[w1.heap.size]? = some (sO nm 0 0 []) := by
 have hb : Below w1.heap.size w1 (w1.alloc (sO nm 0 0 [])) := (Below.refl _ _).alloc (Nat.le_refl _) _;have h1 := ko_kept ho hg hne;exact ⟨grown_trans (grown_trans h0 hg) (grown_of hb _), rd_alloc hr _, (hb.block _ (lt_of_block h1)).trans h1, ko_new _ _⟩
theorem step_end {w w1 w4 : World} {b : Nat} {s : ByteArray} {bad : Bool} (HO4 : w4.heap[w.heap.size]? = some (sO [] 0 0 [])) (HR4 : Rd b w4 s bad) (HG4 : w.grownBy w4 (some b)) (hne : w.heap.size ≠ b) (hne1 : w1.heap.size ≠ b) (hlt : w.heap.size < w1.heap.size) (nm : List UInt8) (x : KeyT) (W : World)
 (e : W = ((((((w4.setCell ⟨w1.heap.size, 1, none⟩ (.int .i64 x.1)).setCell ⟨w1.heap.size, 2, none⟩ (.int .i64 x.2.1)).setCell ⟨w1.heap.size, 3, none⟩ (.string ⟨x.2.2.toArray⟩)).setCell ⟨w.heap.size, 0, none⟩ (.string ⟨nm.toArray⟩)).setCell ⟨w.heap.size, 1, none⟩ (.int .i64 x.1)).setCell ⟨w.heap.size, 2, none⟩ (.int .i64 x.2.1)).setCell ⟨w.heap.size, 3, none⟩ (.string ⟨x.2.2.toArray⟩)) :
 (W.cell? ⟨w.heap.size, 0, none⟩ = some (.string ⟨nm.toArray⟩) /\ W.cell? ⟨w.heap.size, 1, none⟩ = some (.int .i64 x.1) /\ W.cell? ⟨w.heap.size, 2, none⟩ = some (.int .i64 x.2.1) /\ W.cell? ⟨w.heap.size, 3, none⟩ = some (.string ⟨x.2.2.toArray⟩)) /\ Rd b W s bad /\ w.grownBy W (some b) := by
 have h1 : ∀ (X : World) (i : Nat) (v : Value), (X.setCell ⟨w1.heap.size, i, none⟩ v).heap[w.heap.size]? = X.heap[w.heap.size]? := fun X i v => Below.heap_setCell _ _ _ _ (fun e => by simp only at e; omega)
 have h2 : W.heap[w.heap.size]? = some (sO nm x.1 x.2.1 x.2.2) := by
  have h3 := (h1 _ 3 (.string ⟨x.2.2.toArray⟩)).trans ((h1 _ 2 (.int .i64 x.2.1)).trans (h1 w4 1 (.int .i64 x.1)));rw [HO4] at h3;subst e;generalize ((w4.setCell ⟨w1.heap.size, 1, none⟩ (.int .i64 x.1)).setCell ⟨w1.heap.size, 2, none⟩ (.int .i64 x.2.1)).setCell ⟨w1.heap.size, 3, none⟩ (.string ⟨x.2.2.toArray⟩) = Y at h3;unfold World.setCell sO at *;simp only [Array.getElem?_modify, if_true, h3, Option.map_some];rfl
 obtain ⟨k0, k1, k2, k3, _⟩ := so_cells h2;refine ⟨⟨k0, k1, k2, k3⟩, ?_⟩;subst e;have hl := Nat.le_of_lt hlt
 exact ⟨ko_rd (ko_rd (ko_rd (ko_rd (ko_rd (ko_rd (ko_rd HR4 hne1 _ _) hne1 _ _) hne1 _ _) hne _ _) hne _ _) hne _ _) hne _ _,
  grown_setO (grown_setO (grown_setO (grown_setO (grown_setO (grown_setO (grown_setO HG4 _ _ hl) _ _ hl) _ _ hl) _ _ (Nat.le_refl _)) _ _ (Nat.le_refl _)) _ _ (Nat.le_refl _)) _ _ (Nat.le_refl _)⟩
set_option maxHeartbeats 4000000 in
theorem step_any (s : ByteArray) (b : Nat) (bad : Bool) (w w0 : World) (hT : WT w0) (hB : Below w0.heap.size w0 w) (hb0 : w0.heap.size <= b) (hs : s.size <= 2000000) (h : Rd b w s bad) : Calls Tryz.prog 121 #[.pointer (some ⟨b, 0, none⟩)] w fun e w' =>
 e = .returned (stV (stepP s.data.toList bad).1) /\ Rd b w' ⟨(stepP s.data.toList bad).2.1.toArray⟩ (stepP s.data.toList bad).2.2 /\ w.grownBy w' (some b) := by
 have HWD := hid (fun (W : World) (hW : Rd b W s bad) => word_any s b bad W hs hW)
 have hz : (wrdR s).size <= 2000000 := by
  rw [<- size_list, wrdR_list, List.length_drop, size_list]; omega
 have HKY := hid (fun (W : World) (v : Bool) (hg : w.grownBy W (some b)) (hW : Rd b W (wrdR s) v) => key_any (wrdR s) b v W w0 hT (hB.grown hg hB.size (fun k hk => by cases hk; exact hb0)) hb0 hz hW);rw [show (wrdR s).data.toList = s.data.toList.drop (dotN s.data.toList) by rw [wrdR_list]] at HKY;rw [show idB (wrdS s).data.toList = idB (s.data.toList.take (dotN s.data.toList)) by rw [wrdS_list], wrdS_arr] at HWD;unfold stepP;have HR := hid (rd_alloc h (sO [] 0 0 []));have HG := hid (grown_of ((Below.refl w.heap.size w).alloc (Nat.le_refl _) (sO [] 0 0 [])) (some b));have HO := hid (show (w.alloc (sO [] 0 0 [])).heap[w.heap.size]? = some (sO [] 0 0 []) from ko_new w _);obtain ⟨c0, c1, c2, c3⟩ := h.cells;have hne : w.heap.size ≠ b := by omega
 clear h hz hs;unfold sO at HR HG;generalize s.data.toList.take (dotN s.data.toList) = nm at *;generalize s.data.toList.drop (dotN s.data.toList) = rs at *;go_enter Tryz.func121, Tryz.ntmps121;go_wp2_with (go_at_call 123; refine (HWD.out _ HR.out).mono ?_; rintro e w1 ⟨rfl, hr, hg⟩)
 obtain ⟨HY, HR2, HO2, HV2⟩ := step_mid HG.out hg hr HO.out hne nm;have hlt : w.heap.size < w1.heap.size := by have := hg.size; simp [World.size_alloc] at this; omega
 have hne1 : w1.heap.size ≠ b := by omega
 unfold sO at HY HR2 HO2 HV2;refine (HKY.out _ _ HY HR2).mono ?_;generalize hx : keyP rs (bad || !idB nm) = x;rintro e w4 ⟨rfl, HR4, hg4⟩;have HO4 := ko_kept HO2 hg4 hne;have HV4 := ko_kept HV2 hg4 hne1;have HG4 := grown_trans HY hg4;obtain ⟨v0, v1, v2, v3, vf, v4⟩ := so_cells (n := nm) (k := 0) (m := 0) (t := []) HV4;obtain ⟨o0, o1, o2, o3, of, o4⟩ := so_cells (n := []) (k := 0) (m := 0) (t := []) HO4;have p0 := vf 0;have p1 := vf 1;have p2 := vf 2;have p3 := vf 3;have q0 := of 0;have q1 := of 1;have q2 := of 2;have q3 := of 3;have hne2 : w.heap.size ≠ w1.heap.size := by omega
 simp only [kV];go_wp2
 obtain ⟨⟨k0, k1, k2, k3⟩, hE⟩ := step_end HO4 HR4 HG4 hne hne1 hlt nm x.1 _ rfl;exact bodyPost_ret (v := stV (nm, x.1)) (by simp [results, Tryz.results121, go_sem, k0, k1, k2, k3, stV]) rfl (by rw [hx]; exact ⟨rfl, hE⟩)
abbrev MS := List UInt8 × KeyT
def encM (x : MS) : List Value := [.string ⟨x.1.toArray⟩, .int .i64 x.2.1, .int .i64 x.2.2.1, .string ⟨x.2.2.2.toArray⟩]
theorem encM_len : ∀ x, (encM x).length = 4 := fun _ => rfl
theorem encM_one : ∀ x, ∀ u ∈ encM x, u.oneCell' = true := fun x u hu => by
 simp only [encM, List.mem_cons, List.mem_nil_iff, or_false] at hu;rcases hu with rfl | rfl | rfl | rfl <;> rfl
theorem msinfo : (Tryz.prog.info? 119).map (fun i => (i.zero, i.size, i.bytes)) = some (some (.agg #[.string ByteArray.empty, .int .i64 0, .int .i64 0, .string ByteArray.empty]), 4, 48) := by kernel_rfl
def OwnM (B : Nat) (w : World) (v : Value) (xs : List MS) : Prop := w.ownsRow B 119 4 v xs.length (xs.flatMap encM)
theorem ownM_nil (B : Nat) (w : World) : OwnM B w (.slice none 0 0) [] := World.ownsRow_nil w B _ 4
def MoreM (B : Nat) (w : World) (v : Value) (xs : List MS) (H : Nat) (g cap : Nat) (w' : World) : Prop :=
 OwnM B w' (.slice (some ⟨g, 0, none⟩) xs.length cap) xs /\ w.grownBy w' v.ownBlock /\ (v.ownBlock = some g ∨ g = H) /\ g < w'.heap.size
theorem morem_of {B : Nat} {w w' : World} {v : Value} {xs : List MS} {y : MS} {H g cap : Nat} (m1 : w'.ownsRow B 119 4 (.slice (some ⟨g, 0, none⟩) (xs.length + 1) cap) (xs ++ [y]).length ((xs ++ [y]).flatMap encM)) (m2 : w.grownBy w' v.ownBlock) (m3 : v.ownBlock = some g ∨ g = H) (m4 : g < w'.heap.size) : MoreM B w v (xs ++ [y]) H g cap w' := by
 refine ⟨?_, m2, m3, m4⟩;unfold OwnM;rw [show (xs ++ [y]).length = xs.length + 1 by simp] at m1 ⊢;exact m1
def aO (v : Value) (d : Bool) (ty nm : List UInt8) (k : KeyT) : Obj := .cells #[v, .bool d, .string ⟨ty.toArray⟩, .string ⟨nm.toArray⟩, .int .i64 k.1, .int .i64 k.2.1, .string ⟨k.2.2.toArray⟩] 60 (0, 0)
theorem ao_cells {W : World} {r : Nat} {v : Value} {d : Bool} {ty nm : List UInt8} {k : KeyT} (h : W.heap[r]? = some (aO v d ty nm k)) : W.cell? ⟨r, 0, none⟩ = some v /\ W.cell? ⟨r, 1, none⟩ = some (.bool d) /\ W.cell? ⟨r, 2, none⟩ = some (.string ⟨ty.toArray⟩) /\ W.cell? ⟨r, 3, none⟩ = some (.string ⟨nm.toArray⟩) /\ W.cell? ⟨r, 4, none⟩ = some (.int .i64 k.1) /\ W.cell? ⟨r, 5, none⟩ = some (.int .i64 k.2.1) /\ W.cell? ⟨r, 6, none⟩ = some (.string ⟨k.2.2.toArray⟩) /\ (∀ o, W.frozen? ⟨r, o, none⟩ = false) /\ r < W.heap.size := by
 unfold aO at h;refine ⟨by unfold World.cell?; simp [h], by unfold World.cell?; simp [h], by unfold World.cell?; simp [h], by unfold World.cell?; simp [h], by unfold World.cell?; simp [h], by unfold World.cell?; simp [h], by unfold World.cell?; simp [h], fun o => by unfold World.frozen?; simp [h], lt_of_block h⟩
structure Ps (w : World) (W : World) (l : List UInt8) (bad : Bool) (v : Value) (xs : List MS) (d : Bool) (ty nm : List UInt8) (k : KeyT) : Prop where
 rd : Rd (w.heap.size + 1) W ⟨l.toArray⟩ bad
 ad : W.heap[w.heap.size + 1 + 1]? = some (aO v d ty nm k)
 re : W.heap[w.heap.size]? = some (aO (.slice none 0 0) false [] [] (0, 0, []))
 own : OwnM (w.heap.size + 3) W v xs
 bel : Below w.heap.size w W
 sz : w.heap.size + 3 <= W.heap.size
theorem Ps.grown {w W W' : World} {l l' : List UInt8} {bad bad' : Bool} {v : Value} {xs : List MS} {d : Bool} {ty nm : List UInt8} {k : KeyT} (h : Ps w W l bad v xs d ty nm k) (hg : W.grownBy W' (some (w.heap.size + 1))) (hr : Rd (w.heap.size + 1) W' ⟨l'.toArray⟩ bad') : Ps w W' l' bad' v xs d ty nm k := by
 refine ⟨hr, ko_kept h.ad hg (by omega), ko_kept h.re hg (by omega), kept_off h.own hg (fun g hg2 e => ?_), h.bel.grown hg h.bel.size (fun k hk => by cases hk; omega), Nat.le_trans h.sz hg.size⟩;rcases h.own.2 with ⟨rfl, _⟩ | ⟨g2, cap, cur, rfl, hb, _⟩
 . simp [Value.ownBlock] at hg2
 . simp [Value.ownBlock] at hg2
   simp at e;omega
theorem Ps.below {w W W' : World} {l : List UInt8} {bad : Bool} {v : Value} {xs : List MS} {d : Bool} {ty nm : List UInt8} {k : KeyT} (h : Ps w W l bad v xs d ty nm k) (hb : Below W.heap.size W W') : Ps w W' l bad v xs d ty nm k :=
 h.grown (grown_of hb _) (h.rd.kept hb)
theorem own_far {w W : World} {v : Value} {xs : List MS} (h : OwnM (w.heap.size + 3) W v xs) : ∀ g, v.ownBlock = some g -> w.heap.size + 3 <= g /\ g < W.heap.size := by
 intro g hg;rcases h.2 with ⟨rfl, _⟩ | ⟨g2, cap, cur, rfl, hb, h2, _⟩
 . simp [Value.ownBlock] at hg
 . simp [Value.ownBlock] at hg
   subst hg;exact ⟨hb, lt_of_block h2⟩
theorem Ps.put {w W : World} {l : List UInt8} {bad : Bool} {v v' : Value} {xs xs' : List MS} {d d' : Bool} {ty nm ty' nm' : List UInt8} {k k' : KeyT} (h : Ps w W l bad v xs d ty nm k) (i : Nat) (u : Value) (e : (W.setCell ⟨w.heap.size + 1 + 1, i, none⟩ u).heap[w.heap.size + 1 + 1]? = some (aO v' d' ty' nm' k')) (ho : OwnM (w.heap.size + 3) W v' xs') :
 Ps w (W.setCell ⟨w.heap.size + 1 + 1, i, none⟩ u) l bad v' xs' d' ty' nm' k' := by
 have hne : ∀ j, j ≠ w.heap.size + 1 + 1 -> (W.setCell ⟨w.heap.size + 1 + 1, i, none⟩ u).heap[j]? = W.heap[j]? := fun j hj => Below.heap_setCell _ _ _ _ hj;have hg := grown_setC W ⟨w.heap.size + 1 + 1, i, none⟩ u;refine ⟨rd_grown h.rd hg (by simp), e, (hne _ (by omega)).trans h.re, kept_off ho hg (fun g hg2 e => ?_), h.bel.grown hg h.bel.size (fun k hk => by cases hk; show w.heap.size <= w.heap.size + 1 + 1; omega), Nat.le_trans h.sz hg.size⟩;have := own_far ho g hg2;simp at e;omega
theorem Ps.app {w W W1 W2 : World} {l : List UInt8} {bad : Bool} {v : Value} {xs : List MS} {d : Bool} {ty nm : List UInt8} {k : KeyT} (h : Ps w W l bad v xs d ty nm k) (hb : Below W.heap.size W W1) {y : MS} {H g cap : Nat} (hm : MoreM (w.heap.size + 3) W1 v (xs ++ [y]) H g cap W2) :
 (W2.cell? ⟨w.heap.size + 1 + 1, 0, none⟩ = some v /\ W2.frozen? ⟨w.heap.size + 1 + 1, 0, none⟩ = false) /\ Ps w (W2.setCell ⟨w.heap.size + 1 + 1, 0, none⟩ (.slice (some ⟨g, 0, none⟩) (xs ++ [y]).length cap)) l bad (.slice (some ⟨g, 0, none⟩) (xs ++ [y]).length cap) (xs ++ [y]) d ty nm k := by
 have h1 := h.below hb;have hf := own_far h1.own;have hg := hm.2.1;have hne : ∀ j, j < w.heap.size + 3 -> W2.heap[j]? = W1.heap[j]? := fun j hj => hg.block j (Nat.lt_of_lt_of_le hj h1.sz) (fun e => by have := (hf j e.symm).1; omega);have had := (hne _ (by omega)).trans h1.ad;obtain ⟨c0, _, _, _, _, _, _, cf, _⟩ := ao_cells had;have hp2 : Ps w W2 l bad (.slice (some ⟨g, 0, none⟩) (xs ++ [y]).length cap) (xs ++ [y]) d ty nm k -> True := fun _ => trivial;refine ⟨⟨c0, cf 0⟩, ?_⟩;have hrd : Rd (w.heap.size + 1) W2 ⟨l.toArray⟩ bad := (hne _ (by omega)).trans h1.rd;have hre := (hne _ (by omega)).trans h1.re;have hgs := grown_setC W2 ⟨w.heap.size + 1 + 1, 0, none⟩ (.slice (some ⟨g, 0, none⟩) (xs ++ [y]).length cap);have hbel : Below w.heap.size w W2 := h1.bel.grown hg h1.bel.size (fun k hk => by have := (hf k hk).1; omega);refine ⟨rd_grown hrd hgs (by simp), ?_, ko_kept hre hgs (by simp only; omega), kept_off hm.1 hgs (fun g2 hg2 e => ?_), hbel.grown hgs hbel.size (fun k hk => by cases hk; show w.heap.size <= w.heap.size + 1 + 1; omega), Nat.le_trans (Nat.le_trans h1.sz hg.size) hgs.size⟩
 . unfold World.setCell aO at *
   simp only [Array.getElem?_modify, if_true, had, Option.map_some];rfl
 . have := (own_far hm.1 g2 hg2).1
   simp at e;omega
theorem Ps.p1 {w W : World} {l : List UInt8} {bad : Bool} {v : Value} {xs : List MS} {d : Bool} {ty nm : List UInt8} {k : KeyT} (h : Ps w W l bad v xs d ty nm k) (d2 : Bool) : Ps w (W.setCell ⟨w.heap.size + 1 + 1, 1, none⟩ (.bool d2)) l bad v xs d2 ty nm k := by
 refine h.put 1 (.bool d2) ?_ h.own;have had := h.ad;unfold World.setCell aO at *;simp only [Array.getElem?_modify, if_true, had, Option.map_some];rfl
theorem Ps.p2 {w W : World} {l : List UInt8} {bad : Bool} {v : Value} {xs : List MS} {d : Bool} {ty nm : List UInt8} {k : KeyT} (h : Ps w W l bad v xs d ty nm k) (s2 : List UInt8) : Ps w (W.setCell ⟨w.heap.size + 1 + 1, 2, none⟩ (.string ⟨s2.toArray⟩)) l bad v xs d s2 nm k := by
 refine h.put 2 (.string ⟨s2.toArray⟩) ?_ h.own;have had := h.ad;unfold World.setCell aO at *;simp only [Array.getElem?_modify, if_true, had, Option.map_some];rfl
theorem Ps.p3 {w W : World} {l : List UInt8} {bad : Bool} {v : Value} {xs : List MS} {d : Bool} {ty nm : List UInt8} {k : KeyT} (h : Ps w W l bad v xs d ty nm k) (s2 : List UInt8) : Ps w (W.setCell ⟨w.heap.size + 1 + 1, 3, none⟩ (.string ⟨s2.toArray⟩)) l bad v xs d ty s2 k := by
 refine h.put 3 (.string ⟨s2.toArray⟩) ?_ h.own;have had := h.ad;unfold World.setCell aO at *;simp only [Array.getElem?_modify, if_true, had, Option.map_some];rfl
theorem Ps.p4 {w W : World} {l : List UInt8} {bad : Bool} {v : Value} {xs : List MS} {d : Bool} {ty nm : List UInt8} {k : KeyT} (h : Ps w W l bad v xs d ty nm k) (n2 : Int) : Ps w (W.setCell ⟨w.heap.size + 1 + 1, 4, none⟩ (.int .i64 n2)) l bad v xs d ty nm (n2, k.2.1, k.2.2) := by
 refine h.put 4 (.int .i64 n2) ?_ h.own;have had := h.ad;unfold World.setCell aO at *;simp only [Array.getElem?_modify, if_true, had, Option.map_some];rfl
theorem Ps.p5 {w W : World} {l : List UInt8} {bad : Bool} {v : Value} {xs : List MS} {d : Bool} {ty nm : List UInt8} {k : KeyT} (h : Ps w W l bad v xs d ty nm k) (n2 : Int) : Ps w (W.setCell ⟨w.heap.size + 1 + 1, 5, none⟩ (.int .i64 n2)) l bad v xs d ty nm (k.1, n2, k.2.2) := by
 refine h.put 5 (.int .i64 n2) ?_ h.own;have had := h.ad;unfold World.setCell aO at *;simp only [Array.getElem?_modify, if_true, had, Option.map_some];rfl
theorem Ps.p6 {w W : World} {l : List UInt8} {bad : Bool} {v : Value} {xs : List MS} {d : Bool} {ty nm : List UInt8} {k : KeyT} (h : Ps w W l bad v xs d ty nm k) (s2 : List UInt8) : Ps w (W.setCell ⟨w.heap.size + 1 + 1, 6, none⟩ (.string ⟨s2.toArray⟩)) l bad v xs d ty nm (k.1, k.2.1, s2) := by
 refine h.put 6 (.string ⟨s2.toArray⟩) ?_ h.own;have had := h.ad;unfold World.setCell aO at *;simp only [Array.getElem?_modify, if_true, had, Option.map_some];rfl
theorem Ps.fin {w W : World} {l : List UInt8} {bad : Bool} {v : Value} {xs : List MS} {d : Bool} {ty nm : List UInt8} {k : KeyT} (h : Ps w W l bad v xs d ty nm k) (v2 : Value) (d2 : Bool) (ty2 nm2 : List UInt8) (k2 : KeyT) (W' : World)
 (e : W' = ((((((W.setCell ⟨w.heap.size, 0, none⟩ v2).setCell ⟨w.heap.size, 1, none⟩ (.bool d2)).setCell ⟨w.heap.size, 2, none⟩ (.string ⟨ty2.toArray⟩)).setCell ⟨w.heap.size, 3, none⟩ (.string ⟨nm2.toArray⟩)).setCell ⟨w.heap.size, 4, none⟩ (.int .i64 k2.1)).setCell ⟨w.heap.size, 5, none⟩ (.int .i64 k2.2.1)).setCell ⟨w.heap.size, 6, none⟩ (.string ⟨k2.2.2.toArray⟩)) :
 W'.heap[w.heap.size]? = some (aO v2 d2 ty2 nm2 k2) /\ OwnM (w.heap.size + 3) W' v xs /\ Below w.heap.size w W' := by
 subst e;have hre := h.re;have hg := grown_trans (grown_trans (grown_trans (grown_trans (grown_trans (grown_trans (grown_setC W ⟨w.heap.size, 0, none⟩ v2) (grown_setC _ ⟨w.heap.size, 1, none⟩ (.bool d2))) (grown_setC _ ⟨w.heap.size, 2, none⟩ (.string ⟨ty2.toArray⟩))) (grown_setC _ ⟨w.heap.size, 3, none⟩ (.string ⟨nm2.toArray⟩))) (grown_setC _ ⟨w.heap.size, 4, none⟩ (.int .i64 k2.1))) (grown_setC _ ⟨w.heap.size, 5, none⟩ (.int .i64 k2.2.1))) (grown_setC _ ⟨w.heap.size, 6, none⟩ (.string ⟨k2.2.2.toArray⟩));refine ⟨?_, kept_off h.own hg (fun g hg2 e => ?_), h.bel.grown hg h.bel.size (fun k hk => by cases hk; exact Nat.le_refl _)⟩
 . unfold World.setCell aO at *
   simp only [Array.getElem?_modify, if_true, hre, Option.map_some];rfl
 . have := (own_far h.own g hg2).1
   simp at e;omega
theorem Ps.start (w : World) (s : ByteArray) : Ps w (((w.alloc (aO (.slice none 0 0) false [] [] (0, 0, []))).alloc (.cells #[.string s, .bool false] 166)).alloc (aO (.slice none 0 0) false [] [] (0, 0, []))) s.data.toList false (.slice none 0 0) [] false [] [] (0, 0, []) := by
 have hb1 : Below w.heap.size w (w.alloc (aO (.slice none 0 0) false [] [] (0, 0, []))) := (Below.refl _ _).alloc (Nat.le_refl _) _;have n1 := ko_new w (aO (.slice none 0 0) false [] [] (0, 0, []));have s1 : (w.alloc (aO (.slice none 0 0) false [] [] (0, 0, []))).heap.size = w.heap.size + 1 := by simp [World.size_alloc]
 generalize w.alloc (aO (.slice none 0 0) false [] [] (0, 0, [])) = w1 at *;have hb2 : Below w1.heap.size w1 (w1.alloc (.cells #[.string s, .bool false] 166)) := (Below.refl _ _).alloc (Nat.le_refl _) _;have n2 := ko_new w1 (.cells #[.string s, .bool false] 166);have s2 : (w1.alloc (.cells #[.string s, .bool false] 166)).heap.size = w1.heap.size + 1 := by simp [World.size_alloc]
 have m1 := (hb2.block _ (lt_of_block n1)).trans n1;generalize w1.alloc (.cells #[.string s, .bool false] 166) = w2 at *;have hb3 : Below w2.heap.size w2 (w2.alloc (aO (.slice none 0 0) false [] [] (0, 0, []))) := (Below.refl _ _).alloc (Nat.le_refl _) _;have n3 := ko_new w2 (aO (.slice none 0 0) false [] [] (0, 0, []));have s3 : (w2.alloc (aO (.slice none 0 0) false [] [] (0, 0, []))).heap.size = w2.heap.size + 1 := by simp [World.size_alloc]
 have m2 := (hb3.block _ (lt_of_block m1)).trans m1;have m3 := (hb3.block _ (lt_of_block n2)).trans n2;generalize w2.alloc (aO (.slice none 0 0) false [] [] (0, 0, [])) = w3 at *;rw [s2, s1] at n3;rw [s1] at m3;refine ⟨?_, n3, m2, ownM_nil _ _, (hb1.trans (hb2.mono (by omega))).trans (hb3.mono (by omega)), by omega⟩;unfold Rd;simpa using m3
def MODP : List UInt8 := [109, 111, 100, 117, 108, 101, 46]
def DATP : List UInt8 := [100, 97, 116, 97, 46]
def modsP : Nat -> List UInt8 -> Bool -> List MS × List UInt8 × Bool
 | 0, l, bad => ([], l, bad)
 | n + 1, l, bad => if bad = true then ([], l, true) else if Lib.hasPrefix l MODP = false then ([], Lib.trimPrefix l MODP, false)
   else ((stepP (Lib.trimPrefix l MODP) false).1 :: (modsP n (skipP [46] (stepP (Lib.trimPrefix l MODP) false).2.1 (stepP (Lib.trimPrefix l MODP) false).2.2).1 (skipP [46] (stepP (Lib.trimPrefix l MODP) false).2.1 (stepP (Lib.trimPrefix l MODP) false).2.2).2).1,
    (modsP n (skipP [46] (stepP (Lib.trimPrefix l MODP) false).2.1 (stepP (Lib.trimPrefix l MODP) false).2.2).1 (skipP [46] (stepP (Lib.trimPrefix l MODP) false).2.1 (stepP (Lib.trimPrefix l MODP) false).2.2).2).2)
theorem trim_lt {l p : List UInt8} (h : Lib.hasPrefix l p = true) (hp : 1 <= p.length) (hl : p.length <= l.length) : (Lib.trimPrefix l p).length < l.length := by
 unfold Lib.trimPrefix;rw [if_pos h, List.length_drop];omega
theorem keyP_len (l : List UInt8) (bad : Bool) : (keyP l bad).2.1.length <= l.length := by
 unfold keyP;split
 . simp
 . split
   . exact trim_len _ _
   . have := trim_len l [91]
     generalize Lib.trimPrefix l [91] = t at this ⊢;simp only;split
     . split
       . simpa using this
       . split
         . simpa using this
         . simp only [skipP]
           refine Nat.le_trans (trim_len _ _) ?_;rw [List.length_drop]; omega
     . simp only [skipP]
       refine Nat.le_trans (trim_len _ _) ?_;rw [List.length_drop]; omega
theorem stepP_len (l : List UInt8) (bad : Bool) : (stepP l bad).2.1.length <= l.length := by
 unfold stepP;refine Nat.le_trans (keyP_len _ _) ?_;rw [List.length_drop]; omega
theorem hp_len {l p : List UInt8} (h : Lib.hasPrefix l p = true) : p.length <= l.length := by
 rw [<- Lib.hasPrefix_of_take] at h;simp only [Bool.and_eq_true, decide_eq_true_eq] at h;exact h.1
structure TlT where
 d : Bool
 ty : List UInt8
 nm : List UInt8
 k : KeyT
 l : List UInt8
 bad : Bool
def tlP (l : List UInt8) (bad : Bool) : TlT :=
 let l1 := Lib.trimPrefix l DATP;let ty := l1.take (dotN l1);let y := skipP [46] (l1.drop (dotN l1)) (bad || !idB ty);let nm := y.1.take (dotN y.1);let z := keyP (y.1.drop (dotN y.1)) (y.2 || !idB nm)
 ⟨Lib.hasPrefix l DATP, ty, nm, z.1, z.2.1, z.2.2⟩
theorem modsP_bad (n : Nat) (l : List UInt8) : modsP (n + 1) l true = ([], l, true) := by unfold modsP; rw [if_pos rfl]
theorem modsP_no (n : Nat) (l : List UInt8) (h : Lib.hasPrefix l MODP = false) : modsP (n + 1) l false = ([], Lib.trimPrefix l MODP, false) := by unfold modsP; rw [if_neg (by simp), if_pos h]
theorem modsP_yes (n : Nat) (l : List UInt8) (h : Lib.hasPrefix l MODP = true) : modsP (n + 1) l false = ((stepP (Lib.trimPrefix l MODP) false).1 :: (modsP n (skipP [46] (stepP (Lib.trimPrefix l MODP) false).2.1 (stepP (Lib.trimPrefix l MODP) false).2.2).1 (skipP [46] (stepP (Lib.trimPrefix l MODP) false).2.1 (stepP (Lib.trimPrefix l MODP) false).2.2).2).1,
 (modsP n (skipP [46] (stepP (Lib.trimPrefix l MODP) false).2.1 (stepP (Lib.trimPrefix l MODP) false).2.2).1 (skipP [46] (stepP (Lib.trimPrefix l MODP) false).2.1 (stepP (Lib.trimPrefix l MODP) false).2.2).2).2) := by
 conv => lhs; unfold modsP
 rw [if_neg (by simp), if_neg (by rw [h]; simp)]
def cellD (w : World) (a : Addr) : Value := (w.cell? a).getD undef
theorem cellD_eq {W : World} {a : Addr} {v : Value} (h : W.cell? a = some v) : cellD W a = v := by unfold cellD; rw [h]; rfl
theorem arr_size (l : List UInt8) : (⟨l.toArray⟩ : ByteArray).size = l.length := by show l.toArray.size = _; simp
def kdB (ty : List UInt8) : Bool := idB ty && !rsv ty
def parE (xs : List MS) (t : TlT) : Int := if t.bad = true ∨ t.l ≠ [] ∨ kdB t.ty = false then 2 else if 16 < xs.length then 4 else 0
theorem parE4 {xs : List MS} {d : Bool} {ty nm : List UInt8} {k : KeyT} (hk : kdB ty = true) (hx : decide ((16 : Int) < (xs.length : Int)) = true) : parE xs ⟨d, ty, nm, k, [], false⟩ = 4 := by
 have := of_decide_eq_true hx;unfold parE;rw [if_neg (by simp [hk]), if_pos (by omega)]
theorem parE0 {xs : List MS} {d : Bool} {ty nm : List UInt8} {k : KeyT} (hk : kdB ty = true) (hx : decide ((16 : Int) < (xs.length : Int)) = false) : parE xs ⟨d, ty, nm, k, [], false⟩ = 0 := by
 have := of_decide_eq_false hx;unfold parE;rw [if_neg (by simp [hk]), if_neg (by omega)]
def adV (v : Value) (t : TlT) : Value := .agg #[v, .bool t.d, .string ⟨t.ty.toArray⟩, .string ⟨t.nm.toArray⟩, .int .i64 t.k.1, .int .i64 t.k.2.1, .string ⟨t.k.2.2.toArray⟩]
def ad0 : Value := .agg #[.slice none 0 0, .bool false, .string ⟨#[]⟩, .string ⟨#[]⟩, .int .i64 0, .int .i64 0, .string ⟨#[]⟩]
def ParR (w : World) (X : List MS × List UInt8 × Bool) (e : Ending) (w' : World) : Prop :=
 (if parE X.1 (tlP X.2.1 X.2.2) = 0 then ∃ v, e = .returned (.tuple #[adV v (tlP X.2.1 X.2.2), .int .i64 0]) /\ OwnM (w.heap.size + 3) w' v X.1 else e = .returned (.tuple #[ad0, .int .i64 (parE X.1 (tlP X.2.1 X.2.2))])) /\ Below w.heap.size w w'
theorem tl_con (w : World) (hT : WT w) (l0 : List UInt8) (b0 : Bool) (hl : l0.length <= 2000000) : ∃ (d : Bool) (l1 ty l2 : List UInt8) (b2 : Bool) (l3 : List UInt8) (b3 : Bool) (nm l4 : List UInt8) (b4 : Bool) (k : KeyT) (l5 : List UInt8) (b5 : Bool), tlP l0 b0 = ⟨d, ty, nm, k, l5, b5⟩ /\ ty.length <= 2000000 /\ l5.length <= 2000000 /\
 (∀ W, Rd (w.heap.size + 1) W ⟨l0.toArray⟩ b0 -> Calls Tryz.prog 120 #[.pointer (some ⟨w.heap.size + 1, 0, none⟩), .string ⟨#[100, 97, 116, 97, 46]⟩] W fun e w' => e = .returned (.bool d) /\ Rd (w.heap.size + 1) w' ⟨l1.toArray⟩ b0 /\ W.grownBy w' (some (w.heap.size + 1))) /\
 (∀ W, Rd (w.heap.size + 1) W ⟨l1.toArray⟩ b0 -> Calls Tryz.prog 123 #[.pointer (some ⟨w.heap.size + 1, 0, none⟩)] W fun e w' => e = .returned (.string ⟨ty.toArray⟩) /\ Rd (w.heap.size + 1) w' ⟨l2.toArray⟩ b2 /\ W.grownBy w' (some (w.heap.size + 1))) /\
 (∀ W, Rd (w.heap.size + 1) W ⟨l2.toArray⟩ b2 -> Calls Tryz.prog 122 #[.pointer (some ⟨w.heap.size + 1, 0, none⟩), .string ⟨#[46]⟩] W fun e w' => e = .returned (.tuple #[]) /\ Rd (w.heap.size + 1) w' ⟨l3.toArray⟩ b3 /\ W.grownBy w' (some (w.heap.size + 1))) /\
 (∀ W, Rd (w.heap.size + 1) W ⟨l3.toArray⟩ b3 -> Calls Tryz.prog 123 #[.pointer (some ⟨w.heap.size + 1, 0, none⟩)] W fun e w' => e = .returned (.string ⟨nm.toArray⟩) /\ Rd (w.heap.size + 1) w' ⟨l4.toArray⟩ b4 /\ W.grownBy w' (some (w.heap.size + 1))) /\
 (∀ W, Below w.heap.size w W -> Rd (w.heap.size + 1) W ⟨l4.toArray⟩ b4 -> Calls Tryz.prog 124 #[.pointer (some ⟨w.heap.size + 1, 0, none⟩)] W fun e w' => e = .returned (kV k) /\ Rd (w.heap.size + 1) w' ⟨l5.toArray⟩ b5 /\ W.grownBy w' (some (w.heap.size + 1))) := by
 have hlen1 : (Lib.trimPrefix l0 DATP).length <= 2000000 := Nat.le_trans (trim_len _ _) hl
 have word : ∀ (l : List UInt8) (b : Bool) (h : l.length <= 2000000) (W : World), Rd (w.heap.size + 1) W ⟨l.toArray⟩ b -> Calls Tryz.prog 123 #[.pointer (some ⟨w.heap.size + 1, 0, none⟩)] W fun e w' => e = .returned (.string ⟨(l.take (dotN l)).toArray⟩) /\ Rd (w.heap.size + 1) w' ⟨(l.drop (dotN l)).toArray⟩ (b || !idB (l.take (dotN l))) /\ W.grownBy w' (some (w.heap.size + 1)) := by
  intro l b h W hW;have h2 := word_any ⟨l.toArray⟩ (w.heap.size + 1) b W (by rw [arr_size]; exact h) hW;rw [show idB (wrdS ⟨l.toArray⟩).data.toList = idB (l.take (dotN l)) by rw [wrdS_list], wrdS_arr, wrdR_list] at h2;exact h2
 generalize hl1 : Lib.trimPrefix l0 DATP = l1 at hlen1;have hlen2 : (l1.drop (dotN l1)).length <= 2000000 := by rw [List.length_drop]; omega
 have hlen2' : (l1.take (dotN l1)).length <= 2000000 := by rw [List.length_take]; omega
 have hsk := trim_len (l1.drop (dotN l1)) [46];generalize hy : skipP [46] (l1.drop (dotN l1)) (b0 || !idB (l1.take (dotN l1))) = y;have hlen3 : y.1.length <= 2000000 := by rw [<- hy]; exact Nat.le_trans hsk hlen2
 have hlen4 : (y.1.drop (dotN y.1)).length <= 2000000 := by rw [List.length_drop]; omega
 generalize hz : keyP (y.1.drop (dotN y.1)) (y.2 || !idB (y.1.take (dotN y.1))) = z;have hlen5 : z.2.1.length <= 2000000 := by rw [<- hz]; exact Nat.le_trans (keyP_len _ _) hlen4
 refine ⟨Lib.hasPrefix l0 DATP, l1, l1.take (dotN l1), l1.drop (dotN l1), b0 || !idB (l1.take (dotN l1)), y.1, y.2, y.1.take (dotN y.1), y.1.drop (dotN y.1), y.2 || !idB (y.1.take (dotN y.1)), z.1, z.2.1, z.2.2, ?_, hlen2', hlen5, ?_, ?_, ?_, ?_, ?_⟩
 . unfold tlP; simp only [hl1, hy, hz]
 . intro W hW
   have h2 := has_any ⟨#[100, 97, 116, 97, 46]⟩ ⟨l0.toArray⟩ (w.heap.size + 1) b0 W hW;rw [show cutS (⟨#[100, 97, 116, 97, 46]⟩ : ByteArray).data.toList ⟨l0.toArray⟩ = ⟨l1.toArray⟩ from by rw [<- hl1]; rfl] at h2;exact h2
 . exact word l1 b0 hlen1
 . intro W hW
   have h2 := skip_any ⟨#[46]⟩ ⟨(l1.drop (dotN l1)).toArray⟩ (w.heap.size + 1) _ W hW;rw [show cutS (⟨#[46]⟩ : ByteArray).data.toList ⟨(l1.drop (dotN l1)).toArray⟩ = ⟨y.1.toArray⟩ from by rw [<- hy]; rfl, show (b0 || !idB (l1.take (dotN l1)) || !hasP (⟨#[46]⟩ : ByteArray).data.toList ⟨(l1.drop (dotN l1)).toArray⟩) = y.2 from by rw [<- hy]; rfl] at h2;exact h2
 . exact word y.1 y.2 hlen3
 . intro W hB hW
   have h2 := key_any ⟨(y.1.drop (dotN y.1)).toArray⟩ (w.heap.size + 1) _ W w hT hB (by omega) (by rw [arr_size]; exact hlen4) hW;rw [show keyP (⟨(y.1.drop (dotN y.1)).toArray⟩ : ByteArray).data.toList (y.2 || !idB (y.1.take (dotN y.1))) = z from hz] at h2;exact h2
set_option maxHeartbeats 4000000 in
theorem parse_any (s : ByteArray) (w : World) (hT : WT w) (hs : s.size <= 2000000) : Calls Tryz.prog 85 #[.string s] w fun e w' => ParR w (modsP (s.size + 1) s.data.toList false) e w' := by
 have HS := hid (Ps.start w s);obtain ⟨X, hX⟩ : ∃ X, modsP (s.size + 1) s.data.toList false = X := ⟨_, rfl⟩;have HX := hid hX;rw [hX];clear hX;have hl := size_list s;unfold aO at HS;have HB := hid (Below.refl w.heap.size w);have HTT := hid hT;clear hT;go_enter Tryz.func85, Tryz.ntmps85;go_wp2
 go_loopg [] (s.size + 1) (fun gg wr => ∃ (l : List UInt8) (bad : Bool) (v : Value) (xs : List MS), l.length < gg /\ l.length <= s.size /\ xs.length + l.length <= s.size /\ Hid (Ps w wr l bad v xs false [] [] (0, 0, [])) /\ Hid ((xs ++ (modsP gg l bad).1, (modsP gg l bad).2) = X))
 case atStart => exact ⟨s.data.toList, false, .slice none 0 0, [], by omega, by omega, by rw [List.length_nil]; omega, HS, hid (by rw [<- HX.out]; rfl)⟩
 case round =>
  clear HS HX HB;obtain ⟨l, bad, v, xs, h1, h2, h3, HP, HM⟩ := hrel;obtain ⟨n, rfl⟩ : ∃ n, gk = n + 1 := ⟨gk - 1, by omega⟩;obtain ⟨c0, c1, c2, c3⟩ := HP.out.rd.cells;cases bad
  case true =>
   have HXE := hid (show X = (xs, l, true) by rw [<- HM.out, modsP_bad]; simp);clear HM;have hl0 : l.length <= 2000000 := by omega
   clear h1 h2 h3 hl;obtain ⟨d, l1, ty, l2, b2, l3, b3, nm, l4, b4, k, l5, b5, HTL, hty, hl5, HC1, HC2, HC3, HC4, HC5⟩ := tl_con w HTT.out l true hl0;obtain ⟨rv, cv, hv, _, _⟩ := own_form HP.out.own;subst hv;replace HTL := hid HTL;replace HC1 := hid HC1;replace HC2 := hid HC2;replace HC3 := hid HC3;replace HC4 := hid HC4;replace HC5 := hid HC5;have HLL := hid (And.intro hty hl5);clear hty hl5 hl0;go_wp2_with (go_at_call 120; have hh := HC1.out _ HP.out.rd; refine Calls.mono hh ?_; clear hh; rintro e w7 ⟨rfl, hr, hg⟩; have P7 := hid (HP.out.grown hg hr); clear hr hg; have a1 := (ao_cells P7.out.ad).2.1; have f1 := (ao_cells P7.out.ad).2.2.2.2.2.2.2.1 1)
   have P8 := hid (P7.out.p1 d);go_wp2_with (go_at_call 123; have hh := HC2.out _ P8.out.rd; refine Calls.mono hh ?_; clear hh; rintro e w9 ⟨rfl, hr, hg⟩; have P9 := hid (P8.out.grown hg hr); clear hr hg; have a2 := (ao_cells P9.out.ad).2.2.1; have f2 := (ao_cells P9.out.ad).2.2.2.2.2.2.2.1 2)
   have P10 := hid (P9.out.p2 ty);go_wp2_with (go_at_call 122; have hh := HC3.out _ P10.out.rd; refine Calls.mono hh ?_; clear hh; rintro e w11 ⟨rfl, hr, hg⟩; have P11 := hid (P10.out.grown hg hr); clear hr hg)
   go_wp2_with (go_at_call 123; have hh := HC4.out _ P11.out.rd; refine Calls.mono hh ?_; clear hh; rintro e w12 ⟨rfl, hr, hg⟩; have P12 := hid (P11.out.grown hg hr); clear hr hg; have a3 := (ao_cells P12.out.ad).2.2.2.1; have f3 := (ao_cells P12.out.ad).2.2.2.2.2.2.2.1 3)
   have P13 := hid (P12.out.p3 nm);have HKD := hid (fun (W : World) => pkind_any ⟨ty.toArray⟩ W (by rw [arr_size]; exact HLL.out.1));rw [show (idB (⟨ty.toArray⟩ : ByteArray).data.toList && !rsv (⟨ty.toArray⟩ : ByteArray).data.toList) = kdB ty from rfl] at HKD;have HPE := hid (show parE xs (tlP l true) = _ from rfl);rw [HTL.out] at HPE
   have hfin : (b5 = true) ∨ (b5 = false /\ (l5 == []) = false) ∨ (b5 = false /\ l5 = [] /\ kdB ty = false) ∨ (b5 = false /\ l5 = [] /\ kdB ty = true /\ decide ((16 : Int) < (xs.length : Int)) = true) ∨ (b5 = false /\ l5 = [] /\ kdB ty = true /\ decide ((16 : Int) < (xs.length : Int)) = false) := by
    cases b5 <;> cases l5 <;> cases kdB ty <;> cases decide ((16 : Int) < (xs.length : Int)) <;> simp
   clear HPE;rcases hfin with rfl | ⟨rfl, hl5⟩ | ⟨rfl, rfl, hk⟩ | ⟨rfl, rfl, hk, hx⟩ | ⟨rfl, rfl, hk, hx⟩
   . go_wp2_with (go_at_call 124; have hh := HC5.out _ P13.out.bel P13.out.rd; refine Calls.mono hh ?_; clear hh; rintro e w14 ⟨rfl, hr, hg⟩; have P14 := hid (P13.out.grown hg hr); clear hr hg; have a0 := (ao_cells P14.out.ad).1; have f0 := (ao_cells P14.out.ad).2.2.2.2.2.2.2.1 0; have a1 := (ao_cells P14.out.ad).2.1; have f1 := (ao_cells P14.out.ad).2.2.2.2.2.2.2.1 1; have a2 := (ao_cells P14.out.ad).2.2.1; have f2 := (ao_cells P14.out.ad).2.2.2.2.2.2.2.1 2; have a4 := (ao_cells P14.out.ad).2.2.2.2.1; have f4 := (ao_cells P14.out.ad).2.2.2.2.2.2.2.1 4; have a5 := (ao_cells P14.out.ad).2.2.2.2.2.1; have f5 := (ao_cells P14.out.ad).2.2.2.2.2.2.2.1 5; have a6 := (ao_cells P14.out.ad).2.2.2.2.2.2.1; have f6 := (ao_cells P14.out.ad).2.2.2.2.2.2.2.1 6; have r0 := P14.out.rd.cells.1; have r1 := P14.out.rd.cells.2.1; obtain ⟨e0, e1, e2, e3, e4, e5, e6, ef, _⟩ := ao_cells P14.out.re; have g0 := ef 0; have g1 := ef 1; have g2 := ef 2; have g3 := ef 3; have g4 := ef 4; have g5 := ef 5; have g6 := ef 6; have a3 := (ao_cells P14.out.ad).2.2.2.1; simp only [kV])
     have P15 := hid (((P14.out.p4 k.1).p5 k.2.1).p6 k.2.2);obtain ⟨hb, ho, hbel⟩ := P15.out.fin (.slice none 0 0) false [] [] (0, 0, []) _ rfl;obtain ⟨k0, k1, k2, k3, k4, k5, k6, _, _⟩ := ao_cells hb;exact bodyPost_ret (v := .tuple #[ad0, .int .i64 2]) (by simp [results, Tryz.results85, go_sem, k0, k1, k2, k3, k4, k5, k6, ad0]) rfl (by rw [HXE.out]; unfold ParR; simp only; rw [HTL.out]; exact ⟨by simp_all [parE], hbel⟩)
   . go_wp2_with (go_at_call 124; have hh := HC5.out _ P13.out.bel P13.out.rd; refine Calls.mono hh ?_; clear hh; rintro e w14 ⟨rfl, hr, hg⟩; have P14 := hid (P13.out.grown hg hr); clear hr hg; have a0 := (ao_cells P14.out.ad).1; have f0 := (ao_cells P14.out.ad).2.2.2.2.2.2.2.1 0; have a1 := (ao_cells P14.out.ad).2.1; have f1 := (ao_cells P14.out.ad).2.2.2.2.2.2.2.1 1; have a2 := (ao_cells P14.out.ad).2.2.1; have f2 := (ao_cells P14.out.ad).2.2.2.2.2.2.2.1 2; have a4 := (ao_cells P14.out.ad).2.2.2.2.1; have f4 := (ao_cells P14.out.ad).2.2.2.2.2.2.2.1 4; have a5 := (ao_cells P14.out.ad).2.2.2.2.2.1; have f5 := (ao_cells P14.out.ad).2.2.2.2.2.2.2.1 5; have a6 := (ao_cells P14.out.ad).2.2.2.2.2.2.1; have f6 := (ao_cells P14.out.ad).2.2.2.2.2.2.2.1 6; have r0 := P14.out.rd.cells.1; have r1 := P14.out.rd.cells.2.1; obtain ⟨e0, e1, e2, e3, e4, e5, e6, ef, _⟩ := ao_cells P14.out.re; have g0 := ef 0; have g1 := ef 1; have g2 := ef 2; have g3 := ef 3; have g4 := ef 4; have g5 := ef 5; have g6 := ef 6; have a3 := (ao_cells P14.out.ad).2.2.2.1; simp only [kV])
     have P15 := hid (((P14.out.p4 k.1).p5 k.2.1).p6 k.2.2);obtain ⟨hb, ho, hbel⟩ := P15.out.fin (.slice none 0 0) false [] [] (0, 0, []) _ rfl;obtain ⟨k0, k1, k2, k3, k4, k5, k6, _, _⟩ := ao_cells hb;exact bodyPost_ret (v := .tuple #[ad0, .int .i64 2]) (by simp [results, Tryz.results85, go_sem, k0, k1, k2, k3, k4, k5, k6, ad0]) rfl (by rw [HXE.out]; unfold ParR; simp only; rw [HTL.out]; exact ⟨by simp_all [parE], hbel⟩)
   . rw [hk] at HKD
     go_wp2_with (first | (go_at_call 124; have hh := HC5.out _ P13.out.bel P13.out.rd; refine Calls.mono hh ?_; clear hh; rintro e w14 ⟨rfl, hr, hg⟩; have P14 := hid (P13.out.grown hg hr); clear hr hg; have a0 := (ao_cells P14.out.ad).1; have f0 := (ao_cells P14.out.ad).2.2.2.2.2.2.2.1 0; have a1 := (ao_cells P14.out.ad).2.1; have f1 := (ao_cells P14.out.ad).2.2.2.2.2.2.2.1 1; have a2 := (ao_cells P14.out.ad).2.2.1; have f2 := (ao_cells P14.out.ad).2.2.2.2.2.2.2.1 2; have a4 := (ao_cells P14.out.ad).2.2.2.2.1; have f4 := (ao_cells P14.out.ad).2.2.2.2.2.2.2.1 4; have a5 := (ao_cells P14.out.ad).2.2.2.2.2.1; have f5 := (ao_cells P14.out.ad).2.2.2.2.2.2.2.1 5; have a6 := (ao_cells P14.out.ad).2.2.2.2.2.2.1; have f6 := (ao_cells P14.out.ad).2.2.2.2.2.2.2.1 6; have r0 := P14.out.rd.cells.1; have r1 := P14.out.rd.cells.2.1; obtain ⟨e0, e1, e2, e3, e4, e5, e6, ef, _⟩ := ao_cells P14.out.re; have g0 := ef 0; have g1 := ef 1; have g2 := ef 2; have g3 := ef 3; have g4 := ef 4; have g5 := ef 5; have g6 := ef 6; have a3 := (ao_cells P14.out.ad).2.2.2.1; simp only [kV]) | (go_at_call 125; refine (HKD.out _).mono ?_; rintro e wk ⟨rfl, rfl⟩))
     have P15 := hid (((P14.out.p4 k.1).p5 k.2.1).p6 k.2.2);obtain ⟨hb, ho, hbel⟩ := P15.out.fin (.slice none 0 0) false [] [] (0, 0, []) _ rfl;obtain ⟨k0, k1, k2, k3, k4, k5, k6, _, _⟩ := ao_cells hb;exact bodyPost_ret (v := .tuple #[ad0, .int .i64 2]) (by simp [results, Tryz.results85, go_sem, k0, k1, k2, k3, k4, k5, k6, ad0]) rfl (by rw [HXE.out]; unfold ParR; simp only; rw [HTL.out]; exact ⟨by simp_all [parE], hbel⟩)
   . rw [hk] at HKD
     go_wp2_with (first | (go_at_call 124; have hh := HC5.out _ P13.out.bel P13.out.rd; refine Calls.mono hh ?_; clear hh; rintro e w14 ⟨rfl, hr, hg⟩; have P14 := hid (P13.out.grown hg hr); clear hr hg; have a0 := (ao_cells P14.out.ad).1; have f0 := (ao_cells P14.out.ad).2.2.2.2.2.2.2.1 0; have a1 := (ao_cells P14.out.ad).2.1; have f1 := (ao_cells P14.out.ad).2.2.2.2.2.2.2.1 1; have a2 := (ao_cells P14.out.ad).2.2.1; have f2 := (ao_cells P14.out.ad).2.2.2.2.2.2.2.1 2; have a4 := (ao_cells P14.out.ad).2.2.2.2.1; have f4 := (ao_cells P14.out.ad).2.2.2.2.2.2.2.1 4; have a5 := (ao_cells P14.out.ad).2.2.2.2.2.1; have f5 := (ao_cells P14.out.ad).2.2.2.2.2.2.2.1 5; have a6 := (ao_cells P14.out.ad).2.2.2.2.2.2.1; have f6 := (ao_cells P14.out.ad).2.2.2.2.2.2.2.1 6; have r0 := P14.out.rd.cells.1; have r1 := P14.out.rd.cells.2.1; obtain ⟨e0, e1, e2, e3, e4, e5, e6, ef, _⟩ := ao_cells P14.out.re; have g0 := ef 0; have g1 := ef 1; have g2 := ef 2; have g3 := ef 3; have g4 := ef 4; have g5 := ef 5; have g6 := ef 6; have a3 := (ao_cells P14.out.ad).2.2.2.1; simp only [kV]) | (go_at_call 125; refine (HKD.out _).mono ?_; rintro e wk ⟨rfl, rfl⟩))
     have P15 := hid (((P14.out.p4 k.1).p5 k.2.1).p6 k.2.2);obtain ⟨hb, ho, hbel⟩ := P15.out.fin (.slice none 0 0) false [] [] (0, 0, []) _ rfl;obtain ⟨k0, k1, k2, k3, k4, k5, k6, _, _⟩ := ao_cells hb;exact bodyPost_ret (v := .tuple #[ad0, .int .i64 4]) (by simp [results, Tryz.results85, go_sem, k0, k1, k2, k3, k4, k5, k6, ad0]) rfl (by rw [HXE.out]; unfold ParR; simp only; rw [HTL.out]; exact ⟨by rw [parE4 hk hx]; rfl, hbel⟩)
   . rw [hk] at HKD
     go_wp2_with (first | (go_at_call 124; have hh := HC5.out _ P13.out.bel P13.out.rd; refine Calls.mono hh ?_; clear hh; rintro e w14 ⟨rfl, hr, hg⟩; have P14 := hid (P13.out.grown hg hr); clear hr hg; have a0 := (ao_cells P14.out.ad).1; have f0 := (ao_cells P14.out.ad).2.2.2.2.2.2.2.1 0; have a1 := (ao_cells P14.out.ad).2.1; have f1 := (ao_cells P14.out.ad).2.2.2.2.2.2.2.1 1; have a2 := (ao_cells P14.out.ad).2.2.1; have f2 := (ao_cells P14.out.ad).2.2.2.2.2.2.2.1 2; have a4 := (ao_cells P14.out.ad).2.2.2.2.1; have f4 := (ao_cells P14.out.ad).2.2.2.2.2.2.2.1 4; have a5 := (ao_cells P14.out.ad).2.2.2.2.2.1; have f5 := (ao_cells P14.out.ad).2.2.2.2.2.2.2.1 5; have a6 := (ao_cells P14.out.ad).2.2.2.2.2.2.1; have f6 := (ao_cells P14.out.ad).2.2.2.2.2.2.2.1 6; have r0 := P14.out.rd.cells.1; have r1 := P14.out.rd.cells.2.1; obtain ⟨e0, e1, e2, e3, e4, e5, e6, ef, _⟩ := ao_cells P14.out.re; have g0 := ef 0; have g1 := ef 1; have g2 := ef 2; have g3 := ef 3; have g4 := ef 4; have g5 := ef 5; have g6 := ef 6; have a3 := (ao_cells P14.out.ad).2.2.2.1; simp only [kV]) | (go_at_call 125; refine (HKD.out _).mono ?_; rintro e wk ⟨rfl, rfl⟩))
     have P15 := hid (((P14.out.p4 k.1).p5 k.2.1).p6 k.2.2);obtain ⟨hb, ho, hbel⟩ := P15.out.fin (.slice rv xs.length cv) d ty nm k _ rfl;obtain ⟨k0, k1, k2, k3, k4, k5, k6, _, _⟩ := ao_cells hb;exact bodyPost_ret (v := .tuple #[adV (.slice rv xs.length cv) ⟨d, ty, nm, k, [], false⟩, .int .i64 0]) (by simp [results, Tryz.results85, go_sem, k0, k1, k2, k3, k4, k5, k6, adV]) rfl (by rw [HXE.out]; unfold ParR; simp only; rw [HTL.out]; exact ⟨by rw [if_pos (parE0 hk hx)]; exact ⟨_, rfl, ho⟩, hbel⟩)
  cases hp : Lib.hasPrefix l MODP
  case false =>
   have HXE := hid (show X = (xs, Lib.trimPrefix l MODP, false) by rw [<- HM.out, modsP_no n l hp]; simp);have HA := hid (has_any ⟨#[109, 111, 100, 117, 108, 101, 46]⟩ ⟨l.toArray⟩ (w.heap.size + 1) false wr HP.out.rd);have HP1 := hid (fun (W : World) (hg : wr.grownBy W (some (w.heap.size + 1))) (hr : Rd (w.heap.size + 1) W ⟨(Lib.trimPrefix l MODP).toArray⟩ false) => HP.out.grown hg hr);rw [show hasP (⟨#[109, 111, 100, 117, 108, 101, 46]⟩ : ByteArray).data.toList ⟨l.toArray⟩ = false from hp] at HA;change Hid (Calls _ _ _ _ fun e w' => e = _ /\ Rd _ w' ⟨(Lib.trimPrefix l MODP).toArray⟩ false /\ _) at HA;clear HM hp;go_wp2_with (go_at_call 120; have hh := HA.out; clear HA; refine Calls.mono hh ?_; clear hh; rintro e w1 ⟨rfl, hr, hg⟩; have HP2 := hid (HP1.out _ hg hr); clear hr hg HP1)
   have hl0 : (Lib.trimPrefix l MODP).length <= 2000000 := by have := trim_len l MODP; omega
   clear h1 h2 h3 hl c0 c1 c2 c3;generalize Lib.trimPrefix l MODP = l at *;obtain ⟨d, l1, ty, l2, b2, l3, b3, nm, l4, b4, k, l5, b5, HTL, hty, hl5, HC1, HC2, HC3, HC4, HC5⟩ := tl_con w HTT.out l false hl0;obtain ⟨rv, cv, hv, _, _⟩ := own_form HP2.out.own;subst hv;replace HTL := hid HTL;replace HC1 := hid HC1;replace HC2 := hid HC2;replace HC3 := hid HC3;replace HC4 := hid HC4;replace HC5 := hid HC5;have HLL := hid (And.intro hty hl5);clear hty hl5 hl0;go_wp2_with (go_at_call 120; have hh := HC1.out _ HP2.out.rd; refine Calls.mono hh ?_; clear hh; rintro e w7 ⟨rfl, hr, hg⟩; have P7 := hid (HP2.out.grown hg hr); clear hr hg; have a1 := (ao_cells P7.out.ad).2.1; have f1 := (ao_cells P7.out.ad).2.2.2.2.2.2.2.1 1)
   have P8 := hid (P7.out.p1 d);go_wp2_with (go_at_call 123; have hh := HC2.out _ P8.out.rd; refine Calls.mono hh ?_; clear hh; rintro e w9 ⟨rfl, hr, hg⟩; have P9 := hid (P8.out.grown hg hr); clear hr hg; have a2 := (ao_cells P9.out.ad).2.2.1; have f2 := (ao_cells P9.out.ad).2.2.2.2.2.2.2.1 2)
   have P10 := hid (P9.out.p2 ty);go_wp2_with (go_at_call 122; have hh := HC3.out _ P10.out.rd; refine Calls.mono hh ?_; clear hh; rintro e w11 ⟨rfl, hr, hg⟩; have P11 := hid (P10.out.grown hg hr); clear hr hg)
   go_wp2_with (go_at_call 123; have hh := HC4.out _ P11.out.rd; refine Calls.mono hh ?_; clear hh; rintro e w12 ⟨rfl, hr, hg⟩; have P12 := hid (P11.out.grown hg hr); clear hr hg; have a3 := (ao_cells P12.out.ad).2.2.2.1; have f3 := (ao_cells P12.out.ad).2.2.2.2.2.2.2.1 3)
   have P13 := hid (P12.out.p3 nm);have HKD := hid (fun (W : World) => pkind_any ⟨ty.toArray⟩ W (by rw [arr_size]; exact HLL.out.1));rw [show (idB (⟨ty.toArray⟩ : ByteArray).data.toList && !rsv (⟨ty.toArray⟩ : ByteArray).data.toList) = kdB ty from rfl] at HKD;have HPE := hid (show parE xs (tlP l false) = _ from rfl);rw [HTL.out] at HPE
   have hfin : (b5 = true) ∨ (b5 = false /\ (l5 == []) = false) ∨ (b5 = false /\ l5 = [] /\ kdB ty = false) ∨ (b5 = false /\ l5 = [] /\ kdB ty = true /\ decide ((16 : Int) < (xs.length : Int)) = true) ∨ (b5 = false /\ l5 = [] /\ kdB ty = true /\ decide ((16 : Int) < (xs.length : Int)) = false) := by
    cases b5 <;> cases l5 <;> cases kdB ty <;> cases decide ((16 : Int) < (xs.length : Int)) <;> simp
   clear HPE;rcases hfin with rfl | ⟨rfl, hl5⟩ | ⟨rfl, rfl, hk⟩ | ⟨rfl, rfl, hk, hx⟩ | ⟨rfl, rfl, hk, hx⟩
   . go_wp2_with (go_at_call 124; have hh := HC5.out _ P13.out.bel P13.out.rd; refine Calls.mono hh ?_; clear hh; rintro e w14 ⟨rfl, hr, hg⟩; have P14 := hid (P13.out.grown hg hr); clear hr hg; have a0 := (ao_cells P14.out.ad).1; have f0 := (ao_cells P14.out.ad).2.2.2.2.2.2.2.1 0; have a1 := (ao_cells P14.out.ad).2.1; have f1 := (ao_cells P14.out.ad).2.2.2.2.2.2.2.1 1; have a2 := (ao_cells P14.out.ad).2.2.1; have f2 := (ao_cells P14.out.ad).2.2.2.2.2.2.2.1 2; have a4 := (ao_cells P14.out.ad).2.2.2.2.1; have f4 := (ao_cells P14.out.ad).2.2.2.2.2.2.2.1 4; have a5 := (ao_cells P14.out.ad).2.2.2.2.2.1; have f5 := (ao_cells P14.out.ad).2.2.2.2.2.2.2.1 5; have a6 := (ao_cells P14.out.ad).2.2.2.2.2.2.1; have f6 := (ao_cells P14.out.ad).2.2.2.2.2.2.2.1 6; have r0 := P14.out.rd.cells.1; have r1 := P14.out.rd.cells.2.1; obtain ⟨e0, e1, e2, e3, e4, e5, e6, ef, _⟩ := ao_cells P14.out.re; have g0 := ef 0; have g1 := ef 1; have g2 := ef 2; have g3 := ef 3; have g4 := ef 4; have g5 := ef 5; have g6 := ef 6; have a3 := (ao_cells P14.out.ad).2.2.2.1; simp only [kV])
     have P15 := hid (((P14.out.p4 k.1).p5 k.2.1).p6 k.2.2);obtain ⟨hb, ho, hbel⟩ := P15.out.fin (.slice none 0 0) false [] [] (0, 0, []) _ rfl;obtain ⟨k0, k1, k2, k3, k4, k5, k6, _, _⟩ := ao_cells hb;exact bodyPost_ret (v := .tuple #[ad0, .int .i64 2]) (by simp [results, Tryz.results85, go_sem, k0, k1, k2, k3, k4, k5, k6, ad0]) rfl (by rw [HXE.out]; unfold ParR; simp only; rw [HTL.out]; exact ⟨by simp_all [parE], hbel⟩)
   . go_wp2_with (go_at_call 124; have hh := HC5.out _ P13.out.bel P13.out.rd; refine Calls.mono hh ?_; clear hh; rintro e w14 ⟨rfl, hr, hg⟩; have P14 := hid (P13.out.grown hg hr); clear hr hg; have a0 := (ao_cells P14.out.ad).1; have f0 := (ao_cells P14.out.ad).2.2.2.2.2.2.2.1 0; have a1 := (ao_cells P14.out.ad).2.1; have f1 := (ao_cells P14.out.ad).2.2.2.2.2.2.2.1 1; have a2 := (ao_cells P14.out.ad).2.2.1; have f2 := (ao_cells P14.out.ad).2.2.2.2.2.2.2.1 2; have a4 := (ao_cells P14.out.ad).2.2.2.2.1; have f4 := (ao_cells P14.out.ad).2.2.2.2.2.2.2.1 4; have a5 := (ao_cells P14.out.ad).2.2.2.2.2.1; have f5 := (ao_cells P14.out.ad).2.2.2.2.2.2.2.1 5; have a6 := (ao_cells P14.out.ad).2.2.2.2.2.2.1; have f6 := (ao_cells P14.out.ad).2.2.2.2.2.2.2.1 6; have r0 := P14.out.rd.cells.1; have r1 := P14.out.rd.cells.2.1; obtain ⟨e0, e1, e2, e3, e4, e5, e6, ef, _⟩ := ao_cells P14.out.re; have g0 := ef 0; have g1 := ef 1; have g2 := ef 2; have g3 := ef 3; have g4 := ef 4; have g5 := ef 5; have g6 := ef 6; have a3 := (ao_cells P14.out.ad).2.2.2.1; simp only [kV])
     have P15 := hid (((P14.out.p4 k.1).p5 k.2.1).p6 k.2.2);obtain ⟨hb, ho, hbel⟩ := P15.out.fin (.slice none 0 0) false [] [] (0, 0, []) _ rfl;obtain ⟨k0, k1, k2, k3, k4, k5, k6, _, _⟩ := ao_cells hb;exact bodyPost_ret (v := .tuple #[ad0, .int .i64 2]) (by simp [results, Tryz.results85, go_sem, k0, k1, k2, k3, k4, k5, k6, ad0]) rfl (by rw [HXE.out]; unfold ParR; simp only; rw [HTL.out]; exact ⟨by simp_all [parE], hbel⟩)
   . rw [hk] at HKD
     go_wp2_with (first | (go_at_call 124; have hh := HC5.out _ P13.out.bel P13.out.rd; refine Calls.mono hh ?_; clear hh; rintro e w14 ⟨rfl, hr, hg⟩; have P14 := hid (P13.out.grown hg hr); clear hr hg; have a0 := (ao_cells P14.out.ad).1; have f0 := (ao_cells P14.out.ad).2.2.2.2.2.2.2.1 0; have a1 := (ao_cells P14.out.ad).2.1; have f1 := (ao_cells P14.out.ad).2.2.2.2.2.2.2.1 1; have a2 := (ao_cells P14.out.ad).2.2.1; have f2 := (ao_cells P14.out.ad).2.2.2.2.2.2.2.1 2; have a4 := (ao_cells P14.out.ad).2.2.2.2.1; have f4 := (ao_cells P14.out.ad).2.2.2.2.2.2.2.1 4; have a5 := (ao_cells P14.out.ad).2.2.2.2.2.1; have f5 := (ao_cells P14.out.ad).2.2.2.2.2.2.2.1 5; have a6 := (ao_cells P14.out.ad).2.2.2.2.2.2.1; have f6 := (ao_cells P14.out.ad).2.2.2.2.2.2.2.1 6; have r0 := P14.out.rd.cells.1; have r1 := P14.out.rd.cells.2.1; obtain ⟨e0, e1, e2, e3, e4, e5, e6, ef, _⟩ := ao_cells P14.out.re; have g0 := ef 0; have g1 := ef 1; have g2 := ef 2; have g3 := ef 3; have g4 := ef 4; have g5 := ef 5; have g6 := ef 6; have a3 := (ao_cells P14.out.ad).2.2.2.1; simp only [kV]) | (go_at_call 125; refine (HKD.out _).mono ?_; rintro e wk ⟨rfl, rfl⟩))
     have P15 := hid (((P14.out.p4 k.1).p5 k.2.1).p6 k.2.2);obtain ⟨hb, ho, hbel⟩ := P15.out.fin (.slice none 0 0) false [] [] (0, 0, []) _ rfl;obtain ⟨k0, k1, k2, k3, k4, k5, k6, _, _⟩ := ao_cells hb;exact bodyPost_ret (v := .tuple #[ad0, .int .i64 2]) (by simp [results, Tryz.results85, go_sem, k0, k1, k2, k3, k4, k5, k6, ad0]) rfl (by rw [HXE.out]; unfold ParR; simp only; rw [HTL.out]; exact ⟨by simp_all [parE], hbel⟩)
   . rw [hk] at HKD
     go_wp2_with (first | (go_at_call 124; have hh := HC5.out _ P13.out.bel P13.out.rd; refine Calls.mono hh ?_; clear hh; rintro e w14 ⟨rfl, hr, hg⟩; have P14 := hid (P13.out.grown hg hr); clear hr hg; have a0 := (ao_cells P14.out.ad).1; have f0 := (ao_cells P14.out.ad).2.2.2.2.2.2.2.1 0; have a1 := (ao_cells P14.out.ad).2.1; have f1 := (ao_cells P14.out.ad).2.2.2.2.2.2.2.1 1; have a2 := (ao_cells P14.out.ad).2.2.1; have f2 := (ao_cells P14.out.ad).2.2.2.2.2.2.2.1 2; have a4 := (ao_cells P14.out.ad).2.2.2.2.1; have f4 := (ao_cells P14.out.ad).2.2.2.2.2.2.2.1 4; have a5 := (ao_cells P14.out.ad).2.2.2.2.2.1; have f5 := (ao_cells P14.out.ad).2.2.2.2.2.2.2.1 5; have a6 := (ao_cells P14.out.ad).2.2.2.2.2.2.1; have f6 := (ao_cells P14.out.ad).2.2.2.2.2.2.2.1 6; have r0 := P14.out.rd.cells.1; have r1 := P14.out.rd.cells.2.1; obtain ⟨e0, e1, e2, e3, e4, e5, e6, ef, _⟩ := ao_cells P14.out.re; have g0 := ef 0; have g1 := ef 1; have g2 := ef 2; have g3 := ef 3; have g4 := ef 4; have g5 := ef 5; have g6 := ef 6; have a3 := (ao_cells P14.out.ad).2.2.2.1; simp only [kV]) | (go_at_call 125; refine (HKD.out _).mono ?_; rintro e wk ⟨rfl, rfl⟩))
     have P15 := hid (((P14.out.p4 k.1).p5 k.2.1).p6 k.2.2);obtain ⟨hb, ho, hbel⟩ := P15.out.fin (.slice none 0 0) false [] [] (0, 0, []) _ rfl;obtain ⟨k0, k1, k2, k3, k4, k5, k6, _, _⟩ := ao_cells hb;exact bodyPost_ret (v := .tuple #[ad0, .int .i64 4]) (by simp [results, Tryz.results85, go_sem, k0, k1, k2, k3, k4, k5, k6, ad0]) rfl (by rw [HXE.out]; unfold ParR; simp only; rw [HTL.out]; exact ⟨by rw [parE4 hk hx]; rfl, hbel⟩)
   . rw [hk] at HKD
     go_wp2_with (first | (go_at_call 124; have hh := HC5.out _ P13.out.bel P13.out.rd; refine Calls.mono hh ?_; clear hh; rintro e w14 ⟨rfl, hr, hg⟩; have P14 := hid (P13.out.grown hg hr); clear hr hg; have a0 := (ao_cells P14.out.ad).1; have f0 := (ao_cells P14.out.ad).2.2.2.2.2.2.2.1 0; have a1 := (ao_cells P14.out.ad).2.1; have f1 := (ao_cells P14.out.ad).2.2.2.2.2.2.2.1 1; have a2 := (ao_cells P14.out.ad).2.2.1; have f2 := (ao_cells P14.out.ad).2.2.2.2.2.2.2.1 2; have a4 := (ao_cells P14.out.ad).2.2.2.2.1; have f4 := (ao_cells P14.out.ad).2.2.2.2.2.2.2.1 4; have a5 := (ao_cells P14.out.ad).2.2.2.2.2.1; have f5 := (ao_cells P14.out.ad).2.2.2.2.2.2.2.1 5; have a6 := (ao_cells P14.out.ad).2.2.2.2.2.2.1; have f6 := (ao_cells P14.out.ad).2.2.2.2.2.2.2.1 6; have r0 := P14.out.rd.cells.1; have r1 := P14.out.rd.cells.2.1; obtain ⟨e0, e1, e2, e3, e4, e5, e6, ef, _⟩ := ao_cells P14.out.re; have g0 := ef 0; have g1 := ef 1; have g2 := ef 2; have g3 := ef 3; have g4 := ef 4; have g5 := ef 5; have g6 := ef 6; have a3 := (ao_cells P14.out.ad).2.2.2.1; simp only [kV]) | (go_at_call 125; refine (HKD.out _).mono ?_; rintro e wk ⟨rfl, rfl⟩))
     have P15 := hid (((P14.out.p4 k.1).p5 k.2.1).p6 k.2.2);obtain ⟨hb, ho, hbel⟩ := P15.out.fin (.slice rv xs.length cv) d ty nm k _ rfl;obtain ⟨k0, k1, k2, k3, k4, k5, k6, _, _⟩ := ao_cells hb;exact bodyPost_ret (v := .tuple #[adV (.slice rv xs.length cv) ⟨d, ty, nm, k, [], false⟩, .int .i64 0]) (by simp [results, Tryz.results85, go_sem, k0, k1, k2, k3, k4, k5, k6, adV]) rfl (by rw [HXE.out]; unfold ParR; simp only; rw [HTL.out]; exact ⟨by rw [if_pos (parE0 hk hx)]; exact ⟨_, rfl, ho⟩, hbel⟩)
  have hl7 := hp_len hp;have hlt := trim_lt hp (by decide) hl7;have HA := hid (has_any ⟨#[109, 111, 100, 117, 108, 101, 46]⟩ ⟨l.toArray⟩ (w.heap.size + 1) false wr HP.out.rd);rw [show hasP (⟨#[109, 111, 100, 117, 108, 101, 46]⟩ : ByteArray).data.toList ⟨l.toArray⟩ = true from hp] at HA;rw [modsP_yes n l hp] at HM;have HP1 := hid (fun (W : World) (hg : wr.grownBy W (some (w.heap.size + 1))) (hr : Rd (w.heap.size + 1) W ⟨(Lib.trimPrefix l MODP).toArray⟩ false) => HP.out.grown hg hr);change Hid (Calls _ _ _ _ fun e w' => e = _ /\ Rd _ w' ⟨(Lib.trimPrefix l MODP).toArray⟩ false /\ _) at HA;clear hp;generalize Lib.trimPrefix l MODP = t at *;have hst := stepP_len t false;have HST := hid (fun (W : World) (hB : Below w.heap.size w W) (hr : Rd (w.heap.size + 1) W ⟨t.toArray⟩ false) => step_any ⟨t.toArray⟩ (w.heap.size + 1) false W w HTT.out hB (by omega) (by rw [arr_size]; omega) hr);change Hid (∀ (W : World) (hB : Below w.heap.size w W) (hr : Rd (w.heap.size + 1) W ⟨t.toArray⟩ false), Calls _ _ _ W fun e w' => e = .returned (stV (stepP t false).1) /\ Rd _ w' ⟨(stepP t false).2.1.toArray⟩ (stepP t false).2.2 /\ _) at HST;generalize stepP t false = x at *;obtain ⟨y, l2, b2⟩ := x;simp only at HST HM hst;have HSK := hid (fun (W : World) (hr : Rd (w.heap.size + 1) W ⟨l2.toArray⟩ b2) => skip_any ⟨#[46]⟩ ⟨l2.toArray⟩ (w.heap.size + 1) b2 W hr);change Hid (∀ (W : World) (hr : Rd (w.heap.size + 1) W ⟨l2.toArray⟩ b2), Calls _ _ _ W fun e w' => e = .returned (.tuple #[]) /\ Rd _ w' ⟨(skipP [46] l2 b2).1.toArray⟩ (skipP [46] l2 b2).2 /\ _) at HSK;have hsk : (skipP [46] l2 b2).1.length <= l2.length := trim_len _ _;generalize skipP [46] l2 b2 = z at *;obtain ⟨l3, b3⟩ := z;simp only at HSK HM hsk;have HNN := hid (show l3.length < n /\ l3.length <= s.size /\ xs.length + 1 + l3.length <= s.size /\ xs.length + 1 <= 2000000 by omega);clear h1 h2 h3 hlt hst hsk hl hs hl7;go_wp2_with (go_at_call 120; have hh := HA.out; clear HA; refine Calls.mono hh ?_; clear hh; rintro e w1 ⟨rfl, hr, hg⟩; have HP2 := hid (HP1.out _ hg hr); clear hr hg HP1)
  clear c0 c1 c2 c3;have q0 := (ao_cells HP2.out.ad).1;have hbd : Below w1.heap.size w1 w1.drew := (Below.refl _ _).drew;have HP3 := hid (HP2.out.below hbd);have q0d := (ao_cells HP3.out.ad).1;have qd := cellD_eq q0d;have HST2 := hid (HST.out w1.drew HP3.out.bel HP3.out.rd);clear HST hbd
  go_region_law
   ((first
     | (go_simp
        go_at_call 121;have hh := HST2.out;clear HST2;refine Calls.mono hh ?_;clear hh;rintro e w4 ⟨rfl, hr4, hg4⟩;have HP4 := hid (HP3.out.grown hg4 hr4);clear hr4 hg4;have q4 := (ao_cells HP4.out.ad).1;have HW1 := hid (show Below w4.heap.size w4 (w4.alloc (.cells #[.string ⟨y.1.toArray⟩, .int .i64 y.2.1, .int .i64 y.2.2.1, .string ⟨y.2.2.2.toArray⟩] 119)) from (Below.refl _ _).alloc (Nat.le_refl _) _);have HNW := hid (ko_new w4 (.cells #[.string ⟨y.1.toArray⟩, .int .i64 y.2.1, .int .i64 y.2.2.1, .string ⟨y.2.2.2.toArray⟩] 119));have HOW := hid (HP4.out.below HW1.out).own;have q4a := (ao_cells (HP4.out.below HW1.out).ad).1;have HSZ := hid (Nat.le_trans HP4.out.sz HW1.out.size);simp only [stV])
     | (have hq := HP4.out
        clear hq;refine step_append_row encM encM_len encM_one Tryz.underlying55 msinfo rfl (by omega) (by omega) (by rfl) _ _ (by rfl) (w.heap.size + 3) v xs (by rfl) HOW.out w4.heap.size 1 y (by rfl) (fr := (0, 0)) (by exact HNW.out) HNN.out.2.2.2 HSZ.out (w4.heap.size + 1) (by simp) ?_;intro g cap w5 m1 m2 m3 m4;have HP5 := hid (HP4.out.app HW1.out (morem_of m1 m2 m3 m4));rw [show (xs ++ [y]).length = xs.length + 1 by simp] at HP5;obtain ⟨⟨q5, f5⟩, hp5⟩ := HP5.out;have q7 := (ao_cells hp5.ad).1;clear hp5;clear m1 m2 m3 m4)))
  all_goals go_wp2_with (go_at_call 122; have hh := HSK.out _ HP5.out.2.rd; refine Calls.mono hh ?_; clear hh; rintro e w6 ⟨rfl, hr6, hg6⟩; have HP6 := hid (HP5.out.2.grown hg6 hr6); clear hr6 hg6)
  all_goals go_roundg n
  all_goals first
   | (case measure => omega)
   | exact ⟨l3, b3, _, xs ++ [y], HNN.out.1, HNN.out.2.1, by have := HNN.out.2.2.1; simp only [List.length_append, List.length_singleton]; omega, by first | exact HP6 | (simp only [List.length_append, List.length_singleton]; exact HP6), hid (by rw [<- HM.out]; simp)⟩
   | omega
   | skip
end Go.Proofs.YtpnogmicfomofaaGreatDoor.Adr
