import Derived.Test.YtedpdpcibkceeaaDoorPkn
import Derived.Test.YtedpdpcibkceeaaDoorShelf
/-
  Contracts of cmp.Compare, strings.Compare and cmp.Or, and of the program's Compare. Conditions: those ahead of each theorem.
-/
namespace Go.Proofs.YtedpdpcibkceeaaDoor
open Go.RowKit Go.Sort Go.Lib
open Go.Lib (hid)
set_option linter.unusedVariables false
set_option linter.unusedSimpArgs false

theorem nan_kind (x : Int) (w : World) : Calls Tryd.prog 70 #[.int .i64 x] w fun e w' => e = .returned (.bool false) ∧ w = w' := by
  go_enter Tryd.func70, Tryd.ntmps70
  go_wp2
  go_ret
  exact ⟨ret_bool (by simp), rfl⟩
theorem ckind_any (a b : Int) (w : World) : Calls Tryd.prog 51 #[.int .i64 a, .int .i64 b] w fun e w' => e = .returned (.int .i64 (numC a b)) ∧ w = w' := by
  have HN := hid (show numC a b = if a < b then -1 else if b < a then 1 else 0 from rfl)
  by_cases h1 : a < b
  · have HF := hid (HN.out.trans (if_pos h1))
    clear HN
    go_enter Tryd.func51, Tryd.ntmps51
    go_wp2_with fail
    refine (nan_kind _ _).mono ?_
    rintro e w1 ⟨rfl, rfl⟩
    go_wp2_with fail
    refine (nan_kind _ _).mono ?_
    rintro e w1 ⟨rfl, rfl⟩
    go_wp2
    go_ret
    exact ⟨ret_int HF.out, rfl⟩
  by_cases h2 : b < a
  · have HF := hid (HN.out.trans ((if_neg h1).trans (if_pos h2)))
    clear HN
    go_enter Tryd.func51, Tryd.ntmps51
    go_wp2_with fail
    refine (nan_kind _ _).mono ?_
    rintro e w1 ⟨rfl, rfl⟩
    go_wp2_with fail
    refine (nan_kind _ _).mono ?_
    rintro e w1 ⟨rfl, rfl⟩
    go_wp2
    go_ret
    exact ⟨ret_int HF.out, rfl⟩
  have HF := hid (HN.out.trans ((if_neg h1).trans (if_neg h2)))
  clear HN
  go_enter Tryd.func51, Tryd.ntmps51
  go_wp2_with fail
  refine (nan_kind _ _).mono ?_
  rintro e w1 ⟨rfl, rfl⟩
  go_wp2_with fail
  refine (nan_kind _ _).mono ?_
  rintro e w1 ⟨rfl, rfl⟩
  go_wp2
  go_ret
  exact ⟨ret_int HF.out, rfl⟩
theorem nan_int (x : Int) (w : World) : Calls Tryd.prog 71 #[.int .i64 x] w fun e w' => e = .returned (.bool false) ∧ w = w' := by
  go_enter Tryd.func71, Tryd.ntmps71
  go_wp2
  go_ret
  exact ⟨ret_bool (by simp), rfl⟩
theorem cint_any (a b : Int) (w : World) : Calls Tryd.prog 52 #[.int .i64 a, .int .i64 b] w fun e w' => e = .returned (.int .i64 (numC a b)) ∧ w = w' := by
  have HN := hid (show numC a b = if a < b then -1 else if b < a then 1 else 0 from rfl)
  by_cases h1 : a < b
  · have HF := hid (HN.out.trans (if_pos h1))
    clear HN
    go_enter Tryd.func52, Tryd.ntmps52
    go_wp2_with fail
    refine (nan_int _ _).mono ?_
    rintro e w1 ⟨rfl, rfl⟩
    go_wp2_with fail
    refine (nan_int _ _).mono ?_
    rintro e w1 ⟨rfl, rfl⟩
    go_wp2
    go_ret
    exact ⟨ret_int HF.out, rfl⟩
  by_cases h2 : b < a
  · have HF := hid (HN.out.trans ((if_neg h1).trans (if_pos h2)))
    clear HN
    go_enter Tryd.func52, Tryd.ntmps52
    go_wp2_with fail
    refine (nan_int _ _).mono ?_
    rintro e w1 ⟨rfl, rfl⟩
    go_wp2_with fail
    refine (nan_int _ _).mono ?_
    rintro e w1 ⟨rfl, rfl⟩
    go_wp2
    go_ret
    exact ⟨ret_int HF.out, rfl⟩
  have HF := hid (HN.out.trans ((if_neg h1).trans (if_neg h2)))
  clear HN
  go_enter Tryd.func52, Tryd.ntmps52
  go_wp2_with fail
  refine (nan_int _ _).mono ?_
  rintro e w1 ⟨rfl, rfl⟩
  go_wp2_with fail
  refine (nan_int _ _).mono ?_
  rintro e w1 ⟨rfl, rfl⟩
  go_wp2
  go_ret
  exact ⟨ret_int HF.out, rfl⟩
theorem cmpB_list : ∀ (a b : List UInt8), compareBytes a b = if a < b then -1 else if b < a then 1 else 0
  | [], [] => by simp [compareBytes]
  | [], _ :: _ => by simp [compareBytes]
  | _ :: _, [] => by simp [compareBytes]
  | x :: a, y :: b => by
    rw [compareBytes, cmpB_list a b]
    simp only [List.cons_lt_cons_iff]
    by_cases h1 : x < y
    · rw [if_pos h1, if_pos (.inl h1)]
    · rw [if_neg h1]
      by_cases h2 : y < x
      · have hne : x ≠ y := fun e => h1 (by rw [e] at h2 ⊢; exact h2)
        rw [if_pos h2, if_neg (fun h => h.elim h1 fun h => hne h.1), if_pos (.inl h2)]
      · rw [if_neg h2]
        have e : x = y := UInt8.le_antisymm (UInt8.not_lt.1 h2) (UInt8.not_lt.1 h1)
        subst e
        by_cases h3 : a < b
        · rw [if_pos h3, if_pos (.inr ⟨rfl, h3⟩)]
        · have e1 : ¬ (x < x ∨ x = x ∧ a < b) := fun h => h.elim h1 fun h => h3 h.2
          rw [if_neg h3, if_neg (c := x < x ∨ x = x ∧ a < b) e1]
          by_cases h4 : b < a
          · rw [if_pos h4, if_pos (.inr ⟨rfl, h4⟩)]
          · rw [if_neg h4, if_neg (fun h => h.elim h1 fun h => h4 h.2)]
theorem cmpS_bytes (a b : ByteArray) : compareBytes a.data.toList b.data.toList = cmpS a b := cmpB_list _ _
theorem scmp_any (a b : ByteArray) (w : World) : Calls Tryd.prog 53 #[.string a, .string b] w fun e w' => e = .returned (.int .i64 (cmpS a b)) ∧ w = w' := by
  rw [← cmpS_bytes]
  exact (Tryd.strings_Compare a b w).mono fun e w' ⟨h1, h2⟩ => ⟨h1, h2.symm⟩

def fstNZ : List Int → Int
  | [] => 0
  | x :: xs => if x ≠ 0 then x else fstNZ xs
theorem fstNZ_stop {xs : List Int} {k : Nat} (h : k < xs.length) (hz : ∀ i (hi : i < xs.length), i < k → xs[i] = 0) (hx : xs[k] ≠ 0) : fstNZ xs = xs[k] := by
  induction xs generalizing k with
  | nil => simp at h
  | cons x xs ih =>
    cases k with
    | zero => rw [fstNZ, if_pos (show x ≠ 0 from hx)]; rfl
    | succ k =>
      have h0 : x = 0 := hz 0 (by simp) (by omega)
      rw [fstNZ, if_neg (by simpa using h0)]
      exact ih (by simpa using h) (fun i hi hik => hz (i + 1) (by simpa using hi) (by omega)) hx
theorem fstNZ_zero {xs : List Int} (hz : ∀ i (hi : i < xs.length), xs[i] = 0) : fstNZ xs = 0 := by
  induction xs with
  | nil => rfl
  | cons x xs ih =>
    have h0 : x = 0 := hz 0 (by simp)
    rw [fstNZ, if_neg (by simpa using h0)]
    exact ih fun i hi => hz (i + 1) (by simpa using hi)
theorem int_at {w : World} {r : Option Addr} {n c : Nat} {xs : List Int} (h : Sl IntR 1 w (.slice r n c) xs) (i : Nat) (hi : i < xs.length) :
    ∃ b off, r = some ⟨b, off, none⟩ ∧ b < w.heap.size ∧ w.cell? ⟨b, off + i, none⟩ = some (.int .i64 xs[i]) ∧ -9223372036854775808 ≤ xs[i] ∧ xs[i] ≤ 9223372036854775807 := by
  obtain ⟨r', c', e, h1, h2, he⟩ := h
  simp at e
  obtain ⟨rfl, rfl, rfl⟩ := e
  obtain ⟨b, off, cs, hr, _, hc, hR, hs⟩ := he i hi
  have g0 := hc 0 _ hR
  simp only [Nat.add_zero, Nat.mul_one] at g0
  exact ⟨b, off, hr, World.block_lt_of_cell? w _ g0, g0, hs⟩
set_option maxRecDepth 100000 in
theorem or_any (xs : List Int) (r : Option Addr) (c : Nat) (w : World) (h : Sl IntR 1 w (.slice r xs.length c) xs) :
    Calls Tryd.prog 50 #[.slice r xs.length c] w fun e w' => e = .returned (.int .i64 (fstNZ xs)) ∧ w = w' := by
  obtain ⟨_, hlc, hcm⟩ := sl_len h
  have HI := hid h
  clear h
  go_enter Tryd.func50, Tryd.ntmps50
  go_wp2
  go_loopg [8] xs.length (fun gg s8 wr => ∃ k : Nat, k ≤ xs.length ∧ xs.length - k ≤ gg ∧ s8 = .int .i64 k ∧ Aside (w = wr) ∧ Aside (∀ i (hi : i < xs.length), i < k → xs[i] = 0))
  case atStart => exact ⟨0, Nat.zero_le _, by omega, rfl, rfl, fun i _ h => absurd h (by omega)⟩
  case round =>
    obtain ⟨k, hk, hg, rfl, BW, AL⟩ := hrel
    obtain rfl : w = wr := BW.out
    by_cases hlt : k < xs.length
    case pos =>
      have hltz : (k : Int) < (xs.length : Int) := by omega
      obtain ⟨b, off, rfl, hb, g0, _, _⟩ := int_at HI.out k hlt
      by_cases hz : xs[k] = 0
      · have AL2 := hid (show ∀ i (hi : i < xs.length), i < k + 1 → xs[i] = 0 from fun i hi hik => by
          by_cases e : i < k
          · exact AL.out i hi e
          · obtain rfl : i = k := by omega
            exact hz)
        rw [hz] at g0
        clear AL hz BW
        go_wp2
        go_roundg (xs.length - (k + 1))
        case measure => omega
        case rel => exact ⟨k + 1, by omega, by omega, by go_num, rfl, AL2.out⟩
      · have HF := hid (fstNZ_stop hlt AL.out hz)
        generalize xs[k] = y at *
        have e1 : (y != 0) = true := by simpa using hz
        have e2 : (y == 0) = false := by simpa using hz
        clear AL hz BW
        go_wp2
        go_ret
        exact ⟨ret_int HF.out, rfl⟩
    case neg =>
      have hltz : ¬ (k : Int) < (xs.length : Int) := by omega
      have HF := hid (fstNZ_zero (xs := xs) fun i hi => AL.out i hi (by omega))
      clear AL BW
      go_wp2
      go_ret
      exact ⟨ret_int HF.out, rfl⟩
theorem lex_assoc (a b c d : Int) : lex a (lex b (lex c d)) = lex (lex a (lex b c)) d := by
  unfold lex
  by_cases ha : a = 0 <;> by_cases hb : b = 0 <;> by_cases hc : c = 0 <;> simp [ha, hb, hc]
theorem fst3 (a b c : Int) : fstNZ [a, b, c] = lex a (lex b c) := by
  unfold lex
  by_cases ha : a = 0 <;> by_cases hb : b = 0 <;> by_cases hc : c = 0 <;> simp [fstNZ, ha, hb, hc]
theorem sl_three {w : World} {B T : Nat} {a b c : Int} (h : w.heap[B]? = some (.cells #[.int .i64 a, .int .i64 b, .int .i64 c] T (0, 0))) (ha : i64B a) (hb : i64B b) (hc : i64B c) :
    Sl IntR 1 w (.slice (some ⟨B, 0, none⟩) 3 3) [a, b, c] := by
  refine ⟨some ⟨B, 0, none⟩, 3, rfl, by simp, by simp [maxLen], fun i hi => ⟨B, 0, [.int .i64 ([a, b, c][i])], rfl, rfl, fun j u hj => ?_, rfl, ?_⟩⟩
  · cases j with
    | zero =>
      simp at hj; subst hj
      unfold World.cell?
      simp only [h]
      simp at hi
      rcases (show i = 0 ∨ i = 1 ∨ i = 2 by omega) with rfl | rfl | rfl <;> rfl
    | succ j => simp at hj
  · simp at hi
    rcases (show i = 0 ∨ i = 1 ∨ i = 2 by omega) with rfl | rfl | rfl
    · exact ha
    · exact hb
    · exact hc

theorem tri_bd {x : Int} (h : Tri x) : i64B x := by unfold i64B; rcases h with h | h | h <;> omega
set_option maxRecDepth 100000 in
set_option maxHeartbeats 4000000 in
theorem pcompare_any (x : Val) : ∀ (y : Val) (r : Option Addr) (c : Nat) (rk : Option Addr) (ck : Nat) (r2 : Option Addr) (c2 : Nat) (rk2 : Option Addr) (ck2 : Nat) (w : World), VR5 w r c rk ck x → VR5 w r2 c2 rk2 ck2 y →
    Calls Tryd.prog 19 #[.agg #[.int .i64 x.kind, .int .i64 x.num, .string x.str, .slice r x.items.length c, .slice rk x.keys.length ck], .agg #[.int .i64 y.kind, .int .i64 y.num, .string y.str, .slice r2 y.items.length c2, .slice rk2 y.keys.length ck2]] w fun e w' => e = .returned (.int .i64 (cmpV x y)) ∧ Below w.heap.size w w' := by
  refine Val.ind (P := fun x => ∀ (y : Val) (r : Option Addr) (c : Nat) (rk : Option Addr) (ck : Nat) (r2 : Option Addr) (c2 : Nat) (rk2 : Option Addr) (ck2 : Nat) (w : World), VR5 w r c rk ck x → VR5 w r2 c2 rk2 ck2 y →
    Calls Tryd.prog 19 #[.agg #[.int .i64 x.kind, .int .i64 x.num, .string x.str, .slice r x.items.length c, .slice rk x.keys.length ck], .agg #[.int .i64 y.kind, .int .i64 y.num, .string y.str, .slice r2 y.items.length c2, .slice rk2 y.keys.length ck2]] w fun e w' => e = .returned (.int .i64 (cmpV x y)) ∧ Below w.heap.size w w') ?_ x
  intro x ih y r c rk ck r2 c2 rk2 ck2 w hx hy
  obtain ⟨hI, hK, _, _, _, hkl, hil⟩ := hx.parts
  obtain ⟨hI2, hK2, _, _, _, hkl2, hil2⟩ := hy.parts
  have HI := hid hI
  have HK := hid hK
  have HI2 := hid hI2
  have HK2 := hid hK2
  obtain ⟨_, hlc, hcm⟩ := sl_len hI
  obtain ⟨_, hlk, hkm⟩ := sl_len hK
  obtain ⟨_, hlc2, hcm2⟩ := sl_len hI2
  obtain ⟨_, hlk2, hkm2⟩ := sl_len hK2
  have HN := hid ((cmpV_eq x y).trans (lex_assoc _ _ _ _))
  have IH := hid ih
  clear ih hI hK hx hI2 hK2 hy
  generalize x.kind = xk at *
  generalize x.num = xn at *
  generalize x.str = xs at *
  generalize y.kind = yk at *
  generalize y.num = yn at *
  generalize y.str = ys at *
  generalize hnx : cmpV x y = nx at *
  clear hnx
  generalize hxi : x.items = is at *
  clear hxi
  generalize hxi : x.keys = ks at *
  clear hxi
  generalize hxi : y.items = is2 at *
  clear hxi
  generalize hxi : y.keys = ks2 at *
  clear hxi
  have CK := hid (fun W => ckind_any xk yk W)
  have CN := hid (fun W => cint_any xn yn W)
  have CS := hid (fun W => scmp_any xs ys W)
  have TA := hid (tri_bd (numC_tri xk yk))
  have TB := hid (tri_bd (numC_tri xn yn))
  have TC := hid (tri_bd (cmpS_tri xs ys))
  generalize numC xk yk = A at *
  generalize numC xn yn = B at *
  generalize cmpS xs ys = C at *
  have HO := hid (fst3 A B C)
  generalize lex A (lex B C) = D at *
  have B0 := hid (show Below w.heap.size w ((w.alloc (.cells #[.int .i64 xk, .int .i64 xn, .string xs, .slice r is.length c, .slice rk ks.length ck] 26)).alloc (.cells #[.int .i64 yk, .int .i64 yn, .string ys, .slice r2 is2.length c2, .slice rk2 ks2.length ck2] 26)) from ((Below.refl _ _).alloc (Nat.le_refl _) _).alloc (by simp) _)
  go_enter Tryd.func19, Tryd.ntmps19
  go_wp2
  generalize hW0 : ((w.alloc (.cells #[.int .i64 xk, .int .i64 xn, .string xs, .slice r is.length c, .slice rk ks.length ck] 26)).alloc (.cells #[.int .i64 yk, .int .i64 yn, .string ys, .slice r2 is2.length c2, .slice rk2 ks2.length ck2] 26)) = W0 at *
  have a0 : W0.cell? ⟨w.heap.size, 0, none⟩ = some (.int .i64 xk) := by rw [← hW0]; exact (bget ((Below.refl _ _).alloc (Nat.le_refl _) _) (cell_at rfl rfl))
  have a1 : W0.cell? ⟨w.heap.size, 1, none⟩ = some (.int .i64 xn) := by rw [← hW0]; exact (bget ((Below.refl _ _).alloc (Nat.le_refl _) _) (cell_at rfl rfl))
  have a2 : W0.cell? ⟨w.heap.size, 2, none⟩ = some (.string xs) := by rw [← hW0]; exact (bget ((Below.refl _ _).alloc (Nat.le_refl _) _) (cell_at rfl rfl))
  have c3 : W0.cell? ⟨w.heap.size, 3, none⟩ = some (.slice r is.length c) := by rw [← hW0]; exact (bget ((Below.refl _ _).alloc (Nat.le_refl _) _) (cell_at rfl rfl))
  have c4 : W0.cell? ⟨w.heap.size, 4, none⟩ = some (.slice rk ks.length ck) := by rw [← hW0]; exact (bget ((Below.refl _ _).alloc (Nat.le_refl _) _) (cell_at rfl rfl))
  have b0 : W0.cell? ⟨w.heap.size + 1, 0, none⟩ = some (.int .i64 yk) := by rw [← hW0]; exact cell_at (by simp) rfl
  have b1 : W0.cell? ⟨w.heap.size + 1, 1, none⟩ = some (.int .i64 yn) := by rw [← hW0]; exact cell_at (by simp) rfl
  have b2 : W0.cell? ⟨w.heap.size + 1, 2, none⟩ = some (.string ys) := by rw [← hW0]; exact cell_at (by simp) rfl
  have d3 : W0.cell? ⟨w.heap.size + 1, 3, none⟩ = some (.slice r2 is2.length c2) := by rw [← hW0]; exact cell_at (by simp) rfl
  have d4 : W0.cell? ⟨w.heap.size + 1, 4, none⟩ = some (.slice rk2 ks2.length ck2) := by rw [← hW0]; exact cell_at (by simp) rfl
  clear hW0
  have C3 := hid c3
  have C4 := hid c4
  have D3 := hid d3
  have D4 := hid d4
  clear c3 c4 d3 d4
  have n0 := World.new_ne W0 _ a0
  have n1 := World.new_ne W0 _ b0
  go_region_held3 (fun w' => w'.cell? ⟨w.heap.size, 0, none⟩ = some (.int .i64 xk) ∧ w'.cell? ⟨w.heap.size, 1, none⟩ = some (.int .i64 xn) ∧ w'.cell? ⟨w.heap.size, 2, none⟩ = some (.string xs) ∧ w'.cell? ⟨w.heap.size + 1, 0, none⟩ = some (.int .i64 yk) ∧ w'.cell? ⟨w.heap.size + 1, 1, none⟩ = some (.int .i64 yn) ∧ w'.cell? ⟨w.heap.size + 1, 2, none⟩ = some (.string ys))
    (go_keep)
    (first | (go_at_call 51; refine (CK.out _).mono ?_; rintro e w1 ⟨rfl, rfl⟩) | (go_at_call 52; refine (CN.out _).mono ?_; rintro e w1 ⟨rfl, rfl⟩) | (go_at_call 53; refine (CS.out _).mono ?_; rintro e w1 ⟨rfl, rfl⟩) | (go_at_call 50; refine (or_any [A, B, C] _ _ _ (sl_three (by exact (MapKept.heap_alloc W0 _).1) TA.out TB.out TC.out)).mono ?_; rintro e w1 ⟨rfl, rfl⟩; rw [HO.out]))
  have BW1 := hid (show Below W0.heap.size W0 (W0.alloc (.cells #[.int .i64 A, .int .i64 B, .int .i64 C] 3)).drew from ((Below.refl _ _).alloc (Nat.le_refl _) _).drew)
  generalize (W0.alloc (.cells #[.int .i64 A, .int .i64 B, .int .i64 C] 3)).drew = W1 at *
  clear CK CN CS TA TB TC HO a0 a1 a2 b0 b1 b2 n0 n1
  by_cases hD : D = 0
  case neg =>
    have HF := hid (HN.out.trans (lex_ne hD))
    have e1 : (D != 0) = true := by simpa using hD
    have e2 : (D == 0) = false := by simpa using hD
    have BX := hid (B0.out.trans (BW1.out.mono B0.out.size))
    clear hD HN
    go_wp2
    go_ret
    exact ⟨ret_int HF.out, BX.out⟩
  case pos =>
  subst hD
  have HN0 := hid (show nx = cmpL (is.drop 0) (ks.drop 0) (is2.drop 0) (ks2.drop 0) from HN.out.trans (lex_eq rfl))
  clear HN
  have c3 := bget BW1.out C3.out
  have d3 := bget BW1.out D3.out
  have M := hid (show ∃ m : Nat, min (is.length : Int) (is2.length : Int) = m ∧ m ≤ is.length ∧ m ≤ is2.length ∧ (m = is.length ∨ m = is2.length) from ⟨min is.length is2.length, by omega, by omega, by omega, by omega⟩)
  go_wp2
  obtain ⟨m, hm, hm1, hm2, hm3⟩ := M.out
  rw [hm]
  clear hm M c3 d3
  have HM := hid hm3
  clear hm3
  go_loopg [36] m (fun gg s36 wr => ∃ k : Nat, k ≤ m ∧ m - k ≤ gg ∧ s36 = .int .i64 k ∧ Aside (Below W0.heap.size W0 wr) ∧ Aside (nx = cmpL (is.drop k) (ks.drop k) (is2.drop k) (ks2.drop k)))
  case atStart => exact ⟨0, Nat.zero_le _, by omega, rfl, BW1.out, HN0.out⟩
  case round =>
    clear HN0
    obtain ⟨k, hk, hg, rfl, BW, AL⟩ := hrel
    have c3 := bget BW.out C3.out
    have d3 := bget BW.out D3.out
    have c4 := bget BW.out C4.out
    have d4 := bget BW.out D4.out
    have hz1 := World.block_lt_of_cell? _ _ c4
    have hz2 := World.block_lt_of_cell? _ _ d4
    simp only at hz1 hz2
    have BX := hid (B0.out.trans (BW.out.mono B0.out.size))
    have BW2 := hid BW.out
    clear BW
    by_cases hlt : k < m
    case neg =>
      have hltz : ¬ (k : Int) < (m : Int) := by omega
      have HF := hid (show nx = numC is.length is2.length from AL.out.trans (cmpL_end (by omega) (by omega) (fun h => by have := HM.out; omega)))
      clear AL
      go_wp2_with fail
      refine (cint_any _ _ _).mono ?_
      rintro e w1 ⟨rfl, rfl⟩
      go_wp2
      go_ret
      exact ⟨ret_int HF.out, BX.out⟩
    have hltz : (k : Int) < (m : Int) := by omega
    have hlt1 : k < is.length := by omega
    have hlt2 : k < is2.length := by omega
    have hltz1 : (k : Int) < (is.length : Int) := by omega
    have hltz2 : (k : Int) < (is2.length : Int) := by omega
    have HIx := slv_mono HI.out BX.out
    have HIy := slv_mono HI2.out BX.out
    have HKx := hid (HK.out.below strR_mono BX.out)
    have HKy := hid (HK2.out.below strR_mono BX.out)
    obtain ⟨b, off, ri, ci, rk', ck', rfl, hb, g0, g1, g2, g3, g4, h5⟩ := val_at HIx k hlt1
    obtain ⟨b2, off2, ri2, ci2, rk2', ck2', rfl, hb2, f0, f1, f2, f3, f4, h6⟩ := val_at HIy k hlt2
    have CC := hid (fun (W : World) (hW : Below wr.heap.size wr W) => IH.out _ (List.getElem_mem hlt1) is2[k] ri ci rk' ck' ri2 ci2 rk2' ck2' W (h5.below hW) (h6.below hW))
    clear HIx HIy h5 h6
    have KN := hid (fun h : ¬ (k < ks.length ∧ k < ks2.length) => AL.out.trans (cmpL_nokeys hlt1 hlt2 h))
    have KK := hid (fun (h : k < ks.length) (h' : k < ks2.length) => AL.out.trans (cmpL_keys hlt1 hlt2 h h'))
    clear AL
    generalize is[k] = vx at *
    generalize is2[k] = vy at *
    obtain ⟨vk, vn, vs, vi, vks⟩ := vx
    obtain ⟨uk, un, us, ui, uks⟩ := vy
    simp only [Val.kind, Val.num, Val.str, Val.items, Val.keys] at g0 g1 g2 g3 g4 f0 f1 f2 f3 f4 CC
    generalize hcc : cmpV (.mk vk vn vs vi vks) (.mk uk un us ui uks) = cc at *
    clear hcc
    by_cases hk3 : k < ks.length
    case neg =>
      have hk3z : ¬ (k : Int) < (ks.length : Int) := by omega
      have AK := hid (KN.out (fun h => hk3 h.1))
      clear HKx HKy KN KK hk3
      obtain ⟨wq, rfl⟩ : ∃ wq : World, wq = wr := ⟨_, rfl⟩
      have BQ := hid (Below.refl wq.heap.size wq)
      have hcg := cells_regrown wq
      by_cases hq : cc = 0
      case pos =>
        subst hq
        have AL2 := hid (AK.out.trans (lex_eq rfl))
        clear AK
        go_wp2
        refine wp_region_quiet_below (by kernel_rfl) (by kernel_rfl) ?_
        repeat (first | go_big_quiet_step (exact Calls.regrown_of (CC.out _ (BQ.out.trans ((below_regrown _ _ _).mono BQ.out.size)))) | quiet_step (exact Calls.regrown_of (CC.out _ (BQ.out.trans ((below_regrown _ _ _).mono BQ.out.size)))))
        refine wpQuiet_nil ?_
        intro _ hw'
        obtain ⟨⟨dq, osq⟩, hw''⟩ := hw'
        subst hw''
        clear hcg
        have BV := hid (BW2.out.trans ((BQ.out.trans ((below_regrown wq dq osq).mono BQ.out.size)).mono BW2.out.size))
        go_wp2
        go_roundg (m - (k + 1))
        case measure => omega
        case rel => exact ⟨k + 1, by omega, by omega, by go_num, BV.out, AL2.out⟩
      case neg =>
        have HF := hid (show nx = cc from AK.out.trans (lex_ne hq))
        have e1 : (cc != 0) = true := by simpa using hq
        have e2 : (cc == 0) = false := by simpa using hq
        clear AK hq
        go_wp2
        refine wp_region_quiet_below (by kernel_rfl) (by kernel_rfl) ?_
        repeat (first | go_big_quiet_step (exact Calls.regrown_of (CC.out _ (BQ.out.trans ((below_regrown _ _ _).mono BQ.out.size)))) | quiet_step (exact Calls.regrown_of (CC.out _ (BQ.out.trans ((below_regrown _ _ _).mono BQ.out.size)))))
        refine wpQuiet_nil ?_
        intro _ hw'
        obtain ⟨⟨dq, osq⟩, hw''⟩ := hw'
        subst hw''
        clear hcg
        have BV := hid (BX.out.trans ((BQ.out.trans ((below_regrown wq dq osq).mono BQ.out.size)).mono BX.out.size))
        go_wp2
        go_ret
        exact ⟨ret_int HF.out, BV.out⟩
    by_cases hk4 : k < ks2.length
    case neg =>
      have hk3z : (k : Int) < (ks.length : Int) := by omega
      have hk4z : ¬ (k : Int) < (ks2.length : Int) := by omega
      have AK := hid (KN.out (fun h => hk4 h.2))
      clear HKx HKy KN KK hk3 hk4
      obtain ⟨wq, rfl⟩ : ∃ wq : World, wq = wr := ⟨_, rfl⟩
      have BQ := hid (Below.refl wq.heap.size wq)
      have hcg := cells_regrown wq
      by_cases hq : cc = 0
      case pos =>
        subst hq
        have AL2 := hid (AK.out.trans (lex_eq rfl))
        clear AK
        go_wp2
        refine wp_region_quiet_below (by kernel_rfl) (by kernel_rfl) ?_
        repeat (first | go_big_quiet_step (exact Calls.regrown_of (CC.out _ (BQ.out.trans ((below_regrown _ _ _).mono BQ.out.size)))) | quiet_step (exact Calls.regrown_of (CC.out _ (BQ.out.trans ((below_regrown _ _ _).mono BQ.out.size)))))
        refine wpQuiet_nil ?_
        intro _ hw'
        obtain ⟨⟨dq, osq⟩, hw''⟩ := hw'
        subst hw''
        clear hcg
        have BV := hid (BW2.out.trans ((BQ.out.trans ((below_regrown wq dq osq).mono BQ.out.size)).mono BW2.out.size))
        go_wp2
        go_roundg (m - (k + 1))
        case measure => omega
        case rel => exact ⟨k + 1, by omega, by omega, by go_num, BV.out, AL2.out⟩
      case neg =>
        have HF := hid (show nx = cc from AK.out.trans (lex_ne hq))
        have e1 : (cc != 0) = true := by simpa using hq
        have e2 : (cc == 0) = false := by simpa using hq
        clear AK hq
        go_wp2
        refine wp_region_quiet_below (by kernel_rfl) (by kernel_rfl) ?_
        repeat (first | go_big_quiet_step (exact Calls.regrown_of (CC.out _ (BQ.out.trans ((below_regrown _ _ _).mono BQ.out.size)))) | quiet_step (exact Calls.regrown_of (CC.out _ (BQ.out.trans ((below_regrown _ _ _).mono BQ.out.size)))))
        refine wpQuiet_nil ?_
        intro _ hw'
        obtain ⟨⟨dq, osq⟩, hw''⟩ := hw'
        subst hw''
        clear hcg
        have BV := hid (BX.out.trans ((BQ.out.trans ((below_regrown wq dq osq).mono BQ.out.size)).mono BX.out.size))
        go_wp2
        go_ret
        exact ⟨ret_int HF.out, BV.out⟩
    have hk3z : (k : Int) < (ks.length : Int) := by omega
    have hk4z : (k : Int) < (ks2.length : Int) := by omega
    obtain ⟨b3, off3, rfl, hb3, s3, _⟩ := str_at HKx.out k hk3
    obtain ⟨b4, off4, rfl, hb4, s4, _⟩ := str_at HKy.out k hk4
    have AK0 := hid (KK.out hk3 hk4)
    clear HKx HKy KN KK
    have CSK := hid (fun W => scmp_any ks[k] ks2[k] W)
    generalize ks[k] = kx at *
    generalize ks2[k] = ky at *
    generalize hsc : cmpS kx ky = sc at *
    clear hsc
    have hcg := cells_regrown wr
    by_cases hs : sc = 0
    case neg =>
      have HF := hid (show nx = sc from AK0.out.trans (lex_ne hs))
      have e1 : (sc != 0) = true := by simpa using hs
      have e2 : (sc == 0) = false := by simpa using hs
      clear AK0 hs CC
      go_wp2
      refine wp_region_quiet_below (by kernel_rfl) (by kernel_rfl) ?_
      repeat (first | go_big_quiet_step (exact same_regrown (CSK.out _)) | quiet_step (exact same_regrown (CSK.out _)))
      refine wpQuiet_nil ?_
      intro _ hw'
      obtain ⟨⟨dq, osq⟩, hw''⟩ := hw'
      subst hw''
      clear hcg
      have BV := hid (BX.out.trans ((below_regrown wr dq osq).mono BX.out.size))
      go_wp2
      go_ret
      exact ⟨ret_int HF.out, BV.out⟩
    case pos =>
      subst hs
      have AK := hid (AK0.out.trans (lex_eq rfl))
      clear AK0
      go_wp2
      refine wp_region_quiet_below (by kernel_rfl) (by kernel_rfl) ?_
      repeat (first | go_big_quiet_step (exact same_regrown (CSK.out _)) | quiet_step (exact same_regrown (CSK.out _)))
      refine wpQuiet_nil ?_
      intro _ hw'
      obtain ⟨⟨dq, osq⟩, hw''⟩ := hw'
      subst hw''
      clear hcg
      have g0' := cell_regrown g0 dq osq
      have g1' := cell_regrown g1 dq osq
      have g2' := cell_regrown g2 dq osq
      have g3' := cell_regrown g3 dq osq
      have g4' := cell_regrown g4 dq osq
      have f0' := cell_regrown f0 dq osq
      have f1' := cell_regrown f1 dq osq
      have f2' := cell_regrown f2 dq osq
      have f3' := cell_regrown f3 dq osq
      have f4' := cell_regrown f4 dq osq
      have c3' := cell_regrown c3 dq osq
      have d3' := cell_regrown d3 dq osq
      have BQ := hid (below_regrown wr dq osq)
      have hzr := BQ.out.size
      have hz1' := Nat.lt_of_lt_of_le hz1 hzr
      have hz2' := Nat.lt_of_lt_of_le hz2 hzr
      have hb' := Nat.lt_of_lt_of_le hb hzr
      have hb2' := Nat.lt_of_lt_of_le hb2 hzr
      generalize grow (redrawn wr dq) osq = wq at *
      clear g0 g1 g2 g3 g4 f0 f1 f2 f3 f4 c3 d3 c4 d4 s3 s4 hz1 hz2 hb hb2 hb3 hb4 hzr CSK
      have hcg := cells_regrown wq
      by_cases hq : cc = 0
      case pos =>
        subst hq
        have AL2 := hid (AK.out.trans (lex_eq rfl))
        clear AK
        go_wp2
        refine wp_region_quiet_below (by kernel_rfl) (by kernel_rfl) ?_
        repeat (first | go_big_quiet_step (exact Calls.regrown_of (CC.out _ (BQ.out.trans ((below_regrown _ _ _).mono BQ.out.size)))) | quiet_step (exact Calls.regrown_of (CC.out _ (BQ.out.trans ((below_regrown _ _ _).mono BQ.out.size)))))
        refine wpQuiet_nil ?_
        intro _ hw'
        obtain ⟨⟨dq, osq⟩, hw''⟩ := hw'
        subst hw''
        clear hcg
        have BV := hid (BW2.out.trans ((BQ.out.trans ((below_regrown wq dq osq).mono BQ.out.size)).mono BW2.out.size))
        go_wp2
        go_roundg (m - (k + 1))
        case measure => omega
        case rel => exact ⟨k + 1, by omega, by omega, by go_num, BV.out, AL2.out⟩
      case neg =>
        have HF := hid (show nx = cc from AK.out.trans (lex_ne hq))
        have e1 : (cc != 0) = true := by simpa using hq
        have e2 : (cc == 0) = false := by simpa using hq
        clear AK hq
        go_wp2
        refine wp_region_quiet_below (by kernel_rfl) (by kernel_rfl) ?_
        repeat (first | go_big_quiet_step (exact Calls.regrown_of (CC.out _ (BQ.out.trans ((below_regrown _ _ _).mono BQ.out.size)))) | quiet_step (exact Calls.regrown_of (CC.out _ (BQ.out.trans ((below_regrown _ _ _).mono BQ.out.size)))))
        refine wpQuiet_nil ?_
        intro _ hw'
        obtain ⟨⟨dq, osq⟩, hw''⟩ := hw'
        subst hw''
        clear hcg
        have BV := hid (BX.out.trans ((BQ.out.trans ((below_regrown wq dq osq).mono BQ.out.size)).mono BX.out.size))
        go_wp2
        go_ret
        exact ⟨ret_int HF.out, BV.out⟩
end Go.Proofs.YtedpdpcibkceeaaDoor
