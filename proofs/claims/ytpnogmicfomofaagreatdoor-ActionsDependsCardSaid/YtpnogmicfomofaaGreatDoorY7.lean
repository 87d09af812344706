import Derived.Test.YtpnogmicfomofaaGreatDoorY6
import Derived.Test.YtpnogmicfomofaaGreatDoorY2
set_option linter.unusedVariables false
set_option linter.unusedSimpArgs false
namespace Go.Proofs.YtpnogmicfomofaaGreatDoor.Adr
open Go.RowKit Go.Sort Go.Lib Go.Maps
open Go.Lib (hid)
theorem tw_at {α : Type} {p : α -> Bool} : ∀ {l : List α} {k : Nat}, k <= l.length -> (∀ j (hj : j < l.length), j < k -> p l[j] = true) -> (∀ h : k < l.length, p l[k] = false) -> l.takeWhile p = l.take k /\ l.dropWhile p = l.drop k
 | [], k, _, _, _ => by simp
 | x :: l, 0, _, _, h => by
   have h0 : p x = false := h (by simp);rw [List.takeWhile_cons, List.dropWhile_cons, h0];simp
 | x :: l, k + 1, hk, h1, h2 => by
   have h0 : p x = true := h1 0 (by simp) (by omega);obtain ⟨e1, e2⟩ := tw_at (p := p) (l := l) (k := k) (by simpa using hk) (fun j hj hjk => h1 (j + 1) (by simpa using hj) (by omega)) (fun h => h2 (by simpa using h));rw [List.takeWhile_cons, List.dropWhile_cons, h0, if_pos rfl, if_pos rfl, e1, e2];simp
theorem wd_at {s : ByteArray} {k : Nat} (hk : k <= s.size) (h1 : ∀ j (hj : j < s.size), j < k -> wrd s[j].toNat = true) (h2 : ∀ h : k < s.size, wrd s[k].toNat = false) : s.extract 0 k = ⟨(wdL s.data.toList).toArray⟩ /\ s.extract k s.size = ⟨(wdD s.data.toList).toArray⟩ := by
 obtain ⟨e1, e2⟩ := tw_at (p := fun c : UInt8 => wrd c.toNat) (l := s.data.toList) (k := k) (by rw [size_list]; exact hk) (fun j hj hjk => h1 j (by rw [<- size_list]; exact hj) hjk) (fun h => h2 (by rw [<- size_list]; exact h));unfold wdL wdD;rw [e1, e2];have := ext_mid s 0 k;rw [Nat.zero_add, List.drop_zero] at this;exact ⟨this, ext_arr s k⟩
theorem ret_two {a b c d : ByteArray} (h1 : a = c) (h2 : b = d) : Ending.returned (.tuple #[.string a, .string b]) = .returned (.tuple #[.string c, .string d]) := by rw [h1, h2]
def WdR (s : ByteArray) : Ending := .returned (.tuple #[.string ⟨(wdL s.data.toList).toArray⟩, .string ⟨(wdD s.data.toList).toArray⟩])
set_option maxHeartbeats 4000000 in
theorem rword_any (s : ByteArray) (w : World) (hs : s.size <= 2000000) : Calls Tryz.prog 70 #[.string s] w fun e w' => e = WdR s /\ Below w.heap.size w w' := by
 have HF := hid (fun k hk h1 h2 => wd_at (s := s) (k := k) hk h1 h2);go_enter Tryz.func70, Tryz.ntmps70;go_wp2
 go_loop [4] (fun i => ∃ k : Nat, k <= s.size /\ i = .int .i64 k /\ Hid (∀ j (hj : j < s.size), j < k -> wrd s[j].toNat = true)) (fun i => s.size - (RowKit.intOf i).toNat)
 case atStart => exact ⟨0, by omega, rfl, hid (fun j hj h => absurd h (by omega))⟩
 case round =>
  obtain ⟨k, hk, rfl, HA⟩ := hrel;have hk0 : (0 : Int) <= (k : Int) := by omega
  have hk1 : (k : Int) <= (s.size : Int) := by omega
  by_cases hlt : k < s.size
  . have HAk := hid (fun (h : wrd s[k].toNat = true) => show ∀ j (hj : j < s.size), j < k + 1 -> wrd s[j].toNat = true from fun j hj hjk => by
     by_cases e : j < k
     . exact HA.out j hj e
     . obtain rfl : j = k := by omega
       exact h)
    have HEND := hid (fun (h : wrd s[k].toNat = false) => HF.out k hk HA.out (fun _ => h));have HLk := hid (rletter_any s[k] w);have hc := lt256 s[k];cases hlk : ltr s[k].toNat
    . rw [hlk] at HLk
      by_cases h5 : (s[k].toNat : Int) < 48
      . have HR := hid (HEND.out (by unfold wrd dig; rw [hlk]; simp; omega))
        clear hlk HAk HEND HF HA;go_wp2_with (go_at_call 98; refine HLk.out.mono ?_; rintro e w1 ⟨rfl, rfl⟩)
        go_quiet (fail)
        go_wp2
        go_ret2
        exact ⟨ret_two HR.out.1 HR.out.2, bel_drewN (Below.refl _ _) _⟩
      . by_cases h6 : (57 : Int) < (s[k].toNat : Int)
        . have HR := hid (HEND.out (by unfold wrd dig; rw [hlk]; simp; omega))
          clear hlk HAk HEND HF HA;go_wp2_with (go_at_call 98; refine HLk.out.mono ?_; rintro e w1 ⟨rfl, rfl⟩)
          go_quiet (fail)
          go_wp2
          go_ret2
          exact ⟨ret_two HR.out.1 HR.out.2, bel_drewN (Below.refl _ _) _⟩
        . have HN := hid (HAk.out (by unfold wrd dig; rw [hlk]; simp; omega))
          clear hlk HAk HEND HA;go_wp2_with (go_at_call 98; refine HLk.out.mono ?_; rintro e w1 ⟨rfl, rfl⟩)
          go_round
          case rel => exact ⟨k + 1, by omega, by go_num, HN⟩
          case measure => simp [RowKit.intOf]; omega
    . have HN := hid (HAk.out (by unfold wrd; rw [hlk]; rfl))
      rw [hlk] at HLk;clear hlk HAk HEND HA;go_wp2_with (go_at_call 98; refine HLk.out.mono ?_; rintro e w1 ⟨rfl, rfl⟩)
      go_round
      case rel => exact ⟨k + 1, by omega, by go_num, HN⟩
      case measure => simp [RowKit.intOf]; omega
  . obtain rfl : k = s.size := by omega
    have HR := hid (HF.out s.size (Nat.le_refl _) HA.out (fun h => absurd h (Nat.lt_irrefl _)));rw [show s.extract 0 s.size = s by simp, show s.extract s.size s.size = ByteArray.empty by simp] at HR;clear HF HA;go_wp2
    go_quiet (fail)
    go_wp2
    go_ret2
    exact ⟨ret_two HR.out.1 HR.out.2, bel_drewN (Below.refl _ _) _⟩
theorem pre_eq (s p : ByteArray) (h : p.size <= s.size) : ((s.extract 0 p.size).toList == p.toList) = Lib.hasPrefix s.data.toList p.data.toList := by
 have h1 := Lib.hasPrefix_raw s p;rw [decide_eq_true h, Bool.true_and] at h1;exact h1
theorem pre_no (s p : ByteArray) (h : ¬ p.size <= s.size) : Lib.hasPrefix s.data.toList p.data.toList = false := by
 have h1 := Lib.hasPrefix_raw s p;rw [decide_eq_false h, Bool.false_and] at h1;exact h1.symm
set_option maxHeartbeats 4000000 in
theorem rbegins_any (s p : ByteArray) (w : World) (hs : s.size <= 2000000) (hp : p.size <= 2000000) : Calls Tryz.prog 68 #[.string s, .string p] w fun e w' => e = .returned (.bool (Lib.hasPrefix s.data.toList p.data.toList)) /\ w = w' := by
 by_cases h : p.size <= s.size
 . have HE := hid (pre_eq s p h)
   have hp0 : (0 : Int) <= (p.size : Int) := by omega
   have hp1 : (p.size : Int) <= (s.size : Int) := by omega
   go_enter Tryz.func68, Tryz.ntmps68;go_wp2
   go_ret
   exact ⟨ret_bool HE.out.symm, rfl⟩
 . have HE := hid (pre_no s p h)
   have hp1 : ¬ (p.size : Int) <= (s.size : Int) := by omega
   clear h;go_enter Tryz.func68, Tryz.ntmps68;go_wp2
   go_ret
   exact ⟨ret_bool HE.out, rfl⟩
set_option maxHeartbeats 4000000 in
theorem rvalid_any (s : ByteArray) (w : World) (hs : s.size <= 4096) (hv : validD s.data.toList = true) : Calls Tryz.prog 136 #[.string s] w fun e w' => e = .returned (.bool true) /\ Below w.heap.size w w' := by
 have h1 : ¬ (4096 : Int) < (s.size : Int) := by omega
 have HST := hid (fun k (hk : k < s.size) (hv : validD (s.data.toList.drop k) = true) => show decR (s.data.toList.drop k) ≠ 0 /\ k + decR (s.data.toList.drop k) <= s.size /\ validD (s.data.toList.drop (k + decR (s.data.toList.drop k))) = true from by
  have hne : s.data.toList.drop k ≠ [] := fun e => by have := congrArg List.length e; rw [List.length_drop, size_list] at this; simp at this; omega
  have h2 := hv;rw [validD_ref _ hne] at h2
  by_cases h0 : decR (s.data.toList.drop k) = 0
  . rw [if_pos h0] at h2; cases h2
  . rw [if_neg h0, List.drop_drop] at h2
    have := uv_le hne;rw [List.length_drop, size_list] at this;exact ⟨h0, by omega, h2⟩)
 have HD := hid (fun k (W : World) (hk : k < s.size) => rdecode_any s k W hk (by omega));go_enter Tryz.func136, Tryz.ntmps136;go_wp2
 go_loopg [3] s.size (fun gg s3 wr => ∃ k : Nat, k <= s.size /\ s.size - k <= gg /\ s3 = .int .i64 k /\ Hid (validD (s.data.toList.drop k) = true) /\ Hid (Below w.heap.size w wr))
 case atStart => exact ⟨0, by omega, by omega, rfl, hid (by rw [List.drop_zero]; exact hv), hid (Below.refl _ _)⟩
 case round =>
  clear hv;obtain ⟨k, hk, hgg, rfl, HV, HB⟩ := hrel
  by_cases hlt : k < s.size
  . obtain ⟨q1, q2, q3⟩ := HST.out k hlt HV.out
    have HDk := hid (HD.out k wr hlt);generalize decR (s.data.toList.drop k) = D at *;have HQ := hid q3;have e0 : (((D : Nat) : Int) == 0) = false := by simp; omega
    clear q3 q1;unfold DecP at HDk;go_wp2_with (go_at_call 166; refine HDk.out.mono ?_; rintro e w1 ⟨r1, rfl, hb1⟩; have HB1 := hid (HB.out.trans (hb1.mono HB.out.size)); clear hb1)
    go_roundg (s.size - (k + D))
    case measure => have : D ≠ 0 := (fun e => by subst e; simp at e0); omega
    case rel => exact ⟨k + D, q2, by omega, by go_num, HQ, HB1⟩
  . obtain rfl : k = s.size := by omega
    go_wp2
    go_ret
    exact ⟨rfl, HB.out⟩
end Go.Proofs.YtpnogmicfomofaaGreatDoor.Adr
namespace Go.Proofs.YtpnogmicfomofaaGreatDoor.Adr
open Go.RowKit Go.Sort Go.Lib Go.Maps
open Go.Lib (hid)
open Stp (Spc frUpon Lat Lat.refl wp_region_fresh wpF_quiet wpF_told wpF_skip wpF_put wpF_nil grw_ex grw_below noEnter_op sVal sBool stTrue Grw)
attribute [local go_sem] frUpon
def sStr (l : List UInt8) : Spc := sVal (.string ⟨l.toArray⟩)
def KyR (x : KeyT × List UInt8 × Bool) : Ending := .returned (.tuple #[kV x.1, .string ⟨x.2.1.toArray⟩, .bool x.2.2])
set_option maxHeartbeats 4000000 in
theorem rKey0 (w : World) : Calls Tryz.prog 101 #[kV (0, 0, [])] w fun e w' => e = .returned (.bool true) /\ Below w.heap.size w w' := by
 unfold kV;go_enter Tryz.func101, Tryz.ntmps101;go_wp2
 go_ret
 exact ⟨rfl, (Below.refl _ _).alloc (Nat.le_refl _) _⟩
set_option maxHeartbeats 4000000 in
theorem rKeyS (t : List UInt8) (w : World) (hs : t.length <= 4096) (hv : validD t = true) : Calls Tryz.prog 101 #[kV (2, 0, t)] w fun e w' => e = .returned (.bool true) /\ Below w.heap.size w w' := by
 unfold kV;have HV := hid (fun W => rvalid_any ⟨t.toArray⟩ W (by rw [<- size_list]; exact hs) hv);go_enter Tryz.func101, Tryz.ntmps101;go_wp2_with (go_at_call 136; refine (HV.out _).mono ?_; rintro e w1 ⟨rfl, hb1⟩)
 go_ret
 exact ⟨rfl, ((Below.refl _ _).alloc (Nat.le_refl _) _).trans (hb1.mono (by simp))⟩
theorem keyR_no {s : ByteArray} (h : ∀ h : 0 < s.size, s[0].toNat ≠ 91) : keyR s.data.toList = ((0, 0, []), s.data.toList, true) := by
 unfold keyR;rw [if_pos]
 by_cases h0 : 0 < s.size
 . have := h h0
   rw [show s.data.toList.getD 0 0 = s[0] from getD_at s h0];exact this
 . have : s.data.toList = [] := List.length_eq_zero_iff.1 (by rw [size_list]; omega)
   rw [this];decide
set_option maxHeartbeats 4000000 in
theorem rkey_no (s : ByteArray) (w : World) (h : ∀ h : 0 < s.size, s[0].toNat ≠ 91) : Calls Tryz.prog 73 #[.string s] w fun e w' => e = KyR (keyR s.data.toList) /\ Below w.heap.size w w' := by
 rw [keyR_no h]
 by_cases h0 : s.size = 0
 . have e0 := str_nil h0
   have HS := hid (show (⟨s.data.toList.toArray⟩ : ByteArray) = s from rfl);clear h;go_enter Tryz.func73, Tryz.ntmps73;go_wp2
   exact bodyPost_ret (v := .tuple #[kV (0, 0, []), .string s, .bool true]) (by simp [results, Tryz.results73, go_sem, kV]) rfl ⟨rfl, (Below.refl _ _).alloc (Nat.le_refl _) _⟩
 . have e0 := str_cons h0
   have hpos : 0 < s.size := by omega
   have h1 := h hpos;have e1 : (((s[0].toNat : Nat) : Int) != 91) = true := by simp; omega
   clear h h1 h0;go_enter Tryz.func73, Tryz.ntmps73;go_wp2
   exact bodyPost_ret (v := .tuple #[kV (0, 0, []), .string s, .bool true]) (by simp [results, Tryz.results73, go_sem, kV]) rfl ⟨rfl, (Below.refl _ _).alloc (Nat.le_refl _) _⟩
theorem keyR_q {s : ByteArray} (h : 1 < s.size) (h91 : s[0].toNat = 91) (h34 : s[1].toNat = 34) : keyR s.data.toList =
  if (unqS s.data.toList.tail).1 ≠ 0 ∨ (s.data.toList.getD ((unqS s.data.toList.tail).2.2 + 1) 0).toNat ≠ 93 ∨ quo (unqS s.data.toList.tail).2.1 ≠ s.data.toList.tail.take (unqS s.data.toList.tail).2.2 then ((0, 0, []), [], false)
  else ((2, 0, (unqS s.data.toList.tail).2.1), s.data.toList.drop ((unqS s.data.toList.tail).2.2 + 2), true) := by
 unfold keyR;rw [if_neg (by rw [getD_at s (show 0 < s.size by omega)]; simp [h91]), if_pos (by rw [getD_at s h]; exact h34)]
theorem getD_end {s : ByteArray} {k : Nat} (h : ¬ k < s.size) : (s.data.toList.getD k 0).toNat ≠ 93 := by
 rw [List.getD_eq_getElem?_getD, List.getElem?_eq_none (by rw [size_list]; omega)];decide
theorem ext_tail {s : ByteArray} {n : Nat} : s.extract 1 (n + 1) = ⟨(s.data.toList.tail.take n).toArray⟩ := by
 have := ext_mid s 1 n;rw [Nat.add_comm 1 n, List.drop_one] at this;exact this
theorem list_ne {a b : List UInt8} (h : a ≠ b) : ((⟨a.toArray⟩ : ByteArray).toList != (⟨b.toArray⟩ : ByteArray).toList) = true := by
 rw [ByteArray.toList_eq, ByteArray.toList_eq];simpa using h
theorem ko_end {w W : World} {r : Nat} {k n : Int} {t : List UInt8} (h : W.heap[r]? = some (kO k n t)) (k' n' : Int) (t' : List UInt8) : ∃ W', W' = (((W.setCell ⟨r, 0, none⟩ (.int .i64 k')).setCell ⟨r, 1, none⟩ (.int .i64 n')).setCell ⟨r, 2, none⟩ (.string ⟨t'.toArray⟩)) /\ W'.cell? ⟨r, 0, none⟩ = some (.int .i64 k') /\ W'.cell? ⟨r, 1, none⟩ = some (.int .i64 n') /\ W'.cell? ⟨r, 2, none⟩ = some (.string ⟨t'.toArray⟩) := by
 obtain ⟨a, b, c, _⟩ := ko_cells (ko_set h k' n' t');exact ⟨_, rfl, a, b, c⟩
set_option maxRecDepth 100000 in
set_option maxHeartbeats 8000000 in
theorem rkey_qa (s : ByteArray) (w : World) (hs : s.size <= 1200001) (hp : 1 < s.size) (h91 : s[0].toNat = 91) (h34 : s[1].toNat = 34) (he : (unqS s.data.toList.tail).1 ≠ 0) : Calls Tryz.prog 73 #[.string s] w fun e w' => e = KyR ((0, 0, []), [], false) /\ Below w.heap.size w w' := by
 have e0 := str_cons (show s.size ≠ 0 by omega);have e1 : (((s[0].toNat : Nat) : Int) != 91) = false := by rw [h91]; rfl
 have e2 : (((s[1].toNat : Nat) : Int) == 34) = true := by rw [h34]; rfl
 have hp1 : (1 : Int) < (s.size : Int) := by omega
 have hp2 : (1 : Int) <= (s.size : Int) := by omega
 have hz : (s.extract 1 s.size).size <= 1200000 := by rw [ext_size s 1 (by omega)]; omega
 have HUQ := hid (fun W => runq_any (s.extract 1 s.size) W hz);rw [show (s.extract 1 s.size).data.toList = s.data.toList.tail by rw [extract_list, List.drop_one]] at HUQ;have hn := (unqS_ok s.data.toList.tail).2;rw [List.length_tail, size_list] at hn;unfold UqR at HUQ;obtain ⟨er, her⟩ : ∃ er, (unqS s.data.toList.tail).1 = er := ⟨_, rfl⟩;obtain ⟨x, hx⟩ : ∃ x, (unqS s.data.toList.tail).2.1 = x := ⟨_, rfl⟩;obtain ⟨n, hn0⟩ : ∃ n, (unqS s.data.toList.tail).2.2 = n := ⟨_, rfl⟩;rw [her, hx, hn0] at HUQ;rw [hn0] at hn;have ee : (er != 0) = true := by rw [<- her]; simp [he]
 clear her hx hn0 hz h91 h34 he;have HK0 := hid (ko_new w (kO 0 0 []));unfold kO at HK0;go_enter Tryz.func73, Tryz.ntmps73;go_wp2_with (go_at_call 99; refine (HUQ.out _).mono ?_; rintro e w1 ⟨rfl, hb1⟩; have HB1 := hid hb1; clear hb1)
 have HA1 := hid (show Below w1.heap.size w1 (w1.alloc (.cells #[.int .i64 2, .int .i64 0, .string ⟨x.toArray⟩] 58)) from (Below.refl _ _).alloc (Nat.le_refl _) _);have HBA := hid ((show Below w.heap.size w (w.alloc (.cells #[.int .i64 0, .int .i64 0, .string ⟨#[]⟩] 58)) from (Below.refl _ _).alloc (Nat.le_refl _) _).trans ((HB1.out.trans (HA1.out.mono HB1.out.size)).mono (by simp)));have HK1 := hid (((HB1.out.trans (HA1.out.mono HB1.out.size)).block w.heap.size (by simp)).trans HK0.out);have HK2 := hid (ko_new w1 (kO 2 0 x));unfold kO at HK2;generalize hM : w1.heap.size = M at *;generalize w1.alloc (.cells #[.int .i64 2, .int .i64 0, .string ⟨x.toArray⟩] 58) = W2 at *;obtain ⟨d0, d1, d2, d3, d4⟩ := ko_cells (W := W2) (r := M) (k := 2) (n := 0) (t := x) HK2.out;have g0 := fun d os => cell_regrown d0 d os;have g1 := fun d os => cell_regrown d1 d os;have g2 := fun d os => cell_regrown d2 d os;refine wp_region_fresh (fun _ => none) (by kernel_rfl) (by kernel_rfl) ?_
 iterate 3 (refine wpF_quiet (grw_ex _) (by kernel_rfl) rfl (noEnter_op (by rfl)) ?_; intro K hK; go_big_quiet_op; go_big_quiet_on)
 iterate 5 (refine wpF_skip (by kernel_rfl) ?_)
 (refine wpF_put ?_; intro K hK; go_simp; refine hK _ ?_; clear hK K)
 iterate 2 (refine wpF_quiet (grw_ex _) (by kernel_rfl) rfl (noEnter_op (by rfl)) ?_; intro K hK; go_big_quiet_op; go_big_quiet_on)
 iterate 5 (refine wpF_skip (by kernel_rfl) ?_)
 (refine wpF_put ?_; intro K hK; go_simp; refine hK _ ?_; clear hK K)
 iterate 2 (refine wpF_quiet (grw_ex _) (by kernel_rfl) rfl (noEnter_op (by rfl)) ?_; intro K hK; go_big_quiet_op; go_big_quiet_on)
 iterate 7 (refine wpF_skip (by kernel_rfl) ?_)
 (refine wpF_put ?_; intro K hK; go_simp; refine hK _ ?_; clear hK K)
 iterate 2 (refine wpF_quiet (grw_ex _) (by kernel_rfl) rfl (noEnter_op (by rfl)) ?_; intro K hK; go_big_quiet_op; go_big_quiet_on)
 iterate 3 (refine wpF_skip (by kernel_rfl) ?_)
 (refine wpF_put ?_; intro K hK; go_simp; refine hK _ ?_; clear hK K)
 (refine wpF_quiet (grw_ex _) (by kernel_rfl) rfl (noEnter_op (by rfl)) ?_; intro K hK; go_big_quiet_op; go_big_quiet_on)
 refine wpF_nil ?_;intro w6 hw6 hE6;have hb6 := grw_below hw6;clear hw6 hE6;have HK3 := hid ((hb6.block w.heap.size (lt_of_block HK1.out)).trans HK1.out);obtain ⟨f0, f1, f2, f3, f4⟩ := ko_cells (W := w6) (r := w.heap.size) (k := 0) (n := 0) (t := []) HK3.out;have f30 := f3 0;have f31 := f3 1;have f32 := f3 2;have HB6 := hid (HBA.out.trans (hb6.mono HBA.out.size));clear f3 hb6;go_wp2
 obtain ⟨W', hW', a0, a1, a2⟩ := ko_end (w := w) HK3.out 0 0 [];have HBE := hid (show Below w.heap.size w W' from by rw [hW']; exact ((HB6.out.setCell (Nat.le_refl _) _).setCell (Nat.le_refl _) _).setCell (Nat.le_refl _) _);rw [show (⟨([] : List UInt8).toArray⟩ : ByteArray) = ⟨#[]⟩ from rfl] at hW' a2;rw [<- hW'];exact bodyPost_ret (v := .tuple #[kV (0, 0, []), .string ⟨#[]⟩, .bool false]) (by simp [results, Tryz.results73, go_sem, kV, a0, a1, a2]) rfl ⟨rfl, HBE.out⟩
set_option maxRecDepth 100000 in
set_option maxHeartbeats 8000000 in
theorem rkey_qb (s : ByteArray) (w : World) (hs : s.size <= 1200001) (hp : 1 < s.size) (h91 : s[0].toNat = 91) (h34 : s[1].toNat = 34) (he : (unqS s.data.toList.tail).1 = 0) (hb : ¬ (unqS s.data.toList.tail).2.2 + 1 < s.size) : Calls Tryz.prog 73 #[.string s] w fun e w' => e = KyR ((0, 0, []), [], false) /\ Below w.heap.size w w' := by
 have e0 := str_cons (show s.size ≠ 0 by omega);have e1 : (((s[0].toNat : Nat) : Int) != 91) = false := by rw [h91]; rfl
 have e2 : (((s[1].toNat : Nat) : Int) == 34) = true := by rw [h34]; rfl
 have hp1 : (1 : Int) < (s.size : Int) := by omega
 have hp2 : (1 : Int) <= (s.size : Int) := by omega
 have hz : (s.extract 1 s.size).size <= 1200000 := by rw [ext_size s 1 (by omega)]; omega
 have HUQ := hid (fun W => runq_any (s.extract 1 s.size) W hz);rw [show (s.extract 1 s.size).data.toList = s.data.toList.tail by rw [extract_list, List.drop_one]] at HUQ;have hn := (unqS_ok s.data.toList.tail).2;rw [List.length_tail, size_list] at hn;unfold UqR at HUQ;obtain ⟨er, her⟩ : ∃ er, (unqS s.data.toList.tail).1 = er := ⟨_, rfl⟩;obtain ⟨x, hx⟩ : ∃ x, (unqS s.data.toList.tail).2.1 = x := ⟨_, rfl⟩;obtain ⟨n, hn0⟩ : ∃ n, (unqS s.data.toList.tail).2.2 = n := ⟨_, rfl⟩;rw [her, hx, hn0] at HUQ;rw [hn0] at hn;have ee : (er != 0) = false := by rw [<- her]; simp [he]
 rw [hn0] at hb;have hge : ((s.size : Nat) : Int) <= ((n : Nat) : Int) + 1 := by omega
 clear her hx hn0 hz h91 h34 he hb;have HK0 := hid (ko_new w (kO 0 0 []));unfold kO at HK0;go_enter Tryz.func73, Tryz.ntmps73;go_wp2_with (go_at_call 99; refine (HUQ.out _).mono ?_; rintro e w1 ⟨rfl, hb1⟩; have HB1 := hid hb1; clear hb1)
 have HA1 := hid (show Below w1.heap.size w1 (w1.alloc (.cells #[.int .i64 2, .int .i64 0, .string ⟨x.toArray⟩] 58)) from (Below.refl _ _).alloc (Nat.le_refl _) _);have HBA := hid ((show Below w.heap.size w (w.alloc (.cells #[.int .i64 0, .int .i64 0, .string ⟨#[]⟩] 58)) from (Below.refl _ _).alloc (Nat.le_refl _) _).trans ((HB1.out.trans (HA1.out.mono HB1.out.size)).mono (by simp)));have HK1 := hid (((HB1.out.trans (HA1.out.mono HB1.out.size)).block w.heap.size (by simp)).trans HK0.out);have HK2 := hid (ko_new w1 (kO 2 0 x));unfold kO at HK2;generalize hM : w1.heap.size = M at *;generalize w1.alloc (.cells #[.int .i64 2, .int .i64 0, .string ⟨x.toArray⟩] 58) = W2 at *;obtain ⟨d0, d1, d2, d3, d4⟩ := ko_cells (W := W2) (r := M) (k := 2) (n := 0) (t := x) HK2.out;have g0 := fun d os => cell_regrown d0 d os;have g1 := fun d os => cell_regrown d1 d os;have g2 := fun d os => cell_regrown d2 d os;refine wp_region_fresh (fun _ => none) (by kernel_rfl) (by kernel_rfl) ?_
 iterate 3 (refine wpF_quiet (grw_ex _) (by kernel_rfl) rfl (noEnter_op (by rfl)) ?_; intro K hK; go_big_quiet_op; go_big_quiet_on)
 iterate 3 (refine wpF_quiet (grw_ex _) (by kernel_rfl) rfl (noEnter_op (by rfl)) ?_; intro K hK; go_big_quiet_op; go_big_quiet_on)
 (refine wpF_quiet (grw_ex _) (by kernel_rfl) rfl (by intro w f args w'; go_simp) ?_; intro K hK; go_big_quiet_op; go_big_quiet_on)
 (refine wpF_quiet (grw_ex _) (by kernel_rfl) rfl (noEnter_op (by rfl)) ?_; intro K hK; go_big_quiet_op; go_big_quiet_on)
 iterate 2 (refine wpF_quiet (grw_ex _) (by kernel_rfl) rfl (noEnter_op (by rfl)) ?_; intro K hK; go_big_quiet_op; go_big_quiet_on)
 iterate 5 (refine wpF_skip (by kernel_rfl) ?_)
 (refine wpF_put ?_; intro K hK; go_simp; refine hK _ ?_; clear hK K)
 iterate 2 (refine wpF_quiet (grw_ex _) (by kernel_rfl) rfl (noEnter_op (by rfl)) ?_; intro K hK; go_big_quiet_op; go_big_quiet_on)
 iterate 7 (refine wpF_skip (by kernel_rfl) ?_)
 (refine wpF_put ?_; intro K hK; go_simp; refine hK _ ?_; clear hK K)
 iterate 2 (refine wpF_quiet (grw_ex _) (by kernel_rfl) rfl (noEnter_op (by rfl)) ?_; intro K hK; go_big_quiet_op; go_big_quiet_on)
 iterate 3 (refine wpF_skip (by kernel_rfl) ?_)
 (refine wpF_put ?_; intro K hK; go_simp; refine hK _ ?_; clear hK K)
 (refine wpF_quiet (grw_ex _) (by kernel_rfl) rfl (noEnter_op (by rfl)) ?_; intro K hK; go_big_quiet_op; go_big_quiet_on)
 refine wpF_nil ?_;intro w6 hw6 hE6;have hb6 := grw_below hw6;clear hw6 hE6;have HK3 := hid ((hb6.block w.heap.size (lt_of_block HK1.out)).trans HK1.out);obtain ⟨f0, f1, f2, f3, f4⟩ := ko_cells (W := w6) (r := w.heap.size) (k := 0) (n := 0) (t := []) HK3.out;have f30 := f3 0;have f31 := f3 1;have f32 := f3 2;have HB6 := hid (HBA.out.trans (hb6.mono HBA.out.size));clear f3 hb6;go_wp2
 obtain ⟨W', hW', a0, a1, a2⟩ := ko_end (w := w) HK3.out 0 0 [];have HBE := hid (show Below w.heap.size w W' from by rw [hW']; exact ((HB6.out.setCell (Nat.le_refl _) _).setCell (Nat.le_refl _) _).setCell (Nat.le_refl _) _);rw [show (⟨([] : List UInt8).toArray⟩ : ByteArray) = ⟨#[]⟩ from rfl] at hW' a2;rw [<- hW'];exact bodyPost_ret (v := .tuple #[kV (0, 0, []), .string ⟨#[]⟩, .bool false]) (by simp [results, Tryz.results73, go_sem, kV, a0, a1, a2]) rfl ⟨rfl, HBE.out⟩
set_option maxRecDepth 100000 in
set_option maxHeartbeats 8000000 in
theorem rkey_qc (s : ByteArray) (w : World) (hs : s.size <= 1200001) (hp : 1 < s.size) (h91 : s[0].toNat = 91) (h34 : s[1].toNat = 34) (he : (unqS s.data.toList.tail).1 = 0) (hb : (unqS s.data.toList.tail).2.2 + 1 < s.size) (hc : s[(unqS s.data.toList.tail).2.2 + 1].toNat ≠ 93) : Calls Tryz.prog 73 #[.string s] w fun e w' => e = KyR ((0, 0, []), [], false) /\ Below w.heap.size w w' := by
 have e0 := str_cons (show s.size ≠ 0 by omega);have e1 : (((s[0].toNat : Nat) : Int) != 91) = false := by rw [h91]; rfl
 have e2 : (((s[1].toNat : Nat) : Int) == 34) = true := by rw [h34]; rfl
 have hp1 : (1 : Int) < (s.size : Int) := by omega
 have hp2 : (1 : Int) <= (s.size : Int) := by omega
 have hz : (s.extract 1 s.size).size <= 1200000 := by rw [ext_size s 1 (by omega)]; omega
 have HUQ := hid (fun W => runq_any (s.extract 1 s.size) W hz);rw [show (s.extract 1 s.size).data.toList = s.data.toList.tail by rw [extract_list, List.drop_one]] at HUQ;have hn := (unqS_ok s.data.toList.tail).2;rw [List.length_tail, size_list] at hn;unfold UqR at HUQ;obtain ⟨er, her⟩ : ∃ er, (unqS s.data.toList.tail).1 = er := ⟨_, rfl⟩;obtain ⟨x, hx⟩ : ∃ x, (unqS s.data.toList.tail).2.1 = x := ⟨_, rfl⟩;obtain ⟨n, hn0⟩ : ∃ n, (unqS s.data.toList.tail).2.2 = n := ⟨_, rfl⟩;rw [her, hx, hn0] at HUQ;rw [hn0] at hn;have ee : (er != 0) = false := by rw [<- her]; simp [he]
 rw [hn0] at hb;have hge : decide (((s.size : Nat) : Int) <= ((n : Nat) : Int) + 1) = false := by simp; omega
 have hq0 : (0 : Int) <= (n : Int) + 1 := by omega
 have hq1 : (n : Int) + 1 < (s.size : Int) := by omega
 have hq2 : ((n : Int) + 1).toNat = n + 1 := by omega
 have hc2 : (((s[n + 1].toNat : Nat) : Int) != 93) = true := by have := hc; simp only [hn0] at this; simp; omega
 clear her hx hn0 hz h91 h34 he hc;have HK0 := hid (ko_new w (kO 0 0 []));unfold kO at HK0;go_enter Tryz.func73, Tryz.ntmps73;go_wp2_with (go_at_call 99; refine (HUQ.out _).mono ?_; rintro e w1 ⟨rfl, hb1⟩; have HB1 := hid hb1; clear hb1)
 have HA1 := hid (show Below w1.heap.size w1 (w1.alloc (.cells #[.int .i64 2, .int .i64 0, .string ⟨x.toArray⟩] 58)) from (Below.refl _ _).alloc (Nat.le_refl _) _);have HBA := hid ((show Below w.heap.size w (w.alloc (.cells #[.int .i64 0, .int .i64 0, .string ⟨#[]⟩] 58)) from (Below.refl _ _).alloc (Nat.le_refl _) _).trans ((HB1.out.trans (HA1.out.mono HB1.out.size)).mono (by simp)));have HK1 := hid (((HB1.out.trans (HA1.out.mono HB1.out.size)).block w.heap.size (by simp)).trans HK0.out);have HK2 := hid (ko_new w1 (kO 2 0 x));unfold kO at HK2;generalize hM : w1.heap.size = M at *;generalize w1.alloc (.cells #[.int .i64 2, .int .i64 0, .string ⟨x.toArray⟩] 58) = W2 at *;obtain ⟨d0, d1, d2, d3, d4⟩ := ko_cells (W := W2) (r := M) (k := 2) (n := 0) (t := x) HK2.out;have g0 := fun d os => cell_regrown d0 d os;have g1 := fun d os => cell_regrown d1 d os;have g2 := fun d os => cell_regrown d2 d os;refine wp_region_fresh (fun _ => none) (by kernel_rfl) (by kernel_rfl) ?_
 iterate 3 (refine wpF_quiet (grw_ex _) (by kernel_rfl) rfl (noEnter_op (by rfl)) ?_; intro K hK; go_big_quiet_op; go_big_quiet_on)
 iterate 3 (refine wpF_quiet (grw_ex _) (by kernel_rfl) rfl (noEnter_op (by rfl)) ?_; intro K hK; go_big_quiet_op; go_big_quiet_on)
 (refine wpF_quiet (grw_ex _) (by kernel_rfl) rfl (by intro w f args w'; go_simp) ?_; intro K hK; go_big_quiet_op; go_big_quiet_on)
 (refine wpF_quiet (grw_ex _) (by kernel_rfl) rfl (noEnter_op (by rfl)) ?_; intro K hK; go_big_quiet_op; go_big_quiet_on)
 iterate 2 (refine wpF_quiet (grw_ex _) (by kernel_rfl) rfl (noEnter_op (by rfl)) ?_; intro K hK; go_big_quiet_op; go_big_quiet_on)
 iterate 5 (refine wpF_quiet (grw_ex _) (by kernel_rfl) rfl (noEnter_op (by rfl)) ?_; intro K hK; go_big_quiet_op; go_big_quiet_on)
 iterate 2 (refine wpF_quiet (grw_ex _) (by kernel_rfl) rfl (noEnter_op (by rfl)) ?_; intro K hK; go_big_quiet_op; go_big_quiet_on)
 iterate 7 (refine wpF_skip (by kernel_rfl) ?_)
 (refine wpF_put ?_; intro K hK; go_simp; refine hK _ ?_; clear hK K)
 iterate 2 (refine wpF_quiet (grw_ex _) (by kernel_rfl) rfl (noEnter_op (by rfl)) ?_; intro K hK; go_big_quiet_op; go_big_quiet_on)
 iterate 3 (refine wpF_skip (by kernel_rfl) ?_)
 (refine wpF_put ?_; intro K hK; go_simp; refine hK _ ?_; clear hK K)
 (refine wpF_quiet (grw_ex _) (by kernel_rfl) rfl (noEnter_op (by rfl)) ?_; intro K hK; go_big_quiet_op; go_big_quiet_on)
 refine wpF_nil ?_;intro w6 hw6 hE6;have hb6 := grw_below hw6;clear hw6 hE6;have HK3 := hid ((hb6.block w.heap.size (lt_of_block HK1.out)).trans HK1.out);obtain ⟨f0, f1, f2, f3, f4⟩ := ko_cells (W := w6) (r := w.heap.size) (k := 0) (n := 0) (t := []) HK3.out;have f30 := f3 0;have f31 := f3 1;have f32 := f3 2;have HB6 := hid (HBA.out.trans (hb6.mono HBA.out.size));clear f3 hb6;go_wp2
 obtain ⟨W', hW', a0, a1, a2⟩ := ko_end (w := w) HK3.out 0 0 [];have HBE := hid (show Below w.heap.size w W' from by rw [hW']; exact ((HB6.out.setCell (Nat.le_refl _) _).setCell (Nat.le_refl _) _).setCell (Nat.le_refl _) _);rw [show (⟨([] : List UInt8).toArray⟩ : ByteArray) = ⟨#[]⟩ from rfl] at hW' a2;rw [<- hW'];exact bodyPost_ret (v := .tuple #[kV (0, 0, []), .string ⟨#[]⟩, .bool false]) (by simp [results, Tryz.results73, go_sem, kV, a0, a1, a2]) rfl ⟨rfl, HBE.out⟩
set_option maxRecDepth 100000 in
set_option maxHeartbeats 8000000 in
theorem rkey_qd (s : ByteArray) (w : World) (hs : s.size <= 1200001) (hp : 1 < s.size) (h91 : s[0].toNat = 91) (h34 : s[1].toNat = 34) (he : (unqS s.data.toList.tail).1 = 0) (hb : (unqS s.data.toList.tail).2.2 + 1 < s.size) (hc : s[(unqS s.data.toList.tail).2.2 + 1].toNat = 93) (hd : quo (unqS s.data.toList.tail).2.1 ≠ s.data.toList.tail.take (unqS s.data.toList.tail).2.2) : Calls Tryz.prog 73 #[.string s] w fun e w' => e = KyR ((0, 0, []), [], false) /\ Below w.heap.size w w' := by
 have e0 := str_cons (show s.size ≠ 0 by omega);have e1 : (((s[0].toNat : Nat) : Int) != 91) = false := by rw [h91]; rfl
 have e2 : (((s[1].toNat : Nat) : Int) == 34) = true := by rw [h34]; rfl
 have hp1 : (1 : Int) < (s.size : Int) := by omega
 have hp2 : (1 : Int) <= (s.size : Int) := by omega
 have hz : (s.extract 1 s.size).size <= 1200000 := by rw [ext_size s 1 (by omega)]; omega
 have HUQ := hid (fun W => runq_any (s.extract 1 s.size) W hz);rw [show (s.extract 1 s.size).data.toList = s.data.toList.tail by rw [extract_list, List.drop_one]] at HUQ;have hn := (unqS_ok s.data.toList.tail).2;rw [List.length_tail, size_list] at hn;unfold UqR at HUQ;obtain ⟨er, her⟩ : ∃ er, (unqS s.data.toList.tail).1 = er := ⟨_, rfl⟩;obtain ⟨x, hx⟩ : ∃ x, (unqS s.data.toList.tail).2.1 = x := ⟨_, rfl⟩;obtain ⟨n, hn0⟩ : ∃ n, (unqS s.data.toList.tail).2.2 = n := ⟨_, rfl⟩;rw [her, hx, hn0] at HUQ;rw [hn0] at hn;have ee : (er != 0) = false := by rw [<- her]; simp [he]
 rw [hn0] at hb;have hge : decide (((s.size : Nat) : Int) <= ((n : Nat) : Int) + 1) = false := by simp; omega
 have hq0 : (0 : Int) <= (n : Int) + 1 := by omega
 have hq1 : (n : Int) + 1 < (s.size : Int) := by omega
 have hq2 : ((n : Int) + 1).toNat = n + 1 := by omega
 have hc2 : (((s[n + 1].toNat : Nat) : Int) != 93) = false := by have := hc; simp only [hn0] at this; rw [this]; rfl
 have hxl := (unqS_ok s.data.toList.tail).1;rw [hx] at hxl;have HQT := hid (fun W => rquote_any ⟨x.toArray⟩ W (by rw [<- size_list]; show x.length <= 2000000; omega));clear hxl;rw [hx, hn0] at hd;have hd2 : ((s.extract 1 (n + 1)).toList != (⟨(quo x).toArray⟩ : ByteArray).toList) = true := by rw [ext_tail]; exact list_ne (fun e => hd e.symm)
 have hd4 : (s.extract 1 (n + 1)).toList = s.data.toList.tail.take n := by rw [ext_tail, ByteArray.toList_eq]
 have hd3 : ((s.extract 1 (n + 1)).toList == quo x) = false := by rw [hd4]; exact beq_eq_false_iff_ne.2 (fun e => hd e.symm)
 have hd5 : ¬ (s.extract 1 (n + 1)).toList = quo x := by rw [hd4]; exact fun e => hd e.symm
 clear hd4;clear her hx hn0 hz h91 h34 he hc hd;have HK0 := hid (ko_new w (kO 0 0 []));unfold kO at HK0;go_enter Tryz.func73, Tryz.ntmps73;go_wp2_with (go_at_call 99; refine (HUQ.out _).mono ?_; rintro e w1 ⟨rfl, hb1⟩; have HB1 := hid hb1; clear hb1)
 have HA1 := hid (show Below w1.heap.size w1 (w1.alloc (.cells #[.int .i64 2, .int .i64 0, .string ⟨x.toArray⟩] 58)) from (Below.refl _ _).alloc (Nat.le_refl _) _);have HBA := hid ((show Below w.heap.size w (w.alloc (.cells #[.int .i64 0, .int .i64 0, .string ⟨#[]⟩] 58)) from (Below.refl _ _).alloc (Nat.le_refl _) _).trans ((HB1.out.trans (HA1.out.mono HB1.out.size)).mono (by simp)));have HK1 := hid (((HB1.out.trans (HA1.out.mono HB1.out.size)).block w.heap.size (by simp)).trans HK0.out);have HK2 := hid (ko_new w1 (kO 2 0 x));unfold kO at HK2;generalize hM : w1.heap.size = M at *;generalize w1.alloc (.cells #[.int .i64 2, .int .i64 0, .string ⟨x.toArray⟩] 58) = W2 at *;obtain ⟨d0, d1, d2, d3, d4⟩ := ko_cells (W := W2) (r := M) (k := 2) (n := 0) (t := x) HK2.out;have g0 := fun d os => cell_regrown d0 d os;have g1 := fun d os => cell_regrown d1 d os;have g2 := fun d os => cell_regrown d2 d os;refine wp_region_fresh (fun k => match k with | 22 => some (sStr (quo x)) | _ => none) (by kernel_rfl) (by kernel_rfl) ?_
 iterate 3 (refine wpF_quiet (grw_ex _) (by kernel_rfl) rfl (noEnter_op (by rfl)) ?_; intro K hK; go_big_quiet_op; go_big_quiet_on)
 iterate 3 (refine wpF_quiet (grw_ex _) (by kernel_rfl) rfl (noEnter_op (by rfl)) ?_; intro K hK; go_big_quiet_op; go_big_quiet_on)
 (refine wpF_quiet (grw_ex _) (by kernel_rfl) rfl (by intro w f args w'; go_simp) ?_; intro K hK; go_big_quiet_op; go_big_quiet_on)
 (refine wpF_quiet (grw_ex _) (by kernel_rfl) rfl (noEnter_op (by rfl)) ?_; intro K hK; go_big_quiet_op; go_big_quiet_on)
 iterate 2 (refine wpF_quiet (grw_ex _) (by kernel_rfl) rfl (noEnter_op (by rfl)) ?_; intro K hK; go_big_quiet_op; go_big_quiet_on)
 iterate 5 (refine wpF_quiet (grw_ex _) (by kernel_rfl) rfl (noEnter_op (by rfl)) ?_; intro K hK; go_big_quiet_op; go_big_quiet_on)
 iterate 2 (refine wpF_quiet (grw_ex _) (by kernel_rfl) rfl (noEnter_op (by rfl)) ?_; intro K hK; go_big_quiet_op; go_big_quiet_on)
 iterate 5 (refine wpF_quiet (grw_ex _) (by kernel_rfl) rfl (noEnter_op (by rfl)) ?_; intro K hK; go_big_quiet_op; go_big_quiet_on)
 refine wpF_told (sStr (quo x)) (by kernel_rfl) rfl ⟨_, rfl⟩ stTrue (fun w4 hw4 hE4 => ?_) ?_
 . have hb4 := grw_below hw4
   have hh := HQT.out w4;clear hw4 hE4 hb4;go_simp
   go_at_call 100;refine Calls.mono hh ?_;rintro e w5 ⟨rfl, hb5⟩;exact ⟨_, rfl, hb5, rfl, trivial⟩
 rintro _ rfl
 (refine wpF_put ?_; intro K hK; go_simp; refine hK _ ?_; clear hK K)
 (refine wpF_quiet (grw_ex _) (by kernel_rfl) rfl (noEnter_op (by rfl)) ?_; intro K hK; go_big_quiet_op; go_big_quiet_on)
 iterate 2 (refine wpF_quiet (grw_ex _) (by kernel_rfl) rfl (noEnter_op (by rfl)) ?_; intro K hK; go_big_quiet_op; go_big_quiet_on)
 iterate 3 (refine wpF_skip (by kernel_rfl) ?_)
 (refine wpF_put ?_; intro K hK; go_simp; refine hK _ ?_; clear hK K)
 (refine wpF_quiet (grw_ex _) (by kernel_rfl) rfl (noEnter_op (by rfl)) ?_; intro K hK; go_big_quiet_op; go_big_quiet_on)
 refine wpF_nil ?_;intro w6 hw6 hE6;have hb6 := grw_below hw6;clear hw6 hE6;have HK3 := hid ((hb6.block w.heap.size (lt_of_block HK1.out)).trans HK1.out);obtain ⟨f0, f1, f2, f3, f4⟩ := ko_cells (W := w6) (r := w.heap.size) (k := 0) (n := 0) (t := []) HK3.out;have f30 := f3 0;have f31 := f3 1;have f32 := f3 2;have HB6 := hid (HBA.out.trans (hb6.mono HBA.out.size));clear f3 hb6;go_wp2
 obtain ⟨W', hW', a0, a1, a2⟩ := ko_end (w := w) HK3.out 0 0 [];have HBE := hid (show Below w.heap.size w W' from by rw [hW']; exact ((HB6.out.setCell (Nat.le_refl _) _).setCell (Nat.le_refl _) _).setCell (Nat.le_refl _) _);rw [show (⟨([] : List UInt8).toArray⟩ : ByteArray) = ⟨#[]⟩ from rfl] at hW' a2;rw [<- hW'];exact bodyPost_ret (v := .tuple #[kV (0, 0, []), .string ⟨#[]⟩, .bool false]) (by simp [results, Tryz.results73, go_sem, kV, a0, a1, a2]) rfl ⟨rfl, HBE.out⟩
set_option maxRecDepth 100000 in
set_option maxHeartbeats 8000000 in
theorem rkey_qe (s : ByteArray) (w : World) (hs : s.size <= 1200001) (hp : 1 < s.size) (h91 : s[0].toNat = 91) (h34 : s[1].toNat = 34) (he : (unqS s.data.toList.tail).1 = 0) (hb : (unqS s.data.toList.tail).2.2 + 1 < s.size) (hc : s[(unqS s.data.toList.tail).2.2 + 1].toNat = 93) (hd : quo (unqS s.data.toList.tail).2.1 = s.data.toList.tail.take (unqS s.data.toList.tail).2.2) : Calls Tryz.prog 73 #[.string s] w fun e w' => e = KyR ((2, 0, (unqS s.data.toList.tail).2.1), s.data.toList.drop ((unqS s.data.toList.tail).2.2 + 2), true) /\ Below w.heap.size w w' := by
 have e0 := str_cons (show s.size ≠ 0 by omega);have e1 : (((s[0].toNat : Nat) : Int) != 91) = false := by rw [h91]; rfl
 have e2 : (((s[1].toNat : Nat) : Int) == 34) = true := by rw [h34]; rfl
 have hp1 : (1 : Int) < (s.size : Int) := by omega
 have hp2 : (1 : Int) <= (s.size : Int) := by omega
 have hz : (s.extract 1 s.size).size <= 1200000 := by rw [ext_size s 1 (by omega)]; omega
 have HUQ := hid (fun W => runq_any (s.extract 1 s.size) W hz);rw [show (s.extract 1 s.size).data.toList = s.data.toList.tail by rw [extract_list, List.drop_one]] at HUQ;have hn := (unqS_ok s.data.toList.tail).2;rw [List.length_tail, size_list] at hn;unfold UqR at HUQ;have hva := unqS_valid he;obtain ⟨er, her⟩ : ∃ er, (unqS s.data.toList.tail).1 = er := ⟨_, rfl⟩;obtain ⟨x, hx⟩ : ∃ x, (unqS s.data.toList.tail).2.1 = x := ⟨_, rfl⟩;obtain ⟨n, hn0⟩ : ∃ n, (unqS s.data.toList.tail).2.2 = n := ⟨_, rfl⟩;rw [her, hx, hn0] at HUQ;rw [hn0] at hn;have ee : (er != 0) = false := by rw [<- her]; simp [he]
 rw [hn0] at hb;have hge : decide (((s.size : Nat) : Int) <= ((n : Nat) : Int) + 1) = false := by simp; omega
 have hq0 : (0 : Int) <= (n : Int) + 1 := by omega
 have hq1 : (n : Int) + 1 < (s.size : Int) := by omega
 have hq2 : ((n : Int) + 1).toNat = n + 1 := by omega
 have hc2 : (((s[n + 1].toNat : Nat) : Int) != 93) = false := by have := hc; simp only [hn0] at this; rw [this]; rfl
 have hxl := (unqS_ok s.data.toList.tail).1;rw [hx] at hxl;have HQT := hid (fun W => rquote_any ⟨x.toArray⟩ W (by rw [<- size_list]; show x.length <= 2000000; omega));clear hxl;rw [hx] at hva;have HKY := hid (fun W => rKeyS x W hva.2 hva.1);unfold kV at HKY;rw [hx, hn0] at hd ⊢;have hd2 : ((s.extract 1 (n + 1)).toList != (⟨(quo x).toArray⟩ : ByteArray).toList) = false := by rw [ext_tail, hd]; simp
 have hd4 : (s.extract 1 (n + 1)).toList = s.data.toList.tail.take n := by rw [ext_tail, ByteArray.toList_eq]
 have hd5 : (s.extract 1 (n + 1)).toList = quo x := by rw [hd4]; exact hd.symm
 have hd3 : ((s.extract 1 (n + 1)).toList == quo x) = true := by rw [hd5]; simp
 clear hd4;clear her hx hn0 hz h91 h34 he hc hd hva;have HK0 := hid (ko_new w (kO 0 0 []));unfold kO at HK0;go_enter Tryz.func73, Tryz.ntmps73;go_wp2_with (go_at_call 99; refine (HUQ.out _).mono ?_; rintro e w1 ⟨rfl, hb1⟩; have HB1 := hid hb1; clear hb1)
 have HA1 := hid (show Below w1.heap.size w1 (w1.alloc (.cells #[.int .i64 2, .int .i64 0, .string ⟨x.toArray⟩] 58)) from (Below.refl _ _).alloc (Nat.le_refl _) _);have HBA := hid ((show Below w.heap.size w (w.alloc (.cells #[.int .i64 0, .int .i64 0, .string ⟨#[]⟩] 58)) from (Below.refl _ _).alloc (Nat.le_refl _) _).trans ((HB1.out.trans (HA1.out.mono HB1.out.size)).mono (by simp)));have HK1 := hid (((HB1.out.trans (HA1.out.mono HB1.out.size)).block w.heap.size (by simp)).trans HK0.out);have HK2 := hid (ko_new w1 (kO 2 0 x));unfold kO at HK2;generalize hM : w1.heap.size = M at *;generalize w1.alloc (.cells #[.int .i64 2, .int .i64 0, .string ⟨x.toArray⟩] 58) = W2 at *;obtain ⟨d0, d1, d2, d3, d4⟩ := ko_cells (W := W2) (r := M) (k := 2) (n := 0) (t := x) HK2.out;have g0 := fun d os => cell_regrown d0 d os;have g1 := fun d os => cell_regrown d1 d os;have g2 := fun d os => cell_regrown d2 d os;refine wp_region_fresh (fun k => match k with | 22 => some (sStr (quo x)) | 27 => some (sBool true) | _ => none) (by kernel_rfl) (by kernel_rfl) ?_
 iterate 3 (refine wpF_quiet (grw_ex _) (by kernel_rfl) rfl (noEnter_op (by rfl)) ?_; intro K hK; go_big_quiet_op; go_big_quiet_on)
 iterate 3 (refine wpF_quiet (grw_ex _) (by kernel_rfl) rfl (noEnter_op (by rfl)) ?_; intro K hK; go_big_quiet_op; go_big_quiet_on)
 (refine wpF_quiet (grw_ex _) (by kernel_rfl) rfl (by intro w f args w'; go_simp) ?_; intro K hK; go_big_quiet_op; go_big_quiet_on)
 (refine wpF_quiet (grw_ex _) (by kernel_rfl) rfl (noEnter_op (by rfl)) ?_; intro K hK; go_big_quiet_op; go_big_quiet_on)
 iterate 2 (refine wpF_quiet (grw_ex _) (by kernel_rfl) rfl (noEnter_op (by rfl)) ?_; intro K hK; go_big_quiet_op; go_big_quiet_on)
 iterate 5 (refine wpF_quiet (grw_ex _) (by kernel_rfl) rfl (noEnter_op (by rfl)) ?_; intro K hK; go_big_quiet_op; go_big_quiet_on)
 iterate 2 (refine wpF_quiet (grw_ex _) (by kernel_rfl) rfl (noEnter_op (by rfl)) ?_; intro K hK; go_big_quiet_op; go_big_quiet_on)
 iterate 5 (refine wpF_quiet (grw_ex _) (by kernel_rfl) rfl (noEnter_op (by rfl)) ?_; intro K hK; go_big_quiet_op; go_big_quiet_on)
 refine wpF_told (sStr (quo x)) (by kernel_rfl) rfl ⟨_, rfl⟩ stTrue (fun w4 hw4 hE4 => ?_) ?_
 . have hb4 := grw_below hw4
   have hh := HQT.out w4;clear hw4 hE4 hb4;go_simp
   go_at_call 100;refine Calls.mono hh ?_;rintro e w5 ⟨rfl, hb5⟩;exact ⟨_, rfl, hb5, rfl, trivial⟩
 rintro _ rfl
 (refine wpF_put ?_; intro K hK; go_simp; refine hK _ ?_; clear hK K)
 (refine wpF_quiet (grw_ex _) (by kernel_rfl) rfl (noEnter_op (by rfl)) ?_; intro K hK; go_big_quiet_op; go_big_quiet_on)
 iterate 2 (refine wpF_quiet (grw_ex _) (by kernel_rfl) rfl (noEnter_op (by rfl)) ?_; intro K hK; go_big_quiet_op; go_big_quiet_on)
 (refine wpF_quiet (grw_ex _) (by kernel_rfl) rfl (noEnter_op (by rfl)) ?_; intro K hK; go_big_quiet_op; go_big_quiet_on)
 refine wpF_told (sBool true) (by kernel_rfl) rfl ⟨_, rfl⟩ stTrue (fun w4 hw4 hE4 => ?_) ?_
 . have hb4 := grw_below hw4
   have hh := HKY.out w4;clear hw4 hE4 hb4;go_simp
   go_at_call 101;refine Calls.mono hh ?_;rintro e w5 ⟨rfl, hb5⟩;exact ⟨_, rfl, hb5, rfl, trivial⟩
 rintro _ rfl
 (refine wpF_put ?_; intro K hK; go_simp; refine hK _ ?_; clear hK K)
 (refine wpF_quiet (grw_ex _) (by kernel_rfl) rfl (noEnter_op (by rfl)) ?_; intro K hK; go_big_quiet_op; go_big_quiet_on)
 (refine wpF_quiet (grw_ex _) (by kernel_rfl) rfl (noEnter_op (by rfl)) ?_; intro K hK; go_big_quiet_op; go_big_quiet_on)
 refine wpF_nil ?_;intro w6 hw6 hE6;have hb6 := grw_below hw6;clear hw6 hE6;have HK3 := hid ((hb6.block w.heap.size (lt_of_block HK1.out)).trans HK1.out);obtain ⟨f0, f1, f2, f3, f4⟩ := ko_cells (W := w6) (r := w.heap.size) (k := 0) (n := 0) (t := []) HK3.out;have f30 := f3 0;have f31 := f3 1;have f32 := f3 2;have m0 := bget hb6 d0;have m1 := bget hb6 d1;have m2 := bget hb6 d2;have HB6 := hid (HBA.out.trans (hb6.mono HBA.out.size));have hr0 : (0 : Int) <= (n : Int) + 2 := by omega
 have hr1 : (n : Int) + 2 <= (s.size : Int) := by omega
 have hr2 : ((n : Int) + 2).toNat = n + 2 := by omega
 have HRS := hid (ext_arr s (n + 2));clear f3 hb6 d0 d1 d2 g0 g1 g2;go_wp2_with fail
 go_region
 all_goals
  go_wp2
  obtain ⟨W', hW', a0, a1, a2⟩ := ko_end (w := w) (W := w6) HK3.out 2 0 x;have HBE := hid (show Below w.heap.size w W' from by rw [hW']; exact ((HB6.out.setCell (Nat.le_refl _) _).setCell (Nat.le_refl _) _).setCell (Nat.le_refl _) _);rw [<- hW'];exact bodyPost_ret (v := .tuple #[kV (2, 0, x), .string (s.extract (n + 2) s.size), .bool true]) (by simp [results, Tryz.results73, go_sem, kV, a0, a1, a2]) rfl ⟨by rw [HRS.out]; rfl, HBE.out.drew⟩
theorem rkey_q (s : ByteArray) (w : World) (hs : s.size <= 1200001) (hp : 1 < s.size) (h91 : s[0].toNat = 91) (h34 : s[1].toNat = 34) : Calls Tryz.prog 73 #[.string s] w fun e w' => e = KyR (keyR s.data.toList) /\ Below w.heap.size w w' := by
 rw [keyR_q hp h91 h34]
 by_cases he : (unqS s.data.toList.tail).1 = 0
 . by_cases hb : (unqS s.data.toList.tail).2.2 + 1 < s.size
   . by_cases hc : s[(unqS s.data.toList.tail).2.2 + 1].toNat = 93
     . by_cases hd : quo (unqS s.data.toList.tail).2.1 = s.data.toList.tail.take (unqS s.data.toList.tail).2.2
       . rw [if_neg (by rw [getD_at s hb]; exact fun h => h.elim (fun h => h he) (fun h => h.elim (fun h => h hc) (fun h => h hd)))]
         exact rkey_qe s w hs hp h91 h34 he hb hc hd
       . rw [if_pos (Or.inr (Or.inr hd))]
         exact rkey_qd s w hs hp h91 h34 he hb hc hd
     . rw [if_pos (Or.inr (Or.inl (by rw [getD_at s hb]; exact hc)))]
       exact rkey_qc s w hs hp h91 h34 he hb hc
   . rw [if_pos (Or.inr (Or.inl (getD_end hb)))]
     exact rkey_qb s w hs hp h91 h34 he hb
 . rw [if_pos (Or.inl he)]
   exact rkey_qa s w hs hp h91 h34 he
end Go.Proofs.YtpnogmicfomofaaGreatDoor.Adr
namespace Go.Proofs.YtpnogmicfomofaaGreatDoor.Adr
open Go.RowKit Go.Sort Go.Lib Go.Maps
open Go.Lib (hid)
theorem tw_len {α : Type} {p : α -> Bool} : ∀ l : List α, (l.takeWhile p).length <= l.length /\ l.take (l.takeWhile p).length = l.takeWhile p /\ (∀ j (hj : j < l.length), j < (l.takeWhile p).length -> p l[j] = true) /\ (∀ h : (l.takeWhile p).length < l.length, p (l[(l.takeWhile p).length]) = false)
 | [] => by simp
 | x :: l => by
   obtain ⟨h1, h2, h3, h4⟩ := tw_len (p := p) l;cases hx : p x with
   | false =>
     have e : (x :: l).takeWhile p = [] := by rw [List.takeWhile_cons, hx]; rfl
     rw [e];exact ⟨by simp, by simp, fun j hj h => absurd h (by simp), fun h => by simpa using hx⟩
   | true =>
     have e : (x :: l).takeWhile p = x :: l.takeWhile p := by rw [List.takeWhile_cons, hx]; rfl
     simp only [e, List.length_cons];refine ⟨by omega, by rw [List.take_succ_cons, h2], fun j hj h => ?_, fun h => ?_⟩
     . cases j with
       | zero => exact hx
       | succ j => exact h3 j (by simpa using hj) (by omega)
     . exact h4 (by simpa using h)
theorem tail_at (s : ByteArray) (j : Nat) (h : j + 1 < s.size) : s.data.toList.tail[j]'(by rw [List.length_tail, size_list]; omega) = s[j + 1] := by
 rw [List.getElem_tail];rfl
theorem dg_facts {s : ByteArray} (h : 0 < s.size) : (dgL s.data.toList.tail).length + 1 <= s.size /\ (∀ j (hj : j < s.size), 1 <= j -> j < (dgL s.data.toList.tail).length + 1 -> dig s[j].toNat = true) /\ (∀ h : (dgL s.data.toList.tail).length + 1 < s.size, dig s[(dgL s.data.toList.tail).length + 1].toNat = false) /\
  s.extract 1 ((dgL s.data.toList.tail).length + 1) = ⟨(dgL s.data.toList.tail).toArray⟩ := by
 obtain ⟨h1, h2, h3, h4⟩ := tw_len (p := fun c : UInt8 => dig c.toNat) s.data.toList.tail;have hl : s.data.toList.tail.length = s.size - 1 := by rw [List.length_tail, size_list]
 refine ⟨by unfold dgL; omega, fun j hj hj1 hj2 => ?_, fun hk => ?_, ?_⟩
 . obtain ⟨i, rfl⟩ : ∃ i, j = i + 1 := ⟨j - 1, by omega⟩
   have := h3 i (by omega) (by unfold dgL at hj2; omega);rw [tail_at s i hj] at this;exact this
 . have := h4 (by unfold dgL at hk; omega)
   rw [tail_at s _ (by unfold dgL at hk; exact hk)] at this;exact this
 . rw [ext_tail]
   unfold dgL;rw [h2]
theorem keyR_n {s : ByteArray} (h : 0 < s.size) (h91 : s[0].toNat = 91) (h34 : ∀ h : 1 < s.size, s[1].toNat ≠ 34) : keyR s.data.toList =
  if (numS (dgL s.data.toList.tail)).2 ≠ 0 ∨ (s.data.toList.getD ((dgL s.data.toList.tail).length + 1) 0).toNat ≠ 93 then ((0, 0, []), [], false)
  else ((1, (numS (dgL s.data.toList.tail)).1, []), s.data.toList.drop ((dgL s.data.toList.tail).length + 2), true) := by
 unfold keyR;rw [if_neg (by rw [getD_at s h]; simp [h91]), if_neg]
 by_cases h1 : 1 < s.size
 . rw [getD_at s h1]; exact h34 h1
 . rw [List.getD_eq_getElem?_getD, List.getElem?_eq_none (by rw [size_list]; omega)]
   decide
set_option maxRecDepth 100000 in
set_option maxHeartbeats 16000000 in
theorem rkey_n (s : ByteArray) (w : World) (hs : s.size <= 2000000) (hp : 0 < s.size) (h91 : s[0].toNat = 91) (h34 : ∀ h : 1 < s.size, s[1].toNat ≠ 34) : Calls Tryz.prog 73 #[.string s] w fun e w' => e = KyR (keyR s.data.toList) /\ Below w.heap.size w w' := by
 have HE := hid (keyR_n hp h91 h34);have e0 := str_cons (show s.size ≠ 0 by omega);have e1 : (((s[0].toNat : Nat) : Int) != 91) = false := by rw [h91]; rfl
 obtain ⟨K, hK, k1, k2, k3, k4⟩ : ∃ K, (dgL s.data.toList.tail).length = K /\ K + 1 <= s.size /\ (∀ j (hj : j < s.size), 1 <= j -> j < K + 1 -> dig s[j].toNat = true) /\ (∀ h : K + 1 < s.size, dig s[K + 1].toNat = false) /\ s.extract 1 (K + 1) = ⟨(dgL s.data.toList.tail).toArray⟩ := ⟨_, rfl, dg_facts hp⟩
 have hsz : (s.extract 1 (K + 1)).size <= 2000000 := by
  rw [<- size_list, k4];show (dgL s.data.toList.tail).length <= 2000000;omega
 have HNP := hid (fun W => rnum_any (s.extract 1 (K + 1)) W hsz);rw [show (s.extract 1 (K + 1)).data.toList = dgL s.data.toList.tail by rw [k4]] at HNP;unfold NmR at HNP;have HK2 := hid k2;have HK3 := hid k3;obtain ⟨num, hnum⟩ : ∃ n, (numS (dgL s.data.toList.tail)).1 = n := ⟨_, rfl⟩;obtain ⟨er, her⟩ : ∃ n, (numS (dgL s.data.toList.tail)).2 = n := ⟨_, rfl⟩;rw [hnum, her] at HNP;rw [hnum, her, hK] at HE;have HRS := hid (ext_arr s (K + 2));have hk10 : (1 : Int) <= (K : Int) + 1 := by omega
 have hk11 : (0 : Int) <= (K : Int) + 1 := by omega
 have hk12 : (K : Int) + 1 <= (s.size : Int) := by omega
 have hk13 : ((K : Int) + 1).toNat = K + 1 := by omega
 have HB0 := hid ((Below.refl w.heap.size w).alloc (Nat.le_refl _) (.cells #[.int .i64 0, .int .i64 0, .string ⟨#[]⟩] 58));clear hsz k2 k3 k4 hnum her hK h91
 by_cases hone : 1 < s.size
 . have h1 := h34 hone
   have e2 : (((s[1].toNat : Nat) : Int) == 34) = false := by simp; omega
   have hp1 : (1 : Int) < (s.size : Int) := by omega
   clear h34 h1;go_enter Tryz.func73, Tryz.ntmps73;go_wp2
   go_loop [9] (fun i => ∃ k : Nat, 1 <= k /\ k <= K + 1 /\ i = .int .i64 k) (fun i => s.size - (RowKit.intOf i).toNat)
   case atStart => exact ⟨1, by omega, by omega, rfl⟩
   case round =>
    obtain ⟨k, hk1, hk, rfl⟩ := hrel
    by_cases hlt0 : k < K + 1
    . have hks : k < s.size := by omega
      have hd := (dig_iff s[k].toNat).1 (HK2.out k hks hk1 hlt0);have hd1 : (48 : Int) <= (s[k].toNat : Int) := by omega
      have hd2 : (s[k].toNat : Int) <= 57 := by omega
      have hki : (k : Int) < (s.size : Int) := by omega
      clear hd;go_wp2
      go_round
      case rel => exact ⟨k + 1, by omega, by omega, by go_num⟩
      case measure => simp [RowKit.intOf]; omega
    . obtain rfl : k = K + 1 := by omega
      by_cases hlt : K + 1 < s.size
      . have hd := HK3.out hlt
        have hki : ((K + 1 : Nat) : Int) < (s.size : Int) := by omega
        by_cases hlow : s[K + 1].toNat < 48
        . have hd1 : ¬ (48 : Int) <= (s[K + 1].toNat : Int) := by omega
          have hc : s[K + 1].toNat ≠ 93 := by omega
          clear hd
          by_cases he : er = 0
          . have ee : (er != 0) = false := by simp [he]
            have hc2 : (((s[K + 1].toNat : Nat) : Int) != 93) = true := by simp; omega
            have hge : decide (((s.size : Nat) : Int) <= (K : Int) + 1) = false := by simp; omega
            have HR := hid (show keyR s.data.toList = ((0, 0, []), [], false) by rw [HE.out, if_pos (Or.inr (by rw [getD_at s hlt]; exact hc))]);clear HE HK2 HK3 HRS hc he;go_wp2_with (go_at_call 102; refine (HNP.out _).mono ?_; rintro e w1 ⟨rfl, rfl⟩)
            exact bodyPost_ret (v := .tuple #[kV (0, 0, []), .string ⟨#[]⟩, .bool false]) (by simp [results, Tryz.results73, go_sem, kV]) rfl ⟨by rw [HR.out]; rfl, HB0.out⟩
          . have ee : (er != 0) = true := by simp [he]
            have HR := hid (show keyR s.data.toList = ((0, 0, []), [], false) by rw [HE.out, if_pos (Or.inl he)]);clear HE HK2 HK3 HRS hc he;go_wp2_with (go_at_call 102; refine (HNP.out _).mono ?_; rintro e w1 ⟨rfl, rfl⟩)
            exact bodyPost_ret (v := .tuple #[kV (0, 0, []), .string ⟨#[]⟩, .bool false]) (by simp [results, Tryz.results73, go_sem, kV]) rfl ⟨by rw [HR.out]; rfl, HB0.out⟩
        . have hd1 : (48 : Int) <= (s[K + 1].toNat : Int) := by omega
          have hd2 : ¬ (s[K + 1].toNat : Int) <= 57 := fun h => by
           have : dig s[K + 1].toNat = true := (dig_iff _).2 (by omega);rw [hd] at this; cases this
          clear hd
          by_cases he : er = 0
          . by_cases hc : s[K + 1].toNat = 93
            . have hge : decide (((s.size : Nat) : Int) <= (K : Int) + 1) = false := by simp; omega
              have ee : (er != 0) = false := by simp [he]
              have hc2 : (((s[K + 1].toNat : Nat) : Int) != 93) = false := by rw [hc]; rfl
              have HR := hid (show keyR s.data.toList = ((1, num, []), s.data.toList.drop (K + 2), true) by rw [HE.out, if_neg (by rw [getD_at s hlt]; exact fun h => h.elim (fun h => h he) (fun h => h hc))]);have hr0 : (0 : Int) <= (K : Int) + 1 + 1 := by omega
              have hr1 : (K : Int) + 1 + 1 <= (s.size : Int) := by omega
              have hr2 : ((K : Int) + 1 + 1).toNat = K + 2 := by omega
              clear HE HK2 HK3 hc he;go_wp2_with (go_at_call 102; refine (HNP.out _).mono ?_; rintro e w1 ⟨rfl, rfl⟩)
              go_region
              all_goals
               go_wp2
               exact bodyPost_ret (v := .tuple #[kV (1, num, []), .string (s.extract (K + 2) s.size), .bool true]) (by simp [results, Tryz.results73, go_sem, kV]) rfl ⟨by rw [HR.out, HRS.out]; rfl, by first | exact (Below.refl _ _).alloc (Nat.le_refl _) _ | exact ((Below.refl _ _).alloc (Nat.le_refl _) _).drew⟩
            . have ee : (er != 0) = false := by simp [he]
              have hc2 : (((s[K + 1].toNat : Nat) : Int) != 93) = true := by simp; omega
              have hge : decide (((s.size : Nat) : Int) <= (K : Int) + 1) = false := by simp; omega
              have HR := hid (show keyR s.data.toList = ((0, 0, []), [], false) by rw [HE.out, if_pos (Or.inr (by rw [getD_at s hlt]; exact hc))]);clear HE HK2 HK3 HRS hc he;go_wp2_with (go_at_call 102; refine (HNP.out _).mono ?_; rintro e w1 ⟨rfl, rfl⟩)
              exact bodyPost_ret (v := .tuple #[kV (0, 0, []), .string ⟨#[]⟩, .bool false]) (by simp [results, Tryz.results73, go_sem, kV]) rfl ⟨by rw [HR.out]; rfl, HB0.out⟩
          . have ee : (er != 0) = true := by simp [he]
            have HR := hid (show keyR s.data.toList = ((0, 0, []), [], false) by rw [HE.out, if_pos (Or.inl he)]);clear HE HK2 HK3 HRS he;go_wp2_with (go_at_call 102; refine (HNP.out _).mono ?_; rintro e w1 ⟨rfl, rfl⟩)
            exact bodyPost_ret (v := .tuple #[kV (0, 0, []), .string ⟨#[]⟩, .bool false]) (by simp [results, Tryz.results73, go_sem, kV]) rfl ⟨by rw [HR.out]; rfl, HB0.out⟩
      . have hki : ¬ ((K + 1 : Nat) : Int) < (s.size : Int) := by omega
        by_cases he : er = 0
        . have ee : (er != 0) = false := by simp [he]
          have hge : ((s.size : Nat) : Int) <= (K : Int) + 1 := by omega
          have HR := hid (show keyR s.data.toList = ((0, 0, []), [], false) by rw [HE.out, if_pos (Or.inr (getD_end hlt))]);clear HE HK2 HK3 HRS he;go_wp2_with (go_at_call 102; refine (HNP.out _).mono ?_; rintro e w1 ⟨rfl, rfl⟩)
          exact bodyPost_ret (v := .tuple #[kV (0, 0, []), .string ⟨#[]⟩, .bool false]) (by simp [results, Tryz.results73, go_sem, kV]) rfl ⟨by rw [HR.out]; rfl, HB0.out⟩
        . have ee : (er != 0) = true := by simp [he]
          have HR := hid (show keyR s.data.toList = ((0, 0, []), [], false) by rw [HE.out, if_pos (Or.inl he)]);clear HE HK2 HK3 HRS he;go_wp2_with (go_at_call 102; refine (HNP.out _).mono ?_; rintro e w1 ⟨rfl, rfl⟩)
          exact bodyPost_ret (v := .tuple #[kV (0, 0, []), .string ⟨#[]⟩, .bool false]) (by simp [results, Tryz.results73, go_sem, kV]) rfl ⟨by rw [HR.out]; rfl, HB0.out⟩
 . have hp1 : ¬ (1 : Int) < (s.size : Int) := by omega
   have hK0 : K = 0 := by omega
   subst hK0;have hge : ((s.size : Nat) : Int) <= 1 := by omega
   rw [show s.extract 1 (0 + 1) = ByteArray.empty by simp] at HNP;have HZ1 := hid (show ¬ 0 + 1 < s.size by omega);clear h34 hone k1 hk10 hk11 hk12 hk13
   by_cases he : er = 0
   . have ee : (er != 0) = false := by simp [he]
     have HR := hid (show keyR s.data.toList = ((0, 0, []), [], false) by rw [HE.out, if_pos (Or.inr (getD_end HZ1.out))]);clear HE HK2 HK3 HRS he;go_enter Tryz.func73, Tryz.ntmps73;go_wp2
     go_loop [9] (fun i => i = .int .i64 (1 : Int)) (fun i => 0)
     case atStart => rfl
     case round =>
      subst hrel;go_wp2_with (go_at_call 102; refine (HNP.out _).mono ?_; rintro e w1 ⟨rfl, rfl⟩)
      exact bodyPost_ret (v := .tuple #[kV (0, 0, []), .string ⟨#[]⟩, .bool false]) (by simp [results, Tryz.results73, go_sem, kV]) rfl ⟨by rw [HR.out]; rfl, HB0.out⟩
   . have ee : (er != 0) = true := by simp [he]
     have HR := hid (show keyR s.data.toList = ((0, 0, []), [], false) by rw [HE.out, if_pos (Or.inl he)]);clear HE HK2 HK3 HRS he;go_enter Tryz.func73, Tryz.ntmps73;go_wp2
     go_loop [9] (fun i => i = .int .i64 (1 : Int)) (fun i => 0)
     case atStart => rfl
     case round =>
      subst hrel;go_wp2_with (go_at_call 102; refine (HNP.out _).mono ?_; rintro e w1 ⟨rfl, rfl⟩)
      exact bodyPost_ret (v := .tuple #[kV (0, 0, []), .string ⟨#[]⟩, .bool false]) (by simp [results, Tryz.results73, go_sem, kV]) rfl ⟨by rw [HR.out]; rfl, HB0.out⟩
theorem rkey_any (s : ByteArray) (w : World) (hs : s.size <= 1200001) : Calls Tryz.prog 73 #[.string s] w fun e w' => e = KyR (keyR s.data.toList) /\ Below w.heap.size w w' := by
 by_cases h0 : ∃ h : 0 < s.size, s[0].toNat = 91
 . obtain ⟨hp, h91⟩ := h0
   by_cases h1 : ∃ h : 1 < s.size, s[1].toNat = 34
   . obtain ⟨hp1, h34⟩ := h1
     exact rkey_q s w hs hp1 h91 h34
   . exact rkey_n s w (by omega) hp h91 (fun h e => h1 ⟨h, e⟩)
 . exact rkey_no s w (fun h e => h0 ⟨h, e⟩)
end Go.Proofs.YtpnogmicfomofaaGreatDoor.Adr
namespace Go.Proofs.YtpnogmicfomofaaGreatDoor.Adr
open Go.RowKit Go.Sort Go.Lib Go.Maps
open Go.Lib (hid)
def StpV (X : MS × List UInt8 × Bool) : Ending := .returned (.tuple #[stV X.1, .string ⟨X.2.1.toArray⟩, .bool X.2.2])
theorem so_end {w W : World} {r : Nat} {a b : List UInt8} {c d : Int} (h : W.heap[r]? = some (sO a c d b)) (n' : List UInt8) (k' m' : Int) (t' : List UInt8) : ∃ W', W' = ((((W.setCell ⟨r, 0, none⟩ (.string ⟨n'.toArray⟩)).setCell ⟨r, 1, none⟩ (.int .i64 k')).setCell ⟨r, 2, none⟩ (.int .i64 m')).setCell ⟨r, 3, none⟩ (.string ⟨t'.toArray⟩)) /\ W'.cell? ⟨r, 0, none⟩ = some (.string ⟨n'.toArray⟩) /\ W'.cell? ⟨r, 1, none⟩ = some (.int .i64 k') /\ W'.cell? ⟨r, 2, none⟩ = some (.int .i64 m') /\ W'.cell? ⟨r, 3, none⟩ = some (.string ⟨t'.toArray⟩) := by
 have h2 : ((((W.setCell ⟨r, 0, none⟩ (.string ⟨n'.toArray⟩)).setCell ⟨r, 1, none⟩ (.int .i64 k')).setCell ⟨r, 2, none⟩ (.int .i64 m')).setCell ⟨r, 3, none⟩ (.string ⟨t'.toArray⟩)).heap[r]? = some (sO n' k' m' t') := by
  unfold World.setCell sO at *;simp only [Array.getElem?_modify, if_true, h, Option.map_some];rfl
 obtain ⟨a, b, c, d, _⟩ := so_cells h2;exact ⟨_, rfl, a, b, c, d⟩
theorem wd_len (l : List UInt8) : (wdL l).length <= l.length /\ (wdD l).length <= l.length := by
 have h := congrArg List.length (List.takeWhile_append_dropWhile (p := fun c : UInt8 => wrd c.toNat) (l := l));rw [List.length_append] at h;unfold wdL wdD;omega
set_option maxRecDepth 100000 in
set_option maxHeartbeats 8000000 in
theorem rstep_any (s : ByteArray) (w : World) (hs : s.size <= 1200001) (h7 : 7 <= s.size) : Calls Tryz.prog 69 #[.string s] w fun e w' => e = StpV (stR (s.data.toList.drop 7)) /\ Below w.heap.size w w' := by
 have hz : (s.extract 7 s.size).size <= 2000000 := by rw [ext_size s 7 h7]; omega
 have HWD := hid (fun W => rword_any (s.extract 7 s.size) W hz);unfold WdR at HWD;rw [extract_list s 7] at HWD;have hl : (s.data.toList.drop 7).length <= 1200001 := by rw [List.length_drop, size_list]; omega
 obtain ⟨hw1, hw2⟩ := wd_len (s.data.toList.drop 7);have HKY : Hid (∀ W : World, Calls Tryz.prog 73 #[.string ⟨(wdD (s.data.toList.drop 7)).toArray⟩] W fun e w' => e = KyR (keyR (wdD (s.data.toList.drop 7))) /\ Below W.heap.size W w') := hid (fun W => rkey_any ⟨(wdD (s.data.toList.drop 7)).toArray⟩ W (by rw [<- size_list]; show (wdD (s.data.toList.drop 7)).length <= 1200001; omega));have HID : Hid (∀ W : World, Calls Tryz.prog 71 #[.string ⟨(wdL (s.data.toList.drop 7)).toArray⟩] W fun e w' => e = .returned (.bool (idB (wdL (s.data.toList.drop 7)))) /\ W = w') := hid (fun W => rident_any ⟨(wdL (s.data.toList.drop 7)).toArray⟩ W (by rw [<- size_list]; show (wdL (s.data.toList.drop 7)).length <= 2000000; omega));have h70 : (7 : Int) <= (s.size : Int) := by omega
 clear hz hl hw1 hw2;unfold StpV stR;generalize hX : keyR (wdD (s.data.toList.drop 7)) = X at *;generalize wdL (s.data.toList.drop 7) = nm at *;generalize wdD (s.data.toList.drop 7) = rs at *;generalize hib : idB nm = ib at *;clear hX hib;obtain ⟨⟨kk, kn, kt⟩, rest, ok⟩ := X;unfold KyR kV at HKY;simp only at HKY ⊢;have HO0 := hid (ko_new w (sO [] 0 0 []));unfold sO at HO0;go_enter Tryz.func69, Tryz.ntmps69
 go_wp2_with (first
  | (go_at_call 70; refine (HWD.out _).mono ?_; rintro e w1 ⟨rfl, hb1⟩; have HB1 := hid hb1; clear hb1)
  | (go_at_call 73; refine (HKY.out _).mono ?_; rintro e w2 ⟨rfl, hb2⟩; have HB2 := hid (HB1.out.trans (hb2.mono HB1.out.size)); clear hb2))
 have HA2 := hid (show Below w2.heap.size w2 (w2.alloc (.cells #[.int .i64 kk, .int .i64 kn, .string ⟨kt.toArray⟩] 58)) from (Below.refl _ _).alloc (Nat.le_refl _) _);have HB3 := hid (HB2.out.trans (HA2.out.mono HB2.out.size));have HBW := hid ((show Below w.heap.size w (w.alloc (.cells #[.string ⟨#[]⟩, .int .i64 0, .int .i64 0, .string ⟨#[]⟩] 119)) from (Below.refl _ _).alloc (Nat.le_refl _) _).trans (HB3.out.mono (by simp)));have HO3 := hid ((HB3.out.block w.heap.size (by simp)).trans HO0.out);have HK3 := hid (ko_new w2 (kO kk kn kt));unfold kO at HK3;generalize w2.heap.size = M at *;generalize w2.alloc (.cells #[.int .i64 kk, .int .i64 kn, .string ⟨kt.toArray⟩] 58) = W3 at *;obtain ⟨d0, d1, d2, _, d4⟩ := ko_cells (W := W3) (r := M) (k := kk) (n := kn) (t := kt) HK3.out;obtain ⟨f0, f1, f2, f3, f4, f5⟩ := so_cells (W := W3) (r := w.heap.size) (n := []) (k := 0) (m := 0) (t := []) HO3.out;have p0 := f4 0;have p1 := f4 1;have p2 := f4 2;have p3 := f4 3;clear f4;have HZ := hid (fun (W : World) (hW : W.heap[w.heap.size]? = some (.cells #[.string ⟨#[]⟩, .int .i64 0, .int .i64 0, .string ⟨#[]⟩] 119 (0, 0))) => so_end (w := w) (W := W) (r := w.heap.size) (a := []) (b := []) (c := 0) (d := 0) hW nm kk kn kt);cases ok with
 | false =>
   go_region
   all_goals
    go_wp2
    obtain ⟨W', hW', a0, a1, a2, a3⟩ := HZ.out W3 HO3.out;have HBE := hid (show Below w.heap.size w W' from by rw [hW']; exact ((((HBW.out).setCell (Nat.le_refl _) _).setCell (Nat.le_refl _) _).setCell (Nat.le_refl _) _).setCell (Nat.le_refl _) _);rw [<- hW'];exact bodyPost_ret (v := .tuple #[stV (nm, kk, kn, kt), .string ⟨rest.toArray⟩, .bool false]) (by simp [results, Tryz.results69, go_sem, stV, a0, a1, a2, a3]) rfl ⟨rfl, HBE.out.drew⟩
 | true =>
   go_region_with (go_at_call 71; refine (HID.out _).mono ?_; rintro e w5 ⟨rfl, rfl⟩)
   all_goals
    go_wp2
    obtain ⟨W', hW', a0, a1, a2, a3⟩ := HZ.out W3 HO3.out;have HBE := hid (show Below w.heap.size w W' from by rw [hW']; exact ((((HBW.out).setCell (Nat.le_refl _) _).setCell (Nat.le_refl _) _).setCell (Nat.le_refl _) _).setCell (Nat.le_refl _) _);rw [<- hW'];exact bodyPost_ret (v := .tuple #[stV (nm, kk, kn, kt), .string ⟨rest.toArray⟩, .bool ib]) (by simp [results, Tryz.results69, go_sem, stV, a0, a1, a2, a3]) rfl ⟨by simp, HBE.out.drew⟩
end Go.Proofs.YtpnogmicfomofaaGreatDoor.Adr
