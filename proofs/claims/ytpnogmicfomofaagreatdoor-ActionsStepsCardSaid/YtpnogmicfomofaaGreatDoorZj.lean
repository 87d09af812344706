import Derived.Test.YtpnogmicfomofaaGreatDoorZi
import Derived.Lib.SmallJoins
import Derived.WalkLawsBesides
/-
  String literals: the reference's One, Unquote. Conditions: those ahead of each theorem.
-/
namespace Go.Proofs.YtpnogmicfomofaaGreatDoor.Adr
open Go.RowKit Go.Sort Go.Lib Go.Maps
open Go.Lib (hid)
set_option linter.unusedVariables false
set_option linter.unusedSimpArgs false

theorem oneS_at (s : ByteArray) (i : Nat) (hi : i < s.size) : oneS (s.data.toList.drop i) = if s[i].toNat = 92 then escO (escS (s.data.toList.drop (i + 1)))
    else if decR (s.data.toList.drop i) = 0 ∨ s[i].toNat < 32 ∨ s[i].toNat = 127 then (2, [], 0) else (0, (s.data.toList.drop i).take (decR (s.data.toList.drop i)), decR (s.data.toList.drop i)) := by
  unfold oneS escO
  rw [getD_drop0 s i hi, show (s.data.toList.drop i).tail = s.data.toList.drop (i + 1) by rw [List.tail_drop]]
theorem ext_mid (s : ByteArray) (i n : Nat) : s.extract i (i + n) = ⟨((s.data.toList.drop i).take n).toArray⟩ := by
  apply ba_ext
  rw [Lib.extract_data, Nat.add_sub_cancel_left]

set_option maxHeartbeats 8000000 in
set_option maxRecDepth 100000 in
theorem rone_any (s : ByteArray) (i : Nat) (w : World) (hi : i < s.size) (hs : s.size ≤ 100000) : Calls Tryz.prog 134 #[.string s, .int .i64 i] w fun e w' => e = OneR i (oneS (s.data.toList.drop i)) ∧ Below w.heap.size w w' := by
  have HO := hid (oneS_at s i hi)
  have hc := lt256 s[i]
  by_cases h92 : s[i].toNat = 92
  · have e92 : ((s[i].toNat : Int) == 92) = true := by simp; omega
    have HR := hid (HO.out.trans (if_pos h92))
    have HE := hid (rescd_any s i w hi (by omega))
    generalize escO (escS (s.data.toList.drop (i + 1))) = y at *
    obtain ⟨y1, y2, y3⟩ := y
    clear HO h92
    unfold OneR at HE
    simp only at HE
    generalize hN : ((if y1 = 0 then i + y3 else 0 : Nat)) = N at *
    have HNn := hid hN
    clear hN
    go_enter Tryz.func134, Tryz.ntmps134
    go_wp2_with (go_at_call 165; refine HE.out.mono ?_; rintro e w1 ⟨rfl, hb⟩; have HB := hid hb; clear hb)
    go_ret3
    exact ⟨by rw [HR.out, ← HNn.out]; rfl, HB.out⟩
  · have e92 : ((s[i].toNat : Int) == 92) = false := by simp; omega
    have HD := hid (rdecode_any s i w hi hs)
    unfold DecP at HD
    have hX := HO.out.trans (if_neg h92)
    have hle := decR_le (s.data.toList.drop i)
    rw [List.length_drop, size_list] at hle
    have hne : s.data.toList.drop i ≠ [] := by rw [drop_cons s i hi]; simp
    have hdl : decR (s.data.toList.drop i) ≤ s.size - i := by
      rcases hle.2 with h | h | h
      · omega
      · exact absurd h hne
      · exact h
    have HM := hid (ext_mid s i (decR (s.data.toList.drop i)))
    by_cases hbad : decR (s.data.toList.drop i) = 0 ∨ s[i].toNat < 32 ∨ s[i].toNat = 127
    · have HR := hid (hX.trans (if_pos hbad))
      clear HO hX hle hne HM
      generalize decR (s.data.toList.drop i) = D at *
      by_cases c1 : D = 0
      · have f1 : ((D : Int) == 0) = true := by simp; omega
        clear hbad c1 h92
        go_enter Tryz.func134, Tryz.ntmps134
        go_wp2_with (go_at_call 166; refine HD.out.mono ?_; rintro e w1 ⟨rr, rfl, hb⟩; have HB := hid hb; clear hb)
        go_ret3
        exact ⟨by rw [HR.out]; rfl, HB.out⟩
      · have f1 : ((D : Int) == 0) = false := by simp; omega
        by_cases c3 : (s[i].toNat : Int) < 32
        · clear hbad c1 h92
          go_enter Tryz.func134, Tryz.ntmps134
          go_wp2_with (go_at_call 166; refine HD.out.mono ?_; rintro e w1 ⟨rr, rfl, hb⟩; have HB := hid hb; clear hb)
          go_ret3
          exact ⟨by rw [HR.out]; rfl, HB.out⟩
        · have f4 : ((s[i].toNat : Int) == 127) = true := by simp; omega
          clear hbad c1 h92
          go_enter Tryz.func134, Tryz.ntmps134
          go_wp2_with (go_at_call 166; refine HD.out.mono ?_; rintro e w1 ⟨rr, rfl, hb⟩; have HB := hid hb; clear hb)
          go_ret3
          exact ⟨by rw [HR.out]; rfl, HB.out⟩
    · have HR := hid (hX.trans (if_neg hbad))
      have f1 : ((decR (s.data.toList.drop i) : Int) == 0) = false := by simp; omega
      have f3 : ¬ (s[i].toNat : Int) < 32 := by omega
      have f4 : ((s[i].toNat : Int) == 127) = false := by simp; omega
      have f5 : (i : Int) + (decR (s.data.toList.drop i) : Int) ≤ (s.size : Int) := by omega
      have f6 : i + decR (s.data.toList.drop i) ≤ s.size := by omega
      clear HO hX hle hne hbad h92
      generalize (s.data.toList.drop i).take (decR (s.data.toList.drop i)) = T at *
      generalize decR (s.data.toList.drop i) = D at *
      have hm := HM.out
      go_enter Tryz.func134, Tryz.ntmps134
      go_wp2_with (go_at_call 166; refine HD.out.mono ?_; rintro e w1 ⟨rr, rfl, hb⟩; have HB := hid hb; clear hb)
      go_ret3
      refine ⟨?_, HB.out⟩
      rw [HR.out, show OneR i (0, T, D) = .returned (.tuple #[.string (s.extract i (i + D)), .int .i64 ((i : Int) + (D : Int)), .int .i64 0]) from by rw [HM.out]; rfl]
      rfl

set_option maxHeartbeats 8000000 in
set_option maxRecDepth 100000 in
theorem runq_any (s : ByteArray) (w : World) (hs : s.size ≤ 100000) : Calls Tryz.prog 99 #[.string s] w fun e w' => e = UqR (unqS s.data.toList) ∧ Below w.heap.size w w' := by
  have HB := hid (Below.refl w.heap.size w)
  by_cases h0 : s.size = 0
  · have HR := hid (show unqS s.data.toList = (40, [], 0) by unfold unqS; rw [size_list, if_pos h0])
    have e0 : ((s.size : Int) == 0) = true := by rw [beq_iff_eq]; omega
    clear h0
    go_enter Tryz.func99, Tryz.ntmps99
    go_wp2
    go_ret3
    exact ⟨by rw [HR.out]; rfl, HB.out⟩
  have e0 : ((s.size : Int) == 0) = false := by rw [beq_eq_false_iff_ne]; omega
  have hpos : 0 < s.size := by omega
  by_cases hq : s[0].toNat = 34
  case neg =>
    have HR := hid (show unqS s.data.toList = (2, [], 0) by unfold unqS; rw [size_list, if_neg h0, getD_at s hpos, if_pos hq])
    have e1 : ((s[0].toNat : Int) != 34) = true := by simp; omega
    clear h0 hq
    go_enter Tryz.func99, Tryz.ntmps99
    go_wp2
    go_ret3
    exact ⟨by rw [HR.out]; rfl, HB.out⟩
  have HU := hid (unqS_in hpos hq)
  have e1 : ((s[0].toNat : Int) != 34) = false := by simp; omega
  clear h0 hq
  go_enter Tryz.func99, Tryz.ntmps99
  go_wp2
  generalize hX : unqL (s.data.toList.drop 1) [] = X at *
  have HX := hid hX
  clear hX
  go_loopg [5, 6] s.size (fun gg s5 s6 wr => ∃ (k : Nat) (acc : List UInt8), 1 ≤ k ∧ k ≤ s.size ∧ s.size - k ≤ gg ∧ s6 = .int .i64 k ∧ s5 = .string ⟨acc.toArray⟩ ∧ Hid (Below w.heap.size w wr) ∧ Hid (unqL (s.data.toList.drop k) acc = X) ∧ Hid (acc.length ≤ 4 * k))
  case atStart => exact ⟨1, [], by omega, by omega, by omega, rfl, rfl, HB, HX, hid (by simp)⟩
  case round =>
    clear HB HX
    obtain ⟨k, acc, hk1, hk, hgk, rfl, rfl, HW, HQ, HA⟩ := hrel
    by_cases hlt : k < s.size
    case neg =>
      have hke : (s.data.toList.drop k) = [] := List.drop_eq_nil_of_le (by rw [size_list]; omega)
      have HR := hid (show unqS s.data.toList = (40, [], 0) by
        rw [HU.out]
        have h := HQ.out
        rw [hke, unqL_nil] at h
        rw [← h]; rfl)
      clear hke HU HQ
      go_wp2
      go_ret3
      exact ⟨by rw [HR.out]; rfl, HW.out⟩
    have hltz : (k : Int) < (s.size : Int) := by omega
    have HDC := hid (drop_cons s k hlt)
    by_cases h34 : s[k].toNat = 34
    · have e34 : ((s[k].toNat : Int) == 34) = true := by simp; omega
      have HQ2 := hid (show X = if 4096 < acc.length then (3, [], []) else (0, acc, s.data.toList.drop (k + 1)) by rw [← HQ.out, HDC.out, unqL_quote _ _ _ h34])
      have hsa := ba_size acc
      clear h34
      by_cases hlong : 4096 < acc.length
      · have HR := hid (show unqS s.data.toList = (3, [], 0) by
          rw [HU.out, HQ2.out, if_pos hlong]; rfl)
        have hlz : (4096 : Int) < (acc.length : Int) := by omega
        clear HU HQ HQ2 hlong hsa
        go_wp2
        go_ret3
        exact ⟨by rw [HR.out]; rfl, HW.out⟩
      · have HR := hid (show unqS s.data.toList = (0, acc, k + 1) by
          rw [HU.out, HQ2.out, if_neg hlong, if_neg (by simp)]
          show (0, acc, s.size - (s.data.toList.drop (k + 1)).length) = _
          rw [List.length_drop, size_list, show s.size - (s.size - (k + 1)) = k + 1 by omega])
        have hlz : ¬ (4096 : Int) < (acc.length : Int) := by omega
        clear HU HQ HQ2 hlong hsa
        go_wp2
        go_ret3
        exact ⟨by rw [HR.out]; rfl, HW.out⟩
    · have e34 : ((s[k].toNat : Int) == 34) = false := by simp; omega
      have HO := hid (rone_any s k wr hlt hs)
      have HOK := hid (fun (h : (oneS (s.data.toList.drop k)).1 = 0) => show 1 ≤ (oneS (s.data.toList.drop k)).2.2 ∧ k + (oneS (s.data.toList.drop k)).2.2 ≤ s.size ∧ (oneS (s.data.toList.drop k)).2.1.length ≤ 4 from by
        rw [oneS_at s k hlt] at h ⊢
        by_cases h92 : s[k].toNat = 92
        · rw [if_pos h92] at h ⊢
          unfold escO at h ⊢
          by_cases hx : (escS (s.data.toList.drop (k + 1))).1 = 0
          · rw [if_neg (by rw [hx]; simp)]
            obtain ⟨o1, o2, o3⟩ := escS_ok hx
            rw [List.length_drop, size_list] at o3
            exact ⟨by show 1 ≤ _ + 1; omega, by show k + (_ + 1) ≤ _; omega, (enc_len _).1⟩
          · rw [if_pos hx] at h; exact absurd h hx
        · rw [if_neg h92] at h ⊢
          by_cases hbad : decR (s.data.toList.drop k) = 0 ∨ s[k].toNat < 32 ∨ s[k].toNat = 127
          · rw [if_pos hbad] at h; cases h
          · rw [if_neg hbad]
            have hne : s.data.toList.drop k ≠ [] := by rw [HDC.out]; simp
            have hd := dec_facts hne
            rw [getD_drop0 s k hlt] at hd
            obtain ⟨g1, g2, g3, g4⟩ := hd.2.2.2.2 hbad
            rw [List.length_drop, size_list] at g4
            refine ⟨g3, by show k + decR _ ≤ _; omega, ?_⟩
            show (List.take _ _).length ≤ 4
            rw [← g2]; exact (enc_len _).1)
      have HBAD := hid (fun (h : (oneS (s.data.toList.drop k)).1 ≠ 0) => show X = ((oneS (s.data.toList.drop k)).1, [], []) by
        rw [← HQ.out]
        rw [HDC.out] at h ⊢
        exact unqL_bad _ _ _ h34 h)
      have HONE := hid (fun (h : (oneS (s.data.toList.drop k)).1 = 0) (h1 : 1 ≤ (oneS (s.data.toList.drop k)).2.2) => show unqL (s.data.toList.drop (k + (oneS (s.data.toList.drop k)).2.2)) (acc ++ (oneS (s.data.toList.drop k)).2.1) = X by
        have := unqL_one s[k] (s.data.toList.drop (k + 1)) acc h34 (by rw [← HDC.out]; exact h) (by rw [← HDC.out]; exact h1)
        rw [← HDC.out, HQ.out, List.drop_drop] at this
        exact this.symm)
      clear h34 HQ HDC
      generalize oneS (s.data.toList.drop k) = y at *
      obtain ⟨y1, y2, y3⟩ := y
      unfold OneR at HO
      simp only at HO HOK HBAD HONE
      by_cases hy : y1 = 0
      · subst hy
        obtain ⟨p1, p2, p3⟩ := HOK.out rfl
        have HX1 := hid (HONE.out rfl p1)
        simp only [if_true] at HO
        have hcat := fun W => cat_run W acc y2 (by have := HA.out; omega)
        have HP3 := hid p3
        clear HONE HBAD HOK HU p3
        go_wp2_with (go_at_call 134; refine HO.out.mono ?_; rintro e w2 ⟨rfl, hb⟩; have HW2 := hid (HW.out.trans (hb.mono HW.out.size)); clear hb)
        go_roundg (s.size - (k + y3))
        case measure => omega
        case rel => exact ⟨k + y3, acc ++ y2, by omega, by omega, by omega, by go_num, rfl, HW2, HX1, hid (by have := HP3.out; have := HA.out; rw [List.length_append]; omega)⟩
      · have e3 : (y1 != 0) = true := by simpa using hy
        have HX1 := hid (HBAD.out hy)
        have HR := hid (show unqS s.data.toList = (y1, [], 0) by rw [HU.out, HX1.out, if_pos hy])
        rw [if_neg hy] at HO
        clear HONE HBAD HOK HU hy HX1
        go_wp2_with (go_at_call 134; refine HO.out.mono ?_; rintro e w2 ⟨rfl, hb⟩; have HW2 := hid (HW.out.trans (hb.mono HW.out.size)); clear hb)
        go_ret3
        exact ⟨by rw [HR.out]; rfl, HW2.out⟩
end Go.Proofs.YtpnogmicfomofaaGreatDoor.Adr
/-
  Numbers in decimal: canonical, digits. Conditions: those ahead of each theorem.
-/
namespace Go.Proofs.YtpnogmicfomofaaGreatDoor.Adr
open Go.RowKit Go.Sort Go.Lib Go.Maps
open Go.Lib (hid)
set_option linter.unusedVariables false
set_option linter.unusedSimpArgs false

/-- Digits without leading zeros. -/
def digB (l : List UInt8) : Bool := (l.all fun c => dig c.toNat) && (!decide (l.length = 0) && (decide ((l.getD 0 0).toNat ≠ 48) || decide (l.length = 1)))
def canS (l : List UInt8) : Bool := if (l.getD 0 0).toNat = 45 then digB l.tail && !(l.tail == [48]) else digB l
theorem digB_no {t : ByteArray} {k : Nat} (hk : k < t.size) (h : dig t[k].toNat = false) : digB t.data.toList = false := by
  unfold digB
  have : (t.data.toList.all fun c => dig c.toNat) = false := by
    rw [List.all_eq_false]
    refine ⟨t[k], ?_, by rw [h]; simp⟩
    rw [← get_list t k hk]; exact List.getElem_mem _
  rw [this]; rfl
theorem digB_all {t : ByteArray} (h : ∀ j (hj : j < t.size), dig t[j].toNat = true) : digB t.data.toList = (!decide (t.size = 0) && (decide ((t.data.toList.getD 0 0).toNat ≠ 48) || decide (t.size = 1))) := by
  unfold digB
  have : (t.data.toList.all fun c => dig c.toNat) = true := by
    rw [List.all_eq_true]
    intro c hc
    obtain ⟨j, hj, rfl⟩ := List.mem_iff_getElem.1 hc
    rw [size_list] at hj
    rw [get_list t j hj]; exact h j hj
  rw [this, size_list]; rfl
theorem dig_iff (c : Nat) : dig c = true ↔ 48 ≤ c ∧ c ≤ 57 := by simp [dig]
theorem canS_neg {s : ByteArray} (h : 0 < s.size) (h1 : s[0].toNat = 45) : canS s.data.toList = (digB (s.extract 1 s.size).data.toList && !((s.extract 1 s.size).data.toList == [48])) := by
  unfold canS
  rw [getD_at s h, if_pos h1, extract_list, List.drop_one]
theorem canS_pos {s : ByteArray} (h : ¬ (∃ h : 0 < s.size, s[0].toNat = 45)) : canS s.data.toList = digB s.data.toList := by
  unfold canS
  by_cases h0 : 0 < s.size
  · rw [getD_at s h0, if_neg (fun e => h ⟨h0, e⟩)]
  · have : s.data.toList = [] := List.eq_nil_of_length_eq_zero (by rw [size_list]; omega)
    rw [this]; rfl

theorem one_str {t : ByteArray} (h : 0 < t.size) : (t.toList == [48]) = decide (t.size = 1 ∧ t[0].toNat = 48) := by
  rw [ByteArray.toList_eq, Bool.eq_iff_iff, beq_iff_eq, decide_eq_true_eq]
  have hl := size_list t
  constructor
  · intro e
    rw [e] at hl
    refine ⟨by simpa using hl.symm, ?_⟩
    have := getD_at t h
    rw [e] at this
    rw [← this]; rfl
  · rintro ⟨h1, h2⟩
    have := getD_at t h
    cases hs : t.data.toList with
    | nil => rw [hs] at hl; simp at hl; omega
    | cons x l =>
      rw [hs] at hl this
      have h3 : l = [] := List.eq_nil_of_length_eq_zero (by simp at hl; omega)
      subst h3
      have h4 : x = t[0] := this
      have h5 : x = 48 := UInt8.toNat_inj.1 (by rw [h4]; exact h2)
      rw [h5]
set_option maxHeartbeats 8000000 in
theorem pcan_any (s : ByteArray) (w : World) (hs : s.size ≤ 1000000) : Calls Tryz.prog 186 #[.string s] w fun e w' => e = .returned (.bool (canS s.data.toList)) ∧ w = w' := by
  by_cases hn : ∃ h : 0 < s.size, s[0].toNat = 45
  · obtain ⟨hp, h45⟩ := hn
    have HC := hid (canS_neg hp h45)
    have e45 : ((s[0].toNat : Int) == 45) = true := by simp; omega
    have hpz0 : (0 : Int) < (s.size : Int) := by omega
    have h1z : (1 : Int) ≤ (s.size : Int) := by omega
    have hsz := ext_size s 1 (by omega)
    cases h48 : ((s.extract 1 s.size).toList == [48])
    · have HD := hid (show canS s.data.toList = digB (s.extract 1 s.size).data.toList by
        rw [HC.out, ← ByteArray.toList_eq, h48]; simp)
      clear HC h45
      go_enter Tryz.func186, Tryz.ntmps186
      go_wp2
      generalize s.extract 1 s.size = t at *
      rw [← hsz]
      have hts : t.size ≤ 1000000 := by omega
      have HRES := hid (fun (h : digB t.data.toList = false ∨ False) => show canS s.data.toList = false by rw [HD.out]; rcases h with h | h; exact h; exact h.elim)
      have HALL := hid (fun h => HD.out.trans (digB_all (t := t) h))
      clear HD h48 hsz
      go_loop [18] (fun i => ∃ k : Nat, k ≤ t.size ∧ i = .int .i64 k ∧ Hid (∀ j (hj : j < t.size), j < k → dig t[j].toNat = true)) (fun i => t.size - (RowKit.intOf i).toNat)
      case atStart => exact ⟨0, by omega, rfl, hid (fun j hj h => absurd h (by omega))⟩
      case round =>
        obtain ⟨k, hk, rfl, HA⟩ := hrel
        by_cases hlt : k < t.size
        · have HNk := hid (fun h => digB_no (t := t) hlt h)
          have hc := lt256 t[k]
          by_cases h1 : (t[k].toNat : Int) < 48
          · have HR := hid (HRES.out (Or.inl (HNk.out (by unfold dig; exact decide_eq_false (by omega)))))
            clear HA HNk HRES HALL
            go_wp2
            go_ret
            exact ⟨ret_bool HR.out, rfl⟩
          by_cases h2 : (57 : Int) < (t[k].toNat : Int)
          · have HR := hid (HRES.out (Or.inl (HNk.out (by unfold dig; exact decide_eq_false (by omega)))))
            clear HA HNk HRES HALL
            go_wp2
            go_ret
            exact ⟨ret_bool HR.out, rfl⟩
          have HX := hid (show ∀ j (hj : j < t.size), j < k + 1 → dig t[j].toNat = true from fun j hj hjk => by
            by_cases e : j < k
            · exact HA.out j hj e
            · obtain rfl : j = k := by omega
              unfold dig; exact decide_eq_true (by omega))
          clear HA HNk HRES HALL
          go_wp2
          go_round
          case rel => exact ⟨k + 1, by omega, by go_num, HX⟩
          case measure => (simp [RowKit.intOf] <;> omega)
        · have hfin := HALL.out (fun j hj => HA.out j hj (by omega))
          clear HA HALL HRES
          by_cases z0 : t.size = 0
          · have e0 := str_nil z0
            have HR := hid (hfin.trans (show _ = false by rw [decide_eq_true z0]; rfl))
            clear hfin z0
            go_wp2
            go_ret
            exact ⟨ret_bool HR.out, rfl⟩
          have e0 := str_cons z0
          have hpz : 0 < t.size := by omega
          rw [getD_at t hpz, decide_eq_false z0] at hfin
          by_cases z1 : t[0].toNat = 48
          · have e1 : ((t[0].toNat : Int) != 48) = false := by simp; omega
            by_cases z2 : t.size = 1
            · have HR := hid (hfin.trans (show _ = true by rw [decide_eq_true z2]; simp))
              have e2 : ((t.size : Int) == 1) = true := by simp; omega
              clear hfin z1 z2 z0
              go_wp2
              go_ret
              exact ⟨ret_bool HR.out, rfl⟩
            · have HR := hid (hfin.trans (show _ = false by rw [decide_eq_false z2, decide_eq_false (by simpa using z1)]; rfl))
              have e2 : ((t.size : Int) == 1) = false := by simp; omega
              clear hfin z1 z2 z0
              go_wp2
              go_ret
              exact ⟨ret_bool HR.out, rfl⟩
          · have e1 : ((t[0].toNat : Int) != 48) = true := by simp; omega
            have HR := hid (hfin.trans (show _ = true by rw [decide_eq_true (by simpa using z1)]; simp))
            clear hfin z1 z0
            go_wp2
            go_ret
            exact ⟨ret_bool HR.out, rfl⟩
    · have HD := hid (show canS s.data.toList = false by rw [HC.out, ← ByteArray.toList_eq, h48]; simp)
      clear HC h45
      go_enter Tryz.func186, Tryz.ntmps186
      go_wp2
      go_ret
      exact ⟨ret_bool HD.out, rfl⟩
  · have HC := hid (canS_pos hn)
    have HRES := hid (fun (h : digB s.data.toList = false ∨ False) => show canS s.data.toList = false by rw [HC.out]; rcases h with h | h; exact h; exact h.elim)
    have HALL := hid (fun h => HC.out.trans (digB_all (t := s) h))
    by_cases h0 : 0 < s.size
    · have e45 : ((s[0].toNat : Int) == 45) = false := by
        have : s[0].toNat ≠ 45 := fun e => hn ⟨h0, e⟩
        simp; omega
      have hpz0 : (0 : Int) < (s.size : Int) := by omega
      clear HC hn
      go_enter Tryz.func186, Tryz.ntmps186
      go_wp2
      go_loop [18] (fun i => ∃ k : Nat, k ≤ s.size ∧ i = .int .i64 k ∧ Hid (∀ j (hj : j < s.size), j < k → dig s[j].toNat = true)) (fun i => s.size - (RowKit.intOf i).toNat)
      case atStart => exact ⟨0, by omega, rfl, hid (fun j hj h => absurd h (by omega))⟩
      case round =>
        obtain ⟨k, hk, rfl, HA⟩ := hrel
        by_cases hlt : k < s.size
        · have HNk := hid (fun h => digB_no (t := s) hlt h)
          have hc := lt256 s[k]
          by_cases h1 : (s[k].toNat : Int) < 48
          · have HR := hid (HRES.out (Or.inl (HNk.out (by unfold dig; exact decide_eq_false (by omega)))))
            clear HA HNk HRES HALL
            go_wp2
            go_ret
            exact ⟨ret_bool HR.out, rfl⟩
          by_cases h2 : (57 : Int) < (s[k].toNat : Int)
          · have HR := hid (HRES.out (Or.inl (HNk.out (by unfold dig; exact decide_eq_false (by omega)))))
            clear HA HNk HRES HALL
            go_wp2
            go_ret
            exact ⟨ret_bool HR.out, rfl⟩
          have HX := hid (show ∀ j (hj : j < s.size), j < k + 1 → dig s[j].toNat = true from fun j hj hjk => by
            by_cases e : j < k
            · exact HA.out j hj e
            · obtain rfl : j = k := by omega
              unfold dig; exact decide_eq_true (by omega))
          clear HA HNk HRES HALL
          go_wp2
          go_round
          case rel => exact ⟨k + 1, by omega, by go_num, HX⟩
          case measure => (simp [RowKit.intOf] <;> omega)
        · have hfin := HALL.out (fun j hj => HA.out j hj (by omega))
          clear HA HALL HRES
          by_cases z0 : s.size = 0
          · have e0 := str_nil z0
            have HR := hid (hfin.trans (show _ = false by rw [decide_eq_true z0]; rfl))
            clear hfin z0
            go_wp2
            go_ret
            exact ⟨ret_bool HR.out, rfl⟩
          have e0 := str_cons z0
          have hpz : 0 < s.size := by omega
          rw [getD_at s hpz, decide_eq_false z0] at hfin
          by_cases z1 : s[0].toNat = 48
          · have e1 : ((s[0].toNat : Int) != 48) = false := by simp; omega
            by_cases z2 : s.size = 1
            · have HR := hid (hfin.trans (show _ = true by rw [decide_eq_true z2]; simp))
              have e2 : ((s.size : Int) == 1) = true := by simp; omega
              clear hfin z1 z2 z0
              go_wp2
              go_ret
              exact ⟨ret_bool HR.out, rfl⟩
            · have HR := hid (hfin.trans (show _ = false by rw [decide_eq_false z2, decide_eq_false (by simpa using z1)]; rfl))
              have e2 : ((s.size : Int) == 1) = false := by simp; omega
              clear hfin z1 z2 z0
              go_wp2
              go_ret
              exact ⟨ret_bool HR.out, rfl⟩
          · have e1 : ((s[0].toNat : Int) != 48) = true := by simp; omega
            have HR := hid (hfin.trans (show _ = true by rw [decide_eq_true (by simpa using z1)]; simp))
            clear hfin z1 z0
            go_wp2
            go_ret
            exact ⟨ret_bool HR.out, rfl⟩
    · have hpz0 : ¬ (0 : Int) < (s.size : Int) := by omega
      clear HC hn
      go_enter Tryz.func186, Tryz.ntmps186
      go_wp2
      go_loop [18] (fun i => ∃ k : Nat, k ≤ s.size ∧ i = .int .i64 k ∧ Hid (∀ j (hj : j < s.size), j < k → dig s[j].toNat = true)) (fun i => s.size - (RowKit.intOf i).toNat)
      case atStart => exact ⟨0, by omega, rfl, hid (fun j hj h => absurd h (by omega))⟩
      case round =>
        obtain ⟨k, hk, rfl, HA⟩ := hrel
        by_cases hlt : k < s.size
        · have HNk := hid (fun h => digB_no (t := s) hlt h)
          have hc := lt256 s[k]
          by_cases h1 : (s[k].toNat : Int) < 48
          · have HR := hid (HRES.out (Or.inl (HNk.out (by unfold dig; exact decide_eq_false (by omega)))))
            clear HA HNk HRES HALL
            go_wp2
            go_ret
            exact ⟨ret_bool HR.out, rfl⟩
          by_cases h2 : (57 : Int) < (s[k].toNat : Int)
          · have HR := hid (HRES.out (Or.inl (HNk.out (by unfold dig; exact decide_eq_false (by omega)))))
            clear HA HNk HRES HALL
            go_wp2
            go_ret
            exact ⟨ret_bool HR.out, rfl⟩
          have HX := hid (show ∀ j (hj : j < s.size), j < k + 1 → dig s[j].toNat = true from fun j hj hjk => by
            by_cases e : j < k
            · exact HA.out j hj e
            · obtain rfl : j = k := by omega
              unfold dig; exact decide_eq_true (by omega))
          clear HA HNk HRES HALL
          go_wp2
          go_round
          case rel => exact ⟨k + 1, by omega, by go_num, HX⟩
          case measure => (simp [RowKit.intOf] <;> omega)
        · have hfin := HALL.out (fun j hj => HA.out j hj (by omega))
          clear HA HALL HRES
          have z0 : s.size = 0 := by omega
          have e0 := str_nil z0
          have HR := hid (hfin.trans (show _ = false by rw [decide_eq_true z0]; rfl))
          clear hfin z0
          go_wp2
          go_ret
          exact ⟨ret_bool HR.out, rfl⟩

set_option maxHeartbeats 8000000 in
theorem rdigs_any (s : ByteArray) (w : World) (hs : s.size ≤ 1000000) : Calls Tryz.prog 137 #[.string s] w fun e w' => e = .returned (.bool (digB s.data.toList)) ∧ w = w' := by
  have HRES := hid (fun (h : digB s.data.toList = false ∨ False) => show digB s.data.toList = false by rcases h with h | h; exact h; exact h.elim)
  have HALL := hid (fun h => digB_all (t := s) h)
  go_enter Tryz.func137, Tryz.ntmps137
  go_wp2
  go_loop [3] (fun i => ∃ k : Nat, k ≤ s.size ∧ i = .int .i64 k ∧ Hid (∀ j (hj : j < s.size), j < k → dig s[j].toNat = true)) (fun i => s.size - (RowKit.intOf i).toNat)
  case atStart => exact ⟨0, by omega, rfl, hid (fun j hj h => absurd h (by omega))⟩
  case round =>
    obtain ⟨k, hk, rfl, HA⟩ := hrel
    by_cases hlt : k < s.size
    · have HNk := hid (fun h => digB_no (t := s) hlt h)
      have hc := lt256 s[k]
      by_cases h1 : (s[k].toNat : Int) < 48
      · have HR := hid (HRES.out (Or.inl (HNk.out (by unfold dig; exact decide_eq_false (by omega)))))
        clear HA HNk HRES HALL
        go_wp2
        go_ret
        exact ⟨ret_bool HR.out, rfl⟩
      by_cases h2 : (57 : Int) < (s[k].toNat : Int)
      · have HR := hid (HRES.out (Or.inl (HNk.out (by unfold dig; exact decide_eq_false (by omega)))))
        clear HA HNk HRES HALL
        go_wp2
        go_ret
        exact ⟨ret_bool HR.out, rfl⟩
      have HX := hid (show ∀ j (hj : j < s.size), j < k + 1 → dig s[j].toNat = true from fun j hj hjk => by
        by_cases e : j < k
        · exact HA.out j hj e
        · obtain rfl : j = k := by omega
          unfold dig; exact decide_eq_true (by omega))
      clear HA HNk HRES HALL
      go_wp2
      go_round
      case rel => exact ⟨k + 1, by omega, by go_num, HX⟩
      case measure => (simp [RowKit.intOf] <;> omega)
    · have hfin := HALL.out (fun j hj => HA.out j hj (by omega))
      clear HA HALL HRES
      by_cases z0 : s.size = 0
      · have e0 := str_nil z0
        have e48 : (s.toList == [48]) = false := by rw [ByteArray.toList_eq, show s.data.toList = [] from List.eq_nil_of_length_eq_zero (by rw [size_list]; exact z0)]; rfl
        have HR := hid (hfin.trans (show _ = false by rw [decide_eq_true z0]; rfl))
        clear hfin z0
        go_wp2
        go_ret
        exact ⟨ret_bool HR.out, rfl⟩
      have e0 := str_cons z0
      have hpz : 0 < s.size := by omega
      rw [getD_at s hpz, decide_eq_false z0] at hfin
      have h48 := one_str hpz
      by_cases z1 : s[0].toNat = 48
      · have e1 : ((s[0].toNat : Int) != 48) = false := by simp; omega
        by_cases z2 : s.size = 1
        · have HR := hid (hfin.trans (show _ = true by rw [decide_eq_true z2]; simp))
          have e48 : (s.toList == [48]) = true := h48.trans (by rw [decide_eq_true (show _ ∧ _ from ⟨z2, z1⟩)])
          clear hfin z1 z2 z0 h48
          go_wp2
          go_ret
          exact ⟨ret_bool HR.out, rfl⟩
        · have HR := hid (hfin.trans (show _ = false by rw [decide_eq_false z2, decide_eq_false (by simpa using z1)]; rfl))
          have e48 : (s.toList == [48]) = false := h48.trans (by rw [decide_eq_false (fun h => z2 h.1)])
          clear hfin z1 z2 z0 h48
          go_wp2
          go_ret
          exact ⟨ret_bool HR.out, rfl⟩
      · have e1 : ((s[0].toNat : Int) != 48) = true := by simp; omega
        have e48 : (s.toList == [48]) = false := h48.trans (by rw [decide_eq_false (fun h => z1 h.2)])
        have HR := hid (hfin.trans (show _ = true by rw [decide_eq_true (by simpa using z1)]; simp))
        clear hfin z1 z0 h48
        go_wp2
        go_ret
        exact ⟨ret_bool HR.out, rfl⟩
end Go.Proofs.YtpnogmicfomofaaGreatDoor.Adr
/-
  Numbers in decimal: the program's number.Parse. Conditions: those ahead of each theorem.
-/
namespace Go.Proofs.YtpnogmicfomofaaGreatDoor.Adr
open Go.RowKit Go.Sort Go.Lib Go.Maps
open Go.Lib (hid)
set_option linter.unusedVariables false
set_option linter.unusedSimpArgs false

def valL (l : List UInt8) : Nat := l.foldl (fun n c => 10 * n + (c.toNat - 48)) 0
theorem fold_cons (acc : Nat) (c : UInt8) (l : List UInt8) : (c :: l).foldl (fun n c => 10 * n + (c.toNat - 48)) acc = l.foldl (fun n c => 10 * n + (c.toNat - 48)) (10 * acc + (c.toNat - 48)) := List.foldl_cons ..
theorem fold_ge : ∀ (l : List UInt8) (acc : Nat), acc ≤ l.foldl (fun n c => 10 * n + (c.toNat - 48)) acc
  | [], acc => Nat.le_refl _
  | c :: l, acc => by rw [fold_cons]; exact Nat.le_trans (by omega) (fold_ge l _)
theorem fold_pow : ∀ (l : List UInt8) (acc : Nat), acc * 10 ^ l.length ≤ l.foldl (fun n c => 10 * n + (c.toNat - 48)) acc
  | [], acc => by simp
  | c :: l, acc => by
    rw [fold_cons]
    refine Nat.le_trans ?_ (fold_pow l _)
    rw [List.length_cons, Nat.pow_succ]
    have : acc * (10 ^ l.length * 10) = (10 * acc) * 10 ^ l.length := by rw [Nat.mul_comm (10 ^ l.length) 10, ← Nat.mul_assoc, Nat.mul_comm acc 10]
    rw [this]
    exact Nat.mul_le_mul_right _ (by omega)
theorem fold_lt : ∀ (l : List UInt8) (acc : Nat), (l.all fun c => dig c.toNat) = true → l.foldl (fun n c => 10 * n + (c.toNat - 48)) acc < (acc + 1) * 10 ^ l.length
  | [], acc, _ => by simp
  | c :: l, acc, h => by
    rw [List.all_cons, Bool.and_eq_true] at h
    have hc := (dig_iff c.toNat).1 h.1
    rw [fold_cons]
    refine Nat.lt_of_lt_of_le (fold_lt l _ h.2) ?_
    rw [List.length_cons, Nat.pow_succ]
    have : (acc + 1) * (10 ^ l.length * 10) = (10 * (acc + 1)) * 10 ^ l.length := by rw [Nat.mul_comm (10 ^ l.length) 10, ← Nat.mul_assoc, Nat.mul_comm (acc + 1) 10]
    rw [this]
    exact Nat.mul_le_mul_right _ (by omega)
theorem uint_fold : ∀ (l : List UInt8) (acc : Nat), (l.all fun c => dig c.toNat) = true → acc ≤ 18446744073709551615 →
    Lib.parseUintM 18446744073709551615 acc l = if l.foldl (fun n c => 10 * n + (c.toNat - 48)) acc ≤ 18446744073709551615 then .ok (l.foldl (fun n c => 10 * n + (c.toNat - 48)) acc) else .range
  | [], acc, _, h => by rw [Lib.parseUintM]; show _ = if acc ≤ _ then _ else _; rw [if_pos h]; rfl
  | c :: l, acc, hd, h => by
    rw [List.all_cons, Bool.and_eq_true] at hd
    have hc := (dig_iff c.toNat).1 hd.1
    rw [Lib.parseUintM, if_pos hc, fold_cons]
    have hg := fold_ge l (10 * acc + (c.toNat - 48))
    by_cases h1 : 1844674407370955162 ≤ acc
    · rw [if_pos h1, if_neg (by omega)]
    · rw [if_neg h1]
      by_cases h2 : 18446744073709551615 < acc * 10 + (c.toNat - 48)
      · rw [if_pos h2, if_neg (by omega)]
      · rw [if_neg h2, uint_fold l _ hd.2 (by omega), Nat.mul_comm acc 10]
theorem digB_parts {l : List UInt8} (h : digB l = true) : (l.all fun c => dig c.toNat) = true ∧ l ≠ [] ∧ ((l.getD 0 0).toNat ≠ 48 ∨ l.length = 1) := by
  unfold digB at h
  rw [Bool.and_eq_true, Bool.and_eq_true, Bool.or_eq_true] at h
  refine ⟨h.1, fun e => ?_, h.2.2.imp of_decide_eq_true of_decide_eq_true⟩
  rw [e] at h; simp at h
theorem digB_big {l : List UInt8} (h : digB l = true) (h17 : 16 < l.length) : 10000000000000000 ≤ valL l := by
  obtain ⟨h1, h2, h3⟩ := digB_parts h
  cases l with
  | nil => exact absurd rfl h2
  | cons c l =>
    have hc : c.toNat ≠ 48 := by
      rcases h3 with h3 | h3
      · exact h3
      · simp at h3; subst h3; simp at h17
    rw [List.all_cons, Bool.and_eq_true] at h1
    have hd := (dig_iff c.toNat).1 h1.1
    unfold valL
    rw [fold_cons]
    refine Nat.le_trans ?_ (fold_pow l _)
    rw [List.length_cons] at h17
    have : 10 ^ 16 ≤ 10 ^ l.length := Nat.pow_le_pow_right (by decide) (by omega)
    have h4 : 1 * 10 ^ 16 ≤ (10 * 0 + (c.toNat - 48)) * 10 ^ l.length := Nat.mul_le_mul (by omega) this
    simpa using h4
/-- The digits, the sign, the number. -/
def tlS (l : List UInt8) : List UInt8 := if (l.getD 0 0).toNat = 45 then l.tail else l
def svS (l : List UInt8) : Int := if (l.getD 0 0).toNat = 45 then -(valL (tlS l) : Int) else valL (tlS l)
def numS (l : List UInt8) : Int × Int :=
  if canS l = false then (0, 2) else if 16 < (tlS l).length then (0, 5) else if -9007199254740992 ≤ svS l ∧ svS l ≤ 9007199254740992 then (svS l, 0) else (0, 5)
theorem canS_dig {l : List UInt8} (h : canS l = true) : digB (tlS l) = true := by
  unfold canS at h
  unfold tlS
  by_cases h1 : (l.getD 0 0).toNat = 45
  · rw [if_pos h1] at h ⊢; rw [Bool.and_eq_true] at h; exact h.1
  · rw [if_neg h1] at h ⊢; exact h
/-- What strconv.ParseInt says of it. -/
theorem num_parse {l : List UInt8} (h : canS l = true) : (∃ v : Int, Lib.parseIntB 64 l = .ok v ∧ numS l = if -9007199254740992 ≤ v ∧ v ≤ 9007199254740992 then (v, 0) else (0, 5)) ∨ (Lib.parseIntB 64 l = .range ∧ numS l = (0, 5)) := by
  have hd := canS_dig h
  obtain ⟨h1, h2, h3⟩ := digB_parts hd
  have hbig := fun h17 => digB_big hd h17
  have hU : Lib.parseUintB 64 (tlS l) = if valL (tlS l) ≤ 18446744073709551615 then .ok (valL (tlS l)) else .range := by
    unfold Lib.parseUintB
    rw [if_neg h2]
    exact uint_fold (tlS l) 0 h1 (by decide)
  have hP : Lib.parseIntB 64 l = if valL (tlS l) ≤ 18446744073709551615 then (if ¬ (l.getD 0 0).toNat = 45 ∧ 2 ^ (64 - 1) ≤ valL (tlS l) then .range else if (l.getD 0 0).toNat = 45 ∧ 2 ^ (64 - 1) < valL (tlS l) then .range else .ok (if (l.getD 0 0).toNat = 45 then -(valL (tlS l) : Int) else valL (tlS l))) else .range := by
    cases l with
    | nil => unfold tlS at h2; simp at h2
    | cons c r =>
      have hc : ((c :: r).getD 0 0).toNat = c.toNat := rfl
      rw [hc]
      by_cases h45 : c.toNat = 45
      · have ht : tlS (c :: r) = r := by unfold tlS; rw [hc, if_pos h45]; rfl
        rw [ht] at hU ⊢
        unfold Lib.parseIntB
        simp only [h45, or_true, if_true, hU]
        by_cases hV : valL r ≤ 18446744073709551615
        · simp only [if_pos hV]
        · simp only [if_neg hV]
      · have ht : tlS (c :: r) = c :: r := by unfold tlS; rw [hc, if_neg h45]
        have h43 : c.toNat ≠ 43 := by
          intro e
          have hd2 : digB (c :: r) = true := by rwa [ht] at hd
          have := (digB_parts hd2).1
          rw [List.all_cons, Bool.and_eq_true] at this
          have := (dig_iff c.toNat).1 this.1
          omega
        rw [ht] at hU ⊢
        unfold Lib.parseIntB
        simp only [h45, h43, or_self, if_false, hU]
        by_cases hV : valL (c :: r) ≤ 18446744073709551615
        · simp only [if_pos hV]
        · simp only [if_neg hV]
  have hN : numS l = if 16 < (tlS l).length then (0, 5) else if -9007199254740992 ≤ svS l ∧ svS l ≤ 9007199254740992 then (svS l, 0) else (0, 5) := by
    unfold numS; rw [h, if_neg (by simp)]
  have hS : svS l = if (l.getD 0 0).toNat = 45 then -(valL (tlS l) : Int) else valL (tlS l) := rfl
  clear hU
  generalize valL (tlS l) = V at *
  generalize (tlS l).length = K at *
  generalize svS l = S at *
  generalize numS l = N at *
  generalize (l.getD 0 0).toNat = b at *
  clear h h1 h2 h3 hd
  by_cases hV : V ≤ 18446744073709551615
  · rw [if_pos hV] at hP
    by_cases hb : b = 45
    · simp only [hb, not_true, false_and, if_false, true_and, if_true] at hP hS
      by_cases h9 : 2 ^ (64 - 1) < V
      · rw [if_pos h9] at hP
        right
        refine ⟨hP, ?_⟩
        rw [hN]
        have : ¬ (-9007199254740992 ≤ S ∧ S ≤ 9007199254740992) := by rw [hS]; omega
        rw [if_neg this]; split <;> rfl
      · rw [if_neg h9] at hP
        left
        refine ⟨_, hP, ?_⟩
        rw [hN, ← hS]
        by_cases h17 : 16 < K
        · have := hbig h17
          rw [if_pos h17, if_neg (by omega)]
        · rw [if_neg h17]
    · simp only [hb, not_false_eq_true, true_and, false_and, if_false] at hP hS
      by_cases h9 : 2 ^ (64 - 1) ≤ V
      · rw [if_pos h9] at hP
        right
        refine ⟨hP, ?_⟩
        rw [hN]
        have : ¬ (-9007199254740992 ≤ S ∧ S ≤ 9007199254740992) := by rw [hS]; omega
        rw [if_neg this]; split <;> rfl
      · rw [if_neg h9] at hP
        left
        refine ⟨_, hP, ?_⟩
        rw [hN, ← hS]
        by_cases h17 : 16 < K
        · have := hbig h17
          rw [if_pos h17, if_neg (by omega)]
        · rw [if_neg h17]
  · rw [if_neg hV] at hP
    right
    refine ⟨hP, ?_⟩
    rw [hN]
    have : ¬ (-9007199254740992 ≤ S ∧ S ≤ 9007199254740992) := by rw [hS]; split <;> omega
    rw [if_neg this]; split <;> rfl
end Go.Proofs.YtpnogmicfomofaaGreatDoor.Adr
/-
  Numbers in decimal: number.Parse, both sides. Conditions: those ahead of each theorem.
-/
namespace Go.Proofs.YtpnogmicfomofaaGreatDoor.Adr
open Go.RowKit Go.Sort Go.Lib Go.Maps
open Go.Lib (hid)
set_option linter.unusedVariables false
set_option linter.unusedSimpArgs false

def vldN (n : Int) : Bool := decide (-9007199254740992 ≤ n) && decide (n ≤ 9007199254740992)
theorem pvldn_any (n : Int) (w : World) : Calls Tryz.prog 188 #[.int .i64 n] w fun e w' => e = .returned (.bool (vldN n)) ∧ w = w' := by
  by_cases h1 : -9007199254740992 ≤ n
  · have HN := hid (show vldN n = decide (n ≤ 9007199254740992) by unfold vldN; rw [decide_eq_true h1]; rfl)
    go_enter Tryz.func188, Tryz.ntmps188
    go_wp2
    go_ret
    exact ⟨ret_bool HN.out, rfl⟩
  · have HN := hid (show vldN n = false by unfold vldN; rw [decide_eq_false h1]; rfl)
    go_enter Tryz.func188, Tryz.ntmps188
    go_wp2
    go_ret
    exact ⟨ret_bool HN.out, rfl⟩
theorem rvldn_any (n : Int) (w : World) : Calls Tryz.prog 138 #[.int .i64 n] w fun e w' => e = .returned (.bool (vldN n)) ∧ w = w' := by
  by_cases h1 : -9007199254740992 ≤ n
  · have HN := hid (show vldN n = decide (n ≤ 9007199254740992) by unfold vldN; rw [decide_eq_true h1]; rfl)
    go_enter Tryz.func138, Tryz.ntmps138
    go_wp2
    go_ret
    exact ⟨ret_bool HN.out, rfl⟩
  · have HN := hid (show vldN n = false by unfold vldN; rw [decide_eq_false h1]; rfl)
    go_enter Tryz.func138, Tryz.ntmps138
    go_wp2
    go_ret
    exact ⟨ret_bool HN.out, rfl⟩
/-- What Parse hands back. -/
def NmR (x : Int × Int) : Ending := .returned (.tuple #[.int .i64 x.1, .int .i64 x.2])
set_option maxHeartbeats 4000000 in
theorem pnum_any (s : ByteArray) (w : World) (hT : WT w) (hs : s.size ≤ 1000000) : Calls Tryz.prog 161 #[.string s] w fun e w' => e = NmR (numS s.data.toList) ∧ Below w.heap.size w w' := by
  have HC := hid (pcan_any s w hs)
  have HB := hid (Below.refl w.heap.size w)
  cases hc : canS s.data.toList
  · have HR := hid (show numS s.data.toList = (0, 2) by unfold numS; rw [if_pos hc])
    rw [hc] at HC
    clear hc hT
    go_enter Tryz.func161, Tryz.ntmps161
    go_wp2_with (go_at_call 186; refine HC.out.mono ?_; rintro e w1 ⟨rfl, rfl⟩)
    go_ret2
    exact ⟨by rw [HR.out]; rfl, HB.out⟩
  have hp := num_parse hc
  rw [hc] at HC
  clear hc
  rcases hp with ⟨v, hv, hn⟩ | ⟨hv, hn⟩
  · have HP := hid (Tryz.strconv_ParseInt_10_at64_ok s (by omega) v hv w)
    have HV := hid (fun W => pvldn_any v W)
    have hvl : vldN v = decide (-9007199254740992 ≤ v ∧ v ≤ 9007199254740992) := by unfold vldN; rw [Bool.eq_iff_iff]; simp
    have HBW := hid (fun t => Joins.below_bytesWorld w.heap.size w 5 t (Nat.le_refl _))
    clear hT hv
    by_cases hr : -9007199254740992 ≤ v ∧ v ≤ 9007199254740992
    · have HR := hid (hn.trans (if_pos hr))
      rw [hvl, decide_eq_true hr] at HV
      clear hn hvl hr
      go_enter Tryz.func161, Tryz.ntmps161
      go_wp2_with (first
        | (go_at_call 186; refine HC.out.mono ?_; rintro e w1 ⟨rfl, rfl⟩)
        | (go_at_call 187; refine HP.out.mono ?_; rintro e w2 ⟨rfl, hw⟩; have HW := hid (show Below w.heap.size w w2 from by rcases hw with rfl | ⟨t, rfl⟩; exact HB.out; exact HBW.out t); clear hw)
        | (go_at_call 188; refine (HV.out _).mono ?_; rintro e w3 ⟨rfl, rfl⟩))
      go_ret2
      exact ⟨by rw [HR.out]; rfl, HW.out⟩
    · have HR := hid (hn.trans (if_neg hr))
      rw [hvl, decide_eq_false hr] at HV
      clear hn hvl hr
      go_enter Tryz.func161, Tryz.ntmps161
      go_wp2_with (first
        | (go_at_call 186; refine HC.out.mono ?_; rintro e w1 ⟨rfl, rfl⟩)
        | (go_at_call 187; refine HP.out.mono ?_; rintro e w2 ⟨rfl, hw⟩; have HW := hid (show Below w.heap.size w w2 from by rcases hw with rfl | ⟨t, rfl⟩; exact HB.out; exact HBW.out t); clear hw)
        | (go_at_call 188; refine (HV.out _).mono ?_; rintro e w3 ⟨rfl, rfl⟩))
      go_ret2
      exact ⟨by rw [HR.out]; rfl, HW.out⟩
  · obtain ⟨ev, h1, h2⟩ := hT.r
    have HP := hid (Tryz.strconv_ParseInt_10_at64_range s (by omega) hv ev w h1 h2)
    have HR := hid hn
    clear hT hv hn h1 h2
    go_enter Tryz.func161, Tryz.ntmps161
    go_wp2_with (first
      | (go_at_call 186; refine HC.out.mono ?_; rintro e w1 ⟨rfl, rfl⟩)
      | (go_at_call 187; refine HP.out.mono ?_; rintro e w2 ⟨N, rfl, _, _, hw⟩; have HW := hid hw; clear hw))
    go_ret2
    exact ⟨by rw [HR.out]; rfl, HW.out⟩

theorem valL_snoc (l : List UInt8) (c : UInt8) : valL (l ++ [c]) = 10 * valL l + (c.toNat - 48) := by unfold valL; rw [List.foldl_append]; rfl
theorem valL_take (t : ByteArray) (k : Nat) (h : k < t.size) : valL (t.data.toList.take (k + 1)) = 10 * valL (t.data.toList.take k) + (t[k].toNat - 48) := by
  rw [List.take_succ_eq_append_getElem (by rw [size_list]; exact h), valL_snoc]
  rfl
theorem numS_neg {s : ByteArray} (h : 0 < s.size) (h1 : s[0].toNat = 45) : (digB (s.extract 1 s.size).data.toList = false ∨ ((s.extract 1 s.size).toList == [48]) = true → numS s.data.toList = (0, 2)) ∧
    (digB (s.extract 1 s.size).data.toList = true → ((s.extract 1 s.size).toList == [48]) = false → numS s.data.toList = if 16 < (s.extract 1 s.size).size then (0, 5) else if -9007199254740992 ≤ -(valL (s.extract 1 s.size).data.toList : Int) ∧ -(valL (s.extract 1 s.size).data.toList : Int) ≤ 9007199254740992 then (-(valL (s.extract 1 s.size).data.toList : Int), 0) else (0, 5)) := by
  have hc := canS_neg h h1
  have ht : tlS s.data.toList = (s.extract 1 s.size).data.toList := by unfold tlS; rw [getD_at s h, if_pos h1, extract_list, List.drop_one]
  have hv : svS s.data.toList = -(valL (s.extract 1 s.size).data.toList : Int) := by unfold svS; rw [getD_at s h, if_pos h1, ht]
  rw [ByteArray.toList_eq]
  constructor
  · intro h2
    have : canS s.data.toList = false := by rw [hc]; rcases h2 with h2 | h2 <;> rw [h2] <;> simp
    unfold numS; rw [if_pos this]
  · intro h2 h3
    have : canS s.data.toList = true := by rw [hc, h2, h3]; rfl
    unfold numS; rw [this, if_neg (by simp), ht, hv, size_list]
theorem numS_pos {s : ByteArray} (h : ¬ (∃ h : 0 < s.size, s[0].toNat = 45)) : (digB s.data.toList = false ∨ False → numS s.data.toList = (0, 2)) ∧
    (digB s.data.toList = true → numS s.data.toList = if 16 < s.size then (0, 5) else if -9007199254740992 ≤ (valL s.data.toList : Int) ∧ (valL s.data.toList : Int) ≤ 9007199254740992 then ((valL s.data.toList : Int), 0) else (0, 5)) := by
  have hc := canS_pos h
  have hg : ¬ (s.data.toList.getD 0 0).toNat = 45 := by
    by_cases h0 : 0 < s.size
    · rw [getD_at s h0]; exact fun e => h ⟨h0, e⟩
    · rw [show s.data.toList = [] from List.eq_nil_of_length_eq_zero (by rw [size_list]; omega)]; decide
  have ht : tlS s.data.toList = s.data.toList := by unfold tlS; rw [if_neg hg]
  have hv : svS s.data.toList = (valL s.data.toList : Int) := by unfold svS; rw [if_neg hg, ht]
  constructor
  · intro h2
    have : canS s.data.toList = false := by rw [hc]; rcases h2 with h2 | h2; exact h2; exact h2.elim
    unfold numS; rw [if_pos this]
  · intro h2
    have : canS s.data.toList = true := by rw [hc, h2]
    unfold numS; rw [this, if_neg (by simp), ht, hv, size_list]
set_option maxHeartbeats 8000000 in
set_option maxRecDepth 100000 in
theorem rnum_any (s : ByteArray) (w : World) (hs : s.size ≤ 1000000) : Calls Tryz.prog 102 #[.string s] w fun e w' => e = NmR (numS s.data.toList) ∧ w = w' := by
  by_cases hn : ∃ h : 0 < s.size, s[0].toNat = 45
  · obtain ⟨hp, h45⟩ := hn
    have HBAD := hid (numS_neg hp h45).1
    have HGOOD := hid (numS_neg hp h45).2
    have e45 : ((s[0].toNat : Int) == 45) = true := by simp; omega
    have hpz0 : (0 : Int) < (s.size : Int) := by omega
    have h1z : (1 : Int) ≤ (s.size : Int) := by omega
    have hsz := ext_size s 1 (by omega)
    have HC := hid (rdigs_any (s.extract 1 s.size) w (by omega))
    clear h45
    generalize ht : s.extract 1 s.size = t at *
    have hts : t.size ≤ 1000000 := by omega
    have hsz' : s.size - 1 = t.size := hsz.symm
    clear hsz
    cases hd : digB t.data.toList
    · have HR := hid (HBAD.out (Or.inl hd))
      rw [hd] at HC
      clear hd HBAD HGOOD
      go_enter Tryz.func102, Tryz.ntmps102
      go_wp2_with (go_at_call 137; refine HC.out.mono ?_; rintro e w1 ⟨rfl, rfl⟩)
      go_ret2
      exact ⟨by rw [HR.out]; rfl, rfl⟩
    rw [hd] at HC
    cases h48 : (t.toList == [48])
    case true =>
      have HR := hid (HBAD.out (Or.inr h48))
      clear hd HBAD HGOOD
      go_enter Tryz.func102, Tryz.ntmps102
      go_wp2_with (go_at_call 137; refine HC.out.mono ?_; rintro e w1 ⟨rfl, rfl⟩)
      go_ret2
      exact ⟨by rw [HR.out]; rfl, rfl⟩
    have hX := HGOOD.out hd h48
    have hall := (digB_parts hd).1
    have HAL := hid (show ∀ j (hj : j < t.size), 48 ≤ t[j].toNat ∧ t[j].toNat ≤ 57 from fun j hj => by
      have := List.all_eq_true.1 hall t[j] (by rw [← get_list t j hj]; exact List.getElem_mem _)
      exact (dig_iff _).1 this)
    have HLT := hid (fun k => fold_lt (t.data.toList.take k) 0 (by
      rw [List.all_eq_true]
      intro c hc
      exact List.all_eq_true.1 hall c (List.mem_of_mem_take hc)))
    clear hd hall HBAD HGOOD
    by_cases h17 : 16 < t.size
    · have HR := hid (hX.trans (if_pos h17))
      have h17z : (16 : Int) < (t.size : Int) := by omega
      clear hX h17 HAL HLT
      go_enter Tryz.func102, Tryz.ntmps102
      go_wp2_with (go_at_call 137; refine HC.out.mono ?_; rintro e w1 ⟨rfl, rfl⟩)
      go_ret2
      exact ⟨by rw [HR.out]; rfl, rfl⟩
    have HX := hid (hX.trans (if_neg h17))
    have h17z : ¬ (16 : Int) < (t.size : Int) := by omega
    clear hX
    go_enter Tryz.func102, Tryz.ntmps102
    go_wp2_with (go_at_call 137; refine HC.out.mono ?_; rintro e w1 ⟨rfl, rfl⟩)
    go_loop [6, 7] (fun n i => ∃ k : Nat, k ≤ t.size ∧ i = .int .i64 k ∧ n = .int .i64 (valL (t.data.toList.take k) : Nat)) (fun _ i => t.size - (RowKit.intOf i).toNat)
    case atStart => exact ⟨0, by omega, rfl, rfl⟩
    case round =>
      obtain ⟨k, hk, rfl, rfl⟩ := hrel
      have hb : valL (t.data.toList.take k) < 10000000000000000 := by
        have h1 := HLT.out k
        rw [take_len t hk] at h1
        have h2 : 10 ^ k ≤ 10 ^ 16 := Nat.pow_le_pow_right (by decide) (by omega)
        unfold valL; omega
      by_cases hlt : k < t.size
      · obtain ⟨c1, c2⟩ := HAL.out k hlt
        have HS := hid (valL_take t k hlt)
        have c1z : (48 : Int) ≤ (t[k].toNat : Int) := by omega
        have c2z : (t[k].toNat : Int) ≤ 57 := by omega
        generalize valL (t.data.toList.take k) = V at *
        clear HX HLT HAL
        go_wp2
        go_round
        case rel => exact ⟨k + 1, by omega, by go_num, by rw [HS.out]; go_num⟩
        case measure => (simp [RowKit.intOf] <;> omega)
      · have hke : t.data.toList.take k = t.data.toList := take_all t (by omega)
        have hX := HX.out
        rw [show valL t.data.toList = valL (t.data.toList.take k) by rw [hke]] at hX
        generalize valL (t.data.toList.take k) = V at *
        have HV := hid (fun W => rvldn_any (-(V : Int)) W)
        have hvl : vldN (-(V : Int)) = decide (-9007199254740992 ≤ (-(V : Int)) ∧ (-(V : Int)) ≤ 9007199254740992) := by unfold vldN; rw [Bool.eq_iff_iff]; simp
        clear hke HX HLT HAL
        by_cases hr : -9007199254740992 ≤ (-(V : Int)) ∧ (-(V : Int)) ≤ 9007199254740992
        · have HR := hid (hX.trans (if_pos hr))
          rw [hvl, decide_eq_true hr] at HV
          clear hX hvl hr
          go_wp2_with (go_at_call 138; refine (HV.out _).mono ?_; rintro e w3 ⟨rfl, rfl⟩)
          go_ret2
          exact ⟨by rw [HR.out]; rfl, rfl⟩
        · have HR := hid (hX.trans (if_neg hr))
          rw [hvl, decide_eq_false hr] at HV
          clear hX hvl hr
          go_wp2_with (go_at_call 138; refine (HV.out _).mono ?_; rintro e w3 ⟨rfl, rfl⟩)
          go_ret2
          exact ⟨by rw [HR.out]; rfl, rfl⟩
  · have HBAD := hid (numS_pos hn).1
    have HGOOD := hid (numS_pos hn).2
    have HC := hid (rdigs_any s w (by omega))
    by_cases h0 : 0 < s.size
    · have e45 : ((s[0].toNat : Int) == 45) = false := by
        have : s[0].toNat ≠ 45 := fun e => hn ⟨h0, e⟩
        simp; omega
      have hpz0 : (0 : Int) < (s.size : Int) := by omega
      clear hn
      cases hd : digB s.data.toList
      · have HR := hid (HBAD.out (Or.inl hd))
        rw [hd] at HC
        clear hd HBAD HGOOD
        go_enter Tryz.func102, Tryz.ntmps102
        go_wp2_with (go_at_call 137; refine HC.out.mono ?_; rintro e w1 ⟨rfl, rfl⟩)
        go_ret2
        exact ⟨by rw [HR.out]; rfl, rfl⟩
      rw [hd] at HC
      have hX := HGOOD.out hd
      have hall := (digB_parts hd).1
      have HAL := hid (show ∀ j (hj : j < s.size), 48 ≤ s[j].toNat ∧ s[j].toNat ≤ 57 from fun j hj => by
        have := List.all_eq_true.1 hall s[j] (by rw [← get_list s j hj]; exact List.getElem_mem _)
        exact (dig_iff _).1 this)
      have HLT := hid (fun k => fold_lt (s.data.toList.take k) 0 (by
        rw [List.all_eq_true]
        intro c hc
        exact List.all_eq_true.1 hall c (List.mem_of_mem_take hc)))
      clear hd hall HBAD HGOOD
      by_cases h17 : 16 < s.size
      · have HR := hid (hX.trans (if_pos h17))
        have h17z : (16 : Int) < (s.size : Int) := by omega
        clear hX h17 HAL HLT
        go_enter Tryz.func102, Tryz.ntmps102
        go_wp2_with (go_at_call 137; refine HC.out.mono ?_; rintro e w1 ⟨rfl, rfl⟩)
        go_ret2
        exact ⟨by rw [HR.out]; rfl, rfl⟩
      have HX := hid (hX.trans (if_neg h17))
      have h17z : ¬ (16 : Int) < (s.size : Int) := by omega
      clear hX
      go_enter Tryz.func102, Tryz.ntmps102
      go_wp2_with (go_at_call 137; refine HC.out.mono ?_; rintro e w1 ⟨rfl, rfl⟩)
      go_loop [6, 7] (fun n i => ∃ k : Nat, k ≤ s.size ∧ i = .int .i64 k ∧ n = .int .i64 (valL (s.data.toList.take k) : Nat)) (fun _ i => s.size - (RowKit.intOf i).toNat)
      case atStart => exact ⟨0, by omega, rfl, rfl⟩
      case round =>
        obtain ⟨k, hk, rfl, rfl⟩ := hrel
        have hb : valL (s.data.toList.take k) < 10000000000000000 := by
          have h1 := HLT.out k
          rw [take_len s hk] at h1
          have h2 : 10 ^ k ≤ 10 ^ 16 := Nat.pow_le_pow_right (by decide) (by omega)
          unfold valL; omega
        by_cases hlt : k < s.size
        · obtain ⟨c1, c2⟩ := HAL.out k hlt
          have HS := hid (valL_take s k hlt)
          have c1z : (48 : Int) ≤ (s[k].toNat : Int) := by omega
          have c2z : (s[k].toNat : Int) ≤ 57 := by omega
          generalize valL (s.data.toList.take k) = V at *
          clear HX HLT HAL
          go_wp2
          go_round
          case rel => exact ⟨k + 1, by omega, by go_num, by rw [HS.out]; go_num⟩
          case measure => (simp [RowKit.intOf] <;> omega)
        · have hke : s.data.toList.take k = s.data.toList := take_all s (by omega)
          have hX := HX.out
          rw [show valL s.data.toList = valL (s.data.toList.take k) by rw [hke]] at hX
          generalize valL (s.data.toList.take k) = V at *
          have HV := hid (fun W => rvldn_any (V : Int) W)
          have hvl : vldN (V : Int) = decide (-9007199254740992 ≤ (V : Int) ∧ (V : Int) ≤ 9007199254740992) := by unfold vldN; rw [Bool.eq_iff_iff]; simp
          clear hke HX HLT HAL
          by_cases hr : -9007199254740992 ≤ (V : Int) ∧ (V : Int) ≤ 9007199254740992
          · have HR := hid (hX.trans (if_pos hr))
            rw [hvl, decide_eq_true hr] at HV
            clear hX hvl hr
            go_wp2_with (go_at_call 138; refine (HV.out _).mono ?_; rintro e w3 ⟨rfl, rfl⟩)
            go_ret2
            exact ⟨by rw [HR.out]; rfl, rfl⟩
          · have HR := hid (hX.trans (if_neg hr))
            rw [hvl, decide_eq_false hr] at HV
            clear hX hvl hr
            go_wp2_with (go_at_call 138; refine (HV.out _).mono ?_; rintro e w3 ⟨rfl, rfl⟩)
            go_ret2
            exact ⟨by rw [HR.out]; rfl, rfl⟩
    · have hpz0 : ¬ (0 : Int) < (s.size : Int) := by omega
      clear hn
      have HR := hid (HBAD.out (Or.inl (by rw [show s.data.toList = [] from List.eq_nil_of_length_eq_zero (by rw [size_list]; omega)]; rfl)))
      rw [show digB s.data.toList = false by rw [show s.data.toList = [] from List.eq_nil_of_length_eq_zero (by rw [size_list]; omega)]; rfl] at HC
      clear HBAD HGOOD
      go_enter Tryz.func102, Tryz.ntmps102
      go_wp2_with (go_at_call 137; refine HC.out.mono ?_; rintro e w1 ⟨rfl, rfl⟩)
      go_ret2
      exact ⟨by rw [HR.out]; rfl, rfl⟩
end Go.Proofs.YtpnogmicfomofaaGreatDoor.Adr
