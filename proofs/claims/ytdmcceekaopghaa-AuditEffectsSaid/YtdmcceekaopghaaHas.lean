/-
  Contracts of the reference's HasText, waitsFor and IDs. Conditions: those ahead of each theorem.
-/
import Derived.Test.YtdmcceekaopghaaOwn1
import Derived.Test.YtdmcceekaopghaaAw
import Derived.Test.YtdmcceekaopghaaAppSl
namespace Go.Proofs.Ytdmcceekaopghaa
open Go.RowKit Go.Sort

theorem hasT_any (l : List ByteArray) (x : ByteArray) (v : Value) (w : World) (hS : Sl StrR 1 w v l) :
    Calls Try.prog 35 #[v, .string x] w fun r w' => r = .returned (.bool (hasS l x)) ∧ w = w' := by
  obtain ⟨r, c, rfl, _⟩ := id hS
  obtain ⟨_, hl, hm, hE⟩ := str_cells hS rfl
  clear hS
  go_enter Try.func35, Try.ntmps35
  go_wp2
  go_loop [5] (fun i => ∃ k : Nat, k ≤ l.length ∧ i = .int .i64 k ∧ ∀ j (h : j < l.length), j < k → l[j] ≠ x) (fun i => l.length - (intOf i).toNat)
  case atStart => exact ⟨0, by omega, rfl, by omega⟩
  case round =>
    obtain ⟨k, hk, rfl, hall⟩ := hrel
    have HA := Lib.hid hall
    clear hall
    by_cases hlt : k < l.length
    · obtain ⟨b, off, rfl, hb, g, _⟩ := hE k hlt
      have HX := Lib.hid (show l[k] = x → hasS l x = true from fun h => hasS_iff.2 (h ▸ List.getElem_mem hlt))
      have HN := Lib.hid (show l[k] ≠ x → ∀ j (h : j < l.length), j < k + 1 → l[j] ≠ x from fun h j hj hjk => by
        by_cases e : j < k
        · exact HA.out j hj e
        · obtain rfl : j = k := by omega
          exact h)
      clear hE
      generalize l[k] = y at *
      by_cases hy : y = x
      · subst hy
        have HX2 := Lib.hid (HX.out rfl)
        clear HX HN
        go_wp2
        go_ret
        exact ⟨ret_bool HX2.out, rfl⟩
      · have HN2 := Lib.hid (HN.out hy)
        have e3 : (y.toList == x.toList) = false := by
          rw [beq_eq_false_iff_ne]; intro h; apply hy; rw [ByteArray.toList_eq, ByteArray.toList_eq] at h; exact bytes_inj h
        clear hy HX HN
        go_wp2
        go_round
        case rel => exact ⟨k + 1, by omega, by go_num, HN2.out⟩
        case measure => simp [intOf]; omega
    · have hke : k = l.length := by omega
      have HX := Lib.hid (show hasS l x = false by
        rw [Bool.eq_false_iff]; intro h
        obtain ⟨j, hj, e⟩ := List.mem_iff_getElem.1 (hasS_iff.1 h)
        exact HA.out j hj (by omega) e)
      clear hke hE
      go_wp2
      go_ret
      exact ⟨ret_bool HX.out, rfl⟩

theorem waits_any (lin : ByteArray) (ser : Int) (vI vP vO : Value) (ps : List Pe) (tok : ByteArray) (w : World) (hP : Sl PeR 3 w vP ps) (hI : ∃ r n c, vI = .slice r n c) (hO : ∃ r n c, vO = .slice r n c) :
    Calls Try.prog 49 #[.agg #[.string lin, .int .i64 ser, vI, vP, vO], .string tok] w fun r w' => r = .returned (.bool (ps.any fun p => eqS p.tok tok)) ∧ Below w.heap.size w w' := by
  obtain ⟨rI, nI, cI, rfl⟩ := hI
  obtain ⟨rO, nO, cO, rfl⟩ := hO
  obtain ⟨r, c, rfl, hl, hm, hE⟩ := hP
  unfold maxLen at hm
  have HB := Lib.hid (show Below w.heap.size w (w.alloc (.cells #[.string lin, .int .i64 ser, .slice rI nI cI, .slice r ps.length c, .slice rO nO cO] 42)) from (Below.refl _ _).alloc (Nat.le_refl _) _)
  go_enter Try.func49, Try.ntmps49
  go_wp2
  go_loop [5] (fun i => ∃ k : Nat, k ≤ ps.length ∧ i = .int .i64 k ∧ ((ps.take k).any fun p => eqS p.tok tok) = false) (fun i => ps.length - (intOf i).toNat)
  case atStart => exact ⟨0, by omega, rfl, rfl⟩
  case round =>
    obtain ⟨k, hk, rfl, hall⟩ := hrel
    have HA := Lib.hid hall
    clear hall
    by_cases hlt : k < ps.length
    · obtain ⟨b, off, cs, rfl, _, hc, hx⟩ := hE k hlt
      simp only [PeR] at hx
      subst hx
      have HT := Lib.hid (show ((ps.take (k + 1)).any fun p => eqS p.tok tok) = eqS (ps[k]).tok tok by
        rw [List.take_succ_eq_append_getElem hlt, List.any_append, HA.out]; simp)
      have HY := Lib.hid (show eqS (ps[k]).tok tok = true → (ps.any fun p => eqS p.tok tok) = true from fun h => List.any_eq_true.2 ⟨_, List.getElem_mem hlt, h⟩)
      clear hE
      generalize ps[k] = y at *
      obtain ⟨ya, yt, yk⟩ := y
      have g2 := hc 2 _ rfl
      have hb := World.block_lt_of_cell? w _ g2
      simp at hb
      simp only at HT HY
      clear hc
      cases hq : (yk.toList == tok.toList)
      · have HT2 := Lib.hid (HT.out.trans (show eqS yk tok = false from hq))
        clear HT HY
        go_wp2
        go_round
        case rel => exact ⟨k + 1, by omega, by go_num, HT2.out⟩
        case measure => simp [intOf]; omega
      · have HY2 := Lib.hid (HY.out (show eqS yk tok = true from hq))
        clear HT HY
        go_wp2
        go_ret
        exact ⟨ret_bool HY2.out, HB.out⟩
    · have hke : k = ps.length := by omega
      have HX := Lib.hid (show (ps.any fun p => eqS p.tok tok) = false by have := HA.out; rwa [hke, List.take_length] at this)
      clear hke hE
      go_wp2
      go_ret
      exact ⟨ret_bool HX.out, HB.out⟩

set_option maxHeartbeats 1000000 in
theorem ids_any (lin : ByteArray) (ser : Int) (vI vP vO : Value) (is : List In) (w : World) (hI : Sl InR 13 w vI is) (hP : ∃ r n c, vP = .slice r n c) (hO : ∃ r n c, vO = .slice r n c) (h1000 : is.length ≤ 1000) (hIs : ∀ x ∈ is, x.id.size ≤ maxLen) :
    Calls Try.prog 48 #[.agg #[.string lin, .int .i64 ser, vI, vP, vO]] w fun r w' => ∃ v, r = .returned v ∧ OwnS w.heap.size w' v (is.map (·.id)) ∧ Below w.heap.size w w' := by
  obtain ⟨rP, nP, cP, rfl⟩ := hP
  obtain ⟨rO, nO, cO, rfl⟩ := hO
  obtain ⟨r, c, rfl, hl, hm, hE⟩ := hI
  unfold maxLen at hm
  have HB0 := Lib.hid (show Below w.heap.size w (w.alloc (.cells #[.string lin, .int .i64 ser, .slice r is.length c, .slice rP nP cP, .slice rO nO cO] 42)) from (Below.refl _ _).alloc (Nat.le_refl _) _)
  have hs2 : (w.alloc (.cells #[.string lin, .int .i64 ser, .slice r is.length c, .slice rP nP cP, .slice rO nO cO] 42)).cell? ⟨w.heap.size, 2, none⟩ = some (.slice r is.length c) := by simp
  have HSZ := Lib.hid (show (w.alloc (.cells #[.string lin, .int .i64 ser, .slice r is.length c, .slice rP nP cP, .slice rO nO cO] 42)).heap.size = w.heap.size + 1 by simp)
  have HS2 := Lib.hid hs2
  have HE := Lib.hid hE
  clear hs2 hE
  go_enter Try.func48, Try.ntmps48
  go_wp2
  generalize w.alloc (.cells #[.string lin, .int .i64 ser, .slice r is.length c, .slice rP nP cP, .slice rO nO cO] 42) = W0 at *
  go_loopg [3, 4] is.length (fun gg s3 s4 wr => ∃ kk : Nat, kk ≤ is.length ∧ is.length - kk ≤ gg ∧ s4 = .int .i64 kk ∧ Aside (Below (w.heap.size + 1) W0 wr) ∧ Aside (OwnS (w.heap.size + 1) wr s3 ((is.map (·.id)).take kk)))
  case atStart => exact ⟨0, Nat.zero_le _, by omega, rfl, Below.refl _ _, ownS_nil _ _⟩
  case round =>
    obtain ⟨kk, hkk, hg, rfl, BW, OW⟩ := hrel
    have k2 := bget (W := W0) (w1 := wr) (by rw [HSZ.out]; exact BW.out) HS2.out
    have hSl := World.block_lt_of_cell? _ _ k2
    simp at hSl
    by_cases hlt : kk < is.length
    · obtain ⟨b, off, cs, rfl, _, hc, hx⟩ := HE.out kk hlt
      simp only [InR] at hx
      subst hx
      have hBw : Below w.heap.size w wr := HB0.out.trans (BW.out.mono (by omega))
      have hidm := hIs _ (List.getElem_mem hlt)
      have HID := Lib.hid hidm
      have HR := Lib.hid (show (is.map (·.id)).take (kk + 1) = (is.map (·.id)).take kk ++ [(is[kk]).id] by
        rw [List.take_succ_eq_append_getElem (by simpa using hlt)]; simp)
      have hrl : ((is.map (·.id)).take kk).length ≤ kk := List.length_take_le _ _
      have HLK := Lib.hid (show ((is.map (·.id)).take kk).length = kk by simp; omega)
      have g2 := bget hBw (hc 2 _ rfl)
      have hbb := World.block_lt_of_cell? wr _ g2
      simp at hbb
      clear hc hidm hBw
      generalize (is[kk]).id = yid at *
      have hVB : w.heap.size + 1 ≤ wr.heap.size := by have := BW.out.size; rw [HSZ.out] at this; exact this
      have hwb : Below wr.heap.size wr (wr.alloc (.cells #[.string yid] 9)) := (Below.refl _ _).alloc (Nat.le_refl _) _
      have O2 := Lib.hid (OW.out.below hwb)
      have B2 := Lib.hid (BW.out.trans (hwb.mono hVB))
      have d5 := Lib.hid (show (wr.alloc (.cells #[.string yid] 9)).cell? ⟨wr.heap.size, 0, none⟩ = some (.string yid) by simp)
      have y5 := Lib.hid (show w.heap.size + 1 ≤ (wr.alloc (.cells #[.string yid] 9)).heap.size by simp; omega)
      have y7 := Lib.hid (show ((is.map (·.id)).take kk).length ≤ 1000000 by omega)
      clear hwb BW OW
      go_wp2_with (at_builtin; go_loud (refine wpList_append_str (xs := (is.map (·.id)).take kk) rfl (.tmp 12) (.tmp 19) rfl (w.heap.size + 1) u3 rfl O2.out ⟨wr.heap.size, 0, none⟩ yid rfl d5.out HID.out y7.out y5.out ?_); intro gm capm w4 ho4 hg4 hat4 hl4)
      have O3 := Lib.hid ho4
      have B3 := Lib.hid (below_app O2.out B2.out y5.out hg4)
      go_roundg (is.length - (kk + 1))
      case measure => omega
      case rel => exact ⟨kk + 1, by omega, by omega, by go_num, B3.out, by have h := O3.out; rw [← HR.out, HLK.out] at h; exact h⟩
    · have hke : kk = is.length := by omega
      have OW2 := Lib.hid OW.out
      have BW2 := Lib.hid BW.out
      subst hke
      have HT := Lib.hid (show (is.map (·.id)).take is.length = is.map (·.id) by rw [List.take_of_length_le]; simp)
      clear BW OW hg hkk hlt
      go_wp2_with fail
      go_ret
      refine ⟨_, rfl, ?_, HB0.out.trans (BW2.out.mono (by omega))⟩
      have h := OW2.out
      rw [HT.out] at h
      refine ⟨?_, h.2⟩
      obtain ⟨h1, h2⟩ := h.1
      refine ⟨h1, ?_⟩
      rcases h2 with h2 | ⟨g, cap, cur, e1, e2, e3⟩
      · exact .inl h2
      · exact .inr ⟨g, cap, cur, e1, by omega, e3⟩
end Go.Proofs.Ytdmcceekaopghaa
