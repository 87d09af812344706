/-
  Contract of the reference OrderOf, and that it agrees with the contract of audit.Order. Conditions: those ahead of each theorem.
-/
import Derived.Test.YtdmcceekaopghaaFits
namespace Go.Proofs.Ytdmcceekaopghaa
open Go.RowKit Go.Sort

def ordR (ss : List St) (l : List Ev) : Int :=
  if okNeeds ss then (if (List.range l.length).all fun i => !cnt (l.getD i e0).kind || fits ss l i then 0 else 36) else 1

theorem rorder_needs (ss : List St) (l : List Ev) (vS vL : Value) (w : World) (hS : Sl StR 3 w vS ss) (hL : Sl EvR 6 w vL l) (hbad : okNeeds ss = false) :
    Calls Try.prog 26 #[vS, vL] w fun r w' => r = .returned (.int .i64 1) ∧ Below w.heap.size w w' := by
  have hS0 := hS
  have hL0 := hL
  obtain ⟨rS, capS, rfl, _⟩ := hS
  obtain ⟨rL, capL, rfl, _⟩ := hL
  obtain ⟨_, hlL, hmL, hE⟩ := ev_cells hL0 rfl
  obtain ⟨_, hlS, hmS, hSe⟩ := st_cells hS0 rfl
  have HB := Lib.hid hbad
  clear hbad hE
  go_enter Try.func26, Try.ntmps26
  go_wp2
  go_loop [5, 6] (fun i _ => ∃ k : Nat, k ≤ ss.length ∧ i = .int .i64 k ∧ (∀ j (h : j < ss.length), j < k → ∀ n ∈ (ss[j]).needs, 0 ≤ n ∧ n < ss.length)) (fun i _ => ss.length - (intOf i).toNat)
  case atStart => exact ⟨0, by omega, rfl, by omega⟩
  case round =>
    obtain ⟨k, hk, rfl, hok⟩ := hrel
    have HOK := Lib.hid hok
    clear hok
    by_cases hlt : k < ss.length
    · obtain ⟨b, off, vN, rfl, hb, g0, g1, g2, hN⟩ := hSe k hlt
      obtain ⟨rn, capn, rfl, hln, hmn, _⟩ := id hN
      obtain ⟨_, hNe⟩ := sl_get_int hN rfl
      unfold maxLen at hmn
      generalize hsk : ss[k] = s at *
      obtain ⟨sc, so, needs⟩ := s
      simp only at g0 g1 g2 hN hNe hln
      have HSK := Lib.hid hsk
      clear hsk hN hSe
      go_wp2
      go_loop [6] (fun i => ∃ j : Nat, j ≤ needs.length ∧ i = .int .i64 j ∧ (∀ n ∈ needs.take j, 0 ≤ n ∧ n < ss.length)) (fun i => needs.length - (intOf i).toNat)
      case atStart => exact ⟨0, by omega, rfl, by simp⟩
      case round =>
        obtain ⟨j, hj, rfl, hall⟩ := hrel
        have HA := Lib.hid hall
        clear hall
        by_cases hj2 : j < needs.length
        · obtain ⟨bn, on, rfl, kn, hbn, hw1, hw2⟩ := hNe j hj2
          have HT := Lib.hid (show 0 ≤ needs[j] → needs[j] < ss.length → ∀ n ∈ needs.take (j + 1), 0 ≤ n ∧ n < ss.length by
            intro h0 h1 n hn
            rw [List.take_succ_eq_append_getElem hj2, List.mem_append] at hn
            rcases hn with hn | hn
            · exact HA.out n hn
            · simp at hn; subst hn; exact ⟨h0, h1⟩)
          clear hNe
          generalize needs[j] = q at *
          by_cases hq : 0 ≤ q ∧ q < ss.length
          · obtain ⟨hq0, hq1⟩ := hq
            go_wp2
            go_round
            case rel => exact ⟨j + 1, by omega, by go_num, HT.out hq0 hq1⟩
            case measure => simp [intOf]; omega
          · by_cases hq0 : q < 0
            · go_wp2
              go_ret
              exact ⟨rfl, Below.refl _ _⟩
            · have hq1 : (ss.length : Int) ≤ q := by omega
              clear hq
              go_wp2
              go_ret
              exact ⟨rfl, Below.refl _ _⟩
        · have hje : j = needs.length := by omega
          have HA2 := Lib.hid (show ∀ n ∈ needs, 0 ≤ n ∧ n < ss.length by have := HA.out; rwa [hje, List.take_length] at this)
          clear hje HA
          go_wp2
          go_round
          case rel =>
            refine ⟨k + 1, by omega, by go_num, ?_⟩
            intro i hi hik n hn
            by_cases h : i < k
            · exact HOK.out i hi h n hn
            · obtain rfl : i = k := by omega
              rw [HSK.out] at hn
              exact HA2.out n hn
          case measure => simp [intOf]; omega
    · exfalso
      have hke : k = ss.length := by omega
      have : okNeeds ss = true := by
        unfold okNeeds
        rw [List.all_eq_true]
        intro s hs
        rw [List.all_eq_true]
        intro n hn
        obtain ⟨i, hi, rfl⟩ := List.mem_iff_getElem.1 hs
        have := HOK.out i hi (by omega) n hn
        simp; omega
      rw [HB.out] at this
      cases this

def okAll (ss : List St) (l : List Ev) : Bool := (List.range l.length).all fun i => !cnt (l.getD i e0).kind || fits ss l i
def ordRunR (ss : List St) (l : List Ev) : Int := if okAll ss l then 0 else 36

theorem rorder_ok (ss : List St) (l : List Ev) (vS vL : Value) (w : World) (hS : Sl StR 3 w vS ss) (hL : Sl EvR 6 w vL l) (hok : okNeeds ss = true) :
    Calls Try.prog 26 #[vS, vL] w fun r w' => r = .returned (.int .i64 (ordRunR ss l)) ∧ Below w.heap.size w w' := by
  have hS0 := hS
  have hL0 := hL
  obtain ⟨rS, capS, rfl, _⟩ := hS
  obtain ⟨rL, capL, rfl, _⟩ := hL
  obtain ⟨_, hlL, hmL, hE⟩ := ev_cells hL0 rfl
  obtain ⟨_, hlS, hmS, hSe⟩ := st_cells hS0 rfl
  have HOK := Lib.hid (show ∀ j (h : j < ss.length), ∀ n ∈ (ss[j]).needs, 0 ≤ n ∧ n < ss.length by
    intro j h n hn
    unfold okNeeds at hok
    rw [List.all_eq_true] at hok
    have := hok _ (List.getElem_mem h)
    rw [List.all_eq_true] at this
    simpa using this n hn)
  clear hok
  go_enter Try.func26, Try.ntmps26
  go_wp2
  go_loop [5, 6] (fun i _ => ∃ k : Nat, k ≤ ss.length ∧ i = .int .i64 k) (fun i _ => ss.length - (intOf i).toNat)
  case atStart => exact ⟨0, by omega, rfl⟩
  case round =>
    obtain ⟨k, hk, rfl⟩ := hrel
    by_cases hlt : k < ss.length
    · obtain ⟨b, off, vN, rfl, hb, g0, g1, g2, hN⟩ := hSe k hlt
      obtain ⟨rn, capn, rfl, hln, hmn, _⟩ := id hN
      obtain ⟨_, hNe⟩ := sl_get_int hN rfl
      unfold maxLen at hmn
      have hnk := HOK.out k hlt
      generalize ss[k] = s at *
      obtain ⟨sc, so, needs⟩ := s
      simp only at g0 g1 g2 hN hNe hln hnk
      have HNK := Lib.hid hnk
      clear hN hSe hE hnk
      go_wp2
      go_loop [6] (fun i => ∃ j : Nat, j ≤ needs.length ∧ i = .int .i64 j) (fun i => needs.length - (intOf i).toNat)
      case atStart => exact ⟨0, by omega, rfl⟩
      case round =>
        obtain ⟨j, hj, rfl⟩ := hrel
        by_cases hj2 : j < needs.length
        · obtain ⟨bn, on, rfl, kn, hbn, hw1, hw2⟩ := hNe j hj2
          obtain ⟨hq0, hq1⟩ := HNK.out _ (List.getElem_mem hj2)
          clear hNe
          generalize needs[j] = q at *
          go_wp2
          go_round
          case rel => exact ⟨j + 1, by omega, by go_num⟩
          case measure => simp [intOf]; omega
        · go_wp2
          go_round
          case rel => exact ⟨k + 1, by omega, by go_num⟩
          case measure => simp [intOf]; omega
    · clear hSe
      go_wp2
      go_loopw [7] (fun i wr => ∃ k : Nat, k ≤ l.length ∧ i = .int .i64 k ∧ (∀ j, j < k → (!cnt (l.getD j e0).kind || fits ss l j) = true) ∧ Below w.heap.size w wr) (fun i _ => l.length - (intOf i).toNat)
      case atStart => exact ⟨0, by omega, rfl, by omega, Below.refl _ _⟩
      case round =>
        obtain ⟨k, hk2, rfl, hall, hb⟩ := hrel
        have HA := Lib.hid hall
        have HB := Lib.hid hb
        clear hall
        by_cases hlt2 : k < l.length
        · obtain ⟨b, off, rfl, hbl, g0, _⟩ := hE k hlt2
          have g0 := bget hb g0
          have hbl2 := World.block_lt_of_cell? _ _ g0
          simp at hbl2
          clear hb
          have HG := Lib.hid (show l.getD k e0 = l[k] by rw [List.getD_eq_getElem?_getD, List.getElem?_eq_getElem hlt2]; rfl)
          go_wp2_with fail
          refine (counts_any _ _).mono ?_
          rintro r w' ⟨rfl, rfl⟩
          cases hc : cnt (l[k]).kind
          · have HA2 := Lib.hid (show ∀ j, j < k + 1 → (!cnt (l.getD j e0).kind || fits ss l j) = true from fun j hj => by
              by_cases h : j < k
              · exact HA.out j h
              · obtain rfl : j = k := by omega
                rw [HG.out, hc]; rfl)
            clear hc
            go_wp2
            go_roundw
            case rel => exact ⟨k + 1, by omega, by go_num, HA2.out, HB.out⟩
            case measure => simp [intOf]; omega
          · have HC := Lib.hid hc
            clear hc
            go_wp2_with fail
            refine (fits_any ss l k _ _ _ (hS0.below stR_mono HB.out) (hL0.below evR_mono HB.out) hlt2).mono ?_
            rintro r w' ⟨rfl, hb2⟩
            have HB2 := Lib.hid (HB.out.trans (hb2.mono HB.out.size))
            clear hb2
            cases hf : fits ss l k
            · have HX := Lib.hid (show ordRunR ss l = 36 by
                unfold ordRunR
                rw [if_neg]
                unfold okAll
                rw [Bool.not_eq_true, List.all_eq_false]
                exact ⟨k, by simpa using hlt2, by rw [HG.out, HC.out, hf]; simp⟩)
              clear hf
              go_wp2
              go_ret
              exact ⟨ret_int HX.out, HB2.out⟩
            · have HA2 := Lib.hid (show ∀ j, j < k + 1 → (!cnt (l.getD j e0).kind || fits ss l j) = true from fun j hj => by
                by_cases h : j < k
                · exact HA.out j h
                · obtain rfl : j = k := by omega
                  rw [hf]; simp)
              clear hf
              go_wp2
              go_roundw
              case rel => exact ⟨k + 1, by omega, by go_num, HA2.out, HB2.out⟩
              case measure => simp [intOf]; omega
        · have hke : k = l.length := by omega
          have HX := Lib.hid (show ordRunR ss l = 0 by
            unfold ordRunR
            rw [if_pos]
            unfold okAll
            rw [List.all_eq_true]
            intro j hj
            exact HA.out j (by simp at hj; omega))
          clear hke hb
          go_wp2
          go_ret
          exact ⟨ret_int HX.out, HB.out⟩
end Go.Proofs.Ytdmcceekaopghaa
