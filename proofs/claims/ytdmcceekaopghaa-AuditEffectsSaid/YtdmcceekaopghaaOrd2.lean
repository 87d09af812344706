/-
  Contract of audit.Order where all needs are in range, at lists of at most 40 steps and 120 events. Conditions: those ahead of each theorem.
-/
import Derived.Test.YtdmcceekaopghaaOrder
namespace Go.Proofs.Ytdmcceekaopghaa
open Go.RowKit Go.Sort

theorem tinfo : (Try.prog.info? 76).map (fun i => (i.zero, i.size, i.bytes)) = some (some (.agg #[.int .i64 0, .bool false, .bool false]), 3, 16) := by kernel_rfl

theorem tal_set {W : World} {B n K : Nat} {ts : List Tal} (h : Sl TalR 3 W (.slice (some ⟨B, 0, none⟩) n n) ts) (hK : K < ts.length) (e : Int) (o d : Bool) :
    Sl TalR 3 (((W.setCell ⟨B, K * 3, none⟩ (.int .i64 e)).setCell ⟨B, K * 3 + 1, none⟩ (.bool o)).setCell ⟨B, K * 3 + 2, none⟩ (.bool d)) (.slice (some ⟨B, 0, none⟩) n n) (ts.set K ⟨e, o, d⟩) := by
  have h' := h
  obtain ⟨r, cap, hv, _, _, he⟩ := h'
  simp at hv
  obtain ⟨rfl, _, _⟩ := hv
  obtain ⟨b', off', cs, hr, _, hc, hx⟩ := he K hK
  simp at hr
  obtain ⟨rfl, rfl⟩ := hr
  simp only [TalR] at hx
  subst hx
  have m0 := hc 0 _ rfl
  have m1 := hc 1 _ rfl
  have m2 := hc 2 _ rfl
  simp only [Nat.zero_add, Nat.add_zero] at m0 m1 m2
  refine sl_set h K hK ⟨e, o, d⟩ [.int .i64 e, .bool o, .bool d] rfl (fun _ _ h => h) rfl ?_ ?_
  · intro j u hj
    simp only [Nat.zero_add]
    match j, hj with
    | 0, hj =>
      simp at hj; subst hj
      simp only [Nat.add_zero]
      rw [scell_ne (by omega), scell_ne (by omega)]
      exact scell_same m0
    | 1, hj =>
      simp at hj; subst hj
      rw [scell_ne (by omega)]
      refine scell_same (u := .bool (ts[K]).opn) ?_
      rw [scell_ne (by omega)]
      exact m1
    | 2, hj =>
      simp at hj; subst hj
      refine scell_same (u := .bool (ts[K]).dn) ?_
      rw [scell_ne (by omega), scell_ne (by omega)]
      exact m2
    | j + 3, hj => simp at hj
  · intro x hx
    rw [scell_ne (by omega), scell_ne (by omega), scell_ne (by omega)]

set_option maxRecDepth 100000 in
set_option maxHeartbeats 1000000 in
theorem order_ok (ss : List St) (l : List Ev) (vS vL : Value) (w : World) (hS : Sl StR 3 w vS ss) (hL : Sl EvR 6 w vL l) (hok : okNeeds ss = true) (h40 : ss.length ≤ 40) (h120 : l.length ≤ 240) :
    Calls Try.prog 12 #[vS, vL] w fun r w' => r = .returned (.int .i64 (ordRun ss l)) ∧ Below w.heap.size w w' := by
  have hS0 := hS
  have hL0 := hL
  obtain ⟨rS, capS, rfl, hlS, hmS, hS⟩ := hS
  obtain ⟨rL, capL, rfl, hlL, hmL, hL⟩ := hL
  unfold maxLen at hmS hmL
  have HOK := Lib.hid (show ∀ j (h : j < ss.length), ∀ n ∈ (ss[j]).needs, 0 ≤ n ∧ n < ss.length by
    intro j h n hn
    unfold okNeeds at hok
    rw [List.all_eq_true] at hok
    have := hok _ (List.getElem_mem h)
    rw [List.all_eq_true] at this
    simpa using this n hn)
  clear hok
  obtain ⟨i0, hi, hz0, hz1, hz2⟩ := info_parts tinfo
  obtain ⟨C, hC, hCc, hmk⟩ := make_fact (P := Try.prog) Try.underlying71 hi hz0 hz1 hz2 rfl ss.length (by omega) (by omega)
  go_enter Try.func12, Try.ntmps12
  go_wp2
  go_loopw [15] (fun i wr => ∃ k : Nat, k ≤ ss.length ∧ i = .int .i64 k ∧ Below w.heap.size w wr) (fun i _ => ss.length - (intOf i).toNat)
  case atStart => exact ⟨0, by omega, rfl, Below.refl _ _⟩
  case round =>
    obtain ⟨k, hk, rfl, hb⟩ := hrel
    by_cases hlt : k < ss.length
    · have hSk := hS k hlt
      obtain ⟨b, off, cs, rfl, _, hc, v, hcs, hneeds⟩ := hSk
      subst hcs
      have g0 := bget hb (hc 0 _ rfl)
      have g1 := bget hb (hc 1 _ rfl)
      have g2 := bget hb (hc 2 _ rfl)
      simp only [Nat.add_zero] at g0
      have hbb := World.block_lt_of_cell? wr _ g0
      simp at hbb
      have hneeds := hneeds.below intR_mono hb
      clear hc
      obtain ⟨rn, capn, rfl, hln, hmn, _⟩ := id hneeds
      obtain ⟨_, hN⟩ := sl_get_int hneeds rfl
      unfold maxLen at hmn
      have hnk := HOK.out k hlt
      obtain ⟨wo, rfl⟩ : ∃ wo : World, wo = wr := ⟨_, rfl⟩
      generalize ss[k] = s at *
      obtain ⟨sc, so, needs⟩ := s
      simp only at g0 g1 g2 hneeds hN hln hnk
      have HNK := Lib.hid hnk
      have HBW := Lib.hid hb
      clear hnk hb hneeds
      go_wp2
      go_loop [22] (fun i => ∃ j : Nat, j ≤ needs.length ∧ i = .int .i64 j) (fun i => needs.length - (intOf i).toNat)
      case atStart => exact ⟨0, by omega, rfl⟩
      case round =>
        obtain ⟨j, hj, rfl⟩ := hrel
        by_cases hj2 : j < needs.length
        · obtain ⟨bn, on, rfl, kn, hbn, hw1, hw2⟩ := hN j hj2
          obtain ⟨hq0, hq1⟩ := HNK.out _ (List.getElem_mem hj2)
          clear hN
          generalize needs[j] = q at *
          go_wp2
          go_round
          case rel => exact ⟨j + 1, by omega, by go_num⟩
          case measure => simp [intOf]; omega
        · go_wp2
          go_roundw
          case rel => exact ⟨k + 1, by omega, by go_num, HBW.out.alloc HBW.out.size _⟩
          case measure => simp [intOf]; omega
    · have HT := Lib.hid (sl_made (R := TalR) (sz := 3) (w := wr) (C := C) (E := 76) (n := ss.length) (z := .agg #[.int .i64 0, .bool false, .bool false]) t0 (by unfold maxLen; omega) rfl hCc rfl)
      have HBW := Lib.hid (hb.alloc hb.size (.cells C 76))
      have HF := Lib.hid (show ∀ o, (wr.alloc (.cells C 76)).frozen? ⟨wr.heap.size, o, none⟩ = false from fun o => by simp)
      have HZ := Lib.hid (show w.heap.size ≤ wr.heap.size ∧ wr.heap.size < (wr.alloc (.cells C 76)).heap.size from ⟨hb.size, by simp⟩)
      clear hb hS
      go_wp2
      clear hmk hCc hC hk hlt
      generalize wr.alloc (.cells C 76) = W1 at *
      generalize wr.heap.size = B at *
      clear wr
      go_loopw [41] (fun i wr => ∃ (k : Nat) (ts : List Tal), k ≤ l.length ∧ i = .int .i64 k ∧ ts.length = ss.length ∧ run ss (List.replicate ss.length t0) l = run ss ts (l.drop k) ∧ (∀ t ∈ ts, 0 ≤ t.ev ∧ t.ev ≤ k) ∧
          Sl TalR 3 wr (.slice (some ⟨B, 0, none⟩) ss.length ss.length) ts ∧ (∀ o, wr.frozen? ⟨B, o, none⟩ = false) ∧ B < wr.heap.size ∧ Below w.heap.size w wr) (fun i _ => l.length - (intOf i).toNat)
      case atStart => exact ⟨0, List.replicate ss.length t0, by omega, rfl, by simp, rfl, fun t ht => by rw [List.eq_of_mem_replicate ht]; simp [t0], HT.out, HF.out, HZ.out.2, HBW.out⟩
      case round =>
        obtain ⟨k, ts, hk, rfl, htl, hrun, hbd, hTl, hfz, hBw, hb⟩ := hrel
        by_cases hlt : k < l.length
        · obtain ⟨b, off, cs, rfl, _, hc, hcs⟩ := hL k hlt
          simp only [EvR] at hcs
          subst hcs
          rw [List.drop_eq_getElem_cons hlt] at hrun
          generalize l[k] = e at *
          obtain ⟨kind, st, op, ad, id, er⟩ := e
          simp only [Ev.cells] at hc
          have g0 := bget hb (hc 0 _ rfl)
          have g1 := bget hb (hc 1 _ rfl)
          have g2 := bget hb (hc 2 _ rfl)
          have g3 := bget hb (hc 3 _ rfl)
          have g4 := bget hb (hc 4 _ rfl)
          have g5 := bget hb (hc 5 _ rfl)
          simp only [Nat.add_zero] at g0
          have hbb := World.block_lt_of_cell? wr _ g0
          simp at hbb
          obtain ⟨wo, rfl⟩ : ∃ wo : World, wo = wr := ⟨_, rfl⟩
          have HR := Lib.hid hrun
          have HTL := Lib.hid hTl
          have HFZ := Lib.hid hfz
          have HBW := Lib.hid hb
          have HBD := Lib.hid hbd
          have HLEN := Lib.hid htl
          clear hrun hTl hfz hb hbd hc htl
          go_wp2_with fail
          refine (counted_at kind st op ad id er _).mono ?_
          rintro r W2 ⟨rfl, hb2⟩
          have hz2 := hb2.size
          simp at hz2
          obtain ⟨hc2, hf2⟩ := bcellB hb2
          have f0 : W2.cell? ⟨wo.heap.size, 0, none⟩ = some (.int .i64 kind) := by rw [hc2 _ _ (by simp)]; simp
          have f1 : W2.cell? ⟨wo.heap.size, 1, none⟩ = some (.int .i64 st) := by rw [hc2 _ _ (by simp)]; simp
          have f2 : W2.cell? ⟨wo.heap.size, 2, none⟩ = some (.int .i64 op) := by rw [hc2 _ _ (by simp)]; simp
          have f3 : W2.cell? ⟨wo.heap.size, 3, none⟩ = some (.string ad) := by rw [hc2 _ _ (by simp)]; simp
          have f4 : W2.cell? ⟨wo.heap.size, 4, none⟩ = some (.string id) := by rw [hc2 _ _ (by simp)]; simp
          have f5 : W2.cell? ⟨wo.heap.size, 5, none⟩ = some (.int .i64 er) := by rw [hc2 _ _ (by simp)]; simp
          have hBo : Below wo.heap.size wo W2 := ((Below.refl _ _).alloc (Nat.le_refl _) _).trans (hb2.mono (by simp))
          have HB2 := Lib.hid (HBW.out.trans (hBo.mono HBW.out.size))
          have HT2 := Lib.hid (HTL.out.below talR_mono hBo)
          have HF2 := Lib.hid (show ∀ o, W2.frozen? ⟨B, o, none⟩ = false from fun o => (hBo.frozen (p := ⟨B, o, none⟩) hBw).trans (HFZ.out o))
          have hB2 : B < W2.heap.size := by omega
          have hv2 : wo.heap.size < W2.heap.size := by omega
          have hvB : B < wo.heap.size := hBw
          clear hb2 hc2 hf2 hBo HBW HTL HFZ hz2 hBw hbb g0 g1 g2 g3 g4 g5
          generalize wo.heap.size = V at *
          clear wo
          cases hcn : cnt kind
          · have HR2 := Lib.hid (show run ss (List.replicate ss.length t0) l = run ss ts (l.drop (k + 1)) by rw [HR.out]; simp [run, hcn])
            clear hcn
            go_wp2
            go_roundw
            case rel => exact ⟨k + 1, ts, by omega, by go_num, HLEN.out, HR2.out, fun t ht => by have := HBD.out t ht; omega, HT2.out, HF2.out, hB2, HB2.out⟩
            case measure => simp [intOf]; omega
          · have HC := Lib.hid hcn
            clear hcn
            have hcg := cells_regrown W2
            go_wp2_with fail
            by_cases c1 : st < 0
            · have HX := Lib.hid (show ordRun ss l = 36 by
                unfold ordRun
                rw [HR.out]; simp only [run, HC.out, okE]; simp; omega)
              refine wp_region_quiet_below (by kernel_rfl) (by kernel_rfl) ?_
              repeat (go_big_quiet_step (fail))
              refine wpQuiet_nil ?_
              intro _ hw'
              obtain ⟨⟨dq, osq⟩, hw''⟩ := hw'
              subst hw''
              go_wp2
              go_ret
              exact ⟨ret_int HX.out, HB2.out.trans ((below_regrown _ _ _).mono HB2.out.size)⟩
            obtain ⟨K, rfl⟩ : ∃ K : Nat, st = K := ⟨st.toNat, by omega⟩
            by_cases c2 : (ss.length : Int) ≤ K
            · have HX := Lib.hid (show ordRun ss l = 36 by
                unfold ordRun
                rw [HR.out]; simp only [run, HC.out, okE]; simp; omega)
              refine wp_region_quiet_below (by kernel_rfl) (by kernel_rfl) ?_
              repeat (go_big_quiet_step (fail))
              refine wpQuiet_nil ?_
              intro _ hw'
              obtain ⟨⟨dq, osq⟩, hw''⟩ := hw'
              subst hw''
              go_wp2
              go_ret
              exact ⟨ret_int HX.out, HB2.out.trans ((below_regrown _ _ _).mono HB2.out.size)⟩
            have hK : K < ss.length := by omega
            have hSl2 := hS0.below stR_mono HB2.out
            have hSl3 := hSl2
            obtain ⟨r', cap', hv', _, _, hSe⟩ := hSl3
            simp at hv'
            obtain ⟨rfl, rfl⟩ := hv'
            obtain ⟨bS, offS, csS, rfl, _, hcS, vN, hcsS, _⟩ := hSe K hK
            subst hcsS
            have k1 := hcS 1 _ rfl
            have hbS := World.block_lt_of_cell? W2 _ k1
            simp at hbS
            clear hcS hSe
            by_cases c3 : op = (ss[K]).op
            case neg =>
              have HX := Lib.hid (show ordRun ss l = 36 by
                unfold ordRun
                rw [HR.out]; simp only [run, HC.out, okE]; simp [List.getElem?_eq_getElem hK, c3])
              have e3 : (op == (ss[K]).op) = false := by simpa using c3
              have e4 : (op != (ss[K]).op) = true := by simpa using c3
              clear c3
              refine wp_region_quiet_below (by kernel_rfl) (by kernel_rfl) ?_
              repeat (go_big_quiet_step (fail))
              refine wpQuiet_nil ?_
              intro _ hw'
              obtain ⟨⟨dq, osq⟩, hw''⟩ := hw'
              subst hw''
              go_wp2
              go_ret
              exact ⟨ret_int HX.out, HB2.out.trans ((below_regrown _ _ _).mono HB2.out.size)⟩
            have hkt : K < ts.length := by rw [HLEN.out]; exact hK
            have hnx := HOK.out K hK
            have hgd : (ss.getD K s0) = ss[K] := by rw [List.getD_eq_getElem?_getD, List.getElem?_eq_getElem hK]; rfl
            have HNX : ∀ d os, Calls Try.prog 25 #[.slice (some ⟨bS, offS, none⟩) ss.length capS, .slice (some ⟨B, 0, none⟩) ss.length ss.length, .agg #[.int .i64 kind, .int .i64 K, .int .i64 op, .string ad, .string id, .int .i64 er]] (grow (redrawn W2 d) os) fun e w'' => e = .returned (.bool (nxt ss ts kind K)) ∧ ∃ p : Regrown, w'' = grow (redrawn W2 p.d) p.os :=
              fun d os => Calls.regrown_of (next_any ss ts kind K op ad id er _ _ _ (hSl2.below stR_mono (below_regrown W2 d os)) (HT2.out.below talR_mono (below_regrown W2 d os)) hkt hK (by rw [hgd, HLEN.out]; exact hnx))
            have HNXH := Lib.hid HNX
            have HE := Lib.hid (show okE ss ts ⟨kind, K, op, ad, id, er⟩ = nxt ss ts kind K by
              simp [okE, List.getElem?_eq_getElem hK, c3]; intro _; omega)
            have e3 : (op == (ss[K]).op) = true := by simpa using c3
            have e4 : (op != (ss[K]).op) = false := by simpa using c3
            clear HNX hnx hgd hSl2 c3
            cases hnx : nxt ss ts kind K
            · have HX := Lib.hid (show ordRun ss l = 36 by
                unfold ordRun
                rw [HR.out]; simp only [run, HC.out, HE.out, hnx]; simp)
              rw [hnx] at HNXH
              clear hnx
              refine wp_region_quiet_below (by kernel_rfl) (by kernel_rfl) ?_
              repeat (go_big_quiet_step (exact HNXH.out _ _))
              refine wpQuiet_nil ?_
              intro _ hw'
              obtain ⟨⟨dq, osq⟩, hw''⟩ := hw'
              subst hw''
              go_wp2
              go_ret
              exact ⟨ret_int HX.out, HB2.out.trans ((below_regrown _ _ _).mono HB2.out.size)⟩
            · have HR3 := Lib.hid (show run ss (List.replicate ss.length t0) l = run ss (upd ts ⟨kind, K, op, ad, id, er⟩) (l.drop (k + 1)) by
                rw [HR.out]; simp only [run, HC.out, HE.out, hnx]; simp)
              rw [hnx] at HNXH
              clear hnx
              refine wp_region_quiet_below (by kernel_rfl) (by kernel_rfl) ?_
              repeat (go_big_quiet_step (exact HNXH.out _ _))
              refine wpQuiet_nil ?_
              intro _ hw'
              obtain ⟨⟨dq, osq⟩, hw''⟩ := hw'
              subst hw''
              have hB3 := below_regrown W2 dq osq
              generalize grow (redrawn W2 dq) osq = W3 at *
              have f0' := bget hB3 f0
              have f1' := bget hB3 f1
              have HB3 := Lib.hid (HB2.out.trans (hB3.mono HB2.out.size))
              have HT3 := Lib.hid (HT2.out.below talR_mono hB3)
              have HF3 := Lib.hid (show ∀ o, W3.frozen? ⟨B, o, none⟩ = false from fun o => (hB3.frozen (p := ⟨B, o, none⟩) hB2).trans (HF2.out o))
              have hB3s : B < W3.heap.size := by have := hB3.size; omega
              clear hcg f0 f1 f2 f3 f4 f5 hB3 HB2 HT2 HF2 hB2 hv2 k1 hbS HNXH HE e3 e4
              have HT4 := HT3.out
              obtain ⟨_, _, hv', _, _, hTe⟩ := HT4
              simp at hv'
              obtain ⟨rfl, _, _⟩ := hv'
              obtain ⟨bT, offT, csT, hrT, _, hcT, hxT⟩ := hTe K hkt
              simp at hrT
              obtain ⟨rfl, rfl⟩ := hrT
              simp only [TalR] at hxT
              subst hxT
              have m0 := hcT 0 _ rfl
              have m1 := hcT 1 _ rfl
              have m2 := hcT 2 _ rfl
              simp only [Nat.zero_add, Nat.add_zero] at m0 m1 m2
              have z0 := HF3.out (K * 3)
              have z1 := HF3.out (K * 3 + 1)
              have z2 := HF3.out (K * 3 + 2)
              have hbdk := HBD.out _ (List.getElem_mem hkt)
              have HUP := Lib.hid (show upd ts ⟨kind, K, op, ad, id, er⟩ = ts.set K ⟨(ts[K]).ev + 1, kind == 1, (ts[K]).dn || kind == 3⟩ by
                simp [upd, List.getElem?_eq_getElem hkt])
              obtain ⟨hbd0, hbd1⟩ := hbdk
              clear hcT hTe
              generalize ts[K] = t at *
              obtain ⟨tev, topn, tdn⟩ := t
              simp only at m0 m1 m2 hbd0 hbd1 HUP
              cases tdn
              all_goals
                go_wp2
                go_roundw
                case rel =>
                  refine ⟨k + 1, upd ts ⟨kind, K, op, ad, id, er⟩, by omega, by go_num, by rw [HUP.out]; simpa using HLEN.out, HR3.out, ?_, ?_, ?_, ?_, ?_⟩
                  · intro t ht
                    rw [HUP.out] at ht
                    rcases List.mem_or_eq_of_mem_set ht with h | h
                    · have := HBD.out t h; omega
                    · subst h; simp only; omega
                  · rw [HUP.out]
                    exact tal_set HT3.out hkt _ _ _
                  · intro o; simpa using HF3.out o
                  · simpa [World.setCell] using hB3s
                  · exact ((HB3.out.setCell (by simpa using HZ.out.1) _).setCell (by simpa using HZ.out.1) _).setCell (by simpa using HZ.out.1) _
                case measure => simp [intOf]; omega
        · have HBW := Lib.hid hb
          have hke : k = l.length := by omega
          have HX := Lib.hid (show ordRun ss l = 0 by unfold ordRun; rw [hrun, hke, List.drop_length]; simp [run])
          clear hb hrun hTl hke
          go_wp2
          go_ret
          exact ⟨ret_int HX.out, HBW.out⟩

theorem order_any (ss : List St) (l : List Ev) (vS vL : Value) (w : World) (hS : Sl StR 3 w vS ss) (hL : Sl EvR 6 w vL l) (h40 : ss.length ≤ 40) (h120 : l.length ≤ 240) :
    Calls Try.prog 12 #[vS, vL] w fun r w' => r = .returned (.int .i64 (ord ss l)) ∧ Below w.heap.size w w' := by
  cases h : okNeeds ss
  · rw [show ord ss l = 1 by simp [ord, h]]; exact order_needs ss l vS vL w hS hL h
  · rw [show ord ss l = ordRun ss l by simp [ord, h]]; exact order_ok ss l vS vL w hS hL h h40 h120
end Go.Proofs.Ytdmcceekaopghaa
