import Derived.Test.YtpnogmicfomofaaGreatDoorZe
/-
  Layer 44: the program's Order. Conditions: those ahead of each theorem.
-/
namespace Go.Proofs.YtpnogmicfomofaaGreatDoor.Stp
open Go.RowKit Go.Sort Go.Lib Go.Maps
open Go.Lib (hid)
set_option linter.unusedVariables false
set_option linter.unusedSimpArgs false

theorem slinfo : (Tryz.prog.info? 40).map (fun i => (i.zero, i.size, i.bytes)) = some (some (.slice none 0 0), 1, 24) := by kernel_rfl
theorem Og.congrV {n M : Nat} {w wr : World} {vs : Nat → Value} {F : Nat → List Nat} {v v' : Nat → Nat} {vR vo : Value} {R out : List Nat} (h : Og n M w wr vs F v vR R vo out) (hv : ∀ i, i < n → v' i = v i) : Og n M w wr vs F v' vR R vo out :=
  ⟨h.hM, h.bel, h.sz, ⟨h.lf.lt, fun i hi => by rw [h.lf.cell i hi, hv i hi], h.lf.free⟩, h.us, h.oR, h.oo, h.ap, h.aR, h.ao⟩
theorem pre_len {N : List (List Nat)} : ∀ {k : Nat}, k ≤ N.length → (esN (N.take k)).length ≤ (esN N).length := by
  intro k
  induction hn : N.length - k generalizing k with
  | zero => intro hk; have : k = N.length := by omega
            subst this; rw [List.take_length]; exact Nat.le_refl _
  | succ d ih =>
    intro hk
    have h1 := ih (k := k + 1) (by omega) (by omega)
    rw [esN_take (by omega), List.length_append] at h1
    omega
theorem pre_len2 {N : List (List Nat)} {k j : Nat} (hk : k < N.length) : (esN (N.take k) ++ ((nd N k).take j).map fun y => (k, y)).length ≤ (esN N).length := by
  have h1 := pre_len (N := N) (k := k + 1) (by omega)
  rw [esN_take hk, List.length_append] at h1
  simp at h1 ⊢
  omega
theorem lt_map {R : List Nat} : (R.map (Nat.cast : Nat → Int)).length = R.length := List.length_map ..
theorem asc_ints {R : List Nat} (h : AscN R) : (R.map (Nat.cast : Nat → Int)).Pairwise (· ≤ ·) := by
  rw [List.pairwise_map]
  exact h.imp fun h => by simp [ltN] at h; omega
theorem low_ints {R : List Nat} (h : AscN R) (u : Nat) : (R.map (Nat.cast : Nat → Int)).countP (· < (u : Int)) = lowL ltN u R := by
  induction R with
  | nil => rfl
  | cons x R ih =>
    have h2 := List.pairwise_cons.1 h
    rw [List.map_cons, List.countP_cons, lowL_cons]
    by_cases hx : x < u
    · have e1 : decide ((x : Int) < (u : Int)) = true := by simp; omega
      have e2 : ltN x u = true := by simp [ltN]; exact hx
      rw [if_pos e1, if_pos e2, ih h2.2]
    · have e1 : ¬ decide ((x : Int) < (u : Int)) = true := by simp; omega
      have e2 : ¬ ltN x u = true := by simp [ltN]; omega
      rw [if_neg e1, if_neg e2, Nat.add_zero, List.countP_eq_zero]
      intro z hz
      obtain ⟨y, hy, rfl⟩ := List.mem_map.1 hz
      have := h2.1 y hy
      simp [ltN] at this
      simp; omega
theorem ins_ints (R : List Nat) (u : Nat) : (R.map (Nat.cast : Nat → Int)).insertIdx (lowL ltN u R) (u : Int) = (putL ltN u R).map Nat.cast := by
  rw [← putL_insert]
  generalize lowL ltN u R = i
  induction R generalizing i with
  | nil => cases i <;> rfl
  | cons x R ih =>
    cases i with
    | zero => rfl
    | succ i => simp [ih i]
theorem Lf.made {w : World} {C : Array Value} {n : Nat} (hC : ∀ (k j : Nat) (u : Value), k < n → (Value.int .i64 0).cells[j]? = some u → C[k * 1 + j]? = some u) : Lf w.heap.size n (w.alloc (.cells C 3)) (fun _ => 0) := by
  refine ⟨by simp, fun i hi => ?_, fun o => by simp⟩
  have := hC i 0 (.int .i64 0) hi rfl
  unfold World.cell?
  rw [(MapKept.heap_alloc w _).1]
  simpa using this
theorem Us.made {w : World} {C : Array Value} {n B : Nat} (hC : ∀ (k j : Nat) (u : Value), k < n → (Value.slice none 0 0).cells[j]? = some u → C[k * 1 + j]? = some u) : Us B w.heap.size n (w.alloc (.cells C 40)) (fun _ => .slice none 0 0) (fun _ => []) := by
  refine ⟨by simp, fun i hi => ?_, fun o => by simp, fun i hi => ownI_nil _ _, fun i j _ _ _ => Apart.nil _⟩
  have := hC i 0 (.slice none 0 0) hi rfl
  unfold World.cell?
  rw [(MapKept.heap_alloc w _).1]
  simpa using this
theorem Og.start {w w1 : World} {C D : Array Value} {n : Nat} (hb : Below w.heap.size w w1) (hC : ∀ (k j : Nat) (u : Value), k < n → (Value.int .i64 0).cells[j]? = some u → C[k * 1 + j]? = some u) (hD : ∀ (k j : Nat) (u : Value), k < n → (Value.slice none 0 0).cells[j]? = some u → D[k * 1 + j]? = some u) :
    Og n w1.heap.size w ((w1.alloc (.cells C 3)).alloc (.cells D 40)) (fun _ => .slice none 0 0) (fun _ => []) (fun _ => 0) (.slice none 0 0) [] (.slice none 0 0) [] := by
  have hs : (w1.alloc (.cells C 3)).heap.size = w1.heap.size + 1 := by simp
  have hal : Below (w1.alloc (.cells C 3)).heap.size (w1.alloc (.cells C 3)) ((w1.alloc (.cells C 3)).alloc (.cells D 40)) := (Below.refl _ _).alloc (Nat.le_refl _) _
  have hus := Us.made (B := w1.heap.size + 2) (w := w1.alloc (.cells C 3)) hD
  rw [hs] at hus
  exact ⟨hb.size, (hb.alloc hb.size _).trans (hal.mono (by have := hb.size; omega)), by simp, (Lf.made hC).kept (grown_below hal) (fun e => by cases e), hus, (ownI_nil _ _).toJ, ownI_nil _ _, Apart.nil _, fun _ _ => Apart.nil _, fun _ _ => Apart.nil _⟩
theorem occ_usrN (es : List (Nat × Nat)) (out : List Nat) (n : Nat) (h : n ∉ out) (x : Nat) : cnt es (out ++ [n]) x + occ x (usr es n) = cnt es out x := by rw [occ_usr]; exact cnt_more es out n x h

theorem bs_n (B g o cap : Nat) (R : List Nat) (u : Nat) (w : World) (h : OwnJ B w (.slice (some ⟨g, o, none⟩) R.length cap) (R.map Nat.cast)) (hs : AscN R) (hn : R.length ≤ 1000000) :
    Calls Tryz.prog 33 #[.slice (some ⟨g, o, none⟩) R.length cap, .int .i64 u] w fun e w' =>
      (∃ bb, e = .returned (.tuple #[.int .i64 (lowL ltN u R : Nat), .bool bb])) ∧ Below w.heap.size w w' := by
  have h1 := bs_j B g o cap (R.map Nat.cast) u w (by rw [lt_map]; exact h) (asc_ints hs) (by rw [lt_map]; exact hn)
  rw [lt_map, low_ints hs] at h1
  exact h1
theorem ins_n (B : Nat) (v : Value) (R : List Nat) (u nb : Nat) (w : World) (h : OwnJ B w v (R.map Nat.cast)) (hy : w.heap[nb]? = some (.cells #[.int .i64 (u : Int)] 3 (0, 0))) (hne : v.ownBlock ≠ some nb) (hyb : IB u) (hn : R.length + 1 ≤ 1000000) (hbase : B ≤ w.heap.size) :
    Calls Tryz.prog 34 #[v, .int .i64 (lowL ltN u R : Nat), .slice (some ⟨nb, 0, none⟩) 1 1] w fun e w' => ∃ g o c, e = .returned (.slice (some ⟨g, o, none⟩) (R.length + 1) c) ∧ MoreJ B w v ((putL ltN u R).map Nat.cast) (.slice (some ⟨g, o, none⟩) (R.length + 1) c) w' := by
  refine (ins_j B v (R.map Nat.cast) (lowL ltN u R) u nb w h (by rw [lt_map]; exact lowL_le _ _) hy hne hyb (by rw [lt_map]; exact hn) hbase).mono ?_
  rintro e w' ⟨g, o, c, rfl, _, _, hm⟩
  rw [ins_ints, lt_map] at hm
  exact ⟨g, o, c, by rw [lt_map], hm⟩

set_option maxRecDepth 100000 in
set_option maxHeartbeats 40000000 in
theorem porder_any (v : Value) (ss : List St) (w : World) (hS : Sl StR 3 w v ss) (hn : ss.length ≤ 900000) (hen : (esN (nls ss)).length ≤ 900000) :
    Calls Tryz.prog 13 #[v] w (OrdPN ss w) := by
  obtain ⟨r, c, rfl, _⟩ := id hS
  obtain ⟨_, hl, hm⟩ := sl_len hS
  have HIX := hid (indexes_any _ ss w hS)
  have HST := hid (fun (W : World) (hW : Below w.heap.size w W) => st_at (hS.below stR_mono hW))
  have HNE := hid (fun (hr : rightS ss = true) (W : World) (hW : Below w.heap.size w W) (x : Nat) (hx : x < ss.length) => need_at (hS.below stR_mono hW) hr x hx)
  obtain ⟨i0, hi, hz0, hz1, hz2⟩ := info_parts intinfo
  obtain ⟨C, hC, hCc, hmk⟩ := make_fact (P := Tryz.prog) Tryz.underlying40 hi hz0 hz1 hz2 rfl ss.length (by omega) (by omega)
  obtain ⟨j0, hj, hy0, hy1, hy2⟩ := info_parts slinfo
  obtain ⟨D, hD, hDc, hmk2⟩ := make_fact (P := Tryz.prog) Tryz.underlying78 hj hy0 hy1 hy2 rfl ss.length (by omega) (by omega)
  have HCC := hid hCc
  have HDD := hid hDc
  have HEN := hid hen
  clear hS hCc hC hi hz0 hz1 hz2 hDc hD hj hy0 hy1 hy2 hen
  cases hr : rightS ss
  · rw [hr] at HIX
    have HR := hid (ordU_bad hr)
    go_enter Tryz.func13, Tryz.ntmps13
    go_wp2_with fail
    refine HIX.out.mono ?_
    rintro e w1 ⟨rfl, hb1⟩
    have HB1 := hid hb1
    clear hb1
    go_wp2
    go_ret2
    exact ⟨.slice none 0 0, ret_pair HR.out.2, by rw [HR.out.1]; exact (ownI_nil 0 _).sl, HB1.out⟩
  rw [hr] at HIX
  have HRT := hid hr
  have HN := hid (HNE.out hr)
  have HLT := hid (nd_lt hr)
  have HNL := hid (nls_len ss)
  clear HNE hr
  go_enter Tryz.func13, Tryz.ntmps13
  go_wp2_with fail
  refine HIX.out.mono ?_
  rintro e w1 ⟨rfl, hb1⟩
  have HB1 := hid hb1
  clear hb1 HIX
  have I0 := hid (Og.start (n := ss.length) HB1.out HCC.out HDD.out)
  clear HCC HDD HB1
  go_wp2
  generalize w1.heap.size = M at *
  clear hmk hmk2
  generalize (w1.alloc (.cells C 3)).alloc (.cells D 40) = W1 at *
  generalize hNN : nls ss = N at *
  have HNN := hid hNN
  clear hNN
  go_loopg [6, 28] ss.length (fun gg s6 s28 wr => ∃ (k : Nat) (vs : Nat → Value), k ≤ ss.length ∧ ss.length - k ≤ gg ∧ s28 = .int .i64 k ∧ Hid (Og ss.length M w wr vs (usr (esN (N.take k))) (fun i => if i < k then (nd N i).length else 0) s6 (rdL (List.range k) [] (cnt (esN N) [])) (.slice none 0 0) []))
  case atStart => exact ⟨0, fun _ => .slice none 0 0, by omega, by omega, rfl, hid (by simpa [rdL, esN, show usr ([] : List (Nat × Nat)) = fun _ => [] from rfl] using I0.out)⟩
  case round =>
    clear I0
    obtain ⟨k, vs, hk, hgg, rfl, HI⟩ := hrel
    obtain ⟨r6, c6, hv6, h61, h62⟩ := HI.out.oR.form
    rw [lt_map] at hv6 h61
    subst hv6
    by_cases hlt : k < ss.length
    · obtain ⟨b, o, rn0, cn0, rfl, hb0, g00, g10, g20, hsn, _⟩ := HST.out w (Below.refl _ _) k hlt
      obtain ⟨b', o', rn, cn, hbo, hb', g2', hl3, hm3, hnx⟩ := HN.out w (Below.refl _ _) k hlt
      simp at hbo
      obtain ⟨rfl, rfl⟩ := hbo
      rw [g2'] at g20
      simp at g20
      obtain ⟨hrn, hlen, hcn⟩ := g20
      subst hrn hcn
      have g0 := bget HI.out.bel g00
      have g1 := bget HI.out.bel g10
      have g2 := bget HI.out.bel g2'
      have hb : b < wr.heap.size := by have := HI.out.bel.size; omega
      have HSL := hid hnx
      have HT := hid (HLT.out k)
      have HNLk := hid (show k < N.length by rw [HNL.out]; exact hlt)
      have HTK := hid (esN_take (N := N) HNLk.out)
      have HC0 := hid (cnt_esN0 N HNLk.out)
      have HPL := hid (fun j => pre_len2 (N := N) (j := j) HNLk.out)
      have HKL := hid hlt
      clear hnx hlen g00 g10 g2' hsn hb0 hb'
      generalize (ss[k]).change = chg at *
      generalize (ss[k]).op = opp at *
      generalize hTk : nd N k = T at *
      have HTT := hid hTk
      clear hTk
      have hMlt : M < wr.heap.size := by have := HI.out.sz; omega
      have l0 := HI.out.lf.cell k hlt
      have l1 := HI.out.lf.free k
      have HO1 := hid ((HI.out.setLeft hlt (v' := fun i => if i < k + 1 then (nd N i).length else 0) (z := (T.length : Nat)) (fun i hne => by by_cases h : i < k <;> by_cases h2 : i < k + 1 <;> simp [h, h2] <;> omega) (by simp [HTT.out])).below ((Below.refl _ _).alloc (Nat.le_refl _) (.cells #[.int .i64 chg, .int .i64 opp, .slice rn T.length cn] 48)))
      have c1 : ((wr.setCell ⟨M, k, none⟩ (.int .i64 ((T.length : Nat) : Int))).alloc (.cells #[.int .i64 chg, .int .i64 opp, .slice rn T.length cn] 48)).cell? ⟨wr.heap.size, 2, none⟩ = some (.slice rn T.length cn) := cell_at (by simp [World.setCell]) rfl
      clear HI
      go_wp2
      generalize (wr.setCell ⟨M, k, none⟩ (.int .i64 ((T.length : Nat) : Int))).alloc (.cells #[.int .i64 chg, .int .i64 opp, .slice rn T.length cn] 48) = W2 at *
      clear l0 l1 c1 hMlt
      go_loopg [42] T.length (fun gg s42 wx => ∃ (j : Nat) (us : Nat → Value), j ≤ T.length ∧ T.length - j ≤ gg ∧ s42 = .int .i64 j ∧ Hid (Og ss.length M w wx us (usr (esN (N.take k) ++ (T.take j).map fun y => (k, y))) (fun i => if i < k + 1 then (nd N i).length else 0) (.slice r6 (rdL (List.range k) [] (cnt (esN N) [])).length c6) (rdL (List.range k) [] (cnt (esN N) [])) (.slice none 0 0) []))
      case atStart => exact ⟨0, vs, by omega, by omega, rfl, hid (by simpa using HO1.out)⟩
      case round =>
        clear HO1 g0 g1 g2 hb
        obtain ⟨j, us, hj, hgj, rfl, HJ⟩ := hrel
        by_cases hjl : j < T.length
        · obtain ⟨b4, o4, rfl, hb4, g4, hyn⟩ := HSL.out _ HJ.out.bel j hjl
          have HTJ := hid (show T.take (j + 1) = T.take j ++ [T[j]] from List.take_succ_eq_append_getElem hjl)
          have HPj := hid (HPL.out j)
          have HYN := hid hyn
          generalize T[j] = y at *
          obtain ⟨ru, cu, hv, hu1, hu2⟩ := (HJ.out.us.own y hyn).form
          have k0 := HJ.out.us.cell y hyn
          rw [hv, lt_map] at k0
          rw [lt_map] at hu1
          have HUL := hid (show ((usr (esN (N.take k) ++ (T.take j).map fun y => (k, y)) y).map (Nat.cast : Nat → Int)).length + 1 ≤ 1000000 by rw [lt_map]; have := usr_len (esN (N.take k) ++ (T.take j).map fun y => (k, y)) y; have := HPj.out; have := HEN.out; omega)
          have HJ1 := hid (HJ.out.below ((Below.refl wr.heap.size wr).alloc (Nat.le_refl _) (.cells #[.int .i64 (k : Int)] 3)))
          have HOw := hid (show OwnI (M + 2) (wr.alloc (.cells #[.int .i64 (k : Int)] 3)) (.slice ru (usr (esN (N.take k) ++ (T.take j).map fun y => (k, y)) y).length cu) ((usr (esN (N.take k) ++ (T.take j).map fun y => (k, y)) y).map Nat.cast) from by
            have h := HJ1.out.us.own y hyn
            rw [hv, lt_map] at h
            exact h)
          have HV := hid hv
          have hsz := HJ.out.sz
          have HUU := hid (fun j' => usr_snoc (esN (N.take k) ++ (T.take j).map fun y => (k, y)) k y j')
          unfold maxLen at hu2
          clear hv hyn HJ
          generalize hU : usr (esN (N.take k) ++ (T.take j).map fun y => (k, y)) = U at *
          generalize hUy : U y = Uy at *
          have HUy := hid hUy
          clear hU hUy
          go_wp2_with (at_builtin
                       go_loud (refine app_int rfl _ _ rfl (M + 2) (.slice ru Uy.length cu) (Uy.map Nat.cast) rfl HOw.out wr.heap.size 1 k rfl (fr := (0, 0)) (by exact (MapKept.heap_alloc wr _).1) (ib_nat (by have := HKL.out; omega)) HUL.out (by simp; omega) (wr.heap.size + 1) (by simp) ?_)
                       intro g cap w7 hm7
                       have hm8 : MoreI (M + 2) (wr.alloc (.cells #[.int .i64 (k : Int)] 3)) (us y) ((U y).map Nat.cast ++ [(k : Int)]) (wr.alloc (.cells #[.int .i64 (k : Int)] 3)).heap.size g cap w7 := by
                         rw [HV.out, HUy.out]; simpa using hm7
                       have HU8 := hid (HJ1.out.user HYN.out (len := Uy.length + 1) (by rw [HUy.out]) hm8)
                       have hst := HJ1.out.us.lt
                       have hs1 := grown_cell hm8.2.1 HJ1.out.us.lt (fun q hq e => by have := ((HJ1.out.us.own y HYN.out).lt q hq).1; omega) (HJ1.out.us.cell y HYN.out)
                       have hs2 := (grown_frozen (o := y) hm8.2.1 HJ1.out.us.lt (fun q hq e => by have := ((HJ1.out.us.own y HYN.out).lt q hq).1; omega)).trans (HJ1.out.us.free y)
                       rw [lt_map]
                       clear hm7 hm8)
          go_roundg (T.length - (j + 1))
          case measure => omega
          case rel =>
            have e1 : (fun j' => if j' = y then U j' ++ [k] else U j') = usr (esN (N.take k) ++ (T.take (j + 1)).map fun y => (k, y)) := by
              funext j'
              rw [HTJ.out, List.map_append, ← List.append_assoc]
              have := HUU.out j'
              simp only [List.map_cons, List.map_nil]
              rw [this]
              by_cases e : y = j'
              · subst e; simp
              · rw [if_neg (fun h => e h.symm), if_neg e]
            have h8 := HU8.out
            rw [e1] at h8
            exact ⟨j + 1, _, by omega, by omega, by go_num, hid h8⟩
        · have hje : j = T.length := by omega
          have HJ2 := hid (show Og ss.length M w wr us (usr (esN (N.take (k + 1)))) (fun i => if i < k + 1 then (nd N i).length else 0) (.slice r6 (rdL (List.range k) [] (cnt (esN N) [])).length c6) (rdL (List.range k) [] (cnt (esN N) [])) (.slice none 0 0) [] from by
            have h := HJ.out
            rw [hje, List.take_length] at h
            rw [HTK.out]
            exact h)
          have HRS := hid (show rdL (List.range (k + 1)) [] (cnt (esN N) []) = rdL (List.range k) [] (cnt (esN N) []) ++ if T.length = 0 then [k] else [] from by
            rw [List.range_succ, rdL_snocN, HC0.out])
          clear hje HJ hj
          have l0 := HJ2.out.lf.cell k HKL.out
          simp only [if_pos (Nat.lt_succ_self k), HTT.out] at l0
          have HRL := hid (show ((rdL (List.range k) [] (cnt (esN N) [])).map (Nat.cast : Nat → Int)).length + 1 ≤ 1000000 by rw [lt_map]; have := rdL_lenN (List.range k) [] (cnt (esN N) []); simp at this; omega)
          generalize rdL (List.range k) [] (cnt (esN N) []) = R at *
          by_cases h0 : T.length = 0
          · have e0 : ((T.length : Int) == 0) = true := by simp [h0]
            have HJ1 := hid (HJ2.out.below ((Below.refl wr.heap.size wr).alloc (Nat.le_refl _) (.cells #[.int .i64 (k : Int)] 3)))
            have HRS1 := hid (HRS.out.trans (by rw [if_pos h0]))
            have hsz := HJ2.out.sz
            clear h0 HRS
            go_wp2_with (at_builtin
                         go_loud (refine app_j rfl _ _ rfl (M + 2) (.slice r6 R.length c6) (R.map Nat.cast) rfl HJ1.out.oR wr.heap.size 1 k rfl (fr := (0, 0)) (by exact (MapKept.heap_alloc wr _).1) (ib_nat (by have := HKL.out; omega)) HRL.out (by simp; omega) ?_)
                         intro v7 w7 hm7
                         have HM7 := hid (HJ1.out.ready (R' := R ++ [k]) (by rw [List.map_append, List.map_singleton]; exact hm7))
                         clear hm7)
            go_roundg (ss.length - (k + 1))
            case measure => omega
            case rel =>
              have h8 := HM7.out
              rw [← HRS1.out] at h8
              exact ⟨k + 1, us, by omega, by omega, by go_num, hid h8⟩
          · have e0 : ((T.length : Int) == 0) = false := by simp [h0]
            have HRS1 := hid (HRS.out.trans (by rw [if_neg h0, List.append_nil]))
            clear h0 HRS
            go_wp2
            go_roundg (ss.length - (k + 1))
            case measure => omega
            case rel =>
              exact ⟨k + 1, us, by omega, by omega, by go_num, hid (by rw [HRS1.out]; exact HJ2.out)⟩
    · have hke : k = ss.length := by omega
      subst hke
      have I1 := hid (show Og ss.length M w wr vs (usr (esN N)) (cnt (esN N) []) (.slice r6 (rdL (List.range ss.length) [] (cnt (esN N) [])).length c6) (rdL (List.range ss.length) [] (cnt (esN N) [])) (.slice none 0 0) [] from by
        have h := HI.out
        rw [show N.take ss.length = N by rw [← HNL.out, List.take_length]] at h
        exact h.congrV (fun i hi => by simp only [if_pos hi]; exact cnt_esN0 N (by rw [HNL.out]; exact hi)))
      have L0 := hid (Lst.start (List.range ss.length) (esN N))
      have HUB := hid (show ∀ x u, u ∈ usr (esN N) x → u < ss.length ∧ (u, x) ∈ esN N from fun x u hu => by
        have h := mem_usr.1 hu
        refine ⟨?_, h⟩
        have h2 := mem_esN.1 h
        have h3 : u < N.length := by
          apply Classical.byContradiction
          intro hno
          unfold nd at h2
          rw [List.getD_eq_getElem?_getD, List.getElem?_eq_none (by omega)] at h2
          simp at h2
        rw [← HNL.out]; exact h3)
      have HES := hid (show ∀ x, (usr (esN N) x).length ≤ 900000 from fun x => Nat.le_trans (usr_len _ _) HEN.out)
      have HOX := hid (show (∀ out, ordF (List.range ss.length) (esN N) (List.range ss.length).length [] = out → out.length < ss.length → ordL ss = [] ∧ ordR ss = 10) ∧ (∀ out, ordF (List.range ss.length) (esN N) (List.range ss.length).length [] = out → ¬ out.length < ss.length → ordL ss = out ∧ ordR ss = 0) from by
        unfold ordL ordR
        rw [if_pos HRT.out, if_pos HRT.out, HNN.out]
        unfold ordOn ordEn
        constructor
        · intro out h1 h2
          rw [h1, List.length_range, if_pos h2, if_pos h2]; exact ⟨rfl, rfl⟩
        · intro out h1 h2
          rw [h1, List.length_range, if_neg h2, if_neg h2]; exact ⟨rfl, rfl⟩)
      clear HI hlt hk
      go_wp2
      clear HRT HST HN HLT
      go_loopg [6, 7] ss.length (fun gg s6 s7 wr => ∃ out, ss.length - out.length ≤ gg ∧ Hid (Og ss.length M w wr vs (usr (esN N)) (cnt (esN N) out) s6 (rdL (List.range ss.length) out (cnt (esN N) out)) s7 out) ∧ Hid (Lst (List.range ss.length) (esN N) out))
      case atStart => exact ⟨[], by simp, I1, L0⟩
      case round =>
        clear I1 L0
        obtain ⟨out, hg, HI, HL⟩ := hrel
        obtain ⟨ro, co, hvo, hro1, hro2⟩ := HI.out.oo.form
        rw [lt_map] at hvo hro1
        subst hvo
        have hoL := HL.out.len
        rw [List.length_range] at hoL
        cases hR : rdL (List.range ss.length) out (cnt (esN N) out) with
        | nil =>
          have hoR := HI.out.oR
          rw [hR] at hoR
          obtain ⟨rr, cr, hvr, hrr1, hrr2⟩ := hoR.form
          rw [lt_map] at hvr hrr1
          subst hvr
          have HF := hid (HL.out.fin hR)
          have HOO := hid HI.out.oo.sl
          have HBB := hid HI.out.bel
          clear hR hoR HI HL
          by_cases hlast : out.length < ss.length
          · have HX := hid (HOX.out.1 out HF.out hlast)
            have hlz : (out.length : Int) < (ss.length : Int) := by omega
            go_wp2
            go_ret2
            exact ⟨.slice none 0 0, ret_pair HX.out.2, by rw [HX.out.1]; exact (ownI_nil 0 _).sl, HBB.out⟩
          · have HX := hid (HOX.out.2 out HF.out hlast)
            have hlz : ¬ (out.length : Int) < (ss.length : Int) := by omega
            go_wp2
            go_ret2
            exact ⟨.slice ro out.length co, ret_pair HX.out.2, by rw [HX.out.1]; exact HOO.out, HBB.out⟩
        | cons n R =>
          obtain ⟨L1, hnn1, hno1⟩ := HL.out.more hR
          have HL1 := hid L1
          have hnl : n < ss.length := List.mem_range.1 hnn1
          have HNl := hid hnl
          have HNo := hid hno1
          have hPop := rd_pop (range_asc ss.length) hR
          have hR0 := (mem_rdL.1 (show n ∈ rdL (List.range ss.length) out (cnt (esN N) out) by rw [hR]; simp)).2.2
          have HC0 := hid (cnt_zero.1 hR0)
          have HCls := hid HL.out.cls
          have hoR := HI.out.oR
          rw [hR, List.map_cons] at hoR
          obtain ⟨g, o, cap, rfl, hc1, hc2, hcell, _⟩ := hoR.head
          have hTL := hoR.tail
          rw [lt_map] at hc1 hTL
          have HPP := hid (show ∀ v0, v0.ownBlock = some g → OwnJ (M + 2) wr v0 (R.map Nat.cast) → Og ss.length M w wr vs (usr (esN N)) (cnt (esN N) out) v0 R (.slice ro out.length co) out from fun v0 hb0 h0 => HI.out.pop h0 (by rw [hb0]; simp [Value.ownBlock]))
          have hgoal2 : ∃ v0, (cap = 1 ∧ v0 = .slice (some ⟨g, o, none⟩) 0 0 ∧ OwnJ (M + 2) wr v0 (R.map Nat.cast)) ∨ (¬ cap = 1 ∧ v0 = .slice (some ⟨g, o + 1, none⟩) R.length (cap - 1) ∧ OwnJ (M + 2) wr v0 (R.map Nat.cast)) := by
            by_cases h : cap = 1
            · exact ⟨_, Or.inl ⟨h, rfl, (hTL.2 h).2⟩⟩
            · exact ⟨_, Or.inr ⟨h, rfl, hTL.1 h⟩⟩
          have HOn := hid (show (out.map (Nat.cast : Nat → Int)).length + 1 ≤ 1000000 by rw [lt_map]; omega)
          have HOL := hid (show out.length + 1 ≤ ss.length by have := L1.len; simpa using this)
          have HVal := hid (show ∀ u, u ∈ usr (esN N) n → u < ss.length ∧ u ∉ out ++ [n] from fun u hu => by
            obtain ⟨h0, h1⟩ := HUB.out n u hu
            refine ⟨h0, fun h2 => ?_⟩
            rw [List.mem_append, List.mem_singleton] at h2
            rcases h2 with h2 | h2
            · exact hno1 (HCls.out _ h1 h2)
            · subst h2; exact hno1 (HC0.out _ h1 rfl))
          have HOc := hid (occ_usrN (esN N) out n hno1)
          have HTl := hid (HES.out n)
          have hsz := HI.out.sz
          have HPop := hid hPop
          obtain ⟨rT, cT, hvT, hT1, hT2⟩ := (HI.out.us.own n hnl).form
          rw [lt_map] at hvT hT1
          have HVT := hid hvT
          have hRL : R.length + 1 = (rdL (List.range ss.length) out (cnt (esN N) out)).length := by rw [hR]; rfl
          simp only [List.length_map]
          clear hR L1 hnn1 hno1 hPop hR0 HC0 HCls hoR hTL HI HL hvT hRL
          obtain ⟨v0, hv0⟩ := hgoal2
          unfold maxLen at hT2
          rcases hv0 with ⟨hcap, hv0, hown⟩ | ⟨hcap, hv0, hown⟩ <;> (
            have HP0 := hid (HPP.out v0 (by rw [hv0]; rfl) hown)
            have HV := hid hv0
            clear hv0 hown HPP
            try subst hcap
            have HJ1 := hid (HP0.out.below ((Below.refl wr.heap.size wr).alloc (Nat.le_refl _) (.cells #[.int .i64 (n : Int)] 3)))
            clear HP0
            go_wp2_with (at_builtin
                         go_loud (refine app_int rfl _ _ rfl (M + 2) (.slice ro out.length co) (out.map Nat.cast) rfl HJ1.out.oo wr.heap.size 1 n rfl (fr := (0, 0)) (by exact (MapKept.heap_alloc wr _).1) (ib_nat (by have := HNl.out; omega)) HOn.out (by simp; omega) (wr.heap.size + 1) (by simp) ?_)
                         intro g9 cap9 w9 hm9
                         have HJ9 := hid (HJ1.out.list (x := n) (len := out.length + 1) (by omega) (by simpa using hm9))
                         have hu9 := HJ9.out.us.cell n HNl.out
                         rw [HVT.out] at hu9
                         rw [lt_map]
                         clear hm9)
            rw [← HV.out]
            have J0 := hid (show Og ss.length M w w9 vs (usr (esN N)) (fun x => cnt (esN N) out x - occ x ((usr (esN N) n).take 0)) v0 (rdL (List.range ss.length) (out ++ [n]) (fun x => cnt (esN N) out x - occ x ((usr (esN N) n).take 0))) (.slice (some ⟨g9, 0, none⟩) (out.length + 1) cap9) (out ++ [n]) from by
              have e0 : (fun x => cnt (esN N) out x - occ x ((usr (esN N) n).take 0)) = cnt (esN N) out := by funext x; simp [occ]
              rw [e0, ← HPop.out]
              exact HJ9.out)
            have hv0 : ∃ g o len c, v0 = .slice (some ⟨g, o, none⟩) len c := by rw [HV.out]; exact ⟨_, _, _, _, rfl⟩
            have HV0 := hid hv0
            clear hv0 HJ9 HJ1 HPop hcell hc1 hc2 HV
            generalize hT : usr (esN N) n = T at *
            have HTT := hid hT
            clear hT
            go_loopg [6, 84] T.length (fun gg s6 s84 wr => ∃ k : Nat, k ≤ T.length ∧ T.length - k ≤ gg ∧ s84 = .int .i64 k ∧ Hid (∃ g o len c, s6 = .slice (some ⟨g, o, none⟩) len c) ∧ Hid (Og ss.length M w wr vs (usr (esN N)) (fun x => cnt (esN N) out x - occ x (T.take k)) s6 (rdL (List.range ss.length) (out ++ [n]) (fun x => cnt (esN N) out x - occ x (T.take k))) (.slice (some ⟨g9, 0, none⟩) (out.length + 1) cap9) (out ++ [n])))
            case atStart => exact ⟨0, by omega, by omega, rfl, HV0, J0⟩
            case round =>
              clear J0 hu9 HV0
              obtain ⟨k, hk, hgk, rfl, HV6, HJ⟩ := hrel
              obtain ⟨g6, o6, n6, c6, hs6⟩ := HV6.out
              subst hs6
              obtain ⟨r6, c6', hv6, h61, h62⟩ := HJ.out.oR.form
              rw [lt_map] at hv6 h61
              simp at hv6
              obtain ⟨hv6a, hv6b, hv6c⟩ := hv6
              subst hv6a hv6b hv6c
              by_cases hlt : k < T.length
              · have hsl := (HJ.out.us.own n HNl.out).sl
                rw [HVT.out, HTT.out] at hsl
                obtain ⟨b3, o3, rfl, hb3, g3, _⟩ := int_at hsl k (by rw [lt_map]; exact hlt)
                rw [List.getElem_map] at g3
                have HTk := hid (show T.take (k + 1) = T.take k ++ [T[k]] from List.take_succ_eq_append_getElem hlt)
                have hval := HVal.out T[k] (List.getElem_mem hlt)
                have hoc1 := occ_take_le T[k] T (k + 1)
                rw [HTk.out, occ_snoc, if_pos rfl] at hoc1
                have hoc2 := HOc.out T[k]
                have hcl := cnt_le (esN N) out T[k]
                have HUo := hid hval.2
                have HUl := hid hval.1
                clear hsl
                generalize T[k] = u at *
                have HDec := hid (show (fun x => cnt (esN N) out x - occ x (T.take (k + 1))) = decV (fun x => cnt (esN N) out x - occ x (T.take k)) u from by
                  funext x
                  unfold decV
                  rw [HTk.out, occ_snoc]
                  by_cases e : x = u
                  · subst e
                    rw [if_pos rfl, if_pos rfl]
                    show cnt (esN N) out x - (occ x (T.take k) + 1) = cnt (esN N) out x - occ x (T.take k) - 1
                    omega
                  · rw [if_neg (fun h => e h.symm), if_neg e]; rfl)
                have hm1 : 1 ≤ cnt (esN N) out u - occ u (T.take k) := by omega
                have hm2 : cnt (esN N) out u - occ u (T.take k) ≤ 900000 := by have := HEN.out; omega
                generalize hvk : (fun x => cnt (esN N) out x - occ x (T.take k)) = vk at *
                have hmk : vk u = cnt (esN N) out u - occ u (T.take k) := by rw [← hvk]
                rw [← hmk] at hm1 hm2
                have l0 := HJ.out.lf.cell u HUl.out
                have l1 := HJ.out.lf.free u
                have hMlt := HJ.out.lf.lt
                have hb3M : b3 ≠ M := by
                  have := (HJ.out.us.own n HNl.out).lt b3 (by rw [HVT.out]; rfl)
                  omega
                clear hval hoc1 hoc2 hcl hvk hmk HTk
                by_cases hm : vk u = 1
                · have HPut := hid (show rdL (List.range ss.length) (out ++ [n]) (decV vk u) = putL ltN u (rdL (List.range ss.length) (out ++ [n]) vk) from rd_put (range_asc _) (List.mem_range.2 HUl.out) HUo.out hm)
                  rw [hm] at l0
                  have l0 : wr.cell? ⟨M, u, none⟩ = some (.int .i64 1) := l0
                  have s0 : (wr.setCell ⟨M, u, none⟩ (.int .i64 0)).cell? ⟨M, u, none⟩ = some (.int .i64 0) := scell_same l0
                  have HJ1 := hid (HJ.out.setLeft HUl.out (v' := decV vk u) (z := 0) (fun i hi => by unfold decV; rw [if_neg hi]) (by unfold decV; rw [if_pos rfl, hm]; rfl))
                  have HRl := hid (show (rdL (List.range ss.length) (out ++ [n]) vk).length + 1 ≤ 1000000 by have := rdL_lenN (List.range ss.length) (out ++ [n]) vk; simp at this; omega)
                  have HAs := hid (rdL_asc (range_asc ss.length) (out ++ [n]) vk)
                  have e0 : ((1 : Int) - 1) = 0 := by omega
                  clear hm hm1 hm2 HJ
                  generalize rdL (List.range ss.length) (out ++ [n]) vk = R6 at *
                  go_wp2_with (first
                    | (go_at_call 33
                       go_loud (refine (bs_n (M + 2) g6 o6 c6 R6 u _ HJ1.out.oR HAs.out (by have := HRl.out; omega)).mono ?_)
                       rintro e w11 ⟨⟨bb, rfl⟩, hb11⟩
                       have HJ11 := hid (HJ1.out.below (hb11.trans ((show Below w11.heap.size w11 (w11.alloc (.cells #[.int .i64 (u : Int)] 3)) from (Below.refl _ _).alloc (Nat.le_refl _) _).mono hb11.size)))
                       have HZ11 := hid (show ∀ q, (Value.slice (some ⟨g6, o6, none⟩) R6.length c6).ownBlock = some q → q < w11.heap.size from fun q hq => Nat.lt_of_lt_of_le (HJ1.out.oR.lt q hq).2 hb11.size)
                       clear hb11)
                    | (go_at_call 34
                       go_loud (refine (ins_n (M + 2) (.slice (some ⟨g6, o6, none⟩) R6.length c6) R6 u w11.heap.size _ HJ11.out.oR (by exact (MapKept.heap_alloc w11 _).1) (fun e => by have := HZ11.out _ e; omega) (ib_nat (by have := HUl.out; omega)) HRl.out HJ11.out.sz).mono ?_)
                       rintro e w13 ⟨g13, o13, c13, rfl, hm13⟩
                       have HJ13 := hid (HJ11.out.ready hm13)
                       clear hm13))
                  go_roundg (T.length - (k + 1))
                  case measure => omega
                  case rel =>
                    refine ⟨k + 1, by omega, by omega, by go_num, hid ⟨_, _, _, _, rfl⟩, ?_⟩
                    rw [HDec.out, HPut.out]
                    exact HJ13
                · have hm3 : 2 ≤ vk u := by omega
                  have HSame := hid (show rdL (List.range ss.length) (out ++ [n]) (decV vk u) = rdL (List.range ss.length) (out ++ [n]) vk from rd_same hm3)
                  have HJ1 := hid (HJ.out.setLeft HUl.out (v' := decV vk u) (z := (vk u : Nat) - 1) (fun i hi => by unfold decV; rw [if_neg hi]) (by unfold decV; rw [if_pos rfl]; omega))
                  have s0 : (wr.setCell ⟨M, u, none⟩ (.int .i64 (((vk u : Nat) : Int) - 1))).cell? ⟨M, u, none⟩ = some (.int .i64 (((vk u : Nat) : Int) - 1)) := scell_same l0
                  have e0 : ((((vk u : Nat) : Int) - 1) == 0) = false := by simp; omega
                  clear hm hm1 HJ
                  generalize vk u = m at *
                  go_wp2
                  go_roundg (T.length - (k + 1))
                  case measure => omega
                  case rel =>
                    refine ⟨k + 1, by omega, by omega, by go_num, hid ⟨_, _, _, _, rfl⟩, ?_⟩
                    rw [HDec.out, HSame.out]
                    exact HJ1
              · have hke : k = T.length := by omega
                have HK := hid hke
                clear hke
                go_wp2
                go_roundg (ss.length - (out ++ [n]).length)
                case measure => have := HOL.out; simp; omega
                case rel =>
                  have j := HJ.out
                  have e : (fun x => cnt (esN N) out x - occ x (T.take k)) = cnt (esN N) (out ++ [n]) := by
                    funext x
                    rw [HK.out, List.take_length]
                    have := HOc.out x
                    omega
                  rw [e] at j ⊢
                  exact ⟨out ++ [n], Nat.le_refl _, hid (by simpa using j), HL1⟩)
end Go.Proofs.YtpnogmicfomofaaGreatDoor.Stp
