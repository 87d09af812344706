import Derived.Test.YtlhekldlfmdmiaaGm
import Derived.Test.YtlhekldlfmdmiaaGr
/-
  The program's Order. Conditions: those ahead of each theorem.
-/
namespace Go.Proofs.Ytlhekldlfmdmiaa
open Go.RowKit Go.Sort Go.Lib Go.Maps
open Go.Lib (hid)
set_option linter.unusedVariables false
set_option linter.unusedSimpArgs false

/-- What is waited for, as the map's function. -/
def wF (ns out : List ByteArray) (v : ByteArray → Nat) : ByteArray → Option Value := fun x => if (hasS x ns && !hasS x out) = true then some (.int .i64 (v x : Nat)) else none
theorem wF_in {ns out : List ByteArray} {v : ByteArray → Nat} {x : ByteArray} (h1 : x ∈ ns) (h2 : x ∉ out) : wF ns out v x = some (.int .i64 (v x : Nat)) := by
  unfold wF; rw [if_pos]; rw [hasS_iff.2 h1, hasS_false h2]; rfl
theorem wF_outN {ns out : List ByteArray} {v : ByteArray → Nat} {x : ByteArray} (h1 : x ∉ ns) : wF ns out v x = none := by
  unfold wF; rw [if_neg]; rw [hasS_false h1]; simp
theorem wF_node (ns : List ByteArray) (y : ByteArray) : upd (wF ns [] fun _ => 0) y (some (.int .i64 0)) = wF (ns ++ [y]) [] fun _ => 0 := by
  funext x
  by_cases e : x = y
  · subst e; rw [upd_same, wF_in (by simp) (by simp)]; rfl
  · rw [upd_other _ _ e]; unfold wF; rw [hasS_app]; have : hasS x [y] = false := hasS_false (by simp [e]); rw [this, Bool.or_false]
theorem wF_set {ns out : List ByteArray} {v v' : ByteArray → Nat} {u : ByteArray} (h1 : u ∈ ns) (h2 : u ∉ out) (hv : ∀ x, x ≠ u → v' x = v x) {z : Int} (hz : z = (v' u : Nat)) : upd (wF ns out v) u (some (.int .i64 z)) = wF ns out v' := by
  subst hz
  funext x
  by_cases e : x = u
  · subst e; rw [upd_same, wF_in h1 h2]
  · rw [upd_other _ _ e]; unfold wF; rw [hv x e]
theorem wF_del {ns out : List ByteArray} {v : ByteArray → Nat} {n : ByteArray} : upd (wF ns out v) n none = wF ns (out ++ [n]) v := by
  funext x
  by_cases e : x = n
  · subst e; rw [upd_same]; unfold wF; rw [if_neg]; rw [hasS_app]; have : hasS x [x] = true := hasS_iff.2 (by simp); rw [this]; simp
  · rw [upd_other _ _ e]; unfold wF; rw [hasS_app]; have : hasS x [n] = false := hasS_false (by simp [e]); rw [this, Bool.or_false]
theorem rdL_snoc (l : List ByteArray) (y : ByteArray) (v : ByteArray → Nat) : rdL (l ++ [y]) [] v = rdL l [] v ++ if v y = 0 then [y] else [] := by
  unfold rdL
  rw [List.filter_append, List.filter_cons]
  have : hasS y [] = false := rfl
  rw [this]
  by_cases h : v y = 0 <;> simp [h]
theorem rdL_len (l out : List ByteArray) (v : ByteArray → Nat) : (rdL l out v).length ≤ l.length := List.length_filter_le _ _
/-- The order, or the error. -/
def ordO (ns : List ByteArray) (es : List Ed) : List ByteArray := if (ordF ns es ns.length []).length < ns.length then [] else ordF ns es ns.length []
def ordE (ns : List ByteArray) (es : List Ed) : Int := if (ordF ns es ns.length []).length < ns.length then 10 else 0
def OrdP (ns : List ByteArray) (es : List Ed) (w : World) (e : Ending) (w' : World) : Prop :=
  ∃ v, e = .returned (.tuple #[v, .int .i64 (ordE ns es)]) ∧ Sl StrR 1 w' v (ordO ns es) ∧ Below w.heap.size w w'
/-- At the head of the loop of those that are ready. -/
structure OrdI (ns : List ByteArray) (es : List Ed) (B bw : Nat) (w w6 wr : World) (vR vo : Value) (out : List ByteArray) : Prop where
  bel : Below w.heap.size w wr
  gr : w6.grownBy wr (some bw)
  map : OwnF wr Try.prog 9 strLit bw (ns.length - out.length) (ns.length - out.length) (wF ns out (cnt es out))
  oR : OwnS B wr vR (rdL ns out (cnt es out))
  oo : OwnS B wr vo out
  ap : Apart vR vo
/-- .. in the midst of one that has been listed. -/
structure OrdJ (ns : List ByteArray) (B bw : Nat) (w w6 wr : World) (vR vo : Value) (out : List ByteArray) (v : ByteArray → Nat) : Prop where
  bel : Below w.heap.size w wr
  gr : w6.grownBy wr (some bw)
  map : OwnF wr Try.prog 9 strLit bw (ns.length - out.length) (ns.length - out.length) (wF ns out v)
  oR : OwnS B wr vR (rdL ns out v)
  oo : OwnS B wr vo out
  ap : Apart vR vo
theorem ret_pair {v : Value} {a b : Int} (h : a = b) : Ending.returned (.tuple #[v, .int .i64 b]) = .returned (.tuple #[v, .int .i64 a]) := by rw [h]
theorem grown_two {w6 wr w' : World} {bw : Nat} {row : Option Nat} (h : w6.grownBy wr (some bw)) (hg : wr.grownBy w' row) (hr : ∀ g, row = some g → g = bw ∨ w6.heap.size ≤ g) : w6.grownBy w' (some bw) :=
  ⟨hg.os.trans h.os, hg.tape.trans h.tape, hg.output.trans h.output, Nat.le_trans h.size hg.size, fun k hk hne => (hg.block k (Nat.lt_of_lt_of_le hk h.size) (fun e => by
    rcases hr k e.symm with e' | e'
    · exact hne (by rw [e'])
    · omega)).trans (h.block k hk hne)⟩
theorem Grp.look6 {B : Nat} {w6 : World} {b n bw : Nat} {F : ByteArray → List ByteArray} (h : Grp B w6 b n F) (h1 : bw ≠ b) (h2 : bw < B) (x : ByteArray) (hx : x.size ≤ maxLen) :
    ∃ r c, (F x).length ≤ c ∧ c ≤ 9223372036854775807 ∧ ∀ W, w6.grownBy W (some bw) → (Instr.lookup 52 (.map (some b)) (.string x) false).run Try.prog W = .ok (.slice r (F x).length c) W ∧ Sl StrR 1 W (.slice r (F x).length c) (F x) := by
  obtain ⟨c0, f, h3, h4, h5⟩ := h.ex
  obtain ⟨r, c, hv, hc1, hc2⟩ := (h4 x).form
  unfold maxLen at hc2
  refine ⟨r, c, hc1, by omega, fun W hW => ?_⟩
  obtain ⟨c0', f', h3', h4', _⟩ := (h.kept hW h1 h2).ex
  have k1 := (h3.kept hW (by simp; exact fun e => h1 e.symm)).look (strT Try.underlying9) Try.underlying52 (zsl W) x hx
  rw [hv] at k1
  have k2 := ((h4 x).kept hW (fun g hg e => by cases e; have := ((h4 x).lt _ hg).1; omega)).sl
  rw [hv] at k2
  exact ⟨k1, k2⟩

set_option maxRecDepth 100000 in
set_option maxHeartbeats 4000000 in
theorem order_any (vn : Value) (ns : List ByteArray) (es : List Ed) (ve : Value) (w : World) (hN : Sl StrR 1 w vn ns) (hS : Sl EdR 2 w ve es) (ha : AscB ns) (he : endsIn ns es = true) (hnn : ns.length ≤ 100000) (hn : es.length ≤ 100000) :
    Calls Try.prog 12 #[.agg #[vn, ve]] w (OrdP ns es w) := by
  obtain ⟨r, c, rfl, _⟩ := id hS
  obtain ⟨rn, cn, rfl, _⟩ := id hN
  obtain ⟨_, hl, hm⟩ := sl_len hS
  obtain ⟨_, hl1, hm1⟩ := sl_len hN
  have HE := hid (fun (W : World) (hW : Below w.heap.size w W) => ed_at (hS.below edR_mono hW))
  have HEs := hid (fun (W : World) (hW : Below w.heap.size w W) => hS.below edR_mono hW)
  have HN := hid (fun (W : World) (hW : Below w.heap.size w W) => str_at (hN.below strR_mono hW))
  have HNs := hid (fun (W : World) (hW : Below w.heap.size w W) => hN.below strR_mono hW)
  have HA := hid ha
  have HNod := hid (asc_nodup stoB ha)
  have HIn := hid (show ∀ e ∈ es, e.1 ∈ ns ∧ e.2 ∈ ns from fun e hh => by
    unfold endsIn at he
    have := List.all_eq_true.1 he e hh
    rw [Bool.and_eq_true] at this
    exact ⟨hasS_iff.1 this.1, hasS_iff.1 this.2⟩)
  clear hS hN ha he
  have hmm := fun W => mk_map 51 Try.underlying51 ns.length W
  have T := strT (P := Try.prog) (k := 9) Try.underlying9
  have HB0 := hid (show Below w.heap.size w ((w.alloc (.cells #[.slice rn ns.length cn, .slice r es.length c] 25)).alloc (.map #[] 0)) from ((Below.refl _ _).alloc (Nat.le_refl _) _).alloc (by simp) _)
  have HO0 := hid (show OwnF ((w.alloc (.cells #[.slice rn ns.length cn, .slice r es.length c] 25)).alloc (.map #[] 0)) Try.prog 9 strLit (w.heap.size + 1) 0 0 (wF [] [] fun _ => 0) from by
    have h := OwnF.made (w.alloc (.cells #[.slice rn ns.length cn, .slice r es.length c] 25)) Try.prog 9 strLit
    have e : (fun _ => none : ByteArray → Option Value) = wF [] [] fun _ => 0 := by funext x; rw [wF_outN (by simp)]
    rw [e] at h
    simpa using h)
  have HC0 := hid (show ((w.alloc (.cells #[.slice rn ns.length cn, .slice r es.length c] 25)).alloc (.map #[] 0)).heap[w.heap.size]? = some (.cells #[.slice rn ns.length cn, .slice r es.length c] 25 (0, 0)) from (Below.heap_alloc _ _ _ (by simp)).trans (MapKept.heap_alloc w _).1)
  have z0 := cellv HC0.out 0 rfl
  go_enter Try.func12, Try.ntmps12
  go_wp2
  go_loopw [26] (fun i wr => ∃ k : Nat, k ≤ ns.length ∧ i = .int .i64 k ∧ Below w.heap.size w wr ∧ w.heap.size + 2 ≤ wr.heap.size ∧ Hid (OwnF wr Try.prog 9 strLit (w.heap.size + 1) k k (wF (ns.take k) [] fun _ => 0)) ∧ Hid (wr.heap[w.heap.size]? = some (.cells #[.slice rn ns.length cn, .slice r es.length c] 25 (0, 0)))) (fun i _ => ns.length - (intOf i).toNat)
  case atStart => exact ⟨0, by omega, rfl, HB0.out, by simp, HO0, HC0⟩
  case round =>
    obtain ⟨k, hk, rfl, hbl, hz, HO, HC⟩ := hrel
    have HB := hid hbl
    by_cases hlt : k < ns.length
    · obtain ⟨b, off, rfl, hb, g0, hs⟩ := HN.out _ hbl k hlt
      have HT := hid (show ns.take (k + 1) = ns.take k ++ [ns[k]] from List.take_succ_eq_append_getElem hlt)
      have HNew := hid (show ns[k] ∉ ns.take k from fun hh => by
        have h1 := HNod.out.sublist (List.take_sublist (k + 1) ns)
        rw [HT.out] at h1
        exact (List.nodup_append.1 h1).2.2 _ hh _ (by simp) rfl)
      clear hbl z0
      generalize ns[k] = y at *
      have HS := hid hs
      have HF := hid (show wF (ns.take k) [] (fun _ => 0) y = none from wF_outN HNew.out)
      clear hs
      go_wp2_with (at_mapUpdate
                   refine wpList_store _ rfl _ _ _ 51 rfl T Try.underlying51 (w.heap.size + 1) k k _ rfl HO.out (by unfold maxLen; omega) y (.int .i64 0) rfl rfl HS.out ?_
                   intro w2 ho2 hg2
                   rw [HF.out, wF_node] at ho2
                   have HO2 := hid ho2
                   have HG2 := hid hg2
                   clear ho2 hg2)
      go_round
      case rel => exact ⟨k + 1, by omega, by go_num, Below.grown HB.out HG2.out HB.out.size (fun g hg => by cases hg; omega), by have := HG2.out.size; omega, by rw [HT.out]; exact HO2, own_block HG2.out (fun g hg => by cases hg; omega) HC.out⟩
      case measure => simp [intOf]; omega
    · have hke : k = ns.length := by omega
      have HO2 := hid (show OwnF wr Try.prog 9 strLit (w.heap.size + 1) ns.length ns.length (wF ns [] (cnt (es.take 0) [])) from by
        have h := HO.out
        rw [hke, List.take_length] at h
        exact h)
      clear hke HO hbl z0 HB0 HO0 HC0
      have z1 := cellv HC.out 1 rfl
      go_wp2
      clear z1
      go_loopw [36] (fun i wr => ∃ k : Nat, k ≤ es.length ∧ i = .int .i64 k ∧ Below w.heap.size w wr ∧ w.heap.size + 2 ≤ wr.heap.size ∧ Hid (OwnF wr Try.prog 9 strLit (w.heap.size + 1) ns.length ns.length (wF ns [] (cnt (es.take k) []))) ∧ Hid (wr.heap[w.heap.size]? = some (.cells #[.slice rn ns.length cn, .slice r es.length c] 25 (0, 0)))) (fun i _ => es.length - (intOf i).toNat)
      case atStart => exact ⟨0, by omega, rfl, HB.out, by omega, HO2, HC⟩
      case round =>
        clear HB HO2 HC hz hk hlt
        obtain ⟨k, hk, rfl, hbl, hz, HO, HC⟩ := hrel
        have HB := hid hbl
        by_cases hlt : k < es.length
        · obtain ⟨b, off, rfl, hb, g0, g1, hs0, hs1⟩ := HE.out _ hbl k hlt
          have HT := hid (show es.take (k + 1) = es.take k ++ [es[k]] from List.take_succ_eq_append_getElem hlt)
          have HI1 := hid (HIn.out es[k] (List.getElem_mem hlt)).1
          clear hbl HE
          generalize es[k] = y at *
          obtain ⟨y1, y2⟩ := y
          have HS := hid (show y1.size ≤ maxLen from hs0)
          have HM := hid (show y1 ∈ ns from HI1.out)
          have c0 : (wr.alloc (.cells #[.string y1, .string y2] 43)).cell? ⟨wr.heap.size, 0, none⟩ = some (.string y1) := cell_at rfl rfl
          have HO1 := hid (HO.out.alloc (.cells #[.string y1, .string y2] 43))
          have HB1 := hid (HB.out.alloc HB.out.size (.cells #[.string y1, .string y2] 43))
          have HC1 := hid ((Below.heap_alloc wr (.cells #[.string y1, .string y2] 43) w.heap.size (by omega)).trans HC.out)
          have hv1 : cnt (es.take (k + 1)) [] y1 = cnt (es.take k) [] y1 + 1 := by rw [HT.out, cnt_snoc]; simp [hasS]
          have HV0 := hid (show ∀ x, x ≠ y1 → cnt (es.take (k + 1)) [] x = cnt (es.take k) [] x from fun x hx => by rw [HT.out, cnt_snoc]; simp [Ne.symm hx])
          have HV1 := hid hv1
          have HL := hid (Nat.le_trans (cnt_le (es.take k) [] y1) (show (es.take k).length ≤ 100000 by simp; omega))
          have HF := hid (wF_in (v := cnt (es.take k) []) HM.out (show y1 ∉ [] by simp))
          generalize hmm1 : cnt (es.take k) [] y1 = m1 at *
          have hm1b : m1 ≤ 100000 := HL.out
          have HMM := hid hmm1
          clear hs0 hs1 HI1 hv1 hmm1
          go_wp2_with (first
            | (at_lookup; refine wpList_look _ rfl _ _ 51 rfl T Try.underlying51 (zint _) (w.heap.size + 1) ns.length ns.length _ rfl HO1.out y1 rfl HS.out ?_; rw [HF.out])
            | (at_mapUpdate
               refine wpList_store _ rfl _ _ _ 51 rfl T Try.underlying51 (w.heap.size + 1) ns.length ns.length _ rfl HO1.out (by unfold maxLen; omega) y1 (.int .i64 ((m1 : Int) + 1)) rfl rfl HS.out ?_
               intro w2 ho2 hg2
               rw [HF.out, wF_set (v' := cnt (es.take (k + 1)) []) HM.out (by simp) HV0.out (by rw [HV1.out]; omega)] at ho2
               have HO2 := hid ho2.tight
               have HG2 := hid hg2
               clear ho2 hg2))
          go_round
          case rel => exact ⟨k + 1, by omega, by go_num, Below.grown HB1.out HG2.out HB1.out.size (fun g hg => by cases hg; omega), by have := HG2.out.size; simp at this; omega, HO2, own_block HG2.out (fun g hg => by cases hg; omega) HC1.out⟩
          case measure => simp [intOf]; omega
        · have hke : k = es.length := by omega
          have HO2 := hid (show OwnF wr Try.prog 9 strLit (w.heap.size + 1) ns.length ns.length (wF ns [] (cnt es [])) from by
            have h := HO.out
            rw [hke, List.take_length] at h
            exact h)
          have HRV := hid (reverse_any (.slice rn ns.length cn) ns es (.slice r es.length c) wr (HNs.out _ hbl) (HEs.out _ hbl) (by omega) (by omega))
          have z0 := cellv HC.out 0 rfl
          have z1 := cellv HC.out 1 rfl
          clear hke HO hbl
          go_wp2_with fail
          refine HRV.out.mono ?_
          rintro e w5 ⟨vn5, ve5, rs, rfl, hn5, hs5, hp5, _, hb5⟩
          have HP5 := hid hp5
          have HL5 := hid (show rs.length ≤ 100000 by rw [hp5.length_eq]; simp; omega)
          have HB5 := hid (HB.out.trans (hb5.mono HB.out.size))
          have HO5 := hid (HO2.out.below' hb5)
          have HC5 := hid ((hb5.block w.heap.size (by omega)).trans HC.out)
          have hz5 := hb5.size
          have HNX := hid (next_any vn5 ns rs ve5 w5 hn5 hs5 (by have := HL5.out; omega))
          clear hn5 hs5 hp5 hb5 HO2 HRV z0 z1 HB HC
          go_wp2_with fail
          refine HNX.out.mono ?_
          rintro e w6 ⟨rfl, ⟨n6, hg6⟩, hb6⟩
          have HB6 := hid (HB5.out.trans (hb6.mono HB5.out.size))
          have HO6 := hid (HO5.out.below' hb6)
          have HC6 := hid ((hb6.block w.heap.size (by omega)).trans HC5.out)
          have HG6 := hid hg6
          have hz6 := hb6.size
          have hlt6 : w5.heap.size + 1 < w6.heap.size := by obtain ⟨_, _, h, _⟩ := hg6.ex; exact h.lt
          have z0 := cellv HC6.out 0 rfl
          clear hg6 hb6 HNX HO5 HC5 HB5
          go_wp2
          clear z0 hlt hk hm1 hl1
          go_loopw [10, 52] (fun vR i wr => ∃ k : Nat, k ≤ ns.length ∧ i = .int .i64 k ∧ Below w6.heap.size w6 wr ∧ Hid (OwnS w6.heap.size wr vR (rdL (ns.take k) [] (cnt es [])))) (fun _ i _ => ns.length - (intOf i).toNat)
          case atStart => exact ⟨0, by omega, rfl, Below.refl _ _, ownS_nil _ _⟩
          case round =>
            obtain ⟨k, hk, rfl, hbl, HR⟩ := hrel
            have hbw := HB6.out.trans (hbl.mono HB6.out.size)
            obtain ⟨r7, c7, rfl, h71, h72⟩ := HR.out.form
            by_cases hlt : k < ns.length
            · obtain ⟨b, off, rfl, hb, g0, hs⟩ := HN.out _ hbw k hlt
              have HT := hid (show ns.take (k + 1) = ns.take k ++ [ns[k]] from List.take_succ_eq_append_getElem hlt)
              have HM := hid (List.getElem_mem hlt)
              have HO7 := hid (HO6.out.below' hbl)
              have HBL := hid hbl
              have HLn := hid (show (rdL (ns.take k) [] (cnt es [])).length + 1 ≤ 1000000 by have := rdL_len (ns.take k) [] (cnt es []); simp at this; omega)
              clear hbw HN
              generalize ns[k] = y at *
              have HS := hid hs
              have HF := hid (wF_in (v := cnt es []) HM.out (show y ∉ [] by simp))
              have HRs := hid (rdL_snoc (ns.take k) y (cnt es []))
              clear hs
              generalize cnt es [] y = m at *
              by_cases hm0 : m = 0
              · subst hm0
                have HR1 := hid (HR.out.below ((Below.refl _ _).alloc (Nat.le_refl _) (.cells #[.string y] 9)))
                have HB1 := hid (hbl.alloc hbl.size (.cells #[.string y] 9))
                have hsz := hbl.size
                have HL := hid HR.out.lt
                have HRs2 := hid (show rdL (ns.take (k + 1)) [] (cnt es []) = rdL (ns.take k) [] (cnt es []) ++ [y] by rw [HT.out, HRs.out]; rfl)
                clear hbl
                go_wp2_with (first
                  | (at_lookup; refine wpList_look _ rfl _ _ 51 rfl T Try.underlying51 (zint _) (w.heap.size + 1) ns.length ns.length _ rfl HO7.out y rfl HS.out ?_; rw [HF.out])
                  | (at_builtin; refine app_str rfl _ _ rfl w6.heap.size _ _ rfl HR1.out wr.heap.size 1 y rfl (fr := (0, 0)) (by exact (MapKept.heap_alloc wr _).1) HS.out HLn.out (by simp; omega) (wr.heap.size + 1) (by simp) ?_; intro g cap w7 hm7))
                have HM7 := hid hm7
                clear hm7
                go_wp2
                go_round
                case rel =>
                  obtain ⟨m1, m2, m3, m4⟩ := HM7.out
                  rw [List.length_append, List.length_singleton] at m1
                  exact ⟨k + 1, by omega, by go_num, Below.grown HB1.out m2 HB1.out.size (fun g hg => (HL.out g hg).1), by rw [HRs2.out]; exact m1⟩
                case measure => simp [intOf]; omega
              · have e0 : ((m : Int) == 0) = false := by simp; omega
                have HRs2 := hid (show rdL (ns.take (k + 1)) [] (cnt es []) = rdL (ns.take k) [] (cnt es []) by rw [HT.out, HRs.out, if_neg hm0]; simp)
                have HBL2 := hid hbl
                clear hbl hm0
                go_wp2_with (at_lookup; refine wpList_look _ rfl _ _ 51 rfl T Try.underlying51 (zint _) (w.heap.size + 1) ns.length ns.length _ rfl HO7.out y rfl HS.out ?_; rw [HF.out])
                go_round
                case rel => exact ⟨k + 1, by omega, by go_num, HBL2.out, by rw [HRs2.out]; exact HR⟩
                case measure => simp [intOf]; omega
            · have hke : k = ns.length := by omega
              have HR2 := hid (show OwnS w6.heap.size wr (.slice r7 (rdL (ns.take k) [] (cnt es [])).length c7) (rdL ns [] (cnt es [])) from by
                have h := HR.out
                have e : ns.take k = ns := by rw [hke, List.take_length]
                rw [e] at h ⊢
                exact h)
              have I0 := hid (show OrdI ns es w6.heap.size (w.heap.size + 1) w w6 wr (.slice r7 (rdL (ns.take k) [] (cnt es [])).length c7) (.slice none 0 0) [] from
                ⟨hbw, grown_any (grown_below hbl) _, by have := HO6.out.below' hbl; simpa using this, HR2.out, ownS_nil _ _, Apart.nil _⟩)
              have L0 := hid (Lst.start ns es)
              clear hke hbl hbw HR HR2 HO6
              go_wp2
              have HGL := hid (fun x hx => HG6.out.look6 (bw := w.heap.size + 1) (show w.heap.size + 1 ≠ w5.heap.size + 1 by omega) (by omega) x hx)
              have HTG := hid (fun n x => occ_tg es rs HP5.out n x)
              have HTM := hid (show ∀ n u, u ∈ tgt rs n → (u, n) ∈ es from fun n u hu => by
                have h1 := HP5.out.mem_iff.1 (mem_tgt.1 hu)
                obtain ⟨e, he, h2⟩ := List.mem_map.1 h1
                unfold swapE at h2
                simp at h2
                obtain ⟨rfl, rfl⟩ := h2
                exact he)
              have HTL := hid (fun n => Nat.le_trans (tgt_len rs n) HL5.out)
              clear hlt hk HC6 HP5 HL5 HG6 h71 h72
              go_loopg [10, 11] ns.length (fun gg s10 s11 wr => ∃ out, ns.length - out.length ≤ gg ∧ Hid (OrdI ns es w6.heap.size (w.heap.size + 1) w w6 wr s10 s11 out) ∧ Hid (Lst ns es out))
              case atStart => exact ⟨[], by simp, I0, L0⟩
              case round =>
                clear I0 L0
                obtain ⟨out, hg, HI, HL⟩ := hrel
                obtain ⟨ro, co, rfl, hro1, hro2⟩ := HI.out.oo.form
                have hoL := HL.out.len
                cases hR : rdL ns out (cnt es out) with
                | nil =>
                  have hoR := HI.out.oR
                  rw [hR] at hoR
                  obtain ⟨rr, cr, rfl, hrr1, hrr2⟩ := hoR.form
                  have HF := hid (HL.out.fin hR)
                  have HOO := hid HI.out.oo.sl
                  have HBB := hid HI.out.bel
                  clear hR hoR
                  by_cases hlast : out.length < ns.length
                  · have HX := hid (show ordO ns es = [] ∧ ordE ns es = 10 by unfold ordO ordE; rw [HF.out, if_pos hlast, if_pos hlast]; exact ⟨rfl, rfl⟩)
                    have hz : (0 : Int) < ((ns.length - out.length : Nat) : Int) := by omega
                    have hlen := fun ty => HI.out.map.len Try.underlying51 ty
                    generalize ns.length - out.length = q at *
                    go_wp2
                    go_ret2
                    exact ⟨.slice none 0 0, ret_pair HX.out.2, by rw [HX.out.1]; exact sl_nilS _, HBB.out⟩
                  · have HX := hid (show ordO ns es = out ∧ ordE ns es = 0 by unfold ordO ordE; rw [HF.out, if_neg hlast, if_neg hlast]; exact ⟨rfl, rfl⟩)
                    have hlen := fun ty => HI.out.map.len Try.underlying51 ty
                    have hz : ns.length - out.length = 0 := by omega
                    rw [hz] at hlen
                    clear hz
                    go_wp2
                    go_ret2
                    exact ⟨.slice ro out.length co, ret_pair HX.out.2, by rw [HX.out.1]; exact HOO.out, HBB.out⟩
                | cons n R =>
                  obtain ⟨L1, hnn1, hno1⟩ := HL.out.more hR
                  have HL1 := hid L1
                  have HNn := hid hnn1
                  have HNo := hid hno1
                  have hoR := HI.out.oR
                  rw [hR] at hoR
                  obtain ⟨rr, cr, rfl, hrr1, hrr2⟩ := hoR.form
                  unfold maxLen at hrr2
                  obtain ⟨b0, o0, rfl, hb0, g0, hns⟩ := str_at hoR.sl 0 (by simp)
                  simp only [List.getElem_cons_zero, Nat.add_zero] at g0 hns
                  have HSn := hid hns
                  have HPop := hid (rd_pop HA.out hR)
                  have hR0 := (mem_rdL.1 (show n ∈ rdL ns out (cnt es out) by rw [hR]; simp)).2.2
                  have HC0 := hid (cnt_zero.1 hR0)
                  have HOR := hid hoR
                  have hLB := hoR.lt
                  have HLB := hid hLB
                  have hBw6 := HI.out.gr.size
                  have HCls := hid HL.out.cls
                  clear hR hoR L1 hnn1 hno1 hns hR0 hLB HL
                  obtain ⟨rT, cT, hcT1, hcT2, hlkT⟩ := HGL.out n HSn.out
                  have HLK := hid hlkT
                  have HOn := hid (show out.length + 1 ≤ 1000000 by omega)
                  clear hlkT
                  go_wp2_with (first
                    | (go_at_call 34
                       refine (del_str w6.heap.size _ n R _ HOR.out).mono ?_
                       rintro e w7 ⟨v7, rfl, ho7, hg7, hob7⟩
                       have HO7 := hid ho7
                       have HB7 := hid hob7
                       have HMp7 := hid (HI.out.map.kept hg7 (fun e => by have := (HLB.out _ e.symm).1; omega))
                       have HOO7 := hid (HI.out.oo.kept hg7 (fun g hg e => HI.out.ap g e hg))
                       have HGR7 := hid (grown_two HI.out.gr hg7 (fun g hg => Or.inr (HLB.out g hg).1))
                       have HBL7 := hid (Below.grown HI.out.bel hg7 HI.out.bel.size (fun g hg => by have := (HLB.out g hg).1; omega))
                       clear ho7 hob7 hg7)
                    | (at_delete
                       refine wpList_del _ rfl _ _ 51 rfl T Try.underlying51 (w.heap.size + 1) _ _ _ rfl HMp7.out n rfl HSn.out ?_
                       intro w8 ho8 hg8
                       rw [wF_in HNn.out HNo.out, wF_del] at ho8
                       have HMp8 := hid ((ho8.tight).alloc (.cells #[.string n] 9))
                       have HO8 := hid ((HO7.out.kept hg8 (fun g hg e => by cases e; have := (HO7.out.lt _ hg).1; omega)).below ((Below.refl _ _).alloc (Nat.le_refl _) (.cells #[.string n] 9)))
                       have HOO8 := hid ((HOO7.out.kept hg8 (fun g hg e => by cases e; have := (HOO7.out.lt _ hg).1; omega)).below ((Below.refl _ _).alloc (Nat.le_refl _) (.cells #[.string n] 9)))
                       have HGR8 := hid (grown_two (grown_two HGR7.out hg8 (fun g hg => by cases hg; exact Or.inl rfl)) (grown_below ((Below.refl _ _).alloc (Nat.le_refl _) (.cells #[.string n] 9))) (fun g hg => by cases hg))
                       have HBL8 := hid ((Below.grown HBL7.out hg8 HBL7.out.size (fun g hg => by cases hg; omega)).trans (((Below.refl _ _).alloc (Nat.le_refl _) (.cells #[.string n] 9)).mono (by have h1 := hg8.size; have h2 := HBL7.out.size; omega)))
                       have hz8 : w6.heap.size ≤ w8.heap.size := by have h1 := hg8.size; have h2 := HGR7.out.size; omega
                       have HZ8 := hid hz8
                       clear ho8 hg8 hz8)
                    | (at_builtin
                       refine app_str rfl _ _ rfl w6.heap.size _ out rfl HOO8.out w8.heap.size 1 n rfl (fr := (0, 0)) (by exact (MapKept.heap_alloc w8 _).1) HSn.out HOn.out (by have := HZ8.out; simp; omega) (w8.heap.size + 1) (by simp) ?_
                       intro g cap w9 hm9
                       have hlo := HOO8.out.lt
                       have HGR9 := hid (grown_two HGR8.out hm9.2.1 (fun g hg => Or.inr (hlo g hg).1))
                       have hl9 := (HLK.out w9 HGR9.out).1
                       have HSl := hid (fun W h => (HLK.out W h).2)
                       have HM9 := hid hm9
                       have HLO := hid hlo
                       clear hm9 hlo))
                  obtain ⟨m1, m2, m3, m4⟩ := HM9.out
                  rw [List.length_append, List.length_singleton] at m1
                  have J0 := hid (show OrdJ ns w6.heap.size (w.heap.size + 1) w w6 w9 v7 (.slice (some ⟨g, 0, none⟩) (out.length + 1) cap) (out ++ [n]) (fun x => cnt es out x - occ x ((tgt rs n).take 0)) from by
                    have e0 : (fun x => cnt es out x - occ x ((tgt rs n).take 0)) = cnt es out := by funext x; simp [occ]
                    rw [e0]
                    have hap : Apart v7 (.slice ro out.length co) := fun g hg => HI.out.ap g (by rw [← HB7.out]; exact hg)
                    refine ⟨Below.grown HBL8.out m2 HBL8.out.size (fun g hg => by have := (HLO.out g hg).1; omega), HGR9.out, ?_, ?_, m1, hap.app HO8.out.1 m3 (by simp)⟩
                    · have h := HMp8.out.kept m2 (fun e => by have := (HLO.out _ e.symm).1; omega)
                      have e1 : ns.length - (out ++ [n]).length = ns.length - out.length - 1 := by simp; omega
                      rw [e1]
                      exact h
                    · rw [← HPop.out]
                      exact HO8.out.kept m2 (fun g hg e => hap g hg e))
                  have HVal := hid (show ∀ u, u ∈ tgt rs n → u ∈ ns ∧ u ∉ out ++ [n] from fun u hu => by
                    have h1 := HTM.out n u hu
                    refine ⟨(HIn.out _ h1).1, fun h2 => ?_⟩
                    rw [List.mem_append, List.mem_singleton] at h2
                    rcases h2 with h2 | h2
                    · exact HNo.out (HCls.out _ h1 h2)
                    · subst h2; exact HNo.out (HC0.out _ h1 rfl))
                  have HOc := hid (show ∀ x, cnt es (out ++ [n]) x + occ x (tgt rs n) = cnt es out x from fun x => by
                    rw [← cnt_more es out n x HNo.out]; exact congrArg _ (HTG.out n x))
                  have HTL1 := hid (HTL.out n)
                  clear m1 m2 m3 m4 HM9 HLO HGR8 HBL8 HOO8 HO8 HMp8 HZ8 HBL7 HGR7 HOO7 HMp7 HB7 HO7 HI HOR HPop HC0 HCls HTM HTG HTL HGL HGR9 HLK hrr1 hrr2 hb0 g0 hro1 hro2 HLB hBw6
                  generalize hT : tgt rs n = Tn at *
                  clear hT
                  go_loopg [10, 83] Tn.length (fun gg s10 s83 wr => ∃ k : Nat, k ≤ Tn.length ∧ Tn.length - k ≤ gg ∧ s83 = .int .i64 k ∧ Hid (OrdJ ns w6.heap.size (w.heap.size + 1) w w6 wr s10 (.slice (some ⟨g, 0, none⟩) (out.length + 1) cap) (out ++ [n]) (fun x => cnt es out x - occ x (Tn.take k))))
                  case atStart => exact ⟨0, by omega, by omega, rfl, J0⟩
                  case round =>
                    clear J0 hl9
                    obtain ⟨k, hk, hgk, rfl, HJ⟩ := hrel
                    obtain ⟨rv, cv, rfl, hcv1, hcv2⟩ := HJ.out.oR.form
                    unfold maxLen at hcv2
                    by_cases hlt : k < Tn.length
                    · have hsl := HSl.out wr HJ.out.gr
                      obtain ⟨b3, o3, rfl, hb3, g3, hus⟩ := str_at hsl k hlt
                      have HT := hid (show Tn.take (k + 1) = Tn.take k ++ [Tn[k]] from List.take_succ_eq_append_getElem hlt)
                      have hval := HVal.out Tn[k] (List.getElem_mem hlt)
                      have hoc1 := occ_take_le Tn[k] Tn (k + 1)
                      rw [HT.out, occ_snoc, if_pos rfl] at hoc1
                      have hoc2 := HOc.out Tn[k]
                      have hcl := cnt_le es out Tn[k]
                      clear hsl
                      generalize Tn[k] = u at *
                      have HUs := hid hus
                      have HV1 := hid hval.1
                      have HV2 := hid hval.2
                      have HDec := hid (show (fun x => cnt es out x - occ x (Tn.take (k + 1))) = decV (fun x => cnt es out x - occ x (Tn.take k)) u from by
                        funext x
                        unfold decV
                        rw [HT.out, occ_snoc]
                        by_cases e : x = u
                        · subst e
                          rw [if_pos rfl, if_pos rfl]
                          show cnt es out x - (occ x (Tn.take k) + 1) = cnt es out x - occ x (Tn.take k) - 1
                          omega
                        · rw [if_neg (fun h => e h.symm), if_neg e]; rfl)
                      have hm1 : 1 ≤ cnt es out u - occ u (Tn.take k) := by omega
                      have hm2 : cnt es out u - occ u (Tn.take k) ≤ 100000 := by omega
                      generalize hvk : (fun x => cnt es out x - occ x (Tn.take k)) = vk at *
                      have hmk : vk u = cnt es out u - occ u (Tn.take k) := by rw [← hvk]
                      rw [← hmk] at hm1 hm2
                      have HF := hid (wF_in (v := vk) HV1.out HV2.out)
                      have HLv := hid HJ.out.oR.lt
                      have HZr := hid HJ.out.gr.size
                      have HMp := hid HJ.out.map
                      clear hus hval hoc1 hoc2 hcl hvk hmk HVal HT
                      by_cases hm : vk u = 1
                      · have HPut := hid (show rdL ns (out ++ [n]) (decV vk u) = putL ltB u (rdL ns (out ++ [n]) vk) from rd_put HA.out HV1.out HV2.out hm)
                        rw [hm] at HF
                        have HSet := hid (show upd (wF ns (out ++ [n]) vk) u (some (.int .i64 0)) = wF ns (out ++ [n]) (decV vk u) from wF_set HV1.out HV2.out (fun x hx => by unfold decV; rw [if_neg hx]) (by unfold decV; rw [if_pos rfl, hm]; rfl))
                        have HF2 := hid (show wF ns (out ++ [n]) (decV vk u) u = some (.int .i64 0) from by rw [wF_in HV1.out HV2.out]; unfold decV; rw [if_pos rfl, hm]; rfl)
                        have HRl := hid (show (rdL ns (out ++ [n]) vk).length + 1 ≤ 1000000 by have := rdL_len ns (out ++ [n]) vk; omega)
                        have HAs := hid (rdL_asc HA.out (out ++ [n]) vk)
                        have tok1 : True := trivial
                        clear hm hm1 hm2
                        go_wp2_with (first
                          | (at_lookup; have _t := tok1; refine wpList_look _ rfl _ _ 51 rfl T Try.underlying51 (zint _) (w.heap.size + 1) _ _ _ rfl HMp.out u rfl HUs.out ?_; rw [HF.out]; clear tok1 _t)
                          | (at_mapUpdate
                             refine wpList_store _ rfl _ _ _ 51 rfl T Try.underlying51 (w.heap.size + 1) _ _ _ rfl HMp.out (by unfold maxLen; omega) u (.int .i64 0) rfl rfl HUs.out ?_
                             intro w10 ho10 hg10
                             rw [HF.out, HSet.out] at ho10
                             have HMq := hid ho10.tight
                             have HR10 := hid (HJ.out.oR.kept hg10 (fun g hg e => by cases e; have := (HLv.out _ hg).1; omega))
                             have HO10 := hid (HJ.out.oo.kept hg10 (fun g hg e => by cases e; have := (HJ.out.oo.lt _ hg).1; omega))
                             have HG10 := hid (grown_two HJ.out.gr hg10 (fun g hg => by cases hg; exact Or.inl rfl))
                             have HB10 := hid (Below.grown HJ.out.bel hg10 HJ.out.bel.size (fun g hg => by cases hg; omega))
                             clear ho10 hg10)
                          | (at_lookup; refine wpList_look _ rfl _ _ 51 rfl T Try.underlying51 (zint _) (w.heap.size + 1) _ _ _ rfl HMq.out u rfl HUs.out ?_; rw [HF2.out])
                          | (go_at_call 35
                             refine (bs_str _ _ u _ HR10.out.sl HAs.out (by have := HRl.out; omega)).mono ?_
                             rintro e w11 ⟨bb, rfl, hb11⟩
                             have hal : Below w11.heap.size w11 (w11.alloc (.cells #[.string u] 9)) := (Below.refl _ _).alloc (Nat.le_refl _) _
                             have hb12 := hb11.trans (hal.mono hb11.size)
                             have HMq2 := hid (HMq.out.below' hb12)
                             have HR12 := hid (HR10.out.below hb12)
                             have HO12 := hid (HO10.out.below hb12)
                             have HG12 := hid (grown_two HG10.out (grown_below hb12) (fun g hg => by cases hg))
                             have HB12 := hid (HB10.out.trans (hb12.mono HB10.out.size))
                             have HLw := hid (show ∀ g, (Value.slice rv (rdL ns (out ++ [n]) vk).length cv).ownBlock = some g → w6.heap.size ≤ g ∧ g < w11.heap.size from fun g hg => ((HR10.out.below hb11).lt g hg))
                             have HZ := hid (show w6.heap.size ≤ (w11.alloc (.cells #[.string u] 9)).heap.size from HG12.out.size)
                             clear hb11 hal hb12)
                          | (go_at_call 36
                             refine (ins_str w6.heap.size (rdL ns (out ++ [n]) vk) u (lowL ltB u (rdL ns (out ++ [n]) vk)) _ w11.heap.size _ (lowL_le _ _) HR12.out.1 (by exact (MapKept.heap_alloc w11 _).1) (fun e => by have := (HLw.out _ e).2; omega) HRl.out HZ.out).mono ?_
                             rintro e w13 ⟨g2, cap2, rfl, h1, h2, h3⟩
                             rw [putL_insert, ← HPut.out] at h1
                             have H1 := hid h1
                             have H2 := hid h2
                             have H3 := hid h3
                             clear h1 h2 h3))
                        go_roundg (Tn.length - (k + 1))
                        case measure => omega
                        case rel =>

                          refine ⟨k + 1, by omega, by omega, by go_num, ?_⟩
                          rw [HDec.out]
                          have hlo := HO12.out.lt
                          refine hid ⟨Below.grown HB12.out H2.out HB12.out.size (fun g hg => by have := (HLw.out g hg).1; omega), grown_two HG12.out H2.out (fun g hg => Or.inr (HLw.out g hg).1), HMq2.out.kept H2.out (fun e => by have := (HLw.out _ e.symm).1; omega), ⟨?_, ?_⟩, HO12.out.kept H2.out (fun g hg e => HJ.out.ap g e hg), ?_⟩
                          · exact H1.out
                          · intro x hx
                            have := (mem_rdL.1 hx).1
                            obtain ⟨i, hi, rfl⟩ := List.mem_iff_getElem.1 this
                            exact strs_le (HNs.out _ (Below.refl _ _)) _ (List.getElem_mem hi)
                          · exact (Apart.app HO12.out.1 HJ.out.ap.symm H3.out (Nat.le_refl _)).symm
                      · have hm3 : 2 ≤ vk u := by omega
                        have HSame := hid (show rdL ns (out ++ [n]) (decV vk u) = rdL ns (out ++ [n]) vk from rd_same hm3)
                        have HSet := hid (show upd (wF ns (out ++ [n]) vk) u (some (.int .i64 ((vk u : Nat) - 1 : Int))) = wF ns (out ++ [n]) (decV vk u) from wF_set HV1.out HV2.out (fun x hx => by unfold decV; rw [if_neg hx]) (by unfold decV; rw [if_pos rfl]; omega))
                        have HF2 := hid (show wF ns (out ++ [n]) (decV vk u) u = some (.int .i64 ((vk u : Nat) - 1 : Int)) from by rw [← HSet.out, upd_same])
                        have tok1 : True := trivial
                        have e0 : (((vk u : Nat) : Int) - 1 == 0) = false := by simp; omega
                        clear hm hm1
                        generalize vk u = m at *
                        go_wp2_with (first
                          | (at_lookup; have _t := tok1; refine wpList_look _ rfl _ _ 51 rfl T Try.underlying51 (zint _) (w.heap.size + 1) _ _ _ rfl HMp.out u rfl HUs.out ?_; rw [HF.out]; clear tok1 _t)
                          | (at_mapUpdate
                             refine wpList_store _ rfl _ _ _ 51 rfl T Try.underlying51 (w.heap.size + 1) _ _ _ rfl HMp.out (by unfold maxLen; omega) u (.int .i64 ((m : Int) - 1)) rfl rfl HUs.out ?_
                             intro w10 ho10 hg10
                             rw [HF.out, HSet.out] at ho10
                             have HMq := hid ho10.tight
                             have HR10 := hid (HJ.out.oR.kept hg10 (fun g hg e => by cases e; have := (HLv.out _ hg).1; omega))
                             have HO10 := hid (HJ.out.oo.kept hg10 (fun g hg e => by cases e; have := (HJ.out.oo.lt _ hg).1; omega))
                             have HG10 := hid (grown_two HJ.out.gr hg10 (fun g hg => by cases hg; exact Or.inl rfl))
                             have HB10 := hid (Below.grown HJ.out.bel hg10 HJ.out.bel.size (fun g hg => by cases hg; omega))
                             clear ho10 hg10)
                          | (at_lookup; refine wpList_look _ rfl _ _ 51 rfl T Try.underlying51 (zint _) (w.heap.size + 1) _ _ _ rfl HMq.out u rfl HUs.out ?_; rw [HF2.out]))
                        go_roundg (Tn.length - (k + 1))
                        case measure => omega
                        case rel =>
                          refine ⟨k + 1, by omega, by omega, by go_num, ?_⟩
                          rw [HDec.out]
                          exact hid ⟨HB10.out, HG10.out, HMq.out, by rw [HSame.out]; exact HR10.out, HO10.out, HJ.out.ap⟩
                    · have hke : k = Tn.length := by omega
                      have HK := hid hke
                      clear hke
                      go_wp2
                      go_roundg (ns.length - (out ++ [n]).length)
                      case measure => have := HL1.out.len; simp at this ⊢; omega
                      case rel =>
                        have j := HJ.out
                        have e : (fun x => cnt es out x - occ x (Tn.take k)) = cnt es (out ++ [n]) := by
                          funext x
                          rw [HK.out, List.take_length]
                          have := HOc.out x
                          omega
                        rw [e] at j ⊢
                        exact ⟨out ++ [n], Nat.le_refl _, hid ⟨j.bel, j.gr, j.map, j.oR, j.oo, j.ap⟩, HL1⟩
end Go.Proofs.Ytlhekldlfmdmiaa
