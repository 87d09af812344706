import Derived.Test.YtlhekldlfmdmiaaGv
/-
  The program's Reduce. Conditions: those ahead of each theorem.
-/
namespace Go.Proofs.Ytlhekldlfmdmiaa
open Go.RowKit Go.Sort Go.Lib Go.Maps
open Go.Lib (hid)
set_option linter.unusedVariables false
set_option linter.unusedSimpArgs false

/-- Reached from a target by at least one edge. -/
def FarP (F : ByteArray → List ByteArray) (l : List ByteArray) (x : ByteArray) : Prop := ∃ m ∈ l, ∃ k, Wk F (k + 1) m x
open Classical in
noncomputable def farB (F : ByteArray → List ByteArray) (n x : ByteArray) : Bool := decide (FarP F (F n) x)
theorem farB_iff {F : ByteArray → List ByteArray} {n x : ByteArray} : farB F n x = true ↔ FarP F (F n) x := by unfold farB; simp
noncomputable def redN (F : ByteArray → List ByteArray) (n : ByteArray) (l : List ByteArray) : List Ed := (l.filter fun m => !farB F n m).map fun m => (n, m)
noncomputable def redL (F : ByteArray → List ByteArray) (ns : List ByteArray) : List Ed := ns.flatMap fun n => redN F n (F n)
theorem redL_snoc (F : ByteArray → List ByteArray) (ns : List ByteArray) (n : ByteArray) : redL F (ns ++ [n]) = redL F ns ++ redN F n (F n) := by simp [redL, List.flatMap_append]
theorem redN_snoc (F : ByteArray → List ByteArray) (n : ByteArray) (l : List ByteArray) (m : ByteArray) : redN F n (l ++ [m]) = if farB F n m = true then redN F n l else redN F n l ++ [(n, m)] := by
  unfold redN
  rw [List.filter_append, List.map_append, List.filter_cons]
  by_cases h : farB F n m = true
  · rw [if_pos h, h]; simp
  · rw [if_neg h]; have : farB F n m = false := by simpa using h
    rw [this]; simp
theorem redN_len (F : ByteArray → List ByteArray) (n : ByteArray) (l : List ByteArray) : (redN F n l).length ≤ l.length := by unfold redN; rw [List.length_map]; exact List.length_filter_le _ _
theorem far_rch {F : ByteArray → List ByteArray} {m x : ByteArray} : Rch F (F m) x ↔ ∃ k, Wk F (k + 1) m x := by
  constructor
  · rintro ⟨a, ha, k, hw⟩; exact ⟨k, a, ha, hw⟩
  · rintro ⟨k, a, ha, hw⟩; exact ⟨a, ha, k, hw⟩
theorem filter_two {α : Type} (p : α → Bool) (l : List α) : (l.filter p).length + (l.filter fun x => !p x).length = l.length := by
  induction l with
  | nil => rfl
  | cons x l ih =>
    rw [List.filter_cons, List.filter_cons]
    cases p x <;> simp <;> omega
theorem redL_len (F : ByteArray → List ByteArray) (es : List Ed) (hF : F = tgt es) : ∀ ns : List ByteArray, ns.Nodup → (redL F ns).length ≤ es.length := by
  subst hF
  have hsum : ∀ (ns : List ByteArray) (fs : List Ed), ns.Nodup → (ns.flatMap fun n => tgt fs n).length ≤ fs.length := by
    intro ns fs hn
    induction ns generalizing fs with
    | nil => simp
    | cons n ns ih =>
      rw [List.nodup_cons] at hn
      have h1 := ih (fs.filter fun e => !decide (e.1 = n)) hn.2
      have h2 : (ns.flatMap fun m => tgt (fs.filter fun e => !decide (e.1 = n)) m) = ns.flatMap fun m => tgt fs m := by
        have key : ∀ l : List ByteArray, (∀ m ∈ l, m ≠ n) → (l.flatMap fun m => tgt (fs.filter fun e => !decide (e.1 = n)) m) = l.flatMap fun m => tgt fs m := by
          intro l
          induction l with
          | nil => intro _; rfl
          | cons m l ihl =>
            intro hm
            rw [List.flatMap_cons, List.flatMap_cons, ihl fun x hx => hm x (List.mem_cons_of_mem _ hx)]
            congr 1
            unfold tgt
            rw [List.filter_filter]
            congr 1
            apply List.filter_congr
            intro e _
            by_cases e1 : e.1 = m
            · have hmn : m ≠ n := hm m (by simp)
              simp [e1, hmn]
            · simp [e1]
        exact key ns fun m hm e => hn.1 (e ▸ hm)
      rw [h2] at h1
      rw [List.flatMap_cons, List.length_append]
      have h3 : (tgt fs n).length + (fs.filter fun e => !decide (e.1 = n)).length = fs.length := by
        unfold tgt
        rw [List.length_map]
        exact filter_two (fun e : Ed => decide (e.1 = n)) fs
      omega
  intro ns hn
  refine Nat.le_trans ?_ (hsum ns es hn)
  unfold redL
  clear hn hsum
  induction ns with
  | nil => simp
  | cons n ns ih =>
    rw [List.flatMap_cons, List.flatMap_cons, List.length_append, List.length_append]
    have := redN_len (tgt es) n (tgt es n)
    omega
theorem OwnE.ne_map {B : Nat} {w : World} {v : Value} {xs : List Ed} (h : OwnE B w v xs) {κ : Type} {P : Program} {k : TypeId} {lit : κ → Lit} {b n c : Nat} {f : κ → Option Value} (hf : OwnF w P k lit b n c f) : ∀ g, v.ownBlock = some g → g ≠ b := by
  intro g hg e
  subst e
  obtain ⟨D, ⟨es, clock, h1, _⟩, _⟩ := hf.ex
  rcases h.1.2 with ⟨rfl, _⟩ | ⟨g', cap, cur, rfl, _, h2, _⟩
  · simp [Value.ownBlock] at hg
  · simp [Value.ownBlock] at hg
    subst hg
    rw [h1] at h2; cases h2
/-- What Reduce hands back. -/
noncomputable def redG (ns : List ByteArray) (es : List Ed) : List ByteArray × List Ed × Int := if ordE ns es = 0 then (ns, redL (tgt es) ns, 0) else ([], [], ordE ns es)
theorem ordE_cases (ns : List ByteArray) (es : List Ed) : ordE ns es = 0 ∨ ordE ns es = 10 := by unfold ordE; split <;> simp

set_option maxRecDepth 100000 in
set_option maxHeartbeats 4000000 in
theorem reduce_any (vn : Value) (ns : List ByteArray) (es : List Ed) (ve : Value) (w : World) (hN : Sl StrR 1 w vn ns) (hS : Sl EdR 2 w ve es) (ha : AscB ns) (he : endsIn ns es = true) (hnn : ns.length ≤ 100000) (hn : es.length ≤ 100000) :
    Calls Try.prog 18 #[.agg #[vn, ve]] w (GrP (redG ns es) w) := by
  obtain ⟨r, c, rfl, _⟩ := id hS
  obtain ⟨rn, cn, rfl, _⟩ := id hN
  obtain ⟨_, hl1, hm1⟩ := sl_len hN
  have hB0 : Below w.heap.size w ((w.alloc (.cells #[.slice rn ns.length cn, .slice r es.length c] 25)).alloc (.cells #[.slice none 0 0, .slice none 0 0] 25)) := ((Below.refl _ _).alloc (Nat.le_refl _) _).alloc (by simp) _
  have HC0 := hid (show ((w.alloc (.cells #[.slice rn ns.length cn, .slice r es.length c] 25)).alloc (.cells #[.slice none 0 0, .slice none 0 0] 25)).heap[w.heap.size]? = some (.cells #[.slice rn ns.length cn, .slice r es.length c] 25 (0, 0)) from (Below.heap_alloc _ _ _ (by simp)).trans (MapKept.heap_alloc w _).1)
  have HD0 := hid (show ((w.alloc (.cells #[.slice rn ns.length cn, .slice r es.length c] 25)).alloc (.cells #[.slice none 0 0, .slice none 0 0] 25)).heap[w.heap.size + 1]? = some (.cells #[.slice none 0 0, .slice none 0 0] 25 (0, 0)) from (congrArg _ (by simp)).trans (MapKept.heap_alloc _ _).1)
  have hsz0 : w.heap.size + 2 = ((w.alloc (.cells #[.slice rn ns.length cn, .slice r es.length c] 25)).alloc (.cells #[.slice none 0 0, .slice none 0 0] 25)).heap.size := by simp
  have HZ0 := hid hsz0
  have HNs := hid (fun (W : World) (hW : Below w.heap.size w W) => hN.below strR_mono hW)
  have HEs := hid (fun (W : World) (hW : Below w.heap.size w W) => hS.below edR_mono hW)
  have HB0 := hid hB0
  have HOrd := hid (order_any (.slice rn ns.length cn) ns es (.slice r es.length c) _ (HNs.out _ hB0) (HEs.out _ hB0) ha he hnn hn)
  have HNod := hid (asc_nodup stoB ha)
  have HRL := hid (fun (l : List ByteArray) (h : l.Nodup) => redL_len (tgt es) es rfl l h)
  clear hN hS hB0 hsz0 ha he
  go_enter Try.func18, Try.ntmps18
  go_wp2_with fail
  generalize ((w.alloc (.cells #[.slice rn ns.length cn, .slice r es.length c] 25)).alloc (.cells #[.slice none 0 0, .slice none 0 0] 25)) = W0 at *
  refine HOrd.out.mono ?_
  rintro e w1 ⟨v1, rfl, _, hb1⟩
  have C1 := hid ((hb1.block w.heap.size (by have := HZ0.out; omega)).trans HC0.out)
  have D1 := hid ((hb1.block (w.heap.size + 1) (by have := HZ0.out; omega)).trans HD0.out)
  have B1 := hid (HB0.out.trans (hb1.mono HB0.out.size))
  have hz1 : w.heap.size + 2 ≤ w1.heap.size := by have := hb1.size; have := HZ0.out; omega
  have z0 := cellv C1.out 0 rfl
  have z1 := cellv C1.out 1 rfl
  have u0 := cellv D1.out 0 rfl
  have u1 := cellv D1.out 1 rfl
  have f0 := frozen_of D1.out 0
  have f1 := frozen_of D1.out 1
  have HOE := hid (ordE_cases ns es)
  have HRG := hid (show redG ns es = if ordE ns es = 0 then (ns, redL (tgt es) ns, 0) else ([], [], ordE ns es) from rfl)
  clear HC0 HD0 hb1 HB0 HOrd HZ0
  generalize redG ns es = R at *
  generalize ordE ns es = oe at *
  rcases HOE.out with h0 | h0
  case inr =>
    subst h0
    have HR := hid (show R = ([], [], 10) by rw [HRG.out]; rfl)
    go_wp2
    rw [HR.out]
    exact bodyPost_ret (v := .tuple #[.agg #[.slice none 0 0, .slice none 0 0], .int .i64 10]) (by simp [results, Try.results18, go_sem, u0, u1]) rfl ⟨_, _, rfl, sl_nilS _, sl_nilE _, (B1.out.setCell (p := ⟨w.heap.size + 1, 0, none⟩) (by simp) _).setCell (p := ⟨w.heap.size + 1, 1, none⟩) (by simp) _⟩
  case inl =>
  subst h0
  have HR := hid (show R = (ns, redL (tgt es) ns, 0) by rw [HRG.out]; rfl)
  have HNX := hid (next_adj (.slice rn ns.length cn) ns es (.slice r es.length c) w1 (HNs.out _ B1.out) (HEs.out _ B1.out) (by omega))
  clear HOE HRG u0 u1 f0 f1
  go_wp2_with fail
  refine HNX.out.mono ?_
  rintro e w2 ⟨b2, rfl, hAd, hb2⟩
  have C2 := hid ((hb2.block w.heap.size (by omega)).trans C1.out)
  have D2 := hid ((hb2.block (w.heap.size + 1) (by omega)).trans D1.out)
  have B2 := hid (B1.out.trans (hb2.mono B1.out.size))
  have hz2 : w.heap.size + 2 ≤ w2.heap.size := by have := hb2.size; omega
  have HAd := hid hAd
  have z2 := cellv C2.out 0 rfl
  clear z0 z1 C1 D1 B1 hb2 HNX hAd
  go_wp2_with fail
  refine (clone_s ns _ _ (HNs.out _ B2.out) (by omega)).mono ?_
  rintro e w3 ⟨v3, rfl, ho3, hb3⟩
  obtain ⟨rv, cv, rfl, hcv1, hcv2⟩ := ho3.form
  have C3 := hid ((hb3.block w.heap.size (by omega)).trans C2.out)
  have D3 := hid ((hb3.block (w.heap.size + 1) (by omega)).trans D2.out)
  have B3 := hid (B2.out.trans (hb3.mono B2.out.size))
  have hz3 : w.heap.size + 2 ≤ w3.heap.size := by have := hb3.size; omega
  have HLv := hid (show ∀ g, (Value.slice rv ns.length cv).ownBlock = some g → w.heap.size + 2 ≤ g ∧ g < w3.heap.size from fun g hg => by have := ho3.lt g hg; omega)
  have O3 := hid ho3
  have HAd3 := hid (HAd.out.below hb3)
  have z3 := cellv C3.out 0 rfl
  have hW3 : Below w3.heap.size w3 (w3.alloc (.cells #[.slice rv ns.length cv, .slice none 0 0] 25)) := (Below.refl _ _).alloc (Nat.le_refl _) _
  have q3 := bget hW3 z3
  have HW3 := hid hW3
  have HWc := hid (show (w3.alloc (.cells #[.slice rv ns.length cv, .slice none 0 0] 25)).heap[w3.heap.size]? = some (.cells #[.slice rv ns.length cv, .slice none 0 0] 25 (0, 0)) from (MapKept.heap_alloc w3 _).1)
  clear z2 C2 D2 B2 hb3 ho3 HAd hW3 z3
  go_wp2
  clear q3
  go_loopw [34] (fun i wr => ∃ (k : Nat) (vo : Value), k ≤ ns.length ∧ i = .int .i64 k ∧ Hid (Below w3.heap.size w3 wr) ∧ w3.heap.size + 1 ≤ wr.heap.size ∧ Hid (wr.heap[w3.heap.size]? = some (.cells #[.slice rv ns.length cv, vo] 25 (0, 0))) ∧ Hid (OwnE (w3.heap.size + 1) wr vo (redL (tgt es) (ns.take k)))) (fun i _ => ns.length - (intOf i).toNat)
  case atStart => exact ⟨0, _, by omega, rfl, HW3, by simp, HWc, ownE_nil _ _⟩
  case round =>
    clear HW3 HWc
    obtain ⟨k, vo, hk, rfl, HB, hz, HC, HO⟩ := hrel
    have hbw := B3.out.trans (HB.out.mono (by omega))
    by_cases hlt : k < ns.length
    · obtain ⟨b, off, rfl, hb, g0, hs⟩ := str_at (HNs.out _ hbw) k hlt
      have HT := hid (show ns.take (k + 1) = ns.take k ++ [ns[k]] from List.take_succ_eq_append_getElem hlt)
      have HRl := hid (HRL.out _ (HNod.out.sublist (List.take_sublist (k + 1) ns)))
      clear hbw
      generalize ns[k] = y at *
      have HS := hid hs
      obtain ⟨rT, cT, hsT, hlkT⟩ := HAd3.out.look y hs
      obtain ⟨_, hlT1, hlT2⟩ := sl_len hsT
      have HLK := hid hlkT
      have HSL := hid (fun (W : World) (hW : Below w3.heap.size w3 W) => str_at (hsT.below strR_mono hW))
      have hmm : (Instr.makeMap 64 none).run Try.prog wr = .ok (.map (some wr.heap.size)) (wr.alloc (.map #[] 0)) := by
        simp [Instr.makeMap, run_underlying Try.underlying64]
      have hW1 : Below wr.heap.size wr (wr.alloc (.map #[] 0)) := (Below.refl _ _).alloc (Nat.le_refl _) _
      have HW1 := hid hW1
      have HOF := hid (show OwnF (wr.alloc (.map #[] 0)) Try.prog 9 strLit wr.heap.size 0 0 (setF []) from OwnF.made wr Try.prog 9 strLit)
      have hl1 := hlkT _ (HB.out.trans (hW1.mono HB.out.size))
      have HTl := hid (tgt_len es y)
      clear hs hsT hlkT hW1
      go_wp2
      clear hl1
      generalize hTT : tgt es y = T at *
      have HTT := hid hTT
      clear hTT
      have hTl2 : T.length ≤ 100000 := Nat.le_trans HTl.out hn
      obtain ⟨wo, rfl⟩ : ∃ wo : World, wo = wr := ⟨_, rfl⟩
      go_loopg [43] T.length (fun gg s43 wr => ∃ (j nn cc : Nat) (fl : List ByteArray), j ≤ T.length ∧ T.length - j ≤ gg ∧ s43 = .int .i64 j ∧ Hid (Below wo.heap.size wo wr) ∧ wo.heap.size + 1 ≤ wr.heap.size ∧ nn ≤ j * 1000000 ∧ Hid (OwnF wr Try.prog 9 strLit wo.heap.size nn cc (setF fl)) ∧ Hid (∀ x, x ∈ fl ↔ FarP (tgt es) (T.take j) x))
      case atStart => exact ⟨0, 0, 0, [], by omega, by omega, rfl, HW1, by simp, by omega, HOF, hid (fun x => by simp [FarP])⟩
      case round =>
        obtain ⟨j, nn, cc, fl, hj, hgj, rfl, HBj, hzj, hnn2, HFj, HMj⟩ := hrel
        have hb3w := HB.out.trans (HBj.out.mono (by omega))
        by_cases hltj : j < T.length
        · obtain ⟨b5, o5, rfl, hb5, g5, hms⟩ := HSL.out wr hb3w j hltj
          have HTj := hid (show T.take (j + 1) = T.take j ++ [T[j]] from List.take_succ_eq_append_getElem hltj)
          generalize T[j] = m at *
          have HMs := hid hms
          obtain ⟨rm, cm, hsm, hlkm⟩ := HAd3.out.look m hms
          have hlm := hlkm wr hb3w
          have HRC := hid (reached_any b2 (tgt es) (tgt es m) (tgU es) _ wr (HAd3.out.below hb3w) (hsm.below strR_mono hb3w) tgU_mem (by have := tgt_len es m; simp only [tgU, List.length_map]; omega))
          clear hms hsm hlkm hb3w
          go_wp2_with (first
            | (go_at_call 44
               refine HRC.out.mono ?_
               rintro e w5 ⟨sn, n5, c5, rfl, hn5, ho5, hsn5, hb5'⟩
               have HO5 := hid ho5.tight
               have HSn5 := hid hsn5
               have HB5 := hid hb5'
               have hc5 : c5 ≤ 900000 := by have := ho5.size_le; omega
               clear ho5 hsn5 hb5')
            | (at_range
               refine wpList_rangeF _ rfl _ 64 rfl (strT Try.underlying9) Try.underlying64 wr.heap.size c5 c5 _ rfl HO5.out ?_
               intro w6 hr6 hg6 hs6
               have HR6 := hid hr6
               have HG6 := hid hg6
               have HS6 := hid hs6
               clear hr6 hg6 hs6))
          go_frame
          have HF6 := hid ((HFj.out.below' HB5.out).kept HG6.out (by simp))
          have HW6 := hid (Below.grown (HBj.out.trans (HB5.out.mono HBj.out.size)) HG6.out (HBj.out.trans (HB5.out.mono HBj.out.size)).size (fun g hg => by cases hg))
          have hz5 := HB5.out.size
          have hz6 : w5.heap.size + 1 ≤ w6.heap.size := by have := HS6.out; omega
          have HM6 := hid (show ∀ x, x ∈ fl ↔ x ∈ fl ∨ (x ∈ sn ∧ (setF sn x).isSome = false) from fun x => ⟨Or.inl, fun h => h.elim id fun h => by rw [setF_in h.1] at h; cases h.2⟩)
          obtain ⟨wp, rfl⟩ : ∃ wp : World, wp = wr := ⟨_, rfl⟩
          clear hlm HRC HS6 HG6 HO5
          go_loopg [13] c5 (fun gg _ wr => ∃ (left : ByteArray → Bool) (cnt n3 c3 : Nat) (f3 : List ByteArray), cnt ≤ gg ∧ Hid (RngF wr Try.prog 9 strLit wp.heap.size w5.heap.size c5 c5 (setF sn) left cnt) ∧ Hid (Below wo.heap.size wo wr) ∧ w5.heap.size + 1 ≤ wr.heap.size ∧ Hid (OwnF wr Try.prog 9 strLit wo.heap.size n3 c3 (setF f3)) ∧ n3 + cnt ≤ nn + c5 ∧ Hid (∀ x, x ∈ f3 ↔ x ∈ fl ∨ (x ∈ sn ∧ left x = false)))
          case atStart => exact ⟨_, c5, nn, cc, fl, Nat.le_refl _, HR6, HW6, hz6, HF6, Nat.le_refl _, HM6⟩
          case round =>
            clear HR6 HW6 HF6 HM6 hz6
            obtain ⟨left, cnt, n3, c3, f3, hcg, HRg, HBg, hzg, HFg, hng, HMg⟩ := hrel
            go_wp2_with (at_next; refine wpList_nextF _ rfl _ rfl (strT Try.underlying9) wp.heap.size w5.heap.size c5 c5 (setF sn) left cnt rfl HRg.out ?_ ?_)
            · intro hc0 hl0
              have HL0 := hid hl0
              clear hl0
              go_wp2
              go_roundg (T.length - (j + 1))
              case measure => omega
              case rel =>
                refine ⟨j + 1, n3, c3, f3, by omega, by omega, by go_num, HBg, by omega, by omega, HFg, hid (fun x => ?_)⟩
                rw [HMg.out, HMj.out, HSn5.out, HL0.out x, far_rch, HTj.out]
                unfold FarP
                constructor
                · rintro (⟨m', h1, h2⟩ | ⟨h1, _⟩)
                  · exact ⟨m', by simp [h1], h2⟩
                  · exact ⟨m, by simp, h1⟩
                · rintro ⟨m', h1, h2⟩
                  rw [List.mem_append, List.mem_singleton] at h1
                  rcases h1 with h1 | rfl
                  · exact Or.inl ⟨m', h1, h2⟩
                  · exact Or.inr ⟨h2, rfl⟩
            · intro x v w7 cnt7 hgood hlx hfx hr7 hlt7 hg7 hs7 hen
              have HF7 := hid (HFg.out.kept hg7 (fun e => by injection e with e; omega))
              have HB7 := hid (Below.grown HBg.out hg7 HBg.out.size (fun g hg => by cases hg; omega))
              have HR7 := hid hr7
              have HX := hid (show x ∈ sn from by
                have h := hfx
                unfold setF at h
                split at h
                · rename_i hh; exact hasS_iff.1 hh
                · cases h)
              have HGd := hid hgood
              have HLX := hid hlx
              clear hgood hlx hfx hr7 hg7
              go_wp2_with (at_mapUpdate
                           refine wpList_store _ rfl _ _ _ 64 rfl (strT Try.underlying9) Try.underlying64 wo.heap.size n3 c3 _ rfl HF7.out (by unfold maxLen; omega) x (.bool true) rfl rfl HGd.out ?_
                           intro w8 ho8 hg8
                           rw [setF_snoc] at ho8
                           have HO8 := hid ho8
                           have HG8 := hid hg8
                           clear ho8 hg8)
              go_roundg cnt7
              case measure => omega
              case rel =>
                refine ⟨_, cnt7, n3 + 1, _, f3 ++ [x], Nat.le_refl _, hid (HR7.out.kept HG8.out (fun e => by injection e with e; omega) (fun e => by injection e with e; omega)), hid (Below.grown HB7.out HG8.out HB7.out.size (fun g hg => by cases hg; exact Nat.le_refl _)), by have := HG8.out.size; omega, HO8, by omega, hid (fun z => ?_)⟩
                rw [List.mem_append, List.mem_singleton, HMg.out]
                by_cases e : z = x
                · subst e; simp [HX.out]
                · simp [e]
        · have hje : j = T.length := by omega
          have HFar := hid (show ∀ x, x ∈ fl ↔ FarP (tgt es) T x from fun x => by have h := HMj.out x; rwa [hje, List.take_length] at h)
          have hl4 := HLK.out wr hb3w
          have HC4 := hid ((HBj.out.block w3.heap.size (by omega)).trans HC.out)
          have HO4 := hid (show OwnE (w3.heap.size + 1) wr vo (redL (tgt es) (ns.take k) ++ redN (tgt es) y (T.take 0)) from by
            have h := HO.out.below HBj.out
            simpa [redN] using h)
          have HB4 := hid (show Below w3.heap.size w3 wr from hb3w)
          clear hje hb3w HMj
          go_wp2
          clear hl4
          go_loopg [64] T.length (fun gg s64 wr => ∃ (j : Nat) (vo : Value), j ≤ T.length ∧ T.length - j ≤ gg ∧ s64 = .int .i64 j ∧ Hid (Below w3.heap.size w3 wr) ∧ wo.heap.size + 1 ≤ wr.heap.size ∧ Hid (wr.heap[w3.heap.size]? = some (.cells #[.slice rv ns.length cv, vo] 25 (0, 0))) ∧ Hid (OwnE (w3.heap.size + 1) wr vo (redL (tgt es) (ns.take k) ++ redN (tgt es) y (T.take j))) ∧ Hid (OwnF wr Try.prog 9 strLit wo.heap.size nn cc (setF fl)))
          case atStart => exact ⟨0, vo, by omega, by omega, rfl, HB4, hzj, HC4, HO4, HFj⟩
          case round =>
            clear HB4 hzj HC4 HO4 HFj
            obtain ⟨i, vx, hi, hgi, rfl, HBi, hzi, HCi, HOi, HFi⟩ := hrel
            obtain ⟨rx, cx, rfl, hcx1, hcx2⟩ := HOi.out.form
            have hbw4 := B3.out.trans (HBi.out.mono (by omega))
            by_cases hlti : i < T.length
            · obtain ⟨b6, o6, rfl, hb6, g6, hms⟩ := HSL.out wr HBi.out i hlti
              have HTi := hid (show T.take (i + 1) = T.take i ++ [T[i]] from List.take_succ_eq_append_getElem hlti)
              clear hbw4
              generalize T[i] = m at *
              have HMs := hid hms
              have HRn := hid (redN_snoc (tgt es) y (T.take i) m)
              have hfar : farB (tgt es) y m = true ↔ m ∈ fl := by
                rw [farB_iff, HTT.out]
                exact (HFar.out m).symm
              clear hms
              by_cases hmf : m ∈ fl
              · have HF := hid (setF_in hmf)
                have HR2 := hid (show redN (tgt es) y (T.take (i + 1)) = redN (tgt es) y (T.take i) by rw [HTi.out, HRn.out, if_pos (hfar.2 hmf)])
                clear hmf hfar
                go_wp2_with (at_lookup; refine wpList_look _ rfl _ _ 64 rfl (strT Try.underlying9) Try.underlying64 (zbool _) wo.heap.size nn cc _ rfl HFi.out m rfl HMs.out ?_; rw [HF.out])
                go_roundg (T.length - (i + 1))
                case measure => omega
                case rel => exact ⟨i + 1, _, by omega, by omega, by go_num, HBi, hzi, HCi, by rw [HR2.out]; exact HOi, HFi⟩
              · have HF := hid (setF_out hmf)
                have HR2 := hid (show redL (tgt es) (ns.take k) ++ redN (tgt es) y (T.take (i + 1)) = (redL (tgt es) (ns.take k) ++ redN (tgt es) y (T.take i)) ++ [(y, m)] by rw [HTi.out, HRn.out, if_neg (fun h => hmf (hfar.1 h)), List.append_assoc])
                have HLn := hid (show (redL (tgt es) (ns.take k) ++ redN (tgt es) y (T.take i)).length + 1 ≤ 1000000 by
                  have h1 := HRl.out
                  rw [HT.out, redL_snoc, List.length_append] at h1
                  have h2 := redN_len (tgt es) y (T.take i)
                  simp at h2 ⊢
                  omega)
                have hal : Below wr.heap.size wr (wr.alloc (.cells #[.string y, .string m] 43)) := (Below.refl _ _).alloc (Nat.le_refl _) _
                have c1 := cellv HCi.out 1 rfl
                have HOa := hid (HOi.out.below hal)
                have HCa := hid ((hal.block w3.heap.size (by omega)).trans HCi.out)
                have HBa := hid (HBi.out.trans (hal.mono HBi.out.size))
                have HFa := hid (HFi.out.below' hal)
                have HL := hid HOi.out.lt
                have HNe := hid (HOi.out.ne_map HFi.out)
                have HYs := hid (show y.size ≤ maxLen ∧ m.size ≤ maxLen from ⟨HS.out, HMs.out⟩)
                clear hmf hfar hal
                generalize hF0 : redL (tgt es) (ns.take k) ++ redN (tgt es) y (T.take i) = F0 at *
                clear hF0
                go_wp2_with (first
                  | (at_lookup; refine wpList_look _ rfl _ _ 64 rfl (strT Try.underlying9) Try.underlying64 (zbool _) wo.heap.size nn cc _ rfl HFi.out m rfl HMs.out ?_; rw [HF.out])
                  | (at_builtin
                     refine app_ed rfl _ _ rfl (w3.heap.size + 1) _ F0 rfl HOa.out wr.heap.size 1 (y, m) rfl (fr := (0, 0)) (by exact (MapKept.heap_alloc wr _).1) HYs.out HLn.out (by simp; omega) (wr.heap.size + 1) (by simp) ?_
                     intro g cap w7 hm7
                     have hne : ∀ g, (Value.slice rx F0.length cx).ownBlock = some g → g ≠ w3.heap.size := fun g hg => by have := (HL.out g hg).1; omega
                     have HC7 := hid (own_block hm7.2.1 hne HCa.out)
                     have z1 := cellv HC7.out 1 rfl
                     have f1 := frozen_of HC7.out 1
                     have HM7 := hid hm7
                     clear hm7 hne))
                go_roundg (T.length - (i + 1))
                case measure => omega
                case rel =>
                  obtain ⟨m1, m2, m3, m4⟩ := HM7.out
                  rw [List.length_append, List.length_singleton] at m1
                  refine ⟨i + 1, _, by omega, by omega, by go_num, hid ((Below.grown HBa.out m2 HBa.out.size (fun g hg => by have := (HL.out g hg).1; omega)).setCell (Nat.le_refl _) _), ?_, heap_setCell_at HC7.out, ?_, hid ((HFa.out.kept m2 (fun e => (HNe.out _ e.symm) rfl)).setCell (by simp only; omega) _)⟩
                  · have := m2.size; simp [World.setCell] at this ⊢; omega
                  · rw [HR2.out]
                    exact m1.setBelow (by simp) _
            · have hie : i = T.length := by omega
              have HRf := hid (show redL (tgt es) (ns.take (k + 1)) = redL (tgt es) (ns.take k) ++ redN (tgt es) y (T.take i) by rw [HT.out, redL_snoc, HTT.out, hie, List.take_length])
              clear hie hbw4
              go_wp2
              go_roundw
              case rel => exact ⟨k + 1, _, by omega, by go_num, HBi, by omega, HCi, by rw [HRf.out]; exact HOi⟩
              case measure => simp [intOf]; omega
    · have hke : k = ns.length := by omega
      have HOE2 := hid (show OwnE (w3.heap.size + 1) wr vo (redL (tgt es) ns) from by have h := HO.out; rwa [hke, List.take_length] at h)
      obtain ⟨ro, co, rfl, hro1, hro2⟩ := HOE2.out.form
      have E2 := hid ((HB.out.block (w.heap.size + 1) (by omega)).trans D3.out)
      have N2 := hid (O3.out.below HB.out)
      have HBw := hid hbw
      have c0 := cellv HC.out 0 rfl
      have c1 := cellv HC.out 1 rfl
      have u0 := cellv E2.out 0 rfl
      have u1 := cellv E2.out 1 rfl
      have f0 := frozen_of E2.out 0
      have f1 := frozen_of E2.out 1
      clear hke hbw HO
      go_wp2
      rw [HR.out]
      have hN := (N2.out.setNe (a := ⟨w.heap.size + 1, 0, none⟩) (fun g hg => by have := HLv.out g hg; simp only; omega) (.slice rv ns.length cv)).setNe (a := ⟨w.heap.size + 1, 1, none⟩) (fun g hg => by have := HLv.out g hg; simp only; omega) (.slice ro (redL (tgt es) ns).length co)
      have hE := (HOE2.out.setBelow (a := ⟨w.heap.size + 1, 0, none⟩) (by simp only; omega) (.slice rv ns.length cv)).setBelow (a := ⟨w.heap.size + 1, 1, none⟩) (by simp only; omega) (.slice ro (redL (tgt es) ns).length co)
      exact bodyPost_ret (v := .tuple #[.agg #[.slice rv ns.length cv, .slice ro (redL (tgt es) ns).length co], .int .i64 0]) (by simp [results, Try.results18, go_sem, u0, u1]) rfl ⟨_, _, rfl, hN.sl, hE.sl, (HBw.out.setCell (p := ⟨w.heap.size + 1, 0, none⟩) (by simp) _).setCell (p := ⟨w.heap.size + 1, 1, none⟩) (by simp) _⟩
end Go.Proofs.Ytlhekldlfmdmiaa
