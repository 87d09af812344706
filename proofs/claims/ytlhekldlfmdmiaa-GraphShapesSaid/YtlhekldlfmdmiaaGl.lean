import Derived.Test.YtlhekldlfmdmiaaGk
import Derived.Test.YtlhekldlfmdmiaaGq
/-
  The program's distances. Conditions: those ahead of each theorem.
-/
namespace Go.Proofs.Ytlhekldlfmdmiaa
open Go.RowKit Go.Sort Go.Lib Go.Maps
open Go.Lib (hid)
set_option linter.unusedVariables false
set_option linter.unusedSimpArgs false

def fI (D : DF) : ByteArray → Option Value := fun x => (D x).map fun n => .int .i64 (n : Nat)
theorem fI_set (D : DF) (y : ByteArray) (n : Nat) : upd (fI D) y (some (.int .i64 (n : Nat))) = fI (setD D y n) := by
  funext x
  by_cases e : x = y
  · subst e; rw [upd_same]; unfold fI; rw [setD_same]; rfl
  · rw [upd_other _ _ e]; unfold fI; rw [setD_other _ _ e]
theorem wpList_ins {κ : Type} {P : Program} {k : TypeId} {good : κ → Prop} {val : κ → Value} {lit : κ → Lit} (w : World) {ops : Array Oper} {rest : List Oper} {o : Oper} {a : Act} {Q : Exit → Act → World → Prop} (hg : o.guard = none) (m x v : Operand) (t : TypeId) (hop : o.op = Op.insert t m x v) (T : KeyT P k good val lit) {e : TypeId} (ht : P.underlying t = some (.map k e)) (b n c : Nat) (f : κ → Option Value)
    (hm : a.eval m = .map (some b)) (hown : OwnF w P k lit b n c f) (hn : n < maxLen) (y : κ) (u : Value) (hx : a.eval x = val y) (hv : a.eval v = u) (hy : good y)
    (hK : ∀ w', OwnF w' P k lit b (n + 1) (if (f y).isSome then c else c + 1) (upd f y (some u)) → w.grownBy w' (some b) → wpList P ops Q rest (a.put o.dst undef) w') : wpList P ops Q (o :: rest) a w := by
  refine wpList_plain hg fun K' hK' => ?_
  obtain ⟨w', hrun, r1, r2, _⟩ := hown.store T ht hn y hy u
  unfold Oper.wp
  simp [execOp, hop, hm, hx, hv, hrun, Result.andThen]
  exact hK' _ _ (hK w' r1 r2)
theorem own_lit1 (w : World) (B : Nat) (y : ByteArray) (hB : B ≤ w.heap.size) (hy : y.size ≤ maxLen) : OwnS B (w.alloc (.cells #[.string y] 9)) (.slice (some ⟨w.heap.size, 0, none⟩) 1 1) [y] :=
  ⟨own_of (X := [.string y]) (MapKept.heap_alloc w _).1 hB (by omega) (by unfold maxLen; omega) rfl rfl rfl, fun x hx => by simp at hx; subst hx; exact hy⟩

/-- What holds at the heads of the two loops. -/
structure DisI (U : List ByteArray) (B M G : Nat) (w wr : World) (vo : Value) (Q dis : List ByteArray) (D : DF) : Prop where
  bel : Below w.heap.size w wr
  sz : B ≤ wr.heap.size
  map : ∃ n c, n + rem U dis ≤ M ∧ OwnF wr Try.prog 9 strLit w.heap.size n c (fI D)
  own : OwnO B wr vo Q
  len : Q.length + rem U dis ≤ M
  ms : 2 * rem U dis + Q.length ≤ G

set_option maxRecDepth 100000 in
set_option maxHeartbeats 2000000 in
theorem distances_any (b : Nat) (F : ByteArray → List ByteArray) (U : List ByteArray) (to : ByteArray) (w : World) (hA : Adj w b F) (hto : to.size ≤ maxLen) (hU : ∀ x, ∀ y ∈ F x, y ∈ U) (hM : U.length ≤ 800000) :
    Calls Try.prog 40 #[.map (some b), .string to] w fun e w' => ∃ D, e = .returned (.map (some w.heap.size)) ∧ IntM w' w.heap.size D ∧ (∀ x d, D x = some d → d ≤ 800000) ∧ DistP F to D ∧ Below w.heap.size w w' := by
  have HA := hid hA.look
  have HU := hid hU
  have hlt0 : b < w.heap.size := by obtain ⟨_, _, _, h, _⟩ := hA.ex; exact h.lt
  clear hA hU
  have hmm : (Instr.makeMap 51 none).run Try.prog w = .ok (.map (some w.heap.size)) (w.alloc (.map #[] 0)) := by
    simp [Instr.makeMap, run_underlying Try.underlying51]
  have HO0 := hid (OwnF.made w Try.prog 9 strLit)
  have HB0 := hid (show Below w.heap.size w (w.alloc (.map #[] 0)) from (Below.refl _ _).alloc (Nat.le_refl _) _)
  have HTo := hid hto
  go_enter Try.func40, Try.ntmps40
  go_wp2_with (refine wpList_ins _ rfl _ _ _ 51 rfl (strT Try.underlying9) Try.underlying51 w.heap.size 0 0 _ rfl HO0.out (by unfold maxLen; omega) to (.int .i64 0) rfl rfl HTo.out ?_
               intro w1 ho1 hg1
               have HO1 := hid ho1
               have HG1 := hid hg1
               clear ho1 hg1)
  have hz1 : w.heap.size + 1 ≤ w1.heap.size := by have := HG1.out.size; simp at this; omega
  have I0 := hid (show DisI U (w.heap.size + 1) (U.length + 1) (2 * rem U ([] ++ [to]) + 1) w (w1.alloc (.cells #[.string to] 9)) (.slice (some ⟨w1.heap.size, 0, none⟩) 1 1) [to] ([] ++ [to]) (setD (fun _ => none) to 0) from
    ⟨(Below.grown HB0.out HG1.out HB0.out.size (fun g hg => by cases hg; exact Nat.le_refl _)).alloc (by omega) _, by simp; omega, ⟨1, _, by have := rem_le U ([] ++ [to]); omega, by
      have h := HO1.out.alloc (.cells #[.string to] 9)
      have e : upd (fun _ => none) to (some (.int .i64 0)) = fI (setD (fun _ => none) to 0) := fI_set (fun _ => none) to 0
      rw [e] at h
      exact h⟩, (own_lit1 w1 _ to hz1 HTo.out).toO, by have := rem_le U ([] ++ [to]); simp at this ⊢; omega, by simp⟩)
  have D0 := hid (Bfs.start F to U)
  clear HO0 HO1 HG1 HB0
  go_loopg [6] (2 * rem U ([] ++ [to]) + 1) (fun gg s6 wr => ∃ P Q D, Hid (DisI U (w.heap.size + 1) (U.length + 1) gg w wr s6 Q (P ++ Q) D) ∧ Hid (Bfs F to U P Q D))
  case atStart => exact ⟨[], [to], _, I0, D0⟩
  case round =>
    obtain ⟨P, L, D, HI, HD⟩ := hrel
    cases L with
    | nil =>
      obtain ⟨r6, c6, rfl, h61, h62⟩ := HI.out.own.form
      go_wp2
      go_ret
      obtain ⟨n, c, hn, ho⟩ := HI.out.map
      exact ⟨D, rfl, ⟨n, c, ho⟩, fun x d hd => by have := HD.out.bd x d hd; omega, HD.out.fin, HI.out.bel⟩
    | cons x L0 =>
      obtain ⟨g, o, cap, rfl, hc1, hc2, hcell, hxs⟩ := HI.out.own.head
      have hms := HI.out.ms
      simp only [List.length_cons] at hms
      obtain ⟨r3, c3, hsl, hlks⟩ := HA.out x hxs
      obtain ⟨_, hl3, hm3⟩ := sl_len hsl
      have hlk := hlks wr HI.out.bel
      have HSL := hid (fun (W : World) (hW : Below w.heap.size w W) => str_at (hsl.below strR_mono hW))
      have HTL := hid HI.out.own.tail
      have HD1 := hid HD.out.pop
      have HT := hid (fun y (h : y ∈ F x) => HU.out x y h)
      have HMS := hid hms
      have hdx := (HD1.out.dom x).2 (by simp)
      obtain ⟨dx, hdx⟩ := Option.isSome_iff_exists.1 hdx
      have HDX := hid hdx
      have hdb := HD1.out.bd x dx hdx
      have HXS := hid hxs
      have hI1 : ∀ vo, OwnO (w.heap.size + 1) wr vo L0 → DisI U (w.heap.size + 1) (U.length + 1) (2 * rem U (P ++ x :: L0) + L0.length) w wr vo L0 (P ++ x :: L0) D := fun vo hvo =>
        ⟨HI.out.bel, HI.out.sz, HI.out.map, hvo, by have := HI.out.len; simp at this ⊢; omega, Nat.le_refl _⟩
      have HI1 := hid hI1
      clear hsl hlks HI HD hms hdx hI1 hxs
      have goal2 : ∃ v0, (cap = 1 ∧ v0 = .slice (some ⟨g, o, none⟩) 0 0 ∧ OwnO (w.heap.size + 1) wr v0 L0) ∨ (¬ cap = 1 ∧ v0 = .slice (some ⟨g, o + 1, none⟩) L0.length (cap - 1) ∧ OwnO (w.heap.size + 1) wr v0 L0) := by
        by_cases h : cap = 1
        · exact ⟨_, Or.inl ⟨h, rfl, (HTL.out.2 h).2⟩⟩
        · exact ⟨_, Or.inr ⟨h, rfl, HTL.out.1 h⟩⟩
      obtain ⟨v0, hv0⟩ := goal2
      have HL0 := hid (fun h => (HTL.out.2 h).1)
      clear HTL
      rcases hv0 with ⟨hcap, hv0, hown⟩ | ⟨hcap, hv0, hown⟩
      · have HJ0 := hid (HI1.out v0 hown)
        have h0 := HL0.out hcap
        have HV := hid hv0
        clear hv0 hown HI1 HL0
        subst h0
        subst hcap
        go_wp2
        rw [← HV.out]
        clear HV
        generalize ([] : List ByteArray) = L0 at *
        generalize hT : F x = T at *
        have HFT := hid hT
        clear hT hcell
        go_loopg [6, 29] T.length (fun gg s6 s29 wx => ∃ (k : Nat) (Q : List ByteArray) (D2 : DF), k ≤ T.length ∧ T.length - k ≤ gg ∧ s29 = .int .i64 k ∧ Hid (D2 x = some dx) ∧ Hid (DisI U (w.heap.size + 1) (U.length + 1) (2 * rem U (P ++ x :: L0) + L0.length) w wx s6 Q (P ++ x :: Q) D2) ∧ Hid (BfsI F to U P x k Q D2))
        case atStart => exact ⟨0, L0, D, by omega, by omega, rfl, HDX, HJ0, HD1⟩
        case round =>
          obtain ⟨k, Q, D2, hk, hg, rfl, HX, HJ, HE⟩ := hrel
          obtain ⟨r7, c7, rfl, h71, h72⟩ := HJ.out.own.form
          by_cases hlt : k < T.length
          · have hbx := HJ.out.bel
            obtain ⟨b3, o3, rfl, hb3, g3, hy3⟩ := HSL.out wr hbx k hlt
            have HBX := hid hbx
            have hU1 := HT.out
            have HYU := hid (hU1 T[k] (List.getElem_mem hlt))
            have HSK := hid (fun (h : (D2 T[k]).isSome = true) => HE.out.skip (by rw [HFT.out]; exact hlt) (by simpa only [HFT.out] using h))
            have HPU : Hid (D2 T[k] = none → T[k] ∈ U → BfsI F to U P x (k + 1) (Q ++ [T[k]]) (setD D2 T[k] (dx + 1))) := fun h1 h2 => by
              have := HE.out.push (by rw [HFT.out]; exact hlt) (by simp only [HFT.out]; exact h1) (by simp only [HFT.out]; exact h2)
              rw [HX.out] at this
              simp only [HFT.out, Option.getD_some] at this
              exact this
            have HYS := hid hy3
            have HEd := hid HE.out.dom
            obtain ⟨nn, cc, hnn, hown⟩ := HJ.out.map
            have HMp := hid hown
            have HNn := hid hnn
            clear hbx hU1 HSL hy3 hown hnn HE HD1 HJ0 HDX
            generalize T[k] = y at *
            cases hd : D2 y with
            | some m =>
              have HS1 := hid (HSK.out (by rw [hd]; rfl))
              have HF := hid (show fI D2 y = some (.int .i64 (m : Nat)) by unfold fI; rw [hd]; rfl)
              clear hd HSK HPU
              go_wp2_with (at_lookup; refine wpList_look_ok _ rfl _ _ 51 rfl (strT Try.underlying9) Try.underlying51 (zint _) w.heap.size nn cc _ rfl HMp.out y rfl HYS.out ?_; rw [HF.out])
              go_roundg (T.length - (k + 1))
              case measure => omega
              case rel => exact ⟨k + 1, Q, D2, by omega, by omega, by go_num, HX, HJ, HS1⟩
            | none =>
              have HP1 := hid (HPU.out hd HYU.out)
              have hnm : y ∉ P ++ x :: Q := fun h => by have := (HEd.out y).2 h; rw [hd] at this; cases this
              have hyx : x ≠ y := fun e => by rw [← e, HX.out] at hd; cases hd
              have HX2 := hid (show setD D2 y (dx + 1) x = some dx by rw [setD_other _ _ hyx]; exact HX.out)
              have HF := hid (show fI D2 y = none by unfold fI; rw [hd]; rfl)
              have HFx := hid (show fI D2 x = some (.int .i64 (dx : Nat)) by unfold fI; rw [HX.out]; rfl)
              have HR := hid (show rem U (P ++ x :: (Q ++ [y])) + 1 ≤ rem U (P ++ x :: Q) by have := rem_add HYU.out hnm; simpa using this)
              have HL := hid HJ.out.own.lt
              have HLl := hid (show Q.length + 1 ≤ 1000000 by have := HJ.out.len; have := HR.out; omega)
              have HZ := hid HJ.out.sz
              have HOw := hid HJ.out.own
              have tok1 : True := trivial
              clear hd HSK HPU hnm hyx
              go_wp2_with (first
                | (at_lookup; have _t := tok1; refine wpList_look_ok _ rfl _ _ 51 rfl (strT Try.underlying9) Try.underlying51 (zint _) w.heap.size nn cc _ rfl HMp.out y rfl HYS.out ?_; rw [HF.out]; clear tok1 _t)
                | (at_lookup; refine wpList_look _ rfl _ _ 51 rfl (strT Try.underlying9) Try.underlying51 (zint _) w.heap.size nn cc _ rfl HMp.out x rfl HXS.out ?_; rw [HFx.out])
                | (at_mapUpdate
                   refine wpList_store _ rfl _ _ _ 51 rfl (strT Try.underlying9) Try.underlying51 w.heap.size nn cc _ rfl HMp.out (by have := HNn.out; unfold maxLen; omega) y (.int .i64 ((dx + 1 : Nat) : Int)) rfl (by first | rfl | go_num) HYS.out ?_
                   intro w3 ho3 hg3
                   rw [fI_set] at ho3
                   have HO3 := hid (ho3.alloc (.cells #[.string y] 9))
                   have hz3 : w.heap.size + 1 ≤ w3.heap.size := by have h1 := hg3.size; have h2 := HZ.out; omega
                   have HOw3 := hid ((HOw.out.kept hg3 (fun g hg e => by cases e; have := (HL.out _ hg).1; omega)).below ((Below.refl _ _).alloc (Nat.le_refl _) (.cells #[.string y] 9)))
                   have HB3 := hid ((Below.grown HBX.out hg3 HBX.out.size (fun g hg => by cases hg; exact Nat.le_refl _)).alloc (by omega) (.cells #[.string y] 9))
                   clear ho3 hg3)
                | (at_builtin
                   refine app_o rfl _ _ rfl (w.heap.size + 1) _ Q rfl HOw3.out w3.heap.size 1 y rfl (fr := (0, 0)) (by exact (MapKept.heap_alloc w3 _).1) HYS.out HLl.out (by simp; omega) ?_
                   intro v4 w4 hm4
                   have HM4 := hid hm4
                   clear hm4))
              go_roundg (T.length - (k + 1))
              case measure => omega
              case rel =>
                obtain ⟨m1, m2, m3⟩ := HM4.out
                have hr := HR.out
                refine ⟨k + 1, Q ++ [y], _, by omega, by omega, by go_num, HX2, ⟨Below.grown HB3.out m2 HB3.out.size (fun g hg => by have := (HL.out g hg).1; omega), ?_, ⟨nn + 1, _, by have := HNn.out; omega, HO3.out.kept m2 (fun e => by have := (HL.out _ e.symm).1; omega)⟩, m1, ?_, ?_⟩, HP1⟩
                · have := m2.size; simp at this; omega
                · have := HJ.out.len; simp at this ⊢; omega
                · have := HJ.out.ms; simp at this ⊢; omega
          · have hke : k = T.length := by omega
            have HK := hid hke
            have hms2 := HJ.out.ms
            have HM2 := hid hms2
            clear hke hms2
            go_wp2
            go_roundg (2 * rem U (P ++ x :: Q) + Q.length)
            case measure => have h1 := HM2.out; have h2 := HMS.out; omega
            case rel =>
              have hk2 := HK.out
              have he := HE.out
              rw [hk2, ← HFT.out] at he
              have e : P ++ [x] ++ Q = P ++ x :: Q := by simp
              exact ⟨P ++ [x], Q, D2, ⟨HJ.out.bel, HJ.out.sz, by rw [e]; exact HJ.out.map, HJ.out.own, by rw [e]; exact HJ.out.len, by rw [e]; exact Nat.le_refl _⟩, he.done⟩
      · have HJ0 := hid (HI1.out v0 hown)
        have HV := hid hv0
        clear hv0 hown HI1 HL0
        go_wp2
        rw [← HV.out]
        clear HV
        generalize hT : F x = T at *
        have HFT := hid hT
        clear hT hcell
        go_loopg [6, 29] T.length (fun gg s6 s29 wx => ∃ (k : Nat) (Q : List ByteArray) (D2 : DF), k ≤ T.length ∧ T.length - k ≤ gg ∧ s29 = .int .i64 k ∧ Hid (D2 x = some dx) ∧ Hid (DisI U (w.heap.size + 1) (U.length + 1) (2 * rem U (P ++ x :: L0) + L0.length) w wx s6 Q (P ++ x :: Q) D2) ∧ Hid (BfsI F to U P x k Q D2))
        case atStart => exact ⟨0, L0, D, by omega, by omega, rfl, HDX, HJ0, HD1⟩
        case round =>
          obtain ⟨k, Q, D2, hk, hg, rfl, HX, HJ, HE⟩ := hrel
          obtain ⟨r7, c7, rfl, h71, h72⟩ := HJ.out.own.form
          by_cases hlt : k < T.length
          · have hbx := HJ.out.bel
            obtain ⟨b3, o3, rfl, hb3, g3, hy3⟩ := HSL.out wr hbx k hlt
            have HBX := hid hbx
            have hU1 := HT.out
            have HYU := hid (hU1 T[k] (List.getElem_mem hlt))
            have HSK := hid (fun (h : (D2 T[k]).isSome = true) => HE.out.skip (by rw [HFT.out]; exact hlt) (by simpa only [HFT.out] using h))
            have HPU : Hid (D2 T[k] = none → T[k] ∈ U → BfsI F to U P x (k + 1) (Q ++ [T[k]]) (setD D2 T[k] (dx + 1))) := fun h1 h2 => by
              have := HE.out.push (by rw [HFT.out]; exact hlt) (by simp only [HFT.out]; exact h1) (by simp only [HFT.out]; exact h2)
              rw [HX.out] at this
              simp only [HFT.out, Option.getD_some] at this
              exact this
            have HYS := hid hy3
            have HEd := hid HE.out.dom
            obtain ⟨nn, cc, hnn, hown⟩ := HJ.out.map
            have HMp := hid hown
            have HNn := hid hnn
            clear hbx hU1 HSL hy3 hown hnn HE HD1 HJ0 HDX
            generalize T[k] = y at *
            cases hd : D2 y with
            | some m =>
              have HS1 := hid (HSK.out (by rw [hd]; rfl))
              have HF := hid (show fI D2 y = some (.int .i64 (m : Nat)) by unfold fI; rw [hd]; rfl)
              clear hd HSK HPU
              go_wp2_with (at_lookup; refine wpList_look_ok _ rfl _ _ 51 rfl (strT Try.underlying9) Try.underlying51 (zint _) w.heap.size nn cc _ rfl HMp.out y rfl HYS.out ?_; rw [HF.out])
              go_roundg (T.length - (k + 1))
              case measure => omega
              case rel => exact ⟨k + 1, Q, D2, by omega, by omega, by go_num, HX, HJ, HS1⟩
            | none =>
              have HP1 := hid (HPU.out hd HYU.out)
              have hnm : y ∉ P ++ x :: Q := fun h => by have := (HEd.out y).2 h; rw [hd] at this; cases this
              have hyx : x ≠ y := fun e => by rw [← e, HX.out] at hd; cases hd
              have HX2 := hid (show setD D2 y (dx + 1) x = some dx by rw [setD_other _ _ hyx]; exact HX.out)
              have HF := hid (show fI D2 y = none by unfold fI; rw [hd]; rfl)
              have HFx := hid (show fI D2 x = some (.int .i64 (dx : Nat)) by unfold fI; rw [HX.out]; rfl)
              have HR := hid (show rem U (P ++ x :: (Q ++ [y])) + 1 ≤ rem U (P ++ x :: Q) by have := rem_add HYU.out hnm; simpa using this)
              have HL := hid HJ.out.own.lt
              have HLl := hid (show Q.length + 1 ≤ 1000000 by have := HJ.out.len; have := HR.out; omega)
              have HZ := hid HJ.out.sz
              have HOw := hid HJ.out.own
              have tok1 : True := trivial
              clear hd HSK HPU hnm hyx
              go_wp2_with (first
                | (at_lookup; have _t := tok1; refine wpList_look_ok _ rfl _ _ 51 rfl (strT Try.underlying9) Try.underlying51 (zint _) w.heap.size nn cc _ rfl HMp.out y rfl HYS.out ?_; rw [HF.out]; clear tok1 _t)
                | (at_lookup; refine wpList_look _ rfl _ _ 51 rfl (strT Try.underlying9) Try.underlying51 (zint _) w.heap.size nn cc _ rfl HMp.out x rfl HXS.out ?_; rw [HFx.out])
                | (at_mapUpdate
                   refine wpList_store _ rfl _ _ _ 51 rfl (strT Try.underlying9) Try.underlying51 w.heap.size nn cc _ rfl HMp.out (by have := HNn.out; unfold maxLen; omega) y (.int .i64 ((dx + 1 : Nat) : Int)) rfl (by first | rfl | go_num) HYS.out ?_
                   intro w3 ho3 hg3
                   rw [fI_set] at ho3
                   have HO3 := hid (ho3.alloc (.cells #[.string y] 9))
                   have hz3 : w.heap.size + 1 ≤ w3.heap.size := by have h1 := hg3.size; have h2 := HZ.out; omega
                   have HOw3 := hid ((HOw.out.kept hg3 (fun g hg e => by cases e; have := (HL.out _ hg).1; omega)).below ((Below.refl _ _).alloc (Nat.le_refl _) (.cells #[.string y] 9)))
                   have HB3 := hid ((Below.grown HBX.out hg3 HBX.out.size (fun g hg => by cases hg; exact Nat.le_refl _)).alloc (by omega) (.cells #[.string y] 9))
                   clear ho3 hg3)
                | (at_builtin
                   refine app_o rfl _ _ rfl (w.heap.size + 1) _ Q rfl HOw3.out w3.heap.size 1 y rfl (fr := (0, 0)) (by exact (MapKept.heap_alloc w3 _).1) HYS.out HLl.out (by simp; omega) ?_
                   intro v4 w4 hm4
                   have HM4 := hid hm4
                   clear hm4))
              go_roundg (T.length - (k + 1))
              case measure => omega
              case rel =>
                obtain ⟨m1, m2, m3⟩ := HM4.out
                have hr := HR.out
                refine ⟨k + 1, Q ++ [y], _, by omega, by omega, by go_num, HX2, ⟨Below.grown HB3.out m2 HB3.out.size (fun g hg => by have := (HL.out g hg).1; omega), ?_, ⟨nn + 1, _, by have := HNn.out; omega, HO3.out.kept m2 (fun e => by have := (HL.out _ e.symm).1; omega)⟩, m1, ?_, ?_⟩, HP1⟩
                · have := m2.size; simp at this; omega
                · have := HJ.out.len; simp at this ⊢; omega
                · have := HJ.out.ms; simp at this ⊢; omega
          · have hke : k = T.length := by omega
            have HK := hid hke
            have hms2 := HJ.out.ms
            have HM2 := hid hms2
            clear hke hms2
            go_wp2
            go_roundg (2 * rem U (P ++ x :: Q) + Q.length)
            case measure => have h1 := HM2.out; have h2 := HMS.out; omega
            case rel =>
              have hk2 := HK.out
              have he := HE.out
              rw [hk2, ← HFT.out] at he
              have e : P ++ [x] ++ Q = P ++ x :: Q := by simp
              exact ⟨P ++ [x], Q, D2, ⟨HJ.out.bel, HJ.out.sz, by rw [e]; exact HJ.out.map, HJ.out.own, by rw [e]; exact HJ.out.len, by rw [e]; exact Nat.le_refl _⟩, he.done⟩
end Go.Proofs.Ytlhekldlfmdmiaa
