/-
  The walk of the statement AuditEffects. Conditions: the readings.
-/
import Derived.Test.YtdmcceekaopghaaEff7
import Derived.Test.YtdmcceekaopghaaLawOwned
namespace Go.Proofs.Ytdmcceekaopghaa
open Go.RowKit Go.Sort Go.Lib Go.ChangeShapes Go.WideShapes Go.ChangeAt
open Go.Lib (hid)

theorem reff_any (lin lin2 : ByteArray) (ser ser2 : Int) (vC vS vL vI vP vO vI2 vP2 vO2 : Value) (ch : List ByteArray) (ss : List St) (l : List Ev) (b a : List In) (w : World) (hC : Sl ChR 22 w vC ch) (hS : Sl StR 3 w vS ss) (hL : Sl EvR 6 w vL l)
    (hI : Sl InR 13 w vI b) (hP : ∃ r n c, vP = .slice r n c) (hO : ∃ r n c, vO = .slice r n c) (hI2 : Sl InR 13 w vI2 a) (hP2 : ∃ r n c, vP2 = .slice r n c) (hO2 : ∃ r n c, vO2 = .slice r n c) (hb1000 : b.length ≤ 1000) (ha1000 : a.length ≤ 1000) (hbs : ∀ x ∈ b, x.id.size ≤ maxLen) (has : ∀ x ∈ a, x.id.size ≤ maxLen) :
    Calls Try.prog 23 #[vC, vS, vL, .agg #[.string lin, .int .i64 ser, vI, vP, vO], .agg #[.string lin2, .int .i64 ser2, vI2, vP2, vO2]] w fun r w' => r = .returned (.int .i64 (eff ch ss l b a)) ∧ Below w.heap.size w w' := by
  have KP := hP
  have KO := hO
  have KP2 := hP2
  have KO2 := hO2
  obtain ⟨rP, nP, cP, rfl⟩ := hP
  obtain ⟨rO, nO, cO, rfl⟩ := hO
  obtain ⟨rP2, nP2, cP2, rfl⟩ := hP2
  obtain ⟨rO2, nO2, cO2, rfl⟩ := hO2
  have hI' := hI
  have hI2' := hI2
  obtain ⟨r, c, rfl, _⟩ := hI'
  obtain ⟨r2, c2, rfl, _⟩ := hI2'
  have hC' := hC
  have hS' := hS
  have hL' := hL
  obtain ⟨rC, cC, rfl, _⟩ := hC'
  obtain ⟨rS, cS, rfl, _⟩ := hS'
  obtain ⟨rL, cL, rfl, _⟩ := hL'
  have hb : Below w.heap.size w ((w.alloc (.cells #[.string lin, .int .i64 ser, .slice r b.length c, .slice rP nP cP, .slice rO nO cO] 42)).alloc (.cells #[.string lin2, .int .i64 ser2, .slice r2 a.length c2, .slice rP2 nP2 cP2, .slice rO2 nO2 cO2] 42)) := ((Below.refl _ _).alloc (Nat.le_refl _) _).alloc (by simp) _
  have HB := Lib.hid hb
  have HC := Lib.hid (reffects_any lin lin2 ser ser2 _ _ _ _ _ _ _ _ _ ch ss l b a _ (hC.below chR_mono hb) (hS.below stR_mono hb) (hL.below evR_mono hb) (hI.below inR_mono hb) KP KO (hI2.below inR_mono hb) KP2 KO2 hb1000 ha1000 hbs has)
  clear hb hC hS hL hI hI2 KP KO KP2 KO2 hbs has
  go_enter Try.func23, Try.ntmps23
  go_wp2_with fail
  refine HC.out.mono ?_
  rintro e w1 ⟨rfl, hb1⟩
  have H1 := Lib.hid (HB.out.trans (hb1.mono HB.out.size))
  clear hb1
  go_wp2
  go_ret
  exact ⟨rfl, H1.out⟩

set_option maxRecDepth 100000 in
set_option maxHeartbeats 4000000 in
theorem effects_law (lin lin2 : ByteArray) (ser ser2 : Int) (vC vS vL vI vP vO vI2 vP2 vO2 : Value) (ch : List ByteArray) (ss : List St) (l : List Ev) (b a : List In) (w : World) (hC : Sl ChR 22 w vC ch) (hS : Sl StR 3 w vS ss) (hL : Sl EvR 6 w vL l)
    (hI : Sl InR 13 w vI b) (hP : ∃ r n c, vP = .slice r n c) (hO : ∃ r n c, vO = .slice r n c) (hI2 : Sl InR 13 w vI2 a) (hP2 : ∃ r n c, vP2 = .slice r n c) (hO2 : ∃ r n c, vO2 = .slice r n c) (hbs : ∀ x ∈ b, x.id.size ≤ maxLen) (has : ∀ x ∈ a, x.id.size ≤ maxLen) :
    Calls Try.prog 9 #[.agg #[vC, vS], vL, .agg #[.string lin, .int .i64 ser, vI, vP, vO, .string lin2, .int .i64 ser2, vI2, vP2, vO2]] w fun r w' => r = .returned (.bool true) ∧ Below w.heap.size w w' := by
  have KP := Lib.hid hP
  have KO := Lib.hid hO
  have KP2 := Lib.hid hP2
  have KO2 := Lib.hid hO2
  have KB := Lib.hid hbs
  have KA := Lib.hid has
  obtain ⟨rP, nP, cP, rfl⟩ := hP
  obtain ⟨rO, nO, cO, rfl⟩ := hO
  obtain ⟨rP2, nP2, cP2, rfl⟩ := hP2
  obtain ⟨rO2, nO2, cO2, rfl⟩ := hO2
  have HI := Lib.hid hI
  have HI2 := Lib.hid hI2
  have HC := Lib.hid hC
  have HS := Lib.hid hS
  have HL := Lib.hid hL
  obtain ⟨rC, cC, rfl, hlC, hmC, _⟩ := hC
  obtain ⟨rS, cS, rfl, hlS, hmS, _⟩ := hS
  obtain ⟨rL, cL, rfl, hlL, hmL, _⟩ := hL
  obtain ⟨r, c, rfl, hlI, hmI, _⟩ := hI
  obtain ⟨r2, c2, rfl, hlJ, hmJ, _⟩ := hI2
  unfold maxLen at hmC hmS hmL hmI hmJ
  have hb : Below w.heap.size w ((w.alloc (.cells #[.slice rC ch.length cC, .slice rS ss.length cS] 65)).alloc (.cells #[.string lin, .int .i64 ser, .slice r b.length c, .slice rP nP cP, .slice rO nO cO, .string lin2, .int .i64 ser2, .slice r2 a.length c2, .slice rP2 nP2 cP2, .slice rO2 nO2 cO2] 66)) := ((Below.refl _ _).alloc (Nat.le_refl _) _).alloc (by simp) _
  have HB := Lib.hid hb
  have c0 : ((w.alloc (.cells #[.slice rC ch.length cC, .slice rS ss.length cS] 65)).alloc (.cells #[.string lin, .int .i64 ser, .slice r b.length c, .slice rP nP cP, .slice rO nO cO, .string lin2, .int .i64 ser2, .slice r2 a.length c2, .slice rP2 nP2 cP2, .slice rO2 nO2 cO2] 66)).cell? ⟨w.heap.size, 0, none⟩ = some (.slice rC ch.length cC) := cell_up (cell_at rfl rfl)
  have c1 : ((w.alloc (.cells #[.slice rC ch.length cC, .slice rS ss.length cS] 65)).alloc (.cells #[.string lin, .int .i64 ser, .slice r b.length c, .slice rP nP cP, .slice rO nO cO, .string lin2, .int .i64 ser2, .slice r2 a.length c2, .slice rP2 nP2 cP2, .slice rO2 nO2 cO2] 66)).cell? ⟨w.heap.size, 1, none⟩ = some (.slice rS ss.length cS) := cell_up (cell_at rfl rfl)
  have b0 : ((w.alloc (.cells #[.slice rC ch.length cC, .slice rS ss.length cS] 65)).alloc (.cells #[.string lin, .int .i64 ser, .slice r b.length c, .slice rP nP cP, .slice rO nO cO, .string lin2, .int .i64 ser2, .slice r2 a.length c2, .slice rP2 nP2 cP2, .slice rO2 nO2 cO2] 66)).cell? ⟨w.heap.size + 1, 0, none⟩ = some (.string lin) := cell_at (by simp) rfl
  have b1 : ((w.alloc (.cells #[.slice rC ch.length cC, .slice rS ss.length cS] 65)).alloc (.cells #[.string lin, .int .i64 ser, .slice r b.length c, .slice rP nP cP, .slice rO nO cO, .string lin2, .int .i64 ser2, .slice r2 a.length c2, .slice rP2 nP2 cP2, .slice rO2 nO2 cO2] 66)).cell? ⟨w.heap.size + 1, 1, none⟩ = some (.int .i64 ser) := cell_at (by simp) rfl
  have b2 : ((w.alloc (.cells #[.slice rC ch.length cC, .slice rS ss.length cS] 65)).alloc (.cells #[.string lin, .int .i64 ser, .slice r b.length c, .slice rP nP cP, .slice rO nO cO, .string lin2, .int .i64 ser2, .slice r2 a.length c2, .slice rP2 nP2 cP2, .slice rO2 nO2 cO2] 66)).cell? ⟨w.heap.size + 1, 2, none⟩ = some (.slice r b.length c) := cell_at (by simp) rfl
  have b3 : ((w.alloc (.cells #[.slice rC ch.length cC, .slice rS ss.length cS] 65)).alloc (.cells #[.string lin, .int .i64 ser, .slice r b.length c, .slice rP nP cP, .slice rO nO cO, .string lin2, .int .i64 ser2, .slice r2 a.length c2, .slice rP2 nP2 cP2, .slice rO2 nO2 cO2] 66)).cell? ⟨w.heap.size + 1, 3, none⟩ = some (.slice rP nP cP) := cell_at (by simp) rfl
  have b4 : ((w.alloc (.cells #[.slice rC ch.length cC, .slice rS ss.length cS] 65)).alloc (.cells #[.string lin, .int .i64 ser, .slice r b.length c, .slice rP nP cP, .slice rO nO cO, .string lin2, .int .i64 ser2, .slice r2 a.length c2, .slice rP2 nP2 cP2, .slice rO2 nO2 cO2] 66)).cell? ⟨w.heap.size + 1, 4, none⟩ = some (.slice rO nO cO) := cell_at (by simp) rfl
  have a0 : ((w.alloc (.cells #[.slice rC ch.length cC, .slice rS ss.length cS] 65)).alloc (.cells #[.string lin, .int .i64 ser, .slice r b.length c, .slice rP nP cP, .slice rO nO cO, .string lin2, .int .i64 ser2, .slice r2 a.length c2, .slice rP2 nP2 cP2, .slice rO2 nO2 cO2] 66)).cell? ⟨w.heap.size + 1, 5, none⟩ = some (.string lin2) := cell_at (by simp) rfl
  have a1 : ((w.alloc (.cells #[.slice rC ch.length cC, .slice rS ss.length cS] 65)).alloc (.cells #[.string lin, .int .i64 ser, .slice r b.length c, .slice rP nP cP, .slice rO nO cO, .string lin2, .int .i64 ser2, .slice r2 a.length c2, .slice rP2 nP2 cP2, .slice rO2 nO2 cO2] 66)).cell? ⟨w.heap.size + 1, 6, none⟩ = some (.int .i64 ser2) := cell_at (by simp) rfl
  have a2 : ((w.alloc (.cells #[.slice rC ch.length cC, .slice rS ss.length cS] 65)).alloc (.cells #[.string lin, .int .i64 ser, .slice r b.length c, .slice rP nP cP, .slice rO nO cO, .string lin2, .int .i64 ser2, .slice r2 a.length c2, .slice rP2 nP2 cP2, .slice rO2 nO2 cO2] 66)).cell? ⟨w.heap.size + 1, 7, none⟩ = some (.slice r2 a.length c2) := cell_at (by simp) rfl
  have a3 : ((w.alloc (.cells #[.slice rC ch.length cC, .slice rS ss.length cS] 65)).alloc (.cells #[.string lin, .int .i64 ser, .slice r b.length c, .slice rP nP cP, .slice rO nO cO, .string lin2, .int .i64 ser2, .slice r2 a.length c2, .slice rP2 nP2 cP2, .slice rO2 nO2 cO2] 66)).cell? ⟨w.heap.size + 1, 8, none⟩ = some (.slice rP2 nP2 cP2) := cell_at (by simp) rfl
  have a4 : ((w.alloc (.cells #[.slice rC ch.length cC, .slice rS ss.length cS] 65)).alloc (.cells #[.string lin, .int .i64 ser, .slice r b.length c, .slice rP nP cP, .slice rO nO cO, .string lin2, .int .i64 ser2, .slice r2 a.length c2, .slice rP2 nP2 cP2, .slice rO2 nO2 cO2] 66)).cell? ⟨w.heap.size + 1, 9, none⟩ = some (.slice rO2 nO2 cO2) := cell_at (by simp) rfl
  have hz : w.heap.size + 1 < ((w.alloc (.cells #[.slice rC ch.length cC, .slice rS ss.length cS] 65)).alloc (.cells #[.string lin, .int .i64 ser, .slice r b.length c, .slice rP nP cP, .slice rO nO cO, .string lin2, .int .i64 ser2, .slice r2 a.length c2, .slice rP2 nP2 cP2, .slice rO2 nO2 cO2] 66)).heap.size := by simp
  have hz0 : w.heap.size < ((w.alloc (.cells #[.slice rC ch.length cC, .slice rS ss.length cS] 65)).alloc (.cells #[.string lin, .int .i64 ser, .slice r b.length c, .slice rP nP cP, .slice rO nO cO, .string lin2, .int .i64 ser2, .slice r2 a.length c2, .slice rP2 nP2 cP2, .slice rO2 nO2 cO2] 66)).heap.size := by omega
  clear hb hbs has
  cases hfew : fewB ss l
  case false =>
    clear c0 b0 b1 b2 b3 b4 a0 a1 a2 a3 a4
    go_enter Try.func9, Try.ntmps9
    go_wp2_with fail
    refine (few_any ss l _ _ _ (HS.out.below stR_mono HB.out) (HL.out.below evR_mono HB.out)).mono ?_
    rintro e w1 ⟨rfl, rfl⟩
    rw [hfew]
    clear hfew
    go_wp2_with fail
    refine (awake_any _).mono ?_
    rintro e w1 ⟨rfl, hb1⟩
    have H1 := Lib.hid (HB.out.trans (hb1.mono HB.out.size))
    clear hb1
    go_wp2
    go_ret
    exact ⟨rfl, H1.out⟩
  case true =>
  by_cases hbig : 60 < ch.length ∨ 60 < b.length ∨ 60 < a.length
  · have HF := Lib.hid hfew
    clear hfew b0 b1 b3 b4 a0 a1 a3 a4
    by_cases h1 : 60 < ch.length
    · clear hbig
      go_enter Try.func9, Try.ntmps9
      go_wp2_with fail
      refine (few_any ss l _ _ _ (HS.out.below stR_mono HB.out) (HL.out.below evR_mono HB.out)).mono ?_
      rintro e w1 ⟨rfl, rfl⟩
      rw [HF.out]
      go_wp2_with fail
      refine (awake_any _).mono ?_
      rintro e w1 ⟨rfl, hb1⟩
      have H1 := Lib.hid (HB.out.trans (hb1.mono HB.out.size))
      clear hb1
      go_wp2
      go_ret
      exact ⟨rfl, H1.out⟩
    by_cases h2 : 60 < b.length
    · clear hbig
      go_enter Try.func9, Try.ntmps9
      go_wp2_with fail
      refine (few_any ss l _ _ _ (HS.out.below stR_mono HB.out) (HL.out.below evR_mono HB.out)).mono ?_
      rintro e w1 ⟨rfl, rfl⟩
      rw [HF.out]
      go_wp2_with fail
      refine (awake_any _).mono ?_
      rintro e w1 ⟨rfl, hb1⟩
      have H1 := Lib.hid (HB.out.trans (hb1.mono HB.out.size))
      clear hb1
      go_wp2
      go_ret
      exact ⟨rfl, H1.out⟩
    · have h3 : 60 < a.length := by omega
      clear hbig
      go_enter Try.func9, Try.ntmps9
      go_wp2_with fail
      refine (few_any ss l _ _ _ (HS.out.below stR_mono HB.out) (HL.out.below evR_mono HB.out)).mono ?_
      rintro e w1 ⟨rfl, rfl⟩
      rw [HF.out]
      go_wp2_with fail
      refine (awake_any _).mono ?_
      rintro e w1 ⟨rfl, hb1⟩
      have H1 := Lib.hid (HB.out.trans (hb1.mono HB.out.size))
      clear hb1
      go_wp2
      go_ret
      exact ⟨rfl, H1.out⟩
  · have h1 : ch.length ≤ 60 := by omega
    have h2 : b.length ≤ 60 := by omega
    have h3 : a.length ≤ 60 := by omega
    have HF := Lib.hid hfew
    clear hfew hbig
    have E0 := Lib.hid (fun (W : World) (hW : Below w.heap.size w W) => effects_any lin lin2 ser ser2 _ _ _ _ _ _ _ _ _ ch ss l b a W (HC.out.below chR_mono hW) (HS.out.below stR_mono hW) (HL.out.below evR_mono hW) (HI.out.below inR_mono hW) KP.out KO.out (HI2.out.below inR_mono hW) KP2.out KO2.out)
    have R0 := Lib.hid (fun (W : World) (hW : Below w.heap.size w W) => reff_any lin lin2 ser ser2 _ _ _ _ _ _ _ _ _ ch ss l b a W (HC.out.below chR_mono hW) (HS.out.below stR_mono hW) (HL.out.below evR_mono hW) (HI.out.below inR_mono hW) KP.out KO.out (HI2.out.below inR_mono hW) KP2.out KO2.out (by omega) (by omega) KB.out KA.out)
    generalize eff ch ss l b a = ef at *
    have eq1 : (ef == ef) = true := by simp
    go_enter Try.func9, Try.ntmps9
    go_wp2_with fail
    refine (few_any ss l _ _ _ (HS.out.below stR_mono HB.out) (HL.out.below evR_mono HB.out)).mono ?_
    rintro e w1 ⟨rfl, rfl⟩
    rw [HF.out]
    go_upto_region 3 with (fail)
    generalize ((w.alloc (.cells #[.slice rC ch.length cC, .slice rS ss.length cS] 65)).alloc (.cells #[.string lin, .int .i64 ser, .slice r b.length c, .slice rP nP cP, .slice rO nO cO, .string lin2, .int .i64 ser2, .slice r2 a.length c2, .slice rP2 nP2 cP2, .slice rO2 nO2 cO2] 66)) = W5 at *
    have hcg := cells_regrown W5
    refine wp_region_quiet_below (by kernel_rfl) (by kernel_rfl) ?_
    repeat (quiet_step (first | exact Calls.regrown_of (E0.out _ (HB.out.trans ((below_regrown _ _ _).mono HB.out.size))) | exact Calls.regrown_of (R0.out _ (HB.out.trans ((below_regrown _ _ _).mono HB.out.size))) | exact Calls.regrown_of (awake_any _)))
    refine wpQuiet_nil ?_
    intro _ hw'
    obtain ⟨⟨dq, osq⟩, hw''⟩ := hw'
    subst hw''
    clear hcg
    have H1 := Lib.hid (HB.out.trans ((below_regrown W5 dq osq).mono HB.out.size))
    go_wp2
    go_ret
    exact ⟨rfl, H1.out⟩

theorem cChange : Try.prog.cellsOf 88 = 22 := by kernel_rfl
theorem cCase : Try.prog.cellsOf 65 = 2 := by kernel_rfl
theorem cTwo : Try.prog.cellsOf 66 = 10 := by kernel_rfl
theorem cSteps : Try.prog.cellsOf 22 = 1 := by kernel_rfl
theorem cChanges : Try.prog.cellsOf 63 = 1 := by kernel_rfl
theorem chR_of_trod {H : Type} {enc : TypeId × Value → H} {w : World} : ∀ fuel cs (y : DataW H × List MemPlace), cs.length = 22 → DataW.trod enc Try.prog w 0 (fun _ => true) true fuel 88 cs = some y → ∃ z, ChR w cs z := by
  intro fuel cs y hl h
  obtain ⟨_, hf⟩ := struct_of_trod Try.underlying88 h
  obtain ⟨_, _, h0⟩ : ∃ fuel' y', DataW.trod enc Try.prog w 0 (fun _ => true) true fuel' 9 ((cs.drop 0).take (Try.prog.cellsOf 9)) = some y' := hf 0 _ rfl
  rw [cStr] at h0
  obtain ⟨d, e0, _⟩ := field_str Try.underlying9 h0
  exact ⟨d, hl, e0⟩
theorem okWide_arr10 {P : Program} {w : World} {r : Reach} {base n : Nat} {t e : TypeId} {v : Value} (ht : P.underlying t = some (.array n e)) (h : Value.okWide P w r base t v) : ∃ cs, v = .agg cs ∧ cs.size = P.cellsOf t := by
  simp only [Value.okWide, ht] at h
  obtain ⟨cs, h1, h2, _⟩ := h
  exact ⟨cs, h1, h2⟩
theorem array_of_trod {H : Type} {enc : TypeId × Value → H} {P : Program} {w : World} {T e : TypeId} {n : Nat} {fuel : Nat} {cs : List Value} {x : DataW H × List MemPlace}
    (hT : P.underlying T = some (.array n e)) (h : DataW.trod enc P w 0 (fun _ => true) true fuel T cs = some x) :
    cs.length = P.cellsOf T ∧ ∀ (k : Nat), k < n → ∃ fuel' y, DataW.trod enc P w 0 (fun _ => true) true fuel' e ((cs.drop (k * P.cellsOf e)).take (P.cellsOf e)) = some y := by
  cases fuel with
  | zero => simp [DataW.trod] at h
  | succ fuel =>
    unfold DataW.trod at h
    simp only [hT] at h
    split at h
    case isFalse => cases h
    rename_i hl
    refine ⟨hl, fun k hk => ?_⟩
    simp only [Option.map_eq_some_iff] at h
    obtain ⟨ys, hys, _⟩ := h
    have hyl : k < ys.length := by have := mapM_some_length hys; simp at this; omega
    have := mapM_some_get hys k k (by rw [List.getElem?_range hk])
    rw [List.getElem?_eq_getElem hyl] at this
    exact ⟨fuel, _, this⟩

set_option maxRecDepth 100000 in
theorem open_case {H : Type} {enc : TypeId × Value → H} {W : World} {base : Nat} {v : Value} {d : DataW H} {p : List MemPlace}
    (o : Value.okWide Try.prog W .any base 65 v) (h : DataW.Trod enc Try.prog W 0 (fun _ => true) true 65 v d p) : ∃ vC vS ch ss, v = .agg #[vC, vS] ∧ Sl ChR 22 W vC ch ∧ Sl StR 3 W vS ss := by
  obtain ⟨cs, rfl, hsz⟩ := okWide_struct Try.underlying65 o
  obtain ⟨fuel, hf⟩ := h
  rw [cCase] at hsz
  have hcs : (Value.agg cs).cells.toList = cs.toList := by simp [Value.cells]
  rw [hcs] at hf
  obtain ⟨_, hg⟩ := struct_of_trod Try.underlying65 hf
  obtain ⟨_, _, h0⟩ : ∃ fuel' y', DataW.trod enc Try.prog W 0 (fun _ => true) true fuel' 63 ((cs.toList.drop 0).take (Try.prog.cellsOf 63)) = some y' := hg 0 _ rfl
  rw [cChanges] at h0
  obtain ⟨_, _, h1⟩ : ∃ fuel' y', DataW.trod enc Try.prog W 0 (fun _ => true) true fuel' 22 ((cs.toList.drop 1).take (Try.prog.cellsOf 22)) = some y' := hg 1 _ rfl
  rw [cSteps] at h1
  have hl : cs.toList.length = 2 := by simpa using hsz
  obtain ⟨v0, ch, e0, hC⟩ := field_slice ChR Try.underlying63 cChange (by omega) (by omega) chR_of_trod h0
  obtain ⟨v1, ss, e1, hS⟩ := field_slice StR Try.underlying22 cStep (by omega) (by omega) stR_of_trod h1
  refine ⟨v0, v1, ch, ss, ?_, hC, hS⟩
  have e : cs.toList = [v0, v1] := by
    match hq : cs.toList, hl with
    | [x, y], _ => rw [hq] at e0 e1; simp at e0 e1; subst e0 e1; rfl
  rw [← Array.toArray_toList (xs := cs), e]

set_option maxRecDepth 100000 in
theorem open_two {H : Type} {enc : TypeId × Value → H} {W : World} {base : Nat} {v : Value} {d : DataW H} {p : List MemPlace}
    (o : Value.okWide Try.prog W .any base 66 v) (h : DataW.Trod enc Try.prog W 0 (fun _ => true) true 66 v d p) :
    ∃ lin ser vI vP vO lin2 ser2 vI2 vP2 vO2 is is2, v = .agg #[.string lin, .int .i64 ser, vI, vP, vO, .string lin2, .int .i64 ser2, vI2, vP2, vO2] ∧ Sl InR 13 W vI is ∧ (∀ x ∈ is, x.id.size ≤ maxLen) ∧ (∃ r n c, vP = .slice r n c) ∧ (∃ r n c, vO = .slice r n c) ∧ Sl InR 13 W vI2 is2 ∧ (∀ x ∈ is2, x.id.size ≤ maxLen) ∧ (∃ r n c, vP2 = .slice r n c) ∧ ∃ r n c, vO2 = .slice r n c := by
  obtain ⟨cs, rfl, hsz⟩ := okWide_arr10 Try.underlying66 o
  obtain ⟨fuel, hf⟩ := h
  rw [cTwo] at hsz
  have hcs : (Value.agg cs).cells.toList = cs.toList := by simp [Value.cells]
  rw [hcs] at hf
  obtain ⟨_, hg⟩ := array_of_trod Try.underlying66 hf
  obtain ⟨f0, y0, h0⟩ := hg 0 (by omega)
  obtain ⟨f1, y1, h1⟩ := hg 1 (by omega)
  rw [cState] at h0 h1
  have hl : cs.toList.length = 10 := by simpa using hsz
  obtain ⟨lin, ser, vI, vP, vO, is, ps, hc, hI, hx, hP, hO⟩ := state_cells f0 _ y0 (by simp; omega) h0
  obtain ⟨lin2, ser2, vI2, vP2, vO2, is2, ps2, hc2, hI2, hx2, hP2, hO2⟩ := state_cells f1 _ y1 (by simp; omega) h1
  refine ⟨lin, ser, vI, vP, vO, lin2, ser2, vI2, vP2, vO2, is, is2, ?_, hI, hx, ?_, hO, hI2, hx2, ?_, hO2⟩
  · have e : cs.toList = [.string lin, .int .i64 ser, vI, vP, vO] ++ [.string lin2, .int .i64 ser2, vI2, vP2, vO2] := by
      rw [← hc, ← hc2]
      conv => lhs; rw [← List.take_append_drop 5 cs.toList]
      congr 1
      simp only [Nat.one_mul]
      rw [List.take_of_length_le (by simp; omega)]
    rw [← Array.toArray_toList (xs := cs), e]
    rfl
  · obtain ⟨r, c, rfl, _⟩ := hP; exact ⟨_, _, _, rfl⟩
  · obtain ⟨r, c, rfl, _⟩ := hP2; exact ⟨_, _, _, rfl⟩

set_option maxRecDepth 100000 in
theorem auditEffects_from (H : Type) (enc : TypeId × Value → H) (W : World) (base : Nat) (v0 v1 v2 : Value) (d0 d1 d2 : DataW H) (p0 p1 p2 : List MemPlace)
    (o0 : Value.okWide Try.prog W .any base 65 v0) (o1 : Value.okWide Try.prog W .any base 23 v1) (o2 : Value.okWide Try.prog W .any base 66 v2)
    (h0 : DataW.Trod enc Try.prog W 0 (fun _ => true) true 65 v0 d0 p0) (h1 : DataW.Trod enc Try.prog W 0 (fun _ => true) true 23 v1 d1 p1) (h2 : DataW.Trod enc Try.prog W 0 (fun _ => true) true 66 v2 d2 p2) :
    Calls Try.prog 9 #[v0, v1, v2] W fun e W' => e = .returned (.bool true) ∧ Below W.heap.size W W' := by
  obtain ⟨vC, vS, ch, ss, rfl, hC, hS⟩ := open_case o0 h0
  obtain ⟨es, hL⟩ := open_events o1 h1
  obtain ⟨lin, ser, vI, vP, vO, lin2, ser2, vI2, vP2, vO2, is, is2, rfl, hI, hx, hP, hO, hI2, hx2, hP2, hO2⟩ := open_two o2 h2
  exact effects_law lin lin2 ser ser2 vC vS v1 vI vP vO vI2 vP2 vO2 ch ss es is is2 W hC hS hL hI hP hO hI2 hP2 hO2 hx hx2
end Go.Proofs.Ytdmcceekaopghaa
