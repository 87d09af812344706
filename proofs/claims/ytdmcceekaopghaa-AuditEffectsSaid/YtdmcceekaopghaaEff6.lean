/-
  Contract of the reference's effectOf. Conditions: those ahead of each theorem.
-/
import Derived.Test.YtdmcceekaopghaaEff5
import Derived.Test.YtdmcceekaopghaaOwnBy
import Derived.Deep.RegionWith
import Derived.Deep.RegionHeld3
namespace Go.Proofs.Ytdmcceekaopghaa
open Go.RowKit Go.Sort Go.Lib
open Go.Lib (hid)

theorem pRA_true (addr id : ByteArray) (x : In) : pRA addr id true x = pCur addr id x := by
  simp only [pRA, pCur, Bool.not_true, Bool.false_or]
  cases eqS x.addr addr <;> cases eqS x.id id <;> cases x.dep.toList.isEmpty <;> rfl
theorem pRA_false (addr id : ByteArray) (x : In) : pRA addr id false x = pKep addr id x := by
  simp only [pRA, pKep, Bool.not_false, Bool.true_or, Bool.and_true]
  cases eqS x.addr addr <;> cases eqS x.id id <;> rfl
theorem rec_has (is : List In) (id : ByteArray) : hasS (is.map (·.id)) id = is.any (pRec id) := by
  rw [Bool.eq_iff_iff, hasS_iff, List.any_eq_true]
  constructor
  · intro h
    obtain ⟨x, hx, rfl⟩ := List.mem_map.1 h
    exact ⟨x, hx, eqS_iff.2 rfl⟩
  · rintro ⟨x, hx, h⟩
    exact List.mem_map.2 ⟨x, hx, eqS_iff.1 h⟩
theorem recAt_cur (lin : ByteArray) (ser : Int) (vI vP vO : Value) (is : List In) (addr id : ByteArray) (w : World) (hI : Sl InR 13 w vI is) (hP : ∃ r n c, vP = .slice r n c) (hO : ∃ r n c, vO = .slice r n c) :
    Calls Try.prog 60 #[.agg #[.string lin, .int .i64 ser, vI, vP, vO], .string addr, .string id, .bool true] w fun r w' => r = .returned (.bool (is.any (pCur addr id))) ∧ Below w.heap.size w w' :=
  (recordsAt_any lin ser vI vP vO is addr id true w hI hP hO).mono fun e w' ⟨he, hb⟩ => ⟨by rw [he]; congr 2; exact congrArg _ (funext fun x => pRA_true addr id x), hb⟩
theorem recAt_kep (lin : ByteArray) (ser : Int) (vI vP vO : Value) (is : List In) (addr id : ByteArray) (w : World) (hI : Sl InR 13 w vI is) (hP : ∃ r n c, vP = .slice r n c) (hO : ∃ r n c, vO = .slice r n c) :
    Calls Try.prog 60 #[.agg #[.string lin, .int .i64 ser, vI, vP, vO], .string addr, .string id, .bool false] w fun r w' => r = .returned (.bool (is.any (pKep addr id))) ∧ Below w.heap.size w w' :=
  (recordsAt_any lin ser vI vP vO is addr id false w hI hP hO).mono fun e w' ⟨he, hb⟩ => ⟨by rw [he]; congr 2; exact congrArg _ (funext fun x => pRA_false addr id x), hb⟩

set_option maxHeartbeats 4000000 in
theorem effectOf_any (lin lin2 : ByteArray) (ser ser2 : Int) (vI vP vO vI2 vP2 vO2 : Value) (b a : List In) (yk yst yop : Int) (ya id : ByteArray) (yer : Int) (addr : ByteArray) (op : Int) (w : World) (hI : Sl InR 13 w vI b) (hP : ∃ r n c, vP = .slice r n c) (hO : ∃ r n c, vO = .slice r n c)
    (hI2 : Sl InR 13 w vI2 a) (hP2 : ∃ r n c, vP2 = .slice r n c) (hO2 : ∃ r n c, vO2 = .slice r n c) (hb1000 : b.length ≤ 1000) (ha1000 : a.length ≤ 1000) (hbs : ∀ x ∈ b, x.id.size ≤ maxLen) (has : ∀ x ∈ a, x.id.size ≤ maxLen) :
    Calls Try.prog 58 #[.agg #[.int .i64 yk, .int .i64 yst, .int .i64 yop, .string ya, .string id, .int .i64 yer], .int .i64 op, .string addr, .agg #[.string lin, .int .i64 ser, vI, vP, vO], .agg #[.string lin2, .int .i64 ser2, vI2, vP2, vO2]] w fun r w' => r = .returned (.bool (effB op addr id b a)) ∧ Below w.heap.size w w' := by
  have KP := Lib.hid hP
  have KO := Lib.hid hO
  have KP2 := Lib.hid hP2
  have KO2 := Lib.hid hO2
  have KB := Lib.hid hbs
  have KA := Lib.hid has
  obtain ⟨rP, nP, cP, rfl⟩ := hP
  obtain ⟨rO, nO, cO, rfl⟩ := hO
  obtain ⟨rP2, nP2, cP2, rfl⟩ := hP2
  obtain ⟨rO2, nO2, cO2, rfl⟩ := hO2
  have HI := Lib.hid hI
  have HI2 := Lib.hid hI2
  obtain ⟨r, c, rfl, _⟩ := hI
  obtain ⟨r2, c2, rfl, _⟩ := hI2
  have hb : Below w.heap.size w (((w.alloc (.cells #[.int .i64 yk, .int .i64 yst, .int .i64 yop, .string ya, .string id, .int .i64 yer] 34)).alloc (.cells #[.string lin, .int .i64 ser, .slice r b.length c, .slice rP nP cP, .slice rO nO cO] 42)).alloc (.cells #[.string lin2, .int .i64 ser2, .slice r2 a.length c2, .slice rP2 nP2 cP2, .slice rO2 nO2 cO2] 42)) := (((Below.refl _ _).alloc (Nat.le_refl _) _).alloc (by simp) _).alloc (by simp; omega) _
  have HB := Lib.hid hb
  have e4 := Lib.hid (show (((w.alloc (.cells #[.int .i64 yk, .int .i64 yst, .int .i64 yop, .string ya, .string id, .int .i64 yer] 34)).alloc (.cells #[.string lin, .int .i64 ser, .slice r b.length c, .slice rP nP cP, .slice rO nO cO] 42)).alloc (.cells #[.string lin2, .int .i64 ser2, .slice r2 a.length c2, .slice rP2 nP2 cP2, .slice rO2 nO2 cO2] 42)).cell? ⟨w.heap.size, 4, none⟩ = some (.string id) from cell_up (cell_up (cell_at rfl rfl)))
  have b0 := Lib.hid (show (((w.alloc (.cells #[.int .i64 yk, .int .i64 yst, .int .i64 yop, .string ya, .string id, .int .i64 yer] 34)).alloc (.cells #[.string lin, .int .i64 ser, .slice r b.length c, .slice rP nP cP, .slice rO nO cO] 42)).alloc (.cells #[.string lin2, .int .i64 ser2, .slice r2 a.length c2, .slice rP2 nP2 cP2, .slice rO2 nO2 cO2] 42)).cell? ⟨w.heap.size + 1, 0, none⟩ = some (.string lin) from cell_up (cell_at (by simp) rfl))
  have b1 := Lib.hid (show (((w.alloc (.cells #[.int .i64 yk, .int .i64 yst, .int .i64 yop, .string ya, .string id, .int .i64 yer] 34)).alloc (.cells #[.string lin, .int .i64 ser, .slice r b.length c, .slice rP nP cP, .slice rO nO cO] 42)).alloc (.cells #[.string lin2, .int .i64 ser2, .slice r2 a.length c2, .slice rP2 nP2 cP2, .slice rO2 nO2 cO2] 42)).cell? ⟨w.heap.size + 1, 1, none⟩ = some (.int .i64 ser) from cell_up (cell_at (by simp) rfl))
  have b2 := Lib.hid (show (((w.alloc (.cells #[.int .i64 yk, .int .i64 yst, .int .i64 yop, .string ya, .string id, .int .i64 yer] 34)).alloc (.cells #[.string lin, .int .i64 ser, .slice r b.length c, .slice rP nP cP, .slice rO nO cO] 42)).alloc (.cells #[.string lin2, .int .i64 ser2, .slice r2 a.length c2, .slice rP2 nP2 cP2, .slice rO2 nO2 cO2] 42)).cell? ⟨w.heap.size + 1, 2, none⟩ = some (.slice r b.length c) from cell_up (cell_at (by simp) rfl))
  have b3 := Lib.hid (show (((w.alloc (.cells #[.int .i64 yk, .int .i64 yst, .int .i64 yop, .string ya, .string id, .int .i64 yer] 34)).alloc (.cells #[.string lin, .int .i64 ser, .slice r b.length c, .slice rP nP cP, .slice rO nO cO] 42)).alloc (.cells #[.string lin2, .int .i64 ser2, .slice r2 a.length c2, .slice rP2 nP2 cP2, .slice rO2 nO2 cO2] 42)).cell? ⟨w.heap.size + 1, 3, none⟩ = some (.slice rP nP cP) from cell_up (cell_at (by simp) rfl))
  have b4 := Lib.hid (show (((w.alloc (.cells #[.int .i64 yk, .int .i64 yst, .int .i64 yop, .string ya, .string id, .int .i64 yer] 34)).alloc (.cells #[.string lin, .int .i64 ser, .slice r b.length c, .slice rP nP cP, .slice rO nO cO] 42)).alloc (.cells #[.string lin2, .int .i64 ser2, .slice r2 a.length c2, .slice rP2 nP2 cP2, .slice rO2 nO2 cO2] 42)).cell? ⟨w.heap.size + 1, 4, none⟩ = some (.slice rO nO cO) from cell_up (cell_at (by simp) rfl))
  have a0 := Lib.hid (show (((w.alloc (.cells #[.int .i64 yk, .int .i64 yst, .int .i64 yop, .string ya, .string id, .int .i64 yer] 34)).alloc (.cells #[.string lin, .int .i64 ser, .slice r b.length c, .slice rP nP cP, .slice rO nO cO] 42)).alloc (.cells #[.string lin2, .int .i64 ser2, .slice r2 a.length c2, .slice rP2 nP2 cP2, .slice rO2 nO2 cO2] 42)).cell? ⟨w.heap.size + 1 + 1, 0, none⟩ = some (.string lin2) from cell_at (by simp) rfl)
  have a1 := Lib.hid (show (((w.alloc (.cells #[.int .i64 yk, .int .i64 yst, .int .i64 yop, .string ya, .string id, .int .i64 yer] 34)).alloc (.cells #[.string lin, .int .i64 ser, .slice r b.length c, .slice rP nP cP, .slice rO nO cO] 42)).alloc (.cells #[.string lin2, .int .i64 ser2, .slice r2 a.length c2, .slice rP2 nP2 cP2, .slice rO2 nO2 cO2] 42)).cell? ⟨w.heap.size + 1 + 1, 1, none⟩ = some (.int .i64 ser2) from cell_at (by simp) rfl)
  have a2 := Lib.hid (show (((w.alloc (.cells #[.int .i64 yk, .int .i64 yst, .int .i64 yop, .string ya, .string id, .int .i64 yer] 34)).alloc (.cells #[.string lin, .int .i64 ser, .slice r b.length c, .slice rP nP cP, .slice rO nO cO] 42)).alloc (.cells #[.string lin2, .int .i64 ser2, .slice r2 a.length c2, .slice rP2 nP2 cP2, .slice rO2 nO2 cO2] 42)).cell? ⟨w.heap.size + 1 + 1, 2, none⟩ = some (.slice r2 a.length c2) from cell_at (by simp) rfl)
  have a3 := Lib.hid (show (((w.alloc (.cells #[.int .i64 yk, .int .i64 yst, .int .i64 yop, .string ya, .string id, .int .i64 yer] 34)).alloc (.cells #[.string lin, .int .i64 ser, .slice r b.length c, .slice rP nP cP, .slice rO nO cO] 42)).alloc (.cells #[.string lin2, .int .i64 ser2, .slice r2 a.length c2, .slice rP2 nP2 cP2, .slice rO2 nO2 cO2] 42)).cell? ⟨w.heap.size + 1 + 1, 3, none⟩ = some (.slice rP2 nP2 cP2) from cell_at (by simp) rfl)
  have a4 := Lib.hid (show (((w.alloc (.cells #[.int .i64 yk, .int .i64 yst, .int .i64 yop, .string ya, .string id, .int .i64 yer] 34)).alloc (.cells #[.string lin, .int .i64 ser, .slice r b.length c, .slice rP nP cP, .slice rO nO cO] 42)).alloc (.cells #[.string lin2, .int .i64 ser2, .slice r2 a.length c2, .slice rP2 nP2 cP2, .slice rO2 nO2 cO2] 42)).cell? ⟨w.heap.size + 1 + 1, 4, none⟩ = some (.slice rO2 nO2 cO2) from cell_at (by simp) rfl)
  have hsz : (((w.alloc (.cells #[.int .i64 yk, .int .i64 yst, .int .i64 yop, .string ya, .string id, .int .i64 yer] 34)).alloc (.cells #[.string lin, .int .i64 ser, .slice r b.length c, .slice rP nP cP, .slice rO nO cO] 42)).alloc (.cells #[.string lin2, .int .i64 ser2, .slice r2 a.length c2, .slice rP2 nP2 cP2, .slice rO2 nO2 cO2] 42)).heap.size = w.heap.size + 1 + 1 + 1 := by simp
  have HSZ := Lib.hid hsz
  clear hb hbs has hsz
  by_cases h1 : op = 1
  · subst h1
    have HX := Lib.hid (show effB 1 addr id b a = a.any (pCur addr id) by simp [effB])
    go_enter Try.func58, Try.ntmps58
    go_wp2_with fail
    refine (recAt_cur lin2 ser2 _ _ _ a addr id _ (HI2.out.below inR_mono HB.out) KP2.out KO2.out).mono ?_
    rintro e w' ⟨rfl, hb'⟩
    have H2 := Lib.hid (HB.out.trans (hb'.mono HB.out.size))
    clear hb'
    go_wp2
    go_ret
    exact ⟨ret_bool HX.out, H2.out⟩
  by_cases h2 : op = 2
  · subst h2
    cases hq : b.any (pCur addr id)
    · have HX := Lib.hid (show effB 2 addr id b a = false by simp [effB, hq])
      have HQ := Lib.hid hq
      clear hq
      go_enter Try.func58, Try.ntmps58
      go_wp2_with fail
      refine (recAt_cur lin ser _ _ _ b addr id _ (HI.out.below inR_mono HB.out) KP.out KO.out).mono ?_
      rintro e w' ⟨rfl, hb'⟩
      have H2 := Lib.hid (HB.out.trans (hb'.mono HB.out.size))
      clear hb'
      rw [HQ.out]
      go_wp2
      go_ret
      exact ⟨ret_bool HX.out, H2.out⟩
    · have HX := Lib.hid (show effB 2 addr id b a = a.any (pCur addr id) by simp [effB, hq])
      have HQ := Lib.hid hq
      clear hq
      go_enter Try.func58, Try.ntmps58
      go_wp2_with fail
      refine (recAt_cur lin ser _ _ _ b addr id _ (HI.out.below inR_mono HB.out) KP.out KO.out).mono ?_
      rintro e w' ⟨rfl, hb'⟩
      have H2 := Lib.hid (HB.out.trans (hb'.mono HB.out.size))
      have z4 := bget hb' e4.out
      have y0 := bget hb' a0.out
      have y1 := bget hb' a1.out
      have y2 := bget hb' a2.out
      have y3 := bget hb' a3.out
      have y4 := bget hb' a4.out
      have hz := hb'.size
      rw [HSZ.out] at hz
      clear hb'
      rw [HQ.out]
      go_wp2_with fail
      refine (recAt_cur lin2 ser2 _ _ _ a addr id _ (HI2.out.below inR_mono H2.out) KP2.out KO2.out).mono ?_
      rintro e w'' ⟨rfl, hb'⟩
      have H3 := Lib.hid (H2.out.trans (hb'.mono H2.out.size))
      clear hb'
      go_wp2
      go_ret
      exact ⟨ret_bool HX.out, H3.out⟩
  by_cases h3 : op = 3
  case neg =>
    have HX := Lib.hid (show effB op addr id b a = true by simp [effB, h1, h2, h3])
    have e1 : (op == 1) = false := by simpa using h1
    have e2 : (op == 2) = false := by simpa using h2
    have e3 : (op == 3) = false := by simpa using h3
    clear h1 h2 h3
    go_enter Try.func58, Try.ntmps58
    go_wp2
    go_ret
    exact ⟨ret_bool HX.out, HB.out⟩
  subst h3
  clear h1 h2
  have HX := Lib.hid (show effB 3 addr id b a = (hasS (b.map (·.id)) id && !(hasS (a.map (·.id)) id)) by rw [rec_has, rec_has]; simp [effB])
  cases hq : hasS (b.map (·.id)) id
  case false =>
    have HX := Lib.hid (show effB 3 addr id b a = false from HX.out.trans (by rw [hq]; try rfl))
    have HQ := Lib.hid hq
    clear hq
    go_enter Try.func58, Try.ntmps58
    go_upto_region 7 with (fail)
    have H0 := Lib.hid (HI.out.below inR_mono HB.out)
    have x4 := e4.out
    have y0 := b0.out
    have y1 := b1.out
    have y2 := b2.out
    have y3 := b3.out
    have y4 := b4.out
    have hz := HSZ.out
    have hz2 : w.heap.size + 1 + 1 < (((w.alloc (.cells #[.int .i64 yk, .int .i64 yst, .int .i64 yop, .string ya, .string id, .int .i64 yer] 34)).alloc (.cells #[.string lin, .int .i64 ser, .slice r b.length c, .slice rP nP cP, .slice rO nO cO] 42)).alloc (.cells #[.string lin2, .int .i64 ser2, .slice r2 a.length c2, .slice rP2 nP2 cP2, .slice rO2 nO2 cO2] 42)).heap.size := by omega
    generalize (((w.alloc (.cells #[.int .i64 yk, .int .i64 yst, .int .i64 yop, .string ya, .string id, .int .i64 yer] 34)).alloc (.cells #[.string lin, .int .i64 ser, .slice r b.length c, .slice rP nP cP, .slice rO nO cO] 42)).alloc (.cells #[.string lin2, .int .i64 ser2, .slice r2 a.length c2, .slice rP2 nP2 cP2, .slice rO2 nO2 cO2] 42)) = W0 at *
    (first | (go_region_with (first | (go_at_call 48; ((with_reducible refine (ids_any lin ser _ _ _ b _ (H0.out.below inR_mono (by exact (Below.refl _ _).drew)) KP.out KO.out hb1000 KB.out).mono ?_); rintro e w1 ⟨v1, rfl, ho1, hb1⟩; obtain ⟨hc1, hf1⟩ := bcellB hb1)) | (go_at_call 35; ((with_reducible refine (hasT_any (b.map (·.id)) id _ _ (OwnS.sl (by assumption))).mono ?_); rintro e w2 ⟨rfl, rfl⟩; rw [HQ.out])))) | fail)
    all_goals
      have H2 := Lib.hid ((HB.out.drew).trans (hb1.mono HB.out.drew.size))
      clear hc1 hf1 hb1 ho1 x4 y0 y1 y2 y3 y4
      go_wp2
      go_ret
      exact ⟨ret_bool HX.out, H2.out⟩
  case true =>
    have HX := Lib.hid (show effB 3 addr id b a = !(hasS (a.map (·.id)) id) from HX.out.trans (by rw [hq]; try rfl))
    have HQ := Lib.hid hq
    clear hq
    go_enter Try.func58, Try.ntmps58
    go_upto_region 7 with (fail)
    have H0 := Lib.hid (HI.out.below inR_mono HB.out)
    have H02 := Lib.hid (HI2.out.below inR_mono HB.out)
    have x4 := e4.out
    have y0 := b0.out
    have y1 := b1.out
    have y2 := b2.out
    have y3 := b3.out
    have y4 := b4.out
    have z0 := a0.out
    have z1 := a1.out
    have z2 := a2.out
    have z3 := a3.out
    have z4 := a4.out
    have hz := HSZ.out
    have hz2 : w.heap.size + 1 + 1 < (((w.alloc (.cells #[.int .i64 yk, .int .i64 yst, .int .i64 yop, .string ya, .string id, .int .i64 yer] 34)).alloc (.cells #[.string lin, .int .i64 ser, .slice r b.length c, .slice rP nP cP, .slice rO nO cO] 42)).alloc (.cells #[.string lin2, .int .i64 ser2, .slice r2 a.length c2, .slice rP2 nP2 cP2, .slice rO2 nO2 cO2] 42)).heap.size := by omega
    generalize (((w.alloc (.cells #[.int .i64 yk, .int .i64 yst, .int .i64 yop, .string ya, .string id, .int .i64 yer] 34)).alloc (.cells #[.string lin, .int .i64 ser, .slice r b.length c, .slice rP nP cP, .slice rO nO cO] 42)).alloc (.cells #[.string lin2, .int .i64 ser2, .slice r2 a.length c2, .slice rP2 nP2 cP2, .slice rO2 nO2 cO2] 42)) = W0 at *
    go_region_held3 (fun w' => w'.cell? ⟨w.heap.size, 4, none⟩ = some (.string id) ∧ w'.cell? ⟨w.heap.size + 1, 0, none⟩ = some (.string lin) ∧ w'.cell? ⟨w.heap.size + 1, 1, none⟩ = some (.int .i64 ser) ∧ w'.cell? ⟨w.heap.size + 1, 2, none⟩ = some (.slice r b.length c) ∧ w'.cell? ⟨w.heap.size + 1, 3, none⟩ = some (.slice rP nP cP) ∧ w'.cell? ⟨w.heap.size + 1, 4, none⟩ = some (.slice rO nO cO)
      ∧ w'.cell? ⟨w.heap.size + 1 + 1, 0, none⟩ = some (.string lin2) ∧ w'.cell? ⟨w.heap.size + 1 + 1, 1, none⟩ = some (.int .i64 ser2) ∧ w'.cell? ⟨w.heap.size + 1 + 1, 2, none⟩ = some (.slice r2 a.length c2) ∧ w'.cell? ⟨w.heap.size + 1 + 1, 3, none⟩ = some (.slice rP2 nP2 cP2) ∧ w'.cell? ⟨w.heap.size + 1 + 1, 4, none⟩ = some (.slice rO2 nO2 cO2))
      (first | go_keep | (go_split_ands; refine ⟨?_, ?_, ?_, ?_, ?_, ?_, ?_, ?_, ?_, ?_, ?_⟩ <;> (refine bget (by assumption) ?_; assumption)))
      (first | (go_at_call 48; ((with_reducible refine (ids_any lin ser _ _ _ b _ (H0.out.below inR_mono (by first | exact (Below.refl _ _).drew)) KP.out KO.out hb1000 KB.out).mono ?_); rintro e w1 ⟨v1, rfl, ho1, hb1⟩)) | (go_at_call 48; ((with_reducible refine (ids_any lin2 ser2 _ _ _ a _ (H02.out.below inR_mono (by exact ((Below.refl _ _).drew).trans (hb1.mono (by simp)))) KP2.out KO2.out ha1000 KA.out).mono ?_); rintro e w2 ⟨v2, rfl, ho2, hb2⟩)) | (go_at_call 35; ((with_reducible refine (hasT_any (b.map (·.id)) id _ _ (OwnS.sl ho1)).mono ?_); rintro e w2 ⟨rfl, rfl⟩; rw [HQ.out])) | (go_at_call 35; ((with_reducible refine (hasT_any (a.map (·.id)) id _ _ (OwnS.sl ho2)).mono ?_); rintro e w2 ⟨rfl, rfl⟩)))
    all_goals
      have H2 := Lib.hid ((HB.out.drew).trans (hb1.mono HB.out.drew.size))
      have H3 := Lib.hid (H2.out.trans (hb2.mono H2.out.size))
      clear hb1 ho1 hb2 ho2 x4 y0 y1 y2 y3 y4 z0 z1 z2 z3 z4
      go_wp2
      go_ret
      exact ⟨ret_bool HX.out, H3.out⟩
end Go.Proofs.Ytdmcceekaopghaa
