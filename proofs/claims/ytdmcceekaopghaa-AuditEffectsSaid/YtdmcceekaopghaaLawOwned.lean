/-
  The walk of the statement AuditOwned: it returns true for every state and list of objects that can be read as data. Conditions: the readings.
-/
import Derived.Test.YtdmcceekaopghaaOpen2
import Derived.Test.YtdmcceekaopghaaOwn1
namespace Go.Proofs.Ytdmcceekaopghaa
open Go.RowKit Go.Sort

theorem rowned_any (lin : ByteArray) (ser : Int) (vI vP vO vL : Value) (is : List In) (ps : List Pe) (os : List Ob) (w : World) (hI : Sl InR 13 w vI is) (hP : Sl PeR 3 w vP ps) (hO : ∃ r n c, vO = .slice r n c) (hL : Sl ObR 9 w vL os)
    (hIn : is.length ≤ 1000) (hOn : os.length ≤ 1000) (hIs : ∀ x ∈ is, x.id.size ≤ maxLen) (hOs : ∀ x ∈ os, x.id.size ≤ maxLen) :
    Calls Try.prog 17 #[.agg #[.string lin, .int .i64 ser, vI, vP, vO], vL] w fun r w' => ∃ a b c, r = .returned (.tuple #[a, b, c]) ∧ Below w.heap.size w w' ∧
      Sl StrR 1 w' a (canon (ms os (is.map (·.id)) is.length)) ∧ Sl StrR 1 w' b (canon (un ps os (is.map (·.id)) os.length)) ∧ Sl StrR 1 w' c (canon (tw (is.map (·.id)) is.length)) := by
  have HI := Lib.hid hI
  have HP := Lib.hid hP
  have HL := Lib.hid hL
  obtain ⟨rI, capI, rfl, _⟩ := hI
  obtain ⟨rP, capP, rfl, _⟩ := hP
  obtain ⟨rL, capL, rfl, _⟩ := hL
  obtain ⟨rO, nO, cO, rfl⟩ := hO
  go_enter Try.func17, Try.ntmps17
  go_wp2_with fail
  have hB0 : Below w.heap.size w (w.alloc (.cells #[.string lin, .int .i64 ser, .slice rI is.length capI, .slice rP ps.length capP, .slice rO nO cO] 42)) := (Below.refl _ _).alloc (Nat.le_refl _) _
  refine (ownedBy_any lin ser _ _ _ _ is ps os _ (HI.out.below inR_mono hB0) (HP.out.below peR_mono hB0) ⟨_, _, _, rfl⟩ (HL.out.below obR_mono hB0) hIn hOn hIs hOs).mono ?_
  rintro r w1 ⟨a, b, c, rfl, hb, h1, h2, h3⟩
  have HX := Lib.hid (And.intro (hB0.trans (hb.mono hB0.size)) (And.intro h1 (And.intro h2 h3)))
  clear hb h1 h2 h3 hB0
  go_wp2_with fail
  go_ret3
  exact ⟨_, _, _, rfl, HX.out⟩

theorem owned_law (lin : ByteArray) (ser : Int) (vI vP vO vL : Value) (is : List In) (ps : List Pe) (os : List Ob) (w : World) (hI : Sl InR 13 w vI is) (hP : Sl PeR 3 w vP ps) (hO : ∃ r n c, vO = .slice r n c) (hL : Sl ObR 9 w vL os)
    (hIs : ∀ x ∈ is, x.id.size ≤ maxLen) (hOs : ∀ x ∈ os, x.id.size ≤ maxLen) :
    Calls Try.prog 6 #[.agg #[.string lin, .int .i64 ser, vI, vP, vO], vL] w fun r w' => r = .returned (.bool true) ∧ Below w.heap.size w w' := by
  have HI := Lib.hid hI
  have HP := Lib.hid hP
  have HL := Lib.hid hL
  obtain ⟨rI, capI, rfl, hlI, hmI, _⟩ := hI
  obtain ⟨rP, capP, rfl, hlP, hmP, _⟩ := hP
  obtain ⟨rL, capL, rfl, hlL, hmL, _⟩ := hL
  obtain ⟨rO, nO, cO, rfl⟩ := hO
  unfold maxLen at hmI hmP hmL
  have HB0 := Lib.hid (show Below w.heap.size w (w.alloc (.cells #[.string lin, .int .i64 ser, .slice rI is.length capI, .slice rP ps.length capP, .slice rO nO cO] 42)) from (Below.refl _ _).alloc (Nat.le_refl _) _)
  have hs0 : (w.alloc (.cells #[.string lin, .int .i64 ser, .slice rI is.length capI, .slice rP ps.length capP, .slice rO nO cO] 42)).cell? ⟨w.heap.size, 0, none⟩ = some (.string lin) := by simp
  have hs1 : (w.alloc (.cells #[.string lin, .int .i64 ser, .slice rI is.length capI, .slice rP ps.length capP, .slice rO nO cO] 42)).cell? ⟨w.heap.size, 1, none⟩ = some (.int .i64 ser) := by simp
  have hs2 : (w.alloc (.cells #[.string lin, .int .i64 ser, .slice rI is.length capI, .slice rP ps.length capP, .slice rO nO cO] 42)).cell? ⟨w.heap.size, 2, none⟩ = some (.slice rI is.length capI) := by simp
  have hs3 : (w.alloc (.cells #[.string lin, .int .i64 ser, .slice rI is.length capI, .slice rP ps.length capP, .slice rO nO cO] 42)).cell? ⟨w.heap.size, 3, none⟩ = some (.slice rP ps.length capP) := by simp
  have hs4 : (w.alloc (.cells #[.string lin, .int .i64 ser, .slice rI is.length capI, .slice rP ps.length capP, .slice rO nO cO] 42)).cell? ⟨w.heap.size, 4, none⟩ = some (.slice rO nO cO) := by simp
  have hsz : w.heap.size < (w.alloc (.cells #[.string lin, .int .i64 ser, .slice rI is.length capI, .slice rP ps.length capP, .slice rO nO cO] 42)).heap.size := by simp
  by_cases hbig : 60 < is.length ∨ 60 < ps.length ∨ 60 < os.length
  · clear hIs hOs
    by_cases ha : 60 < is.length
    · clear hbig
      go_enter Try.func6, Try.ntmps6
      go_wp2_with fail
      refine (awake_any _).mono ?_
      rintro r w' ⟨rfl, hb⟩
      go_wp2
      go_ret
      exact ⟨rfl, HB0.out.trans (hb.mono HB0.out.size)⟩
    · by_cases hb : 60 < ps.length
      · clear hbig
        go_enter Try.func6, Try.ntmps6
        go_wp2_with fail
        refine (awake_any _).mono ?_
        rintro r w' ⟨rfl, hb⟩
        go_wp2
        go_ret
        exact ⟨rfl, HB0.out.trans (hb.mono HB0.out.size)⟩
      · have hc : 60 < os.length := by omega
        clear hbig
        go_enter Try.func6, Try.ntmps6
        go_wp2_with fail
        refine (awake_any _).mono ?_
        rintro r w' ⟨rfl, hb⟩
        go_wp2
        go_ret
        exact ⟨rfl, HB0.out.trans (hb.mono HB0.out.size)⟩
  · have h1 : is.length ≤ 60 := by omega
    have h2 : ps.length ≤ 60 := by omega
    have h3 : os.length ≤ 60 := by omega
    have HIs := Lib.hid hIs
    have HOs := Lib.hid hOs
    clear hbig hIs hOs
    go_enter Try.func6, Try.ntmps6
    go_wp2_with fail
    generalize w.alloc (.cells #[.string lin, .int .i64 ser, .slice rI is.length capI, .slice rP ps.length capP, .slice rO nO cO] 42) = W0 at *
    refine (owned_any lin ser _ _ _ _ is ps os _ (HI.out.below inR_mono HB0.out) (HP.out.below peR_mono HB0.out) (HL.out.below obR_mono HB0.out) (by omega) (by omega) HIs.out HOs.out).mono ?_
    rintro r w1 ⟨a, b, c, rfl, hb1, g1, g2, g3⟩
    have G1 := Lib.hid (And.intro g1 (And.intro g2 g3))
    have B1 := Lib.hid (HB0.out.trans (hb1.mono (by omega)))
    have k0 := bget hb1 hs0
    have k1 := bget hb1 hs1
    have k2 := bget hb1 hs2
    have k3 := bget hb1 hs3
    have k4 := bget hb1 hs4
    have hsz1 := World.block_lt_of_cell? _ _ k0
    simp only at hsz1
    clear hs0 hs1 hs2 hs3 hs4 hb1 g1 g2 g3
    go_wp2_with fail
    refine (rowned_any lin ser _ _ _ _ is ps os _ (HI.out.below inR_mono B1.out) (HP.out.below peR_mono B1.out) ⟨_, _, _, rfl⟩ (HL.out.below obR_mono B1.out) (by omega) (by omega) HIs.out HOs.out).mono ?_
    rintro r w2 ⟨x, y, z, rfl, hb2, g1, g2, g3⟩
    have G2 := Lib.hid (And.intro g1 (And.intro g2 g3))
    have G1' := Lib.hid (And.intro (G1.out.1.below strR_mono hb2) (And.intro (G1.out.2.1.below strR_mono hb2) (G1.out.2.2.below strR_mono hb2)))
    have B2 := Lib.hid (B1.out.trans (hb2.mono B1.out.size))
    clear k0 k1 k2 k3 k4 hb2 g1 g2 g3 G1 B1 hsz1
    generalize canon (ms os (is.map (·.id)) is.length) = LM at *
    generalize canon (un ps os (is.map (·.id)) os.length) = LU at *
    generalize canon (tw (is.map (·.id)) is.length) = LT at *
    go_wp2_with fail
    have hss : ∀ l : List ByteArray, sameS l l = true := fun l => sameS_iff.2 rfl
    refine (rsame_any LM LM _ _ _ G1'.out.1 G2.out.1).mono ?_
    rintro r w3 ⟨rfl, hb3⟩
    rw [hss]
    have B3 := Lib.hid (B2.out.trans (hb3.mono B2.out.size))
    have Q1 := Lib.hid (G1'.out.2.1.below strR_mono hb3)
    have Q2 := Lib.hid (G2.out.2.1.below strR_mono hb3)
    have Q3 := Lib.hid (G1'.out.2.2.below strR_mono hb3)
    have Q4 := Lib.hid (G2.out.2.2.below strR_mono hb3)
    clear hb3 G1' G2
    go_wp2_with fail
    refine (rsame_any LU LU _ _ _ Q1.out Q2.out).mono ?_
    rintro r w4 ⟨rfl, hb4⟩
    rw [hss]
    have B4 := Lib.hid (B3.out.trans (hb4.mono B3.out.size))
    have Q5 := Lib.hid (Q3.out.below strR_mono hb4)
    have Q6 := Lib.hid (Q4.out.below strR_mono hb4)
    clear hb4
    go_wp2_with fail
    refine (rsame_any LT LT _ _ _ Q5.out Q6.out).mono ?_
    rintro r w5 ⟨rfl, hb5⟩
    rw [hss]
    have B5 := Lib.hid (B4.out.trans (hb5.mono B4.out.size))
    clear hb5
    go_wp2_with fail
    refine (awake_any _).mono ?_
    rintro r w6 ⟨rfl, hb6⟩
    go_wp2
    go_ret
    exact ⟨rfl, B5.out.trans (hb6.mono B5.out.size)⟩

set_option maxRecDepth 100000 in
theorem auditOwned_from (H : Type) (enc : TypeId × Value → H) (W : World) (base : Nat) (v0 v1 : Value) (d0 d1 : DataW H) (p0 p1 : List MemPlace)
    (o0 : Value.okWide Try.prog W .any base 42 v0) (o1 : Value.okWide Try.prog W .any base 43 v1)
    (h0 : DataW.Trod enc Try.prog W 0 (fun _ => true) true 42 v0 d0 p0) (h1 : DataW.Trod enc Try.prog W 0 (fun _ => true) true 43 v1 d1 p1) :
    Calls Try.prog 6 #[v0, v1] W fun e W' => e = .returned (.bool true) ∧ Below W.heap.size W W' := by
  obtain ⟨lin, ser, vI, vP, vO, is, ps, rfl, hI, hIs, hP, hO⟩ := open_state o0 h0
  obtain ⟨os, hL, hOs⟩ := open_objects o1 h1
  exact owned_law lin ser vI vP vO _ is ps os W hI hP hO hL hIs hOs
end Go.Proofs.Ytdmcceekaopghaa
