import Derived.Test.YtedpdpcibkceeaaDoorLvo
/-
  The walk of the statement ValueMakes. Conditions: the values can be read; the two tables lie in the world.
-/
namespace Go.Proofs.YtedpdpcibkceeaaDoor
open Go.RowKit Go.Sort Go.Lib
open Go.Lib (hid)
set_option linter.unusedVariables false
set_option linter.unusedSimpArgs false

theorem gr_self (W : World) : grow (redrawn W W.drawn) #[] = W := by rw [grow_empty]; rfl
theorem list_vr {W : World} {is : List Val} {r : Option Addr} {c : Nat} (hI : Sl VR 5 W (.slice r is.length c) is) (hl : is.length ≤ 1000000) : VR5 W r c none 0 (.mk 4 0 ⟨#[]⟩ is []) :=
  VR.make (x := .mk 4 0 ⟨#[]⟩ is []) hI ⟨none, 0, rfl, by simp [Val.keys], by simp, fun i h => absurd h (by simp [Val.keys])⟩ (by unfold i64B; simp [Val.kind]) (by unfold i64B; simp [Val.num]) (Nat.zero_le _) (by simp [Val.keys]) (by simp only [Val.items]; omega)

set_option maxRecDepth 100000 in
set_option maxHeartbeats 4000000 in
theorem makes_in (W : World) (hu : UT W) (n : Int) (hn : i64B n) (s : ByteArray) (hs : s.size ≤ maxLen) (is : List Val) (r : Option Addr) (c : Nat) (hI : Sl VR 5 W (.slice r is.length c) is) (d : Nat) (os : Array Obj) :
    Calls Tryd.prog 8 #[.int .i64 n, .string s, .slice r is.length c] (grow (redrawn W d) os) fun e w' => e = .returned (.bool true) ∧ ∃ p : Regrown, w' = grow (redrawn W p.d) p.os := by
  obtain ⟨_, hlc, hcm⟩ := sl_len hI
  have CA := hid (fun d os => Calls.regrown_of (awake_any (grow (redrawn W d) os) (hu.below (below_regrown W d os))))
  have CL := hid (fun d os => (show Calls Tryd.prog 29 #[.slice r is.length c] (grow (redrawn W d) os) (fun e w'' => e = .returned (.agg #[.int .i64 4, .int .i64 0, .string ⟨#[]⟩, .slice r is.length c, .slice none 0 0]) ∧ ∃ p : Regrown, w'' = grow (redrawn W p.d) p.os) from Calls.regrown_of (mrlist_any r is.length c _)))
  have N1 := hid (fun d os => (show Calls Tryd.prog 30 #[] (grow (redrawn W d) os) (fun e w'' => e = .returned (.agg #[.int .i64 0, .int .i64 0, .string ⟨#[]⟩, .slice none 0 0, .slice none 0 0]) ∧ ∃ p : Regrown, w'' = grow (redrawn W p.d) p.os) from Calls.regrown_of (mpnull_any _)))
  have N2 := hid (fun d os => (show Calls Tryd.prog 31 #[] (grow (redrawn W d) os) (fun e w'' => e = .returned (.agg #[.int .i64 0, .int .i64 0, .string ⟨#[]⟩, .slice none 0 0, .slice none 0 0]) ∧ ∃ p : Regrown, w'' = grow (redrawn W p.d) p.os) from Calls.regrown_of (mrnull_any _)))
  have U1 := hid (fun d os => (show Calls Tryd.prog 27 #[] (grow (redrawn W d) os) (fun e w'' => e = .returned (.agg #[.int .i64 6, .int .i64 0, .string ⟨#[]⟩, .slice none 0 0, .slice none 0 0]) ∧ ∃ p : Regrown, w'' = grow (redrawn W p.d) p.os) from Calls.regrown_of (mpunknown_any _)))
  have U2 := hid (fun d os => (show Calls Tryd.prog 32 #[] (grow (redrawn W d) os) (fun e w'' => e = .returned (.agg #[.int .i64 6, .int .i64 0, .string ⟨#[]⟩, .slice none 0 0, .slice none 0 0]) ∧ ∃ p : Regrown, w'' = grow (redrawn W p.d) p.os) from Calls.regrown_of (mrunknown_any _)))
  have B1 := hid (fun d os => (show Calls Tryd.prog 33 #[.bool true] (grow (redrawn W d) os) (fun e w'' => e = .returned (.agg #[.int .i64 1, .int .i64 1, .string ⟨#[]⟩, .slice none 0 0, .slice none 0 0]) ∧ ∃ p : Regrown, w'' = grow (redrawn W p.d) p.os) from Calls.regrown_of (mptrue_any _)))
  have B2 := hid (fun d os => (show Calls Tryd.prog 34 #[.bool true] (grow (redrawn W d) os) (fun e w'' => e = .returned (.agg #[.int .i64 1, .int .i64 1, .string ⟨#[]⟩, .slice none 0 0, .slice none 0 0]) ∧ ∃ p : Regrown, w'' = grow (redrawn W p.d) p.os) from Calls.regrown_of (mrtrue_any _)))
  have F1 := hid (fun d os => (show Calls Tryd.prog 33 #[.bool false] (grow (redrawn W d) os) (fun e w'' => e = .returned (.agg #[.int .i64 1, .int .i64 0, .string ⟨#[]⟩, .slice none 0 0, .slice none 0 0]) ∧ ∃ p : Regrown, w'' = grow (redrawn W p.d) p.os) from Calls.regrown_of (mpfalse_any _)))
  have F2 := hid (fun d os => (show Calls Tryd.prog 34 #[.bool false] (grow (redrawn W d) os) (fun e w'' => e = .returned (.agg #[.int .i64 1, .int .i64 0, .string ⟨#[]⟩, .slice none 0 0, .slice none 0 0]) ∧ ∃ p : Regrown, w'' = grow (redrawn W p.d) p.os) from Calls.regrown_of (mrfalse_any _)))
  have I1 := hid (fun d os => (show Calls Tryd.prog 35 #[.int .i64 n] (grow (redrawn W d) os) (fun e w'' => e = .returned (.agg #[.int .i64 2, .int .i64 n, .string ⟨#[]⟩, .slice none 0 0, .slice none 0 0]) ∧ ∃ p : Regrown, w'' = grow (redrawn W p.d) p.os) from Calls.regrown_of (mpnumber_any n _)))
  have I2 := hid (fun d os => (show Calls Tryd.prog 36 #[.int .i64 n] (grow (redrawn W d) os) (fun e w'' => e = .returned (.agg #[.int .i64 2, .int .i64 n, .string ⟨#[]⟩, .slice none 0 0, .slice none 0 0]) ∧ ∃ p : Regrown, w'' = grow (redrawn W p.d) p.os) from Calls.regrown_of (mrnumber_any n _)))
  have S1 := hid (fun d os => (show Calls Tryd.prog 37 #[.string s] (grow (redrawn W d) os) (fun e w'' => e = .returned (.agg #[.int .i64 3, .int .i64 0, .string s, .slice none 0 0, .slice none 0 0]) ∧ ∃ p : Regrown, w'' = grow (redrawn W p.d) p.os) from Calls.regrown_of (mpstring_any s _)))
  have S2 := hid (fun d os => (show Calls Tryd.prog 38 #[.string s] (grow (redrawn W d) os) (fun e w'' => e = .returned (.agg #[.int .i64 3, .int .i64 0, .string s, .slice none 0 0, .slice none 0 0]) ∧ ∃ p : Regrown, w'' = grow (redrawn W p.d) p.os) from Calls.regrown_of (mrstring_any s _)))
  have E0 := hid (fun d os => (show Calls Tryd.prog 18 #[.agg #[.int .i64 0, .int .i64 0, .string ⟨#[]⟩, .slice none 0 0, .slice none 0 0], .agg #[.int .i64 0, .int .i64 0, .string ⟨#[]⟩, .slice none 0 0, .slice none 0 0]] (grow (redrawn W d) os) (fun e w'' => e = .returned (.bool true) ∧ ∃ p : Regrown, w'' = grow (redrawn W p.d) p.os) from Calls.regrown_of ((by have h := req_any (litV 0 0 ⟨#[]⟩) (litV 0 0 ⟨#[]⟩) none 0 none 0 none 0 none 0 (grow (redrawn W d) os) (litV_vr (k := 0) (n := 0) (s := ⟨#[]⟩) _ (by unfold i64B; omega) (by unfold i64B; omega) (Nat.zero_le _)) (litV_vr (k := 0) (n := 0) (s := ⟨#[]⟩) _ (by unfold i64B; omega) (by unfold i64B; omega) (Nat.zero_le _)); rw [(eqV_iff _ _).2 rfl] at h; exact h))))
  have E6 := hid (fun d os => (show Calls Tryd.prog 18 #[.agg #[.int .i64 6, .int .i64 0, .string ⟨#[]⟩, .slice none 0 0, .slice none 0 0], .agg #[.int .i64 6, .int .i64 0, .string ⟨#[]⟩, .slice none 0 0, .slice none 0 0]] (grow (redrawn W d) os) (fun e w'' => e = .returned (.bool true) ∧ ∃ p : Regrown, w'' = grow (redrawn W p.d) p.os) from Calls.regrown_of ((by have h := req_any (litV 6 0 ⟨#[]⟩) (litV 6 0 ⟨#[]⟩) none 0 none 0 none 0 none 0 (grow (redrawn W d) os) (litV_vr (k := 6) (n := 0) (s := ⟨#[]⟩) _ (by unfold i64B; omega) (by unfold i64B; omega) (Nat.zero_le _)) (litV_vr (k := 6) (n := 0) (s := ⟨#[]⟩) _ (by unfold i64B; omega) (by unfold i64B; omega) (Nat.zero_le _)); rw [(eqV_iff _ _).2 rfl] at h; exact h))))
  have E1 := hid (fun d os => (show Calls Tryd.prog 18 #[.agg #[.int .i64 1, .int .i64 1, .string ⟨#[]⟩, .slice none 0 0, .slice none 0 0], .agg #[.int .i64 1, .int .i64 1, .string ⟨#[]⟩, .slice none 0 0, .slice none 0 0]] (grow (redrawn W d) os) (fun e w'' => e = .returned (.bool true) ∧ ∃ p : Regrown, w'' = grow (redrawn W p.d) p.os) from Calls.regrown_of ((by have h := req_any (litV 1 1 ⟨#[]⟩) (litV 1 1 ⟨#[]⟩) none 0 none 0 none 0 none 0 (grow (redrawn W d) os) (litV_vr (k := 1) (n := 1) (s := ⟨#[]⟩) _ (by unfold i64B; omega) (by unfold i64B; omega) (Nat.zero_le _)) (litV_vr (k := 1) (n := 1) (s := ⟨#[]⟩) _ (by unfold i64B; omega) (by unfold i64B; omega) (Nat.zero_le _)); rw [(eqV_iff _ _).2 rfl] at h; exact h))))
  have E2 := hid (fun d os => (show Calls Tryd.prog 18 #[.agg #[.int .i64 1, .int .i64 0, .string ⟨#[]⟩, .slice none 0 0, .slice none 0 0], .agg #[.int .i64 1, .int .i64 0, .string ⟨#[]⟩, .slice none 0 0, .slice none 0 0]] (grow (redrawn W d) os) (fun e w'' => e = .returned (.bool true) ∧ ∃ p : Regrown, w'' = grow (redrawn W p.d) p.os) from Calls.regrown_of ((by have h := req_any (litV 1 0 ⟨#[]⟩) (litV 1 0 ⟨#[]⟩) none 0 none 0 none 0 none 0 (grow (redrawn W d) os) (litV_vr (k := 1) (n := 0) (s := ⟨#[]⟩) _ (by unfold i64B; omega) (by unfold i64B; omega) (Nat.zero_le _)) (litV_vr (k := 1) (n := 0) (s := ⟨#[]⟩) _ (by unfold i64B; omega) (by unfold i64B; omega) (Nat.zero_le _)); rw [(eqV_iff _ _).2 rfl] at h; exact h))))
  have E3 := hid (fun d os => (show Calls Tryd.prog 18 #[.agg #[.int .i64 2, .int .i64 n, .string ⟨#[]⟩, .slice none 0 0, .slice none 0 0], .agg #[.int .i64 2, .int .i64 n, .string ⟨#[]⟩, .slice none 0 0, .slice none 0 0]] (grow (redrawn W d) os) (fun e w'' => e = .returned (.bool true) ∧ ∃ p : Regrown, w'' = grow (redrawn W p.d) p.os) from Calls.regrown_of ((by have h := req_any (litV 2 n ⟨#[]⟩) (litV 2 n ⟨#[]⟩) none 0 none 0 none 0 none 0 (grow (redrawn W d) os) (litV_vr (k := 2) (n := n) (s := ⟨#[]⟩) _ (by unfold i64B; omega) hn (Nat.zero_le _)) (litV_vr (k := 2) (n := n) (s := ⟨#[]⟩) _ (by unfold i64B; omega) hn (Nat.zero_le _)); rw [(eqV_iff _ _).2 rfl] at h; exact h))))
  have E4 := hid (fun d os => (show Calls Tryd.prog 18 #[.agg #[.int .i64 3, .int .i64 0, .string s, .slice none 0 0, .slice none 0 0], .agg #[.int .i64 3, .int .i64 0, .string s, .slice none 0 0, .slice none 0 0]] (grow (redrawn W d) os) (fun e w'' => e = .returned (.bool true) ∧ ∃ p : Regrown, w'' = grow (redrawn W p.d) p.os) from Calls.regrown_of ((by have h := req_any (litV 3 0 s) (litV 3 0 s) none 0 none 0 none 0 none 0 (grow (redrawn W d) os) (litV_vr (k := 3) (n := 0) (s := s) _ (by unfold i64B; omega) (by unfold i64B; omega) hs) (litV_vr (k := 3) (n := 0) (s := s) _ (by unfold i64B; omega) (by unfold i64B; omega) hs); rw [(eqV_iff _ _).2 rfl] at h; exact h))))
  have hb0 : i64B n := hn
  unfold i64B at hb0
  by_cases h60 : is.length ≤ 60
  case neg =>
    have hz : (60 : Int) < (is.length : Int) := by omega
    clear hI
    go_enter Tryd.func8, Tryd.ntmps8
    go_wp2_with (first | (go_at_call 11; (with_reducible first | refine (CA.out _ _).mono ?_); rintro e w9 ⟨rfl, ⟨d9, os9⟩, rfl⟩))
    go_ret
    exact ⟨rfl, ⟨_, _⟩, rfl⟩
  case pos =>
    have hz : ¬ (60 : Int) < (is.length : Int) := by omega
    have VX := list_vr hI (by omega)
    have CS := hid (fun d os => (show Calls Tryd.prog 10 #[.agg #[.int .i64 4, .int .i64 0, .string ⟨#[]⟩, .slice r is.length c, .slice none 0 0], .int .i64 400] (grow (redrawn W d) os) (fun e w'' => e = .returned (.bool (smallB (.mk 4 0 ⟨#[]⟩ is []) 400)) ∧ ∃ p : Regrown, w'' = grow (redrawn W p.d) p.os) from Calls.regrown_of (rsmall_any (.mk 4 0 ⟨#[]⟩ is []) 400 r c none 0 _ (VX.below (below_regrown W d os)) (by omega))))
    have HSM := hid (show smallB (.mk 4 0 ⟨#[]⟩ is []) 400 = true → nodesL is ≤ 1000000 ∧ nkeysL is ≤ 1000000 from fun h => by
      obtain ⟨h1, h2, _⟩ := small_of h
      rw [nodes_eq] at h1
      rw [nkeys_eq] at h2
      simp only [Val.items, Val.keys, List.length_nil] at h1 h2
      omega)
    have HI := hid hI
    have HVX := hid VX
    clear hI VX
    generalize smallB (.mk 4 0 ⟨#[]⟩ is []) 400 = sm at *
    cases sm with
    | false =>
      go_enter Tryd.func8, Tryd.ntmps8
      go_wp2_with (first | (go_at_call 11; (with_reducible first | refine (CA.out _ _).mono ?_); rintro e w9 ⟨rfl, ⟨d9, os9⟩, rfl⟩) | (go_at_call 29; (with_reducible first | refine (CL.out _ _).mono ?_); rintro e w9 ⟨rfl, ⟨d9, os9⟩, rfl⟩) | (go_at_call 10; (with_reducible first | refine (CS.out _ _).mono ?_); rintro e w9 ⟨rfl, ⟨d9, os9⟩, rfl⟩))
      go_ret
      exact ⟨rfl, ⟨_, _⟩, rfl⟩
    | true =>
      obtain ⟨hm1, hm2⟩ := HSM.out rfl
      have PL := hid (fun (W2 : World) (hW : Below W.heap.size W W2) => plist_any is r c W2 (slv_mono HI.out hW) hm1 hm2)
      clear hm1 hm2 HSM HI
      by_cases he : n.tmod 2 = 0
      all_goals
        (first | have hd : (n.tmod 2 == 0) = true := by simpa using he | have hd : (n.tmod 2 == 0) = false := by simpa using he)
        have HE := hid he
        clear he
        go_enter Tryd.func8, Tryd.ntmps8
        go_wp2_with (first | (go_at_call 30; (with_reducible first | refine (N1.out _ _).mono ?_); rintro e w9 ⟨rfl, ⟨d9, os9⟩, rfl⟩) | (go_at_call 31; (with_reducible first | refine (N2.out _ _).mono ?_); rintro e w9 ⟨rfl, ⟨d9, os9⟩, rfl⟩) | (go_at_call 27; (with_reducible first | refine (U1.out _ _).mono ?_); rintro e w9 ⟨rfl, ⟨d9, os9⟩, rfl⟩) | (go_at_call 32; (with_reducible first | refine (U2.out _ _).mono ?_); rintro e w9 ⟨rfl, ⟨d9, os9⟩, rfl⟩) | (go_at_call 33; (with_reducible first | refine (B1.out _ _).mono ?_ | refine (F1.out _ _).mono ?_); rintro e w9 ⟨rfl, ⟨d9, os9⟩, rfl⟩) | (go_at_call 34; (with_reducible first | refine (B2.out _ _).mono ?_ | refine (F2.out _ _).mono ?_); rintro e w9 ⟨rfl, ⟨d9, os9⟩, rfl⟩) | (go_at_call 35; (with_reducible first | refine (I1.out _ _).mono ?_); rintro e w9 ⟨rfl, ⟨d9, os9⟩, rfl⟩) | (go_at_call 36; (with_reducible first | refine (I2.out _ _).mono ?_); rintro e w9 ⟨rfl, ⟨d9, os9⟩, rfl⟩) | (go_at_call 37; (with_reducible first | refine (S1.out _ _).mono ?_); rintro e w9 ⟨rfl, ⟨d9, os9⟩, rfl⟩) | (go_at_call 38; (with_reducible first | refine (S2.out _ _).mono ?_); rintro e w9 ⟨rfl, ⟨d9, os9⟩, rfl⟩) | (go_at_call 11; (with_reducible first | refine (CA.out _ _).mono ?_); rintro e w9 ⟨rfl, ⟨d9, os9⟩, rfl⟩) | (go_at_call 29; (with_reducible first | refine (CL.out _ _).mono ?_); rintro e w9 ⟨rfl, ⟨d9, os9⟩, rfl⟩) | (go_at_call 10; (with_reducible first | refine (CS.out _ _).mono ?_); rintro e w9 ⟨rfl, ⟨d9, os9⟩, rfl⟩) | (go_at_call 18; (with_reducible first | refine (E0.out _ _).mono ?_ | refine (E6.out _ _).mono ?_ | refine (E1.out _ _).mono ?_ | refine (E2.out _ _).mono ?_ | refine (E3.out _ _).mono ?_ | refine (E4.out _ _).mono ?_); rintro e w9 ⟨rfl, ⟨d9, os9⟩, rfl⟩))
        refine (PL.out _ (below_regrown W _ _)).mono ?_
        rintro e w2 ⟨r2, c2, k2, q2, rfl, hv2, hb2⟩
        have BB2 := hid ((below_regrown W d9 os9).trans (hb2.mono (below_regrown W d9 os9).size))
        have V2 := hid hv2.out
        clear hv2 hb2
        go_wp2_with fail
        refine (mrlist_any r is.length c w2).mono ?_
        rintro e w3 ⟨rfl, hb3⟩
        have BB3 := hid (BB2.out.trans (hb3.mono BB2.out.size))
        have V3 := hid (V2.out.below hb3)
        have W3 := hid (HVX.out.below BB3.out)
        have U3 := hid (hu.below BB3.out)
        have CEQ := hid (req_any (.mk 4 0 ⟨#[]⟩ is []) (.mk 4 0 ⟨#[]⟩ is []) r2 c2 k2 q2 r c none 0 w3 V3.out W3.out)
        rw [(eqV_iff _ _).2 rfl] at CEQ
        clear hb3
        go_wp2_with fail
        refine CEQ.out.mono ?_
        rintro e w4 ⟨rfl, hb4⟩
        have BB4 := hid (BB3.out.trans (hb4.mono BB3.out.size))
        have U4 := hid (U3.out.below hb4)
        clear hb4
        go_wp2_with fail
        refine (awake_any w4 U4.out).mono ?_
        rintro e w5 ⟨rfl, hb5⟩
        have BB5 := hid (BB4.out.trans (hb5.mono BB4.out.size))
        clear hb5
        go_wp2
        go_ret
        exact ⟨rfl, regrown_of_below BB5.out⟩
theorem makes_law (W : World) (hu : UT W) (n : Int) (hn : i64B n) (s : ByteArray) (hs : s.size ≤ maxLen) (is : List Val) (r : Option Addr) (c : Nat) (hI : Sl VR 5 W (.slice r is.length c) is) :
    Calls Tryd.prog 8 #[.int .i64 n, .string s, .slice r is.length c] W fun e w' => e = .returned (.bool true) ∧ Below W.heap.size W w' := by
  have h := makes_in W hu n hn s hs is r c hI W.drawn #[]
  rw [gr_self] at h
  exact h.mono fun e w' ⟨he, p, hp⟩ => ⟨he, by rw [hp]; exact below_regrown _ _ _⟩

set_option maxRecDepth 100000 in
theorem makes_from (H : Type) (enc : TypeId × Value → H) (W : World) (base : Nat) (v0 v1 v2 : Value) (d0 d1 d2 : DataW H) (p0 p1 p2 : List MemPlace) (o0 : Value.okWide Tryd.prog W .any base 3 v0) (o1 : Value.okWide Tryd.prog W .any base 9 v1) (o2 : Value.okWide Tryd.prog W .any base 23 v2)
    (h0 : DataW.Trod enc Tryd.prog W 0 (fun _ => true) true 3 v0 d0 p0) (h1 : DataW.Trod enc Tryd.prog W 0 (fun _ => true) true 9 v1 d1 p1) (h2 : DataW.Trod enc Tryd.prog W 0 (fun _ => true) true 23 v2 d2 p2) (q0 : Wt Tryd.prog 3 d0) (q1 : Wt Tryd.prog 9 d1) (q2 : Wt Tryd.prog 23 d2) (hu : UT W) :
    Calls Tryd.prog 8 #[v0, v1, v2] W fun e W' => e = .returned (.bool true) ∧ Below W.heap.size W W' := by
  obtain ⟨n, rfl, _, _, wn⟩ := Go.ChangeShapes.open_int Tryd.underlying3 o0 h0
  obtain ⟨s, rfl, _, _, ws⟩ := Go.ChangeMaps.open_string Tryd.underlying9 o1 h1
  obtain ⟨a, len, cap, rfl⟩ := Go.WideShapes.okWide_slice Tryd.underlying23 o2
  obtain ⟨fuel, hf⟩ := h2
  obtain ⟨is, hI, hlen⟩ := sl_of_trod_lt (bytes := 80) VR Tryd.underlying23 (by kernel_rfl) (by omega) (by kernel_rfl) (fun fuel' _ cs y hl hw h => value_cells fuel' cs y hl hw h) q2 hf
  obtain ⟨r, c, e, _⟩ := id hI
  rw [e] at hI ⊢
  exact makes_law W hu n (bounds_i64 wn) s ws is r c hI
end Go.Proofs.YtedpdpcibkceeaaDoor
