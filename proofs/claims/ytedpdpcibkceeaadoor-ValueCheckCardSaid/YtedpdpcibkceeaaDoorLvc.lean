import Derived.Test.YtedpdpcibkceeaaDoorFrm
/-
  The walk of the statement ValueCheck. Conditions: the value can be read; the two tables lie in the world.
-/
namespace Go.Proofs.YtedpdpcibkceeaaDoor
open Go.RowKit Go.Sort Go.Lib
open Go.Lib (hid)
set_option linter.unusedVariables false
set_option linter.unusedSimpArgs false

set_option maxRecDepth 100000 in
set_option maxHeartbeats 2000000 in
theorem check_law (x : Val) (r : Option Addr) (c : Nat) (rk : Option Addr) (ck : Nat) (w : World) (hx : VR5 w r c rk ck x) (hu : UT w) :
    Calls Tryd.prog 3 #[.agg #[.int .i64 x.kind, .int .i64 x.num, .string x.str, .slice r x.items.length c, .slice rk x.keys.length ck]] w fun e w' => e = .returned (.bool true) ∧ Below w.heap.size w w' := by
  have hb0 : Below w.heap.size w (w.alloc (.cells #[.int .i64 x.kind, .int .i64 x.num, .string x.str, .slice r x.items.length c, .slice rk x.keys.length ck] 26)) := (Below.refl _ _).alloc (Nat.le_refl _) _
  have X0 := Box5.new w x.kind x.num x.str (.slice r x.items.length c) (.slice rk x.keys.length ck) 26
  have V0 := hx.below hb0
  have U0 := hu.below hb0
  have C1 := hid (rsmall_any x 400 r c rk ck _ V0 (by omega))
  have CA := hid (fun d os => Calls.regrown_of (awake_any (grow (redrawn (w.alloc (.cells #[.int .i64 x.kind, .int .i64 x.num, .string x.str, .slice r x.items.length c, .slice rk x.keys.length ck] 26)) d) os) (U0.below (below_regrown _ d os))))
  have C2 := hid (fun d os => Calls.regrown_of (pCheck_any x r c rk ck (grow (redrawn (w.alloc (.cells #[.int .i64 x.kind, .int .i64 x.num, .string x.str, .slice r x.items.length c, .slice rk x.keys.length ck] 26)) d) os) (V0.below (below_regrown _ d os)) (U0.below (below_regrown _ d os))))
  have C3 := hid (fun d os => Calls.regrown_of (rCheck_any x r c rk ck (grow (redrawn (w.alloc (.cells #[.int .i64 x.kind, .int .i64 x.num, .string x.str, .slice r x.items.length c, .slice rk x.keys.length ck] 26)) d) os) (V0.below (below_regrown _ d os))))
  have B0 := hid hb0
  clear hx hu V0 U0 hb0
  generalize smallB x 400 = sm at *
  generalize checkV vU x = cv at *
  have e1 : (cv == cv) = true := by simp
  go_enter Tryd.func3, Tryd.ntmps3
  go_wp2_with fail
  generalize (w.alloc (.cells #[.int .i64 x.kind, .int .i64 x.num, .string x.str, .slice r x.items.length c, .slice rk x.keys.length ck] 26)) = W at *
  refine C1.out.mono ?_
  rintro e w1 ⟨rfl, hb1⟩
  obtain ⟨d, os, rfl⟩ := regr hb1
  clear hb1
  have hcg := cells_regrown W
  have x0 := X0.c0
  have x1 := X0.c1
  have x2 := X0.c2
  have x3 := X0.c3
  have x4 := X0.c4
  have xl := X0.lt
  clear X0
  cases sm with
  | false =>
    go_wp2_with fail
    refine (CA.out d os).mono ?_
    rintro e w2 ⟨rfl, p, rfl⟩
    go_wp2
    go_ret
    exact ⟨rfl, below_gr B0.out _ _⟩
  | true =>
    go_wp2_with fail
    refine wp_region_quiet_in (by kernel_rfl) (by kernel_rfl) ?_
    repeat (quiet_step (first | (go_at_call 12; exact C2.out _ _) | (go_at_call 13; exact C3.out _ _) | (go_at_call 11; exact CA.out _ _)))
    refine wpQuiet_nil ?_
    intro _ hw'
    obtain ⟨⟨dq, osq⟩, hw''⟩ := hw'
    subst hw''
    go_wp2
    go_ret
    exact ⟨rfl, below_gr B0.out _ _⟩

set_option maxRecDepth 100000 in
theorem check_from (H : Type) (enc : TypeId × Value → H) (W : World) (base : Nat) (v0 : Value) (d0 : DataW H) (p0 : List MemPlace) (o0 : Value.okWide Tryd.prog W .any base 26 v0)
    (h0 : DataW.Trod enc Tryd.prog W 0 (fun _ => true) true 26 v0 d0 p0) (q0 : Wt Tryd.prog 26 d0) (hu : UT W) :
    Calls Tryd.prog 3 #[v0] W fun e W' => e = .returned (.bool true) ∧ Below W.heap.size W W' := by
  obtain ⟨x, r, c, rk, ck, rfl, hx⟩ := value_arg o0 h0 q0
  exact check_law x r c rk ck W hx hu
end Go.Proofs.YtedpdpcibkceeaaDoor
