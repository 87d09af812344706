/-
  The walk of the statement AuditCounts: it returns true for every two lists of events that can be read as data. Conditions: the readings.
-/
import Derived.Test.YtdmcceekaopghaaCounts
import Derived.Test.YtdmcceekaopghaaAppSl
import Derived.Deep.DeepCutAuto
namespace Go.Proofs.Ytdmcceekaopghaa
open Go.RowKit Go.Sort Go.ChangeShapes Go.WideShapes Go.ChangeAt

theorem evinfo : (Try.prog.info? 34).map (fun i => (i.zero, i.size, i.bytes)) = some (some (.agg #[.int .i64 0, .int .i64 0, .int .i64 0, .string ByteArray.empty, .string ByteArray.empty, .int .i64 0]), 6, 64) := by kernel_rfl
theorem ev_one (e : Ev) : ∀ u ∈ e.cells, u.oneCell' = true := by
  intro u hu
  simp [Ev.cells] at hu
  rcases hu with rfl | rfl | rfl | rfl | rfl | rfl <;> rfl

theorem counts_big (a b : List Ev) (vA vB : Value) (w : World) (hA : Sl EvR 6 w vA a) (hB : Sl EvR 6 w vB b) (hbig : 120 < a.length ∨ 120 < b.length) :
    Calls Try.prog 8 #[vA, vB] w fun r w' => r = .returned (.bool true) ∧ Below w.heap.size w w' := by
  obtain ⟨rA, cA, rfl, h1, h2, _⟩ := hA
  obtain ⟨rB, cB, rfl, h3, h4, _⟩ := hB
  unfold maxLen at h2 h4
  by_cases ha : 120 < a.length
  · clear hbig
    go_enter Try.func8, Try.ntmps8
    go_wp2_with fail
    refine (awake_any _).mono ?_
    rintro r w' ⟨rfl, hb⟩
    go_wp2
    go_ret
    exact ⟨rfl, hb⟩
  · have hb : 120 < b.length := by omega
    clear hbig
    go_enter Try.func8, Try.ntmps8
    go_wp2_with fail
    refine (awake_any _).mono ?_
    rintro r w' ⟨rfl, hb⟩
    go_wp2
    go_ret
    exact ⟨rfl, hb⟩

set_option maxHeartbeats 1000000 in
theorem counts_small (a b : List Ev) (rA rB : Option Addr) (cA cB : Nat) (w : World) (hA : Sl EvR 6 w (.slice rA a.length cA) a) (hB : Sl EvR 6 w (.slice rB b.length cB) b) (hA0 : rA = none → cA = 0) (hB0 : rB = none → cB = 0) (ha : a.length ≤ 120) (hb : b.length ≤ 120) :
    Calls Try.prog 8 #[.slice rA a.length cA, .slice rB b.length cB] w fun r w' => r = .returned (.bool true) ∧ Below w.heap.size w w' := by
  have HA := Lib.hid hA
  have HB := Lib.hid hB
  have A0 := Lib.hid hA0
  have B0 := Lib.hid hB0
  have z1 := Lib.hid (show ([] : List Ev).length + a.length ≤ 1000000 by simp; omega)
  have n0 := Lib.hid (show w.ownsRow w.heap.size 34 6 (.slice none 0 0) ([] : List Ev).length (([] : List Ev).flatMap Ev.cells) from World.ownsRow_nil w w.heap.size 34 6)
  clear hA hB hA0 hB0
  go_enter Try.func8, Try.ntmps8
  go_upto_region 5 with (at_builtin; (refine wpList_append_sl Ev.cells ev_len ev_one Try.underlying23 evinfo rfl (by omega) (by omega) rfl (.tmp 27) (.tmp 28) rfl w.heap.size (.slice none 0 0) [] rfl n0.out rA a.length cA a rfl A0.out HA.out z1.out (Nat.le_refl _) ?_); intro v1 w1 ho1 hg1)
  have hB1 : Below w.heap.size w w1 := (Below.refl _ _).grown hg1 (Nat.le_refl _) (fun k hk => by simp [Value.ownBlock] at hk)
  have O1 := Lib.hid ho1
  have HA1 := Lib.hid (HA.out.below evR_mono hB1)
  have HB1 := Lib.hid (HB.out.below evR_mono hB1)
  have W1 := Lib.hid hB1
  have z2 := Lib.hid (show ([] ++ a : List Ev).length + b.length ≤ 1000000 by simp; omega)
  have hs1 := Lib.hid hB1.size
  clear ho1 hg1 hB1
  go_wp2_with (at_builtin; (refine wpList_append_sl Ev.cells ev_len ev_one Try.underlying23 evinfo rfl (by omega) (by omega) rfl (.tmp 30) (.tmp 31) rfl w.heap.size v1 ([] ++ a) rfl O1.out rB b.length cB b rfl B0.out HB1.out z2.out hs1.out ?_); intro v2 w2 ho2 hg2)
  have hB2 : Below w.heap.size w w2 := W1.out.grown hg2 hs1.out (fun k hk => (O1.out.lt k hk).1)
  have hL := sl_of_own Ev.cells ev_len ho2
  simp only [List.nil_append] at hL
  have HL := Lib.hid (show Sl EvR 6 w2 v2 (a ++ b) from hL)
  have HA2 := Lib.hid (HA.out.below evR_mono hB2)
  have HB2 := Lib.hid (HB.out.below evR_mono hB2)
  have W2 := Lib.hid hB2
  clear ho2 hg2 hB2 hL
  refine (counts4_any (a ++ b) _ _ HL.out (by simp; omega)).mono ?_
  rintro r w3 ⟨rfl, hb3⟩
  have L3 := Lib.hid (HL.out.below evR_mono hb3)
  have A3 := Lib.hid (HA2.out.below evR_mono hb3)
  have B3 := Lib.hid (HB2.out.below evR_mono hb3)
  have W3 := Lib.hid (W2.out.trans (hb3.mono W2.out.size))
  clear hb3
  simp only [cns]
  go_wp2_with fail
  refine (counts4_any a _ _ A3.out (by omega)).mono ?_
  rintro r w4 ⟨rfl, hb4⟩
  have L4 := Lib.hid (L3.out.below evR_mono hb4)
  have B4 := Lib.hid (B3.out.below evR_mono hb4)
  have W4 := Lib.hid (W3.out.trans (hb4.mono W3.out.size))
  clear hb4
  simp only [cns]
  go_wp2_with fail
  refine (counts4_any b _ _ B4.out (by omega)).mono ?_
  rintro r w5 ⟨rfl, hb5⟩
  have L5 := Lib.hid (L4.out.below evR_mono hb5)
  have W5 := Lib.hid (W4.out.trans (hb5.mono W4.out.size))
  clear hb5
  simp only [cns]
  have c1 := Lib.hid (cnk_append 1 a b)
  have c3 := Lib.hid (cnk_append 3 a b)
  have c4 := Lib.hid (cnk_append 4 a b)
  have c5 := Lib.hid (cnk_append 5 a b)
  have b1 := cnk_bd 1 a
  have b2 := cnk_bd 1 b
  have b3 := cnk_bd 3 a
  have b4 := cnk_bd 3 b
  have b5 := cnk_bd 4 a
  have b6 := cnk_bd 4 b
  have b7 := cnk_bd 5 a
  have b8 := cnk_bd 5 b
  rw [c1.out, c3.out, c4.out, c5.out]
  generalize cnk 1 a = x1 at *
  generalize cnk 1 b = y1 at *
  generalize cnk 3 a = x3 at *
  generalize cnk 3 b = y3 at *
  generalize cnk 4 a = x4 at *
  generalize cnk 4 b = y4 at *
  generalize cnk 5 a = x5 at *
  generalize cnk 5 b = y5 at *
  go_wp2_with fail
  refine (count_any 1 (a ++ b) _ _ L5.out).mono ?_
  rintro r w6 ⟨rfl, rfl⟩
  rw [c1.out]
  go_wp2_with fail
  refine (count_any 3 (a ++ b) _ _ L5.out).mono ?_
  rintro r w6 ⟨rfl, rfl⟩
  rw [c3.out]
  go_wp2_with fail
  refine (count_any 4 (a ++ b) _ _ L5.out).mono ?_
  rintro r w6 ⟨rfl, rfl⟩
  rw [c4.out]
  go_wp2_with fail
  refine (count_any 5 (a ++ b) _ _ L5.out).mono ?_
  rintro r w6 ⟨rfl, rfl⟩
  rw [c5.out]
  go_wp2_with fail
  refine (awake_any _).mono ?_
  rintro r w6 ⟨rfl, hb6⟩
  go_wp2
  go_ret
  exact ⟨rfl, W5.out.trans (hb6.mono W5.out.size)⟩

set_option maxRecDepth 100000 in
theorem open_events0 {H : Type} {enc : TypeId × Value → H} {W : World} {base : Nat} {v : Value} {d : DataW H} {p : List MemPlace}
    (o : Value.okWide Try.prog W .any base 23 v) (h : DataW.Trod enc Try.prog W 0 (fun _ => true) true 23 v d p) : ∃ es r c, v = .slice r es.length c ∧ Sl EvR 6 W v es ∧ (r = none → c = 0) := by
  obtain ⟨es, hS⟩ := open_events o h
  obtain ⟨r, c, hv, _⟩ := id hS
  refine ⟨es, r, c, hv, hS, fun hr => ?_⟩
  subst hr
  obtain ⟨fuel, hf⟩ := h
  subst hv
  rcases Go.Deep.open_slice Try.underlying23 hf with ⟨hv, _⟩ | ⟨a, len, cap, m, n, D, Pl, hv, _⟩
  · simp [Value.cells] at hv; exact hv.2
  · simp [Value.cells] at hv

set_option maxRecDepth 100000 in
theorem auditCounts_from (H : Type) (enc : TypeId × Value → H) (W : World) (base : Nat) (v0 v1 : Value) (d0 d1 : DataW H) (p0 p1 : List MemPlace)
    (o0 : Value.okWide Try.prog W .any base 23 v0) (o1 : Value.okWide Try.prog W .any base 23 v1)
    (h0 : DataW.Trod enc Try.prog W 0 (fun _ => true) true 23 v0 d0 p0) (h1 : DataW.Trod enc Try.prog W 0 (fun _ => true) true 23 v1 d1 p1) :
    Calls Try.prog 8 #[v0, v1] W fun e W' => e = .returned (.bool true) ∧ Below W.heap.size W W' := by
  obtain ⟨a, rA, cA, rfl, hA, hA0⟩ := open_events0 o0 h0
  obtain ⟨b, rB, cB, rfl, hB, hB0⟩ := open_events0 o1 h1
  by_cases hbig : 120 < a.length ∨ 120 < b.length
  · exact counts_big a b _ _ W hA hB hbig
  · exact counts_small a b rA rB cA cB W hA hB hA0 hB0 (by omega) (by omega)
end Go.Proofs.Ytdmcceekaopghaa
