import Derived.Test.YtpnogmicfomofaaGreatDoorZp
import Derived.Test.YtpnogmicfomofaaGreatDoorSH
/-
  Layer 44: the program's needs. Conditions: those ahead of each theorem.
-/
namespace Go.Proofs.YtpnogmicfomofaaGreatDoor.Stp
open Go.RowKit Go.Sort Go.Lib Go.Maps
open Go.Lib (hid)
set_option linter.unusedVariables false
set_option linter.unusedSimpArgs false

/-- A step, as far as it is looked at: its change, its operation. -/
def StpR (_ : World) (cs : List Value) (p : Nat × Int) : Prop := ∃ sv : SV, cs = [.int .i64 p.1, .int .i64 p.2, .slice sv.r sv.n sv.c]
theorem stpR_mono : Mono StpR := fun _ _ _ _ _ h => h
theorem stp_at {w : World} {r : Option Addr} {n c : Nat} {ps : List (Nat × Int)} (h : Sl StpR 3 w (.slice r n c) ps) (i : Nat) (hi : i < ps.length) :
    ∃ b off sv, r = some ⟨b, off, none⟩ ∧ b < w.heap.size ∧ w.cell? ⟨b, off + i * 3, none⟩ = some (.int .i64 (ps[i]).1) ∧ w.cell? ⟨b, off + i * 3 + 1, none⟩ = some (.int .i64 (ps[i]).2) ∧ w.cell? ⟨b, off + i * 3 + 2, none⟩ = some (SV.v sv) := by
  obtain ⟨r', c', e, h1, h2, he⟩ := h
  simp at e
  obtain ⟨rfl, rfl, rfl⟩ := e
  obtain ⟨b, off, cs, hr, hs, hc, sv, hv⟩ := he i hi
  subst hv
  have g0 := hc 0 _ rfl
  exact ⟨b, off, sv, hr, World.block_lt_of_cell? w _ g0, g0, hc 1 _ rfl, hc 2 _ rfl⟩
/-- Whether a step needs another one; the steps that a step needs. -/
def ndB (cs : List Ch) (f : Nat → ByteArray) (a b : Nat × Int) : Bool := if a.2 = 3 then removesB cs f a.1 b.1 b.2 else makesB cs f a.1 a.2 b.1 b.2
def ndK (cs : List Ch) (f : Nat → ByteArray) (ps : List (Nat × Int)) (a : Nat × Int) (k : Nat) : List Nat := (List.range k).filter fun i => ndB cs f a (ps.getD i (0, 0))
theorem ndK_succ {cs : List Ch} {f : Nat → ByteArray} {ps : List (Nat × Int)} {a : Nat × Int} {k : Nat} (hk : k < ps.length) : ndK cs f ps a (k + 1) = ndK cs f ps a k ++ if ndB cs f a ps[k] = true then [k] else [] := by
  unfold ndK
  rw [List.range_succ, List.filter_append, List.filter_cons, List.filter_nil, List.getD_eq_getElem?_getD, List.getElem?_eq_getElem hk]
  rfl
theorem ndK_len (cs : List Ch) (f : Nat → ByteArray) (ps : List (Nat × Int)) (a : Nat × Int) (k : Nat) : (ndK cs f ps a k).length ≤ k := by
  unfold ndK
  exact Nat.le_trans (List.length_filter_le _ _) (by rw [List.length_range]; exact Nat.le_refl _)
def NdR (w : World) (xs : List Nat) (e : Ending) (w' : World) : Prop := ∃ v, e = .returned v ∧ OwnI w.heap.size w' v (xs.map Nat.cast) ∧ Below w.heap.size w w'
theorem nd_contract (mb M : Nat) (rc : Option Addr) (cc : Nat) (cs : List Ch) (f : Nat → ByteArray) (a b : Nat × Int) (sv tv : SV) (w : World) (h : MkP mb M rc cc w cs f) (hi : a.1 < cs.length) (hj : b.1 < cs.length) (hn : cs.length ≤ 1000000) :
    (a.2 = 3 → Calls Tryz.prog 58 #[.pointer (some ⟨mb, 0, none⟩), .agg #[.int .i64 a.1, .int .i64 a.2, .slice sv.r sv.n sv.c], .agg #[.int .i64 b.1, .int .i64 b.2, .slice tv.r tv.n tv.c]] w fun e w' => e = .returned (.bool (ndB cs f a b)) ∧ Below w.heap.size w w') ∧
    (a.2 ≠ 3 → Calls Tryz.prog 59 #[.pointer (some ⟨mb, 0, none⟩), .agg #[.int .i64 a.1, .int .i64 a.2, .slice sv.r sv.n sv.c], .agg #[.int .i64 b.1, .int .i64 b.2, .slice tv.r tv.n tv.c]] w fun e w' => e = .returned (.bool (ndB cs f a b)) ∧ Below w.heap.size w w') := by
  constructor
  · intro h3
    unfold ndB
    rw [if_pos h3]
    exact removes_any mb M rc cc cs f a.1 b.1 a.2 b.2 sv tv w h hi hj hn
  · intro h3
    unfold ndB
    rw [if_neg h3]
    exact makes_any mb M rc cc cs f a.1 b.1 a.2 b.2 sv tv w h hi hj hn
theorem row_le0 {w : World} {B sz n : Nat} {e : TypeId} {v : Value} {xs : List Value} (h : w.ownsRow (B + 1) e sz v n xs) : w.ownsRow B e sz v n xs := Adr.row_le h (by omega)
set_option maxRecDepth 100000 in
set_option maxHeartbeats 8000000 in
theorem needs_any (mb M : Nat) (rc : Option Addr) (cc : Nat) (cs : List Ch) (f : Nat → ByteArray) (rs : Option Addr) (cp : Nat) (ps : List (Nat × Int)) (k : Nat) (w : World) (h : MkP mb M rc cc w cs f) (c2 : w.cell? ⟨mb, 2, none⟩ = some (.slice rs ps.length cp)) (hp : Sl StpR 3 w (.slice rs ps.length cp) ps) (hlt : ∀ p ∈ ps, p.1 < cs.length) (hk : k < ps.length) (hn : cs.length ≤ 1000000) (hn2 : ps.length ≤ 900000) :
    Calls Tryz.prog 31 #[.pointer (some ⟨mb, 0, none⟩), .int .i64 k] w (NdR w (ndK cs f ps ps[k] ps.length)) := by
  obtain ⟨_, hl, hm⟩ := sl_len hp
  obtain ⟨sb, soff, sv, rfl, hsb, s0, s1, s2⟩ := stp_at hp k hk
  have hik := hlt ps[k] (List.getElem_mem hk)
  have HCT := hid (fun (q : Nat) (hq : q < ps.length) (tv : SV) (W : World) (hW : Below w.heap.size w W) => nd_contract mb M rc cc cs f ps[k] ps[q] sv tv W (h.below hW) hik (hlt _ (List.getElem_mem hq)) hn)
  have HST := hid (fun (W : World) (hW : Below w.heap.size w W) (q : Nat) (hq : q < ps.length) => stp_at (hp.below stpR_mono hW) q hq)
  have HC2 := hid (fun (W : World) (hW : Below w.heap.size w W) => bget hW c2)
  have HSU := hid (fun (q : Nat) (hq : q < ps.length) => ndK_succ (cs := cs) (f := f) (ps := ps) (a := ps[k]) hq)
  have HLN := hid (fun (q : Nat) => ndK_len cs f ps ps[k] q)
  have hmb := World.block_lt_of_cell? w _ c2
  simp only at hmb
  have hkk : (0 : Int) ≤ (k : Int) := by omega
  have hkk2 : (k : Int) < (ps.length : Int) := by omega
  unfold SV.v at s2
  clear h hp hlt
  generalize hNK : ndK cs f ps ps[k] = NK at *
  generalize hnb : ndB cs f ps[k] = NB at *
  generalize ps[k] = a at *
  obtain ⟨ia, oa⟩ := a
  simp only at *
  go_enter Tryz.func31, Tryz.ntmps31
  go_wp2
  have HB0 := hid (show Below w.heap.size w (w.alloc (.cells #[.int .i64 (ia : Int), .int .i64 oa, .slice sv.r sv.n sv.c] 48)) from (Below.refl _ _).alloc (Nat.le_refl _) _)
  have HS0 := hid (show (w.alloc (.cells #[.int .i64 (ia : Int), .int .i64 oa, .slice sv.r sv.n sv.c] 48)).heap.size = w.heap.size + 1 by simp)
  have z0 := cell_new' w #[.int .i64 (ia : Int), .int .i64 oa, .slice sv.r sv.n sv.c] 48
  have z00 : (w.alloc (.cells #[.int .i64 (ia : Int), .int .i64 oa, .slice sv.r sv.n sv.c] 48)).cell? ⟨w.heap.size, 0, none⟩ = some (.int .i64 (ia : Int)) := z0 0
  have z01 : (w.alloc (.cells #[.int .i64 (ia : Int), .int .i64 oa, .slice sv.r sv.n sv.c] 48)).cell? ⟨w.heap.size, 1, none⟩ = some (.int .i64 oa) := z0 1
  have z02 : (w.alloc (.cells #[.int .i64 (ia : Int), .int .i64 oa, .slice sv.r sv.n sv.c] 48)).cell? ⟨w.heap.size, 2, none⟩ = some (.slice sv.r sv.n sv.c) := z0 2
  have HZ := hid (And.intro z00 (And.intro z01 z02))
  clear z0 z00 z01 z02 s0 s1 s2 HC2
  generalize w.alloc (.cells #[.int .i64 (ia : Int), .int .i64 oa, .slice sv.r sv.n sv.c] 48) = W0 at *
  go_loopw [6, 21] (fun s6 t wr => ∃ q : Nat, q ≤ ps.length ∧ t = .int .i64 q ∧ Hid (OwnI (w.heap.size + 1) wr s6 ((NK q).map Nat.cast)) ∧ Hid (Below W0.heap.size W0 wr)) (fun _ t _ => ps.length - (RowKit.intOf t).toNat)
  case atStart => exact ⟨0, Nat.zero_le _, rfl, hid (by rw [show NK 0 = [] by rw [← hNK]; rfl]; exact ownI_nil _ _), hid (Below.refl _ _)⟩
  case round =>
    clear hNK
    obtain ⟨q, hq, rfl, HO, HW⟩ := hrel
    by_cases hlt : q < ps.length
    · have hwr : Below w.heap.size w wr := HB0.out.trans (HW.out.mono (by rw [HS0.out]; omega))
      obtain ⟨b, off, tv, he, hb, g0, g1, g2⟩ := HST.out wr hwr q hlt
      cases he
      unfold SV.v at g2
      obtain ⟨z0, z1, z2⟩ := HZ.out
      have y0 := bget HW.out z0
      have y1 := bget HW.out z1
      have y2 := bget HW.out z2
      have hw0 : w.heap.size < wr.heap.size := by have := HW.out.size; have := HS0.out; omega
      clear z0 z1 z2
      have HWA := hid (show Below wr.heap.size wr (wr.alloc (.cells #[.int .i64 ((ps[q]).1 : Int), .int .i64 (ps[q]).2, .slice tv.r tv.n tv.c] 48)) from (Below.refl _ _).alloc (Nat.le_refl _) _)
      have HCW := hid (HCT.out q hlt tv _ (hwr.trans (HWA.out.mono hwr.size)))
      clear hwr
      by_cases h3 : oa = 3
      · have HCQ := hid (HCW.out.1 h3)
        subst h3
        clear HCW
        cases hB : NB ps[q] with
        | false =>
          rw [hB] at HCQ
          have HSQ := hid (show NK (q + 1) = NK q by rw [HSU.out q hlt, hB]; simp)
          clear hB
          go_wp2_with (go_at_call 58; refine Calls.mono HCQ.out ?_; rintro e w5 ⟨rfl, hb5⟩; have HB5 := hid (HWA.out.trans (hb5.mono HWA.out.size)); have v1 := bget HB5.out y1; clear hb5)
          go_roundw
          case rel => exact ⟨q + 1, by omega, by go_num, hid (by rw [HSQ.out]; exact HO.out.below HB5.out), hid (HW.out.trans (HB5.out.mono HW.out.size))⟩
          case measure => simp [RowKit.intOf]; omega
        | true =>
          rw [hB] at HCQ
          have HSQ := hid (show NK (q + 1) = NK q ++ [q] by rw [HSU.out q hlt, hB]; simp)
          clear hB
          obtain ⟨ro, co, hv, hro1, hro2⟩ := HO.out.form
          rw [List.length_map] at hv hro1
          subst hv
          have HNL := hid (show (NK q).length ≤ 900000 by have := HLN.out q; omega)
          have HQB := hid (show q ≤ 1000000 by omega)
          go_wp2_with (first
            | (go_at_call 58
               refine Calls.mono HCQ.out ?_
               rintro e w5 ⟨rfl, hb5⟩
               have HB5 := hid (HWA.out.trans (hb5.mono HWA.out.size))
               have v1 := bget HB5.out y1
               have HO5 := hid ((HO.out.below HB5.out).below ((Below.refl w5.heap.size w5).alloc (Nat.le_refl _) (.cells #[.int .i64 (q : Int)] 3)))
               have HZ5 := hid (show w.heap.size + 1 ≤ (w5.alloc (.cells #[.int .i64 (q : Int)] 3)).heap.size by have h1 := HW.out.size; have h2 := HB5.out.size; have h3 := HS0.out; simp; omega)
               clear hb5)
            | (at_builtin
               refine app_int rfl _ _ rfl (w.heap.size + 1) (.slice ro (NK q).length co) ((NK q).map Nat.cast) rfl HO5.out w5.heap.size 1 q rfl (fr := (0, 0)) (by exact (MapKept.heap_alloc w5 _).1) (by have := HQB.out; exact ⟨by omega, by omega⟩) (by have := HNL.out; rw [List.length_map]; omega) HZ5.out (w5.heap.size + 1) (by simp) ?_
               intro g6 cap6 w6 hm6
               rw [List.length_map]
               have HM6 := hid hm6
               clear hm6))
          go_roundw
          case rel =>
            refine ⟨q + 1, by omega, by go_num, hid ?_, hid ?_⟩
            · rw [HSQ.out, List.map_append]
              have := HM6.out.1
              rw [show ((NK q).map (Nat.cast : Nat → Int) ++ [(q : Int)]).length = (NK q).length + 1 by simp] at this
              exact this
            · have h1 := (HW.out.trans (HB5.out.mono HW.out.size)).trans (((Below.refl w5.heap.size w5).alloc (Nat.le_refl _) (.cells #[.int .i64 (q : Int)] 3)).mono (Nat.le_trans HW.out.size HB5.out.size))
              exact h1.grown HM6.out.2.1 h1.size (fun k hk => by have := (HO5.out.lt k hk).1; have := HS0.out; omega)
          case measure => simp [RowKit.intOf]; omega
      · have HCQ := hid (HCW.out.2 h3)
        have e3 := neb h3
        have e4 : (oa != 3) = true := by simp [h3]
        clear HCW h3
        cases hB : NB ps[q] with
        | false =>
          rw [hB] at HCQ
          have HSQ := hid (show NK (q + 1) = NK q by rw [HSU.out q hlt, hB]; simp)
          clear hB
          go_wp2_with (go_at_call 59; refine Calls.mono HCQ.out ?_; rintro e w5 ⟨rfl, hb5⟩; have HB5 := hid (HWA.out.trans (hb5.mono HWA.out.size)); have v1 := bget HB5.out y1; clear hb5)
          go_roundw
          case rel => exact ⟨q + 1, by omega, by go_num, hid (by rw [HSQ.out]; exact HO.out.below HB5.out), hid (HW.out.trans (HB5.out.mono HW.out.size))⟩
          case measure => simp [RowKit.intOf]; omega
        | true =>
          rw [hB] at HCQ
          have HSQ := hid (show NK (q + 1) = NK q ++ [q] by rw [HSU.out q hlt, hB]; simp)
          clear hB
          obtain ⟨ro, co, hv, hro1, hro2⟩ := HO.out.form
          rw [List.length_map] at hv hro1
          subst hv
          have HNL := hid (show (NK q).length ≤ 900000 by have := HLN.out q; omega)
          have HQB := hid (show q ≤ 1000000 by omega)
          go_wp2_with (first
            | (go_at_call 59
               refine Calls.mono HCQ.out ?_
               rintro e w5 ⟨rfl, hb5⟩
               have HB5 := hid (HWA.out.trans (hb5.mono HWA.out.size))
               have v1 := bget HB5.out y1
               have HO5 := hid ((HO.out.below HB5.out).below ((Below.refl w5.heap.size w5).alloc (Nat.le_refl _) (.cells #[.int .i64 (q : Int)] 3)))
               have HZ5 := hid (show w.heap.size + 1 ≤ (w5.alloc (.cells #[.int .i64 (q : Int)] 3)).heap.size by have h1 := HW.out.size; have h2 := HB5.out.size; have h3 := HS0.out; simp; omega)
               clear hb5)
            | (at_builtin
               refine app_int rfl _ _ rfl (w.heap.size + 1) (.slice ro (NK q).length co) ((NK q).map Nat.cast) rfl HO5.out w5.heap.size 1 q rfl (fr := (0, 0)) (by exact (MapKept.heap_alloc w5 _).1) (by have := HQB.out; exact ⟨by omega, by omega⟩) (by have := HNL.out; rw [List.length_map]; omega) HZ5.out (w5.heap.size + 1) (by simp) ?_
               intro g6 cap6 w6 hm6
               rw [List.length_map]
               have HM6 := hid hm6
               clear hm6))
          go_roundw
          case rel =>
            refine ⟨q + 1, by omega, by go_num, hid ?_, hid ?_⟩
            · rw [HSQ.out, List.map_append]
              have := HM6.out.1
              rw [show ((NK q).map (Nat.cast : Nat → Int) ++ [(q : Int)]).length = (NK q).length + 1 by simp] at this
              exact this
            · have h1 := (HW.out.trans (HB5.out.mono HW.out.size)).trans (((Below.refl w5.heap.size w5).alloc (Nat.le_refl _) (.cells #[.int .i64 (q : Int)] 3)).mono (Nat.le_trans HW.out.size HB5.out.size))
              exact h1.grown HM6.out.2.1 h1.size (fun k hk => by have := (HO5.out.lt k hk).1; have := HS0.out; omega)
          case measure => simp [RowKit.intOf]; omega
    · obtain rfl : q = ps.length := by omega
      obtain ⟨ro, co, hv, hro1, hro2⟩ := HO.out.form
      subst hv
      go_wp2
      go_ret
      exact ⟨_, rfl, ⟨row_le0 HO.out.1, HO.out.2⟩, HB0.out.trans (HW.out.mono (by rw [HS0.out]; omega))⟩
end Go.Proofs.YtpnogmicfomofaaGreatDoor.Stp
/-
  Layer 44: what the program's Steps holds in memory: the resources, the steps. Conditions: those ahead of each theorem.
-/
namespace Go.Proofs.YtpnogmicfomofaaGreatDoor.Stp
open Go.RowKit Go.Sort Go.Lib Go.Maps
open Go.Lib (hid)
set_option linter.unusedVariables false
set_option linter.unusedSimpArgs false

/-- The operations of a change, in order; the steps of the first k changes; their resources. -/
def opl (c : Ch) : List Int := (if opA c.act c.cf = 0 then [] else [opA c.act c.cf]) ++ (if opB c.act c.cf = 0 then [] else [opB c.act c.cf])
def plusK (cs : List Ch) (i : Nat) : List (Nat × Int) := match cs[i]? with | some c => (opl c).map fun o => (i, o) | none => []
def psK (cs : List Ch) (k : Nat) : List (Nat × Int) := (List.range k).flatMap (plusK cs)
def rsK (cs : List Ch) (k i : Nat) : ByteArray := if i < k then (match cs[i]? with | some c => if opA c.act c.cf = 0 then ByteArray.empty else resB c.addr | none => ByteArray.empty) else ByteArray.empty
theorem psK_succ (cs : List Ch) (k : Nat) : psK cs (k + 1) = psK cs k ++ plusK cs k := by
  unfold psK
  rw [List.range_succ, List.flatMap_append]
  simp
theorem plusK_at {cs : List Ch} {k : Nat} (hk : k < cs.length) : plusK cs k = (opl cs[k]).map fun o => (k, o) := by
  unfold plusK
  rw [List.getElem?_eq_getElem hk]
theorem opl_len (c : Ch) : (opl c).length ≤ 2 := by
  unfold opl
  rw [List.length_append]
  split <;> split <;> simp
theorem plusK_len (cs : List Ch) (k : Nat) : (plusK cs k).length ≤ 2 := by
  unfold plusK
  split
  · rw [List.length_map]; exact opl_len _
  · simp
theorem psK_len (cs : List Ch) (k : Nat) : (psK cs k).length ≤ 2 * k := by
  induction k with
  | zero => simp [psK]
  | succ k ih => rw [psK_succ, List.length_append]; have := plusK_len cs k; omega
theorem psK_mono (cs : List Ch) {k n : Nat} (h : k ≤ n) : (psK cs k).length ≤ (psK cs n).length := by
  induction n with
  | zero => rw [show k = 0 by omega]; exact Nat.le_refl _
  | succ n ih =>
    rcases Nat.lt_or_ge k (n + 1) with h1 | h1
    · rw [psK_succ, List.length_append]; have := ih (by omega); omega
    · rw [show k = n + 1 by omega]; exact Nat.le_refl _
theorem psK_lt (cs : List Ch) (k : Nat) : ∀ p ∈ psK cs k, p.1 < k ∧ p.1 < cs.length := by
  intro p hp
  unfold psK at hp
  obtain ⟨i, hi, hp⟩ := List.mem_flatMap.1 hp
  rw [List.mem_range] at hi
  unfold plusK at hp
  cases hc : cs[i]? with
  | none => rw [hc] at hp; simp at hp
  | some c =>
    rw [hc] at hp
    simp only [List.mem_map] at hp
    obtain ⟨o, _, rfl⟩ := hp
    exact ⟨hi, (List.getElem?_eq_some_iff.1 hc).1⟩
theorem opA_ib (a : Int) (c : Bool) (h : opA a c ≠ 0) : 1 ≤ opA a c ∧ opA a c ≤ 4 := by
  revert h
  unfold opA
  (repeat' split) <;> intro h <;> first | decide | exact absurd rfl h
theorem opB_ib (a : Int) (c : Bool) (h : opB a c ≠ 0) : 1 ≤ opB a c ∧ opB a c ≤ 4 := by
  revert h
  unfold opB
  (repeat' split) <;> intro h <;> first | decide | exact absurd rfl h
theorem opl_ib (c : Ch) : ∀ o ∈ opl c, 1 ≤ o ∧ o ≤ 4 := by
  intro o ho
  unfold opl at ho
  rw [List.mem_append] at ho
  rcases ho with ho | ho
  · by_cases h : opA c.act c.cf = 0
    · rw [if_pos h] at ho; cases ho
    · rw [if_neg h, List.mem_singleton] at ho
      subst ho
      exact opA_ib _ _ h
  · by_cases h : opB c.act c.cf = 0
    · rw [if_pos h] at ho; cases ho
    · rw [if_neg h, List.mem_singleton] at ho
      subst ho
      exact opB_ib _ _ h
theorem psK_ib (cs : List Ch) (k : Nat) : ∀ p ∈ psK cs k, 1 ≤ p.2 ∧ p.2 ≤ 4 := by
  intro p hp
  unfold psK at hp
  obtain ⟨i, hi, hp⟩ := List.mem_flatMap.1 hp
  unfold plusK at hp
  cases hc : cs[i]? with
  | none => rw [hc] at hp; simp at hp
  | some c =>
    rw [hc] at hp
    simp only [List.mem_map] at hp
    obtain ⟨o, ho, rfl⟩ := hp
    exact opl_ib c o ho
theorem rsK_same (cs : List Ch) (k i : Nat) (h : i ≠ k) : rsK cs (k + 1) i = rsK cs k i := by
  unfold rsK
  by_cases h1 : i < k
  · rw [if_pos h1, if_pos (by omega)]
  · rw [if_neg h1, if_neg (by omega)]
theorem rsK_zero (cs : List Ch) (i : Nat) : rsK cs 0 i = ByteArray.empty := by unfold rsK; rw [if_neg (by omega)]
theorem rsK_new (cs : List Ch) (k : Nat) : rsK cs k k = ByteArray.empty := by unfold rsK; rw [if_neg (by omega)]
theorem rsK_skip {cs : List Ch} {k : Nat} (hk : k < cs.length) (h : opA (cs[k]).act (cs[k]).cf = 0) : rsK cs (k + 1) = rsK cs k := by
  funext i
  by_cases e : i = k
  · subst e
    rw [rsK_new]
    unfold rsK
    rw [if_pos (by omega), List.getElem?_eq_getElem hk]
    simp only [h, if_true]
  · exact rsK_same cs k i e
theorem rsK_put {cs : List Ch} {k : Nat} (hk : k < cs.length) (h : opA (cs[k]).act (cs[k]).cf ≠ 0) : rsK cs (k + 1) k = resB (cs[k]).addr := by
  unfold rsK
  rw [if_pos (by omega), List.getElem?_eq_getElem hk]
  simp only [if_neg h]
theorem opB_of {a : Int} {c : Bool} (h : opA a c = 0) : opB a c = 0 := by
  unfold opA at h
  unfold opB
  revert h
  (repeat' split) <;> intro h <;> first | rfl | exact absurd h (by decide) | contradiction
/-- Own rows of steps that need nothing yet. -/
def encT (p : Nat × Int) : List Value := [.int .i64 p.1, .int .i64 p.2, .slice none 0 0]
theorem encT_len : ∀ x, (encT x).length = 3 := fun _ => rfl
theorem encT_one : ∀ x, ∀ u ∈ encT x, u.oneCell' = true := fun x u hu => by
  simp only [encT, List.mem_cons, List.mem_nil_iff, or_false] at hu
  rcases hu with rfl | rfl | rfl <;> rfl
theorem stepinfo : (Tryz.prog.info? 48).map (fun i => (i.zero, i.size, i.bytes)) = some (some (.agg #[.int .i64 0, .int .i64 0, .slice none 0 0]), 3, 40) := by kernel_rfl
def OwnT (B : Nat) (w : World) (v : Value) (xs : List (Nat × Int)) : Prop := w.ownsRow B 48 3 v xs.length (xs.flatMap encT)
theorem ownT_nil (B : Nat) (w : World) : OwnT B w (.slice none 0 0) [] := World.ownsRow_nil w B _ 3
def MoreT (B : Nat) (w : World) (v : Value) (xs : List (Nat × Int)) (H : Nat) (g cap : Nat) (w' : World) : Prop :=
  OwnT B w' (.slice (some ⟨g, 0, none⟩) xs.length cap) xs ∧ w.grownBy w' v.ownBlock ∧ (v.ownBlock = some g ∨ g = H) ∧ g < w'.heap.size
section
variable {w : World} {ops : Array Oper} {rest : List Oper} {o : Oper} {a : Act} {Q : Exit → Act → World → Prop}
theorem app_t (hgd : o.guard = none) (s x : Operand) (ho : o.op = .call { callee := .builtin .append, args := #[s, x], argTypes := #[34, 34] })
    (B : Nat) (v : Value) (xs : List (Nat × Int)) (hs : a.eval s = v) (hown : OwnT B w v xs) (nb c : Nat) (y : Nat × Int) (hx : a.eval x = .slice (some ⟨nb, 0, none⟩) 1 c) {fr : Nat × Nat} (hy : w.heap[nb]? = some (.cells #[.int .i64 y.1, .int .i64 y.2, .slice none 0 0] 48 fr))
    (hn : xs.length + 1 ≤ 1000000) (hbase : B ≤ w.heap.size) (H : Nat) (hH : w.heap.size = H)
    (h : ∀ g cap w', MoreT B w v (xs ++ [y]) H g cap w' → wpList Tryz.prog ops Q rest (a.put o.dst (.slice (some ⟨g, 0, none⟩) (xs.length + 1) cap)) w') : wpList Tryz.prog ops Q (o :: rest) a w := by
  subst hH
  refine wpList_append_rows encT encT_len encT_one Tryz.underlying34 stepinfo rfl (by omega) (by omega) hgd s x ho B v xs hs hown nb 1 c [y] rfl (by omega) hx (fr := fr) hy hn hbase ?_
  intro g cap w' h1 h2 h3 h4
  refine h g cap w' ⟨?_, h2, h3, h4⟩
  unfold OwnT
  simpa using h1
end
/-- The maker while the steps are collected. -/
structure MkS (w : World) (rc : Option Addr) (cc n : Nat) (W : World) (f : Nat → ByteArray) (v : Value) (ps : List (Nat × Int)) : Prop where
  c0 : W.cell? ⟨w.heap.size + 1, 0, none⟩ = some (.slice rc n cc)
  c1 : W.cell? ⟨w.heap.size + 1, 1, none⟩ = some (.slice (some ⟨w.heap.size, 0, none⟩) n n)
  c2 : W.cell? ⟨w.heap.size + 1, 2, none⟩ = some v
  f2 : W.frozen? ⟨w.heap.size + 1, 2, none⟩ = false
  rs : ∀ i, i < n → W.cell? ⟨w.heap.size, i, none⟩ = some (.string (f i))
  fr : ∀ i, W.frozen? ⟨w.heap.size, i, none⟩ = false
  own : OwnT (w.heap.size + 2) W v ps
  bel : Below w.heap.size w W
  sz : w.heap.size + 2 ≤ W.heap.size
section
variable {w W : World} {rc : Option Addr} {cc n : Nat} {f : Nat → ByteArray} {v : Value} {ps : List (Nat × Int)}
theorem MkS.kept {W' : World} {row : Option Nat} (h : MkS w rc cc n W f v ps) (hg : W.grownBy W' row) (hr : ∀ g, row = some g → w.heap.size + 2 ≤ g ∧ v.ownBlock ≠ some g) : MkS w rc cc n W' f v ps := by
  have hsz := h.sz
  have e1 : ∀ g, row = some g → g ≠ w.heap.size + 1 := fun g hg2 => by have := (hr g hg2).1; omega
  have e2 : ∀ g, row = some g → g ≠ w.heap.size := fun g hg2 => by have := (hr g hg2).1; omega
  exact ⟨grown_cell hg (by omega) e1 h.c0, grown_cell hg (by omega) e1 h.c1, grown_cell hg (by omega) e1 h.c2, (grown_frozen hg (by omega) e1).trans h.f2, fun i hi => grown_cell hg (by omega) e2 (h.rs i hi), fun i => (grown_frozen hg (by omega) e2).trans (h.fr i), kept_off h.own hg (fun g hg2 e => (hr g e).2 hg2), h.bel.grown hg h.bel.size (fun k hk => by have := (hr k hk).1; omega), Nat.le_trans h.sz hg.size⟩
theorem MkS.below {W' : World} (h : MkS w rc cc n W f v ps) (hb : Below W.heap.size W W') : MkS w rc cc n W' f v ps := h.kept (grown_below hb) (fun _ e => by cases e)
theorem ownT_lt {B : Nat} {w : World} {v : Value} {xs : List (Nat × Int)} (h : OwnT B w v xs) : ∀ g, v.ownBlock = some g → B ≤ g ∧ g < w.heap.size := World.ownsRow.lt h
/-- A resource is written. -/
theorem MkS.res (h : MkS w rc cc n W f v ps) {i : Nat} (hi : i < n) {f' : Nat → ByteArray} (hf : ∀ j, j ≠ i → f' j = f j) {s : ByteArray} (hs : s = f' i) : MkS w rc cc n (W.setCell ⟨w.heap.size, i, none⟩ (.string s)) f' v ps := by
  have hsz := h.sz
  have hg := grown_set W ⟨w.heap.size, i, none⟩ (.string s)
  have e1 : ∀ g, some (w.heap.size) = some g → g ≠ w.heap.size + 1 := fun g hg2 => by cases hg2; omega
  refine ⟨grown_cell hg (by omega) e1 h.c0, grown_cell hg (by omega) e1 h.c1, grown_cell hg (by omega) e1 h.c2, (grown_frozen hg (by omega) e1).trans h.f2, fun j hj => ?_, fun j => by simpa using h.fr j, kept_off h.own hg (fun g hg2 e => by have := (ownT_lt h.own g hg2).1; simp at e; omega), h.bel.grown hg h.bel.size (fun k hk => by cases hk; exact Nat.le_refl _), Nat.le_trans h.sz hg.size⟩
  by_cases e : i = j
  · subst e
    rw [scell_same (h.rs i hi), hs]
  · rw [scell_ne e, h.rs j hj, hf j (fun h => e h.symm)]
/-- A step is appended: the new header stands in the maker. -/
theorem MkS.app {W1 W2 : World} (h : MkS w rc cc n W f v ps) (hb : Below W.heap.size W W1) {y : Nat × Int} {H g cap len : Nat} (hl : len = ps.length + 1) (hm : MoreT (w.heap.size + 2) W1 v (ps ++ [y]) H g cap W2) :
    (W2.cell? ⟨w.heap.size + 1, 2, none⟩ = some v ∧ W2.frozen? ⟨w.heap.size + 1, 2, none⟩ = false) ∧ MkS w rc cc n (W2.setCell ⟨w.heap.size + 1, 2, none⟩ (.slice (some ⟨g, 0, none⟩) len cap)) f (.slice (some ⟨g, 0, none⟩) len cap) (ps ++ [y]) := by
  have hl2 : len = (ps ++ [y]).length := by simp [hl]
  rw [hl2]
  clear hl hl2
  have h1 := h.below hb
  obtain ⟨m1, m2, m3, m4⟩ := hm
  have hsz := h1.sz
  have hlt := ownT_lt h1.own
  have e1 : ∀ g, v.ownBlock = some g → g ≠ w.heap.size + 1 := fun g hg2 => by have := (hlt g hg2).1; omega
  have e2 : ∀ g, v.ownBlock = some g → g ≠ w.heap.size := fun g hg2 => by have := (hlt g hg2).1; omega
  have k2 := grown_cell m2 (by omega) e1 h1.c2
  have kf : W2.frozen? ⟨w.heap.size + 1, 2, none⟩ = false := (grown_frozen m2 (by omega) e1).trans h1.f2
  have hg := grown_set W2 ⟨w.heap.size + 1, 2, none⟩ (.slice (some ⟨g, 0, none⟩) (ps ++ [y]).length cap)
  have hs2 : w.heap.size + 2 ≤ W2.heap.size := Nat.le_trans h1.sz m2.size
  have e3 : ∀ g, some (w.heap.size + 1) = some g → g ≠ w.heap.size := fun g hg2 => by cases hg2; omega
  refine ⟨⟨k2, kf⟩, ?_⟩
  refine ⟨?_, ?_, scell_same k2, by simpa using kf, fun j hj => grown_cell hg (by omega) e3 (grown_cell m2 (by omega) e2 (h1.rs j hj)), fun j => (grown_frozen hg (by omega) e3).trans ((grown_frozen m2 (by omega) e2).trans (h1.fr j)), kept_off m1 hg (fun q hq e => by have := (ownT_lt m1 q hq).1; simp at e; omega), ?_, Nat.le_trans hs2 hg.size⟩
  · rw [scell_ne (by decide)]
    exact grown_cell m2 (by omega) e1 h1.c0
  · rw [scell_ne (by decide)]
    exact grown_cell m2 (by omega) e1 h1.c1
  · have hbel : Below w.heap.size w W2 := h1.bel.grown m2 h1.bel.size (fun k hk => by have := (hlt k hk).1; omega)
    exact hbel.grown hg hbel.size (fun k hk => by cases hk; show w.heap.size ≤ w.heap.size + 1; omega)
end
/-- Where it begins. -/
theorem MkS.start (w : World) (rc : Option Addr) (cc n : Nat) {C : Array Value} (hC : ∀ (k j : Nat) (u : Value), k < n → (Value.string ByteArray.empty).cells[j]? = some u → C[k * 1 + j]? = some u) :
    MkS w rc cc n ((w.alloc (.cells C 9)).alloc (.cells #[.slice rc n cc, .slice (some ⟨w.heap.size, 0, none⟩) n n, .slice none 0 0] 74)) (fun _ => ByteArray.empty) (.slice none 0 0) [] := by
  have hb1 : Below w.heap.size w (w.alloc (.cells C 9)) := (Below.refl _ _).alloc (Nat.le_refl _) _
  have s1 : (w.alloc (.cells C 9)).heap.size = w.heap.size + 1 := by simp
  have r1 : ∀ i, i < n → (w.alloc (.cells C 9)).cell? ⟨w.heap.size, i, none⟩ = some (.string ByteArray.empty) := fun i hi => cell_at rfl (by
    have h1 := hC i 0 (Value.string ByteArray.empty) hi rfl
    simpa using h1)
  have f1 : ∀ i, (w.alloc (.cells C 9)).frozen? ⟨w.heap.size, i, none⟩ = false := fun i => by
    unfold World.frozen?
    rw [(MapKept.heap_alloc w _).1]
    simp
  generalize w.alloc (.cells C 9) = W1 at *
  have hb2 : Below W1.heap.size W1 (W1.alloc (.cells #[.slice rc n cc, .slice (some ⟨w.heap.size, 0, none⟩) n n, .slice none 0 0] 74)) := (Below.refl _ _).alloc (Nat.le_refl _) _
  have hg := grown_below hb2
  refine ⟨cell_at s1.symm rfl, cell_at s1.symm rfl, cell_at s1.symm rfl, ?_, fun i hi => bget hb2 (r1 i hi), fun i => (grown_frozen hg (by omega) (fun _ e => by cases e)).trans (f1 i), ownT_nil _ _, hb1.trans (hb2.mono (by omega)), by simp; omega⟩
  unfold World.frozen?
  have := (MapKept.heap_alloc W1 (.cells #[.slice rc n cc, .slice (some ⟨w.heap.size, 0, none⟩) n n, .slice none 0 0] 74)).1
  rw [s1] at this
  simp [this]
end Go.Proofs.YtpnogmicfomofaaGreatDoor.Stp
/-
  Layer 44: what the program's Steps holds in memory while the needs are written. Conditions: those ahead of each theorem.
-/
namespace Go.Proofs.YtpnogmicfomofaaGreatDoor.Stp
open Go.RowKit Go.Sort Go.Lib Go.Maps
open Go.Lib (hid)
set_option linter.unusedVariables false
set_option linter.unusedSimpArgs false

/-- The maker while the needs are written: the first k of them stand. -/
structure MkN (w : World) (rc : Option Addr) (cc n G g : Nat) (W : World) (f : Nat → ByteArray) (rs : Option Addr) (cp : Nat) (ps : List (Nat × Int)) (vs : Nat → SV) (F : Nat → List Nat) (k : Nat) : Prop where
  c0 : W.cell? ⟨w.heap.size + 1, 0, none⟩ = some (.slice rc n cc)
  c1 : W.cell? ⟨w.heap.size + 1, 1, none⟩ = some (.slice (some ⟨w.heap.size, 0, none⟩) n n)
  c2 : W.cell? ⟨w.heap.size + 1, 2, none⟩ = some (.slice rs ps.length cp)
  res : ∀ i, i < n → W.cell? ⟨w.heap.size, i, none⟩ = some (.string (f i))
  rsg : 0 < ps.length → rs = some ⟨g, 0, none⟩ ∧ w.heap.size + 2 ≤ g ∧ g < G
  el : ∀ j (hj : j < ps.length), W.cell? ⟨g, j * 3, none⟩ = some (.int .i64 (ps[j]).1) ∧ W.cell? ⟨g, j * 3 + 1, none⟩ = some (.int .i64 (ps[j]).2) ∧ W.cell? ⟨g, j * 3 + 2, none⟩ = some (vs j).v ∧ W.frozen? ⟨g, j * 3 + 2, none⟩ = false
  nd : ∀ j, j < k → OwnI G W (vs j).v ((F j).map Nat.cast)
  bel : Below w.heap.size w W
  sz : G ≤ W.heap.size
  gs : w.heap.size + 2 ≤ G
  cap : ps.length ≤ cp ∧ cp ≤ maxLen
section
variable {w W : World} {rc : Option Addr} {cc n G g : Nat} {f : Nat → ByteArray} {rs : Option Addr} {cp : Nat} {ps : List (Nat × Int)} {vs : Nat → SV} {F : Nat → List Nat} {k : Nat}
theorem MkN.below {W' : World} (h : MkN w rc cc n G g W f rs cp ps vs F k) (hb : Below W.heap.size W W') : MkN w rc cc n G g W' f rs cp ps vs F k := by
  refine ⟨bget hb h.c0, bget hb h.c1, bget hb h.c2, fun i hi => bget hb (h.res i hi), h.rsg, fun j hj => ?_, fun j hj => (h.nd j hj).below hb, h.bel.trans (hb.mono h.bel.size), Nat.le_trans h.sz hb.size, h.gs, h.cap⟩
  obtain ⟨e1, e2, e3, e4⟩ := h.el j hj
  have hl := (h.rsg (by omega)).2.2
  have hs := h.sz
  exact ⟨bget hb e1, bget hb e2, bget hb e3, (grown_frozen (grown_below hb) (by omega) (fun _ e => by cases e)).trans e4⟩
theorem MkN.put {W' : World} (h : MkN w rc cc n G g W f rs cp ps vs F k) (hb : Below W.heap.size W W') (hk : k < ps.length) {sv : SV} (ho : OwnI W.heap.size W' sv.v ((F k).map Nat.cast)) :
    MkN w rc cc n G g (W'.setCell ⟨g, k * 3 + 2, none⟩ sv.v) f rs cp ps (fun j => if j = k then sv else vs j) F (k + 1) := by
  have h1 := h.below hb
  have hsz := h.sz
  have hs1 := h1.sz
  have hgs := h.gs
  obtain ⟨hrs, hg1, hg2⟩ := h.rsg (by omega)
  have hg := grown_set W' ⟨g, k * 3 + 2, none⟩ sv.v
  have e1 : ∀ q, some g = some q → q ≠ w.heap.size + 1 := fun q hq => by cases hq; omega
  have e2 : ∀ q, some g = some q → q ≠ w.heap.size := fun q hq => by cases hq; omega
  refine ⟨grown_cell hg (by omega) e1 h1.c0, grown_cell hg (by omega) e1 h1.c1, grown_cell hg (by omega) e1 h1.c2, fun i hi => grown_cell hg (by omega) e2 (h1.res i hi), h.rsg, fun j hj => ?_, fun j hj => ?_, h1.bel.grown hg h1.bel.size (fun q hq => by cases hq; show w.heap.size ≤ g; omega), Nat.le_trans h1.sz hg.size, h.gs, h.cap⟩
  · obtain ⟨a1, a2, a3, a4⟩ := h1.el j hj
    refine ⟨by rw [scell_ne (by omega)]; exact a1, by rw [scell_ne (by omega)]; exact a2, ?_, by simpa using a4⟩
    by_cases e : j = k
    · subst e
      rw [scell_same a3]
      simp
    · rw [scell_ne (by omega), a3]
      simp [e]
  · by_cases e : j = k
    · subst e
      simp only [if_true]
      refine ((show OwnI G W' sv.v ((F j).map Nat.cast) from ⟨Adr.row_le ho.1 hsz, ho.2⟩)).kept hg (fun q hq e => ?_)
      have := (ho.lt q hq).1
      simp at e
      omega
    · simp only [if_neg e]
      refine (h1.nd j (by omega)).kept hg (fun q hq e => ?_)
      have := ((h1.nd j (by omega)).lt q hq).1
      simp at e
      omega
theorem MkN.stp (h : MkN w rc cc n G g W f rs cp ps vs F k) : Sl StpR 3 W (.slice rs ps.length cp) ps := by
  refine ⟨rs, cp, rfl, h.cap.1, h.cap.2, fun i hi => ?_⟩
  obtain ⟨hrs, _⟩ := h.rsg (by omega)
  obtain ⟨e1, e2, e3, _⟩ := h.el i hi
  refine ⟨g, 0, [.int .i64 (ps[i]).1, .int .i64 (ps[i]).2, (vs i).v], hrs, rfl, fun j u hj => ?_, vs i, rfl⟩
  rw [Nat.zero_add]
  match j, hj with
  | 0, hj => cases hj; exact e1
  | 1, hj => cases hj; exact e2
  | 2, hj => cases hj; exact e3
  | j + 3, hj => cases hj
theorem MkN.mkp {cs : List Ch} (h : MkN w rc cc cs.length G g W f rs cp ps vs F k) (hc : Sl ChR 22 w (.slice rc cs.length cc) cs) : MkP (w.heap.size + 1) w.heap.size rc cc W cs f :=
  ⟨h.c0, h.c1, hc.below chR_mono h.bel, h.res⟩
theorem MkN.fin (h : MkN w rc cc n G g W f rs cp ps vs F ps.length) (hp : ∀ p ∈ ps, p.1 ≤ 1000000 ∧ 1 ≤ p.2 ∧ p.2 ≤ 4) (ss : List St) (hl : ss.length = ps.length) (hss : ∀ j (hj : j < ps.length) (hj' : j < ss.length), ss[j] = ⟨(ps[j]).1, (ps[j]).2, (F j).map Nat.cast⟩) :
    Sl StR 3 W (.slice rs ps.length cp) ss := by
  refine ⟨rs, cp, by rw [hl], by rw [hl]; exact h.cap.1, h.cap.2, fun i hi => ?_⟩
  rw [hl] at hi
  obtain ⟨hrs, _⟩ := h.rsg (by omega)
  obtain ⟨e1, e2, e3, _⟩ := h.el i hi
  have hb := hp _ (List.getElem_mem hi)
  refine ⟨g, 0, [.int .i64 (ps[i]).1, .int .i64 (ps[i]).2, (vs i).v], hrs, rfl, fun j u hj => ?_, (vs i).v, ?_⟩
  · rw [Nat.zero_add]
    match j, hj with
    | 0, hj => cases hj; exact e1
    | 1, hj => cases hj; exact e2
    | 2, hj => cases hj; exact e3
    | j + 3, hj => cases hj
  · rw [hss i hi (by omega)]
    exact ⟨rfl, (h.nd i hi).sl, ⟨by simp only; omega, by simp only; omega⟩, ⟨by simp only; omega, by simp only; omega⟩⟩
end
/-- Where it begins. -/
theorem MkS.next {w W : World} {rc : Option Addr} {cc n : Nat} {f : Nat → ByteArray} {v : Value} {ps : List (Nat × Int)} (h : MkS w rc cc n W f v ps) (F : Nat → List Nat) :
    ∃ g rs cp, v = .slice rs ps.length cp ∧ MkN w rc cc n W.heap.size g W f rs cp ps (fun _ => ⟨none, 0, 0⟩) F 0 := by
  have hc2 := h.c2
  have hsl := sl_of_own encT encT_len h.own
  rcases h.own.2 with ⟨rfl, h0⟩ | ⟨g, cap, cur, rfl, hb, hg, hn, hc, hs, ht⟩
  · refine ⟨0, none, 0, by rw [h0], h.c0, h.c1, by rw [h0]; exact hc2, h.rs, fun hp => by omega, fun j hj => by omega, fun j hj => by omega, h.bel, Nat.le_refl _, h.sz, by rw [h0]; unfold maxLen; omega⟩
  · refine ⟨g, some ⟨g, 0, none⟩, cap, rfl, h.c0, h.c1, hc2, h.rs, fun _ => ⟨rfl, hb, lt_of_block hg⟩, fun j hj => ?_, fun j hj => by omega, h.bel, Nat.le_refl _, h.sz, hn, hc⟩
    obtain ⟨_, _, e, _, _, he⟩ := hsl
    obtain ⟨b, off, ds, hr, _, hcell, hd⟩ := he j hj
    simp at e
    obtain ⟨e1, _⟩ := e
    subst hd
    rw [← e1] at hr
    simp at hr
    obtain ⟨rfl, rfl⟩ := hr
    have g0 := hcell 0 _ rfl
    have g1 := hcell 1 _ rfl
    have g2 := hcell 2 _ rfl
    simp only [Nat.zero_add, Nat.add_zero] at g0 g1 g2
    exact ⟨g0, g1, g2, frozen_of hg _⟩
/-- The steps of changes; the error; the list handed back. -/
def psF (cs : List Ch) : List (Nat × Int) := psK cs cs.length
def ndF (cs : List Ch) (j : Nat) : List Nat := ndK cs (rsK cs cs.length) (psF cs) ((psF cs).getD j (0, 0)) (psF cs).length
def stF (cs : List Ch) : List St := (psF cs).map fun a => ⟨a.1, a.2, (ndK cs (rsK cs cs.length) (psF cs) a (psF cs).length).map Nat.cast⟩
theorem stF_len (cs : List Ch) : (stF cs).length = (psF cs).length := by simp [stF]
theorem stF_at (cs : List Ch) (j : Nat) (hj : j < (psF cs).length) (hj' : j < (stF cs).length) : (stF cs)[j] = ⟨((psF cs)[j]).1, ((psF cs)[j]).2, (ndF cs j).map Nat.cast⟩ := by
  have h1 : (stF cs)[j]? = some ⟨((psF cs)[j]).1, ((psF cs)[j]).2, (ndK cs (rsK cs cs.length) (psF cs) (psF cs)[j] (psF cs).length).map Nat.cast⟩ := by
    unfold stF
    rw [List.getElem?_map, List.getElem?_eq_getElem hj]
    rfl
  rw [List.getElem?_eq_getElem hj'] at h1
  have h2 : ndF cs j = ndK cs (rsK cs cs.length) (psF cs) (psF cs)[j] (psF cs).length := by
    unfold ndF
    rw [List.getD_eq_getElem?_getD, List.getElem?_eq_getElem hj]
    rfl
  rw [h2]
  exact Option.some.inj h1
theorem esN_le : ∀ (N : List (List Nat)) (m : Nat), (∀ l ∈ N, l.length ≤ m) → ∀ k, k ≤ N.length → (esN (N.take k)).length ≤ k * m
  | N, m, h, 0, _ => by simp [esN]
  | N, m, h, k + 1, hk => by
    rw [esN_take (by omega), List.length_append, List.length_map, Nat.add_mul, Nat.one_mul]
    have h1 := esN_le N m h k (by omega)
    have h2 : (nd N k).length ≤ m := by
      unfold nd
      rw [List.getD_eq_getElem?_getD, List.getElem?_eq_getElem (by omega)]
      exact h _ (List.getElem_mem _)
    omega
theorem esN_few (cs : List Ch) (h : cs.length ≤ 60) : (stF cs).length ≤ 900000 ∧ (esN (nls (stF cs))).length ≤ 900000 := by
  have h1 : (psF cs).length ≤ 2 * cs.length := psK_len cs cs.length
  have h2 := stF_len cs
  refine ⟨by omega, ?_⟩
  have h3 := esN_le (nls (stF cs)) 120 (fun l hl => by
    unfold nls at hl
    obtain ⟨s, hs, rfl⟩ := List.mem_map.1 hl
    unfold stF at hs
    obtain ⟨a, _, rfl⟩ := List.mem_map.1 hs
    rw [List.length_map, List.length_map]
    have := ndK_len cs (rsK cs cs.length) (psF cs) a (psF cs).length
    omega) (nls (stF cs)).length (Nat.le_refl _)
  rw [List.take_length, nls_len] at h3
  have : (stF cs).length * 120 ≤ 120 * 120 := Nat.mul_le_mul_right _ (by omega)
  omega
noncomputable def stE (cs : List Ch) : Int := if 2048 < (psF cs).length then 14 else ordR (stF cs)
noncomputable def stL (cs : List Ch) : List St := if stE cs = 0 then stF cs else []
def StpP (cs : List Ch) (w : World) (e : Ending) (w' : World) : Prop := ∃ v, e = .returned (.tuple #[v, .int .i64 (stE cs)]) ∧ Sl StR 3 w' v (stL cs) ∧ Below w.heap.size w w'
end Go.Proofs.YtpnogmicfomofaaGreatDoor.Stp
