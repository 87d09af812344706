import Derived.Test.YtlhekldlfmdmiaaNb
import Derived.Test.YtlhekldlfmdmiaaCk
import Derived.Laws.StructEq
import Derived.Deep.RegionHeld3
import Derived.Deep.DrawnRows
import Derived.Deep.QuietTactic
import Derived.BigQuiet
/-
  The reference's edge: one more edge in its place. Conditions: those ahead of each theorem.
-/
namespace Go.Proofs.Ytlhekldlfmdmiaa
open Go.RowKit Go.Sort Go.Lib Go.Maps
open Go.Lib (hid)
set_option linter.unusedVariables false
set_option linter.unusedSimpArgs false

def EdgP (l : List Ed) (s : Ed) (w : World) (e : Ending) (w' : World) : Prop := ∃ v', e = .returned v' ∧ NE w' v' (insE s l) ∧ Below w.heap.size w w'
theorem insE_put {l : List Ed} {s : Ed} {k : Nat} (hk : k ≤ l.length) (h1 : ∀ j (hj : j < l.length), j < k → lessE l[j] s = true) (h2 : ∀ h : k < l.length, lessE l[k] s = false) (h3 : ∀ h : k < l.length, l[k] ≠ s) : insE s l = l.take k ++ [s] ++ l.drop k := by
  unfold insE
  rw [lowL_eq s l k hk h1 h2, if_neg]
  · unfold putL
    rw [lowL_eq s l k hk h1 h2]
    simp
  · intro h
    obtain ⟨hk2, e⟩ := List.getElem?_eq_some_iff.1 h
    exact h3 hk2 e
theorem insE_at {l : List Ed} {s : Ed} {k : Nat} (hk : k < l.length) (h1 : ∀ j (hj : j < l.length), j < k → lessE l[j] s = true) (h2 : lessE l[k] s = false) (h3 : l[k] = s) : insE s l = l := by
  unfold insE
  rw [lowL_eq s l k (by omega) h1 (fun _ => h2), if_pos (by rw [List.getElem?_eq_getElem hk, h3])]
theorem edsle {w : World} {v : Value} {ks : List Ed} (h : Sl EdR 2 w v ks) : ∀ k ∈ ks, k.1.size ≤ maxLen ∧ k.2.size ≤ maxLen := fun k hk => by
  obtain ⟨i, hi, rfl⟩ := List.mem_iff_getElem.1 hk
  obtain ⟨_, _, _, _, _, he⟩ := h
  obtain ⟨_, _, _, _, _, _, _, hs⟩ := he i hi
  exact hs
set_option maxRecDepth 100000 in
theorem run_eq_ed (y1 y2 z1 z2 : ByteArray) (W : World) : (binOp .eql 43 (.agg #[.string y1, .string y2]) (.agg #[.string z1, .string z2])).run Try.prog W = .ok (.bool (decide ((y1, y2) = (z1, z2)))) W := by
  have u3 := Try.underlying9
  have hS : Try.prog.underlying 43 = some (.struct (Try.prog.fieldsOf 43)) := by kernel_rfl
  have hp : Try.prog.stoodInHeld 43 = false := by kernel_rfl
  have a3 := Try.isAgg9
  have z3 := Try.sizeOf9
  have e1 := eq_bytes y1 z1
  have e2 := eq_bytes y2 z2
  rw [run_eql_struct, show (10000 : Nat) = 9999 + 1 from rfl, run_equalIn_agg W 9999 _ _ _ hS hp]
  simp only [Program.fieldsOf, Try.underlying43]
  go_simp
  by_cases h1 : y1 = z1 <;> by_cases h2 : y2 = z2 <;> simp [h1, h2]

set_option maxHeartbeats 2000000 in
theorem edge_nil (s1 s2 : ByteArray) (w : World) (hs : s1.size ≤ maxLen ∧ s2.size ≤ maxLen) :
    Calls Try.prog 50 #[.slice none 0 0, .agg #[.string s1, .string s2]] w (EdgP [] (s1, s2) w) := by
  have HSS := hid hs
  have HB0 := hid (show Below w.heap.size w (w.alloc (.cells #[.string s1, .string s2] 43)) from (Below.refl _ _).alloc (Nat.le_refl _) _)
  have HC0 := hid (show (w.alloc (.cells #[.string s1, .string s2] 43)).heap[w.heap.size]? = some (.cells #[.string s1, .string s2] 43 (0, 0)) from (MapKept.heap_alloc w _).1)
  clear hs
  go_enter Try.func50, Try.ntmps50
  go_wp2
  generalize (w.alloc (.cells #[.string s1, .string s2] 43)) = W0 at *
  go_loopw [6] (fun i wr => i = .int .i64 0 ∧ wr = W0) (fun i _ => 1)
  case atStart => exact ⟨rfl, rfl⟩
  case round =>
    obtain ⟨rfl, rfl⟩ := hrel
    have k := 0
    go_wp2
    go_quiet (fail)
    go_wp2
    go_quiet (fail)
    generalize hW : (World.drewN _ _) = W2 at *
    have HB2 : Hid (Below w.heap.size w W2) := hid (by rw [← hW]; exact (HB0.out.drewN _).drewN _)
    have HC2 : Hid (W2.heap[w.heap.size]? = some (.cells #[.string s1, .string s2] 43 (0, 0))) := hid (by rw [← hW]; exact HC0.out)
    have x0 := cellv HC2.out 0 rfl
    have x1 := cellv HC2.out 1 rfl
    clear hW HB0 HC0
    have l : List Ed := []
    have z0 := hid (show W2.ownsRow W2.heap.size 43 2 (.slice none 0 0) ([] : List Ed).length (([] : List Ed).flatMap encE) from World.ownsRow_nil _ _ _ _)
    have T1 := hid (sl_empty (α := Ed) (R := fun _ cs x => cs = encE x) (sz := 2) (w := W2) none 0 (by unfold maxLen; omega))
    have z1 := hid (show ([] : List Ed).length + 0 ≤ 1000000 by simp)
    go_upto_region 8 with (at_builtin; (refine wpList_append_sl encE encE_len encE_one Try.underlying23 edinfo rfl (by omega) (by omega) rfl (.tmp 34) (.tmp 37) rfl W2.heap.size (.slice none 0 0) [] rfl z0.out none 0 0 ([]) rfl (fun _ => rfl) T1.out z1.out (Nat.le_refl _) ?_); intro v1 w1 ho1 hg1)
    have hB1 : Below W2.heap.size W2 w1 := below_app z0.out (Below.refl _ _) (Nat.le_refl _) hg1
    have O1 : OwnE W2.heap.size w1 v1 ([]) := ⟨by simpa using ho1, by simp⟩
    have hwb : Below w1.heap.size w1 (w1.alloc (.cells #[.string s1, .string s2] 43)) := (Below.refl _ _).alloc (Nat.le_refl _) _
    have O2 := hid (O1.below hwb)
    have B2 := hid (hB1.trans (hwb.mono hB1.size))
    have d5 := hid (show (w1.alloc (.cells #[.string s1, .string s2] 43)).heap[w1.heap.size]? = some (.cells #[.string s1, .string s2] 43 (0, 0)) from (MapKept.heap_alloc w1 _).1)
    have y5 := hid (show W2.heap.size ≤ (w1.alloc (.cells #[.string s1, .string s2] 43)).heap.size by have := hB1.size; simp; omega)
    have q0 := bget hB1 x0
    have q1 := bget hB1 x1
    have y7 := hid (show ([] : List Ed).length + 1 ≤ 1000000 by simp)
    have y8 := hid (show ([] : List Ed).length = 0 by simp)
    clear hwb O1 hB1 ho1 hg1 x0 x1
    go_upto_region 9 with (at_builtin; (refine app_ed rfl (.tmp 39) (.tmp 41) rfl W2.heap.size v1 ([]) rfl O2.out w1.heap.size 1 (s1, s2) rfl d5.out HSS.out y7.out y5.out _ rfl ?_); rw [y8.out]; intro gm capm w4 hm4)
    obtain ⟨o4, g4, _, _⟩ := hm4
    have B4 := hid (below_app O2.out.1 B2.out y5.out g4)
    have O4 := hid o4
    have z4 := hid (show ([] ++ [(s1, s2)] : List Ed).length + 0 ≤ 1000000 by simp)
    have hE4 := hid (fun (rr : Option Addr) (cc : Nat) (h : cc ≤ maxLen) => (sl_empty (α := Ed) (R := fun _ cs x => cs = encE x) (sz := 2) (w := w4) rr cc h))
    have s4 := hid B4.out.size
    clear o4 g4 B2 O2 d5 y5 y7
    go_wp2_with (at_builtin; go_loud (refine wpList_append_sl encE encE_len encE_one Try.underlying23 edinfo rfl (by omega) (by omega) rfl (.tmp 43) (.tmp 46) rfl W2.heap.size _ [(s1, s2)] rfl O4.out.1 none 0 0 [] rfl (fun _ => rfl) (hE4.out none 0 (by unfold maxLen; omega)) z4.out s4.out ?_); intro v5 w5 ho5 hg5)
    go_ret
    refine ⟨v5, rfl, OwnE.ne (B := W2.heap.size) ⟨?_, ?_⟩, HB2.out.trans ((below_app O4.out.1 B4.out s4.out hg5).mono HB2.out.size)⟩
    · have h := ho5; rw [List.append_nil] at h; exact h
    · intro x hx
      have : x = (s1, s2) := by simpa [insE, putL, lowL] using hx
      subst this; exact HSS.out
set_option maxRecDepth 100000 in
set_option maxHeartbeats 4000000 in
theorem edge_some (b off c : Nat) (l : List Ed) (s1 s2 : ByteArray) (w : World) (hS : Sl EdR 2 w (.slice (some ⟨b, off, none⟩) l.length c) l) (hl : l.length ≤ 100000) (hs : s1.size ≤ maxLen ∧ s2.size ≤ maxLen) :
    Calls Try.prog 50 #[.slice (some ⟨b, off, none⟩) l.length c, .agg #[.string s1, .string s2]] w (EdgP l (s1, s2) w) := by
  obtain ⟨_, hlc, hcm⟩ := sl_len hS
  have HSS := hid hs
  have HXS := hid (edsle hS)
  have HMS := hid (fun x => mem_insE (e := (s1, s2)) (z := x) (l := l))
  have HSl := hid (fun (W : World) (hW : Below w.heap.size w W) => hS.below edR_mono hW)
  have HE := hid (fun (W : World) (hW : Below w.heap.size w W) => ed_at (hS.below edR_mono hW))
  have HB0 := hid (show Below w.heap.size w (w.alloc (.cells #[.string s1, .string s2] 43)) from (Below.refl _ _).alloc (Nat.le_refl _) _)
  have HC0 := hid (show (w.alloc (.cells #[.string s1, .string s2] 43)).heap[w.heap.size]? = some (.cells #[.string s1, .string s2] 43 (0, 0)) from (MapKept.heap_alloc w _).1)
  clear hs hS
  go_enter Try.func50, Try.ntmps50
  go_wp2
  generalize (w.alloc (.cells #[.string s1, .string s2] 43)) = W0 at *
  go_loopw [6] (fun i wr => ∃ k : Nat, k ≤ l.length ∧ i = .int .i64 k ∧ Hid (Below W0.heap.size W0 wr) ∧ Hid (∀ j (h : j < l.length), j < k → lessE l[j] (s1, s2) = true)) (fun i _ => l.length - (RowKit.intOf i).toNat)
  case atStart => exact ⟨0, by omega, rfl, hid (Below.refl _ _), hid (by omega)⟩
  case round =>
    obtain ⟨k, hk, rfl, HBL, HL⟩ := hrel
    have HBW := hid (HB0.out.trans (HBL.out.mono HB0.out.size))
    have HCW := hid ((HBL.out.block _ (lt_of_block HC0.out)).trans HC0.out)
    have u0 := cellv HCW.out 0 rfl
    have u1 := cellv HCW.out 1 rfl
    by_cases hlt : k < l.length
    · obtain ⟨b', off', hv, hb, g0, g1, _, _⟩ := HE.out _ HBW.out k hlt
      simp at hv
      obtain ⟨rfl, rfl⟩ := hv
      have HN := hid (fun (h2 : lessE l[k] (s1, s2) = true) => show ∀ j (h : j < l.length), j < k + 1 → lessE l[j] (s1, s2) = true from fun j hj hjk => by
        by_cases e : j < k
        · exact HL.out j hj e
        · obtain rfl : j = k := by omega
          exact h2)
      have HAt := hid (fun (h2 : lessE l[k] (s1, s2) = false) (h3 : l[k] = (s1, s2)) => insE_at hlt HL.out h2 h3)
      have HPut := hid (fun (h2 : lessE l[k] (s1, s2) = false) (h3 : l[k] ≠ (s1, s2)) => insE_put hk HL.out (fun _ => h2) (fun _ => h3))
      have k2 : (0 : Int) ≤ (k : Int) := by omega
      have k3 : (k : Int) < (l.length : Int) := by omega
      have hkc : k < c := by omega
      generalize l[k] = y at *
      obtain ⟨y1, y2⟩ := y
      simp only at g0 g1
      have HCM := hid (fun (W : World) => less_any (y1, y2) (s1, s2) W)
      have HEQ := hid (fun (W : World) => run_eq_ed y1 y2 s1 s2 W)
      generalize lessE (y1, y2) (s1, s2) = lv at *
      go_wp2
      go_region_held3 (fun w' => w'.cell? ⟨w.heap.size, 0, none⟩ = some (.string s1) ∧ w'.cell? ⟨w.heap.size, 1, none⟩ = some (.string s2) ∧ w'.cell? ⟨b, off + k * 2, none⟩ = some (.string y1) ∧ w'.cell? ⟨b, off + k * 2 + 1, none⟩ = some (.string y2))
        (first | go_keep | exact ⟨bget hq u0, bget hq u1, bget hq g0, bget hq g1⟩)
        ((go_at_call 55
          refine (HCM.out _).mono ?_
          rintro e w3 ⟨rfl, hb3⟩
          have hq : Below wr.heap.size wr w3 := Below.trans (by first | exact (Below.refl _ _).drewN _ | exact (Below.refl _ _).drew) hb3
          clear hb3))
      all_goals
        have HBl3 := hid (HBL.out.trans (hq.mono HBL.out.size))
        have HBw3 := hid (HBW.out.trans (hq.mono HBW.out.size))
        have HC3 := hid ((hq.block _ (lt_of_block HCW.out)).trans HCW.out)
        have v0 := cellv HC3.out 0 rfl
        have v1 := cellv HC3.out 1 rfl
        have f0 := bget hq g0
        have f1 := bget hq g1
        clear u0 u1 g0 g1 hq
        cases lv with
        | true =>
          have HN2 := hid (HN.out rfl)
          clear HN HAt HPut HEQ
          go_wp2
          go_roundw
          case rel => exact ⟨k + 1, by omega, by go_num, HBl3, HN2⟩
          case measure => simp [RowKit.intOf]; omega
        | false =>
          by_cases hyz : (y1, y2) = (s1, s2)
          · have HI := hid (HAt.out rfl hyz)
            have HQ := fun (W : World) => (HEQ.out W).trans (by rw [decide_eq_true hyz] : Result.ok (Value.bool (decide ((y1, y2) = (s1, s2)))) W = Result.ok (Value.bool true) W)
            clear hyz HEQ HN HAt HPut
            go_wp2
            go_quiet (fail)
            go_wp2
            go_ret
            exact ⟨_, rfl, by rw [HI.out]; exact ⟨HSl.out _ (HBw3.out.drewN _), Or.inr ⟨_, _, _, rfl⟩⟩, HBw3.out.drewN _⟩
          · have HI := hid (HPut.out rfl hyz)
            have HQ := fun (W : World) => (HEQ.out W).trans (by rw [decide_eq_false hyz] : Result.ok (Value.bool (decide ((y1, y2) = (s1, s2)))) W = Result.ok (Value.bool false) W)
            clear hyz HEQ HN HAt HPut
            go_wp2
            go_quiet (fail)
            generalize hW : (World.drewN _ _) = W2 at *
            have HB2 : Hid (Below w.heap.size w W2) := hid (by rw [← hW]; exact HBw3.out.drewN _)
            have HC2 : Hid (W2.heap[w.heap.size]? = some (.cells #[.string s1, .string s2] 43 (0, 0))) := hid (by rw [← hW]; exact HC3.out)
            have x0 := cellv HC2.out 0 rfl
            have x1 := cellv HC2.out 1 rfl
            clear hW HB0 HC0 v0 v1 f0 f1 HBl3 HBw3 HC3 HBL HBW HCW
            have HS2 := hid (HSl.out _ HB2.out)
            have T1 := hid (sl_take (sl_encE HS2.out) k hk)
            have D3 := hid (sl_drop (sl_encE HS2.out) k hk)
            have z0 := hid (show W2.ownsRow W2.heap.size 43 2 (.slice none 0 0) ([] : List Ed).length (([] : List Ed).flatMap encE) from World.ownsRow_nil _ _ _ _)
            have z1 := hid (show ([] : List Ed).length + k ≤ 1000000 by simp; omega)
            go_upto_region 8 with (at_builtin; (refine wpList_append_sl encE encE_len encE_one Try.underlying23 edinfo rfl (by omega) (by omega) rfl (.tmp 34) (.tmp 37) rfl W2.heap.size (.slice none 0 0) [] rfl z0.out (some ⟨b, off, none⟩) k c (l.take k) rfl (fun h => by cases h) T1.out z1.out (Nat.le_refl _) ?_); intro v1 w1 ho1 hg1)
            have hB1 : Below W2.heap.size W2 w1 := below_app z0.out (Below.refl _ _) (Nat.le_refl _) hg1
            have O1 : OwnE W2.heap.size w1 v1 (l.take k) := ⟨by simpa using ho1, fun x hx => HXS.out x (List.mem_of_mem_take hx)⟩
            have hwb : Below w1.heap.size w1 (w1.alloc (.cells #[.string s1, .string s2] 43)) := (Below.refl _ _).alloc (Nat.le_refl _) _
            have O2 := hid (O1.below hwb)
            have B2 := hid (hB1.trans (hwb.mono hB1.size))
            have d5 := hid (show (w1.alloc (.cells #[.string s1, .string s2] 43)).heap[w1.heap.size]? = some (.cells #[.string s1, .string s2] 43 (0, 0)) from (MapKept.heap_alloc w1 _).1)
            have y5 := hid (show W2.heap.size ≤ (w1.alloc (.cells #[.string s1, .string s2] 43)).heap.size by have := hB1.size; simp; omega)
            have q0 := bget hB1 x0
            have q1 := bget hB1 x1
            have y7 := hid (show (l.take k : List Ed).length + 1 ≤ 1000000 by simp; omega)
            have y8 := hid (show (l.take k : List Ed).length = k by simp; omega)
            clear hwb O1 hB1 ho1 hg1 x0 x1
            go_upto_region 9 with (at_builtin; (refine app_ed rfl (.tmp 39) (.tmp 41) rfl W2.heap.size v1 (l.take k) rfl O2.out w1.heap.size 1 (s1, s2) rfl d5.out HSS.out y7.out y5.out _ rfl ?_); rw [y8.out]; intro gm capm w4 hm4)
            obtain ⟨o4, g4, _, _⟩ := hm4
            have B4 := hid (below_app O2.out.1 B2.out y5.out g4)
            have O4 := hid (show OwnE W2.heap.size w4 (.slice (some ⟨gm, 0, none⟩) (k + 1) capm) (l.take k ++ [(s1, s2)]) from by have h := o4; rw [List.length_append, y8.out] at h; exact h)
            have D4 := hid (Sl.below (R := fun _ cs (x : Ed) => cs = encE x) (fun _ _ _ _ _ h => h) B4.out D3.out)
            have z4 := hid (show (l.take k ++ [(s1, s2)] : List Ed).length + (l.length - k) ≤ 1000000 by simp; omega)
            have s4 := hid B4.out.size
            clear o4 g4 B2 O2 d5 y5 y7
            go_wp2_with (at_builtin; go_loud (refine wpList_append_sl encE encE_len encE_one Try.underlying23 edinfo rfl (by omega) (by omega) rfl (.tmp 43) (.tmp 46) rfl W2.heap.size _ (l.take k ++ [(s1, s2)]) rfl O4.out.1 (some ⟨b, off + k * 2, none⟩) (l.length - k) (c - k) (l.drop k) rfl (fun h => by cases h) D4.out z4.out s4.out ?_); intro v5 w5 ho5 hg5)
            go_ret
            have hI := HI.out
            refine ⟨v5, rfl, OwnE.ne (B := W2.heap.size) ⟨by rw [hI]; exact ho5, ?_⟩, HB2.out.trans ((below_app O4.out.1 B4.out s4.out hg5).mono HB2.out.size)⟩
            intro x hx
            rcases (HMS.out x).1 hx with h | h
            · subst h; exact HSS.out
            · exact HXS.out x h
    · obtain rfl : k = l.length := by omega
      have HI := hid (insE_put (s := (s1, s2)) hk HL.out (fun h => absurd h (by omega)) (fun h => absurd h (by omega)))
      go_wp2
      go_quiet (fail)
      go_wp2
      go_quiet (fail)
      generalize hW : (World.drewN _ _) = W2 at *
      have HB2 : Hid (Below w.heap.size w W2) := hid (by rw [← hW]; exact (HBW.out.drewN _).drewN _)
      have HC2 : Hid (W2.heap[w.heap.size]? = some (.cells #[.string s1, .string s2] 43 (0, 0))) := hid (by rw [← hW]; exact HCW.out)
      have x0 := cellv HC2.out 0 rfl
      have x1 := cellv HC2.out 1 rfl
      clear hW HB0 HC0 HBL HBW HCW u0 u1
      have HS2 := hid (HSl.out _ HB2.out)
      have T1 := hid (sl_take (sl_encE HS2.out) l.length hk)
      have z0 := hid (show W2.ownsRow W2.heap.size 43 2 (.slice none 0 0) ([] : List Ed).length (([] : List Ed).flatMap encE) from World.ownsRow_nil _ _ _ _)
      have z1 := hid (show ([] : List Ed).length + l.length ≤ 1000000 by simp; omega)
      by_cases hcl : c = l.length
      · subst hcl
        go_upto_region 8 with (at_builtin; (refine wpList_append_sl encE encE_len encE_one Try.underlying23 edinfo rfl (by omega) (by omega) rfl (.tmp 34) (.tmp 37) rfl W2.heap.size (.slice none 0 0) [] rfl z0.out (some ⟨b, off, none⟩) l.length l.length (l.take l.length) rfl (fun h => by cases h) T1.out z1.out (Nat.le_refl _) ?_); intro v1 w1 ho1 hg1)
        have hB1 : Below W2.heap.size W2 w1 := below_app z0.out (Below.refl _ _) (Nat.le_refl _) hg1
        have O1 : OwnE W2.heap.size w1 v1 (l.take l.length) := ⟨by simpa using ho1, fun x hx => HXS.out x (List.mem_of_mem_take hx)⟩
        have hwb : Below w1.heap.size w1 (w1.alloc (.cells #[.string s1, .string s2] 43)) := (Below.refl _ _).alloc (Nat.le_refl _) _
        have O2 := hid (O1.below hwb)
        have B2 := hid (hB1.trans (hwb.mono hB1.size))
        have d5 := hid (show (w1.alloc (.cells #[.string s1, .string s2] 43)).heap[w1.heap.size]? = some (.cells #[.string s1, .string s2] 43 (0, 0)) from (MapKept.heap_alloc w1 _).1)
        have y5 := hid (show W2.heap.size ≤ (w1.alloc (.cells #[.string s1, .string s2] 43)).heap.size by have := hB1.size; simp; omega)
        have q0 := bget hB1 x0
        have q1 := bget hB1 x1
        have y7 := hid (show (l.take l.length : List Ed).length + 1 ≤ 1000000 by simp; omega)
        have y8 := hid (show (l.take l.length : List Ed).length = l.length by simp)
        clear hwb O1 hB1 ho1 hg1 x0 x1
        go_upto_region 9 with (at_builtin; (refine app_ed rfl (.tmp 39) (.tmp 41) rfl W2.heap.size v1 (l.take l.length) rfl O2.out w1.heap.size 1 (s1, s2) rfl d5.out HSS.out y7.out y5.out _ rfl ?_); rw [y8.out]; intro gm capm w4 hm4)
        obtain ⟨o4, g4, _, _⟩ := hm4
        have B4 := hid (below_app O2.out.1 B2.out y5.out g4)
        have O4 := hid (show OwnE W2.heap.size w4 (.slice (some ⟨gm, 0, none⟩) (l.length + 1) capm) (l.take l.length ++ [(s1, s2)]) from by have h := o4; rw [List.length_append, y8.out] at h; exact h)
        have z4 := hid (show (l.take l.length ++ [(s1, s2)] : List Ed).length + 0 ≤ 1000000 by simp; omega)
        have hE4 := hid (fun (rr : Option Addr) (cc : Nat) (h : cc ≤ maxLen) => (sl_empty (α := Ed) (R := fun _ cs x => cs = encE x) (sz := 2) (w := w4) rr cc h))
        have s4 := hid B4.out.size
        clear o4 g4 B2 O2 d5 y5 y7
        go_wp2_with (at_builtin; go_loud (refine wpList_append_sl encE encE_len encE_one Try.underlying23 edinfo rfl (by omega) (by omega) rfl (.tmp 43) (.tmp 46) rfl W2.heap.size _ (l.take l.length ++ [(s1, s2)]) rfl O4.out.1 _ 0 _ [] rfl (fun h => by cases h) (hE4.out _ _ ?_) z4.out s4.out ?_); (unfold maxLen; omega); intro v5 w5 ho5 hg5)
        go_ret
        have hI := HI.out
        rw [List.drop_length] at hI
        refine ⟨v5, rfl, OwnE.ne (B := W2.heap.size) ⟨by rw [hI]; exact ho5, ?_⟩, HB2.out.trans ((below_app O4.out.1 B4.out s4.out hg5).mono HB2.out.size)⟩
        intro x hx
        rcases (HMS.out x).1 hx with h | h
        · subst h; exact HSS.out
        · exact HXS.out x h
      · have hcl2 : l.length < c := by omega
        clear hcl
        go_upto_region 8 with (at_builtin; (refine wpList_append_sl encE encE_len encE_one Try.underlying23 edinfo rfl (by omega) (by omega) rfl (.tmp 34) (.tmp 37) rfl W2.heap.size (.slice none 0 0) [] rfl z0.out (some ⟨b, off, none⟩) l.length c (l.take l.length) rfl (fun h => by cases h) T1.out z1.out (Nat.le_refl _) ?_); intro v1 w1 ho1 hg1)
        have hB1 : Below W2.heap.size W2 w1 := below_app z0.out (Below.refl _ _) (Nat.le_refl _) hg1
        have O1 : OwnE W2.heap.size w1 v1 (l.take l.length) := ⟨by simpa using ho1, fun x hx => HXS.out x (List.mem_of_mem_take hx)⟩
        have hwb : Below w1.heap.size w1 (w1.alloc (.cells #[.string s1, .string s2] 43)) := (Below.refl _ _).alloc (Nat.le_refl _) _
        have O2 := hid (O1.below hwb)
        have B2 := hid (hB1.trans (hwb.mono hB1.size))
        have d5 := hid (show (w1.alloc (.cells #[.string s1, .string s2] 43)).heap[w1.heap.size]? = some (.cells #[.string s1, .string s2] 43 (0, 0)) from (MapKept.heap_alloc w1 _).1)
        have y5 := hid (show W2.heap.size ≤ (w1.alloc (.cells #[.string s1, .string s2] 43)).heap.size by have := hB1.size; simp; omega)
        have q0 := bget hB1 x0
        have q1 := bget hB1 x1
        have y7 := hid (show (l.take l.length : List Ed).length + 1 ≤ 1000000 by simp; omega)
        have y8 := hid (show (l.take l.length : List Ed).length = l.length by simp)
        clear hwb O1 hB1 ho1 hg1 x0 x1
        go_upto_region 9 with (at_builtin; (refine app_ed rfl (.tmp 39) (.tmp 41) rfl W2.heap.size v1 (l.take l.length) rfl O2.out w1.heap.size 1 (s1, s2) rfl d5.out HSS.out y7.out y5.out _ rfl ?_); rw [y8.out]; intro gm capm w4 hm4)
        obtain ⟨o4, g4, _, _⟩ := hm4
        have B4 := hid (below_app O2.out.1 B2.out y5.out g4)
        have O4 := hid (show OwnE W2.heap.size w4 (.slice (some ⟨gm, 0, none⟩) (l.length + 1) capm) (l.take l.length ++ [(s1, s2)]) from by have h := o4; rw [List.length_append, y8.out] at h; exact h)
        have z4 := hid (show (l.take l.length ++ [(s1, s2)] : List Ed).length + 0 ≤ 1000000 by simp; omega)
        have hE4 := hid (fun (rr : Option Addr) (cc : Nat) (h : cc ≤ maxLen) => (sl_empty (α := Ed) (R := fun _ cs x => cs = encE x) (sz := 2) (w := w4) rr cc h))
        have s4 := hid B4.out.size
        clear o4 g4 B2 O2 d5 y5 y7
        go_wp2_with (at_builtin; go_loud (refine wpList_append_sl encE encE_len encE_one Try.underlying23 edinfo rfl (by omega) (by omega) rfl (.tmp 43) (.tmp 46) rfl W2.heap.size _ (l.take l.length ++ [(s1, s2)]) rfl O4.out.1 _ 0 _ [] rfl (fun h => by cases h) (hE4.out _ _ ?_) z4.out s4.out ?_); (unfold maxLen; omega); intro v5 w5 ho5 hg5)
        go_ret
        have hI := HI.out
        rw [List.drop_length] at hI
        refine ⟨v5, rfl, OwnE.ne (B := W2.heap.size) ⟨by rw [hI]; exact ho5, ?_⟩, HB2.out.trans ((below_app O4.out.1 B4.out s4.out hg5).mono HB2.out.size)⟩
        intro x hx
        rcases (HMS.out x).1 hx with h | h
        · subst h; exact HSS.out
        · exact HXS.out x h
theorem edge_any (v : Value) (l : List Ed) (s1 s2 : ByteArray) (w : World) (hS : NE w v l) (hl : l.length ≤ 100000) (hs : s1.size ≤ maxLen ∧ s2.size ≤ maxLen) :
    Calls Try.prog 50 #[v, .agg #[.string s1, .string s2]] w (EdgP l (s1, s2) w) := by
  obtain ⟨h1, h2⟩ := hS
  rcases h2 with rfl | ⟨b, off, c, rfl⟩
  · have hln := (sl_len h1).1
    obtain rfl : l = [] := List.eq_nil_of_length_eq_zero hln.symm
    exact edge_nil s1 s2 w hs
  · exact edge_some b off c l s1 s2 w h1 hl hs
end Go.Proofs.Ytlhekldlfmdmiaa
