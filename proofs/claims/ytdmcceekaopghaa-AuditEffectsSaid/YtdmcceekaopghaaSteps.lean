/-
  Contracts of the helpers steps and few of the statements of layer 52. Conditions: those ahead of each theorem.
-/
import Derived.Test.YtdmcceekaopghaaAw
import Derived.Test.YtdmcceekaopghaaCf
namespace Go.Proofs.Ytdmcceekaopghaa
open Go.RowKit Go.Sort

theorem Sl.map {α β : Type} {R : World → List Value → α → Prop} {R' : World → List Value → β → Prop} {sz : Nat} {w : World} {v : Value} {xs : List α} {ys : List β} (h : Sl R sz w v xs) (hl : ys.length = xs.length)
    (hm : ∀ (i : Nat) (h1 : i < xs.length) (h2 : i < ys.length) cs, R w cs (xs[i]) → R' w cs (ys[i])) : Sl R' sz w v ys := by
  obtain ⟨r, cap, rfl, h1, h2, he⟩ := h
  refine ⟨r, cap, by rw [hl], by omega, h2, fun i hi => ?_⟩
  obtain ⟨b, off, cs, hr, hs, hc, hx⟩ := he i (by omega)
  exact ⟨b, off, cs, hr, hs, hc, hm i (by omega) hi cs hx⟩

def NsR (w : World) (cs : List Value) (xs : List Int) : Prop := ∃ s : Sv, cs = [s.val] ∧ Sl IntR 1 w s.val xs
theorem nsR_mono : Mono NsR := fun _ _ _ _ hb ⟨v, h1, h2⟩ => ⟨v, h1, h2.below intR_mono hb⟩
def mkSt (ns : List (List Int)) : List St := (List.range ns.length).map fun (i : Nat) => ⟨(i : Int), 1, ns.getD i []⟩
def stc (p : Int × Sv) : List Value := [.int .i64 p.1, .int .i64 1, p.2.val]
theorem stc_len (p : Int × Sv) : (stc p).length = 3 := rfl
theorem stc_one (p : Int × Sv) : ∀ u ∈ stc p, u.oneCell' = true := by
  intro u hu
  simp [stc] at hu
  rcases hu with rfl | rfl | rfl <;> rfl
theorem stinfo : (Try.prog.info? 70).map (fun i => (i.zero, i.size, i.bytes)) = some (some (.agg #[.int .i64 0, .int .i64 0, .slice none 0 0]), 3, 40) := by kernel_rfl

def sv0 : Sv := ⟨none, 0, 0⟩
def mkP (svs : List Sv) (k : Nat) : List (Int × Sv) := (List.range k).map fun (i : Nat) => ((i : Int), svs.getD i sv0)
theorem mkP_len (svs : List Sv) (k : Nat) : (mkP svs k).length = k := by simp [mkP]
theorem mkP_succ (svs : List Sv) (k : Nat) : mkP svs (k + 1) = mkP svs k ++ [((k : Int), svs.getD k sv0)] := by
  simp [mkP, List.range_succ]

set_option maxHeartbeats 1000000 in
theorem steps_any (ns : List (List Int)) (vN : Value) (w : World) (hN : Sl NsR 1 w vN ns) (h1000 : ns.length ≤ 1000) :
    Calls Try.prog 15 #[vN] w fun r w' => ∃ v, r = .returned v ∧ Sl StR 3 w' v (mkSt ns) ∧ Below w.heap.size w w' := by
  have hN0 := hN
  obtain ⟨r, cap, rfl, hl, hm, he⟩ := hN
  unfold maxLen at hm
  obtain ⟨svs, hsl, hsv⟩ := list_of (α := Sv) ns.length (fun i s => ∃ (h : i < ns.length), ∃ b off, r = some ⟨b, off, none⟩ ∧ w.cell? ⟨b, off + i, none⟩ = some s.val ∧ Sl IntR 1 w s.val (ns[i])) (fun i hi => by
    obtain ⟨b, off, cs, hr, hs, hc, s, hx, hS⟩ := he i hi
    subst hx
    have := hc 0 _ rfl
    simp only [Nat.mul_one, Nat.add_zero] at this
    exact ⟨s, hi, b, off, hr, this, hS⟩)
  have HS := Lib.hid hsv
  clear hsv he
  go_enter Try.func15, Try.ntmps15
  go_wp2
  go_loopg [3, 4] ns.length (fun gg s3 s4 wr => ∃ kk : Nat, kk ≤ ns.length ∧ ns.length - kk ≤ gg ∧ s4 = .int .i64 kk ∧ Aside (Below w.heap.size w wr) ∧ Aside (wr.ownsRow w.heap.size 70 3 s3 (mkP svs kk).length ((mkP svs kk).flatMap stc)))
  case atStart => exact ⟨0, Nat.zero_le _, by omega, rfl, Below.refl _ _, World.ownsRow_nil _ _ _ _⟩
  case round =>
    obtain ⟨kk, hkk, hg, rfl, BW, OW⟩ := hrel
    by_cases hlt : kk < ns.length
    · obtain ⟨_, b, off, rfl, hc, _⟩ := HS.out kk (by omega)
      have hc := bget BW.out hc
      have hbb := World.block_lt_of_cell? wr _ hc
      simp at hbb
      have hgd : svs.getD kk sv0 = svs[kk]'(by omega) := by rw [List.getD_eq_getElem?_getD, List.getElem?_eq_getElem (by omega)]; rfl
      have HP := Lib.hid (show mkP svs (kk + 1) = mkP svs kk ++ [((kk : Int), svs[kk]'(by omega))] by rw [mkP_succ, hgd])
      generalize svs[kk]'(by omega) = s at *
      obtain ⟨sa, sn, sc⟩ := s
      simp only [Sv.val] at hc
      have hwb : Below wr.heap.size wr (wr.alloc (.cells #[.int .i64 kk, .int .i64 1, .slice sa sn sc] 70)) := (Below.refl _ _).alloc (Nat.le_refl _) _
      have O2 := Lib.hid (OW.out.alloc (.cells #[.int .i64 kk, .int .i64 1, .slice sa sn sc] 70))
      have B2 := Lib.hid (BW.out.trans (hwb.mono BW.out.size))
      have d5 := Lib.hid (show (wr.alloc (.cells #[.int .i64 kk, .int .i64 1, .slice sa sn sc] 70)).heap[wr.heap.size]? = some (.cells (([((kk : Int), (⟨sa, sn, sc⟩ : Sv))] : List (Int × Sv)).flatMap stc).toArray 70 (0, 0)) by simpa [stc, Sv.val] using heap_alloc_new wr _)
      have y5 := Lib.hid (show w.heap.size ≤ (wr.alloc (.cells #[.int .i64 kk, .int .i64 1, .slice sa sn sc] 70)).heap.size by have := BW.out.size; simp; omega)
      have y7 := Lib.hid (show (mkP svs kk).length + 1 ≤ 1000000 by rw [mkP_len]; omega)
      clear BW OW hwb hgd
      go_wp2_with (at_builtin; go_loud (refine wpList_append_rows stc stc_len stc_one Try.underlying22 stinfo rfl (by omega) (by omega) rfl (.tmp 11) (.tmp 18) rfl w.heap.size u3 (mkP svs kk) rfl O2.out wr.heap.size 1 1 [((kk : Int), (⟨sa, sn, sc⟩ : Sv))] rfl (by omega) rfl d5.out y7.out y5.out ?_); intro gm capm w4 ho4 hg4 hat4 hl4)
      have O3 := Lib.hid ho4
      have B3 := Lib.hid (B2.out.grown hg4 y5.out (fun k hk => (O2.out.lt k hk).1))
      go_roundg (ns.length - (kk + 1))
      case measure => omega
      case rel => exact ⟨kk + 1, by omega, by omega, by go_num, B3.out, by rw [HP.out]; exact O3.out⟩
    · have hke : kk = ns.length := by omega
      have OW2 := Lib.hid OW.out
      have BW2 := Lib.hid BW.out
      subst hke
      clear BW OW hg hkk hlt
      go_wp2_with fail
      go_ret
      have h1 := sl_of_own stc stc_len OW2.out
      refine ⟨_, rfl, ?_, BW2.out⟩
      refine h1.map (by simp [mkSt, mkP_len]) ?_
      intro i hi1 hi2 cs hcs
      rw [mkP_len] at hi1
      obtain ⟨_, _, _, _, _, hS⟩ := HS.out i (by omega)
      subst hcs
      refine ⟨(svs[i]'(by omega)).val, ?_, ?_⟩
      · simp [mkP, stc, mkSt, show i < svs.length by omega]
      · have e : ((mkSt ns)[i]).needs = ns[i] := by simp [mkSt, hi1]
        rw [e]
        exact hS.below intR_mono BW2.out
end Go.Proofs.Ytdmcceekaopghaa
