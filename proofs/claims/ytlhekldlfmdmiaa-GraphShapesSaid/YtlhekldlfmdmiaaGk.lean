import Derived.Test.YtlhekldlfmdmiaaOo
import Derived.Test.YtlhekldlfmdmiaaGp
/-
  The program's reached. Conditions: those ahead of each theorem.
-/
namespace Go.Proofs.Ytlhekldlfmdmiaa
open Go.RowKit Go.Sort Go.Lib Go.Maps
open Go.Lib (hid)
set_option linter.unusedVariables false
set_option linter.unusedSimpArgs false

theorem Adj.look {w : World} {b : Nat} {F : ByteArray → List ByteArray} (h : Adj w b F) (x : ByteArray) (hx : x.size ≤ maxLen) :
    ∃ r c, Sl StrR 1 w (.slice r (F x).length c) (F x) ∧ ∀ W, Below w.heap.size w W → (Instr.lookup 52 (.map (some b)) (.string x) false).run Try.prog W = .ok (.slice r (F x).length c) W := by
  obtain ⟨n, c, f, h1, h2⟩ := h.ex
  obtain ⟨r, c', hv, _⟩ := id (h2 x)
  have h3 := h2 x
  rw [hv] at h3
  refine ⟨r, c', h3, fun W hW => ?_⟩
  have := (h1.below' hW).look (strT Try.underlying9) Try.underlying52 (zsl W) x hx
  rw [hv] at this
  exact this
theorem hasS_false {x : ByteArray} {l : List ByteArray} (h : x ∉ l) : hasS x l = false := by
  cases hh : hasS x l with
  | false => rfl
  | true => exact absurd (hasS_iff.1 hh) h
theorem setF_in {x : ByteArray} {l : List ByteArray} (h : x ∈ l) : setF l x = some (.bool true) := by unfold setF; rw [if_pos (hasS_iff.2 h)]
theorem setF_out {x : ByteArray} {l : List ByteArray} (h : x ∉ l) : setF l x = none := by unfold setF; rw [hasS_false h]; rfl

/-- What holds at the heads of the two loops. -/
structure RchI (F : ByteArray → List ByteArray) (frm U : List ByteArray) (B b M G : Nat) (w wr : World) (vo : Value) (sn L : List ByteArray) : Prop where
  bel : Below w.heap.size w wr
  sz : B ≤ wr.heap.size
  map : ∃ n c, n + rem U sn ≤ M ∧ OwnF wr Try.prog 9 strLit b n c (setF sn)
  own : OwnO B wr vo L
  len : L.length + rem U sn ≤ M
  ms : 2 * rem U sn + L.length ≤ G

set_option maxRecDepth 100000 in
set_option maxHeartbeats 2000000 in
theorem reached_any (b : Nat) (F : ByteArray → List ByteArray) (frm U : List ByteArray) (v : Value) (w : World) (hA : Adj w b F) (hS : Sl StrR 1 w v frm) (hU : ∀ x, ∀ y ∈ F x, y ∈ U) (hM : frm.length + U.length ≤ 900000) :
    Calls Try.prog 44 #[.map (some b), v] w fun e w' => ∃ sn n c, e = .returned (.map (some w.heap.size)) ∧ n ≤ 900000 ∧ OwnF w' Try.prog 9 strLit w.heap.size n c (setF sn) ∧ (∀ x, x ∈ sn ↔ Rch F frm x) ∧ Below w.heap.size w w' := by
  obtain ⟨r, c, rfl, _⟩ := id hS
  obtain ⟨_, hl, hm⟩ := sl_len hS
  have HSs := hid (fun (W : World) (hW : Below w.heap.size w W) => hS.below strR_mono hW)
  have HA := hid hA.look
  have HU := hid hU
  have hlt0 : b < w.heap.size := by obtain ⟨_, _, _, h, _⟩ := hA.ex; exact h.lt
  have hset := set_any frm _ w hS (by omega)
  have HSET := hid hset
  clear hS hA hU hset
  go_enter Try.func44, Try.ntmps44
  go_wp2_with fail
  refine HSET.out.mono ?_
  rintro e w1 ⟨rfl, ⟨n1, c1, hn1, ho1⟩, hb1⟩
  have B1 := hid hb1
  have O1 := hid ho1
  have hz1 := ho1.lt
  clear hb1 ho1 HSET
  go_wp2_with fail
  refine (clone_s frm _ _ (HSs.out _ B1.out) (by omega)).mono ?_
  rintro e w2 ⟨vo, rfl, ho2, hb2⟩
  have I0 := hid (show RchI F frm U w1.heap.size w.heap.size (frm.length + U.length) (2 * rem U frm + frm.length) w w2 vo frm frm from
    ⟨B1.out.trans (hb2.mono B1.out.size), hb2.size, ⟨n1, c1, by have := rem_le U frm; omega, O1.out.below' hb2⟩, ho2.toO, by have := rem_le U frm; omega, Nat.le_refl _⟩)
  have HB2 := hid (B1.out.trans (hb2.mono B1.out.size))
  have D0 := hid (Dfs.start F frm U)
  clear ho2 hb2 O1
  go_wp2_with fail
  go_loopg [6] (2 * rem U frm + frm.length) (fun gg s6 wr => ∃ sn L, Hid (RchI F frm U w1.heap.size w.heap.size (frm.length + U.length) gg w wr s6 sn L) ∧ Hid (Dfs F frm U sn L))
  case atStart => exact ⟨frm, frm, I0, D0⟩
  case round =>
    obtain ⟨sn, L, HI, HD⟩ := hrel
    rcases List.eq_nil_or_concat L with hnil | ⟨L0, x, hcat⟩
    · subst hnil
      obtain ⟨r6, c6, rfl, h61, h62⟩ := HI.out.own.form
      go_wp2
      go_ret
      obtain ⟨n, c, hn, ho⟩ := HI.out.map
      exact ⟨sn, n, c, rfl, by omega, ho, HD.out.fin, HI.out.bel⟩
    · rw [List.concat_eq_append] at hcat
      subst hcat
      obtain ⟨g, o, cap, rfl, hc1, hc2, hcell, hxs⟩ := HI.out.own.last
      have hms := HI.out.ms
      simp only [List.length_append, List.length_singleton] at hms
      obtain ⟨r3, c3, hsl, hlks⟩ := HA.out x hxs
      obtain ⟨_, hl3, hm3⟩ := sl_len hsl
      have hlk := hlks wr HI.out.bel
      have HSL := hid (fun (W : World) (hW : Below w.heap.size w W) => str_at (hsl.below strR_mono hW))
      have HI1 := hid (show RchI F frm U w1.heap.size w.heap.size (frm.length + U.length) (2 * rem U sn + L0.length) w wr (.slice (some ⟨g, o, none⟩) L0.length cap) sn L0 from
        ⟨HI.out.bel, HI.out.sz, HI.out.map, HI.out.own.init, by have := HI.out.len; simp at this; omega, Nat.le_refl _⟩)
      have HD1 := hid HD.out.pop
      have HT := hid (fun y (h : y ∈ F x) => HU.out x y h)
      have HMS := hid hms
      clear hsl hlks HI HD hms
      go_wp2
      generalize hT : F x = T at *
      have HFT := hid hT
      clear hT
      have D1 := hid (show DfsI F frm U x 0 sn L0 from HD1.out)
      clear HD1
      go_loopg [6, 32] T.length (fun gg s6 s32 wx => ∃ (k : Nat) (sm Lm : List ByteArray), k ≤ T.length ∧ T.length - k ≤ gg ∧ s32 = .int .i64 k ∧ Hid (RchI F frm U w1.heap.size w.heap.size (frm.length + U.length) (2 * rem U sn + L0.length) w wx s6 sm Lm) ∧ Hid (DfsI F frm U x k sm Lm))
      case atStart => exact ⟨0, sn, L0, by omega, by omega, rfl, HI1, D1⟩
      case round =>
        obtain ⟨k, sm, Lm, hk, hg, rfl, HJ, HE⟩ := hrel
        obtain ⟨r7, c7, rfl, h71, h72⟩ := HJ.out.own.form
        by_cases hlt : k < T.length
        · have hbx := HJ.out.bel
          obtain ⟨b3, o3, rfl, hb3, g3, hy3⟩ := HSL.out wr hbx k hlt
          have HBX := hid hbx
          have hU1 := HT.out
          have HYU := hid (hU1 T[k] (List.getElem_mem hlt))
          have HSK := hid (fun (h : T[k] ∈ sm) => HE.out.skip (by rw [HFT.out]; exact hlt) (by simpa only [HFT.out] using h))
          have HPU : Hid (DfsI F frm U x (k + 1) (sm ++ [T[k]]) (Lm ++ [T[k]])) := by
            have := HE.out.push (by rw [HFT.out]; exact hlt)
            simp only [HFT.out] at this
            exact this
          have HYS := hid hy3
          obtain ⟨nn, cc, hnn, hown⟩ := HJ.out.map
          have HMp := hid hown
          have HNn := hid hnn
          clear hbx hU1 HSL hy3 hown hnn HE
          generalize T[k] = y at *
          by_cases hy : y ∈ sm
          · have HS1 := hid (HSK.out hy)
            have HF := hid (setF_in hy)
            clear hy HSK HPU
            go_wp2_with (at_lookup; refine wpList_look _ rfl _ _ 64 rfl (strT Try.underlying9) Try.underlying64 (zbool _) w.heap.size nn cc _ rfl HMp.out y rfl HYS.out ?_; rw [HF.out])
            go_roundg (T.length - (k + 1))
            case measure => omega
            case rel => exact ⟨k + 1, sm, Lm, by omega, by omega, by go_num, HJ, HS1⟩
          · have HF := hid (setF_out hy)
            have HR := hid (rem_add HYU.out hy)
            have HL := hid HJ.out.own.lt
            have HLl := hid (show Lm.length + 1 ≤ 1000000 by have := HJ.out.len; have := HR.out; omega)
            have HZ := hid HJ.out.sz
            have HOw := hid HJ.out.own
            clear hy HSK
            go_wp2_with (first
              | (at_lookup; refine wpList_look _ rfl _ _ 64 rfl (strT Try.underlying9) Try.underlying64 (zbool _) w.heap.size nn cc _ rfl HMp.out y rfl HYS.out ?_; rw [HF.out])
              | (at_mapUpdate
                 refine wpList_store _ rfl _ _ _ 64 rfl (strT Try.underlying9) Try.underlying64 w.heap.size nn cc _ rfl HMp.out (by have := HNn.out; unfold maxLen; omega) y (.bool true) rfl rfl HYS.out ?_
                 intro w3 ho3 hg3
                 rw [setF_snoc] at ho3
                 have HO3 := hid (ho3.alloc (.cells #[.string y] 9))
                 have hz3 : w1.heap.size ≤ w3.heap.size := by have h1 := hg3.size; have h2 := HZ.out; omega
                 have HOw3 := hid ((HOw.out.kept hg3 (fun g hg e => by cases e; have := (HL.out _ hg).1; omega)).below ((Below.refl _ _).alloc (Nat.le_refl _) (.cells #[.string y] 9)))
                 have HB3 := hid ((Below.grown HBX.out hg3 HBX.out.size (fun g hg => by cases hg; exact Nat.le_refl _)).alloc (by omega) (.cells #[.string y] 9))
                 clear ho3 hg3)
              | (at_builtin
                 refine app_o rfl _ _ rfl w1.heap.size _ Lm rfl HOw3.out w3.heap.size 1 y rfl (fr := (0, 0)) (by exact (MapKept.heap_alloc w3 _).1) HYS.out HLl.out (by simp; omega) ?_
                 intro v4 w4 hm4
                 have HM4 := hid hm4
                 clear hm4))
            go_roundg (T.length - (k + 1))
            case measure => omega
            case rel =>
              obtain ⟨m1, m2, m3⟩ := HM4.out
              have hr := HR.out
              refine ⟨k + 1, sm ++ [y], Lm ++ [y], by omega, by omega, by go_num, ⟨Below.grown HB3.out m2 HB3.out.size (fun g hg => by have := (HL.out g hg).1; omega), ?_, ⟨nn + 1, _, by have := HNn.out; omega, HO3.out.kept m2 (fun e => by have := (HL.out _ e.symm).1; omega)⟩, m1, ?_, ?_⟩, HPU⟩
              · have := m2.size; simp at this; omega
              · have := HJ.out.len; simp; omega
              · have := HJ.out.ms; simp; omega
        · have hke : k = T.length := by omega
          have HK := hid hke
          have hms2 := HJ.out.ms
          have HM2 := hid hms2
          clear hke hms2
          go_wp2
          go_roundg (2 * rem U sm + Lm.length)
          case measure => have h1 := HM2.out; have h2 := HMS.out; omega
          case rel =>
            have hk2 := HK.out
            have he := HE.out
            rw [hk2, ← HFT.out] at he
            exact ⟨sm, Lm, ⟨HJ.out.bel, HJ.out.sz, HJ.out.map, HJ.out.own, HJ.out.len, Nat.le_refl _⟩, he.done⟩
end Go.Proofs.Ytlhekldlfmdmiaa
