import Derived.Test.YtlhekldlfmdmiaaPt
import Derived.Test.YtlhekldlfmdmiaaFrs
/-
  GraphReverses: the law's walk. Conditions: those ahead of each theorem.
-/
namespace Go.Proofs.Ytlhekldlfmdmiaa
open Go.RowKit Go.Sort Go.Lib Go.Maps
open Go.Lib (hid)
attribute [local go_sem] frUpon
set_option linter.unusedVariables false
set_option linter.unusedSimpArgs false

def sBool (b : Bool) : Spc := ⟨fun v => v = .bool b, fun _ _ => True⟩
def sInt (n : Int) : Spc := ⟨fun v => v = .int .i64 n, fun _ _ => True⟩
def sNil : Spc := ⟨fun v => ∃ r c, v = .slice r 0 c, fun _ _ => True⟩
def sSome : Spc := ⟨fun v => ∃ r k c, v = .slice r (k + 1) c, fun _ _ => True⟩
def sGr (ns : List ByteArray) (es : List Ed) : Spc := ⟨fun v => ∃ vn ve, v = .agg #[vn, ve], fun v w => ∃ vn ve, v = .agg #[vn, ve] ∧ Sl StrR 1 w vn ns ∧ Sl EdR 2 w ve es⟩
def sLis (n : Nat) (ns : List ByteArray) (p : ByteArray → Prop) : Spc := ⟨fun v => ∃ r k c, v = .slice r k c ∧ k ≤ n, fun v w => ∃ l, Sl StrR 1 w v l ∧ LisP ns p l⟩
def sNew (n : Nat) (o : Obj) : Spc := ⟨fun v => ∃ b, v = .slice (some ⟨b, 0, none⟩) n n, fun v w => ∃ b, v = .slice (some ⟨b, 0, none⟩) n n ∧ w.heap[b]? = some o⟩
def sNat : Spc := ⟨fun v => ∃ n : Nat, v = .int .i64 (n : Int), fun _ _ => True⟩
theorem stNew (n : Nat) (o : Obj) : ∀ v, Stb ((sNew n o).R v) := fun _ _ _ ⟨b, e, h⟩ hl => ⟨b, e, (Below.block hl b (lt_of_block h)).trans h⟩
theorem sNew_at {n b : Nat} {o : Obj} {w : World} (h : (sNew n o).R (.slice (some ⟨b, 0, none⟩) n n) w) : w.heap[b]? = some o := by
  obtain ⟨b', e, h'⟩ := h
  simp at e
  subst e
  exact h'
theorem lits_at {w : World} {b T : Nat} {fr : Nat × Nat} {l : List ByteArray} (h : w.heap[b]? = some (.cells (l.map Value.string).toArray T fr)) (hy : ∀ x ∈ l, x.size ≤ maxLen) (hl : l.length ≤ 1000) : Sl StrR 1 w (.slice (some ⟨b, 0, none⟩) l.length l.length) l := by
  refine ⟨_, _, rfl, Nat.le_refl _, by unfold maxLen; omega, fun i hi => ⟨b, 0, [.string l[i]], rfl, rfl, fun j u hj => ?_, rfl, hy _ (List.getElem_mem hi)⟩⟩
  have hj0 : j = 0 := by
    have := (List.getElem?_eq_some_iff.1 hj).1; simp at this; exact this
  subst hj0
  simp at hj
  subst hj
  rw [cell_of h]
  simp [hi]
theorem lis_len {ns l : List ByteArray} {p : ByteArray → Prop} (h : LisP ns p l) : l.length ≤ ns.length := nodup_len (asc_nodup stoB h.1) fun x hx => ((h.2 x).1 hx).1
theorem sLis_of {n : Nat} {ns l : List ByteArray} {p : ByteArray → Prop} {v : Value} {w : World} (hn : ns.length ≤ n) (h1 : Sl StrR 1 w v l) (h2 : LisP ns p l) : (sLis n ns p).p v ∧ (sLis n ns p).R v w := by
  have h3 := lis_len h2
  obtain ⟨r, c, rfl, _⟩ := id h1
  exact ⟨⟨r, l.length, c, rfl, by omega⟩, l, h1, h2⟩
theorem stTrue : ∀ v : Value, Stb ((fun _ _ => True : Value → World → Prop) v) := fun _ _ _ _ _ => trivial
theorem stGr (ns : List ByteArray) (es : List Ed) : ∀ v, Stb ((sGr ns es).R v) := fun _ _ _ ⟨vn, ve, e, h1, h2⟩ hl => ⟨vn, ve, e, h1.below strR_mono hl, h2.below edR_mono hl⟩
theorem stLis (n : Nat) (ns : List ByteArray) (p : ByteArray → Prop) : ∀ v, Stb ((sLis n ns p).R v) := fun _ _ _ ⟨l, h1, h2⟩ hl => ⟨l, h1.below strR_mono hl, h2⟩

set_option maxRecDepth 100000 in
set_option maxHeartbeats 40000000 in
theorem reverses_any (vn ve : Value) (ns : List ByteArray) (es : List Ed) (a b : ByteArray) (w : World) (hN : Sl StrR 1 w vn ns) (hS : Sl EdR 2 w ve es) (ha : a.size ≤ maxLen) (hb : b.size ≤ maxLen) :
    Calls Try.prog 9 #[.agg #[vn, ve], .string a, .string b] w fun e w' => e = .returned (.bool true) ∧ Below w.heap.size w w' := by
  obtain ⟨r, c, rfl, _⟩ := id hS
  obtain ⟨rn, cn, rfl, _⟩ := id hN
  have HN := hid (fun (W : World) (hW : Below w.heap.size w W) => hN.below strR_mono hW)
  have HE := hid (fun (W : World) (hW : Below w.heap.size w W) => hS.below edR_mono hW)
  have HB0 := hid (show Below w.heap.size w (w.alloc (.cells #[.slice rn ns.length cn, .slice r es.length c] 25)) from (Below.refl _ _).alloc (Nat.le_refl _) _)
  have HC0 := hid (show (w.alloc (.cells #[.slice rn ns.length cn, .slice r es.length c] 25)).heap[w.heap.size]? = some (.cells #[.slice rn ns.length cn, .slice r es.length c] 25 (0, 0)) from (MapKept.heap_alloc w _).1)
  have HOK := hid (fun h => rightB_ok (ns := ns) (es := es) h)
  clear hN hS
  go_enter Try.func9, Try.ntmps9
  go_wp2_with fail
  generalize (w.alloc (.cells #[.slice rn ns.length cn, .slice r es.length c] 25)) = W0 at *
  have z0 := cellv HC0.out 0 rfl
  have z1 := cellv HC0.out 1 rfl
  go_wp2_with fail
  refine (right_any _ ns es _ W0 (HN.out _ HB0.out) (HE.out _ HB0.out)).mono ?_
  rintro e w1 ⟨rfl, hb1⟩
  have HB1 := hid (HB0.out.trans (hb1.mono HB0.out.size))
  have HC1 := hid ((hb1.block w.heap.size (lt_of_block HC0.out)).trans HC0.out)
  clear hb1 z0 z1
  cases hr : rightB ns es with
  | false =>
    clear hr
    go_wp2_with fail
    refine (awake_any w1).mono ?_
    rintro e w2 ⟨rfl, hb2⟩
    have HB2 := hid (HB1.out.trans (hb2.mono HB1.out.size))
    clear hb2
    go_wp2
    go_ret
    exact ⟨rfl, HB2.out⟩
  | true =>
    have hok := HOK.out hr
    clear hr HOK
    generalize hsz : IntKind.i64.wrap ((a.size : Int) + (b.size : Int)) = sz at *
    by_cases hbig : (200 : Int) < sz
    · go_wp2_with fail
      refine (awake_any w1).mono ?_
      rintro e w2 ⟨rfl, hb2⟩
      have HB2 := hid (HB1.out.trans (hb2.mono HB1.out.size))
      clear hb2
      go_wp2
      go_ret
      exact ⟨rfl, HB2.out⟩
    have y0 := cellv HC1.out 0 rfl
    have y1 := cellv HC1.out 1 rfl
    go_wp2_with fail
    refine (reverse_any _ ns es _ w1 (HN.out _ HB1.out) (HE.out _ HB1.out) (by omega) (by omega)).mono ?_
    rintro e w2 ⟨vn2, ve2, rs, rfl, hn2, he2, hp, hsrt, hb2⟩
    obtain ⟨r2, c2, rfl, _⟩ := id he2
    obtain ⟨rn2, cn2, rfl, _⟩ := id hn2
    have HP := hid hp
    have HSr := hid hsrt
    have HB2 := hid (HB1.out.trans (hb2.mono HB1.out.size))
    have HC2 := hid ((hb2.block w.heap.size (lt_of_block HC1.out)).trans HC1.out)
    have HN2 := hid (fun (W : World) (hW : Below w2.heap.size w2 W) => hn2.below strR_mono hW)
    have HE2 := hid (fun (W : World) (hW : Below w2.heap.size w2 W) => he2.below edR_mono hW)
    clear hb2 hp hsrt hn2 he2 y0 y1
    have hrl : rs.length ≤ 200 := by rw [HP.out.length_eq, List.length_map]; omega
    have HCK := hid hok.2.2
    have HAE := hid (chk_iff.1 hok.2.2).2.2.2
    have HBa := hid (HB2.out.alloc HB2.out.size (.cells #[.slice rn2 ns.length cn2, .slice r2 rs.length c2] 25))
    have HAa := hid ((Below.refl w2.heap.size w2).alloc (Nat.le_refl _) (.cells #[.slice rn2 ns.length cn2, .slice r2 rs.length c2] 25))
    have HXa := hid (show (w2.alloc (.cells #[.slice rn2 ns.length cn2, .slice r2 rs.length c2] 25)).heap[w2.heap.size]? = some (.cells #[.slice rn2 ns.length cn2, .slice r2 rs.length c2] 25 (0, 0)) from (MapKept.heap_alloc w2 _).1)
    have HCa := hid ((HAa.out.block w.heap.size (lt_of_block HC2.out)).trans HC2.out)
    go_wp2_with fail
    generalize (w2.alloc (.cells #[.slice rn2 ns.length cn2, .slice r2 rs.length c2] 25)) = W2 at *
    have x0 := cell_regrown (cellv HXa.out 0 rfl)
    have x1 := cell_regrown (cellv HXa.out 1 rfl)
    have y0 := cell_regrown (cellv HCa.out 0 rfl)
    have y1 := cell_regrown (cellv HCa.out 1 rfl)
    have HNg := hid (fun (W : World) (hW : Below W2.heap.size W2 W) => HN.out W (HBa.out.trans (hW.mono HBa.out.size)))
    have HEg := hid (fun (W : World) (hW : Below W2.heap.size W2 W) => HE.out W (HBa.out.trans (hW.mono HBa.out.size)))
    have HNr := hid (fun (W : World) (hW : Below W2.heap.size W2 W) => HN2.out W (HAa.out.trans (hW.mono HAa.out.size)))
    have HEr := hid (fun (W : World) (hW : Below W2.heap.size W2 W) => HE2.out W (HAa.out.trans (hW.mono HAa.out.size)))
    have HSB := hid (show sameB ns ns es es = true by simp [sameB])
    by_cases hcy : cycF (tgt es) ns = []
    · have CYG := hid (fun (v : Value) (W : World) (h : Sl StrR 1 W v (cycF (tgt es) ns)) => show sNil.p v from by
        rw [hcy] at h
        obtain ⟨r, c, rfl, _⟩ := id h
        exact ⟨r, c, rfl⟩)
      have CYR := hid (fun (v : Value) (W : World) (h : Sl StrR 1 W v (cycF (tgt rs) ns)) => show sNil.p v from by
        rw [(rev_cyc HP.out).2 hcy] at h
        obtain ⟨r, c, rfl, _⟩ := id h
        exact ⟨r, c, rfl⟩)
      clear hcy
      refine wp_region_fresh (fun k => match k with | 1 => some (sGr ns es) | 3 => some (sBool true) | 7 => some sNil | 11 => some sNil | 18 => some (sInt 0) | _ => none) (by kernel_rfl) (by kernel_rfl) ?_
      (refine wpF_quiet (grw_ex _) (by kernel_rfl) rfl (noEnter_op (by rfl)) ?_; intro K hK; go_big_quiet_op; go_big_quiet_on)
      refine wpF_told (sGr ns es) (by kernel_rfl) rfl ⟨.agg #[.tuple #[], .tuple #[]], _, _, rfl⟩ (stGr ns es) (fun w4 hw4 hE4 => ?_) ?_
      · have hb4 := grw_below hw4
        clear hw4 hE4
        go_simp
        go_at_call 23
        refine (reverse_any _ ns rs _ w4 (HNr.out _ hb4) (HEr.out _ hb4) (by omega) (by omega)).mono ?_
        rintro e w5 ⟨vn5, ve5, qs, rfl, hn5, he5, hp5, hs5, hb5⟩
        rw [rev_rev HAE.out HP.out HSr.out hp5 hs5] at he5
        exact ⟨_, rfl, hb5, ⟨_, _, rfl⟩, _, _, rfl, hn5, he5⟩
      rintro _ ⟨vn4, ve4, rfl⟩
      (refine wpF_put ?_; intro K hK; go_simp; refine hK _ ?_; clear hK K)
      (refine wpF_quiet (grw_ex _) (by kernel_rfl) rfl (noEnter_op (by rfl)) ?_; intro K hK; go_big_quiet_op; go_big_quiet_on)
      refine wpF_told (sBool true) (by kernel_rfl) rfl ⟨_, rfl⟩ stTrue (fun w4 hw4 hE4 => ?_) ?_
      · have hb4 := grw_below hw4
        obtain ⟨vn6, ve6, e6, hn6, he6⟩ : (sGr ns es).R (.agg #[vn4, ve4]) w4 := hE4 1 (Bef.one (e := ⟨1, .data⟩) rfl (by simp) rfl rfl)
        simp at e6
        obtain ⟨rfl, rfl⟩ := e6
        clear hw4 hE4
        go_simp
        go_at_call 20
        refine (same_any _ _ _ _ ns ns es es w4 hn6 (HNg.out _ hb4) he6 (HEg.out _ hb4)).mono ?_
        rintro e w5 ⟨rfl, hb5⟩
        rw [HSB.out]
        exact ⟨_, rfl, hb5, rfl, trivial⟩
      rintro _ rfl
      (refine wpF_put ?_; intro K hK; go_simp; refine hK _ ?_; clear hK K)
      (refine wpF_quiet (grw_ex _) (by kernel_rfl) rfl (noEnter_op (by rfl)) ?_; intro K hK; go_big_quiet_op; go_big_quiet_on)
      (refine wpF_quiet (grw_ex _) (by kernel_rfl) rfl (noEnter_op (by rfl)) ?_; intro K hK; go_big_quiet_op; go_big_quiet_on)
      (refine wpF_quiet (grw_ex _) (by kernel_rfl) rfl (noEnter_op (by rfl)) ?_; intro K hK; go_big_quiet_op; go_big_quiet_on)
      refine wpF_told (sNil) (by kernel_rfl) rfl ⟨.slice none 0 0, _, _, rfl⟩ stTrue (fun w4 hw4 hE4 => ?_) ?_
      · have hb4 := grw_below hw4
        clear hw4 hE4
        go_simp
        go_at_call 15
        refine (cycle_any _ ns rs _ w4 (HNr.out _ hb4) (HEr.out _ hb4) (by omega) (by omega)).mono ?_
        rintro e w5 ⟨v5, rfl, hv5, hb5⟩
        exact ⟨_, rfl, hb5, CYR.out _ _ hv5, trivial⟩
      rintro _ ⟨r7, c7, rfl⟩
      (refine wpF_put ?_; intro K hK; go_simp; refine hK _ ?_; clear hK K)
      (refine wpF_quiet (grw_ex _) (by kernel_rfl) rfl (by intro w f args w'; go_simp) ?_; intro K hK; go_big_quiet_op; go_big_quiet_on)
      (refine wpF_quiet (grw_ex _) (by kernel_rfl) rfl (noEnter_op (by rfl)) ?_; intro K hK; go_big_quiet_op; go_big_quiet_on)
      (refine wpF_quiet (grw_ex _) (by kernel_rfl) rfl (noEnter_op (by rfl)) ?_; intro K hK; go_big_quiet_op; go_big_quiet_on)
      refine wpF_told (sNil) (by kernel_rfl) rfl ⟨.slice none 0 0, _, _, rfl⟩ stTrue (fun w4 hw4 hE4 => ?_) ?_
      · have hb4 := grw_below hw4
        clear hw4 hE4
        go_simp
        go_at_call 15
        refine (cycle_any _ ns es _ w4 (HNg.out _ hb4) (HEg.out _ hb4) (by omega) (by omega)).mono ?_
        rintro e w5 ⟨v5, rfl, hv5, hb5⟩
        exact ⟨_, rfl, hb5, CYG.out _ _ hv5, trivial⟩
      rintro _ ⟨r8, c8, rfl⟩
      (refine wpF_put ?_; intro K hK; go_simp; refine hK _ ?_; clear hK K)
      (refine wpF_quiet (grw_ex _) (by kernel_rfl) rfl (by intro w f args w'; go_simp) ?_; intro K hK; go_big_quiet_op; go_big_quiet_on)
      (refine wpF_quiet (grw_ex _) (by kernel_rfl) rfl (noEnter_op (by rfl)) ?_; intro K hK; go_big_quiet_op; go_big_quiet_on)
      (refine wpF_quiet (grw_ex _) (by kernel_rfl) rfl (noEnter_op (by rfl)) ?_; intro K hK; go_big_quiet_op; go_big_quiet_on)
      (refine wpF_quiet (grw_ex _) (by kernel_rfl) rfl (noEnter_op (by rfl)) ?_; intro K hK; go_big_quiet_op; go_big_quiet_on)
      (refine wpF_quiet (grw_ex _) (by kernel_rfl) rfl (noEnter_op (by rfl)) ?_; intro K hK; go_big_quiet_op; go_big_quiet_on)
      (refine wpF_quiet (grw_ex _) (by kernel_rfl) rfl (noEnter_op (by rfl)) ?_; intro K hK; go_big_quiet_op; go_big_quiet_on)
      refine wpF_told (sInt 0) (by kernel_rfl) rfl ⟨_, rfl⟩ stTrue (fun w4 hw4 hE4 => ?_) ?_
      · have hb4 := grw_below hw4
        clear hw4 hE4
        go_simp
        go_at_call 30
        refine (check_any _ ns rs _ w4 (HNr.out _ hb4) (HEr.out _ hb4) (by omega)).mono ?_
        rintro e w5 ⟨rfl, hb5⟩
        rw [rev_chk HCK.out HP.out HSr.out]
        exact ⟨_, rfl, hb5, rfl, trivial⟩
      rintro _ rfl
      (refine wpF_put ?_; intro K hK; go_simp; refine hK _ ?_; clear hK K)
      (refine wpF_quiet (grw_ex _) (by kernel_rfl) rfl (noEnter_op (by rfl)) ?_; intro K hK; go_big_quiet_op; go_big_quiet_on)
      (refine wpF_quiet (grw_ex _) (by kernel_rfl) rfl (noEnter_op (by rfl)) ?_; intro K hK; go_big_quiet_op; go_big_quiet_on)
      refine wpF_nil ?_
      intro w5 hw5 _
      have hb5 := grw_below hw5
      clear hw5
      have HB5 := hid (HBa.out.trans (hb5.mono HBa.out.size))
      have HA5 := hid (HAa.out.trans (hb5.mono HAa.out.size))
      have HC5 := hid ((hb5.block _ (lt_of_block HCa.out)).trans HCa.out)
      have HX5 := hid ((hb5.block _ (lt_of_block HXa.out)).trans HXa.out)
      have HNA := hid (chk_iff.1 HCK.out).2.1
      have HSa := hid ha
      have HSb := hid hb
      clear x0 x1 y0 y1 hb5 HNg HEg HNr HEr HSB CYG CYR ha hb
      have y0 := cellv HC5.out 0 rfl
      have y1 := cellv HC5.out 1 rfl
      go_wp2_with fail
      have Y0 := cell_regrown y0
      have Y1 := cell_regrown y1
      have HNg := hid (fun (W : World) (hW : Below w5.heap.size w5 W) => HN.out W (HB5.out.trans (hW.mono HB5.out.size)))
      have HEg := hid (fun (W : World) (hW : Below w5.heap.size w5 W) => HE.out W (HB5.out.trans (hW.mono HB5.out.size)))
      refine wp_region_fresh (fun k => match k with | 2 => some (sNew 1 (.cells #[.string a] 9)) | 3 => some (sLis 60 ns (RchN ns es [a])) | 6 => some (sNew 1 (.cells #[.string b] 9)) | 7 => some (sLis 60 ns (RchN ns es [b])) | 11 => some (sNew 2 (.cells #[.string a, .string b] 9)) | 12 => some (sLis 60 ns (RchN ns es [a, b])) | _ => none) (by kernel_rfl) (by kernel_rfl) ?_
      (refine wpF_quiet (grw_ex _) (by kernel_rfl) rfl (noEnter_op (by rfl)) ?_; intro K hK; go_big_quiet_op; go_big_quiet_on)
      (refine wpF_quiet (grw_ex _) (by kernel_rfl) rfl (noEnter_op (by rfl)) ?_; intro K hK; go_big_quiet_op; go_big_quiet_on)
      refine wpF_told (sNew 1 (.cells #[.string a] 9)) (by kernel_rfl) rfl ⟨_, 0, rfl⟩ (stNew _ _) (fun w4 hw4 hE4 => ?_) ?_
      · have hb4 := grw_below hw4
        clear hw4 hE4
        go_simp
        exact ⟨(Below.refl _ _).alloc (Nat.le_refl _) _, ⟨_, rfl⟩, _, rfl, (MapKept.heap_alloc _ _).1⟩
      rintro _ ⟨b2, rfl⟩
      (refine wpF_put ?_; intro K hK; go_simp; refine hK _ ?_; clear hK K)
      refine wpF_told (sLis 60 ns (RchN ns es [a])) (by kernel_rfl) rfl ⟨.slice none 0 0, _, _, _, rfl, Nat.zero_le _⟩ (stLis _ _ _) (fun w4 hw4 hE4 => ?_) ?_
      · have hb4 := grw_below hw4
        have hl4 := sNew_at (hE4 2 (Bef.one (e := ⟨2, .data⟩) rfl (by simp) rfl rfl))
        clear hw4 hE4
        go_simp
        go_at_call 21
        refine (reach_any _ ns es _ _ [a] w4 (HNg.out _ hb4) (HEg.out _ hb4) (lit_at hl4 HSa.out) HNA.out (by omega) (by omega) (by simp)).mono ?_
        rintro e w5 ⟨v5, l5, rfl, hl5, hp5, hb5⟩
        have h5 := sLis_of (n := 60) (by omega) hl5 hp5
        exact ⟨_, rfl, hb5, h5.1, h5.2⟩
      rintro _ ⟨rX, kX, cX, rfl, hkX⟩
      (refine wpF_put ?_; intro K hK; go_simp; refine hK _ ?_; clear hK K)
      (refine wpF_quiet (grw_ex _) (by kernel_rfl) rfl (noEnter_op (by rfl)) ?_; intro K hK; go_big_quiet_op; go_big_quiet_on)
      (refine wpF_quiet (grw_ex _) (by kernel_rfl) rfl (noEnter_op (by rfl)) ?_; intro K hK; go_big_quiet_op; go_big_quiet_on)
      refine wpF_told (sNew 1 (.cells #[.string b] 9)) (by kernel_rfl) rfl ⟨_, 0, rfl⟩ (stNew _ _) (fun w4 hw4 hE4 => ?_) ?_
      · have hb4 := grw_below hw4
        clear hw4 hE4
        go_simp
        exact ⟨(Below.refl _ _).alloc (Nat.le_refl _) _, ⟨_, rfl⟩, _, rfl, (MapKept.heap_alloc _ _).1⟩
      rintro _ ⟨b6, rfl⟩
      (refine wpF_put ?_; intro K hK; go_simp; refine hK _ ?_; clear hK K)
      refine wpF_told (sLis 60 ns (RchN ns es [b])) (by kernel_rfl) rfl ⟨.slice none 0 0, _, _, _, rfl, Nat.zero_le _⟩ (stLis _ _ _) (fun w4 hw4 hE4 => ?_) ?_
      · have hb4 := grw_below hw4
        have hl4 := sNew_at (hE4 6 (Bef.one (e := ⟨6, .data⟩) rfl (by simp) rfl rfl))
        clear hw4 hE4
        go_simp
        go_at_call 21
        refine (reach_any _ ns es _ _ [b] w4 (HNg.out _ hb4) (HEg.out _ hb4) (lit_at hl4 HSb.out) HNA.out (by omega) (by omega) (by simp)).mono ?_
        rintro e w5 ⟨v5, l5, rfl, hl5, hp5, hb5⟩
        have h5 := sLis_of (n := 60) (by omega) hl5 hp5
        exact ⟨_, rfl, hb5, h5.1, h5.2⟩
      rintro _ ⟨rY, kY, cY, rfl, hkY⟩
      (refine wpF_put ?_; intro K hK; go_simp; refine hK _ ?_; clear hK K)
      (refine wpF_quiet (grw_ex _) (by kernel_rfl) rfl (noEnter_op (by rfl)) ?_; intro K hK; go_big_quiet_op; go_big_quiet_on)
      (refine wpF_quiet (grw_ex _) (by kernel_rfl) rfl (noEnter_op (by rfl)) ?_; intro K hK; go_big_quiet_op; go_big_quiet_on)
      (refine wpF_quiet (grw_ex _) (by kernel_rfl) rfl (noEnter_op (by rfl)) ?_; intro K hK; go_big_quiet_op; go_big_quiet_on)
      refine wpF_told (sNew 2 (.cells #[.string a, .string b] 9)) (by kernel_rfl) rfl ⟨_, 0, rfl⟩ (stNew _ _) (fun w4 hw4 hE4 => ?_) ?_
      · have hb4 := grw_below hw4
        clear hw4 hE4
        go_simp
        exact ⟨(Below.refl _ _).alloc (Nat.le_refl _) _, ⟨_, rfl⟩, _, rfl, (MapKept.heap_alloc _ _).1⟩
      rintro _ ⟨b11, rfl⟩
      (refine wpF_put ?_; intro K hK; go_simp; refine hK _ ?_; clear hK K)
      refine wpF_told (sLis 60 ns (RchN ns es [a, b])) (by kernel_rfl) rfl ⟨.slice none 0 0, _, _, _, rfl, Nat.zero_le _⟩ (stLis _ _ _) (fun w4 hw4 hE4 => ?_) ?_
      · have hb4 := grw_below hw4
        have hl4 := sNew_at (hE4 11 (Bef.one (e := ⟨11, .data⟩) rfl (by simp) rfl rfl))
        clear hw4 hE4
        go_simp
        go_at_call 21
        refine (reach_any _ ns es _ _ [a, b] w4 (HNg.out _ hb4) (HEg.out _ hb4) (lits_at hl4 (fun x hx => by simp at hx; rcases hx with rfl | rfl; exact HSa.out; exact HSb.out) (by simp)) HNA.out (by omega) (by omega) (by simp)).mono ?_
        rintro e w5 ⟨v5, l5, rfl, hl5, hp5, hb5⟩
        have h5 := sLis_of (n := 60) (by omega) hl5 hp5
        exact ⟨_, rfl, hb5, h5.1, h5.2⟩
      rintro _ ⟨rB, kB, cB, rfl, hkB⟩
      (refine wpF_put ?_; intro K hK; go_simp; refine hK _ ?_; clear hK K)
      (refine wpF_quiet (grw_ex _) (by kernel_rfl) rfl (noEnter_op (by rfl)) ?_; intro K hK; go_big_quiet_op; go_big_quiet_on)
      (refine wpF_quiet (grw_ex _) (by kernel_rfl) rfl (noEnter_op (by rfl)) ?_; intro K hK; go_big_quiet_op; go_big_quiet_on)
      (refine wpF_quiet (grw_ex _) (by kernel_rfl) rfl (noEnter_op (by rfl)) ?_; intro K hK; go_big_quiet_op; go_big_quiet_on)
      refine wpF_nil ?_
      intro w6 hw6 hE6
      have hb6 := grw_below hw6
      obtain ⟨X, hX, pX⟩ : (sLis 60 ns (RchN ns es [a])).R _ w6 := hE6 3
      obtain ⟨Y, hY, pY⟩ : (sLis 60 ns (RchN ns es [b])).R _ w6 := hE6 7
      obtain ⟨B, hB, pB⟩ : (sLis 60 ns (RchN ns es [a, b])).R _ w6 := hE6 12
      clear hw6 hE6
      have hlX := (sl_len hX).1
      have hlY := (sl_len hY).1
      have hlB := (sl_len hB).1
      subst hlX hlY hlB
      have HXl := hid (fun (W : World) (hW : Below w6.heap.size w6 W) => hX.below strR_mono hW)
      have HYl := hid (fun (W : World) (hW : Below w6.heap.size w6 W) => hY.below strR_mono hW)
      have HBl := hid (fun (W : World) (hW : Below w6.heap.size w6 W) => hB.below strR_mono hW)
      have HPX := hid pX
      have HPY := hid pY
      have HPB := hid pB
      have HB6 := hid (HB5.out.trans (hb6.mono HB5.out.size))
      have HA6 := hid (HA5.out.trans (hb6.mono HA5.out.size))
      have HC6 := hid ((hb6.block _ (lt_of_block HC5.out)).trans HC5.out)
      have HX6 := hid ((hb6.block _ (lt_of_block HX5.out)).trans HX5.out)
      obtain ⟨_, hcX1, hcX2⟩ := sl_len hX
      obtain ⟨_, hcB1, hcB2⟩ := sl_len hB
      clear hb6 hX hY hB pX pY pB Y0 Y1 y0 y1 HNg HEg
      have y0 := cellv HC6.out 0 rfl
      have y1 := cellv HC6.out 1 rfl
      go_wp2_with fail
      refine (reach_any _ ns es _ _ B w6 (HN.out _ HB6.out) (HE.out _ HB6.out) (HBl.out _ (Below.refl _ _)) HNA.out (by omega) (by omega) (by omega)).mono ?_
      rintro e w7 ⟨v7, l7, rfl, hl7, hp7, hb7⟩
      have h7 := rch_closed HPB.out hp7
      subst h7
      have HB7 := hid (HB6.out.trans (hb7.mono HB6.out.size))
      have HD7 := hid hb7
      have HC7 := hid ((hb7.block _ (lt_of_block HC6.out)).trans HC6.out)
      have HL7 := hid hl7
      clear hb7 hl7 hp7 y0 y1
      have y0 := cellv HC7.out 0 rfl
      go_wp2_with fail
      refine (words_any l7 l7 _ _ w7 HL7.out (HBl.out _ HD7.out)).mono ?_
      rintro e w8 ⟨rfl, hb8⟩
      have HB8 := hid (HB7.out.trans (hb8.mono HB7.out.size))
      have HD8 := hid (HD7.out.trans (hb8.mono HD7.out.size))
      have HC8 := hid ((hb8.block _ (lt_of_block HC7.out)).trans HC7.out)
      have HX8 := hid ((HD8.out.block _ (lt_of_block HX6.out)).trans HX6.out)
      have HA8 := hid (HA6.out.trans (HD8.out.mono HA6.out.size))
      simp only [decide_true]
      clear hb8 y0
      have y0 := cellv HC8.out 0 rfl
      have CA0 := hid (fun (W : World) (hW : Below w8.heap.size w8 W) => at_any ns a _ W (HN.out W (HB8.out.trans (hW.mono HB8.out.size))))
      have HBd := hid (atS_bd a ns)
      have HSelf := hid (fun h => rch_self HPX.out h)
      have HTwo := hid (fun z hz => rch_two (z := z) HPX.out HPY.out HPB.out hz)
      have HLeft := hid (fun z hz => rch_left (z := z) HPX.out HPB.out hz)
      have HBack := hid (fun hA z hz Z hZ => rch_back (z := z) (y := Z) HP.out HPX.out hA hz hZ)
      have HNeg := hid (atS_neg (x := a) (l := ns))
      by_cases hin : a ∈ ns
      · have hq2 : 0 ≤ atS a ns := by
          rw [atS_in hin]; omega
        have HX0 := hid (HSelf.out hin)
        have HBack2 := hid (fun z hz Z hZ => HBack.out hin z hz Z hZ)
        generalize atS a ns = q2 at *
        have hq2d : decide (0 ≤ q2) = true := decide_eq_true hq2
        go_wp2_with fail
        refine (CA0.out _ (Below.refl _ _)).mono ?_
        rintro e w9 ⟨rfl, rfl⟩
        have CA1 := hid (at_any X a _ w8 (HXl.out _ HD8.out))
        have hq3 : 0 ≤ atS a X := by
          rw [atS_in HX0.out]; omega
        generalize atS a X = q3 at *
        have hq3' : ¬ q3 < 0 := by omega
        go_wp2_with fail
        refine CA1.out.mono ?_
        rintro e w9 ⟨rfl, rfl⟩
        go_wp2
        go_loop [11] (fun i => ∃ k : Nat, k ≤ l7.length ∧ i = .int .i64 k) (fun i => l7.length - (RowKit.intOf i).toNat)
        case atStart => exact ⟨0, by omega, rfl⟩
        case round =>
          obtain ⟨k, hk, rfl⟩ := hrel
          by_cases hlt : k < l7.length
          · obtain ⟨b', off, rfl, hb', g0, hz0⟩ := str_at (HBl.out _ HD8.out) k hlt
            have HTw := hid (HTwo.out _ (List.getElem_mem hlt))
            have k2 : (0 : Int) ≤ (k : Int) := by omega
            have k3 : (k : Int) < (l7.length : Int) := by omega
            generalize l7[k] = z at *
            have CX := hid (at_any X z _ w8 (HXl.out _ HD8.out))
            have CY := hid (at_any Y z _ w8 (HYl.out _ HD8.out))
            have HnX := hid (atS_neg (x := z) (l := X))
            have HnY := hid (atS_neg (x := z) (l := Y))
            clear hz0
            by_cases hzX : z ∈ X
            · have hq : ¬ atS z X < 0 := fun h => HnX.out.1 h hzX
              generalize atS z X = qx at *
              go_wp2_with fail
              refine CX.out.mono ?_
              rintro e w9 ⟨rfl, rfl⟩
              go_wp2
              go_round
              case rel => exact ⟨k + 1, by omega, by go_num⟩
              case measure => simp [RowKit.intOf]; omega
            · have hzY : z ∈ Y := HTw.out.elim (fun h => absurd h hzX) id
              have hq : atS z X < 0 := HnX.out.2 hzX
              have hq' : ¬ atS z Y < 0 := fun h => HnY.out.1 h hzY
              generalize atS z X = qx at *
              generalize atS z Y = qy at *
              go_wp2_with fail
              refine CX.out.mono ?_
              rintro e w9 ⟨rfl, rfl⟩
              go_wp2_with fail
              refine CY.out.mono ?_
              rintro e w9 ⟨rfl, rfl⟩
              go_wp2
              go_round
              case rel => exact ⟨k + 1, by omega, by go_num⟩
              case measure => simp [RowKit.intOf]; omega
          · obtain rfl : k = l7.length := by omega
            clear y0
            go_wp2
            go_loopw [12] (fun i wr => ∃ k : Nat, k ≤ X.length ∧ i = .int .i64 k ∧ Hid (Below w8.heap.size w8 wr)) (fun i _ => X.length - (RowKit.intOf i).toNat)
            case atStart => exact ⟨0, by omega, rfl, hid (Below.refl _ _)⟩
            case round =>
              obtain ⟨k, hk, rfl, HBw⟩ := hrel
              have HB9 := hid (HB8.out.trans (HBw.out.mono HB8.out.size))
              have HD9 := hid (HD8.out.trans (HBw.out.mono HD8.out.size))
              have HA9 := hid (HA8.out.trans (HBw.out.mono HA8.out.size))
              have HC9 := hid ((HBw.out.block _ (lt_of_block HC8.out)).trans HC8.out)
              have HX9 := hid ((HBw.out.block _ (lt_of_block HX8.out)).trans HX8.out)
              by_cases hlt : k < X.length
              · obtain ⟨b', off, rfl, hb', g0, hz0⟩ := str_at (HXl.out _ HD9.out) k hlt
                have HzX := hid (List.getElem_mem hlt)
                have k2 : (0 : Int) ≤ (k : Int) := by omega
                have k3 : (k : Int) < (X.length : Int) := by omega
                generalize X[k] = z at *
                have HSz := hid hz0
                have y0 := cell_regrown (cellv HC9.out 0 rfl)
                have y1 := cell_regrown (cellv HC9.out 1 rfl)
                have x0 := cell_regrown (cellv HX9.out 0 rfl)
                have x1 := cell_regrown (cellv HX9.out 1 rfl)
                have g1 := cell_regrown g0
                have HNr := hid (fun (W : World) (hW : Below wr.heap.size wr W) => HN2.out W (HA9.out.trans (hW.mono HA9.out.size)))
                have HEr := hid (fun (W : World) (hW : Below wr.heap.size wr W) => HE2.out W (HA9.out.trans (hW.mono HA9.out.size)))
                have CQ1 := hid (fun (W : World) (hW : Below wr.heap.size wr W) => at_any l7 z _ W (HBl.out W (HD9.out.trans (hW.mono HD9.out.size))))
                have CQ2 := hid (fun (W : World) (hW : Below wr.heap.size wr W) => CA0.out W (HBw.out.trans (hW.mono HBw.out.size)))
                have hq1 : ¬ atS z l7 < 0 := fun h => (atS_neg (x := z) (l := l7)).1 h (HLeft.out z HzX.out)
                generalize atS z l7 = q1 at *
                have hq1d : decide (q1 < 0) = false := decide_eq_false hq1
                clear hz0 g0
                have HBk := hid (fun Z hZ => HBack2.out z HzX.out Z hZ)
                go_wp2_with fail
                refine wp_region_fresh (fun k => match k with | 5 => some (sInt q1) | 11 => some (sInt q2) | 19 => some (sNew 1 (.cells #[.string z] 9)) | 20 => some (sLis 60 ns (RchN ns rs [z])) | 22 => some sNat | _ => none) (by kernel_rfl) (by kernel_rfl) ?_
                (refine wpF_quiet (grw_ex _) (by kernel_rfl) rfl (noEnter_op (by rfl)) ?_; intro K hK; go_big_quiet_op; go_big_quiet_on)
                (refine wpF_quiet (grw_ex _) (by kernel_rfl) rfl (noEnter_op (by rfl)) ?_; intro K hK; go_big_quiet_op; go_big_quiet_on)
                (refine wpF_quiet (grw_ex _) (by kernel_rfl) rfl (noEnter_op (by rfl)) ?_; intro K hK; go_big_quiet_op; go_big_quiet_on)
                (refine wpF_quiet (grw_ex _) (by kernel_rfl) rfl (noEnter_op (by rfl)) ?_; intro K hK; go_big_quiet_op; go_big_quiet_on)
                (refine wpF_quiet (grw_ex _) (by kernel_rfl) rfl (noEnter_op (by rfl)) ?_; intro K hK; go_big_quiet_op; go_big_quiet_on)
                refine wpF_told (sInt q1) (by kernel_rfl) rfl ⟨_, rfl⟩ stTrue (fun w4 hw4 hE4 => ?_) ?_
                · have hb4 := grw_below hw4
                  clear hw4 hE4
                  go_simp
                  go_at_call 27
                  refine (CQ1.out _ hb4).mono ?_
                  rintro e w5 ⟨rfl, rfl⟩
                  exact ⟨_, rfl, Lat.refl _, rfl, trivial⟩
                rintro _ rfl
                (refine wpF_put ?_; intro K hK; go_simp; refine hK _ ?_; clear hK K)
                (refine wpF_quiet (grw_ex _) (by kernel_rfl) rfl (noEnter_op (by rfl)) ?_; intro K hK; go_big_quiet_op; go_big_quiet_on)
                (refine wpF_quiet (grw_ex _) (by kernel_rfl) rfl (noEnter_op (by rfl)) ?_; intro K hK; go_big_quiet_op; go_big_quiet_on)
                (refine wpF_quiet (grw_ex _) (by kernel_rfl) rfl (noEnter_op (by rfl)) ?_; intro K hK; go_big_quiet_op; go_big_quiet_on)
                (refine wpF_quiet (grw_ex _) (by kernel_rfl) rfl (noEnter_op (by rfl)) ?_; intro K hK; go_big_quiet_op; go_big_quiet_on)
                (refine wpF_quiet (grw_ex _) (by kernel_rfl) rfl (noEnter_op (by rfl)) ?_; intro K hK; go_big_quiet_op; go_big_quiet_on)
                refine wpF_told (sInt q2) (by kernel_rfl) rfl ⟨_, rfl⟩ stTrue (fun w4 hw4 hE4 => ?_) ?_
                · have hb4 := grw_below hw4
                  clear hw4 hE4
                  go_simp
                  go_at_call 27
                  refine (CQ2.out _ hb4).mono ?_
                  rintro e w5 ⟨rfl, rfl⟩
                  exact ⟨_, rfl, Lat.refl _, rfl, trivial⟩
                rintro _ rfl
                (refine wpF_put ?_; intro K hK; go_simp; refine hK _ ?_; clear hK K)
                (refine wpF_quiet (grw_ex _) (by kernel_rfl) rfl (noEnter_op (by rfl)) ?_; intro K hK; go_big_quiet_op; go_big_quiet_on)
                (refine wpF_quiet (grw_ex _) (by kernel_rfl) rfl (noEnter_op (by rfl)) ?_; intro K hK; go_big_quiet_op; go_big_quiet_on)
                (refine wpF_quiet (grw_ex _) (by kernel_rfl) rfl (noEnter_op (by rfl)) ?_; intro K hK; go_big_quiet_op; go_big_quiet_on)
                (refine wpF_quiet (grw_ex _) (by kernel_rfl) rfl (noEnter_op (by rfl)) ?_; intro K hK; go_big_quiet_op; go_big_quiet_on)
                (refine wpF_quiet (grw_ex _) (by kernel_rfl) rfl (noEnter_op (by rfl)) ?_; intro K hK; go_big_quiet_op; go_big_quiet_on)
                (refine wpF_quiet (grw_ex _) (by kernel_rfl) rfl (noEnter_op (by rfl)) ?_; intro K hK; go_big_quiet_op; go_big_quiet_on)
                (refine wpF_quiet (grw_ex _) (by kernel_rfl) rfl (noEnter_op (by rfl)) ?_; intro K hK; go_big_quiet_op; go_big_quiet_on)
                refine wpF_told (sNew 1 (.cells #[.string z] 9)) (by kernel_rfl) rfl ⟨_, 0, rfl⟩ (stNew _ _) (fun w4 hw4 hE4 => ?_) ?_
                · have hb4 := grw_below hw4
                  clear hw4 hE4
                  go_simp
                  exact ⟨(Below.refl _ _).alloc (Nat.le_refl _) _, ⟨_, rfl⟩, _, rfl, (MapKept.heap_alloc _ _).1⟩
                rintro _ ⟨b19, rfl⟩
                (refine wpF_put ?_; intro K hK; go_simp; refine hK _ ?_; clear hK K)
                refine wpF_told (sLis 60 ns (RchN ns rs [z])) (by kernel_rfl) rfl ⟨.slice none 0 0, _, _, _, rfl, Nat.zero_le _⟩ (stLis _ _ _) (fun w4 hw4 hE4 => ?_) ?_
                · have hb4 := grw_below hw4
                  have hl4 := sNew_at (hE4 19 (Bef.one (e := ⟨19, .data⟩) rfl (by simp) rfl rfl))
                  clear hw4 hE4
                  go_simp
                  go_at_call 21
                  refine (reach_any _ ns rs _ _ [z] w4 (HNr.out _ hb4) (HEr.out _ hb4) (lit_at hl4 HSz.out) HNA.out (by omega) (by omega) (by simp)).mono ?_
                  rintro e w5 ⟨v5, l5, rfl, hl5, hp5, hb5⟩
                  have h5 := sLis_of (n := 60) (by omega) hl5 hp5
                  exact ⟨_, rfl, hb5, h5.1, h5.2⟩
                rintro _ ⟨rZ, kZ, cZ, rfl, hkZ⟩
                (refine wpF_put ?_; intro K hK; go_simp; refine hK _ ?_; clear hK K)
                (refine wpF_quiet (grw_ex _) (by kernel_rfl) rfl (noEnter_op (by rfl)) ?_; intro K hK; go_big_quiet_op; go_big_quiet_on)
                refine wpF_told (sNat) (by kernel_rfl) rfl ⟨_, 0, rfl⟩ stTrue (fun w4 hw4 hE4 => ?_) ?_
                · have hb4 := grw_below hw4
                  obtain ⟨Z, hZ, pZ⟩ : (sLis 60 ns (RchN ns rs [z])).R (.slice rZ kZ cZ) w4 := hE4 20 (Bef.one (e := ⟨20, .data⟩) rfl (by simp) rfl rfl)
                  clear hw4 hE4
                  go_simp
                  go_at_call 27
                  refine (at_any Z a _ w4 hZ).mono ?_
                  rintro e w5 ⟨rfl, rfl⟩
                  exact ⟨_, rfl, Lat.refl _, ⟨pos a Z, by rw [atS_in (HBk.out _ pZ)]⟩, trivial⟩
                rintro _ ⟨n22, rfl⟩
                (refine wpF_put ?_; intro K hK; go_simp; refine hK _ ?_; clear hK K)
                have hn22 : decide ((n22 : Int) < 0) = false := decide_eq_false (by omega)
                (refine wpF_quiet (grw_ex _) (by kernel_rfl) rfl (noEnter_op (by rfl)) ?_; intro K hK; go_big_quiet_op; go_big_quiet_on)
                (refine wpF_quiet (grw_ex _) (by kernel_rfl) rfl (noEnter_op (by rfl)) ?_; intro K hK; go_big_quiet_op; go_big_quiet_on)
                (refine wpF_quiet (grw_ex _) (by kernel_rfl) rfl (noEnter_op (by rfl)) ?_; intro K hK; go_big_quiet_op; go_big_quiet_on)
                refine wpF_nil ?_
                intro w7 hw7 _
                have hb7 := grw_below hw7
                clear hw7
                have HBn := hid (HBw.out.trans (hb7.mono HBw.out.size))
                clear hb7 x0 x1 y0 y1 g1
                go_wp2
                go_roundw
                case rel => exact ⟨k + 1, by omega, by go_num, HBn⟩
                case measure => simp [RowKit.intOf]; omega
              · obtain rfl : k = X.length := by omega
                go_wp2_with fail
                refine (awake_any _).mono ?_
                rintro e w9 ⟨rfl, hb9⟩
                have HBe := hid (HB9.out.trans (hb9.mono HB9.out.size))
                clear hb9
                go_wp2
                go_ret
                exact ⟨rfl, HBe.out⟩
      · have hq2 : ¬ 0 ≤ atS a ns := by
          have := HNeg.out.2 hin; omega
        generalize atS a ns = q2 at *
        have hq2d : decide (0 ≤ q2) = false := decide_eq_false hq2
        go_wp2_with fail
        refine (CA0.out _ (Below.refl _ _)).mono ?_
        rintro e w9 ⟨rfl, rfl⟩
        go_wp2
        go_loop [11] (fun i => ∃ k : Nat, k ≤ l7.length ∧ i = .int .i64 k) (fun i => l7.length - (RowKit.intOf i).toNat)
        case atStart => exact ⟨0, by omega, rfl⟩
        case round =>
          obtain ⟨k, hk, rfl⟩ := hrel
          by_cases hlt : k < l7.length
          · obtain ⟨b', off, rfl, hb', g0, hz0⟩ := str_at (HBl.out _ HD8.out) k hlt
            have HTw := hid (HTwo.out _ (List.getElem_mem hlt))
            have k2 : (0 : Int) ≤ (k : Int) := by omega
            have k3 : (k : Int) < (l7.length : Int) := by omega
            generalize l7[k] = z at *
            have CX := hid (at_any X z _ w8 (HXl.out _ HD8.out))
            have CY := hid (at_any Y z _ w8 (HYl.out _ HD8.out))
            have HnX := hid (atS_neg (x := z) (l := X))
            have HnY := hid (atS_neg (x := z) (l := Y))
            clear hz0
            by_cases hzX : z ∈ X
            · have hq : ¬ atS z X < 0 := fun h => HnX.out.1 h hzX
              generalize atS z X = qx at *
              go_wp2_with fail
              refine CX.out.mono ?_
              rintro e w9 ⟨rfl, rfl⟩
              go_wp2
              go_round
              case rel => exact ⟨k + 1, by omega, by go_num⟩
              case measure => simp [RowKit.intOf]; omega
            · have hzY : z ∈ Y := HTw.out.elim (fun h => absurd h hzX) id
              have hq : atS z X < 0 := HnX.out.2 hzX
              have hq' : ¬ atS z Y < 0 := fun h => HnY.out.1 h hzY
              generalize atS z X = qx at *
              generalize atS z Y = qy at *
              go_wp2_with fail
              refine CX.out.mono ?_
              rintro e w9 ⟨rfl, rfl⟩
              go_wp2_with fail
              refine CY.out.mono ?_
              rintro e w9 ⟨rfl, rfl⟩
              go_wp2
              go_round
              case rel => exact ⟨k + 1, by omega, by go_num⟩
              case measure => simp [RowKit.intOf]; omega
          · obtain rfl : k = l7.length := by omega
            clear y0
            go_wp2
            go_loopw [12] (fun i wr => ∃ k : Nat, k ≤ X.length ∧ i = .int .i64 k ∧ Hid (Below w8.heap.size w8 wr)) (fun i _ => X.length - (RowKit.intOf i).toNat)
            case atStart => exact ⟨0, by omega, rfl, hid (Below.refl _ _)⟩
            case round =>
              obtain ⟨k, hk, rfl, HBw⟩ := hrel
              have HB9 := hid (HB8.out.trans (HBw.out.mono HB8.out.size))
              have HD9 := hid (HD8.out.trans (HBw.out.mono HD8.out.size))
              have HA9 := hid (HA8.out.trans (HBw.out.mono HA8.out.size))
              have HC9 := hid ((HBw.out.block _ (lt_of_block HC8.out)).trans HC8.out)
              have HX9 := hid ((HBw.out.block _ (lt_of_block HX8.out)).trans HX8.out)
              by_cases hlt : k < X.length
              · obtain ⟨b', off, rfl, hb', g0, hz0⟩ := str_at (HXl.out _ HD9.out) k hlt
                have HzX := hid (List.getElem_mem hlt)
                have k2 : (0 : Int) ≤ (k : Int) := by omega
                have k3 : (k : Int) < (X.length : Int) := by omega
                generalize X[k] = z at *
                have HSz := hid hz0
                have y0 := cell_regrown (cellv HC9.out 0 rfl)
                have y1 := cell_regrown (cellv HC9.out 1 rfl)
                have x0 := cell_regrown (cellv HX9.out 0 rfl)
                have x1 := cell_regrown (cellv HX9.out 1 rfl)
                have g1 := cell_regrown g0
                have HNr := hid (fun (W : World) (hW : Below wr.heap.size wr W) => HN2.out W (HA9.out.trans (hW.mono HA9.out.size)))
                have HEr := hid (fun (W : World) (hW : Below wr.heap.size wr W) => HE2.out W (HA9.out.trans (hW.mono HA9.out.size)))
                have CQ1 := hid (fun (W : World) (hW : Below wr.heap.size wr W) => at_any l7 z _ W (HBl.out W (HD9.out.trans (hW.mono HD9.out.size))))
                have CQ2 := hid (fun (W : World) (hW : Below wr.heap.size wr W) => CA0.out W (HBw.out.trans (hW.mono HBw.out.size)))
                have hq1 : ¬ atS z l7 < 0 := fun h => (atS_neg (x := z) (l := l7)).1 h (HLeft.out z HzX.out)
                generalize atS z l7 = q1 at *
                have hq1d : decide (q1 < 0) = false := decide_eq_false hq1
                clear hz0 g0
                go_wp2_with fail
                refine wp_region_fresh (fun k => match k with | 5 => some (sInt q1) | 11 => some (sInt q2) | 19 => some (sNew 1 (.cells #[.string z] 9)) | 20 => some (sLis 60 ns (RchN ns rs [z])) | 22 => some sNat | _ => none) (by kernel_rfl) (by kernel_rfl) ?_
                (refine wpF_quiet (grw_ex _) (by kernel_rfl) rfl (noEnter_op (by rfl)) ?_; intro K hK; go_big_quiet_op; go_big_quiet_on)
                (refine wpF_quiet (grw_ex _) (by kernel_rfl) rfl (noEnter_op (by rfl)) ?_; intro K hK; go_big_quiet_op; go_big_quiet_on)
                (refine wpF_quiet (grw_ex _) (by kernel_rfl) rfl (noEnter_op (by rfl)) ?_; intro K hK; go_big_quiet_op; go_big_quiet_on)
                (refine wpF_quiet (grw_ex _) (by kernel_rfl) rfl (noEnter_op (by rfl)) ?_; intro K hK; go_big_quiet_op; go_big_quiet_on)
                (refine wpF_quiet (grw_ex _) (by kernel_rfl) rfl (noEnter_op (by rfl)) ?_; intro K hK; go_big_quiet_op; go_big_quiet_on)
                refine wpF_told (sInt q1) (by kernel_rfl) rfl ⟨_, rfl⟩ stTrue (fun w4 hw4 hE4 => ?_) ?_
                · have hb4 := grw_below hw4
                  clear hw4 hE4
                  go_simp
                  go_at_call 27
                  refine (CQ1.out _ hb4).mono ?_
                  rintro e w5 ⟨rfl, rfl⟩
                  exact ⟨_, rfl, Lat.refl _, rfl, trivial⟩
                rintro _ rfl
                (refine wpF_put ?_; intro K hK; go_simp; refine hK _ ?_; clear hK K)
                (refine wpF_quiet (grw_ex _) (by kernel_rfl) rfl (noEnter_op (by rfl)) ?_; intro K hK; go_big_quiet_op; go_big_quiet_on)
                (refine wpF_quiet (grw_ex _) (by kernel_rfl) rfl (noEnter_op (by rfl)) ?_; intro K hK; go_big_quiet_op; go_big_quiet_on)
                (refine wpF_quiet (grw_ex _) (by kernel_rfl) rfl (noEnter_op (by rfl)) ?_; intro K hK; go_big_quiet_op; go_big_quiet_on)
                (refine wpF_quiet (grw_ex _) (by kernel_rfl) rfl (noEnter_op (by rfl)) ?_; intro K hK; go_big_quiet_op; go_big_quiet_on)
                (refine wpF_quiet (grw_ex _) (by kernel_rfl) rfl (noEnter_op (by rfl)) ?_; intro K hK; go_big_quiet_op; go_big_quiet_on)
                refine wpF_told (sInt q2) (by kernel_rfl) rfl ⟨_, rfl⟩ stTrue (fun w4 hw4 hE4 => ?_) ?_
                · have hb4 := grw_below hw4
                  clear hw4 hE4
                  go_simp
                  go_at_call 27
                  refine (CQ2.out _ hb4).mono ?_
                  rintro e w5 ⟨rfl, rfl⟩
                  exact ⟨_, rfl, Lat.refl _, rfl, trivial⟩
                rintro _ rfl
                (refine wpF_put ?_; intro K hK; go_simp; refine hK _ ?_; clear hK K)
                (refine wpF_quiet (grw_ex _) (by kernel_rfl) rfl (noEnter_op (by rfl)) ?_; intro K hK; go_big_quiet_op; go_big_quiet_on)
                (refine wpF_quiet (grw_ex _) (by kernel_rfl) rfl (noEnter_op (by rfl)) ?_; intro K hK; go_big_quiet_op; go_big_quiet_on)
                (refine wpF_skip (by kernel_rfl) ?_)
                (refine wpF_skip (by kernel_rfl) ?_)
                (refine wpF_skip (by kernel_rfl) ?_)
                (refine wpF_skip (by kernel_rfl) ?_)
                (refine wpF_skip (by kernel_rfl) ?_)
                (refine wpF_skip (by kernel_rfl) ?_)
                (refine wpF_skip (by kernel_rfl) ?_)
                (refine wpF_skip (by kernel_rfl) ?_)
                (refine wpF_skip (by kernel_rfl) ?_)
                (refine wpF_skip (by kernel_rfl) ?_)
                (refine wpF_put ?_; intro K hK; go_simp; refine hK _ ?_; clear hK K)
                (refine wpF_quiet (grw_ex _) (by kernel_rfl) rfl (noEnter_op (by rfl)) ?_; intro K hK; go_big_quiet_op; go_big_quiet_on)
                (refine wpF_quiet (grw_ex _) (by kernel_rfl) rfl (noEnter_op (by rfl)) ?_; intro K hK; go_big_quiet_op; go_big_quiet_on)
                refine wpF_nil ?_
                intro w7 hw7 _
                have hb7 := grw_below hw7
                clear hw7
                have HBn := hid (HBw.out.trans (hb7.mono HBw.out.size))
                clear hb7 x0 x1 y0 y1 g1
                go_wp2
                go_roundw
                case rel => exact ⟨k + 1, by omega, by go_num, HBn⟩
                case measure => simp [RowKit.intOf]; omega
              · obtain rfl : k = X.length := by omega
                go_wp2_with fail
                refine (awake_any _).mono ?_
                rintro e w9 ⟨rfl, hb9⟩
                have HBe := hid (HB9.out.trans (hb9.mono HB9.out.size))
                clear hb9
                go_wp2
                go_ret
                exact ⟨rfl, HBe.out⟩
    · have CYG := hid (fun (v : Value) (W : World) (h : Sl StrR 1 W v (cycF (tgt es) ns)) => show sSome.p v from by
        obtain ⟨r, c, rfl, _⟩ := id h
        have := List.length_pos_iff.2 hcy
        exact ⟨r, (cycF (tgt es) ns).length - 1, c, by congr 1; omega⟩)
      have CYR := hid (fun (v : Value) (W : World) (h : Sl StrR 1 W v (cycF (tgt rs) ns)) => show sSome.p v from by
        obtain ⟨r, c, rfl, _⟩ := id h
        have := List.length_pos_iff.2 (fun e => hcy ((rev_cyc HP.out).1 e))
        exact ⟨r, (cycF (tgt rs) ns).length - 1, c, by congr 1; omega⟩)
      clear hcy
      refine wp_region_fresh (fun k => match k with | 1 => some (sGr ns es) | 3 => some (sBool true) | 7 => some sSome | 11 => some sSome | 18 => some (sInt 0) | _ => none) (by kernel_rfl) (by kernel_rfl) ?_
      (refine wpF_quiet (grw_ex _) (by kernel_rfl) rfl (noEnter_op (by rfl)) ?_; intro K hK; go_big_quiet_op; go_big_quiet_on)
      refine wpF_told (sGr ns es) (by kernel_rfl) rfl ⟨.agg #[.tuple #[], .tuple #[]], _, _, rfl⟩ (stGr ns es) (fun w4 hw4 hE4 => ?_) ?_
      · have hb4 := grw_below hw4
        clear hw4 hE4
        go_simp
        go_at_call 23
        refine (reverse_any _ ns rs _ w4 (HNr.out _ hb4) (HEr.out _ hb4) (by omega) (by omega)).mono ?_
        rintro e w5 ⟨vn5, ve5, qs, rfl, hn5, he5, hp5, hs5, hb5⟩
        rw [rev_rev HAE.out HP.out HSr.out hp5 hs5] at he5
        exact ⟨_, rfl, hb5, ⟨_, _, rfl⟩, _, _, rfl, hn5, he5⟩
      rintro _ ⟨vn4, ve4, rfl⟩
      (refine wpF_put ?_; intro K hK; go_simp; refine hK _ ?_; clear hK K)
      (refine wpF_quiet (grw_ex _) (by kernel_rfl) rfl (noEnter_op (by rfl)) ?_; intro K hK; go_big_quiet_op; go_big_quiet_on)
      refine wpF_told (sBool true) (by kernel_rfl) rfl ⟨_, rfl⟩ stTrue (fun w4 hw4 hE4 => ?_) ?_
      · have hb4 := grw_below hw4
        obtain ⟨vn6, ve6, e6, hn6, he6⟩ : (sGr ns es).R (.agg #[vn4, ve4]) w4 := hE4 1 (Bef.one (e := ⟨1, .data⟩) rfl (by simp) rfl rfl)
        simp at e6
        obtain ⟨rfl, rfl⟩ := e6
        clear hw4 hE4
        go_simp
        go_at_call 20
        refine (same_any _ _ _ _ ns ns es es w4 hn6 (HNg.out _ hb4) he6 (HEg.out _ hb4)).mono ?_
        rintro e w5 ⟨rfl, hb5⟩
        rw [HSB.out]
        exact ⟨_, rfl, hb5, rfl, trivial⟩
      rintro _ rfl
      (refine wpF_put ?_; intro K hK; go_simp; refine hK _ ?_; clear hK K)
      (refine wpF_quiet (grw_ex _) (by kernel_rfl) rfl (noEnter_op (by rfl)) ?_; intro K hK; go_big_quiet_op; go_big_quiet_on)
      (refine wpF_quiet (grw_ex _) (by kernel_rfl) rfl (noEnter_op (by rfl)) ?_; intro K hK; go_big_quiet_op; go_big_quiet_on)
      (refine wpF_quiet (grw_ex _) (by kernel_rfl) rfl (noEnter_op (by rfl)) ?_; intro K hK; go_big_quiet_op; go_big_quiet_on)
      refine wpF_told (sSome) (by kernel_rfl) rfl ⟨.slice none 1 0, _, 0, _, rfl⟩ stTrue (fun w4 hw4 hE4 => ?_) ?_
      · have hb4 := grw_below hw4
        clear hw4 hE4
        go_simp
        go_at_call 15
        refine (cycle_any _ ns rs _ w4 (HNr.out _ hb4) (HEr.out _ hb4) (by omega) (by omega)).mono ?_
        rintro e w5 ⟨v5, rfl, hv5, hb5⟩
        exact ⟨_, rfl, hb5, CYR.out _ _ hv5, trivial⟩
      rintro _ ⟨r7, k7, c7, rfl⟩
      (refine wpF_put ?_; intro K hK; go_simp; refine hK _ ?_; clear hK K)
      (refine wpF_quiet (grw_ex _) (by kernel_rfl) rfl (by intro w f args w'; go_simp) ?_; intro K hK; go_big_quiet_op; go_big_quiet_on)
      (refine wpF_quiet (grw_ex _) (by kernel_rfl) rfl (noEnter_op (by rfl)) ?_; intro K hK; go_big_quiet_op; go_big_quiet_on)
      (refine wpF_quiet (grw_ex _) (by kernel_rfl) rfl (noEnter_op (by rfl)) ?_; intro K hK; go_big_quiet_op; go_big_quiet_on)
      refine wpF_told (sSome) (by kernel_rfl) rfl ⟨.slice none 1 0, _, 0, _, rfl⟩ stTrue (fun w4 hw4 hE4 => ?_) ?_
      · have hb4 := grw_below hw4
        clear hw4 hE4
        go_simp
        go_at_call 15
        refine (cycle_any _ ns es _ w4 (HNg.out _ hb4) (HEg.out _ hb4) (by omega) (by omega)).mono ?_
        rintro e w5 ⟨v5, rfl, hv5, hb5⟩
        exact ⟨_, rfl, hb5, CYG.out _ _ hv5, trivial⟩
      rintro _ ⟨r8, k8, c8, rfl⟩
      (refine wpF_put ?_; intro K hK; go_simp; refine hK _ ?_; clear hK K)
      (refine wpF_quiet (grw_ex _) (by kernel_rfl) rfl (by intro w f args w'; go_simp) ?_; intro K hK; go_big_quiet_op; go_big_quiet_on)
      (refine wpF_quiet (grw_ex _) (by kernel_rfl) rfl (noEnter_op (by rfl)) ?_; intro K hK; go_big_quiet_op; go_big_quiet_on)
      (refine wpF_quiet (grw_ex _) (by kernel_rfl) rfl (noEnter_op (by rfl)) ?_; intro K hK; go_big_quiet_op; go_big_quiet_on)
      (refine wpF_quiet (grw_ex _) (by kernel_rfl) rfl (noEnter_op (by rfl)) ?_; intro K hK; go_big_quiet_op; go_big_quiet_on)
      (refine wpF_quiet (grw_ex _) (by kernel_rfl) rfl (noEnter_op (by rfl)) ?_; intro K hK; go_big_quiet_op; go_big_quiet_on)
      (refine wpF_quiet (grw_ex _) (by kernel_rfl) rfl (noEnter_op (by rfl)) ?_; intro K hK; go_big_quiet_op; go_big_quiet_on)
      refine wpF_told (sInt 0) (by kernel_rfl) rfl ⟨_, rfl⟩ stTrue (fun w4 hw4 hE4 => ?_) ?_
      · have hb4 := grw_below hw4
        clear hw4 hE4
        go_simp
        go_at_call 30
        refine (check_any _ ns rs _ w4 (HNr.out _ hb4) (HEr.out _ hb4) (by omega)).mono ?_
        rintro e w5 ⟨rfl, hb5⟩
        rw [rev_chk HCK.out HP.out HSr.out]
        exact ⟨_, rfl, hb5, rfl, trivial⟩
      rintro _ rfl
      (refine wpF_put ?_; intro K hK; go_simp; refine hK _ ?_; clear hK K)
      (refine wpF_quiet (grw_ex _) (by kernel_rfl) rfl (noEnter_op (by rfl)) ?_; intro K hK; go_big_quiet_op; go_big_quiet_on)
      (refine wpF_quiet (grw_ex _) (by kernel_rfl) rfl (noEnter_op (by rfl)) ?_; intro K hK; go_big_quiet_op; go_big_quiet_on)
      refine wpF_nil ?_
      intro w5 hw5 _
      have hb5 := grw_below hw5
      clear hw5
      have HB5 := hid (HBa.out.trans (hb5.mono HBa.out.size))
      have HA5 := hid (HAa.out.trans (hb5.mono HAa.out.size))
      have HC5 := hid ((hb5.block _ (lt_of_block HCa.out)).trans HCa.out)
      have HX5 := hid ((hb5.block _ (lt_of_block HXa.out)).trans HXa.out)
      have HNA := hid (chk_iff.1 HCK.out).2.1
      have HSa := hid ha
      have HSb := hid hb
      clear x0 x1 y0 y1 hb5 HNg HEg HNr HEr HSB CYG CYR ha hb
      have y0 := cellv HC5.out 0 rfl
      have y1 := cellv HC5.out 1 rfl
      go_wp2_with fail
      have Y0 := cell_regrown y0
      have Y1 := cell_regrown y1
      have HNg := hid (fun (W : World) (hW : Below w5.heap.size w5 W) => HN.out W (HB5.out.trans (hW.mono HB5.out.size)))
      have HEg := hid (fun (W : World) (hW : Below w5.heap.size w5 W) => HE.out W (HB5.out.trans (hW.mono HB5.out.size)))
      refine wp_region_fresh (fun k => match k with | 2 => some (sNew 1 (.cells #[.string a] 9)) | 3 => some (sLis 60 ns (RchN ns es [a])) | 6 => some (sNew 1 (.cells #[.string b] 9)) | 7 => some (sLis 60 ns (RchN ns es [b])) | 11 => some (sNew 2 (.cells #[.string a, .string b] 9)) | 12 => some (sLis 60 ns (RchN ns es [a, b])) | _ => none) (by kernel_rfl) (by kernel_rfl) ?_
      (refine wpF_quiet (grw_ex _) (by kernel_rfl) rfl (noEnter_op (by rfl)) ?_; intro K hK; go_big_quiet_op; go_big_quiet_on)
      (refine wpF_quiet (grw_ex _) (by kernel_rfl) rfl (noEnter_op (by rfl)) ?_; intro K hK; go_big_quiet_op; go_big_quiet_on)
      refine wpF_told (sNew 1 (.cells #[.string a] 9)) (by kernel_rfl) rfl ⟨_, 0, rfl⟩ (stNew _ _) (fun w4 hw4 hE4 => ?_) ?_
      · have hb4 := grw_below hw4
        clear hw4 hE4
        go_simp
        exact ⟨(Below.refl _ _).alloc (Nat.le_refl _) _, ⟨_, rfl⟩, _, rfl, (MapKept.heap_alloc _ _).1⟩
      rintro _ ⟨b2, rfl⟩
      (refine wpF_put ?_; intro K hK; go_simp; refine hK _ ?_; clear hK K)
      refine wpF_told (sLis 60 ns (RchN ns es [a])) (by kernel_rfl) rfl ⟨.slice none 0 0, _, _, _, rfl, Nat.zero_le _⟩ (stLis _ _ _) (fun w4 hw4 hE4 => ?_) ?_
      · have hb4 := grw_below hw4
        have hl4 := sNew_at (hE4 2 (Bef.one (e := ⟨2, .data⟩) rfl (by simp) rfl rfl))
        clear hw4 hE4
        go_simp
        go_at_call 21
        refine (reach_any _ ns es _ _ [a] w4 (HNg.out _ hb4) (HEg.out _ hb4) (lit_at hl4 HSa.out) HNA.out (by omega) (by omega) (by simp)).mono ?_
        rintro e w5 ⟨v5, l5, rfl, hl5, hp5, hb5⟩
        have h5 := sLis_of (n := 60) (by omega) hl5 hp5
        exact ⟨_, rfl, hb5, h5.1, h5.2⟩
      rintro _ ⟨rX, kX, cX, rfl, hkX⟩
      (refine wpF_put ?_; intro K hK; go_simp; refine hK _ ?_; clear hK K)
      (refine wpF_quiet (grw_ex _) (by kernel_rfl) rfl (noEnter_op (by rfl)) ?_; intro K hK; go_big_quiet_op; go_big_quiet_on)
      (refine wpF_quiet (grw_ex _) (by kernel_rfl) rfl (noEnter_op (by rfl)) ?_; intro K hK; go_big_quiet_op; go_big_quiet_on)
      refine wpF_told (sNew 1 (.cells #[.string b] 9)) (by kernel_rfl) rfl ⟨_, 0, rfl⟩ (stNew _ _) (fun w4 hw4 hE4 => ?_) ?_
      · have hb4 := grw_below hw4
        clear hw4 hE4
        go_simp
        exact ⟨(Below.refl _ _).alloc (Nat.le_refl _) _, ⟨_, rfl⟩, _, rfl, (MapKept.heap_alloc _ _).1⟩
      rintro _ ⟨b6, rfl⟩
      (refine wpF_put ?_; intro K hK; go_simp; refine hK _ ?_; clear hK K)
      refine wpF_told (sLis 60 ns (RchN ns es [b])) (by kernel_rfl) rfl ⟨.slice none 0 0, _, _, _, rfl, Nat.zero_le _⟩ (stLis _ _ _) (fun w4 hw4 hE4 => ?_) ?_
      · have hb4 := grw_below hw4
        have hl4 := sNew_at (hE4 6 (Bef.one (e := ⟨6, .data⟩) rfl (by simp) rfl rfl))
        clear hw4 hE4
        go_simp
        go_at_call 21
        refine (reach_any _ ns es _ _ [b] w4 (HNg.out _ hb4) (HEg.out _ hb4) (lit_at hl4 HSb.out) HNA.out (by omega) (by omega) (by simp)).mono ?_
        rintro e w5 ⟨v5, l5, rfl, hl5, hp5, hb5⟩
        have h5 := sLis_of (n := 60) (by omega) hl5 hp5
        exact ⟨_, rfl, hb5, h5.1, h5.2⟩
      rintro _ ⟨rY, kY, cY, rfl, hkY⟩
      (refine wpF_put ?_; intro K hK; go_simp; refine hK _ ?_; clear hK K)
      (refine wpF_quiet (grw_ex _) (by kernel_rfl) rfl (noEnter_op (by rfl)) ?_; intro K hK; go_big_quiet_op; go_big_quiet_on)
      (refine wpF_quiet (grw_ex _) (by kernel_rfl) rfl (noEnter_op (by rfl)) ?_; intro K hK; go_big_quiet_op; go_big_quiet_on)
      (refine wpF_quiet (grw_ex _) (by kernel_rfl) rfl (noEnter_op (by rfl)) ?_; intro K hK; go_big_quiet_op; go_big_quiet_on)
      refine wpF_told (sNew 2 (.cells #[.string a, .string b] 9)) (by kernel_rfl) rfl ⟨_, 0, rfl⟩ (stNew _ _) (fun w4 hw4 hE4 => ?_) ?_
      · have hb4 := grw_below hw4
        clear hw4 hE4
        go_simp
        exact ⟨(Below.refl _ _).alloc (Nat.le_refl _) _, ⟨_, rfl⟩, _, rfl, (MapKept.heap_alloc _ _).1⟩
      rintro _ ⟨b11, rfl⟩
      (refine wpF_put ?_; intro K hK; go_simp; refine hK _ ?_; clear hK K)
      refine wpF_told (sLis 60 ns (RchN ns es [a, b])) (by kernel_rfl) rfl ⟨.slice none 0 0, _, _, _, rfl, Nat.zero_le _⟩ (stLis _ _ _) (fun w4 hw4 hE4 => ?_) ?_
      · have hb4 := grw_below hw4
        have hl4 := sNew_at (hE4 11 (Bef.one (e := ⟨11, .data⟩) rfl (by simp) rfl rfl))
        clear hw4 hE4
        go_simp
        go_at_call 21
        refine (reach_any _ ns es _ _ [a, b] w4 (HNg.out _ hb4) (HEg.out _ hb4) (lits_at hl4 (fun x hx => by simp at hx; rcases hx with rfl | rfl; exact HSa.out; exact HSb.out) (by simp)) HNA.out (by omega) (by omega) (by simp)).mono ?_
        rintro e w5 ⟨v5, l5, rfl, hl5, hp5, hb5⟩
        have h5 := sLis_of (n := 60) (by omega) hl5 hp5
        exact ⟨_, rfl, hb5, h5.1, h5.2⟩
      rintro _ ⟨rB, kB, cB, rfl, hkB⟩
      (refine wpF_put ?_; intro K hK; go_simp; refine hK _ ?_; clear hK K)
      (refine wpF_quiet (grw_ex _) (by kernel_rfl) rfl (noEnter_op (by rfl)) ?_; intro K hK; go_big_quiet_op; go_big_quiet_on)
      (refine wpF_quiet (grw_ex _) (by kernel_rfl) rfl (noEnter_op (by rfl)) ?_; intro K hK; go_big_quiet_op; go_big_quiet_on)
      (refine wpF_quiet (grw_ex _) (by kernel_rfl) rfl (noEnter_op (by rfl)) ?_; intro K hK; go_big_quiet_op; go_big_quiet_on)
      refine wpF_nil ?_
      intro w6 hw6 hE6
      have hb6 := grw_below hw6
      obtain ⟨X, hX, pX⟩ : (sLis 60 ns (RchN ns es [a])).R _ w6 := hE6 3
      obtain ⟨Y, hY, pY⟩ : (sLis 60 ns (RchN ns es [b])).R _ w6 := hE6 7
      obtain ⟨B, hB, pB⟩ : (sLis 60 ns (RchN ns es [a, b])).R _ w6 := hE6 12
      clear hw6 hE6
      have hlX := (sl_len hX).1
      have hlY := (sl_len hY).1
      have hlB := (sl_len hB).1
      subst hlX hlY hlB
      have HXl := hid (fun (W : World) (hW : Below w6.heap.size w6 W) => hX.below strR_mono hW)
      have HYl := hid (fun (W : World) (hW : Below w6.heap.size w6 W) => hY.below strR_mono hW)
      have HBl := hid (fun (W : World) (hW : Below w6.heap.size w6 W) => hB.below strR_mono hW)
      have HPX := hid pX
      have HPY := hid pY
      have HPB := hid pB
      have HB6 := hid (HB5.out.trans (hb6.mono HB5.out.size))
      have HA6 := hid (HA5.out.trans (hb6.mono HA5.out.size))
      have HC6 := hid ((hb6.block _ (lt_of_block HC5.out)).trans HC5.out)
      have HX6 := hid ((hb6.block _ (lt_of_block HX5.out)).trans HX5.out)
      obtain ⟨_, hcX1, hcX2⟩ := sl_len hX
      obtain ⟨_, hcB1, hcB2⟩ := sl_len hB
      clear hb6 hX hY hB pX pY pB Y0 Y1 y0 y1 HNg HEg
      have y0 := cellv HC6.out 0 rfl
      have y1 := cellv HC6.out 1 rfl
      go_wp2_with fail
      refine (reach_any _ ns es _ _ B w6 (HN.out _ HB6.out) (HE.out _ HB6.out) (HBl.out _ (Below.refl _ _)) HNA.out (by omega) (by omega) (by omega)).mono ?_
      rintro e w7 ⟨v7, l7, rfl, hl7, hp7, hb7⟩
      have h7 := rch_closed HPB.out hp7
      subst h7
      have HB7 := hid (HB6.out.trans (hb7.mono HB6.out.size))
      have HD7 := hid hb7
      have HC7 := hid ((hb7.block _ (lt_of_block HC6.out)).trans HC6.out)
      have HL7 := hid hl7
      clear hb7 hl7 hp7 y0 y1
      have y0 := cellv HC7.out 0 rfl
      go_wp2_with fail
      refine (words_any l7 l7 _ _ w7 HL7.out (HBl.out _ HD7.out)).mono ?_
      rintro e w8 ⟨rfl, hb8⟩
      have HB8 := hid (HB7.out.trans (hb8.mono HB7.out.size))
      have HD8 := hid (HD7.out.trans (hb8.mono HD7.out.size))
      have HC8 := hid ((hb8.block _ (lt_of_block HC7.out)).trans HC7.out)
      have HX8 := hid ((HD8.out.block _ (lt_of_block HX6.out)).trans HX6.out)
      have HA8 := hid (HA6.out.trans (HD8.out.mono HA6.out.size))
      simp only [decide_true]
      clear hb8 y0
      have y0 := cellv HC8.out 0 rfl
      have CA0 := hid (fun (W : World) (hW : Below w8.heap.size w8 W) => at_any ns a _ W (HN.out W (HB8.out.trans (hW.mono HB8.out.size))))
      have HBd := hid (atS_bd a ns)
      have HSelf := hid (fun h => rch_self HPX.out h)
      have HTwo := hid (fun z hz => rch_two (z := z) HPX.out HPY.out HPB.out hz)
      have HLeft := hid (fun z hz => rch_left (z := z) HPX.out HPB.out hz)
      have HBack := hid (fun hA z hz Z hZ => rch_back (z := z) (y := Z) HP.out HPX.out hA hz hZ)
      have HNeg := hid (atS_neg (x := a) (l := ns))
      by_cases hin : a ∈ ns
      · have hq2 : 0 ≤ atS a ns := by
          rw [atS_in hin]; omega
        have HX0 := hid (HSelf.out hin)
        have HBack2 := hid (fun z hz Z hZ => HBack.out hin z hz Z hZ)
        generalize atS a ns = q2 at *
        have hq2d : decide (0 ≤ q2) = true := decide_eq_true hq2
        go_wp2_with fail
        refine (CA0.out _ (Below.refl _ _)).mono ?_
        rintro e w9 ⟨rfl, rfl⟩
        have CA1 := hid (at_any X a _ w8 (HXl.out _ HD8.out))
        have hq3 : 0 ≤ atS a X := by
          rw [atS_in HX0.out]; omega
        generalize atS a X = q3 at *
        have hq3' : ¬ q3 < 0 := by omega
        go_wp2_with fail
        refine CA1.out.mono ?_
        rintro e w9 ⟨rfl, rfl⟩
        go_wp2
        go_loop [11] (fun i => ∃ k : Nat, k ≤ l7.length ∧ i = .int .i64 k) (fun i => l7.length - (RowKit.intOf i).toNat)
        case atStart => exact ⟨0, by omega, rfl⟩
        case round =>
          obtain ⟨k, hk, rfl⟩ := hrel
          by_cases hlt : k < l7.length
          · obtain ⟨b', off, rfl, hb', g0, hz0⟩ := str_at (HBl.out _ HD8.out) k hlt
            have HTw := hid (HTwo.out _ (List.getElem_mem hlt))
            have k2 : (0 : Int) ≤ (k : Int) := by omega
            have k3 : (k : Int) < (l7.length : Int) := by omega
            generalize l7[k] = z at *
            have CX := hid (at_any X z _ w8 (HXl.out _ HD8.out))
            have CY := hid (at_any Y z _ w8 (HYl.out _ HD8.out))
            have HnX := hid (atS_neg (x := z) (l := X))
            have HnY := hid (atS_neg (x := z) (l := Y))
            clear hz0
            by_cases hzX : z ∈ X
            · have hq : ¬ atS z X < 0 := fun h => HnX.out.1 h hzX
              generalize atS z X = qx at *
              go_wp2_with fail
              refine CX.out.mono ?_
              rintro e w9 ⟨rfl, rfl⟩
              go_wp2
              go_round
              case rel => exact ⟨k + 1, by omega, by go_num⟩
              case measure => simp [RowKit.intOf]; omega
            · have hzY : z ∈ Y := HTw.out.elim (fun h => absurd h hzX) id
              have hq : atS z X < 0 := HnX.out.2 hzX
              have hq' : ¬ atS z Y < 0 := fun h => HnY.out.1 h hzY
              generalize atS z X = qx at *
              generalize atS z Y = qy at *
              go_wp2_with fail
              refine CX.out.mono ?_
              rintro e w9 ⟨rfl, rfl⟩
              go_wp2_with fail
              refine CY.out.mono ?_
              rintro e w9 ⟨rfl, rfl⟩
              go_wp2
              go_round
              case rel => exact ⟨k + 1, by omega, by go_num⟩
              case measure => simp [RowKit.intOf]; omega
          · obtain rfl : k = l7.length := by omega
            clear y0
            go_wp2
            go_loopw [12] (fun i wr => ∃ k : Nat, k ≤ X.length ∧ i = .int .i64 k ∧ Hid (Below w8.heap.size w8 wr)) (fun i _ => X.length - (RowKit.intOf i).toNat)
            case atStart => exact ⟨0, by omega, rfl, hid (Below.refl _ _)⟩
            case round =>
              obtain ⟨k, hk, rfl, HBw⟩ := hrel
              have HB9 := hid (HB8.out.trans (HBw.out.mono HB8.out.size))
              have HD9 := hid (HD8.out.trans (HBw.out.mono HD8.out.size))
              have HA9 := hid (HA8.out.trans (HBw.out.mono HA8.out.size))
              have HC9 := hid ((HBw.out.block _ (lt_of_block HC8.out)).trans HC8.out)
              have HX9 := hid ((HBw.out.block _ (lt_of_block HX8.out)).trans HX8.out)
              by_cases hlt : k < X.length
              · obtain ⟨b', off, rfl, hb', g0, hz0⟩ := str_at (HXl.out _ HD9.out) k hlt
                have HzX := hid (List.getElem_mem hlt)
                have k2 : (0 : Int) ≤ (k : Int) := by omega
                have k3 : (k : Int) < (X.length : Int) := by omega
                generalize X[k] = z at *
                have HSz := hid hz0
                have y0 := cell_regrown (cellv HC9.out 0 rfl)
                have y1 := cell_regrown (cellv HC9.out 1 rfl)
                have x0 := cell_regrown (cellv HX9.out 0 rfl)
                have x1 := cell_regrown (cellv HX9.out 1 rfl)
                have g1 := cell_regrown g0
                have HNr := hid (fun (W : World) (hW : Below wr.heap.size wr W) => HN2.out W (HA9.out.trans (hW.mono HA9.out.size)))
                have HEr := hid (fun (W : World) (hW : Below wr.heap.size wr W) => HE2.out W (HA9.out.trans (hW.mono HA9.out.size)))
                have CQ1 := hid (fun (W : World) (hW : Below wr.heap.size wr W) => at_any l7 z _ W (HBl.out W (HD9.out.trans (hW.mono HD9.out.size))))
                have CQ2 := hid (fun (W : World) (hW : Below wr.heap.size wr W) => CA0.out W (HBw.out.trans (hW.mono HBw.out.size)))
                have hq1 : ¬ atS z l7 < 0 := fun h => (atS_neg (x := z) (l := l7)).1 h (HLeft.out z HzX.out)
                generalize atS z l7 = q1 at *
                have hq1d : decide (q1 < 0) = false := decide_eq_false hq1
                clear hz0 g0
                have HBk := hid (fun Z hZ => HBack2.out z HzX.out Z hZ)
                go_wp2_with fail
                refine wp_region_fresh (fun k => match k with | 5 => some (sInt q1) | 11 => some (sInt q2) | 19 => some (sNew 1 (.cells #[.string z] 9)) | 20 => some (sLis 60 ns (RchN ns rs [z])) | 22 => some sNat | _ => none) (by kernel_rfl) (by kernel_rfl) ?_
                (refine wpF_quiet (grw_ex _) (by kernel_rfl) rfl (noEnter_op (by rfl)) ?_; intro K hK; go_big_quiet_op; go_big_quiet_on)
                (refine wpF_quiet (grw_ex _) (by kernel_rfl) rfl (noEnter_op (by rfl)) ?_; intro K hK; go_big_quiet_op; go_big_quiet_on)
                (refine wpF_quiet (grw_ex _) (by kernel_rfl) rfl (noEnter_op (by rfl)) ?_; intro K hK; go_big_quiet_op; go_big_quiet_on)
                (refine wpF_quiet (grw_ex _) (by kernel_rfl) rfl (noEnter_op (by rfl)) ?_; intro K hK; go_big_quiet_op; go_big_quiet_on)
                (refine wpF_quiet (grw_ex _) (by kernel_rfl) rfl (noEnter_op (by rfl)) ?_; intro K hK; go_big_quiet_op; go_big_quiet_on)
                refine wpF_told (sInt q1) (by kernel_rfl) rfl ⟨_, rfl⟩ stTrue (fun w4 hw4 hE4 => ?_) ?_
                · have hb4 := grw_below hw4
                  clear hw4 hE4
                  go_simp
                  go_at_call 27
                  refine (CQ1.out _ hb4).mono ?_
                  rintro e w5 ⟨rfl, rfl⟩
                  exact ⟨_, rfl, Lat.refl _, rfl, trivial⟩
                rintro _ rfl
                (refine wpF_put ?_; intro K hK; go_simp; refine hK _ ?_; clear hK K)
                (refine wpF_quiet (grw_ex _) (by kernel_rfl) rfl (noEnter_op (by rfl)) ?_; intro K hK; go_big_quiet_op; go_big_quiet_on)
                (refine wpF_quiet (grw_ex _) (by kernel_rfl) rfl (noEnter_op (by rfl)) ?_; intro K hK; go_big_quiet_op; go_big_quiet_on)
                (refine wpF_quiet (grw_ex _) (by kernel_rfl) rfl (noEnter_op (by rfl)) ?_; intro K hK; go_big_quiet_op; go_big_quiet_on)
                (refine wpF_quiet (grw_ex _) (by kernel_rfl) rfl (noEnter_op (by rfl)) ?_; intro K hK; go_big_quiet_op; go_big_quiet_on)
                (refine wpF_quiet (grw_ex _) (by kernel_rfl) rfl (noEnter_op (by rfl)) ?_; intro K hK; go_big_quiet_op; go_big_quiet_on)
                refine wpF_told (sInt q2) (by kernel_rfl) rfl ⟨_, rfl⟩ stTrue (fun w4 hw4 hE4 => ?_) ?_
                · have hb4 := grw_below hw4
                  clear hw4 hE4
                  go_simp
                  go_at_call 27
                  refine (CQ2.out _ hb4).mono ?_
                  rintro e w5 ⟨rfl, rfl⟩
                  exact ⟨_, rfl, Lat.refl _, rfl, trivial⟩
                rintro _ rfl
                (refine wpF_put ?_; intro K hK; go_simp; refine hK _ ?_; clear hK K)
                (refine wpF_quiet (grw_ex _) (by kernel_rfl) rfl (noEnter_op (by rfl)) ?_; intro K hK; go_big_quiet_op; go_big_quiet_on)
                (refine wpF_quiet (grw_ex _) (by kernel_rfl) rfl (noEnter_op (by rfl)) ?_; intro K hK; go_big_quiet_op; go_big_quiet_on)
                (refine wpF_quiet (grw_ex _) (by kernel_rfl) rfl (noEnter_op (by rfl)) ?_; intro K hK; go_big_quiet_op; go_big_quiet_on)
                (refine wpF_quiet (grw_ex _) (by kernel_rfl) rfl (noEnter_op (by rfl)) ?_; intro K hK; go_big_quiet_op; go_big_quiet_on)
                (refine wpF_quiet (grw_ex _) (by kernel_rfl) rfl (noEnter_op (by rfl)) ?_; intro K hK; go_big_quiet_op; go_big_quiet_on)
                (refine wpF_quiet (grw_ex _) (by kernel_rfl) rfl (noEnter_op (by rfl)) ?_; intro K hK; go_big_quiet_op; go_big_quiet_on)
                (refine wpF_quiet (grw_ex _) (by kernel_rfl) rfl (noEnter_op (by rfl)) ?_; intro K hK; go_big_quiet_op; go_big_quiet_on)
                refine wpF_told (sNew 1 (.cells #[.string z] 9)) (by kernel_rfl) rfl ⟨_, 0, rfl⟩ (stNew _ _) (fun w4 hw4 hE4 => ?_) ?_
                · have hb4 := grw_below hw4
                  clear hw4 hE4
                  go_simp
                  exact ⟨(Below.refl _ _).alloc (Nat.le_refl _) _, ⟨_, rfl⟩, _, rfl, (MapKept.heap_alloc _ _).1⟩
                rintro _ ⟨b19, rfl⟩
                (refine wpF_put ?_; intro K hK; go_simp; refine hK _ ?_; clear hK K)
                refine wpF_told (sLis 60 ns (RchN ns rs [z])) (by kernel_rfl) rfl ⟨.slice none 0 0, _, _, _, rfl, Nat.zero_le _⟩ (stLis _ _ _) (fun w4 hw4 hE4 => ?_) ?_
                · have hb4 := grw_below hw4
                  have hl4 := sNew_at (hE4 19 (Bef.one (e := ⟨19, .data⟩) rfl (by simp) rfl rfl))
                  clear hw4 hE4
                  go_simp
                  go_at_call 21
                  refine (reach_any _ ns rs _ _ [z] w4 (HNr.out _ hb4) (HEr.out _ hb4) (lit_at hl4 HSz.out) HNA.out (by omega) (by omega) (by simp)).mono ?_
                  rintro e w5 ⟨v5, l5, rfl, hl5, hp5, hb5⟩
                  have h5 := sLis_of (n := 60) (by omega) hl5 hp5
                  exact ⟨_, rfl, hb5, h5.1, h5.2⟩
                rintro _ ⟨rZ, kZ, cZ, rfl, hkZ⟩
                (refine wpF_put ?_; intro K hK; go_simp; refine hK _ ?_; clear hK K)
                (refine wpF_quiet (grw_ex _) (by kernel_rfl) rfl (noEnter_op (by rfl)) ?_; intro K hK; go_big_quiet_op; go_big_quiet_on)
                refine wpF_told (sNat) (by kernel_rfl) rfl ⟨_, 0, rfl⟩ stTrue (fun w4 hw4 hE4 => ?_) ?_
                · have hb4 := grw_below hw4
                  obtain ⟨Z, hZ, pZ⟩ : (sLis 60 ns (RchN ns rs [z])).R (.slice rZ kZ cZ) w4 := hE4 20 (Bef.one (e := ⟨20, .data⟩) rfl (by simp) rfl rfl)
                  clear hw4 hE4
                  go_simp
                  go_at_call 27
                  refine (at_any Z a _ w4 hZ).mono ?_
                  rintro e w5 ⟨rfl, rfl⟩
                  exact ⟨_, rfl, Lat.refl _, ⟨pos a Z, by rw [atS_in (HBk.out _ pZ)]⟩, trivial⟩
                rintro _ ⟨n22, rfl⟩
                (refine wpF_put ?_; intro K hK; go_simp; refine hK _ ?_; clear hK K)
                have hn22 : decide ((n22 : Int) < 0) = false := decide_eq_false (by omega)
                (refine wpF_quiet (grw_ex _) (by kernel_rfl) rfl (noEnter_op (by rfl)) ?_; intro K hK; go_big_quiet_op; go_big_quiet_on)
                (refine wpF_quiet (grw_ex _) (by kernel_rfl) rfl (noEnter_op (by rfl)) ?_; intro K hK; go_big_quiet_op; go_big_quiet_on)
                (refine wpF_quiet (grw_ex _) (by kernel_rfl) rfl (noEnter_op (by rfl)) ?_; intro K hK; go_big_quiet_op; go_big_quiet_on)
                refine wpF_nil ?_
                intro w7 hw7 _
                have hb7 := grw_below hw7
                clear hw7
                have HBn := hid (HBw.out.trans (hb7.mono HBw.out.size))
                clear hb7 x0 x1 y0 y1 g1
                go_wp2
                go_roundw
                case rel => exact ⟨k + 1, by omega, by go_num, HBn⟩
                case measure => simp [RowKit.intOf]; omega
              · obtain rfl : k = X.length := by omega
                go_wp2_with fail
                refine (awake_any _).mono ?_
                rintro e w9 ⟨rfl, hb9⟩
                have HBe := hid (HB9.out.trans (hb9.mono HB9.out.size))
                clear hb9
                go_wp2
                go_ret
                exact ⟨rfl, HBe.out⟩
      · have hq2 : ¬ 0 ≤ atS a ns := by
          have := HNeg.out.2 hin; omega
        generalize atS a ns = q2 at *
        have hq2d : decide (0 ≤ q2) = false := decide_eq_false hq2
        go_wp2_with fail
        refine (CA0.out _ (Below.refl _ _)).mono ?_
        rintro e w9 ⟨rfl, rfl⟩
        go_wp2
        go_loop [11] (fun i => ∃ k : Nat, k ≤ l7.length ∧ i = .int .i64 k) (fun i => l7.length - (RowKit.intOf i).toNat)
        case atStart => exact ⟨0, by omega, rfl⟩
        case round =>
          obtain ⟨k, hk, rfl⟩ := hrel
          by_cases hlt : k < l7.length
          · obtain ⟨b', off, rfl, hb', g0, hz0⟩ := str_at (HBl.out _ HD8.out) k hlt
            have HTw := hid (HTwo.out _ (List.getElem_mem hlt))
            have k2 : (0 : Int) ≤ (k : Int) := by omega
            have k3 : (k : Int) < (l7.length : Int) := by omega
            generalize l7[k] = z at *
            have CX := hid (at_any X z _ w8 (HXl.out _ HD8.out))
            have CY := hid (at_any Y z _ w8 (HYl.out _ HD8.out))
            have HnX := hid (atS_neg (x := z) (l := X))
            have HnY := hid (atS_neg (x := z) (l := Y))
            clear hz0
            by_cases hzX : z ∈ X
            · have hq : ¬ atS z X < 0 := fun h => HnX.out.1 h hzX
              generalize atS z X = qx at *
              go_wp2_with fail
              refine CX.out.mono ?_
              rintro e w9 ⟨rfl, rfl⟩
              go_wp2
              go_round
              case rel => exact ⟨k + 1, by omega, by go_num⟩
              case measure => simp [RowKit.intOf]; omega
            · have hzY : z ∈ Y := HTw.out.elim (fun h => absurd h hzX) id
              have hq : atS z X < 0 := HnX.out.2 hzX
              have hq' : ¬ atS z Y < 0 := fun h => HnY.out.1 h hzY
              generalize atS z X = qx at *
              generalize atS z Y = qy at *
              go_wp2_with fail
              refine CX.out.mono ?_
              rintro e w9 ⟨rfl, rfl⟩
              go_wp2_with fail
              refine CY.out.mono ?_
              rintro e w9 ⟨rfl, rfl⟩
              go_wp2
              go_round
              case rel => exact ⟨k + 1, by omega, by go_num⟩
              case measure => simp [RowKit.intOf]; omega
          · obtain rfl : k = l7.length := by omega
            clear y0
            go_wp2
            go_loopw [12] (fun i wr => ∃ k : Nat, k ≤ X.length ∧ i = .int .i64 k ∧ Hid (Below w8.heap.size w8 wr)) (fun i _ => X.length - (RowKit.intOf i).toNat)
            case atStart => exact ⟨0, by omega, rfl, hid (Below.refl _ _)⟩
            case round =>
              obtain ⟨k, hk, rfl, HBw⟩ := hrel
              have HB9 := hid (HB8.out.trans (HBw.out.mono HB8.out.size))
              have HD9 := hid (HD8.out.trans (HBw.out.mono HD8.out.size))
              have HA9 := hid (HA8.out.trans (HBw.out.mono HA8.out.size))
              have HC9 := hid ((HBw.out.block _ (lt_of_block HC8.out)).trans HC8.out)
              have HX9 := hid ((HBw.out.block _ (lt_of_block HX8.out)).trans HX8.out)
              by_cases hlt : k < X.length
              · obtain ⟨b', off, rfl, hb', g0, hz0⟩ := str_at (HXl.out _ HD9.out) k hlt
                have HzX := hid (List.getElem_mem hlt)
                have k2 : (0 : Int) ≤ (k : Int) := by omega
                have k3 : (k : Int) < (X.length : Int) := by omega
                generalize X[k] = z at *
                have HSz := hid hz0
                have y0 := cell_regrown (cellv HC9.out 0 rfl)
                have y1 := cell_regrown (cellv HC9.out 1 rfl)
                have x0 := cell_regrown (cellv HX9.out 0 rfl)
                have x1 := cell_regrown (cellv HX9.out 1 rfl)
                have g1 := cell_regrown g0
                have HNr := hid (fun (W : World) (hW : Below wr.heap.size wr W) => HN2.out W (HA9.out.trans (hW.mono HA9.out.size)))
                have HEr := hid (fun (W : World) (hW : Below wr.heap.size wr W) => HE2.out W (HA9.out.trans (hW.mono HA9.out.size)))
                have CQ1 := hid (fun (W : World) (hW : Below wr.heap.size wr W) => at_any l7 z _ W (HBl.out W (HD9.out.trans (hW.mono HD9.out.size))))
                have CQ2 := hid (fun (W : World) (hW : Below wr.heap.size wr W) => CA0.out W (HBw.out.trans (hW.mono HBw.out.size)))
                have hq1 : ¬ atS z l7 < 0 := fun h => (atS_neg (x := z) (l := l7)).1 h (HLeft.out z HzX.out)
                generalize atS z l7 = q1 at *
                have hq1d : decide (q1 < 0) = false := decide_eq_false hq1
                clear hz0 g0
                go_wp2_with fail
                refine wp_region_fresh (fun k => match k with | 5 => some (sInt q1) | 11 => some (sInt q2) | 19 => some (sNew 1 (.cells #[.string z] 9)) | 20 => some (sLis 60 ns (RchN ns rs [z])) | 22 => some sNat | _ => none) (by kernel_rfl) (by kernel_rfl) ?_
                (refine wpF_quiet (grw_ex _) (by kernel_rfl) rfl (noEnter_op (by rfl)) ?_; intro K hK; go_big_quiet_op; go_big_quiet_on)
                (refine wpF_quiet (grw_ex _) (by kernel_rfl) rfl (noEnter_op (by rfl)) ?_; intro K hK; go_big_quiet_op; go_big_quiet_on)
                (refine wpF_quiet (grw_ex _) (by kernel_rfl) rfl (noEnter_op (by rfl)) ?_; intro K hK; go_big_quiet_op; go_big_quiet_on)
                (refine wpF_quiet (grw_ex _) (by kernel_rfl) rfl (noEnter_op (by rfl)) ?_; intro K hK; go_big_quiet_op; go_big_quiet_on)
                (refine wpF_quiet (grw_ex _) (by kernel_rfl) rfl (noEnter_op (by rfl)) ?_; intro K hK; go_big_quiet_op; go_big_quiet_on)
                refine wpF_told (sInt q1) (by kernel_rfl) rfl ⟨_, rfl⟩ stTrue (fun w4 hw4 hE4 => ?_) ?_
                · have hb4 := grw_below hw4
                  clear hw4 hE4
                  go_simp
                  go_at_call 27
                  refine (CQ1.out _ hb4).mono ?_
                  rintro e w5 ⟨rfl, rfl⟩
                  exact ⟨_, rfl, Lat.refl _, rfl, trivial⟩
                rintro _ rfl
                (refine wpF_put ?_; intro K hK; go_simp; refine hK _ ?_; clear hK K)
                (refine wpF_quiet (grw_ex _) (by kernel_rfl) rfl (noEnter_op (by rfl)) ?_; intro K hK; go_big_quiet_op; go_big_quiet_on)
                (refine wpF_quiet (grw_ex _) (by kernel_rfl) rfl (noEnter_op (by rfl)) ?_; intro K hK; go_big_quiet_op; go_big_quiet_on)
                (refine wpF_quiet (grw_ex _) (by kernel_rfl) rfl (noEnter_op (by rfl)) ?_; intro K hK; go_big_quiet_op; go_big_quiet_on)
                (refine wpF_quiet (grw_ex _) (by kernel_rfl) rfl (noEnter_op (by rfl)) ?_; intro K hK; go_big_quiet_op; go_big_quiet_on)
                (refine wpF_quiet (grw_ex _) (by kernel_rfl) rfl (noEnter_op (by rfl)) ?_; intro K hK; go_big_quiet_op; go_big_quiet_on)
                refine wpF_told (sInt q2) (by kernel_rfl) rfl ⟨_, rfl⟩ stTrue (fun w4 hw4 hE4 => ?_) ?_
                · have hb4 := grw_below hw4
                  clear hw4 hE4
                  go_simp
                  go_at_call 27
                  refine (CQ2.out _ hb4).mono ?_
                  rintro e w5 ⟨rfl, rfl⟩
                  exact ⟨_, rfl, Lat.refl _, rfl, trivial⟩
                rintro _ rfl
                (refine wpF_put ?_; intro K hK; go_simp; refine hK _ ?_; clear hK K)
                (refine wpF_quiet (grw_ex _) (by kernel_rfl) rfl (noEnter_op (by rfl)) ?_; intro K hK; go_big_quiet_op; go_big_quiet_on)
                (refine wpF_quiet (grw_ex _) (by kernel_rfl) rfl (noEnter_op (by rfl)) ?_; intro K hK; go_big_quiet_op; go_big_quiet_on)
                (refine wpF_skip (by kernel_rfl) ?_)
                (refine wpF_skip (by kernel_rfl) ?_)
                (refine wpF_skip (by kernel_rfl) ?_)
                (refine wpF_skip (by kernel_rfl) ?_)
                (refine wpF_skip (by kernel_rfl) ?_)
                (refine wpF_skip (by kernel_rfl) ?_)
                (refine wpF_skip (by kernel_rfl) ?_)
                (refine wpF_skip (by kernel_rfl) ?_)
                (refine wpF_skip (by kernel_rfl) ?_)
                (refine wpF_skip (by kernel_rfl) ?_)
                (refine wpF_put ?_; intro K hK; go_simp; refine hK _ ?_; clear hK K)
                (refine wpF_quiet (grw_ex _) (by kernel_rfl) rfl (noEnter_op (by rfl)) ?_; intro K hK; go_big_quiet_op; go_big_quiet_on)
                (refine wpF_quiet (grw_ex _) (by kernel_rfl) rfl (noEnter_op (by rfl)) ?_; intro K hK; go_big_quiet_op; go_big_quiet_on)
                refine wpF_nil ?_
                intro w7 hw7 _
                have hb7 := grw_below hw7
                clear hw7
                have HBn := hid (HBw.out.trans (hb7.mono HBw.out.size))
                clear hb7 x0 x1 y0 y1 g1
                go_wp2
                go_roundw
                case rel => exact ⟨k + 1, by omega, by go_num, HBn⟩
                case measure => simp [RowKit.intOf]; omega
              · obtain rfl : k = X.length := by omega
                go_wp2_with fail
                refine (awake_any _).mono ?_
                rintro e w9 ⟨rfl, hb9⟩
                have HBe := hid (HB9.out.trans (hb9.mono HB9.out.size))
                clear hb9
                go_wp2
                go_ret
                exact ⟨rfl, HBe.out⟩
end Go.Proofs.Ytlhekldlfmdmiaa
