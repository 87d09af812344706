import Derived.Test.YtedpdpcibkceeaaDoorMap3
import Derived.Test.YtedpdpcibkceeaaDoorAwp
import Derived.Test.YtedpdpcibkceeaaDoorPcmp
import Derived.Lib.QuietBelow
import Derived.Deep.RegionLaw
import Derived.Deep.DeepCutAuto
import Derived.Deep.RegionHeld3
import Derived.BigQuiet
/-
  Contract of the law's own awake. Conditions: the two tables of the library lie in the world.
-/
namespace Go.Proofs.YtedpdpcibkceeaaDoor
open Go.RowKit Go.Sort Go.Lib
open Go.Lib (hid)
set_option linter.unusedVariables false
set_option linter.unusedSimpArgs false

/-- Map at the chapter's example. -/
theorem amap_any (B1 B2 : Nat) {T1 T2 : TypeId} {fr1 fr2 : Nat × Nat} (w : World) (h1 : w.heap[B1]? = some (.cells #[.string ⟨#[98]⟩, .string ⟨#[97]⟩] T1 fr1))
    (h2 : w.heap[B2]? = some (.cells #[.int .i64 2, .int .i64 1, .string ⟨#[]⟩, .slice none 0 0, .slice none 0 0, .int .i64 6, .int .i64 0, .string ⟨#[]⟩, .slice none 0 0, .slice none 0 0] T2 fr2)) :
    Calls Tryd.prog 40 #[.slice (some ⟨B1, 0, none⟩) 2 2, .slice (some ⟨B2, 0, none⟩) 2 2] w fun e w' => ∃ r c rk ck, e = .returned (.tuple #[.agg #[.int .i64 5, .int .i64 0, .string ⟨#[]⟩, .slice r 2 c, .slice rk 2 ck], .int .i64 0]) ∧ VR5 w' r c rk ck mV ∧ Below w.heap.size w w' := by
  have hK : Sl StrR 1 w (.slice (some ⟨B1, 0, none⟩) 2 2) [⟨#[98]⟩, ⟨#[97]⟩] := sl_block encS encS_len (R := StrR) (xs := [⟨#[98]⟩, ⟨#[97]⟩]) (ys := [⟨#[98]⟩, ⟨#[97]⟩]) h1 rfl rfl (by simp [maxLen]) (fun i hi hi' => ⟨rfl, by
    match i, hi with
    | 0, _ => show (1 : Nat) ≤ maxLen; unfold maxLen; omega
    | 1, _ => show (1 : Nat) ≤ maxLen; unfold maxLen; omega⟩)
  have hI : Sl VR 5 w (.slice (some ⟨B2, 0, none⟩) 2 2) [litV 2 1 ⟨#[]⟩, litV 6 0 ⟨#[]⟩] := sl_block Cv.enc cv_len (R := VR) (xs := [litV 2 1 ⟨#[]⟩, litV 6 0 ⟨#[]⟩]) (ys := [Cv.of (litV 2 1 ⟨#[]⟩) none 0 none 0, Cv.of (litV 6 0 ⟨#[]⟩) none 0 none 0]) h2 rfl rfl (by simp [maxLen]) (fun i hi hi' => by
    match i, hi with
    | 0, _ => exact litV_vr w (k := 2) (n := 1) (s := ⟨#[]⟩) (by unfold i64B; omega) (by unfold i64B; omega) (Nat.zero_le _)
    | 1, _ => exact litV_vr w (k := 6) (n := 0) (s := ⟨#[]⟩) (by unfold i64B; omega) (by unfold i64B; omega) (Nat.zero_le _))
  refine (pmap_any [⟨#[98]⟩, ⟨#[97]⟩] [litV 2 1 ⟨#[]⟩, litV 6 0 ⟨#[]⟩] 2 _ 2 _ 2 w hK hI (by simp [nodesL, nodes, litV]) (by simp [nkeysL, nkeys, litV])).mono ?_
  rintro e w' ⟨hb, d, hp, hs, hd⟩
  have hp' : d.Perm [(⟨#[98]⟩, litV 2 1 ⟨#[]⟩), (⟨#[97]⟩, litV 6 0 ⟨#[]⟩)] := hp
  obtain rfl := two_perm hp' hs ltS_ab
  rcases hd with ⟨_, r, c, rk, ck, he, hv⟩ | ⟨hn, _⟩
  · exact ⟨r, c, rk, ck, he, hv, hb⟩
  · exact absurd (show AscS [(⟨#[97]⟩ : ByteArray), ⟨#[98]⟩] from ⟨ltS_ab, trivial⟩) hn

theorem aget_any (r : Option Addr) (c : Nat) (rk : Option Addr) (ck : Nat) (W : World) (h : VR5 W r c rk ck mV) : Calls Tryd.prog 15 #[.agg #[.int .i64 5, .int .i64 0, .string ⟨#[]⟩, .slice r 2 c, .slice rk 2 ck], .string ⟨#[98]⟩] W fun e w' =>
    ∃ r c rk ck, e = .returned (.tuple #[.agg #[.int .i64 2, .int .i64 1, .string ⟨#[]⟩, .slice r 0 c, .slice rk 0 ck], .bool true]) ∧ VR5 w' r c rk ck (litV 2 1 ⟨#[]⟩) ∧ Below W.heap.size W w' := by
  have h1 := pget_any mV ⟨#[98]⟩ r c rk ck W h aw_asc (by rw [aw_nodes]; omega) (by simp [nkeys, nkeysL, mV, litV])
  unfold GetP at h1
  rw [aw_get] at h1
  exact h1
theorem aput_any (r : Option Addr) (c : Nat) (rk : Option Addr) (ck : Nat) (W : World) (h : VR5 W r c rk ck mV) : Calls Tryd.prog 28 #[.agg #[.int .i64 5, .int .i64 0, .string ⟨#[]⟩, .slice r 2 c, .slice rk 2 ck], .string ⟨#[97]⟩, .agg #[.int .i64 0, .int .i64 0, .string ⟨#[]⟩, .slice none 0 0, .slice none 0 0]] W fun e w' =>
    ∃ r c rk ck, e = .returned (.agg #[.int .i64 5, .int .i64 0, .string ⟨#[]⟩, .slice r 2 c, .slice rk 2 ck]) ∧ VK (fromB W.heap.size) w' r c rk ck pV ∧ Below W.heap.size W w' := by
  have h1 := put_found mV (litV 0 0 ⟨#[]⟩) ⟨#[97]⟩ r c rk ck none 0 none 0 W h (litV_vr W (by unfold i64B; omega) (by unfold i64B; omega) (Nat.zero_le _)) aw_asc (by rw [aw_nodes]; omega) (by simp [nkeys, nkeysL, mV, litV]) (by simp [nodes, nodesL, litV]) (by simp [nkeys, nkeysL, litV]) aw_has (by rw [aw_lowa]; simp [mV, Val.items])
  rw [aw_put] at h1
  exact h1
theorem new_cell_drew {w : World} {cs : Array Value} {T : TypeId} {j : Nat} {v : Value} (hv : cs[j]? = some v) : ((w.alloc (.cells cs T)).drew).cell? ⟨w.heap.size, j, none⟩ = some v := by
  have : (w.alloc (.cells cs T)).cell? ⟨w.heap.size, j, none⟩ = some v := cell_at rfl hv
  exact this
theorem new_frozen_drew (w : World) (cs : Array Value) (T : TypeId) (o : Nat) : ((w.alloc (.cells cs T)).drew).frozen? ⟨w.heap.size, o, none⟩ = false := by
  have : (w.alloc (.cells cs T)).frozen? ⟨w.heap.size, o, none⟩ = false := by simp
  exact this
/-- A value in five cells of a block. -/
structure Box5 (w : World) (b : Nat) (k n : Int) (s : ByteArray) (vI vK : Value) : Prop where
  lt : b < w.heap.size
  c0 : w.cell? ⟨b, 0, none⟩ = some (.int .i64 k)
  c1 : w.cell? ⟨b, 1, none⟩ = some (.int .i64 n)
  c2 : w.cell? ⟨b, 2, none⟩ = some (.string s)
  c3 : w.cell? ⟨b, 3, none⟩ = some vI
  c4 : w.cell? ⟨b, 4, none⟩ = some vK
theorem Box5.below {w w' : World} {b : Nat} {k n : Int} {s : ByteArray} {vI vK : Value} (h : Box5 w b k n s vI vK) (hb : Below w.heap.size w w') : Box5 w' b k n s vI vK :=
  ⟨Nat.lt_of_lt_of_le h.lt hb.size, bget hb h.c0, bget hb h.c1, bget hb h.c2, bget hb h.c3, bget hb h.c4⟩
theorem Box5.new (w : World) (k n : Int) (s : ByteArray) (vI vK : Value) (T : TypeId) : Box5 (w.alloc (.cells #[.int .i64 k, .int .i64 n, .string s, vI, vK] T)) w.heap.size k n s vI vK :=
  ⟨by simp, cell_at rfl rfl, cell_at rfl rfl, cell_at rfl rfl, cell_at rfl rfl, cell_at rfl rfl⟩

theorem box5_set {w : World} {b : Nat} {k n : Int} {s : ByteArray} {vI vK u0 u1 u2 u3 u4 : Value} (hlt : b < w.heap.size) (e0 : w.cell? ⟨b, 0, none⟩ = some u0) (e1 : w.cell? ⟨b, 1, none⟩ = some u1) (e2 : w.cell? ⟨b, 2, none⟩ = some u2) (e3 : w.cell? ⟨b, 3, none⟩ = some u3) (e4 : w.cell? ⟨b, 4, none⟩ = some u4) :
    Box5 (((((w.setCell ⟨b, 0, none⟩ (.int .i64 k)).setCell ⟨b, 1, none⟩ (.int .i64 n)).setCell ⟨b, 2, none⟩ (.string s)).setCell ⟨b, 3, none⟩ vI).setCell ⟨b, 4, none⟩ vK) b k n s vI vK := by
  have h := five_in (g := b) (o := 0) (v0 := .int .i64 k) (v1 := .int .i64 n) (v2 := .string s) (v3 := vI) (v4 := vK) e0 e1 e2 e3 e4
  simp only [Nat.zero_add] at h
  exact ⟨by simpa [World.setCell] using hlt, h 0 _ rfl, h 1 _ rfl, h 2 _ rfl, h 3 _ rfl, h 4 _ rfl⟩

set_option maxRecDepth 100000 in
set_option maxHeartbeats 4000000 in
theorem awake_any (w : World) (hu : UT w) : Calls Tryd.prog 11 #[] w fun e w' => e = .returned (.bool true) ∧ Below w.heap.size w w' := by
  have HU := hid hu
  clear hu
  go_enter Tryd.func11, Tryd.ntmps11
  go_wp2_with fail
  refine (mpnumber_any 1 _).mono ?_
  rintro e w1 ⟨rfl, hb1⟩
  go_wp2_with fail
  refine (mpunknown_any _).mono ?_
  rintro e w2 ⟨rfl, hb2⟩
  have hba : Below w.heap.size w (w.alloc (.cells #[.string ⟨#[98]⟩, .string ⟨#[97]⟩] 9)) := (Below.refl _ _).alloc (Nat.le_refl _) _
  have H1 := hid (heap_below hb2 (heap_below hb1 (heap_alloc_new w (.cells #[.string ⟨#[98]⟩, .string ⟨#[97]⟩] 9))))
  have hb12 := hba.trans ((hb1.trans (hb2.mono hb1.size)).mono hba.size)
  have hb13 : Below w.heap.size w (w2.alloc (.cells #[.int .i64 2, .int .i64 1, .string { data := #[] }, .slice none 0 0, .slice none 0 0, .int .i64 6, .int .i64 0, .string { data := #[] }, .slice none 0 0, .slice none 0 0] 26)) := hb12.alloc hb12.size _
  have B2 := hid hb13
  have H2 := hid (heap_below (show Below w2.heap.size w2 (w2.alloc (.cells #[.int .i64 2, .int .i64 1, .string { data := #[] }, .slice none 0 0, .slice none 0 0, .int .i64 6, .int .i64 0, .string { data := #[] }, .slice none 0 0, .slice none 0 0] 26)) from (Below.refl _ _).alloc (Nat.le_refl _) _) H1.out)
  clear hb1 hb2 hba hb12 hb13
  go_wp2_with fail
  refine (amap_any _ _ _ H2.out (heap_alloc_new w2 _)).mono ?_
  rintro e w3 ⟨r, c, rk, ck, rfl, hv3, hb3⟩
  have hb4 : Below w3.heap.size w3 (w3.alloc (.cells #[.int .i64 5, .int .i64 0, .string ⟨#[]⟩, .slice r 2 c, .slice rk 2 ck] 26)) := (Below.refl _ _).alloc (Nat.le_refl _) _
  have BB3 := B2.out.trans (hb3.mono B2.out.size)
  have B4 := hid (BB3.trans (hb4.mono BB3.size))
  have V4 := hid (hv3.below hb4)
  have X4 := hid (Box5.new w3 5 0 ⟨#[]⟩ (.slice r 2 c) (.slice rk 2 ck) 26)
  clear H1 H2 BB3 hb3 hb4 hv3 B2
  go_wp2_with fail
  generalize (w3.alloc (.cells #[.int .i64 5, .int .i64 0, .string ⟨#[]⟩, .slice r 2 c, .slice rk 2 ck] 26)) = w4 at *
  generalize w3.heap.size = b1 at *
  refine (aget_any r c rk ck w4 V4.out).mono ?_
  rintro e w5 ⟨r2, c2, rk2, ck2, rfl, hv5, hb5⟩
  have hb6 : Below w5.heap.size w5 (w5.alloc (.cells #[.int .i64 2, .int .i64 1, .string ⟨#[]⟩, .slice r2 0 c2, .slice rk2 0 ck2] 26)) := (Below.refl _ _).alloc (Nat.le_refl _) _
  have BB5 := hb5.trans (hb6.mono hb5.size)
  have B6 := hid (B4.out.trans (BB5.mono B4.out.size))
  have V6 := hid (V4.out.below BB5)
  have X6 := hid (X4.out.below BB5)
  have Y6 := hid (Box5.new w5 2 1 ⟨#[]⟩ (.slice r2 0 c2) (.slice rk2 0 ck2) 26)
  have W6 := hid (hv5.below hb6)
  clear V4 X4 B4 hb5 hb6 hv5 BB5
  go_upto_region 3 with (fail)
  generalize (w5.alloc (.cells #[.int .i64 2, .int .i64 1, .string ⟨#[]⟩, .slice r2 0 c2, .slice rk2 0 ck2] 26)) = w6 at *
  generalize w5.heap.size = b3 at *
  go_cut [5] (fun s5 wx => ∃ nb r5 c5 rk5 ck5, s5 = .pointer (some ⟨nb, 0, none⟩) ∧ Aside (Below w6.heap.size w6 wx) ∧ Aside (VR5 wx r5 c5 rk5 ck5 pV) ∧ Aside (Box5 wx nb 5 0 ⟨#[]⟩ (.slice r5 2 c5) (.slice rk5 2 ck5)))
  case first =>
    have x0 := X6.out.c0
    have x1 := X6.out.c1
    have x2 := X6.out.c2
    have x3 := X6.out.c3
    have x4 := X6.out.c4
    have hb1 := X6.out.lt
    -- REGION3
    refine wp_region_any (by kernel_rfl) ?_
    try (change wpAny _ _ _ _ _ _ _ (World.drew _))
    refine wpAny_ready (rs := [0, 1, 3]) (by kernel_rfl) (by simp) ?_
    refine AllReady.cons rfl (fun K hK => ?_) ?_
    · have _m := trivial
      go_simp
      refine hK _ _ ?_
      clear hK K
      refine wpAny_ready (rs := [1, 3]) (by kernel_rfl) (by simp) ?_
      refine AllReady.cons rfl (fun K hK => ?_) ?_
      · have _m := trivial
        go_simp
        go_at_call 30
        refine (mpnull_any _).mono ?_
        rintro e wN ⟨rfl, hbN⟩
        try go_simp
        refine hK _ _ ?_
        clear hK K
        refine wpAny_ready (rs := [2, 3]) (by kernel_rfl) (by simp) ?_
        refine AllReady.cons rfl (fun K hK => ?_) ?_
        · have _m := trivial
          go_simp
          go_at_call 28
          refine (aput_any r c rk ck _ ?_).mono ?_
          · repeat (first | exact V6.out | refine VR5.below ?_ hbN | refine VR5.below ?_ ((Below.refl _ _).alloc (Nat.le_refl _) _) | refine VR5.below ?_ (Below.refl _ _).drew)
          rintro e wP ⟨r5, c5, rk5, ck5, rfl, hvP, hbP⟩
          try go_simp
          refine hK _ _ ?_
          clear hK K
          refine wpAny_ready (rs := [3]) (by kernel_rfl) (by simp) ?_
          refine AllReady.cons rfl (fun K hK => ?_) ?_
          · have _m := trivial
            go_simp
            refine hK _ _ ?_
            clear hK K
            refine wpAny_ready (rs := [4]) (by kernel_rfl) (by simp) ?_
            refine AllReady.cons rfl (fun K hK => ?_) ?_
            · have _m := trivial
              go_simp
              refine hK _ _ ?_
              clear hK K
              refine wpAny_done (by kernel_rfl) ?_ _
              have hX0 : Below w6.heap.size w6 wN := (show Below w6.heap.size w6 w6.drew from (Below.refl _ _).drew).trans hbN
              have hP := hX0.trans (hbP.mono hX0.size)
              go_wp2
              go_meet
              exact ⟨wP.heap.size, r5, c5, rk5, ck5, rfl, hP.alloc hP.size _, VR5.below (VK.out hvP) ((Below.refl _ _).alloc (Nat.le_refl _) _), Box5.new wP 5 0 ⟨#[]⟩ _ _ _⟩
            exact AllReady.nil
          exact AllReady.nil
        refine AllReady.cons rfl (fun K hK => ?_) ?_
        · have _m := trivial
          go_simp
          refine hK _ _ ?_
          clear hK K
          refine wpAny_ready (rs := [2]) (by kernel_rfl) (by simp) ?_
          refine AllReady.cons rfl (fun K hK => ?_) ?_
          · have _m := trivial
            go_simp
            go_at_call 28
            refine (aput_any r c rk ck _ ?_).mono ?_
            · repeat (first | exact V6.out | refine VR5.below ?_ hbN | refine VR5.below ?_ ((Below.refl _ _).alloc (Nat.le_refl _) _) | refine VR5.below ?_ (Below.refl _ _).drew)
            rintro e wP ⟨r5, c5, rk5, ck5, rfl, hvP, hbP⟩
            have y0 : wP.cell? ⟨wN.heap.size, 0, none⟩ = some (.int .i64 0) := (hbP.cell (p := ⟨wN.heap.size, 0, none⟩) (by simp)).trans (cell_at rfl rfl)
            have y1 : wP.cell? ⟨wN.heap.size, 1, none⟩ = some (.int .i64 0) := (hbP.cell (p := ⟨wN.heap.size, 1, none⟩) (by simp)).trans (cell_at rfl rfl)
            have y2 : wP.cell? ⟨wN.heap.size, 2, none⟩ = some (.string { data := #[] }) := (hbP.cell (p := ⟨wN.heap.size, 2, none⟩) (by simp)).trans (cell_at rfl rfl)
            have y3 : wP.cell? ⟨wN.heap.size, 3, none⟩ = some (.slice none 0 0) := (hbP.cell (p := ⟨wN.heap.size, 3, none⟩) (by simp)).trans (cell_at rfl rfl)
            have y4 : wP.cell? ⟨wN.heap.size, 4, none⟩ = some (.slice none 0 0) := (hbP.cell (p := ⟨wN.heap.size, 4, none⟩) (by simp)).trans (cell_at rfl rfl)
            have yf : ∀ o, wP.frozen? ⟨wN.heap.size, o, none⟩ = false := fun o => (hbP.frozen (p := ⟨wN.heap.size, o, none⟩) (by simp)).trans (by simp)
            try go_simp
            refine hK _ _ ?_
            clear hK K
            refine wpAny_ready (rs := [4]) (by kernel_rfl) (by simp) ?_
            refine AllReady.cons rfl (fun K hK => ?_) ?_
            · have _m := trivial
              go_simp
              refine hK _ _ ?_
              clear hK K
              refine wpAny_done (by kernel_rfl) ?_ _
              have hX0 : Below w6.heap.size w6 wN := (show Below w6.heap.size w6 w6.drew from (Below.refl _ _).drew).trans hbN
              have hX := hX0.alloc hX0.size (.cells #[.int .i64 0, .int .i64 0, .string { data := #[] }, .slice none 0 0, .slice none 0 0] 26)
              have kA : wN.heap.size < (wN.alloc (.cells #[.int .i64 0, .int .i64 0, .string { data := #[] }, .slice none 0 0, .slice none 0 0] 26)).heap.size := by simp
              have hP := hX.trans (hbP.mono hX.size)
              go_wp2
              go_meet
              exact ⟨wN.heap.size, r5, c5, rk5, ck5, rfl, ((((hP.setCell (p := ⟨wN.heap.size, 0, none⟩) hX0.size _).setCell (p := ⟨wN.heap.size, 1, none⟩) hX0.size _).setCell (p := ⟨wN.heap.size, 2, none⟩) hX0.size _).setCell (p := ⟨wN.heap.size, 3, none⟩) hX0.size _).setCell (p := ⟨wN.heap.size, 4, none⟩) hX0.size _,
                vr_stays (stays_out fun b hb _ => five_heap _ _ 0 _ _ _ _ _ (by have h1 := of_decide_eq_true hb; have h2 : wN.heap.size < _ := kA; omega)) hvP,
                box5_set (Nat.lt_of_lt_of_le kA hbP.size) y0 y1 y2 y3 y4⟩
            exact AllReady.nil
          exact AllReady.nil
        exact AllReady.nil
      refine AllReady.cons rfl (fun K hK => ?_) ?_
      · have _m := trivial
        go_simp
        refine hK _ _ ?_
        clear hK K
        refine wpAny_ready (rs := [1]) (by kernel_rfl) (by simp) ?_
        refine AllReady.cons rfl (fun K hK => ?_) ?_
        · have _m := trivial
          go_simp
          go_at_call 30
          refine (mpnull_any _).mono ?_
          rintro e wN ⟨rfl, hbN⟩
          have z0 : wN.cell? ⟨w6.heap.size, 0, none⟩ = some (.int .i64 0) := (hbN.cell (p := ⟨w6.heap.size, 0, none⟩) (by rw [size_alloc_drew]; exact Nat.lt_succ_self _)).trans (new_cell_drew rfl)
          have z1 : wN.cell? ⟨w6.heap.size, 1, none⟩ = some (.int .i64 0) := (hbN.cell (p := ⟨w6.heap.size, 1, none⟩) (by rw [size_alloc_drew]; exact Nat.lt_succ_self _)).trans (new_cell_drew rfl)
          have z2 : wN.cell? ⟨w6.heap.size, 2, none⟩ = some (.string { data := #[] }) := (hbN.cell (p := ⟨w6.heap.size, 2, none⟩) (by rw [size_alloc_drew]; exact Nat.lt_succ_self _)).trans (new_cell_drew rfl)
          have z3 : wN.cell? ⟨w6.heap.size, 3, none⟩ = some (.slice none 0 0) := (hbN.cell (p := ⟨w6.heap.size, 3, none⟩) (by rw [size_alloc_drew]; exact Nat.lt_succ_self _)).trans (new_cell_drew rfl)
          have z4 : wN.cell? ⟨w6.heap.size, 4, none⟩ = some (.slice none 0 0) := (hbN.cell (p := ⟨w6.heap.size, 4, none⟩) (by rw [size_alloc_drew]; exact Nat.lt_succ_self _)).trans (new_cell_drew rfl)
          have kN : w6.heap.size < wN.heap.size := Nat.lt_of_lt_of_le (by rw [size_alloc_drew]; exact Nat.lt_succ_self _) hbN.size
          have zf : ∀ o, wN.frozen? ⟨w6.heap.size, o, none⟩ = false := fun o => (hbN.frozen (p := ⟨w6.heap.size, o, none⟩) (by rw [size_alloc_drew]; exact Nat.lt_succ_self _)).trans (new_frozen_drew _ _ _ _)
          try go_simp
          refine hK _ _ ?_
          clear hK K
          refine wpAny_ready (rs := [2]) (by kernel_rfl) (by simp) ?_
          refine AllReady.cons rfl (fun K hK => ?_) ?_
          · have _m := trivial
            go_simp
            go_at_call 28
            refine (aput_any r c rk ck _ ?_).mono ?_
            · repeat (first | exact V6.out | refine VR5.below ?_ hbN | refine VR5.below ?_ ((Below.refl _ _).alloc (Nat.le_refl _) _) | refine VR5.below ?_ (Below.refl _ _).drew)
            rintro e wP ⟨r5, c5, rk5, ck5, rfl, hvP, hbP⟩
            have y0 := bget hbP z0
            have y1 := bget hbP z1
            have y2 := bget hbP z2
            have y3 := bget hbP z3
            have y4 := bget hbP z4
            have yf : ∀ o, wP.frozen? ⟨w6.heap.size, o, none⟩ = false := fun o => (hbP.frozen (p := ⟨w6.heap.size, o, none⟩) kN).trans (zf o)
            try go_simp
            refine hK _ _ ?_
            clear hK K
            refine wpAny_ready (rs := [4]) (by kernel_rfl) (by simp) ?_
            refine AllReady.cons rfl (fun K hK => ?_) ?_
            · have _m := trivial
              go_simp
              refine hK _ _ ?_
              clear hK K
              refine wpAny_done (by kernel_rfl) ?_ _
              have hX : Below w6.heap.size w6 wN := (below_alloc_drew w6 _).trans (hbN.mono (by rw [size_alloc_drew]; exact Nat.le_succ _))
              have hP := hX.trans (hbP.mono hX.size)
              go_wp2
              go_meet
              exact ⟨w6.heap.size, r5, c5, rk5, ck5, rfl, ((((hP.setCell (p := ⟨w6.heap.size, 0, none⟩) (Nat.le_refl _) _).setCell (p := ⟨w6.heap.size, 1, none⟩) (Nat.le_refl _) _).setCell (p := ⟨w6.heap.size, 2, none⟩) (Nat.le_refl _) _).setCell (p := ⟨w6.heap.size, 3, none⟩) (Nat.le_refl _) _).setCell (p := ⟨w6.heap.size, 4, none⟩) (Nat.le_refl _) _,
                vr_stays (stays_out fun b hb _ => five_heap _ _ 0 _ _ _ _ _ (by have h1 := of_decide_eq_true hb; have h2 : w6.heap.size < _ := kN; omega)) hvP,
                box5_set (Nat.lt_of_lt_of_le kN hbP.size) y0 y1 y2 y3 y4⟩
            exact AllReady.nil
          exact AllReady.nil
        exact AllReady.nil
      exact AllReady.nil
    refine AllReady.cons rfl (fun K hK => ?_) ?_
    · have _m := trivial
      go_simp
      go_at_call 30
      refine (mpnull_any _).mono ?_
      rintro e wN ⟨rfl, hbN⟩
      have x0N := bget hbN (show w6.drew.cell? ⟨b1, 0, none⟩ = _ from x0)
      have x1N := bget hbN (show w6.drew.cell? ⟨b1, 1, none⟩ = _ from x1)
      have x2N := bget hbN (show w6.drew.cell? ⟨b1, 2, none⟩ = _ from x2)
      have x3N := bget hbN (show w6.drew.cell? ⟨b1, 3, none⟩ = _ from x3)
      have x4N := bget hbN (show w6.drew.cell? ⟨b1, 4, none⟩ = _ from x4)
      have lN := World.block_lt_of_cell? _ _ x0N
      have nN := World.new_ne _ _ x0N
      simp only at lN nN
      try go_simp
      refine hK _ _ ?_
      clear hK K
      refine wpAny_ready (rs := [0, 3]) (by kernel_rfl) (by simp) ?_
      refine AllReady.cons rfl (fun K hK => ?_) ?_
      · have _m := trivial
        go_simp
        refine hK _ _ ?_
        clear hK K
        refine wpAny_ready (rs := [2, 3]) (by kernel_rfl) (by simp) ?_
        refine AllReady.cons rfl (fun K hK => ?_) ?_
        · have _m := trivial
          go_simp
          go_at_call 28
          refine (aput_any r c rk ck _ ?_).mono ?_
          · repeat (first | exact V6.out | refine VR5.below ?_ hbN | refine VR5.below ?_ ((Below.refl _ _).alloc (Nat.le_refl _) _) | refine VR5.below ?_ (Below.refl _ _).drew)
          rintro e wP ⟨r5, c5, rk5, ck5, rfl, hvP, hbP⟩
          try go_simp
          refine hK _ _ ?_
          clear hK K
          refine wpAny_ready (rs := [3]) (by kernel_rfl) (by simp) ?_
          refine AllReady.cons rfl (fun K hK => ?_) ?_
          · have _m := trivial
            go_simp
            refine hK _ _ ?_
            clear hK K
            refine wpAny_ready (rs := [4]) (by kernel_rfl) (by simp) ?_
            refine AllReady.cons rfl (fun K hK => ?_) ?_
            · have _m := trivial
              go_simp
              refine hK _ _ ?_
              clear hK K
              refine wpAny_done (by kernel_rfl) ?_ _
              have hX0 : Below w6.heap.size w6 wN := (show Below w6.heap.size w6 w6.drew from (Below.refl _ _).drew).trans hbN
              have hP := hX0.trans (hbP.mono hX0.size)
              go_wp2
              go_meet
              exact ⟨wP.heap.size, r5, c5, rk5, ck5, rfl, hP.alloc hP.size _, VR5.below (VK.out hvP) ((Below.refl _ _).alloc (Nat.le_refl _) _), Box5.new wP 5 0 ⟨#[]⟩ _ _ _⟩
            exact AllReady.nil
          exact AllReady.nil
        refine AllReady.cons rfl (fun K hK => ?_) ?_
        · have _m := trivial
          go_simp
          refine hK _ _ ?_
          clear hK K
          refine wpAny_ready (rs := [2]) (by kernel_rfl) (by simp) ?_
          refine AllReady.cons rfl (fun K hK => ?_) ?_
          · have _m := trivial
            go_simp
            go_at_call 28
            refine (aput_any r c rk ck _ ?_).mono ?_
            · repeat (first | exact V6.out | refine VR5.below ?_ hbN | refine VR5.below ?_ ((Below.refl _ _).alloc (Nat.le_refl _) _) | refine VR5.below ?_ (Below.refl _ _).drew)
            rintro e wP ⟨r5, c5, rk5, ck5, rfl, hvP, hbP⟩
            have y0 : wP.cell? ⟨wN.heap.size, 0, none⟩ = some (.int .i64 0) := (hbP.cell (p := ⟨wN.heap.size, 0, none⟩) (by simp)).trans (cell_at rfl rfl)
            have y1 : wP.cell? ⟨wN.heap.size, 1, none⟩ = some (.int .i64 0) := (hbP.cell (p := ⟨wN.heap.size, 1, none⟩) (by simp)).trans (cell_at rfl rfl)
            have y2 : wP.cell? ⟨wN.heap.size, 2, none⟩ = some (.string { data := #[] }) := (hbP.cell (p := ⟨wN.heap.size, 2, none⟩) (by simp)).trans (cell_at rfl rfl)
            have y3 : wP.cell? ⟨wN.heap.size, 3, none⟩ = some (.slice none 0 0) := (hbP.cell (p := ⟨wN.heap.size, 3, none⟩) (by simp)).trans (cell_at rfl rfl)
            have y4 : wP.cell? ⟨wN.heap.size, 4, none⟩ = some (.slice none 0 0) := (hbP.cell (p := ⟨wN.heap.size, 4, none⟩) (by simp)).trans (cell_at rfl rfl)
            have yf : ∀ o, wP.frozen? ⟨wN.heap.size, o, none⟩ = false := fun o => (hbP.frozen (p := ⟨wN.heap.size, o, none⟩) (by simp)).trans (by simp)
            try go_simp
            refine hK _ _ ?_
            clear hK K
            refine wpAny_ready (rs := [4]) (by kernel_rfl) (by simp) ?_
            refine AllReady.cons rfl (fun K hK => ?_) ?_
            · have _m := trivial
              go_simp
              refine hK _ _ ?_
              clear hK K
              refine wpAny_done (by kernel_rfl) ?_ _
              have hX0 : Below w6.heap.size w6 wN := (show Below w6.heap.size w6 w6.drew from (Below.refl _ _).drew).trans hbN
              have hX := hX0.alloc hX0.size (.cells #[.int .i64 0, .int .i64 0, .string { data := #[] }, .slice none 0 0, .slice none 0 0] 26)
              have kA : wN.heap.size < (wN.alloc (.cells #[.int .i64 0, .int .i64 0, .string { data := #[] }, .slice none 0 0, .slice none 0 0] 26)).heap.size := by simp
              have hP := hX.trans (hbP.mono hX.size)
              go_wp2
              go_meet
              exact ⟨wN.heap.size, r5, c5, rk5, ck5, rfl, ((((hP.setCell (p := ⟨wN.heap.size, 0, none⟩) hX0.size _).setCell (p := ⟨wN.heap.size, 1, none⟩) hX0.size _).setCell (p := ⟨wN.heap.size, 2, none⟩) hX0.size _).setCell (p := ⟨wN.heap.size, 3, none⟩) hX0.size _).setCell (p := ⟨wN.heap.size, 4, none⟩) hX0.size _,
                vr_stays (stays_out fun b hb _ => five_heap _ _ 0 _ _ _ _ _ (by have h1 := of_decide_eq_true hb; have h2 : wN.heap.size < _ := kA; omega)) hvP,
                box5_set (Nat.lt_of_lt_of_le kA hbP.size) y0 y1 y2 y3 y4⟩
            exact AllReady.nil
          exact AllReady.nil
        exact AllReady.nil
      refine AllReady.cons rfl (fun K hK => ?_) ?_
      · have _m := trivial
        go_simp
        refine hK _ _ ?_
        clear hK K
        refine wpAny_ready (rs := [0]) (by kernel_rfl) (by simp) ?_
        refine AllReady.cons rfl (fun K hK => ?_) ?_
        · have _m := trivial
          go_simp
          refine hK _ _ ?_
          clear hK K
          refine wpAny_ready (rs := [2]) (by kernel_rfl) (by simp) ?_
          refine AllReady.cons rfl (fun K hK => ?_) ?_
          · have _m := trivial
            go_simp
            go_at_call 28
            refine (aput_any r c rk ck _ ?_).mono ?_
            · repeat (first | exact V6.out | refine VR5.below ?_ hbN | refine VR5.below ?_ ((Below.refl _ _).alloc (Nat.le_refl _) _) | refine VR5.below ?_ (Below.refl _ _).drew)
            rintro e wP ⟨r5, c5, rk5, ck5, rfl, hvP, hbP⟩
            have y0 : wP.cell? ⟨wN.heap.size, 0, none⟩ = some (.int .i64 0) := (hbP.cell (p := ⟨wN.heap.size, 0, none⟩) (by simp)).trans (cell_at rfl rfl)
            have y1 : wP.cell? ⟨wN.heap.size, 1, none⟩ = some (.int .i64 0) := (hbP.cell (p := ⟨wN.heap.size, 1, none⟩) (by simp)).trans (cell_at rfl rfl)
            have y2 : wP.cell? ⟨wN.heap.size, 2, none⟩ = some (.string { data := #[] }) := (hbP.cell (p := ⟨wN.heap.size, 2, none⟩) (by simp)).trans (cell_at rfl rfl)
            have y3 : wP.cell? ⟨wN.heap.size, 3, none⟩ = some (.slice none 0 0) := (hbP.cell (p := ⟨wN.heap.size, 3, none⟩) (by simp)).trans (cell_at rfl rfl)
            have y4 : wP.cell? ⟨wN.heap.size, 4, none⟩ = some (.slice none 0 0) := (hbP.cell (p := ⟨wN.heap.size, 4, none⟩) (by simp)).trans (cell_at rfl rfl)
            have yf : ∀ o, wP.frozen? ⟨wN.heap.size, o, none⟩ = false := fun o => (hbP.frozen (p := ⟨wN.heap.size, o, none⟩) (by simp)).trans (by simp)
            try go_simp
            refine hK _ _ ?_
            clear hK K
            refine wpAny_ready (rs := [4]) (by kernel_rfl) (by simp) ?_
            refine AllReady.cons rfl (fun K hK => ?_) ?_
            · have _m := trivial
              go_simp
              refine hK _ _ ?_
              clear hK K
              refine wpAny_done (by kernel_rfl) ?_ _
              have hX0 : Below w6.heap.size w6 wN := (show Below w6.heap.size w6 w6.drew from (Below.refl _ _).drew).trans hbN
              have hX := hX0.alloc hX0.size (.cells #[.int .i64 0, .int .i64 0, .string { data := #[] }, .slice none 0 0, .slice none 0 0] 26)
              have kA : wN.heap.size < (wN.alloc (.cells #[.int .i64 0, .int .i64 0, .string { data := #[] }, .slice none 0 0, .slice none 0 0] 26)).heap.size := by simp
              have hP := hX.trans (hbP.mono hX.size)
              go_wp2
              go_meet
              exact ⟨wN.heap.size, r5, c5, rk5, ck5, rfl, ((((hP.setCell (p := ⟨wN.heap.size, 0, none⟩) hX0.size _).setCell (p := ⟨wN.heap.size, 1, none⟩) hX0.size _).setCell (p := ⟨wN.heap.size, 2, none⟩) hX0.size _).setCell (p := ⟨wN.heap.size, 3, none⟩) hX0.size _).setCell (p := ⟨wN.heap.size, 4, none⟩) hX0.size _,
                vr_stays (stays_out fun b hb _ => five_heap _ _ 0 _ _ _ _ _ (by have h1 := of_decide_eq_true hb; have h2 : wN.heap.size < _ := kA; omega)) hvP,
                box5_set (Nat.lt_of_lt_of_le kA hbP.size) y0 y1 y2 y3 y4⟩
            exact AllReady.nil
          exact AllReady.nil
        exact AllReady.nil
      exact AllReady.nil
    refine AllReady.cons rfl (fun K hK => ?_) ?_
    · have _m := trivial
      go_simp
      refine hK _ _ ?_
      clear hK K
      refine wpAny_ready (rs := [0, 1]) (by kernel_rfl) (by simp) ?_
      refine AllReady.cons rfl (fun K hK => ?_) ?_
      · have _m := trivial
        go_simp
        refine hK _ _ ?_
        clear hK K
        refine wpAny_ready (rs := [1]) (by kernel_rfl) (by simp) ?_
        refine AllReady.cons rfl (fun K hK => ?_) ?_
        · have _m := trivial
          go_simp
          go_at_call 30
          refine (mpnull_any _).mono ?_
          rintro e wN ⟨rfl, hbN⟩
          have z0 : wN.cell? ⟨w6.heap.size, 0, none⟩ = some (.int .i64 0) := (hbN.cell (p := ⟨w6.heap.size, 0, none⟩) (by rw [size_alloc_drew]; exact Nat.lt_succ_self _)).trans (new_cell_drew rfl)
          have z1 : wN.cell? ⟨w6.heap.size, 1, none⟩ = some (.int .i64 0) := (hbN.cell (p := ⟨w6.heap.size, 1, none⟩) (by rw [size_alloc_drew]; exact Nat.lt_succ_self _)).trans (new_cell_drew rfl)
          have z2 : wN.cell? ⟨w6.heap.size, 2, none⟩ = some (.string { data := #[] }) := (hbN.cell (p := ⟨w6.heap.size, 2, none⟩) (by rw [size_alloc_drew]; exact Nat.lt_succ_self _)).trans (new_cell_drew rfl)
          have z3 : wN.cell? ⟨w6.heap.size, 3, none⟩ = some (.slice none 0 0) := (hbN.cell (p := ⟨w6.heap.size, 3, none⟩) (by rw [size_alloc_drew]; exact Nat.lt_succ_self _)).trans (new_cell_drew rfl)
          have z4 : wN.cell? ⟨w6.heap.size, 4, none⟩ = some (.slice none 0 0) := (hbN.cell (p := ⟨w6.heap.size, 4, none⟩) (by rw [size_alloc_drew]; exact Nat.lt_succ_self _)).trans (new_cell_drew rfl)
          have kN : w6.heap.size < wN.heap.size := Nat.lt_of_lt_of_le (by rw [size_alloc_drew]; exact Nat.lt_succ_self _) hbN.size
          have zf : ∀ o, wN.frozen? ⟨w6.heap.size, o, none⟩ = false := fun o => (hbN.frozen (p := ⟨w6.heap.size, o, none⟩) (by rw [size_alloc_drew]; exact Nat.lt_succ_self _)).trans (new_frozen_drew _ _ _ _)
          try go_simp
          refine hK _ _ ?_
          clear hK K
          refine wpAny_ready (rs := [2]) (by kernel_rfl) (by simp) ?_
          refine AllReady.cons rfl (fun K hK => ?_) ?_
          · have _m := trivial
            go_simp
            go_at_call 28
            refine (aput_any r c rk ck _ ?_).mono ?_
            · repeat (first | exact V6.out | refine VR5.below ?_ hbN | refine VR5.below ?_ ((Below.refl _ _).alloc (Nat.le_refl _) _) | refine VR5.below ?_ (Below.refl _ _).drew)
            rintro e wP ⟨r5, c5, rk5, ck5, rfl, hvP, hbP⟩
            have y0 := bget hbP z0
            have y1 := bget hbP z1
            have y2 := bget hbP z2
            have y3 := bget hbP z3
            have y4 := bget hbP z4
            have yf : ∀ o, wP.frozen? ⟨w6.heap.size, o, none⟩ = false := fun o => (hbP.frozen (p := ⟨w6.heap.size, o, none⟩) kN).trans (zf o)
            try go_simp
            refine hK _ _ ?_
            clear hK K
            refine wpAny_ready (rs := [4]) (by kernel_rfl) (by simp) ?_
            refine AllReady.cons rfl (fun K hK => ?_) ?_
            · have _m := trivial
              go_simp
              refine hK _ _ ?_
              clear hK K
              refine wpAny_done (by kernel_rfl) ?_ _
              have hX : Below w6.heap.size w6 wN := (below_alloc_drew w6 _).trans (hbN.mono (by rw [size_alloc_drew]; exact Nat.le_succ _))
              have hP := hX.trans (hbP.mono hX.size)
              go_wp2
              go_meet
              exact ⟨w6.heap.size, r5, c5, rk5, ck5, rfl, ((((hP.setCell (p := ⟨w6.heap.size, 0, none⟩) (Nat.le_refl _) _).setCell (p := ⟨w6.heap.size, 1, none⟩) (Nat.le_refl _) _).setCell (p := ⟨w6.heap.size, 2, none⟩) (Nat.le_refl _) _).setCell (p := ⟨w6.heap.size, 3, none⟩) (Nat.le_refl _) _).setCell (p := ⟨w6.heap.size, 4, none⟩) (Nat.le_refl _) _,
                vr_stays (stays_out fun b hb _ => five_heap _ _ 0 _ _ _ _ _ (by have h1 := of_decide_eq_true hb; have h2 : w6.heap.size < _ := kN; omega)) hvP,
                box5_set (Nat.lt_of_lt_of_le kN hbP.size) y0 y1 y2 y3 y4⟩
            exact AllReady.nil
          exact AllReady.nil
        exact AllReady.nil
      refine AllReady.cons rfl (fun K hK => ?_) ?_
      · have _m := trivial
        go_simp
        go_at_call 30
        refine (mpnull_any _).mono ?_
        rintro e wN ⟨rfl, hbN⟩
        have x0N := bget hbN (cell_alloc_drew x0)
        have x1N := bget hbN (cell_alloc_drew x1)
        have x2N := bget hbN (cell_alloc_drew x2)
        have x3N := bget hbN (cell_alloc_drew x3)
        have x4N := bget hbN (cell_alloc_drew x4)
        have lN := World.block_lt_of_cell? _ _ x0N
        have nN := World.new_ne _ _ x0N
        simp only at lN nN
        have z0 : wN.cell? ⟨w6.heap.size, 0, none⟩ = some (.int .i64 0) := (hbN.cell (p := ⟨w6.heap.size, 0, none⟩) (by rw [size_alloc_drew]; exact Nat.lt_succ_self _)).trans (new_cell_drew rfl)
        have z1 : wN.cell? ⟨w6.heap.size, 1, none⟩ = some (.int .i64 0) := (hbN.cell (p := ⟨w6.heap.size, 1, none⟩) (by rw [size_alloc_drew]; exact Nat.lt_succ_self _)).trans (new_cell_drew rfl)
        have z2 : wN.cell? ⟨w6.heap.size, 2, none⟩ = some (.string { data := #[] }) := (hbN.cell (p := ⟨w6.heap.size, 2, none⟩) (by rw [size_alloc_drew]; exact Nat.lt_succ_self _)).trans (new_cell_drew rfl)
        have z3 : wN.cell? ⟨w6.heap.size, 3, none⟩ = some (.slice none 0 0) := (hbN.cell (p := ⟨w6.heap.size, 3, none⟩) (by rw [size_alloc_drew]; exact Nat.lt_succ_self _)).trans (new_cell_drew rfl)
        have z4 : wN.cell? ⟨w6.heap.size, 4, none⟩ = some (.slice none 0 0) := (hbN.cell (p := ⟨w6.heap.size, 4, none⟩) (by rw [size_alloc_drew]; exact Nat.lt_succ_self _)).trans (new_cell_drew rfl)
        have kN : w6.heap.size < wN.heap.size := Nat.lt_of_lt_of_le (by rw [size_alloc_drew]; exact Nat.lt_succ_self _) hbN.size
        have zf : ∀ o, wN.frozen? ⟨w6.heap.size, o, none⟩ = false := fun o => (hbN.frozen (p := ⟨w6.heap.size, o, none⟩) (by rw [size_alloc_drew]; exact Nat.lt_succ_self _)).trans (new_frozen_drew _ _ _ _)
        try go_simp
        refine hK _ _ ?_
        clear hK K
        refine wpAny_ready (rs := [0]) (by kernel_rfl) (by simp) ?_
        refine AllReady.cons rfl (fun K hK => ?_) ?_
        · have _m := trivial
          go_simp
          refine hK _ _ ?_
          clear hK K
          refine wpAny_ready (rs := [2]) (by kernel_rfl) (by simp) ?_
          refine AllReady.cons rfl (fun K hK => ?_) ?_
          · have _m := trivial
            go_simp
            go_at_call 28
            refine (aput_any r c rk ck _ ?_).mono ?_
            · repeat (first | exact V6.out | refine VR5.below ?_ hbN | refine VR5.below ?_ ((Below.refl _ _).alloc (Nat.le_refl _) _) | refine VR5.below ?_ (Below.refl _ _).drew)
            rintro e wP ⟨r5, c5, rk5, ck5, rfl, hvP, hbP⟩
            have y0 := bget hbP z0
            have y1 := bget hbP z1
            have y2 := bget hbP z2
            have y3 := bget hbP z3
            have y4 := bget hbP z4
            have yf : ∀ o, wP.frozen? ⟨w6.heap.size, o, none⟩ = false := fun o => (hbP.frozen (p := ⟨w6.heap.size, o, none⟩) kN).trans (zf o)
            try go_simp
            refine hK _ _ ?_
            clear hK K
            refine wpAny_ready (rs := [4]) (by kernel_rfl) (by simp) ?_
            refine AllReady.cons rfl (fun K hK => ?_) ?_
            · have _m := trivial
              go_simp
              refine hK _ _ ?_
              clear hK K
              refine wpAny_done (by kernel_rfl) ?_ _
              have hX : Below w6.heap.size w6 wN := (below_alloc_drew w6 _).trans (hbN.mono (by rw [size_alloc_drew]; exact Nat.le_succ _))
              have hP := hX.trans (hbP.mono hX.size)
              go_wp2
              go_meet
              exact ⟨w6.heap.size, r5, c5, rk5, ck5, rfl, ((((hP.setCell (p := ⟨w6.heap.size, 0, none⟩) (Nat.le_refl _) _).setCell (p := ⟨w6.heap.size, 1, none⟩) (Nat.le_refl _) _).setCell (p := ⟨w6.heap.size, 2, none⟩) (Nat.le_refl _) _).setCell (p := ⟨w6.heap.size, 3, none⟩) (Nat.le_refl _) _).setCell (p := ⟨w6.heap.size, 4, none⟩) (Nat.le_refl _) _,
                vr_stays (stays_out fun b hb _ => five_heap _ _ 0 _ _ _ _ _ (by have h1 := of_decide_eq_true hb; have h2 : w6.heap.size < _ := kN; omega)) hvP,
                box5_set (Nat.lt_of_lt_of_le kN hbP.size) y0 y1 y2 y3 y4⟩
            exact AllReady.nil
          exact AllReady.nil
        exact AllReady.nil
      exact AllReady.nil
    exact AllReady.nil
    -- END3
  case rest =>
    obtain ⟨nb, r5, c5, rk5, ck5, rfl, BW, VP, BP⟩ := hcut
    have B7 := hid (B6.out.trans (BW.out.mono B6.out.size))
    have V7 := hid (V6.out.below BW.out)
    have W7 := hid (W6.out.below BW.out)
    have X7 := X6.out.below BW.out
    have Y7 := Y6.out.below BW.out
    have P7 := BP.out
    have U7 := hid (HU.out.below B7.out)
    have VP7 := hid VP.out
    have x0 := X7.c0
    have x1 := X7.c1
    have x2 := X7.c2
    have x3 := X7.c3
    have x4 := X7.c4
    have y0 := Y7.c0
    have y1 := Y7.c1
    have y2 := Y7.c2
    have y3 := Y7.c3
    have y4 := Y7.c4
    have p0 := P7.c0
    have p1 := P7.c1
    have p2 := P7.c2
    have p3 := P7.c3
    have p4 := P7.c4
    have l1 := X7.lt
    have l2 := Y7.lt
    have l3 := P7.lt
    clear X7 Y7 P7 BW VP BP X6 Y6 V6 W6 B6
    have hcg := cells_regrown wc
    have LV := hid (fun (W : World) (k n : Int) (hk : i64B k) (hn : i64B n) => litV_vr (s := ⟨#[]⟩) W hk hn (Nat.zero_le _))
    have C1 := hid (fun d os => (show Calls Tryd.prog 12 #[.agg #[.int .i64 5, .int .i64 0, .string ⟨#[]⟩, .slice r 2 c, .slice rk 2 ck]] (grow (redrawn wc d) os) (fun e w'' => e = .returned (.int .i64 0) ∧ ∃ p : Regrown, w'' = grow (redrawn wc p.d) p.os) from Calls.regrown_of (by have h := pCheck_any mV r c rk ck (grow (redrawn wc d) os) (V7.out.below (below_regrown wc d os)) (U7.out.below (below_regrown wc d os)); rw [aw_check] at h; exact h)))
    have C2 := hid (fun d os => (show Calls Tryd.prog 35 #[.int .i64 1] (grow (redrawn wc d) os) (fun e w'' => e = .returned (.agg #[.int .i64 2, .int .i64 1, .string ⟨#[]⟩, .slice none 0 0, .slice none 0 0]) ∧ ∃ p : Regrown, w'' = grow (redrawn wc p.d) p.os) from Calls.regrown_of (mpnumber_any 1 _)))
    have C3 := hid (fun d os => (show Calls Tryd.prog 17 #[.agg #[.int .i64 2, .int .i64 1, .string ⟨#[]⟩, .slice r2 0 c2, .slice rk2 0 ck2], .agg #[.int .i64 2, .int .i64 1, .string ⟨#[]⟩, .slice none 0 0, .slice none 0 0]] (grow (redrawn wc d) os) (fun e w'' => e = .returned (.bool true) ∧ ∃ p : Regrown, w'' = grow (redrawn wc p.d) p.os) from Calls.regrown_of (by have h := peq_any (litV 2 1 ⟨#[]⟩) (litV 2 1 ⟨#[]⟩) r2 c2 rk2 ck2 none 0 none 0 (grow (redrawn wc d) os) (W7.out.below (below_regrown wc d os)) (LV.out (grow (redrawn wc d) os) 2 1 (by unfold i64B; omega) (by unfold i64B; omega)); rw [aw_eq] at h; exact h)))
    have C4 := hid (fun d os => (show Calls Tryd.prog 21 #[.agg #[.int .i64 5, .int .i64 0, .string ⟨#[]⟩, .slice r 2 c, .slice rk 2 ck]] (grow (redrawn wc d) os) (fun e w'' => e = .returned (.bool false) ∧ ∃ p : Regrown, w'' = grow (redrawn wc p.d) p.os) from Calls.regrown_of (by have h := pknown_any mV r c rk ck (grow (redrawn wc d) os) (V7.out.below (below_regrown wc d os)); rw [aw_known] at h; exact h)))
    have C5 := hid (fun d os => (show Calls Tryd.prog 21 #[.agg #[.int .i64 5, .int .i64 0, .string ⟨#[]⟩, .slice r5 2 c5, .slice rk5 2 ck5]] (grow (redrawn wc d) os) (fun e w'' => e = .returned (.bool true) ∧ ∃ p : Regrown, w'' = grow (redrawn wc p.d) p.os) from Calls.regrown_of (by have h := pknown_any pV r5 c5 rk5 ck5 (grow (redrawn wc d) os) (VP7.out.below (below_regrown wc d os)); rw [aw_knownp] at h; exact h)))
    have C6 := hid (fun d os => (show Calls Tryd.prog 23 #[.agg #[.int .i64 5, .int .i64 0, .string ⟨#[]⟩, .slice r5 2 c5, .slice rk5 2 ck5], .agg #[.int .i64 5, .int .i64 0, .string ⟨#[]⟩, .slice r 2 c, .slice rk 2 ck]] (grow (redrawn wc d) os) (fun e w'' => e = .returned (.bool true) ∧ ∃ p : Regrown, w'' = grow (redrawn wc p.d) p.os) from Calls.regrown_of (by have h := prefines_any pV mV r5 c5 rk5 ck5 r c rk ck _ (VP7.out.below (below_regrown wc d os)) (V7.out.below (below_regrown wc d os)); rw [aw_ref] at h; exact h)))
    have C7 := hid (fun d os => (show Calls Tryd.prog 23 #[.agg #[.int .i64 5, .int .i64 0, .string ⟨#[]⟩, .slice r 2 c, .slice rk 2 ck], .agg #[.int .i64 5, .int .i64 0, .string ⟨#[]⟩, .slice r5 2 c5, .slice rk5 2 ck5]] (grow (redrawn wc d) os) (fun e w'' => e = .returned (.bool false) ∧ ∃ p : Regrown, w'' = grow (redrawn wc p.d) p.os) from Calls.regrown_of (by have h := prefines_any mV pV r c rk ck r5 c5 rk5 ck5 (grow (redrawn wc d) os) (V7.out.below (below_regrown wc d os)) (VP7.out.below (below_regrown wc d os)); rw [aw_ref2] at h; exact h)))
    have C8 := hid (fun d os => (show Calls Tryd.prog 25 #[.agg #[.int .i64 5, .int .i64 0, .string ⟨#[]⟩, .slice r 2 c, .slice rk 2 ck]] (grow (redrawn wc d) os) (fun e w'' => e = .returned (.int .i64 3) ∧ ∃ p : Regrown, w'' = grow (redrawn wc p.d) p.os) from Calls.regrown_of (by have h := pnodes_any mV r c rk ck (grow (redrawn wc d) os) (V7.out.below (below_regrown wc d os)) (by rw [aw_nodes]; omega); rw [aw_nodes] at h; exact h)))
    have C9 := hid (fun d os => (show Calls Tryd.prog 30 #[] (grow (redrawn wc d) os) (fun e w'' => e = .returned (.agg #[.int .i64 0, .int .i64 0, .string ⟨#[]⟩, .slice none 0 0, .slice none 0 0]) ∧ ∃ p : Regrown, w'' = grow (redrawn wc p.d) p.os) from Calls.regrown_of (mpnull_any _)))
    have C10 := hid (fun d os => (show Calls Tryd.prog 33 #[.bool false] (grow (redrawn wc d) os) (fun e w'' => e = .returned (.agg #[.int .i64 1, .int .i64 0, .string ⟨#[]⟩, .slice none 0 0, .slice none 0 0]) ∧ ∃ p : Regrown, w'' = grow (redrawn wc p.d) p.os) from Calls.regrown_of (mpfalse_any _)))
    have C11 := hid (fun d os => (show Calls Tryd.prog 19 #[.agg #[.int .i64 0, .int .i64 0, .string ⟨#[]⟩, .slice none 0 0, .slice none 0 0], .agg #[.int .i64 1, .int .i64 0, .string ⟨#[]⟩, .slice none 0 0, .slice none 0 0]] (grow (redrawn wc d) os) (fun e w'' => e = .returned (.int .i64 (-1)) ∧ ∃ p : Regrown, w'' = grow (redrawn wc p.d) p.os) from Calls.regrown_of (by have h := pcompare_any (litV 0 0 ⟨#[]⟩) (litV 1 0 ⟨#[]⟩) none 0 none 0 none 0 none 0 (grow (redrawn wc d) os) (LV.out (grow (redrawn wc d) os) 0 0 (by unfold i64B; omega) (by unfold i64B; omega)) (LV.out (grow (redrawn wc d) os) 1 0 (by unfold i64B; omega) (by unfold i64B; omega)); rw [aw_cmp] at h; exact h)))
    have C12 := hid (fun d os => (show Calls Tryd.prog 12 #[.agg #[.int .i64 9, .int .i64 0, .string ⟨#[]⟩, .slice none 0 0, .slice none 0 0]] (grow (redrawn wc d) os) (fun e w'' => e = .returned (.int .i64 1) ∧ ∃ p : Regrown, w'' = grow (redrawn wc p.d) p.os) from Calls.regrown_of (by have h := pCheck_any (litV 9 0 ⟨#[]⟩) none 0 none 0 (grow (redrawn wc d) os) (LV.out (grow (redrawn wc d) os) 9 0 (by unfold i64B; omega) (by unfold i64B; omega)) (U7.out.below (below_regrown wc d os)); rw [aw_nine] at h; exact h)))
    clear LV V7 W7 U7 VP7
    go_wp2_with fail
    refine wp_region_quiet_below (by kernel_rfl) (by kernel_rfl) ?_
    repeat (quiet_step (first | (go_at_call 12; with_reducible first | exact C1.out _ _ | exact C12.out _ _) | (go_at_call 35; exact C2.out _ _) | (go_at_call 17; exact C3.out _ _) | (go_at_call 21; with_reducible first | exact C4.out _ _ | exact C5.out _ _) | (go_at_call 23; with_reducible first | exact C6.out _ _ | exact C7.out _ _) | (go_at_call 25; exact C8.out _ _) | (go_at_call 30; exact C9.out _ _) | (go_at_call 33; exact C10.out _ _) | (go_at_call 19; exact C11.out _ _)))
    refine wpQuiet_nil ?_
    intro _ hw'
    obtain ⟨⟨dq, osq⟩, hw''⟩ := hw'
    subst hw''
    go_wp2
    go_ret
    exact ⟨rfl, B7.out.trans ((below_regrown _ _ _).mono B7.out.size)⟩
end Go.Proofs.YtedpdpcibkceeaaDoor
