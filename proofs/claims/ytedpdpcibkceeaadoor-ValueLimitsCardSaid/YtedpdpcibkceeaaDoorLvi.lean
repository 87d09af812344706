import Derived.Test.YtedpdpcibkceeaaDoorLim
import Derived.Test.YtedpdpcibkceeaaDoorLvo
import Derived.Laws.IdiomStrings
/-
  The walk of the statement ValueLimits. Conditions: the two tables lie in the world.
-/
namespace Go.Proofs.YtedpdpcibkceeaaDoor
open Go.RowKit Go.Sort Go.Lib
open Go.Lib (hid)
set_option linter.unusedVariables false
set_option linter.unusedSimpArgs false

/-- make of n elements, n a number of whatever kind. -/
theorem make_kind {P : Program} {T E : TypeId} {i : TypeInfo} {z : Value} {sz bytes : Nat} (k : IntKind) (ht : P.underlying T = some (.slice E)) (hi : P.info? E = some i) (hz : i.zero = some z) (hsize : i.size = sz) (hby : i.bytes = bytes)
    (hzs : z.cells.size = sz) (n : Nat) (hb : bytes * n ≤ 281474976710656) (hn : n ≤ 9223372036854775807) :
    ∃ C : Array Value, C.size = n * sz ∧ (∀ (k j : Nat) (u : Value), k < n → z.cells[j]? = some u → C[k * sz + j]? = some u) ∧
      ∀ w, (Instr.makeSlice T (.int k (n : Int)) (.int k (n : Int))).run P w = .ok (.slice (some ⟨w.heap.size, 0, none⟩) n n) (w.alloc (.cells C E)) := by
  obtain ⟨C, h1, h2, _⟩ := make_fact ht hi hz hsize hby hzs n hb hn
  refine ⟨madeCells z.cells (n * i.size), by rw [size_madeCells, hsize], ?_, fun w => ?_⟩
  · intro k j u hk hj
    rw [hsize]
    have hjs : j < sz := by rw [← hzs]; exact (Array.getElem?_eq_some_iff.1 hj).1
    have hlt : k * sz + j < n * sz := by
      have : (k + 1) * sz ≤ n * sz := Nat.mul_le_mul_right _ hk
      rw [Nat.add_mul, Nat.one_mul] at this; omega
    unfold madeCells
    rw [Array.getElem?_map, Array.getElem?_range, if_pos hlt]
    simp only [Option.map_some, hzs]
    rw [Nat.mul_comm k sz, Nat.mul_add_mod, Nat.mod_eq_of_lt hjs]
    have hjz : j < z.cells.size := by omega
    rw [getElem!_pos z.cells j hjz, ← hj, Array.getElem?_eq_getElem hjz]
  · have hb2 : (i.bytes : Int) * (n : Int) ≤ 281474976710656 := by
      have h : ((bytes * n : Nat) : Int) ≤ 281474976710656 := by omega
      rw [Int.natCast_mul] at h
      rw [hby]; exact h
    have := run_make (P := P) w T E i z ht hi hz k k (n : Int) (n : Int) (by omega) (Int.le_refl _) hb2 (by omega)
    rw [Int.toNat_natCast] at this
    exact this
theorem byteinfo : (Tryd.prog.info? 5).map (fun i => (i.zero, i.size, i.bytes)) = some (some (.int .u8 0), 1, 1) := by kernel_rfl

/-- Map at one key with the null value. -/
theorem omap_any (B1 B2 : Nat) {T1 T2 : TypeId} {fr1 fr2 : Nat × Nat} (s : ByteArray) (hs : s.size ≤ maxLen) (w : World) (h1 : w.heap[B1]? = some (.cells #[.string s] T1 fr1)) (h2 : w.heap[B2]? = some (.cells #[.int .i64 0, .int .i64 0, .string ⟨#[]⟩, .slice none 0 0, .slice none 0 0] T2 fr2)) :
    Calls Tryd.prog 40 #[.slice (some ⟨B1, 0, none⟩) 1 1, .slice (some ⟨B2, 0, none⟩) 1 1] w fun e w' => ∃ r c rk ck, e = .returned (.tuple #[.agg #[.int .i64 5, .int .i64 0, .string ⟨#[]⟩, .slice r 1 c, .slice rk 1 ck], .int .i64 0]) ∧ VR5 w' r c rk ck (.mk 5 0 ⟨#[]⟩ [litV 0 0 ⟨#[]⟩] [s]) ∧ Below w.heap.size w w' := by
  have hK : Sl StrR 1 w (.slice (some ⟨B1, 0, none⟩) 1 1) [s] := sl_block encS encS_len (R := StrR) (xs := [s]) (ys := [s]) h1 rfl rfl (by simp [maxLen]) (fun i hi hi' => ⟨rfl, by
    match i, hi with
    | 0, _ => exact hs⟩)
  have hI : Sl VR 5 w (.slice (some ⟨B2, 0, none⟩) 1 1) [litV 0 0 ⟨#[]⟩] := sl_block Cv.enc cv_len (R := VR) (xs := [litV 0 0 ⟨#[]⟩]) (ys := [Cv.of (litV 0 0 ⟨#[]⟩) none 0 none 0]) h2 rfl rfl (by simp [maxLen]) (fun i hi hi' => by
    match i, hi with
    | 0, _ => exact litV_vr w (k := 0) (n := 0) (s := ⟨#[]⟩) (by unfold i64B; omega) (by unfold i64B; omega) (Nat.zero_le _))
  refine (pmap_any [s] [litV 0 0 ⟨#[]⟩] 1 _ 1 _ 1 w hK hI (by simp [nodesL, nodes, litV]) (by simp [nkeysL, nkeys, litV])).mono ?_
  rintro e w' ⟨hb, d, hp, hs', hd⟩
  have hp' : d.Perm [(s, litV 0 0 ⟨#[]⟩)] := hp
  obtain rfl := one_perm hp'
  rcases hd with ⟨_, r, c, rk, ck, he, hv⟩ | ⟨hn, _⟩
  · exact ⟨r, c, rk, ck, he, hv, hb⟩
  · exact absurd (show AscS [s] from trivial) hn
/-- The list of n nulls. -/
theorem nlist_any (n : Nat) (hn : n ≤ 10000) {C : Array Value} {z : Value} (w : World) (hz : z = .agg #[.int .i64 0, .int .i64 0, .string ByteArray.empty, .slice none 0 0, .slice none 0 0]) (hC : ∀ (k j : Nat) (u : Value), k < n → z.cells[j]? = some u → C[k * 5 + j]? = some u) :
    Calls Tryd.prog 39 #[.slice (some ⟨w.heap.size, 0, none⟩) n n] (w.alloc (.cells C 26)) fun e w' => ∃ r c rk ck, e = .returned (.agg #[.int .i64 4, .int .i64 0, .string ⟨#[]⟩, .slice r n c, .slice rk 0 ck]) ∧ VR5 w' r c rk ck (.mk 4 0 ⟨#[]⟩ (List.replicate n (litV 0 0 ⟨#[]⟩)) []) ∧ Below (w.alloc (.cells C 26)).heap.size (w.alloc (.cells C 26)) w' := by
  subst hz
  have hI := sl_made (R := VR) (sz := 5) (w := w) (C := C) (E := 26) (n := n) (z := .agg #[.int .i64 0, .int .i64 0, .string ByteArray.empty, .slice none 0 0, .slice none 0 0]) (litV 0 0 ⟨#[]⟩) (by unfold maxLen; omega) rfl hC (litV_vr _ (k := 0) (n := 0) (s := ⟨#[]⟩) (by unfold i64B; omega) (by unfold i64B; omega) (Nat.zero_le _))
  have e : (List.replicate n (litV 0 0 ⟨#[]⟩)).length = n := List.length_replicate
  have h := plist_any (List.replicate n (litV 0 0 ⟨#[]⟩)) (some ⟨w.heap.size, 0, none⟩) n (w.alloc (.cells C 26)) (by rw [e]; exact hI) (by rw [nulls_nodes]; omega) (by rw [nulls_nkeys]; omega)
  rw [e] at h
  refine h.mono ?_
  rintro x w' ⟨r, c, rk, ck, he, hv, hb⟩
  refine ⟨r, c, rk, ck, ?_, hv.out, hb⟩
  rw [he]
  simp only [Val.kind, Val.num, Val.str, Val.items, Val.keys, e, List.length_nil]

set_option maxRecDepth 100000 in
set_option maxHeartbeats 8000000 in
theorem limits_law (lv nd bt : Nat) (h1 : lv ≤ 65535) (h2 : nd ≤ 65535) (h3 : bt ≤ 65535) (w : World) (hu : UT w) :
    Calls Tryd.prog 9 #[.int .u16 lv, .int .u16 nd, .int .u16 bt] w fun e w' => e = .returned (.bool true) ∧ Below w.heap.size w w' := by
  have HU := hid hu
  clear hu
  by_cases c1 : 60 < lv
  · have z1 : (60 : Int) < (lv : Int) := by omega
    go_enter Tryd.func9, Tryd.ntmps9
    go_wp2_with fail
    refine (awake_any w HU.out).mono ?_
    rintro e w1 ⟨rfl, hb⟩
    go_wp2
    go_ret
    exact ⟨rfl, hb⟩
  have z1 : ¬ (60 : Int) < (lv : Int) := by omega
  by_cases c2 : 4200 < nd
  · have z2 : (4200 : Int) < (nd : Int) := by omega
    go_enter Tryd.func9, Tryd.ntmps9
    go_wp2_with fail
    refine (awake_any w HU.out).mono ?_
    rintro e w1 ⟨rfl, hb⟩
    go_wp2
    go_ret
    exact ⟨rfl, hb⟩
  have z2 : ¬ (4200 : Int) < (nd : Int) := by omega
  by_cases c3 : 4200 < bt
  · have z3 : (4200 : Int) < (bt : Int) := by omega
    go_enter Tryd.func9, Tryd.ntmps9
    go_wp2_with fail
    refine (awake_any w HU.out).mono ?_
    rintro e w1 ⟨rfl, hb⟩
    go_wp2
    go_ret
    exact ⟨rfl, hb⟩
  have z3 : ¬ (4200 : Int) < (bt : Int) := by omega
  obtain ⟨i0, hi, hz0, hz1, hz2⟩ := info_parts valinfo
  obtain ⟨C, hC, hCc, hmk⟩ := make_kind (P := Tryd.prog) .u16 Tryd.underlying23 hi hz0 hz1 hz2 rfl nd (by omega) (by omega)
  obtain ⟨i1, hi1, hy0, hy1, hy2⟩ := info_parts byteinfo
  obtain ⟨D, hD, hDc, hmk8⟩ := make_kind (P := Tryd.prog) .u16 Tryd.underlying52 hi1 hy0 hy1 hy2 rfl bt (by omega) (by omega)
  have hcv : ∀ W : World, (convert 52 9 (.slice (some ⟨W.heap.size, 0, none⟩) bt bt)).run Tryd.prog (W.alloc (.cells D 5)) = .ok (.string (zeroS bt)) (W.alloc (.cells D 5)) := fun W => by
    have h := run_convert_bytes_back (P := Tryd.prog) (W.alloc (.cells D 5)) 52 9 5 ⟨W.heap.size, 0, none⟩ bt (List.replicate bt (0 : UInt8)) Tryd.underlying52 Tryd.underlying5 Tryd.underlying9 (fun j hj => by
      have hj' : j < bt := by simpa using hj
      have e : (⟨W.heap.size, 0, none⟩ : Addr).add j = ⟨W.heap.size, j, none⟩ := by unfold Addr.add; by_cases h0 : j = 0 <;> simp [h0]
      rw [e, cell_at rfl (by have := hDc j 0 (.int .u8 0) hj' rfl; simpa using this)]
      simp)
    rw [List.length_replicate] at h
    exact h
  have HCC := hid hCc
  clear hC hCc hD hDc hi hz0 hz1 hz2 hi1 hy0 hy1 hy2 c1 c2 c3
  go_enter Tryd.func9, Tryd.ntmps9
  go_wp2_with fail
  refine (mpnull_any w).mono ?_
  rintro e w1 ⟨rfl, hb1⟩
  have HB1 := hid hb1
  have hbx : Below w1.heap.size w1 (w1.alloc (.cells #[.int .i64 0, .int .i64 0, .string ⟨#[]⟩, .slice none 0 0, .slice none 0 0] 26)) := (Below.refl _ _).alloc (Nat.le_refl _) _
  have HB2 := hid (HB1.out.trans (hbx.mono HB1.out.size))
  have HX2 := hid (Box5.new w1 0 0 ⟨#[]⟩ (.slice none 0 0) (.slice none 0 0) 26)
  have HF2 := hid (show ∀ o, (w1.alloc (.cells #[.int .i64 0, .int .i64 0, .string ⟨#[]⟩, .slice none 0 0, .slice none 0 0] 26)).frozen? ⟨w1.heap.size, o, none⟩ = false from fun o => by simp)
  have HV2 := hid (show VK (fromB (w1.heap.size + 1)) (w1.alloc (.cells #[.int .i64 0, .int .i64 0, .string ⟨#[]⟩, .slice none 0 0, .slice none 0 0] 26)) none 0 none 0 (nestV 0) from litV_vr (k := 0) (n := 0) (s := ⟨#[]⟩) _ (by unfold i64B; omega) (by unfold i64B; omega) (Nat.zero_le _))
  have HS1 := hid HB1.out.size
  clear hb1 hbx HB1
  go_wp2_with fail
  generalize (w1.alloc (.cells #[.int .i64 0, .int .i64 0, .string ⟨#[]⟩, .slice none 0 0, .slice none 0 0] 26)) = W2 at *
  generalize w1.heap.size = bv at *
  go_loopg [8] lv (fun gg s8 wr => ∃ k : Nat, k + 1 ≤ max lv 1 ∧ lv - k ≤ gg + 1 ∧ s8 = .int .i64 ((k + 1 : Nat) : Int) ∧ Aside (Below w.heap.size w wr) ∧ Aside (∃ r c rk ck, Box5 wr bv (nestV k).kind (nestV k).num (nestV k).str (.slice r (nestV k).items.length c) (.slice rk (nestV k).keys.length ck) ∧ VK (fromB (bv + 1)) wr r c rk ck (nestV k)) ∧ Aside (∀ o, wr.frozen? ⟨bv, o, none⟩ = false))
  case atStart => exact ⟨0, by omega, by omega, rfl, HB2.out, ⟨none, 0, none, 0, HX2.out, HV2.out⟩, HF2.out⟩
  case round =>
    clear HX2 HV2 HF2 HB2
    obtain ⟨k, hk, hg, rfl, BW, XX, FZ⟩ := hrel
    obtain ⟨r, c, rk, ck, X, V⟩ := XX.out
    have BX := hid BW.out
    have FX := hid FZ.out
    have HX := hid X
    have HV := hid V
    clear BW XX FZ X V
    by_cases hlt : k + 1 < lv
    case pos =>
      have hltz : ((k + 1 : Nat) : Int) < (lv : Int) := by omega
      have hk60 : k ≤ 60 := by omega
      have x0 := HX.out.c0
      have x1 := HX.out.c1
      have x2 := HX.out.c2
      have x3 := HX.out.c3
      have x4 := HX.out.c4
      have xl := HX.out.lt
      have hbn : Below wr.heap.size wr (wr.alloc (.cells #[.int .i64 (nestV k).kind, .int .i64 (nestV k).num, .string (nestV k).str, .slice r (nestV k).items.length c, .slice rk (nestV k).keys.length ck] 26)) := (Below.refl _ _).alloc (Nat.le_refl _) _
      have hI : Sl VR 5 (wr.alloc (.cells #[.int .i64 (nestV k).kind, .int .i64 (nestV k).num, .string (nestV k).str, .slice r (nestV k).items.length c, .slice rk (nestV k).keys.length ck] 26)) (.slice (some ⟨wr.heap.size, 0, none⟩) 1 1) [nestV k] := sl_block Cv.enc cv_len (R := VR) (xs := [nestV k]) (ys := [Cv.of (nestV k) r c rk ck]) (heap_alloc_new wr _) rfl rfl (by simp [maxLen]) (fun i hi hi' => by
        match i, hi with
        | 0, _ => exact HV.out.out.below hbn)
      have CL := hid (show Calls Tryd.prog 39 #[.slice (some ⟨wr.heap.size, 0, none⟩) 1 1] (wr.alloc (.cells #[.int .i64 (nestV k).kind, .int .i64 (nestV k).num, .string (nestV k).str, .slice r (nestV k).items.length c, .slice rk (nestV k).keys.length ck] 26)) (fun e w' => ∃ m1 m2 m3 m4, e = .returned (.agg #[.int .i64 4, .int .i64 0, .string ⟨#[]⟩, .slice m1 1 m2, .slice m3 0 m4]) ∧ VK (fromB (wr.alloc (.cells #[.int .i64 (nestV k).kind, .int .i64 (nestV k).num, .string (nestV k).str, .slice r (nestV k).items.length c, .slice rk (nestV k).keys.length ck] 26)).heap.size) w' m1 m2 m3 m4 (nestV (k + 1)) ∧ Below (wr.alloc (.cells #[.int .i64 (nestV k).kind, .int .i64 (nestV k).num, .string (nestV k).str, .slice r (nestV k).items.length c, .slice rk (nestV k).keys.length ck] 26)).heap.size (wr.alloc (.cells #[.int .i64 (nestV k).kind, .int .i64 (nestV k).num, .string (nestV k).str, .slice r (nestV k).items.length c, .slice rk (nestV k).keys.length ck] 26)) w') from
        plist_any [nestV k] _ 1 _ hI (by rw [nodesL, nodesL, nest_nodes]; omega) (by rw [nkeysL, nkeysL, nest_nkeys]; omega))
      have HBN := hid hbn
      clear hI hbn
      go_wp2_with fail
      refine CL.out.mono ?_
      rintro e w3 ⟨r3, c3, k3, q3, rfl, hv3, hb3⟩
      have hb13 := HBN.out.trans (hb3.mono HBN.out.size)
      have y0 := bget hb13 x0
      have y1 := bget hb13 x1
      have y2 := bget hb13 x2
      have y3 := bget hb13 x3
      have y4 := bget hb13 x4
      have f3 : ∀ o, w3.frozen? ⟨bv, o, none⟩ = false := fun o => (hb13.frozen (p := ⟨bv, o, none⟩) xl).trans (FX.out o)
      have hl3 := Nat.lt_of_lt_of_le xl hb13.size
      have hsz : bv + 1 ≤ (wr.alloc (.cells #[.int .i64 (nestV k).kind, .int .i64 (nestV k).num, .string (nestV k).str, .slice r (nestV k).items.length c, .slice rk (nestV k).keys.length ck] 26)).heap.size := Nat.le_trans xl HBN.out.size
      have hBW := BX.out.trans (hb13.mono BX.out.size)
      have hbw : w.heap.size ≤ bv := HS1.out
      have R1 := hid (box5_set (k := 4) (n := 0) (s := ⟨#[]⟩) (vI := .slice r3 1 c3) (vK := .slice k3 0 q3) hl3 y0 y1 y2 y3 y4)
      have R2 := hid (show VK (fromB (bv + 1)) (((((w3.setCell ⟨bv, 0, none⟩ (.int .i64 4)).setCell ⟨bv, 1, none⟩ (.int .i64 0)).setCell ⟨bv, 2, none⟩ (.string ⟨#[]⟩)).setCell ⟨bv, 3, none⟩ (.slice r3 1 c3)).setCell ⟨bv, 4, none⟩ (.slice k3 0 q3)) r3 c3 k3 q3 (nestV (k + 1)) from VK.to (stays_keep fun b hb hlt => ⟨decide_eq_true (Nat.le_trans hsz (of_decide_eq_true hb)), five_heap _ _ 0 _ _ _ _ _ (by have := of_decide_eq_true hb; omega)⟩) hv3)
      have R3 := hid (show ∀ o, (((((w3.setCell ⟨bv, 0, none⟩ (.int .i64 4)).setCell ⟨bv, 1, none⟩ (.int .i64 0)).setCell ⟨bv, 2, none⟩ (.string ⟨#[]⟩)).setCell ⟨bv, 3, none⟩ (.slice r3 1 c3)).setCell ⟨bv, 4, none⟩ (.slice k3 0 q3)).frozen? ⟨bv, o, none⟩ = false from fun o => by simp only [World.frozen?_setCell]; exact f3 o)
      have R4 := hid (((((hBW.setCell (p := ⟨bv, 0, none⟩) hbw (.int .i64 4)).setCell (p := ⟨bv, 1, none⟩) hbw (.int .i64 0)).setCell (p := ⟨bv, 2, none⟩) hbw (.string ⟨#[]⟩)).setCell (p := ⟨bv, 3, none⟩) hbw (.slice r3 1 c3)).setCell (p := ⟨bv, 4, none⟩) hbw (.slice k3 0 q3))
      clear hb13 hv3 hb3 hBW hsz hl3 x0 x1 x2 x3 x4
      go_wp2
      go_roundg (lv - (k + 1) - 1)
      case measure => omega
      case rel => exact ⟨k + 1, by omega, by omega, by go_num, R4.out, ⟨r3, c3, k3, q3, R1.out, R2.out⟩, R3.out⟩
    case neg =>
      have hltz : ¬ ((k + 1 : Nat) : Int) < (lv : Int) := by omega
      have hk32 : 32 < lv ↔ 32 < k + 1 := by omega
      have hk1 : k ≤ 1000 := by omega
      have x0 := HX.out.c0
      have x1 := HX.out.c1
      have x2 := HX.out.c2
      have x3 := HX.out.c3
      have x4 := HX.out.c4
      have xl := HX.out.lt
      have CK := hid (pCheck_any (nestV k) r c rk ck wr HV.out.out (HU.out.below BX.out))
      have E1 := nest_check k hk1
      clear HX HV FX hk hg hlt HS1
      by_cases h32 : 32 < lv
      all_goals
        (first
          | (have z4 : (32 : Int) < (lv : Int) := by omega
             rw [if_pos (hk32.1 h32)] at E1)
          | (have z4 : ¬ (32 : Int) < (lv : Int) := by omega
             rw [if_neg (fun h => h32 (hk32.2 h))] at E1))
        rw [E1] at CK
        clear E1 h32 hk32
        go_wp2_with fail
        refine CK.out.mono ?_
        rintro e w4 ⟨rfl, hb4⟩
        have B4 := hid (BX.out.trans (hb4.mono BX.out.size))
        clear hb4 CK x0 x1 x2 x3 x4 xl
        have NL := hid (nlist_any nd (by omega) w4 rfl HCC.out)
        have hba : Below w4.heap.size w4 (w4.alloc (.cells C 26)) := (Below.refl _ _).alloc (Nat.le_refl _) _
        have BA := hid (B4.out.trans (hba.mono B4.out.size))
        clear hba
        have E2 := nulls_check nd
        by_cases hnd : 4096 < nd + 1
        all_goals
          (first
            | (have z5 : (4096 : Int) < (nd : Int) + 1 := by omega
               rw [if_pos hnd] at E2)
            | (have z5 : ¬ (4096 : Int) < (nd : Int) + 1 := by omega
               rw [if_neg hnd] at E2))
          have HE2 := hid E2
          clear E2 hnd
          go_wp2_with fail
          refine NL.out.mono ?_
          rintro e w5 ⟨r5, c5, k5, q5, rfl, hv5, hb5⟩
          have B5 := hid (BA.out.trans (hb5.mono BA.out.size))
          have CK2 := pCheck_any (.mk 4 0 ⟨#[]⟩ (List.replicate nd (litV 0 0 ⟨#[]⟩)) []) r5 c5 k5 q5 w5 hv5 (HU.out.below B5.out)
          rw [HE2.out] at CK2
          simp only [Val.kind, Val.num, Val.str, Val.items, Val.keys, List.length_replicate, List.length_nil] at CK2
          have CK3 := hid CK2
          clear CK2 hb5 hv5 NL HE2
          go_wp2_with fail
          refine CK3.out.mono ?_
          rintro e w6 ⟨rfl, hb6⟩
          have B6 := hid (B5.out.trans (hb6.mono B5.out.size))
          clear hb6 CK3
          have E3 := zeroS_text bt
          by_cases hbt : 4096 < bt
          all_goals
            (first
              | (have z6 : (4096 : Int) < (bt : Int) := by omega
                 rw [if_pos hbt] at E3)
              | (have z6 : ¬ (4096 : Int) < (bt : Int) := by omega
                 rw [if_neg hbt] at E3))
            have HE3 := hid E3
            clear E3 hbt
            have hcv6 := hcv w6
            go_wp2_with fail
            clear hcv6
            have hb67 : Below w6.heap.size w6 ((w6.alloc (.cells D 5)).alloc (.cells #[.string (zeroS bt)] 9)) := ((Below.refl _ _).alloc (Nat.le_refl _) _).alloc (by simp) _
            have B7 := hid (B6.out.trans (hb67.mono B6.out.size))
            have H7 := hid (show ((w6.alloc (.cells D 5)).alloc (.cells #[.string (zeroS bt)] 9)).heap[w6.heap.size + 1]? = some (.cells #[.string (zeroS bt)] 9 (0, 0)) from (congrArg _ (by simp)).trans (heap_alloc_new (w6.alloc (.cells D 5)) _))
            clear hb67
            refine (mpnull_any _).mono ?_
            rintro e w8 ⟨rfl, hb8⟩
            have B8 := hid (B7.out.trans (hb8.mono B7.out.size))
            have H8 := hid (heap_below hb8 H7.out)
            have hb89 : Below w8.heap.size w8 (w8.alloc (.cells #[.int .i64 0, .int .i64 0, .string ⟨#[]⟩, .slice none 0 0, .slice none 0 0] 26)) := (Below.refl _ _).alloc (Nat.le_refl _) _
            have B9 := hid (B8.out.trans (hb89.mono B8.out.size))
            have H9 := hid (heap_below hb89 H8.out)
            clear hb8 hb89 H7
            go_wp2_with fail
            refine (omap_any _ _ (zeroS bt) (by rw [zeroS_size]; unfold maxLen; omega) _ H9.out (heap_alloc_new w8 _)).mono ?_
            rintro e w9 ⟨r9, c9, k9, q9, rfl, hv9, hb9⟩
            have hb9x : Below w9.heap.size w9 (w9.alloc (.cells #[.int .i64 5, .int .i64 0, .string ⟨#[]⟩, .slice r9 1 c9, .slice k9 1 q9] 26)) := (Below.refl _ _).alloc (Nat.le_refl _) _
            have BB9 := B9.out.trans (hb9.mono B9.out.size)
            have B10 := hid (BB9.trans (hb9x.mono BB9.size))
            have V10 := hid (hv9.below hb9x)
            have X10 := hid (Box5.new w9 5 0 ⟨#[]⟩ (.slice r9 1 c9) (.slice k9 1 q9) 26)
            clear hb9 hb9x BB9 hv9 H8 H9
            go_wp2_with fail
            generalize (w9.alloc (.cells #[.int .i64 5, .int .i64 0, .string ⟨#[]⟩, .slice r9 1 c9, .slice k9 1 q9] 26)) = W10 at *
            generalize w9.heap.size = bm at *
            refine (mpstring_any (zeroS bt) W10).mono ?_
            rintro e w11 ⟨rfl, hb11⟩
            have B11 := hid (B10.out.trans (hb11.mono B10.out.size))
            have X11 := hid (X10.out.below hb11)
            have V11 := hid (V10.out.below hb11)
            clear hb11 X10 V10
            have CS := pCheck_any (litV 3 0 (zeroS bt)) none 0 none 0 w11 (litV_vr (k := 3) (n := 0) (s := zeroS bt) _ (by unfold i64B; omega) (by unfold i64B; omega) (by rw [zeroS_size]; unfold maxLen; omega)) (HU.out.below B11.out)
            rw [str_check, HE3.out] at CS
            have CS2 := hid CS
            clear CS
            go_wp2_with fail
            refine CS2.out.mono ?_
            rintro e w12 ⟨rfl, hb12⟩
            have B12 := hid (B11.out.trans (hb12.mono B11.out.size))
            have X12 := X11.out.below hb12
            have CM := pCheck_any (.mk 5 0 ⟨#[]⟩ [litV 0 0 ⟨#[]⟩] [zeroS bt]) r9 c9 k9 q9 w12 (V11.out.below hb12) (HU.out.below B12.out)
            rw [map_check, HE3.out] at CM
            have CM2 := hid CM
            have y0 := X12.c0
            have y1 := X12.c1
            have y2 := X12.c2
            have y3 := X12.c3
            have y4 := X12.c4
            clear CM hb12 CS2 X11 V11 X12 HE3
            go_wp2_with fail
            refine CM2.out.mono ?_
            rintro e w13 ⟨rfl, hb13⟩
            have B13 := hid (B12.out.trans (hb13.mono B12.out.size))
            clear hb13 CM2 y0 y1 y2 y3 y4
            go_wp2_with fail
            refine (awake_any w13 (HU.out.below B13.out)).mono ?_
            rintro e w14 ⟨rfl, hb14⟩
            have B14 := hid (B13.out.trans (hb14.mono B13.out.size))
            clear hb14
            go_wp2
            go_ret
            exact ⟨rfl, B14.out⟩
set_option maxRecDepth 100000 in
theorem open_u16 {H : Type} {enc : TypeId × Value → H} {W : World} {base : Nat} {v : Value} {d : DataW H} {p : List MemPlace} (o : Value.okWide Tryd.prog W .any base 51 v) (h : DataW.Trod enc Tryd.prog W 0 (fun _ => true) true 51 v d p) : ∃ n : Nat, n ≤ 65535 ∧ v = .int .u16 n := by
  obtain ⟨x, rfl, _, _, wx⟩ := Go.ChangeShapes.open_int Tryd.underlying51 o h
  have : 0 ≤ x ∧ x ≤ 65535 := by simpa [Lit.wf, IntKind.min, IntKind.max, IntKind.bits, IntKind.signed] using wx
  refine ⟨x.toNat, by omega, ?_⟩
  rw [Int.toNat_of_nonneg this.1]

set_option maxRecDepth 100000 in
theorem limits_from (H : Type) (enc : TypeId × Value → H) (W : World) (base : Nat) (v0 v1 v2 : Value) (d0 d1 d2 : DataW H) (p0 p1 p2 : List MemPlace) (o0 : Value.okWide Tryd.prog W .any base 51 v0) (o1 : Value.okWide Tryd.prog W .any base 51 v1) (o2 : Value.okWide Tryd.prog W .any base 51 v2)
    (h0 : DataW.Trod enc Tryd.prog W 0 (fun _ => true) true 51 v0 d0 p0) (h1 : DataW.Trod enc Tryd.prog W 0 (fun _ => true) true 51 v1 d1 p1) (h2 : DataW.Trod enc Tryd.prog W 0 (fun _ => true) true 51 v2 d2 p2) (q0 : Wt Tryd.prog 51 d0) (q1 : Wt Tryd.prog 51 d1) (q2 : Wt Tryd.prog 51 d2) (hu : UT W) :
    Calls Tryd.prog 9 #[v0, v1, v2] W fun e W' => e = .returned (.bool true) ∧ Below W.heap.size W W' := by
  obtain ⟨a, ha, rfl⟩ := open_u16 o0 h0
  obtain ⟨b, hb, rfl⟩ := open_u16 o1 h1
  obtain ⟨c, hc, rfl⟩ := open_u16 o2 h2
  exact limits_law a b c ha hb hc W hu
end Go.Proofs.YtedpdpcibkceeaaDoor
