import Derived.Test.YtedpdpcibkceeaaDoorGet
import Derived.Laws.OwnMore
import Derived.Deep.RegionHeld3
/-
  Contract of the program's Put at a key that is there. Conditions: those ahead of each theorem.
-/
namespace Go.Proofs.YtedpdpcibkceeaaDoor
open Go.RowKit Go.Sort Go.Lib
open Go.Lib (hid)
set_option linter.unusedVariables false
set_option linter.unusedSimpArgs false

theorem list_val (ys : List Cv) (i : Nat) (h : i < ys.length) (j : Nat) (hj : j < 5) : (ys.flatMap Cv.enc)[i * 5 + j]? = (ys[i]).enc[j]? := flat_get Cv.enc 5 cv_len ys i h j hj
theorem sl_imp {α : Type} {R R' : World → List Value → α → Prop} {sz : Nat} {w : World} {v : Value} {xs : List α} (hR : ∀ cs x, R w cs x → R' w cs x) (hs : Sl R sz w v xs) : Sl R' sz w v xs := by
  obtain ⟨r, cap, hv, hl, hc, he⟩ := hs
  refine ⟨r, cap, hv, hl, hc, fun i hi => ?_⟩
  obtain ⟨b, off, cs, hr, hsz, hcell, hx⟩ := he i hi
  exact ⟨b, off, cs, hr, hsz, hcell, hR _ _ hx⟩
theorem sl_rowsK {K : Nat → Bool} {w : World} {v : Value} {B : Nat} {ys : List Cv} {is : List Val} (hl : ys.length = is.length) (h : w.ownsRow B 26 5 v ys.length (ys.flatMap Cv.enc)) (hv : ∀ (i : Nat) (h : i < ys.length) (h' : i < is.length), VR (mask K w) ys[i].enc is[i]) : Sl (fun w cs x => VR (mask K w) cs x) 5 w v is := by
  obtain ⟨r, cap, rfl, h1, h2, he⟩ := sl_of_own Cv.enc cv_len h
  refine ⟨r, cap, by rw [hl], by omega, h2, fun i hi => ?_⟩
  obtain ⟨b, off, cs, hr, hsz, hcell, hx⟩ := he i (by omega)
  subst hx
  exact ⟨b, off, _, hr, hsz, hcell, hv i (by omega) hi⟩
theorem vr5_make {w : World} {r : Option Addr} {c : Nat} {rk : Option Addr} {ck : Nat} {k n : Int} {s : ByteArray} {is : List Val} {ks : List ByteArray} {ni : Nat} (hi : is.length = ni) (hI : Sl VR 5 w (.slice r ni c) is) (hK : Sl StrR 1 w (.slice rk ks.length ck) ks) (hk : i64B k) (hn : i64B n) (hs : s.size ≤ maxLen) (hkl : ks.length ≤ 10000000000000) (hil : ni ≤ 10000000000000) : VR5 w r c rk ck (.mk k n s is ks) := by
  subst hi
  exact VR.make (x := .mk k n s is ks) hI hK hk hn hs hkl hil
theorem five_heap (w : World) (g o : Nat) (v0 v1 v2 v3 v4 : Value) {b : Nat} (h : b ≠ g) : (((((w.setCell ⟨g, o, none⟩ v0).setCell ⟨g, o + 1, none⟩ v1).setCell ⟨g, o + 2, none⟩ v2).setCell ⟨g, o + 3, none⟩ v3).setCell ⟨g, o + 4, none⟩ v4).heap[b]? = w.heap[b]? := by
  rw [Below.heap_setCell _ _ _ _ h, Below.heap_setCell _ _ _ _ h, Below.heap_setCell _ _ _ _ h, Below.heap_setCell _ _ _ _ h, Below.heap_setCell _ _ _ _ h]
theorem five_frozen (w : World) (g o : Nat) (v0 v1 v2 v3 v4 : Value) (p : Addr) : (((((w.setCell ⟨g, o, none⟩ v0).setCell ⟨g, o + 1, none⟩ v1).setCell ⟨g, o + 2, none⟩ v2).setCell ⟨g, o + 3, none⟩ v3).setCell ⟨g, o + 4, none⟩ v4).frozen? p = w.frozen? p := by
  simp only [World.frozen?_setCell]
theorem five_in {w : World} {g o : Nat} {v0 v1 v2 v3 v4 u0 u1 u2 u3 u4 : Value} (e0 : w.cell? ⟨g, o, none⟩ = some u0) (e1 : w.cell? ⟨g, o + 1, none⟩ = some u1) (e2 : w.cell? ⟨g, o + 2, none⟩ = some u2) (e3 : w.cell? ⟨g, o + 3, none⟩ = some u3) (e4 : w.cell? ⟨g, o + 4, none⟩ = some u4) (j : Nat) (u : Value) (hj : [v0, v1, v2, v3, v4][j]? = some u) :
    (((((w.setCell ⟨g, o, none⟩ v0).setCell ⟨g, o + 1, none⟩ v1).setCell ⟨g, o + 2, none⟩ v2).setCell ⟨g, o + 3, none⟩ v3).setCell ⟨g, o + 4, none⟩ v4).cell? ⟨g, o + j, none⟩ = some u := by
  match j, hj with
  | 0, hj =>
    simp at hj; subst hj
    simp only [Nat.add_zero]
    rw [scell_ne (by omega), scell_ne (by omega), scell_ne (by omega), scell_ne (by omega)]
    exact scell_same e0
  | 1, hj =>
    simp at hj; subst hj
    rw [scell_ne (by omega), scell_ne (by omega), scell_ne (by omega)]
    exact scell_same (by rw [scell_ne (by omega)]; exact e1)
  | 2, hj =>
    simp at hj; subst hj
    rw [scell_ne (by omega), scell_ne (by omega)]
    exact scell_same (by rw [scell_ne (by omega), scell_ne (by omega)]; exact e2)
  | 3, hj =>
    simp at hj; subst hj
    rw [scell_ne (by omega)]
    exact scell_same (by rw [scell_ne (by omega), scell_ne (by omega), scell_ne (by omega)]; exact e3)
  | 4, hj =>
    simp at hj; subst hj
    exact scell_same (by rw [scell_ne (by omega), scell_ne (by omega), scell_ne (by omega), scell_ne (by omega)]; exact e4)
  | n + 5, hj => simp at hj
theorem five_out {w : World} {g o : Nat} {v0 v1 v2 v3 v4 : Value} (q : Nat) (hq : q < o ∨ o + 5 ≤ q) : (((((w.setCell ⟨g, o, none⟩ v0).setCell ⟨g, o + 1, none⟩ v1).setCell ⟨g, o + 2, none⟩ v2).setCell ⟨g, o + 3, none⟩ v3).setCell ⟨g, o + 4, none⟩ v4).cell? ⟨g, q, none⟩ = w.cell? ⟨g, q, none⟩ := by
  rw [scell_ne (by omega), scell_ne (by omega), scell_ne (by omega), scell_ne (by omega), scell_ne (by omega)]
theorem OwnV.slK {B : Nat} {w : World} {v : Value} {is : List Val} {K : Nat → Bool} (h : OwnV B w v is) (hk : ∀ b, B ≤ b → K b = true) : Sl VR 5 (mask K w) v is := by
  obtain ⟨ys, hl, ho, hv⟩ := h.ex
  exact sl_of_rows hl (own_mask ho fun g hg => hk g (own_lt ho hg).1) hv (stays_keep fun b hb _ => ⟨hk b (keepB_out hb).1, rfl⟩)
theorem sl_to_mask {K K' : Nat → Bool} {w : World} {is : List Val} {g n c : Nat} (h : Sl (fun w cs x => VR (mask K w) cs x) 5 w (.slice (some ⟨g, 0, none⟩) n c) is) (hg : K' g = true) (hk : ∀ b, K b = true → K' b = true) : Sl VR 5 (mask K' w) (.slice (some ⟨g, 0, none⟩) n c) is := by
  obtain ⟨r, cap, hv, hl, hc, he⟩ := h
  refine ⟨r, cap, hv, hl, hc, fun i hi => ?_⟩
  obtain ⟨b, off, cs, hr, hsz, hcell, hx⟩ := he i hi
  simp only [Value.slice.injEq] at hv
  obtain ⟨hv1, _, _⟩ := hv
  rw [hr] at hv1
  simp only [Option.some.injEq, Addr.mk.injEq, and_true] at hv1
  obtain ⟨rfl, rfl⟩ := hv1
  exact ⟨_, _, cs, hr, hsz, fun j u hj => mask_cell_mk hg (hcell j u hj), vr_stays (stays_wider hk) hx⟩
def PutP (w : World) (y : Val) (e : Ending) (w' : World) : Prop := ∃ r c rk ck, e = .returned (.agg #[.int .i64 y.kind, .int .i64 y.num, .string y.str, .slice r y.items.length c, .slice rk y.keys.length ck]) ∧ VK (fromB w.heap.size) w' r c rk ck y ∧ Below w.heap.size w w'

set_option maxRecDepth 100000 in
set_option maxHeartbeats 4000000 in
theorem put_found (m x : Val) (key : ByteArray) (r : Option Addr) (c : Nat) (rk : Option Addr) (ck : Nat) (rx : Option Addr) (cx : Nat) (rkx : Option Addr) (ckx : Nat) (w : World) (hm : VR5 w r c rk ck m) (hx : VR5 w rx cx rkx ckx x) (ha : AscS m.keys) (hno : nodes m ≤ 1000000) (hnk : nkeys m ≤ 1000000)
    (hxo : nodes x ≤ 1000000) (hxk : nkeys x ≤ 1000000) (hf : hasK m.keys key = true) (hl : lowS m.keys key < m.items.length) :
    Calls Tryd.prog 28 #[.agg #[.int .i64 m.kind, .int .i64 m.num, .string m.str, .slice r m.items.length c, .slice rk m.keys.length ck], .string key, .agg #[.int .i64 x.kind, .int .i64 x.num, .string x.str, .slice rx x.items.length cx, .slice rkx x.keys.length ckx]] w (PutP w (.mk m.kind m.num m.str (m.items.set (lowS m.keys key) x) m.keys)) := by
  obtain ⟨hI, hK, hk, hnu, hs, hkl, hil⟩ := hm.parts
  have CPM := hid (fun (W : World) (hW : Below w.heap.size w W) => copied_any m r c rk ck W (hm.below hW) hno hnk)
  have CPX := hid (fun (W : World) (hW : Below w.heap.size w W) => copied_any x rx cx rkx ckx W (hx.below hW) hxo hxk)
  have BS := hid (fun (W : World) (r : Option Addr) (c : Nat) (h : Sl StrR 1 W (.slice r m.keys.length c) m.keys) => bs_any m.keys r c key W h ha hkl)
  have SK := hid (strs_le hK)
  have BD := hid (show i64B m.kind ∧ i64B m.num ∧ m.str.size ≤ maxLen from ⟨hk, hnu, hs⟩)
  have hlo := lowS_le m.keys key
  rw [hf] at BS
  clear hI hK hk hnu hs hm hx ha hno hnk hxo hxk hf
  generalize hxk : x.kind = xk at *
  generalize hxn : x.num = xn at *
  generalize hxs : x.str = xs at *
  generalize hnx : x.items.length = nx at *
  generalize hnkx : x.keys.length = nkx at *
  have E1 := hid hxk
  have E2 := hid hxn
  have E3 := hid hxs
  have E4 := hid hnx
  have E5 := hid hnkx
  clear hxk hxn hxs hnx hnkx
  obtain ⟨mk, mn, ms, is, ks⟩ := m
  simp only [Val.kind, Val.num, Val.str, Val.items, Val.keys] at CPM BS SK BD hlo hl hil hkl ⊢
  generalize lowS ks key = lo at *
  have hb3 : Below w.heap.size w (((w.alloc (.cells #[.int .i64 mk, .int .i64 mn, .string ms, .slice r is.length c, .slice rk ks.length ck] 26)).alloc (.cells #[.int .i64 xk, .int .i64 xn, .string xs, .slice rx nx cx, .slice rkx nkx ckx] 26)).alloc (.cells #[.int .i64 0, .int .i64 0, .string { data := #[] }, .slice none 0 0, .slice none 0 0] 26)) := (((Below.refl _ _).alloc (Nat.le_refl _) _).alloc (by simp) _).alloc (by simp; omega) _
  go_enter Tryd.func28, Tryd.ntmps28
  go_wp2_with fail
  have x0 : (((w.alloc (.cells #[.int .i64 mk, .int .i64 mn, .string ms, .slice r is.length c, .slice rk ks.length ck] 26)).alloc (.cells #[.int .i64 xk, .int .i64 xn, .string xs, .slice rx nx cx, .slice rkx nkx ckx] 26)).alloc (.cells #[.int .i64 0, .int .i64 0, .string { data := #[] }, .slice none 0 0, .slice none 0 0] 26)).cell? ⟨w.heap.size + 1, 0, none⟩ = some (.int .i64 xk) := bget ((Below.refl _ _).alloc (Nat.le_refl _) _) (cell_at (by simp) rfl)
  have x1 : (((w.alloc (.cells #[.int .i64 mk, .int .i64 mn, .string ms, .slice r is.length c, .slice rk ks.length ck] 26)).alloc (.cells #[.int .i64 xk, .int .i64 xn, .string xs, .slice rx nx cx, .slice rkx nkx ckx] 26)).alloc (.cells #[.int .i64 0, .int .i64 0, .string { data := #[] }, .slice none 0 0, .slice none 0 0] 26)).cell? ⟨w.heap.size + 1, 1, none⟩ = some (.int .i64 xn) := bget ((Below.refl _ _).alloc (Nat.le_refl _) _) (cell_at (by simp) rfl)
  have x2 : (((w.alloc (.cells #[.int .i64 mk, .int .i64 mn, .string ms, .slice r is.length c, .slice rk ks.length ck] 26)).alloc (.cells #[.int .i64 xk, .int .i64 xn, .string xs, .slice rx nx cx, .slice rkx nkx ckx] 26)).alloc (.cells #[.int .i64 0, .int .i64 0, .string { data := #[] }, .slice none 0 0, .slice none 0 0] 26)).cell? ⟨w.heap.size + 1, 2, none⟩ = some (.string xs) := bget ((Below.refl _ _).alloc (Nat.le_refl _) _) (cell_at (by simp) rfl)
  have x3 : (((w.alloc (.cells #[.int .i64 mk, .int .i64 mn, .string ms, .slice r is.length c, .slice rk ks.length ck] 26)).alloc (.cells #[.int .i64 xk, .int .i64 xn, .string xs, .slice rx nx cx, .slice rkx nkx ckx] 26)).alloc (.cells #[.int .i64 0, .int .i64 0, .string { data := #[] }, .slice none 0 0, .slice none 0 0] 26)).cell? ⟨w.heap.size + 1, 3, none⟩ = some (.slice rx nx cx) := bget ((Below.refl _ _).alloc (Nat.le_refl _) _) (cell_at (by simp) rfl)
  have x4 : (((w.alloc (.cells #[.int .i64 mk, .int .i64 mn, .string ms, .slice r is.length c, .slice rk ks.length ck] 26)).alloc (.cells #[.int .i64 xk, .int .i64 xn, .string xs, .slice rx nx cx, .slice rkx nkx ckx] 26)).alloc (.cells #[.int .i64 0, .int .i64 0, .string { data := #[] }, .slice none 0 0, .slice none 0 0] 26)).cell? ⟨w.heap.size + 1, 4, none⟩ = some (.slice rkx nkx ckx) := bget ((Below.refl _ _).alloc (Nat.le_refl _) _) (cell_at (by simp) rfl)
  have t0 : (((w.alloc (.cells #[.int .i64 mk, .int .i64 mn, .string ms, .slice r is.length c, .slice rk ks.length ck] 26)).alloc (.cells #[.int .i64 xk, .int .i64 xn, .string xs, .slice rx nx cx, .slice rkx nkx ckx] 26)).alloc (.cells #[.int .i64 0, .int .i64 0, .string { data := #[] }, .slice none 0 0, .slice none 0 0] 26)).cell? ⟨w.heap.size + 1 + 1, 0, none⟩ = some (.int .i64 0) := cell_at (by simp) rfl
  have t1 : (((w.alloc (.cells #[.int .i64 mk, .int .i64 mn, .string ms, .slice r is.length c, .slice rk ks.length ck] 26)).alloc (.cells #[.int .i64 xk, .int .i64 xn, .string xs, .slice rx nx cx, .slice rkx nkx ckx] 26)).alloc (.cells #[.int .i64 0, .int .i64 0, .string { data := #[] }, .slice none 0 0, .slice none 0 0] 26)).cell? ⟨w.heap.size + 1 + 1, 1, none⟩ = some (.int .i64 0) := cell_at (by simp) rfl
  have t2 : (((w.alloc (.cells #[.int .i64 mk, .int .i64 mn, .string ms, .slice r is.length c, .slice rk ks.length ck] 26)).alloc (.cells #[.int .i64 xk, .int .i64 xn, .string xs, .slice rx nx cx, .slice rkx nkx ckx] 26)).alloc (.cells #[.int .i64 0, .int .i64 0, .string { data := #[] }, .slice none 0 0, .slice none 0 0] 26)).cell? ⟨w.heap.size + 1 + 1, 2, none⟩ = some (.string { data := #[] }) := cell_at (by simp) rfl
  have t3 : (((w.alloc (.cells #[.int .i64 mk, .int .i64 mn, .string ms, .slice r is.length c, .slice rk ks.length ck] 26)).alloc (.cells #[.int .i64 xk, .int .i64 xn, .string xs, .slice rx nx cx, .slice rkx nkx ckx] 26)).alloc (.cells #[.int .i64 0, .int .i64 0, .string { data := #[] }, .slice none 0 0, .slice none 0 0] 26)).cell? ⟨w.heap.size + 1 + 1, 3, none⟩ = some (.slice none 0 0) := cell_at (by simp) rfl
  have t4 : (((w.alloc (.cells #[.int .i64 mk, .int .i64 mn, .string ms, .slice r is.length c, .slice rk ks.length ck] 26)).alloc (.cells #[.int .i64 xk, .int .i64 xn, .string xs, .slice rx nx cx, .slice rkx nkx ckx] 26)).alloc (.cells #[.int .i64 0, .int .i64 0, .string { data := #[] }, .slice none 0 0, .slice none 0 0] 26)).cell? ⟨w.heap.size + 1 + 1, 4, none⟩ = some (.slice none 0 0) := cell_at (by simp) rfl
  have hfs : ∀ o, (((w.alloc (.cells #[.int .i64 mk, .int .i64 mn, .string ms, .slice r is.length c, .slice rk ks.length ck] 26)).alloc (.cells #[.int .i64 xk, .int .i64 xn, .string xs, .slice rx nx cx, .slice rkx nkx ckx] 26)).alloc (.cells #[.int .i64 0, .int .i64 0, .string { data := #[] }, .slice none 0 0, .slice none 0 0] 26)).frozen? ⟨w.heap.size + 1 + 1, o, none⟩ = false := fun o => by
    have h : (((w.alloc (.cells #[.int .i64 mk, .int .i64 mn, .string ms, .slice r is.length c, .slice rk ks.length ck] 26)).alloc (.cells #[.int .i64 xk, .int .i64 xn, .string xs, .slice rx nx cx, .slice rkx nkx ckx] 26)).alloc (.cells #[.int .i64 0, .int .i64 0, .string { data := #[] }, .slice none 0 0, .slice none 0 0] 26)).heap[w.heap.size + 1 + 1]? = some (.cells #[.int .i64 0, .int .i64 0, .string { data := #[] }, .slice none 0 0, .slice none 0 0] 26 (0, 0)) := (congrArg _ (by simp)).trans (MapKept.heap_alloc _ _).1
    unfold World.frozen?
    simp only [h]
    simp
  have z3 : w.heap.size + 1 + 1 + 1 ≤ (((w.alloc (.cells #[.int .i64 mk, .int .i64 mn, .string ms, .slice r is.length c, .slice rk ks.length ck] 26)).alloc (.cells #[.int .i64 xk, .int .i64 xn, .string xs, .slice rx nx cx, .slice rkx nkx ckx] 26)).alloc (.cells #[.int .i64 0, .int .i64 0, .string { data := #[] }, .slice none 0 0, .slice none 0 0] 26)).heap.size := by simp
  generalize (((w.alloc (.cells #[.int .i64 mk, .int .i64 mn, .string ms, .slice r is.length c, .slice rk ks.length ck] 26)).alloc (.cells #[.int .i64 xk, .int .i64 xn, .string xs, .slice rx nx cx, .slice rkx nkx ckx] 26)).alloc (.cells #[.int .i64 0, .int .i64 0, .string { data := #[] }, .slice none 0 0, .slice none 0 0] 26)) = W3 at *
  refine (CPM.out W3 hb3).mono ?_
  rintro e w4 ⟨r4, c4, rk4, ck4, M, rfl, hx4, hb4⟩
  simp only [Val.kind, Val.num, Val.str, Val.items, Val.keys]
  have X4 := hid hx4
  have hb5 : Below w4.heap.size w4 (w4.alloc (.cells #[.int .i64 mk, .int .i64 mn, .string ms, .slice r4 is.length c4, .slice rk4 ks.length ck4] 26)) := (Below.refl _ _).alloc (Nat.le_refl _) _
  have hb35 := hb4.trans (hb5.mono hb4.size)
  have OI := hid (hx4.items.to (w' := w4.alloc (.cells #[.int .i64 mk, .int .i64 mn, .string ms, .slice r4 is.length c4, .slice rk4 ks.length ck4] 26)) fun b _ hb => hb5.block b hb)
  have OKY := hid (own_keep hx4.keys (w' := w4.alloc (.cells #[.int .i64 mk, .int .i64 mn, .string ms, .slice r4 is.length c4, .slice rk4 ks.length ck4] 26)) fun g hg => hb5.block g (own_lt hx4.keys hg).2)
  have SKY := hid (ownK_sl OKY.out SK.out)
  have HMl := hid hx4.le
  have HKl := hid hx4.lt
  have y0 := bget hb35 x0
  have y1 := bget hb35 x1
  have y2 := bget hb35 x2
  have y3 := bget hb35 x3
  have y4 := bget hb35 x4
  have s0 := bget hb35 t0
  have s1 := bget hb35 t1
  have s2 := bget hb35 t2
  have s3 := bget hb35 t3
  have s4 := bget hb35 t4
  have hfs5 : ∀ o, (w4.alloc (.cells #[.int .i64 mk, .int .i64 mn, .string ms, .slice r4 is.length c4, .slice rk4 ks.length ck4] 26)).frozen? ⟨w.heap.size + 1 + 1, o, none⟩ = false := fun o => (hb35.frozen (p := ⟨w.heap.size + 1 + 1, o, none⟩) (by simp only; omega)).trans (hfs o)
  have B5 := hid (hb3.trans (hb35.mono hb3.size))
  have hz5 : W3.heap.size + 1 ≤ (w4.alloc (.cells #[.int .i64 mk, .int .i64 mn, .string ms, .slice r4 is.length c4, .slice rk4 ks.length ck4] 26)).heap.size := by have := hb4.size; simp; omega
  have hzw := hb4.size
  have o0 : (w4.alloc (.cells #[.int .i64 mk, .int .i64 mn, .string ms, .slice r4 is.length c4, .slice rk4 ks.length ck4] 26)).cell? ⟨w4.heap.size, 0, none⟩ = some (.int .i64 mk) := cell_at rfl rfl
  have o1 : (w4.alloc (.cells #[.int .i64 mk, .int .i64 mn, .string ms, .slice r4 is.length c4, .slice rk4 ks.length ck4] 26)).cell? ⟨w4.heap.size, 1, none⟩ = some (.int .i64 mn) := cell_at rfl rfl
  have o2 : (w4.alloc (.cells #[.int .i64 mk, .int .i64 mn, .string ms, .slice r4 is.length c4, .slice rk4 ks.length ck4] 26)).cell? ⟨w4.heap.size, 2, none⟩ = some (.string ms) := cell_at rfl rfl
  have o3 : (w4.alloc (.cells #[.int .i64 mk, .int .i64 mn, .string ms, .slice r4 is.length c4, .slice rk4 ks.length ck4] 26)).cell? ⟨w4.heap.size, 3, none⟩ = some (.slice r4 is.length c4) := cell_at rfl rfl
  have o4 : (w4.alloc (.cells #[.int .i64 mk, .int .i64 mn, .string ms, .slice r4 is.length c4, .slice rk4 ks.length ck4] 26)).cell? ⟨w4.heap.size, 4, none⟩ = some (.slice rk4 ks.length ck4) := cell_at rfl rfl
  clear hx4 hb4 hb5 hb35 x0 x1 x2 x3 x4 t0 t1 t2 t3 t4 hfs
  go_wp2_with fail
  generalize (w4.alloc (.cells #[.int .i64 mk, .int .i64 mn, .string ms, .slice r4 is.length c4, .slice rk4 ks.length ck4] 26)) = W5 at *
  refine (BS.out W5 _ _ SKY.out).mono ?_
  rintro e w6 ⟨rfl, hb6⟩
  have B6 := hid (B5.out.trans (hb6.mono B5.out.size))
  have BB6 := hid hb6
  have z6 := hb6.size
  have y0' := bget hb6 y0
  have y1' := bget hb6 y1
  have y2' := bget hb6 y2
  have y3' := bget hb6 y3
  have y4' := bget hb6 y4
  have o0' := bget hb6 o0
  have o1' := bget hb6 o1
  have o2' := bget hb6 o2
  have o3' := bget hb6 o3
  have o4' := bget hb6 o4
  have s0' := bget hb6 s0
  have s1' := bget hb6 s1
  have s2' := bget hb6 s2
  have s3' := bget hb6 s3
  have s4' := bget hb6 s4
  have hfs6 : ∀ o, w6.frozen? ⟨w.heap.size + 1 + 1, o, none⟩ = false := fun o => (hb6.frozen (p := ⟨w.heap.size + 1 + 1, o, none⟩) (by simp only; omega)).trans (hfs5 o)
  have OI6 := hid (OI.out.to fun b _ hb => hb6.block b hb)
  have OK6 := hid (own_keep OKY.out fun g hg => hb6.block g (own_lt OKY.out hg).2)
  have hltz : (lo : Int) < (is.length : Int) := by omega
  have hltn : ¬ (is.length : Int) < (lo : Int) := by omega
  have hlte : ((lo : Int) == (is.length : Int)) = false := by simp; omega
  clear hb6 y0 y1 y2 y3 y4 o0 o1 o2 o3 o4 s0 s1 s2 s3 s4 hfs5 OI OKY SKY
  go_wp2_with fail
  obtain ⟨ys, hyl, hown, hvr⟩ := OI6.out.ex
  have hyl : ys.length = is.length := hyl
  have hown : w6.ownsRow M 26 5 (.slice r4 is.length c4) ys.length (ys.flatMap Cv.enc) := hown
  have hvr : ∀ (i : Nat) (h : i < ys.length) (h' : i < is.length), VR (mask (keepB M (.slice r4 is.length c4)) w6) ys[i].enc is[i] := hvr
  obtain ⟨g, hr4, hgM, hgl⟩ : ∃ g, r4 = some ⟨g, 0, none⟩ ∧ M ≤ g ∧ g < w4.heap.size := by
    obtain ⟨ys4, hyl4, hown4, _⟩ := X4.out.items.ex
    have hyl4 : ys4.length = is.length := hyl4
    have hown4 : w4.ownsRow M 26 5 (.slice r4 is.length c4) ys4.length (ys4.flatMap Cv.enc) := hown4
    rcases hown4.2 with ⟨e, h0⟩ | ⟨g, cap, cur, e, hbM, hg, _⟩
    · exfalso
      have : is.length = 0 := by have := congrArg (fun v => match v with | Value.slice _ n _ => n | _ => 0) e; simpa using this
      omega
    · refine ⟨g, ?_, hbM, lt_of_block hg⟩
      have := congrArg (fun v => match v with | Value.slice r _ _ => r | _ => none) e
      simpa using this
  subst hr4
  have hylo : lo < ys.length := by omega
  have hcell : ∀ j v, (ys[lo]).enc[j]? = some v → w6.cell? ⟨g, lo * 5 + j, none⟩ = some v := fun j v hj => by
    have hj5 : j < 5 := by
      have := (List.getElem?_eq_some_iff.1 hj).1
      rwa [cv_len] at this
    have h1 := hown
    rw [hyl] at h1
    rw [h1.cellAt (lo * 5 + j) (by omega), list_val ys lo hylo j hj5]
    exact hj
  have d0 := hcell 0 _ rfl
  have d1 := hcell 1 _ rfl
  have d2 := hcell 2 _ rfl
  have d3 := hcell 3 _ rfl
  have d4 := hcell 4 _ rfl
  simp only [Nat.add_zero] at d0
  have hfg : ∀ o, w6.frozen? ⟨g, o, none⟩ = false := fun o => by
    have h1 := hown
    rw [hyl] at h1
    exact h1.frozenAt o
  have hg6 : g < w6.heap.size := by have := World.block_lt_of_cell? _ _ d0; simpa using this
  have hgne1 : g ≠ w4.heap.size := by omega
  have hgne2 : g ≠ w.heap.size + 1 := by have := HMl.out; omega
  have hgne3 : g ≠ w.heap.size + 1 + 1 := by have := HMl.out; omega
  have HOWN := hid hown
  have HVR := hid hvr
  clear hcell hown hvr OI6
  go_region_held3 (fun w' => w'.cell? ⟨w4.heap.size, 3, none⟩ = some (.slice (some ⟨g, 0, none⟩) is.length c4) ∧ w'.cell? ⟨w.heap.size + 1, 0, none⟩ = some (.int .i64 xk) ∧ w'.cell? ⟨w.heap.size + 1, 1, none⟩ = some (.int .i64 xn) ∧ w'.cell? ⟨w.heap.size + 1, 2, none⟩ = some (.string xs) ∧ w'.cell? ⟨w.heap.size + 1, 3, none⟩ = some (.slice rx nx cx) ∧ w'.cell? ⟨w.heap.size + 1, 4, none⟩ = some (.slice rkx nkx ckx))
    (first | go_keep | (refine ⟨bget hb7 ?_, bget hb7 ?_, bget hb7 ?_, bget hb7 ?_, bget hb7 ?_, bget hb7 ?_⟩ <;> (go_split_ands; assumption)))
    (first | (go_at_call 47; refine (CPX.out _ (by exact B6.out.drew)).mono ?_; rintro e w7 ⟨r7, c7, rk7, ck7, M7, rfl, hx7, hb7⟩; rw [E1.out, E2.out, E3.out, E4.out, E5.out]; have e0 := bget hb7 (show w6.drew.cell? ⟨g, lo * 5, none⟩ = some _ from d0); have e1 := bget hb7 (show w6.drew.cell? ⟨g, lo * 5 + 1, none⟩ = some _ from d1); have e2 := bget hb7 (show w6.drew.cell? ⟨g, lo * 5 + 2, none⟩ = some _ from d2); have e3 := bget hb7 (show w6.drew.cell? ⟨g, lo * 5 + 3, none⟩ = some _ from d3); have e4 := bget hb7 (show w6.drew.cell? ⟨g, lo * 5 + 4, none⟩ = some _ from d4); have hfg7 : ∀ o, w7.frozen? ⟨g, o, none⟩ = false := fun o => (hb7.frozen (p := ⟨g, o, none⟩) hg6).trans (hfg o)))
  have Z7 := hid (show w6.heap.size ≤ w7.heap.size from hb7.size)
  have B7 := hid (show Below w.heap.size w w7 from B6.out.drew.trans (hb7.mono (by exact B6.out.size)))
  have B67 := hid (show Below w6.heap.size w6 w7 from (Below.refl _ _).drew.trans hb7)
  have O6 := hid (show M7 = M7 from rfl)
  have W9 := hid (show ∀ W8, W8 = (((((w7.setCell ⟨g, lo * 5, none⟩ (.int .i64 xk)).setCell ⟨g, lo * 5 + 1, none⟩ (.int .i64 xn)).setCell ⟨g, lo * 5 + 2, none⟩ (.string xs)).setCell ⟨g, lo * 5 + 3, none⟩ (.slice r7 nx c7)).setCell ⟨g, lo * 5 + 4, none⟩ (.slice rk7 nkx ck7)) → ∃ y0 : World, y0 = W8 from fun W8 _ => ⟨W8, rfl⟩)
  have n8 : ∀ b, b ≠ g → (((((w7.setCell ⟨g, lo * 5, none⟩ (.int .i64 xk)).setCell ⟨g, lo * 5 + 1, none⟩ (.int .i64 xn)).setCell ⟨g, lo * 5 + 2, none⟩ (.string xs)).setCell ⟨g, lo * 5 + 3, none⟩ (.slice r7 nx c7)).setCell ⟨g, lo * 5 + 4, none⟩ (.slice rk7 nkx ck7)).heap[b]? = w7.heap[b]? := fun b hb => five_heap _ _ _ _ _ _ _ _ hb
  have i8 := five_in (v0 := .int .i64 xk) (v1 := .int .i64 xn) (v2 := .string xs) (v3 := .slice r7 nx c7) (v4 := .slice rk7 nkx ck7) e0 e1 e2 e3 e4
  have k8 : ∀ q, (q < lo * 5 ∨ lo * 5 + 5 ≤ q) → (((((w7.setCell ⟨g, lo * 5, none⟩ (.int .i64 xk)).setCell ⟨g, lo * 5 + 1, none⟩ (.int .i64 xn)).setCell ⟨g, lo * 5 + 2, none⟩ (.string xs)).setCell ⟨g, lo * 5 + 3, none⟩ (.slice r7 nx c7)).setCell ⟨g, lo * 5 + 4, none⟩ (.slice rk7 nkx ck7)).cell? ⟨g, q, none⟩ = w7.cell? ⟨g, q, none⟩ := fun q hq => five_out q hq
  have f8 : ∀ o, (((((w7.setCell ⟨g, lo * 5, none⟩ (.int .i64 xk)).setCell ⟨g, lo * 5 + 1, none⟩ (.int .i64 xn)).setCell ⟨g, lo * 5 + 2, none⟩ (.string xs)).setCell ⟨g, lo * 5 + 3, none⟩ (.slice r7 nx c7)).setCell ⟨g, lo * 5 + 4, none⟩ (.slice rk7 nkx ck7)).frozen? ⟨w.heap.size + 1 + 1, o, none⟩ = false := fun o => by
    rw [five_frozen]
    exact (B67.out.frozen (p := ⟨w.heap.size + 1 + 1, o, none⟩) (by simp only; omega)).trans (hfs6 o)
  have z8 : (((((w7.setCell ⟨g, lo * 5, none⟩ (.int .i64 xk)).setCell ⟨g, lo * 5 + 1, none⟩ (.int .i64 xn)).setCell ⟨g, lo * 5 + 2, none⟩ (.string xs)).setCell ⟨g, lo * 5 + 3, none⟩ (.slice r7 nx c7)).setCell ⟨g, lo * 5 + 4, none⟩ (.slice rk7 nkx ck7)).heap.size = w7.heap.size := by simp [World.setCell]
  have B8 : Below w.heap.size w (((((w7.setCell ⟨g, lo * 5, none⟩ (.int .i64 xk)).setCell ⟨g, lo * 5 + 1, none⟩ (.int .i64 xn)).setCell ⟨g, lo * 5 + 2, none⟩ (.string xs)).setCell ⟨g, lo * 5 + 3, none⟩ (.slice r7 nx c7)).setCell ⟨g, lo * 5 + 4, none⟩ (.slice rk7 nkx ck7)) := ((((B7.out.setCell (by simp only; have := HMl.out; omega) _).setCell (by simp only; have := HMl.out; omega) _).setCell (by simp only; have := HMl.out; omega) _).setCell (by simp only; have := HMl.out; omega) _).setCell (by simp only; have := HMl.out; omega) _
  have N8 := hid n8
  have I8 := hid i8
  have K8 := hid k8
  have Bb8 := hid B8
  have HX7 := hid hx7
  clear n8 i8 k8 B8 hb7 hx7 O6 W9
  generalize (((((w7.setCell ⟨g, lo * 5, none⟩ (.int .i64 xk)).setCell ⟨g, lo * 5 + 1, none⟩ (.int .i64 xn)).setCell ⟨g, lo * 5 + 2, none⟩ (.string xs)).setCell ⟨g, lo * 5 + 3, none⟩ (.slice r7 nx c7)).setCell ⟨g, lo * 5 + 4, none⟩ (.slice rk7 nkx ck7)) = W8 at *
  have cc : ∀ (b o : Nat) (v : Value), b ≠ g → w6.cell? ⟨b, o, none⟩ = some v → W8.cell? ⟨b, o, none⟩ = some v := fun b o v hb h => by
    exact Eq.trans (World.cell?_of_block (w := w7) (w' := W8) (a := ⟨b, o, none⟩) (N8.out b hb)) (bget B67.out h)
  have p0 := cc _ _ _ (by omega) o0'
  have p1 := cc _ _ _ (by omega) o1'
  have p2 := cc _ _ _ (by omega) o2'
  have p3 := cc _ _ _ (by omega) o3'
  have p4 := cc _ _ _ (by omega) o4'
  have q0 := cc _ _ _ (by omega) s0'
  have q1 := cc _ _ _ (by omega) s1'
  have q2 := cc _ _ _ (by omega) s2'
  have q3 := cc _ _ _ (by omega) s3'
  have q4 := cc _ _ _ (by omega) s4'
  clear cc
  clear o0' o1' o2' o3' o4' s0' s1' s2' s3' s4' y0' y1' y2' y3' y4' e0 e1 e2 e3 e4 d0 d1 d2 d3 d4
  go_wp2
  have HL := HMl.out
  have n9 : ∀ b, b ≠ w.heap.size + 1 + 1 → (((((W8.setCell ⟨w.heap.size + 1 + 1, 0, none⟩ (.int .i64 mk)).setCell ⟨w.heap.size + 1 + 1, 1, none⟩ (.int .i64 mn)).setCell ⟨w.heap.size + 1 + 1, 2, none⟩ (.string ms)).setCell ⟨w.heap.size + 1 + 1, 3, none⟩ (.slice (some ⟨g, 0, none⟩) is.length c4)).setCell ⟨w.heap.size + 1 + 1, 4, none⟩ (.slice rk4 ks.length ck4)).heap[b]? = W8.heap[b]? := fun b hb => five_heap W8 _ 0 _ _ _ _ _ hb
  have hKx : keepB M (.slice (some ⟨g, 0, none⟩) is.length c4) = keepB M (.slice (some ⟨g, 0, none⟩) is.length c4) := rfl
  have S6 := sl_rowsK hyl HOWN.out HVR.out
  have hne : ∀ b, keepB M (.slice (some ⟨g, 0, none⟩) is.length c4) b = true → M ≤ b ∧ b ≠ g := fun b hb => ⟨(keepB_out hb).1, fun e => (keepB_out hb).2 (by simp [Value.ownBlock, e])⟩
  have S7 : Sl (fun w cs x => VR (mask (keepB M (.slice (some ⟨g, 0, none⟩) is.length c4)) w) cs x) 5 w7 (.slice (some ⟨g, 0, none⟩) is.length c4) is :=
    sl_stays (fun b o v h => bget B67.out h) (fun cs x h => vr_stays (stays_below B67.out) h) S6
  have S9 := sl_set (w' := (((((W8.setCell ⟨w.heap.size + 1 + 1, 0, none⟩ (.int .i64 mk)).setCell ⟨w.heap.size + 1 + 1, 1, none⟩ (.int .i64 mn)).setCell ⟨w.heap.size + 1 + 1, 2, none⟩ (.string ms)).setCell ⟨w.heap.size + 1 + 1, 3, none⟩ (.slice (some ⟨g, 0, none⟩) is.length c4)).setCell ⟨w.heap.size + 1 + 1, 4, none⟩ (.slice rk4 ks.length ck4))) S7 lo hl x [.int .i64 xk, .int .i64 xn, .string xs, .slice r7 nx c7, .slice rk7 nkx ck7] rfl
    (fun cs y h => vr_stays (stays_keep fun b hb hlt => ⟨hb, (n9 b (by have := (hne b hb).1; omega)).trans (N8.out b (hne b hb).2)⟩) h)
    (by
      have h := HX7.out.vk
      have h := VK.to (K' := keepB M (.slice (some ⟨g, 0, none⟩) is.length c4)) (w' := (((((W8.setCell ⟨w.heap.size + 1 + 1, 0, none⟩ (.int .i64 mk)).setCell ⟨w.heap.size + 1 + 1, 1, none⟩ (.int .i64 mn)).setCell ⟨w.heap.size + 1 + 1, 2, none⟩ (.string ms)).setCell ⟨w.heap.size + 1 + 1, 3, none⟩ (.slice (some ⟨g, 0, none⟩) is.length c4)).setCell ⟨w.heap.size + 1 + 1, 4, none⟩ (.slice rk4 ks.length ck4))) (stays_keep fun b hb hlt => by
        have hb : w6.heap.size ≤ b := of_decide_eq_true (show decide (w6.heap.size ≤ b) = true from hb)
        refine ⟨keepB_mk (by omega) (fun e => ?_), (n9 b (by omega)).trans (N8.out b (by omega))⟩
        have : g = b := by simpa [Value.ownBlock] using e
        omega) h
      unfold VK VR5 at h
      rw [E1.out, E2.out, E3.out, E4.out, E5.out] at h
      exact h)
    (fun j u hj => by
      rw [Nat.zero_add]
      exact Eq.trans (World.cell?_of_block (w := W8) (a := ⟨g, lo * 5 + j, none⟩) (n9 g hgne3)) (I8.out j u hj))
    (fun q hq => by
      exact Eq.trans (World.cell?_of_block (w := W8) (a := ⟨g, q, none⟩) (n9 g hgne3)) (K8.out q (by omega)))
  have SI := sl_to_mask (K' := fromB w.heap.size) S9 (decide_eq_true (by omega)) (fun b hb => decide_eq_true (by have := (hne b hb).1; omega))
  have SKF : Sl StrR 1 (mask (fromB w.heap.size) (((((W8.setCell ⟨w.heap.size + 1 + 1, 0, none⟩ (.int .i64 mk)).setCell ⟨w.heap.size + 1 + 1, 1, none⟩ (.int .i64 mn)).setCell ⟨w.heap.size + 1 + 1, 2, none⟩ (.string ms)).setCell ⟨w.heap.size + 1 + 1, 3, none⟩ (.slice (some ⟨g, 0, none⟩) is.length c4)).setCell ⟨w.heap.size + 1 + 1, 4, none⟩ (.slice rk4 ks.length ck4))) (.slice rk4 ks.length ck4) ks := ownK_sl (B := W3.heap.size) (own_mask (own_keep OK6.out fun b hb => by
    have h1 := own_lt OK6.out hb
    have h2 := HKl.out b hb
    exact ((n9 b (by omega)).trans (N8.out b (by omega))).trans (B67.out.block b h1.2)) fun b hb => decide_eq_true (by have := (own_lt OK6.out hb).1; omega)) SK.out
  have HV := vr5_make (by simp) SI SKF BD.out.1 BD.out.2.1 BD.out.2.2 hkl hil
  have HB : Below w.heap.size w (((((W8.setCell ⟨w.heap.size + 1 + 1, 0, none⟩ (.int .i64 mk)).setCell ⟨w.heap.size + 1 + 1, 1, none⟩ (.int .i64 mn)).setCell ⟨w.heap.size + 1 + 1, 2, none⟩ (.string ms)).setCell ⟨w.heap.size + 1 + 1, 3, none⟩ (.slice (some ⟨g, 0, none⟩) is.length c4)).setCell ⟨w.heap.size + 1 + 1, 4, none⟩ (.slice rk4 ks.length ck4)) := (((((Bb8.out.setCell (by simp only; omega) _).setCell (by simp only; omega) _).setCell (by simp only; omega) _).setCell (by simp only; omega) _).setCell (by simp only; omega) _)
  refine bodyPost_ret (v := .agg #[.int .i64 mk, .int .i64 mn, .string ms, .slice (some ⟨g, 0, none⟩) is.length c4, .slice rk4 ks.length ck4]) (by simp [results, Tryd.results28, go_sem, q0, q1, q2, q3, q4]) rfl ⟨some ⟨g, 0, none⟩, c4, rk4, ck4, ?_, HV, HB⟩
  simp only [Val.kind, Val.num, Val.str, Val.items, Val.keys, List.length_set]
end Go.Proofs.YtedpdpcibkceeaaDoor
