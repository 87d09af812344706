import Derived.Test.YtedpdpcibkceeaaDoorPut
import Derived.Test.YtedpdpcibkceeaaDoorInw
/-
  Contract of the program's Put at a key that is not there. Conditions: those ahead of each theorem.
-/
namespace Go.Proofs.YtedpdpcibkceeaaDoor
open Go.RowKit Go.Sort Go.Lib
open Go.Lib (hid)
set_option linter.unusedVariables false
set_option linter.unusedSimpArgs false

def zeroC : Cv := ⟨0, 0, ⟨#[]⟩, none, 0, 0, none, 0, 0⟩
theorem all2_insert {R : Cv → Val → Prop} {ys : List Cv} {is : List Val} {y : Cv} {z : Val} {n : Nat} (hl : ys.length = is.length) (hn : n ≤ ys.length) (h : ∀ (i : Nat) (h : i < ys.length) (h' : i < is.length), R ys[i] is[i]) (hz : R y z) : ∀ (i : Nat) (h : i < (ys.insertIdx n y).length) (h' : i < (is.insertIdx n z).length), R (ys.insertIdx n y)[i] (is.insertIdx n z)[i] := by
  induction ys generalizing is n with
  | nil =>
    have hi : is = [] := List.eq_nil_of_length_eq_zero (by simpa using hl.symm)
    have h0 : n = 0 := by simpa using hn
    subst hi; subst h0
    intro i h1 h2
    have : i = 0 := by simpa using h1
    subst this
    exact hz
  | cons a l ih =>
    cases is with
    | nil => simp at hl
    | cons b m =>
      cases n with
      | zero =>
        intro i h1 h2
        cases i with
        | zero => exact hz
        | succ i => exact h i (by simpa using h1) (by simpa using h2)
      | succ n =>
        intro i h1 h2
        cases i with
        | zero => exact h 0 (by simp) (by simp)
        | succ i => exact ih (by simpa using hl) (by simpa using hn) (fun j h3 h4 => h (j + 1) (by simpa using h3) (by simpa using h4)) i (by simpa using h1) (by simpa using h2)
theorem set_insert {α : Type} (x y : α) : ∀ (l : List α) (n : Nat), n ≤ l.length → (l.insertIdx n y).set n x = l.insertIdx n x
  | [], n, h => by
    have : n = 0 := by simpa using h
    subst this; rfl
  | a :: l, 0, _ => rfl
  | a :: l, n + 1, h => by
    have := set_insert x y l n (by simpa using h)
    simp [this]
theorem mem_insert_le {ks : List ByteArray} {k : ByteArray} {n : Nat} (h : ∀ x ∈ ks, x.size ≤ maxLen) (hk : k.size ≤ maxLen) (hn : n ≤ ks.length) : ∀ x ∈ ks.insertIdx n k, x.size ≤ maxLen := fun x hx => by
  rcases (List.mem_insertIdx hn).1 hx with rfl | hx
  · exact hk
  · exact h x hx

theorem CopX.low {B M : Nat} {w : World} {r : Option Addr} {c : Nat} {rk : Option Addr} {ck : Nat} {x : Val} (h : CopX B M w r c rk ck x) (hB : B ≤ w.heap.size) : ∃ M, M ≤ w.heap.size ∧ CopX B M w r c rk ck x := by
  obtain ⟨ys, hl, ho, hv⟩ := h.items.ex
  rcases ho.2 with ⟨e, h0⟩ | ⟨g, cap, cur, e, hb, hg, _⟩
  · refine ⟨w.heap.size, Nat.le_refl _, hB, ⟨ys, hl, ⟨ho.1, Or.inl ⟨e, h0⟩⟩, fun i h1 h2 => absurd h1 (by omega)⟩, h.keys, fun g hg => (own_lt h.keys hg).2, h.bd⟩
  · exact ⟨M, by have := lt_of_block hg; omega, h⟩

set_option maxRecDepth 100000 in
set_option maxHeartbeats 4000000 in
theorem put_new (m x : Val) (key : ByteArray) (r : Option Addr) (c : Nat) (rk : Option Addr) (ck : Nat) (rx : Option Addr) (cx : Nat) (rkx : Option Addr) (ckx : Nat) (w : World) (hm : VR5 w r c rk ck m) (hx : VR5 w rx cx rkx ckx x) (ha : AscS m.keys) (hno : nodes m ≤ 1000000) (hnk : nkeys m ≤ 1000000)
    (hxo : nodes x ≤ 1000000) (hxk : nkeys x ≤ 1000000) (hf : hasK m.keys key = false) (hl : lowS m.keys key ≤ m.items.length) (hni : m.items.length + 1 ≤ 1000000) (hnk1 : m.keys.length + 1 ≤ 1000000) (hky : key.size ≤ maxLen) :
    Calls Tryd.prog 28 #[.agg #[.int .i64 m.kind, .int .i64 m.num, .string m.str, .slice r m.items.length c, .slice rk m.keys.length ck], .string key, .agg #[.int .i64 x.kind, .int .i64 x.num, .string x.str, .slice rx x.items.length cx, .slice rkx x.keys.length ckx]] w (PutP w (.mk m.kind m.num m.str ((m.items.insertIdx (lowS m.keys key) zeroV).set (lowS m.keys key) x) (m.keys.insertIdx (lowS m.keys key) key))) := by
  obtain ⟨hI, hK, hk, hnu, hs, hkl, hil⟩ := hm.parts
  have CPM := hid (fun (W : World) (hW : Below w.heap.size w W) => copied_any m r c rk ck W (hm.below hW) hno hnk)
  have CPX := hid (fun (W : World) (hW : Below w.heap.size w W) => copied_any x rx cx rkx ckx W (hx.below hW) hxo hxk)
  have BS := hid (fun (W : World) (r : Option Addr) (c : Nat) (h : Sl StrR 1 W (.slice r m.keys.length c) m.keys) => bs_any m.keys r c key W h ha hkl)
  have SK := hid (strs_le hK)
  have BD := hid (show i64B m.kind ∧ i64B m.num ∧ m.str.size ≤ maxLen from ⟨hk, hnu, hs⟩)
  have hlo := lowS_le m.keys key
  rw [hf] at BS
  clear hI hK hk hnu hs hm hx ha hno hnk hxo hxk hf
  generalize hxk : x.kind = xk at *
  generalize hxn : x.num = xn at *
  generalize hxs : x.str = xs at *
  generalize hnx : x.items.length = nx at *
  generalize hnkx : x.keys.length = nkx at *
  have E1 := hid hxk
  have E2 := hid hxn
  have E3 := hid hxs
  have E4 := hid hnx
  have E5 := hid hnkx
  clear hxk hxn hxs hnx hnkx
  obtain ⟨mk, mn, ms, is, ks⟩ := m
  simp only [Val.kind, Val.num, Val.str, Val.items, Val.keys] at CPM BS SK BD hlo hl hil hkl hni hnk1 ⊢
  generalize lowS ks key = lo at *
  have INI := hid hni
  have INK := hid hnk1
  have HKY := hid hky
  clear hni hnk1 hky
  have hb3 : Below w.heap.size w (((w.alloc (.cells #[.int .i64 mk, .int .i64 mn, .string ms, .slice r is.length c, .slice rk ks.length ck] 26)).alloc (.cells #[.int .i64 xk, .int .i64 xn, .string xs, .slice rx nx cx, .slice rkx nkx ckx] 26)).alloc (.cells #[.int .i64 0, .int .i64 0, .string { data := #[] }, .slice none 0 0, .slice none 0 0] 26)) := (((Below.refl _ _).alloc (Nat.le_refl _) _).alloc (by simp) _).alloc (by simp; omega) _
  go_enter Tryd.func28, Tryd.ntmps28
  go_wp2_with fail
  have x0 : (((w.alloc (.cells #[.int .i64 mk, .int .i64 mn, .string ms, .slice r is.length c, .slice rk ks.length ck] 26)).alloc (.cells #[.int .i64 xk, .int .i64 xn, .string xs, .slice rx nx cx, .slice rkx nkx ckx] 26)).alloc (.cells #[.int .i64 0, .int .i64 0, .string { data := #[] }, .slice none 0 0, .slice none 0 0] 26)).cell? ⟨w.heap.size + 1, 0, none⟩ = some (.int .i64 xk) := bget ((Below.refl _ _).alloc (Nat.le_refl _) _) (cell_at (by simp) rfl)
  have x1 : (((w.alloc (.cells #[.int .i64 mk, .int .i64 mn, .string ms, .slice r is.length c, .slice rk ks.length ck] 26)).alloc (.cells #[.int .i64 xk, .int .i64 xn, .string xs, .slice rx nx cx, .slice rkx nkx ckx] 26)).alloc (.cells #[.int .i64 0, .int .i64 0, .string { data := #[] }, .slice none 0 0, .slice none 0 0] 26)).cell? ⟨w.heap.size + 1, 1, none⟩ = some (.int .i64 xn) := bget ((Below.refl _ _).alloc (Nat.le_refl _) _) (cell_at (by simp) rfl)
  have x2 : (((w.alloc (.cells #[.int .i64 mk, .int .i64 mn, .string ms, .slice r is.length c, .slice rk ks.length ck] 26)).alloc (.cells #[.int .i64 xk, .int .i64 xn, .string xs, .slice rx nx cx, .slice rkx nkx ckx] 26)).alloc (.cells #[.int .i64 0, .int .i64 0, .string { data := #[] }, .slice none 0 0, .slice none 0 0] 26)).cell? ⟨w.heap.size + 1, 2, none⟩ = some (.string xs) := bget ((Below.refl _ _).alloc (Nat.le_refl _) _) (cell_at (by simp) rfl)
  have x3 : (((w.alloc (.cells #[.int .i64 mk, .int .i64 mn, .string ms, .slice r is.length c, .slice rk ks.length ck] 26)).alloc (.cells #[.int .i64 xk, .int .i64 xn, .string xs, .slice rx nx cx, .slice rkx nkx ckx] 26)).alloc (.cells #[.int .i64 0, .int .i64 0, .string { data := #[] }, .slice none 0 0, .slice none 0 0] 26)).cell? ⟨w.heap.size + 1, 3, none⟩ = some (.slice rx nx cx) := bget ((Below.refl _ _).alloc (Nat.le_refl _) _) (cell_at (by simp) rfl)
  have x4 : (((w.alloc (.cells #[.int .i64 mk, .int .i64 mn, .string ms, .slice r is.length c, .slice rk ks.length ck] 26)).alloc (.cells #[.int .i64 xk, .int .i64 xn, .string xs, .slice rx nx cx, .slice rkx nkx ckx] 26)).alloc (.cells #[.int .i64 0, .int .i64 0, .string { data := #[] }, .slice none 0 0, .slice none 0 0] 26)).cell? ⟨w.heap.size + 1, 4, none⟩ = some (.slice rkx nkx ckx) := bget ((Below.refl _ _).alloc (Nat.le_refl _) _) (cell_at (by simp) rfl)
  have t0 : (((w.alloc (.cells #[.int .i64 mk, .int .i64 mn, .string ms, .slice r is.length c, .slice rk ks.length ck] 26)).alloc (.cells #[.int .i64 xk, .int .i64 xn, .string xs, .slice rx nx cx, .slice rkx nkx ckx] 26)).alloc (.cells #[.int .i64 0, .int .i64 0, .string { data := #[] }, .slice none 0 0, .slice none 0 0] 26)).cell? ⟨w.heap.size + 1 + 1, 0, none⟩ = some (.int .i64 0) := cell_at (by simp) rfl
  have t1 : (((w.alloc (.cells #[.int .i64 mk, .int .i64 mn, .string ms, .slice r is.length c, .slice rk ks.length ck] 26)).alloc (.cells #[.int .i64 xk, .int .i64 xn, .string xs, .slice rx nx cx, .slice rkx nkx ckx] 26)).alloc (.cells #[.int .i64 0, .int .i64 0, .string { data := #[] }, .slice none 0 0, .slice none 0 0] 26)).cell? ⟨w.heap.size + 1 + 1, 1, none⟩ = some (.int .i64 0) := cell_at (by simp) rfl
  have t2 : (((w.alloc (.cells #[.int .i64 mk, .int .i64 mn, .string ms, .slice r is.length c, .slice rk ks.length ck] 26)).alloc (.cells #[.int .i64 xk, .int .i64 xn, .string xs, .slice rx nx cx, .slice rkx nkx ckx] 26)).alloc (.cells #[.int .i64 0, .int .i64 0, .string { data := #[] }, .slice none 0 0, .slice none 0 0] 26)).cell? ⟨w.heap.size + 1 + 1, 2, none⟩ = some (.string { data := #[] }) := cell_at (by simp) rfl
  have t3 : (((w.alloc (.cells #[.int .i64 mk, .int .i64 mn, .string ms, .slice r is.length c, .slice rk ks.length ck] 26)).alloc (.cells #[.int .i64 xk, .int .i64 xn, .string xs, .slice rx nx cx, .slice rkx nkx ckx] 26)).alloc (.cells #[.int .i64 0, .int .i64 0, .string { data := #[] }, .slice none 0 0, .slice none 0 0] 26)).cell? ⟨w.heap.size + 1 + 1, 3, none⟩ = some (.slice none 0 0) := cell_at (by simp) rfl
  have t4 : (((w.alloc (.cells #[.int .i64 mk, .int .i64 mn, .string ms, .slice r is.length c, .slice rk ks.length ck] 26)).alloc (.cells #[.int .i64 xk, .int .i64 xn, .string xs, .slice rx nx cx, .slice rkx nkx ckx] 26)).alloc (.cells #[.int .i64 0, .int .i64 0, .string { data := #[] }, .slice none 0 0, .slice none 0 0] 26)).cell? ⟨w.heap.size + 1 + 1, 4, none⟩ = some (.slice none 0 0) := cell_at (by simp) rfl
  have hfs : ∀ o, (((w.alloc (.cells #[.int .i64 mk, .int .i64 mn, .string ms, .slice r is.length c, .slice rk ks.length ck] 26)).alloc (.cells #[.int .i64 xk, .int .i64 xn, .string xs, .slice rx nx cx, .slice rkx nkx ckx] 26)).alloc (.cells #[.int .i64 0, .int .i64 0, .string { data := #[] }, .slice none 0 0, .slice none 0 0] 26)).frozen? ⟨w.heap.size + 1 + 1, o, none⟩ = false := fun o => by
    have h : (((w.alloc (.cells #[.int .i64 mk, .int .i64 mn, .string ms, .slice r is.length c, .slice rk ks.length ck] 26)).alloc (.cells #[.int .i64 xk, .int .i64 xn, .string xs, .slice rx nx cx, .slice rkx nkx ckx] 26)).alloc (.cells #[.int .i64 0, .int .i64 0, .string { data := #[] }, .slice none 0 0, .slice none 0 0] 26)).heap[w.heap.size + 1 + 1]? = some (.cells #[.int .i64 0, .int .i64 0, .string { data := #[] }, .slice none 0 0, .slice none 0 0] 26 (0, 0)) := (congrArg _ (by simp)).trans (MapKept.heap_alloc _ _).1
    unfold World.frozen?
    simp only [h]
    simp
  have z3 : w.heap.size + 1 + 1 + 1 ≤ (((w.alloc (.cells #[.int .i64 mk, .int .i64 mn, .string ms, .slice r is.length c, .slice rk ks.length ck] 26)).alloc (.cells #[.int .i64 xk, .int .i64 xn, .string xs, .slice rx nx cx, .slice rkx nkx ckx] 26)).alloc (.cells #[.int .i64 0, .int .i64 0, .string { data := #[] }, .slice none 0 0, .slice none 0 0] 26)).heap.size := by simp
  generalize (((w.alloc (.cells #[.int .i64 mk, .int .i64 mn, .string ms, .slice r is.length c, .slice rk ks.length ck] 26)).alloc (.cells #[.int .i64 xk, .int .i64 xn, .string xs, .slice rx nx cx, .slice rkx nkx ckx] 26)).alloc (.cells #[.int .i64 0, .int .i64 0, .string { data := #[] }, .slice none 0 0, .slice none 0 0] 26)) = W3 at *
  refine (CPM.out W3 hb3).mono ?_
  rintro e w4 ⟨r4, c4, rk4, ck4, M, rfl, hx4, hb4⟩
  obtain ⟨M, hMw, hx4⟩ := hx4.low hb4.size
  simp only [Val.kind, Val.num, Val.str, Val.items, Val.keys]
  have X4 := hid hx4
  have hb5 : Below w4.heap.size w4 (w4.alloc (.cells #[.int .i64 mk, .int .i64 mn, .string ms, .slice r4 is.length c4, .slice rk4 ks.length ck4] 26)) := (Below.refl _ _).alloc (Nat.le_refl _) _
  have hb35 := hb4.trans (hb5.mono hb4.size)
  have OI := hid (hx4.items.to (w' := w4.alloc (.cells #[.int .i64 mk, .int .i64 mn, .string ms, .slice r4 is.length c4, .slice rk4 ks.length ck4] 26)) fun b _ hb => hb5.block b hb)
  have OKY := hid (own_keep hx4.keys (w' := w4.alloc (.cells #[.int .i64 mk, .int .i64 mn, .string ms, .slice r4 is.length c4, .slice rk4 ks.length ck4] 26)) fun g hg => hb5.block g (own_lt hx4.keys hg).2)
  have SKY := hid (ownK_sl OKY.out SK.out)
  have HMl := hid hx4.le
  have HKl := hid hx4.lt
  have y0 := bget hb35 x0
  have y1 := bget hb35 x1
  have y2 := bget hb35 x2
  have y3 := bget hb35 x3
  have y4 := bget hb35 x4
  have s0 := bget hb35 t0
  have s1 := bget hb35 t1
  have s2 := bget hb35 t2
  have s3 := bget hb35 t3
  have s4 := bget hb35 t4
  have hfs5 : ∀ o, (w4.alloc (.cells #[.int .i64 mk, .int .i64 mn, .string ms, .slice r4 is.length c4, .slice rk4 ks.length ck4] 26)).frozen? ⟨w.heap.size + 1 + 1, o, none⟩ = false := fun o => (hb35.frozen (p := ⟨w.heap.size + 1 + 1, o, none⟩) (by simp only; omega)).trans (hfs o)
  have B5 := hid (hb3.trans (hb35.mono hb3.size))
  have hz5 : W3.heap.size + 1 ≤ (w4.alloc (.cells #[.int .i64 mk, .int .i64 mn, .string ms, .slice r4 is.length c4, .slice rk4 ks.length ck4] 26)).heap.size := by have := hb4.size; simp; omega
  have hzw := hb4.size
  have o0 : (w4.alloc (.cells #[.int .i64 mk, .int .i64 mn, .string ms, .slice r4 is.length c4, .slice rk4 ks.length ck4] 26)).cell? ⟨w4.heap.size, 0, none⟩ = some (.int .i64 mk) := cell_at rfl rfl
  have o1 : (w4.alloc (.cells #[.int .i64 mk, .int .i64 mn, .string ms, .slice r4 is.length c4, .slice rk4 ks.length ck4] 26)).cell? ⟨w4.heap.size, 1, none⟩ = some (.int .i64 mn) := cell_at rfl rfl
  have o2 : (w4.alloc (.cells #[.int .i64 mk, .int .i64 mn, .string ms, .slice r4 is.length c4, .slice rk4 ks.length ck4] 26)).cell? ⟨w4.heap.size, 2, none⟩ = some (.string ms) := cell_at rfl rfl
  have o3 : (w4.alloc (.cells #[.int .i64 mk, .int .i64 mn, .string ms, .slice r4 is.length c4, .slice rk4 ks.length ck4] 26)).cell? ⟨w4.heap.size, 3, none⟩ = some (.slice r4 is.length c4) := cell_at rfl rfl
  have o4 : (w4.alloc (.cells #[.int .i64 mk, .int .i64 mn, .string ms, .slice r4 is.length c4, .slice rk4 ks.length ck4] 26)).cell? ⟨w4.heap.size, 4, none⟩ = some (.slice rk4 ks.length ck4) := cell_at rfl rfl
  have hfb5 : ∀ o, (w4.alloc (.cells #[.int .i64 mk, .int .i64 mn, .string ms, .slice r4 is.length c4, .slice rk4 ks.length ck4] 26)).frozen? ⟨w4.heap.size, o, none⟩ = false := fun o => frozen_of (heap_alloc_new w4 _) o
  have B45 := hid hb5
  clear hx4 hb4 hb5 hb35 x0 x1 x2 x3 x4 t0 t1 t2 t3 t4 hfs
  go_wp2_with fail
  generalize (w4.alloc (.cells #[.int .i64 mk, .int .i64 mn, .string ms, .slice r4 is.length c4, .slice rk4 ks.length ck4] 26)) = W5 at *
  refine (BS.out W5 _ _ SKY.out).mono ?_
  rintro e w6 ⟨rfl, hb6⟩
  have B6 := hid (B5.out.trans (hb6.mono B5.out.size))
  have BB6 := hid hb6
  have z6 := hb6.size
  have hfb6 : ∀ o, w6.frozen? ⟨w4.heap.size, o, none⟩ = false := fun o => (hb6.frozen (p := ⟨w4.heap.size, o, none⟩) (by simpa using lt_of_cell o0)).trans (hfb5 o)
  have B46 := hid (B45.out.trans (hb6.mono B45.out.size))
  have y0' := bget hb6 y0
  have y1' := bget hb6 y1
  have y2' := bget hb6 y2
  have y3' := bget hb6 y3
  have y4' := bget hb6 y4
  have o0' := bget hb6 o0
  have o1' := bget hb6 o1
  have o2' := bget hb6 o2
  have o3' := bget hb6 o3
  have o4' := bget hb6 o4
  have s0' := bget hb6 s0
  have s1' := bget hb6 s1
  have s2' := bget hb6 s2
  have s3' := bget hb6 s3
  have s4' := bget hb6 s4
  have hfs6 : ∀ o, w6.frozen? ⟨w.heap.size + 1 + 1, o, none⟩ = false := fun o => (hb6.frozen (p := ⟨w.heap.size + 1 + 1, o, none⟩) (by simp only; omega)).trans (hfs5 o)
  have OI6 := hid (OI.out.to fun b _ hb => hb6.block b hb)
  have OK6 := hid (own_keep OKY.out fun g hg => hb6.block g (own_lt OKY.out hg).2)
  have hltn : ¬ (is.length : Int) < (lo : Int) := by omega
  have hsz4 := lt_of_cell o0'
  have NK := hid (show ∀ b, (b < W3.heap.size ∨ M ≤ b ∨ w4.heap.size ≤ b) → (Value.slice rk4 ks.length ck4).ownBlock ≠ some b from fun b hb e => by
    have h1 := own_lt X4.out.keys (show (Value.slice rk4 ks.length ck4).ownBlock = some b from e)
    have h2 := HKl.out b e
    omega)
  obtain ⟨ys, hyl, hown4, hvr4⟩ := X4.out.items.ex
  have hyl : ys.length = is.length := hyl
  have hown4 : w4.ownsRow M 26 5 (.slice r4 is.length c4) ys.length (ys.flatMap Cv.enc) := hown4
  have HVR4 := hid (show ∀ (i : Nat) (h : i < ys.length) (h' : i < is.length), VR (mask (keepB M (.slice r4 is.length c4)) w4) ys[i].enc is[i] from hvr4)
  have NI := hid (show ∀ b, (b < M ∨ w4.heap.size ≤ b) → (Value.slice r4 is.length c4).ownBlock ≠ some b from fun b hb e => by
    have h1 := own_lt hown4 e
    omega)
  have HO4 := hid hown4
  have HYL := hid hyl
  obtain ⟨is2, his2⟩ : ∃ is2, is2 = is.insertIdx lo zeroV := ⟨_, rfl⟩
  obtain ⟨ks2, hks2⟩ : ∃ ks2, ks2 = ks.insertIdx lo key := ⟨_, rfl⟩
  obtain ⟨ys2, hys2⟩ : ∃ ys2, ys2 = ys.insertIdx lo zeroC := ⟨_, rfl⟩
  have hil2 : is2.length = is.length + 1 := by rw [his2]; exact insert_len _ _ _ hl
  have hkl2 : ks2.length = ks.length + 1 := by rw [hks2]; exact insert_len _ _ _ hlo
  have hyl2 : ys2.length = is2.length := by rw [hys2, insert_len _ _ _ (by omega), hyl, hil2]
  have SK2 := hid (show ∀ k ∈ ks2, k.size ≤ maxLen from by rw [hks2]; exact mem_insert_le SK.out HKY.out hlo)
  have IK := hid (show ∀ (W : World) (vb : Nat), W.ownsRow W3.heap.size 9 1 (.slice rk4 ks.length ck4) ks.length (ks.map Value.string) → W.heap[vb]? = some (.cells #[.string key] 9 (0, 0)) → (Value.slice rk4 ks.length ck4).ownBlock ≠ some vb → W3.heap.size ≤ W.heap.size →
      Calls Tryd.prog 58 #[.slice rk4 ks.length ck4, .int .i64 (lo : Nat), .slice (some ⟨vb, 0, none⟩) 1 1] W (fun e w' => ∃ g cap, e = .returned (.slice (some ⟨g, 0, none⟩) ks2.length cap) ∧ w'.ownsRow W3.heap.size 9 1 (.slice (some ⟨g, 0, none⟩) ks2.length cap) ks2.length (ks2.map Value.string) ∧ W.grownBy w' (Value.slice rk4 ks.length ck4).ownBlock ∧ ((Value.slice rk4 ks.length ck4).ownBlock = some g ∨ g = W.heap.size))
    from fun W vb h1 h2 h3 h4 => (ins_str W3.heap.size ks key lo _ vb W hlo (by rw [encS_flat]; exact h1) h2 h3 INK.out h4).mono fun e w' ⟨g, cap, he, ho, hg, ha⟩ => by
      rw [← hks2, encS_flat] at ho
      rw [← hkl2] at he ho
      exact ⟨g, cap, he, ho, hg, ha⟩)
  have IV := hid (show ∀ (W : World) (vb : Nat), W.ownsRow M 26 5 (.slice r4 is.length c4) ys.length (ys.flatMap Cv.enc) → W.heap[vb]? = some (.cells zeroC.enc.toArray 26 (0, 0)) → (Value.slice r4 is.length c4).ownBlock ≠ some vb → M ≤ W.heap.size →
      Calls Tryd.prog 59 #[.slice r4 is.length c4, .int .i64 (lo : Nat), .slice (some ⟨vb, 0, none⟩) 1 1] W (fun e w' => ∃ g cap, e = .returned (.slice (some ⟨g, 0, none⟩) is2.length cap) ∧ w'.ownsRow M 26 5 (.slice (some ⟨g, 0, none⟩) is2.length cap) ys2.length (ys2.flatMap Cv.enc) ∧ W.grownBy w' (Value.slice r4 is.length c4).ownBlock ∧ ((Value.slice r4 is.length c4).ownBlock = some g ∨ g = W.heap.size))
    from fun W vb h1 h2 h3 h4 => (ins_val M ys zeroC lo _ vb W (by omega) h1 h2 h3 (by have := INI.out; omega) h4).mono fun e w' ⟨g, cap, he, ho, hg, ha⟩ => by
      rw [← hys2] at ho
      rw [hyl, ← hil2] at he ho
      exact ⟨g, cap, he, ho, hg, ha⟩)
  have RES := hid (show is.insertIdx lo zeroV = is2 ∧ ks.insertIdx lo key = ks2 from ⟨his2.symm, hks2.symm⟩)
  have HV2 := hid (show ∀ W : World, (∀ i (h : i < ys.length) (h' : i < is.length), VR W ys[i].enc is[i]) → ∀ i (h : i < ys2.length) (h' : i < is2.length), VR W ys2[i].enc is2[i] from fun W hW => by
    subst hys2; subst his2
    exact all2_insert (R := fun y z => VR W y.enc z) hyl (by omega) hW (zeroV_vr W))
  have hL2 : lo < is2.length := by omega
  have HLS := hid (show is2.length = is.length + 1 ∧ ks2.length = ks.length + 1 ∧ ys2.length = is2.length from ⟨hil2, hkl2, hyl2⟩)
  clear hil2 hkl2 hyl2 hyl hown4 hvr4 his2 hks2 hys2
  go_wp2_with fail
  have OKA : (w6.alloc (.cells #[.string key] 9)).ownsRow W3.heap.size 9 1 (.slice rk4 ks.length ck4) ks.length (ks.map Value.string) := own_keep OK6.out fun g hg => Below.heap_alloc _ _ _ (own_lt OK6.out hg).2
  refine (IK.out _ _ OKA (heap_alloc_new w6 _) (NK.out _ (Or.inr (Or.inr (by omega)))) (by simp; omega)).mono ?_
  rintro e wk ⟨gk, capk, rfl, hok, hgrk, hatk⟩
  have zk : w6.heap.size + 1 ≤ wk.heap.size := by have := hgrk.size; simpa using this
  have keepK : ∀ b, b < w6.heap.size → (b < W3.heap.size ∨ M ≤ b ∨ w4.heap.size ≤ b) → wk.heap[b]? = w6.heap[b]? := fun b hb hc => (hgrk.block b (by simp; omega) (fun e => NK.out b hc e.symm)).trans (Below.heap_alloc _ _ _ hb)
  have hgk := own_lt hok (g := gk) rfl
  have hgkM : (gk < M ∧ gk < w4.heap.size) ∨ gk = w6.heap.size + 1 := by
    rcases hatk with h | h
    · exact Or.inl ⟨HKl.out gk h, (own_lt X4.out.keys h).2⟩
    · right; rw [h]; simp
  have ck : ∀ b o v, b < w6.heap.size → (b < W3.heap.size ∨ M ≤ b ∨ w4.heap.size ≤ b) → w6.cell? ⟨b, o, none⟩ = some v → wk.cell? ⟨b, o, none⟩ = some v := fun b o v hb hc h => (World.cell?_of_block (w := w6) (w' := wk) (a := ⟨b, o, none⟩) (keepK b hb hc)).trans h
  have fk : ∀ b o, b < w6.heap.size → (b < W3.heap.size ∨ M ≤ b ∨ w4.heap.size ≤ b) → w6.frozen? ⟨b, o, none⟩ = false → wk.frozen? ⟨b, o, none⟩ = false := fun b o hb hc h => (World.frozen?_of_block (w := w6) (w' := wk) (a := ⟨b, o, none⟩) (keepK b hb hc)).trans h
  have Bk := hid (Below.grown (a := w) (((B6.out).alloc (Nat.le_trans (by omega) B6.out.size) (.cells #[.string key] 9))) hgrk (by simp; omega) (fun k hk => by have := own_lt X4.out.keys (show (Value.slice rk4 ks.length ck4).ownBlock = some k from hk); omega))
  have k0 := ck _ _ _ (by omega) (by omega) o0'
  have k1 := ck _ _ _ (by omega) (by omega) o1'
  have k2 := ck _ _ _ (by omega) (by omega) o2'
  have k3 := ck _ _ _ (by omega) (by omega) o3'
  have k4 := ck _ _ _ (by omega) (by omega) o4'
  have kx0 := ck _ _ _ (by omega) (by omega) y0'
  have kx1 := ck _ _ _ (by omega) (by omega) y1'
  have kx2 := ck _ _ _ (by omega) (by omega) y2'
  have kx3 := ck _ _ _ (by omega) (by omega) y3'
  have kx4 := ck _ _ _ (by omega) (by omega) y4'
  have ks0 := ck _ _ _ (by omega) (by omega) s0'
  have ks1 := ck _ _ _ (by omega) (by omega) s1'
  have ks2' := ck _ _ _ (by omega) (by omega) s2'
  have ks3 := ck _ _ _ (by omega) (by omega) s3'
  have ks4 := ck _ _ _ (by omega) (by omega) s4'
  have kfs : ∀ o, wk.frozen? ⟨w.heap.size + 1 + 1, o, none⟩ = false := fun o => fk _ _ (by omega) (by omega) (hfs6 o)
  have kfb : ∀ o, wk.frozen? ⟨w4.heap.size, o, none⟩ = false := fun o => fk _ _ (by omega) (by omega) (hfb6 o)
  have OKk := hid hok
  have KEEP := hid keepK
  clear ck fk hok hgrk hatk keepK OKA o0' o1' o2' o3' o4' y0' y1' y2' y3' y4' s0' s1' s2' s3' s4' hfs6 hfb6
  go_wp2_with fail
  have hnb : ∀ b, b ≠ w4.heap.size → (wk.setCell ⟨w4.heap.size, 4, none⟩ (.slice (some ⟨gk, 0, none⟩) ks2.length capk)).heap[b]? = wk.heap[b]? := fun b hb => Below.heap_setCell _ _ _ _ hb
  have hzb : (wk.setCell ⟨w4.heap.size, 4, none⟩ (.slice (some ⟨gk, 0, none⟩) ks2.length capk)).heap.size = wk.heap.size := by simp [World.setCell]
  have j0 := (scell_ne (w := wk) (b := w4.heap.size) (o := 4) (o' := 0) (v := .slice (some ⟨gk, 0, none⟩) ks2.length capk) (by decide)).trans k0
  have j1 := (scell_ne (w := wk) (b := w4.heap.size) (o := 4) (o' := 1) (v := .slice (some ⟨gk, 0, none⟩) ks2.length capk) (by decide)).trans k1
  have j2 := (scell_ne (w := wk) (b := w4.heap.size) (o := 4) (o' := 2) (v := .slice (some ⟨gk, 0, none⟩) ks2.length capk) (by decide)).trans k2
  have j3 := (scell_ne (w := wk) (b := w4.heap.size) (o := 4) (o' := 3) (v := .slice (some ⟨gk, 0, none⟩) ks2.length capk) (by decide)).trans k3
  have j4 := scell_same (v := .slice (some ⟨gk, 0, none⟩) ks2.length capk) k4
  have jfb : ∀ o, (wk.setCell ⟨w4.heap.size, 4, none⟩ (.slice (some ⟨gk, 0, none⟩) ks2.length capk)).frozen? ⟨w4.heap.size, o, none⟩ = false := fun o => by rw [World.frozen?_setCell]; exact kfb o
  have Be := hid (show Below w.heap.size w (wk.setCell ⟨w4.heap.size, 4, none⟩ (.slice (some ⟨gk, 0, none⟩) ks2.length capk)) from Bk.out.setCell (by simp only; omega) _)
  have OKe := hid (own_keep OKk.out (w' := wk.setCell ⟨w4.heap.size, 4, none⟩ (.slice (some ⟨gk, 0, none⟩) ks2.length capk)) fun g hg => hnb g (by
    have : gk = g := by simpa [Value.ownBlock] using hg
    omega))
  clear k0 k1 k2 k3 k4 kfb
  generalize wk.setCell ⟨w4.heap.size, 4, none⟩ (.slice (some ⟨gk, 0, none⟩) ks2.length capk) = we at *
  have keepE : ∀ b, b < w6.heap.size → (b < W3.heap.size ∨ M ≤ b) → b ≠ w4.heap.size → we.heap[b]? = w6.heap[b]? := fun b hb hc hn => (hnb b hn).trans (KEEP.out b hb (by omega))
  have keep4 : ∀ b, b < w4.heap.size → M ≤ b → we.heap[b]? = w4.heap[b]? := fun b hb hc => (keepE b (by omega) (Or.inr hc) (by omega)).trans (B46.out.block b hb)
  have OIE : (we.alloc (.cells zeroC.enc.toArray 26)).ownsRow M 26 5 (.slice r4 is.length c4) ys.length (ys.flatMap Cv.enc) := own_keep HO4.out fun g hg => by
    have h1 := own_lt HO4.out hg
    exact (Below.heap_alloc _ _ _ (by omega)).trans (keep4 g h1.2 h1.1)
  refine (IV.out _ wk.heap.size OIE (by rw [← hzb]; exact heap_alloc_new we _) (NI.out _ (Or.inr (by omega))) (by simp; omega)).mono ?_
  rintro e wv ⟨g, cap, rfl, hov, hgrv, hatv⟩
  have zv : we.heap.size + 1 ≤ wv.heap.size := by have := hgrv.size; simpa using this
  have keepV : ∀ b, b < we.heap.size → (Value.slice r4 is.length c4).ownBlock ≠ some b → wv.heap[b]? = we.heap[b]? := fun b hb hc => (hgrv.block b (by simp; omega) (fun e => hc e.symm)).trans (Below.heap_alloc _ _ _ hb)
  have hgv := own_lt hov (g := g) rfl
  have hgN : g < w4.heap.size ∨ g = we.heap.size + 1 := by
    rcases hatv with h | h
    · exact Or.inl (own_lt HO4.out h).2
    · right; rw [h]; simp
  have cv : ∀ b o v, b < we.heap.size → (b < M ∨ w4.heap.size ≤ b) → we.cell? ⟨b, o, none⟩ = some v → wv.cell? ⟨b, o, none⟩ = some v := fun b o v hb hc h => (World.cell?_of_block (w := we) (w' := wv) (a := ⟨b, o, none⟩) (keepV b hb (NI.out b hc))).trans h
  have ce : ∀ b o v, b ≠ w4.heap.size → wk.cell? ⟨b, o, none⟩ = some v → we.cell? ⟨b, o, none⟩ = some v := fun b o v hb h => (World.cell?_of_block (w := wk) (w' := we) (a := ⟨b, o, none⟩) (hnb b hb)).trans h
  have v0 := cv _ _ _ (by omega) (by omega) j0
  have v1 := cv _ _ _ (by omega) (by omega) j1
  have v2 := cv _ _ _ (by omega) (by omega) j2
  have v3 := cv _ _ _ (by omega) (by omega) j3
  have v4 := cv _ _ _ (by omega) (by omega) j4
  have HL0 := HMl.out
  have vx0 := cv _ _ _ (by omega) (by omega) (ce _ _ _ (by omega) kx0)
  have vx1 := cv _ _ _ (by omega) (by omega) (ce _ _ _ (by omega) kx1)
  have vx2 := cv _ _ _ (by omega) (by omega) (ce _ _ _ (by omega) kx2)
  have vx3 := cv _ _ _ (by omega) (by omega) (ce _ _ _ (by omega) kx3)
  have vx4 := cv _ _ _ (by omega) (by omega) (ce _ _ _ (by omega) kx4)
  have vs0 := cv _ _ _ (by omega) (by omega) (ce _ _ _ (by omega) ks0)
  have vs1 := cv _ _ _ (by omega) (by omega) (ce _ _ _ (by omega) ks1)
  have vs2 := cv _ _ _ (by omega) (by omega) (ce _ _ _ (by omega) ks2')
  have vs3 := cv _ _ _ (by omega) (by omega) (ce _ _ _ (by omega) ks3)
  have vs4 := cv _ _ _ (by omega) (by omega) (ce _ _ _ (by omega) ks4)
  have vfb : ∀ o, wv.frozen? ⟨w4.heap.size, o, none⟩ = false := fun o => (World.frozen?_of_block (w := we) (w' := wv) (a := ⟨w4.heap.size, o, none⟩) (keepV w4.heap.size (by omega) (NI.out w4.heap.size (by omega)))).trans (jfb o)
  have vfs : ∀ o, wv.frozen? ⟨w.heap.size + 1 + 1, o, none⟩ = false := fun o => ((World.frozen?_of_block (w := we) (w' := wv) (a := ⟨w.heap.size + 1 + 1, o, none⟩) (keepV (w.heap.size + 1 + 1) (by omega) (NI.out (w.heap.size + 1 + 1) (by omega)))).trans (World.frozen?_of_block (w := wk) (w' := we) (a := ⟨w.heap.size + 1 + 1, o, none⟩) (hnb (w.heap.size + 1 + 1) (by omega)))).trans (kfs o)
  have Bv := hid (Below.grown (a := w) (((Be.out).alloc (Nat.le_trans (by omega) Be.out.size) (.cells zeroC.enc.toArray 26))) hgrv (by simp; omega) (fun k hk => by have := own_lt HO4.out hk; omega))
  have hgk4 : gk ≠ g := by omega
  have OKv := hid (own_keep OKe.out (w' := wv) fun b hb => keepV b (own_lt OKe.out hb).2 (NI.out b (by
    have : gk = b := by simpa [Value.ownBlock] using hb
    omega)))
  have HAT := hid (show (Value.slice r4 is.length c4).ownBlock = some g ∨ g = we.heap.size + 1 from by simpa using hatv)
  have KEEP4 := hid keep4
  have OVv := hid hov
  have KEEPV := hid keepV
  clear cv ce hov hgrv hatv keepV keepE keep4 OIE j0 j1 j2 j3 j4 jfb kx0 kx1 kx2 kx3 kx4 ks0 ks1 ks2' ks3 ks4 kfs hnb
  go_wp2_with fail
  have nT : ∀ b, b ≠ w4.heap.size → (wv.setCell ⟨w4.heap.size, 3, none⟩ (.slice (some ⟨g, 0, none⟩) is2.length cap)).heap[b]? = wv.heap[b]? := fun b hb => Below.heap_setCell _ _ _ _ hb
  have zT : (wv.setCell ⟨w4.heap.size, 3, none⟩ (.slice (some ⟨g, 0, none⟩) is2.length cap)).heap.size = wv.heap.size := by simp [World.setCell]
  have o0' := (scell_ne (w := wv) (b := w4.heap.size) (o := 3) (o' := 0) (v := .slice (some ⟨g, 0, none⟩) is2.length cap) (by decide)).trans v0
  have o1' := (scell_ne (w := wv) (b := w4.heap.size) (o := 3) (o' := 1) (v := .slice (some ⟨g, 0, none⟩) is2.length cap) (by decide)).trans v1
  have o2' := (scell_ne (w := wv) (b := w4.heap.size) (o := 3) (o' := 2) (v := .slice (some ⟨g, 0, none⟩) is2.length cap) (by decide)).trans v2
  have o3' := scell_same (v := .slice (some ⟨g, 0, none⟩) is2.length cap) v3
  have o4' := (scell_ne (w := wv) (b := w4.heap.size) (o := 3) (o' := 4) (v := .slice (some ⟨g, 0, none⟩) is2.length cap) (by decide)).trans v4
  have B6' := hid (show Below w.heap.size w (wv.setCell ⟨w4.heap.size, 3, none⟩ (.slice (some ⟨g, 0, none⟩) is2.length cap)) from Bv.out.setCell (by simp only; omega) _)
  have hgneb : g ≠ w4.heap.size := by omega
  have OKT := hid (own_keep OKv.out (w' := wv.setCell ⟨w4.heap.size, 3, none⟩ (.slice (some ⟨g, 0, none⟩) is2.length cap)) fun b hb => nT b (by
    have : gk = b := by simpa [Value.ownBlock] using hb
    omega))
  have OVT := hid (own_keep OVv.out (w' := wv.setCell ⟨w4.heap.size, 3, none⟩ (.slice (some ⟨g, 0, none⟩) is2.length cap)) fun b hb => nT b (by
    have : g = b := by simpa [Value.ownBlock] using hb
    omega))
  clear v0 v1 v2 v3 v4 vfb
  have hV4 : ∀ (i : Nat) (h : i < ys2.length) (h' : i < is2.length), VR (mask (keepB M (.slice (some ⟨g, 0, none⟩) is2.length cap)) (wv.setCell ⟨w4.heap.size, 3, none⟩ (.slice (some ⟨g, 0, none⟩) is2.length cap))) ys2[i].enc is2[i] := HV2.out _ fun i h h' => vr_stays (stays_keep fun b hb hlt => by
      obtain ⟨h1, h2⟩ := keepB_out hb
      refine ⟨keepB_mk h1 (fun e => ?_), ?_⟩
      · have : g = b := by simpa [Value.ownBlock] using e
        subst this
        rcases HAT.out with h3 | h3
        · exact h2 h3
        · omega
      · exact (nT b (by omega)).trans ((KEEPV.out b (by omega) h2).trans (KEEP4.out b hlt h1))) (HVR4.out i h h')
  generalize wv.setCell ⟨w4.heap.size, 3, none⟩ (.slice (some ⟨g, 0, none⟩) is2.length cap) = wT at *
  have cT : ∀ b o v, b ≠ w4.heap.size → wv.cell? ⟨b, o, none⟩ = some v → wT.cell? ⟨b, o, none⟩ = some v := fun b o v hb h => (World.cell?_of_block (w := wv) (w' := wT) (a := ⟨b, o, none⟩) (nT b hb)).trans h
  have y0' := cT _ _ _ (by omega) vx0
  have y1' := cT _ _ _ (by omega) vx1
  have y2' := cT _ _ _ (by omega) vx2
  have y3' := cT _ _ _ (by omega) vx3
  have y4' := cT _ _ _ (by omega) vx4
  have s0' := cT _ _ _ (by omega) vs0
  have s1' := cT _ _ _ (by omega) vs1
  have s2' := cT _ _ _ (by omega) vs2
  have s3' := cT _ _ _ (by omega) vs3
  have s4' := cT _ _ _ (by omega) vs4
  have hfs6 : ∀ o, wT.frozen? ⟨w.heap.size + 1 + 1, o, none⟩ = false := fun o => (World.frozen?_of_block (w := wv) (w' := wT) (a := ⟨w.heap.size + 1 + 1, o, none⟩) (nT (w.heap.size + 1 + 1) (by omega))).trans (vfs o)
  have hgM : M ≤ g := hgv.1
  have hylo : lo < ys2.length := by rw [HLS.out.2.2]; exact hL2
  have hown := OVT.out
  have hcell : ∀ j v, (ys2[lo]).enc[j]? = some v → wT.cell? ⟨g, lo * 5 + j, none⟩ = some v := fun j v hj => by
    have hj5 : j < 5 := by
      have := (List.getElem?_eq_some_iff.1 hj).1
      rwa [cv_len] at this
    have h1 := hown
    rw [HLS.out.2.2] at h1
    rw [h1.cellAt (lo * 5 + j) (by omega), list_val ys2 lo hylo j hj5]
    exact hj
  have d0 := hcell 0 _ rfl
  have d1 := hcell 1 _ rfl
  have d2 := hcell 2 _ rfl
  have d3 := hcell 3 _ rfl
  have d4 := hcell 4 _ rfl
  simp only [Nat.add_zero] at d0
  have hfg : ∀ o, wT.frozen? ⟨g, o, none⟩ = false := fun o => by
    have h1 := hown
    rw [HLS.out.2.2] at h1
    exact h1.frozenAt o
  have hg6 : g < wT.heap.size := by have := World.block_lt_of_cell? _ _ d0; simpa using this
  have hgne1 : g ≠ w4.heap.size := hgneb
  have hgne2 : g ≠ w.heap.size + 1 := by omega
  have hgne3 : g ≠ w.heap.size + 1 + 1 := by omega
  have hltz : (lo : Int) < (is2.length : Int) := by omega
  have hzT : w4.heap.size < wT.heap.size := by omega
  have HOWN := hid hown
  have HVR := hid hV4
  have NKT := hid (show ∀ b, (Value.slice (some ⟨gk, 0, none⟩) ks2.length capk).ownBlock = some b → b ≠ g from fun b hb => by
    have : gk = b := by simpa [Value.ownBlock] using hb
    omega)
  clear hcell hown hV4 cT vx0 vx1 vx2 vx3 vx4 vs0 vs1 vs2 vs3 vs4 vfs nT hgN hgkM NI NK IK IV HV2 HVR4 HO4 X4 OI6 OK6 B6 B46 B45 KEEP KEEPV KEEP4 HAT OVv OKv OKe OKk Bv Be Bk BS CPM
  rename Hid (Below w.heap.size w wT) => B6
  rename Hid (wT.ownsRow W3.heap.size 9 1 (.slice (some ⟨gk, 0, none⟩) ks2.length capk) ks2.length (ks2.map Value.string)) => OK6
  go_region_held3 (fun w' => w'.cell? ⟨w4.heap.size, 3, none⟩ = some (.slice (some ⟨g, 0, none⟩) is2.length cap) ∧ w'.cell? ⟨w.heap.size + 1, 0, none⟩ = some (.int .i64 xk) ∧ w'.cell? ⟨w.heap.size + 1, 1, none⟩ = some (.int .i64 xn) ∧ w'.cell? ⟨w.heap.size + 1, 2, none⟩ = some (.string xs) ∧ w'.cell? ⟨w.heap.size + 1, 3, none⟩ = some (.slice rx nx cx) ∧ w'.cell? ⟨w.heap.size + 1, 4, none⟩ = some (.slice rkx nkx ckx))
    (first | go_keep | (refine ⟨bget hb7 ?_, bget hb7 ?_, bget hb7 ?_, bget hb7 ?_, bget hb7 ?_, bget hb7 ?_⟩ <;> (go_split_ands; assumption)))
    (first | (go_at_call 47; refine (CPX.out _ (by exact B6.out.drew)).mono ?_; rintro e w7 ⟨r7, c7, rk7, ck7, M7, rfl, hx7, hb7⟩; rw [E1.out, E2.out, E3.out, E4.out, E5.out]; have e0 := bget hb7 (show wT.drew.cell? ⟨g, lo * 5, none⟩ = some _ from d0); have e1 := bget hb7 (show wT.drew.cell? ⟨g, lo * 5 + 1, none⟩ = some _ from d1); have e2 := bget hb7 (show wT.drew.cell? ⟨g, lo * 5 + 2, none⟩ = some _ from d2); have e3 := bget hb7 (show wT.drew.cell? ⟨g, lo * 5 + 3, none⟩ = some _ from d3); have e4 := bget hb7 (show wT.drew.cell? ⟨g, lo * 5 + 4, none⟩ = some _ from d4); have hfg7 : ∀ o, w7.frozen? ⟨g, o, none⟩ = false := fun o => (hb7.frozen (p := ⟨g, o, none⟩) hg6).trans (hfg o)))
  have Z7 := hid (show wT.heap.size ≤ w7.heap.size from hb7.size)
  have B7 := hid (show Below w.heap.size w w7 from B6.out.drew.trans (hb7.mono (by exact B6.out.size)))
  have B67 := hid (show Below wT.heap.size wT w7 from (Below.refl _ _).drew.trans hb7)
  have O6 := hid (show M7 = M7 from rfl)
  have W9 := hid (show ∀ W8, W8 = (((((w7.setCell ⟨g, lo * 5, none⟩ (.int .i64 xk)).setCell ⟨g, lo * 5 + 1, none⟩ (.int .i64 xn)).setCell ⟨g, lo * 5 + 2, none⟩ (.string xs)).setCell ⟨g, lo * 5 + 3, none⟩ (.slice r7 nx c7)).setCell ⟨g, lo * 5 + 4, none⟩ (.slice rk7 nkx ck7)) → ∃ y0 : World, y0 = W8 from fun W8 _ => ⟨W8, rfl⟩)
  have n8 : ∀ b, b ≠ g → (((((w7.setCell ⟨g, lo * 5, none⟩ (.int .i64 xk)).setCell ⟨g, lo * 5 + 1, none⟩ (.int .i64 xn)).setCell ⟨g, lo * 5 + 2, none⟩ (.string xs)).setCell ⟨g, lo * 5 + 3, none⟩ (.slice r7 nx c7)).setCell ⟨g, lo * 5 + 4, none⟩ (.slice rk7 nkx ck7)).heap[b]? = w7.heap[b]? := fun b hb => five_heap _ _ _ _ _ _ _ _ hb
  have i8 := five_in (v0 := .int .i64 xk) (v1 := .int .i64 xn) (v2 := .string xs) (v3 := .slice r7 nx c7) (v4 := .slice rk7 nkx ck7) e0 e1 e2 e3 e4
  have k8 : ∀ q, (q < lo * 5 ∨ lo * 5 + 5 ≤ q) → (((((w7.setCell ⟨g, lo * 5, none⟩ (.int .i64 xk)).setCell ⟨g, lo * 5 + 1, none⟩ (.int .i64 xn)).setCell ⟨g, lo * 5 + 2, none⟩ (.string xs)).setCell ⟨g, lo * 5 + 3, none⟩ (.slice r7 nx c7)).setCell ⟨g, lo * 5 + 4, none⟩ (.slice rk7 nkx ck7)).cell? ⟨g, q, none⟩ = w7.cell? ⟨g, q, none⟩ := fun q hq => five_out q hq
  have f8 : ∀ o, (((((w7.setCell ⟨g, lo * 5, none⟩ (.int .i64 xk)).setCell ⟨g, lo * 5 + 1, none⟩ (.int .i64 xn)).setCell ⟨g, lo * 5 + 2, none⟩ (.string xs)).setCell ⟨g, lo * 5 + 3, none⟩ (.slice r7 nx c7)).setCell ⟨g, lo * 5 + 4, none⟩ (.slice rk7 nkx ck7)).frozen? ⟨w.heap.size + 1 + 1, o, none⟩ = false := fun o => by
    rw [five_frozen]
    exact (B67.out.frozen (p := ⟨w.heap.size + 1 + 1, o, none⟩) (by simp only; omega)).trans (hfs6 o)
  have z8 : (((((w7.setCell ⟨g, lo * 5, none⟩ (.int .i64 xk)).setCell ⟨g, lo * 5 + 1, none⟩ (.int .i64 xn)).setCell ⟨g, lo * 5 + 2, none⟩ (.string xs)).setCell ⟨g, lo * 5 + 3, none⟩ (.slice r7 nx c7)).setCell ⟨g, lo * 5 + 4, none⟩ (.slice rk7 nkx ck7)).heap.size = w7.heap.size := by simp [World.setCell]
  have B8 : Below w.heap.size w (((((w7.setCell ⟨g, lo * 5, none⟩ (.int .i64 xk)).setCell ⟨g, lo * 5 + 1, none⟩ (.int .i64 xn)).setCell ⟨g, lo * 5 + 2, none⟩ (.string xs)).setCell ⟨g, lo * 5 + 3, none⟩ (.slice r7 nx c7)).setCell ⟨g, lo * 5 + 4, none⟩ (.slice rk7 nkx ck7)) := ((((B7.out.setCell (by simp only; have := HMl.out; omega) _).setCell (by simp only; have := HMl.out; omega) _).setCell (by simp only; have := HMl.out; omega) _).setCell (by simp only; have := HMl.out; omega) _).setCell (by simp only; have := HMl.out; omega) _
  have N8 := hid n8
  have I8 := hid i8
  have K8 := hid k8
  have Bb8 := hid B8
  have HX7 := hid hx7
  clear n8 i8 k8 B8 hb7 hx7 O6 W9
  generalize (((((w7.setCell ⟨g, lo * 5, none⟩ (.int .i64 xk)).setCell ⟨g, lo * 5 + 1, none⟩ (.int .i64 xn)).setCell ⟨g, lo * 5 + 2, none⟩ (.string xs)).setCell ⟨g, lo * 5 + 3, none⟩ (.slice r7 nx c7)).setCell ⟨g, lo * 5 + 4, none⟩ (.slice rk7 nkx ck7)) = W8 at *
  have cc : ∀ (b o : Nat) (v : Value), b ≠ g → wT.cell? ⟨b, o, none⟩ = some v → W8.cell? ⟨b, o, none⟩ = some v := fun b o v hb h => by
    exact Eq.trans (World.cell?_of_block (w := w7) (w' := W8) (a := ⟨b, o, none⟩) (N8.out b hb)) (bget B67.out h)
  have p0 := cc _ _ _ (by omega) o0'
  have p1 := cc _ _ _ (by omega) o1'
  have p2 := cc _ _ _ (by omega) o2'
  have p3 := cc _ _ _ (by omega) o3'
  have p4 := cc _ _ _ (by omega) o4'
  have q0 := cc _ _ _ (by omega) s0'
  have q1 := cc _ _ _ (by omega) s1'
  have q2 := cc _ _ _ (by omega) s2'
  have q3 := cc _ _ _ (by omega) s3'
  have q4 := cc _ _ _ (by omega) s4'
  clear cc
  clear o0' o1' o2' o3' o4' s0' s1' s2' s3' s4' y0' y1' y2' y3' y4' e0 e1 e2 e3 e4 d0 d1 d2 d3 d4
  go_wp2
  have HL := HMl.out
  have n9 : ∀ b, b ≠ w.heap.size + 1 + 1 → (((((W8.setCell ⟨w.heap.size + 1 + 1, 0, none⟩ (.int .i64 mk)).setCell ⟨w.heap.size + 1 + 1, 1, none⟩ (.int .i64 mn)).setCell ⟨w.heap.size + 1 + 1, 2, none⟩ (.string ms)).setCell ⟨w.heap.size + 1 + 1, 3, none⟩ (.slice (some ⟨g, 0, none⟩) is2.length cap)).setCell ⟨w.heap.size + 1 + 1, 4, none⟩ (.slice (some ⟨gk, 0, none⟩) ks2.length capk)).heap[b]? = W8.heap[b]? := fun b hb => five_heap W8 _ 0 _ _ _ _ _ hb
  have hKx : keepB M (.slice (some ⟨g, 0, none⟩) is2.length cap) = keepB M (.slice (some ⟨g, 0, none⟩) is2.length cap) := rfl
  have S6 := sl_rowsK HLS.out.2.2 HOWN.out HVR.out
  have hne : ∀ b, keepB M (.slice (some ⟨g, 0, none⟩) is2.length cap) b = true → M ≤ b ∧ b ≠ g := fun b hb => ⟨(keepB_out hb).1, fun e => (keepB_out hb).2 (by simp [Value.ownBlock, e])⟩
  have S7 : Sl (fun w cs x => VR (mask (keepB M (.slice (some ⟨g, 0, none⟩) is2.length cap)) w) cs x) 5 w7 (.slice (some ⟨g, 0, none⟩) is2.length cap) is2 :=
    sl_stays (fun b o v h => bget B67.out h) (fun cs x h => vr_stays (stays_below B67.out) h) S6
  have S9 := sl_set (w' := (((((W8.setCell ⟨w.heap.size + 1 + 1, 0, none⟩ (.int .i64 mk)).setCell ⟨w.heap.size + 1 + 1, 1, none⟩ (.int .i64 mn)).setCell ⟨w.heap.size + 1 + 1, 2, none⟩ (.string ms)).setCell ⟨w.heap.size + 1 + 1, 3, none⟩ (.slice (some ⟨g, 0, none⟩) is2.length cap)).setCell ⟨w.heap.size + 1 + 1, 4, none⟩ (.slice (some ⟨gk, 0, none⟩) ks2.length capk))) S7 lo hL2 x [.int .i64 xk, .int .i64 xn, .string xs, .slice r7 nx c7, .slice rk7 nkx ck7] rfl
    (fun cs y h => vr_stays (stays_keep fun b hb hlt => ⟨hb, (n9 b (by have := (hne b hb).1; omega)).trans (N8.out b (hne b hb).2)⟩) h)
    (by
      have h := HX7.out.vk
      have h := VK.to (K' := keepB M (.slice (some ⟨g, 0, none⟩) is2.length cap)) (w' := (((((W8.setCell ⟨w.heap.size + 1 + 1, 0, none⟩ (.int .i64 mk)).setCell ⟨w.heap.size + 1 + 1, 1, none⟩ (.int .i64 mn)).setCell ⟨w.heap.size + 1 + 1, 2, none⟩ (.string ms)).setCell ⟨w.heap.size + 1 + 1, 3, none⟩ (.slice (some ⟨g, 0, none⟩) is2.length cap)).setCell ⟨w.heap.size + 1 + 1, 4, none⟩ (.slice (some ⟨gk, 0, none⟩) ks2.length capk))) (stays_keep fun b hb hlt => by
        have hb : wT.heap.size ≤ b := of_decide_eq_true (show decide (wT.heap.size ≤ b) = true from hb)
        refine ⟨keepB_mk (by omega) (fun e => ?_), (n9 b (by omega)).trans (N8.out b (by omega))⟩
        have : g = b := by simpa [Value.ownBlock] using e
        omega) h
      unfold VK VR5 at h
      rw [E1.out, E2.out, E3.out, E4.out, E5.out] at h
      exact h)
    (fun j u hj => by
      rw [Nat.zero_add]
      exact Eq.trans (World.cell?_of_block (w := W8) (a := ⟨g, lo * 5 + j, none⟩) (n9 g hgne3)) (I8.out j u hj))
    (fun q hq => by
      exact Eq.trans (World.cell?_of_block (w := W8) (a := ⟨g, q, none⟩) (n9 g hgne3)) (K8.out q (by omega)))
  have SI := sl_to_mask (K' := fromB w.heap.size) S9 (decide_eq_true (by omega)) (fun b hb => decide_eq_true (by have := (hne b hb).1; omega))
  have SKF : Sl StrR 1 (mask (fromB w.heap.size) (((((W8.setCell ⟨w.heap.size + 1 + 1, 0, none⟩ (.int .i64 mk)).setCell ⟨w.heap.size + 1 + 1, 1, none⟩ (.int .i64 mn)).setCell ⟨w.heap.size + 1 + 1, 2, none⟩ (.string ms)).setCell ⟨w.heap.size + 1 + 1, 3, none⟩ (.slice (some ⟨g, 0, none⟩) is2.length cap)).setCell ⟨w.heap.size + 1 + 1, 4, none⟩ (.slice (some ⟨gk, 0, none⟩) ks2.length capk))) (.slice (some ⟨gk, 0, none⟩) ks2.length capk) ks2 := ownK_sl (B := W3.heap.size) (own_mask (own_keep OK6.out fun b hb => by
    have h1 := own_lt OK6.out hb
    have h2 := NKT.out b hb
    exact ((n9 b (by omega)).trans (N8.out b (by omega))).trans (B67.out.block b h1.2)) fun b hb => decide_eq_true (by have := (own_lt OK6.out hb).1; omega)) SK2.out
  have HV := vr5_make (by simp) SI SKF BD.out.1 BD.out.2.1 BD.out.2.2 (by have := INK.out; have := HLS.out; omega) (by have := INI.out; have := HLS.out; omega)
  have HB : Below w.heap.size w (((((W8.setCell ⟨w.heap.size + 1 + 1, 0, none⟩ (.int .i64 mk)).setCell ⟨w.heap.size + 1 + 1, 1, none⟩ (.int .i64 mn)).setCell ⟨w.heap.size + 1 + 1, 2, none⟩ (.string ms)).setCell ⟨w.heap.size + 1 + 1, 3, none⟩ (.slice (some ⟨g, 0, none⟩) is2.length cap)).setCell ⟨w.heap.size + 1 + 1, 4, none⟩ (.slice (some ⟨gk, 0, none⟩) ks2.length capk)) := (((((Bb8.out.setCell (by simp only; omega) _).setCell (by simp only; omega) _).setCell (by simp only; omega) _).setCell (by simp only; omega) _).setCell (by simp only; omega) _)
  refine bodyPost_ret (v := .agg #[.int .i64 mk, .int .i64 mn, .string ms, .slice (some ⟨g, 0, none⟩) is2.length cap, .slice (some ⟨gk, 0, none⟩) ks2.length capk]) (by simp [results, Tryd.results28, go_sem, q0, q1, q2, q3, q4]) rfl ⟨some ⟨g, 0, none⟩, cap, (some ⟨gk, 0, none⟩), capk, ?_, by rw [RES.out.1, RES.out.2]; exact HV, HB⟩
  rw [RES.out.1, RES.out.2]
  simp only [Val.kind, Val.num, Val.str, Val.items, Val.keys, List.length_set]
end Go.Proofs.YtedpdpcibkceeaaDoor
