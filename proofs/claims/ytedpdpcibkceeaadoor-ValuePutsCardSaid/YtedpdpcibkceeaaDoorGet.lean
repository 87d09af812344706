import Derived.Test.YtedpdpcibkceeaaDoorCop3
import Derived.Test.YtedpdpcibkceeaaDoorP
import Derived.Test.YtedpdpcibkceeaaDoorEq
import Derived.Sort.Walk0
/-
  Contracts of slices.BinarySearch at strings, of the program's Get, and of the reference's Get. Conditions: those ahead of each theorem.
-/
namespace Go.Proofs.YtedpdpcibkceeaaDoor
open Go.RowKit Go.Sort Go.Lib
open Go.Lib (hid)
set_option linter.unusedVariables false
set_option linter.unusedSimpArgs false

theorem lowS_spec (k : ByteArray) : ∀ {ks : List ByteArray}, AscS ks → (∀ t (h : t < ks.length), t < lowS ks k → ltS ks[t] k) ∧ (∀ t (h : t < ks.length), lowS ks k ≤ t → ¬ ltS ks[t] k)
  | [], _ => ⟨fun t h => absurd h (by simp), fun t h => absurd h (by simp)⟩
  | a :: ks, ha => by
    obtain ⟨h1, h2⟩ := lowS_spec k (ks := ks) ha.tail
    by_cases h : ltS a k
    · rw [lowS_lt h]
      refine ⟨fun t ht hlt => ?_, fun t ht hle => ?_⟩
      · cases t with
        | zero => exact h
        | succ t => exact h1 t (by simpa using ht) (by omega)
      · cases t with
        | zero => omega
        | succ t => exact h2 t (by simpa using ht) (by omega)
    · rw [lowS_ge h]
      refine ⟨fun t ht hlt => absurd hlt (by omega), fun t ht _ => ?_⟩
      cases t with
      | zero => exact h
      | succ t => exact fun hk => h (ltS_trans (AscS.lt ha _ (List.getElem_mem (by simpa using ht))) hk)
theorem blt_iff {a b : ByteArray} : Op.bytesLess a.toList b.toList = true ↔ ltS a b := by
  unfold ltS
  rw [Go.Proofs.bytesLess_eq, decide_eq_true_eq, ByteArray.toList_eq, ByteArray.toList_eq]
theorem bs_any (ks : List ByteArray) (r : Option Addr) (c : Nat) (x : ByteArray) (w : World) (h : Sl StrR 1 w (.slice r ks.length c) ks) (ha : AscS ks) (hn : ks.length ≤ 10000000000000) :
    Calls Tryd.prog 46 #[.slice r ks.length c, .string x] w fun e w' => e = .returned (.tuple #[.int .i64 (lowS ks x : Nat), .bool (hasK ks x)]) ∧ Below w.heap.size w w' := by
  by_cases h0 : ks = []
  · subst h0
    exact (Any2.slices_BinarySearch_string_empty Tryd.laysB26 r c x w).mono fun e w' ⟨he, hw⟩ => ⟨he, by rw [hw]; exact Below.refl _ _⟩
  have hpos : 0 < ks.length := List.length_pos_iff.2 h0
  obtain ⟨b, off, hr, _⟩ := str_at h 0 hpos
  subst hr
  have hI : bsGo (fun t => Op.bytesLess ((fun j => if hj : j < ks.length then ks[j] else x) t).toList x.toList) ks.length 0 ks.length = lowS ks x := by
    obtain ⟨h1, h2⟩ := lowS_spec x ha
    have hl := lowS_le ks x
    refine bsGo_spec _ _ (fun t ht => ?_) (fun t ht => ?_) _ _ _ (by omega) (by omega) hl
    · have : t < ks.length := by omega
      simp only [this, dif_pos]
      exact blt_iff.2 (h1 t this ht)
    · by_cases hlt : t < ks.length
      · simp only [hlt, dif_pos]
        rw [Bool.eq_false_iff]; intro e; exact h2 t hlt ht (blt_iff.1 e)
      · simp only [hlt, dif_neg, not_false_eq_true]
        rw [Bool.eq_false_iff]; intro e; exact ltS_irrefl x (blt_iff.1 e)
  refine (Any2.slices_BinarySearch_string Tryd.laysB26 b off ks.length c (fun j => if hj : j < ks.length then ks[j] else x) x w (by omega) (fun j hj => ?_)).mono fun e w' ⟨he, q, hw⟩ => ⟨?_, ?_⟩
  · obtain ⟨b', off', hr', _, g0, _⟩ := str_at h j hj
    simp only [Option.some.injEq, Addr.mk.injEq, and_true] at hr'
    obtain ⟨rfl, rfl⟩ := hr'
    simp only [hj, dif_pos]
    exact g0
  · rw [he, hI]
    congr 4
    unfold hasK
    by_cases hlt : lowS ks x < ks.length
    · simp [hlt]
    · have : ks[lowS ks x]? = none := List.getElem?_eq_none (by omega)
      simp [hlt]
  · rw [hw]; exact ⟨rfl, rfl, rfl, Nat.le_refl _, fun _ _ => rfl⟩

def zeroV : Val := .mk 0 0 ⟨#[]⟩ [] []
def getV (x : Val) (key : ByteArray) : Option Val := if x.kind = 5 then getI x.keys x.items key else none
theorem zeroV_vr (w : World) : VR5 w none 0 none 0 zeroV := VR.make (x := zeroV) ⟨none, 0, rfl, by simp [zeroV, Val.items], by simp, fun i h => absurd h (by simp [zeroV, Val.items])⟩ ⟨none, 0, rfl, by simp [zeroV, Val.keys], by simp, fun i h => absurd h (by simp [zeroV, Val.keys])⟩ (by simp [i64B, zeroV, Val.kind]) (by simp [i64B, zeroV, Val.num]) (Nat.zero_le _) (by simp [zeroV, Val.keys]) (by simp [zeroV, Val.items])
def GetP (w : World) (y : Option Val) (e : Ending) (w' : World) : Prop := ∃ r c rk ck, e = .returned (.tuple #[.agg #[.int .i64 (y.getD zeroV).kind, .int .i64 (y.getD zeroV).num, .string (y.getD zeroV).str, .slice r (y.getD zeroV).items.length c, .slice rk (y.getD zeroV).keys.length ck], .bool y.isSome]) ∧ VR5 w' r c rk ck (y.getD zeroV) ∧ Below w.heap.size w w'

set_option maxRecDepth 100000 in
set_option maxHeartbeats 4000000 in
theorem pget_any (x : Val) (key : ByteArray) (r : Option Addr) (c : Nat) (rk : Option Addr) (ck : Nat) (w : World) (hx : VR5 w r c rk ck x) (ha : AscS x.keys) (hno : nodes x ≤ 1000000) (hnk : nkeys x ≤ 1000000) :
    Calls Tryd.prog 15 #[.agg #[.int .i64 x.kind, .int .i64 x.num, .string x.str, .slice r x.items.length c, .slice rk x.keys.length ck], .string key] w (GetP w (getV x key)) := by
  obtain ⟨hI, hK, hk, hnu, hs, hkl, hil⟩ := hx.parts
  obtain ⟨_, hlc, hcm⟩ := sl_len hI
  obtain ⟨_, hlk, hkm⟩ := sl_len hK
  have hn := nodes_eq x
  have hnk2 := nkeys_eq x
  have HI := hid hI
  have BS := hid (fun (W : World) (hW : Below w.heap.size w W) => bs_any x.keys rk ck key W (hK.below strR_mono hW) ha hkl)
  have HN := hid (show ∀ w', Below w.heap.size w w' → getV x key = none → GetP w (getV x key) (.returned (.tuple #[.agg #[.int .i64 0, .int .i64 0, .string ⟨#[]⟩, .slice none 0 0, .slice none 0 0], .bool false])) w' from fun w' hb h => by
    rw [h]; exact ⟨none, 0, none, 0, rfl, zeroV_vr w', hb⟩)
  have HS := hid (show ∀ y w' r c rk ck, Below w.heap.size w w' → getV x key = some y → VR5 w' r c rk ck y → GetP w (getV x key) (.returned (.tuple #[.agg #[.int .i64 y.kind, .int .i64 y.num, .string y.str, .slice r y.items.length c, .slice rk y.keys.length ck], .bool true])) w' from fun y w' r c rk ck hb h hv => by
    rw [h]; exact ⟨r, c, rk, ck, rfl, hv, hb⟩)
  have HG1 := hid (show x.kind ≠ 5 → getV x key = none from fun h => if_neg h)
  have HG2 := hid (show hasK x.keys key = false → getV x key = none from fun h => by unfold getV getI; rw [h]; simp)
  have HG3 := hid (show x.kind = 5 → hasK x.keys key = true → getV x key = x.items[lowS x.keys key]? from fun h h' => by unfold getV getI; rw [if_pos h, h']; simp)
  have hlo := lowS_le x.keys key
  clear hI hK hk hnu hs hx ha hnk2
  generalize hgv : getV x key = gv at *
  clear hgv
  have CPY := hid (show ∀ y ∈ x.items, ∀ (r : Option Addr) (c : Nat) (rk : Option Addr) (ck : Nat) (w : World), VR5 w r c rk ck y → Calls Tryd.prog 47 #[.agg #[.int .i64 y.kind, .int .i64 y.num, .string y.str, .slice r y.items.length c, .slice rk y.keys.length ck]] w (CopP w y) from fun y hy r c rk ck w h5 => copied_any y r c rk ck w h5 (by have := nodes_mem hy; omega) (by have := nkeys_mem hy; have := nkeys_eq x; omega))
  obtain ⟨xk, xn, xs, is, ks⟩ := x
  simp only [Val.kind, Val.num, Val.str, Val.items, Val.keys] at *
  obtain ⟨hb, hhb⟩ : ∃ b, hasK ks key = b := ⟨_, rfl⟩
  obtain ⟨lo, hlw⟩ : ∃ n, lowS ks key = n := ⟨_, rfl⟩
  simp only [hhb, hlw] at BS HG2 HG3 hlo
  clear hhb hlw
  have hb2 : Below w.heap.size w ((w.alloc (.cells #[.int .i64 xk, .int .i64 xn, .string xs, .slice r is.length c, .slice rk ks.length ck] 26)).alloc (.cells #[.int .i64 0, .int .i64 0, .string { data := #[] }, .slice none 0 0, .slice none 0 0] 26)) := ((Below.refl _ _).alloc (Nat.le_refl _) _).alloc (by simp) _
  go_enter Tryd.func15, Tryd.ntmps15
  go_wp2_with fail
  refine (BS.out _ hb2).mono ?_
  rintro e w3 ⟨rfl, hb3⟩
  have B3 := hid (hb2.trans (hb3.mono hb2.size))
  have z3 := hb3.size
  simp at z3
  have q0 := bget hb3 (bget ((Below.refl _ _).alloc (Nat.le_refl _) _) (cell_at (T := 26) (cs := #[.int .i64 xk, .int .i64 xn, .string xs, .slice r is.length c, .slice rk ks.length ck]) (w := w) (o := 0) rfl rfl))
  have q3 := bget hb3 (bget ((Below.refl _ _).alloc (Nat.le_refl _) _) (cell_at (T := 26) (cs := #[.int .i64 xk, .int .i64 xn, .string xs, .slice r is.length c, .slice rk ks.length ck]) (w := w) (o := 3) rfl rfl))
  simp only [List.getElem_toArray, List.getElem_cons_zero, List.getElem_cons_succ] at q0 q3
  have t0 := bget hb3 (show ((w.alloc (.cells #[.int .i64 xk, .int .i64 xn, .string xs, .slice r is.length c, .slice rk ks.length ck] 26)).alloc (.cells #[.int .i64 0, .int .i64 0, .string { data := #[] }, .slice none 0 0, .slice none 0 0] 26)).cell? ⟨w.heap.size + 1, 0, none⟩ = some (.int .i64 0) from cell_at (by simp) rfl)
  have t1 := bget hb3 (show ((w.alloc (.cells #[.int .i64 xk, .int .i64 xn, .string xs, .slice r is.length c, .slice rk ks.length ck] 26)).alloc (.cells #[.int .i64 0, .int .i64 0, .string { data := #[] }, .slice none 0 0, .slice none 0 0] 26)).cell? ⟨w.heap.size + 1, 1, none⟩ = some (.int .i64 0) from cell_at (by simp) rfl)
  have t2 := bget hb3 (show ((w.alloc (.cells #[.int .i64 xk, .int .i64 xn, .string xs, .slice r is.length c, .slice rk ks.length ck] 26)).alloc (.cells #[.int .i64 0, .int .i64 0, .string { data := #[] }, .slice none 0 0, .slice none 0 0] 26)).cell? ⟨w.heap.size + 1, 2, none⟩ = some (.string { data := #[] }) from cell_at (by simp) rfl)
  have t3 := bget hb3 (show ((w.alloc (.cells #[.int .i64 xk, .int .i64 xn, .string xs, .slice r is.length c, .slice rk ks.length ck] 26)).alloc (.cells #[.int .i64 0, .int .i64 0, .string { data := #[] }, .slice none 0 0, .slice none 0 0] 26)).cell? ⟨w.heap.size + 1, 3, none⟩ = some (.slice none 0 0) from cell_at (by simp) rfl)
  have t4 := bget hb3 (show ((w.alloc (.cells #[.int .i64 xk, .int .i64 xn, .string xs, .slice r is.length c, .slice rk ks.length ck] 26)).alloc (.cells #[.int .i64 0, .int .i64 0, .string { data := #[] }, .slice none 0 0, .slice none 0 0] 26)).cell? ⟨w.heap.size + 1, 4, none⟩ = some (.slice none 0 0) from cell_at (by simp) rfl)
  have hfs : ∀ o, w3.frozen? ⟨w.heap.size + 1, o, none⟩ = false := fun o => (hb3.frozen (p := ⟨w.heap.size + 1, o, none⟩) (by simp)).trans (by simp)
  clear hb3 hb2
  by_cases h5 : xk = 5
  case neg =>
    have HF := hid (HG1.out h5)
    have e1 : (xk != 5) = true := by simpa using h5
    have e2 : (xk == 5) = false := by simpa using h5
    clear h5 HG1 HG2 HG3
    go_wp2
    exact bodyPost_ret (v := .tuple #[.agg #[.int .i64 0, .int .i64 0, .string ⟨#[]⟩, .slice none 0 0, .slice none 0 0], .bool false]) (by simp [results, Tryd.results15, go_sem, t0, t1, t2, t3, t4]) rfl (HN.out _ (((((B3.out.setCell (by simp) _).setCell (by simp) _).setCell (by simp) _).setCell (by simp) _).setCell (by simp) _) HF.out)
  case pos =>
  subst h5
  cases hb
  case false =>
    have HF := hid (HG2.out rfl)
    clear HG1 HG2 HG3
    go_wp2
    exact bodyPost_ret (v := .tuple #[.agg #[.int .i64 0, .int .i64 0, .string ⟨#[]⟩, .slice none 0 0, .slice none 0 0], .bool false]) (by simp [results, Tryd.results15, go_sem, t0, t1, t2, t3, t4]) rfl (HN.out _ (((((B3.out.setCell (by simp) _).setCell (by simp) _).setCell (by simp) _).setCell (by simp) _).setCell (by simp) _) HF.out)
  case true =>
  have HF3 := hid (HG3.out rfl rfl)
  clear HG1 HG2 HG3
  by_cases hlt : lo < is.length
  case neg =>
    have HF := hid (HF3.out.trans (List.getElem?_eq_none (by omega)))
    have hltz : (is.length : Int) ≤ (lo : Int) := by omega
    clear HF3
    go_wp2
    exact bodyPost_ret (v := .tuple #[.agg #[.int .i64 0, .int .i64 0, .string ⟨#[]⟩, .slice none 0 0, .slice none 0 0], .bool false]) (by simp [results, Tryd.results15, go_sem, t0, t1, t2, t3, t4]) rfl (HN.out _ (((((B3.out.setCell (by simp) _).setCell (by simp) _).setCell (by simp) _).setCell (by simp) _).setCell (by simp) _) HF.out)
  case pos =>
  have HF := hid (HF3.out.trans (List.getElem?_eq_getElem hlt))
  have hltz : (lo : Int) < (is.length : Int) := by omega
  have hltz' : ¬ (is.length : Int) ≤ (lo : Int) := by omega
  obtain ⟨b, off, ri, ci, rk', ck', rfl, hb', g0, g1, g2, g3, g4, h5⟩ := val_at (slv_mono HI.out B3.out) lo hlt
  have C := hid (CPY.out _ (List.getElem_mem hlt) ri ci rk' ck' w3 h5)
  clear HF3 h5 CPY
  generalize is[lo] = y at *
  obtain ⟨yk, yn, ys, yi, yks⟩ := y
  simp only [Val.kind, Val.num, Val.str, Val.items, Val.keys] at g0 g1 g2 g3 g4 C HF HS
  go_wp2_with fail
  refine C.out.mono ?_
  rintro e w4 ⟨r4, c4, rk4, ck4, M, rfl, hx4, hb4⟩
  have B4 := hid (B3.out.trans (hb4.mono B3.out.size))
  have u0 := bget hb4 t0
  have u1 := bget hb4 t1
  have u2 := bget hb4 t2
  have u3 := bget hb4 t3
  have u4 := bget hb4 t4
  have hfu : ∀ o, w4.frozen? ⟨w.heap.size + 1, o, none⟩ = false := fun o => (hb4.frozen (p := ⟨w.heap.size + 1, o, none⟩) (by simp only; omega)).trans (hfs o)
  have V4 := hid (show VR5 (((((w4.setCell ⟨w.heap.size + 1, 0, none⟩ (.int .i64 yk)).setCell ⟨w.heap.size + 1, 1, none⟩ (.int .i64 yn)).setCell ⟨w.heap.size + 1, 2, none⟩ (.string ys)).setCell ⟨w.heap.size + 1, 3, none⟩ (.slice r4 yi.length c4)).setCell ⟨w.heap.size + 1, 4, none⟩ (.slice rk4 yks.length ck4)) r4 c4 rk4 ck4 (.mk yk yn ys yi yks) from
    vr_stays (stays_out fun b hk hlt => by
      simp only [fromB, decide_eq_true_eq] at hk
      rw [Below.heap_setCell _ _ _ _ (by simp only; omega), Below.heap_setCell _ _ _ _ (by simp only; omega), Below.heap_setCell _ _ _ _ (by simp only; omega), Below.heap_setCell _ _ _ _ (by simp only; omega), Below.heap_setCell _ _ _ _ (by simp only; omega)]) hx4.vk)
  clear hb4 hx4 t0 t1 t2 t3 t4 hfs
  go_wp2
  exact bodyPost_ret (v := .tuple #[.agg #[.int .i64 yk, .int .i64 yn, .string ys, .slice r4 yi.length c4, .slice rk4 yks.length ck4], .bool true]) (by simp [results, Tryd.results15, go_sem, u0, u1, u2, u3, u4, Val.kind, Val.num, Val.str, Val.items, Val.keys]) rfl (HS.out _ _ _ _ _ _ (((((B4.out.setCell (by simp) _).setCell (by simp) _).setCell (by simp) _).setCell (by simp) _).setCell (by simp) _) HF.out V4.out)
end Go.Proofs.YtedpdpcibkceeaaDoor
