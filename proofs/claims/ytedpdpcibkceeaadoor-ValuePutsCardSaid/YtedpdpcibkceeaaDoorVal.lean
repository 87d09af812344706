import Derived.Test.YtedpdpcibkceeaaDoorVr
import Derived.Deep.RegionWith
import Derived.Deep.RegionHeld3
/-
  Contracts of the reference's functions on values that only read: Nodes, keys, left, Small, number, Bytes. Conditions: those ahead of each theorem.
-/
namespace Go.Proofs.YtedpdpcibkceeaaDoor
open Go.RowKit Go.Sort Go.Lib
open Go.Lib (hid)
set_option linter.unusedVariables false
set_option linter.unusedSimpArgs false

/-- The five cells of a value. -/
def VR5 (w : World) (r : Option Addr) (c : Nat) (rk : Option Addr) (ck : Nat) (x : Val) : Prop :=
  VR w [.int .i64 x.kind, .int .i64 x.num, .string x.str, .slice r x.items.length c, .slice rk x.keys.length ck] x
theorem VR.five {w : World} {cs : List Value} {x : Val} (h : VR w cs x) : ∃ r c rk ck, cs = [.int .i64 x.kind, .int .i64 x.num, .string x.str, .slice r x.items.length c, .slice rk x.keys.length ck] ∧ VR5 w r c rk ck x := by
  have h0 := h
  obtain ⟨r, c, vK, rfl, _, hK, _⟩ := h.open'
  obtain ⟨rk, ck, rfl, _⟩ := hK
  exact ⟨r, c, rk, ck, rfl, h0⟩
theorem VR5.parts {w : World} {r : Option Addr} {c : Nat} {rk : Option Addr} {ck : Nat} {x : Val} (h : VR5 w r c rk ck x) :
    Sl VR 5 w (.slice r x.items.length c) x.items ∧ Sl StrR 1 w (.slice rk x.keys.length ck) x.keys ∧ i64B x.kind ∧ i64B x.num ∧ x.str.size ≤ maxLen ∧ x.keys.length ≤ 10000000000000 ∧ x.items.length ≤ 10000000000000 := by
  obtain ⟨r', c', vK, e, h1, h2, h3⟩ := VR.open' h
  simp only [List.cons.injEq, Value.slice.injEq, and_true, true_and] at e
  obtain ⟨⟨rfl, rfl⟩, rfl⟩ := e
  exact ⟨h1, h2, h3⟩
theorem VR5.below {w w' : World} {r : Option Addr} {c : Nat} {rk : Option Addr} {ck : Nat} {x : Val} (h : VR5 w r c rk ck x) (hb : Below w.heap.size w w') : VR5 w' r c rk ck x := vr_mono _ _ _ _ hb h
theorem slv_mono {w w' : World} {v : Value} {is : List Val} (h : Sl VR 5 w v is) (hb : Below w.heap.size w w') : Sl VR 5 w' v is := h.below vr_mono hb
theorem sl_len {α : Type} {R : World → List Value → α → Prop} {sz : Nat} {w : World} {r : Option Addr} {n c : Nat} {xs : List α} (h : Sl R sz w (.slice r n c) xs) : n = xs.length ∧ n ≤ c ∧ c ≤ 9223372036854775807 := by
  obtain ⟨r', c', e, h1, h2, _⟩ := h
  simp at e
  obtain ⟨rfl, rfl, rfl⟩ := e
  unfold maxLen at h2
  exact ⟨rfl, h1, by omega⟩

/-- The element i of a slice of values: its five cells. -/
theorem val_at {w : World} {r : Option Addr} {n c : Nat} {is : List Val} (h : Sl VR 5 w (.slice r n c) is) (i : Nat) (hi : i < is.length) :
    ∃ b off ri ci rk ck, r = some ⟨b, off, none⟩ ∧ b < w.heap.size ∧ w.cell? ⟨b, off + i * 5, none⟩ = some (.int .i64 (is[i]).kind) ∧ w.cell? ⟨b, off + i * 5 + 1, none⟩ = some (.int .i64 (is[i]).num) ∧ w.cell? ⟨b, off + i * 5 + 2, none⟩ = some (.string (is[i]).str) ∧
      w.cell? ⟨b, off + i * 5 + 3, none⟩ = some (.slice ri (is[i]).items.length ci) ∧ w.cell? ⟨b, off + i * 5 + 4, none⟩ = some (.slice rk (is[i]).keys.length ck) ∧ VR5 w ri ci rk ck is[i] := by
  obtain ⟨r', c', e, h1, h2, he⟩ := h
  simp at e
  obtain ⟨rfl, rfl, rfl⟩ := e
  obtain ⟨b, off, cs, hr, _, hc, hR⟩ := he i hi
  obtain ⟨ri, ci, rk, ck, rfl, h5⟩ := hR.five
  have g0 := hc 0 _ rfl
  simp only [Nat.add_zero] at g0
  exact ⟨b, off, ri, ci, rk, ck, hr, World.block_lt_of_cell? w _ g0, g0, hc 1 _ rfl, hc 2 _ rfl, hc 3 _ rfl, hc 4 _ rfl, h5⟩
theorem str_at {w : World} {r : Option Addr} {n c : Nat} {ks : List ByteArray} (h : Sl StrR 1 w (.slice r n c) ks) (i : Nat) (hi : i < ks.length) :
    ∃ b off, r = some ⟨b, off, none⟩ ∧ b < w.heap.size ∧ w.cell? ⟨b, off + i, none⟩ = some (.string ks[i]) ∧ (ks[i]).size ≤ maxLen := by
  obtain ⟨r', c', e, h1, h2, he⟩ := h
  simp at e
  obtain ⟨rfl, rfl, rfl⟩ := e
  obtain ⟨b, off, cs, hr, _, hc, hR, hs⟩ := he i hi
  have g0 := hc 0 _ hR
  simp only [Nat.add_zero, Nat.mul_one] at g0
  exact ⟨b, off, hr, World.block_lt_of_cell? w _ g0, g0, hs⟩
theorem cell_at {w : World} {cs : Array Value} {T b o : Nat} {v : Value} (hb : b = w.heap.size) (hv : cs[o]? = some v) : (w.alloc (.cells cs T)).cell? ⟨b, o, none⟩ = some v := by
  subst hb
  unfold World.cell?
  rw [(MapKept.heap_alloc w _).1]
  simpa using hv

/-- A sum over the first items. -/
theorem nodesL_snoc {is : List Val} {k : Nat} (h : k < is.length) : nodesL (is.take (k + 1)) = nodesL (is.take k) + nodes is[k] := by
  rw [List.take_succ_eq_append_getElem h, nodesL_append]; simp [nodesL]
theorem nkeysL_snoc {is : List Val} {k : Nat} (h : k < is.length) : nkeysL (is.take (k + 1)) = nkeysL (is.take k) + nkeys is[k] := by
  rw [List.take_succ_eq_append_getElem h, nkeysL_append]; simp [nkeysL]
theorem nkeysL_take_le (is : List Val) (k : Nat) : nkeysL (is.take k) ≤ nkeysL is := by
  have := nkeysL_append (is.take k) (is.drop k)
  rw [List.take_append_drop] at this; omega
theorem nodesL_take_le (is : List Val) (k : Nat) : nodesL (is.take k) ≤ nodesL is := by
  have := nodesL_append (is.take k) (is.drop k)
  rw [List.take_append_drop] at this; omega

set_option maxHeartbeats 1000000 in
set_option maxRecDepth 100000 in
theorem rnodes_any (x : Val) : ∀ (r : Option Addr) (c : Nat) (rk : Option Addr) (ck : Nat) (w : World), VR5 w r c rk ck x → nodes x ≤ 1000000 →
    Calls Tryd.prog 26 #[.agg #[.int .i64 x.kind, .int .i64 x.num, .string x.str, .slice r x.items.length c, .slice rk x.keys.length ck]] w fun e w' => e = .returned (.int .i64 (nodes x)) ∧ Below w.heap.size w w' := by
  refine Val.ind (P := fun x => ∀ (r : Option Addr) (c : Nat) (rk : Option Addr) (ck : Nat) (w : World), VR5 w r c rk ck x → nodes x ≤ 1000000 →
    Calls Tryd.prog 26 #[.agg #[.int .i64 x.kind, .int .i64 x.num, .string x.str, .slice r x.items.length c, .slice rk x.keys.length ck]] w fun e w' => e = .returned (.int .i64 (nodes x)) ∧ Below w.heap.size w w') ?_ x
  intro x ih r c rk ck w hx hn
  obtain ⟨hI, hK, hk, hnu, hs, hkl, hil⟩ := hx.parts
  obtain ⟨_, hlc, hcm⟩ := sl_len hI
  have HI := hid hI
  have HN := hid (nodes_eq x)
  have HX := hid (show nodesL x.items + 1 ≤ 1000000 by have := nodes_eq x; omega)
  have IH := hid ih
  clear ih hI hK hx hk hnu hs hkl hn
  generalize x.kind = xk at *
  generalize x.num = xn at *
  generalize x.str = xs at *
  generalize x.keys.length = xkl at *
  generalize hnx : nodes x = nx at *
  clear hnx
  generalize hxi : x.items = is at *
  clear hxi
  have B0 := hid (show Below w.heap.size w (w.alloc (.cells #[.int .i64 xk, .int .i64 xn, .string xs, .slice r is.length c, .slice rk xkl ck] 26)) from (Below.refl _ _).alloc (Nat.le_refl _) _)
  go_enter Tryd.func26, Tryd.ntmps26
  go_wp2
  go_loopg [3, 4] is.length (fun gg s3 s4 wr => ∃ k : Nat, k ≤ is.length ∧ is.length - k ≤ gg ∧ s4 = .int .i64 k ∧ s3 = .int .i64 ((1 + nodesL (is.take k) : Nat) : Int) ∧ Aside (Below (w.heap.size + 1) (w.alloc (.cells #[.int .i64 xk, .int .i64 xn, .string xs, .slice r is.length c, .slice rk xkl ck] 26)) wr))
  case atStart => exact ⟨0, Nat.zero_le _, by omega, rfl, rfl, Below.refl _ _⟩
  case round =>
    obtain ⟨k, hk, hg, rfl, rfl, BW⟩ := hrel
    have q3 : wr.cell? ⟨w.heap.size, 3, none⟩ = some (.slice r is.length c) := (BW.out.cell (p := ⟨w.heap.size, 3, none⟩) (by simp)).trans (cell_at rfl rfl)
    have BX := hid (B0.out.trans (BW.out.mono (by simp)))
    by_cases hlt : k < is.length
    · have hltz : (k : Int) < (is.length : Int) := by omega
      obtain ⟨b, off, ri, ci, rk', ck', rfl, hb, g0, g1, g2, g3, g4, h5⟩ := val_at (slv_mono HI.out BX.out) k hlt
      have HT := hid (nodesL_snoc hlt)
      have hle := nodesL_take_le is (k + 1)
      have hle2 := HT.out
      have hle3 := HX.out
      have C := hid (IH.out _ (List.getElem_mem hlt) ri ci rk' ck' wr h5 (by omega))
      have b1 : nodesL (is.take k) + nodes is[k] ≤ 1000000 := by omega
      clear hle hle2 hle3 h5
      generalize is[k] = y at *
      obtain ⟨yk, yn, ys, yi, yks⟩ := y
      simp only [Val.kind, Val.num, Val.str, Val.items, Val.keys] at g0 g1 g2 g3 g4 C
      go_wp2_with fail
      refine C.out.mono ?_
      rintro e w1 ⟨rfl, hb1⟩
      have B1 := hid (BW.out.trans (hb1.mono (by have := BW.out.size; simpa using this)))
      clear hb1
      go_wp2
      go_roundg (is.length - (k + 1))
      case measure => omega
      case rel => exact ⟨k + 1, by omega, by omega, by go_num, by rw [HT.out]; go_num, B1.out⟩
    · have hltz : ¬ (k : Int) < (is.length : Int) := by omega
      have hke : k = is.length := by omega
      have HT := hid (show 1 + nodesL (is.take k) = nx by rw [hke, List.take_length, HN.out])
      clear hlt hk hke
      go_wp2
      go_ret
      exact ⟨ret_int (by have := HT.out; omega), BX.out⟩
theorem vr_nkeys (x : Val) : ∀ (w : World) (cs : List Value), VR w cs x → nkeys x ≤ nodes x * 10000000000000 := by
  refine Val.ind (P := fun x => ∀ (w : World) (cs : List Value), VR w cs x → nkeys x ≤ nodes x * 10000000000000) ?_ x
  intro x ih w cs h
  obtain ⟨r, c, rk, ck, rfl, h5⟩ := h.five
  obtain ⟨hI, hK, _, _, _, hkl, _⟩ := h5.parts
  have key : ∀ is : List Val, (∀ y ∈ is, nkeys y ≤ nodes y * 10000000000000) → nkeysL is ≤ nodesL is * 10000000000000 := by
    intro is
    induction is with
    | nil => intro _; simp [nkeysL, nodesL]
    | cons y ys ihy =>
      intro h
      have h1 := h y List.mem_cons_self
      have h2 := ihy fun z hz => h z (List.mem_cons_of_mem _ hz)
      rw [nkeysL, nodesL, Nat.add_mul]; omega
  have h2 := key x.items fun y hy => by
    obtain ⟨i, hi, rfl⟩ := List.mem_iff_getElem.1 hy
    obtain ⟨_, _, _, _, _, _, _, _, _, _, _, _, _, hv⟩ := val_at hI i hi
    exact ih _ hy w _ hv
  rw [nkeys_eq, nodes_eq, Nat.add_mul]; omega

set_option maxRecDepth 100000 in
theorem rkeys_any (x : Val) : ∀ (r : Option Addr) (c : Nat) (rk : Option Addr) (ck : Nat) (w : World), VR5 w r c rk ck x → nkeys x ≤ 10000000000000000 →
    Calls Tryd.prog 42 #[.agg #[.int .i64 x.kind, .int .i64 x.num, .string x.str, .slice r x.items.length c, .slice rk x.keys.length ck]] w fun e w' => e = .returned (.int .i64 (nkeys x)) ∧ Below w.heap.size w w' := by
  refine Val.ind (P := fun x => ∀ (r : Option Addr) (c : Nat) (rk : Option Addr) (ck : Nat) (w : World), VR5 w r c rk ck x → nkeys x ≤ 10000000000000000 →
    Calls Tryd.prog 42 #[.agg #[.int .i64 x.kind, .int .i64 x.num, .string x.str, .slice r x.items.length c, .slice rk x.keys.length ck]] w fun e w' => e = .returned (.int .i64 (nkeys x)) ∧ Below w.heap.size w w') ?_ x
  intro x ih r c rk ck w hx hn
  obtain ⟨hI, hK, hk, hnu, hs, hkl, hil⟩ := hx.parts
  obtain ⟨_, hlc, hcm⟩ := sl_len hI
  have HI := hid hI
  have HN := hid (nkeys_eq x)
  have HX := hid (show x.keys.length + nkeysL x.items ≤ 10000000000000000 by have := nkeys_eq x; omega)
  have IH := hid ih
  clear ih hI hK hx hk hnu hs hn
  generalize x.kind = xk at *
  generalize x.num = xn at *
  generalize x.str = xs at *
  generalize x.keys.length = xkl at *
  generalize hnx : nkeys x = nx at *
  clear hnx
  generalize hxi : x.items = is at *
  clear hxi
  have B0 := hid (show Below w.heap.size w (w.alloc (.cells #[.int .i64 xk, .int .i64 xn, .string xs, .slice r is.length c, .slice rk xkl ck] 26)) from (Below.refl _ _).alloc (Nat.le_refl _) _)
  go_enter Tryd.func42, Tryd.ntmps42
  go_wp2
  go_loopg [3, 4] is.length (fun gg s3 s4 wr => ∃ k : Nat, k ≤ is.length ∧ is.length - k ≤ gg ∧ s4 = .int .i64 k ∧ s3 = .int .i64 ((xkl + nkeysL (is.take k) : Nat) : Int) ∧ Aside (Below (w.heap.size + 1) (w.alloc (.cells #[.int .i64 xk, .int .i64 xn, .string xs, .slice r is.length c, .slice rk xkl ck] 26)) wr))
  case atStart => exact ⟨0, Nat.zero_le _, by omega, rfl, rfl, Below.refl _ _⟩
  case round =>
    obtain ⟨k, hk, hg, rfl, rfl, BW⟩ := hrel
    have q3 : wr.cell? ⟨w.heap.size, 3, none⟩ = some (.slice r is.length c) := (BW.out.cell (p := ⟨w.heap.size, 3, none⟩) (by simp)).trans (cell_at rfl rfl)
    have BX := hid (B0.out.trans (BW.out.mono (by simp)))
    by_cases hlt : k < is.length
    · have hltz : (k : Int) < (is.length : Int) := by omega
      obtain ⟨b, off, ri, ci, rk', ck', rfl, hb, g0, g1, g2, g3, g4, h5⟩ := val_at (slv_mono HI.out BX.out) k hlt
      have HT := hid (nkeysL_snoc hlt)
      have hle := nkeysL_take_le is (k + 1)
      have hle2 := HT.out
      have hle3 := HX.out
      have C := hid (IH.out _ (List.getElem_mem hlt) ri ci rk' ck' wr h5 (by omega))
      have b1 : xkl + nkeysL (is.take k) + nkeys is[k] ≤ 10000000000000000 := by omega
      clear hle hle2 hle3 h5
      generalize is[k] = y at *
      obtain ⟨yk, yn, ys, yi, yks⟩ := y
      simp only [Val.kind, Val.num, Val.str, Val.items, Val.keys] at g0 g1 g2 g3 g4 C
      go_wp2_with fail
      refine C.out.mono ?_
      rintro e w1 ⟨rfl, hb1⟩
      have B1 := hid (BW.out.trans (hb1.mono (by have := BW.out.size; simpa using this)))
      clear hb1
      go_wp2
      go_roundg (is.length - (k + 1))
      case measure => omega
      case rel => exact ⟨k + 1, by omega, by omega, by go_num, by rw [HT.out]; go_num, B1.out⟩
    · have hltz : ¬ (k : Int) < (is.length : Int) := by omega
      have hke : k = is.length := by omega
      have HT := hid (show xkl + nkeysL (is.take k) = nx by rw [hke, List.take_length, HN.out])
      clear hlt hk hke
      go_wp2
      go_ret
      exact ⟨ret_int (by have := HT.out; omega), BX.out⟩

theorem leftL_snoc {is : List Val} {k : Nat} (h : k < is.length) (n l : Int) : leftL (is.take (k + 1)) n l = if 0 ≤ leftL (is.take k) n l then leftV is[k] (leftL (is.take k) n l) l else leftL (is.take k) n l := by
  rw [List.take_succ_eq_append_getElem h, leftL_append, leftL]
  split
  · rw [leftL]
  · rfl
theorem leftL_stop {is : List Val} {k : Nat} {n l : Int} (h : leftL (is.take k) n l < 0) : leftL is n l = leftL (is.take k) n l := by
  rw [← List.take_append_drop k is, leftL_append, List.take_append_drop, leftL_neg _ _ _ h]
theorem leftL_bd (is : List Val) (n l : Int) (hn : -1 ≤ n) : -1 ≤ leftL is n l ∧ leftL is n l ≤ n := by
  induction is generalizing n with
  | nil => rw [leftL]; omega
  | cons x xs ih =>
    rw [leftL]
    split
    · rename_i h0
      obtain ⟨h1, h2⟩ := left_spec x n l
      have h3 := nodes_pos x
      have h4 := ih (leftV x n l) h2
      by_cases h5 : 0 ≤ leftV x n l
      · have := (h1 h5).1; omega
      · omega
    · omega

set_option maxRecDepth 100000 in
theorem rleft_any (x : Val) : ∀ (n l : Int) (r : Option Addr) (c : Nat) (rk : Option Addr) (ck : Nat) (w : World), VR5 w r c rk ck x → -1 ≤ n → n ≤ 1000000 → -1 ≤ l → l ≤ 1000000 →
    Calls Tryd.prog 41 #[.agg #[.int .i64 x.kind, .int .i64 x.num, .string x.str, .slice r x.items.length c, .slice rk x.keys.length ck], .int .i64 n, .int .i64 l] w fun e w' => e = .returned (.int .i64 (leftV x n l)) ∧ Below w.heap.size w w' := by
  refine Val.ind (P := fun x => ∀ (n l : Int) (r : Option Addr) (c : Nat) (rk : Option Addr) (ck : Nat) (w : World), VR5 w r c rk ck x → -1 ≤ n → n ≤ 1000000 → -1 ≤ l → l ≤ 1000000 →
    Calls Tryd.prog 41 #[.agg #[.int .i64 x.kind, .int .i64 x.num, .string x.str, .slice r x.items.length c, .slice rk x.keys.length ck], .int .i64 n, .int .i64 l] w fun e w' => e = .returned (.int .i64 (leftV x n l)) ∧ Below w.heap.size w w') ?_ x
  intro x ih n l r c rk ck w hx hn0 hn1 hl0 hl1
  obtain ⟨hI, hK, hk, hnu, hs, hkl, hil⟩ := hx.parts
  obtain ⟨_, hlc, hcm⟩ := sl_len hI
  have HI := hid hI
  have HN := hid (leftV_eq x n l)
  have IH := hid ih
  clear ih hI hK hx hk hnu hs hkl
  generalize x.kind = xk at *
  generalize x.num = xn at *
  generalize x.str = xs at *
  generalize x.keys.length = xkl at *
  generalize hnx : leftV x n l = nx at *
  clear hnx
  generalize hxi : x.items = is at *
  clear hxi
  have B0 := hid (show Below w.heap.size w (w.alloc (.cells #[.int .i64 xk, .int .i64 xn, .string xs, .slice r is.length c, .slice rk xkl ck] 26)) from (Below.refl _ _).alloc (Nat.le_refl _) _)
  by_cases h1 : n < 1
  · have HN := hid (show nx = -1 by rw [HN.out, if_pos (.inl h1)])
    go_enter Tryd.func41, Tryd.ntmps41
    go_wp2
    go_ret
    exact ⟨ret_int HN.out, B0.out⟩
  by_cases h2 : l < 1
  · have HN := hid (show nx = -1 by rw [HN.out, if_pos (.inr h2)])
    go_enter Tryd.func41, Tryd.ntmps41
    go_wp2
    go_ret
    exact ⟨ret_int HN.out, B0.out⟩
  have HN := hid (show nx = leftL is (n - 1) (l - 1) by rw [HN.out, if_neg (by omega)])
  go_enter Tryd.func41, Tryd.ntmps41
  go_wp2
  go_loopg [7, 8] is.length (fun gg s7 s8 wr => ∃ k : Nat, k ≤ is.length ∧ is.length - k ≤ gg ∧ s8 = .int .i64 k ∧ s7 = .int .i64 (leftL (is.take k) (n - 1) (l - 1)) ∧ Aside (Below (w.heap.size + 1) (w.alloc (.cells #[.int .i64 xk, .int .i64 xn, .string xs, .slice r is.length c, .slice rk xkl ck] 26)) wr))
  case atStart => exact ⟨0, Nat.zero_le _, by omega, rfl, by rw [List.take_zero, leftL], Below.refl _ _⟩
  case round =>
    obtain ⟨k, hk, hg, rfl, rfl, BW⟩ := hrel
    have q3 : wr.cell? ⟨w.heap.size, 3, none⟩ = some (.slice r is.length c) := (BW.out.cell (p := ⟨w.heap.size, 3, none⟩) (by simp)).trans (cell_at rfl rfl)
    have BX := hid (B0.out.trans (BW.out.mono (by simp)))
    obtain ⟨c1, c2⟩ := leftL_bd (is.take k) (n - 1) (l - 1) (by omega)
    by_cases hlt : k < is.length
    · have hltz : (k : Int) < (is.length : Int) := by omega
      by_cases h0 : 0 ≤ leftL (is.take k) (n - 1) (l - 1)
      · obtain ⟨b, off, ri, ci, rk', ck', rfl, hb, g0, g1, g2, g3, g4, h5⟩ := val_at (slv_mono HI.out BX.out) k hlt
        have HT := hid ((leftL_snoc hlt (n - 1) (l - 1)).trans (if_pos h0))
        have C := hid (IH.out _ (List.getElem_mem hlt) (leftL (is.take k) (n - 1) (l - 1)) (l - 1) ri ci rk' ck' wr h5 (by omega) (by omega) (by omega) (by omega))
        clear h5
        generalize is[k] = y at *
        generalize leftL (is.take k) (n - 1) (l - 1) = cur at *
        obtain ⟨yk, yn, ys, yi, yks⟩ := y
        simp only [Val.kind, Val.num, Val.str, Val.items, Val.keys] at g0 g1 g2 g3 g4 C
        go_wp2_with fail
        refine C.out.mono ?_
        rintro e w1 ⟨rfl, hb1⟩
        have B1 := hid (BW.out.trans (hb1.mono (by have := BW.out.size; simpa using this)))
        clear hb1
        go_wp2
        go_roundg (is.length - (k + 1))
        case measure => omega
        case rel => exact ⟨k + 1, by omega, by omega, by go_num, by rw [HT.out], B1.out⟩
      · have h0' : leftL (is.take k) (n - 1) (l - 1) < 0 := by omega
        have HT := hid (show nx = leftL (is.take k) (n - 1) (l - 1) from HN.out.trans (leftL_stop h0'))
        generalize leftL (is.take k) (n - 1) (l - 1) = cur at *
        go_wp2
        go_ret
        exact ⟨ret_int HT.out, BX.out⟩
    · have hltz : ¬ (k : Int) < (is.length : Int) := by omega
      have hke : k = is.length := by omega
      have HT := hid (show nx = leftL (is.take k) (n - 1) (l - 1) by rw [hke, List.take_length, HN.out])
      generalize leftL (is.take k) (n - 1) (l - 1) = cur at *
      clear hlt hk hke
      go_wp2
      go_ret
      exact ⟨ret_int HT.out, BX.out⟩
end Go.Proofs.YtedpdpcibkceeaaDoor
