import Derived.Test.YtedpdpcibkceeaaDoorCop2
/-
  Contract of the program's copied. Conditions: those ahead of each theorem.
-/
namespace Go.Proofs.YtedpdpcibkceeaaDoor
open Go.RowKit Go.Sort Go.Lib
open Go.Lib (hid)
set_option linter.unusedVariables false
set_option linter.unusedSimpArgs false

theorem nkeys_mem {is : List Val} {x : Val} (h : x ∈ is) : nkeys x ≤ nkeysL is := by
  induction is with
  | nil => cases h
  | cons y ys ih =>
    rw [nkeysL]
    rcases List.mem_cons.1 h with rfl | h
    · omega
    · have := ih h; omega
theorem rset_same {w : World} {b o : Nat} {v u : Value} (h : w.cell? ⟨b, o, none⟩ = some u) : (w.setCell ⟨b, o, none⟩ v).cell? ⟨b, o, none⟩ = some v := scell_same h
theorem results_copied : Tryd.results47 = Tryd.results47 := rfl

set_option maxRecDepth 100000 in
set_option maxHeartbeats 4000000 in
theorem copied_any (x : Val) : ∀ (r : Option Addr) (c : Nat) (rk : Option Addr) (ck : Nat) (w : World), VR5 w r c rk ck x → nodes x ≤ 1000000 → nkeys x ≤ 1000000 →
    Calls Tryd.prog 47 #[.agg #[.int .i64 x.kind, .int .i64 x.num, .string x.str, .slice r x.items.length c, .slice rk x.keys.length ck]] w (CopP w x) := by
  refine Val.ind (P := fun x => ∀ (r : Option Addr) (c : Nat) (rk : Option Addr) (ck : Nat) (w : World), VR5 w r c rk ck x → nodes x ≤ 1000000 → nkeys x ≤ 1000000 →
    Calls Tryd.prog 47 #[.agg #[.int .i64 x.kind, .int .i64 x.num, .string x.str, .slice r x.items.length c, .slice rk x.keys.length ck]] w (CopP w x)) ?_ x
  intro x ih r c rk ck w hx hno hnk
  obtain ⟨hI, hK, hk, hnu, hs, hkl, hil⟩ := hx.parts
  have h1 := nodes_eq x
  have h2 := nkeys_eq x
  have h3 := nodesL_len x.items
  have CPS := hid (fun (W : World) (hW : Below w.heap.size w W) => copies_of x.items (fun y hy r c rk ck w' h5 => ih y hy r c rk ck w' h5 (by have := nodes_mem hy; omega) (by have := nkeys_mem hy; omega)) r c W (slv_mono hI hW) (by omega))
  have CLN := hid (fun (W : World) (hW : Below w.heap.size w W) => clone_any x.keys rk ck W (hK.below strR_mono hW) (by omega))
  have BD := hid (show i64B x.kind ∧ i64B x.num ∧ x.str.size ≤ maxLen ∧ x.keys.length ≤ 10000000000000 ∧ x.items.length ≤ 10000000000000 ∧ ∀ k ∈ x.keys, k.size ≤ maxLen from ⟨hk, hnu, hs, hkl, hil, strs_le hK⟩)
  have PP := hid (show ∀ r c rk ck M (w' : World), CopX w.heap.size M w' r c rk ck x → Below w.heap.size w w' → CopP w x (.returned (.agg #[.int .i64 x.kind, .int .i64 x.num, .string x.str, .slice r x.items.length c, .slice rk x.keys.length ck])) w' from fun r c rk ck M w' h1 h2 => ⟨r, c, rk, ck, M, rfl, h1, h2⟩)
  clear ih hI hK hk hnu hs hkl hil h1 h2 h3 hx hno hnk
  obtain ⟨xk, xn, xs, is, ks⟩ := x
  simp only [Val.kind, Val.num, Val.str, Val.items, Val.keys] at CPS CLN BD PP ⊢
  go_enter Tryd.func47, Tryd.ntmps47
  go_wp2_with fail
  have hb2 : Below w.heap.size w ((w.alloc (.cells #[.int .i64 xk, .int .i64 xn, .string xs, .slice r is.length c, .slice rk ks.length ck] 26)).alloc (.cells #[.int .i64 0, .int .i64 0, .string { data := #[] }, .slice none 0 0, .slice none 0 0] 26)) := ((Below.refl _ _).alloc (Nat.le_refl _) _).alloc (by simp) _
  refine (CLN.out _ hb2).mono ?_
  rintro e w3 ⟨v', rfl, ho3, hb3⟩
  obtain ⟨rk2, ck2, rfl, _⟩ := own_form ho3
  have z3 := hb3.size
  simp at z3
  have OK3 := hid ho3
  have B3 := hid (hb2.trans (hb3.mono hb2.size))
  have BB3 := hid hb3
  have q0 := bget hb3 (bget ((Below.refl _ _).alloc (Nat.le_refl _) _) (cell_at (T := 26) (cs := #[.int .i64 xk, .int .i64 xn, .string xs, .slice r is.length c, .slice rk ks.length ck]) (w := w) (o := 0) rfl rfl))
  have q1 := bget hb3 (bget ((Below.refl _ _).alloc (Nat.le_refl _) _) (cell_at (T := 26) (cs := #[.int .i64 xk, .int .i64 xn, .string xs, .slice r is.length c, .slice rk ks.length ck]) (w := w) (o := 1) rfl rfl))
  have q2 := bget hb3 (bget ((Below.refl _ _).alloc (Nat.le_refl _) _) (cell_at (T := 26) (cs := #[.int .i64 xk, .int .i64 xn, .string xs, .slice r is.length c, .slice rk ks.length ck]) (w := w) (o := 2) rfl rfl))
  have q3 := bget hb3 (bget ((Below.refl _ _).alloc (Nat.le_refl _) _) (cell_at (T := 26) (cs := #[.int .i64 xk, .int .i64 xn, .string xs, .slice r is.length c, .slice rk ks.length ck]) (w := w) (o := 3) rfl rfl))
  have q4 := bget hb3 (bget ((Below.refl _ _).alloc (Nat.le_refl _) _) (cell_at (T := 26) (cs := #[.int .i64 xk, .int .i64 xn, .string xs, .slice r is.length c, .slice rk ks.length ck]) (w := w) (o := 4) rfl rfl))
  have t0 := bget hb3 (show ((w.alloc (.cells #[.int .i64 xk, .int .i64 xn, .string xs, .slice r is.length c, .slice rk ks.length ck] 26)).alloc (.cells #[.int .i64 0, .int .i64 0, .string { data := #[] }, .slice none 0 0, .slice none 0 0] 26)).cell? ⟨w.heap.size + 1, 0, none⟩ = some _ from cell_at (by simp) rfl)
  have t1 := bget hb3 (show ((w.alloc (.cells #[.int .i64 xk, .int .i64 xn, .string xs, .slice r is.length c, .slice rk ks.length ck] 26)).alloc (.cells #[.int .i64 0, .int .i64 0, .string { data := #[] }, .slice none 0 0, .slice none 0 0] 26)).cell? ⟨w.heap.size + 1, 1, none⟩ = some _ from cell_at (by simp) rfl)
  have t2 := bget hb3 (show ((w.alloc (.cells #[.int .i64 xk, .int .i64 xn, .string xs, .slice r is.length c, .slice rk ks.length ck] 26)).alloc (.cells #[.int .i64 0, .int .i64 0, .string { data := #[] }, .slice none 0 0, .slice none 0 0] 26)).cell? ⟨w.heap.size + 1, 2, none⟩ = some _ from cell_at (by simp) rfl)
  have t3 := bget hb3 (show ((w.alloc (.cells #[.int .i64 xk, .int .i64 xn, .string xs, .slice r is.length c, .slice rk ks.length ck] 26)).alloc (.cells #[.int .i64 0, .int .i64 0, .string { data := #[] }, .slice none 0 0, .slice none 0 0] 26)).cell? ⟨w.heap.size + 1, 3, none⟩ = some _ from cell_at (by simp) rfl)
  have t4 := bget hb3 (show ((w.alloc (.cells #[.int .i64 xk, .int .i64 xn, .string xs, .slice r is.length c, .slice rk ks.length ck] 26)).alloc (.cells #[.int .i64 0, .int .i64 0, .string { data := #[] }, .slice none 0 0, .slice none 0 0] 26)).cell? ⟨w.heap.size + 1, 4, none⟩ = some _ from cell_at (by simp) rfl)
  have hfr : ∀ o, w3.frozen? ⟨w.heap.size, o, none⟩ = false := fun o => (hb3.frozen (p := ⟨w.heap.size, o, none⟩) (by simp; omega)).trans (by simp)
  have hfs : ∀ o, w3.frozen? ⟨w.heap.size + 1, o, none⟩ = false := fun o => (hb3.frozen (p := ⟨w.heap.size + 1, o, none⟩) (by simp)).trans (by simp)
  obtain ⟨hc3, hf3⟩ := bcellB hb3
  clear hb3 hb2 ho3
  have Q0 := hid ((scell_ne (v := .slice rk2 ks.length ck2) (show (4 : Nat) ≠ 0 by omega)).trans q0)
  have Q1 := hid ((scell_ne (v := .slice rk2 ks.length ck2) (show (4 : Nat) ≠ 1 by omega)).trans q1)
  have Q2 := hid ((scell_ne (v := .slice rk2 ks.length ck2) (show (4 : Nat) ≠ 2 by omega)).trans q2)
  have Q3 := hid ((scell_ne (v := .slice rk2 ks.length ck2) (show (4 : Nat) ≠ 3 by omega)).trans q3)
  have Q4 := hid (scell_same (v := .slice rk2 ks.length ck2) q4)
  have hso : ∀ o v, w3.cell? ⟨w.heap.size + 1, o, none⟩ = some v → (w3.setCell ⟨w.heap.size, 4, none⟩ (.slice rk2 ks.length ck2)).cell? ⟨w.heap.size + 1, o, none⟩ = some v := fun o v h => by
    rw [World.cell?_of_block (w := w3) (Below.heap_setCell w3 ⟨w.heap.size, 4, none⟩ _ (w.heap.size + 1) (by simp))]; exact h
  have T0 := hid (hso 0 _ t0)
  have T1 := hid (hso 1 _ t1)
  have T2 := hid (hso 2 _ t2)
  have T3 := hid (hso 3 _ t3)
  have T4 := hid (hso 4 _ t4)
  have hfr4 : ∀ o, (w3.setCell ⟨w.heap.size, 4, none⟩ (.slice rk2 ks.length ck2)).frozen? ⟨w.heap.size, o, none⟩ = false := fun o => by
    have := hfr o
    simp only [World.frozen?_setCell] at *
    exact this
  have hfs4 : ∀ o, (w3.setCell ⟨w.heap.size, 4, none⟩ (.slice rk2 ks.length ck2)).frozen? ⟨w.heap.size + 1, o, none⟩ = false := fun o => by
    have := hfs o
    simp only [World.frozen?_setCell] at *
    exact this
  have FR4 := hid hfr4
  have FS4 := hid hfs4
  have B4 := hid (show Below w.heap.size w (w3.setCell ⟨w.heap.size, 4, none⟩ (.slice rk2 ks.length ck2)) from B3.out.setCell (Nat.le_refl _) _)
  have OK4 := hid (show OwnK (w.heap.size + 1 + 1) (w3.setCell ⟨w.heap.size, 4, none⟩ (.slice rk2 ks.length ck2)) (.slice rk2 ks.length ck2) ks from by
    have h0 := OK3.out
    have e : ((w.alloc (.cells #[.int .i64 xk, .int .i64 xn, .string xs, .slice r is.length c, .slice rk ks.length ck] 26)).alloc (.cells #[.int .i64 0, .int .i64 0, .string { data := #[] }, .slice none 0 0, .slice none 0 0] 26)).heap.size = w.heap.size + 1 + 1 := by simp
    rw [e] at h0
    exact own_keep h0 fun g hg => Below.heap_setCell _ _ _ _ (by have := (own_lt h0 hg).1; simp only; omega))
  have z4 := hid (show w.heap.size + 1 + 1 ≤ (w3.setCell ⟨w.heap.size, 4, none⟩ (.slice rk2 ks.length ck2)).heap.size by simpa [World.setCell] using z3)
  have q3' := Q3.out
  clear hso hfr4 hfs4 q0 q1 q2 q3 q4 t0 t1 t2 t3 t4 B3 OK3 BB3
  go_wp2_with fail
  clear hc3 hf3 hfr hfs z3 q3'
  generalize (w3.setCell ⟨w.heap.size, 4, none⟩ (.slice rk2 ks.length ck2)) = W4 at *
  refine (CPS.out W4 B4.out).mono ?_
  rintro e w5 ⟨r5, c5, rfl, ho5, hb5⟩
  have O5 := hid ho5
  have B5 := hid (B4.out.trans (hb5.mono B4.out.size))
  have BB5 := hid hb5
  have p0 := bget hb5 Q0.out
  have p1 := bget hb5 Q1.out
  have p2 := bget hb5 Q2.out
  have p3 := bget hb5 Q3.out
  have p4 := bget hb5 Q4.out
  have u0 := bget hb5 T0.out
  have u1 := bget hb5 T1.out
  have u2 := bget hb5 T2.out
  have u3 := bget hb5 T3.out
  have u4 := bget hb5 T4.out
  have hfr5 : ∀ o, w5.frozen? ⟨w.heap.size, o, none⟩ = false := fun o => (hb5.frozen (p := ⟨w.heap.size, o, none⟩) (by have := z4.out; simp only; omega)).trans (FR4.out o)
  have hfs5 : ∀ o, w5.frozen? ⟨w.heap.size + 1, o, none⟩ = false := fun o => (hb5.frozen (p := ⟨w.heap.size + 1, o, none⟩) (by have := z4.out; simp only; omega)).trans (FS4.out o)
  have OK5 := hid (own_keep OK4.out fun g hg => hb5.block g (own_lt OK4.out hg).2)
  have KL := hid (show ∀ g, (Value.slice rk2 ks.length ck2).ownBlock = some g → g < W4.heap.size from fun g hg => (own_lt OK4.out hg).2)
  clear ho5 hb5 Q0 Q1 Q2 Q3 Q4 T0 T1 T2 T3 T4 FR4 FS4 OK4 B4
  have hk : ∀ b, w.heap.size + 1 + 1 ≤ b → ((((((w5.setCell ⟨w.heap.size, 3, none⟩ (.slice r5 is.length c5)).setCell ⟨w.heap.size + 1, 0, none⟩ (.int .i64 xk)).setCell ⟨w.heap.size + 1, 1, none⟩ (.int .i64 xn)).setCell ⟨w.heap.size + 1, 2, none⟩ (.string xs)).setCell ⟨w.heap.size + 1, 3, none⟩ (.slice r5 is.length c5)).setCell ⟨w.heap.size + 1, 4, none⟩ (.slice rk2 ks.length ck2)).heap[b]? = w5.heap[b]? := fun b hb => by
    rw [Below.heap_setCell _ _ _ _ (by simp only; omega), Below.heap_setCell _ _ _ _ (by simp only; omega), Below.heap_setCell _ _ _ _ (by simp only; omega), Below.heap_setCell _ _ _ _ (by simp only; omega), Below.heap_setCell _ _ _ _ (by simp only; omega), Below.heap_setCell _ _ _ _ (by simp only; omega)]
  have HF := hid (PP.out r5 c5 rk2 ck2 W4.heap.size ((((((w5.setCell ⟨w.heap.size, 3, none⟩ (.slice r5 is.length c5)).setCell ⟨w.heap.size + 1, 0, none⟩ (.int .i64 xk)).setCell ⟨w.heap.size + 1, 1, none⟩ (.int .i64 xn)).setCell ⟨w.heap.size + 1, 2, none⟩ (.string xs)).setCell ⟨w.heap.size + 1, 3, none⟩ (.slice r5 is.length c5)).setCell ⟨w.heap.size + 1, 4, none⟩ (.slice rk2 ks.length ck2)) ⟨by have := z4.out; omega, O5.out.to fun b hb _ => hk b (by have := z4.out; omega), own_base (own_keep OK5.out fun g hg => hk g (own_lt OK5.out hg).1) (by omega), KL.out, BD.out⟩
    ((((((B5.out.setCell (by simp) _).setCell (by simp) _).setCell (by simp) _).setCell (by simp) _).setCell (by simp) _).setCell (by simp) _))
  clear hk
  go_wp2
  exact bodyPost_ret (v := .agg #[.int .i64 xk, .int .i64 xn, .string xs, .slice r5 is.length c5, .slice rk2 ks.length ck2]) (by simp [results, Tryd.results47, go_sem, u0, u1, u2, u3, u4]) rfl HF.out
end Go.Proofs.YtedpdpcibkceeaaDoor
