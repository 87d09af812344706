import Derived.Test.YtedpdpcibkceeaaDoorVal
/-
  Values that rest on some blocks alone: a world with all other blocks blanked, and how a value's reading goes from one such world to another. No conditions beyond those ahead of each theorem.
-/
namespace Go.Proofs.YtedpdpcibkceeaaDoor
open Go.RowKit Go.Sort Go.Lib
open Go.Lib (hid)
set_option linter.unusedSimpArgs false
set_option linter.unusedVariables false

/-- The world with the blocks outside K blanked. -/
def mask (K : Nat → Bool) (w : World) : World := { w with heap := w.heap.mapIdx fun i o => if K i then o else .cells #[] 0 (0, 0) }
theorem mask_heap {K : Nat → Bool} {w : World} {b : Nat} (h : K b = true) : (mask K w).heap[b]? = w.heap[b]? := by
  unfold mask
  simp only [Array.getElem?_mapIdx, h, if_true]
  cases w.heap[b]? <;> rfl
theorem mask_cell {K : Nat → Bool} {w : World} {b o : Nat} {v : Value} (h : (mask K w).cell? ⟨b, o, none⟩ = some v) : K b = true ∧ w.cell? ⟨b, o, none⟩ = some v := by
  cases hk : K b with
  | true => exact ⟨rfl, (World.cell?_of_block (w := w) (mask_heap hk)).symm.trans h⟩
  | false =>
    exfalso
    unfold World.cell? mask at h
    simp only [Array.getElem?_mapIdx, hk] at h
    cases hb : w.heap[b]? with
    | none => rw [hb] at h; simp at h
    | some o => rw [hb] at h; simp at h
theorem mask_cell_mk {K : Nat → Bool} {w : World} {b o : Nat} {v : Value} (hk : K b = true) (h : w.cell? ⟨b, o, none⟩ = some v) : (mask K w).cell? ⟨b, o, none⟩ = some v :=
  (World.cell?_of_block (w := w) (mask_heap hk)).trans h

/-- Cells that stay. -/
def Stays (w w' : World) : Prop := ∀ b o v, w.cell? ⟨b, o, none⟩ = some v → w'.cell? ⟨b, o, none⟩ = some v
theorem sl_stays {α : Type} {R : World → List Value → α → Prop} {sz : Nat} {w w' : World} {v : Value} {xs : List α} (h : Stays w w') (hR : ∀ cs x, R w cs x → R w' cs x) (hs : Sl R sz w v xs) : Sl R sz w' v xs := by
  obtain ⟨r, cap, hv, hl, hc, he⟩ := hs
  refine ⟨r, cap, hv, hl, hc, fun i hi => ?_⟩
  obtain ⟨b, off, cs, hr, hsz, hcell, hx⟩ := he i hi
  exact ⟨b, off, cs, hr, hsz, fun j u hj => h _ _ _ (hcell j u hj), hR _ _ hx⟩
theorem vr_stays {w w' : World} (hst : Stays w w') {cs : List Value} {x : Val} (h : VR w cs x) : VR w' cs x := by
  induction h with
  | mk k n s is ks r b off c cs vK hk hn hs hl hc hr h5 hcell hR hK hkl hil ih =>
    exact .mk k n s is ks r b off c cs vK hk hn hs hl hc hr h5 (fun i j u hi hj => hst _ _ _ (hcell i j u hi hj)) (fun i h => ih i h) (sl_stays hst (fun _ _ h => h) hK) hkl hil
theorem slv_stays {w w' : World} (hst : Stays w w') {v : Value} {is : List Val} (h : Sl VR 5 w v is) : Sl VR 5 w' v is := sl_stays hst (fun _ _ h => vr_stays hst h) h
theorem sls_stays {w w' : World} (hst : Stays w w') {v : Value} {ks : List ByteArray} (h : Sl StrR 1 w v ks) : Sl StrR 1 w' v ks := sl_stays hst (fun _ _ h => h) h
theorem stays_mask (K : Nat → Bool) (w : World) : Stays (mask K w) w := fun b o v h => (mask_cell h).2
theorem lt_of_cell {w : World} {b o : Nat} {v : Value} (h : w.cell? ⟨b, o, none⟩ = some v) : b < w.heap.size := World.block_lt_of_cell? w _ h
/-- From a masked world to another: what is kept is kept there too, and reads the same. -/
theorem stays_keep {K K' : Nat → Bool} {w w' : World} (h : ∀ b, K b = true → b < w.heap.size → K' b = true ∧ w'.heap[b]? = w.heap[b]?) : Stays (mask K w) (mask K' w') := fun b o v hc => by
  obtain ⟨hk, hv⟩ := mask_cell hc
  obtain ⟨h1, h2⟩ := h b hk (lt_of_cell hv)
  exact mask_cell_mk h1 ((World.cell?_of_block (w := w) h2).trans hv)
/-- From a masked world to a whole one. -/
theorem stays_out {K : Nat → Bool} {w w' : World} (h : ∀ b, K b = true → b < w.heap.size → w'.heap[b]? = w.heap[b]?) : Stays (mask K w) w' := fun b o v hc => by
  obtain ⟨hk, hv⟩ := mask_cell hc
  exact (World.cell?_of_block (w := w) (h b hk (lt_of_cell hv))).trans hv
/-- Below a world's size nothing is kept of what is new. -/
def fromB (B : Nat) : Nat → Bool := fun b => decide (B ≤ b)
theorem stays_below {K : Nat → Bool} {w w' : World} (hb : Below w.heap.size w w') : Stays (mask K w) (mask K w') := stays_keep fun b hk hlt => ⟨hk, hb.block b hlt⟩
theorem stays_wider {K K' : Nat → Bool} {w : World} (h : ∀ b, K b = true → K' b = true) : Stays (mask K w) (mask K' w) := stays_keep fun b hk _ => ⟨h b hk, rfl⟩
theorem stays_grown {K : Nat → Bool} {w w' : World} {row : Option Nat} (hg : w.grownBy w' row) (hr : ∀ g, row = some g → K g = false) : Stays (mask K w) (mask K w') := stays_keep fun b hk hlt => ⟨hk, hg.block b hlt (fun e => by have := hr b e.symm; rw [hk] at this; cases this)⟩

/-- A value on the blocks K alone. -/
def VK (K : Nat → Bool) (w : World) (r : Option Addr) (c : Nat) (rk : Option Addr) (ck : Nat) (x : Val) : Prop := VR5 (mask K w) r c rk ck x
theorem VK.out {K : Nat → Bool} {w : World} {r : Option Addr} {c : Nat} {rk : Option Addr} {ck : Nat} {x : Val} (h : VK K w r c rk ck x) : VR5 w r c rk ck x := vr_stays (stays_mask K w) h
theorem VK.to {K K' : Nat → Bool} {w w' : World} {r : Option Addr} {c : Nat} {rk : Option Addr} {ck : Nat} {x : Val} (hs : Stays (mask K w) (mask K' w')) (h : VK K w r c rk ck x) : VK K' w' r c rk ck x := vr_stays hs h
end Go.Proofs.YtedpdpcibkceeaaDoor
