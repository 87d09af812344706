import Derived.Test.YtpnogmicfomofaaGreatDoorY8
import Derived.Test.YtpnogmicfomofaaGreatDoorY9
import Derived.Test.YtpnogmicfomofaaGreatDoorY10
import Derived.Test.YtpnogmicfomofaaGreatDoorY11
set_option linter.unusedVariables false
set_option linter.unusedSimpArgs false
namespace Go.Proofs.YtpnogmicfomofaaGreatDoor
open Go.RowKit Go.Sort
set_option linter.unusedVariables false
set_option linter.unusedSimpArgs false
theorem Sl.mono {α : Type} {R : World → List Value → α → Prop} (hm : Mono R) (sz : Nat) : ∀ w w' v (xs : List α), Below w.heap.size w w' → Sl R sz w v xs → Sl R sz w' v xs :=
  fun _ _ _ _ hb h => h.below hm hb

theorem sl_of_trod {α H : Type} {enc : TypeId × Value → H} {P : Program} {w : World} {sz : Nat} {T E : TypeId} {fuel : Nat} {v : Value} {x : DataW H × List MemPlace} (R : World → List Value → α → Prop)
    (hT : P.underlying T = some (.slice E)) (hE : P.cellsOf E = sz) (hsz : 0 < sz)
    (hR : ∀ fuel cs y, cs.length = sz → DataW.trod enc P w 0 (fun _ => true) true fuel E cs = some y → ∃ z, R w cs z)
    (h : DataW.trod enc P w 0 (fun _ => true) true fuel T [v] = some x) : ∃ xs, Sl R sz w v xs := by
  rcases Go.Deep.open_slice hT h with ⟨hv, _⟩ | ⟨a, len, cap, m, n, D, Pl, hv, _, hl, hc, hm, _, hel⟩
  · simp at hv; subst hv
    exact ⟨[], none, 0, rfl, Nat.le_refl _, by simp, fun i hi => absurd hi (by simp)⟩
  · simp at hv; subst hv
    have hmc : m = cap := by simpa using hm
    subst hmc
    have key : ∀ i, i < len → ∃ z, ∃ cs, cs.length = sz ∧ (∀ (j : Nat) (u : Value), cs[j]? = some u → w.cell? ⟨a.block, a.off + i * sz + j, none⟩ = some u) ∧ a.spot = none ∧ R w cs z := by
      intro i hi
      have h0 : a.spot = none := by
        obtain ⟨cs, hcs, _⟩ := hel 0 (by omega)
        obtain ⟨hlen, hcell⟩ := cells_list hcs
        have hne : 0 < cs.length := by omega
        have := hcell 0 cs[0] (List.getElem?_eq_getElem hne)
        simp [Addr.add] at this
        unfold World.cell? at this
        split at this
        · split at this
          · cases this
          · rename_i hsp; simpa using hsp
        · cases this
      obtain ⟨cs, hcs, htr⟩ := hel i (by omega)
      obtain ⟨hlen, hcell⟩ := cells_list hcs
      rw [hE] at hlen
      obtain ⟨z, hz⟩ := hR _ _ _ hlen htr
      refine ⟨z, cs, hlen, fun j u hj => ?_, h0, hz⟩
      have := hcell j u hj
      rw [hE] at this
      have e : (a.add (i * sz)).add j = ⟨a.block, a.off + i * sz + j, none⟩ := by
        obtain ⟨ab, ao, asp⟩ := a
        simp at h0
        subst h0
        unfold Addr.add
        by_cases hi0 : i * sz = 0 <;> by_cases hj0 : j = 0 <;> simp [hi0, hj0]
      rw [e] at this
      exact this
    obtain ⟨xs, hxl, hxs⟩ := list_of len _ key
    refine ⟨xs, some a, m, by rw [hxl], by omega, hc, fun i hi => ?_⟩
    obtain ⟨cs, h1, h2, h3, h4⟩ := hxs i hi
    refine ⟨a.block, a.off, cs, ?_, h1, h2, h4⟩
    obtain ⟨ab, ao, asp⟩ := a
    simp at h3
    simp [h3]

/-- A struct that can be read: its cells, and each field's reading. -/
theorem struct_of_trod {H : Type} {enc : TypeId × Value → H} {P : Program} {w : World} {T : TypeId} {fs : Array Field} {fuel : Nat} {cs : List Value} {x : DataW H × List MemPlace}
    (hT : P.underlying T = some (.struct fs)) (h : DataW.trod enc P w 0 (fun _ => true) true fuel T cs = some x) :
    cs.length = P.cellsOf T ∧ ∀ (k : Nat) (f : Field), fs[k]? = some f → ∃ fuel' y, DataW.trod enc P w 0 (fun _ => true) true fuel' f.type ((cs.drop f.offset).take (P.cellsOf f.type)) = some y := by
  cases fuel with
  | zero => simp [DataW.trod] at h
  | succ fuel =>
    unfold DataW.trod at h
    simp only [hT] at h
    split at h
    case isFalse => cases h
    rename_i hl
    refine ⟨hl, fun k f hk => ?_⟩
    simp only [Option.map_eq_some_iff] at h
    obtain ⟨ys, hys, _⟩ := h
    have hkl : k < fs.toList.length := by simpa using (Array.getElem?_eq_some_iff.1 hk).1
    have hyl : k < ys.length := by have := mapM_some_length hys; omega
    have := mapM_some_get hys k f (by simpa using hk)
    rw [List.getElem?_eq_getElem hyl] at this
    exact ⟨fuel, _, this⟩

theorem strR_of_trod {H : Type} {enc : TypeId × Value → H} {P : Program} {w : World} {T : TypeId} (hT : P.underlying T = some .string) : ∀ fuel cs (y : DataW H × List MemPlace), cs.length = 1 → DataW.trod enc P w 0 (fun _ => true) true fuel T cs = some y → ∃ z, StrR w cs z := by
  intro fuel cs y _ h
  obtain ⟨n, h1, _, h3⟩ := DataW.trod_string hT h
  subst h1
  exact ⟨n, rfl, h3⟩
theorem field_slice {α H : Type} {enc : TypeId × Value → H} {P : Program} {w : World} {sz : Nat} {T E : TypeId} {fuel o : Nat} {cs : List Value} {y : DataW H × List MemPlace} (R : World → List Value → α → Prop)
    (hT : P.underlying T = some (.slice E)) (hE : P.cellsOf E = sz) (hsz : 0 < sz) (ho : o < cs.length)
    (hR : ∀ fuel cs y, cs.length = sz → DataW.trod enc P w 0 (fun _ => true) true fuel E cs = some y → ∃ z, R w cs z)
    (h : DataW.trod enc P w 0 (fun _ => true) true fuel T ((cs.drop o).take 1) = some y) : ∃ v xs, cs[o]? = some v ∧ Sl R sz w v xs := by
  rw [cell_of_slice_field ho] at h
  obtain ⟨xs, hxs⟩ := sl_of_trod R hT hE hsz hR h
  exact ⟨_, xs, List.getElem?_eq_getElem ho, hxs⟩
end Go.Proofs.YtpnogmicfomofaaGreatDoor
namespace Go.Proofs.YtpnogmicfomofaaGreatDoor
open Go.RowKit Go.Sort Go.Lib Go.Maps
set_option linter.unusedVariables false
set_option linter.unusedSimpArgs false
theorem str_ne {x y : ByteArray} (h : x ≠ y) : (x.toList == y.toList) = false := by
  rw [beq_eq_false_iff_ne]; intro e; apply h; rw [ByteArray.toList_eq, ByteArray.toList_eq] at e; exact ba_ext e
end Go.Proofs.YtpnogmicfomofaaGreatDoor
namespace Go.Proofs.YtpnogmicfomofaaGreatDoor
open Go.RowKit Go.Sort Go.Lib
open Go.Lib (hid)
set_option linter.unusedVariables false
set_option linter.unusedSimpArgs false
section
variable {w : World} {ops : Array Oper} {rest : List Oper} {o : Oper} {a : Act} {Q : Exit → Act → World → Prop}
end
section
variable {w : World} {ops : Array Oper} {o : Oper} {a : Act} {K : Act → World → Prop} {Q : Exit → Act → World → Prop} {F : Prop}
end
end Go.Proofs.YtpnogmicfomofaaGreatDoor
namespace Go.Proofs
open Go.Shelf
def Tryz.lays260_ren : Go.Shelf.Ren := ⟨fun | 260 => 199 | n => n, fun | 9 => 9 | 21 => 21 | 3 => 3 | 4 => 4 | 5 => 5 | 119 => 233 | 0 => 0 | 46 => 108 | 139 => 236 | 138 => 235 | n => n, fun | 3 => 1 | 4 => 2 | n => n⟩
theorem Tryz.lays260 : Go.Proofs.Lays.n260 Tryz.prog Tryz.lays260_ren := {
  mixed := by kernel_rfl
  f260 := Tryz.func199.trans (congrArg some (by kernel_rfl))
  t0 := Tryz.underlying0
  a0 := Tryz.isAgg0
  z0 := Tryz.sizeOf0
  v0 := Tryz.zeroValue0
  t3 := Tryz.underlying3
  a3 := Tryz.isAgg3
  z3 := Tryz.sizeOf3
  v3 := Tryz.zeroValue3
  t4 := Tryz.underlying4
  a4 := Tryz.isAgg4
  z4 := Tryz.sizeOf4
  v4 := Tryz.zeroValue4
  t5 := Tryz.underlying5
  a5 := Tryz.isAgg5
  z5 := Tryz.sizeOf5
  v5 := Tryz.zeroValue5
  t9 := Tryz.underlying9
  a9 := Tryz.isAgg9
  z9 := Tryz.sizeOf9
  v9 := Tryz.zeroValue9
  t21 := Tryz.underlying21
  a21 := Tryz.isAgg21
  z21 := Tryz.sizeOf21
  v21 := Tryz.zeroValue21
  t46 := Tryz.underlying108
  a46 := Tryz.isAgg108
  z46 := Tryz.sizeOf108
  v46 := Tryz.zeroValue108
  t119 := Tryz.underlying233
  a119 := Tryz.isAgg233
  z119 := Tryz.sizeOf233
  t138 := Tryz.underlying235
  a138 := Tryz.isAgg235
  z138 := Tryz.sizeOf235
  v138 := Tryz.zeroValue235
  t139 := Tryz.underlying236
  a139 := Tryz.isAgg236
  z139 := Tryz.sizeOf236
  v139 := Tryz.zeroValue236
  g3 := by kernel_rfl
  g4 := by kernel_rfl }
end Go.Proofs
namespace Go.Proofs.YtpnogmicfomofaaGreatDoor.Stp
set_option linter.unusedVariables false
set_option linter.unusedSimpArgs false
section
variable {α : Type} {lt : α → α → Bool} (O : STO lt)
end
section
variable {α : Type} {lt : α → α → Bool}
end
end Go.Proofs.YtpnogmicfomofaaGreatDoor.Stp
namespace Go.Proofs.YtpnogmicfomofaaGreatDoor.Stp
set_option linter.unusedVariables false
set_option linter.unusedSimpArgs false
section
variable {F : Nat → List Nat}
end
section
variable {F : Nat → List Nat} {a b x k : Nat} {sn L : List Nat}
end
end Go.Proofs.YtpnogmicfomofaaGreatDoor.Stp
namespace Go.Proofs.YtpnogmicfomofaaGreatDoor.Stp
set_option linter.unusedVariables false
set_option linter.unusedSimpArgs false
end Go.Proofs.YtpnogmicfomofaaGreatDoor.Stp
namespace Go.Proofs.YtpnogmicfomofaaGreatDoor.Stp
set_option linter.unusedVariables false
set_option linter.unusedSimpArgs false
theorem pos_at {l : List Nat} (hn : l.Nodup) : ∀ {i : Nat} (hi : i < l.length), pos l[i] l = i := by
  induction l with
  | nil => intro i hi; exact absurd hi (by simp)
  | cons y l ih =>
    intro i hi
    cases i with
    | zero => simp [pos]
    | succ i =>
      have h1 := List.nodup_cons.1 hn
      have hi' : i < l.length := by simpa using hi
      have hne : y ≠ l[i] := fun e => h1.1 (by rw [e]; exact List.getElem_mem hi')
      simp only [List.getElem_cons_succ]
      unfold pos
      rw [if_neg hne, ih h1.2 hi']
theorem ord_nodup {N : List (List Nat)} (h : ordEn (List.range N.length) (esN N) = 0) : (ordOn (List.range N.length) (esN N)).Nodup ∧ ∀ x ∈ ordOn (List.range N.length) (esN N), x < N.length := by
  rw [ordO_ok h]
  have := (ord_fin (List.range N.length) (esN N)).1
  exact ⟨this.nod, fun x hx => List.mem_range.1 (this.sub x hx)⟩
end Go.Proofs.YtpnogmicfomofaaGreatDoor.Stp
namespace Go.Proofs.YtpnogmicfomofaaGreatDoor.Stp
open Go.RowKit Go.Sort Go.Lib Go.Maps
open Go.Lib (hid)
set_option linter.unusedVariables false
set_option linter.unusedSimpArgs false
section
variable {w : World} {ops : Array Oper} {rest : List Oper} {o : Oper} {a : Act} {Q : Exit → Act → World → Prop}
end
/-- An array that is known whole. -/
def arr (n : Nat) (f : Nat → Value) : Array Value := ((List.range n).map f).toArray
end Go.Proofs.YtpnogmicfomofaaGreatDoor.Stp
namespace Go.Proofs.YtpnogmicfomofaaGreatDoor.Stp
open Go.RowKit Go.Sort Go.Lib Go.Maps
open Go.Lib (hid)
set_option linter.unusedVariables false
set_option linter.unusedSimpArgs false
end Go.Proofs.YtpnogmicfomofaaGreatDoor.Stp
namespace Go.Proofs.YtpnogmicfomofaaGreatDoor.Stp
open Go.RowKit Go.Sort Go.Lib Go.Maps
open Go.Lib (hid)
set_option linter.unusedVariables false
set_option linter.unusedSimpArgs false
end Go.Proofs.YtpnogmicfomofaaGreatDoor.Stp
namespace Go.Proofs.YtpnogmicfomofaaGreatDoor.Stp
open Go.RowKit Go.Sort Go.Lib Go.Maps
open Go.Lib (hid)
set_option linter.unusedVariables false
set_option linter.unusedSimpArgs false
end Go.Proofs.YtpnogmicfomofaaGreatDoor.Stp
namespace Go.Proofs.YtpnogmicfomofaaGreatDoor.Stp
open Go.RowKit Go.Sort Go.Lib Go.Maps
open Go.Lib (hid)
set_option linter.unusedVariables false
set_option linter.unusedSimpArgs false
end Go.Proofs.YtpnogmicfomofaaGreatDoor.Stp
namespace Go.Proofs.YtpnogmicfomofaaGreatDoor.Stp
open Go.RowKit Go.Sort
set_option linter.unusedVariables false
set_option linter.unusedSimpArgs false
theorem Lat.trans {a b c : World} (h : Lat a b) (h2 : Lat b c) : Lat a c := Below.trans h (Below.mono h2 h.size)
section
variable {P : Program} {ops : Array Oper} {md : Region.Mode} {C : World → Prop} {sp : Nat → Option Spc}
end
section
variable {P : Program} {ops : Array Oper} {C : World → Prop} {sp : Nat → Option Spc} {Q : (Nat → World → Prop) → Act → Prop} {o : Oper} {rest : List Oper} {k : Nat} {E : Nat → World → Prop} {a : Act}
end
end Go.Proofs.YtpnogmicfomofaaGreatDoor.Stp
namespace Go.Proofs.YtpnogmicfomofaaGreatDoor.Stp
open Go.RowKit Go.Sort Go.Lib Go.Maps
open Go.Lib (hid)
open Adr (WT)
attribute [local go_sem] frUpon
set_option linter.unusedVariables false
set_option linter.unusedSimpArgs false
theorem ord_right {ss : List St} (h : ordR ss = 0) : rightS ss = true := by
  unfold ordR at h
  cases hr : rightS ss with
  | true => rfl
  | false => rw [hr] at h; simp at h
theorem ord_en {ss : List St} (h : ordR ss = 0) : ordEn (List.range (nls ss).length) (esN (nls ss)) = 0 ∧ ordL ss = ordOn (List.range (nls ss).length) (esN (nls ss)) := by
  have hr := ord_right h
  unfold ordR at h
  unfold ordL
  rw [if_pos hr] at h ⊢
  rw [nls_len]
  exact ⟨h, rfl⟩
theorem ord_list {ss : List St} (h : ordR ss = 0) : (ordL ss).length = ss.length ∧ (ordL ss).Nodup ∧ (∀ x ∈ ordL ss, x < ss.length) := by
  obtain ⟨h1, h2⟩ := ord_en h
  have h3 := ord_nodup h1
  have h4 := ordO_all h1
  rw [nls_len, List.length_range] at h4
  rw [nls_len] at h3 h2
  rw [h2]
  exact ⟨h4.1, h3.1, fun x hx => h3.2 x hx⟩
theorem ord_bef {ss : List St} (h : ordR ss = 0) {a b : Nat} (ha : a < ss.length) (hb : b < ss.length) (hab : befS ss a b = true) : pos a (ordL ss) < pos b (ordL ss) ∧ befS ss b a = false := by
  obtain ⟨h1, h2⟩ := ord_en h
  have hr := ord_right h
  rw [befS_ok hr ha hb] at hab
  rw [befS_ok hr hb ha, h2]
  exact ⟨bef_pos h1 (by rw [nls_len]; exact hb) hab, bef_asym h1 (by rw [nls_len]; exact ha) (by rw [nls_len]; exact hb) hab⟩
theorem ord_need {ss : List St} (h : ordR ss = 0) {a k : Nat} (ha : a < ss.length) (hk : k ∈ nd (nls ss) a) : befS ss k a = true := by
  have hr := ord_right h
  rw [befS_ok hr (nd_lt hr a k hk) ha]
  exact bef_need hk
/-- The places of those that have been written. -/
def plc (out : List Nat) (i : Nat) (x : Nat) : Nat := if x ∈ out.take i then pos x out else 0
theorem plc_same {out : List Nat} {i : Nat} (hi : i < out.length) {x : Nat} (hx : x ≠ out[i]) : plc out (i + 1) x = plc out i x := by
  unfold plc
  rw [List.take_succ_eq_append_getElem hi]
  have : x ∈ out.take i ++ [out[i]] ↔ x ∈ out.take i := by rw [List.mem_append, List.mem_singleton]; exact ⟨fun h => h.resolve_right hx, Or.inl⟩
  simp only [this]
theorem plc_new {out : List Nat} (hn : out.Nodup) {i : Nat} (hi : i < out.length) : plc out (i + 1) out[i] = i := by
  have h : out[i] ∈ out.take (i + 1) := by rw [List.take_succ_eq_append_getElem hi]; exact List.mem_append_right _ (List.mem_singleton.2 rfl)
  unfold plc
  rw [if_pos h, pos_at hn hi]
theorem plc_all {out : List Nat} {x : Nat} (hx : x ∈ out) : plc out out.length x = pos x out := by
  unfold plc
  rw [List.take_length, if_pos hx]
end Go.Proofs.YtpnogmicfomofaaGreatDoor.Stp
namespace Go.Proofs.YtpnogmicfomofaaGreatDoor.Stp
open Go.RowKit Go.Sort Go.Lib Go.Maps
set_option linter.unusedVariables false
set_option linter.unusedSimpArgs false
theorem opl_mem {c : Ch} {o : Int} (h : o ∈ opl c) : (c.act = 1 ∧ o = 1) ∨ (c.act = 2 ∧ o = 2) ∨ (c.act = 4 ∧ o = 3) ∨ (c.act = 5 ∧ o = 4) ∨ (c.act = 3 ∧ (o = 1 ∨ o = 3)) := by
  unfold opl opA opB at h
  by_cases h1 : c.act = 1
  · simp [h1] at h; exact Or.inl ⟨h1, h⟩
  by_cases h2 : c.act = 2
  · simp [h2] at h; exact Or.inr (Or.inl ⟨h2, h⟩)
  by_cases h4 : c.act = 4
  · simp [h4] at h; exact Or.inr (Or.inr (Or.inl ⟨h4, h⟩))
  by_cases h5 : c.act = 5
  · simp [h5] at h; exact Or.inr (Or.inr (Or.inr (Or.inl ⟨h5, h⟩)))
  by_cases h3 : c.act = 3
  · cases hc : c.cf with
    | true => simp [h3, hc] at h; exact Or.inr (Or.inr (Or.inr (Or.inr ⟨h3, h⟩)))
    | false => simp [h3, hc] at h; exact Or.inr (Or.inr (Or.inr (Or.inr ⟨h3, h.symm⟩)))
  · simp [h1, h2, h3, h4, h5] at h
theorem opl_two {c : Ch} {o p : Int} (ho : o ∈ opl c) (hp : p ∈ opl c) (h : o ≠ p) : c.act = 3 ∧ (o = 1 ∧ p = 3 ∨ o = 3 ∧ p = 1) := by
  rcases opl_mem ho with ⟨a1, b1⟩ | ⟨a1, b1⟩ | ⟨a1, b1⟩ | ⟨a1, b1⟩ | ⟨a1, b1⟩ <;> rcases opl_mem hp with ⟨a2, b2⟩ | ⟨a2, b2⟩ | ⟨a2, b2⟩ | ⟨a2, b2⟩ | ⟨a2, b2⟩ <;> omega
theorem opl_nodup (c : Ch) : (opl c).Nodup := by
  unfold opl opA opB
  by_cases h3 : c.act = 3
  · cases hc : c.cf <;> simp [h3]
  · simp [h3]
    repeat' split
    all_goals simp
theorem plusK_nodup (cs : List Ch) (k : Nat) : (plusK cs k).Nodup := by
  unfold plusK
  split
  · exact List.Pairwise.map _ (fun a b hab e => hab (by injection e)) (opl_nodup _)
  · exact List.nodup_nil
theorem psK_nodup (cs : List Ch) : ∀ k, (psK cs k).Nodup
  | 0 => by simp [psK]
  | k + 1 => by
    rw [psK_succ]
    refine List.nodup_append.2 ⟨psK_nodup cs k, plusK_nodup cs k, fun a ha b hb e => ?_⟩
    subst e
    obtain ⟨_, h1, _⟩ := psK_mem ha
    obtain ⟨_, h2, _⟩ := plusK_mem hb
    omega
theorem nodup_inj {α : Type} {l : List α} (hn : l.Nodup) {i j : Nat} (hi : i < l.length) (hj : j < l.length) (h : l[i] = l[j]) : i = j := by
  have hp := List.pairwise_iff_getElem.1 hn
  rcases Nat.lt_trichotomy i j with h1 | h1 | h1
  · exact absurd h (hp i j hi hj h1)
  · exact h1
  · exact absurd h.symm (hp j i hj hi h1)
theorem psF_two {cs : List Ch} {a b : Nat} (ha : a < (psF cs).length) (hb : b < (psF cs).length) (hab : a ≠ b) (h : ((psF cs)[a]).1 = ((psF cs)[b]).1) :
    ∃ hk : ((psF cs)[a]).1 < cs.length, (cs[((psF cs)[a]).1]).act = 3 ∧ (((psF cs)[a]).2 = 1 ∧ ((psF cs)[b]).2 = 3 ∨ ((psF cs)[a]).2 = 3 ∧ ((psF cs)[b]).2 = 1) := by
  obtain ⟨h1, h2⟩ := psF_at ha
  obtain ⟨h3, h4⟩ := psF_at hb
  refine ⟨h1, opl_two h2 (p := ((psF cs)[b]).2) ?_ (fun e => hab ?_)⟩
  · simp only [h]; exact h4
  · have hn : (psF cs).Nodup := psK_nodup cs cs.length
    exact nodup_inj hn ha hb (Prod.ext h e)
end Go.Proofs.YtpnogmicfomofaaGreatDoor.Stp
namespace Go.Proofs.YtpnogmicfomofaaGreatDoor.Stp
open Go.RowKit Go.Sort Go.Lib Go.Maps
set_option linter.unusedVariables false
set_option linter.unusedSimpArgs false
/-- The place of a step in the order of the steps of changes. -/
def plO (cs : List Ch) (a : Nat) : Nat := pos a (ordL (stF cs))
theorem dep_lt {cs : List Ch} (h : ordR (stF cs) = 0) {a b : Nat} (ha : a < (psF cs).length) (hb : b < (psF cs).length) (hn : ndB cs (rsK cs cs.length) (psF cs)[b] (psF cs)[a] = true) : plO cs a < plO cs b := by
  have hl := stF_len cs
  have h1 := ord_need h (a := b) (k := a) (by omega) ((stF_nd hb).2 ⟨ha, hn⟩)
  exact (ord_bef h (by omega) (by omega) h1).1
/-- Two steps of one change stand as CreateFirst says. -/
theorem dep_same {cs : List Ch} (h : ordR (stF cs) = 0) {a b : Nat} (ha : a < (psF cs).length) (hb : b < (psF cs).length) (hab : a ≠ b) (he : ((psF cs)[a]).1 = ((psF cs)[b]).1) (h1 : ((psF cs)[a]).2 = 1) (hk : ((psF cs)[b]).1 < cs.length) :
    decide (plO cs a < plO cs b) = (cs[((psF cs)[b]).1]).cf := by
  obtain ⟨hk1, h3, h4⟩ := psF_two ha hb hab he
  have h4 : ((psF cs)[b]).2 = 3 := by rcases h4 with h4 | h4 <;> omega
  simp only [he] at h3
  cases hc : (cs[((psF cs)[b]).1]).cf with
  | true =>
    refine decide_eq_true (dep_lt h ha hb ?_)
    unfold ndB removesB
    rw [if_pos h4, List.getElem?_eq_getElem hk, List.getElem?_eq_getElem hk1]
    simp only
    rw [if_pos he.symm, h1, firstB_iff.2 ⟨h3, hc⟩]
    rfl
  | false =>
    refine decide_eq_false (Nat.not_lt.2 (Nat.le_of_lt (dep_lt h hb ha ?_)))
    unfold ndB makesB
    rw [if_neg (by omega), List.getElem?_eq_getElem hk1]
    simp only
    have e2 : (cs[((psF cs)[a]).1]) = cs[((psF cs)[b]).1] := by simp only [he]
    rw [if_pos he, h1, h4, e2, lastB_iff.2 ⟨h3, hc⟩]
    rfl
theorem dep_make {cs : List Ch} (h : ordR (stF cs) = 0) {a b : Nat} (ha : a < (psF cs).length) (hb : b < (psF cs).length) (he : ((psF cs)[a]).1 ≠ ((psF cs)[b]).1) (h1 : ((psF cs)[a]).2 ≠ 3) (h2 : ((psF cs)[b]).2 ≠ 3)
    (hka : ((psF cs)[a]).1 < cs.length) (hkb : ((psF cs)[b]).1 < cs.length) (hd : inS (cs[((psF cs)[b]).1]).deps (resB (cs[((psF cs)[a]).1]).addr) = true) : plO cs a < plO cs b := by
  refine dep_lt h ha hb ?_
  obtain ⟨_, ho⟩ := psF_at ha
  unfold ndB makesB
  rw [if_neg h2, List.getElem?_eq_getElem hkb]
  simp only
  rw [if_neg (Ne.symm he), rsK_all hka ho, hd, decide_eq_false h1]
  rfl
theorem dep_remove {cs : List Ch} (h : ordR (stF cs) = 0) {a b : Nat} (ha : a < (psF cs).length) (hb : b < (psF cs).length) (he : ((psF cs)[a]).1 ≠ ((psF cs)[b]).1) (h1 : ((psF cs)[a]).2 = 3) (h2 : ((psF cs)[b]).2 = 3)
    (hka : ((psF cs)[a]).1 < cs.length) (hkb : ((psF cs)[b]).1 < cs.length) (hd : inS (cs[((psF cs)[a]).1]).old (resB (cs[((psF cs)[b]).1]).addr) = true) : plO cs a < plO cs b := by
  refine dep_lt h ha hb ?_
  obtain ⟨_, ho⟩ := psF_at hb
  unfold ndB removesB
  rw [if_pos h2, List.getElem?_eq_getElem hkb, List.getElem?_eq_getElem hka]
  simp only
  rw [if_neg (Ne.symm he), if_pos h1, rsK_all hkb ho, hd]
/-- What the law asks of two steps. -/
theorem dep_all {cs : List Ch} (h : ordR (stF cs) = 0) {a b : Nat} (ha : a < (stF cs).length) (hb : b < (stF cs).length) :
    ∃ (ia ib : Nat) (oa ob : Int) (hia : ia < cs.length) (hib : ib < cs.length), ((stF cs)[a]).change = ia ∧ ((stF cs)[a]).op = oa ∧ ((stF cs)[b]).change = ib ∧ ((stF cs)[b]).op = ob ∧
      (ia = ib → a ≠ b → oa = 1 → decide (plO cs a < plO cs b) = (cs[ib]).cf) ∧
      (ia ≠ ib → ob ≠ 3 → oa ≠ 3 → inS (cs[ib]).deps (resB (cs[ia]).addr) = true → plO cs a < plO cs b) ∧
      (ia ≠ ib → ob = 3 → oa = 3 → inS (cs[ia]).old (resB (cs[ib]).addr) = true → plO cs a < plO cs b) := by
  have ha' : a < (psF cs).length := by rw [← stF_len]; exact ha
  have hb' : b < (psF cs).length := by rw [← stF_len]; exact hb
  obtain ⟨hka, hoa⟩ := psF_at ha'
  obtain ⟨hkb, hob⟩ := psF_at hb'
  refine ⟨_, _, _, _, hka, hkb, by rw [stF_at cs a ha' ha], by rw [stF_at cs a ha' ha], by rw [stF_at cs b hb' hb], by rw [stF_at cs b hb' hb], fun e hab h1 => dep_same h ha' hb' hab e h1 hkb, fun e h1 h2 hd => dep_make h ha' hb' e h2 h1 hka hkb hd, fun e h1 h2 hd => dep_remove h ha' hb' e h2 h1 hka hkb hd⟩
theorem stF_change {cs : List Ch} {i : Nat} (hi : i < (stF cs).length) : ∃ k : Nat, k < cs.length ∧ ((stF cs)[i]).change = k := by
  have hi' : i < (psF cs).length := by rw [← stF_len]; exact hi
  obtain ⟨hk, _⟩ := psF_at hi'
  exact ⟨_, hk, by rw [stF_at cs i hi' hi]⟩
end Go.Proofs.YtpnogmicfomofaaGreatDoor.Stp
namespace Go.Proofs.YtpnogmicfomofaaGreatDoor.Stp
open Go.RowKit Go.Sort Go.Lib Go.Maps
open Go.Lib (hid)
open Adr (WT prE stcB rstatic_any)
set_option linter.unusedVariables false
set_option linter.unusedSimpArgs false
theorem inS_take {xs : List ByteArray} {s : ByteArray} (h : ∀ j (hj : j < xs.length), xs[j] ≠ s) : inS xs s = false := by
  cases h1 : inS xs s with
  | false => rfl
  | true =>
    obtain ⟨j, hj, e⟩ := List.mem_iff_getElem.1 (inS_iff.1 h1)
    exact absurd e (h j hj)
end Go.Proofs.YtpnogmicfomofaaGreatDoor.Stp
namespace Go.Proofs.YtpnogmicfomofaaGreatDoor.Stp
open Go.RowKit Go.Sort Go.Lib Go.Maps
open Go.Lib (hid)
attribute [local go_sem] frUpon
attribute [local go_sem ↓] ldC_eq
attribute [local go_sem] ldC_run
attribute [local go_sem ↓] stC_eq
attribute [local go_sem] stC_run there_drew there_new there_past put22_drew put22_new put22_past lies_new rd22_new lies_drew rd22_drew lies_drewN rd22_drewN
set_option linter.unusedVariables false
set_option linter.unusedSimpArgs false
end Go.Proofs.YtpnogmicfomofaaGreatDoor.Stp
namespace Go.Proofs.YtpnogmicfomofaaGreatDoor.Stp
open Go.RowKit Go.Sort Go.Lib Go.Maps
open Go.Lib (hid)
set_option linter.unusedVariables false
set_option linter.unusedSimpArgs false
/-- The steps in memory while the needs are collected. -/
structure MkL (w : World) (G g : Nat) (W : World) (rs : Option Addr) (cp : Nat) (ps : List (Nat × Int)) (vs : Nat → SV) (F : Nat → List Nat) : Prop where
  rsg : 0 < ps.length → rs = some ⟨g, 0, none⟩ ∧ w.heap.size ≤ g ∧ g < G
  el : ∀ j (hj : j < ps.length), W.cell? ⟨g, j * 3, none⟩ = some (.int .i64 (ps[j]).1) ∧ W.cell? ⟨g, j * 3 + 1, none⟩ = some (.int .i64 (ps[j]).2) ∧ W.cell? ⟨g, j * 3 + 2, none⟩ = some (vs j).v ∧ W.frozen? ⟨g, j * 3 + 2, none⟩ = false
  nd : ∀ j, j < ps.length → OwnI G W (vs j).v ((F j).map Nat.cast)
  ap : ∀ i j, i < ps.length → j < ps.length → i ≠ j → Apart (vs i).v (vs j).v
  bel : Below w.heap.size w W
  sz : G ≤ W.heap.size
  gs : w.heap.size ≤ G
  cap : ps.length ≤ cp ∧ cp ≤ maxLen
section
variable {w W : World} {G g : Nat} {rs : Option Addr} {cp : Nat} {ps : List (Nat × Int)} {vs : Nat → SV} {F : Nat → List Nat}
theorem MkL.below {W' : World} (h : MkL w G g W rs cp ps vs F) (hb : Below W.heap.size W W') : MkL w G g W' rs cp ps vs F := by
  refine ⟨h.rsg, fun j hj => ?_, fun j hj => (h.nd j hj).below hb, h.ap, h.bel.trans (hb.mono h.bel.size), Nat.le_trans h.sz hb.size, h.gs, h.cap⟩
  obtain ⟨e1, e2, e3, e4⟩ := h.el j hj
  have hl := (h.rsg (by omega)).2.2
  have hs := h.sz
  exact ⟨bget hb e1, bget hb e2, bget hb e3, (grown_frozen (grown_below hb) (by omega) (fun _ e => by cases e)).trans e4⟩
theorem MkL.add {W' : World} (h : MkL w G g W rs cp ps vs F) {k : Nat} (hk : k < ps.length) {i gn len cap : Nat} (hl : len = (F k).length + 1) (hm : MoreI G W (vs k).v ((F k).map Nat.cast ++ [(i : Int)]) W.heap.size gn cap W') :
    MkL w G g (W'.setCell ⟨g, k * 3 + 2, none⟩ (.slice (some ⟨gn, 0, none⟩) len cap)) rs cp ps (fun j => if j = k then ⟨some ⟨gn, 0, none⟩, len, cap⟩ else vs j) (fun j => if j = k then F j ++ [i] else F j) := by
  obtain ⟨m1, m2, m3, m4⟩ := hm
  have hlen : ((F k).map Nat.cast ++ [(i : Int)]).length = len := by simp [hl]
  rw [hlen] at m1
  obtain ⟨hrs, hg1, hg2⟩ := h.rsg (by omega)
  have hkown := h.nd k hk
  have hsz := h.sz
  have hgs := h.gs
  have hne : ∀ x, (vs k).v.ownBlock = some x → x ≠ g := fun x hx e => by have := (hkown.lt _ hx).1; omega
  have hg := grown_set W' ⟨g, k * 3 + 2, none⟩ (.slice (some ⟨gn, 0, none⟩) len cap)
  have hat : ∀ {b : Value}, (∀ x, b.ownBlock = some x → x < W.heap.size) → Apart b (vs k).v → Apart b (.slice (some ⟨gn, 0, none⟩) len cap) := fun hb hap =>
    apart_new hap (m3.imp id fun e x hx => by have := hb x hx; omega)
  refine ⟨h.rsg, fun j hj => ?_, fun j hj => ?_, fun a b ha hb hab => ?_, Below.grown (Below.grown h.bel m2 h.bel.size (fun x hx => by have := (hkown.lt _ hx).1; omega)) hg (by have := h.bel.size; have := m2.size; omega) (fun x e => by cases e; exact hg1), ?_, h.gs, h.cap⟩
  · obtain ⟨a1, a2, a3, a4⟩ := h.el j hj
    have b1 := grown_cell m2 (by omega) hne a1
    have b2 := grown_cell m2 (by omega) hne a2
    have b3 := grown_cell m2 (by omega) hne a3
    have b4 := (grown_frozen (o := j * 3 + 2) m2 (b := g) (by omega) hne).trans a4
    refine ⟨by rw [scell_ne (by omega)]; exact b1, by rw [scell_ne (by omega)]; exact b2, ?_, by simpa using b4⟩
    by_cases e : j = k
    · subst e
      rw [scell_same b3]
      simp [SV.v]
    · rw [scell_ne (by omega), b3]
      simp [e]
  · by_cases e : j = k
    · subst e
      simp only [if_pos rfl]
      have := m1.setBelow (a := ⟨g, j * 3 + 2, none⟩) (by simpa using hg2) (.slice (some ⟨gn, 0, none⟩) len cap)
      simpa [SV.v] using this
    · simp only [if_neg e]
      exact ((h.nd j hj).kept m2 (fun x hx e2 => h.ap j k hj hk e x hx e2)).setBelow (a := ⟨g, k * 3 + 2, none⟩) (by simpa using hg2) _
  · by_cases e1 : a = k
    · by_cases e2 : b = k
      · omega
      · subst e1
        simp only [if_pos rfl, if_neg e2]
        exact (hat (fun x hx => ((h.nd b hb).lt x hx).2) (h.ap b a hb ha (fun h => hab h.symm))).symm
    · by_cases e2 : b = k
      · subst e2
        simp only [if_pos rfl, if_neg e1]
        exact hat (fun x hx => ((h.nd a ha).lt x hx).2) (h.ap a b ha hb hab)
      · simp only [if_neg e1, if_neg e2]
        exact h.ap a b ha hb hab
  · have := m2.size
    simp [World.setCell]
    omega
end
end Go.Proofs.YtpnogmicfomofaaGreatDoor.Stp
namespace Go.Proofs.YtpnogmicfomofaaGreatDoor.Stp
open Go.RowKit Go.Sort Go.Lib Go.Maps
open Go.Lib (hid)
attribute [local go_sem] frUpon
attribute [local go_sem ↓] ldC_eq
attribute [local go_sem] ldC_run lies_drew rd22_drew lies_drewN rd22_drewN
set_option linter.unusedVariables false
set_option linter.unusedSimpArgs false
end Go.Proofs.YtpnogmicfomofaaGreatDoor.Stp
