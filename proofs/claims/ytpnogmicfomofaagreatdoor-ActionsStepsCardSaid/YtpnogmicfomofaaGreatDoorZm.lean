import Derived.Test.YtpnogmicfomofaaGreatDoorZl
import Derived.Test.YtpnogmicfomofaaGreatDoorZa
import Derived.Deep.RegionHeld3
/-
  Addresses: the program's reader: key at every string, step. Conditions: those ahead of each theorem.
-/
namespace Go.Proofs.YtpnogmicfomofaaGreatDoor.Adr
open Go.RowKit Go.Sort Go.Lib Go.Maps
open Go.Lib (hid)
set_option linter.unusedVariables false
set_option linter.unusedSimpArgs false

/-- A key: kind, number, text. -/
abbrev KeyT := Int × Int × List UInt8
def kV (k : KeyT) : Value := .agg #[.int .i64 k.1, .int .i64 k.2.1, .string ⟨k.2.2.toArray⟩]
def skipP (p l : List UInt8) (bad : Bool) : List UInt8 × Bool := (Lib.trimPrefix l p, bad || !Lib.hasPrefix l p)
def keyP (l : List UInt8) (bad : Bool) : KeyT × List UInt8 × Bool :=
  if bad = true then ((0, 0, []), l, true)
  else if Lib.hasPrefix l [91] = false then ((0, 0, []), Lib.trimPrefix l [91], false)
  else
    let t := Lib.trimPrefix l [91]
    if Lib.hasPrefix t [34] = true then
      (if (unqS t).1 ≠ 0 then ((0, 0, []), t, true)
      else if quo (unqS t).2.1 ≠ t.take (unqS t).2.2 then ((0, 0, []), t, true)
      else ((2, 0, (unqS t).2.1), skipP [93] (t.drop (unqS t).2.2) false))
    else ((1, (numS (t.take (nmAt t))).1, []), skipP [93] (t.drop (nmAt t)) (decide ((numS (t.take (nmAt t))).2 ≠ 0) || decide ((numS (t.take (nmAt t))).1 < 0)))
theorem trim_len (l p : List UInt8) : (Lib.trimPrefix l p).length ≤ l.length := by unfold Lib.trimPrefix; split <;> simp
theorem cut_size (p : List UInt8) (s : ByteArray) : (cutS p s).size ≤ s.size := by
  rw [← size_list, ← size_list s]
  exact trim_len _ _
theorem ext_arr (s : ByteArray) (n : Nat) : s.extract n s.size = ⟨(s.data.toList.drop n).toArray⟩ := by
  apply ByteArray.ext; apply Array.toList_inj.mp; rw [extract_list]
theorem key_any (s : ByteArray) (b : Nat) (bad : Bool) (w w0 : World) (hT : WT w0) (hB : Below w0.heap.size w0 w) (hb0 : w0.heap.size ≤ b) (hs : s.size ≤ 1000000) (h : Rd b w s bad) : Calls Tryz.prog 124 #[.pointer (some ⟨b, 0, none⟩)] w fun e w' =>
    e = .returned (kV (keyP s.data.toList bad).1) ∧ Rd b w' ⟨(keyP s.data.toList bad).2.1.toArray⟩ (keyP s.data.toList bad).2.2 ∧ w.grownBy w' (some b) := by
  cases bad
  case true =>
    refine (key_bad s b w h).mono ?_
    rintro e w' ⟨rfl, h1, h2⟩
    exact ⟨rfl, h1, h2⟩
  have hK : keyP s.data.toList false = if Lib.hasPrefix s.data.toList [91] = false then ((0, 0, []), Lib.trimPrefix s.data.toList [91], false)
    else
    let t := Lib.trimPrefix s.data.toList [91]
    if Lib.hasPrefix t [34] = true then
      (if (unqS t).1 ≠ 0 then ((0, 0, []), t, true)
      else if quo (unqS t).2.1 ≠ t.take (unqS t).2.2 then ((0, 0, []), t, true)
      else ((2, 0, (unqS t).2.1), skipP [93] (t.drop (unqS t).2.2) false))
    else ((1, (numS (t.take (nmAt t))).1, []), skipP [93] (t.drop (nmAt t)) (decide ((numS (t.take (nmAt t))).2 ≠ 0) || decide ((numS (t.take (nmAt t))).1 < 0))) := by
    unfold keyP; rw [if_neg (by simp)]
  cases hp : Lib.hasPrefix s.data.toList [91]
  · rw [hK, if_pos hp]
    refine (key_no s b w h hp).mono ?_
    rintro e w' ⟨rfl, h1, h2⟩
    exact ⟨rfl, h1, h2⟩
  rw [hK, if_neg (by rw [hp]; simp)]
  have hz : (cutS [91] s).size ≤ 1000000 := Nat.le_trans (cut_size _ _) hs
  have ht : (cutS [91] s).data.toList = Lib.trimPrefix s.data.toList [91] := rfl
  simp only
  rw [← ht]
  generalize hs1 : cutS [91] s = s1 at hz ⊢
  cases hq : Lib.hasPrefix s1.data.toList [34]
  case false =>
    rw [if_neg (by simp)]
    refine (key_nu s s1 b w w0 hT hB hb0 hz h hp hs1 _ hq rfl).mono ?_
    rintro e w' ⟨rfl, h1, h2⟩
    rw [ext_arr] at h1
    exact ⟨rfl, h1, h2⟩
  rw [if_pos rfl]
  by_cases he : (unqS s1.data.toList).1 = 0
  case neg =>
    rw [if_pos he]
    refine (key_se s s1 b w w0 hT hB hb0 hz h hp hs1 hq he).mono ?_
    rintro e w' ⟨rfl, h1, h2⟩
    exact ⟨rfl, h1, h2⟩
  rw [if_neg (by simpa using he)]
  by_cases hv : quo (unqS s1.data.toList).2.1 = s1.data.toList.take (unqS s1.data.toList).2.2
  case neg =>
    rw [if_pos hv]
    refine (key_sq s s1 b w w0 hT hB hb0 hz h hp hs1 hq he hv).mono ?_
    rintro e w' ⟨rfl, h1, h2⟩
    exact ⟨rfl, h1, h2⟩
  rw [if_neg (by simpa using hv)]
  refine (key_so s s1 b w w0 hT hB hb0 hz h hp hs1 hq he hv).mono ?_
  rintro e w' ⟨rfl, h1, h2⟩
  rw [ext_arr] at h1
  exact ⟨rfl, h1, h2⟩
theorem wrdR_list (s : ByteArray) : wrdR s = ⟨(s.data.toList.drop (dotN s.data.toList)).toArray⟩ := ext_arr _ _
theorem wrdS_list (s : ByteArray) : (wrdS s).data.toList = s.data.toList.take (dotN s.data.toList) := by
  have := Lib.extract_data s 0 (dotN s.data.toList)
  unfold wrdS
  rw [this]; simp
theorem wrdS_arr (s : ByteArray) : wrdS s = ⟨(s.data.toList.take (dotN s.data.toList)).toArray⟩ := by
  apply ByteArray.ext; apply Array.toList_inj.mp; rw [wrdS_list]
/-- A step: its name and its key; what is left; whether something was wrong. -/
def stepP (l : List UInt8) (bad : Bool) : (List UInt8 × KeyT) × List UInt8 × Bool :=
  ((l.take (dotN l), (keyP (l.drop (dotN l)) (bad || !idB (l.take (dotN l)))).1), (keyP (l.drop (dotN l)) (bad || !idB (l.take (dotN l)))).2)
def stV (x : List UInt8 × KeyT) : Value := .agg #[.string ⟨x.1.toArray⟩, .int .i64 x.2.1, .int .i64 x.2.2.1, .string ⟨x.2.2.2.toArray⟩]
end Go.Proofs.YtpnogmicfomofaaGreatDoor.Adr
/-
  Addresses: the program's reader: step. Conditions: those ahead of each theorem.
-/
namespace Go.Proofs.YtpnogmicfomofaaGreatDoor.Adr
open Go.RowKit Go.Sort Go.Lib Go.Maps
open Go.Lib (hid)
set_option linter.unusedVariables false
set_option linter.unusedSimpArgs false

/-- A step in memory of the call's own. -/
def sO (n : List UInt8) (k m : Int) (t : List UInt8) : Obj := .cells #[.string ⟨n.toArray⟩, .int .i64 k, .int .i64 m, .string ⟨t.toArray⟩] 119 (0, 0)
theorem so_cells {W : World} {r : Nat} {n t : List UInt8} {k m : Int} (h : W.heap[r]? = some (sO n k m t)) : W.cell? ⟨r, 0, none⟩ = some (.string ⟨n.toArray⟩) ∧ W.cell? ⟨r, 1, none⟩ = some (.int .i64 k) ∧ W.cell? ⟨r, 2, none⟩ = some (.int .i64 m) ∧ W.cell? ⟨r, 3, none⟩ = some (.string ⟨t.toArray⟩) ∧ (∀ o, W.frozen? ⟨r, o, none⟩ = false) ∧ r < W.heap.size := by
  unfold sO at h
  refine ⟨by unfold World.cell?; simp [h], by unfold World.cell?; simp [h], by unfold World.cell?; simp [h], by unfold World.cell?; simp [h], fun o => by unfold World.frozen?; simp [h], lt_of_block h⟩
theorem step_mid {w w1 : World} {b : Nat} {s : ByteArray} {bad : Bool} (h0 : w.grownBy (w.alloc (sO [] 0 0 [])) (some b)) (hg : (w.alloc (sO [] 0 0 [])).grownBy w1 (some b)) (hr : Rd b w1 s bad) (ho : (w.alloc (sO [] 0 0 [])).heap[w.heap.size]? = some (sO [] 0 0 [])) (hne : w.heap.size ≠ b) (nm : List UInt8) :
    w.grownBy (w1.alloc (sO nm 0 0 [])) (some b) ∧ Rd b (w1.alloc (sO nm 0 0 [])) s bad ∧ (w1.alloc (sO nm 0 0 [])).heap[w.heap.size]? = some (sO [] 0 0 []) ∧ (w1.alloc (sO nm 0 0 [])).heap[w1.heap.size]? = some (sO nm 0 0 []) := by
  have hb : Below w1.heap.size w1 (w1.alloc (sO nm 0 0 [])) := (Below.refl _ _).alloc (Nat.le_refl _) _
  have h1 := ko_kept ho hg hne
  exact ⟨grown_trans (grown_trans h0 hg) (grown_of hb _), rd_alloc hr _, (hb.block _ (lt_of_block h1)).trans h1, ko_new _ _⟩
theorem step_end {w w1 w4 : World} {b : Nat} {s : ByteArray} {bad : Bool} (HO4 : w4.heap[w.heap.size]? = some (sO [] 0 0 [])) (HR4 : Rd b w4 s bad) (HG4 : w.grownBy w4 (some b)) (hne : w.heap.size ≠ b) (hne1 : w1.heap.size ≠ b) (hlt : w.heap.size < w1.heap.size) (nm : List UInt8) (x : KeyT) (W : World)
    (e : W = ((((((w4.setCell ⟨w1.heap.size, 1, none⟩ (.int .i64 x.1)).setCell ⟨w1.heap.size, 2, none⟩ (.int .i64 x.2.1)).setCell ⟨w1.heap.size, 3, none⟩ (.string ⟨x.2.2.toArray⟩)).setCell ⟨w.heap.size, 0, none⟩ (.string ⟨nm.toArray⟩)).setCell ⟨w.heap.size, 1, none⟩ (.int .i64 x.1)).setCell ⟨w.heap.size, 2, none⟩ (.int .i64 x.2.1)).setCell ⟨w.heap.size, 3, none⟩ (.string ⟨x.2.2.toArray⟩)) :
    (W.cell? ⟨w.heap.size, 0, none⟩ = some (.string ⟨nm.toArray⟩) ∧ W.cell? ⟨w.heap.size, 1, none⟩ = some (.int .i64 x.1) ∧ W.cell? ⟨w.heap.size, 2, none⟩ = some (.int .i64 x.2.1) ∧ W.cell? ⟨w.heap.size, 3, none⟩ = some (.string ⟨x.2.2.toArray⟩)) ∧ Rd b W s bad ∧ w.grownBy W (some b) := by
  have h1 : ∀ (X : World) (i : Nat) (v : Value), (X.setCell ⟨w1.heap.size, i, none⟩ v).heap[w.heap.size]? = X.heap[w.heap.size]? := fun X i v => Below.heap_setCell _ _ _ _ (fun e => by simp only at e; omega)
  have h2 : W.heap[w.heap.size]? = some (sO nm x.1 x.2.1 x.2.2) := by
    have h3 := (h1 _ 3 (.string ⟨x.2.2.toArray⟩)).trans ((h1 _ 2 (.int .i64 x.2.1)).trans (h1 w4 1 (.int .i64 x.1)))
    rw [HO4] at h3
    subst e
    generalize ((w4.setCell ⟨w1.heap.size, 1, none⟩ (.int .i64 x.1)).setCell ⟨w1.heap.size, 2, none⟩ (.int .i64 x.2.1)).setCell ⟨w1.heap.size, 3, none⟩ (.string ⟨x.2.2.toArray⟩) = Y at h3
    unfold World.setCell sO at *
    simp only [Array.getElem?_modify, if_true, h3, Option.map_some]
    rfl
  obtain ⟨k0, k1, k2, k3, _⟩ := so_cells h2
  refine ⟨⟨k0, k1, k2, k3⟩, ?_⟩
  subst e
  have hl := Nat.le_of_lt hlt
  exact ⟨ko_rd (ko_rd (ko_rd (ko_rd (ko_rd (ko_rd (ko_rd HR4 hne1 _ _) hne1 _ _) hne1 _ _) hne _ _) hne _ _) hne _ _) hne _ _,
    grown_setO (grown_setO (grown_setO (grown_setO (grown_setO (grown_setO (grown_setO HG4 _ _ hl) _ _ hl) _ _ hl) _ _ (Nat.le_refl _)) _ _ (Nat.le_refl _)) _ _ (Nat.le_refl _)) _ _ (Nat.le_refl _)⟩
set_option maxHeartbeats 4000000 in
theorem step_any (s : ByteArray) (b : Nat) (bad : Bool) (w w0 : World) (hT : WT w0) (hB : Below w0.heap.size w0 w) (hb0 : w0.heap.size ≤ b) (hs : s.size ≤ 1000000) (h : Rd b w s bad) : Calls Tryz.prog 121 #[.pointer (some ⟨b, 0, none⟩)] w fun e w' =>
    e = .returned (stV (stepP s.data.toList bad).1) ∧ Rd b w' ⟨(stepP s.data.toList bad).2.1.toArray⟩ (stepP s.data.toList bad).2.2 ∧ w.grownBy w' (some b) := by
  have HWD := hid (fun (W : World) (hW : Rd b W s bad) => word_any s b bad W hs hW)
  have hz : (wrdR s).size ≤ 1000000 := by
    rw [← size_list, wrdR_list, List.length_drop, size_list]; omega
  have HKY := hid (fun (W : World) (v : Bool) (hg : w.grownBy W (some b)) (hW : Rd b W (wrdR s) v) => key_any (wrdR s) b v W w0 hT (hB.grown hg hB.size (fun k hk => by cases hk; exact hb0)) hb0 hz hW)
  rw [show (wrdR s).data.toList = s.data.toList.drop (dotN s.data.toList) by rw [wrdR_list]] at HKY
  rw [show idB (wrdS s).data.toList = idB (s.data.toList.take (dotN s.data.toList)) by rw [wrdS_list], wrdS_arr] at HWD
  unfold stepP
  have HR := hid (rd_alloc h (sO [] 0 0 []))
  have HG := hid (grown_of ((Below.refl w.heap.size w).alloc (Nat.le_refl _) (sO [] 0 0 [])) (some b))
  have HO := hid (show (w.alloc (sO [] 0 0 [])).heap[w.heap.size]? = some (sO [] 0 0 []) from ko_new w _)
  obtain ⟨c0, c1, c2, c3⟩ := h.cells
  have hne : w.heap.size ≠ b := by omega
  clear h hz hs
  unfold sO at HR HG
  generalize s.data.toList.take (dotN s.data.toList) = nm at *
  generalize s.data.toList.drop (dotN s.data.toList) = rs at *
  go_enter Tryz.func121, Tryz.ntmps121
  go_wp2_with (go_at_call 123; refine (HWD.out _ HR.out).mono ?_; rintro e w1 ⟨rfl, hr, hg⟩)
  obtain ⟨HY, HR2, HO2, HV2⟩ := step_mid HG.out hg hr HO.out hne nm
  have hlt : w.heap.size < w1.heap.size := by have := hg.size; simp [World.size_alloc] at this; omega
  have hne1 : w1.heap.size ≠ b := by omega
  unfold sO at HY HR2 HO2 HV2
  refine (HKY.out _ _ HY HR2).mono ?_
  generalize hx : keyP rs (bad || !idB nm) = x
  rintro e w4 ⟨rfl, HR4, hg4⟩
  have HO4 := ko_kept HO2 hg4 hne
  have HV4 := ko_kept HV2 hg4 hne1
  have HG4 := grown_trans HY hg4
  obtain ⟨v0, v1, v2, v3, vf, v4⟩ := so_cells (n := nm) (k := 0) (m := 0) (t := []) HV4
  obtain ⟨o0, o1, o2, o3, of, o4⟩ := so_cells (n := []) (k := 0) (m := 0) (t := []) HO4
  have p0 := vf 0
  have p1 := vf 1
  have p2 := vf 2
  have p3 := vf 3
  have q0 := of 0
  have q1 := of 1
  have q2 := of 2
  have q3 := of 3
  have hne2 : w.heap.size ≠ w1.heap.size := by omega
  simp only [kV]
  go_wp2
  obtain ⟨⟨k0, k1, k2, k3⟩, hE⟩ := step_end HO4 HR4 HG4 hne hne1 hlt nm x.1 _ rfl
  exact bodyPost_ret (v := stV (nm, x.1)) (by simp [results, Tryz.results121, go_sem, k0, k1, k2, k3, stV]) rfl (by rw [hx]; exact ⟨rfl, hE⟩)
end Go.Proofs.YtpnogmicfomofaaGreatDoor.Adr
/-
  Addresses: own rows of module steps; the address while it is read. Conditions: those ahead of each theorem.
-/
namespace Go.Proofs.YtpnogmicfomofaaGreatDoor.Adr
open Go.RowKit Go.Sort Go.Lib Go.Maps
open Go.Lib (hid)
set_option linter.unusedVariables false
set_option linter.unusedSimpArgs false

abbrev MS := List UInt8 × KeyT
def encM (x : MS) : List Value := [.string ⟨x.1.toArray⟩, .int .i64 x.2.1, .int .i64 x.2.2.1, .string ⟨x.2.2.2.toArray⟩]
theorem encM_len : ∀ x, (encM x).length = 4 := fun _ => rfl
theorem encM_one : ∀ x, ∀ u ∈ encM x, u.oneCell' = true := fun x u hu => by
  simp only [encM, List.mem_cons, List.mem_nil_iff, or_false] at hu
  rcases hu with rfl | rfl | rfl | rfl <;> rfl
theorem msinfo : (Tryz.prog.info? 119).map (fun i => (i.zero, i.size, i.bytes)) = some (some (.agg #[.string ByteArray.empty, .int .i64 0, .int .i64 0, .string ByteArray.empty]), 4, 48) := by kernel_rfl
def OwnM (B : Nat) (w : World) (v : Value) (xs : List MS) : Prop := w.ownsRow B 119 4 v xs.length (xs.flatMap encM)
theorem ownM_nil (B : Nat) (w : World) : OwnM B w (.slice none 0 0) [] := World.ownsRow_nil w B _ 4
def MoreM (B : Nat) (w : World) (v : Value) (xs : List MS) (H : Nat) (g cap : Nat) (w' : World) : Prop :=
  OwnM B w' (.slice (some ⟨g, 0, none⟩) xs.length cap) xs ∧ w.grownBy w' v.ownBlock ∧ (v.ownBlock = some g ∨ g = H) ∧ g < w'.heap.size
theorem morem_of {B : Nat} {w w' : World} {v : Value} {xs : List MS} {y : MS} {H g cap : Nat} (m1 : w'.ownsRow B 119 4 (.slice (some ⟨g, 0, none⟩) (xs.length + 1) cap) (xs ++ [y]).length ((xs ++ [y]).flatMap encM)) (m2 : w.grownBy w' v.ownBlock) (m3 : v.ownBlock = some g ∨ g = H) (m4 : g < w'.heap.size) : MoreM B w v (xs ++ [y]) H g cap w' := by
  refine ⟨?_, m2, m3, m4⟩
  unfold OwnM
  rw [show (xs ++ [y]).length = xs.length + 1 by simp] at m1 ⊢
  exact m1
/-- An address in memory of the call's own. -/
def aO (v : Value) (d : Bool) (ty nm : List UInt8) (k : KeyT) : Obj := .cells #[v, .bool d, .string ⟨ty.toArray⟩, .string ⟨nm.toArray⟩, .int .i64 k.1, .int .i64 k.2.1, .string ⟨k.2.2.toArray⟩] 60 (0, 0)
theorem ao_cells {W : World} {r : Nat} {v : Value} {d : Bool} {ty nm : List UInt8} {k : KeyT} (h : W.heap[r]? = some (aO v d ty nm k)) : W.cell? ⟨r, 0, none⟩ = some v ∧ W.cell? ⟨r, 1, none⟩ = some (.bool d) ∧ W.cell? ⟨r, 2, none⟩ = some (.string ⟨ty.toArray⟩) ∧ W.cell? ⟨r, 3, none⟩ = some (.string ⟨nm.toArray⟩) ∧ W.cell? ⟨r, 4, none⟩ = some (.int .i64 k.1) ∧ W.cell? ⟨r, 5, none⟩ = some (.int .i64 k.2.1) ∧ W.cell? ⟨r, 6, none⟩ = some (.string ⟨k.2.2.toArray⟩) ∧ (∀ o, W.frozen? ⟨r, o, none⟩ = false) ∧ r < W.heap.size := by
  unfold aO at h
  refine ⟨by unfold World.cell?; simp [h], by unfold World.cell?; simp [h], by unfold World.cell?; simp [h], by unfold World.cell?; simp [h], by unfold World.cell?; simp [h], by unfold World.cell?; simp [h], by unfold World.cell?; simp [h], fun o => by unfold World.frozen?; simp [h], lt_of_block h⟩
/-- The state while an address is read: the reader in block b, the address in block A, the answer's block r. -/
structure Ps (w : World) (W : World) (l : List UInt8) (bad : Bool) (v : Value) (xs : List MS) (d : Bool) (ty nm : List UInt8) (k : KeyT) : Prop where
  rd : Rd (w.heap.size + 1) W ⟨l.toArray⟩ bad
  ad : W.heap[w.heap.size + 1 + 1]? = some (aO v d ty nm k)
  re : W.heap[w.heap.size]? = some (aO (.slice none 0 0) false [] [] (0, 0, []))
  own : OwnM (w.heap.size + 3) W v xs
  bel : Below w.heap.size w W
  sz : w.heap.size + 3 ≤ W.heap.size
theorem Ps.grown {w W W' : World} {l l' : List UInt8} {bad bad' : Bool} {v : Value} {xs : List MS} {d : Bool} {ty nm : List UInt8} {k : KeyT} (h : Ps w W l bad v xs d ty nm k) (hg : W.grownBy W' (some (w.heap.size + 1))) (hr : Rd (w.heap.size + 1) W' ⟨l'.toArray⟩ bad') : Ps w W' l' bad' v xs d ty nm k := by
  refine ⟨hr, ko_kept h.ad hg (by omega), ko_kept h.re hg (by omega), kept_off h.own hg (fun g hg2 e => ?_), h.bel.grown hg h.bel.size (fun k hk => by cases hk; omega), Nat.le_trans h.sz hg.size⟩
  rcases h.own.2 with ⟨rfl, _⟩ | ⟨g2, cap, cur, rfl, hb, _⟩
  · simp [Value.ownBlock] at hg2
  · simp [Value.ownBlock] at hg2
    simp at e
    omega
theorem Ps.below {w W W' : World} {l : List UInt8} {bad : Bool} {v : Value} {xs : List MS} {d : Bool} {ty nm : List UInt8} {k : KeyT} (h : Ps w W l bad v xs d ty nm k) (hb : Below W.heap.size W W') : Ps w W' l bad v xs d ty nm k :=
  h.grown (grown_of hb _) (h.rd.kept hb)
theorem own_far {w W : World} {v : Value} {xs : List MS} (h : OwnM (w.heap.size + 3) W v xs) : ∀ g, v.ownBlock = some g → w.heap.size + 3 ≤ g ∧ g < W.heap.size := by
  intro g hg
  rcases h.2 with ⟨rfl, _⟩ | ⟨g2, cap, cur, rfl, hb, h2, _⟩
  · simp [Value.ownBlock] at hg
  · simp [Value.ownBlock] at hg
    subst hg
    exact ⟨hb, lt_of_block h2⟩
/-- A cell of the address is written. -/
theorem Ps.put {w W : World} {l : List UInt8} {bad : Bool} {v v' : Value} {xs xs' : List MS} {d d' : Bool} {ty nm ty' nm' : List UInt8} {k k' : KeyT} (h : Ps w W l bad v xs d ty nm k) (i : Nat) (u : Value) (e : (W.setCell ⟨w.heap.size + 1 + 1, i, none⟩ u).heap[w.heap.size + 1 + 1]? = some (aO v' d' ty' nm' k')) (ho : OwnM (w.heap.size + 3) W v' xs') :
    Ps w (W.setCell ⟨w.heap.size + 1 + 1, i, none⟩ u) l bad v' xs' d' ty' nm' k' := by
  have hne : ∀ j, j ≠ w.heap.size + 1 + 1 → (W.setCell ⟨w.heap.size + 1 + 1, i, none⟩ u).heap[j]? = W.heap[j]? := fun j hj => Below.heap_setCell _ _ _ _ hj
  have hg := grown_setC W ⟨w.heap.size + 1 + 1, i, none⟩ u
  refine ⟨rd_grown h.rd hg (by simp), e, (hne _ (by omega)).trans h.re, kept_off ho hg (fun g hg2 e => ?_), h.bel.grown hg h.bel.size (fun k hk => by cases hk; show w.heap.size ≤ w.heap.size + 1 + 1; omega), Nat.le_trans h.sz hg.size⟩
  have := own_far ho g hg2
  simp at e
  omega
theorem Ps.app {w W W1 W2 : World} {l : List UInt8} {bad : Bool} {v : Value} {xs : List MS} {d : Bool} {ty nm : List UInt8} {k : KeyT} (h : Ps w W l bad v xs d ty nm k) (hb : Below W.heap.size W W1) {y : MS} {H g cap : Nat} (hm : MoreM (w.heap.size + 3) W1 v (xs ++ [y]) H g cap W2) :
    (W2.cell? ⟨w.heap.size + 1 + 1, 0, none⟩ = some v ∧ W2.frozen? ⟨w.heap.size + 1 + 1, 0, none⟩ = false) ∧ Ps w (W2.setCell ⟨w.heap.size + 1 + 1, 0, none⟩ (.slice (some ⟨g, 0, none⟩) (xs ++ [y]).length cap)) l bad (.slice (some ⟨g, 0, none⟩) (xs ++ [y]).length cap) (xs ++ [y]) d ty nm k := by
  have h1 := h.below hb
  have hf := own_far h1.own
  have hg := hm.2.1
  have hne : ∀ j, j < w.heap.size + 3 → W2.heap[j]? = W1.heap[j]? := fun j hj => hg.block j (Nat.lt_of_lt_of_le hj h1.sz) (fun e => by have := (hf j e.symm).1; omega)
  have had := (hne _ (by omega)).trans h1.ad
  obtain ⟨c0, _, _, _, _, _, _, cf, _⟩ := ao_cells had
  have hp2 : Ps w W2 l bad (.slice (some ⟨g, 0, none⟩) (xs ++ [y]).length cap) (xs ++ [y]) d ty nm k → True := fun _ => trivial
  refine ⟨⟨c0, cf 0⟩, ?_⟩
  have hrd : Rd (w.heap.size + 1) W2 ⟨l.toArray⟩ bad := (hne _ (by omega)).trans h1.rd
  have hre := (hne _ (by omega)).trans h1.re
  have hgs := grown_setC W2 ⟨w.heap.size + 1 + 1, 0, none⟩ (.slice (some ⟨g, 0, none⟩) (xs ++ [y]).length cap)
  have hbel : Below w.heap.size w W2 := h1.bel.grown hg h1.bel.size (fun k hk => by have := (hf k hk).1; omega)
  refine ⟨rd_grown hrd hgs (by simp), ?_, ko_kept hre hgs (by simp only; omega), kept_off hm.1 hgs (fun g2 hg2 e => ?_), hbel.grown hgs hbel.size (fun k hk => by cases hk; show w.heap.size ≤ w.heap.size + 1 + 1; omega), Nat.le_trans (Nat.le_trans h1.sz hg.size) hgs.size⟩
  · unfold World.setCell aO at *
    simp only [Array.getElem?_modify, if_true, had, Option.map_some]
    rfl
  · have := (own_far hm.1 g2 hg2).1
    simp at e
    omega
theorem Ps.p1 {w W : World} {l : List UInt8} {bad : Bool} {v : Value} {xs : List MS} {d : Bool} {ty nm : List UInt8} {k : KeyT} (h : Ps w W l bad v xs d ty nm k) (d2 : Bool) : Ps w (W.setCell ⟨w.heap.size + 1 + 1, 1, none⟩ (.bool d2)) l bad v xs d2 ty nm k := by
  refine h.put 1 (.bool d2) ?_ h.own
  have had := h.ad
  unfold World.setCell aO at *
  simp only [Array.getElem?_modify, if_true, had, Option.map_some]
  rfl
theorem Ps.p2 {w W : World} {l : List UInt8} {bad : Bool} {v : Value} {xs : List MS} {d : Bool} {ty nm : List UInt8} {k : KeyT} (h : Ps w W l bad v xs d ty nm k) (s2 : List UInt8) : Ps w (W.setCell ⟨w.heap.size + 1 + 1, 2, none⟩ (.string ⟨s2.toArray⟩)) l bad v xs d s2 nm k := by
  refine h.put 2 (.string ⟨s2.toArray⟩) ?_ h.own
  have had := h.ad
  unfold World.setCell aO at *
  simp only [Array.getElem?_modify, if_true, had, Option.map_some]
  rfl
theorem Ps.p3 {w W : World} {l : List UInt8} {bad : Bool} {v : Value} {xs : List MS} {d : Bool} {ty nm : List UInt8} {k : KeyT} (h : Ps w W l bad v xs d ty nm k) (s2 : List UInt8) : Ps w (W.setCell ⟨w.heap.size + 1 + 1, 3, none⟩ (.string ⟨s2.toArray⟩)) l bad v xs d ty s2 k := by
  refine h.put 3 (.string ⟨s2.toArray⟩) ?_ h.own
  have had := h.ad
  unfold World.setCell aO at *
  simp only [Array.getElem?_modify, if_true, had, Option.map_some]
  rfl
theorem Ps.p4 {w W : World} {l : List UInt8} {bad : Bool} {v : Value} {xs : List MS} {d : Bool} {ty nm : List UInt8} {k : KeyT} (h : Ps w W l bad v xs d ty nm k) (n2 : Int) : Ps w (W.setCell ⟨w.heap.size + 1 + 1, 4, none⟩ (.int .i64 n2)) l bad v xs d ty nm (n2, k.2.1, k.2.2) := by
  refine h.put 4 (.int .i64 n2) ?_ h.own
  have had := h.ad
  unfold World.setCell aO at *
  simp only [Array.getElem?_modify, if_true, had, Option.map_some]
  rfl
theorem Ps.p5 {w W : World} {l : List UInt8} {bad : Bool} {v : Value} {xs : List MS} {d : Bool} {ty nm : List UInt8} {k : KeyT} (h : Ps w W l bad v xs d ty nm k) (n2 : Int) : Ps w (W.setCell ⟨w.heap.size + 1 + 1, 5, none⟩ (.int .i64 n2)) l bad v xs d ty nm (k.1, n2, k.2.2) := by
  refine h.put 5 (.int .i64 n2) ?_ h.own
  have had := h.ad
  unfold World.setCell aO at *
  simp only [Array.getElem?_modify, if_true, had, Option.map_some]
  rfl
theorem Ps.p6 {w W : World} {l : List UInt8} {bad : Bool} {v : Value} {xs : List MS} {d : Bool} {ty nm : List UInt8} {k : KeyT} (h : Ps w W l bad v xs d ty nm k) (s2 : List UInt8) : Ps w (W.setCell ⟨w.heap.size + 1 + 1, 6, none⟩ (.string ⟨s2.toArray⟩)) l bad v xs d ty nm (k.1, k.2.1, s2) := by
  refine h.put 6 (.string ⟨s2.toArray⟩) ?_ h.own
  have had := h.ad
  unfold World.setCell aO at *
  simp only [Array.getElem?_modify, if_true, had, Option.map_some]
  rfl
theorem Ps.fin {w W : World} {l : List UInt8} {bad : Bool} {v : Value} {xs : List MS} {d : Bool} {ty nm : List UInt8} {k : KeyT} (h : Ps w W l bad v xs d ty nm k) (v2 : Value) (d2 : Bool) (ty2 nm2 : List UInt8) (k2 : KeyT) (W' : World)
    (e : W' = ((((((W.setCell ⟨w.heap.size, 0, none⟩ v2).setCell ⟨w.heap.size, 1, none⟩ (.bool d2)).setCell ⟨w.heap.size, 2, none⟩ (.string ⟨ty2.toArray⟩)).setCell ⟨w.heap.size, 3, none⟩ (.string ⟨nm2.toArray⟩)).setCell ⟨w.heap.size, 4, none⟩ (.int .i64 k2.1)).setCell ⟨w.heap.size, 5, none⟩ (.int .i64 k2.2.1)).setCell ⟨w.heap.size, 6, none⟩ (.string ⟨k2.2.2.toArray⟩)) :
    W'.heap[w.heap.size]? = some (aO v2 d2 ty2 nm2 k2) ∧ OwnM (w.heap.size + 3) W' v xs ∧ Below w.heap.size w W' := by
  subst e
  have hre := h.re
  have hg := grown_trans (grown_trans (grown_trans (grown_trans (grown_trans (grown_trans (grown_setC W ⟨w.heap.size, 0, none⟩ v2) (grown_setC _ ⟨w.heap.size, 1, none⟩ (.bool d2))) (grown_setC _ ⟨w.heap.size, 2, none⟩ (.string ⟨ty2.toArray⟩))) (grown_setC _ ⟨w.heap.size, 3, none⟩ (.string ⟨nm2.toArray⟩))) (grown_setC _ ⟨w.heap.size, 4, none⟩ (.int .i64 k2.1))) (grown_setC _ ⟨w.heap.size, 5, none⟩ (.int .i64 k2.2.1))) (grown_setC _ ⟨w.heap.size, 6, none⟩ (.string ⟨k2.2.2.toArray⟩))
  refine ⟨?_, kept_off h.own hg (fun g hg2 e => ?_), h.bel.grown hg h.bel.size (fun k hk => by cases hk; exact Nat.le_refl _)⟩
  · unfold World.setCell aO at *
    simp only [Array.getElem?_modify, if_true, hre, Option.map_some]
    rfl
  · have := (own_far h.own g hg2).1
    simp at e
    omega
theorem Ps.start (w : World) (s : ByteArray) : Ps w (((w.alloc (aO (.slice none 0 0) false [] [] (0, 0, []))).alloc (.cells #[.string s, .bool false] 166)).alloc (aO (.slice none 0 0) false [] [] (0, 0, []))) s.data.toList false (.slice none 0 0) [] false [] [] (0, 0, []) := by
  have hb1 : Below w.heap.size w (w.alloc (aO (.slice none 0 0) false [] [] (0, 0, []))) := (Below.refl _ _).alloc (Nat.le_refl _) _
  have n1 := ko_new w (aO (.slice none 0 0) false [] [] (0, 0, []))
  have s1 : (w.alloc (aO (.slice none 0 0) false [] [] (0, 0, []))).heap.size = w.heap.size + 1 := by simp [World.size_alloc]
  generalize w.alloc (aO (.slice none 0 0) false [] [] (0, 0, [])) = w1 at *
  have hb2 : Below w1.heap.size w1 (w1.alloc (.cells #[.string s, .bool false] 166)) := (Below.refl _ _).alloc (Nat.le_refl _) _
  have n2 := ko_new w1 (.cells #[.string s, .bool false] 166)
  have s2 : (w1.alloc (.cells #[.string s, .bool false] 166)).heap.size = w1.heap.size + 1 := by simp [World.size_alloc]
  have m1 := (hb2.block _ (lt_of_block n1)).trans n1
  generalize w1.alloc (.cells #[.string s, .bool false] 166) = w2 at *
  have hb3 : Below w2.heap.size w2 (w2.alloc (aO (.slice none 0 0) false [] [] (0, 0, []))) := (Below.refl _ _).alloc (Nat.le_refl _) _
  have n3 := ko_new w2 (aO (.slice none 0 0) false [] [] (0, 0, []))
  have s3 : (w2.alloc (aO (.slice none 0 0) false [] [] (0, 0, []))).heap.size = w2.heap.size + 1 := by simp [World.size_alloc]
  have m2 := (hb3.block _ (lt_of_block m1)).trans m1
  have m3 := (hb3.block _ (lt_of_block n2)).trans n2
  generalize w2.alloc (aO (.slice none 0 0) false [] [] (0, 0, [])) = w3 at *
  rw [s2, s1] at n3
  rw [s1] at m3
  refine ⟨?_, n3, m2, ownM_nil _ _, (hb1.trans (hb2.mono (by omega))).trans (hb3.mono (by omega)), by omega⟩
  unfold Rd
  simpa using m3
end Go.Proofs.YtpnogmicfomofaaGreatDoor.Adr
