import Derived.Test.YtedpdpcibkceeaaDoorSof
import Derived.Test.YtedpdpcibkceeaaDoorMap2
import Derived.Deep.DeepCutAuto
import Derived.Deep.RegionHeld3
/-
  Contract of the program's Map. Conditions: those ahead of each theorem.
-/
namespace Go.Proofs.YtedpdpcibkceeaaDoor
open Go.RowKit Go.Sort Go.Lib
open Go.Lib (hid)
set_option linter.unusedVariables false
set_option linter.unusedSimpArgs false

/-- What Map hands back: the entries in the order of their keys, or the error of two equal ones. -/
def MapP (ks : List ByteArray) (is : List Val) (w : World) (e : Ending) (w' : World) : Prop :=
  Below w.heap.size w w' ∧ ∃ d : List (ByteArray × Val), d.Perm (ks.zip is) ∧ SrtS (d.map Prod.fst) ∧
    ((AscS (d.map Prod.fst) ∧ ∃ r c rk ck, e = .returned (.tuple #[.agg #[.int .i64 5, .int .i64 0, .string ⟨#[]⟩, .slice r d.length c, .slice rk d.length ck], .int .i64 0]) ∧ VR5 w' r c rk ck (.mk 5 0 ⟨#[]⟩ (d.map Prod.snd) (d.map Prod.fst))) ∨
     (¬ AscS (d.map Prod.fst) ∧ e = .returned (.tuple #[.agg #[.int .i64 0, .int .i64 0, .string ⟨#[]⟩, .slice none 0 0, .slice none 0 0], .int .i64 8])))

def valAt (is : List Val) (i : Nat) : Val := is.getD i (.mk 0 0 ⟨#[]⟩ [] [])
theorem valAt_eq {is : List Val} {i : Nat} (h : i < is.length) : valAt is i = is[i] := by unfold valAt; simp [h]
theorem zip_range (ks : List ByteArray) (is : List Val) (n : Nat) (h1 : n = ks.length) (h2 : n = is.length) : (List.range n).map (fun i => (keyAt ks i, valAt is i)) = ks.zip is := by
  apply List.ext_getElem
  · simp; omega
  · intro i h3 h4
    have : i < n := by simpa using h3
    simp [keyAt_eq (ks := ks) (i := i) (by omega), valAt_eq (is := is) (i := i) (by omega)]
theorem intinfo : (Tryd.prog.info? 3).map (fun i => (i.zero, i.size, i.bytes)) = some (some (.int .i64 0), 1, 8) := by kernel_rfl

def dupB (l : List ByteArray) (k : Nat) : Bool := decide (0 < k ∧ l[k]? = l[k - 1]?)
theorem dup_zero (l : List ByteArray) : dupB l 0 = false := by simp [dupB]
theorem dup_succ {l : List ByteArray} {k : Nat} (h : k + 1 < l.length) : dupB l (k + 1) = decide (l[k + 1] = l[k]) := by
  unfold dupB
  rw [List.getElem?_eq_getElem h, Nat.add_sub_cancel, List.getElem?_eq_getElem (by omega)]
  simp
theorem dup_yes {l : List ByteArray} {k : Nat} (h : k < l.length) (hd : dupB l k = true) : ¬ AscS l := by
  cases k with
  | zero => rw [dup_zero] at hd; cases hd
  | succ k => rw [dup_succ h] at hd; exact asc_dup h (of_decide_eq_true hd)
theorem dup_no {l : List ByteArray} (hs : SrtS l) {k : Nat} (h : k < l.length) (ha : AscS (l.take k)) (hd : dupB l k = false) : AscS (l.take (k + 1)) := by
  cases k with
  | zero => exact asc_one l
  | succ k => rw [dup_succ h] at hd; exact asc_take_next hs h ha (of_decide_eq_false hd)

set_option maxRecDepth 100000 in
set_option maxHeartbeats 4000000 in
theorem pmap_any (ks : List ByteArray) (is : List Val) (n : Nat) (r : Option Addr) (c : Nat) (ri : Option Addr) (ci : Nat) (w : World) (hK : Sl StrR 1 w (.slice r n c) ks) (hI : Sl VR 5 w (.slice ri n ci) is) (hno : nodesL is ≤ 1000000) (hnk : nkeysL is ≤ 1000000) :
    Calls Tryd.prog 40 #[.slice r n c, .slice ri n ci] w (MapP ks is w) := by
  obtain ⟨hnk1, hkc, hkm⟩ := sl_len hK
  obtain ⟨hni1, hic, him⟩ := sl_len hI
  have h3 := nodesL_len is
  have hn6 : n ≤ 1000000 := by omega
  have HK := hid hK
  have HI := hid hI
  have HN1 := hid hnk1
  have HN2 := hid hni1
  have CPY := hid (fun (i : Nat) (h : i < is.length) (W : World) r c rk ck (h5 : VR5 W r c rk ck is[i]) => copied_any is[i] r c rk ck W h5 (by have := nodes_mem (List.getElem_mem h); omega) (by have := nkeys_mem (List.getElem_mem h); omega))
  obtain ⟨i0, hi, hz0, hz1, hz2⟩ := info_parts intinfo
  obtain ⟨C, hC, hCc, hmk⟩ := make_fact (P := Tryd.prog) Tryd.underlying73 hi hz0 hz1 hz2 rfl n (by omega) (by omega)
  have HC := hid hCc
  clear hK hI hnk1 hni1 h3 hno hnk hi hz0 hz1 hz2 hCc hC
  go_enter Tryd.func40, Tryd.ntmps40
  go_wp2_with fail
  have HA := hid (show Below w.heap.size w (((w.alloc (.cells #[.slice r n c] 24)).alloc (.cells #[.int .i64 0, .int .i64 0, .string { data := #[] }, .slice none 0 0, .slice none 0 0] 26)).alloc (.cells C 3)) from (((Below.refl _ _).alloc (Nat.le_refl _) _).alloc (by simp) _).alloc (by simp; omega) _)
  have HZ := hid (show (((w.alloc (.cells #[.slice r n c] 24)).alloc (.cells #[.int .i64 0, .int .i64 0, .string { data := #[] }, .slice none 0 0, .slice none 0 0] 26)).alloc (.cells C 3)).heap.size = w.heap.size + 1 + 1 + 1 by simp)
  have H0 := hid (show ∀ j, j < n → (((w.alloc (.cells #[.slice r n c] 24)).alloc (.cells #[.int .i64 0, .int .i64 0, .string { data := #[] }, .slice none 0 0, .slice none 0 0] 26)).alloc (.cells C 3)).cell? ⟨w.heap.size + 1 + 1, j, none⟩ = some (.int .i64 0) from fun j hj => cell_at (by simp) (by have := HC.out j 0 (.int .i64 0) hj rfl; simpa using this))
  have HF0 := hid (show ∀ o, (((w.alloc (.cells #[.slice r n c] 24)).alloc (.cells #[.int .i64 0, .int .i64 0, .string { data := #[] }, .slice none 0 0, .slice none 0 0] 26)).alloc (.cells C 3)).frozen? ⟨w.heap.size + 1 + 1, o, none⟩ = false from fun o => by
    have h : (((w.alloc (.cells #[.slice r n c] 24)).alloc (.cells #[.int .i64 0, .int .i64 0, .string { data := #[] }, .slice none 0 0, .slice none 0 0] 26)).alloc (.cells C 3)).heap[w.heap.size + 1 + 1]? = some (.cells C 3 (0, 0)) := (congrArg _ (by simp)).trans (MapKept.heap_alloc _ _).1
    unfold World.frozen?
    simp only [h]
    simp)
  have HBX := hid (show (((w.alloc (.cells #[.slice r n c] 24)).alloc (.cells #[.int .i64 0, .int .i64 0, .string { data := #[] }, .slice none 0 0, .slice none 0 0] 26)).alloc (.cells C 3)).cell? ⟨w.heap.size, 0, none⟩ = some (.slice r n c) from bget ((Below.refl _ _).alloc (Nat.le_refl _) _) (bget ((Below.refl _ _).alloc (Nat.le_refl _) _) (cell_at rfl rfl)))
  have HRX := hid (show ∀ j v, (#[.int .i64 0, .int .i64 0, .string { data := #[] }, .slice none 0 0, .slice none 0 0] : Array Value)[j]? = some v → (((w.alloc (.cells #[.slice r n c] 24)).alloc (.cells #[.int .i64 0, .int .i64 0, .string { data := #[] }, .slice none 0 0, .slice none 0 0] 26)).alloc (.cells C 3)).cell? ⟨w.heap.size + 1, j, none⟩ = some v ∧ (((w.alloc (.cells #[.slice r n c] 24)).alloc (.cells #[.int .i64 0, .int .i64 0, .string { data := #[] }, .slice none 0 0, .slice none 0 0] 26)).alloc (.cells C 3)).frozen? ⟨w.heap.size + 1, j, none⟩ = false from fun j v hj => ⟨bget ((Below.refl _ _).alloc (Nat.le_refl _) _) (cell_at (by simp) hj), by
    rw [Below.frozen (((Below.refl _ _).alloc (Nat.le_refl _) _) : Below _ ((w.alloc (.cells #[.slice r n c] 24)).alloc (.cells #[.int .i64 0, .int .i64 0, .string { data := #[] }, .slice none 0 0, .slice none 0 0] 26)) _) (by simp)]
    have h : ((w.alloc (.cells #[.slice r n c] 24)).alloc (.cells #[.int .i64 0, .int .i64 0, .string { data := #[] }, .slice none 0 0, .slice none 0 0] 26)).heap[w.heap.size + 1]? = some (.cells #[.int .i64 0, .int .i64 0, .string { data := #[] }, .slice none 0 0, .slice none 0 0] 26 (0, 0)) := (congrArg _ (by simp)).trans (MapKept.heap_alloc _ _).1
    unfold World.frozen?
    simp only [h]
    simp⟩)
  clear hmk HC
  generalize (((w.alloc (.cells #[.slice r n c] 24)).alloc (.cells #[.int .i64 0, .int .i64 0, .string { data := #[] }, .slice none 0 0, .slice none 0 0] 26)).alloc (.cells C 3)) = W1 at *
  go_loopg [22] n (fun gg s22 wr => ∃ k : Nat, k ≤ n ∧ n - k ≤ gg ∧ s22 = .int .i64 k ∧ Aside (Below (w.heap.size + 1 + 1) W1 wr) ∧ Aside (∀ j, j < n → wr.cell? ⟨w.heap.size + 1 + 1, j, none⟩ = some (.int .i64 (if j < k then (j : Nat) else 0)) ∧ wr.frozen? ⟨w.heap.size + 1 + 1, j, none⟩ = false))
  case atStart => exact ⟨0, Nat.zero_le _, by omega, rfl, Below.refl _ _, fun j hj => ⟨by rw [if_neg (by omega)]; exact H0.out j hj, HF0.out j⟩⟩
  case round =>
    clear H0 HF0
    obtain ⟨k, hk, hg, rfl, BW, OC⟩ := hrel
    have BX := hid BW.out
    have OX := hid OC.out
    clear BW OC
    by_cases hlt : k < n
    case pos =>
      have hltz : (k : Int) < (n : Int) := by omega
      have k0 : (0 : Int) ≤ (k : Int) := Int.natCast_nonneg _
      have e1 := (OX.out k hlt).1
      have e2 := (OX.out k hlt).2
      rw [if_neg (by omega)] at e1
      have B2 := hid (BX.out.setCell (p := ⟨w.heap.size + 1 + 1, k, none⟩) (Nat.le_refl _) (.int .i64 (k : Nat)))
      have O2 := hid (show ∀ j, j < n → (wr.setCell ⟨w.heap.size + 1 + 1, k, none⟩ (.int .i64 (k : Nat))).cell? ⟨w.heap.size + 1 + 1, j, none⟩ = some (.int .i64 (if j < k + 1 then (j : Nat) else 0)) ∧ (wr.setCell ⟨w.heap.size + 1 + 1, k, none⟩ (.int .i64 (k : Nat))).frozen? ⟨w.heap.size + 1 + 1, j, none⟩ = false from fun j hj => by
        refine ⟨?_, by rw [World.frozen?_setCell]; exact (OX.out j hj).2⟩
        by_cases e : j = k
        · subst e
          rw [if_pos (by omega)]
          exact scell_same (OX.out j hj).1
        · rw [scell_ne (fun h => e h.symm), (OX.out j hj).1]
          by_cases h : j < k
          · rw [if_pos h, if_pos (by omega)]
          · rw [if_neg h, if_neg (by omega)])
      go_wp2
      go_roundg (n - (k + 1))
      case measure => omega
      case rel => exact ⟨k + 1, by omega, by omega, by go_num, B2.out, O2.out⟩
    case neg =>
    have hltz : ¬ (k : Int) < (n : Int) := by omega
    obtain rfl : n = k := by omega
    go_wp2_with fail
    have hsz1 : w.heap.size + 1 + 1 < wr.heap.size := by have := BX.out.size; have := HZ.out; omega
    have B1 := hid (HA.out.trans (BX.out.mono (by omega)))
    refine (sort_ord ks n HN1.out r c (w.heap.size + 1 + 1) w.heap.size wr hsz1 (by omega) (fun j hj => ⟨by rw [(OX.out j hj).1, if_pos hj], (OX.out j hj).2⟩) (fun W' hb => ⟨?_, HK.out.below strR_mono (B1.out.trans (hb.mono (by omega)))⟩)).mono ?_
    · exact (hb.cell (p := ⟨w.heap.size, 0, none⟩) (by simp only; omega)).trans ((BX.out.cell (p := ⟨w.heap.size, 0, none⟩) (by simp only; omega)).trans HBX.out)
    rintro e w3 ⟨rfl, hb3, m, hp, hsrt, hcm⟩
    have BX3 := hid (hb3.cell (p := ⟨w.heap.size, 0, none⟩) (by simp only; omega) |>.trans ((BX.out.cell (p := ⟨w.heap.size, 0, none⟩) (by simp only; omega)).trans HBX.out))
    have RX3 := hid (show ∀ j v, (#[.int .i64 0, .int .i64 0, .string { data := #[] }, .slice none 0 0, .slice none 0 0] : Array Value)[j]? = some v → w3.cell? ⟨w.heap.size + 1, j, none⟩ = some v ∧ w3.frozen? ⟨w.heap.size + 1, j, none⟩ = false from fun j v hj => by
      obtain ⟨h1, h2⟩ := HRX.out j v hj
      exact ⟨(hb3.cell (p := ⟨w.heap.size + 1, j, none⟩) (by simp only; omega)).trans ((BX.out.cell (p := ⟨w.heap.size + 1, j, none⟩) (by simp only; omega)).trans h1), (hb3.frozen (p := ⟨w.heap.size + 1, j, none⟩) (by simp only; omega)).trans ((BX.out.frozen (p := ⟨w.heap.size + 1, j, none⟩) (by simp only; omega)).trans h2)⟩)
    have B3 := hid (B1.out.trans (hb3.mono (by omega)))
    have Z3 := hid (Nat.lt_of_lt_of_le hsz1 hb3.size)
    have hml : m.length = n := by have := hp.length_eq; simpa using this
    have hmn : ∀ j (h : j < m.length), m[j] < n := fun j h => by have := (hp.mem_iff (a := m[j])).1 (List.getElem_mem h); simpa using this
    have HD := hid (show (m.map fun i => (keyAt ks i, valAt is i)).Perm (ks.zip is) by rw [← zip_range ks is n HN1.out HN2.out]; exact hp.map _)
    have HDF := hid (show (m.map fun i => (keyAt ks i, valAt is i)).map Prod.fst = m.map (keyAt ks) by simp)
    have HCM := hid hcm
    have HML := hid hml
    have HMN := hid hmn
    have HSR := hid (show SrtS ((m.map fun i => (keyAt ks i, valAt is i)).map Prod.fst) by rw [HDF.out]; exact hsrt)
    clear BX OX hb3 hp hsrt hcm HBX HRX HA B1 hsz1 hml hmn hltz
    go_wp2_with fail
    have MR0 := hid (show MapR w3.heap.size (w3.alloc (.cells #[.int .i64 5, .int .i64 0, .string { data := #[] }, .slice none 0 0, .slice none 0 0] 26)) (w3.alloc (.cells #[.int .i64 5, .int .i64 0, .string { data := #[] }, .slice none 0 0, .slice none 0 0] 26)) (.slice none 0 0) (.slice none 0 0) [] [] [] from
      MapR.start (Below.refl _ _) (by simp) (cell_at rfl rfl) (cell_at rfl rfl) (cell_at rfl rfl) (cell_at rfl rfl) (cell_at rfl rfl) (fun o => by simp))
    have hb4 : Below w3.heap.size w3 (w3.alloc (.cells #[.int .i64 5, .int .i64 0, .string { data := #[] }, .slice none 0 0, .slice none 0 0] 26)) := (Below.refl _ _).alloc (Nat.le_refl _) _
    have B4 := hid (B3.out.trans (hb4.mono B3.out.size))
    have BX4 := hid (bget hb4 BX3.out)
    have RX4 := hid (show ∀ j v, (#[.int .i64 0, .int .i64 0, .string { data := #[] }, .slice none 0 0, .slice none 0 0] : Array Value)[j]? = some v → (w3.alloc (.cells #[.int .i64 5, .int .i64 0, .string { data := #[] }, .slice none 0 0, .slice none 0 0] 26)).cell? ⟨w.heap.size + 1, j, none⟩ = some v ∧ (w3.alloc (.cells #[.int .i64 5, .int .i64 0, .string { data := #[] }, .slice none 0 0, .slice none 0 0] 26)).frozen? ⟨w.heap.size + 1, j, none⟩ = false from fun j v hj => ⟨bget hb4 (RX3.out j v hj).1, (hb4.frozen (p := ⟨w.heap.size + 1, j, none⟩) (by have := Z3.out; simp only; omega)).trans (RX3.out j v hj).2⟩)
    have CM4 := hid (fun (j : Nat) (h : j < m.length) => bget hb4 (HCM.out j h))
    have Z4 := hid (show w.heap.size + 1 + 1 < w3.heap.size from Z3.out)
    clear hb4 BX3 RX3 HCM Z3 B3
    generalize (w3.alloc (.cells #[.int .i64 5, .int .i64 0, .string { data := #[] }, .slice none 0 0, .slice none 0 0] 26)) = ws at *
    generalize hB8 : w3.heap.size = B8 at *
    clear hB8
    go_loopg [36] n (fun gg s36 wx => ∃ k : Nat, k ≤ n ∧ n - k ≤ gg ∧ s36 = .int .i64 k ∧ Aside (∃ vI vK ys, MapR B8 ws wx vI vK ys (((m.map fun i => (keyAt ks i, valAt is i)).take k).map Prod.snd) (((m.map fun i => (keyAt ks i, valAt is i)).take k).map Prod.fst)) ∧ Aside (AscS (((m.map fun i => (keyAt ks i, valAt is i)).map Prod.fst).take k)))
    case atStart => exact ⟨0, Nat.zero_le _, by omega, rfl, ⟨_, _, _, MR0.out⟩, trivial⟩
    case round =>
      clear MR0
      obtain ⟨k, hk, hg, rfl, RR, AA⟩ := hrel
      have R0 := hid RR.out
      have A0 := hid AA.out
      clear RR AA
      by_cases hlt : k < n
      case neg =>
        have hltz : ¬ (k : Int) < (n : Int) := by omega
        obtain rfl : n = k := by omega
        obtain ⟨vI, vK, ys, R⟩ := R0.out
        have hdl : (m.map fun i => (keyAt ks i, valAt is i)).length = n := by simpa using HML.out
        have hdf : ((m.map fun i => (keyAt ks i, valAt is i)).map Prod.fst).length = n := by simpa using HML.out
        rw [List.take_of_length_le (by omega)] at R
        have A1 := A0.out
        rw [List.take_of_length_le (by omega)] at A1
        have hss : ∀ x ∈ (m.map fun i => (keyAt ks i, valAt is i)).map Prod.fst, x.size ≤ maxLen := fun x hx => by
          rw [HDF.out] at hx
          obtain ⟨i, hi, rfl⟩ := List.mem_map.1 hx
          obtain ⟨j, hj, rfl⟩ := List.mem_iff_getElem.1 hi
          have := HMN.out j hj
          rw [keyAt_eq (by have := HN1.out; omega)]
          exact strs_le HK.out _ (List.getElem_mem _)
        obtain ⟨r', c', rk', ck', rfl, rfl, hv⟩ := R.vk hss (by rw [hdf]; omega) (by rw [List.length_map, hdl]; omega)
        have hzz := Z4.out
        have hlt8 := R.lt
        have c0 := R.c0
        have c1 := R.c1
        have c2 := R.c2
        have c3 := R.c3
        have c4 := R.c4
        have rx : ∀ j v, (#[.int .i64 0, .int .i64 0, .string { data := #[] }, .slice none 0 0, .slice none 0 0] : Array Value)[j]? = some v → wr.cell? ⟨w.heap.size + 1, j, none⟩ = some v ∧ wr.frozen? ⟨w.heap.size + 1, j, none⟩ = false := fun j v hj => by
          obtain ⟨h1, h2⟩ := RX4.out j v hj
          exact ⟨(R.bel.cell (p := ⟨w.heap.size + 1, j, none⟩) (by simp only; omega)).trans h1, (R.bel.frozen (p := ⟨w.heap.size + 1, j, none⟩) (by simp only; omega)).trans h2⟩
        obtain ⟨t0, f0⟩ := rx 0 _ rfl
        obtain ⟨t1, f1⟩ := rx 1 _ rfl
        obtain ⟨t2, f2⟩ := rx 2 _ rfl
        obtain ⟨t3, f3⟩ := rx 3 _ rfl
        obtain ⟨t4, f4⟩ := rx 4 _ rfl
        have BZ := B4.out.trans (R.bel.mono (by omega))
        have HL1 := hid hdl
        have HL2 := hid hdf
        have HV := hid hv
        have HASC := hid A1
        have HBZ := hid BZ
        clear rx hv A1 BZ R hss hdl hdf R0 A0
        generalize hdx : (m.map fun i => (keyAt ks i, valAt is i)) = d at *
        clear hdx
        have e1 : (d.map Prod.snd).length = d.length := by simp
        have e2 : (d.map Prod.fst).length = d.length := by simp
        rw [e1] at c3
        rw [e2] at c4
        clear e1 e2
        generalize hdn : d.length = dn at *
        have HDN := hid hdn
        clear hdn
        have five := fun b (hb : b ≠ w.heap.size + 1) => five_heap wr (w.heap.size + 1) 0 (.int .i64 5) (.int .i64 0) (.string { data := #[] }) (.slice r' dn c') (.slice rk' dn ck') hb
        have HF := hid five
        clear five
        go_wp2
        have HB := (((((HBZ.out.setCell (p := ⟨w.heap.size + 1, 0, none⟩) (by simp) (.int .i64 5)).setCell (p := ⟨w.heap.size + 1, 1, none⟩) (by simp) (.int .i64 0)).setCell (p := ⟨w.heap.size + 1, 2, none⟩) (by simp) (.string { data := #[] })).setCell (p := ⟨w.heap.size + 1, 3, none⟩) (by simp) (.slice r' dn c')).setCell (p := ⟨w.heap.size + 1, 4, none⟩) (by simp) (.slice rk' dn ck'))
        have HVR : VR5 (((((wr.setCell ⟨w.heap.size + 1, 0, none⟩ (.int .i64 5)).setCell ⟨w.heap.size + 1, 1, none⟩ (.int .i64 0)).setCell ⟨w.heap.size + 1, 2, none⟩ (.string { data := #[] })).setCell ⟨w.heap.size + 1, 3, none⟩ (.slice r' dn c')).setCell ⟨w.heap.size + 1, 4, none⟩ (.slice rk' dn ck')) r' c' rk' ck' (.mk 5 0 ⟨#[]⟩ (d.map Prod.snd) (d.map Prod.fst)) :=
          vr_stays (stays_out fun b hb hlt => HF.out b (by have : B8 + 1 ≤ b := of_decide_eq_true hb; omega)) HV.out
        exact bodyPost_ret (v := .tuple #[.agg #[.int .i64 5, .int .i64 0, .string ⟨#[]⟩, .slice r' dn c', .slice rk' dn ck'], .int .i64 0]) (by simp [results, Tryd.results40, go_sem, t0, t1, t2, t3, t4]) rfl ⟨HB, d, HD.out, HSR.out, Or.inl ⟨HASC.out, r', c', rk', ck', by rw [HDN.out], HVR⟩⟩
      case pos =>
        have hltz : (k : Int) < (n : Int) := by omega
        have k0 : (0 : Int) ≤ (k : Int) := Int.natCast_nonneg _
        obtain ⟨vI, vK, ys, R⟩ := R0.out
        have hkm : k < m.length := by have := HML.out; omega
        have hin := HMN.out k hkm
        have hzz := Z4.out
        have hlt8 := R.lt
        have gm := (R.bel.cell (p := ⟨w.heap.size + 1 + 1, k, none⟩) (by simp only; omega)).trans (CM4.out k hkm)
        have gb := (R.bel.cell (p := ⟨w.heap.size, 0, none⟩) (by simp only; omega)).trans BX4.out
        have BZ := B4.out.trans (R.bel.mono (by omega))
        have HE := hid (show (m.map fun i => (keyAt ks i, valAt is i)).take (k + 1) = (m.map fun i => (keyAt ks i, valAt is i)).take k ++ [(keyAt ks m[k], valAt is m[k])] by rw [List.take_succ_eq_append_getElem (by simpa using hkm)]; simp)
        have hkk : (m.map (keyAt ks))[k]'(by simpa using hkm) = keyAt ks m[k] := by simp
        have hi0 : (0 : Int) ≤ (m[k] : Int) := Int.natCast_nonneg _
        have hi1 : (m[k] : Int) < (n : Int) := by omega
        have hks : m[k] < ks.length := by have := HN1.out; omega
        have his : m[k] < is.length := by have := HN2.out; omega
        obtain ⟨b, off, rfl, hb, gs, hgs⟩ := str_at (HK.out.below strR_mono BZ) m[k] hks
        rw [← keyAt_eq hks] at gs hgs
        have HIX := hid (fun (W : World) (hW : Below w.heap.size w W) => val_at (slv_mono HI.out hW) m[k] his)
        have CP := hid (CPY.out m[k] his)
        rw [← valAt_eq his] at HIX CP
        have HR := hid R
        have A1 := hid A0.out
        have HBZ := hid BZ
        have HGS := hid hgs
        have hkl : ((m.map fun i => (keyAt ks i, valAt is i)).map Prod.fst).length = n := by simpa using HML.out
        have HDY := hid (fun h => dup_yes (l := (m.map fun i => (keyAt ks i, valAt is i)).map Prod.fst) (k := k) (by omega) h)
        have HDN := hid (fun h => dup_no HSR.out (k := k) (by omega) A1.out h)
        clear R0 A0 BZ hin his R hgs
        have hRX := hid (show ∀ j v, (#[.int .i64 0, .int .i64 0, .string { data := #[] }, .slice none 0 0, .slice none 0 0] : Array Value)[j]? = some v → wr.cell? ⟨w.heap.size + 1, j, none⟩ = some v ∧ wr.frozen? ⟨w.heap.size + 1, j, none⟩ = false from fun j v hj => by
          obtain ⟨h1, h2⟩ := RX4.out j v hj
          exact ⟨(HR.out.bel.cell (p := ⟨w.heap.size + 1, j, none⟩) (by simp only; omega)).trans h1, (HR.out.bel.frozen (p := ⟨w.heap.size + 1, j, none⟩) (by simp only; omega)).trans h2⟩)
        have c4 := HR.out.c4
        generalize hdp : dupB ((m.map fun i => (keyAt ks i, valAt is i)).map Prod.fst) k = dp at *
        have HDP := hid hdp
        clear hdp
        go_upto_region 14 with (fail)
        go_cut [55] (fun s55 wx => s55 = .bool dp ∧ Aside (Below wr.heap.size wr wx))
        case first =>
          by_cases h0 : k = 0
          · subst h0
            obtain rfl : false = dp := by rw [← HDP.out]; exact (dup_zero _).symm
            have hd : decide ((0 : Int) < ((0 : Nat) : Int)) = false := by simp
            go_quiet (fail)
            go_wp2
            go_meet
            exact ⟨rfl, below_drewN (Below.refl _ _) _⟩
          · obtain ⟨k', rfl⟩ : ∃ k', k = k' + 1 := ⟨k - 1, by omega⟩
            have hd : decide ((0 : Int) < ((k' + 1 : Nat) : Int)) = true := by simp
            have HD3 := hid (HDP.out.symm.trans (dup_succ (by omega)))
            have hok := HR.out.ok
            have hkt : (((m.map fun i => (keyAt ks i, valAt is i)).take (k' + 1)).map Prod.fst).length = k' + 1 := by simp; omega
            unfold OwnK at hok
            rw [hkt] at hok
            obtain ⟨gK, cK, rfl, hbK, hlK⟩ := World.ownsRow.form hok (by omega)
            have gp := hok.cellAt k' (by omega)
            have hkm' : k' < m.length := by omega
            rw [show ((((m.map fun i => (keyAt ks i, valAt is i)).take (k' + 1)).map Prod.fst).map Value.string)[k']? = some (.string (keyAt ks m[k'])) by
              rw [← List.map_take, List.map_map, List.map_map, List.getElem?_map, List.getElem?_take, if_pos (by omega), List.getElem?_eq_getElem hkm']; rfl] at gp
            have y1 : (0 : Int) ≤ (k' : Int) := Int.natCast_nonneg _
            have y2 : (k' : Int) < ((k' + 1 : Nat) : Int) := by omega
            have y3 : (k' : Int) < (k' : Int) + 1 := by omega
            have hkn : k' + 1 ≤ 1000000 := by omega
            have ew : IntKind.i64.wrap (((k' + 1 : Nat) : Int) - 1) = (k' : Int) := by simp [IntKind.wrap, IntKind.bits, IntKind.signed]; omega
            have ew2 : IntKind.i64.wrap (((k' : Int) + 1) - 1) = (k' : Int) := by simp [IntKind.wrap, IntKind.bits, IntKind.signed]; omega
            have HD4 := hid (show dp = decide (keyAt ks m[k' + 1] = keyAt ks m[k']) by rw [HD3.out]; simp)
            clear hok hkt HD3 h0 hltz hks
            generalize keyAt ks m[k' + 1] = kx at *
            generalize keyAt ks m[k'] = kp at *
            by_cases he : kx = kp
            · subst he
              obtain rfl : true = dp := by rw [HD4.out]; simp
              clear HD4
              go_quiet (fail)
              go_wp2
              go_meet
              exact ⟨rfl, below_drewN (Below.refl _ _) _⟩
            · have e1 := str_ne he
              obtain rfl : false = dp := by rw [HD4.out]; simp [he]
              clear HD4 he
              go_quiet (fail)
              go_wp2
              go_meet
              exact ⟨rfl, below_drewN (Below.refl _ _) _⟩
        case rest =>
          obtain ⟨rfl, BC⟩ := hcut
          have BZ := hid (HBZ.out.trans (BC.out.mono (by have := HBZ.out.size; omega)))
          cases dp
          case true =>
            have HNA := hid (HDY.out rfl)
            have rx : ∀ j v, (#[.int .i64 0, .int .i64 0, .string { data := #[] }, .slice none 0 0, .slice none 0 0] : Array Value)[j]? = some v → wc.cell? ⟨w.heap.size + 1, j, none⟩ = some v ∧ wc.frozen? ⟨w.heap.size + 1, j, none⟩ = false := fun j v hj => by
              obtain ⟨h1, h2⟩ := hRX.out j v hj
              exact ⟨bget BC.out h1, (BC.out.frozen (p := ⟨w.heap.size + 1, j, none⟩) (by simp only; omega)).trans h2⟩
            obtain ⟨t0, f0⟩ := rx 0 _ rfl
            obtain ⟨t1, f1⟩ := rx 1 _ rfl
            obtain ⟨t2, f2⟩ := rx 2 _ rfl
            obtain ⟨t3, f3⟩ := rx 3 _ rfl
            obtain ⟨t4, f4⟩ := rx 4 _ rfl
            clear rx BC gm gb gs
            go_wp2
            have HB := (((((BZ.out.setCell (p := ⟨w.heap.size + 1, 0, none⟩) (by simp) (.int .i64 0)).setCell (p := ⟨w.heap.size + 1, 1, none⟩) (by simp) (.int .i64 0)).setCell (p := ⟨w.heap.size + 1, 2, none⟩) (by simp) (.string { data := #[] })).setCell (p := ⟨w.heap.size + 1, 3, none⟩) (by simp) (.slice none 0 0)).setCell (p := ⟨w.heap.size + 1, 4, none⟩) (by simp) (.slice none 0 0))
            exact bodyPost_ret (v := .tuple #[.agg #[.int .i64 0, .int .i64 0, .string ⟨#[]⟩, .slice none 0 0, .slice none 0 0], .int .i64 8]) (by simp [results, Tryd.results40, go_sem, t0, t1, t2, t3, t4]) rfl ⟨HB, _, HD.out, HSR.out, Or.inr ⟨HNA.out, rfl⟩⟩
          case false =>
            have HA2 := hid (HDN.out rfl)
            have HF1 := hid (show ((m.map fun i => (keyAt ks i, valAt is i)).take (k + 1)).map Prod.fst = ((m.map fun i => (keyAt ks i, valAt is i)).take k).map Prod.fst ++ [keyAt ks m[k]] by rw [HE.out]; simp)
            have HF2 := hid (show ((m.map fun i => (keyAt ks i, valAt is i)).take (k + 1)).map Prod.snd = ((m.map fun i => (keyAt ks i, valAt is i)).take k).map Prod.snd ++ [valAt is m[k]] by rw [HE.out]; simp)
            have hl1 : (((m.map fun i => (keyAt ks i, valAt is i)).take k).map Prod.fst).length = k := by simp; omega
            have hl2 : (((m.map fun i => (keyAt ks i, valAt is i)).take k).map Prod.snd).length = k := by simp; omega
            have RC := hid (HR.out.below BC.out)
            have gb' := bget BC.out gb
            have gs' := bget BC.out gs
            clear gm gb gs HDN HDY HE HDP hkk hks hkl
            generalize ((m.map fun i => (keyAt ks i, valAt is i)).take k).map Prod.fst = kk at *
            generalize ((m.map fun i => (keyAt ks i, valAt is i)).take k).map Prod.snd = ii at *
            generalize keyAt ks m[k] = kx at *
            generalize hxv : valAt is m[k] = xv at *
            clear hxv
            generalize hmi : m[k] = mi at *
            clear hmi
            have HL1 := hid hl1
            have HL2 := hid hl2
            have KL := hid (show kk.length = k from hl1)
            clear BC hl1 hl2
            go_upto_region 16 with (fail)
            go_cut [36] (fun s36 wx => s36 = .int .i64 (k : Nat) ∧ Aside (∃ vK2, MapR B8 ws wx vI vK2 ys ii (kk ++ [kx])))
            case first =>
              have c4' := RC.out.c4
              have f4' := RC.out.fz 4
              have n1 := World.new_ne wc _ c4'
              have n2 := World.new_ne wc _ gs'
              have n3 := World.new_ne wc _ gb'
              have hsl := RC.out.lt
              have hneI : some B8 ≠ vK.ownBlock := fun e => by have := (own_lt RC.out.ok e.symm).1; omega
              have OK := hid (show wc.ownsRow (B8 + 1) 9 1 vK kk.length (kk.flatMap encS) by rw [encS_flat]; exact RC.out.ok)
              have YL := hid (show kk.length + 1 ≤ 1000000 by have := HL1.out; omega)
              simp only at n1 n2 n3
              go_region_law ((refine step_append_row encS encS_len encS_one Tryd.underlying24 strinfo rfl (by omega) (by omega) (by rfl) _ _ (by rfl) (B8 + 1) vK kk (by rfl) (own_keep OK.out fun q hq => (below_alloc_drew wc _).block q (own_lt OK.out hq).2) wc.heap.size 1 kx (by rfl) (heap_alloc_new wc _) YL.out (by simp; omega) (wc.heap.size + 1) (by simp) ?_; intro g cap w5 hown hgrow hat hlt5; have c5 := (hgrow.cell_far ⟨B8, 4, none⟩ (lt_alloc_drew hsl) hneI).trans (cell_alloc_drew c4'); have f5 := (hgrow.frozen_far ⟨B8, 4, none⟩ (lt_alloc_drew hsl) hneI).trans (frozen_alloc_drew c4' f4')))
              all_goals
                have R5 := hid ((RC.out.below (below_alloc_drew wc (.cells #[.string kx] 9))).pushK hgrow (by rw [encS_flat] at hown; exact hown) (by rw [size_alloc_drew]; exact hat))
                clear hown hgrow hat hlt5 c5 f5
                go_wp2
                go_meet
                exact ⟨rfl, _, R5.out⟩
            case rest =>
              obtain ⟨rfl, RX⟩ := hcut
              obtain ⟨vK2, R6'⟩ := RX.out
              have R6 := hid R6'
              clear RX R6'
              have BZ6 := hid (B4.out.trans (R6.out.bel.mono (by omega)))
              obtain ⟨bI, oI, r2, c2, rk2, ck2, rfl, hbI, g0, g1, g2, g3, g4, h5⟩ := HIX.out wc BZ6.out
              have H5 := hid h5
              clear gb' gs' RC h5
              obtain ⟨xk, xn, xs, xis, xks⟩ := xv
              simp only [Val.kind, Val.num, Val.str, Val.items, Val.keys] at g0 g1 g2 g3 g4 CP H5
              have c3 := R6.out.c3
              have f3 := R6.out.fz 3
              have n1 := World.new_ne wc _ c3
              have n2 := World.new_ne wc _ g0
              have hsl := R6.out.lt
              have hneI : some B8 ≠ vI.ownBlock := fun e => by have := (own_lt R6.out.oi e.symm).1; omega
              have YL := hid (show ys.length + 1 ≤ 1000000 by have := HL2.out; have := R6.out.len; omega)
              simp only at n1 n2
              go_wp2_with fail
              go_region_law
                (first | (go_simp; go_at_call 47; refine (CP.out _ _ _ _ _ (H5.out.below (by exact (Below.refl _ _).drew))).mono ?_; rintro e w7 ⟨r7, c7, rk7, ck7, M7, rfl, hx7, hb7⟩; have c7' := bget hb7 (show wc.drew.cell? ⟨B8, 3, none⟩ = some _ from c3); have f7' := (hb7.frozen (p := ⟨B8, 3, none⟩) (show B8 < wc.heap.size from hsl)).trans (show wc.drew.frozen? ⟨B8, 3, none⟩ = false from f3); have hsl7 := Nat.lt_of_lt_of_le (show B8 < wc.drew.heap.size from hsl) hb7.size; have OK7 := hid (own_keep R6.out.oi fun q hq => hb7.block q (own_lt R6.out.oi hq).2)) | (refine step_append_row Cv.enc cv_len cv_one Tryd.underlying23 valinfo rfl (by omega) (by omega) (by rfl) _ _ (by rfl) (B8 + 1) vI ys (by rfl) (own_keep OK7.out fun q hq => Below.heap_alloc _ _ q (own_lt OK7.out hq).2) w7.heap.size 1 (Cv.of (.mk xk xn xs xis xks) r7 c7 rk7 ck7) (by rfl) (heap_alloc_new w7 _) YL.out (by simp; omega) (w7.heap.size + 1) (by simp) ?_; intro g cap w9 hown hgrow hat hlt9; have c9 := (hgrow.cell_far ⟨B8, 3, none⟩ (by simp; omega) hneI).trans (bget ((Below.refl _ _).alloc (Nat.le_refl _) _) c7'); have f9 := (hgrow.frozen_far ⟨B8, 3, none⟩ (by simp; omega) hneI).trans (((show Below w7.heap.size w7 (w7.alloc _) from (Below.refl _ _).alloc (Nat.le_refl _) _).frozen (p := ⟨B8, 3, none⟩) hsl7).trans f7')))
              all_goals
                have R9 := hid ((R6.out.below (Below.refl _ _).drew).pushI hb7 (show VK (fromB wc.drew.heap.size) w7 r7 c7 rk7 ck7 (.mk xk xn xs xis xks) from hx7.vk) (show Below w7.heap.size w7 (w7.alloc _) from (Below.refl _ _).alloc (Nat.le_refl _) _) hgrow hown (by simpa using hat))
                clear hown hgrow hat hlt9 c9 f9
                go_wp2
                go_roundg (n - (k + 1))
                case measure => omega
                case rel => exact ⟨k + 1, by omega, by omega, by go_num, ⟨_, _, _, by rw [HF1.out, HF2.out]; exact R9.out⟩, HA2.out⟩
end Go.Proofs.YtedpdpcibkceeaaDoor
