/-
  How slices and structs of the program lie in memory, as plain predicates on worlds (Sl: a slice value reads as a list), that they stay under Below, and that an argument that can be read as data has them. No conditions.
-/
import Derived.Test.YtpnogmicfomofaaGreatDoorRows
import Derived.WalkKit
import Derived.WalkSpells
import Derived.BigQuiet
import Derived.Deep.QuietTactic
import Derived.Deep.Slices
import Derived.Deep.LoopGhost
import Derived.Lib.Hide
import Derived.Lib.MinMax
import Derived.Lib.QuietBelow
import Derived.ProofKit
import Derived.OpenShut
import Derived.Outline
namespace Go.Proofs.YtpnogmicfomofaaGreatDoor
open Go.RowKit Go.Sort
set_option linter.unusedVariables false
set_option linter.unusedSimpArgs false

theorem bcellB {B : Nat} {W w1 : World} (hb : Below B W w1) : (∀ b o, b < B → w1.cell? ⟨b, o, none⟩ = W.cell? ⟨b, o, none⟩) ∧ (∀ b o, b < B → w1.frozen? ⟨b, o, none⟩ = W.frozen? ⟨b, o, none⟩) :=
  ⟨fun b o h => hb.cell (p := ⟨b, o, none⟩) h, fun b o h => hb.frozen (p := ⟨b, o, none⟩) h⟩
theorem bget {W w1 : World} {a : Addr} {v : Value} (hb : Below W.heap.size W w1) (h : W.cell? a = some v) : w1.cell? a = some v :=
  (hb.cell (World.block_lt_of_cell? W a h)).trans h
theorem same_regrown {P : Program} {f : FuncId} {args : Array Value} {w : World} {d : Nat} {os : Array Obj} {v : Value}
    (h : Calls P f args (grow (redrawn w d) os) fun e w' => e = .returned v ∧ (grow (redrawn w d) os) = w') : Calls P f args (grow (redrawn w d) os) fun e w'' => e = .returned v ∧ ∃ p : Regrown, w'' = grow (redrawn w p.d) p.os :=
  h.mono fun _ _ ⟨he, hb⟩ => ⟨he, ⟨d, os⟩, hb.symm⟩
theorem cells_regrown (W : World) : ∀ (d : Nat) (os : Array Obj) (b o : Nat), b < W.heap.size → (grow (redrawn W d) os).cell? ⟨b, o, none⟩ = W.cell? ⟨b, o, none⟩ :=
  fun d os _ _ h => (bcellB (below_regrown W d os)).1 _ _ h

theorem scell_same {w : World} {a : Addr} {v u : Value} (h : w.cell? a = some u) : (w.setCell a v).cell? a = some v := World.cell?_setCell_same' w a v (by rw [h]; rfl)
theorem scell_ne {w : World} {b o o' : Nat} {v : Value} (h : o ≠ o') : (w.setCell ⟨b, o, none⟩ v).cell? ⟨b, o', none⟩ = w.cell? ⟨b, o', none⟩ := by
  apply World.cell?_setCell_other
  intro e; apply h; injection e
theorem ret_bool {a b : Bool} (h : a = b) : Ending.returned (.bool b) = .returned (.bool a) := by rw [h]
theorem ret_int {a b : Int} (h : a = b) : Ending.returned (.int .i64 b) = .returned (.int .i64 a) := by rw [h]

/-- A slice value reads as the list xs: element i lies in sz cells, which read as xs[i]. -/
def Sl {α : Type} (R : World → List Value → α → Prop) (sz : Nat) (w : World) (v : Value) (xs : List α) : Prop :=
  ∃ r cap, v = .slice r xs.length cap ∧ xs.length ≤ cap ∧ cap ≤ maxLen ∧ ∀ (i : Nat) (h : i < xs.length), ∃ b off cs, r = some ⟨b, off, none⟩ ∧ cs.length = sz ∧
    (∀ (j : Nat) (u : Value), cs[j]? = some u → w.cell? ⟨b, off + i * sz + j, none⟩ = some u) ∧ R w cs (xs[i])

def Mono {α : Type} (R : World → List Value → α → Prop) : Prop := ∀ w w' cs x, Below w.heap.size w w' → R w cs x → R w' cs x

theorem Sl.below {α : Type} {R : World → List Value → α → Prop} {sz : Nat} {w w' : World} {v : Value} {xs : List α} (hm : Mono R) (hb : Below w.heap.size w w') (h : Sl R sz w v xs) : Sl R sz w' v xs := by
  obtain ⟨r, cap, hv, hl, hc, he⟩ := h
  refine ⟨r, cap, hv, hl, hc, fun i hi => ?_⟩
  obtain ⟨b, off, cs, hr, hs, hcell, hR⟩ := he i hi
  exact ⟨b, off, cs, hr, hs, fun j u hj => bget hb (hcell j u hj), hm _ _ _ _ hb hR⟩

theorem Sl.mono {α : Type} {R : World → List Value → α → Prop} (hm : Mono R) (sz : Nat) : ∀ w w' v (xs : List α), Below w.heap.size w w' → Sl R sz w v xs → Sl R sz w' v xs :=
  fun _ _ _ _ hb h => h.below hm hb

/-- The element relations of plain cells. -/
def IntR (_ : World) (cs : List Value) (n : Int) : Prop := cs[0]? = some (.int .i64 n) ∧ -9223372036854775808 ≤ n ∧ n ≤ 9223372036854775807
def StrR (_ : World) (cs : List Value) (s : ByteArray) : Prop := cs[0]? = some (.string s) ∧ s.size ≤ maxLen
theorem intR_mono : Mono IntR := fun _ _ _ _ _ h => h
theorem strR_mono : Mono StrR := fun _ _ _ _ _ h => h

theorem list_of {α : Type} (n : Nat) (p : Nat → α → Prop) (h : ∀ i, i < n → ∃ x, p i x) : ∃ xs : List α, xs.length = n ∧ ∀ (i : Nat) (hi : i < xs.length), p i (xs[i]) := by
  induction n with
  | zero => exact ⟨[], rfl, fun i hi => absurd hi (by simp)⟩
  | succ n ih =>
    obtain ⟨xs, hl, hx⟩ := ih fun i hi => h i (by omega)
    obtain ⟨x, hp⟩ := h n (by omega)
    refine ⟨xs ++ [x], by simp [hl], fun i hi => ?_⟩
    by_cases hin : i < xs.length
    · rw [List.getElem_append_left hin]; exact hx i hin
    · have : i = xs.length := by simp at hi; omega
      subst this
      simp only [List.getElem_concat_length]
      rw [hl]; exact hp

theorem cells_list {w : World} {base : Nat} {a : Addr} {n : Nat} {cs : List Value} (h : w.cells? base a n = some cs) : cs.length = n ∧ ∀ (j : Nat) (u : Value), cs[j]? = some u → w.cell? (a.add j) = some u := by
  unfold World.cells? at h
  split at h
  case isFalse => cases h
  have hlen : cs.length = n := by simpa using mapM_some_length h
  refine ⟨hlen, fun j u hj => ?_⟩
  have hjn : j < cs.length := (List.getElem?_eq_some_iff.1 hj).1
  have := mapM_some_get h j j (by rw [List.getElem?_range (by omega)])
  rw [this, hj]

theorem sl_of_trod {α H : Type} {enc : TypeId × Value → H} {P : Program} {w : World} {sz : Nat} {T E : TypeId} {fuel : Nat} {v : Value} {x : DataW H × List MemPlace} (R : World → List Value → α → Prop)
    (hT : P.underlying T = some (.slice E)) (hE : P.cellsOf E = sz) (hsz : 0 < sz)
    (hR : ∀ fuel cs y, cs.length = sz → DataW.trod enc P w 0 (fun _ => true) true fuel E cs = some y → ∃ z, R w cs z)
    (h : DataW.trod enc P w 0 (fun _ => true) true fuel T [v] = some x) : ∃ xs, Sl R sz w v xs := by
  rcases Go.Deep.open_slice hT h with ⟨hv, _⟩ | ⟨a, len, cap, m, n, D, Pl, hv, _, hl, hc, hm, _, hel⟩
  · simp at hv; subst hv
    exact ⟨[], none, 0, rfl, Nat.le_refl _, by simp, fun i hi => absurd hi (by simp)⟩
  · simp at hv; subst hv
    have hmc : m = cap := by simpa using hm
    subst hmc
    have key : ∀ i, i < len → ∃ z, ∃ cs, cs.length = sz ∧ (∀ (j : Nat) (u : Value), cs[j]? = some u → w.cell? ⟨a.block, a.off + i * sz + j, none⟩ = some u) ∧ a.spot = none ∧ R w cs z := by
      intro i hi
      have h0 : a.spot = none := by
        obtain ⟨cs, hcs, _⟩ := hel 0 (by omega)
        obtain ⟨hlen, hcell⟩ := cells_list hcs
        have hne : 0 < cs.length := by omega
        have := hcell 0 cs[0] (List.getElem?_eq_getElem hne)
        simp [Addr.add] at this
        unfold World.cell? at this
        split at this
        · split at this
          · cases this
          · rename_i hsp; simpa using hsp
        · cases this
      obtain ⟨cs, hcs, htr⟩ := hel i (by omega)
      obtain ⟨hlen, hcell⟩ := cells_list hcs
      rw [hE] at hlen
      obtain ⟨z, hz⟩ := hR _ _ _ hlen htr
      refine ⟨z, cs, hlen, fun j u hj => ?_, h0, hz⟩
      have := hcell j u hj
      rw [hE] at this
      have e : (a.add (i * sz)).add j = ⟨a.block, a.off + i * sz + j, none⟩ := by
        obtain ⟨ab, ao, asp⟩ := a
        simp at h0
        subst h0
        unfold Addr.add
        by_cases hi0 : i * sz = 0 <;> by_cases hj0 : j = 0 <;> simp [hi0, hj0]
      rw [e] at this
      exact this
    obtain ⟨xs, hxl, hxs⟩ := list_of len _ key
    refine ⟨xs, some a, m, by rw [hxl], by omega, hc, fun i hi => ?_⟩
    obtain ⟨cs, h1, h2, h3, h4⟩ := hxs i hi
    refine ⟨a.block, a.off, cs, ?_, h1, h2, h4⟩
    obtain ⟨ab, ao, asp⟩ := a
    simp at h3
    simp [h3]

/-- A struct that can be read: its cells, and each field's reading. -/
theorem struct_of_trod {H : Type} {enc : TypeId × Value → H} {P : Program} {w : World} {T : TypeId} {fs : Array Field} {fuel : Nat} {cs : List Value} {x : DataW H × List MemPlace}
    (hT : P.underlying T = some (.struct fs)) (h : DataW.trod enc P w 0 (fun _ => true) true fuel T cs = some x) :
    cs.length = P.cellsOf T ∧ ∀ (k : Nat) (f : Field), fs[k]? = some f → ∃ fuel' y, DataW.trod enc P w 0 (fun _ => true) true fuel' f.type ((cs.drop f.offset).take (P.cellsOf f.type)) = some y := by
  cases fuel with
  | zero => simp [DataW.trod] at h
  | succ fuel =>
    unfold DataW.trod at h
    simp only [hT] at h
    split at h
    case isFalse => cases h
    rename_i hl
    refine ⟨hl, fun k f hk => ?_⟩
    simp only [Option.map_eq_some_iff] at h
    obtain ⟨ys, hys, _⟩ := h
    have hkl : k < fs.toList.length := by simpa using (Array.getElem?_eq_some_iff.1 hk).1
    have hyl : k < ys.length := by have := mapM_some_length hys; omega
    have := mapM_some_get hys k f (by simpa using hk)
    rw [List.getElem?_eq_getElem hyl] at this
    exact ⟨fuel, _, this⟩

theorem cell_of_field {cs : List Value} {o : Nat} {v : Value} (h : (cs.drop o).take 1 = [v]) : cs[o]? = some v := by
  have : ((cs.drop o).take 1)[0]? = some v := by rw [h]; rfl
  simpa using this

theorem field_int {H : Type} {enc : TypeId × Value → H} {P : Program} {w : World} {T : TypeId} {k : IntKind} {fuel o : Nat} {cs : List Value} {y : DataW H × List MemPlace}
    (hT : P.underlying T = some (.int k)) (h : DataW.trod enc P w 0 (fun _ => true) true fuel T ((cs.drop o).take 1) = some y) : ∃ n, cs[o]? = some (.int k n) ∧ (Lit.int k n).wf = true := by
  obtain ⟨n, h1, _, h3⟩ := DataW.trod_int hT h
  exact ⟨n, cell_of_field h1, h3⟩
theorem field_str {H : Type} {enc : TypeId × Value → H} {P : Program} {w : World} {T : TypeId} {fuel o : Nat} {cs : List Value} {y : DataW H × List MemPlace}
    (hT : P.underlying T = some .string) (h : DataW.trod enc P w 0 (fun _ => true) true fuel T ((cs.drop o).take 1) = some y) : ∃ s, cs[o]? = some (.string s) ∧ s.size ≤ maxLen := by
  obtain ⟨s, h1, _, h3⟩ := DataW.trod_string hT h
  exact ⟨s, cell_of_field h1, h3⟩
theorem field_bool {H : Type} {enc : TypeId × Value → H} {P : Program} {w : World} {T : TypeId} {fuel o : Nat} {cs : List Value} {y : DataW H × List MemPlace}
    (hT : P.underlying T = some .bool) (h : DataW.trod enc P w 0 (fun _ => true) true fuel T ((cs.drop o).take 1) = some y) : ∃ b, cs[o]? = some (.bool b) := by
  obtain ⟨s, h1, _⟩ := DataW.trod_bool hT h
  exact ⟨s, cell_of_field h1⟩
theorem bounds_i64 {n : Int} (h : (Lit.int .i64 n).wf = true) : -9223372036854775808 ≤ n ∧ n ≤ 9223372036854775807 := by
  simpa [Lit.wf, IntKind.min, IntKind.max, IntKind.signed, IntKind.bits] using h
theorem intR_of_trod {H : Type} {enc : TypeId × Value → H} {P : Program} {w : World} {T : TypeId} (hT : P.underlying T = some (.int .i64)) : ∀ fuel cs (y : DataW H × List MemPlace), cs.length = 1 → DataW.trod enc P w 0 (fun _ => true) true fuel T cs = some y → ∃ z, IntR w cs z := by
  intro fuel cs y _ h
  obtain ⟨n, h1, _, h3⟩ := DataW.trod_int hT h
  subst h1
  exact ⟨n, rfl, bounds_i64 h3⟩
theorem strR_of_trod {H : Type} {enc : TypeId × Value → H} {P : Program} {w : World} {T : TypeId} (hT : P.underlying T = some .string) : ∀ fuel cs (y : DataW H × List MemPlace), cs.length = 1 → DataW.trod enc P w 0 (fun _ => true) true fuel T cs = some y → ∃ z, StrR w cs z := by
  intro fuel cs y _ h
  obtain ⟨n, h1, _, h3⟩ := DataW.trod_string hT h
  subst h1
  exact ⟨n, rfl, h3⟩
theorem cell_of_slice_field {cs : List Value} {o : Nat} (ho : o < cs.length) : (cs.drop o).take 1 = [cs[o]] := by
  apply List.ext_getElem
  · simp; omega
  · intro i h1 h2; simp at h1 h2; simp [h2]
theorem field_slice {α H : Type} {enc : TypeId × Value → H} {P : Program} {w : World} {sz : Nat} {T E : TypeId} {fuel o : Nat} {cs : List Value} {y : DataW H × List MemPlace} (R : World → List Value → α → Prop)
    (hT : P.underlying T = some (.slice E)) (hE : P.cellsOf E = sz) (hsz : 0 < sz) (ho : o < cs.length)
    (hR : ∀ fuel cs y, cs.length = sz → DataW.trod enc P w 0 (fun _ => true) true fuel E cs = some y → ∃ z, R w cs z)
    (h : DataW.trod enc P w 0 (fun _ => true) true fuel T ((cs.drop o).take 1) = some y) : ∃ v xs, cs[o]? = some v ∧ Sl R sz w v xs := by
  rw [cell_of_slice_field ho] at h
  obtain ⟨xs, hxs⟩ := sl_of_trod R hT hE hsz hR h
  exact ⟨_, xs, List.getElem?_eq_getElem ho, hxs⟩
theorem trod_cells {H : Type} {enc : TypeId × Value → H} {P : Program} {w : World} {T : TypeId} {v : Value} {d : DataW H} {p : List MemPlace} (h : DataW.Trod enc P w 0 (fun _ => true) true T v d p) :
    ∃ fuel, DataW.trod enc P w 0 (fun _ => true) true fuel T v.cells.toList = some (d, p) := h

/-- make of n elements: the cells are the zero's, again and again. -/
theorem make_fact {P : Program} {T E : TypeId} {i : TypeInfo} {z : Value} {sz bytes : Nat} (ht : P.underlying T = some (.slice E)) (hi : P.info? E = some i) (hz : i.zero = some z) (hsize : i.size = sz) (hby : i.bytes = bytes)
    (hzs : z.cells.size = sz) (n : Nat) (hb : bytes * n ≤ 281474976710656) (hn : n ≤ 9223372036854775807) :
    ∃ C : Array Value, C.size = n * sz ∧ (∀ (k j : Nat) (u : Value), k < n → z.cells[j]? = some u → C[k * sz + j]? = some u) ∧
      ∀ w, (Instr.makeSlice T (.int .i64 (n : Int)) (.int .i64 (n : Int))).run P w = .ok (.slice (some ⟨w.heap.size, 0, none⟩) n n) (w.alloc (.cells C E)) := by
  refine ⟨madeCells z.cells (n * i.size), by rw [size_madeCells, hsize], ?_, fun w => ?_⟩
  · intro k j u hk hj
    rw [hsize]
    have hjs : j < sz := by rw [← hzs]; exact (Array.getElem?_eq_some_iff.1 hj).1
    have hlt : k * sz + j < n * sz := by
      have : (k + 1) * sz ≤ n * sz := Nat.mul_le_mul_right _ hk
      rw [Nat.add_mul, Nat.one_mul] at this; omega
    unfold madeCells
    rw [Array.getElem?_map, Array.getElem?_range, if_pos hlt]
    simp only [Option.map_some, hzs]
    rw [Nat.mul_comm k sz, Nat.mul_add_mod, Nat.mod_eq_of_lt hjs]
    have hjz : j < z.cells.size := by omega
    rw [getElem!_pos z.cells j hjz, ← hj, Array.getElem?_eq_getElem hjz]
  · have hb2 : (i.bytes : Int) * (n : Int) ≤ 281474976710656 := by
      have h : ((bytes * n : Nat) : Int) ≤ 281474976710656 := by omega
      rw [Int.natCast_mul] at h
      rw [hby]; exact h
    have := run_make (P := P) w T E i z ht hi hz .i64 .i64 (n : Int) (n : Int) (by omega) (Int.le_refl _) hb2 (by omega)
    rw [Int.toNat_natCast] at this
    exact this

theorem sl_made {α : Type} {R : World → List Value → α → Prop} {sz : Nat} {w : World} {C : Array Value} {E : TypeId} {n : Nat} {z : Value} (x : α) (hn : n ≤ maxLen) (hzs : z.cells.size = sz)
    (hC : ∀ (k j : Nat) (u : Value), k < n → z.cells[j]? = some u → C[k * sz + j]? = some u) (hR : R (w.alloc (.cells C E)) z.cells.toList x) :
    Sl R sz (w.alloc (.cells C E)) (.slice (some ⟨w.heap.size, 0, none⟩) n n) (List.replicate n x) := by
  refine ⟨some ⟨w.heap.size, 0, none⟩, n, by simp, by simp, hn, fun i hi => ?_⟩
  simp only [List.length_replicate] at hi
  refine ⟨w.heap.size, 0, z.cells.toList, rfl, by simpa using hzs, fun j u hj => ?_, by simpa using hR⟩
  have := hC i j u hi (by simpa using hj)
  unfold World.cell?
  rw [(MapKept.heap_alloc w _).1]
  simpa using this

/-- One element of a slice is written. -/
theorem sl_set {α : Type} {R : World → List Value → α → Prop} {sz : Nat} {w w' : World} {b off : Nat} {n cap : Nat} {xs : List α} (h : Sl R sz w (.slice (some ⟨b, off, none⟩) n cap) xs) (k : Nat) (hk : k < xs.length) (x : α) (cs : List Value) (hcs : cs.length = sz)
    (hm : ∀ cs y, R w cs y → R w' cs y) (hR : R w' cs x)
    (hin : ∀ (j : Nat) (u : Value), cs[j]? = some u → w'.cell? ⟨b, off + k * sz + j, none⟩ = some u)
    (hout : ∀ o, (o < off + k * sz ∨ off + k * sz + sz ≤ o) → w'.cell? ⟨b, o, none⟩ = w.cell? ⟨b, o, none⟩) :
    Sl R sz w' (.slice (some ⟨b, off, none⟩) n cap) (xs.set k x) := by
  obtain ⟨r, cap', hv, hl, hc, he⟩ := h
  simp at hv
  obtain ⟨rfl, rfl, rfl⟩ := hv
  refine ⟨some ⟨b, off, none⟩, cap, by simp, by simpa using hl, hc, fun i hi => ?_⟩
  simp only [List.length_set] at hi
  by_cases hik : i = k
  · subst hik
    refine ⟨b, off, cs, rfl, hcs, hin, by simpa using hR⟩
  · obtain ⟨b', off', cs', hr, hs, hcell, hx⟩ := he i hi
    simp at hr
    obtain ⟨rfl, rfl⟩ := hr
    refine ⟨b, off, cs', rfl, hs, fun j u hj => ?_, ?_⟩
    · have hjs : j < sz := by rw [← hs]; exact (List.getElem?_eq_some_iff.1 hj).1
      rw [hout]
      · exact hcell j u hj
      · rcases Nat.lt_or_gt_of_ne hik with h | h
        · left
          have : (i + 1) * sz ≤ k * sz := Nat.mul_le_mul_right _ h
          rw [Nat.add_mul, Nat.one_mul] at this; omega
        · right
          have : (k + 1) * sz ≤ i * sz := Nat.mul_le_mul_right _ h
          rw [Nat.add_mul, Nat.one_mul] at this; omega
    · rw [List.getElem_set_ne (Ne.symm hik)]
      exact hm _ _ hx
end Go.Proofs.YtpnogmicfomofaaGreatDoor
