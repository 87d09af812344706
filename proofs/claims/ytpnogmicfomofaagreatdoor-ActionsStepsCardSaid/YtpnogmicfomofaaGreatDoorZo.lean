import Derived.Test.YtpnogmicfomofaaGreatDoorZc
import Derived.ChangeKeysEq
import Derived.Deep.MidRow
/-
  Layer 44: changes in memory; the program's operations, first, last. Conditions: those ahead of each theorem.
-/
namespace Go.Proofs.YtpnogmicfomofaaGreatDoor.Stp
open Go.RowKit Go.Sort Go.Lib Go.Maps
open Go.Lib (hid)
set_option linter.unusedVariables false
set_option linter.unusedSimpArgs false

/-- A slice's three parts. -/
structure SV where
  r : Option Addr
  n : Nat
  c : Nat
def SV.v (x : SV) : Value := .slice x.r x.n x.c
/-- The cells of a change. -/
structure CV where
  ad : ByteArray
  de : ByteArray
  ty : ByteArray
  ac : Int
  re : Int
  bk : Int
  bn : Int
  bs : ByteArray
  bi : SV
  bl : SV
  ak : Int
  an : Int
  at_ : ByteArray
  ai : SV
  al : SV
  id : ByteArray
  rp : SV
  cf : Bool
  pr : Bool
  im : Bool
  dp : SV
  od : SV
def CV.arr (x : CV) : Array Value := #[.string x.ad, .string x.de, .string x.ty, .int .i64 x.ac, .int .i64 x.re, .int .i64 x.bk, .int .i64 x.bn, .string x.bs, .slice x.bi.r x.bi.n x.bi.c, .slice x.bl.r x.bl.n x.bl.c, .int .i64 x.ak, .int .i64 x.an, .string x.at_, .slice x.ai.r x.ai.n x.ai.c, .slice x.al.r x.al.n x.al.c, .string x.id, .slice x.rp.r x.rp.n x.rp.c, .bool x.cf, .bool x.pr, .bool x.im, .slice x.dp.r x.dp.n x.dp.c, .slice x.od.r x.od.n x.od.c]
theorem chinfo : (Tryz.prog.info? 31).map (fun i => (i.size)) = some 22 := by kernel_rfl
/-- A change, as far as it is looked at. -/
structure Ch where
  addr : ByteArray
  act : Int
  cf : Bool
  deps : List ByteArray
  old : List ByteArray
def CvR (w : World) (x : CV) (c : Ch) : Prop := x.ad = c.addr ∧ x.ac = c.act ∧ x.cf = c.cf ∧ IB c.act ∧ Sl StrR 1 w (.slice x.dp.r x.dp.n x.dp.c) c.deps ∧ Sl StrR 1 w (.slice x.od.r x.od.n x.od.c) c.old
def ChR (w : World) (cs : List Value) (c : Ch) : Prop := ∃ x : CV, cs = x.arr.toList ∧ CvR w x c
theorem cvR_below {w w' : World} {x : CV} {c : Ch} (hb : Below w.heap.size w w') (h : CvR w x c) : CvR w' x c := ⟨h.1, h.2.1, h.2.2.1, h.2.2.2.1, h.2.2.2.2.1.below strR_mono hb, h.2.2.2.2.2.below strR_mono hb⟩
theorem chR_mono : Mono ChR := fun _ _ _ _ hb ⟨x, h1, h2⟩ => ⟨x, h1, cvR_below hb h2⟩
theorem ch_at {w : World} {r : Option Addr} {n c : Nat} {cs : List Ch} (h : Sl ChR 22 w (.slice r n c) cs) (i : Nat) (hi : i < cs.length) :
    ∃ b off x, r = some ⟨b, off, none⟩ ∧ b < w.heap.size ∧ (∀ (j : Nat) (u : Value), x.arr.toList[j]? = some u → w.cell? ⟨b, off + i * 22 + j, none⟩ = some u) ∧ CvR w x cs[i] := by
  obtain ⟨r', c', e, h1, h2, he⟩ := h
  simp at e
  obtain ⟨rfl, rfl, rfl⟩ := e
  obtain ⟨b, off, cs, hr, hs, hc, x, hv, hn⟩ := he i hi
  subst hv
  have g0 := hc 0 _ rfl
  exact ⟨b, off, x, hr, World.block_lt_of_cell? w _ g0, hc, hn⟩
def opA (ac : Int) (cf : Bool) : Int := if ac = 1 then 1 else if ac = 2 then 2 else if ac = 4 then 3 else if ac = 5 then 4 else if ac = 3 then (if cf = true then 1 else 3) else 0
def opB (ac : Int) (cf : Bool) : Int := if ac = 3 then (if cf = true then 3 else 1) else 0
def Two (a b : Int) : Value := .agg #[.int .i64 a, .int .i64 b]
theorem eqb {a b : Int} (h : a = b) : (a == b) = true := by simpa using h
theorem neb {a b : Int} (h : ¬ a = b) : (a == b) = false := by simpa using h
set_option maxHeartbeats 4000000 in
theorem op_any (x : CV) (w : World) : Calls Tryz.prog 29 #[.agg x.arr] w fun e w' => e = .returned (Two (opA x.ac x.cf) (opB x.ac x.cf)) ∧ Below w.heap.size w w' := by
  unfold CV.arr
  obtain ⟨ac, hac⟩ : ∃ ac, x.ac = ac := ⟨_, rfl⟩
  rw [hac]
  clear hac
  by_cases h1 : ac = 1
  · subst h1
    rw [show opA 1 x.cf = 1 from rfl, show opB 1 x.cf = 0 from rfl]
    go_enter Tryz.func29, Tryz.ntmps29
    go_wp2
    exact bodyPost_ret (v := Two 1 0) (by simp [results, Tryz.results29, go_sem, Two]) rfl ⟨rfl, ((Below.refl _ _).alloc (Nat.le_refl _) _).alloc (by simp) _⟩
  by_cases h2 : ac = 2
  · subst h2
    rw [show opA 2 x.cf = 2 from rfl, show opB 2 x.cf = 0 from rfl]
    go_enter Tryz.func29, Tryz.ntmps29
    go_wp2
    exact bodyPost_ret (v := Two 2 0) (by simp [results, Tryz.results29, go_sem, Two]) rfl ⟨rfl, ((Below.refl _ _).alloc (Nat.le_refl _) _).alloc (by simp) _⟩
  by_cases h4 : ac = 4
  · subst h4
    rw [show opA 4 x.cf = 3 from rfl, show opB 4 x.cf = 0 from rfl]
    go_enter Tryz.func29, Tryz.ntmps29
    go_wp2
    exact bodyPost_ret (v := Two 3 0) (by simp [results, Tryz.results29, go_sem, Two]) rfl ⟨rfl, ((Below.refl _ _).alloc (Nat.le_refl _) _).alloc (by simp) _⟩
  by_cases h5 : ac = 5
  · subst h5
    rw [show opA 5 x.cf = 4 from rfl, show opB 5 x.cf = 0 from rfl]
    go_enter Tryz.func29, Tryz.ntmps29
    go_wp2
    exact bodyPost_ret (v := Two 4 0) (by simp [results, Tryz.results29, go_sem, Two]) rfl ⟨rfl, ((Below.refl _ _).alloc (Nat.le_refl _) _).alloc (by simp) _⟩
  by_cases h3 : ac = 3
  · subst h3
    cases hf : x.cf with
    | true =>
      rw [show opA 3 true = 1 from rfl, show opB 3 true = 3 from rfl]
      go_enter Tryz.func29, Tryz.ntmps29
      go_wp2
      exact bodyPost_ret (v := Two 1 3) (by simp [results, Tryz.results29, go_sem, Two]) rfl ⟨rfl, ((Below.refl _ _).alloc (Nat.le_refl _) _).alloc (by simp) _⟩
    | false =>
      rw [show opA 3 false = 3 from rfl, show opB 3 false = 1 from rfl]
      go_enter Tryz.func29, Tryz.ntmps29
      go_wp2
      exact bodyPost_ret (v := Two 3 1) (by simp [results, Tryz.results29, go_sem, Two]) rfl ⟨rfl, ((Below.refl _ _).alloc (Nat.le_refl _) _).alloc (by simp) _⟩
  rw [show opA ac x.cf = 0 by unfold opA; rw [if_neg h1, if_neg h2, if_neg h4, if_neg h5, if_neg h3], show opB ac x.cf = 0 by unfold opB; rw [if_neg h3]]
  have b1 := neb h1
  have b2 := neb h2
  have b3 := neb h3
  have b4 := neb h4
  have b5 := neb h5
  clear h1 h2 h3 h4 h5
  go_enter Tryz.func29, Tryz.ntmps29
  go_wp2
  exact bodyPost_ret (v := Two 0 0) (by simp [results, Tryz.results29, go_sem, Two]) rfl ⟨rfl, ((Below.refl _ _).alloc (Nat.le_refl _) _).alloc (by simp) _⟩
end Go.Proofs.YtpnogmicfomofaaGreatDoor.Stp
/-
  Layer 44: the program's first and last. Conditions: those ahead of each theorem.
-/
namespace Go.Proofs.YtpnogmicfomofaaGreatDoor.Stp
open Go.RowKit Go.Sort Go.Lib Go.Maps
open Go.Lib (hid)
set_option linter.unusedVariables false
set_option linter.unusedSimpArgs false

theorem stepopinfo : (Tryz.prog.info? 46).map (fun i => (i.zero, i.size, i.bytes)) = some (some (.int .i64 0), 1, 8) := by kernel_rfl
/-- Two pairs of operations compared. -/
theorem two_eql (a b c d : Int) (W : World) : (binOp .eql 75 (.agg #[.int .i64 a, .int .i64 b]) (.agg #[.int .i64 c, .int .i64 d])).run Tryz.prog W = .ok (.bool (decide (a = c) && decide (b = d))) W := by
  obtain ⟨i, hi, _⟩ := info_parts stepopinfo
  rw [run_eql_struct, run_equalIn_array W 9999 _ _ Tryz.underlying75 hi]
  rw [show List.range 2 = [0, 1] from rfl]
  have hc : Tryz.prog.cellsOf 46 = 1 := by kernel_rfl
  simp only [Op.eqItems, go_sem, hc]
  by_cases h1 : a = c <;> by_cases h2 : b = d <;> simp [h1, h2, go_sem]
theorem arr_size (x : CV) : x.arr.size = 22 := rfl
theorem chsize (x : CV) : (Tryz.prog.info? 31).map (·.size) = some x.arr.toList.length := by
  rw [show x.arr.toList.length = 22 from rfl]
  kernel_rfl
theorem range_new (w : World) (x : CV) : (w.alloc (.cells x.arr 31)).rangeAt w.heap.size 0 x.arr.toList := fun j v h => by
  unfold World.cell?
  rw [Nat.zero_add]
  simp only [heap_alloc_new]
  simpa using h
/-- The cells of a change are there; the change that they make. -/
def Lies (W : World) (b o : Nat) : Prop := ∀ j, j < 22 → (W.cell? ⟨b, o + j, none⟩).isSome = true
def rd22 (W : World) (b o : Nat) : Array Value := ((List.range 22).map fun j => (W.cell? ⟨b, o + j, none⟩).getD undef).toArray
theorem ld22 (W : World) (b o : Nat) (h : Lies W b o) : (loadVar 31 ⟨b, o, none⟩).run Tryz.prog W = .ok (.agg (rd22 W b o)) W := by
  refine run_loadVar_mid W b o _ ((List.range 22).map fun j => (W.cell? ⟨b, o + j, none⟩).getD undef) _ (fun j v hv => ?_) Tryz.underlying31 rfl (by rw [List.length_map, List.length_range]; kernel_rfl)
  rw [List.getElem?_map] at hv
  by_cases hj : j < 22
  · rw [List.getElem?_range hj] at hv
    have h1 := h j hj
    cases hc : W.cell? ⟨b, o + j, none⟩ with
    | none => rw [hc] at h1; cases h1
    | some u =>
      simp [hc] at hv
      rw [hv]
  · rw [List.getElem?_eq_none (by rw [List.length_range]; omega)] at hv
    cases hv
/-- The reading of a change, not opened. -/
def ldC (a : Addr) : Sem Value := loadVar 31 a
theorem ldC_eq (a : Addr) : loadVar 31 a = ldC a := rfl
theorem ldC_run (W : World) (b o : Nat) (h : Lies W b o) : (ldC ⟨b, o, none⟩).run Tryz.prog W = .ok (.agg (rd22 W b o)) W := ld22 W b o h
/-- The writing of a change, not opened. -/
def There (W : World) (b o : Nat) : Prop := W.there b o 22
def stC (a : Addr) (v : Value) : Sem Unit := storeVar 31 a v
theorem stC_eq (a : Addr) (v : Value) : storeVar 31 a v = stC a v := rfl
def put22 (W : World) (b o : Nat) (X : Array Value) : World := W.setCells b o X.toList
/-- Twenty-two cells, each one cell. -/
def Cells22 (X : Array Value) : Prop := X.size = 22 ∧ X.all (·.oneCell') = true
theorem stC_run (W : World) (b o : Nat) (X : Array Value) (h : There W b o) (hX : Cells22 X) : (stC ⟨b, o, none⟩ (.agg X)).run Tryz.prog W = .ok () (put22 W b o X) :=
  run_storeVar_mid W b o _ X (by rw [hX.1]; exact h) (by rw [hX.1]; kernel_rfl) hX.2
theorem there_drew (W : World) (b o : Nat) : There W.drew b o = There W b o := by
  unfold There
  exact propext (World.there_drew W b o 22)
theorem there_new (W : World) (Z : Array Value) (T : TypeId) (b : Nat) (hb : b = W.heap.size) (hZ : Z.size = 22) : There (W.alloc (.cells Z T)) b 0 = True := by
  subst hb
  refine eq_true fun j hj => ⟨?_, ?_⟩
  · unfold World.cell?
    simp only [heap_alloc_new, Nat.zero_add]
    simp [hZ, hj]
  · unfold World.frozen?
    simp only [heap_alloc_new]
    simp
theorem put22_drew (W : World) (b o : Nat) (X : Array Value) : put22 W.drew b o X = (put22 W b o X).drew := by
  unfold put22
  generalize X.toList = l
  induction l generalizing W o with
  | nil => rfl
  | cons v l ih =>
    show (W.drew.setCell ⟨b, o, none⟩ v).setCells b (o + 1) l = ((W.setCell ⟨b, o, none⟩ v).setCells b (o + 1) l).drew
    rw [← ih]
    rfl
theorem splice_set {α : Type} (Z : List α) (o : Nat) (v : α) (l : List α) (h : o < Z.length) : (Z.set o v).take (o + 1) ++ l ++ (Z.set o v).drop (o + 1 + l.length) = Z.take o ++ v :: l ++ Z.drop (o + (l.length + 1)) := by
  have h1 : (Z.set o v).take (o + 1) = Z.take o ++ [v] := by
    rw [List.take_succ_eq_append_getElem (by rw [List.length_set]; exact h), List.getElem_set_self, List.take_set, List.set_eq_of_length_le (by rw [List.length_take]; omega)]
  have h2 : (Z.set o v).drop (o + 1 + l.length) = Z.drop (o + (l.length + 1)) := by
    rw [List.drop_set_of_lt (by omega), show o + 1 + l.length = o + (l.length + 1) by omega]
  rw [h1, h2]
  simp
theorem setCells_new (W : World) (T : TypeId) : ∀ (l : List Value) (Z : Array Value) (o : Nat), o + l.length ≤ Z.size → (W.alloc (.cells Z T)).setCells W.heap.size o l = W.alloc (.cells (Z.toList.take o ++ l ++ Z.toList.drop (o + l.length)).toArray T)
  | [], Z, o, h => by
    show W.alloc (.cells Z T) = _
    rw [List.append_nil, List.length_nil, Nat.add_zero, List.take_append_drop]
  | v :: l, Z, o, h => by
    show ((W.alloc (.cells Z T)).setCell ⟨W.heap.size, o, none⟩ v).setCells W.heap.size (o + 1) l = _
    rw [List.length_cons] at h
    rw [World.setCell_alloc_new, setCells_new W T l _ (o + 1) (by simp; omega)]
    rw [Array.toList_setIfInBounds, splice_set Z.toList o v l (by rw [Array.length_toList]; omega), List.length_cons]
theorem put22_new (W : World) (Z X : Array Value) (T : TypeId) (b : Nat) (hb : b = W.heap.size) (hZ : Z.size = 22) (hX : Cells22 X) : put22 (W.alloc (.cells Z T)) b 0 X = W.alloc (.cells X T) := by
  subst hb
  unfold put22
  rw [setCells_new W T _ Z 0 (by rw [Array.length_toList, hX.1, hZ]; decide)]
  congr 2
  rw [Array.length_toList, hX.1, List.take_zero, List.nil_append, List.drop_of_length_le (by rw [Array.length_toList, hZ]; decide), List.append_nil]
theorem cells22 (x : CV) : Cells22 x.arr := ⟨rfl, by simp [CV.arr, Value.oneCell']⟩
theorem lies_new (W : World) (X : Array Value) (T : TypeId) (b : Nat) (hb : b = W.heap.size) (hX : Cells22 X) : Lies (W.alloc (.cells X T)) b 0 = True := by
  have := there_new W X T b hb hX.1
  exact eq_true fun j hj => ((of_eq_true this) j hj).1
theorem rd22_new (W : World) (X : Array Value) (T : TypeId) (b : Nat) (hb : b = W.heap.size) (hX : Cells22 X) : rd22 (W.alloc (.cells X T)) b 0 = X := by
  subst hb
  unfold rd22
  apply Array.ext
  · simp [hX.1]
  · intro j h1 h2
    have hc : ∀ j, (W.alloc (.cells X T)).cell? ⟨W.heap.size, j, none⟩ = X[j]? := fun j => by
      unfold World.cell?
      simp only [heap_alloc_new]
      rfl
    simp [hc, h2]
theorem there_past (W : World) (o : Obj) (b k : Nat) (hb : b < W.heap.size) : There (W.alloc o) b k = There W b k := by
  have hb2 : Below W.heap.size W (W.alloc o) := (Below.refl _ _).alloc (Nat.le_refl _) _
  unfold There World.there
  apply propext
  constructor <;> intro h j hj
  · have := h j hj
    rw [hb2.cell (p := ⟨b, k + j, none⟩) hb, hb2.frozen (p := ⟨b, k + j, none⟩) hb] at this
    exact this
  · have := h j hj
    rw [hb2.cell (p := ⟨b, k + j, none⟩) hb, hb2.frozen (p := ⟨b, k + j, none⟩) hb]
    exact this
theorem put22_past (W : World) (o : Obj) (b k : Nat) (X : Array Value) (hb : b < W.heap.size) : put22 (W.alloc o) b k X = (put22 W b k X).alloc o := by
  unfold put22
  generalize X.toList = l
  induction l generalizing W k with
  | nil => rfl
  | cons v l ih =>
    show ((W.alloc o).setCell ⟨b, k, none⟩ v).setCells b (k + 1) l = ((W.setCell ⟨b, k, none⟩ v).setCells b (k + 1) l).alloc o
    rw [World.setCell_alloc_past o b k v hb, ih _ _ (by unfold World.setCell; simpa using hb)]
theorem cell_new (W : World) (X : Array Value) (T : TypeId) (b : Nat) (hb : b = W.heap.size) (k : Nat) : ((W.alloc (.cells X T)).drew).cell? ⟨b, k, none⟩ = X[k]? := by
  subst hb
  show (W.alloc (.cells X T)).cell? _ = _
  unfold World.cell?
  simp only [heap_alloc_new]
  rfl
theorem lies_drewN (W : World) (n b o : Nat) : Lies (W.drewN n) b o ↔ Lies W b o := Iff.rfl
theorem rd22_drewN (W : World) (n b o : Nat) : rd22 (W.drewN n) b o = rd22 W b o := rfl
theorem lies_drew (W : World) (b o : Nat) : Lies W.drew b o ↔ Lies W b o := Iff.rfl
theorem rd22_drew (W : World) (b o : Nat) : rd22 W.drew b o = rd22 W b o := rfl
theorem Lies.below {W W' : World} {b o : Nat} (hb : Below W.heap.size W W') (h : Lies W b o) : Lies W' b o ∧ rd22 W' b o = rd22 W b o := by
  have hq : ∀ j, j < 22 → W'.cell? ⟨b, o + j, none⟩ = W.cell? ⟨b, o + j, none⟩ := fun j hj => by
    have := h j hj
    cases hc : W.cell? ⟨b, o + j, none⟩ with
    | none => rw [hc] at this; cases this
    | some u => exact bget hb hc
  refine ⟨fun j hj => by rw [hq j hj]; exact h j hj, ?_⟩
  unfold rd22
  congr 1
  apply List.map_congr_left
  intro j hj
  rw [hq j (List.mem_range.1 hj)]
theorem lies_of {w : World} {b o : Nat} {X : Array Value} (hX : Cells22 X) (h : ∀ (j : Nat) (u : Value), X.toList[j]? = some u → w.cell? ⟨b, o + j, none⟩ = some u) : Lies w b o ∧ rd22 w b o = X := by
  have hq : ∀ j (hj : j < X.size), w.cell? ⟨b, o + j, none⟩ = some X[j] := fun j hj => h j _ (by rw [Array.getElem?_toList]; exact Array.getElem?_eq_getElem hj)
  refine ⟨fun j hj => by rw [hq j (by rw [hX.1]; exact hj)]; rfl, ?_⟩
  unfold rd22
  apply Array.ext
  · simp [hX.1]
  · intro j h1 h2
    simp [hq j h2]
def firstB (ac : Int) (cf : Bool) : Bool := decide (opA ac cf = 1) && decide (opB ac cf = 3)
theorem first_any (x : CV) (w : World) : Calls Tryz.prog 88 #[.agg x.arr] w fun e w' => e = .returned (.bool (firstB x.ac x.cf)) ∧ Below w.heap.size w w' := by
  have hz : x.arr.size = 22 := rfl
  have HO := hid (fun W => op_any x W)
  have hE := fun W => two_eql (opA x.ac x.cf) (opB x.ac x.cf) 1 3 W
  unfold firstB
  have HC := hid (range_new w x)
  have HI := hid (chsize x)
  generalize x.arr = X at *
  generalize opA x.ac x.cf = p at *
  generalize opB x.ac x.cf = q at *
  unfold Two at *
  go_enter Tryz.func88, Tryz.ntmps88
  go_wp2_with (first | (refine wpList_load_mid rfl 31 _ rfl _ _ rfl X.toList _ HC.out Tryz.underlying31 rfl HI.out ?_; simp only [Array.toArray_toList]) | (go_at_call 29; refine (HO.out _).mono ?_; rintro e w1 ⟨rfl, hb⟩))
  go_ret
  exact ⟨rfl, ((Below.refl _ _).alloc (Nat.le_refl _) _).trans (hb.mono (by simp))⟩
def lastB (ac : Int) (cf : Bool) : Bool := decide (opA ac cf = 3) && decide (opB ac cf = 1)
theorem last_any (x : CV) (w : World) : Calls Tryz.prog 90 #[.agg x.arr] w fun e w' => e = .returned (.bool (lastB x.ac x.cf)) ∧ Below w.heap.size w w' := by
  have hz : x.arr.size = 22 := rfl
  have HO := hid (fun W => op_any x W)
  have hE := fun W => two_eql (opA x.ac x.cf) (opB x.ac x.cf) 3 1 W
  unfold lastB
  have HC := hid (range_new w x)
  have HI := hid (chsize x)
  generalize x.arr = X at *
  generalize opA x.ac x.cf = p at *
  generalize opB x.ac x.cf = q at *
  unfold Two at *
  go_enter Tryz.func90, Tryz.ntmps90
  go_wp2_with (first | (refine wpList_load_mid rfl 31 _ rfl _ _ rfl X.toList _ HC.out Tryz.underlying31 rfl HI.out ?_; simp only [Array.toArray_toList]) | (go_at_call 29; refine (HO.out _).mono ?_; rintro e w1 ⟨rfl, hb⟩))
  go_ret
  exact ⟨rfl, ((Below.refl _ _).alloc (Nat.le_refl _) _).trans (hb.mono (by simp))⟩
end Go.Proofs.YtpnogmicfomofaaGreatDoor.Stp
