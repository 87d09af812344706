import Derived.Test.YtpnogmicfomofaaGreatDoorZa
import Derived.Test.YtpnogmicfomofaaGreatDoorZb
/-
  Numbers in memory: own slices of numbers, arrays that are known whole, steps. Conditions: those ahead of each theorem.
-/
namespace Go.Proofs.YtpnogmicfomofaaGreatDoor.Stp
open Go.RowKit Go.Sort Go.Lib Go.Maps
open Go.Lib (hid)
set_option linter.unusedVariables false
set_option linter.unusedSimpArgs false

def IB (n : Int) : Prop := -9223372036854775808 ≤ n ∧ n ≤ 9223372036854775807
def encI (n : Int) : List Value := [.int .i64 n]
theorem encI_len : ∀ x, (encI x).length = 1 := fun _ => rfl
theorem encI_one : ∀ x, ∀ u ∈ encI x, u.oneCell' = true := fun x u hu => by
  simp only [encI, List.mem_cons, List.mem_nil_iff, or_false] at hu
  subst hu; rfl
theorem intinfo : (Tryz.prog.info? 3).map (fun i => (i.zero, i.size, i.bytes)) = some (some (.int .i64 0), 1, 8) := by kernel_rfl
/-- An element of a slice of numbers. -/
theorem int_at {w : World} {r : Option Addr} {n c : Nat} {xs : List Int} (h : Sl IntR 1 w (.slice r n c) xs) (i : Nat) (hi : i < xs.length) :
    ∃ b off, r = some ⟨b, off, none⟩ ∧ b < w.heap.size ∧ w.cell? ⟨b, off + i, none⟩ = some (.int .i64 xs[i]) ∧ IB xs[i] := by
  obtain ⟨r', c', e, h1, h2, he⟩ := h
  simp at e
  obtain ⟨rfl, rfl, rfl⟩ := e
  obtain ⟨b, off, cs, hr, hs, hc, hx⟩ := he i hi
  have g0 := hc 0 _ hx.1
  simp only [Nat.mul_one, Nat.add_zero] at g0
  exact ⟨b, off, hr, World.block_lt_of_cell? w _ g0, g0, hx.2⟩
/-- A step: its change, its operation, what it needs. -/
structure St where
  change : Int
  op : Int
  needs : List Int
def StR (w : World) (cs : List Value) (s : St) : Prop := ∃ v, cs = [.int .i64 s.change, .int .i64 s.op, v] ∧ Sl IntR 1 w v s.needs ∧ IB s.change ∧ IB s.op
theorem stR_mono : Mono StR := fun _ _ _ _ hb ⟨v, h1, h2, h3⟩ => ⟨v, h1, h2.below intR_mono hb, h3⟩
theorem st_at {w : World} {r : Option Addr} {n c : Nat} {ss : List St} (h : Sl StR 3 w (.slice r n c) ss) (i : Nat) (hi : i < ss.length) :
    ∃ b off rn cn, r = some ⟨b, off, none⟩ ∧ b < w.heap.size ∧ w.cell? ⟨b, off + i * 3, none⟩ = some (.int .i64 (ss[i]).change) ∧ w.cell? ⟨b, off + i * 3 + 1, none⟩ = some (.int .i64 (ss[i]).op) ∧ w.cell? ⟨b, off + i * 3 + 2, none⟩ = some (.slice rn (ss[i]).needs.length cn) ∧ Sl IntR 1 w (.slice rn (ss[i]).needs.length cn) (ss[i]).needs ∧ IB (ss[i]).change ∧ IB (ss[i]).op := by
  obtain ⟨r', c', e, h1, h2, he⟩ := h
  simp at e
  obtain ⟨rfl, rfl, rfl⟩ := e
  obtain ⟨b, off, cs, hr, hs, hc, v, hv, hn, hb⟩ := he i hi
  subst hv
  obtain ⟨rn, cn, rfl, _⟩ := id hn
  have g0 := hc 0 _ rfl
  exact ⟨b, off, rn, cn, hr, World.block_lt_of_cell? w _ g0, g0, hc 1 _ rfl, hc 2 _ rfl, hn, hb.1, hb.2⟩
/-- Own slices of numbers. -/
def OwnI (B : Nat) (w : World) (v : Value) (xs : List Int) : Prop := w.ownsRow B 3 1 v xs.length (xs.flatMap encI) ∧ ∀ x ∈ xs, IB x
theorem ownI_nil (B : Nat) (w : World) : OwnI B w (.slice none 0 0) [] := ⟨World.ownsRow_nil w B _ 1, by simp⟩
theorem OwnI.kept {B : Nat} {w w' : World} {v : Value} {row : Option Nat} {xs : List Int} (h : OwnI B w v xs) (hg : w.grownBy w' row) (hr : ∀ g, v.ownBlock = some g → row ≠ some g) : OwnI B w' v xs := ⟨kept_off h.1 hg hr, h.2⟩
theorem OwnI.below {B : Nat} {w w' : World} {v : Value} {xs : List Int} (h : OwnI B w v xs) (hb : Below w.heap.size w w') : OwnI B w' v xs := h.kept (grown_below hb) (fun _ _ h => by cases h)
theorem OwnI.lt {B : Nat} {w : World} {v : Value} {xs : List Int} (h : OwnI B w v xs) : ∀ g, v.ownBlock = some g → B ≤ g ∧ g < w.heap.size := h.1.lt
theorem OwnI.form {B : Nat} {w : World} {v : Value} {xs : List Int} (h : OwnI B w v xs) : ∃ r c, v = .slice r xs.length c ∧ xs.length ≤ c ∧ c ≤ maxLen := own_form h.1
theorem OwnI.sl {B : Nat} {w : World} {v : Value} {xs : List Int} (h : OwnI B w v xs) : Sl IntR 1 w v xs := by
  obtain ⟨r, c, e, h1, h2, he⟩ := sl_of_own encI encI_len h.1
  refine ⟨r, c, e, h1, h2, fun i hi => ?_⟩
  obtain ⟨b, off, cs, hr, hs, hc, hx⟩ := he i hi
  exact ⟨b, off, cs, hr, hs, hc, by rw [hx]; rfl, h.2 _ (List.getElem_mem hi)⟩
def MoreI (B : Nat) (w : World) (v : Value) (xs : List Int) (H : Nat) (g cap : Nat) (w' : World) : Prop :=
  OwnI B w' (.slice (some ⟨g, 0, none⟩) xs.length cap) xs ∧ w.grownBy w' v.ownBlock ∧ (v.ownBlock = some g ∨ g = H) ∧ g < w'.heap.size
section
variable {w : World} {ops : Array Oper} {rest : List Oper} {o : Oper} {a : Act} {Q : Exit → Act → World → Prop}
theorem app_int (hgd : o.guard = none) (s x : Operand) (ho : o.op = .call { callee := .builtin .append, args := #[s, x], argTypes := #[40, 40] })
    (B : Nat) (v : Value) (xs : List Int) (hs : a.eval s = v) (hown : OwnI B w v xs) (nb c : Nat) (y : Int) (hx : a.eval x = .slice (some ⟨nb, 0, none⟩) 1 c) {fr : Nat × Nat} (hy : w.heap[nb]? = some (.cells #[.int .i64 y] 3 fr)) (hys : IB y)
    (hn : xs.length + 1 ≤ 1000000) (hbase : B ≤ w.heap.size) (H : Nat) (hH : w.heap.size = H)
    (h : ∀ g cap w', MoreI B w v (xs ++ [y]) H g cap w' → wpList Tryz.prog ops Q rest (a.put o.dst (.slice (some ⟨g, 0, none⟩) (xs.length + 1) cap)) w') : wpList Tryz.prog ops Q (o :: rest) a w := by
  subst hH
  refine wpList_append_rows encI encI_len encI_one Tryz.underlying40 intinfo rfl (by omega) (by omega) hgd s x ho B v xs hs hown.1 nb 1 c [y] rfl (by omega) hx (fr := fr) hy hn hbase ?_
  intro g cap w' h1 h2 h3 h4
  refine h g cap w' ⟨⟨?_, ?_⟩, h2, h3, h4⟩
  · simpa using h1
  · intro z hz
    rw [List.mem_append] at hz
    rcases hz with hz | hz
    · exact hown.2 z hz
    · have : z = y := by simpa using hz
      subst this; exact hys
theorem step_int {K : Act → World → Prop} {F : Prop} (hgd : o.guard = none) (s x : Operand) (ho : o.op = .call { callee := .builtin .append, args := #[s, x], argTypes := #[40, 40] })
    (B : Nat) (v : Value) (xs : List Int) (hs : a.eval s = v) (hown : OwnI B w v xs) (nb c : Nat) (y : Int) (hx : a.eval x = .slice (some ⟨nb, 0, none⟩) 1 c) {fr : Nat × Nat} (hy : w.heap[nb]? = some (.cells #[.int .i64 y] 3 fr)) (hys : IB y)
    (hn : xs.length + 1 ≤ 1000000) (hbase : B ≤ w.heap.size) (H : Nat) (hH : w.heap.size = H)
    (h : ∀ g cap w', MoreI B w v (xs ++ [y]) H g cap w' → K (a.put o.dst (.slice (some ⟨g, 0, none⟩) (xs.length + 1) cap)) w') :
    if Region.wanted o (yielded ops a.tmps) = true then Oper.wp Tryz.prog o a w K Q else F := by
  refine step_append_row encI encI_len encI_one Tryz.underlying40 intinfo rfl (by omega) (by omega) hgd s x ho B v xs hs hown.1 nb c y hx (fr := fr) hy hn hbase H hH ?_
  intro g cap w' h1 h2 h3 h4
  refine h g cap w' ⟨⟨?_, ?_⟩, h2, h3, h4⟩
  · simpa using h1
  · intro z hz
    rw [List.mem_append] at hz
    rcases hz with hz | hz
    · exact hown.2 z hz
    · have : z = y := by simpa using hz
      subst this; exact hys
end
/-- An array that is known whole. -/
def arr (n : Nat) (f : Nat → Value) : Array Value := ((List.range n).map f).toArray
theorem arr_get {n : Nat} {f : Nat → Value} {i : Nat} (hi : i < n) : (arr n f)[i]? = some (f i) := by simp [arr, hi]
theorem arr_set {n : Nat} {f : Nat → Value} {i : Nat} (hi : i < n) (v : Value) : (arr n f).setIfInBounds i v = arr n (fun k => if k = i then v else f k) := by
  apply Array.ext_getElem?
  intro k
  unfold arr
  by_cases hk : k < n
  · by_cases e : i = k
    · subst e; simp [hk]
    · rw [Array.getElem?_setIfInBounds_ne e]
      simp [hk, Ne.symm e]
  · have : ¬ i = k := by omega
    rw [Array.getElem?_setIfInBounds_ne this]
    simp [hk]
end Go.Proofs.YtpnogmicfomofaaGreatDoor.Stp
/-
  Layer 44: few, numbers, right, indexes. Conditions: those ahead of each theorem.
-/
namespace Go.Proofs.YtpnogmicfomofaaGreatDoor.Stp
open Go.RowKit Go.Sort Go.Lib Go.Maps
open Go.Lib (hid)
set_option linter.unusedVariables false
set_option linter.unusedSimpArgs false

def fewB (ss : List St) : Bool := decide (ss.length ≤ 100) && ss.all fun s => decide (s.needs.length ≤ 100)
theorem fewB_no {ss : List St} {k : Nat} (hk : k < ss.length) (h : ¬ (ss[k]).needs.length ≤ 100) : fewB ss = false := by
  unfold fewB
  rw [Bool.and_eq_false_iff]
  exact Or.inr (List.all_eq_false.2 ⟨_, List.getElem_mem hk, by simpa using h⟩)
theorem fewB_big {ss : List St} (h : 100 < ss.length) : fewB ss = false := by
  unfold fewB
  rw [Bool.and_eq_false_iff]
  exact Or.inl (decide_eq_false (by omega))
theorem fewB_ok {ss : List St} (h : ss.length ≤ 100) (ha : ∀ j (hj : j < ss.length), (ss[j]).needs.length ≤ 100) : fewB ss = true := by
  unfold fewB
  rw [Bool.and_eq_true]
  refine ⟨decide_eq_true h, List.all_eq_true.2 fun s hs => ?_⟩
  obtain ⟨j, hj, rfl⟩ := List.mem_iff_getElem.1 hs
  exact decide_eq_true (ha j hj)
theorem fewB_bd {ss : List St} (h : fewB ss = true) : ss.length ≤ 100 ∧ ∀ s ∈ ss, s.needs.length ≤ 100 := by
  unfold fewB at h
  rw [Bool.and_eq_true, List.all_eq_true] at h
  exact ⟨of_decide_eq_true h.1, fun s hs => of_decide_eq_true (h.2 s hs)⟩

set_option maxHeartbeats 2000000 in
theorem few_any (v : Value) (ss : List St) (w : World) (hS : Sl StR 3 w v ss) :
    Calls Tryz.prog 12 #[v] w fun e w' => e = .returned (.bool (fewB ss)) ∧ w' = w := by
  obtain ⟨r, c, rfl, _⟩ := id hS
  obtain ⟨_, hl, hm⟩ := sl_len hS
  have HE := hid (st_at hS)
  clear hS
  go_enter Tryz.func12, Tryz.ntmps12
  go_wp2
  go_loop [3] (fun i => ∃ k : Nat, k ≤ ss.length ∧ k ≤ 101 ∧ i = .int .i64 k ∧ Hid (∀ j (hj : j < ss.length), j < k → (ss[j]).needs.length ≤ 100)) (fun i => 101 - (RowKit.intOf i).toNat)
  case atStart => exact ⟨0, by omega, by omega, rfl, hid (fun j hj h => absurd h (by omega))⟩
  case round =>
    obtain ⟨k, hk, hk1, rfl, HA⟩ := hrel
    by_cases hlt : k < ss.length
    · by_cases hle : k ≤ 100
      · obtain ⟨b, off, rn, cn, rfl, hb, g0, g1, g2, hn, _⟩ := HE.out k hlt
        obtain ⟨_, hn1, hn2⟩ := sl_len hn
        have HN := hid (fun h => fewB_no hlt h)
        have HX := hid (fun (h : (ss[k]).needs.length ≤ 100) => show ∀ j (hj : j < ss.length), j < k + 1 → (ss[j]).needs.length ≤ 100 from fun j hj hjk => by
          by_cases e : j < k
          · exact HA.out j hj e
          · obtain rfl : j = k := by omega
            exact h)
        have k2 : (0 : Int) ≤ (k : Int) := by omega
        have k3 : (k : Int) < (ss.length : Int) := by omega
        have k4 : (k : Int) ≤ 100 := by omega
        clear hn
        generalize ss[k] = s at *
        by_cases hbig : s.needs.length ≤ 100
        · have HX2 := hid (HX.out hbig)
          have hb2 : ¬ (100 : Int) < (s.needs.length : Int) := by omega
          clear HX HN
          go_wp2
          go_round
          case rel => exact ⟨k + 1, by omega, by omega, by go_num, HX2⟩
          case measure => simp [RowKit.intOf]; omega
        · have HR := hid (HN.out hbig)
          have hb2 : (100 : Int) < (s.needs.length : Int) := by omega
          clear HX HN hbig
          go_wp2
          go_ret
          exact ⟨ret_bool HR.out, rfl⟩
      · have HR := hid (fewB_big (ss := ss) (by omega))
        have h1 : ¬ (k : Int) ≤ 100 := by omega
        have h2 : ¬ (ss.length : Int) ≤ 100 := by omega
        have k3 : (k : Int) < (ss.length : Int) := by omega
        go_wp2
        go_ret
        exact ⟨ret_bool HR.out, rfl⟩
    · obtain rfl : k = ss.length := by omega
      by_cases hle : ss.length ≤ 100
      · have HR := hid (fewB_ok hle fun j hj => HA.out j hj hj)
        have h2 : (ss.length : Int) ≤ 100 := by omega
        go_wp2
        go_ret
        exact ⟨ret_bool HR.out, rfl⟩
      · have HR := hid (fewB_big (ss := ss) (by omega))
        have h2 : ¬ (ss.length : Int) ≤ 100 := by omega
        go_wp2
        go_ret
        exact ⟨ret_bool HR.out, rfl⟩
/-- numbers: are two lists equal? -/
theorem numbers_any (a b : List Int) (va vb : Value) (w : World) (ha : Sl IntR 1 w va a) (hb : Sl IntR 1 w vb b) :
    Calls Tryz.prog 15 #[va, vb] w fun r w' => r = .returned (.bool (decide (a = b))) ∧ Below w.heap.size w w' := by
  obtain ⟨ra, ca, rfl, _⟩ := id ha
  obtain ⟨rb, cb, rfl, _⟩ := id hb
  obtain ⟨_, hl, hm⟩ := sl_len ha
  obtain ⟨_, hl2, hm2⟩ := sl_len hb
  have HA := hid (fun (W : World) (hW : Below w.heap.size w W) => int_at (ha.below intR_mono hW))
  have HB := hid (fun (W : World) (hW : Below w.heap.size w W) => int_at (hb.below intR_mono hW))
  clear ha hb
  by_cases hlen : a.length = b.length
  case neg =>
    have h1 : ((a.length : Int) == (b.length : Int)) = false := by simp; omega
    have h2 : ((a.length : Int) != (b.length : Int)) = true := by rw [bne, h1]; rfl
    have HF := hid (show decide (a = b) = false from decide_eq_false fun e => hlen (by rw [e]))
    clear hlen
    go_enter Tryz.func15, Tryz.ntmps15
    go_wp2
    go_ret
    exact ⟨ret_bool HF.out, Below.refl _ _⟩
  case pos =>
    have h1 : ((a.length : Int) == (b.length : Int)) = true := by simp; omega
    have h2 : ((a.length : Int) != (b.length : Int)) = false := by rw [bne, h1]; rfl
    have HL := hid hlen
    clear hlen
    go_enter Tryz.func15, Tryz.ntmps15
    go_wp2
    go_loopw [5] (fun i wr => ∃ k : Nat, k ≤ a.length ∧ i = .int .i64 k ∧ a.take k = b.take k ∧ Below w.heap.size w wr) (fun i _ => a.length - (RowKit.intOf i).toNat)
    case atStart => exact ⟨0, by omega, rfl, rfl, Below.refl _ _⟩
    case round =>
      obtain ⟨k, hk, rfl, htk, hbl⟩ := hrel
      have HT := hid htk
      have HW := hid hbl
      clear htk
      by_cases hlt : k < a.length
      · have hltb : k < b.length := by rw [← HL.out]; exact hlt
        obtain ⟨b1, o1, rfl, hb1, g1, _⟩ := HA.out _ hbl k hlt
        obtain ⟨b2, o2, rfl, hb2, g2, _⟩ := HB.out _ hbl k hltb
        have HN := hid (show a[k] ≠ b[k] → decide (a = b) = false from fun h => decide_eq_false fun e => h (by subst e; rfl))
        have HS := hid (show a[k] = b[k] → a.take (k + 1) = b.take (k + 1) from fun h => by rw [List.take_succ_eq_append_getElem hlt, List.take_succ_eq_append_getElem hltb, HT.out, h])
        have k2 : (0 : Int) ≤ (k : Int) := by omega
        have k3 : (k : Int) < (a.length : Int) := by omega
        have k4 : (k : Int) < (b.length : Int) := by omega
        clear HA HB hbl HT
        generalize a[k] = y at *
        generalize b[k] = z at *
        by_cases hy : y = z
        · subst hy
          have HS2 := hid (HS.out rfl)
          clear HS HN
          go_wp2
          go_quiet (fail)
          go_wp2
          go_round
          case rel => exact ⟨k + 1, by omega, by go_num, HS2.out, bel_drewN HW.out _⟩
          case measure => simp [RowKit.intOf]; omega
        · have HN2 := hid (HN.out hy)
          have e1 : (y == z) = false := by simpa using hy
          have e2 : (y != z) = true := by rw [bne, e1]; rfl
          clear HS HN hy
          go_wp2
          go_quiet (fail)
          go_wp2
          go_ret
          exact ⟨ret_bool HN2.out, bel_drewN HW.out _⟩
      · have hke : k = a.length := by omega
        have HF := hid (show decide (a = b) = true from decide_eq_true (by
          have := HT.out
          rwa [hke, List.take_length, HL.out, List.take_length] at this))
        clear hke HA HB hbl
        go_wp2
        go_ret
        exact ⟨ret_bool HF.out, HW.out⟩
end Go.Proofs.YtpnogmicfomofaaGreatDoor.Stp
/-
  Layer 44: whether all needs are steps, on both sides. Conditions: those ahead of each theorem.
-/
namespace Go.Proofs.YtpnogmicfomofaaGreatDoor.Stp
open Go.RowKit Go.Sort Go.Lib Go.Maps
open Go.Lib (hid)
set_option linter.unusedVariables false
set_option linter.unusedSimpArgs false

def inR (n : Nat) (x : Int) : Bool := decide (0 ≤ x) && decide (x < n)
def rightS (ss : List St) : Bool := ss.all fun s => s.needs.all (inR ss.length)
theorem rightS_no {ss : List St} {k q : Nat} (hk : k < ss.length) (hq : q < (ss[k]).needs.length) (h : inR ss.length (ss[k]).needs[q] = false) : rightS ss = false := by
  unfold rightS
  rw [List.all_eq_false]
  refine ⟨_, List.getElem_mem hk, ?_⟩
  rw [Bool.not_eq_true, List.all_eq_false]
  exact ⟨_, List.getElem_mem hq, by rw [h]; simp⟩
theorem rightS_ok {ss : List St} (h : ∀ j (hj : j < ss.length), (ss[j]).needs.all (inR ss.length) = true) : rightS ss = true := by
  unfold rightS
  rw [List.all_eq_true]
  intro s hs
  obtain ⟨j, hj, rfl⟩ := List.mem_iff_getElem.1 hs
  exact h j hj
theorem all_in {n : Nat} {l : List Int} (h : ∀ q (hq : q < l.length), inR n l[q] = true) : l.all (inR n) = true := by
  rw [List.all_eq_true]
  intro x hx
  obtain ⟨q, hq, rfl⟩ := List.mem_iff_getElem.1 hx
  exact h q hq

set_option maxHeartbeats 4000000 in
theorem rright_any (v : Value) (ss : List St) (w : World) (hS : Sl StR 3 w v ss) :
    Calls Tryz.prog 35 #[v] w fun e w' => e = .returned (.bool (rightS ss)) ∧ w' = w := by
  obtain ⟨r, c, rfl, _⟩ := id hS
  obtain ⟨_, hl, hm⟩ := sl_len hS
  have HE := hid (st_at hS)
  clear hS
  go_enter Tryz.func35, Tryz.ntmps35
  go_wp2
  go_loop [3] (fun i => ∃ k : Nat, k ≤ ss.length ∧ i = .int .i64 k ∧ Hid (∀ j (hj : j < ss.length), j < k → (ss[j]).needs.all (inR ss.length) = true)) (fun i => ss.length - (RowKit.intOf i).toNat)
  case atStart => exact ⟨0, by omega, rfl, hid (fun j hj h => absurd h (by omega))⟩
  case round =>
    obtain ⟨k, hk, rfl, HA⟩ := hrel
    by_cases hlt : k < ss.length
    · obtain ⟨b, off, rn, cn, rfl, hb, g0, g1, g2, hn, _⟩ := HE.out k hlt
      obtain ⟨_, hn1, hn2⟩ := sl_len hn
      have HNo := hid (fun q hq h => rightS_no (q := q) hlt hq h)
      have HAl := hid (fun (h : (ss[k]).needs.all (inR ss.length) = true) => show ∀ j (hj : j < ss.length), j < k + 1 → (ss[j]).needs.all (inR ss.length) = true from fun j hj hjk => by
        by_cases e : j < k
        · exact HA.out j hj e
        · obtain rfl : j = k := by omega
          exact h)
      have HI := hid (int_at hn)
      have k2 : (0 : Int) ≤ (k : Int) := by omega
      have k3 : (k : Int) < (ss.length : Int) := by omega
      clear hn
      generalize ss[k] = s at *
      go_wp2
      go_loop [4] (fun i => ∃ q : Nat, q ≤ s.needs.length ∧ i = .int .i64 q ∧ Hid (∀ j (hj : j < s.needs.length), j < q → inR ss.length s.needs[j] = true)) (fun i => s.needs.length - (RowKit.intOf i).toNat)
      case atStart => exact ⟨0, by omega, rfl, hid (fun j hj h => absurd h (by omega))⟩
      case round =>
        obtain ⟨q, hq, rfl, HQ⟩ := hrel
        by_cases hltq : q < s.needs.length
        · obtain ⟨b2, o2, rfl, hb2, n0, hib⟩ := HI.out q hltq
          have HN := hid (HNo.out q hltq)
          have HX := hid (fun (h : inR ss.length s.needs[q] = true) => show ∀ j (hj : j < s.needs.length), j < q + 1 → inR ss.length s.needs[j] = true from fun j hj hjq => by
            by_cases e : j < q
            · exact HQ.out j hj e
            · obtain rfl : j = q := by omega
              exact h)
          have q2 : (0 : Int) ≤ (q : Int) := by omega
          have q3 : (q : Int) < (s.needs.length : Int) := by omega
          generalize s.needs[q] = x at *
          by_cases hx0 : x < 0
          · have HR := hid (HN.out (by unfold inR; rw [decide_eq_false (by omega)]; rfl))
            clear HN HX
            go_wp2
            go_ret
            exact ⟨ret_bool HR.out, rfl⟩
          · by_cases hx1 : (ss.length : Int) ≤ x
            · have HR := hid (HN.out (by unfold inR; rw [decide_eq_false (p := x < (ss.length : Int)) (by omega), Bool.and_false]))
              clear HN HX
              go_wp2
              go_ret
              exact ⟨ret_bool HR.out, rfl⟩
            · have HR := hid (HX.out (by unfold inR; rw [decide_eq_true (by omega), decide_eq_true (by omega)]; rfl))
              clear HN HX
              go_wp2
              go_round
              case rel => exact ⟨q + 1, by omega, by go_num, HR⟩
              case measure => simp [RowKit.intOf]; omega
        · obtain rfl : q = s.needs.length := by omega
          have HR := hid (HAl.out (all_in fun j hj => HQ.out j hj hj))
          go_wp2
          go_round
          case rel => exact ⟨k + 1, by omega, by go_num, HR⟩
          case measure => simp [RowKit.intOf]; omega
    · obtain rfl : k = ss.length := by omega
      have HR := hid (rightS_ok fun j hj => HA.out j hj hj)
      go_wp2
      go_ret
      exact ⟨ret_bool HR.out, rfl⟩
set_option maxHeartbeats 4000000 in
theorem indexes_any (v : Value) (ss : List St) (w : World) (hS : Sl StR 3 w v ss) :
    Calls Tryz.prog 32 #[v] w fun e w' => e = .returned (.bool (rightS ss)) ∧ Below w.heap.size w w' := by
  obtain ⟨r, c, rfl, _⟩ := id hS
  obtain ⟨_, hl, hm⟩ := sl_len hS
  have HE := hid (fun (W : World) (hW : Below w.heap.size w W) => st_at (hS.below stR_mono hW))
  clear hS
  go_enter Tryz.func32, Tryz.ntmps32
  go_wp2
  go_loopw [9] (fun i wr => ∃ k : Nat, k ≤ ss.length ∧ i = .int .i64 k ∧ Hid (Below w.heap.size w wr) ∧ Hid (∀ j (hj : j < ss.length), j < k → (ss[j]).needs.all (inR ss.length) = true)) (fun i _ => ss.length - (RowKit.intOf i).toNat)
  case atStart => exact ⟨0, by omega, rfl, hid (Below.refl _ _), hid (fun j hj h => absurd h (by omega))⟩
  case round =>
    obtain ⟨k, hk, rfl, HB, HA⟩ := hrel
    by_cases hlt : k < ss.length
    · obtain ⟨b, off, rn, cn, rfl, hb, g0, g1, g2, hn, _⟩ := HE.out _ HB.out k hlt
      obtain ⟨_, hn1, hn2⟩ := sl_len hn
      have HNo := hid (fun q hq h => rightS_no (q := q) hlt hq h)
      have HAl := hid (fun (h : (ss[k]).needs.all (inR ss.length) = true) => show ∀ j (hj : j < ss.length), j < k + 1 → (ss[j]).needs.all (inR ss.length) = true from fun j hj hjk => by
        by_cases e : j < k
        · exact HA.out j hj e
        · obtain rfl : j = k := by omega
          exact h)
      have k2 : (0 : Int) ≤ (k : Int) := by omega
      have k3 : (k : Int) < (ss.length : Int) := by omega
      have HN := hid hn
      clear hn
      generalize ss[k] = s at *
      have hal : Below wr.heap.size wr (wr.alloc (.cells #[.int .i64 s.change, .int .i64 s.op, .slice rn s.needs.length cn] 48)) := (Below.refl _ _).alloc (Nat.le_refl _) _
      have HI := hid (int_at (HN.out.below intR_mono hal))
      have HB2 := hid (HB.out.trans (hal.mono HB.out.size))
      clear hal
      go_wp2
      generalize (wr.alloc (.cells #[.int .i64 s.change, .int .i64 s.op, .slice rn s.needs.length cn] 48)) = W2 at *
      clear g0 g1 g2
      go_loop [16] (fun i => ∃ q : Nat, q ≤ s.needs.length ∧ i = .int .i64 q ∧ Hid (∀ j (hj : j < s.needs.length), j < q → inR ss.length s.needs[j] = true)) (fun i => s.needs.length - (RowKit.intOf i).toNat)
      case atStart => exact ⟨0, by omega, rfl, hid (fun j hj h => absurd h (by omega))⟩
      case round =>
        obtain ⟨q, hq, rfl, HQ⟩ := hrel
        by_cases hltq : q < s.needs.length
        · obtain ⟨b2, o2, rfl, hb2, n0, hib⟩ := HI.out q hltq
          have HNq := hid (HNo.out q hltq)
          have HX := hid (fun (h : inR ss.length s.needs[q] = true) => show ∀ j (hj : j < s.needs.length), j < q + 1 → inR ss.length s.needs[j] = true from fun j hj hjq => by
            by_cases e : j < q
            · exact HQ.out j hj e
            · obtain rfl : j = q := by omega
              exact h)
          have q2 : (0 : Int) ≤ (q : Int) := by omega
          have q3 : (q : Int) < (s.needs.length : Int) := by omega
          generalize s.needs[q] = x at *
          by_cases hx0 : x < 0
          · have HR := hid (HNq.out (by unfold inR; rw [decide_eq_false (by omega)]; rfl))
            clear HNq HX
            go_wp2
            go_ret
            exact ⟨ret_bool HR.out, HB2.out⟩
          · by_cases hx1 : (ss.length : Int) ≤ x
            · have HR := hid (HNq.out (by unfold inR; rw [decide_eq_false (p := x < (ss.length : Int)) (by omega), Bool.and_false]))
              clear HNq HX
              go_wp2
              go_ret
              exact ⟨ret_bool HR.out, HB2.out⟩
            · have HR := hid (HX.out (by unfold inR; rw [decide_eq_true (by omega), decide_eq_true (by omega)]; rfl))
              clear HNq HX
              go_wp2
              go_round
              case rel => exact ⟨q + 1, by omega, by go_num, HR⟩
              case measure => simp [RowKit.intOf]; omega
        · obtain rfl : q = s.needs.length := by omega
          have HR := hid (HAl.out (all_in fun j hj => HQ.out j hj hj))
          go_wp2
          go_roundw
          case rel => exact ⟨k + 1, by omega, by go_num, HB2, HR⟩
          case measure => simp [RowKit.intOf]; omega
    · obtain rfl : k = ss.length := by omega
      have HR := hid (rightS_ok fun j hj => HA.out j hj hj)
      go_wp2
      go_ret
      exact ⟨ret_bool HR.out, HB.out⟩
end Go.Proofs.YtpnogmicfomofaaGreatDoor.Stp
/-
  Own slices of numbers at whatever offset: cut at the head, cut at the end, appended to. Conditions: those ahead of each theorem.
-/
namespace Go.Proofs.YtpnogmicfomofaaGreatDoor.Stp
open Go.RowKit Go.Sort Go.Lib Go.Maps
open Go.Lib (hid)
set_option linter.unusedVariables false
set_option linter.unusedSimpArgs false

theorem frozen_of {w : World} {b : Nat} {C : Array Value} {E : TypeId} (h : w.heap[b]? = some (.cells C E (0, 0))) (o : Nat) : w.frozen? ⟨b, o, none⟩ = false := by unfold World.frozen?; simp [h]
theorem cell_of {w : World} {b : Nat} {C : Array Value} {E : TypeId} {fr : Nat × Nat} (h : w.heap[b]? = some (.cells C E fr)) (o : Nat) : w.cell? ⟨b, o, none⟩ = C[o]? := by unfold World.cell?; simp [h]
theorem heap_setCells_ne (g : Nat) {b : Nat} : ∀ (vs : List Value) (o : Nat) (w : World), b ≠ g → (w.setCells g o vs).heap[b]? = w.heap[b]?
  | [], _, _, _ => rfl
  | v :: vs, o, w, h => by rw [World.setCells, heap_setCells_ne g vs (o + 1) _ h, Below.heap_setCell _ _ _ _ h]
theorem size_setCells' (g : Nat) : ∀ (vs : List Value) (o : Nat) (w : World), (w.setCells g o vs).heap.size = w.heap.size
  | [], _, _ => rfl
  | v :: vs, o, w => by rw [World.setCells, size_setCells' g vs (o + 1) _]; simp [World.setCell]
theorem same_setCells (g : Nat) : ∀ (vs : List Value) (o : Nat) (w : World), (w.setCells g o vs).os = w.os ∧ (w.setCells g o vs).tape = w.tape ∧ (w.setCells g o vs).output = w.output
  | [], _, _ => ⟨rfl, rfl, rfl⟩
  | v :: vs, o, w => by rw [World.setCells]; exact same_setCells g vs (o + 1) _
/-- An own slice of numbers, at whatever offset of its block. -/
structure OwnJ (B : Nat) (w : World) (v : Value) (xs : List Int) : Prop where
  ex : ∃ r cap, v = .slice r xs.length cap ∧ xs.length ≤ cap ∧ cap ≤ maxLen ∧ (r = none → cap = 0) ∧ (∀ x ∈ xs, IB x) ∧
    ∀ a, r = some a → ∃ g o, a = ⟨g, o, none⟩ ∧ B ≤ g ∧ g < w.heap.size ∧ (∀ i (h : i < xs.length), w.cell? ⟨g, o + i, none⟩ = some (.int .i64 xs[i])) ∧ ∀ j, j < cap → (w.cell? ⟨g, o + j, none⟩).isSome = true ∧ w.frozen? ⟨g, o + j, none⟩ = false
theorem OwnJ.form {B : Nat} {w : World} {v : Value} {xs : List Int} (h : OwnJ B w v xs) : ∃ r cap, v = .slice r xs.length cap ∧ xs.length ≤ cap ∧ cap ≤ 9223372036854775807 := by
  obtain ⟨r, cap, h1, h2, h3, _⟩ := h.ex
  unfold maxLen at h3
  exact ⟨r, cap, h1, h2, by omega⟩
theorem OwnJ.lt {B : Nat} {w : World} {v : Value} {xs : List Int} (h : OwnJ B w v xs) : ∀ g, v.ownBlock = some g → B ≤ g ∧ g < w.heap.size := by
  obtain ⟨r, cap, rfl, _, _, _, _, h6⟩ := h.ex
  intro g hg
  cases r with
  | none => simp [Value.ownBlock] at hg
  | some a =>
    obtain ⟨g', o, rfl, h7, h8, _⟩ := h6 a rfl
    simp [Value.ownBlock] at hg
    subst hg
    exact ⟨h7, h8⟩
theorem OwnJ.kept {B : Nat} {w w' : World} {v : Value} {row : Option Nat} {xs : List Int} (h : OwnJ B w v xs) (hg : w.grownBy w' row) (hr : ∀ g, v.ownBlock = some g → row ≠ some g) : OwnJ B w' v xs := by
  obtain ⟨r, cap, rfl, h2, h3, h4, h5, h6⟩ := h.ex
  refine ⟨r, cap, rfl, h2, h3, h4, h5, fun a ha => ?_⟩
  subst ha
  obtain ⟨g, o, rfl, h7, h8, h9, h10⟩ := h6 a rfl
  have hne : ∀ k, row = some k → k ≠ g := fun k hk e => hr g rfl (by rw [hk, e])
  refine ⟨g, o, rfl, h7, Nat.lt_of_lt_of_le h8 hg.size, fun i hi => grown_cell hg h8 hne (h9 i hi), fun j hj => ?_⟩
  obtain ⟨k1, k2⟩ := h10 j hj
  obtain ⟨u, hu⟩ := Option.isSome_iff_exists.1 k1
  exact ⟨by rw [grown_cell hg h8 hne hu]; rfl, by rw [grown_frozen hg h8 hne]; exact k2⟩
theorem OwnJ.below {B : Nat} {w w' : World} {v : Value} {xs : List Int} (h : OwnJ B w v xs) (hb : Below w.heap.size w w') : OwnJ B w' v xs := h.kept (grown_below hb) (fun _ _ h => by cases h)
theorem encI_flat (xs : List Int) : xs.flatMap encI = xs.map (Value.int .i64) := by
  induction xs with
  | nil => rfl
  | cons x xs ih => rw [List.flatMap_cons, ih]; rfl
theorem OwnI.toJ {B : Nat} {w : World} {v : Value} {xs : List Int} (h : OwnI B w v xs) : OwnJ B w v xs := by
  obtain ⟨h1, h2⟩ := h
  rcases h1.2 with ⟨rfl, h0⟩ | ⟨g, cap, cur, rfl, hb, hg, hn, hc, hs, ht⟩
  · have : xs = [] := List.eq_nil_of_length_eq_zero h0
    subst this
    exact ⟨none, 0, rfl, by simp, by simp, fun _ => rfl, by simp, fun a ha => by cases ha⟩
  · refine ⟨some ⟨g, 0, none⟩, cap, rfl, hn, hc, (fun h => by cases h), h2, fun a ha => ?_⟩
    cases ha
    refine ⟨g, 0, rfl, hb, lt_of_block hg, fun i hi => ?_, fun j hj => ⟨?_, frozen_of hg _⟩⟩
    · rw [cell_of hg]
      have h3 := flat_get encI 1 encI_len xs i hi 0 (by omega)
      rw [← ht, List.getElem?_take, if_pos (by omega), Array.getElem?_toList] at h3
      rw [Nat.zero_add]
      simpa [encI] using h3
    · rw [cell_of hg, Array.getElem?_eq_getElem (by omega)]; rfl
theorem OwnJ.head {B : Nat} {w : World} {v : Value} {x : Int} {xs : List Int} (h : OwnJ B w v (x :: xs)) : ∃ g o cap, v = .slice (some ⟨g, o, none⟩) (xs.length + 1) cap ∧ xs.length + 1 ≤ cap ∧ cap ≤ 9223372036854775807 ∧ w.cell? ⟨g, o, none⟩ = some (.int .i64 x) ∧ IB x := by
  obtain ⟨r, cap, rfl, h2, h3, h4, h5, h6⟩ := h.ex
  simp only [List.length_cons] at h2
  cases r with
  | none => have := h4 rfl; omega
  | some a =>
    obtain ⟨g, o, rfl, h7, h8, h9, h10⟩ := h6 a rfl
    have := h9 0 (by simp)
    unfold maxLen at h3
    exact ⟨g, o, cap, rfl, h2, by omega, by simpa using this, h5 x (by simp)⟩
theorem OwnJ.tail {B : Nat} {w : World} {g o cap n : Nat} {x : Int} {xs : List Int} (h : OwnJ B w (.slice (some ⟨g, o, none⟩) n cap) (x :: xs)) :
    (cap ≠ 1 → OwnJ B w (.slice (some ⟨g, o + 1, none⟩) xs.length (cap - 1)) xs) ∧ (cap = 1 → xs = [] ∧ OwnJ B w (.slice (some ⟨g, o, none⟩) 0 0) xs) := by
  obtain ⟨r, cap', e, h2, h3, h4, h5, h6⟩ := h.ex
  simp only [List.length_cons] at h2
  simp at e
  obtain ⟨rfl, rfl, rfl⟩ := e
  obtain ⟨g', o', e, h7, h8, h9, h10⟩ := h6 _ rfl
  simp at e
  obtain ⟨rfl, rfl⟩ := e
  refine ⟨fun hc => ⟨some ⟨g, o + 1, none⟩, cap - 1, rfl, by omega, by omega, (fun h => by cases h), fun y hy => h5 y (List.mem_cons_of_mem _ hy), fun a ha => ?_⟩, fun hc => ?_⟩
  · cases ha
    refine ⟨g, o + 1, rfl, h7, h8, fun i hi => ?_, fun j hj => ?_⟩
    · have := h9 (i + 1) (by simpa using hi)
      rw [show o + (i + 1) = o + 1 + i by omega] at this
      simpa using this
    · have := h10 (j + 1) (by omega)
      rw [show o + (j + 1) = o + 1 + j by omega] at this
      exact this
  · have h0 : xs = [] := List.eq_nil_of_length_eq_zero (by omega)
    subst h0
    refine ⟨rfl, ⟨some ⟨g, o, none⟩, 0, rfl, by simp, by simp, (fun h => by cases h), by simp, fun a ha => ?_⟩⟩
    cases ha
    exact ⟨g, o, rfl, h7, h8, fun i hi => absurd hi (by simp), fun j hj => absurd hj (by omega)⟩
theorem OwnJ.init {B : Nat} {w : World} {r : Option Addr} {cap n : Nat} {x : Int} {xs : List Int} (h : OwnJ B w (.slice r n cap) (xs ++ [x])) : OwnJ B w (.slice r xs.length cap) xs := by
  obtain ⟨r', cap', e, h2, h3, h4, h5, h6⟩ := h.ex
  simp at e
  obtain ⟨rfl, rfl, rfl⟩ := e
  refine ⟨r, cap, rfl, by simp at h2; omega, h3, h4, fun y hy => h5 y (by simp [hy]), fun a ha => ?_⟩
  obtain ⟨g, o, e, h7, h8, h9, h10⟩ := h6 a ha
  refine ⟨g, o, e, h7, h8, fun i hi => ?_, h10⟩
  have := h9 i (by simp; omega)
  rw [List.getElem_append_left hi] at this
  exact this
theorem OwnJ.last {B : Nat} {w : World} {v : Value} {x : Int} {xs : List Int} (h : OwnJ B w v (xs ++ [x])) : ∃ g o cap, v = .slice (some ⟨g, o, none⟩) (xs.length + 1) cap ∧ xs.length + 1 ≤ cap ∧ cap ≤ 9223372036854775807 ∧ w.cell? ⟨g, o + xs.length, none⟩ = some (.int .i64 x) ∧ IB x := by
  obtain ⟨r, cap, rfl, h2, h3, h4, h5, h6⟩ := h.ex
  simp only [List.length_append, List.length_singleton] at h2
  cases r with
  | none => have := h4 rfl; omega
  | some a =>
    obtain ⟨g, o, rfl, h7, h8, h9, h10⟩ := h6 a rfl
    have := h9 xs.length (by simp)
    unfold maxLen at h3
    exact ⟨g, o, cap, by simp, h2, by omega, by simpa using this, h5 x (by simp)⟩
theorem OwnJ.setBelow {B : Nat} {w : World} {v : Value} {xs : List Int} (h : OwnJ B w v xs) {a : Addr} (ha : a.block < B) (u : Value) : OwnJ B (w.setCell a u) v xs := by
  refine h.kept (row := some a.block) ⟨rfl, rfl, rfl, by simp [World.setCell], fun k hk hne => Below.heap_setCell _ _ _ _ (fun e => hne (by rw [e]))⟩ fun g hg e => ?_
  have := (h.lt g hg).1
  cases e
  omega
theorem grown_any {w w' : World} (h : w.grownBy w' none) (row : Option Nat) : w.grownBy w' row := ⟨h.os, h.tape, h.output, h.size, fun k hk _ => h.block k hk (by simp)⟩

/-- What one more leaves. -/
def MoreJ (B : Nat) (w : World) (v : Value) (xs : List Int) (v' : Value) (w' : World) : Prop :=
  OwnJ B w' v' xs ∧ w.grownBy w' v.ownBlock ∧ ∀ g, v'.ownBlock = some g → v.ownBlock = some g ∨ w.heap.size ≤ g
theorem app_j {w : World} {ops : Array Oper} {rest : List Oper} {o : Oper} {a : Act} {Q : Exit → Act → World → Prop} (hgd : o.guard = none) (s x : Operand) (ho : o.op = .call { callee := .builtin .append, args := #[s, x], argTypes := #[40, 40] })
    (B : Nat) (v : Value) (xs : List Int) (hs : a.eval s = v) (hown : OwnJ B w v xs) (nb c : Nat) (y : Int) (hx : a.eval x = .slice (some ⟨nb, 0, none⟩) 1 c) {fr : Nat × Nat} (hy : w.heap[nb]? = some (.cells #[.int .i64 y] 3 fr)) (hys : IB y)
    (hn : xs.length + 1 ≤ 1000000) (hbase : B ≤ w.heap.size)
    (h : ∀ v' w', MoreJ B w v (xs ++ [y]) v' w' → wpList Tryz.prog ops Q rest (a.put o.dst v') w') : wpList Tryz.prog ops Q (o :: rest) a w := by
  obtain ⟨i0, hi, hz0, hz1, hz2⟩ := info_parts intinfo
  obtain ⟨r, cap, rfl, h2, h3, h4, h5, h6⟩ := hown.ex
  have hnews : ∀ j u, ([Value.int .i64 y] : List Value)[j]? = some u → w.cell? ((⟨nb, 0, none⟩ : Addr).add j) = some u := fun j u hj => World.news_of_block hy j u (by simpa using hj)
  have hone : ∀ u ∈ ([Value.int .i64 y] : List Value), u.oneCell' = true := fun u hu => by simp at hu; subst hu; rfl
  have hsz : ∀ z ∈ xs ++ [y], IB z := fun z hz => by
    rw [List.mem_append] at hz
    rcases hz with hz | hz
    · exact h5 z hz
    · simp at hz; subst hz; exact hys
  have hadd : ∀ b o j : Nat, (⟨b, o, none⟩ : Addr).add j = ⟨b, o + j, none⟩ := fun b o j => by unfold Addr.add; by_cases h : j = 0 <;> simp [h]
  have grow : ∀ v' w', w'.ownsRow w.heap.size 3 1 v' (xs.length + 1) (xs.map (Value.int .i64) ++ [.int .i64 y]) → w.grownBy w' none → MoreJ B w (.slice r xs.length cap) (xs ++ [y]) v' w' := fun v' w' h1 h2 => by
    have ho : OwnI w.heap.size w' v' (xs ++ [y]) := ⟨by rw [encI_flat]; simpa using h1, hsz⟩
    refine ⟨?_, grown_any h2 _, fun g hg => Or.inr (ho.lt g hg).1⟩
    obtain ⟨r', cap', e, k2, k3, k4, k5, k6⟩ := ho.toJ.ex
    refine ⟨r', cap', e, k2, k3, k4, k5, fun a ha => ?_⟩
    obtain ⟨g, o, e, k7, k8⟩ := k6 a ha
    exact ⟨g, o, e, by omega, k8⟩
  by_cases hr : xs.length + 1 ≤ cap
  · obtain ⟨a0, rfl⟩ : ∃ a0, r = some a0 := by
      cases r with
      | none => have := h4 rfl; omega
      | some a0 => exact ⟨a0, rfl⟩
    obtain ⟨g, off, rfl, h7, h8, h9, h10⟩ := h6 _ rfl
    refine wpList_append_arg w hgd s x 40 ho 3 i0 (.int .i64 0) 1 8 Tryz.underlying40 hi hz0 hz1 hz2 rfl (by omega) g off xs.length cap (xs.map (Value.int .i64)) hs (by simp) (fun j u hj => ?_) ⟨nb, 0, none⟩ 1 c [.int .i64 y] hx rfl hnews hone (fun _ j hj => ?_) (by unfold maxLen; omega) (by omega) (fun _ => ?_) (fun hh => by omega)
    · rw [List.getElem?_map] at hj
      cases hx : xs[j]? with
      | none => rw [hx] at hj; cases hj
      | some z =>
        rw [hx] at hj
        obtain ⟨hjl, rfl⟩ := List.getElem?_eq_some_iff.1 hx
        rw [h9 j hjl]; simpa using hj
    · have hj0 : j = 0 := by simpa using hj
      subst hj0
      have := h10 xs.length (by omega)
      simpa using this
    · have hcells : ∀ j, j < ([Value.int .i64 y] : List Value).length → (w.cell? ⟨g, off + xs.length * 1 + j, none⟩).isSome = true := fun j hj => by
        have hj0 : j = 0 := by simpa using hj
        subst hj0
        have := (h10 xs.length (by omega)).1
        simpa using this
      refine h _ _ ⟨⟨some ⟨g, off, none⟩, cap, by simp, by simpa using hr, h3, (fun h => by cases h), hsz, fun a ha => ?_⟩, ⟨(same_setCells g _ _ _).1, (same_setCells g _ _ _).2.1, (same_setCells g _ _ _).2.2, by rw [size_setCells']; exact Nat.le_refl _, fun k hk hne => heap_setCells_ne _ _ _ _ (fun e => hne (by rw [e]; rfl))⟩, fun g' hg' => Or.inl hg'⟩
      cases ha
      refine ⟨g, off, rfl, h7, by rw [size_setCells']; exact h8, fun i hi => ?_, fun j hj => ?_⟩
      · by_cases hix : i < xs.length
        · rw [World.cell?_setCells_out _ _ _ _ _ (fun _ _ => Or.inl (by simp only; omega)), h9 i hix, List.getElem_append_left hix]
        · have hie : i = xs.length := by simp at hi; omega
          subst hie
          have := World.cell?_setCells_in g [Value.int .i64 y] (off + xs.length * 1) w hcells 0 (by simp)
          simp only [Nat.mul_one, Nat.add_zero] at this
          rw [Nat.mul_one, this]
          simp
      · rw [World.frozen?_setCells]
        refine ⟨?_, (h10 j hj).2⟩
        by_cases hjx : j = xs.length
        · subst hjx
          have := World.cell?_setCells_in g [Value.int .i64 y] (off + xs.length * 1) w hcells 0 (by simp)
          simp only [Nat.mul_one, Nat.add_zero] at this
          rw [Nat.mul_one, this]; rfl
        · rw [World.cell?_setCells_out _ _ _ _ _ (fun _ _ => by simp only [List.length_singleton]; omega)]
          exact (h10 j hj).1
  · refine wpList_append_grows w hgd s x 40 ho 3 i0 (.int .i64 0) 1 8 Tryz.underlying40 hi hz0 hz1 hz2 rfl (by omega) r xs.length cap (xs.map (Value.int .i64)) hs (fun hr0 => ⟨by have := h4 hr0; omega, h4 hr0⟩) (by simp) (fun b hb j u hj => ?_) ⟨nb, 0, none⟩ 1 c [.int .i64 y] hx rfl hnews hone (by omega) (by unfold maxLen; omega) (by omega) (fun v' w' k1 k2 => h v' w' (grow v' w' k1 k2))
    obtain ⟨g, off, rfl, h7, h8, h9, h10⟩ := h6 _ hb
    rw [hadd]
    rw [List.getElem?_map] at hj
    cases hx : xs[j]? with
    | none => rw [hx] at hj; cases hj
    | some z =>
      rw [hx] at hj
      obtain ⟨hjl, rfl⟩ := List.getElem?_eq_some_iff.1 hx
      rw [h9 j hjl]; simpa using hj
end Go.Proofs.YtpnogmicfomofaaGreatDoor.Stp
/-
  Layer 44: what both sides of Before stand on: the marks, the needs of a step, what is still to do. Conditions: those ahead of each theorem.
-/
namespace Go.Proofs.YtpnogmicfomofaaGreatDoor.Stp
open Go.RowKit Go.Sort Go.Lib Go.Maps
open Go.Lib (hid)
set_option linter.unusedVariables false
set_option linter.unusedSimpArgs false

theorem own_of {w : World} {g n cap sz B : Nat} {E : TypeId} {X xs : List Value} (h : w.heap[g]? = some (.cells X.toArray E (0, 0))) (hB : B ≤ g) (hn : n ≤ cap) (hc : cap ≤ maxLen) (hX : X.length = cap * sz) (hl : xs.length = n * sz) (ht : X.take (n * sz) = xs) : w.ownsRow B E sz (.slice (some ⟨g, 0, none⟩) n cap) n xs :=
  ⟨hl, Or.inr ⟨g, cap, X.toArray, rfl, hB, h, hn, hc, by simpa using hX, by simpa using ht⟩⟩
theorem own_int1 (w : World) (B : Nat) (y : Int) (hB : B ≤ w.heap.size) (hy : IB y) : OwnI B (w.alloc (.cells #[.int .i64 y] 3)) (.slice (some ⟨w.heap.size, 0, none⟩) 1 1) [y] :=
  ⟨own_of (X := [.int .i64 y]) (MapKept.heap_alloc w _).1 hB (by omega) (by unfold maxLen; omega) rfl rfl rfl, fun x hx => by simp at hx; subst hx; exact hy⟩
/-- The marks. -/
structure Mk (M n : Nat) (sn : List Nat) (w : World) : Prop where
  lt : M < w.heap.size
  cell : ∀ i, i < n → w.cell? ⟨M, i, none⟩ = some (.bool (hasN i sn))
  free : ∀ o, w.frozen? ⟨M, o, none⟩ = false
theorem Mk.below {M n : Nat} {sn : List Nat} {w w' : World} (h : Mk M n sn w) (hb : Below w.heap.size w w') : Mk M n sn w' :=
  ⟨Nat.lt_of_lt_of_le h.lt hb.size, fun i hi => bget hb (h.cell i hi), fun o => (hb.frozen (p := ⟨M, o, none⟩) h.lt).trans (h.free o)⟩
theorem Mk.grown {M n : Nat} {sn : List Nat} {w w' : World} {row : Option Nat} (h : Mk M n sn w) (hg : w.grownBy w' row) (hr : row ≠ some M) : Mk M n sn w' := by
  have hne : ∀ k, row = some k → k ≠ M := fun k hk e => hr (by rw [hk, e])
  exact ⟨Nat.lt_of_lt_of_le h.lt hg.size, fun i hi => grown_cell hg h.lt hne (h.cell i hi), fun o => by rw [grown_frozen hg h.lt hne]; exact h.free o⟩
theorem Mk.set {M n : Nat} {sn : List Nat} {w : World} (h : Mk M n sn w) {y : Nat} (hy : y < n) : Mk M n (sn ++ [y]) (w.setCell ⟨M, y, none⟩ (.bool true)) := by
  refine ⟨by simpa [World.setCell] using h.lt, fun i hi => ?_, fun o => by simpa using h.free o⟩
  by_cases e : y = i
  · subst e
    rw [scell_same (h.cell y hy), hasN_iff.2 (by simp : y ∈ sn ++ [y])]
  · rw [scell_ne e, h.cell i hi]
    have h2 : hasN i [y] = false := by cases h : hasN i [y] with | false => rfl | true => exact absurd (hasN_iff.1 h) (by simp; exact fun h => e h.symm)
    rw [hasN_app, h2, Bool.or_false]
theorem boolinfo : (Tryz.prog.info? 4).map (fun i => (i.zero, i.size, i.bytes)) = some (some (.bool false), 1, 1) := by kernel_rfl
theorem Mk.made {w : World} {C : Array Value} {n : Nat} (hC : ∀ (k j : Nat) (u : Value), k < n → (Value.bool false).cells[j]? = some u → C[k * 1 + j]? = some u) : Mk w.heap.size n [] (w.alloc (.cells C 4)) := by
  refine ⟨by simp, fun i hi => ?_, fun o => by simp⟩
  have := hC i 0 (.bool false) hi rfl
  unfold World.cell?
  rw [(MapKept.heap_alloc w _).1]
  simpa [hasN] using this

/-- What the steps need, as numbers of steps. -/
def nls (ss : List St) : List (List Nat) := ss.map fun s => s.needs.map Int.toNat
theorem nls_len (ss : List St) : (nls ss).length = ss.length := by simp [nls]
theorem nd_nls {ss : List St} {x : Nat} (hx : x < ss.length) : nd (nls ss) x = (ss[x]).needs.map Int.toNat := by
  unfold nd nls
  rw [List.getD_eq_getElem?_getD]
  simp [hx]
theorem nd_out {ss : List St} {x : Nat} (hx : ¬ x < ss.length) : nd (nls ss) x = [] := by
  unfold nd nls
  rw [List.getD_eq_getElem?_getD, List.getElem?_eq_none (by simp; omega)]
  rfl
theorem rightS_in {ss : List St} (h : rightS ss = true) {x : Nat} (hx : x < ss.length) : ∀ z ∈ (ss[x]).needs, 0 ≤ z ∧ z < ss.length := by
  unfold rightS at h
  rw [List.all_eq_true] at h
  intro z hz
  have := h _ (List.getElem_mem hx)
  rw [List.all_eq_true] at this
  have := this z hz
  unfold inR at this
  rw [Bool.and_eq_true] at this
  exact ⟨of_decide_eq_true this.1, of_decide_eq_true this.2⟩
theorem nd_lt {ss : List St} (h : rightS ss = true) (x : Nat) : ∀ y ∈ nd (nls ss) x, y < ss.length := by
  intro y hy
  by_cases hx : x < ss.length
  · rw [nd_nls hx, List.mem_map] at hy
    obtain ⟨z, hz, rfl⟩ := hy
    have := rightS_in h hx z hz
    omega
  · rw [nd_out hx] at hy; cases hy
/-- The needs of a step in memory. -/
theorem need_at {w : World} {r : Option Addr} {n c : Nat} {ss : List St} (h : Sl StR 3 w (.slice r n c) ss) (hr : rightS ss = true) (x : Nat) (hx : x < ss.length) :
    ∃ b off rn cn, r = some ⟨b, off, none⟩ ∧ b < w.heap.size ∧ w.cell? ⟨b, off + x * 3 + 2, none⟩ = some (.slice rn (nd (nls ss) x).length cn) ∧ (nd (nls ss) x).length ≤ cn ∧ cn ≤ 9223372036854775807 ∧
      ∀ W, Below w.heap.size w W → ∀ k (hk : k < (nd (nls ss) x).length), ∃ b2 o2, rn = some ⟨b2, o2, none⟩ ∧ b2 < W.heap.size ∧ W.cell? ⟨b2, o2 + k, none⟩ = some (.int .i64 (((nd (nls ss) x)[k] : Nat) : Int)) ∧ (nd (nls ss) x)[k] < ss.length := by
  obtain ⟨b, off, rn, cn, e, hb, _, _, g2, hn, _⟩ := st_at h x hx
  obtain ⟨_, hn1, hn2⟩ := sl_len hn
  have hlen : (nd (nls ss) x).length = (ss[x]).needs.length := by rw [nd_nls hx, List.length_map]
  refine ⟨b, off, rn, cn, e, hb, by rw [hlen]; exact g2, by rw [hlen]; exact hn1, hn2, fun W hW k hk => ?_⟩
  obtain ⟨b2, o2, e2, hb2, g, _⟩ := int_at (hn.below intR_mono hW) k (by omega)
  have hz := rightS_in hr hx _ (List.getElem_mem (show k < (ss[x]).needs.length by omega))
  have hk2 : (nd (nls ss) x)[k] = ((ss[x]).needs[k]'(by omega)).toNat := by
    have := nd_nls hx
    simp only [this, List.getElem_map]
  refine ⟨b2, o2, e2, hb2, ?_, by rw [hk2]; omega⟩
  rw [hk2, g, Int.toNat_of_nonneg hz.1]
/-- Whether a step is before another one. -/
noncomputable def befS (ss : List St) (a b : Int) : Bool := rightS ss && inR ss.length a && inR ss.length b && befN (nls ss) a.toNat b.toNat
theorem befS_no {ss : List St} {a b : Int} (h : rightS ss = false ∨ inR ss.length a = false ∨ inR ss.length b = false) : befS ss a b = false := by
  unfold befS
  rcases h with h | h | h <;> rw [h] <;> simp
theorem inR_no {n : Nat} {x : Int} (h : x < 0 ∨ (n : Int) ≤ x) : inR n x = false := by
  unfold inR
  rcases h with h | h
  · rw [decide_eq_false (by omega)]; rfl
  · rw [decide_eq_false (p := x < (n : Int)) (by omega), Bool.and_false]
theorem inR_nat {n k : Nat} (h : k < n) : inR n (k : Int) = true := by
  unfold inR
  rw [decide_eq_true (by omega), decide_eq_true (by omega)]; rfl
theorem befS_ok {ss : List St} {a b : Nat} (hr : rightS ss = true) (ha : a < ss.length) (hb : b < ss.length) : befS ss a b = befN (nls ss) a b := by
  unfold befS
  rw [hr, inR_nat ha, inR_nat hb]; rfl
theorem befN_yes {N : List (List Nat)} {a b : Nat} (h : ∃ n, Wn (nd N) (n + 1) b a) : befN N a b = true := befN_iff.2 h
theorem befN_none {N : List (List Nat)} {a b : Nat} (h : ¬ ∃ n, Wn (nd N) (n + 1) b a) : befN N a b = false := by
  cases hh : befN N a b with
  | false => rfl
  | true => exact absurd (befN_iff.1 hh) h
/-- What holds at the heads of the loops of Before. -/
structure BefI (n M G : Nat) (w wr : World) (vo : Value) (sn L : List Nat) : Prop where
  bel : Below w.heap.size w wr
  sz : M + 1 ≤ wr.heap.size
  mks : Mk M n sn wr
  own : OwnJ (M + 1) wr vo (L.map Nat.cast)
  inb : ∀ x ∈ L, x < n
  len : L.length + remN (List.range n) sn ≤ n + 1
  ms : 2 * remN (List.range n) sn + L.length ≤ G
theorem ib_nat {k : Nat} (h : k ≤ 1000000) : IB (k : Int) := ⟨by omega, by omega⟩
end Go.Proofs.YtpnogmicfomofaaGreatDoor.Stp
