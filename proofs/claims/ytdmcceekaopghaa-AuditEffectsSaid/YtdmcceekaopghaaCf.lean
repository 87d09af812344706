/-
  slices.ContainsFunc and IndexFunc at the structs of the audit layer and whatever predicate that makes memory at most. Conditions: those ahead of each theorem. (The walk follows the shelf's own text at a struct.)
-/
import Derived.Test.YtdmcceekaopghaaAud
import Derived.Shelf.GgClosure.Gives
import Derived.Shelf.SlicesQ.Load
namespace Go.Proofs.Ytdmcceekaopghaa
open Go.RowKit Go.Sort Go.Lib
open Go.Lib (hid)

structure Sv where
  a : Option Addr
  n : Nat
  c : Nat
def Sv.val (s : Sv) : Value := .slice s.a s.n s.c
structure Vl where
  kind : Int
  num : Int
  str : ByteArray
  items : Sv
  keys : Sv
structure Ob where
  id : ByteArray
  typ : ByteArray
  tok : ByteArray
  at_ : Vl
  ver : Int
def Ob.cells (o : Ob) : List Value := [.string o.id, .string o.typ, .string o.tok, .int .i64 o.at_.kind, .int .i64 o.at_.num, .string o.at_.str, o.at_.items.val, o.at_.keys.val, .int .i64 o.ver]
structure Pe where
  addr : ByteArray
  typ : ByteArray
  tok : ByteArray
def Pe.cells (o : Pe) : List Value := [.string o.addr, .string o.typ, .string o.tok]
structure In where
  addr : ByteArray
  dep : ByteArray
  id : ByteArray
  typ : ByteArray
  at_ : Vl
  ver : Int
  taint : Bool
  cf : Bool
  deps : Sv
def In.cells (o : In) : List Value := [.string o.addr, .string o.dep, .string o.id, .string o.typ, .int .i64 o.at_.kind, .int .i64 o.at_.num, .string o.at_.str, o.at_.items.val, o.at_.keys.val, .int .i64 o.ver, .bool o.taint, .bool o.cf, o.deps.val]

set_option maxHeartbeats 1000000 in
theorem index_ob (p : Ob → Bool) (g : Nat) (lb : Array Value) (eg : ∀ args w, (callFunc g args).run Try.prog w = .ok (.enter g args) w) (v : Value) (xs : List Ob) (w : World)
    (hS : Sl (fun _ cs (x : Ob) => cs = x.cells) 9 w v xs) (hp : ∀ (W : World) (x : Ob), Below w.heap.size w W → Calls Try.prog g (#[.agg x.cells.toArray] ++ lb) W fun e w' => e = .returned (.bool (p x)) ∧ Below w.heap.size w w') :
    Calls Try.prog 44 #[v, .func (.func g) #[] lb] w fun e w' => (∃ k : Int, e = .returned (.int .i64 k) ∧ decide (0 ≤ k) = xs.any p) ∧ Below w.heap.size w w' := by
  obtain ⟨r, cap, rfl, hl, hm, he⟩ := hS
  unfold maxLen at hm
  have hrow : ∀ (W : World), Below w.heap.size w W → ∀ (j : Nat) (hj : j < xs.length), ∃ b off, r = some ⟨b, off, none⟩ ∧ Aside (∀ (i : Nat) (u : Value), (xs[j]).cells[i]? = some u → W.cell? ⟨b, off + j * 9 + i, none⟩ = some u) := fun W hW j hj => by
    obtain ⟨b, off, cs, hr, hs, hc, hx⟩ := he j hj
    exact ⟨b, off, hr, fun i v hi => bget hW (hc i v (by rw [hx]; exact hi))⟩
  clear he
  go_enter Try.func44, Try.ntmps44
  go_wp2
  go_loopg [5, 8] xs.length (fun gg _ s8 wr => ∃ kk : Nat, kk ≤ xs.length ∧ xs.length - kk ≤ gg ∧ s8 = .int .i64 kk ∧ Aside (Below w.heap.size w wr) ∧ Aside ((xs.take kk).any p = false))
  case atStart => exact ⟨0, Nat.zero_le _, by omega, rfl, Below.refl _ w, rfl⟩
  case round =>
    obtain ⟨kk, hkk, hg, rfl, BW, A⟩ := hrel
    by_cases hlt : kk < xs.length
    · have hltz : (kk : Int) < (xs.length : Int) := by omega
      obtain ⟨b, off, rfl, l2⟩ := hrow wr BW.out kk hlt
      have hcall := hp wr (xs[kk]) BW.out
      have HT : Aside ((xs.take (kk + 1)).any p = p (xs[kk])) := by
        show _ = _
        rw [List.take_succ_eq_append_getElem hlt, List.any_append, A.out]; simp
      have HY : Aside (p (xs[kk]) = true → xs.any p = true) := fun h => List.any_eq_true.2 ⟨_, List.getElem_mem hlt, h⟩
      clear hrow hp
      generalize xs[kk] = y at *
      obtain ⟨yid, ytyp, ytok, ⟨yk, yn, ys, yi, ye⟩, yv⟩ := y
      have g0 := l2.out 0 _ rfl
      have g1 := l2.out 1 _ rfl
      have g2 := l2.out 2 _ rfl
      have g3 := l2.out 3 _ rfl
      have g4 := l2.out 4 _ rfl
      have g5 := l2.out 5 _ rfl
      have g6 := l2.out 6 _ rfl
      have g7 := l2.out 7 _ rfl
      have g8 := l2.out 8 _ rfl
      simp only [Nat.add_zero] at g0
      simp only [Ob.cells] at hcall
      clear l2
      cases hq : p (⟨yid, ytyp, ytok, ⟨yk, yn, ys, yi, ye⟩, yv⟩ : Ob) with
      | true =>
        rw [hq] at hcall
        have HY2 : Aside (xs.any p = true) := HY.out hq
        clear HY HT hq
        go_wp2_with (go_at_fn g; refine hcall.mono ?_; rintro e w' ⟨rfl, hb'⟩)
        go_ret
        exact ⟨⟨kk, rfl, by rw [HY2.out]; simp⟩, hb'⟩
      | false =>
        rw [hq] at hcall
        have HT2 : Aside ((xs.take (kk + 1)).any p = false) := HT.out.trans hq
        clear HY HT hq
        go_wp2_with (go_at_fn g; refine hcall.mono ?_; rintro e w' ⟨rfl, hb'⟩)
        go_roundg (xs.length - (kk + 1))
        case measure => omega
        case rel => exact ⟨kk + 1, by omega, by omega, by go_num, hb', HT2⟩
    · have hltz : ¬ (kk : Int) < (xs.length : Int) := by omega
      have hk : kk = xs.length := by omega
      have HX : Aside (xs.any p = false) := by have := A.out; rw [hk, List.take_length] at this; exact this
      clear hk A
      go_wp2
      go_ret
      exact ⟨⟨-1, rfl, by rw [HX.out]; rfl⟩, BW.out⟩

theorem contains_ob (p : Ob → Bool) (g : Nat) (lb : Array Value) (eg : ∀ args w, (callFunc g args).run Try.prog w = .ok (.enter g args) w) (v : Value) (xs : List Ob) (w : World)
    (hS : Sl (fun _ cs (x : Ob) => cs = x.cells) 9 w v xs) (hp : ∀ (W : World) (x : Ob), Below w.heap.size w W → Calls Try.prog g (#[.agg x.cells.toArray] ++ lb) W fun e w' => e = .returned (.bool (p x)) ∧ Below w.heap.size w w') :
    Calls Try.prog 28 #[v, .func (.func g) #[] lb] w fun e w' => e = .returned (.bool (xs.any p)) ∧ Below w.heap.size w w' := by
  have hi := Lib.hid (index_ob p g lb eg v xs w hS hp)
  clear hS hp
  go_enter Try.func28, Try.ntmps28
  go_wp2_with fail
  refine hi.out.mono ?_
  rintro e w' ⟨⟨k, rfl, hk⟩, hb⟩
  have HK := Lib.hid hk
  clear hk
  go_wp2
  go_ret
  exact ⟨ret_bool HK.out.symm, hb⟩

set_option maxHeartbeats 1000000 in
theorem index_pe (p : Pe → Bool) (g : Nat) (lb : Array Value) (eg : ∀ args w, (callFunc g args).run Try.prog w = .ok (.enter g args) w) (v : Value) (xs : List Pe) (w : World)
    (hS : Sl (fun _ cs (x : Pe) => cs = x.cells) 3 w v xs) (hp : ∀ (W : World) (x : Pe), Below w.heap.size w W → Calls Try.prog g (#[.agg x.cells.toArray] ++ lb) W fun e w' => e = .returned (.bool (p x)) ∧ Below w.heap.size w w') :
    Calls Try.prog 45 #[v, .func (.func g) #[] lb] w fun e w' => (∃ k : Int, e = .returned (.int .i64 k) ∧ decide (0 ≤ k) = xs.any p) ∧ Below w.heap.size w w' := by
  obtain ⟨r, cap, rfl, hl, hm, he⟩ := hS
  unfold maxLen at hm
  have hrow : ∀ (W : World), Below w.heap.size w W → ∀ (j : Nat) (hj : j < xs.length), ∃ b off, r = some ⟨b, off, none⟩ ∧ Aside (∀ (i : Nat) (u : Value), (xs[j]).cells[i]? = some u → W.cell? ⟨b, off + j * 3 + i, none⟩ = some u) := fun W hW j hj => by
    obtain ⟨b, off, cs, hr, hs, hc, hx⟩ := he j hj
    exact ⟨b, off, hr, fun i v hi => bget hW (hc i v (by rw [hx]; exact hi))⟩
  clear he
  go_enter Try.func45, Try.ntmps45
  go_wp2
  go_loopg [5, 8] xs.length (fun gg _ s8 wr => ∃ kk : Nat, kk ≤ xs.length ∧ xs.length - kk ≤ gg ∧ s8 = .int .i64 kk ∧ Aside (Below w.heap.size w wr) ∧ Aside ((xs.take kk).any p = false))
  case atStart => exact ⟨0, Nat.zero_le _, by omega, rfl, Below.refl _ w, rfl⟩
  case round =>
    obtain ⟨kk, hkk, hg, rfl, BW, A⟩ := hrel
    by_cases hlt : kk < xs.length
    · have hltz : (kk : Int) < (xs.length : Int) := by omega
      obtain ⟨b, off, rfl, l2⟩ := hrow wr BW.out kk hlt
      have hcall := hp wr (xs[kk]) BW.out
      have HT : Aside ((xs.take (kk + 1)).any p = p (xs[kk])) := by
        show _ = _
        rw [List.take_succ_eq_append_getElem hlt, List.any_append, A.out]; simp
      have HY : Aside (p (xs[kk]) = true → xs.any p = true) := fun h => List.any_eq_true.2 ⟨_, List.getElem_mem hlt, h⟩
      clear hrow hp
      generalize xs[kk] = y at *
      obtain ⟨ya, yt, yo⟩ := y
      have g0 := l2.out 0 _ rfl
      have g1 := l2.out 1 _ rfl
      have g2 := l2.out 2 _ rfl
      simp only [Nat.add_zero] at g0
      simp only [Pe.cells] at hcall
      clear l2
      cases hq : p (⟨ya, yt, yo⟩ : Pe) with
      | true =>
        rw [hq] at hcall
        have HY2 : Aside (xs.any p = true) := HY.out hq
        clear HY HT hq
        go_wp2_with (go_at_fn g; refine hcall.mono ?_; rintro e w' ⟨rfl, hb'⟩)
        go_ret
        exact ⟨⟨kk, rfl, by rw [HY2.out]; simp⟩, hb'⟩
      | false =>
        rw [hq] at hcall
        have HT2 : Aside ((xs.take (kk + 1)).any p = false) := HT.out.trans hq
        clear HY HT hq
        go_wp2_with (go_at_fn g; refine hcall.mono ?_; rintro e w' ⟨rfl, hb'⟩)
        go_roundg (xs.length - (kk + 1))
        case measure => omega
        case rel => exact ⟨kk + 1, by omega, by omega, by go_num, hb', HT2⟩
    · have hltz : ¬ (kk : Int) < (xs.length : Int) := by omega
      have hk : kk = xs.length := by omega
      have HX : Aside (xs.any p = false) := by have := A.out; rw [hk, List.take_length] at this; exact this
      clear hk A
      go_wp2
      go_ret
      exact ⟨⟨-1, rfl, by rw [HX.out]; rfl⟩, BW.out⟩

theorem contains_pe (p : Pe → Bool) (g : Nat) (lb : Array Value) (eg : ∀ args w, (callFunc g args).run Try.prog w = .ok (.enter g args) w) (v : Value) (xs : List Pe) (w : World)
    (hS : Sl (fun _ cs (x : Pe) => cs = x.cells) 3 w v xs) (hp : ∀ (W : World) (x : Pe), Below w.heap.size w W → Calls Try.prog g (#[.agg x.cells.toArray] ++ lb) W fun e w' => e = .returned (.bool (p x)) ∧ Below w.heap.size w w') :
    Calls Try.prog 30 #[v, .func (.func g) #[] lb] w fun e w' => e = .returned (.bool (xs.any p)) ∧ Below w.heap.size w w' := by
  have hi := Lib.hid (index_pe p g lb eg v xs w hS hp)
  clear hS hp
  go_enter Try.func30, Try.ntmps30
  go_wp2_with fail
  refine hi.out.mono ?_
  rintro e w' ⟨⟨k, rfl, hk⟩, hb⟩
  have HK := Lib.hid hk
  clear hk
  go_wp2
  go_ret
  exact ⟨ret_bool HK.out.symm, hb⟩

set_option maxHeartbeats 1000000 in
theorem index_ins (p : In → Bool) (g : Nat) (lb : Array Value) (eg : ∀ args w, (callFunc g args).run Try.prog w = .ok (.enter g args) w) (v : Value) (xs : List In) (w : World)
    (hS : Sl (fun _ cs (x : In) => cs = x.cells) 13 w v xs) (hp : ∀ (W : World) (x : In), Below w.heap.size w W → Calls Try.prog g (#[.agg x.cells.toArray] ++ lb) W fun e w' => e = .returned (.bool (p x)) ∧ Below w.heap.size w w') :
    Calls Try.prog 68 #[v, .func (.func g) #[] lb] w fun e w' => (∃ k : Int, e = .returned (.int .i64 k) ∧ decide (0 ≤ k) = xs.any p) ∧ Below w.heap.size w w' := by
  obtain ⟨r, cap, rfl, hl, hm, he⟩ := hS
  unfold maxLen at hm
  have hrow : ∀ (W : World), Below w.heap.size w W → ∀ (j : Nat) (hj : j < xs.length), ∃ b off, r = some ⟨b, off, none⟩ ∧ Aside (∀ (i : Nat) (u : Value), (xs[j]).cells[i]? = some u → W.cell? ⟨b, off + j * 13 + i, none⟩ = some u) := fun W hW j hj => by
    obtain ⟨b, off, cs, hr, hs, hc, hx⟩ := he j hj
    exact ⟨b, off, hr, fun i v hi => bget hW (hc i v (by rw [hx]; exact hi))⟩
  clear he
  go_enter Try.func68, Try.ntmps68
  go_wp2
  go_loopg [5, 8] xs.length (fun gg _ s8 wr => ∃ kk : Nat, kk ≤ xs.length ∧ xs.length - kk ≤ gg ∧ s8 = .int .i64 kk ∧ Aside (Below w.heap.size w wr) ∧ Aside ((xs.take kk).any p = false))
  case atStart => exact ⟨0, Nat.zero_le _, by omega, rfl, Below.refl _ w, rfl⟩
  case round =>
    obtain ⟨kk, hkk, hg, rfl, BW, A⟩ := hrel
    by_cases hlt : kk < xs.length
    · have hltz : (kk : Int) < (xs.length : Int) := by omega
      obtain ⟨b, off, rfl, l2⟩ := hrow wr BW.out kk hlt
      have hcall := hp wr (xs[kk]) BW.out
      have HT : Aside ((xs.take (kk + 1)).any p = p (xs[kk])) := by
        show _ = _
        rw [List.take_succ_eq_append_getElem hlt, List.any_append, A.out]; simp
      have HY : Aside (p (xs[kk]) = true → xs.any p = true) := fun h => List.any_eq_true.2 ⟨_, List.getElem_mem hlt, h⟩
      clear hrow hp
      generalize xs[kk] = y at *
      obtain ⟨ya, yd, yid, yt, ⟨yk, yn, ys, yi, ye⟩, yv, yta, ycf, yde⟩ := y
      have g0 := l2.out 0 _ rfl
      have g1 := l2.out 1 _ rfl
      have g2 := l2.out 2 _ rfl
      have g3 := l2.out 3 _ rfl
      have g4 := l2.out 4 _ rfl
      have g5 := l2.out 5 _ rfl
      have g6 := l2.out 6 _ rfl
      have g7 := l2.out 7 _ rfl
      have g8 := l2.out 8 _ rfl
      have g9 := l2.out 9 _ rfl
      have g10 := l2.out 10 _ rfl
      have g11 := l2.out 11 _ rfl
      have g12 := l2.out 12 _ rfl
      simp only [Nat.add_zero] at g0
      simp only [In.cells] at hcall
      clear l2
      cases hq : p (⟨ya, yd, yid, yt, ⟨yk, yn, ys, yi, ye⟩, yv, yta, ycf, yde⟩ : In) with
      | true =>
        rw [hq] at hcall
        have HY2 : Aside (xs.any p = true) := HY.out hq
        clear HY HT hq
        go_wp2_with (go_at_fn g; refine hcall.mono ?_; rintro e w' ⟨rfl, hb'⟩)
        go_ret
        exact ⟨⟨kk, rfl, by rw [HY2.out]; simp⟩, hb'⟩
      | false =>
        rw [hq] at hcall
        have HT2 : Aside ((xs.take (kk + 1)).any p = false) := HT.out.trans hq
        clear HY HT hq
        go_wp2_with (go_at_fn g; refine hcall.mono ?_; rintro e w' ⟨rfl, hb'⟩)
        go_roundg (xs.length - (kk + 1))
        case measure => omega
        case rel => exact ⟨kk + 1, by omega, by omega, by go_num, hb', HT2⟩
    · have hltz : ¬ (kk : Int) < (xs.length : Int) := by omega
      have hk : kk = xs.length := by omega
      have HX : Aside (xs.any p = false) := by have := A.out; rw [hk, List.take_length] at this; exact this
      clear hk A
      go_wp2
      go_ret
      exact ⟨⟨-1, rfl, by rw [HX.out]; rfl⟩, BW.out⟩

theorem contains_ins (p : In → Bool) (g : Nat) (lb : Array Value) (eg : ∀ args w, (callFunc g args).run Try.prog w = .ok (.enter g args) w) (v : Value) (xs : List In) (w : World)
    (hS : Sl (fun _ cs (x : In) => cs = x.cells) 13 w v xs) (hp : ∀ (W : World) (x : In), Below w.heap.size w W → Calls Try.prog g (#[.agg x.cells.toArray] ++ lb) W fun e w' => e = .returned (.bool (p x)) ∧ Below w.heap.size w w') :
    Calls Try.prog 53 #[v, .func (.func g) #[] lb] w fun e w' => e = .returned (.bool (xs.any p)) ∧ Below w.heap.size w w' := by
  have hi := Lib.hid (index_ins p g lb eg v xs w hS hp)
  clear hS hp
  go_enter Try.func53, Try.ntmps53
  go_wp2_with fail
  refine hi.out.mono ?_
  rintro e w' ⟨⟨k, rfl, hk⟩, hb⟩
  have HK := Lib.hid hk
  clear hk
  go_wp2
  go_ret
  exact ⟨ret_bool HK.out.symm, hb⟩

set_option maxHeartbeats 1000000 in
theorem index_ev (p : Ev → Bool) (g : Nat) (lb : Array Value) (eg : ∀ args w, (callFunc g args).run Try.prog w = .ok (.enter g args) w) (v : Value) (xs : List Ev) (w : World)
    (hS : Sl (fun _ cs (x : Ev) => cs = x.cells) 6 w v xs) (hp : ∀ (W : World) (x : Ev), Below w.heap.size w W → Calls Try.prog g (#[.agg x.cells.toArray] ++ lb) W fun e w' => e = .returned (.bool (p x)) ∧ Below w.heap.size w w') :
    Calls Try.prog 70 #[v, .func (.func g) #[] lb] w fun e w' => (∃ k : Int, e = .returned (.int .i64 k) ∧ decide (0 ≤ k) = xs.any p) ∧ Below w.heap.size w w' := by
  obtain ⟨r, cap, rfl, hl, hm, he⟩ := hS
  unfold maxLen at hm
  have hrow : ∀ (W : World), Below w.heap.size w W → ∀ (j : Nat) (hj : j < xs.length), ∃ b off, r = some ⟨b, off, none⟩ ∧ Aside (∀ (i : Nat) (u : Value), (xs[j]).cells[i]? = some u → W.cell? ⟨b, off + j * 6 + i, none⟩ = some u) := fun W hW j hj => by
    obtain ⟨b, off, cs, hr, hs, hc, hx⟩ := he j hj
    exact ⟨b, off, hr, fun i v hi => bget hW (hc i v (by rw [hx]; exact hi))⟩
  clear he
  go_enter Try.func70, Try.ntmps70
  go_wp2
  go_loopg [5, 8] xs.length (fun gg _ s8 wr => ∃ kk : Nat, kk ≤ xs.length ∧ xs.length - kk ≤ gg ∧ s8 = .int .i64 kk ∧ Aside (Below w.heap.size w wr) ∧ Aside ((xs.take kk).any p = false))
  case atStart => exact ⟨0, Nat.zero_le _, by omega, rfl, Below.refl _ w, rfl⟩
  case round =>
    obtain ⟨kk, hkk, hg, rfl, BW, A⟩ := hrel
    by_cases hlt : kk < xs.length
    · have hltz : (kk : Int) < (xs.length : Int) := by omega
      obtain ⟨b, off, rfl, l2⟩ := hrow wr BW.out kk hlt
      have hcall := hp wr (xs[kk]) BW.out
      have HT : Aside ((xs.take (kk + 1)).any p = p (xs[kk])) := by
        show _ = _
        rw [List.take_succ_eq_append_getElem hlt, List.any_append, A.out]; simp
      have HY : Aside (p (xs[kk]) = true → xs.any p = true) := fun h => List.any_eq_true.2 ⟨_, List.getElem_mem hlt, h⟩
      clear hrow hp
      generalize xs[kk] = y at *
      obtain ⟨yk, yst, yop, ya, yid, yer⟩ := y
      have g0 := l2.out 0 _ rfl
      have g1 := l2.out 1 _ rfl
      have g2 := l2.out 2 _ rfl
      have g3 := l2.out 3 _ rfl
      have g4 := l2.out 4 _ rfl
      have g5 := l2.out 5 _ rfl
      simp only [Nat.add_zero] at g0
      simp only [Ev.cells] at hcall
      clear l2
      cases hq : p (⟨yk, yst, yop, ya, yid, yer⟩ : Ev) with
      | true =>
        rw [hq] at hcall
        have HY2 : Aside (xs.any p = true) := HY.out hq
        clear HY HT hq
        go_wp2_with (go_at_fn g; refine hcall.mono ?_; rintro e w' ⟨rfl, hb'⟩)
        go_ret
        exact ⟨⟨kk, rfl, by rw [HY2.out]; simp⟩, hb'⟩
      | false =>
        rw [hq] at hcall
        have HT2 : Aside ((xs.take (kk + 1)).any p = false) := HT.out.trans hq
        clear HY HT hq
        go_wp2_with (go_at_fn g; refine hcall.mono ?_; rintro e w' ⟨rfl, hb'⟩)
        go_roundg (xs.length - (kk + 1))
        case measure => omega
        case rel => exact ⟨kk + 1, by omega, by omega, by go_num, hb', HT2⟩
    · have hltz : ¬ (kk : Int) < (xs.length : Int) := by omega
      have hk : kk = xs.length := by omega
      have HX : Aside (xs.any p = false) := by have := A.out; rw [hk, List.take_length] at this; exact this
      clear hk A
      go_wp2
      go_ret
      exact ⟨⟨-1, rfl, by rw [HX.out]; rfl⟩, BW.out⟩

theorem contains_ev (p : Ev → Bool) (g : Nat) (lb : Array Value) (eg : ∀ args w, (callFunc g args).run Try.prog w = .ok (.enter g args) w) (v : Value) (xs : List Ev) (w : World)
    (hS : Sl (fun _ cs (x : Ev) => cs = x.cells) 6 w v xs) (hp : ∀ (W : World) (x : Ev), Below w.heap.size w W → Calls Try.prog g (#[.agg x.cells.toArray] ++ lb) W fun e w' => e = .returned (.bool (p x)) ∧ Below w.heap.size w w') :
    Calls Try.prog 56 #[v, .func (.func g) #[] lb] w fun e w' => e = .returned (.bool (xs.any p)) ∧ Below w.heap.size w w' := by
  have hi := Lib.hid (index_ev p g lb eg v xs w hS hp)
  clear hS hp
  go_enter Try.func56, Try.ntmps56
  go_wp2_with fail
  refine hi.out.mono ?_
  rintro e w' ⟨⟨k, rfl, hk⟩, hb⟩
  have HK := Lib.hid hk
  clear hk
  go_wp2
  go_ret
  exact ⟨ret_bool HK.out.symm, hb⟩
end Go.Proofs.Ytdmcceekaopghaa
