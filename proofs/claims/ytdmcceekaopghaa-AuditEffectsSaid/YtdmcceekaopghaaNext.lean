/-
  Contracts of audit.counted and audit.next. Conditions: those ahead of each theorem.
-/
import Derived.Test.YtdmcceekaopghaaAud
namespace Go.Proofs.Ytdmcceekaopghaa
open Go.RowKit Go.Sort

theorem counted_any (e : Ev) (w : World) :
    Calls Try.prog 24 #[.agg e.cells.toArray] w fun r w' => r = .returned (.bool (cnt e.kind)) ∧ Below w.heap.size w w' := by
  obtain ⟨k, st, op, ad, id, er⟩ := e
  simp only [Ev.cells]
  by_cases h1 : k = 1
  · subst h1
    go_enter Try.func24, Try.ntmps24; go_wp2; go_ret
    exact ⟨rfl, (Below.refl _ _).alloc (Nat.le_refl _) _⟩
  by_cases h2 : k = 3
  · subst h2
    go_enter Try.func24, Try.ntmps24; go_wp2; go_ret
    exact ⟨rfl, (Below.refl _ _).alloc (Nat.le_refl _) _⟩
  by_cases h3 : k = 4
  · subst h3
    go_enter Try.func24, Try.ntmps24; go_wp2; go_ret
    exact ⟨rfl, (Below.refl _ _).alloc (Nat.le_refl _) _⟩
  have e1 : (k == 1) = false := by simpa using h1
  have e2 : (k == 3) = false := by simpa using h2
  have e3 : (k == 4) = false := by simpa using h3
  have e4 := Lib.hid (show cnt k = (k == 5) by simp [cnt, e1, e2, e3])
  clear h1 h2 h3
  go_enter Try.func24, Try.ntmps24; go_wp2; go_ret
  exact ⟨ret_bool e4.out, (Below.refl _ _).alloc (Nat.le_refl _) _⟩

theorem next_ends (ss : List St) (ts : List Tal) (kind : Int) (k : Nat) (op : Int) (ad id : ByteArray) (er : Int) (vS vT : Value) (w : World)
    (hT : Sl TalR 3 w vT ts) (hk : k < ts.length) (hkind : kind = 3 ∨ kind = 4) :
    Calls Try.prog 25 #[vS, vT, .agg #[.int .i64 kind, .int .i64 k, .int .i64 op, .string ad, .string id, .int .i64 er]] w fun r w' => r = .returned (.bool (nxt ss ts kind k)) ∧ Below w.heap.size w w' := by
  obtain ⟨rT, capT, rfl, _, hm, hT⟩ := hT
  unfold maxLen at hm
  obtain ⟨b, off, cs, rfl, _, hc, hR⟩ := hT k hk
  simp only [TalR] at hR
  subst hR
  have g0 := hc 0 _ rfl
  have g1 := hc 1 _ rfl
  have g2 := hc 2 _ rfl
  simp only [Nat.add_zero] at g0
  have hb := World.block_lt_of_cell? w _ g0
  simp at hb
  have hX := Lib.hid (show nxt ss ts kind k = (ts[k]).opn by simp only [nxt, hkind, if_true, List.getD_eq_getElem?_getD, List.getElem?_eq_getElem hk]; rfl)
  clear hc hT
  generalize ts[k] = t at *
  obtain ⟨tev, to, td⟩ := t
  simp only at g0 g1 g2 hX
  rcases hkind with h | h <;> subst h
  all_goals
    go_enter Try.func25, Try.ntmps25
    go_wp2
    go_ret
    exact ⟨ret_bool hX.out, ((Below.refl _ _).alloc (Nat.le_refl _) _).alloc (by simp) _⟩

theorem next_begun (ss : List St) (ts : List Tal) (kind : Int) (k : Nat) (op : Int) (ad id : ByteArray) (er : Int) (vS vT : Value) (w : World)
    (hT : Sl TalR 3 w vT ts) (hk : k < ts.length) (hkind : ¬ (kind = 3 ∨ kind = 4)) (hev : 0 < (ts.getD k t0).ev) :
    Calls Try.prog 25 #[vS, vT, .agg #[.int .i64 kind, .int .i64 k, .int .i64 op, .string ad, .string id, .int .i64 er]] w fun r w' => r = .returned (.bool (nxt ss ts kind k)) ∧ Below w.heap.size w w' := by
  obtain ⟨rT, capT, rfl, _, hm, hT⟩ := hT
  unfold maxLen at hm
  obtain ⟨b, off, cs, rfl, _, hc, hR⟩ := hT k hk
  simp only [TalR] at hR
  subst hR
  have g0 := hc 0 _ rfl
  have g1 := hc 1 _ rfl
  have g2 := hc 2 _ rfl
  simp only [Nat.add_zero] at g0
  have hb := World.block_lt_of_cell? w _ g0
  simp at hb
  have hX := Lib.hid (show nxt ss ts kind k = false by simp only [nxt, hkind, if_false, hev, if_true])
  rw [List.getD_eq_getElem?_getD, List.getElem?_eq_getElem hk] at hev
  clear hc hT
  generalize ts[k] = t at *
  obtain ⟨tev, to, td⟩ := t
  simp only [Option.getD_some] at g0 g1 g2 hev
  have e2 : (kind == 3) = false := by simp; omega
  have e3 : (kind == 4) = false := by simp; omega
  clear hkind
  go_enter Try.func25, Try.ntmps25
  go_wp2
  go_ret
  exact ⟨ret_bool hX.out, ((Below.refl _ _).alloc (Nat.le_refl _) _).alloc (by simp) _⟩

theorem next_skip (ss : List St) (ts : List Tal) (k : Nat) (op : Int) (ad id : ByteArray) (er : Int) (vS vT : Value) (w : World)
    (hT : Sl TalR 3 w vT ts) (hk : k < ts.length) (hev : ¬ 0 < (ts.getD k t0).ev) :
    Calls Try.prog 25 #[vS, vT, .agg #[.int .i64 5, .int .i64 k, .int .i64 op, .string ad, .string id, .int .i64 er]] w fun r w' => r = .returned (.bool (nxt ss ts 5 k)) ∧ Below w.heap.size w w' := by
  obtain ⟨rT, capT, rfl, _, hm, hT⟩ := hT
  unfold maxLen at hm
  obtain ⟨b, off, cs, rfl, _, hc, hR⟩ := hT k hk
  simp only [TalR] at hR
  subst hR
  have g0 := hc 0 _ rfl
  have g1 := hc 1 _ rfl
  have g2 := hc 2 _ rfl
  simp only [Nat.add_zero] at g0
  have hb := World.block_lt_of_cell? w _ g0
  simp at hb
  have hX := Lib.hid (show nxt ss ts 5 k = true by simp only [nxt, hev, if_false, if_true]; rfl)
  rw [List.getD_eq_getElem?_getD, List.getElem?_eq_getElem hk] at hev
  clear hc hT
  generalize ts[k] = t at *
  obtain ⟨tev, to, td⟩ := t
  simp only [Option.getD_some] at g0 g1 g2 hev
  go_enter Try.func25, Try.ntmps25
  go_wp2
  go_ret
  exact ⟨ret_bool hX.out, ((Below.refl _ _).alloc (Nat.le_refl _) _).alloc (by simp) _⟩

theorem next_needs (ss : List St) (ts : List Tal) (kind : Int) (k : Nat) (op : Int) (ad id : ByteArray) (er : Int) (vS vT : Value) (w : World)
    (hS : Sl StR 3 w vS ss) (hT : Sl TalR 3 w vT ts) (hk : k < ts.length) (hks : k < ss.length) (hkind : ¬ (kind = 3 ∨ kind = 4)) (h5 : ¬ kind = 5) (hev : ¬ 0 < (ts.getD k t0).ev)
    (hn : ∀ n ∈ (ss.getD k s0).needs, 0 ≤ n ∧ n < ts.length) :
    Calls Try.prog 25 #[vS, vT, .agg #[.int .i64 kind, .int .i64 k, .int .i64 op, .string ad, .string id, .int .i64 er]] w fun r w' => r = .returned (.bool (nxt ss ts kind k)) ∧ Below w.heap.size w w' := by
  have hT0 := hT
  obtain ⟨rT, capT, rfl, hlT, hm, hT⟩ := hT
  unfold maxLen at hm
  obtain ⟨b, off, cs, rfl, _, hc, hR⟩ := hT k hk
  simp only [TalR] at hR
  subst hR
  have g0 := hc 0 _ rfl
  have g1 := hc 1 _ rfl
  have g2 := hc 2 _ rfl
  simp only [Nat.add_zero] at g0
  have hb := World.block_lt_of_cell? w _ g0
  simp at hb
  have hX := Lib.hid (show nxt ss ts kind k = (ss.getD k s0).needs.all fun n => (ts.getD n.toNat t0).dn by simp only [nxt, hev, hkind, h5, if_false])
  rw [List.getD_eq_getElem?_getD, List.getElem?_eq_getElem hk] at hev
  clear hc
  generalize ts[k] = t at *
  obtain ⟨tev, to, td⟩ := t
  simp only [Option.getD_some] at g0 g1 g2 hev
  have e2 : (kind == 3) = false := by simp; omega
  have e3 : (kind == 4) = false := by simp; omega
  have e4 : (kind == 5) = false := by simp; omega
  clear hkind h5
  obtain ⟨rS, capS, rfl, hlS, hmS, hS⟩ := hS
  unfold maxLen at hmS
  obtain ⟨bS, offS, csS, rfl, _, hcS, vN, hcsS, hN⟩ := hS k hks
  subst hcsS
  have k2 := hcS 2 _ rfl
  have hbS := World.block_lt_of_cell? w _ k2
  simp at hbS
  rw [List.getD_eq_getElem?_getD, List.getElem?_eq_getElem hks, Option.getD_some] at hn hX
  clear hcS hS
  generalize ss[k] = s at *
  obtain ⟨_, _, needs⟩ := s
  simp only at hN hn hX
  obtain ⟨rN, capN, rfl, hlN, hmN, hNe⟩ := hN
  unfold maxLen at hmN
  have HN := Lib.hid hn
  clear hn
  go_enter Try.func25, Try.ntmps25
  go_wp2
  go_loop [38] (fun i => ∃ j : Nat, j ≤ needs.length ∧ i = .int .i64 j ∧ ((needs.take j).all fun n => (ts.getD n.toNat t0).dn) = true) (fun i => needs.length - (intOf i).toNat)
  case atStart => exact ⟨0, by omega, rfl, rfl⟩
  case round =>
    obtain ⟨j, hj, rfl, hall⟩ := hrel
    have HA := Lib.hid hall
    clear hall
    by_cases hlt : j < needs.length
    · obtain ⟨bn, on, csn, rfl, _, hcn, hxn, _, _⟩ := hNe j hlt
      have kn := hcn 0 _ hxn
      simp only [Nat.mul_one, Nat.add_zero] at kn
      have hbn := World.block_lt_of_cell? w _ kn
      simp at hbn
      obtain ⟨hn0, hn1⟩ := HN.out _ (List.getElem_mem hlt)
      have HT := Lib.hid (show (needs.take (j + 1)).all (fun n => (ts.getD n.toNat t0).dn) = ((needs.take j).all (fun n => (ts.getD n.toNat t0).dn) && (ts.getD (needs[j]).toNat t0).dn) by
        rw [List.take_succ_eq_append_getElem hlt, List.all_append]; simp)
      have HF := Lib.hid (show (ts.getD (needs[j]).toNat t0).dn = false → (needs.all fun n => (ts.getD n.toNat t0).dn) = false from fun h => by
        rw [List.all_eq_false]; exact ⟨_, List.getElem_mem hlt, by simpa using h⟩)
      generalize needs[j] = q at *
      obtain ⟨Q, rfl⟩ : ∃ Q : Nat, q = Q := ⟨q.toNat, by omega⟩
      simp only [Int.toNat_natCast] at HT HF
      have hQ : Q < ts.length := by omega
      obtain ⟨b', off', cs', hr, _, hc', hR'⟩ := hT Q hQ
      simp at hr
      obtain ⟨rfl, rfl⟩ := hr
      simp only [TalR] at hR'
      subst hR'
      have m2 := hc' 2 _ rfl
      rw [List.getD_eq_getElem?_getD, List.getElem?_eq_getElem hQ, Option.getD_some] at HT HF
      clear hc' hn0 hn1
      cases hd : (ts[Q]).dn
      · rw [hd] at m2
        have HF2 := Lib.hid (HF.out hd)
        clear hd HF HT
        go_wp2
        go_ret
        exact ⟨ret_bool (hX.out.trans HF2.out), ((Below.refl _ _).alloc (Nat.le_refl _) _).alloc (by simp) _⟩
      · rw [hd] at m2
        have HT2 := Lib.hid (HT.out.trans (by rw [HA.out, hd]))
        clear hd HF HT
        go_wp2
        go_round
        case rel => exact ⟨j + 1, by omega, by go_num, HT2.out⟩
        case measure => simp [intOf]; omega
    · have hje : j = needs.length := by omega
      have HF2 := Lib.hid (show (needs.all fun n => (ts.getD n.toNat t0).dn) = true by have := HA.out; rwa [hje, List.take_length] at this)
      clear hje
      go_wp2
      go_ret
      exact ⟨ret_bool (hX.out.trans HF2.out), ((Below.refl _ _).alloc (Nat.le_refl _) _).alloc (by simp) _⟩

theorem next_any (ss : List St) (ts : List Tal) (kind : Int) (k : Nat) (op : Int) (ad id : ByteArray) (er : Int) (vS vT : Value) (w : World)
    (hS : Sl StR 3 w vS ss) (hT : Sl TalR 3 w vT ts) (hk : k < ts.length) (hks : k < ss.length) (hn : ∀ n ∈ (ss.getD k s0).needs, 0 ≤ n ∧ n < ts.length) :
    Calls Try.prog 25 #[vS, vT, .agg #[.int .i64 kind, .int .i64 k, .int .i64 op, .string ad, .string id, .int .i64 er]] w fun r w' => r = .returned (.bool (nxt ss ts kind k)) ∧ Below w.heap.size w w' := by
  by_cases h34 : kind = 3 ∨ kind = 4
  · exact next_ends ss ts kind k op ad id er vS vT w hT hk h34
  by_cases hev : 0 < (ts.getD k t0).ev
  · exact next_begun ss ts kind k op ad id er vS vT w hT hk h34 hev
  by_cases h5 : kind = 5
  · subst h5; exact next_skip ss ts k op ad id er vS vT w hT hk hev
  · exact next_needs ss ts kind k op ad id er vS vT w hS hT hk hks h34 h5 hev hn

theorem counted_at (kind st op : Int) (ad id : ByteArray) (er : Int) (w : World) :
    Calls Try.prog 24 #[.agg #[.int .i64 kind, .int .i64 st, .int .i64 op, .string ad, .string id, .int .i64 er]] w fun r w' => r = .returned (.bool (cnt kind)) ∧ Below w.heap.size w w' :=
  counted_any ⟨kind, st, op, ad, id, er⟩ w
end Go.Proofs.Ytdmcceekaopghaa
