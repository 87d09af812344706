import Derived.Test.YtpnogmicfomofaaGreatDoorY1
import Derived.Deep.Quiet
import Derived.Lib.QuietBelow
import Derived.ChangeKeysEq
import Derived.Deep.MidRow
set_option linter.unusedVariables false
set_option linter.unusedSimpArgs false
namespace Go.Proofs.YtpnogmicfomofaaGreatDoor.Stp
open Go.RowKit Go.Sort Go.Lib Go.Maps
open Go.Lib (hid)
def IB (n : Int) : Prop := -9223372036854775808 <= n /\ n <= 9223372036854775807
def encI (n : Int) : List Value := [.int .i64 n]
theorem encI_len : ∀ x, (encI x).length = 1 := fun _ => rfl
theorem encI_one : ∀ x, ∀ u ∈ encI x, u.oneCell' = true := fun x u hu => by
 simp only [encI, List.mem_cons, List.mem_nil_iff, or_false] at hu;subst hu; rfl
theorem intinfo : (Tryz.prog.info? 3).map (fun i => (i.zero, i.size, i.bytes)) = some (some (.int .i64 0), 1, 8) := by kernel_rfl
theorem int_at {w : World} {r : Option Addr} {n c : Nat} {xs : List Int} (h : Sl IntR 1 w (.slice r n c) xs) (i : Nat) (hi : i < xs.length) :
 ∃ b off, r = some ⟨b, off, none⟩ /\ b < w.heap.size /\ w.cell? ⟨b, off + i, none⟩ = some (.int .i64 xs[i]) /\ IB xs[i] := by
 obtain ⟨r', c', e, h1, h2, he⟩ := h;simp at e;obtain ⟨rfl, rfl, rfl⟩ := e;obtain ⟨b, off, cs, hr, hs, hc, hx⟩ := he i hi;have g0 := hc 0 _ hx.1;simp only [Nat.mul_one, Nat.add_zero] at g0;exact ⟨b, off, hr, World.block_lt_of_cell? w _ g0, g0, hx.2⟩
structure St where
 change : Int
 op : Int
 needs : List Int
def StR (w : World) (cs : List Value) (s : St) : Prop := ∃ v, cs = [.int .i64 s.change, .int .i64 s.op, v] /\ Sl IntR 1 w v s.needs /\ IB s.change /\ IB s.op
theorem stR_mono : Mono StR := fun _ _ _ _ hb ⟨v, h1, h2, h3⟩ => ⟨v, h1, h2.below intR_mono hb, h3⟩
theorem st_at {w : World} {r : Option Addr} {n c : Nat} {ss : List St} (h : Sl StR 3 w (.slice r n c) ss) (i : Nat) (hi : i < ss.length) :
 ∃ b off rn cn, r = some ⟨b, off, none⟩ /\ b < w.heap.size /\ w.cell? ⟨b, off + i * 3, none⟩ = some (.int .i64 (ss[i]).change) /\ w.cell? ⟨b, off + i * 3 + 1, none⟩ = some (.int .i64 (ss[i]).op) /\ w.cell? ⟨b, off + i * 3 + 2, none⟩ = some (.slice rn (ss[i]).needs.length cn) /\ Sl IntR 1 w (.slice rn (ss[i]).needs.length cn) (ss[i]).needs /\ IB (ss[i]).change /\ IB (ss[i]).op := by
 obtain ⟨r', c', e, h1, h2, he⟩ := h;simp at e;obtain ⟨rfl, rfl, rfl⟩ := e;obtain ⟨b, off, cs, hr, hs, hc, v, hv, hn, hb⟩ := he i hi;subst hv;obtain ⟨rn, cn, rfl, _⟩ := id hn;have g0 := hc 0 _ rfl;exact ⟨b, off, rn, cn, hr, World.block_lt_of_cell? w _ g0, g0, hc 1 _ rfl, hc 2 _ rfl, hn, hb.1, hb.2⟩
def OwnI (B : Nat) (w : World) (v : Value) (xs : List Int) : Prop := w.ownsRow B 3 1 v xs.length (xs.flatMap encI) /\ ∀ x ∈ xs, IB x
theorem ownI_nil (B : Nat) (w : World) : OwnI B w (.slice none 0 0) [] := ⟨World.ownsRow_nil w B _ 1, by simp⟩
theorem OwnI.kept {B : Nat} {w w' : World} {v : Value} {row : Option Nat} {xs : List Int} (h : OwnI B w v xs) (hg : w.grownBy w' row) (hr : ∀ g, v.ownBlock = some g -> row ≠ some g) : OwnI B w' v xs := ⟨kept_off h.1 hg hr, h.2⟩
theorem OwnI.below {B : Nat} {w w' : World} {v : Value} {xs : List Int} (h : OwnI B w v xs) (hb : Below w.heap.size w w') : OwnI B w' v xs := h.kept (grown_below hb) (fun _ _ h => by cases h)
theorem OwnI.lt {B : Nat} {w : World} {v : Value} {xs : List Int} (h : OwnI B w v xs) : ∀ g, v.ownBlock = some g -> B <= g /\ g < w.heap.size := h.1.lt
theorem OwnI.form {B : Nat} {w : World} {v : Value} {xs : List Int} (h : OwnI B w v xs) : ∃ r c, v = .slice r xs.length c /\ xs.length <= c /\ c <= maxLen := own_form h.1
theorem OwnI.sl {B : Nat} {w : World} {v : Value} {xs : List Int} (h : OwnI B w v xs) : Sl IntR 1 w v xs := by
 obtain ⟨r, c, e, h1, h2, he⟩ := sl_of_own encI encI_len h.1;refine ⟨r, c, e, h1, h2, fun i hi => ?_⟩;obtain ⟨b, off, cs, hr, hs, hc, hx⟩ := he i hi;exact ⟨b, off, cs, hr, hs, hc, by rw [hx]; rfl, h.2 _ (List.getElem_mem hi)⟩
def MoreI (B : Nat) (w : World) (v : Value) (xs : List Int) (H : Nat) (g cap : Nat) (w' : World) : Prop :=
 OwnI B w' (.slice (some ⟨g, 0, none⟩) xs.length cap) xs /\ w.grownBy w' v.ownBlock /\ (v.ownBlock = some g ∨ g = H) /\ g < w'.heap.size
section
variable {w : World} {ops : Array Oper} {rest : List Oper} {o : Oper} {a : Act} {Q : Exit -> Act -> World -> Prop}
theorem app_int (hgd : o.guard = none) (s x : Operand) (ho : o.op = .call { callee := .builtin .append, args := #[s, x], argTypes := #[40, 40] })
 (B : Nat) (v : Value) (xs : List Int) (hs : a.eval s = v) (hown : OwnI B w v xs) (nb c : Nat) (y : Int) (hx : a.eval x = .slice (some ⟨nb, 0, none⟩) 1 c) {fr : Nat × Nat} (hy : w.heap[nb]? = some (.cells #[.int .i64 y] 3 fr)) (hys : IB y)
 (hn : xs.length + 1 <= 1000000) (hbase : B <= w.heap.size) (H : Nat) (hH : w.heap.size = H)
 (h : ∀ g cap w', MoreI B w v (xs ++ [y]) H g cap w' -> wpList Tryz.prog ops Q rest (a.put o.dst (.slice (some ⟨g, 0, none⟩) (xs.length + 1) cap)) w') : wpList Tryz.prog ops Q (o :: rest) a w := by
 subst hH;refine wpList_append_rows encI encI_len encI_one Tryz.underlying40 intinfo rfl (by omega) (by omega) hgd s x ho B v xs hs hown.1 nb 1 c [y] rfl (by omega) hx (fr := fr) hy (by omega) hbase ?_;intro g cap w' h1 h2 h3 h4;refine h g cap w' ⟨⟨?_, ?_⟩, h2, h3, h4⟩
 . simpa using h1
 . intro z hz
   rw [List.mem_append] at hz;rcases hz with hz | hz
   . exact hown.2 z hz
   . have : z = y := by simpa using hz
     subst this; exact hys
end
end Go.Proofs.YtpnogmicfomofaaGreatDoor.Stp
namespace Go.Proofs.YtpnogmicfomofaaGreatDoor.Stp
open Go.RowKit Go.Sort Go.Lib Go.Maps
open Go.Lib (hid)
theorem numbers_any (a b : List Int) (va vb : Value) (w : World) (ha : Sl IntR 1 w va a) (hb : Sl IntR 1 w vb b) :
 Calls Tryz.prog 15 #[va, vb] w fun r w' => r = .returned (.bool (decide (a = b))) /\ Below w.heap.size w w' := by
 obtain ⟨ra, ca, rfl, _⟩ := id ha;obtain ⟨rb, cb, rfl, _⟩ := id hb;obtain ⟨_, hl, hm⟩ := sl_len ha;obtain ⟨_, hl2, hm2⟩ := sl_len hb;have HA := hid (fun (W : World) (hW : Below w.heap.size w W) => int_at (ha.below intR_mono hW));have HB := hid (fun (W : World) (hW : Below w.heap.size w W) => int_at (hb.below intR_mono hW));clear ha hb
 by_cases hlen : a.length = b.length
 case neg =>
  have h1 : ((a.length : Int) == (b.length : Int)) = false := by simp; omega
  have h2 : ((a.length : Int) != (b.length : Int)) = true := by rw [bne, h1]; rfl
  have HF := hid (show decide (a = b) = false from decide_eq_false fun e => hlen (by rw [e]));clear hlen;go_enter Tryz.func15, Tryz.ntmps15;go_wp2
  go_ret
  exact ⟨ret_bool HF.out, Below.refl _ _⟩
 case pos =>
  have h1 : ((a.length : Int) == (b.length : Int)) = true := by simp; omega
  have h2 : ((a.length : Int) != (b.length : Int)) = false := by rw [bne, h1]; rfl
  have HL := hid hlen;clear hlen;go_enter Tryz.func15, Tryz.ntmps15;go_wp2
  go_loopw [5] (fun i wr => ∃ k : Nat, k <= a.length /\ i = .int .i64 k /\ a.take k = b.take k /\ Below w.heap.size w wr) (fun i _ => a.length - (RowKit.intOf i).toNat)
  case atStart => exact ⟨0, by omega, rfl, rfl, Below.refl _ _⟩
  case round =>
   obtain ⟨k, hk, rfl, htk, hbl⟩ := hrel;have HT := hid htk;have HW := hid hbl;clear htk
   by_cases hlt : k < a.length
   . have hltb : k < b.length := by rw [<- HL.out]; exact hlt
     obtain ⟨b1, o1, rfl, hb1, g1, _⟩ := HA.out _ hbl k hlt;obtain ⟨b2, o2, rfl, hb2, g2, _⟩ := HB.out _ hbl k hltb;have HN := hid (show a[k] ≠ b[k] -> decide (a = b) = false from fun h => decide_eq_false fun e => h (by subst e; rfl));have HS := hid (show a[k] = b[k] -> a.take (k + 1) = b.take (k + 1) from fun h => by rw [List.take_succ_eq_append_getElem hlt, List.take_succ_eq_append_getElem hltb, HT.out, h]);have k2 : (0 : Int) <= (k : Int) := by omega
     have k3 : (k : Int) < (a.length : Int) := by omega
     have k4 : (k : Int) < (b.length : Int) := by omega
     clear HA HB hbl HT;generalize a[k] = y at *;generalize b[k] = z at *
     by_cases hy : y = z
     . subst hy
       have HS2 := hid (HS.out rfl);clear HS HN;go_wp2
       go_quiet (fail)
       go_wp2
       go_round
       case rel => exact ⟨k + 1, by omega, by go_num, HS2.out, bel_drewN HW.out _⟩
       case measure => simp [RowKit.intOf]; omega
     . have HN2 := hid (HN.out hy)
       have e1 : (y == z) = false := by simpa using hy
       have e2 : (y != z) = true := by rw [bne, e1]; rfl
       clear HS HN hy;go_wp2
       go_quiet (fail)
       go_wp2
       go_ret
       exact ⟨ret_bool HN2.out, bel_drewN HW.out _⟩
   . have hke : k = a.length := by omega
     have HF := hid (show decide (a = b) = true from decide_eq_true (by
      have := HT.out
      rwa [hke, List.take_length, HL.out, List.take_length] at this))
     clear hke HA HB hbl;go_wp2
     go_ret
     exact ⟨ret_bool HF.out, HW.out⟩
end Go.Proofs.YtpnogmicfomofaaGreatDoor.Stp
namespace Go.Proofs.YtpnogmicfomofaaGreatDoor.Stp
open Go.RowKit Go.Sort Go.Lib Go.Maps
open Go.Lib (hid)
def inR (n : Nat) (x : Int) : Bool := decide (0 <= x) && decide (x < n)
def rightS (ss : List St) : Bool := ss.all fun s => s.needs.all (inR ss.length)
theorem rightS_no {ss : List St} {k q : Nat} (hk : k < ss.length) (hq : q < (ss[k]).needs.length) (h : inR ss.length (ss[k]).needs[q] = false) : rightS ss = false := by
 unfold rightS;rw [List.all_eq_false];refine ⟨_, List.getElem_mem hk, ?_⟩;rw [Bool.not_eq_true, List.all_eq_false];exact ⟨_, List.getElem_mem hq, by rw [h]; simp⟩
theorem rightS_ok {ss : List St} (h : ∀ j (hj : j < ss.length), (ss[j]).needs.all (inR ss.length) = true) : rightS ss = true := by
 unfold rightS;rw [List.all_eq_true];intro s hs;obtain ⟨j, hj, rfl⟩ := List.mem_iff_getElem.1 hs;exact h j hj
theorem all_in {n : Nat} {l : List Int} (h : ∀ q (hq : q < l.length), inR n l[q] = true) : l.all (inR n) = true := by
 rw [List.all_eq_true];intro x hx;obtain ⟨q, hq, rfl⟩ := List.mem_iff_getElem.1 hx;exact h q hq
set_option maxHeartbeats 4000000 in
theorem indexes_any (v : Value) (ss : List St) (w : World) (hS : Sl StR 3 w v ss) :
 Calls Tryz.prog 32 #[v] w fun e w' => e = .returned (.bool (rightS ss)) /\ Below w.heap.size w w' := by
 obtain ⟨r, c, rfl, _⟩ := id hS;obtain ⟨_, hl, hm⟩ := sl_len hS;have HE := hid (fun (W : World) (hW : Below w.heap.size w W) => st_at (hS.below stR_mono hW));clear hS;go_enter Tryz.func32, Tryz.ntmps32;go_wp2
 go_loopw [9] (fun i wr => ∃ k : Nat, k <= ss.length /\ i = .int .i64 k /\ Hid (Below w.heap.size w wr) /\ Hid (∀ j (hj : j < ss.length), j < k -> (ss[j]).needs.all (inR ss.length) = true)) (fun i _ => ss.length - (RowKit.intOf i).toNat)
 case atStart => exact ⟨0, by omega, rfl, hid (Below.refl _ _), hid (fun j hj h => absurd h (by omega))⟩
 case round =>
  obtain ⟨k, hk, rfl, HB, HA⟩ := hrel
  by_cases hlt : k < ss.length
  . obtain ⟨b, off, rn, cn, rfl, hb, g0, g1, g2, hn, _⟩ := HE.out _ HB.out k hlt
    obtain ⟨_, hn1, hn2⟩ := sl_len hn;have HNo := hid (fun q hq h => rightS_no (q := q) hlt hq h)
    have HAl := hid (fun (h : (ss[k]).needs.all (inR ss.length) = true) => show ∀ j (hj : j < ss.length), j < k + 1 -> (ss[j]).needs.all (inR ss.length) = true from fun j hj hjk => by
     by_cases e : j < k
     . exact HA.out j hj e
     . obtain rfl : j = k := by omega
       exact h)
    have k2 : (0 : Int) <= (k : Int) := by omega
    have k3 : (k : Int) < (ss.length : Int) := by omega
    have HN := hid hn;clear hn;generalize ss[k] = s at *;have hal : Below wr.heap.size wr (wr.alloc (.cells #[.int .i64 s.change, .int .i64 s.op, .slice rn s.needs.length cn] 48)) := (Below.refl _ _).alloc (Nat.le_refl _) _;have HI := hid (int_at (HN.out.below intR_mono hal));have HB2 := hid (HB.out.trans (hal.mono HB.out.size));clear hal;go_wp2
    generalize (wr.alloc (.cells #[.int .i64 s.change, .int .i64 s.op, .slice rn s.needs.length cn] 48)) = W2 at *;clear g0 g1 g2;go_loop [16] (fun i => ∃ q : Nat, q <= s.needs.length /\ i = .int .i64 q /\ Hid (∀ j (hj : j < s.needs.length), j < q -> inR ss.length s.needs[j] = true)) (fun i => s.needs.length - (RowKit.intOf i).toNat)
    case atStart => exact ⟨0, by omega, rfl, hid (fun j hj h => absurd h (by omega))⟩
    case round =>
     obtain ⟨q, hq, rfl, HQ⟩ := hrel
     by_cases hltq : q < s.needs.length
     . obtain ⟨b2, o2, rfl, hb2, n0, hib⟩ := HI.out q hltq
       have HNq := hid (HNo.out q hltq)
       have HX := hid (fun (h : inR ss.length s.needs[q] = true) => show ∀ j (hj : j < s.needs.length), j < q + 1 -> inR ss.length s.needs[j] = true from fun j hj hjq => by
        by_cases e : j < q
        . exact HQ.out j hj e
        . obtain rfl : j = q := by omega
          exact h)
       have q2 : (0 : Int) <= (q : Int) := by omega
       have q3 : (q : Int) < (s.needs.length : Int) := by omega
       generalize s.needs[q] = x at *
       by_cases hx0 : x < 0
       . have HR := hid (HNq.out (by unfold inR; rw [decide_eq_false (by omega)]; rfl))
         clear HNq HX;go_wp2
         go_ret
         exact ⟨ret_bool HR.out, HB2.out⟩
       . by_cases hx1 : (ss.length : Int) <= x
         . have HR := hid (HNq.out (by unfold inR; rw [decide_eq_false (p := x < (ss.length : Int)) (by omega), Bool.and_false]))
           clear HNq HX;go_wp2
           go_ret
           exact ⟨ret_bool HR.out, HB2.out⟩
         . have HR := hid (HX.out (by unfold inR; rw [decide_eq_true (by omega), decide_eq_true (by omega)]; rfl))
           clear HNq HX;go_wp2
           go_round
           case rel => exact ⟨q + 1, by omega, by go_num, HR⟩
           case measure => simp [RowKit.intOf]; omega
     . obtain rfl : q = s.needs.length := by omega
       have HR := hid (HAl.out (all_in fun j hj => HQ.out j hj hj));go_wp2
       go_roundw
       case rel => exact ⟨k + 1, by omega, by go_num, HB2, HR⟩
       case measure => simp [RowKit.intOf]; omega
  . obtain rfl : k = ss.length := by omega
    have HR := hid (rightS_ok fun j hj => HA.out j hj hj);go_wp2
    go_ret
    exact ⟨ret_bool HR.out, HB.out⟩
end Go.Proofs.YtpnogmicfomofaaGreatDoor.Stp
namespace Go.Proofs.YtpnogmicfomofaaGreatDoor.Stp
open Go.RowKit Go.Sort Go.Lib Go.Maps
open Go.Lib (hid)
theorem frozen_of {w : World} {b : Nat} {C : Array Value} {E : TypeId} (h : w.heap[b]? = some (.cells C E (0, 0))) (o : Nat) : w.frozen? ⟨b, o, none⟩ = false := by unfold World.frozen?; simp [h]
theorem cell_of {w : World} {b : Nat} {C : Array Value} {E : TypeId} {fr : Nat × Nat} (h : w.heap[b]? = some (.cells C E fr)) (o : Nat) : w.cell? ⟨b, o, none⟩ = C[o]? := by unfold World.cell?; simp [h]
theorem heap_setCells_ne (g : Nat) {b : Nat} : ∀ (vs : List Value) (o : Nat) (w : World), b ≠ g -> (w.setCells g o vs).heap[b]? = w.heap[b]?
 | [], _, _, _ => rfl
 | v :: vs, o, w, h => by rw [World.setCells, heap_setCells_ne g vs (o + 1) _ h, Below.heap_setCell _ _ _ _ h]
theorem size_setCells' (g : Nat) : ∀ (vs : List Value) (o : Nat) (w : World), (w.setCells g o vs).heap.size = w.heap.size
 | [], _, _ => rfl
 | v :: vs, o, w => by rw [World.setCells, size_setCells' g vs (o + 1) _]; simp [World.setCell]
theorem same_setCells (g : Nat) : ∀ (vs : List Value) (o : Nat) (w : World), (w.setCells g o vs).os = w.os /\ (w.setCells g o vs).tape = w.tape /\ (w.setCells g o vs).output = w.output
 | [], _, _ => ⟨rfl, rfl, rfl⟩
 | v :: vs, o, w => by rw [World.setCells]; exact same_setCells g vs (o + 1) _
structure OwnJ (B : Nat) (w : World) (v : Value) (xs : List Int) : Prop where
 ex : ∃ r cap, v = .slice r xs.length cap /\ xs.length <= cap /\ cap <= maxLen /\ (r = none -> cap = 0) /\ (∀ x ∈ xs, IB x) /\
  ∀ a, r = some a -> ∃ g o, a = ⟨g, o, none⟩ /\ B <= g /\ g < w.heap.size /\ (∀ i (h : i < xs.length), w.cell? ⟨g, o + i, none⟩ = some (.int .i64 xs[i])) /\ ∀ j, j < cap -> (w.cell? ⟨g, o + j, none⟩).isSome = true /\ w.frozen? ⟨g, o + j, none⟩ = false
theorem OwnJ.form {B : Nat} {w : World} {v : Value} {xs : List Int} (h : OwnJ B w v xs) : ∃ r cap, v = .slice r xs.length cap /\ xs.length <= cap /\ cap <= 9223372036854775807 := by
 obtain ⟨r, cap, h1, h2, h3, _⟩ := h.ex;unfold maxLen at h3;exact ⟨r, cap, h1, h2, by omega⟩
theorem OwnJ.lt {B : Nat} {w : World} {v : Value} {xs : List Int} (h : OwnJ B w v xs) : ∀ g, v.ownBlock = some g -> B <= g /\ g < w.heap.size := by
 obtain ⟨r, cap, rfl, _, _, _, _, h6⟩ := h.ex;intro g hg;cases r with
 | none => simp [Value.ownBlock] at hg
 | some a =>
   obtain ⟨g', o, rfl, h7, h8, _⟩ := h6 a rfl;simp [Value.ownBlock] at hg;subst hg;exact ⟨h7, h8⟩
theorem OwnJ.kept {B : Nat} {w w' : World} {v : Value} {row : Option Nat} {xs : List Int} (h : OwnJ B w v xs) (hg : w.grownBy w' row) (hr : ∀ g, v.ownBlock = some g -> row ≠ some g) : OwnJ B w' v xs := by
 obtain ⟨r, cap, rfl, h2, h3, h4, h5, h6⟩ := h.ex;refine ⟨r, cap, rfl, h2, h3, h4, h5, fun a ha => ?_⟩;subst ha;obtain ⟨g, o, rfl, h7, h8, h9, h10⟩ := h6 a rfl;have hne : ∀ k, row = some k -> k ≠ g := fun k hk e => hr g rfl (by rw [hk, e]);refine ⟨g, o, rfl, h7, Nat.lt_of_lt_of_le h8 hg.size, fun i hi => grown_cell hg h8 hne (h9 i hi), fun j hj => ?_⟩;obtain ⟨k1, k2⟩ := h10 j hj;obtain ⟨u, hu⟩ := Option.isSome_iff_exists.1 k1;exact ⟨by rw [grown_cell hg h8 hne hu]; rfl, by rw [grown_frozen hg h8 hne]; exact k2⟩
theorem OwnJ.below {B : Nat} {w w' : World} {v : Value} {xs : List Int} (h : OwnJ B w v xs) (hb : Below w.heap.size w w') : OwnJ B w' v xs := h.kept (grown_below hb) (fun _ _ h => by cases h)
theorem encI_flat (xs : List Int) : xs.flatMap encI = xs.map (Value.int .i64) := by
 induction xs with
 | nil => rfl
 | cons x xs ih => rw [List.flatMap_cons, ih]; rfl
theorem OwnI.toJ {B : Nat} {w : World} {v : Value} {xs : List Int} (h : OwnI B w v xs) : OwnJ B w v xs := by
 obtain ⟨h1, h2⟩ := h;rcases h1.2 with ⟨rfl, h0⟩ | ⟨g, cap, cur, rfl, hb, hg, hn, hc, hs, ht⟩
 . have : xs = [] := List.eq_nil_of_length_eq_zero h0
   subst this;exact ⟨none, 0, rfl, by simp, by simp, fun _ => rfl, by simp, fun a ha => by cases ha⟩
 . refine ⟨some ⟨g, 0, none⟩, cap, rfl, hn, hc, (fun h => by cases h), h2, fun a ha => ?_⟩
   cases ha;refine ⟨g, 0, rfl, hb, lt_of_block hg, fun i hi => ?_, fun j hj => ⟨?_, frozen_of hg _⟩⟩
   . rw [cell_of hg]
     have h3 := flat_get encI 1 encI_len xs i hi 0 (by omega);rw [<- ht, List.getElem?_take, if_pos (by omega), Array.getElem?_toList] at h3;rw [Nat.zero_add];simpa [encI] using h3
   . rw [cell_of hg, Array.getElem?_eq_getElem (by omega)]; rfl
theorem OwnJ.head {B : Nat} {w : World} {v : Value} {x : Int} {xs : List Int} (h : OwnJ B w v (x :: xs)) : ∃ g o cap, v = .slice (some ⟨g, o, none⟩) (xs.length + 1) cap /\ xs.length + 1 <= cap /\ cap <= 9223372036854775807 /\ w.cell? ⟨g, o, none⟩ = some (.int .i64 x) /\ IB x := by
 obtain ⟨r, cap, rfl, h2, h3, h4, h5, h6⟩ := h.ex;simp only [List.length_cons] at h2;cases r with
 | none => have := h4 rfl; omega
 | some a =>
   obtain ⟨g, o, rfl, h7, h8, h9, h10⟩ := h6 a rfl;have := h9 0 (by simp);unfold maxLen at h3;exact ⟨g, o, cap, rfl, h2, by omega, by simpa using this, h5 x (by simp)⟩
theorem OwnJ.tail {B : Nat} {w : World} {g o cap n : Nat} {x : Int} {xs : List Int} (h : OwnJ B w (.slice (some ⟨g, o, none⟩) n cap) (x :: xs)) :
 (cap ≠ 1 -> OwnJ B w (.slice (some ⟨g, o + 1, none⟩) xs.length (cap - 1)) xs) /\ (cap = 1 -> xs = [] /\ OwnJ B w (.slice (some ⟨g, o, none⟩) 0 0) xs) := by
 obtain ⟨r, cap', e, h2, h3, h4, h5, h6⟩ := h.ex;simp only [List.length_cons] at h2;simp at e;obtain ⟨rfl, rfl, rfl⟩ := e;obtain ⟨g', o', e, h7, h8, h9, h10⟩ := h6 _ rfl;simp at e;obtain ⟨rfl, rfl⟩ := e;refine ⟨fun hc => ⟨some ⟨g, o + 1, none⟩, cap - 1, rfl, by omega, by omega, (fun h => by cases h), fun y hy => h5 y (List.mem_cons_of_mem _ hy), fun a ha => ?_⟩, fun hc => ?_⟩
 . cases ha
   refine ⟨g, o + 1, rfl, h7, h8, fun i hi => ?_, fun j hj => ?_⟩
   . have := h9 (i + 1) (by simpa using hi)
     rw [show o + (i + 1) = o + 1 + i by omega] at this;simpa using this
   . have := h10 (j + 1) (by omega)
     rw [show o + (j + 1) = o + 1 + j by omega] at this;exact this
 . have h0 : xs = [] := List.eq_nil_of_length_eq_zero (by omega)
   subst h0;refine ⟨rfl, ⟨some ⟨g, o, none⟩, 0, rfl, by simp, by simp, (fun h => by cases h), by simp, fun a ha => ?_⟩⟩;cases ha;exact ⟨g, o, rfl, h7, h8, fun i hi => absurd hi (by simp), fun j hj => absurd hj (by omega)⟩
theorem OwnJ.init {B : Nat} {w : World} {r : Option Addr} {cap n : Nat} {x : Int} {xs : List Int} (h : OwnJ B w (.slice r n cap) (xs ++ [x])) : OwnJ B w (.slice r xs.length cap) xs := by
 obtain ⟨r', cap', e, h2, h3, h4, h5, h6⟩ := h.ex;simp at e;obtain ⟨rfl, rfl, rfl⟩ := e;refine ⟨r, cap, rfl, by simp at h2; omega, h3, h4, fun y hy => h5 y (by simp [hy]), fun a ha => ?_⟩;obtain ⟨g, o, e, h7, h8, h9, h10⟩ := h6 a ha;refine ⟨g, o, e, h7, h8, fun i hi => ?_, h10⟩;have := h9 i (by simp; omega);rw [List.getElem_append_left hi] at this;exact this
theorem OwnJ.last {B : Nat} {w : World} {v : Value} {x : Int} {xs : List Int} (h : OwnJ B w v (xs ++ [x])) : ∃ g o cap, v = .slice (some ⟨g, o, none⟩) (xs.length + 1) cap /\ xs.length + 1 <= cap /\ cap <= 9223372036854775807 /\ w.cell? ⟨g, o + xs.length, none⟩ = some (.int .i64 x) /\ IB x := by
 obtain ⟨r, cap, rfl, h2, h3, h4, h5, h6⟩ := h.ex;simp only [List.length_append, List.length_singleton] at h2;cases r with
 | none => have := h4 rfl; omega
 | some a =>
   obtain ⟨g, o, rfl, h7, h8, h9, h10⟩ := h6 a rfl;have := h9 xs.length (by simp);unfold maxLen at h3;exact ⟨g, o, cap, by simp, h2, by omega, by simpa using this, h5 x (by simp)⟩
theorem OwnJ.setBelow {B : Nat} {w : World} {v : Value} {xs : List Int} (h : OwnJ B w v xs) {a : Addr} (ha : a.block < B) (u : Value) : OwnJ B (w.setCell a u) v xs := by
 refine h.kept (row := some a.block) ⟨rfl, rfl, rfl, by simp [World.setCell], fun k hk hne => Below.heap_setCell _ _ _ _ (fun e => hne (by rw [e]))⟩ fun g hg e => ?_;have := (h.lt g hg).1;cases e;omega
theorem grown_any {w w' : World} (h : w.grownBy w' none) (row : Option Nat) : w.grownBy w' row := ⟨h.os, h.tape, h.output, h.size, fun k hk _ => h.block k hk (by simp)⟩
def MoreJ (B : Nat) (w : World) (v : Value) (xs : List Int) (v' : Value) (w' : World) : Prop :=
 OwnJ B w' v' xs /\ w.grownBy w' v.ownBlock /\ ∀ g, v'.ownBlock = some g -> v.ownBlock = some g ∨ w.heap.size <= g
theorem app_j {w : World} {ops : Array Oper} {rest : List Oper} {o : Oper} {a : Act} {Q : Exit -> Act -> World -> Prop} (hgd : o.guard = none) (s x : Operand) (ho : o.op = .call { callee := .builtin .append, args := #[s, x], argTypes := #[40, 40] })
 (B : Nat) (v : Value) (xs : List Int) (hs : a.eval s = v) (hown : OwnJ B w v xs) (nb c : Nat) (y : Int) (hx : a.eval x = .slice (some ⟨nb, 0, none⟩) 1 c) {fr : Nat × Nat} (hy : w.heap[nb]? = some (.cells #[.int .i64 y] 3 fr)) (hys : IB y)
 (hn : xs.length + 1 <= 1000000) (hbase : B <= w.heap.size)
 (h : ∀ v' w', MoreJ B w v (xs ++ [y]) v' w' -> wpList Tryz.prog ops Q rest (a.put o.dst v') w') : wpList Tryz.prog ops Q (o :: rest) a w := by
 obtain ⟨i0, hi, hz0, hz1, hz2⟩ := info_parts intinfo;obtain ⟨r, cap, rfl, h2, h3, h4, h5, h6⟩ := hown.ex;have hnews : ∀ j u, ([Value.int .i64 y] : List Value)[j]? = some u -> w.cell? ((⟨nb, 0, none⟩ : Addr).add j) = some u := fun j u hj => World.news_of_block hy j u (by simpa using hj);have hone : ∀ u ∈ ([Value.int .i64 y] : List Value), u.oneCell' = true := fun u hu => by simp at hu; subst hu; rfl
 have hsz : ∀ z ∈ xs ++ [y], IB z := fun z hz => by
  rw [List.mem_append] at hz;rcases hz with hz | hz
  . exact h5 z hz
  . simp at hz; subst hz; exact hys
 have hadd : ∀ b o j : Nat, (⟨b, o, none⟩ : Addr).add j = ⟨b, o + j, none⟩ := fun b o j => by unfold Addr.add; by_cases h : j = 0 <;> simp [h]
 have grow : ∀ v' w', w'.ownsRow w.heap.size 3 1 v' (xs.length + 1) (xs.map (Value.int .i64) ++ [.int .i64 y]) -> w.grownBy w' none -> MoreJ B w (.slice r xs.length cap) (xs ++ [y]) v' w' := fun v' w' h1 h2 => by
  have ho : OwnI w.heap.size w' v' (xs ++ [y]) := ⟨by rw [encI_flat]; simpa using h1, hsz⟩;refine ⟨?_, grown_any h2 _, fun g hg => Or.inr (ho.lt g hg).1⟩;obtain ⟨r', cap', e, k2, k3, k4, k5, k6⟩ := ho.toJ.ex;refine ⟨r', cap', e, k2, k3, k4, k5, fun a ha => ?_⟩;obtain ⟨g, o, e, k7, k8⟩ := k6 a ha;exact ⟨g, o, e, by omega, k8⟩
 by_cases hr : xs.length + 1 <= cap
 . obtain ⟨a0, rfl⟩ : ∃ a0, r = some a0 := by
    cases r with
    | none => have := h4 rfl; omega
    | some a0 => exact ⟨a0, rfl⟩
   obtain ⟨g, off, rfl, h7, h8, h9, h10⟩ := h6 _ rfl;refine wpList_append_arg w hgd s x 40 ho 3 i0 (.int .i64 0) 1 8 Tryz.underlying40 hi hz0 hz1 hz2 rfl (by omega) g off xs.length cap (xs.map (Value.int .i64)) hs (by simp) (fun j u hj => ?_) ⟨nb, 0, none⟩ 1 c [.int .i64 y] hx rfl hnews hone (fun _ j hj => ?_) (by unfold maxLen; omega) (by omega) (fun _ => ?_) (fun hh => by omega)
   . rw [List.getElem?_map] at hj
     cases hx : xs[j]? with
     | none => rw [hx] at hj; cases hj
     | some z =>
       rw [hx] at hj;obtain ⟨hjl, rfl⟩ := List.getElem?_eq_some_iff.1 hx;rw [h9 j hjl]; simpa using hj
   . have hj0 : j = 0 := by simpa using hj
     subst hj0;have := h10 xs.length (by omega);simpa using this
   . have hcells : ∀ j, j < ([Value.int .i64 y] : List Value).length -> (w.cell? ⟨g, off + xs.length * 1 + j, none⟩).isSome = true := fun j hj => by
      have hj0 : j = 0 := by simpa using hj
      subst hj0;have := (h10 xs.length (by omega)).1;simpa using this
     refine h _ _ ⟨⟨some ⟨g, off, none⟩, cap, by simp, by simpa using hr, h3, (fun h => by cases h), hsz, fun a ha => ?_⟩, ⟨(same_setCells g _ _ _).1, (same_setCells g _ _ _).2.1, (same_setCells g _ _ _).2.2, by rw [size_setCells']; exact Nat.le_refl _, fun k hk hne => heap_setCells_ne _ _ _ _ (fun e => hne (by rw [e]; rfl))⟩, fun g' hg' => Or.inl hg'⟩;cases ha;refine ⟨g, off, rfl, h7, by rw [size_setCells']; exact h8, fun i hi => ?_, fun j hj => ?_⟩
     . by_cases hix : i < xs.length
       . rw [World.cell?_setCells_out _ _ _ _ _ (fun _ _ => Or.inl (by simp only; omega)), h9 i hix, List.getElem_append_left hix]
       . have hie : i = xs.length := by simp at hi; omega
         subst hie;have := World.cell?_setCells_in g [Value.int .i64 y] (off + xs.length * 1) w hcells 0 (by simp);simp only [Nat.mul_one, Nat.add_zero] at this;rw [Nat.mul_one, this];simp
     . rw [World.frozen?_setCells]
       refine ⟨?_, (h10 j hj).2⟩
       by_cases hjx : j = xs.length
       . subst hjx
         have := World.cell?_setCells_in g [Value.int .i64 y] (off + xs.length * 1) w hcells 0 (by simp);simp only [Nat.mul_one, Nat.add_zero] at this;rw [Nat.mul_one, this]; rfl
       . rw [World.cell?_setCells_out _ _ _ _ _ (fun _ _ => by simp only [List.length_singleton]; omega)]
         exact (h10 j hj).1
 . refine wpList_append_grows w hgd s x 40 ho 3 i0 (.int .i64 0) 1 8 Tryz.underlying40 hi hz0 hz1 hz2 rfl (by omega) r xs.length cap (xs.map (Value.int .i64)) hs (fun hr0 => ⟨by have := h4 hr0; omega, h4 hr0⟩) (by simp) (fun b hb j u hj => ?_) ⟨nb, 0, none⟩ 1 c [.int .i64 y] hx rfl hnews hone (by omega) (by unfold maxLen; omega) (by omega) (fun v' w' k1 k2 => h v' w' (grow v' w' k1 k2))
   obtain ⟨g, off, rfl, h7, h8, h9, h10⟩ := h6 _ hb;rw [hadd];rw [List.getElem?_map] at hj;cases hx : xs[j]? with
   | none => rw [hx] at hj; cases hj
   | some z =>
     rw [hx] at hj;obtain ⟨hjl, rfl⟩ := List.getElem?_eq_some_iff.1 hx;rw [h9 j hjl]; simpa using hj
end Go.Proofs.YtpnogmicfomofaaGreatDoor.Stp
namespace Go.Proofs.YtpnogmicfomofaaGreatDoor.Stp
open Go.RowKit Go.Sort Go.Lib Go.Maps
open Go.Lib (hid)
theorem own_of {w : World} {g n cap sz B : Nat} {E : TypeId} {X xs : List Value} (h : w.heap[g]? = some (.cells X.toArray E (0, 0))) (hB : B <= g) (hn : n <= cap) (hc : cap <= maxLen) (hX : X.length = cap * sz) (hl : xs.length = n * sz) (ht : X.take (n * sz) = xs) : w.ownsRow B E sz (.slice (some ⟨g, 0, none⟩) n cap) n xs :=
 ⟨hl, Or.inr ⟨g, cap, X.toArray, rfl, hB, h, hn, hc, by simpa using hX, by simpa using ht⟩⟩
theorem own_int1 (w : World) (B : Nat) (y : Int) (hB : B <= w.heap.size) (hy : IB y) : OwnI B (w.alloc (.cells #[.int .i64 y] 3)) (.slice (some ⟨w.heap.size, 0, none⟩) 1 1) [y] :=
 ⟨own_of (X := [.int .i64 y]) (MapKept.heap_alloc w _).1 hB (by omega) (by unfold maxLen; omega) rfl rfl rfl, fun x hx => by simp at hx; subst hx; exact hy⟩
structure Mk (M n : Nat) (sn : List Nat) (w : World) : Prop where
 lt : M < w.heap.size
 cell : ∀ i, i < n -> w.cell? ⟨M, i, none⟩ = some (.bool (hasN i sn))
 free : ∀ o, w.frozen? ⟨M, o, none⟩ = false
theorem Mk.below {M n : Nat} {sn : List Nat} {w w' : World} (h : Mk M n sn w) (hb : Below w.heap.size w w') : Mk M n sn w' :=
 ⟨Nat.lt_of_lt_of_le h.lt hb.size, fun i hi => bget hb (h.cell i hi), fun o => (hb.frozen (p := ⟨M, o, none⟩) h.lt).trans (h.free o)⟩
theorem Mk.grown {M n : Nat} {sn : List Nat} {w w' : World} {row : Option Nat} (h : Mk M n sn w) (hg : w.grownBy w' row) (hr : row ≠ some M) : Mk M n sn w' := by
 have hne : ∀ k, row = some k -> k ≠ M := fun k hk e => hr (by rw [hk, e]);exact ⟨Nat.lt_of_lt_of_le h.lt hg.size, fun i hi => grown_cell hg h.lt hne (h.cell i hi), fun o => by rw [grown_frozen hg h.lt hne]; exact h.free o⟩
theorem Mk.set {M n : Nat} {sn : List Nat} {w : World} (h : Mk M n sn w) {y : Nat} (hy : y < n) : Mk M n (sn ++ [y]) (w.setCell ⟨M, y, none⟩ (.bool true)) := by
 refine ⟨by simpa [World.setCell] using h.lt, fun i hi => ?_, fun o => by simpa using h.free o⟩
 by_cases e : y = i
 . subst e
   rw [scell_same (h.cell y hy), hasN_iff.2 (by simp : y ∈ sn ++ [y])]
 . rw [scell_ne e, h.cell i hi]
   have h2 : hasN i [y] = false := by cases h : hasN i [y] with | false => rfl | true => exact absurd (hasN_iff.1 h) (by simp; exact fun h => e h.symm)
   rw [hasN_app, h2, Bool.or_false]
theorem boolinfo : (Tryz.prog.info? 4).map (fun i => (i.zero, i.size, i.bytes)) = some (some (.bool false), 1, 1) := by kernel_rfl
theorem Mk.made {w : World} {C : Array Value} {n : Nat} (hC : ∀ (k j : Nat) (u : Value), k < n -> (Value.bool false).cells[j]? = some u -> C[k * 1 + j]? = some u) : Mk w.heap.size n [] (w.alloc (.cells C 4)) := by
 refine ⟨by simp, fun i hi => ?_, fun o => by simp⟩;have := hC i 0 (.bool false) hi rfl;unfold World.cell?;rw [(MapKept.heap_alloc w _).1];simpa [hasN] using this
def nls (ss : List St) : List (List Nat) := ss.map fun s => s.needs.map Int.toNat
theorem nls_len (ss : List St) : (nls ss).length = ss.length := by simp [nls]
theorem nd_nls {ss : List St} {x : Nat} (hx : x < ss.length) : nd (nls ss) x = (ss[x]).needs.map Int.toNat := by
 unfold nd nls;rw [List.getD_eq_getElem?_getD];simp [hx]
theorem nd_out {ss : List St} {x : Nat} (hx : ¬ x < ss.length) : nd (nls ss) x = [] := by
 unfold nd nls;rw [List.getD_eq_getElem?_getD, List.getElem?_eq_none (by simp; omega)];rfl
theorem rightS_in {ss : List St} (h : rightS ss = true) {x : Nat} (hx : x < ss.length) : ∀ z ∈ (ss[x]).needs, 0 <= z /\ z < ss.length := by
 unfold rightS at h;rw [List.all_eq_true] at h;intro z hz;have := h _ (List.getElem_mem hx);rw [List.all_eq_true] at this;have := this z hz;unfold inR at this;rw [Bool.and_eq_true] at this;exact ⟨of_decide_eq_true this.1, of_decide_eq_true this.2⟩
theorem nd_lt {ss : List St} (h : rightS ss = true) (x : Nat) : ∀ y ∈ nd (nls ss) x, y < ss.length := by
 intro y hy
 by_cases hx : x < ss.length
 . rw [nd_nls hx, List.mem_map] at hy
   obtain ⟨z, hz, rfl⟩ := hy;have := rightS_in h hx z hz;omega
 . rw [nd_out hx] at hy; cases hy
theorem need_at {w : World} {r : Option Addr} {n c : Nat} {ss : List St} (h : Sl StR 3 w (.slice r n c) ss) (hr : rightS ss = true) (x : Nat) (hx : x < ss.length) :
 ∃ b off rn cn, r = some ⟨b, off, none⟩ /\ b < w.heap.size /\ w.cell? ⟨b, off + x * 3 + 2, none⟩ = some (.slice rn (nd (nls ss) x).length cn) /\ (nd (nls ss) x).length <= cn /\ cn <= 9223372036854775807 /\
  ∀ W, Below w.heap.size w W -> ∀ k (hk : k < (nd (nls ss) x).length), ∃ b2 o2, rn = some ⟨b2, o2, none⟩ /\ b2 < W.heap.size /\ W.cell? ⟨b2, o2 + k, none⟩ = some (.int .i64 (((nd (nls ss) x)[k] : Nat) : Int)) /\ (nd (nls ss) x)[k] < ss.length := by
 obtain ⟨b, off, rn, cn, e, hb, _, _, g2, hn, _⟩ := st_at h x hx;obtain ⟨_, hn1, hn2⟩ := sl_len hn;have hlen : (nd (nls ss) x).length = (ss[x]).needs.length := by rw [nd_nls hx, List.length_map]
 refine ⟨b, off, rn, cn, e, hb, by rw [hlen]; exact g2, by rw [hlen]; exact hn1, hn2, fun W hW k hk => ?_⟩;obtain ⟨b2, o2, e2, hb2, g, _⟩ := int_at (hn.below intR_mono hW) k (by omega);have hz := rightS_in hr hx _ (List.getElem_mem (show k < (ss[x]).needs.length by omega))
 have hk2 : (nd (nls ss) x)[k] = ((ss[x]).needs[k]'(by omega)).toNat := by
  have := nd_nls hx;simp only [this, List.getElem_map]
 refine ⟨b2, o2, e2, hb2, ?_, by rw [hk2]; omega⟩;rw [hk2, g, Int.toNat_of_nonneg hz.1]
noncomputable def befS (ss : List St) (a b : Int) : Bool := rightS ss && inR ss.length a && inR ss.length b && befN (nls ss) a.toNat b.toNat
theorem befS_no {ss : List St} {a b : Int} (h : rightS ss = false ∨ inR ss.length a = false ∨ inR ss.length b = false) : befS ss a b = false := by
 unfold befS;rcases h with h | h | h <;> rw [h] <;> simp
theorem inR_no {n : Nat} {x : Int} (h : x < 0 ∨ (n : Int) <= x) : inR n x = false := by
 unfold inR;rcases h with h | h
 . rw [decide_eq_false (by omega)]; rfl
 . rw [decide_eq_false (p := x < (n : Int)) (by omega), Bool.and_false]
theorem inR_nat {n k : Nat} (h : k < n) : inR n (k : Int) = true := by
 unfold inR;rw [decide_eq_true (by omega), decide_eq_true (by omega)]; rfl
theorem befS_ok {ss : List St} {a b : Nat} (hr : rightS ss = true) (ha : a < ss.length) (hb : b < ss.length) : befS ss a b = befN (nls ss) a b := by
 unfold befS;rw [hr, inR_nat ha, inR_nat hb]; rfl
theorem befN_yes {N : List (List Nat)} {a b : Nat} (h : ∃ n, Wn (nd N) (n + 1) b a) : befN N a b = true := befN_iff.2 h
theorem befN_none {N : List (List Nat)} {a b : Nat} (h : ¬ ∃ n, Wn (nd N) (n + 1) b a) : befN N a b = false := by
 cases hh : befN N a b with
 | false => rfl
 | true => exact absurd (befN_iff.1 hh) h
structure BefI (n M G : Nat) (w wr : World) (vo : Value) (sn L : List Nat) : Prop where
 bel : Below w.heap.size w wr
 sz : M + 1 <= wr.heap.size
 mks : Mk M n sn wr
 own : OwnJ (M + 1) wr vo (L.map Nat.cast)
 inb : ∀ x ∈ L, x < n
 len : L.length + remN (List.range n) sn <= n + 1
 ms : 2 * remN (List.range n) sn + L.length <= G
theorem ib_nat {k : Nat} (h : k <= 1000000) : IB (k : Int) := ⟨by omega, by omega⟩
end Go.Proofs.YtpnogmicfomofaaGreatDoor.Stp
namespace Go.Proofs.YtpnogmicfomofaaGreatDoor.Stp
open Go.RowKit Go.Sort
def Lat (w w' : World) : Prop := Below w.heap.size w w'
theorem Lat.refl (w : World) : Lat w w := Below.refl _ _
def Stb (R : World -> Prop) : Prop := ∀ w w', R w -> Lat w w' -> R w'
structure Spc where
 p : Value -> Prop
 R : Value -> World -> Prop
def frUpon (P : Program) (w : World) (s : Spc) : Result Next -> Prop
 | .ok (.value u) w' => Lat w w' /\ s.p u /\ s.R u w'
 | .ok .skip w' => Lat w w' /\ s.p undef /\ s.R undef w'
 | .ok (.enter f args) w' => w' = w /\ Calls P f args w (fun e w'' => ∃ u, e = .returned u /\ Lat w w'' /\ s.p u /\ s.R u w'')
 | _ => False
inductive Bef (md : Region.Mode) (ops : Array Oper) : Nat -> Nat -> Prop
 | one {j k : Nat} {o : Oper} {e : Edge} : ops[k]? = some o -> e ∈ o.after -> Region.binds md e = true -> e.on = j -> Bef md ops j k
 | two {i j k : Nat} : Bef md ops i j -> Bef md ops j k -> Bef md ops i k
def updE (E : Nat -> World -> Prop) (k : Nat) (R : World -> Prop) : Nat -> World -> Prop := fun j => if j = k then R else E j
theorem updE_comm {E : Nat -> World -> Prop} {i j : Nat} {A B : World -> Prop} (h : i ≠ j) : updE (updE E i A) j B = updE (updE E j B) i A := by
 funext k;unfold updE
 by_cases h1 : k = j
 . subst h1; rw [if_pos rfl, if_neg (fun e => h e.symm), if_pos rfl]
 . rw [if_neg h1]
   by_cases h2 : k = i
   . rw [if_pos h2, if_pos h2]
   . rw [if_neg h2, if_neg h2, if_neg h1]
section
variable {P : Program} {ops : Array Oper} {md : Region.Mode} {C : World -> Prop} {sp : Nat -> Option Spc}
def pQ (P : Program) (C : World -> Prop) (X : Sem Next) (u : Value) : Prop := ∀ w, C w -> Oper.quietUpon P C w u (X.run P w)
def noEnter (P : Program) (X : Sem Next) : Prop := ∀ w f args w', X.run P w ≠ .ok (.enter f args) w'
def fSpec (P : Program) (md : Region.Mode) (ops : Array Oper) (C : World -> Prop) (sp : Nat -> Option Spc) (i : Nat) (o : Oper) (E : Nat -> World -> Prop) (a : Act) : Prop :=
 Region.wanted o (yielded ops a.tmps) = true -> match sp i with
  | none => noEnter P (execOp a.eval o) /\ ∃ u, pQ P C (execOp a.eval o) u
  | some s => (∃ u, s.p u) /\ (∀ v, Stb (s.R v)) /\ ∀ w, C w -> (∀ j, Bef md ops j i -> E j w) -> frUpon P w s ((execOp a.eval o).run P w)
def fOut (P : Program) (ops : Array Oper) (C : World -> Prop) (sp : Nat -> Option Spc) (i : Nat) (o : Oper) (a : Act) (u : Value) : Prop :=
 if Region.wanted o (yielded ops a.tmps) = true then (match sp i with | none => pQ P C (execOp a.eval o) u | some s => s.p u) else u = undef
def fFact (ops : Array Oper) (sp : Nat -> Option Spc) (i : Nat) (o : Oper) (a : Act) (u : Value) : World -> Prop :=
 if Region.wanted o (yielded ops a.tmps) = true then (match sp i with | none => fun _ => True | some s => s.R u) else fun _ => True
def wpF (P : Program) (md : Region.Mode) (ops : Array Oper) (C : World -> Prop) (sp : Nat -> Option Spc) (Q : (Nat -> World -> Prop) -> Act -> Prop) : List Oper -> Nat -> (Nat -> World -> Prop) -> Act -> Prop
 | [], _, E, a => Q E a
 | o :: rest, k, E, a => fSpec P md ops C sp k o E a /\ ∀ u, fOut P ops C sp k o a u -> wpF P md ops C sp Q rest (k + 1) (updE E k (fFact ops sp k o a u)) (a.put o.dst u)
def wpAnyF (P : Program) (md : Region.Mode) (ops : Array Oper) (C : World -> Prop) (sp : Nat -> Option Spc) (Q : (Nat -> World -> Prop) -> Act -> Prop) : Nat -> Array Bool -> (Nat -> World -> Prop) -> Act -> Prop
 | 0, listed, E, a => Region.ready md ops listed = [] /\ Q E a
 | fuel + 1, listed, E, a =>
   (Region.ready md ops listed = [] -> Q E a) /\
   ∀ i ∈ Region.ready md ops listed, ∀ o, ops[i]? = some o -> fSpec P md ops C sp i o E a /\ ∀ u, fOut P ops C sp i o a u -> wpAnyF P md ops C sp Q fuel (listed.setIfInBounds i true) (updE E i (fFact ops sp i o a u)) (a.put o.dst u)
theorem fSpec_put {j : Nat} {o : Oper} {E : Nat -> World -> Prop} {a : Act} {dst : Option Tmp} {v : Value} (hs : ∀ cs b, o.op ≠ .select cs b) (h : ∀ d, dst = some d -> d ∉ o.looksAt ops) : fSpec P md ops C sp j o E (a.put dst v) ↔ fSpec P md ops C sp j o E a := by
 unfold fSpec;rw [wanted_put o a dst v h, execOp_put o hs a dst v h]
theorem fOut_put {j : Nat} {o : Oper} {a : Act} {dst : Option Tmp} {v u : Value} (hs : ∀ cs b, o.op ≠ .select cs b) (h : ∀ d, dst = some d -> d ∉ o.looksAt ops) : fOut P ops C sp j o (a.put dst v) u ↔ fOut P ops C sp j o a u := by
 unfold fOut;rw [wanted_put o a dst v h, execOp_put o hs a dst v h]
theorem fFact_put {j : Nat} {o : Oper} {a : Act} {dst : Option Tmp} {v u : Value} (h : ∀ d, dst = some d -> d ∉ o.looksAt ops) : fFact ops sp j o (a.put dst v) u = fFact ops sp j o a u := by
 unfold fFact;rw [wanted_put o a dst v h]
theorem fSpec_upd {i j : Nat} {o : Oper} {E : Nat -> World -> Prop} {a : Act} {A : World -> Prop} (h : ¬ Bef md ops i j) : fSpec P md ops C sp j o (updE E i A) a ↔ fSpec P md ops C sp j o E a := by
 unfold fSpec
 have key : ∀ w, (∀ k, Bef md ops k j -> updE E i A k w) ↔ (∀ k, Bef md ops k j -> E k w) := fun w => by
  constructor
  . intro hh k hk
    have := hh k hk;unfold updE at this
    rwa [if_neg (fun e => h (by rw [<- e]; exact hk))] at this
  . intro hh k hk
    unfold updE;rw [if_neg (fun e => h (by rw [<- e]; exact hk))];exact hh k hk
 cases sp j with
 | none => exact Iff.rfl
 | some s => simp only [key]
theorem fOut_ne {i : Nat} {o : Oper} {E : Nat -> World -> Prop} {a : Act} (h : fSpec P md ops C sp i o E a) : ∃ u, fOut P ops C sp i o a u := by
 unfold fOut
 by_cases hw : Region.wanted o (yielded ops a.tmps) = true
 . have h1 := h hw
   simp only [hw, if_true];cases hs : sp i with
   | none => rw [hs] at h1; exact h1.2
   | some s => rw [hs] at h1; exact h1.1
 . exact ⟨undef, by rw [if_neg hw]⟩
def Dwn (md : Region.Mode) (ops : Array Oper) (listed : Array Bool) : Prop := ∀ j k, Bef md ops j k -> listed.getD k false = true -> listed.getD j false = true
theorem bef_ready {listed : Array Bool} (hD : Dwn md ops listed) {i : Nat} (hr : i ∈ Region.ready md ops listed) {j : Nat} (hb : Bef md ops j i) : listed.getD j false = true := by
 induction hb with
 | one h1 h2 h3 h4 =>
   obtain ⟨_, o, ho, hall⟩ := mem_ready.1 hr;rw [ho] at h1; cases h1;subst h4;exact hall _ h2 h3
 | two h1 h2 _ ih2 => exact hD _ _ h1 (ih2 hr)
theorem not_listed {listed : Array Bool} {j : Nat} (h : listed.getD j true = false) : listed.getD j false ≠ true := fun e => by
 rcases Nat.lt_or_ge j listed.size with h' | h'
 . simp [h'] at h e; rw [h] at e; cases e
 . simp [Array.getElem?_eq_none h'] at e
theorem Dwn.add {listed : Array Bool} (hD : Dwn md ops listed) {i : Nat} (hr : i ∈ Region.ready md ops listed) : Dwn md ops (listed.setIfInBounds i true) := by
 intro j k hb hk
 by_cases e : i = k
 . subst e
   exact getD_set_true (bef_ready hD hr hb)
 . rw [getD_set_ne false e] at hk
   exact getD_set_true (hD j k hb hk)
theorem wpAnyF_first {Q : (Nat -> World -> Prop) -> Act -> Prop} {i : Nat} {oi : Oper} (hi : ops[i]? = some oi) (hsel : ∀ (j : Nat) (o : Oper) cs b, ops[j]? = some o -> o.op ≠ .select cs b) :
 ∀ (fuel : Nat) (listed : Array Bool) (E : Nat -> World -> Prop) (a : Act),
  (∀ j oj, ops[j]? = some oj -> j ≠ i -> listed.getD j true = false -> (∀ e ∈ oj.after, Region.binds md e = true -> e.on ≠ i) -> oi.apart ops oj = true) ->
  Dwn md ops listed -> i ∈ Region.ready md ops listed -> fSpec P md ops C sp i oi E a ->
  (∀ u, fOut P ops C sp i oi a u -> wpAnyF P md ops C sp Q fuel (listed.setIfInBounds i true) (updE E i (fFact ops sp i oi a u)) (a.put oi.dst u)) -> wpAnyF P md ops C sp Q (fuel + 1) listed E a := by
 intro fuel
 induction fuel with
 | zero =>
   intro listed E a _ _ hr hy H;refine ⟨fun h => (by rw [h] at hr; cases hr), fun j hj oj hoj => ?_⟩
   by_cases hji : j = i
   . subst hji
     rw [hi] at hoj; cases hoj;exact ⟨hy, H⟩
   . obtain ⟨u, hu⟩ := fOut_ne hy
     have := ready_mono hj hji;rw [(H u hu).1] at this;cases this
 | succ fuel ih =>
   intro listed E a hfree hD hr hy H;refine ⟨fun h => (by rw [h] at hr; cases hr), fun j hj oj hoj => ?_⟩
   by_cases hji : j = i
   . subst hji
     rw [hi] at hoj; cases hoj;exact ⟨hy, H⟩
   . obtain ⟨hjun, oj', hoj', hall⟩ := mem_ready.1 hj
     rw [hoj] at hoj'; cases hoj';have hiun := (mem_ready.1 hr).1
     have hnot : ∀ e ∈ oj.after, Region.binds md e = true -> e.on ≠ i := fun e he hb heq => by
      have h1 := hall e he hb;rw [heq] at h1;exact not_listed hiun h1
     obtain ⟨h1, h2, h3⟩ := Oper.apart_spec (hfree j oj hoj hji hjun hnot);have hsi := fun cs b => hsel i oi cs b hi;have hsj := fun cs b => hsel j oj cs b hoj;have nbij : ¬ Bef md ops i j := fun hb => not_listed hiun (bef_ready hD hj hb);have nbji : ¬ Bef md ops j i := fun hb => not_listed hjun (bef_ready hD hr hb);obtain ⟨u0, hu0⟩ := fOut_ne hy;have hj0 := (H u0 hu0).2 j (ready_mono hj hji) oj hoj;have hsp := (fSpec_upd nbij).1 ((fSpec_put hsj h1).1 hj0.1);refine ⟨hsp, fun uj huj => ?_⟩
     have hfree' : ∀ k ok, ops[k]? = some ok -> k ≠ i -> (listed.setIfInBounds j true).getD k true = false ->
      (∀ e ∈ ok.after, Region.binds md e = true -> e.on ≠ i) -> oi.apart ops ok = true := fun k ok hk hki hun hno => by
      refine hfree k ok hk hki ?_ hno
      by_cases hjk : j = k
      . subst hjk; exact hjun
      . rw [getD_set_ne true hjk] at hun; exact hun
     refine ih (listed.setIfInBounds j true) (updE E j (fFact ops sp j oj a uj)) (a.put oj.dst uj) hfree' (hD.add hj) (ready_mono hr (Ne.symm hji)) ((fSpec_put hsi h3).2 ((fSpec_upd nbji).2 hy)) fun ui hui => ?_;rw [fOut_put hsi h3] at hui;have hj1 := ((H ui hui).2 j (ready_mono hj hji) oj hoj).2 uj ((fOut_put hsj h1).2 huj);rw [fFact_put h1, updE_comm (Ne.symm hji)] at hj1;rw [fFact_put h3, Array.setIfInBounds_comm _ _ hji, Act.put_comm a uj ui (fun d hd => fun hd2 => h2 d hd2 hd)];exact hj1
theorem wpAnyF_lex {Q : (Nat -> World -> Prop) -> Act -> Prop} (hs : Region.noSelect ops = true) : ∀ (l : List Oper) (k : Nat) (listed : Array Bool) (E : Nat -> World -> Prop) (a : Act), (∀ j, l[j]? = ops[k + j]?) ->
 Region.lexFrom md ops l.length k listed = true -> Dwn md ops listed -> wpF P md ops C sp Q l k E a -> wpAnyF P md ops C sp Q l.length listed E a
 | [], _, _, _, _, _, hB, _, h => ⟨by simpa [Region.lexFrom] using hB, h⟩
 | o :: l, k, listed, E, a, hl, hB, hD, h => by
   have h0 : ops[k]? = some o := by simpa using (hl 0).symm
   simp only [List.length_cons, Region.lexFrom, Bool.and_eq_true] at hB;obtain ⟨⟨hr, hf⟩, hB'⟩ := hB;have hr' : k ∈ Region.ready md ops listed := by simpa using hr
   exact wpAnyF_first h0 (Region.noSelect_spec hs) l.length listed E a (Region.free_spec h0 hf) hD hr' h.1 fun u hu =>
    wpAnyF_lex hs l (k + 1) _ _ _ (fun j => by have := hl (j + 1); simpa [Nat.add_assoc, Nat.add_comm 1 j] using this) hB' (hD.add hr') (h.2 u hu)
theorem run_told {i : Nat} {o : Oper} {E : Nat -> World -> Prop} {a : Act} {w : World} {K : Act -> World -> Prop} {Q' : Exit -> Act -> World -> Prop} (hw : C w) (h1 : fSpec P md ops C sp i o E a) (hE : ∀ j, E j w)
 (key : ∀ u w', fOut P ops C sp i o a u -> Lat w w' -> (∀ v, Stb (fFact ops sp i o a v)) -> fFact ops sp i o a u w' -> K (a.put o.dst u) w') :
 if Region.wanted o (yielded ops a.tmps) = true then o.wp P a w K Q' ∨ (o.asks P a w /\ LetsOut Q') else K (a.put o.dst undef) w := by
 by_cases hwt : Region.wanted o (yielded ops a.tmps) = true
 . rw [if_pos hwt]
   refine Or.inl ?_;have h3 := h1 hwt;unfold fOut fFact at key;simp only [hwt, if_true] at key;unfold Oper.wp;cases hs : sp i with
   | none =>
     rw [hs] at h3 key;simp only at h3 key;obtain ⟨hne, u, hu⟩ := h3;have hst : ∀ v : Value, Stb (fun _ => True) := fun _ _ _ _ _ => trivial;have hrn := hu w hw;have hkk := key u w hu (Lat.refl w) hst trivial;generalize hr : (execOp a.eval o).run P w = r at *;cases r with
     | ok n w' =>
       cases n <;> simp only [Oper.quietUpon] at hrn <;> simp only [Oper.upon]
       case value u' =>
        obtain ⟨e1, e2⟩ := hrn;rw [e1, e2]; exact hkk
       case skip =>
        obtain ⟨e1, e2⟩ := hrn;rw [e1, <- e2]; exact hkk
       case enter f args => exact absurd hr (hne w f args w')
     | halt x w' => simp only [Oper.quietUpon] at hrn
   | some s =>
     rw [hs] at h3 key;simp only at h3 key;have hrn := h3.2.2 w hw (fun j _ => hE j);have key2 := fun u w' h4 h5 h6 => key u w' h4 h5 h3.2.1 h6;clear key;generalize hr : (execOp a.eval o).run P w = r at *;cases r with
     | ok n w' =>
       cases n <;> simp only [frUpon] at hrn <;> simp only [Oper.upon]
       case value u' => exact key2 u' w' hrn.2.1 hrn.1 hrn.2.2
       case skip => exact key2 undef w' hrn.2.1 hrn.1 hrn.2.2
       case enter f args =>
        obtain ⟨e1, hc⟩ := hrn;rw [e1];exact hc.mono fun e w'' ⟨u, he, hl, hp, hR⟩ => by subst he; exact key2 u w'' hp hl hR
     | halt x w' => simp only [frUpon] at hrn
 . rw [if_neg hwt]
   unfold fOut fFact at key;simp only [hwt] at key;exact key undef w (by simp) (Lat.refl w) (fun _ _ _ _ _ => trivial) trivial
theorem wpAny_of_F {Q : (Nat -> World -> Prop) -> Act -> Prop} {Q' : Exit -> Act -> World -> Prop} (hCl : ∀ w w', C w -> Lat w w' -> C w') (hQ : ∀ E a w, C w -> (∀ j, E j w) -> Q E a -> Q' .normal a w) : ∀ (fuel : Nat) (listed : Array Bool) (E : Nat -> World -> Prop) (a : Act) (w : World), C w -> (∀ j, E j w) -> (∀ j, Stb (E j)) ->
 wpAnyF P md ops C sp Q fuel listed E a -> wpAny P md ops Q' fuel listed a w
 | 0, _, _, _, _, hw, hE, _, h => ⟨h.1, hQ _ _ _ hw hE h.2⟩
 | fuel + 1, listed, E, a, w, hw, hE, hS, h => by
   refine ⟨fun h0 => hQ _ _ _ hw hE (h.1 h0), fun i hi => ?_⟩;obtain ⟨_, o, ho, _⟩ := mem_ready.1 hi;obtain ⟨h1, h2⟩ := h.2 i hi o ho
   have key : ∀ u w', fOut P ops C sp i o a u -> Lat w w' -> (∀ v, Stb (fFact ops sp i o a v)) -> fFact ops sp i o a u w' -> wpAny P md ops Q' fuel (listed.setIfInBounds i true) (a.put o.dst u) w' := fun u w' hu hl hst hf => by
    refine wpAny_of_F hCl hQ fuel _ _ _ _ (hCl _ _ hw hl) (fun j => ?_) (fun j => ?_) (h2 u hu)
    . unfold updE
      split
      . exact hf
      . exact hS j _ _ (hE j) hl
    . unfold updE
      split
      . exact hst u
      . exact hS j
   unfold wpOp;rw [ho];simp only;exact run_told hw h1 hE key
theorem wanted_snoc {l : List Oper} {o x : Oper} {t : Array Value} (hg : ∀ g b, x.guard = some (g, b) -> g < l.length) : Region.wanted x (yielded (l ++ [o]).toArray t) = Region.wanted x (yielded l.toArray t) := by
 unfold Region.wanted;cases hx : x.guard with
 | none => rfl
 | some gw =>
   obtain ⟨g, b⟩ := gw;have hlt := hg g b hx
   have : yielded (l ++ [o]).toArray t g = yielded l.toArray t g := by
    unfold yielded;simp [List.getElem?_append_left hlt]
   simp only [this]
theorem getD_push {listed : Array Bool} {i : Nat} {d : Bool} : (listed.push false).getD i d = if i < listed.size then listed.getD i d else if i = listed.size then false else d := by
 rcases Nat.lt_trichotomy i listed.size with h | h | h
 . simp [Array.getElem?_push, h, Nat.ne_of_lt h]
 . subst h; simp [Array.getElem?_push]
 . have h1 : ¬ i < listed.size := by omega
   have h2 : ¬ i = listed.size := by omega
   rw [if_neg h1, if_neg h2];simp [Array.getElem?_push, h2, Array.getElem?_eq_none (show listed.size <= i by omega)]
theorem set_push {listed : Array Bool} {i : Nat} (h : i < listed.size) : (listed.push false).setIfInBounds i true = (listed.setIfInBounds i true).push false := by
 apply Array.ext_getElem?;intro k;simp only [Array.getElem?_setIfInBounds, Array.getElem?_push, Array.size_push, Array.size_setIfInBounds]
 by_cases hk : i = k
 . subst hk
   simp [h, Nat.ne_of_lt h]; omega
 . simp [hk]
theorem all_listed {l : List Oper} {listed : Array Bool} (hs : listed.size = l.length) (hac : ∀ (i : Nat) (x : Oper), l[i]? = some x -> ∀ e ∈ x.after, e.on < i) (hr : Region.ready md l.toArray listed = []) : ∀ i, i < l.length -> listed.getD i false = true := by
 intro i
 induction i using Nat.strongRecOn with
 | _ i ih =>
   intro hi;refine Classical.byContradiction fun hn => ?_
   have h0 : listed.getD i true = false := by
    have hlt : i < listed.size := by omega
    simp [hlt] at hn ⊢;exact hn
   have : i ∈ Region.ready md l.toArray listed := mem_ready.2 ⟨h0, l[i], by simp [hi], fun e he _ => by
    have := hac i l[i] (by simp [hi]) e he;exact ih e.on this (by omega)⟩
   rw [hr] at this;cases this
theorem wpAny_done {Q' : Exit -> Act -> World -> Prop} {listed : Array Bool} {a : Act} {w : World} (hr : Region.ready md ops listed = []) (h : Q' .normal a w) : ∀ m, wpAny P md ops Q' m listed a w
 | 0 => ⟨hr, h⟩
 | m + 1 => ⟨fun _ => h, fun i hi => by rw [hr] at hi; cases hi⟩
theorem wpAny_of_last {l : List Oper} {o : Oper} {Q : (Nat -> World -> Prop) -> Act -> Prop} {Q' : Exit -> Act -> World -> Prop} (hCl : ∀ w w', C w -> Lat w w' -> C w') (hog : o.guard = none)
 (hQ : ∀ E a w, C w -> (∀ j, E j w) -> Q E a -> o.wp P a w (fun a w => Q' .normal a w) Q')
 (hac : ∀ (i : Nat) (x : Oper), l[i]? = some x -> ∀ e ∈ x.after, e.on < i) (hgd : ∀ (i : Nat) (x : Oper), l[i]? = some x -> ∀ g b, x.guard = some (g, b) -> g < l.length) (hon : ∀ e ∈ o.after, e.on < l.length)
 (hall : ∀ j, j < l.length -> Bef md (l ++ [o]).toArray j l.length) :
 ∀ (m : Nat) (listed : Array Bool) (E : Nat -> World -> Prop) (a : Act) (w : World), listed.size = l.length -> Dwn md (l ++ [o]).toArray (listed.push false) -> C w -> (∀ j, E j w) -> (∀ j, Stb (E j)) ->
  wpAnyF P md l.toArray C sp Q m listed E a -> wpAny P md (l ++ [o]).toArray Q' (m + 1) (listed.push false) a w := by
 have endc : ∀ (m : Nat) (listed : Array Bool) (E : Nat -> World -> Prop) (a : Act) (w : World), listed.size = l.length -> C w -> (∀ j, E j w) -> Region.ready md l.toArray listed = [] -> Q E a -> wpAny P md (l ++ [o]).toArray Q' (m + 1) (listed.push false) a w := by
  intro m listed E a w hs hw hE hr hq;have hl := all_listed hs hac hr
  have hlt : ∀ i, i < l.length -> listed.getD i true = true := fun i hi => by
   have h1 := hl i hi;have h2 : i < listed.size := by omega
   simp [h2] at h1 ⊢;exact h1
  have hmem : l.length ∈ Region.ready md (l ++ [o]).toArray (listed.push false) := mem_ready.2 ⟨by rw [getD_push, if_neg (by omega), if_pos hs.symm], o, by simp, fun e he _ => by
   have := hon e he;rw [getD_push, if_pos (by omega)];exact hl _ this⟩
  have hnone : ∀ i, i ∈ Region.ready md (l ++ [o]).toArray (listed.push false) -> i = l.length := fun i hi => by
   obtain ⟨h0, x, hx, _⟩ := mem_ready.1 hi;refine Classical.byContradiction fun hne => ?_
   have h1 : i < l.length := by
    have := (Array.getElem?_eq_some_iff.1 hx).1;simp at this;omega
   rw [getD_push, if_pos (by omega), hlt i h1] at h0;cases h0
  have hdone : Region.ready md (l ++ [o]).toArray ((listed.push false).setIfInBounds l.length true) = [] := by
   refine List.eq_nil_iff_forall_not_mem.2 fun i hi => ?_;obtain ⟨h0, x, hx, hall2⟩ := mem_ready.1 hi
   by_cases e : l.length = i
   . subst e
     simp [hs] at h0
   . rw [getD_set_ne true e] at h0
     have h1 : i < l.length := by
      have := (Array.getElem?_eq_some_iff.1 hx).1;simp at this;omega
     rw [getD_push, if_pos (by omega), hlt i h1] at h0;cases h0
  refine ⟨fun h => (by rw [h] at hmem; cases hmem), fun i hi => ?_⟩;obtain rfl := hnone i hi;unfold wpOp;have hget : ((l ++ [o]).toArray)[l.length]? = some o := by simp
  rw [hget];simp only;have hwt : Region.wanted o (yielded (l ++ [o]).toArray a.tmps) = true := by unfold Region.wanted; rw [hog]
  rw [if_pos hwt];exact Or.inl (Oper.wp_mono (fun a' w' h => wpAny_done hdone h m) (hQ E a w hw hE hq))
 intro m
 induction m with
 | zero =>
   intro listed E a w hs hD hw hE hS h;exact endc 0 listed E a w hs hw hE h.1 h.2
 | succ m ih =>
   intro listed E a w hs hD hw hE hS h
   by_cases hr : Region.ready md l.toArray listed = []
   . exact endc (m + 1) listed E a w hs hw hE hr (h.1 hr)
   obtain ⟨i0, hi0⟩ := List.exists_mem_of_ne_nil _ hr
   have hsub : ∀ i, i ∈ Region.ready md l.toArray listed -> i < l.length /\ i ∈ Region.ready md (l ++ [o]).toArray (listed.push false) := fun i hi => by
    obtain ⟨h0, x, hx, hall2⟩ := mem_ready.1 hi
    have h1 : i < l.length := by
     have := (Array.getElem?_eq_some_iff.1 hx).1;simpa using this
    refine ⟨h1, mem_ready.2 ⟨by rw [getD_push, if_pos (by omega)]; exact h0, x, by rw [<- hx]; simp [List.getElem?_append_left h1], fun e he hb => ?_⟩⟩;have := hall2 e he hb;have h3 := hac i x (by simpa using hx) e he;rw [getD_push, if_pos (by omega)];exact this
   have hlast : ∀ i, i ∈ Region.ready md (l ++ [o]).toArray (listed.push false) -> i ∈ Region.ready md l.toArray listed := fun i hi => by
    obtain ⟨h0, x, hx, hall2⟩ := mem_ready.1 hi
    by_cases h1 : i < l.length
    . rw [getD_push, if_pos (by omega)] at h0
      have hx' : l.toArray[i]? = some x := by rw [<- hx]; simp [List.getElem?_append_left h1]
      refine mem_ready.2 ⟨h0, x, hx', fun e he hb => ?_⟩;have := hall2 e he hb;have h3 := hac i x (by simpa using hx') e he;rw [getD_push, if_pos (by omega)] at this;exact this
    . have h2 : i = l.length := by
       have := (Array.getElem?_eq_some_iff.1 hx).1;simp at this;omega
      subst h2;have h4 := bef_ready hD hi (hall i0 (hsub i0 hi0).1);rw [getD_push, if_pos (by have := (hsub i0 hi0).1; omega)] at h4;exact absurd h4 (not_listed (mem_ready.1 hi0).1)
   refine ⟨fun h0 => (by have := (hsub i0 hi0).2; rw [h0] at this; cases this), fun i hi => ?_⟩;have hi' := hlast i hi;have hin := (hsub i hi').1;obtain ⟨_, x, hx, _⟩ := mem_ready.1 hi';obtain ⟨h1, h2⟩ := h.2 i hi' x hx;have hDn := hD.add hi;rw [set_push (by omega)] at hDn ⊢
   have key : ∀ u w', fOut P l.toArray C sp i x a u -> Lat w w' -> (∀ v, Stb (fFact l.toArray sp i x a v)) -> fFact l.toArray sp i x a u w' -> wpAny P md (l ++ [o]).toArray Q' (m + 1) ((listed.setIfInBounds i true).push false) (a.put x.dst u) w' := fun u w' hu hl hst hf => by
    refine ih _ _ _ _ (by simpa using hs) hDn (hCl _ _ hw hl) (fun j => ?_) (fun j => ?_) (h2 u hu)
    . unfold updE
      split
      . exact hf
      . exact hS j _ _ (hE j) hl
    . unfold updE
      split
      . exact hst u
      . exact hS j
   have hx1 : (l ++ [o]).toArray[i]? = some x := by rw [<- hx]; simp [List.getElem?_append_left hin]
   unfold wpOp;rw [hx1];simp only;rw [wanted_snoc (hgd i x (by simpa using hx))];exact run_told hw h1 hE key
end
def Grw (W w' : World) : Prop := ∃ p : Regrown, w' = grow (redrawn W p.d) p.os
theorem grw_lat {W w w' : World} (h : Grw W w) (hl : Lat w w') : Grw W w' := by
 obtain ⟨p, rfl⟩ := h;have h1 := below_regrown W p.d p.os;exact regrown_of_below (Below.trans h1 (Below.mono hl h1.size))
theorem grw_below {W w : World} (h : Grw W w) : Below W.heap.size W w := by obtain ⟨p, rfl⟩ := h; exact below_regrown W p.d p.os
theorem wp_region_fresh {P : Program} {id : Nat} {Q : Exit -> Act -> World -> Prop} {a : Act} {w : World} {l : List Oper} (sp : Nat -> Option Spc) (hm : P.follows .mixedOrders = true) (hB : Region.lexB .any l.toArray = true)
 (h : wpF P .any l.toArray (fun w' => ∃ p : Regrown, w' = grow (redrawn w p.d) p.os) sp (fun E a' => ∀ w', Grw w w' -> (∀ j, E j w') -> Q .normal a' w') l 0 (fun _ _ => True) a) : (Code.region id l.toArray true).wp P Q a w := by
 simp only [Region.lexB, Bool.and_eq_true] at hB;refine wp_region_any hm (wpAny_of_F (Q := fun E a' => ∀ w', Grw w w' -> (∀ j, E j w') -> Q .normal a' w') (C := fun w' => ∃ p : Regrown, w' = grow (redrawn w p.d) p.os) (sp := sp) (fun w1 w2 h1 h2 => grw_lat h1 h2) (fun E a w' hw' hE h => h w' hw' hE) _ _ (fun _ _ => True) _ _ ⟨⟨w.drawn + 1, #[]⟩, by rw [grow_empty]; rfl⟩ (fun _ => trivial) (fun _ _ _ _ _ => trivial) ?_)
 have hD : Dwn .any l.toArray (Array.replicate l.toArray.size false) := fun j k _ hk => by
  exfalso;unfold Array.getD at hk;split at hk <;> simp at hk
 have := wpAnyF_lex (P := P) (md := .any) hB.1 l 0 (Array.replicate l.toArray.size false) (fun _ _ => True) a (by simp) (by simpa using hB.2) hD h;simpa using this
section
variable {P : Program} {ops : Array Oper} {C : World -> Prop} {sp : Nat -> Option Spc} {Q : (Nat -> World -> Prop) -> Act -> Prop} {o : Oper} {rest : List Oper} {k : Nat} {E : Nat -> World -> Prop} {a : Act}
theorem wpF_nil (h : Q E a) : wpF P .any ops C sp Q [] k E a := h
theorem wpF_skip (hw : Region.wanted o (yielded ops a.tmps) = false) (h : wpF P .any ops C sp Q rest (k + 1) (updE E k (fun _ => True)) (a.put o.dst undef)) : wpF P .any ops C sp Q (o :: rest) k E a := by
 refine ⟨fun h' => absurd (hw.symm.trans h') (by simp), fun u hu => ?_⟩;unfold fOut at hu;unfold fFact;simp only [hw] at hu ⊢;have : u = undef := by simpa using hu
 subst this;simpa using h
theorem quiet_uniq {w : World} {X : Sem Next} {u v : Value} (hne : noEnter P X) (h1 : Oper.quietUpon P C w u (X.run P w)) (h2 : Oper.quietUpon P C w v (X.run P w)) : u = v := by
 generalize hr : X.run P w = r at *;cases r with
 | ok n w' =>
   cases n <;> simp only [Oper.quietUpon] at h1 h2
   case value u' => rw [<- h1.2, <- h2.2]
   case skip => rw [h1.2, h2.2]
   case enter f args => exact absurd hr (hne w f args w')
 | halt x w' => simp only [Oper.quietUpon] at h1
theorem wpF_quiet (hC : ∃ w, C w) (hw : Region.wanted o (yielded ops a.tmps) = true) (hsp : sp k = none) (hne : noEnter P (execOp a.eval o))
 (h : ∀ K : Act -> Prop, (∀ a', wpF P .any ops C sp Q rest (k + 1) (updE E k (fun _ => True)) a' -> K a') -> o.quiet P a C K) : wpF P .any ops C sp Q (o :: rest) k E a := by
 obtain ⟨v, hv, hn⟩ := h _ (fun _ h => h);refine ⟨fun _ => ?_, fun u hu => ?_⟩
 . rw [hsp]; exact ⟨hne, v, hv⟩
 . unfold fOut at hu
   unfold fFact;simp only [hw, if_true, hsp] at hu ⊢;obtain ⟨w, hCw⟩ := hC;have : u = v := quiet_uniq hne (hu w hCw) (hv w hCw);subst this;exact hn
theorem wpF_put (h : ∀ K : Act -> Prop, (∀ a', wpF P .any ops C sp Q rest k E a' -> K a') -> K a) : wpF P .any ops C sp Q rest k E a := h _ (fun _ h => h)
theorem wpF_told (s : Spc) (hw : Region.wanted o (yielded ops a.tmps) = true) (hsp : sp k = some s) (hp : ∃ u, s.p u) (hR : ∀ v, Stb (s.R v))
 (hs : ∀ w, C w -> (∀ j, Bef .any ops j k -> E j w) -> frUpon P w s ((execOp a.eval o).run P w))
 (h : ∀ u, s.p u -> wpF P .any ops C sp Q rest (k + 1) (updE E k (s.R u)) (a.put o.dst u)) : wpF P .any ops C sp Q (o :: rest) k E a := by
 refine ⟨fun _ => ?_, fun u hu => ?_⟩
 . rw [hsp]; exact ⟨hp, hR, hs⟩
 . unfold fOut at hu
   unfold fFact;simp only [hw, if_true, hsp] at hu ⊢;exact h u hu
end
def backB (l : List Oper) (n : Nat) : Bool := l.zipIdx.all fun x => x.1.after.all (fun e => decide (e.on < x.2)) && (match x.1.guard with | some (g, _) => decide (g < n) | none => true)
theorem backB_spec {l : List Oper} {n : Nat} (h : backB l n = true) : ∀ (i : Nat) (x : Oper), l[i]? = some x -> (∀ e ∈ x.after, e.on < i) /\ ∀ g b, x.guard = some (g, b) -> g < n := by
 intro i x hx;unfold backB at h;rw [List.all_eq_true] at h;have h1 := h (x, i) (by rw [List.mem_zipIdx_iff_getElem?]; exact hx);rw [Bool.and_eq_true] at h1;refine ⟨fun e he => ?_, fun g b hg => ?_⟩
 . have := Array.all_eq_true_iff_forall_mem.1 h1.1 e he
   simpa using this
 . have := h1.2
   rw [hg] at this;simpa using this
def befB (md : Region.Mode) (ops : Array Oper) : Nat -> Nat -> Nat -> Bool
 | 0, _, _ => false
 | f + 1, j, k => match ops[k]? with
   | none => false
   | some o => o.after.any fun e => Region.binds md e && (e.on == j || befB md ops f j e.on)
theorem befB_spec {md : Region.Mode} {ops : Array Oper} {j : Nat} : ∀ (f k : Nat), befB md ops f j k = true -> Bef md ops j k
 | 0, _, h => by cases h
 | f + 1, k, h => by
   unfold befB at h;cases hk : ops[k]? with
   | none => rw [hk] at h; cases h
   | some o =>
     rw [hk] at h;simp only at h;obtain ⟨ix, hix, h2⟩ := Array.any_eq_true.1 h;have he := Array.getElem_mem hix;generalize o.after[ix] = e at *;rw [Bool.and_eq_true, Bool.or_eq_true] at h2;rcases h2.2 with h3 | h3
     . exact .one hk he h2.1 (by simpa using h3)
     . exact .two (befB_spec f _ h3) (.one hk he h2.1 rfl)
def endB (l : List Oper) (o : Oper) : Bool := backB l l.length && o.guard.isNone && o.after.all (fun e => decide (e.on < l.length)) && (List.range l.length).all fun j => befB .any (l ++ [o]).toArray (l.length + 1) j l.length
theorem wp_region_last {P : Program} {id : Nat} {Q : Exit -> Act -> World -> Prop} {a : Act} {w : World} {l ops : List Oper} {o : Oper} (sp : Nat -> Option Spc) (ho : ops = l ++ [o]) (hm : P.follows .mixedOrders = true) (hB : Region.lexB .any l.toArray = true) (hL : endB l o = true)
 (h : wpF P .any l.toArray (fun w' => ∃ p : Regrown, w' = grow (redrawn w p.d) p.os) sp (fun E a' => ∀ w', Grw w w' -> (∀ j, E j w') -> o.wp P a' w' (fun a2 w2 => Q .normal a2 w2) Q) l 0 (fun _ _ => True) a) : (Code.region id ops.toArray true).wp P Q a w := by
 subst ho;simp only [Region.lexB, Bool.and_eq_true] at hB;unfold endB at hL;simp only [Bool.and_eq_true] at hL;obtain ⟨⟨⟨hL1, hL2⟩, hL3⟩, hL4⟩ := hL;have hb := backB_spec hL1
 have hall : ∀ j, j < l.length -> Bef .any (l ++ [o]).toArray j l.length := fun j hj => befB_spec _ _ (by
  rw [List.all_eq_true] at hL4;exact hL4 j (List.mem_range.2 hj))
 have hon : ∀ e ∈ o.after, e.on < l.length := fun e he => by
  have := Array.all_eq_true_iff_forall_mem.1 hL3 e he;simpa using this
 have hD : ∀ n, Dwn .any l.toArray (Array.replicate n false) := fun n j k _ hk => by
  exfalso;unfold Array.getD at hk;split at hk <;> simp at hk
 have hD2 : Dwn .any (l ++ [o]).toArray ((Array.replicate l.length false).push false) := fun j k _ hk => by
  exfalso;rw [getD_push] at hk
  by_cases h1 : k < (Array.replicate l.length false).size
  . rw [if_pos h1] at hk
    unfold Array.getD at hk;split at hk <;> simp at hk
  . rw [if_neg h1] at hk
    split at hk <;> cases hk
 refine wp_region_any hm ?_;have hF := wpAnyF_lex (P := P) (md := .any) hB.1 l 0 (Array.replicate l.toArray.size false) (fun _ _ => True) a (by simp) (by simpa using hB.2) (hD _) h
 have := wpAny_of_last (P := P) (md := .any) (l := l) (o := o) (Q := fun E a' => ∀ w', Grw w w' -> (∀ j, E j w') -> o.wp P a' w' (fun a2 w2 => Q .normal a2 w2) Q) (Q' := Q) (C := fun w' => ∃ p : Regrown, w' = grow (redrawn w p.d) p.os) (sp := sp) (fun w1 w2 h1 h2 => grw_lat h1 h2) (by simpa using hL2) (fun E a w' hw' hE h => h w' hw' hE) (fun i x hx => (hb i x hx).1) (fun i x hx => (hb i x hx).2) hon hall
  l.length (Array.replicate l.length false) (fun _ _ => True) a { w with drawn := w.drawn + 1 } (by simp) hD2 ⟨⟨w.drawn + 1, #[]⟩, by rw [grow_empty]; rfl⟩ (fun _ => trivial) (fun _ _ _ _ _ => trivial) (by simpa using hF)
 rw [<- Array.replicate_succ] at this;simpa using this
theorem grw_ex (w : World) : ∃ w', ∃ p : Regrown, w' = grow (redrawn w p.d) p.os := ⟨_, ⟨0, #[]⟩, rfl⟩
theorem ne_bind {α : Type} {P : Program} {w : World} {s : Sem α} {f : α -> Sem Next} {X : Result Next} (hX : ∀ h w', X ≠ .halt h w') (h1 : ∀ a w', (f a).run P w' ≠ X) : (s >>= f).run P w ≠ X := by
 rw [Sem.run_bind];cases s.run P w with
 | ok a w' => exact h1 a w'
 | halt h w' => exact fun e => hX h w' e.symm
def isCall (o : Oper) : Bool := match o.op with | .call _ => true | .nilCheck _ => true | .recv _ _ _ => true | _ => false
theorem noEnter_op {P : Program} {ρ : Operand -> Value} {o : Oper} (h : isCall o = false) : noEnter P (execOp ρ o) := by
 intro w f args w';unfold isCall at h;unfold execOp;have hX : ∀ h w1, (Result.ok (Next.enter f args) w' : Result Next) ≠ .halt h w1 := fun h w1 e => by cases e
 cases ho : o.op <;> rw [ho] at h <;> simp only at h ⊢
 all_goals first
  | (cases h; done)
  | (rw [Sem.run_pure]; intro e; cases e; done)
  | (refine ne_bind hX fun a w1 => ?_; rw [Sem.run_pure]; intro e; cases e; done)
  | (refine ne_bind hX fun a w1 => ?_; refine ne_bind hX fun a w1 => ?_; rw [Sem.run_pure]; intro e; cases e; done)
theorem wp_region_last9 {P : Program} {id : Nat} {Q : Exit -> Act -> World -> Prop} {a : Act} {w : World} {x0 x1 x2 x3 x4 x5 x6 x7 x8 : Oper} (sp : Nat -> Option Spc) (hm : P.follows .mixedOrders = true) (hB : Region.lexB .any [x0, x1, x2, x3, x4, x5, x6, x7].toArray = true) (hL : endB [x0, x1, x2, x3, x4, x5, x6, x7] x8 = true)
 (h : wpF P .any [x0, x1, x2, x3, x4, x5, x6, x7].toArray (fun w' => ∃ p : Regrown, w' = grow (redrawn w p.d) p.os) sp (fun E a' => ∀ w', Grw w w' -> (∀ j, E j w') -> x8.wp P a' w' (fun a2 w2 => Q .normal a2 w2) Q) [x0, x1, x2, x3, x4, x5, x6, x7] 0 (fun _ _ => True) a) : (Code.region id [x0, x1, x2, x3, x4, x5, x6, x7, x8].toArray true).wp P Q a w :=
 wp_region_last (l := [x0, x1, x2, x3, x4, x5, x6, x7]) (o := x8) sp rfl hm hB hL h
theorem wp_region_last11 {P : Program} {id : Nat} {Q : Exit -> Act -> World -> Prop} {a : Act} {w : World} {x0 x1 x2 x3 x4 x5 x6 x7 x8 x9 x10 : Oper} (sp : Nat -> Option Spc) (hm : P.follows .mixedOrders = true) (hB : Region.lexB .any [x0, x1, x2, x3, x4, x5, x6, x7, x8, x9].toArray = true) (hL : endB [x0, x1, x2, x3, x4, x5, x6, x7, x8, x9] x10 = true)
 (h : wpF P .any [x0, x1, x2, x3, x4, x5, x6, x7, x8, x9].toArray (fun w' => ∃ p : Regrown, w' = grow (redrawn w p.d) p.os) sp (fun E a' => ∀ w', Grw w w' -> (∀ j, E j w') -> x10.wp P a' w' (fun a2 w2 => Q .normal a2 w2) Q) [x0, x1, x2, x3, x4, x5, x6, x7, x8, x9] 0 (fun _ _ => True) a) : (Code.region id [x0, x1, x2, x3, x4, x5, x6, x7, x8, x9, x10].toArray true).wp P Q a w :=
 wp_region_last (l := [x0, x1, x2, x3, x4, x5, x6, x7, x8, x9]) (o := x10) sp rfl hm hB hL h
def sVal (u : Value) : Spc := ⟨fun v => v = u, fun _ _ => True⟩
def sBool (b : Bool) : Spc := sVal (.bool b)
theorem stTrue : ∀ v : Value, Stb ((fun (_ : Value) (_ : World) => True) v) := fun _ _ _ _ _ => trivial
def sOwn (B : Nat) (xs : List Int) : Spc := ⟨fun v => ∃ r c, v = .slice r xs.length c, fun v w => OwnI B w v xs⟩
theorem stOwn (B : Nat) (xs : List Int) : ∀ v, Stb ((sOwn B xs).R v) := fun _ _ _ h hl => h.below hl
end Go.Proofs.YtpnogmicfomofaaGreatDoor.Stp
namespace Go.Proofs.YtpnogmicfomofaaGreatDoor
open Go.RowKit Go.Sort Go.Lib
open Go.Lib (hid)
open Stp (Spc Lat Stb)
theorem valinfo : (Tryz.prog.info? 29).map (fun i => (i.zero, i.size, i.bytes)) = some (some (.agg #[.int .i64 0, .int .i64 0, .string ByteArray.empty, .slice none 0 0, .slice none 0 0]), 5, 80) := by kernel_rfl
def laysCV_ren : Go.Shelf.Ren := ⟨fun | 41 => 119 | n => n, fun | 22 => 26 | 23 => 29 | 4 => 4 | n => n, fun | n => n⟩
theorem laysCV : Go.Proofs.SlLaysE0.n41 Tryz.prog laysCV_ren := {
 mixed := by kernel_rfl
 f41 := ⟨Tryz.f119.name, by decide, Tryz.func119.trans (congrArg some (by kernel_rfl))⟩
 t4 := Tryz.underlying4
 a4 := Tryz.isAgg4
 z4 := Tryz.sizeOf4
 v4 := Tryz.zeroValue4
 t22 := Tryz.underlying26
 a22 := Tryz.isAgg26
 z22 := Tryz.sizeOf26
 v22 := Tryz.zeroValue26 }
theorem vr_cv {w : World} {cs : List Value} {x : Val} (h : VR w cs x) : ∃ y : Cv, cs = y.enc := by
 obtain ⟨r, c, vK, rfl, _, ⟨rk, ck, rfl, _⟩, _⟩ := h.open';exact ⟨⟨x.kind, x.num, x.str, r, x.items.length, c, rk, x.keys.length, ck⟩, rfl⟩
theorem sl_cv {w : World} {r : Option Addr} {n c : Nat} {is : List Val} (h : Sl VR 5 w (.slice r n c) is) : ∃ ys : List Cv, ys.length = is.length /\ ∀ (i : Nat) (hi : i < ys.length), ∃ h' : i < is.length, VR w (ys[i]).enc is[i] /\ ∃ b off, r = some ⟨b, off, none⟩ /\ ∀ (j : Nat) (u : Value), (ys[i]).enc[j]? = some u -> w.cell? ⟨b, off + i * 5 + j, none⟩ = some u := by
 obtain ⟨r', c', e, h1, h2, he⟩ := h;simp at e;obtain ⟨rfl, rfl, rfl⟩ := e
 obtain ⟨ys, hl, hy⟩ := list_of is.length (fun i (y : Cv) => ∃ h' : i < is.length, VR w y.enc is[i] /\ ∃ b off, r = some ⟨b, off, none⟩ /\ ∀ (j : Nat) (u : Value), y.enc[j]? = some u -> w.cell? ⟨b, off + i * 5 + j, none⟩ = some u) (fun i hi => by
  obtain ⟨b, off, cs, hr, _, hc, hv⟩ := he i hi;obtain ⟨y, rfl⟩ := vr_cv hv;exact ⟨y, hi, hv, b, off, hr, hc⟩)
 exact ⟨ys, hl, hy⟩
theorem flat_cell {w : World} {b off : Nat} : ∀ (ys : List Cv) (o : Nat), (∀ (i : Nat) (hi : i < ys.length), ∀ (j : Nat) (u : Value), (ys[i]).enc[j]? = some u -> w.cell? ⟨b, off + o + i * 5 + j, none⟩ = some u) -> ∀ (j : Nat) (u : Value), (ys.flatMap Cv.enc)[j]? = some u -> w.cell? ⟨b, off + o + j, none⟩ = some u
 | [], o, _, j, u, h => by simp at h
 | y :: ys, o, hc, j, u, h => by
   rw [List.flatMap_cons] at h
   by_cases hj : j < 5
   . rw [List.getElem?_append_left (by rw [cv_len]; exact hj)] at h
     have := hc 0 (by simp) j u h;simpa using this
   . rw [List.getElem?_append_right (by rw [cv_len]; omega), cv_len] at h
     have := flat_cell ys (o + 5) (fun i hi j u hu => by
      have := hc (i + 1) (by simpa using hi) j u hu;rw [show off + o + (i + 1) * 5 + j = off + (o + 5) + i * 5 + j by omega] at this;exact this) (j - 5) u h
     rw [show off + (o + 5) + (j - 5) = off + o + j by omega] at this;exact this
def RowO (B : Nat) (w0 w : World) (v : Value) (ys : List Cv) (is : List Val) : Prop := w.ownsRow B 29 5 v ys.length (ys.flatMap Cv.enc) /\ ys.length = is.length /\ ∀ (i : Nat) (h : i < ys.length) (h' : i < is.length), VR w0 (ys[i]).enc is[i]
set_option maxHeartbeats 4000000 in
set_option maxRecDepth 100000 in
theorem clone_v0 (a : Addr) (c : Nat) (w : World) : Calls Tryz.prog 119 #[.slice (some a) 0 c] w fun e w' => ∃ v', e = .returned v' /\ w'.ownsRow w.heap.size 29 5 v' 0 [] /\ Below w.heap.size w w' := by
 obtain ⟨i0, hi, hz0, hz1, hz2⟩ := info_parts valinfo;have q36 : ∀ (w : World) (a : Option Addr) (n c n' c' : Nat), (binOp .eql 26 (.slice a n c) (.slice none n' c')).run Tryz.prog w = .ok (.bool a.isNone) w := fun w a n c n' c' => Lib.run_eql_slice_nil w _ _ a n c n' c' Tryz.underlying26;go_enter Tryz.func119, Tryz.ntmps119;go_wp2_with (at_builtin; refine wpList_append_own _ rfl _ _ 26 rfl w.heap.size 29 i0 _ 5 80 Tryz.underlying26 hi hz0 hz1 hz2 rfl (by decide) _ _ _ rfl (World.ownsRow_made w #[] 0 (Nat.le_refl _) (Nat.zero_le _) rfl) a 0 c [] rfl rfl (by intro j u hj; simp at hj) (by intro u hu; cases hu) (by unfold maxLen; omega) (by omega) (by simp) ?_)
 intro v' w1 hown hgrow hnil;go_wp2
 go_ret
 exact ⟨v', rfl, by simpa using hown, ((Below.refl _ w).alloc (Nat.le_refl _) _).grown hgrow (by simp) (by intro k hk; simp [Value.ownBlock] at hk; omega)⟩
theorem clone_v (is : List Val) (r : Option Addr) (c : Nat) (w0 w : World) (h0 : Sl VR 5 w0 (.slice r is.length c) is) (hb : Below w0.heap.size w0 w) (hn : is.length <= 1000000) :
 Calls Tryz.prog 119 #[.slice r is.length c] w fun e w' => ∃ v' ys, e = .returned v' /\ RowO w.heap.size w0 w' v' ys is /\ Below w.heap.size w w' := by
 obtain ⟨ys, hl, hy⟩ := sl_cv h0;have hc := sl_len h0;cases r with
 | none =>
   have h1 : is = [] := by
    cases is with
    | nil => rfl
    | cons x is =>
      obtain ⟨_, _, b, off, hr, _⟩ := hy 0 (by rw [hl]; simp);cases hr
   subst h1;have : ys = [] := List.eq_nil_of_length_eq_zero hl;subst this;exact (AnyE.slices_Clone_nil laysCV 0 c w).mono fun e w' ⟨he, hw⟩ => ⟨_, [], he, ⟨⟨by simp, .inl ⟨rfl, rfl⟩⟩, rfl, fun i h => by simp at h⟩, by rw [hw]; exact Below.refl _ _⟩
 | some a =>
   obtain ⟨i0, hi, hz0, hz1, hz2⟩ := info_parts valinfo;obtain ⟨_, hl1, hl2⟩ := hc
   by_cases h1 : is = []
   . subst h1
     have : ys = [] := List.eq_nil_of_length_eq_zero hl;subst this;exact (clone_v0 a c w).mono fun e w' ⟨v', he, ho, hb2⟩ => ⟨v', [], he, ⟨ho, rfl, fun i h => by simp at h⟩, hb2⟩
   . obtain ⟨b, off, ha⟩ : ∃ b off, a = ⟨b, off, none⟩ := by
      obtain ⟨_, _, b, off, hr, _⟩ := hy 0 (by rw [hl]; exact List.length_pos_iff.2 h1);exact ⟨b, off, by simpa using hr⟩
     subst ha;refine (AnyE.slices_Clone laysCV i0 _ 5 80 hi hz0 hz1 hz2 rfl (by decide) Tryz.sizeOf29 b off is.length c (ys.flatMap Cv.enc) w (by rw [flat_len Cv.enc 5 cv_len, hl]) (by unfold maxLen; omega) (by omega) (fun j u hu => ?_) (fun u hu => ?_)).mono fun e w' ⟨v', he, ho, _, hb2⟩ => ⟨v', ys, he, ⟨by rw [hl]; exact ho, hl, fun i h h' => (hy i h).2.1⟩, hb2⟩
     . refine bget hb ?_
       have := flat_cell (w := w0) (b := b) (off := off) ys 0 (fun i hi j u hu => by
        obtain ⟨_, _, b2, off2, hr, hc⟩ := hy i hi;simp at hr;obtain ⟨rfl, rfl⟩ := hr;exact hc j u hu) j u hu
       simpa using this
     . obtain ⟨y, _, hy2⟩ := List.mem_flatMap.1 hu
       exact cv_one y u hy2
end Go.Proofs.YtpnogmicfomofaaGreatDoor
namespace Go.Proofs.YtpnogmicfomofaaGreatDoor
open Go.RowKit Go.Sort Go.Lib
open Go.Lib (hid)
open Stp (Spc Lat Stb)
theorem own_setc5 {B sz g n cap : Nat} {e : TypeId} {w : World} {xs : List Value} (h : w.ownsRow B e sz (.slice (some ⟨g, 0, none⟩) n cap) n xs) (i : Nat) (u : Value) : (w.setCell ⟨g, i, none⟩ u).ownsRow B e sz (.slice (some ⟨g, 0, none⟩) n cap) n (xs.set i u) := by
 refine ⟨by rw [List.length_set]; exact h.1, ?_⟩;rcases h.2 with ⟨he, _⟩ | ⟨g2, cap2, cur, he, hb, hg, hn, hc, hs, ht⟩
 . cases he
 . cases he
   refine .inr ⟨g, cap, cur.setIfInBounds i u, rfl, hb, ?_, hn, hc, by rw [Array.size_setIfInBounds]; exact hs, ?_⟩
   . unfold World.setCell
     simp only [Array.getElem?_modify, if_true, hg, Option.map_some];rfl
   . rw [Array.toList_setIfInBounds, List.take_set, ht]
theorem set_app5 (x : Cv) (r : List Value) (i : Nat) (u : Value) : (x.enc ++ r).set (i + 5) u = x.enc ++ r.set i u := rfl
theorem flat_set5 (y : Cv) : ∀ (xs : List Cv) (k : Nat) (hk : k < xs.length), ((((((xs.flatMap Cv.enc).set (k * 5) (.int .i64 y.k)).set (k * 5 + 1) (.int .i64 y.n)).set (k * 5 + 2) (.string y.s)).set (k * 5 + 3) (.slice y.r y.ni y.c)).set (k * 5 + 4) (.slice y.rk y.nk y.ck)) = (xs.set k y).flatMap Cv.enc
 | [], k, hk => by simp at hk
 | x :: xs, 0, _ => rfl
 | x :: xs, k + 1, hk => by
   have IH := flat_set5 y xs k (by simpa using hk);rw [List.set_cons_succ, List.flatMap_cons, List.flatMap_cons];rw [show (k + 1) * 5 = k * 5 + 5 by omega, show k * 5 + 5 + 1 = (k * 5 + 1) + 5 by omega, show k * 5 + 5 + 2 = (k * 5 + 2) + 5 by omega, show k * 5 + 5 + 3 = (k * 5 + 3) + 5 by omega, show k * 5 + 5 + 4 = (k * 5 + 4) + 5 by omega, set_app5, set_app5, set_app5, set_app5, set_app5, IH]
def put5 (w : World) (g k : Nat) (y : Cv) : World := ((((w.setCell ⟨g, k * 5, none⟩ (.int .i64 y.k)).setCell ⟨g, k * 5 + 1, none⟩ (.int .i64 y.n)).setCell ⟨g, k * 5 + 2, none⟩ (.string y.s)).setCell ⟨g, k * 5 + 3, none⟩ (.slice y.r y.ni y.c)).setCell ⟨g, k * 5 + 4, none⟩ (.slice y.rk y.nk y.ck)
theorem put5_block (w : World) (g k : Nat) (y : Cv) {b : Nat} (h : b ≠ g) : (put5 w g k y).heap[b]? = w.heap[b]? := by
 unfold put5;rw [Below.heap_setCell _ _ _ _ h, Below.heap_setCell _ _ _ _ h, Below.heap_setCell _ _ _ _ h, Below.heap_setCell _ _ _ _ h, Below.heap_setCell _ _ _ _ h]
theorem put5_size (w : World) (g k : Nat) (y : Cv) : (put5 w g k y).heap.size = w.heap.size := by unfold put5; simp [World.setCell]
theorem put5_below {B : Nat} {w0 w : World} (h : Below B w0 w) (g k : Nat) (y : Cv) (hg : B <= g) : Below B w0 (put5 w g k y) := ((((h.setCell hg _).setCell hg _).setCell hg _).setCell hg _).setCell hg _
theorem own_put5 {B g n cap : Nat} {w : World} {ys : List Cv} (h : w.ownsRow B 29 5 (.slice (some ⟨g, 0, none⟩) n cap) n (ys.flatMap Cv.enc)) (hn : n = ys.length) {k : Nat} (hk : k < ys.length) (y : Cv) :
 (put5 w g k y).ownsRow B 29 5 (.slice (some ⟨g, 0, none⟩) n cap) n ((ys.set k y).flatMap Cv.enc) := by
 rw [<- flat_set5 y ys k hk];exact own_setc5 (own_setc5 (own_setc5 (own_setc5 (own_setc5 h _ _) _ _) _ _) _ _) _ _
structure RowM (M : Nat) (w0 w : World) (v : Value) (ys : List Cv) (is : List Val) (k : Nat) : Prop where
 own : w.ownsRow M 29 5 v ys.length (ys.flatMap Cv.enc)
 len : ys.length = is.length
 done : ∀ (i : Nat) (h : i < ys.length) (h' : i < is.length), i < k -> VR (mask (keepB M v) w) (ys[i]).enc is[i]
 rest : ∀ (i : Nat) (h : i < ys.length) (h' : i < is.length), k <= i -> VR w0 (ys[i]).enc is[i]
theorem RowO.start {B M : Nat} {w0 w : World} {v : Value} {ys : List Cv} {is : List Val} (h : RowO B w0 w v ys is) (hM : M <= B) : RowM M w0 w v ys is 0 :=
 ⟨own_base h.1 hM, h.2.1, fun i _ _ hi => absurd hi (by omega), fun i h1 h2 _ => h.2.2 i h1 h2⟩
theorem RowM.to {M k : Nat} {w0 w w' : World} {v : Value} {ys : List Cv} {is : List Val} (h : RowM M w0 w v ys is k) (hk : ∀ b, M <= b -> b < w.heap.size -> w'.heap[b]? = w.heap[b]?) : RowM M w0 w' v ys is k :=
 ⟨own_keep h.own fun g hg => hk g (own_lt h.own hg).1 (own_lt h.own hg).2, h.len, fun i h1 h2 h3 => vr_stays (stays_keep fun b hb hlt => ⟨hb, hk b (keepB_out hb).1 hlt⟩) (h.done i h1 h2 h3), h.rest⟩
theorem RowM.below {M k : Nat} {w0 w w' : World} {v : Value} {ys : List Cv} {is : List Val} (h : RowM M w0 w v ys is k) (hb : Below w.heap.size w w') : RowM M w0 w' v ys is k := h.to fun b _ hl => hb.block b hl
theorem RowM.put {M k B0 g n cap : Nat} {w0 w : World} {ys : List Cv} {is : List Val} (h : RowM M w0 w (.slice (some ⟨g, 0, none⟩) n cap) ys is k) (hn : n = ys.length) (hk : k < is.length) {r : Option Addr} {c : Nat} {rk : Option Addr} {ck : Nat}
 (hx : VK (fromB B0) w r c rk ck is[k]) (hB : M <= B0) (hg : g < B0) : RowM M w0 (put5 w g k (Cv.of is[k] r c rk ck)) (.slice (some ⟨g, 0, none⟩) n cap) (ys.set k (Cv.of is[k] r c rk ck)) is (k + 1) := by
 have hky : k < ys.length := by rw [h.len]; exact hk
 have hst : ∀ b, b ≠ g -> (put5 w g k (Cv.of is[k] r c rk ck)).heap[b]? = w.heap[b]? := fun b hb => put5_block w g k _ hb;have hob : ∀ b, (Value.slice (some ⟨g, 0, none⟩) n cap).ownBlock ≠ some b -> b ≠ g := fun b hb e => hb (by rw [e]; rfl);refine ⟨?_, by rw [List.length_set]; exact h.len, fun i h1 h2 h3 => ?_, fun i h1 h2 h3 => ?_⟩
 . rw [List.length_set, <- hn]
   exact own_put5 (by rw [hn]; rw [<- hn]; have := h.own; rw [<- hn] at this; exact this) hn hky _
 . by_cases e : i = k
   . subst e
     rw [List.getElem_set_self];refine vr_stays (stays_keep fun b hb hlt => ?_) hx.enc;simp only [fromB, decide_eq_true_eq] at hb;exact ⟨keepB_mk (by omega) (fun e => by simp [Value.ownBlock] at e; omega), hst b (by omega)⟩
   . rw [List.getElem_set_ne (Ne.symm e)]
     exact vr_stays (stays_keep fun b hb hlt => ⟨hb, hst b (hob b (keepB_out hb).2)⟩) (h.done i (by simpa using h1) h2 (by omega))
 . rw [List.getElem_set_ne (by omega)]
   exact h.rest i (by simpa using h1) h2 (by omega)
theorem RowM.fin {M : Nat} {w0 w : World} {v : Value} {ys : List Cv} {is : List Val} (h : RowM M w0 w v ys is is.length) : OwnV M w v is := ⟨ys, h.len, h.own, fun i h1 h2 => h.done i h1 h2 h2⟩
theorem RowM.at {M k g n cap : Nat} {w0 w : World} {ys : List Cv} {is : List Val} (h : RowM M w0 w (.slice (some ⟨g, 0, none⟩) n cap) ys is k) {i : Nat} (hi : i < ys.length) : ∀ (j : Nat) (u : Value), (ys[i]).enc[j]? = some u -> w.cell? ⟨g, i * 5 + j, none⟩ = some u := by
 obtain ⟨r, c, e, _, _, he⟩ := sl_of_own Cv.enc cv_len h.own;obtain ⟨b, off, cs, hr, _, hc, hx⟩ := he i hi;simp at e;obtain ⟨e1, _⟩ := e;rw [<- e1] at hr;simp at hr;obtain ⟨rfl, rfl⟩ := hr;intro j u hj;have := hc j u (by rw [hx]; exact hj);rw [Nat.zero_add] at this;exact this
def sCop (B0 : Nat) (x : Val) : Spc := ⟨fun v => ∃ r c rk ck, v = .agg #[.int .i64 x.kind, .int .i64 x.num, .string x.str, .slice r x.items.length c, .slice rk x.keys.length ck], fun v w => ∃ r c rk ck, v = .agg #[.int .i64 x.kind, .int .i64 x.num, .string x.str, .slice r x.items.length c, .slice rk x.keys.length ck] /\ VK (fromB B0) w r c rk ck x⟩
theorem stCop (B0 : Nat) (x : Val) : ∀ v, Stb ((sCop B0 x).R v) := fun _ _ _ ⟨r, c, rk, ck, e, h⟩ hl => ⟨r, c, rk, ck, e, h.to (stays_below hl)⟩
end Go.Proofs.YtpnogmicfomofaaGreatDoor
namespace Go.Proofs.YtpnogmicfomofaaGreatDoor
open Go.RowKit Go.Sort Go.Lib
open Go.Lib (hid)
attribute [local go_sem] Stp.frUpon
theorem nkeys_mem {is : List Val} {x : Val} (h : x ∈ is) : nkeys x <= nkeysL is := by
 induction is with
 | nil => cases h
 | cons y ys ih =>
   rw [nkeysL];rcases List.mem_cons.1 h with rfl | h
   . omega
   . have := ih h; omega
theorem two_blk0 (w : World) (o p : Obj) : ((w.alloc o).alloc p).heap[w.heap.size]? = some o := by
 have h : (w.alloc o).heap[w.heap.size]? = some o := heap_alloc_new w o;exact (((Below.refl (w.alloc o).heap.size (w.alloc o)).alloc (Nat.le_refl _) p).block _ (by simp)).trans h
theorem two_blk1 (w : World) (o p : Obj) : ((w.alloc o).alloc p).heap[w.heap.size + 1]? = some p := by
 have h := heap_alloc_new (w.alloc o) p;rw [show (w.alloc o).heap.size = w.heap.size + 1 by simp] at h;exact h
set_option maxRecDepth 100000 in
set_option maxHeartbeats 16000000 in
theorem copied_any (x : Val) : ∀ (r : Option Addr) (c : Nat) (rk : Option Addr) (ck : Nat) (w : World), VR5 w r c rk ck x -> nodes x <= 1000000 -> nkeys x <= 1100000 ->
 Calls Tryz.prog 84 #[.agg #[.int .i64 x.kind, .int .i64 x.num, .string x.str, .slice r x.items.length c, .slice rk x.keys.length ck]] w (CopP w x) := by
 refine Val.ind (P := fun x => ∀ (r : Option Addr) (c : Nat) (rk : Option Addr) (ck : Nat) (w : World), VR5 w r c rk ck x -> nodes x <= 1000000 -> nkeys x <= 1100000 ->
  Calls Tryz.prog 84 #[.agg #[.int .i64 x.kind, .int .i64 x.num, .string x.str, .slice r x.items.length c, .slice rk x.keys.length ck]] w (CopP w x)) ?_ x
 intro x ih r c rk ck w hx hno hnk;obtain ⟨hI, hK, hk, hnu, hs, hkl, hil⟩ := hx.parts;have h1 := nodes_eq x;have h2 := nkeys_eq x;have h3 := nodesL_len x.items;have IH := hid (fun (i : Nat) (hi : i < x.items.length) (r : Option Addr) (c : Nat) (rk : Option Addr) (ck : Nat) (w' : World) (h5 : VR5 w' r c rk ck (x.items[i]'hi)) => ih x.items[i] (List.getElem_mem hi) r c rk ck w' h5 (by have := nodes_mem (List.getElem_mem hi); omega) (by have := nkeys_mem (List.getElem_mem hi); omega));have CLN := hid (fun (W : World) (hW : Below w.heap.size w W) => clone_any x.keys rk ck W (hK.below strR_mono hW) (by omega));have CLV := hid (fun (W : World) (hW : Below w.heap.size w W) => clone_v x.items r c w W hI hW (by omega));have HIL := hid (show x.items.length <= 1000000 by omega);have BD := hid (show i64B x.kind /\ i64B x.num /\ x.str.size <= maxLen /\ x.keys.length <= 10000000000000 /\ x.items.length <= 10000000000000 /\ ∀ k ∈ x.keys, k.size <= maxLen from ⟨hk, hnu, hs, hkl, hil, strs_le hK⟩);have PP := hid (show ∀ r c rk ck M (w' : World), CopX w.heap.size M w' r c rk ck x -> Below w.heap.size w w' -> CopP w x (.returned (.agg #[.int .i64 x.kind, .int .i64 x.num, .string x.str, .slice r x.items.length c, .slice rk x.keys.length ck])) w' from fun r c rk ck M w' h hb => ⟨r, c, rk, ck, M, rfl, h, hb⟩);have MKX := hid (show ∀ (M : Nat) (w' : World) r c rk ck, w.heap.size <= M -> OwnV M w' (.slice r x.items.length c) x.items -> OwnK w.heap.size w' (.slice rk x.keys.length ck) x.keys -> (∀ g, (Value.slice rk x.keys.length ck).ownBlock = some g -> g < M) -> CopX w.heap.size M w' r c rk ck x from fun M w' r c rk ck h1 h2 h3 h4 => ⟨h1, h2, h3, h4, BD.out⟩);clear ih hI hK hk hnu hs hkl hil h1 h2 h3 hx hno hnk BD;obtain ⟨xk, xn, xs, is, ks⟩ := x;simp only [Val.kind, Val.num, Val.str, Val.items, Val.keys] at IH CLN CLV HIL PP MKX ⊢;go_enter Tryz.func84, Tryz.ntmps84;go_wp2_with fail
 have hb2 : Below w.heap.size w ((w.alloc (.cells #[.int .i64 xk, .int .i64 xn, .string xs, .slice r is.length c, .slice rk ks.length ck] 29)).alloc (.cells #[.int .i64 0, .int .i64 0, .string { data := #[] }, .slice none 0 0, .slice none 0 0] 29)) := ((Below.refl _ _).alloc (Nat.le_refl _) _).alloc (by simp) _;refine (CLN.out _ hb2).mono ?_;rintro e w3 ⟨v', rfl, ho3, hb3⟩;obtain ⟨rk2, ck2, rfl, _⟩ := own_form ho3;have z3 := hb3.size;have hbk0 : w3.heap[w.heap.size]? = some (.cells #[.int .i64 xk, .int .i64 xn, .string xs, .slice r is.length c, .slice rk ks.length ck] 29) := (hb3.block _ (by simp; omega)).trans (two_blk0 w _ _);have hbk1 : w3.heap[w.heap.size + 1]? = some (.cells #[.int .i64 0, .int .i64 0, .string { data := #[] }, .slice none 0 0, .slice none 0 0] 29) := (hb3.block _ (by simp)).trans (two_blk1 w _ _);simp at z3;have B3 := hid (hb2.trans (hb3.mono hb2.size))
 have OK3 := hid (show OwnK (w.heap.size + 1 + 1) w3 (.slice rk2 ks.length ck2) ks from by
  have h0 := ho3;have e : ((w.alloc (.cells #[.int .i64 xk, .int .i64 xn, .string xs, .slice r is.length c, .slice rk ks.length ck] 29)).alloc (.cells #[.int .i64 0, .int .i64 0, .string { data := #[] }, .slice none 0 0, .slice none 0 0] 29)).heap.size = w.heap.size + 1 + 1 := by simp
  rw [e] at h0;exact h0)
 have t0 : w3.cell? ⟨w.heap.size, 4, none⟩ = some (.slice rk ks.length ck) := by unfold World.cell?; rw [hbk0]; rfl
 have t1 : w3.cell? ⟨w.heap.size, 3, none⟩ = some (.slice r is.length c) := by unfold World.cell?; rw [hbk0]; rfl
 have t2 : w3.frozen? ⟨w.heap.size, 4, none⟩ = false := by unfold World.frozen?; rw [hbk0]; rfl
 have HB4 := hid (show (w3.setCell ⟨w.heap.size, 4, none⟩ (.slice rk2 ks.length ck2)).heap[w.heap.size]? = some (.cells #[.int .i64 xk, .int .i64 xn, .string xs, .slice r is.length c, .slice rk2 ks.length ck2] 29) from by
  unfold World.setCell;simp only [Array.getElem?_modify, if_true, hbk0, Option.map_some];rfl)
 have HB5 := hid (show (w3.setCell ⟨w.heap.size, 4, none⟩ (.slice rk2 ks.length ck2)).heap[w.heap.size + 1]? = some (.cells #[.int .i64 0, .int .i64 0, .string { data := #[] }, .slice none 0 0, .slice none 0 0] 29) from by
  rw [Below.heap_setCell _ _ _ _ (by simp)]; exact hbk1)
 have OK4 := hid (show OwnK (w.heap.size + 1 + 1) (w3.setCell ⟨w.heap.size, 4, none⟩ (.slice rk2 ks.length ck2)) (.slice rk2 ks.length ck2) ks from own_keep OK3.out fun g hg => Below.heap_setCell _ _ _ _ (by have := (own_lt OK3.out hg).1; simp only; omega));have B4 := hid (show Below w.heap.size w (w3.setCell ⟨w.heap.size, 4, none⟩ (.slice rk2 ks.length ck2)) from B3.out.setCell (Nat.le_refl _) _);have z4 := hid (show w.heap.size + 1 + 1 <= (w3.setCell ⟨w.heap.size, 4, none⟩ (.slice rk2 ks.length ck2)).heap.size by simpa [World.setCell] using z3);have t3 : (w3.setCell ⟨w.heap.size, 4, none⟩ (.slice rk2 ks.length ck2)).cell? ⟨w.heap.size, 3, none⟩ = some (.slice r is.length c) := by unfold World.cell?; rw [HB4.out]; rfl
 clear ho3 hb3 hb2 hbk0 hbk1 B3 OK3 t1 z3;go_wp2_with fail
 clear t0 t2 t3;generalize (w3.setCell ⟨w.heap.size, 4, none⟩ (.slice rk2 ks.length ck2)) = W4 at *;refine (CLV.out W4 B4.out).mono ?_;rintro e w5 ⟨v5, ys, rfl, ho5, hb5⟩
 have hfo : ∃ r5 c5, v5 = .slice r5 is.length c5 := by
  obtain ⟨r5, c5, e, _⟩ := own_form ho5.1;exact ⟨r5, c5, by rw [e, ho5.2.1]⟩
 obtain ⟨r5, c5, rfl⟩ := hfo;have hk0 : w5.heap[w.heap.size]? = some (.cells #[.int .i64 xk, .int .i64 xn, .string xs, .slice r is.length c, .slice rk2 ks.length ck2] 29) := (hb5.block _ (by have := z4.out; omega)).trans HB4.out;have hk1 : w5.heap[w.heap.size + 1]? = some (.cells #[.int .i64 0, .int .i64 0, .string { data := #[] }, .slice none 0 0, .slice none 0 0] 29) := (hb5.block _ (by have := z4.out; omega)).trans HB5.out;have HZ5 := hid (show W4.heap.size <= w5.heap.size from hb5.size);have t0 : w5.cell? ⟨w.heap.size, 3, none⟩ = some (.slice r is.length c) := by unfold World.cell?; rw [hk0]; rfl
 have t2 : w5.frozen? ⟨w.heap.size, 3, none⟩ = false := by unfold World.frozen?; rw [hk0]; rfl
 have HK6 := hid (show (w5.setCell ⟨w.heap.size, 3, none⟩ (.slice r5 is.length c5)).heap[w.heap.size]? = some (.cells #[.int .i64 xk, .int .i64 xn, .string xs, .slice r5 is.length c5, .slice rk2 ks.length ck2] 29) from by
  unfold World.setCell;simp only [Array.getElem?_modify, if_true, hk0, Option.map_some];rfl)
 have HK7 := hid (show (w5.setCell ⟨w.heap.size, 3, none⟩ (.slice r5 is.length c5)).heap[w.heap.size + 1]? = some (.cells #[.int .i64 0, .int .i64 0, .string { data := #[] }, .slice none 0 0, .slice none 0 0] 29) from by
  rw [Below.heap_setCell _ _ _ _ (by simp)]; exact hk1)
 have HR6 := hid (show RowM W4.heap.size w (w5.setCell ⟨w.heap.size, 3, none⟩ (.slice r5 is.length c5)) (.slice r5 is.length c5) ys is 0 from (RowO.start ho5 (Nat.le_refl _)).to fun b hb hl => Below.heap_setCell _ _ _ _ (by have := z4.out; simp only; omega))
 have KO6 := hid (show OwnK (w.heap.size + 1 + 1) (w5.setCell ⟨w.heap.size, 3, none⟩ (.slice r5 is.length c5)) (.slice rk2 ks.length ck2) ks from own_keep OK4.out fun g hg => by
  rw [Below.heap_setCell _ _ _ _ (by have := (own_lt OK4.out hg).1; simp only; omega)];exact hb5.block g (own_lt OK4.out hg).2)
 have KL := hid (show ∀ g, (Value.slice rk2 ks.length ck2).ownBlock = some g -> g < W4.heap.size from fun g hg => (own_lt OK4.out hg).2);have B6 := hid (show Below w.heap.size w (w5.setCell ⟨w.heap.size, 3, none⟩ (.slice r5 is.length c5)) from (B4.out.trans (hb5.mono B4.out.size)).setCell (Nat.le_refl _) _);have Z6 := hid (show W4.heap.size <= (w5.setCell ⟨w.heap.size, 3, none⟩ (.slice r5 is.length c5)).heap.size by simpa [World.setCell] using HZ5.out);have q3 : (w5.setCell ⟨w.heap.size, 3, none⟩ (.slice r5 is.length c5)).cell? ⟨w.heap.size, 3, none⟩ = some (.slice r5 is.length c5) := by unfold World.cell?; rw [HK6.out]; rfl
 clear ho5 hb5 hk0 hk1 HZ5 HB4 HB5 OK4 B4;go_wp2_with fail
 clear t0 t2 q3;generalize (w5.setCell ⟨w.heap.size, 3, none⟩ (.slice r5 is.length c5)) = W6 at *;have hlm := HIL.out;go_loopg [15] is.length (fun gg s15 wr => ∃ (k : Nat) (ys : List Cv), k <= is.length /\ is.length - k <= gg /\ s15 = .int .i64 k /\ Hid (RowM W4.heap.size w wr (.slice r5 is.length c5) ys is k) /\ Hid (Below w.heap.size w wr) /\ Hid (wr.heap[w.heap.size]? = W6.heap[w.heap.size]? /\ wr.heap[w.heap.size + 1]? = W6.heap[w.heap.size + 1]? /\ W6.heap.size <= wr.heap.size) /\ Hid (OwnK (w.heap.size + 1 + 1) wr (.slice rk2 ks.length ck2) ks))
 case atStart => exact ⟨0, ys, by omega, by omega, rfl, HR6, B6, hid ⟨rfl, rfl, Nat.le_refl _⟩, KO6⟩
 case round =>
  clear HR6 B6 KO6;obtain ⟨k, ys, hk, hgg, rfl, HR, HB, HE, HO⟩ := hrel;have q3 : wr.cell? ⟨w.heap.size, 3, none⟩ = some (.slice r5 is.length c5) := by unfold World.cell?; rw [HE.out.1, HK6.out]; rfl
  by_cases hlt : k < is.length
  . have hky : k < ys.length := by rw [HR.out.len]; exact hlt
    obtain ⟨g, rfl⟩ : ∃ g, r5 = some ⟨g, 0, none⟩ := by
     rcases HR.out.own.2 with ⟨e, h0⟩ | ⟨g, cap, cur, e, _⟩
     . omega
     . simp at e; exact ⟨g, by rw [e.1]⟩
    have hg1 := own_lt HR.out.own (g := g) rfl;have hvr := HR.out.rest k hky hlt (Nat.le_refl _);obtain ⟨rx, cx, rkx, ckx, hex, h5⟩ := hvr.five;have hat := HR.out.at hky;rw [hex] at hat
    have HCL := hid (fun (W : World) (hW : Below wr.heap.size wr W) => IH.out k hlt rx cx rkx ckx W (h5.below (HB.out.trans (hW.mono HB.out.size))));have g0 : wr.cell? ⟨g, k * 5, none⟩ = some (.int .i64 (is[k]).kind) := hat 0 _ rfl;have g1 := hat 1 _ rfl;have g2 := hat 2 _ rfl;have g3 := hat 3 _ rfl;have g4 := hat 4 _ rfl;have c0 := fun d os => cell_regrown g0 d os;have c1 := fun d os => cell_regrown g1 d os;have c2 := fun d os => cell_regrown g2 d os;have c3 := fun d os => cell_regrown g3 d os;have c4 := fun d os => cell_regrown g4 d os;have c5' := fun d os => cell_regrown q3 d os;have hk0 : (0 : Int) <= (k : Int) := by omega
    have hk1 : (k : Int) < (is.length : Int) := by omega
    have hne : w.heap.size ≠ g := by have := z4.out; omega
    have hne1 : w.heap.size + 1 ≠ g := by have := z4.out; omega
    clear hat hex hvr h5;obtain ⟨W3, hW3⟩ : ∃ W3 : World, W3 = wr := ⟨_, rfl⟩;go_wp2_with fail
    subst hW3;refine Stp.wp_region_last11 (fun qq => match qq with | 8 => some (sCop W3.heap.size (is[k]'hlt)) | _ => none) (by kernel_rfl) (by kernel_rfl) (by kernel_rfl) ?_
    iterate 8 (refine Stp.wpF_quiet (Stp.grw_ex _) (by kernel_rfl) rfl (Stp.noEnter_op (by rfl)) ?_; intro K hK; go_big_quiet_op; go_big_quiet_on)
    refine Stp.wpF_told (sCop W3.heap.size (is[k]'hlt)) (by kernel_rfl) rfl ⟨.agg #[.int .i64 (is[k]).kind, .int .i64 (is[k]).num, .string (is[k]).str, .slice none (is[k]).items.length 0, .slice none (is[k]).keys.length 0], none, 0, none, 0, rfl⟩ (stCop _ _) (fun w4 hw4 hE4 => ?_) ?_
    . have hb4 := Stp.grw_below hw4
      have hh := HCL.out w4 hb4;have hz := hb4.size;clear hw4 hE4;go_simp
      go_at_call 84;refine Calls.mono hh ?_;rintro e w5 ⟨r5, c5, rk5, ck5, M5, rfl, ho5, hb5⟩;exact ⟨_, rfl, hb5, ⟨r5, c5, rk5, ck5, rfl⟩, ⟨r5, c5, rk5, ck5, rfl, ho5.vk.to (stays_wider fun b hb => by simp only [fromB, decide_eq_true_eq] at hb ⊢; omega)⟩⟩
    rintro _ ⟨r7, c7, rk7, ck7, rfl⟩
    (refine Stp.wpF_put ?_; intro K hK; go_simp; refine hK _ ?_; clear hK K)
    (refine Stp.wpF_quiet (Stp.grw_ex _) (by kernel_rfl) rfl (Stp.noEnter_op (by rfl)) ?_; intro K hK; go_big_quiet_op; go_big_quiet_on)
    refine Stp.wpF_nil ?_;intro w6 hw6 hE6;have hb6 := Stp.grw_below hw6;obtain ⟨r8, c8, rk8, ck8, e8, hV8⟩ : ∃ r c rk ck, (Value.agg #[.int .i64 (is[k]).kind, .int .i64 (is[k]).num, .string (is[k]).str, .slice r7 (is[k]).items.length c7, .slice rk7 (is[k]).keys.length ck7]) = .agg #[.int .i64 (is[k]).kind, .int .i64 (is[k]).num, .string (is[k]).str, .slice r (is[k]).items.length c, .slice rk (is[k]).keys.length ck] /\ VK (fromB W3.heap.size) w6 r c rk ck (is[k]) := hE6 8;obtain ⟨rfl, rfl, rfl, rfl⟩ : r8 = r7 /\ c8 = c7 /\ rk8 = rk7 /\ ck8 = ck7 := by simp at e8; simp [e8]
    clear hw6 hE6 e8;have HP := hid ((HR.out.below hb6).put (by rw [HR.out.len]) hlt hV8 (by have := Z6.out; have := HE.out.2.2; omega) hg1.2);have hat6 := (HR.out.below hb6).at hky;have l0 := bget hb6 g0;have l1 := bget hb6 g1;have l2 := bget hb6 g2;have l3 := bget hb6 g3;have l4 := bget hb6 g4
    have hfz : ∀ o, w6.frozen? ⟨g, o, none⟩ = false := fun o => by
     rcases (HR.out.below hb6).own.2 with ⟨e, _⟩ | ⟨g', cap, cur, e, _, hh, _⟩
     . cases e
     . simp at e
       obtain ⟨rfl, _⟩ := e;unfold World.frozen?;rw [hh];rfl
    have HBn := hid (show Below w.heap.size w (put5 w6 g k (Cv.of is[k] r8 c8 rk8 ck8)) from put5_below (HB.out.trans (hb6.mono HB.out.size)) g k _ (by have := z4.out; omega))
    have HEn := hid (show (put5 w6 g k (Cv.of is[k] r8 c8 rk8 ck8)).heap[w.heap.size]? = W6.heap[w.heap.size]? /\ (put5 w6 g k (Cv.of is[k] r8 c8 rk8 ck8)).heap[w.heap.size + 1]? = W6.heap[w.heap.size + 1]? /\ W6.heap.size <= (put5 w6 g k (Cv.of is[k] r8 c8 rk8 ck8)).heap.size from by
     have h1 := HB.out.size;have h2 := HE.out.2.2;have h3 := Z6.out;have h4 := z4.out;refine ⟨?_, ?_, ?_⟩
     . rw [put5_block _ _ _ _ hne, hb6.block _ (by omega)]; exact HE.out.1
     . rw [put5_block _ _ _ _ hne1, hb6.block _ (by omega)]; exact HE.out.2.1
     . rw [put5_size]; have := hb6.size; omega)
    have HOn := hid (show OwnK (w.heap.size + 1 + 1) (put5 w6 g k (Cv.of is[k] r8 c8 rk8 ck8)) (.slice rk2 ks.length ck2) ks from own_keep HO.out fun b hb => by
     have h1 := own_lt HO.out hb;have h2 := KL.out b hb;rw [put5_block _ _ _ _ (by omega)];exact hb6.block b h1.2)
    have HWn := hid (show put5 w6 g k (Cv.of is[k] r8 c8 rk8 ck8) = ((((w6.setCell ⟨g, k * 5, none⟩ (.int .i64 (is[k]).kind)).setCell ⟨g, k * 5 + 1, none⟩ (.int .i64 (is[k]).num)).setCell ⟨g, k * 5 + 2, none⟩ (.string (is[k]).str)).setCell ⟨g, k * 5 + 3, none⟩ (.slice r8 (is[k]).items.length c8)).setCell ⟨g, k * 5 + 4, none⟩ (.slice rk8 (is[k]).keys.length ck8) from rfl);rw [HWn.out] at HP HBn HEn HOn;clear HWn hat6 hV8 hb6 HR HCL c0 c1 c2 c3 c4 c5' g0 g1 g2 g3 g4;go_simp
    go_wp2
    go_roundg (is.length - (k + 1))
    case measure => omega
    case rel => exact ⟨k + 1, _, by omega, by omega, by go_num, HP, HBn, HEn, HOn⟩
  . obtain rfl : k = is.length := by omega
    have hb0 : wr.heap[w.heap.size]? = _ := HE.out.1.trans HK6.out;have hb1 : wr.heap[w.heap.size + 1]? = _ := HE.out.2.1.trans HK7.out;have p0 : wr.cell? ⟨w.heap.size, 0, none⟩ = some (.int .i64 xk) := by unfold World.cell?; rw [hb0]; rfl
    have p1 : wr.cell? ⟨w.heap.size, 1, none⟩ = some (.int .i64 xn) := by unfold World.cell?; rw [hb0]; rfl
    have p2 : wr.cell? ⟨w.heap.size, 2, none⟩ = some (.string xs) := by unfold World.cell?; rw [hb0]; rfl
    have p4 : wr.cell? ⟨w.heap.size, 4, none⟩ = some (.slice rk2 ks.length ck2) := by unfold World.cell?; rw [hb0]; rfl
    have u0 : wr.cell? ⟨w.heap.size + 1, 0, none⟩ = some (.int .i64 0) := by unfold World.cell?; rw [hb1]; rfl
    have u1 : wr.cell? ⟨w.heap.size + 1, 1, none⟩ = some (.int .i64 0) := by unfold World.cell?; rw [hb1]; rfl
    have u2 : wr.cell? ⟨w.heap.size + 1, 2, none⟩ = some (.string { data := #[] }) := by unfold World.cell?; rw [hb1]; rfl
    have u3 : wr.cell? ⟨w.heap.size + 1, 3, none⟩ = some (.slice none 0 0) := by unfold World.cell?; rw [hb1]; rfl
    have u4 : wr.cell? ⟨w.heap.size + 1, 4, none⟩ = some (.slice none 0 0) := by unfold World.cell?; rw [hb1]; rfl
    have hfs : ∀ o, wr.frozen? ⟨w.heap.size + 1, o, none⟩ = false := fun o => by unfold World.frozen?; rw [hb1]; rfl
    have hkb : ∀ b, w.heap.size + 1 + 1 <= b -> (((((wr.setCell ⟨w.heap.size + 1, 0, none⟩ (.int .i64 xk)).setCell ⟨w.heap.size + 1, 1, none⟩ (.int .i64 xn)).setCell ⟨w.heap.size + 1, 2, none⟩ (.string xs)).setCell ⟨w.heap.size + 1, 3, none⟩ (.slice r5 is.length c5)).setCell ⟨w.heap.size + 1, 4, none⟩ (.slice rk2 ks.length ck2)).heap[b]? = wr.heap[b]? := fun b hb => by
     rw [Below.heap_setCell _ _ _ _ (by simp only; omega), Below.heap_setCell _ _ _ _ (by simp only; omega), Below.heap_setCell _ _ _ _ (by simp only; omega), Below.heap_setCell _ _ _ _ (by simp only; omega), Below.heap_setCell _ _ _ _ (by simp only; omega)]
    have hz4 := z4.out
    have HF := hid (PP.out r5 c5 rk2 ck2 W4.heap.size (((((wr.setCell ⟨w.heap.size + 1, 0, none⟩ (.int .i64 xk)).setCell ⟨w.heap.size + 1, 1, none⟩ (.int .i64 xn)).setCell ⟨w.heap.size + 1, 2, none⟩ (.string xs)).setCell ⟨w.heap.size + 1, 3, none⟩ (.slice r5 is.length c5)).setCell ⟨w.heap.size + 1, 4, none⟩ (.slice rk2 ks.length ck2)) (MKX.out _ _ _ _ _ _ (by omega) (HR.out.fin.to fun b hb _ => hkb b (by omega)) (own_base (own_keep HO.out fun g hg => hkb g (own_lt HO.out hg).1) (by omega)) KL.out)
     (((((HB.out.setCell (by simp) _).setCell (by simp) _).setCell (by simp) _).setCell (by simp) _).setCell (by simp) _))
    clear hkb hb0 hb1 HR HB HE HO;go_wp2
    exact bodyPost_ret (v := .agg #[.int .i64 xk, .int .i64 xn, .string xs, .slice r5 is.length c5, .slice rk2 ks.length ck2]) (by simp [results, Tryz.results84, go_sem, u0, u1, u2, u3, u4]) rfl HF.out
end Go.Proofs.YtpnogmicfomofaaGreatDoor
namespace Go.Proofs.YtpnogmicfomofaaGreatDoor.Stp
open Go.RowKit Go.Sort Go.Lib Go.Maps
open Go.Lib (hid)
structure SV where
 r : Option Addr
 n : Nat
 c : Nat
def SV.v (x : SV) : Value := .slice x.r x.n x.c
structure CV where
 ad : ByteArray
 de : ByteArray
 ty : ByteArray
 ac : Int
 re : Int
 bk : Int
 bn : Int
 bs : ByteArray
 bi : SV
 bl : SV
 ak : Int
 an : Int
 at_ : ByteArray
 ai : SV
 al : SV
 id : ByteArray
 rp : SV
 cf : Bool
 pr : Bool
 im : Bool
 dp : SV
 od : SV
def CV.arr (x : CV) : Array Value := #[.string x.ad, .string x.de, .string x.ty, .int .i64 x.ac, .int .i64 x.re, .int .i64 x.bk, .int .i64 x.bn, .string x.bs, .slice x.bi.r x.bi.n x.bi.c, .slice x.bl.r x.bl.n x.bl.c, .int .i64 x.ak, .int .i64 x.an, .string x.at_, .slice x.ai.r x.ai.n x.ai.c, .slice x.al.r x.al.n x.al.c, .string x.id, .slice x.rp.r x.rp.n x.rp.c, .bool x.cf, .bool x.pr, .bool x.im, .slice x.dp.r x.dp.n x.dp.c, .slice x.od.r x.od.n x.od.c]
structure Ch where
 addr : ByteArray
 act : Int
 cf : Bool
 deps : List ByteArray
 old : List ByteArray
def CvR (w : World) (x : CV) (c : Ch) : Prop := x.ad = c.addr /\ x.ac = c.act /\ x.cf = c.cf /\ IB c.act /\ Sl StrR 1 w (.slice x.dp.r x.dp.n x.dp.c) c.deps /\ Sl StrR 1 w (.slice x.od.r x.od.n x.od.c) c.old
def ChR (w : World) (cs : List Value) (c : Ch) : Prop := ∃ x : CV, cs = x.arr.toList /\ CvR w x c
theorem cvR_below {w w' : World} {x : CV} {c : Ch} (hb : Below w.heap.size w w') (h : CvR w x c) : CvR w' x c := ⟨h.1, h.2.1, h.2.2.1, h.2.2.2.1, h.2.2.2.2.1.below strR_mono hb, h.2.2.2.2.2.below strR_mono hb⟩
theorem chR_mono : Mono ChR := fun _ _ _ _ hb ⟨x, h1, h2⟩ => ⟨x, h1, cvR_below hb h2⟩
theorem ch_at {w : World} {r : Option Addr} {n c : Nat} {cs : List Ch} (h : Sl ChR 22 w (.slice r n c) cs) (i : Nat) (hi : i < cs.length) :
 ∃ b off x, r = some ⟨b, off, none⟩ /\ b < w.heap.size /\ (∀ (j : Nat) (u : Value), x.arr.toList[j]? = some u -> w.cell? ⟨b, off + i * 22 + j, none⟩ = some u) /\ CvR w x cs[i] := by
 obtain ⟨r', c', e, h1, h2, he⟩ := h;simp at e;obtain ⟨rfl, rfl, rfl⟩ := e;obtain ⟨b, off, cs, hr, hs, hc, x, hv, hn⟩ := he i hi;subst hv;have g0 := hc 0 _ rfl;exact ⟨b, off, x, hr, World.block_lt_of_cell? w _ g0, hc, hn⟩
def opA (ac : Int) (cf : Bool) : Int := if ac = 1 then 1 else if ac = 2 then 2 else if ac = 4 then 3 else if ac = 5 then 4 else if ac = 3 then (if cf = true then 1 else 3) else 0
def opB (ac : Int) (cf : Bool) : Int := if ac = 3 then (if cf = true then 3 else 1) else 0
def Two (a b : Int) : Value := .agg #[.int .i64 a, .int .i64 b]
theorem eqb {a b : Int} (h : a = b) : (a == b) = true := by simpa using h
theorem neb {a b : Int} (h : ¬ a = b) : (a == b) = false := by simpa using h
set_option maxHeartbeats 4000000 in
theorem op_any (x : CV) (w : World) : Calls Tryz.prog 29 #[.agg x.arr] w fun e w' => e = .returned (Two (opA x.ac x.cf) (opB x.ac x.cf)) /\ Below w.heap.size w w' := by
 unfold CV.arr;obtain ⟨ac, hac⟩ : ∃ ac, x.ac = ac := ⟨_, rfl⟩;rw [hac];clear hac
 by_cases h1 : ac = 1
 . subst h1
   rw [show opA 1 x.cf = 1 from rfl, show opB 1 x.cf = 0 from rfl];go_enter Tryz.func29, Tryz.ntmps29;go_wp2
   exact bodyPost_ret (v := Two 1 0) (by simp [results, Tryz.results29, go_sem, Two]) rfl ⟨rfl, ((Below.refl _ _).alloc (Nat.le_refl _) _).alloc (by simp) _⟩
 by_cases h2 : ac = 2
 . subst h2
   rw [show opA 2 x.cf = 2 from rfl, show opB 2 x.cf = 0 from rfl];go_enter Tryz.func29, Tryz.ntmps29;go_wp2
   exact bodyPost_ret (v := Two 2 0) (by simp [results, Tryz.results29, go_sem, Two]) rfl ⟨rfl, ((Below.refl _ _).alloc (Nat.le_refl _) _).alloc (by simp) _⟩
 by_cases h4 : ac = 4
 . subst h4
   rw [show opA 4 x.cf = 3 from rfl, show opB 4 x.cf = 0 from rfl];go_enter Tryz.func29, Tryz.ntmps29;go_wp2
   exact bodyPost_ret (v := Two 3 0) (by simp [results, Tryz.results29, go_sem, Two]) rfl ⟨rfl, ((Below.refl _ _).alloc (Nat.le_refl _) _).alloc (by simp) _⟩
 by_cases h5 : ac = 5
 . subst h5
   rw [show opA 5 x.cf = 4 from rfl, show opB 5 x.cf = 0 from rfl];go_enter Tryz.func29, Tryz.ntmps29;go_wp2
   exact bodyPost_ret (v := Two 4 0) (by simp [results, Tryz.results29, go_sem, Two]) rfl ⟨rfl, ((Below.refl _ _).alloc (Nat.le_refl _) _).alloc (by simp) _⟩
 by_cases h3 : ac = 3
 . subst h3
   cases hf : x.cf with
   | true =>
     rw [show opA 3 true = 1 from rfl, show opB 3 true = 3 from rfl];go_enter Tryz.func29, Tryz.ntmps29;go_wp2
     exact bodyPost_ret (v := Two 1 3) (by simp [results, Tryz.results29, go_sem, Two]) rfl ⟨rfl, ((Below.refl _ _).alloc (Nat.le_refl _) _).alloc (by simp) _⟩
   | false =>
     rw [show opA 3 false = 3 from rfl, show opB 3 false = 1 from rfl];go_enter Tryz.func29, Tryz.ntmps29;go_wp2
     exact bodyPost_ret (v := Two 3 1) (by simp [results, Tryz.results29, go_sem, Two]) rfl ⟨rfl, ((Below.refl _ _).alloc (Nat.le_refl _) _).alloc (by simp) _⟩
 rw [show opA ac x.cf = 0 by unfold opA; rw [if_neg h1, if_neg h2, if_neg h4, if_neg h5, if_neg h3], show opB ac x.cf = 0 by unfold opB; rw [if_neg h3]];have b1 := neb h1;have b2 := neb h2;have b3 := neb h3;have b4 := neb h4;have b5 := neb h5;clear h1 h2 h3 h4 h5;go_enter Tryz.func29, Tryz.ntmps29;go_wp2
 exact bodyPost_ret (v := Two 0 0) (by simp [results, Tryz.results29, go_sem, Two]) rfl ⟨rfl, ((Below.refl _ _).alloc (Nat.le_refl _) _).alloc (by simp) _⟩
end Go.Proofs.YtpnogmicfomofaaGreatDoor.Stp
namespace Go.Proofs.YtpnogmicfomofaaGreatDoor.Stp
open Go.RowKit Go.Sort Go.Lib Go.Maps
open Go.Lib (hid)
theorem stepopinfo : (Tryz.prog.info? 46).map (fun i => (i.zero, i.size, i.bytes)) = some (some (.int .i64 0), 1, 8) := by kernel_rfl
theorem two_eql (a b c d : Int) (W : World) : (binOp .eql 75 (.agg #[.int .i64 a, .int .i64 b]) (.agg #[.int .i64 c, .int .i64 d])).run Tryz.prog W = .ok (.bool (decide (a = c) && decide (b = d))) W := by
 obtain ⟨i, hi, _⟩ := info_parts stepopinfo;rw [run_eql_struct, run_equalIn_array W 9999 _ _ Tryz.underlying75 hi];rw [show List.range 2 = [0, 1] from rfl];have hc : Tryz.prog.cellsOf 46 = 1 := by kernel_rfl
 simp only [Op.eqItems, go_sem, hc]
 by_cases h1 : a = c <;> by_cases h2 : b = d <;> simp [h1, h2, go_sem]
theorem chsize (x : CV) : (Tryz.prog.info? 31).map (·.size) = some x.arr.toList.length := by
 rw [show x.arr.toList.length = 22 from rfl]
 kernel_rfl
theorem range_new (w : World) (x : CV) : (w.alloc (.cells x.arr 31)).rangeAt w.heap.size 0 x.arr.toList := fun j v h => by
 unfold World.cell?;rw [Nat.zero_add];simp only [heap_alloc_new];simpa using h
def Lies (W : World) (b o : Nat) : Prop := ∀ j, j < 22 -> (W.cell? ⟨b, o + j, none⟩).isSome = true
def rd22 (W : World) (b o : Nat) : Array Value := ((List.range 22).map fun j => (W.cell? ⟨b, o + j, none⟩).getD undef).toArray
theorem ld22 (W : World) (b o : Nat) (h : Lies W b o) : (loadVar 31 ⟨b, o, none⟩).run Tryz.prog W = .ok (.agg (rd22 W b o)) W := by
 refine run_loadVar_mid W b o _ ((List.range 22).map fun j => (W.cell? ⟨b, o + j, none⟩).getD undef) _ (fun j v hv => ?_) Tryz.underlying31 rfl (by rw [List.length_map, List.length_range]; kernel_rfl);rw [List.getElem?_map] at hv
 by_cases hj : j < 22
 . rw [List.getElem?_range hj] at hv
   have h1 := h j hj;cases hc : W.cell? ⟨b, o + j, none⟩ with
   | none => rw [hc] at h1; cases h1
   | some u =>
     simp [hc] at hv;rw [hv]
 . rw [List.getElem?_eq_none (by rw [List.length_range]; omega)] at hv
   cases hv
def ldC (a : Addr) : Sem Value := loadVar 31 a
theorem ldC_eq (a : Addr) : loadVar 31 a = ldC a := rfl
theorem ldC_run (W : World) (b o : Nat) (h : Lies W b o) : (ldC ⟨b, o, none⟩).run Tryz.prog W = .ok (.agg (rd22 W b o)) W := ld22 W b o h
def There (W : World) (b o : Nat) : Prop := W.there b o 22
def stC (a : Addr) (v : Value) : Sem Unit := storeVar 31 a v
theorem stC_eq (a : Addr) (v : Value) : storeVar 31 a v = stC a v := rfl
def put22 (W : World) (b o : Nat) (X : Array Value) : World := W.setCells b o X.toList
def Cells22 (X : Array Value) : Prop := X.size = 22 /\ X.all (·.oneCell') = true
theorem stC_run (W : World) (b o : Nat) (X : Array Value) (h : There W b o) (hX : Cells22 X) : (stC ⟨b, o, none⟩ (.agg X)).run Tryz.prog W = .ok () (put22 W b o X) :=
 run_storeVar_mid W b o _ X (by rw [hX.1]; exact h) (by rw [hX.1]; kernel_rfl) hX.2
theorem there_drew (W : World) (b o : Nat) : There W.drew b o = There W b o := by
 unfold There;exact propext (World.there_drew W b o 22)
theorem there_new (W : World) (Z : Array Value) (T : TypeId) (b : Nat) (hb : b = W.heap.size) (hZ : Z.size = 22) : There (W.alloc (.cells Z T)) b 0 = True := by
 subst hb;refine eq_true fun j hj => ⟨?_, ?_⟩
 . unfold World.cell?
   simp only [heap_alloc_new, Nat.zero_add];simp [hZ, hj]
 . unfold World.frozen?
   simp only [heap_alloc_new];simp
theorem put22_drew (W : World) (b o : Nat) (X : Array Value) : put22 W.drew b o X = (put22 W b o X).drew := by
 unfold put22;generalize X.toList = l
 induction l generalizing W o with
 | nil => rfl
 | cons v l ih =>
   show (W.drew.setCell ⟨b, o, none⟩ v).setCells b (o + 1) l = ((W.setCell ⟨b, o, none⟩ v).setCells b (o + 1) l).drew;rw [<- ih];rfl
theorem splice_set {α : Type} (Z : List α) (o : Nat) (v : α) (l : List α) (h : o < Z.length) : (Z.set o v).take (o + 1) ++ l ++ (Z.set o v).drop (o + 1 + l.length) = Z.take o ++ v :: l ++ Z.drop (o + (l.length + 1)) := by
 have h1 : (Z.set o v).take (o + 1) = Z.take o ++ [v] := by
  rw [List.take_succ_eq_append_getElem (by rw [List.length_set]; exact h), List.getElem_set_self, List.take_set, List.set_eq_of_length_le (by rw [List.length_take]; omega)]
 have h2 : (Z.set o v).drop (o + 1 + l.length) = Z.drop (o + (l.length + 1)) := by
  rw [List.drop_set_of_lt (by omega), show o + 1 + l.length = o + (l.length + 1) by omega]
 rw [h1, h2];simp
theorem setCells_new (W : World) (T : TypeId) : ∀ (l : List Value) (Z : Array Value) (o : Nat), o + l.length <= Z.size -> (W.alloc (.cells Z T)).setCells W.heap.size o l = W.alloc (.cells (Z.toList.take o ++ l ++ Z.toList.drop (o + l.length)).toArray T)
 | [], Z, o, h => by
   show W.alloc (.cells Z T) = _;rw [List.append_nil, List.length_nil, Nat.add_zero, List.take_append_drop]
 | v :: l, Z, o, h => by
   show ((W.alloc (.cells Z T)).setCell ⟨W.heap.size, o, none⟩ v).setCells W.heap.size (o + 1) l = _;rw [List.length_cons] at h;rw [World.setCell_alloc_new, setCells_new W T l _ (o + 1) (by simp; omega)];rw [Array.toList_setIfInBounds, splice_set Z.toList o v l (by rw [Array.length_toList]; omega), List.length_cons]
theorem put22_new (W : World) (Z X : Array Value) (T : TypeId) (b : Nat) (hb : b = W.heap.size) (hZ : Z.size = 22) (hX : Cells22 X) : put22 (W.alloc (.cells Z T)) b 0 X = W.alloc (.cells X T) := by
 subst hb;unfold put22;rw [setCells_new W T _ Z 0 (by rw [Array.length_toList, hX.1, hZ]; decide)]
 congr 2
 rw [Array.length_toList, hX.1, List.take_zero, List.nil_append, List.drop_of_length_le (by rw [Array.length_toList, hZ]; decide), List.append_nil]
theorem cells22 (x : CV) : Cells22 x.arr := ⟨rfl, by simp [CV.arr, Value.oneCell']⟩
theorem lies_new (W : World) (X : Array Value) (T : TypeId) (b : Nat) (hb : b = W.heap.size) (hX : Cells22 X) : Lies (W.alloc (.cells X T)) b 0 = True := by
 have := there_new W X T b hb hX.1;exact eq_true fun j hj => ((of_eq_true this) j hj).1
theorem rd22_new (W : World) (X : Array Value) (T : TypeId) (b : Nat) (hb : b = W.heap.size) (hX : Cells22 X) : rd22 (W.alloc (.cells X T)) b 0 = X := by
 subst hb;unfold rd22;apply Array.ext
 . simp [hX.1]
 . intro j h1 h2
   have hc : ∀ j, (W.alloc (.cells X T)).cell? ⟨W.heap.size, j, none⟩ = X[j]? := fun j => by
    unfold World.cell?;simp only [heap_alloc_new];rfl
   simp [hc, h2]
theorem there_past (W : World) (o : Obj) (b k : Nat) (hb : b < W.heap.size) : There (W.alloc o) b k = There W b k := by
 have hb2 : Below W.heap.size W (W.alloc o) := (Below.refl _ _).alloc (Nat.le_refl _) _;unfold There World.there;apply propext;constructor <;> intro h j hj
 . have := h j hj
   rw [hb2.cell (p := ⟨b, k + j, none⟩) hb, hb2.frozen (p := ⟨b, k + j, none⟩) hb] at this;exact this
 . have := h j hj
   rw [hb2.cell (p := ⟨b, k + j, none⟩) hb, hb2.frozen (p := ⟨b, k + j, none⟩) hb];exact this
theorem put22_past (W : World) (o : Obj) (b k : Nat) (X : Array Value) (hb : b < W.heap.size) : put22 (W.alloc o) b k X = (put22 W b k X).alloc o := by
 unfold put22;generalize X.toList = l
 induction l generalizing W k with
 | nil => rfl
 | cons v l ih =>
   show ((W.alloc o).setCell ⟨b, k, none⟩ v).setCells b (k + 1) l = ((W.setCell ⟨b, k, none⟩ v).setCells b (k + 1) l).alloc o;rw [World.setCell_alloc_past o b k v hb, ih _ _ (by unfold World.setCell; simpa using hb)]
theorem cell_new (W : World) (X : Array Value) (T : TypeId) (b : Nat) (hb : b = W.heap.size) (k : Nat) : ((W.alloc (.cells X T)).drew).cell? ⟨b, k, none⟩ = X[k]? := by
 subst hb;show (W.alloc (.cells X T)).cell? _ = _;unfold World.cell?;simp only [heap_alloc_new];rfl
theorem lies_drewN (W : World) (n b o : Nat) : Lies (W.drewN n) b o ↔ Lies W b o := Iff.rfl
theorem rd22_drewN (W : World) (n b o : Nat) : rd22 (W.drewN n) b o = rd22 W b o := rfl
theorem lies_drew (W : World) (b o : Nat) : Lies W.drew b o ↔ Lies W b o := Iff.rfl
theorem rd22_drew (W : World) (b o : Nat) : rd22 W.drew b o = rd22 W b o := rfl
theorem Lies.below {W W' : World} {b o : Nat} (hb : Below W.heap.size W W') (h : Lies W b o) : Lies W' b o /\ rd22 W' b o = rd22 W b o := by
 have hq : ∀ j, j < 22 -> W'.cell? ⟨b, o + j, none⟩ = W.cell? ⟨b, o + j, none⟩ := fun j hj => by
  have := h j hj;cases hc : W.cell? ⟨b, o + j, none⟩ with
  | none => rw [hc] at this; cases this
  | some u => exact bget hb hc
 refine ⟨fun j hj => by rw [hq j hj]; exact h j hj, ?_⟩;unfold rd22
 congr 1
 apply List.map_congr_left;intro j hj;rw [hq j (List.mem_range.1 hj)]
theorem lies_of {w : World} {b o : Nat} {X : Array Value} (hX : Cells22 X) (h : ∀ (j : Nat) (u : Value), X.toList[j]? = some u -> w.cell? ⟨b, o + j, none⟩ = some u) : Lies w b o /\ rd22 w b o = X := by
 have hq : ∀ j (hj : j < X.size), w.cell? ⟨b, o + j, none⟩ = some X[j] := fun j hj => h j _ (by rw [Array.getElem?_toList]; exact Array.getElem?_eq_getElem hj);refine ⟨fun j hj => by rw [hq j (by rw [hX.1]; exact hj)]; rfl, ?_⟩;unfold rd22;apply Array.ext
 . simp [hX.1]
 . intro j h1 h2
   simp [hq j h2]
def firstB (ac : Int) (cf : Bool) : Bool := decide (opA ac cf = 1) && decide (opB ac cf = 3)
theorem first_any (x : CV) (w : World) : Calls Tryz.prog 88 #[.agg x.arr] w fun e w' => e = .returned (.bool (firstB x.ac x.cf)) /\ Below w.heap.size w w' := by
 have hz : x.arr.size = 22 := rfl;have HO := hid (fun W => op_any x W);have hE := fun W => two_eql (opA x.ac x.cf) (opB x.ac x.cf) 1 3 W;unfold firstB;have HC := hid (range_new w x);have HI := hid (chsize x);generalize x.arr = X at *;generalize opA x.ac x.cf = p at *;generalize opB x.ac x.cf = q at *;unfold Two at *;go_enter Tryz.func88, Tryz.ntmps88;go_wp2_with (first | (refine wpList_load_mid rfl 31 _ rfl _ _ rfl X.toList _ HC.out Tryz.underlying31 rfl HI.out ?_; simp only [Array.toArray_toList]) | (go_at_call 29; refine (HO.out _).mono ?_; rintro e w1 ⟨rfl, hb⟩))
 go_ret
 exact ⟨rfl, ((Below.refl _ _).alloc (Nat.le_refl _) _).trans (hb.mono (by simp))⟩
def lastB (ac : Int) (cf : Bool) : Bool := decide (opA ac cf = 3) && decide (opB ac cf = 1)
theorem last_any (x : CV) (w : World) : Calls Tryz.prog 90 #[.agg x.arr] w fun e w' => e = .returned (.bool (lastB x.ac x.cf)) /\ Below w.heap.size w w' := by
 have hz : x.arr.size = 22 := rfl;have HO := hid (fun W => op_any x W);have hE := fun W => two_eql (opA x.ac x.cf) (opB x.ac x.cf) 3 1 W;unfold lastB;have HC := hid (range_new w x);have HI := hid (chsize x);generalize x.arr = X at *;generalize opA x.ac x.cf = p at *;generalize opB x.ac x.cf = q at *;unfold Two at *;go_enter Tryz.func90, Tryz.ntmps90;go_wp2_with (first | (refine wpList_load_mid rfl 31 _ rfl _ _ rfl X.toList _ HC.out Tryz.underlying31 rfl HI.out ?_; simp only [Array.toArray_toList]) | (go_at_call 29; refine (HO.out _).mono ?_; rintro e w1 ⟨rfl, hb⟩))
 go_ret
 exact ⟨rfl, ((Below.refl _ _).alloc (Nat.le_refl _) _).trans (hb.mono (by simp))⟩
end Go.Proofs.YtpnogmicfomofaaGreatDoor.Stp
