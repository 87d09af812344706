import Derived.Test.YtomhbcfjhgecbaaGreatDoorW9
import Derived.Test.YtomhbcfjhgecbaaGreatDoorW8
import Derived.Test.YtomhbcfjhgecbaaGreatDoorW4
import Derived.Lib.SmallJoins
import Derived.ShutString
import Derived.ChangeOld
import Derived.Shelf.Small.Utf8
import Derived.Shelf.Small.Bits
import Derived.Shelf.Small.Strs
import Derived.Shelf.Small.Wraps
import Derived.Shelf.Strconv.Itoa0
import Derived.Shelf.Strings.Search1
import Derived.Shelf.Strings.Prefix
import Derived.Shelf.Unicode.DecodeSlow
import Derived.Shelf.Unicode.DecodeAny
import Derived.Shelf.Slices.Equal
import Derived.Ground.Names2Prog
import Derived.Shelf.Slices.Clone
import Derived.Shelf.Slices.Empties2
import Derived.Ground.SlgnProg
import Derived.Shelf.SlicesE.Clone
set_option linter.unusedVariables false
set_option linter.unusedSimpArgs false
namespace Go.Proofs.YtomhbcfjhgecbaaGreatDoor
open Go.RowKit Go.Sort Go.Lib
open Go.Lib (hid)
def lX : ByteArray := ⟨#[120]⟩
def aA : ByteArray := ⟨#[116, 46, 97]⟩
def aB : ByteArray := ⟨#[116, 46, 98, 91, 48, 93]⟩
def aU : ByteArray := ⟨#[117, 46, 97]⟩
def k1 : ByteArray := ⟨#[49]⟩
def pZ : Pt := ⟨none, 0, none, 0, none, 0⟩
def sZ : Sp := ⟨none, 0, none, 0, none, 0⟩
def oneI (a : ByteArray) : Ins := ⟨a, ⟨#[]⟩, ⟨#[116, 45, 49]⟩, ⟨#[116]⟩, .mk 5 0 ⟨#[]⟩ [] [], 1, false, false, []⟩
def oneD (a : ByteArray) : Ins := ⟨a, k1, ⟨#[116, 45, 49]⟩, ⟨#[116]⟩, .mk 5 0 ⟨#[]⟩ [] [], 1, false, false, []⟩
def stN : Sta := ⟨⟨#[]⟩, 0, [], [], []⟩
def stX (l : List Ins) : Sta := ⟨lX, 0, l, [], []⟩
theorem aw_ky : kyB 1 = k1 := by
 unfold kyB k1
 simp [Lib.decDigits]
theorem aw_dep : depI [oneI aA] aA = some ([oneD aA], k1) := by
 have h : depI [oneI aA] aA = some ([deI (oneI aA) 1], kyB 1) := by kernel_rfl
 rw [h, aw_ky]
 unfold deI
 rw [aw_ky]
 rfl
theorem aw_renE : renE (stX [oneD aA]) aA aB = 0 := by decide +kernel
theorem aw_renS : renS (stX [oneD aA]) aA aB = stX [oneD aB] := by
 rfl
theorem aw_renU : renE (stX [oneI aA]) aA aU = 6 := by decide +kernel
theorem aw_find : fnI [oneD aB] (aB, k1) = some (oneD aB) := by rfl
theorem aw_chk : chkS (stX [oneI aA]) = 0 := by decide +kernel
theorem aw_chkN : chkS stN = 1 := by decide +kernel
theorem aw_ads : adsI [oneD aB] = [aB] := by rfl
theorem aw_eqN : eqS (stX [oneI aA]) (stX [oneD aB]) = false := by decide +kernel
theorem aw_eq : eqS (stX [oneI aA]) (stX [oneI aA]) = true := by decide +kernel
end Go.Proofs.YtomhbcfjhgecbaaGreatDoor
namespace Go.Proofs.YtomhbcfjhgecbaaGreatDoor
open Go.RowKit Go.Sort Go.Lib
open Go.Lib (hid)
open Adr (WT)
attribute [local go_sem] Stp.frUpon
attribute [local go_sem ↓] ldI_eq
attribute [local go_sem] ldI_run
attribute [local go_sem ↓] stI_eq
attribute [local go_sem] stI_run thereI_drew thereI_new put13_drew put13_new liesI_new rd13_new liesI_drew rd13_drew
theorem sl_nil {α : Type} (R : World → List Value → α → Prop) (sz : Nat) (w : World) : Sl R sz w (.slice none 0 0) [] := ⟨none, 0, rfl, Nat.le_refl _, Nat.zero_le _, fun i hi => absurd hi (Nat.not_lt_zero i)⟩
theorem one_insP (a : ByteArray) (w : World) (ha : a.size ≤ maxLen) : InsP w (oneI a) pZ := by
 refine ⟨VR.make (x := .mk 5 0 ⟨#[]⟩ [] []) (sl_nil _ _ _) (sl_nil _ _ _) (show i64B 5 by unfold i64B; decide) (show i64B 0 by unfold i64B; decide) (show (⟨#[]⟩ : ByteArray).size ≤ maxLen by unfold maxLen; decide) (Nat.zero_le _) (Nat.zero_le _), sl_nil _ _ _, show i64B 1 by unfold i64B; decide, ha, show (⟨#[]⟩ : ByteArray).size ≤ maxLen by unfold maxLen; decide, show (⟨#[116, 45, 49]⟩ : ByteArray).size ≤ maxLen by unfold maxLen; decide, show (⟨#[116]⟩ : ByteArray).size ≤ maxLen by unfold maxLen; decide⟩
theorem nil_stap (w : World) : StaP w stN sZ := ⟨sl_nil _ _ _, sl_nil _ _ _, sl_nil _ _ _, by unfold i64B; decide, by unfold maxLen; decide⟩
theorem x_stap (w : World) : StaP w (stX []) sZ := ⟨sl_nil _ _ _, sl_nil _ _ _, sl_nil _ _ _, by unfold i64B; decide, by unfold maxLen; decide⟩
theorem one_insF (a : ByteArray) : InsF (oneI a) := show nodes (.mk 5 0 ⟨#[]⟩ [] []) ≤ 1000000 ∧ nkeys (.mk 5 0 ⟨#[]⟩ [] []) ≤ 1000000 ∧ ([] : List ByteArray).length ≤ 1000000 by decide
theorem staF_x {l : List Ins} (hl : l.length ≤ 1000000) (h : ∀ x ∈ l, InsF x) : StaF (stX l) := ⟨hl, h, Nat.zero_le _, Nat.zero_le _, fun x hx => (by cases hx)⟩
theorem asc_one (x : Ins) : AscP [x] := List.pairwise_singleton _ _
set_option maxRecDepth 100000 in
set_option maxHeartbeats 4000000 in
theorem one_any (a : ByteArray) (w : World) : Calls Tryz.prog 30 #[.string a] w fun e w' => e = .returned (.agg (insA (oneI a) pZ)) ∧ Below w.heap.size w w' := by
 have hX := cellsI (oneI a) pZ
 have HXE := hid (show insA (oneI a) pZ = #[.string a, .string { data := #[] }, .string { data := #[116, 45, 49] }, .string { data := #[116] }, .int .i64 5, .int .i64 0, .string { data := #[] }, .slice none 0 0, .slice none 0 0, .int .i64 1, .bool false, .bool false, .slice none 0 0] from rfl)
 rw [HXE.out] at hX
 go_enter Tryz.func30, Tryz.ntmps30
 go_wp2_with fail
 exact bodyPost_ret (v := .agg (insA (oneI a) pZ)) (by simp [results, Tryz.results30, go_sem, HXE.out]) rfl ⟨rfl, (Below.refl _ _).alloc (Nat.le_refl _) _⟩
set_option maxRecDepth 100000 in
set_option maxHeartbeats 16000000 in
theorem awake_any (w : World) (hT : WT w) : Calls Tryz.prog 10 #[] w fun e w' => e = .returned (.bool true) ∧ Below w.heap.size w w' := by
 have HT := hid (fun (W : World) (hW : Below w.heap.size w W) => hT.below hW)
 clear hT
 have HON := hid (fun (W : World) => show Calls Tryz.prog 30 #[.string { data := #[116, 46, 97] }] W fun e w' => e = .returned (.agg #[.string { data := #[116, 46, 97] }, .string { data := #[] }, .string { data := #[116, 45, 49] }, .string { data := #[116] }, .int .i64 5, .int .i64 0, .string { data := #[] }, .slice none 0 0, .slice none 0 0, .int .i64 1, .bool false, .bool false, .slice none 0 0]) ∧ Below W.heap.size W w' from one_any aA W)
 have HPU := hid (fun (W : World) => show Calls Tryz.prog 21 #[.agg #[.string { data := #[120] }, .int .i64 0, .slice none 0 0, .slice none 0 0, .slice none 0 0], .agg #[.string { data := #[116, 46, 97] }, .string { data := #[] }, .string { data := #[116, 45, 49] }, .string { data := #[116] }, .int .i64 5, .int .i64 0, .string { data := #[] }, .slice none 0 0, .slice none 0 0, .int .i64 1, .bool false, .bool false, .slice none 0 0]] W fun e w' => ∃ p' : Sp, e = .returned (.agg #[.string { data := #[120] }, .int .i64 0, .slice p'.ri 1 p'.ci, .slice p'.rp 0 p'.cp, .slice p'.ro 0 p'.co]) ∧ StaP w' (stX [oneI aA]) p' ∧ Below W.heap.size W w' from
   (put_sta (stX []) sZ (oneI aA) pZ W (x_stap W) (staF_x (by decide) (fun x hx => (by cases hx))) (one_insP aA W (by unfold maxLen; decide)) (one_insF aA) List.Pairwise.nil (by decide)).mono (by
     rintro e w1 ⟨p', rfl, hp, hb⟩
     exact ⟨p', rfl, staP_stays (stays_mask _ _) hp, hb⟩))
 have HDE := hid (fun (p : Sp) (W : World) (h : StaP W (stX [oneI aA]) p) => show Calls Tryz.prog 15 #[.agg #[.string { data := #[120] }, .int .i64 0, .slice p.ri 1 p.ci, .slice p.rp 0 p.cp, .slice p.ro 0 p.co], .string { data := #[116, 46, 97] }] W fun e w' => ∃ p' : Sp, e = .returned (.tuple #[.agg #[.string { data := #[120] }, .int .i64 0, .slice p'.ri 1 p'.ci, .slice p'.rp 0 p'.cp, .slice p'.ro 0 p'.co], .string { data := #[49] }, .int .i64 0]) ∧ StaP w' (stX [oneD aA]) p' ∧ Below W.heap.size W w' from
   (depose_sta (stX [oneI aA]) p aA W h (staF_x (by decide) (fun x hx => by rw [List.mem_singleton.1 hx]; exact one_insF aA)) (asc_one _) (by decide) (by unfold maxLen; decide)).mono (by
     rintro e w1 ⟨hb, hd⟩
     rw [show depI (stX [oneI aA]).ins aA = some ([oneD aA], k1) from aw_dep] at hd
     obtain ⟨p', rfl, hp⟩ := hd
     exact ⟨p', rfl, hp, hb⟩))
 have HRE := hid (fun (p : Sp) (W : World) (hW : Below w.heap.size w W) (h : StaP W (stX [oneD aA]) p) => show Calls Tryz.prog 18 #[.agg #[.string { data := #[120] }, .int .i64 0, .slice p.ri 1 p.ci, .slice p.rp 0 p.cp, .slice p.ro 0 p.co], .string { data := #[116, 46, 97] }, .string { data := #[116, 46, 98, 91, 48, 93] }] W fun e w' => ∃ p' : Sp, e = .returned (.tuple #[.agg #[.string { data := #[120] }, .int .i64 0, .slice p'.ri 1 p'.ci, .slice p'.rp 0 p'.cp, .slice p'.ro 0 p'.co], .int .i64 0]) ∧ StaP w' (stX [oneD aB]) p' ∧ Below W.heap.size W w' from
   (rename_sta (stX [oneD aA]) p aA aB W (HT.out W hW) h (staF_x (by decide) (fun x hx => by rw [List.mem_singleton.1 hx]; unfold InsF; decide)) (asc_one _) (by decide) (by decide)).mono (by
     rintro e w1 ⟨hb, hd⟩
     rw [aw_renE, if_pos rfl, aw_renS] at hd
     obtain ⟨p', rfl, hp⟩ := hd
     exact ⟨p', rfl, staP_stays (stays_mask _ _) hp, hb⟩))
 have HRU := hid (fun (p : Sp) (W : World) (hW : Below w.heap.size w W) (h : StaP W (stX [oneI aA]) p) => show Calls Tryz.prog 18 #[.agg #[.string { data := #[120] }, .int .i64 0, .slice p.ri 1 p.ci, .slice p.rp 0 p.cp, .slice p.ro 0 p.co], .string { data := #[116, 46, 97] }, .string { data := #[117, 46, 97] }] W fun e w' => e = .returned (.tuple #[.agg #[.string { data := #[] }, .int .i64 0, .slice none 0 0, .slice none 0 0, .slice none 0 0], .int .i64 6]) ∧ Below W.heap.size W w' from
   (rename_sta (stX [oneI aA]) p aA aU W (HT.out W hW) h (staF_x (by decide) (fun x hx => by rw [List.mem_singleton.1 hx]; exact one_insF aA)) (asc_one _) (by decide) (by decide)).mono (by
     rintro e w1 ⟨hb, hd⟩
     rw [aw_renU, if_neg (by decide)] at hd
     exact ⟨hd, hb⟩))
 have HFI := hid (fun (p : Sp) (W : World) (h : StaP W (stX [oneD aB]) p) => show Calls Tryz.prog 16 #[.agg #[.string { data := #[120] }, .int .i64 0, .slice p.ri 1 p.ci, .slice p.rp 0 p.cp, .slice p.ro 0 p.co], .string { data := #[116, 46, 98, 91, 48, 93] }, .string { data := #[49] }] W fun e w' => ∃ q : Pt, e = .returned (.tuple #[.agg (insA (oneD aB) q), .bool true]) ∧ Below W.heap.size W w' from
   (find_sta (stX [oneD aB]) p aB k1 W h (staF_x (by decide) (fun x hx => by rw [List.mem_singleton.1 hx]; unfold InsF; decide)) (asc_one _)).mono (by
     rintro e w1 ⟨hb, hd⟩
     rw [show fnI (stX [oneD aB]).ins (aB, k1) = some (oneD aB) from aw_find] at hd
     obtain ⟨q, rfl, _⟩ := hd
     exact ⟨q, rfl, hb⟩))
 have HCK := hid (fun (p : Sp) (W : World) (hW : Below w.heap.size w W) (h : StaP W (stX [oneI aA]) p) => show Calls Tryz.prog 11 #[.agg #[.string { data := #[120] }, .int .i64 0, .slice p.ri 1 p.ci, .slice p.rp 0 p.cp, .slice p.ro 0 p.co]] W fun e w' => e = .returned (.int .i64 0) ∧ Below W.heap.size W w' from
   (check_sta (stX [oneI aA]) p W (HT.out W hW) h ⟨fun x hx => by rw [List.mem_singleton.1 hx]; exact ⟨by decide, by decide, fun d hd => (by cases hd)⟩, fun x hx => (by cases hx), fun x hx => (by cases hx)⟩).mono (by
     rintro e w1 ⟨rfl, hb⟩
     exact ⟨by rw [aw_chk], hb⟩))
 have HCN := hid (fun (W : World) (hW : Below w.heap.size w W) => show Calls Tryz.prog 11 #[.agg #[.string { data := #[] }, .int .i64 0, .slice none 0 0, .slice none 0 0, .slice none 0 0]] W fun e w' => e = .returned (.int .i64 1) ∧ Below W.heap.size W w' from
   (check_sta stN sZ W (HT.out W hW) (nil_stap W) ⟨fun x hx => (by cases hx), fun x hx => (by cases hx), fun x hx => (by cases hx)⟩).mono (by
     rintro e w1 ⟨rfl, hb⟩
     exact ⟨by rw [aw_chkN], hb⟩))
 have HAD := hid (fun (p : Sp) (W : World) (h : StaP W (stX [oneD aB]) p) => show Calls Tryz.prog 24 #[.agg #[.string { data := #[120] }, .int .i64 0, .slice p.ri 1 p.ci, .slice p.rp 0 p.cp, .slice p.ro 0 p.co]] W fun e w' => ∃ (r : Option Addr) (c : Nat), e = .returned (.slice r 1 c) ∧ Below W.heap.size W w' from
   (adrs_sta (stX [oneD aB]) p W h (by decide)).mono (by
     rintro e w1 ⟨v, rfl, ho, hb⟩
     rw [show adsI (stX [oneD aB]).ins = [aB] from aw_ads] at ho
     obtain ⟨r, c, hv, _⟩ := ho.form
     exact ⟨r, c, by rw [hv]; rfl, hb⟩))
 have HEN := hid (fun (p q : Sp) (W : World) (h : StaP W (stX [oneI aA]) p) (h2 : StaP W (stX [oneD aB]) q) => show Calls Tryz.prog 13 #[.agg #[.string { data := #[120] }, .int .i64 0, .slice p.ri 1 p.ci, .slice p.rp 0 p.cp, .slice p.ro 0 p.co], .agg #[.string { data := #[120] }, .int .i64 0, .slice q.ri 1 q.ci, .slice q.rp 0 q.cp, .slice q.ro 0 q.co]] W fun e w' => e = .returned (.bool false) ∧ Below W.heap.size W w' from
   (equal_sta _ _ p q W h h2).mono (by
     rintro e w1 ⟨rfl, hb⟩
     exact ⟨by rw [aw_eqN], hb⟩))
 have HEE := hid (fun (p : Sp) (W : World) (h : StaP W (stX [oneI aA]) p) => show Calls Tryz.prog 13 #[.agg #[.string { data := #[120] }, .int .i64 0, .slice p.ri 1 p.ci, .slice p.rp 0 p.cp, .slice p.ro 0 p.co], .agg #[.string { data := #[120] }, .int .i64 0, .slice p.ri 1 p.ci, .slice p.rp 0 p.cp, .slice p.ro 0 p.co]] W fun e w' => e = .returned (.bool true) ∧ Below W.heap.size W w' from
   (equal_sta _ _ p p W h h).mono (by
     rintro e w1 ⟨rfl, hb⟩
     exact ⟨by rw [aw_eq], hb⟩))
 clear HT
 go_enter Tryz.func10, Tryz.ntmps10
 go_upto_region 2 with (first | (go_at_call 30; refine (HON.out _).mono ?_; rintro e w0 ⟨rfl, hb0⟩; have B0 := hid hb0; clear hb0) | (go_at_call 21; refine (HPU.out _).mono ?_; rintro e w1 ⟨p1, rfl, hp1, hb1⟩; obtain ⟨ri1, ci1, rp1, cp1, ro1, co1⟩ := p1; have HP1 := hid hp1; have B1 := hid hb1; clear hp1 hb1))
 obtain ⟨W1, hW1⟩ : ∃ W, W = w1.alloc (.cells #[.string { data := #[120] }, .int .i64 0, .slice ri1 1 ci1, .slice rp1 0 cp1, .slice ro1 0 co1] 26) := ⟨_, rfl⟩
 rw [← hW1]
 have G1 := hid (show W1.heap[w1.heap.size]? = some (.cells #[.string { data := #[120] }, .int .i64 0, .slice ri1 1 ci1, .slice rp1 0 cp1, .slice ro1 0 co1] 26) from hW1 ▸ (MapKept.heap_alloc w1 _).1)
 have E1 := hid (show Below w1.heap.size w1 W1 from hW1 ▸ (Below.refl _ _).alloc (Nat.le_refl _) _)
 have Z1 := hid (show W1.heap.size = w1.heap.size + 1 by rw [hW1]; simp)
 clear hW1
 have T1 := hid (B0.out.trans ((B1.out.trans (E1.out.mono B1.out.size)).mono B0.out.size))
 have S1 := hid (staP_below E1.out HP1.out)
 have s0 := cellv G1.out 0 rfl
 have s1 := cellv G1.out 1 rfl
 have s2 := cellv G1.out 2 rfl
 have s3 := cellv G1.out 3 rfl
 have s4 := cellv G1.out 4 rfl
 go_upto_region 3 with (go_at_call 15; refine (HDE.out _ _ S1.out).mono ?_; rintro e w2 ⟨p2, rfl, hp2, hb2⟩; obtain ⟨ri2, ci2, rp2, cp2, ro2, co2⟩ := p2; have HP2 := hid hp2; have B2 := hid hb2; clear hp2 hb2)
 clear s0 s1 s2 s3 s4
 obtain ⟨W2, hW2⟩ : ∃ W, W = w2.alloc (.cells #[.string { data := #[120] }, .int .i64 0, .slice ri2 1 ci2, .slice rp2 0 cp2, .slice ro2 0 co2] 26) := ⟨_, rfl⟩
 rw [← hW2]
 have G2 := hid (show W2.heap[w2.heap.size]? = some (.cells #[.string { data := #[120] }, .int .i64 0, .slice ri2 1 ci2, .slice rp2 0 cp2, .slice ro2 0 co2] 26) from hW2 ▸ (MapKept.heap_alloc w2 _).1)
 have E2 := hid (show Below w2.heap.size w2 W2 from hW2 ▸ (Below.refl _ _).alloc (Nat.le_refl _) _)
 have Z2 := hid (show W2.heap.size = w2.heap.size + 1 by rw [hW2]; simp)
 clear hW2
 have H12 := hid (B2.out.trans (E2.out.mono B2.out.size))
 have T2 := hid (T1.out.trans (H12.out.mono T1.out.size))
 have S2 := hid (staP_below E2.out HP2.out)
 have S1 := hid (staP_below H12.out S1.out)
 have G1 := hid ((H12.out.block w1.heap.size (by have := Z1.out; omega)).trans G1.out)
 have d0 := cellv G2.out 0 rfl
 have d1 := cellv G2.out 1 rfl
 have d2 := cellv G2.out 2 rfl
 have d3 := cellv G2.out 3 rfl
 have d4 := cellv G2.out 4 rfl
 go_upto_region 4 with (go_at_call 18; refine (HRE.out _ _ T2.out S2.out).mono ?_; rintro e w3 ⟨p3, rfl, hp3, hb3⟩; obtain ⟨ri3, ci3, rp3, cp3, ro3, co3⟩ := p3; have HP3 := hid hp3; have B3 := hid hb3; clear hp3 hb3)
 clear d0 d1 d2 d3 d4
 obtain ⟨W3, hW3⟩ : ∃ W, W = w3.alloc (.cells #[.string { data := #[120] }, .int .i64 0, .slice ri3 1 ci3, .slice rp3 0 cp3, .slice ro3 0 co3] 26) := ⟨_, rfl⟩
 rw [← hW3]
 have G3 := hid (show W3.heap[w3.heap.size]? = some (.cells #[.string { data := #[120] }, .int .i64 0, .slice ri3 1 ci3, .slice rp3 0 cp3, .slice ro3 0 co3] 26) from hW3 ▸ (MapKept.heap_alloc w3 _).1)
 have E3 := hid (show Below w3.heap.size w3 W3 from hW3 ▸ (Below.refl _ _).alloc (Nat.le_refl _) _)
 have Z3 := hid (show W3.heap.size = w3.heap.size + 1 by rw [hW3]; simp)
 clear hW3
 have H23 := hid (B3.out.trans (E3.out.mono B3.out.size))
 have T3 := hid (T2.out.trans (H23.out.mono T2.out.size))
 have S3 := hid (staP_below E3.out HP3.out)
 have S1 := hid (staP_below H23.out S1.out)
 have L12 := hid (show w1.heap.size < W2.heap.size by have := Z1.out; have := H12.out.size; omega)
 have G1 := hid ((H23.out.block w1.heap.size L12.out).trans G1.out)
 have r0 := cellv G3.out 0 rfl
 have r1 := cellv G3.out 1 rfl
 have r2 := cellv G3.out 2 rfl
 have r3 := cellv G3.out 3 rfl
 have r4 := cellv G3.out 4 rfl
 go_upto_region 5 with (go_at_call 16; refine (HFI.out _ _ S3.out).mono ?_; rintro e w4 ⟨q4, rfl, hb4⟩; have B4 := hid hb4; clear hb4; have hX := cellsI (oneD aB) q4; have HID := hid (show (insA (oneD aB) q4)[2]? = some (.string { data := #[116, 45, 49] }) from rfl); generalize insA (oneD aB) q4 = X at *)
 clear r0 r1 r2 r3 r4
 obtain ⟨W4, hW4⟩ : ∃ W, W = w4.alloc (.cells X 41) := ⟨_, rfl⟩
 rw [← hW4]
 have G4 := hid (show W4.heap[w4.heap.size]? = some (.cells X 41) from hW4 ▸ (MapKept.heap_alloc w4 _).1)
 have E4 := hid (show Below w4.heap.size w4 W4 from hW4 ▸ (Below.refl _ _).alloc (Nat.le_refl _) _)
 have Z4 := hid (show W4.heap.size = w4.heap.size + 1 by rw [hW4]; simp)
 clear hW4
 have x2 := cellv G4.out 2 HID.out
 have H34 := hid (B4.out.trans (E4.out.mono B4.out.size))
 have T4 := hid (T3.out.trans (H34.out.mono T3.out.size))
 have S3 := hid (staP_below H34.out S3.out)
 have S1 := hid (staP_below H34.out S1.out)
 have L13 := hid (show w1.heap.size < W3.heap.size by have := L12.out; have := H23.out.size; omega)
 have L33 := hid (show w3.heap.size < W3.heap.size by have := Z3.out; omega)
 have G1 := hid ((H34.out.block w1.heap.size L13.out).trans G1.out)
 have G3 := hid ((H34.out.block w3.heap.size L33.out).trans G3.out)
 have s0 := cellv G1.out 0 rfl
 have s1 := cellv G1.out 1 rfl
 have s2 := cellv G1.out 2 rfl
 have s3 := cellv G1.out 3 rfl
 have s4 := cellv G1.out 4 rfl
 go_upto_region 6 with (go_at_call 18; refine (HRU.out _ _ T4.out S1.out).mono ?_; rintro e w5 ⟨rfl, hb5⟩; have B5 := hid hb5; clear hb5)
 clear s0 s1 s2 s3 s4
 obtain ⟨W5, hW5⟩ : ∃ W, W = w5.alloc (.cells #[.string { data := #[] }, .int .i64 0, .slice none 0 0, .slice none 0 0, .slice none 0 0] 26) := ⟨_, rfl⟩
 rw [← hW5]
 have G5 := hid (show W5.heap[w5.heap.size]? = some (.cells #[.string { data := #[] }, .int .i64 0, .slice none 0 0, .slice none 0 0, .slice none 0 0] 26) from hW5 ▸ (MapKept.heap_alloc w5 _).1)
 have E5 := hid (show Below w5.heap.size w5 W5 from hW5 ▸ (Below.refl _ _).alloc (Nat.le_refl _) _)
 have Z5 := hid (show W5.heap.size = w5.heap.size + 1 by rw [hW5]; simp)
 clear hW5
 have H45 := hid (B5.out.trans (E5.out.mono B5.out.size))
 have T5 := hid (T4.out.trans (H45.out.mono T4.out.size))
 have S3 := hid (staP_below H45.out S3.out)
 have S1 := hid (staP_below H45.out S1.out)
 have L14 := hid (show w1.heap.size < W4.heap.size by have := L13.out; have := H34.out.size; omega)
 have L34 := hid (show w3.heap.size < W4.heap.size by have := L33.out; have := H34.out.size; omega)
 have G1 := hid ((H45.out.block w1.heap.size L14.out).trans G1.out)
 have G3 := hid ((H45.out.block w3.heap.size L34.out).trans G3.out)
 have L15 := hid (show w1.heap.size < W5.heap.size by have := L14.out; have := H45.out.size; omega)
 have L35 := hid (show w3.heap.size < W5.heap.size by have := L34.out; have := H45.out.size; omega)
 have x2 := bget H45.out x2
 have HX2 := hid x2
 have HG1 := hid (fun (W : World) (hW : Below W5.heap.size W5 W) => (hW.block w1.heap.size L15.out).trans G1.out)
 have HG3 := hid (fun (W : World) (hW : Below W5.heap.size W5 W) => (hW.block w3.heap.size L35.out).trans G3.out)
 have HTW := hid (fun (W : World) (hW : Below W5.heap.size W5 W) => T5.out.trans (hW.mono T5.out.size))
 have C := hid (Below.refl W5.heap.size W5)
 clear x2
 obtain ⟨c1, c3⟩ : Hid (W5.heap[w1.heap.size]? = some (.cells #[.string { data := #[120] }, .int .i64 0, .slice ri1 1 ci1, .slice rp1 0 cp1, .slice ro1 0 co1] 26)) ∧ Hid (W5.heap[w3.heap.size]? = some (.cells #[.string { data := #[120] }, .int .i64 0, .slice ri3 1 ci3, .slice rp3 0 cp3, .slice ro3 0 co3] 26)) := ⟨hid (HG1.out _ C.out), hid (HG3.out _ C.out)⟩
 have s0 := cellv c1.out 0 rfl
 have s1 := cellv c1.out 1 rfl
 have s2 := cellv c1.out 2 rfl
 have s3 := cellv c1.out 3 rfl
 have s4 := cellv c1.out 4 rfl
 have r0 := cellv c3.out 0 rfl
 have r1 := cellv c3.out 1 rfl
 have r2 := cellv c3.out 2 rfl
 have r3 := cellv c3.out 3 rfl
 have r4 := cellv c3.out 4 rfl
 have x2 := bget C.out HX2.out
 go_wp2_with (first | (go_at_call 11; refine (HCK.out _ _ (HTW.out _ C.out) (staP_below C.out S1.out)).mono ?_; rintro e y6 ⟨rfl, hb⟩; clear HCK; clear s0 s1 s2 s3 s4 r0 r1 r2 r3 r4 x2 c1 c3; have C := hid (C.out.trans (hb.mono C.out.size)); clear hb; obtain ⟨c1, c3⟩ : Hid (y6.heap[w1.heap.size]? = some (.cells #[.string { data := #[120] }, .int .i64 0, .slice ri1 1 ci1, .slice rp1 0 cp1, .slice ro1 0 co1] 26)) ∧ Hid (y6.heap[w3.heap.size]? = some (.cells #[.string { data := #[120] }, .int .i64 0, .slice ri3 1 ci3, .slice rp3 0 cp3, .slice ro3 0 co3] 26)) := ⟨hid (HG1.out _ C.out), hid (HG3.out _ C.out)⟩; have s0 := cellv c1.out 0 rfl; have s1 := cellv c1.out 1 rfl; have s2 := cellv c1.out 2 rfl; have s3 := cellv c1.out 3 rfl; have s4 := cellv c1.out 4 rfl; have r0 := cellv c3.out 0 rfl; have r1 := cellv c3.out 1 rfl; have r2 := cellv c3.out 2 rfl; have r3 := cellv c3.out 3 rfl; have r4 := cellv c3.out 4 rfl; have x2 := bget C.out HX2.out) | (go_at_call 11; refine (HCN.out _ (HTW.out _ C.out)).mono ?_; rintro e y7 ⟨rfl, hb⟩; clear HCN; clear s0 s1 s2 s3 s4 r0 r1 r2 r3 r4 x2 c1 c3; have C := hid (C.out.trans (hb.mono C.out.size)); clear hb; obtain ⟨c1, c3⟩ : Hid (y7.heap[w1.heap.size]? = some (.cells #[.string { data := #[120] }, .int .i64 0, .slice ri1 1 ci1, .slice rp1 0 cp1, .slice ro1 0 co1] 26)) ∧ Hid (y7.heap[w3.heap.size]? = some (.cells #[.string { data := #[120] }, .int .i64 0, .slice ri3 1 ci3, .slice rp3 0 cp3, .slice ro3 0 co3] 26)) := ⟨hid (HG1.out _ C.out), hid (HG3.out _ C.out)⟩; have s0 := cellv c1.out 0 rfl; have s1 := cellv c1.out 1 rfl; have s2 := cellv c1.out 2 rfl; have s3 := cellv c1.out 3 rfl; have s4 := cellv c1.out 4 rfl; have r0 := cellv c3.out 0 rfl; have r1 := cellv c3.out 1 rfl; have r2 := cellv c3.out 2 rfl; have r3 := cellv c3.out 3 rfl; have r4 := cellv c3.out 4 rfl; have x2 := bget C.out HX2.out) | (go_at_call 24; refine (HAD.out _ _ (staP_below C.out S3.out)).mono ?_; rintro e y8 ⟨r8, c8, rfl, hb⟩; clear s0 s1 s2 s3 s4 r0 r1 r2 r3 r4 x2 c1 c3; have C := hid (C.out.trans (hb.mono C.out.size)); clear hb; obtain ⟨c1, c3⟩ : Hid (y8.heap[w1.heap.size]? = some (.cells #[.string { data := #[120] }, .int .i64 0, .slice ri1 1 ci1, .slice rp1 0 cp1, .slice ro1 0 co1] 26)) ∧ Hid (y8.heap[w3.heap.size]? = some (.cells #[.string { data := #[120] }, .int .i64 0, .slice ri3 1 ci3, .slice rp3 0 cp3, .slice ro3 0 co3] 26)) := ⟨hid (HG1.out _ C.out), hid (HG3.out _ C.out)⟩; have s0 := cellv c1.out 0 rfl; have s1 := cellv c1.out 1 rfl; have s2 := cellv c1.out 2 rfl; have s3 := cellv c1.out 3 rfl; have s4 := cellv c1.out 4 rfl; have r0 := cellv c3.out 0 rfl; have r1 := cellv c3.out 1 rfl; have r2 := cellv c3.out 2 rfl; have r3 := cellv c3.out 3 rfl; have r4 := cellv c3.out 4 rfl; have x2 := bget C.out HX2.out) | (go_at_call 13; refine (HEN.out _ _ _ (staP_below C.out S1.out) (staP_below C.out S3.out)).mono ?_; rintro e y9 ⟨rfl, hb⟩; clear HEN; clear s0 s1 s2 s3 s4 r0 r1 r2 r3 r4 x2 c1 c3; have C := hid (C.out.trans (hb.mono C.out.size)); clear hb; obtain ⟨c1, c3⟩ : Hid (y9.heap[w1.heap.size]? = some (.cells #[.string { data := #[120] }, .int .i64 0, .slice ri1 1 ci1, .slice rp1 0 cp1, .slice ro1 0 co1] 26)) ∧ Hid (y9.heap[w3.heap.size]? = some (.cells #[.string { data := #[120] }, .int .i64 0, .slice ri3 1 ci3, .slice rp3 0 cp3, .slice ro3 0 co3] 26)) := ⟨hid (HG1.out _ C.out), hid (HG3.out _ C.out)⟩; have s0 := cellv c1.out 0 rfl; have s1 := cellv c1.out 1 rfl; have s2 := cellv c1.out 2 rfl; have s3 := cellv c1.out 3 rfl; have s4 := cellv c1.out 4 rfl; have r0 := cellv c3.out 0 rfl; have r1 := cellv c3.out 1 rfl; have r2 := cellv c3.out 2 rfl; have r3 := cellv c3.out 3 rfl; have r4 := cellv c3.out 4 rfl; have x2 := bget C.out HX2.out) | (go_at_call 13; refine (HEE.out _ _ (staP_below C.out S1.out)).mono ?_; rintro e y10 ⟨rfl, hb⟩; clear HEE; clear s0 s1 s2 s3 s4 r0 r1 r2 r3 r4 x2 c1 c3; have C := hid (C.out.trans (hb.mono C.out.size)); clear hb; obtain ⟨c1, c3⟩ : Hid (y10.heap[w1.heap.size]? = some (.cells #[.string { data := #[120] }, .int .i64 0, .slice ri1 1 ci1, .slice rp1 0 cp1, .slice ro1 0 co1] 26)) ∧ Hid (y10.heap[w3.heap.size]? = some (.cells #[.string { data := #[120] }, .int .i64 0, .slice ri3 1 ci3, .slice rp3 0 cp3, .slice ro3 0 co3] 26)) := ⟨hid (HG1.out _ C.out), hid (HG3.out _ C.out)⟩; have s0 := cellv c1.out 0 rfl; have s1 := cellv c1.out 1 rfl; have s2 := cellv c1.out 2 rfl; have s3 := cellv c1.out 3 rfl; have s4 := cellv c1.out 4 rfl; have r0 := cellv c3.out 0 rfl; have r1 := cellv c3.out 1 rfl; have r2 := cellv c3.out 2 rfl; have r3 := cellv c3.out 3 rfl; have r4 := cellv c3.out 4 rfl; have x2 := bget C.out HX2.out))
 go_ret
 exact ⟨rfl, HTW.out _ C.out⟩
end Go.Proofs.YtomhbcfjhgecbaaGreatDoor
namespace Go.Proofs.YtomhbcfjhgecbaaGreatDoor
open Go.RowKit Go.Sort Go.Lib
open Go.Lib (hid)
open Adr (WT)
open Stp (wp_region_fresh Spc Stb sVal sBool stTrue Lat Bef grw_below wpF_quiet grw_ex wpF_told wpF_put wpF_nil wpF_skip noEnter_op)
attribute [local go_sem] Stp.frUpon
set_option maxRecDepth 100000 in
set_option maxHeartbeats 8000000 in
theorem lequal_any (s t : Sta) (p q : Sp) (w : World) (hT : WT w) (h : StaP w s p) (h2 : StaP w t q) :
   Calls Tryz.prog 4 #[.agg (staA s p), .agg (staA t q)] w fun e w' => e = .returned (.bool true) ∧ Below w.heap.size w w' := by
 have HSA := hid (fun (W : World) (hW : Below w.heap.size w W) => small_sta s p W (staP_below hW h))
 have HSB := hid (fun (W : World) (hW : Below w.heap.size w W) => small_sta t q W (staP_below hW h2))
 have HAW := hid (fun (W : World) (hW : Below w.heap.size w W) => awake_any W (hT.below hW))
 have HPE := hid (fun (W : World) (hW : Below w.heap.size w W) => equal_sta s t p q W (staP_below hW h) (staP_below hW h2))
 have HRE := hid (fun (W : World) (hW : Below w.heap.size w W) => requal_sta s t p q W (staP_below hW h) (staP_below hW h2))
 clear hT h h2
 generalize smallS s = bs at *
 generalize smallS t = bt at *
 generalize eqS s t = E at *
 obtain ⟨ari, aci, arp, acp, aro, aco⟩ := p
 obtain ⟨bri, bci, brp, bcp, bro, bco⟩ := q
 unfold staA at *
 dsimp only at HSA HSB HPE HRE
 obtain ⟨W0, hW0, hb0, hz0, hc0, hc2⟩ := two_new' w (.cells #[.string s.lin, .int .i64 s.ser, .slice ari s.ins.length aci, .slice arp s.pen.length acp, .slice aro s.out.length aco] 26) (.cells #[.string t.lin, .int .i64 t.ser, .slice bri t.ins.length bci, .slice brp t.pen.length bcp, .slice bro t.out.length bco] 26)
 have HW0 := hid hW0
 have HB0 := hid hb0
 have s0 : W0.cell? ⟨w.heap.size, 0, none⟩ = some (.string s.lin) := cellv hc0 0 rfl
 have s1 : W0.cell? ⟨w.heap.size, 1, none⟩ = some (.int .i64 s.ser) := cellv hc0 1 rfl
 have s2 : W0.cell? ⟨w.heap.size, 2, none⟩ = some (.slice ari s.ins.length aci) := cellv hc0 2 rfl
 have s3 : W0.cell? ⟨w.heap.size, 3, none⟩ = some (.slice arp s.pen.length acp) := cellv hc0 3 rfl
 have s4 : W0.cell? ⟨w.heap.size, 4, none⟩ = some (.slice aro s.out.length aco) := cellv hc0 4 rfl
 have t0 : W0.cell? ⟨w.heap.size + 1, 0, none⟩ = some (.string t.lin) := cellv hc2 0 rfl
 have t1 : W0.cell? ⟨w.heap.size + 1, 1, none⟩ = some (.int .i64 t.ser) := cellv hc2 1 rfl
 have t2 : W0.cell? ⟨w.heap.size + 1, 2, none⟩ = some (.slice bri t.ins.length bci) := cellv hc2 2 rfl
 have t3 : W0.cell? ⟨w.heap.size + 1, 3, none⟩ = some (.slice brp t.pen.length bcp) := cellv hc2 3 rfl
 have t4 : W0.cell? ⟨w.heap.size + 1, 4, none⟩ = some (.slice bro t.out.length bco) := cellv hc2 4 rfl
 have HCE := hid (fun (W : World) (hW : Below W0.heap.size W0 W) => show W.cell? ⟨w.heap.size, 0, none⟩ = some (.string s.lin) ∧ W.cell? ⟨w.heap.size, 1, none⟩ = some (.int .i64 s.ser) ∧ W.cell? ⟨w.heap.size, 2, none⟩ = some (.slice ari s.ins.length aci) ∧ W.cell? ⟨w.heap.size, 3, none⟩ = some (.slice arp s.pen.length acp) ∧ W.cell? ⟨w.heap.size, 4, none⟩ = some (.slice aro s.out.length aco) ∧ W.cell? ⟨w.heap.size + 1, 0, none⟩ = some (.string t.lin) ∧ W.cell? ⟨w.heap.size + 1, 1, none⟩ = some (.int .i64 t.ser) ∧ W.cell? ⟨w.heap.size + 1, 2, none⟩ = some (.slice bri t.ins.length bci) ∧ W.cell? ⟨w.heap.size + 1, 3, none⟩ = some (.slice brp t.pen.length bcp) ∧ W.cell? ⟨w.heap.size + 1, 4, none⟩ = some (.slice bro t.out.length bco) from ⟨bget hW s0, bget hW s1, bget hW s2, bget hW s3, bget hW s4, bget hW t0, bget hW t1, bget hW t2, bget hW t3, bget hW t4⟩)
 have HG := hid (fun (W : World) (hW : Below W0.heap.size W0 W) => HB0.out.trans (hW.mono HB0.out.size))
 have BC := hid (Below.refl W0.heap.size W0)
 clear hc0 hc2 hz0 hb0 hW0
 go_enter Tryz.func4, Tryz.ntmps4
 go_upto_region 1 with (fail)
 rw [← HW0.out]
 clear HW0
 cases bs with
 | false =>
   go_wp2_with (first | (go_at_call 9; refine (HSA.out _ (HG.out _ BC.out)).mono ?_; rintro e w1 ⟨rfl, hb1⟩; have BC := hid (BC.out.trans (hb1.mono BC.out.size)); clear hb1; clear s0 s1 s2 s3 s4 t0 t1 t2 t3 t4; obtain ⟨s0, s1, s2, s3, s4, t0, t1, t2, t3, t4⟩ := HCE.out _ BC.out; clear HSA) | (go_at_call 9; refine (HSB.out _ (HG.out _ BC.out)).mono ?_; rintro e w1 ⟨rfl, hb1⟩; have BC := hid (BC.out.trans (hb1.mono BC.out.size)); clear hb1; clear s0 s1 s2 s3 s4 t0 t1 t2 t3 t4; obtain ⟨s0, s1, s2, s3, s4, t0, t1, t2, t3, t4⟩ := HCE.out _ BC.out; clear HSB) | (go_at_call 10; refine (HAW.out _ (HG.out _ BC.out)).mono ?_; rintro e w1 ⟨rfl, hb1⟩; have BC := hid (BC.out.trans (hb1.mono BC.out.size)); clear hb1))
   go_ret
   exact ⟨rfl, HG.out _ BC.out⟩
 | true =>
 cases bt with
 | false =>
   go_wp2_with (first | (go_at_call 9; refine (HSA.out _ (HG.out _ BC.out)).mono ?_; rintro e w1 ⟨rfl, hb1⟩; have BC := hid (BC.out.trans (hb1.mono BC.out.size)); clear hb1; clear s0 s1 s2 s3 s4 t0 t1 t2 t3 t4; obtain ⟨s0, s1, s2, s3, s4, t0, t1, t2, t3, t4⟩ := HCE.out _ BC.out; clear HSA) | (go_at_call 9; refine (HSB.out _ (HG.out _ BC.out)).mono ?_; rintro e w1 ⟨rfl, hb1⟩; have BC := hid (BC.out.trans (hb1.mono BC.out.size)); clear hb1; clear s0 s1 s2 s3 s4 t0 t1 t2 t3 t4; obtain ⟨s0, s1, s2, s3, s4, t0, t1, t2, t3, t4⟩ := HCE.out _ BC.out; clear HSB) | (go_at_call 10; refine (HAW.out _ (HG.out _ BC.out)).mono ?_; rintro e w1 ⟨rfl, hb1⟩; have BC := hid (BC.out.trans (hb1.mono BC.out.size)); clear hb1))
   go_ret
   exact ⟨rfl, HG.out _ BC.out⟩
 | true =>
   go_wp2_with (first | (go_at_call 9; refine (HSA.out _ (HG.out _ BC.out)).mono ?_; rintro e w1 ⟨rfl, hb1⟩; have BC := hid (BC.out.trans (hb1.mono BC.out.size)); clear hb1; clear s0 s1 s2 s3 s4 t0 t1 t2 t3 t4; obtain ⟨s0, s1, s2, s3, s4, t0, t1, t2, t3, t4⟩ := HCE.out _ BC.out; clear HSA) | (go_at_call 9; refine (HSB.out _ (HG.out _ BC.out)).mono ?_; rintro e w1 ⟨rfl, hb1⟩; have BC := hid (BC.out.trans (hb1.mono BC.out.size)); clear hb1; clear s0 s1 s2 s3 s4 t0 t1 t2 t3 t4; obtain ⟨s0, s1, s2, s3, s4, t0, t1, t2, t3, t4⟩ := HCE.out _ BC.out; clear HSB) | (go_at_call 10; refine (HAW.out _ (HG.out _ BC.out)).mono ?_; rintro e w1 ⟨rfl, hb1⟩; have BC := hid (BC.out.trans (hb1.mono BC.out.size)); clear hb1))
   have ks0 := fun d os => cell_regrown s0 d os
   have ks1 := fun d os => cell_regrown s1 d os
   have ks2 := fun d os => cell_regrown s2 d os
   have ks3 := fun d os => cell_regrown s3 d os
   have ks4 := fun d os => cell_regrown s4 d os
   have kt0 := fun d os => cell_regrown t0 d os
   have kt1 := fun d os => cell_regrown t1 d os
   have kt2 := fun d os => cell_regrown t2 d os
   have kt3 := fun d os => cell_regrown t3 d os
   have kt4 := fun d os => cell_regrown t4 d os
   cases E with
   | false =>
     refine wp_region_fresh (fun k => match k with | 2 => some (sBool false) | 5 => some (sBool false) | 8 => some (sBool true) | _ => none) (by kernel_rfl) (by kernel_rfl) ?_
     iterate 2 (refine wpF_quiet (grw_ex _) (by kernel_rfl) rfl (noEnter_op (by rfl)) ?_; intro K hK; go_big_quiet_op; go_big_quiet_on)
     refine wpF_told (sBool false) (by kernel_rfl) rfl ⟨_, rfl⟩ stTrue (fun w4 hw4 hE4 => ?_) ?_
     · have hb4 := grw_below hw4
       have hh := HPE.out w4 (HG.out _ (BC.out.trans (hb4.mono BC.out.size)))
       clear hw4 hE4 hb4
       go_simp
       go_at_call 13
       refine Calls.mono hh ?_
       rintro e w5 ⟨rfl, hb5⟩
       exact ⟨_, rfl, hb5, rfl, trivial⟩
     rintro _ rfl
     (refine wpF_put ?_; intro K hK; go_simp; refine hK _ ?_; clear hK K)
     iterate 2 (refine wpF_quiet (grw_ex _) (by kernel_rfl) rfl (noEnter_op (by rfl)) ?_; intro K hK; go_big_quiet_op; go_big_quiet_on)
     refine wpF_told (sBool false) (by kernel_rfl) rfl ⟨_, rfl⟩ stTrue (fun w4 hw4 hE4 => ?_) ?_
     · have hb4 := grw_below hw4
       have hh := HRE.out w4 (HG.out _ (BC.out.trans (hb4.mono BC.out.size)))
       clear hw4 hE4 hb4
       go_simp
       go_at_call 14
       refine Calls.mono hh ?_
       rintro e w5 ⟨rfl, hb5⟩
       exact ⟨_, rfl, hb5, rfl, trivial⟩
     rintro _ rfl
     (refine wpF_put ?_; intro K hK; go_simp; refine hK _ ?_; clear hK K)
     iterate 2 (refine wpF_quiet (grw_ex _) (by kernel_rfl) rfl (noEnter_op (by rfl)) ?_; intro K hK; go_big_quiet_op; go_big_quiet_on)
     refine wpF_told (sBool true) (by kernel_rfl) rfl ⟨_, rfl⟩ stTrue (fun w4 hw4 hE4 => ?_) ?_
     · have hb4 := grw_below hw4
       have hh := HAW.out w4 (HG.out _ (BC.out.trans (hb4.mono BC.out.size)))
       clear hw4 hE4 hb4
       go_simp
       go_at_call 10
       refine Calls.mono hh ?_
       rintro e w5 ⟨rfl, hb5⟩
       exact ⟨_, rfl, hb5, rfl, trivial⟩
     rintro _ rfl
     (refine wpF_put ?_; intro K hK; go_simp; refine hK _ ?_; clear hK K)
     iterate 2 (refine wpF_quiet (grw_ex _) (by kernel_rfl) rfl (noEnter_op (by rfl)) ?_; intro K hK; go_big_quiet_op; go_big_quiet_on)
     refine wpF_nil ?_
     intro w6 hw6 hE6
     have hb6 := grw_below hw6
     clear hw6 hE6
     have HB6 := hid (BC.out.trans (hb6.mono BC.out.size))
     clear hb6
     go_wp2_with fail
     go_ret
     exact ⟨rfl, HG.out _ HB6.out⟩
   | true =>
     refine wp_region_fresh (fun k => match k with | 2 => some (sBool true) | 5 => some (sBool true) | 8 => some (sBool true) | _ => none) (by kernel_rfl) (by kernel_rfl) ?_
     iterate 2 (refine wpF_quiet (grw_ex _) (by kernel_rfl) rfl (noEnter_op (by rfl)) ?_; intro K hK; go_big_quiet_op; go_big_quiet_on)
     refine wpF_told (sBool true) (by kernel_rfl) rfl ⟨_, rfl⟩ stTrue (fun w4 hw4 hE4 => ?_) ?_
     · have hb4 := grw_below hw4
       have hh := HPE.out w4 (HG.out _ (BC.out.trans (hb4.mono BC.out.size)))
       clear hw4 hE4 hb4
       go_simp
       go_at_call 13
       refine Calls.mono hh ?_
       rintro e w5 ⟨rfl, hb5⟩
       exact ⟨_, rfl, hb5, rfl, trivial⟩
     rintro _ rfl
     (refine wpF_put ?_; intro K hK; go_simp; refine hK _ ?_; clear hK K)
     iterate 2 (refine wpF_quiet (grw_ex _) (by kernel_rfl) rfl (noEnter_op (by rfl)) ?_; intro K hK; go_big_quiet_op; go_big_quiet_on)
     refine wpF_told (sBool true) (by kernel_rfl) rfl ⟨_, rfl⟩ stTrue (fun w4 hw4 hE4 => ?_) ?_
     · have hb4 := grw_below hw4
       have hh := HRE.out w4 (HG.out _ (BC.out.trans (hb4.mono BC.out.size)))
       clear hw4 hE4 hb4
       go_simp
       go_at_call 14
       refine Calls.mono hh ?_
       rintro e w5 ⟨rfl, hb5⟩
       exact ⟨_, rfl, hb5, rfl, trivial⟩
     rintro _ rfl
     (refine wpF_put ?_; intro K hK; go_simp; refine hK _ ?_; clear hK K)
     iterate 2 (refine wpF_quiet (grw_ex _) (by kernel_rfl) rfl (noEnter_op (by rfl)) ?_; intro K hK; go_big_quiet_op; go_big_quiet_on)
     refine wpF_told (sBool true) (by kernel_rfl) rfl ⟨_, rfl⟩ stTrue (fun w4 hw4 hE4 => ?_) ?_
     · have hb4 := grw_below hw4
       have hh := HAW.out w4 (HG.out _ (BC.out.trans (hb4.mono BC.out.size)))
       clear hw4 hE4 hb4
       go_simp
       go_at_call 10
       refine Calls.mono hh ?_
       rintro e w5 ⟨rfl, hb5⟩
       exact ⟨_, rfl, hb5, rfl, trivial⟩
     rintro _ rfl
     (refine wpF_put ?_; intro K hK; go_simp; refine hK _ ?_; clear hK K)
     iterate 2 (refine wpF_quiet (grw_ex _) (by kernel_rfl) rfl (noEnter_op (by rfl)) ?_; intro K hK; go_big_quiet_op; go_big_quiet_on)
     refine wpF_nil ?_
     intro w6 hw6 hE6
     have hb6 := grw_below hw6
     clear hw6 hE6
     have HB6 := hid (BC.out.trans (hb6.mono BC.out.size))
     clear hb6
     go_wp2_with fail
     go_ret
     exact ⟨rfl, HG.out _ HB6.out⟩
end Go.Proofs.YtomhbcfjhgecbaaGreatDoor
namespace Go.Proofs.YtomhbcfjhgecbaaGreatDoor.Opw
open Go.RowKit Go.Sort Go.ChangeShapes Go.WideShapes Go.ChangeAt
theorem struct_w {H : Type} {enc : TypeId × Value → H} {P : Program} {w : World} {T : TypeId} {fs : Array Field} {fuel : Nat} {cs : List Value} {x : DataW H × List MemPlace}
   (hT : P.underlying T = some (.struct fs)) (hb : Wt P T x.1) (h : DataW.trod enc P w 0 (fun _ => true) true fuel T cs = some x) :
   cs.length = P.cellsOf T ∧ ∃ n, fuel = n + 1 ∧ ∀ (k : Nat) (f : Field), fs[k]? = some f → ∃ y, DataW.trod enc P w 0 (fun _ => true) true n f.type ((cs.drop f.offset).take (P.cellsOf f.type)) = some y ∧ Wt P f.type y.1 := by
 obtain ⟨xs, n, rfl, hy, hl, hxl, hf⟩ := DataW.trod_struct hT h
 subst hy
 refine ⟨hl, n, rfl, fun k f hk => ?_⟩
 have hk2 : k < xs.length := by rw [hxl]; exact (Array.getElem?_eq_some_iff.1 hk).1
 exact ⟨xs[k], (hf k f hk).trans (List.getElem?_eq_getElem hk2), hb.field hT hk (List.getElem?_eq_getElem hk2)⟩
theorem strR_of {H : Type} {enc : TypeId × Value → H} {P : Program} {w : World} {T : TypeId} (hT : P.underlying T = some .string) : ∀ fuel cs (y : DataW H × List MemPlace), DataW.trod enc P w 0 (fun _ => true) true fuel T cs = some y → ∃ z, StrR w cs z := by
 intro fuel cs y h
 obtain ⟨s, h1, h2, h3⟩ := DataW.trod_string hT h
 exact ⟨s, by rw [h1]; rfl, h3⟩
theorem cell_of_slice_field {cs : List Value} {o : Nat} (ho : o < cs.length) : (cs.drop o).take 1 = [cs[o]] := by
 rw [List.drop_eq_getElem_cons ho]; rfl
theorem field_sl_w {α H : Type} {enc : TypeId × Value → H} {P : Program} {w : World} {sz : Nat} {T E : TypeId} {fuel o : Nat} {cs : List Value} {y : DataW H × List MemPlace} (R : World → List Value → α → Prop) (hT : P.underlying T = some (.slice E)) (hE : P.cellsOf E = sz) (hsz : 0 < sz) (ho : o < cs.length)
   (hR : ∀ fuel' cs y, cs.length = sz → Wt P E y.1 → DataW.trod enc P w 0 (fun _ => true) true fuel' E cs = some y → ∃ z, R w cs z) (hb : Wt P T y.1)
   (h : DataW.trod enc P w 0 (fun _ => true) true fuel T ((cs.drop o).take 1) = some y) : ∃ v xs, cs[o]? = some v ∧ Sl R sz w v xs := by
 rw [cell_of_slice_field ho] at h
 obtain ⟨xs, h1, h2⟩ := sl_of_trod_lt R hT hE hsz rfl (fun f _ cs y hl hb h => hR f cs y hl hb h) hb h
 exact ⟨_, xs, List.getElem?_eq_getElem ho, h1⟩
theorem oStr : Tryz.prog.cellsOf 9 = 1 := by kernel_rfl
theorem oInt : Tryz.prog.cellsOf 3 = 1 := by kernel_rfl
theorem oBool : Tryz.prog.cellsOf 4 = 1 := by kernel_rfl
theorem oStrs : Tryz.prog.cellsOf 37 = 1 := by kernel_rfl
theorem oVal : Tryz.prog.cellsOf 39 = 5 := by kernel_rfl
theorem oIns : Tryz.prog.cellsOf 22 = 1 := by kernel_rfl
theorem oPen : Tryz.prog.cellsOf 23 = 1 := by kernel_rfl
theorem oOut : Tryz.prog.cellsOf 24 = 1 := by kernel_rfl
theorem oI : Tryz.prog.cellsOf 41 = 13 := by kernel_rfl
theorem oP : Tryz.prog.cellsOf 58 = 3 := by kernel_rfl
theorem oO : Tryz.prog.cellsOf 66 = 7 := by kernel_rfl
theorem lfit {cs l : List Value} (hl : cs.length = l.length) (h : ∀ i, i < l.length → cs[i]? = l[i]?) : cs = l := by
 apply List.ext_getElem?
 intro i
 by_cases hi : i < l.length
 · exact h i hi
 · rw [List.getElem?_eq_none (by omega), List.getElem?_eq_none (by omega)]
theorem subc {cs : List Value} {o n k : Nat} {v : Value} (hk : k < n) (h : ((cs.drop o).take n)[k]? = some v) : cs[o + k]? = some v := by
 rw [List.getElem?_take, if_pos hk, List.getElem?_drop] at h
 exact h
theorem val_b {H : Type} {enc : TypeId × Value → H} {w : World} {fuel : Nat} {cs : List Value} {y : DataW H × List MemPlace} (hl : cs.length = 5) (hb : Wt Tryz.prog 39 y.1) (h : DataW.trod enc Tryz.prog w 0 (fun _ => true) true fuel 39 cs = some y) : ∃ x, VR w cs x :=
 vr_of_trod Tryz.underlying39 (by kernel_rfl) ⟨_, rfl, rfl, rfl⟩ ⟨_, rfl, rfl, rfl⟩ ⟨_, rfl, rfl, rfl⟩ ⟨_, rfl, rfl, rfl⟩ ⟨_, rfl, rfl, rfl⟩ Tryz.underlying35 (by kernel_rfl) Tryz.underlying3 (by kernel_rfl) Tryz.underlying9 (by kernel_rfl) Tryz.underlying36 (by kernel_rfl) Tryz.underlying37 (by kernel_rfl) (by kernel_rfl) (by kernel_rfl) fuel cs y hl hb h
theorem vr5_of {w : World} {cs : List Value} {x : Val} (h : VR w cs x) : ∃ r c rk ck, cs = [.int .i64 x.kind, .int .i64 x.num, .string x.str, .slice r x.items.length c, .slice rk x.keys.length ck] ∧ VR5 w r c rk ck x := by
 obtain ⟨r, c, vK, e, _, ⟨rk, ck, e2, _⟩, _⟩ := id h.open'
 subst e2
 subst e
 exact ⟨r, c, rk, ck, rfl, h⟩
set_option maxRecDepth 100000 in
theorem ins_b {H : Type} {enc : TypeId × Value → H} {w : World} : ∀ fuel cs (y : DataW H × List MemPlace), cs.length = 13 → Wt Tryz.prog 41 y.1 → DataW.trod enc Tryz.prog w 0 (fun _ => true) true fuel 41 cs = some y → ∃ z, InR w cs z := by
 intro fuel cs y hl hb h
 obtain ⟨_, n, rfl, hf⟩ := struct_w Tryz.underlying41 hb h
 obtain ⟨z0, h0, b0⟩ : ∃ y, DataW.trod enc Tryz.prog w 0 (fun _ => true) true n 9 ((cs.drop 0).take (Tryz.prog.cellsOf 9)) = some y ∧ Wt Tryz.prog 9 y.1 := hf 0 _ rfl
 rw [oStr] at h0
 obtain ⟨z1, h1, b1⟩ : ∃ y, DataW.trod enc Tryz.prog w 0 (fun _ => true) true n 9 ((cs.drop 1).take (Tryz.prog.cellsOf 9)) = some y ∧ Wt Tryz.prog 9 y.1 := hf 1 _ rfl
 rw [oStr] at h1
 obtain ⟨z2, h2, b2⟩ : ∃ y, DataW.trod enc Tryz.prog w 0 (fun _ => true) true n 9 ((cs.drop 2).take (Tryz.prog.cellsOf 9)) = some y ∧ Wt Tryz.prog 9 y.1 := hf 2 _ rfl
 rw [oStr] at h2
 obtain ⟨z3, h3, b3⟩ : ∃ y, DataW.trod enc Tryz.prog w 0 (fun _ => true) true n 9 ((cs.drop 3).take (Tryz.prog.cellsOf 9)) = some y ∧ Wt Tryz.prog 9 y.1 := hf 3 _ rfl
 rw [oStr] at h3
 obtain ⟨z4, h4, b4⟩ : ∃ y, DataW.trod enc Tryz.prog w 0 (fun _ => true) true n 39 ((cs.drop 4).take (Tryz.prog.cellsOf 39)) = some y ∧ Wt Tryz.prog 39 y.1 := hf 4 _ rfl
 rw [oVal] at h4
 obtain ⟨z5, h5, b5⟩ : ∃ y, DataW.trod enc Tryz.prog w 0 (fun _ => true) true n 3 ((cs.drop 9).take (Tryz.prog.cellsOf 3)) = some y ∧ Wt Tryz.prog 3 y.1 := hf 5 _ rfl
 rw [oInt] at h5
 obtain ⟨z6, h6, b6⟩ : ∃ y, DataW.trod enc Tryz.prog w 0 (fun _ => true) true n 4 ((cs.drop 10).take (Tryz.prog.cellsOf 4)) = some y ∧ Wt Tryz.prog 4 y.1 := hf 6 _ rfl
 rw [oBool] at h6
 obtain ⟨z7, h7, b7⟩ : ∃ y, DataW.trod enc Tryz.prog w 0 (fun _ => true) true n 4 ((cs.drop 11).take (Tryz.prog.cellsOf 4)) = some y ∧ Wt Tryz.prog 4 y.1 := hf 7 _ rfl
 rw [oBool] at h7
 obtain ⟨z8, h8, b8⟩ : ∃ y, DataW.trod enc Tryz.prog w 0 (fun _ => true) true n 37 ((cs.drop 12).take (Tryz.prog.cellsOf 37)) = some y ∧ Wt Tryz.prog 37 y.1 := hf 8 _ rfl
 rw [oStrs] at h8
 obtain ⟨v0, e0, w0⟩ := field_str Tryz.underlying9 h0
 obtain ⟨v1, e1, w1⟩ := field_str Tryz.underlying9 h1
 obtain ⟨v2, e2, w2⟩ := field_str Tryz.underlying9 h2
 obtain ⟨v3, e3, w3⟩ := field_str Tryz.underlying9 h3
 obtain ⟨xv, hxv⟩ := val_b (by rw [List.length_take, List.length_drop, hl]; decide) b4 h4
 obtain ⟨r, c, rk, ck, e4, hv⟩ := vr5_of hxv
 have e4_0 := subc (k := 0) (by decide) (show ((cs.drop 4).take 5)[0]? = _ by rw [e4]; rfl)
 have e4_1 := subc (k := 1) (by decide) (show ((cs.drop 4).take 5)[1]? = _ by rw [e4]; rfl)
 have e4_2 := subc (k := 2) (by decide) (show ((cs.drop 4).take 5)[2]? = _ by rw [e4]; rfl)
 have e4_3 := subc (k := 3) (by decide) (show ((cs.drop 4).take 5)[3]? = _ by rw [e4]; rfl)
 have e4_4 := subc (k := 4) (by decide) (show ((cs.drop 4).take 5)[4]? = _ by rw [e4]; rfl)
 obtain ⟨v5, e5, w5⟩ := field_int Tryz.underlying3 h5
 obtain ⟨v6, e6⟩ := field_bool Tryz.underlying4 h6
 obtain ⟨v7, e7⟩ := field_bool Tryz.underlying4 h7
 obtain ⟨v8, xs, e8, S8⟩ := field_sl_w StrR Tryz.underlying37 oStr (by omega) (by omega) (fun f cs y _ _ h => strR_of Tryz.underlying9 f cs y h) b8 h8
 obtain ⟨dr, dc, e8', _⟩ := id S8
 subst e8'
 refine ⟨⟨v0, v1, v2, v3, xv, v5, v6, v7, xs⟩, ⟨r, c, rk, ck, dr, dc⟩, lfit (by rw [hl]; rfl) (fun i hi => ?_), hv, S8, bounds_i64 w5, w0, w1, w2, w3⟩
 match i, hi with
 | 0, _ => exact e0
 | 1, _ => exact e1
 | 2, _ => exact e2
 | 3, _ => exact e3
 | 4, _ => exact e4_0
 | 5, _ => exact e4_1
 | 6, _ => exact e4_2
 | 7, _ => exact e4_3
 | 8, _ => exact e4_4
 | 9, _ => exact e5
 | 10, _ => exact e6
 | 11, _ => exact e7
 | 12, _ => exact e8
 | k + 13, h => exact absurd (show k + 13 < 13 from h) (by omega)
set_option maxRecDepth 100000 in
theorem pnd_b {H : Type} {enc : TypeId × Value → H} {w : World} : ∀ fuel cs (y : DataW H × List MemPlace), cs.length = 3 → Wt Tryz.prog 58 y.1 → DataW.trod enc Tryz.prog w 0 (fun _ => true) true fuel 58 cs = some y → ∃ z, PdR w cs z := by
 intro fuel cs y hl hb h
 obtain ⟨_, n, rfl, hf⟩ := struct_w Tryz.underlying58 hb h
 obtain ⟨z0, h0, b0⟩ : ∃ y, DataW.trod enc Tryz.prog w 0 (fun _ => true) true n 9 ((cs.drop 0).take (Tryz.prog.cellsOf 9)) = some y ∧ Wt Tryz.prog 9 y.1 := hf 0 _ rfl
 rw [oStr] at h0
 obtain ⟨z1, h1, b1⟩ : ∃ y, DataW.trod enc Tryz.prog w 0 (fun _ => true) true n 9 ((cs.drop 1).take (Tryz.prog.cellsOf 9)) = some y ∧ Wt Tryz.prog 9 y.1 := hf 1 _ rfl
 rw [oStr] at h1
 obtain ⟨z2, h2, b2⟩ : ∃ y, DataW.trod enc Tryz.prog w 0 (fun _ => true) true n 9 ((cs.drop 2).take (Tryz.prog.cellsOf 9)) = some y ∧ Wt Tryz.prog 9 y.1 := hf 2 _ rfl
 rw [oStr] at h2
 obtain ⟨v0, e0, w0⟩ := field_str Tryz.underlying9 h0
 obtain ⟨v1, e1, w1⟩ := field_str Tryz.underlying9 h1
 obtain ⟨v2, e2, w2⟩ := field_str Tryz.underlying9 h2
 refine ⟨⟨v0, v1, v2⟩, lfit (by rw [hl]; rfl) (fun i hi => ?_), w0, w1, w2⟩
 match i, hi with
 | 0, _ => exact e0
 | 1, _ => exact e1
 | 2, _ => exact e2
 | k + 3, h => exact absurd (show k + 3 < 3 from h) (by omega)
set_option maxRecDepth 100000 in
theorem sou_b {H : Type} {enc : TypeId × Value → H} {w : World} : ∀ fuel cs (y : DataW H × List MemPlace), cs.length = 7 → Wt Tryz.prog 66 y.1 → DataW.trod enc Tryz.prog w 0 (fun _ => true) true fuel 66 cs = some y → ∃ z, SoR w cs z := by
 intro fuel cs y hl hb h
 obtain ⟨_, n, rfl, hf⟩ := struct_w Tryz.underlying66 hb h
 obtain ⟨z0, h0, b0⟩ : ∃ y, DataW.trod enc Tryz.prog w 0 (fun _ => true) true n 9 ((cs.drop 0).take (Tryz.prog.cellsOf 9)) = some y ∧ Wt Tryz.prog 9 y.1 := hf 0 _ rfl
 rw [oStr] at h0
 obtain ⟨z1, h1, b1⟩ : ∃ y, DataW.trod enc Tryz.prog w 0 (fun _ => true) true n 39 ((cs.drop 1).take (Tryz.prog.cellsOf 39)) = some y ∧ Wt Tryz.prog 39 y.1 := hf 1 _ rfl
 rw [oVal] at h1
 obtain ⟨z2, h2, b2⟩ : ∃ y, DataW.trod enc Tryz.prog w 0 (fun _ => true) true n 4 ((cs.drop 6).take (Tryz.prog.cellsOf 4)) = some y ∧ Wt Tryz.prog 4 y.1 := hf 2 _ rfl
 rw [oBool] at h2
 obtain ⟨v0, e0, w0⟩ := field_str Tryz.underlying9 h0
 obtain ⟨xv, hxv⟩ := val_b (by rw [List.length_take, List.length_drop, hl]; decide) b1 h1
 obtain ⟨r, c, rk, ck, e4, hv⟩ := vr5_of hxv
 have e4_0 := subc (k := 0) (by decide) (show ((cs.drop 1).take 5)[0]? = _ by rw [e4]; rfl)
 have e4_1 := subc (k := 1) (by decide) (show ((cs.drop 1).take 5)[1]? = _ by rw [e4]; rfl)
 have e4_2 := subc (k := 2) (by decide) (show ((cs.drop 1).take 5)[2]? = _ by rw [e4]; rfl)
 have e4_3 := subc (k := 3) (by decide) (show ((cs.drop 1).take 5)[3]? = _ by rw [e4]; rfl)
 have e4_4 := subc (k := 4) (by decide) (show ((cs.drop 1).take 5)[4]? = _ by rw [e4]; rfl)
 obtain ⟨v2, e2⟩ := field_bool Tryz.underlying4 h2
 refine ⟨⟨v0, xv, v2⟩, ⟨⟨v0, xv, v2⟩, r, c, rk, ck⟩, rfl, lfit (by rw [hl]; rfl) (fun i hi => ?_), hv, w0⟩
 match i, hi with
 | 0, _ => exact e0
 | 1, _ => exact e4_0
 | 2, _ => exact e4_1
 | 3, _ => exact e4_2
 | 4, _ => exact e4_3
 | 5, _ => exact e4_4
 | 6, _ => exact e2
 | k + 7, h => exact absurd (show k + 7 < 7 from h) (by omega)
set_option maxRecDepth 100000 in
theorem sta_b {H : Type} {enc : TypeId × Value → H} {w : World} : ∀ fuel cs (y : DataW H × List MemPlace), cs.length = 5 → Wt Tryz.prog 26 y.1 → DataW.trod enc Tryz.prog w 0 (fun _ => true) true fuel 26 cs = some y → ∃ s p, cs = (staA s p).toList ∧ StaP w s p := by
 intro fuel cs y hl hb h
 obtain ⟨_, n, rfl, hf⟩ := struct_w Tryz.underlying26 hb h
 obtain ⟨z0, h0, b0⟩ : ∃ y, DataW.trod enc Tryz.prog w 0 (fun _ => true) true n 9 ((cs.drop 0).take (Tryz.prog.cellsOf 9)) = some y ∧ Wt Tryz.prog 9 y.1 := hf 0 _ rfl
 rw [oStr] at h0
 obtain ⟨z1, h1, b1⟩ : ∃ y, DataW.trod enc Tryz.prog w 0 (fun _ => true) true n 3 ((cs.drop 1).take (Tryz.prog.cellsOf 3)) = some y ∧ Wt Tryz.prog 3 y.1 := hf 1 _ rfl
 rw [oInt] at h1
 obtain ⟨z2, h2, b2⟩ : ∃ y, DataW.trod enc Tryz.prog w 0 (fun _ => true) true n 22 ((cs.drop 2).take (Tryz.prog.cellsOf 22)) = some y ∧ Wt Tryz.prog 22 y.1 := hf 2 _ rfl
 rw [oIns] at h2
 obtain ⟨z3, h3, b3⟩ : ∃ y, DataW.trod enc Tryz.prog w 0 (fun _ => true) true n 23 ((cs.drop 3).take (Tryz.prog.cellsOf 23)) = some y ∧ Wt Tryz.prog 23 y.1 := hf 3 _ rfl
 rw [oPen] at h3
 obtain ⟨z4, h4, b4⟩ : ∃ y, DataW.trod enc Tryz.prog w 0 (fun _ => true) true n 24 ((cs.drop 4).take (Tryz.prog.cellsOf 24)) = some y ∧ Wt Tryz.prog 24 y.1 := hf 4 _ rfl
 rw [oOut] at h4
 obtain ⟨v0, e0, w0⟩ := field_str Tryz.underlying9 h0
 obtain ⟨v1, e1, w1⟩ := field_int Tryz.underlying3 h1
 obtain ⟨v2, xs, e2, S2⟩ := field_sl_w InR Tryz.underlying22 oI (by omega) (by omega) (fun f cs y hl hb h => ins_b f cs y hl hb h) b2 h2
 obtain ⟨v3, ps, e3, S3⟩ := field_sl_w PdR Tryz.underlying23 oP (by omega) (by omega) (fun f cs y hl hb h => pnd_b f cs y hl hb h) b3 h3
 obtain ⟨v4, os, e4, S4⟩ := field_sl_w SoR Tryz.underlying24 oO (by omega) (by omega) (fun f cs y hl hb h => sou_b f cs y hl hb h) b4 h4
 obtain ⟨ri, ci, rfl, _⟩ := id S2
 obtain ⟨rp, cp, rfl, _⟩ := id S3
 obtain ⟨ro, co, rfl, _⟩ := id S4
 refine ⟨⟨v0, v1, xs, ps, os⟩, ⟨ri, ci, rp, cp, ro, co⟩, lfit (by rw [hl]; rfl) (fun i hi => ?_), S2, S3, S4, bounds_i64 w1, w0⟩
 match i, hi with
 | 0, _ => exact e0
 | 1, _ => exact e1
 | 2, _ => exact e2
 | 3, _ => exact e3
 | 4, _ => exact e4
 | k + 5, h => exact absurd (show k + 5 < 5 from h) (by omega)
end Go.Proofs.YtomhbcfjhgecbaaGreatDoor.Opw
namespace Go.Proofs.YtomhbcfjhgecbaaGreatDoor
open Go.RowKit Go.Sort Go.ChangeShapes Go.WideShapes Go.ChangeAt
open Adr (WT)
set_option maxRecDepth 100000 in
theorem state_arg {H : Type} {enc : TypeId × Value → H} {W : World} {base : Nat} {v : Value} {d : DataW H} {p : List MemPlace} (o : Value.okWide Tryz.prog W .any base 26 v) (h : DataW.Trod enc Tryz.prog W 0 (fun _ => true) true 26 v d p) (hw : Wt Tryz.prog 26 d) :
   ∃ s sp, v = .agg (staA s sp) ∧ StaP W s sp := by
 obtain ⟨cs, rfl, hsz⟩ := okWide_struct Tryz.underlying26 o
 obtain ⟨fuel, hf⟩ := h
 have hc : Tryz.prog.cellsOf 26 = 5 := by kernel_rfl
 have hcs : (Value.agg cs).cells = cs := rfl
 rw [hcs] at hf
 obtain ⟨s, sp, h1, h2⟩ := Opw.sta_b fuel cs.toList (d, p) (by simpa [hc] using hsz) hw hf
 refine ⟨s, sp, ?_, h2⟩
 rw [← Array.toArray_toList (xs := cs), h1, Array.toArray_toList]
set_option maxRecDepth 100000 in
theorem equal_from (H : Type) (enc : TypeId × Value → H) (W : World) (base : Nat) (v0 v1 : Value) (d0 d1 : DataW H) (p0 p1 : List MemPlace) (o0 : Value.okWide Tryz.prog W .any base 26 v0) (o1 : Value.okWide Tryz.prog W .any base 26 v1)
   (h0 : DataW.Trod enc Tryz.prog W 0 (fun _ => true) true 26 v0 d0 p0) (h1 : DataW.Trod enc Tryz.prog W 0 (fun _ => true) true 26 v1 d1 p1) (q0 : Wt Tryz.prog 26 d0) (q1 : Wt Tryz.prog 26 d1) (hu : WT W) :
   Calls Tryz.prog 4 #[v0, v1] W fun e W' => e = .returned (.bool true) ∧ Below W.heap.size W W' := by
 obtain ⟨s, p, rfl, hs⟩ := state_arg o0 h0 q0
 obtain ⟨t, q, rfl, ht⟩ := state_arg o1 h1 q1
 exact lequal_any s t p q W hu hs ht
end Go.Proofs.YtomhbcfjhgecbaaGreatDoor
namespace Go.Proofs
open Go.Shelf
def Tryz.lays260_ren : Go.Shelf.Ren := ⟨fun | 260 => 216 | n => n, fun | 9 => 9 | 21 => 21 | 3 => 3 | 4 => 4 | 5 => 5 | 119 => 183 | 0 => 0 | 46 => 137 | 139 => 186 | 138 => 185 | n => n, fun | 3 => 0 | 4 => 1 | n => n⟩
theorem Tryz.lays260 : Go.Proofs.Lays.n260 Tryz.prog Tryz.lays260_ren := {
 mixed := by kernel_rfl
 f260 := Tryz.func216.trans (congrArg some (by kernel_rfl))
 t0 := Tryz.underlying0
 a0 := Tryz.isAgg0
 z0 := Tryz.sizeOf0
 v0 := Tryz.zeroValue0
 t3 := Tryz.underlying3
 a3 := Tryz.isAgg3
 z3 := Tryz.sizeOf3
 v3 := Tryz.zeroValue3
 t4 := Tryz.underlying4
 a4 := Tryz.isAgg4
 z4 := Tryz.sizeOf4
 v4 := Tryz.zeroValue4
 t5 := Tryz.underlying5
 a5 := Tryz.isAgg5
 z5 := Tryz.sizeOf5
 v5 := Tryz.zeroValue5
 t9 := Tryz.underlying9
 a9 := Tryz.isAgg9
 z9 := Tryz.sizeOf9
 v9 := Tryz.zeroValue9
 t21 := Tryz.underlying21
 a21 := Tryz.isAgg21
 z21 := Tryz.sizeOf21
 v21 := Tryz.zeroValue21
 t46 := Tryz.underlying137
 a46 := Tryz.isAgg137
 z46 := Tryz.sizeOf137
 v46 := Tryz.zeroValue137
 t119 := Tryz.underlying183
 a119 := Tryz.isAgg183
 z119 := Tryz.sizeOf183
 t138 := Tryz.underlying185
 a138 := Tryz.isAgg185
 z138 := Tryz.sizeOf185
 v138 := Tryz.zeroValue185
 t139 := Tryz.underlying186
 a139 := Tryz.isAgg186
 z139 := Tryz.sizeOf186
 v139 := Tryz.zeroValue186
 g3 := by kernel_rfl
 g4 := by kernel_rfl }
end Go.Proofs
