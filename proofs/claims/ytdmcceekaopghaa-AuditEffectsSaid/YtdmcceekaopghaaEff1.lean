/-
  Contracts of the closures and helpers of audit.Effects. Conditions: those ahead of each theorem.
-/
import Derived.Test.YtdmcceekaopghaaOwned
import Derived.Test.YtdmcceekaopghaaHas
namespace Go.Proofs.Ytdmcceekaopghaa
open Go.RowKit Go.Sort Go.Lib
open Go.Lib (hid)

def pCur (addr id : ByteArray) (x : In) : Bool := (eqS x.addr addr && x.dep.toList.isEmpty) && eqS x.id id
def pRec (id : ByteArray) (x : In) : Bool := eqS x.id id
def pKep (addr id : ByteArray) (x : In) : Bool := eqS x.id id && eqS x.addr addr

theorem enters66 : ∀ args w, (callFunc 66 args).run Try.prog w = .ok (.enter 66 args) w := enters_of Try.func66 (by kernel_rfl) rfl
theorem enters67 : ∀ args w, (callFunc 67 args).run Try.prog w = .ok (.enter 67 args) w := enters_of Try.func67 (by kernel_rfl) rfl
theorem enters54 : ∀ args w, (callFunc 54 args).run Try.prog w = .ok (.enter 54 args) w := enters_of Try.func54 (by kernel_rfl) rfl

theorem clo66 (V U : Nat) (addr id : ByteArray) (w0 : World) (hc : w0.cell? ⟨V, 0, none⟩ = some (.string addr)) (hd : w0.cell? ⟨U, 0, none⟩ = some (.string id)) : ∀ (W : World) (x : In), Below w0.heap.size w0 W →
    Calls Try.prog 66 (#[.agg x.cells.toArray] ++ #[.pointer (some ⟨V, 0, none⟩), .pointer (some ⟨U, 0, none⟩)]) W fun e w' => e = .returned (.bool (pCur addr id x)) ∧ Below w0.heap.size w0 w' := by
  intro W x hb
  obtain ⟨ya, yd, yid, yt, ⟨yk, yn, ys, yi, ye⟩, yv, yta, ycf, yde⟩ := x
  have hW := bget hb hc
  have hU := bget hb hd
  have hV1 := World.block_lt_of_cell? _ _ hW
  have hU1 := World.block_lt_of_cell? _ _ hU
  simp at hV1 hU1
  have HB := Lib.hid (show Below w0.heap.size w0 (W.alloc (.cells #[.string ya, .string yd, .string yid, .string yt, .int .i64 yk, .int .i64 yn, .string ys, yi.val, ye.val, .int .i64 yv, .bool yta, .bool ycf, yde.val] 55)) from hb.alloc hb.size _)
  have hX := Lib.hid (show pCur addr id ⟨ya, yd, yid, yt, ⟨yk, yn, ys, yi, ye⟩, yv, yta, ycf, yde⟩ = (((ya.toList == addr.toList) && yd.toList.isEmpty) && (yid.toList == id.toList)) from rfl)
  clear hb hc hd
  simp only [In.cells]
  show Calls Try.prog 66 #[.agg #[.string ya, .string yd, .string yid, .string yt, .int .i64 yk, .int .i64 yn, .string ys, yi.val, ye.val, .int .i64 yv, .bool yta, .bool ycf, yde.val], .pointer (some ⟨V, 0, none⟩), .pointer (some ⟨U, 0, none⟩)] W _
  rw [hX.out]
  clear hX
  generalize yi.val = iv at *
  generalize ye.val = ev at *
  generalize yde.val = dv at *
  cases h1 : (ya.toList == addr.toList)
  · go_enter Try.func66, Try.ntmps66
    go_wp2
    go_ret
    exact ⟨rfl, HB.out⟩
  · cases h2 : yd.toList.isEmpty
    · go_enter Try.func66, Try.ntmps66
      go_wp2
      go_ret
      exact ⟨rfl, HB.out⟩
    · cases h3 : (yid.toList == id.toList)
      all_goals
        go_enter Try.func66, Try.ntmps66
        go_wp2
        go_ret
        exact ⟨rfl, HB.out⟩

theorem clo54 (V : Nat) (addr id : ByteArray) (w0 : World) (hc : w0.cell? ⟨V, 0, none⟩ = some (.string addr)) (hd : w0.cell? ⟨V, 2, none⟩ = some (.string id)) : ∀ (W : World) (x : In), Below w0.heap.size w0 W →
    Calls Try.prog 54 (#[.agg x.cells.toArray] ++ #[.pointer (some ⟨V, 0, none⟩)]) W fun e w' => e = .returned (.bool (pKep addr id x)) ∧ Below w0.heap.size w0 w' := by
  intro W x hb
  obtain ⟨ya, yd, yid, yt, ⟨yk, yn, ys, yi, ye⟩, yv, yta, ycf, yde⟩ := x
  have hW := bget hb hc
  have hU := bget hb hd
  have hV1 := World.block_lt_of_cell? _ _ hW
  simp at hV1
  have HB := Lib.hid (show Below w0.heap.size w0 (W.alloc (.cells #[.string ya, .string yd, .string yid, .string yt, .int .i64 yk, .int .i64 yn, .string ys, yi.val, ye.val, .int .i64 yv, .bool yta, .bool ycf, yde.val] 55)) from hb.alloc hb.size _)
  have hX := Lib.hid (show pKep addr id ⟨ya, yd, yid, yt, ⟨yk, yn, ys, yi, ye⟩, yv, yta, ycf, yde⟩ = ((yid.toList == id.toList) && (ya.toList == addr.toList)) from rfl)
  clear hb hc hd
  simp only [In.cells]
  show Calls Try.prog 54 #[.agg #[.string ya, .string yd, .string yid, .string yt, .int .i64 yk, .int .i64 yn, .string ys, yi.val, ye.val, .int .i64 yv, .bool yta, .bool ycf, yde.val], .pointer (some ⟨V, 0, none⟩)] W _
  rw [hX.out]
  clear hX
  generalize yi.val = iv at *
  generalize ye.val = ev at *
  generalize yde.val = dv at *
  cases h1 : (yid.toList == id.toList)
  · go_enter Try.func54, Try.ntmps54
    go_wp2
    go_ret
    exact ⟨rfl, HB.out⟩
  · cases h3 : (ya.toList == addr.toList)
    all_goals
      go_enter Try.func54, Try.ntmps54
      go_wp2
      go_ret
      exact ⟨rfl, HB.out⟩

theorem clo67 (V : Nat) (id : ByteArray) (w0 : World) (hc : w0.cell? ⟨V, 0, none⟩ = some (.string id)) : ∀ (W : World) (x : In), Below w0.heap.size w0 W →
    Calls Try.prog 67 (#[.agg x.cells.toArray] ++ #[.pointer (some ⟨V, 0, none⟩)]) W fun e w' => e = .returned (.bool (pRec id x)) ∧ Below w0.heap.size w0 w' := by
  intro W x hb
  obtain ⟨ya, yd, yid, yt, ⟨yk, yn, ys, yi, ye⟩, yv, yta, ycf, yde⟩ := x
  have hW := bget hb hc
  have hV1 := World.block_lt_of_cell? _ _ hW
  simp at hV1
  have HB := Lib.hid (show Below w0.heap.size w0 (W.alloc (.cells #[.string ya, .string yd, .string yid, .string yt, .int .i64 yk, .int .i64 yn, .string ys, yi.val, ye.val, .int .i64 yv, .bool yta, .bool ycf, yde.val] 55)) from hb.alloc hb.size _)
  have hX := Lib.hid (show pRec id ⟨ya, yd, yid, yt, ⟨yk, yn, ys, yi, ye⟩, yv, yta, ycf, yde⟩ = (yid.toList == id.toList) from rfl)
  clear hb hc
  simp only [In.cells]
  show Calls Try.prog 67 #[.agg #[.string ya, .string yd, .string yid, .string yt, .int .i64 yk, .int .i64 yn, .string ys, yi.val, ye.val, .int .i64 yv, .bool yta, .bool ycf, yde.val], .pointer (some ⟨V, 0, none⟩)] W _
  generalize yi.val = iv at *
  generalize ye.val = ev at *
  generalize yde.val = dv at *
  go_enter Try.func67, Try.ntmps67
  go_wp2
  go_ret
  exact ⟨ret_bool hX.out, HB.out⟩

theorem cell_new (W : World) (v : Value) (T b : Nat) (hb : b = W.heap.size) : (W.alloc (.cells #[v] T)).cell? ⟨b, 0, none⟩ = some v := by subst hb; simp
theorem cell_mid (W : World) (v : Value) (T b : Nat) (o : Obj) (hb : b = W.heap.size) : ((W.alloc (.cells #[v] T)).alloc o).cell? ⟨b, 0, none⟩ = some v := by
  subst hb
  exact bget ((Below.refl _ _).alloc (Nat.le_refl _) _) (cell_new W v T _ rfl)

theorem current_any (lin : ByteArray) (ser : Int) (vI vP vO : Value) (is : List In) (addr id : ByteArray) (w : World) (hI : Sl InR 13 w vI is) (hP : ∃ r n c, vP = .slice r n c) (hO : ∃ r n c, vO = .slice r n c) :
    Calls Try.prog 51 #[.agg #[.string lin, .int .i64 ser, vI, vP, vO], .string addr, .string id] w fun r w' => r = .returned (.bool (is.any (pCur addr id))) ∧ Below w.heap.size w w' := by
  obtain ⟨rP, nP, cP, rfl⟩ := hP
  obtain ⟨rO, nO, cO, rfl⟩ := hO
  have HI := Lib.hid hI
  obtain ⟨r, c, rfl, _⟩ := hI
  have hb : Below w.heap.size w (((w.alloc (.cells #[.string lin, .int .i64 ser, .slice r is.length c, .slice rP nP cP, .slice rO nO cO] 42)).alloc (.cells #[.string addr] 9)).alloc (.cells #[.string id] 9)) := (((Below.refl _ _).alloc (Nat.le_refl _) _).alloc (by simp) _).alloc (by simp; omega) _
  have HB := Lib.hid hb
  have HC := Lib.hid (contains_ins (pCur addr id) 66 #[.pointer (some ⟨w.heap.size + 1, 0, none⟩), .pointer (some ⟨w.heap.size + 1 + 1, 0, none⟩)] enters66 (.slice r is.length c) is _ (HI.out.below inR_mono hb) (clo66 (w.heap.size + 1) (w.heap.size + 1 + 1) addr id (((w.alloc (.cells #[.string lin, .int .i64 ser, .slice r is.length c, .slice rP nP cP, .slice rO nO cO] 42)).alloc (.cells #[.string addr] 9)).alloc (.cells #[.string id] 9)) (cell_mid _ _ _ _ _ (by simp)) (cell_new _ _ _ _ (by simp))))
  clear hb
  go_enter Try.func51, Try.ntmps51
  go_wp2_with fail
  refine HC.out.mono ?_
  rintro e w' ⟨rfl, hb'⟩
  have H2 := Lib.hid (HB.out.trans (hb'.mono HB.out.size))
  clear hb'
  go_wp2
  go_ret
  exact ⟨rfl, H2.out⟩

theorem records_any (lin : ByteArray) (ser : Int) (vI vP vO : Value) (is : List In) (id : ByteArray) (w : World) (hI : Sl InR 13 w vI is) (hP : ∃ r n c, vP = .slice r n c) (hO : ∃ r n c, vO = .slice r n c) :
    Calls Try.prog 52 #[.agg #[.string lin, .int .i64 ser, vI, vP, vO], .string id] w fun r w' => r = .returned (.bool (is.any (pRec id))) ∧ Below w.heap.size w w' := by
  obtain ⟨rP, nP, cP, rfl⟩ := hP
  obtain ⟨rO, nO, cO, rfl⟩ := hO
  have HI := Lib.hid hI
  obtain ⟨r, c, rfl, _⟩ := hI
  have hb : Below w.heap.size w ((w.alloc (.cells #[.string lin, .int .i64 ser, .slice r is.length c, .slice rP nP cP, .slice rO nO cO] 42)).alloc (.cells #[.string id] 9)) := ((Below.refl _ _).alloc (Nat.le_refl _) _).alloc (by simp) _
  have HB := Lib.hid hb
  have HC := Lib.hid (contains_ins (pRec id) 67 #[.pointer (some ⟨w.heap.size + 1, 0, none⟩)] enters67 (.slice r is.length c) is _ (HI.out.below inR_mono hb) (clo67 (w.heap.size + 1) id ((w.alloc (.cells #[.string lin, .int .i64 ser, .slice r is.length c, .slice rP nP cP, .slice rO nO cO] 42)).alloc (.cells #[.string id] 9)) (by simp)))
  clear hb
  go_enter Try.func52, Try.ntmps52
  go_wp2_with fail
  refine HC.out.mono ?_
  rintro e w' ⟨rfl, hb'⟩
  have H2 := Lib.hid (HB.out.trans (hb'.mono HB.out.size))
  clear hb'
  go_wp2
  go_ret
  exact ⟨rfl, H2.out⟩

def effB (op : Int) (addr id : ByteArray) (b a : List In) : Bool :=
  if op = 1 then a.any (pCur addr id) else if op = 2 then b.any (pCur addr id) && a.any (pCur addr id) else if op = 3 then b.any (pRec id) && !(a.any (pRec id)) else true

set_option maxHeartbeats 1000000 in
theorem effect_any (lin lin2 : ByteArray) (ser ser2 : Int) (vI vP vO vI2 vP2 vO2 : Value) (b a : List In) (addr id : ByteArray) (op : Int) (w : World) (hI : Sl InR 13 w vI b) (hP : ∃ r n c, vP = .slice r n c) (hO : ∃ r n c, vO = .slice r n c)
    (hI2 : Sl InR 13 w vI2 a) (hP2 : ∃ r n c, vP2 = .slice r n c) (hO2 : ∃ r n c, vO2 = .slice r n c) :
    Calls Try.prog 37 #[.string addr, .int .i64 op, .string id, .agg #[.string lin, .int .i64 ser, vI, vP, vO], .agg #[.string lin2, .int .i64 ser2, vI2, vP2, vO2]] w fun r w' => r = .returned (.bool (effB op addr id b a)) ∧ Below w.heap.size w w' := by
  have KP := Lib.hid hP
  have KO := Lib.hid hO
  have KP2 := Lib.hid hP2
  have KO2 := Lib.hid hO2
  obtain ⟨rP, nP, cP, rfl⟩ := hP
  obtain ⟨rO, nO, cO, rfl⟩ := hO
  obtain ⟨rP2, nP2, cP2, rfl⟩ := hP2
  obtain ⟨rO2, nO2, cO2, rfl⟩ := hO2
  have HI := Lib.hid hI
  have HI2 := Lib.hid hI2
  obtain ⟨r, c, rfl, _⟩ := hI
  obtain ⟨r2, c2, rfl, _⟩ := hI2
  have hb : Below w.heap.size w ((w.alloc (.cells #[.string lin, .int .i64 ser, .slice r b.length c, .slice rP nP cP, .slice rO nO cO] 42)).alloc (.cells #[.string lin2, .int .i64 ser2, .slice r2 a.length c2, .slice rP2 nP2 cP2, .slice rO2 nO2 cO2] 42)) := ((Below.refl _ _).alloc (Nat.le_refl _) _).alloc (by simp) _
  have HB := Lib.hid hb
  clear hb
  by_cases h1 : op = 1
  · subst h1
    have HX := Lib.hid (show effB 1 addr id b a = a.any (pCur addr id) by simp [effB])
    go_enter Try.func37, Try.ntmps37
    go_wp2_with fail
    refine (current_any lin2 ser2 _ _ _ a addr id _ (HI2.out.below inR_mono HB.out) KP2.out KO2.out).mono ?_
    rintro e w' ⟨rfl, hb'⟩
    have H2 := Lib.hid (HB.out.trans (hb'.mono HB.out.size))
    clear hb'
    go_wp2
    go_ret
    exact ⟨ret_bool HX.out, H2.out⟩
  by_cases h2 : op = 2
  · subst h2
    cases hq : b.any (pCur addr id)
    · have HX := Lib.hid (show effB 2 addr id b a = false by simp [effB, hq])
      have HQ := Lib.hid hq
      clear hq
      go_enter Try.func37, Try.ntmps37
      go_wp2_with fail
      refine (current_any lin ser _ _ _ b addr id _ (HI.out.below inR_mono HB.out) KP.out KO.out).mono ?_
      rintro e w' ⟨rfl, hb'⟩
      have H2 := Lib.hid (HB.out.trans (hb'.mono HB.out.size))
      clear hb'
      rw [HQ.out]
      go_wp2
      go_ret
      exact ⟨ret_bool HX.out, H2.out⟩
    · have HX := Lib.hid (show effB 2 addr id b a = a.any (pCur addr id) by simp [effB, hq])
      have HQ := Lib.hid hq
      clear hq
      go_enter Try.func37, Try.ntmps37
      go_wp2_with fail
      refine (current_any lin ser _ _ _ b addr id _ (HI.out.below inR_mono HB.out) KP.out KO.out).mono ?_
      rintro e w' ⟨rfl, hb'⟩
      have H2 := Lib.hid (HB.out.trans (hb'.mono HB.out.size))
      obtain ⟨hc, hf⟩ := bcellB hb'
      have hz := hb'.size
      simp at hz
      clear hb'
      rw [HQ.out]
      go_wp2_with fail
      refine (current_any lin2 ser2 _ _ _ a addr id _ (HI2.out.below inR_mono H2.out) KP2.out KO2.out).mono ?_
      rintro e w'' ⟨rfl, hb'⟩
      have H3 := Lib.hid (H2.out.trans (hb'.mono H2.out.size))
      clear hb'
      go_wp2
      go_ret
      exact ⟨ret_bool HX.out, H3.out⟩
  by_cases h3 : op = 3
  · subst h3
    cases hq : b.any (pRec id)
    · have HX := Lib.hid (show effB 3 addr id b a = false by simp [effB, hq])
      have HQ := Lib.hid hq
      clear hq
      go_enter Try.func37, Try.ntmps37
      go_wp2_with fail
      refine (records_any lin ser _ _ _ b id _ (HI.out.below inR_mono HB.out) KP.out KO.out).mono ?_
      rintro e w' ⟨rfl, hb'⟩
      have H2 := Lib.hid (HB.out.trans (hb'.mono HB.out.size))
      clear hb'
      rw [HQ.out]
      go_wp2
      go_ret
      exact ⟨ret_bool HX.out, H2.out⟩
    · have HX := Lib.hid (show effB 3 addr id b a = !(a.any (pRec id)) by simp [effB, hq])
      have HQ := Lib.hid hq
      clear hq
      go_enter Try.func37, Try.ntmps37
      go_wp2_with fail
      refine (records_any lin ser _ _ _ b id _ (HI.out.below inR_mono HB.out) KP.out KO.out).mono ?_
      rintro e w' ⟨rfl, hb'⟩
      have H2 := Lib.hid (HB.out.trans (hb'.mono HB.out.size))
      obtain ⟨hc, hf⟩ := bcellB hb'
      have hz := hb'.size
      simp at hz
      clear hb'
      rw [HQ.out]
      go_wp2_with fail
      refine (records_any lin2 ser2 _ _ _ a id _ (HI2.out.below inR_mono H2.out) KP2.out KO2.out).mono ?_
      rintro e w'' ⟨rfl, hb'⟩
      have H3 := Lib.hid (H2.out.trans (hb'.mono H2.out.size))
      clear hb'
      go_wp2
      go_ret
      exact ⟨ret_bool HX.out, H3.out⟩
  · have HX := Lib.hid (show effB op addr id b a = true by simp [effB, h1, h2, h3])
    have e1 : (op == 1) = false := by simpa using h1
    have e2 : (op == 2) = false := by simpa using h2
    have e3 : (op == 3) = false := by simpa using h3
    clear h1 h2 h3
    go_enter Try.func37, Try.ntmps37
    go_wp2
    go_ret
    exact ⟨ret_bool HX.out, HB.out⟩
end Go.Proofs.Ytdmcceekaopghaa
