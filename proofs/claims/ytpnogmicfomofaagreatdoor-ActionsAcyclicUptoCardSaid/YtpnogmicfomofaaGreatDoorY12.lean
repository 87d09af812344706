import Derived.Test.YtpnogmicfomofaaGreatDoorY11
set_option linter.unusedVariables false
set_option linter.unusedSimpArgs false
namespace Go.Proofs.YtpnogmicfomofaaGreatDoor.Stp
open Go.RowKit Go.Sort Go.Lib Go.Maps
open Go.Lib (hid)
open Adr (WT)
attribute [local go_sem ↓] ldC_eq
attribute [local go_sem] ldC_run
attribute [local go_sem ↓] stC_eq
attribute [local go_sem] stC_run there_drew there_new there_past put22_drew put22_new put22_past lies_new rd22_new lies_drew rd22_drew lies_drewN rd22_drewN
def NeP (cs : List Ch) (w : World) (e : Ending) (w' : World) : Prop := ∃ M sn, e = .returned (.slice (some ⟨M, 0, none⟩) cs.length cs.length) /\ Mk M cs.length sn w' /\ Clo cs (fun k => hasN k sn) /\ Below w.heap.size w w'
theorem resB_size {a : ByteArray} (h : a.size <= 1000000) : (resB a).size <= maxLen := by
 unfold resB
 by_cases h0 : Adr.prE a.data.toList = 0
 . rw [if_pos h0]
   obtain ⟨xs, d, ty, nm, k, ha⟩ := Adr.addr_of h0;rw [Adr.stcB_ok ha h0];have h1 := Adr.pre_len (xs := xs.map Adr.barM) fun x hx => (ha.bare.2 x hx).1;have h2 := Adr.id_len ha.nm
   have h3 : Adr.idB ty = true := by
    have := ha.ty;unfold Adr.kdB at this;rw [Bool.and_eq_true] at this;exact this.1
   have h3 := Adr.id_len h3;have h4 := ha.len;have h5 : (if d = true then Adr.DATP else []).length <= 10 := by cases d <;> simp [Adr.DATP]
   show (Adr.fmtB (xs.map Adr.barM) d ty nm).toArray.size <= maxLen;unfold Adr.fmtB;rw [List.length_map] at h1;simp only [List.size_toArray, List.length_append];simp only [List.length_cons, List.length_nil];unfold maxLen;omega
 . rw [if_neg h0]
   unfold maxLen; omega
set_option maxRecDepth 100000 in
set_option maxHeartbeats 40000000 in
theorem needed_any (rc : Option Addr) (cc : Nat) (cs : List Ch) (w : World) (hT : WT w) (hS : Sl ChR 22 w (.slice rc cs.length cc) cs) (hn : cs.length <= 60) (had : ∀ c ∈ cs, c.addr.size <= 1000000) (hdp : ∀ c ∈ cs, c.deps.length + c.old.length <= 900000) :
  Calls Tryz.prog 55 #[.slice rc cs.length cc] w (NeP cs w) := by
 obtain ⟨i0, hi, hz0, hz1, hz2⟩ := info_parts boolinfo;obtain ⟨C, hC, hCc, hmk⟩ := make_fact (P := Tryz.prog) Tryz.underlying82 hi hz0 hz1 hz2 rfl cs.length (by omega) (by omega);have HCC := hid hCc;have HCH := hid (fun (W : World) (hW : Below w.heap.size w W) => ch_at (hS.below chR_mono hW));have HT := hid hT;have HAD := hid had;have HDP := hid hdp;have HL60 := hid hn;have hmm := fun (W : World) => run_makeMap (P := Tryz.prog) 134 W;have T := strT (P := Tryz.prog) (k := 9) Tryz.underlying9;clear hCc hC hi hz0 hz1 hz2 hS hT had hdp;have HG0 := hid (GrJ.start w (w.heap.size + 1) (by omega));have HB0 := hid (show Below w.heap.size w (w.alloc (.map #[] 0)) from (Below.refl _ _).alloc (Nat.le_refl _) _);have HZ0 := hid (show w.heap.size + 1 <= (w.alloc (.map #[] 0)).heap.size by simp);have HO0 := hid ((ownI_nil (w.heap.size + 1) (w.alloc (.map #[] 0))).toJ);unfold NeP;go_enter Tryz.func55, Tryz.ntmps55;go_wp2_with fail
 generalize w.alloc (.map #[] 0) = W0 at *;go_loopg [4, 17] cs.length (fun gg s4 s17 wr => ∃ k : Nat, k <= cs.length /\ cs.length - k <= gg /\ s17 = .int .i64 k /\ Hid (Below w.heap.size w wr) /\ Hid (w.heap.size + 1 <= wr.heap.size) /\ Hid (∃ nn, nn <= k /\ GrJ (w.heap.size + 1) wr w.heap.size nn (atN cs k) s4) /\ Hid (OwnJ (w.heap.size + 1) wr s4 ((cfN cs k).map Nat.cast)))
 case atStart => exact ⟨0, by omega, by omega, rfl, HB0, HZ0, hid ⟨0, Nat.le_refl _, HG0.out⟩, HO0⟩
 case round =>
  clear HB0 HZ0 HG0 HO0;obtain ⟨k, hk, hgg, rfl, HB, HZ, HG, HO⟩ := hrel
  by_cases hlt : k < cs.length
  . obtain ⟨cb, coff, x, rfl, hcb, hcell, hx⟩ := HCH.out wr HB.out k hlt
    have HX22 := cells22 x;obtain ⟨l1, l2⟩ := lies_of HX22 hcell;have hkk : (0 : Int) <= (k : Int) := by omega
    have hkk2 : (k : Int) < (cs.length : Int) := by omega
    have hxs : x.ad.size <= 1000000 := by rw [hx.1]; exact HAD.out _ (List.getElem_mem hlt)
    have HRX := hid (fun (W : World) (hW : WT W) => lresource_any x W hW hxs);have HRZ := hid (resB_size hxs);have HAT := hid (fun z => show atN cs (k + 1) z = if resB x.ad = z then atN cs k z ++ [k] else atN cs k z by rw [atN_succ hlt, hx.1]);have HCF := hid (show cfN cs (k + 1) = if cfB cs[k] = true then cfN cs k ++ [k] else cfN cs k from cfN_succ hlt);have HCB := hid (show cfB cs[k] = (decide (x.ac = 3) && x.cf) by rw [hx.2.1, hx.2.2.1]; rfl);have hx3 : x.arr[3]? = some (.int .i64 x.ac) := rfl;have hx17 : x.arr[17]? = some (.bool x.cf) := rfl;have HX1 := hid (And.intro (lies_new wr x.arr 31 _ rfl HX22) (rd22_new wr x.arr 31 _ rfl HX22));have HB1 := hid (HB.out.alloc HB.out.size (.cells x.arr 31));have HW1 := hid (show Below wr.heap.size wr (wr.alloc (.cells x.arr 31)) from (Below.refl _ _).alloc (Nat.le_refl _) _);have HC3 := hid (show (wr.alloc (.cells x.arr 31)).cell? ⟨wr.heap.size, 3, none⟩ = some (.int .i64 x.ac) from cell_at rfl hx3);have HC17 := hid (show (wr.alloc (.cells x.arr 31)).cell? ⟨wr.heap.size, 17, none⟩ = some (.bool x.cf) from cell_at rfl hx17);have HS1 := hid (show (wr.alloc (.cells x.arr 31)).heap.size = wr.heap.size + 1 by simp);clear hcell hx hxs hx3 hx17;generalize resB x.ad = RS at *;generalize x.arr = X at *;generalize cfB cs[k] = CB at *;generalize x.ac = ac at *;generalize x.cf = cf at *;obtain ⟨nn, hnn, hgr⟩ := HG.out;have HNN := hid hnn;have HGR := hid hgr;clear hnn hgr HG;obtain ⟨rv, cv, hv4, hv41, hv42⟩ := HO.out.form;rw [List.length_map] at hv4 hv41;subst hv4;obtain ⟨cm, f, h1, h2, h3, h4⟩ := HGR.out.ex;obtain ⟨r3, c3, hv, hv1, hv2⟩ := (h2 RS).form;rw [List.length_map] at hv hv1;have HF1w := hid h1;have HF2w := hid h2;have HF3 := hid h3;have HF4 := hid h4;have HV := hid hv;have HHV := hid (And.intro hv1 hv2);clear h1 h2 h3 h4 hv hv1 hv2
    go_upto_region 8 with (first
     | (go_at_call 82
        refine (HRX.out _ (HT.out.below HB1.out)).mono ?_;rintro e w2 ⟨rfl, hb2⟩;have HB2 := hid (HB1.out.trans (hb2.mono HB1.out.size));have HW2 := hid (HW1.out.trans (hb2.mono HW1.out.size));have HC32 := hid (bget hb2 HC3.out);have HC172 := hid (bget hb2 HC17.out);have HS2 := hid (show wr.heap.size + 1 <= w2.heap.size by rw [<- HS1.out]; exact hb2.size);have HO2 := hid (HO.out.below HW2.out);have HF1 := hid (ownF_below HF1w.out HW2.out);have HF2 := hid (fun x => (HF2w.out x).below HW2.out);have HOW := hid (show OwnI (w.heap.size + 1) (w2.alloc (.cells #[.int .i64 (k : Int)] 3)) (.slice r3 (atN cs k RS).length c3) ((atN cs k RS).map Nat.cast) from by rw [<- HV.out]; exact (HF2.out RS).below ((Below.refl _ _).alloc (Nat.le_refl _) _));have HF1b := hid (ownF_below HF1.out ((Below.refl w2.heap.size w2).alloc (Nat.le_refl _) (.cells #[.int .i64 (k : Int)] 3)));have HAL := hid (show (atN cs k RS).length <= k from atN_len cs k RS);have HZ2 := hid (show w.heap.size + 1 <= w2.heap.size by have := HZ.out; have := HW2.out.size; omega);clear hb2)
     | (refine wpList_look _ rfl _ _ _ rfl T Tryz.underlying134 (zslJ _) w.heap.size nn cm f (by rfl) HF1.out RS (by rfl) HRZ.out ?_
        rw [HV.out])
     | (at_builtin
        refine app_int rfl _ _ rfl (w.heap.size + 1) _ ((atN cs k RS).map Nat.cast) rfl HOW.out w2.heap.size 1 (k : Int) rfl (fr := (0, 0)) (by exact (MapKept.heap_alloc w2 _).1) (ib_nat (by omega)) (by rw [List.length_map]; have := HAL.out; omega) (by have := HZ2.out; simp; omega) (w2.heap.size + 1) (by simp) ?_;intro g cap w4 hm4;rw [List.length_map];have HM4 := hid hm4;have HF14 := hid (HF1b.out.kept hm4.2.1 (fun e => by have := (HOW.out.lt _ e.symm).1; omega));clear hm4)
     | (refine wpList_store _ rfl _ _ _ _ rfl T Tryz.underlying134 w.heap.size nn cm f (by rfl) HF14.out (by have := HNN.out; unfold maxLen; omega) RS _ (by rfl) (by rfl) HRZ.out ?_
        intro w5 ho5 hg5;have HO5 := hid ho5;have HG5 := hid hg5;clear ho5 hg5))
    have hal : Below w2.heap.size w2 (w2.alloc (.cells #[.int .i64 (k : Int)] 3)) := (Below.refl _ _).alloc (Nat.le_refl _) _;have hm2 := HM4.out.2.1;have hrl : ∀ g, (Value.slice r3 (atN cs k RS).length c3).ownBlock = some g -> w.heap.size + 1 <= g /\ g < w2.heap.size := fun g hg => (HF2.out RS).lt g (by rw [HV.out]; exact hg)
    have HGN := hid (show GrJ (w.heap.size + 1) w5 w.heap.size (nn + 1) (atN cs (k + 1)) (.slice rv (cfN cs k).length cv) from by
     have key := GrJ.push (B := w.heap.size + 1) (b := w.heap.size) (n := nn) (F := atN cs k) (y := k) HV.out (fun z => (HF2.out z).below hal) HF3.out HF4.out (fun q hq => by have := (HO2.out.lt q hq).2; have := hal.size; omega) HM4.out (by simp) HO5.out HG5.out (by omega);rw [show atN cs (k + 1) = _ from funext HAT.out];exact key)
    have HON := hid (show OwnJ (w.heap.size + 1) w5 (.slice rv (cfN cs k).length cv) ((cfN cs k).map Nat.cast) from
     ((HO2.out.below hal).kept hm2 fun q hq e => HF4.out RS q (by rw [HV.out]; exact e) hq).kept HG5.out fun q hq e => by cases e; have := (HO2.out.lt _ hq).1; omega)
    have hb4 := Below.grown (HB2.out.trans (hal.mono HB2.out.size)) hm2 (by have := HB2.out.size; have := hal.size; omega) (fun q hq => by have := (hrl q hq).1; omega);have HBN := hid (show Below w.heap.size w w5 from Below.grown hb4 HG5.out hb4.size (fun q hq => by cases hq; omega));have hs2 := HS2.out;have hz2 := HZ2.out;have hzz := HZ.out
    have hlw : ∀ q, (Value.slice r3 (atN cs k RS).length c3).ownBlock = some q -> q ≠ wr.heap.size := fun q hq => by
     have := ((HF2w.out RS).lt q (by rw [HV.out]; exact hq)).2;omega
    have d3 := grown_cell HG5.out (by have := hm2.size; have := hal.size; omega) (fun q hq => by cases hq; omega) (grown_cell (b := wr.heap.size) (o := 3) hm2 (by have := hal.size; omega) hlw (bget hal HC32.out));have d17 := grown_cell HG5.out (by have := hm2.size; have := hal.size; omega) (fun q hq => by cases hq; omega) (grown_cell (b := wr.heap.size) (o := 17) hm2 (by have := hal.size; omega) hlw (bget hal HC172.out));have HZN := hid (show w.heap.size + 1 <= w5.heap.size by have := hm2.size; have := hal.size; have := HG5.out.size; omega);clear hlw hs2 hz2 hzz hb4 hrl hm2 hal HB2 HW2 HC32 HC172 HS2 HO2 HF1 HF2 HF1w HF2w HF3 HF4 HV HHV HOW HF1b HAL HZ2 HM4 HF14 HO5 HG5 HGR HRX HRZ HX1 HB1 HW1 HC3 HC17 HS1 HB HZ HO HX22 l1 l2
    by_cases ha : ac = 3
    . subst ha
      cases cf with
      | true =>
        have hcb : CB = true := by rw [HCB.out]; rfl
        have HCN := hid (show cfN cs (k + 1) = cfN cs k ++ [k] by rw [HCF.out, if_pos hcb]);clear HCF HCB hcb;have HOA := hid (HON.out.below ((Below.refl w5.heap.size w5).alloc (Nat.le_refl _) (.cells #[.int .i64 (k : Int)] 3)));have HGA := hid (HGN.out.below ((Below.refl w5.heap.size w5).alloc (Nat.le_refl _) (.cells #[.int .i64 (k : Int)] 3)));have HCL := hid (show (cfN cs k).length <= k from cfN_len cs k)
        go_wp2_with (at_builtin
                     refine app_j rfl _ _ rfl (w.heap.size + 1) _ ((cfN cs k).map Nat.cast) rfl HOA.out w5.heap.size 1 (k : Int) rfl (fr := (0, 0)) (by exact (MapKept.heap_alloc w5 _).1) (ib_nat (by omega)) (by rw [List.length_map]; have := HCL.out; omega) (by have := HZN.out; simp; omega) ?_;intro v6 w6 hm6;have HM6 := hid hm6;clear hm6)
        go_roundg (cs.length - (k + 1))
        case measure => omega
        case rel =>
         have hm6 := HM6.out;refine ⟨k + 1, by omega, by omega, by go_num, hid (Below.grown (HBN.out.alloc HBN.out.size _) hm6.2.1 (by have := HBN.out.size; simp; omega) (fun q hq => by have := (HON.out.lt q hq).1; omega)), hid (by have := hm6.2.1.size; have := HZN.out; simp at *; omega), hid ⟨nn + 1, by have := HNN.out; omega, HGA.out.todo (fun e => by have := (HON.out.lt _ e).1; omega) hm6⟩, hid (by rw [HCN.out, List.map_append, List.map_singleton]; exact hm6.1)⟩
      | false =>
        have hcb : CB = false := by rw [HCB.out]; rfl
        have HCN := hid (show cfN cs (k + 1) = cfN cs k by rw [HCF.out, if_neg (by simp [hcb])]);clear HCF HCB hcb;go_wp2_with fail
        go_roundg (cs.length - (k + 1))
        case measure => omega
        case rel => exact ⟨k + 1, by omega, by omega, by go_num, HBN, HZN, hid ⟨nn + 1, by have := HNN.out; omega, HGN.out⟩, hid (by rw [HCN.out]; exact HON.out)⟩
    . have hcb : CB = false := by rw [HCB.out]; simp [ha]
      have hne : (ac == 3) = false := by simpa using ha
      have HCN := hid (show cfN cs (k + 1) = cfN cs k by rw [HCF.out, if_neg (by simp [hcb])]);clear HCF HCB hcb ha;go_wp2_with fail
      go_roundg (cs.length - (k + 1))
      case measure => omega
      case rel => exact ⟨k + 1, by omega, by omega, by go_num, HBN, HZN, hid ⟨nn + 1, by have := HNN.out; omega, HGN.out⟩, hid (by rw [HCN.out]; exact HON.out)⟩
  . obtain rfl : k = cs.length := by omega
    obtain ⟨rv, cv, hv4, hv41, hv42⟩ := HO.out.form;rw [List.length_map] at hv4 hv41;subst hv4;obtain ⟨nn, hnn, hgr⟩ := HG.out;obtain ⟨cm, f, h1, h2, h3, h4⟩ := hgr.ex;have hal : Below wr.heap.size wr (wr.alloc (.cells C 4)) := (Below.refl _ _).alloc (Nat.le_refl _) _;have hzz := HZ.out;have hn60 := HL60.out
    have N0 := hid (show NdI (w.heap.size + 1) w.heap.size wr.heap.size cs.length f (atN cs cs.length) w (wr.alloc (.cells C 4)) (.slice rv (cfN cs cs.length).length cv) [] (cfN cs cs.length) from
     ⟨HB.out.alloc HB.out.size _, by simp, Mk.made HCC.out, HO.out.below hal, fun e => by have := (HO.out.lt _ e).2; omega, ⟨nn, cm, ownF_below h1 hal, fun x => (h2 x).below hal, fun x q hq => ⟨((h2 x).lt q hq).2, h4 x q hq⟩⟩, ⟨Nat.le_refl _, by omega, by omega⟩, cfN_lt, by have h5 := cfN_len cs cs.length; have h6 := remN_le (List.range cs.length) []; simp at h6; omega⟩)
    have W00 := hid (Wk.start cs);have HCL := hid (cfN_len cs cs.length)
    have HLR := hid (show ∀ z, ∃ r c, (f z).getD nilJ = .slice r (atN cs cs.length z).length c /\ (atN cs cs.length z).length <= c /\ c <= 9223372036854775807 from fun z => by
     obtain ⟨r, c, e, e1, e2⟩ := (h2 z).form;rw [List.length_map] at e e1;exact ⟨r, c, e, e1, e2⟩)
    clear h1 h2 h3 h4 hgr hnn hal hzz HG HO;have HREM := hid (show remN (List.range cs.length) [] <= cs.length by simpa using remN_le (List.range cs.length) []);go_wp2_with fail
    generalize hMM : wr.heap.size = M at *;generalize hC3 : cfN cs cs.length = L00 at *;clear hmk hC3;generalize wr.alloc (.cells C 4) = W2 at *;clear HCC;go_loopg [4] (3 * cs.length) (fun gg s4 wr => ∃ sn L, Hid (NdI (w.heap.size + 1) w.heap.size M cs.length f (atN cs cs.length) w wr s4 sn L) /\ Hid (Wk cs sn L) /\ Hid (2 * remN (List.range cs.length) sn + L.length <= gg))
    case atStart => exact ⟨[], L00, N0, W00, hid (by have := HREM.out; have := HCL.out; omega)⟩
    case round =>
     clear N0 W00 HB HZ HREM HCL hMM;obtain ⟨sn, L, HI, HD, HM⟩ := hrel;rcases List.eq_nil_or_concat L with hnil | ⟨L0, x, hcat⟩
     . subst hnil
       obtain ⟨r6, c6, rfl, h61, h62⟩ := HI.out.own.form;go_wp2_with fail
       go_ret
       exact ⟨M, sn, rfl, HI.out.mks, HD.out.clo, HI.out.bel⟩
     . rw [List.concat_eq_append] at hcat
       subst hcat
       have hown := HI.out.own;rw [List.map_append, List.map_singleton] at hown;obtain ⟨g, o, cap, rfl, hc1, hc2, hcell1, hxs⟩ := hown.last;rw [List.length_map] at hc1 hcell1;have hxn : x < cs.length := HI.out.inb x (by simp);obtain ⟨cb, coff, y, rfl, hcb, hcell, hx⟩ := HCH.out wr HI.out.bel x hxn;have HX22 := cells22 y;obtain ⟨l1, l2⟩ := lies_of HX22 hcell;have hkk : (0 : Int) <= (x : Int) := by omega
       have hkk2 : (x : Int) < (cs.length : Int) := by omega
       have hw1 : IntKind.i64.wrap (((L0.length + 1 : Nat) : Int) - 1) = (L0.length : Int) := by rw [IntWalk.i64_in _ (by omega)]; omega
       have HI2 := hid (HI.out.pop.below ((Below.refl wr.heap.size wr).alloc (Nat.le_refl _) (.cells y.arr 31)));have HD1 := hid HD.out.pop;have hms := HM.out;simp only [List.length_append, List.length_singleton] at hms;have HMS := hid hms;clear hms;have HGL := hid (show g < wr.heap.size from (hown.lt g rfl).2);have hdn := (sl_len hx.2.2.2.2.1).1;have hon := (sl_len hx.2.2.2.2.2).1;have hx20 : y.arr[20]? = some (.slice y.dp.r (cs[x]).deps.length y.dp.c) := by rw [<- hdn]; rfl
       have hx21 : y.arr[21]? = some (.slice y.od.r (cs[x]).old.length y.od.c) := by rw [<- hon]; rfl
       have hb12 : Below wr.heap.size wr ((wr.alloc (.cells y.arr 31)).alloc (.cells #[.slice y.dp.r (cs[x]).deps.length y.dp.c, .slice y.od.r (cs[x]).old.length y.od.c] 27)) := ((Below.refl _ _).alloc (Nat.le_refl _) _).alloc (by simp) _;have hS1 := hx.2.2.2.2.1.below strR_mono hb12;have hS2 := hx.2.2.2.2.2.below strR_mono hb12;rw [hdn] at hS1;rw [hon] at hS2;have HCT := hid (concat_any y.dp.r y.od.r y.dp.c y.od.c (cs[x]).deps (cs[x]).old (wr.heap.size + 1) ((wr.alloc (.cells y.arr 31)).alloc (.cells #[.slice y.dp.r (cs[x]).deps.length y.dp.c, .slice y.od.r (cs[x]).old.length y.od.c] 27)) hS1 hS2 (cell_at (by simp) rfl) (cell_at (by simp) rfl) (HDP.out _ (List.getElem_mem hxn)));have HBT := hid (show Below (wr.alloc (.cells y.arr 31)).heap.size (wr.alloc (.cells y.arr 31)) ((wr.alloc (.cells y.arr 31)).alloc (.cells #[.slice y.dp.r (cs[x]).deps.length y.dp.c, .slice y.od.r (cs[x]).old.length y.od.c] 27)) from (Below.refl _ _).alloc (Nat.le_refl _) _);have hc20 : (wr.alloc (.cells y.arr 31)).cell? ⟨wr.heap.size, 20, none⟩ = some (.slice y.dp.r (cs[x]).deps.length y.dp.c) := cell_at rfl hx20;have hc21 : (wr.alloc (.cells y.arr 31)).cell? ⟨wr.heap.size, 21, none⟩ = some (.slice y.od.r (cs[x]).old.length y.od.c) := cell_at rfl hx21;have HSU := hid (fun (sm : List Nat) (h : Dn cs ((cs[x]).deps ++ (cs[x]).old) ((cs[x]).deps ++ (cs[x]).old).length sm) => h.suc hxn);have HD0 := hid (show Dn cs ((cs[x]).deps ++ (cs[x]).old) 0 sn from fun j hj h => absurd h (by omega));have HMw := hid (show M + 1 <= wr.heap.size from HI.out.sz);clear hx hcell hdn hon hx20 hx21 hb12 hS1 hS2 HI HD HM hown hxs;generalize y.arr = X at *;generalize (cs[x]).deps.length = dl at *;generalize (cs[x]).old.length = ol at *;generalize hns : (cs[x]).deps ++ (cs[x]).old = ns at *;generalize y.dp.r = dr at *;generalize y.dp.c = dc at *;generalize y.od.r = or at *;generalize y.od.c = oc at *;clear hns
       go_wp2_with (go_at_call 83
                    refine HCT.out.mono ?_;rintro e w5 ⟨v69, rfl, ho69, hb69⟩;have HO69 := hid ho69;have HI5 := hid ((HI2.out.below HBT.out).below hb69);obtain ⟨r69, c69, hv69, hx1, hx2⟩ := ho69.form;have hx3 : ns.length <= 9223372036854775807 := by unfold maxLen at hx2; omega
                    subst hv69;clear ho69 hb69)
       have HG5 := hid (show g < ((wr.alloc (.cells X 31)).alloc (.cells #[.slice dr dl dc, .slice or ol oc] 27)).heap.size by have := HGL.out; simp; omega);have HB5 := hid (show M + 1 <= ((wr.alloc (.cells X 31)).alloc (.cells #[.slice dr dl dc, .slice or ol oc] 27)).heap.size by have := HMw.out; simp; omega);generalize ((wr.alloc (.cells X 31)).alloc (.cells #[.slice dr dl dc, .slice or ol oc] 27)).heap.size = B5 at *
       have HAP := hid (show Apart (.slice r69 ns.length c69) (.slice (some ⟨g, o, none⟩) L0.length cap) from fun q hq e => by
        have h1 := (HO69.out.lt q hq).1;simp [Value.ownBlock] at e;have := HG5.out;omega)
       clear HI2 HCT HBT hc20 hc21 l1 l2 HX22 hcell1;go_loopg [4, 71] ns.length (fun gg s4 s71 wx => ∃ (q : Nat) (sm Lm : List Nat), q <= ns.length /\ ns.length - q <= gg /\ s71 = .int .i64 q /\ Hid (NdI (w.heap.size + 1) w.heap.size M cs.length f (atN cs cs.length) w wx s4 sm Lm) /\ Hid (WkX cs x sm Lm) /\ Hid (Dn cs ns q sm) /\ Hid (2 * remN (List.range cs.length) sm + Lm.length <= 2 * remN (List.range cs.length) sn + L0.length) /\ Hid (OwnS B5 wx (.slice r69 ns.length c69) ns) /\ Hid (Apart (.slice r69 ns.length c69) s4))
       case atStart => exact ⟨0, sn, L0, by omega, by omega, rfl, HI5, HD1, HD0, hid (Nat.le_refl _), HO69, HAP⟩
       case round =>
        clear HI5 HD1 HD0 HO69 HAP;obtain ⟨q, sm, Lm, hq, hgq, rfl, HJ, HE, HN, HM, HO, HA⟩ := hrel;obtain ⟨r7, c7, hv7, h71, h72⟩ := HJ.out.own.form;rw [List.length_map] at hv7 h71;subst hv7
        by_cases hlt : q < ns.length
        . obtain ⟨b4, o4, hr4, hb4, g4, hs4⟩ := str_at HO.out.sl q hlt
          subst hr4;have hq0 : (0 : Int) <= (q : Int) := by omega
          have hq1 : (q : Int) < (ns.length : Int) := by omega
          have HNX := hid (fun (sm' : List Nat) (h1 : Dn cs ns q sm') (h2 : ∀ p (hp : p < (atN cs cs.length ns[q]).length), (atN cs cs.length ns[q])[p] ∈ sm') => h1.next hlt h2);have HTL := hid (fun (i : Nat) (h : i ∈ atN cs cs.length ns[q]) => show i < cs.length from atN_lt i h);obtain ⟨r77, c77, hv, hv1, hv2⟩ := HLR.out ns[q];have HV := hid hv;have HS4 := hid hs4;have hv3 : (0 : Int) <= ((atN cs cs.length ns[q]).length : Int) := by omega
          obtain ⟨nn', cm', e1, e2, e3⟩ := HJ.out.grp;have HF1 := hid e1
          have HROW := hid (show ∀ (W : World) (vo : Value) (s L : List Nat), NdI (w.heap.size + 1) w.heap.size M cs.length f (atN cs cs.length) w W vo s L -> Sl IntR 1 W (.slice r77 (atN cs cs.length ns[q]).length c77) ((atN cs cs.length ns[q]).map Nat.cast) from fun W vo s L h => by
           obtain ⟨_, _, _, i2, _⟩ := h.grp;have := (i2 ns[q]).sl
           rwa [hv] at this)
          clear hv hs4 e1 e2 e3;generalize hT : atN cs cs.length ns[q] = T77 at *;generalize ns[q] = nm at *;clear hT
          go_wp2_with (refine wpList_look _ rfl _ _ _ rfl T Tryz.underlying134 (zslJ _) w.heap.size nn' cm' f (by rfl) HF1.out nm (by rfl) HS4.out ?_
                       rw [HV.out])
          go_loopg [4, 79] T77.length (fun gg s4 s79 wz => ∃ (p : Nat) (sp Lp : List Nat), p <= T77.length /\ T77.length - p <= gg /\ s79 = .int .i64 p /\ Hid (NdI (w.heap.size + 1) w.heap.size M cs.length f (atN cs cs.length) w wz s4 sp Lp) /\ Hid (WkX cs x sp Lp) /\ Hid (Dn cs ns q sp) /\ Hid (∀ j (hj : j < T77.length), j < p -> T77[j] ∈ sp) /\ Hid (2 * remN (List.range cs.length) sp + Lp.length <= 2 * remN (List.range cs.length) sn + L0.length) /\ Hid (OwnS B5 wz (.slice (some ⟨b4, o4, none⟩) ns.length c69) ns) /\ Hid (Apart (.slice (some ⟨b4, o4, none⟩) ns.length c69) s4))
          case atStart => exact ⟨0, sm, Lm, by omega, by omega, rfl, HJ, HE, HN, hid (fun j _ h => absurd h (by omega)), HM, HO, HA⟩
          case round =>
           clear HJ HE HN HM HO HA HF1 hb4 g4;obtain ⟨p, sp, Lp, hp, hgp, rfl, HJ, HE, HN, HQ, HM, HO, HA⟩ := hrel;obtain ⟨r8, c8, hv8, h81, h82⟩ := HJ.out.own.form;rw [List.length_map] at hv8 h81;subst hv8
           by_cases hlp : p < T77.length
           . obtain ⟨b5, o5, hr5, hb5, g5, hi5⟩ := int_at (HROW.out _ _ _ _ HJ.out) p (by rw [List.length_map]; exact hlp)
             subst hr5;rw [List.getElem_map] at g5;have hp0 : (0 : Int) <= (p : Int) := by omega
             have hp1 : (p : Int) < (T77.length : Int) := by omega
             have hyn : T77[p] < cs.length := HTL.out _ (List.getElem_mem hlp);have hmk := HJ.out.mks.cell T77[p] hyn;have hmf := HJ.out.mks.free T77[p]
             have HQ1 := hid (fun (s' : List Nat) (h1 : ∀ z ∈ sp, z ∈ s') (h2 : T77[p] ∈ s') => show ∀ j (hj : j < T77.length), j < p + 1 -> T77[j] ∈ s' from fun j hj hjp => by
              by_cases e : j = p
              . subst e; exact h2
              . exact h1 _ (HQ.out j hj (by omega)))
             clear HQ;generalize T77[p] = y at *;have hy0 : (0 : Int) <= (y : Int) := by omega
             have hy1 : (y : Int) < (cs.length : Int) := by omega
             cases hy : hasN y sp
             case true =>
              have HQ2 := hid (HQ1.out sp (fun z hz => hz) (hasN_iff.1 hy));rw [hy] at hmk;clear HQ1 hmf;go_wp2_with fail
              go_roundg (T77.length - (p + 1))
              case measure => omega
              case rel => exact ⟨p + 1, sp, Lp, by omega, by omega, by go_num, HJ, HE, HN, HQ2, HM, HO, HA⟩
             case false =>
              have hno : y ∉ sp := fun h => by rw [hasN_iff.2 h] at hy; cases hy
              have HNO := hid hno;have HQ2 := hid (HQ1.out (sp ++ [y]) (fun z hz => List.mem_append_left _ hz) (by simp));have HYN := hid hyn;have HRM := hid (remN_add (U := List.range cs.length) (List.mem_range.2 hyn) hno);have HLl := hid (show (Lp.map Nat.cast : List Int).length + 1 <= 1000000 by have := HJ.out.len; have := HL60.out; rw [List.length_map]; omega);have hgs : wr.grownBy (wr.setCell ⟨M, y, none⟩ (.bool true)) (some M) := ⟨rfl, rfl, rfl, by simp [World.setCell], fun k hk hne => Below.heap_setCell _ _ _ _ (fun e => hne (by rw [e]))⟩;have hal : Below (wr.setCell ⟨M, y, none⟩ (.bool true)).heap.size (wr.setCell ⟨M, y, none⟩ (.bool true)) ((wr.setCell ⟨M, y, none⟩ (.bool true)).alloc (.cells #[.int .i64 (y : Int)] 3)) := (Below.refl _ _).alloc (Nat.le_refl _) _;have HOw3 := hid ((HJ.out.own.kept hgs (fun q hq e => by cases e; exact HJ.out.nm hq)).below hal);have HO3 := hid ((HO.out.kept hgs (fun q hq e => by cases e; have := (HO.out.lt _ hq).1; have := HB5.out; omega)).below hal)
              have HBL : Hid (((wr.setCell ⟨M, y, none⟩ (.bool true)).alloc (.cells #[.int .i64 (y : Int)] 3)).heap[wr.heap.size]? = some (.cells #[.int .i64 (y : Int)] 3 (0, 0))) := hid (by
                  have h1 := (MapKept.heap_alloc (wr.setCell ⟨M, y, none⟩ (.bool true)) (.cells #[.int .i64 (y : Int)] 3)).1;have h2 : (wr.setCell ⟨M, y, none⟩ (.bool true)).heap.size = wr.heap.size := by simp [World.setCell]
                  rw [h2] at h1;exact h1)
              have HZ := hid (show w.heap.size + 1 <= wr.heap.size by have := HJ.out.sz; have := HJ.out.hb; omega);rw [hy] at hmk;clear HQ1 hno hy hgs hal
              go_wp2_with (at_builtin
                           go_loud (refine app_j rfl _ _ rfl (w.heap.size + 1) _ (Lp.map Nat.cast) rfl HOw3.out wr.heap.size 1 y rfl (fr := (0, 0)) HBL.out (ib_nat (by have := HYN.out; omega)) HLl.out (by have := HZ.out; simp [World.setCell]; omega) ?_)
                           intro v4 w4 hm4;have HM4 := hid hm4;clear hm4)
              go_roundg (T77.length - (p + 1))
              case measure => omega
              case rel =>
                  obtain ⟨m1, m2, m3⟩ := HM4.out;have hr := HRM.out;have hm := HM.out;refine ⟨p + 1, sp ++ [y], Lp ++ [y], by omega, by omega, by go_num, hid (HJ.out.push HYN.out HNO.out HM4.out), hid (HE.out.push y), hid (HN.out.push y), HQ2, hid (by simp; omega), hid (HO3.out.kept m2 fun q hq e => HA.out q hq e), hid (fun q hq e => ?_)⟩;rcases m3 q e with e2 | e2
                  . exact HA.out q hq e2
                  . have := (HO.out.lt q hq).2
                    simp [World.setCell] at e2;omega
           . obtain rfl : p = T77.length := by omega
             have HN2 := hid (HNX.out sp HN.out (fun j hj => HQ.out j hj hj));go_wp2_with fail
             go_roundg (ns.length - (q + 1))
             case measure => omega
             case rel => exact ⟨q + 1, sp, Lp, by omega, by omega, by go_num, HJ, HE, HN2, HM, HO, HA⟩
        . obtain rfl : q = ns.length := by omega
          have HX2 := hid (HE.out.done (HSU.out sm HN.out));have HM2 := hid HM.out;go_wp2_with fail
          go_roundg (2 * remN (List.range cs.length) sm + Lm.length)
          case measure => have h1 := HM2.out; have h2 := HMS.out; omega
          case rel => exact ⟨sm, Lm, HJ, HX2, hid (Nat.le_refl _)⟩
end Go.Proofs.YtpnogmicfomofaaGreatDoor.Stp
namespace Go.Proofs.YtpnogmicfomofaaGreatDoor.Stp
open Go.RowKit Go.Sort Go.Lib Go.Maps
open Go.Lib (hid)
open Adr (WT)
attribute [local go_sem] frUpon
attribute [local go_sem ↓] ldC_eq
attribute [local go_sem] ldC_run
attribute [local go_sem ↓] stC_eq
attribute [local go_sem ↓] bsC_eq
attribute [local go_sem] bsC_run1
attribute [local go_sem] stC_run there_drew there_new put22_drew put22_new lies_new rd22_new lies_drew rd22_drew lies_drewN rd22_drewN
structure RowG {α : Type} (enc : α -> List Value) (P : World -> α -> Prop) (sz : Nat) (T : TypeId) (B : Nat) (w : World) (v : Value) (ys : List α) : Prop where
 own : w.ownsRow B T sz v ys.length (ys.flatMap enc)
 ok : ∀ y ∈ ys, P (mask (keepB B v) w) y
def StayP {α : Type} (P : World -> α -> Prop) : Prop := ∀ w w' y, Stays w w' -> P w y -> P w' y
theorem RowG.push {α : Type} {enc : α -> List Value} {P : World -> α -> Prop} {sz : Nat} {T : TypeId} {B : Nat} {wr w1 w2 w3 w4 : World} {v : Value} {ys : List α} {x : α} {g n cap : Nat} (hP : StayP P) (h : RowG enc P sz T B wr v ys) (hB : B <= wr.heap.size) (h1 : Below wr.heap.size wr w1) (h2 : Below w1.heap.size w1 w2)
  (hx : P (mask (fromB w1.heap.size) w2) x) (h3 : Below w2.heap.size w2 w3) (hown : w4.ownsRow B T sz (.slice (some ⟨g, 0, none⟩) n cap) (ys ++ [x]).length ((ys ++ [x]).flatMap enc)) (hg : w3.grownBy w4 v.ownBlock) (hat : v.ownBlock = some g ∨ g = w3.heap.size) :
  RowG enc P sz T B w4 (.slice (some ⟨g, 0, none⟩) n cap) (ys ++ [x]) := by
 have s1 := h1.size;have s2 := h2.size;have s3 := h3.size;refine ⟨hown, fun y hy => ?_⟩;rcases List.mem_append.1 hy with hy | hy
 . refine hP _ _ y (stays_keep fun b hk hb => ?_) (h.ok y hy)
   have hk := keepB_out hk;refine ⟨?_, ?_⟩
   . refine keepB_mk hk.1 (fun e => ?_)
     have e : g = b := by simpa [Value.ownBlock] using e
     subst e;rcases hat with e | e
     . exact hk.2 e
     . omega
   . rw [hg.block b (by omega) (fun e => hk.2 e.symm), h3.block b (by omega), h2.block b (by omega), h1.block b hb]
 . obtain rfl : y = x := by simpa using hy
   refine hP _ _ y (stays_keep fun b hk hb => ?_) hx;simp only [fromB, decide_eq_true_eq] at hk;have hne : ∀ g', v.ownBlock = some g' -> g' ≠ b := fun g' e => by have := (own_lt h.own e).2; omega
   refine ⟨?_, ?_⟩
   . refine keepB_mk (by omega) (fun e => ?_)
     have e : g = b := by simpa [Value.ownBlock] using e
     subst e;rcases hat with e | e
     . exact hne _ e rfl
     . omega
   . rw [hg.block b (by omega) (fun e => hne b e.symm rfl), h3.block b hb]
theorem RowG.sl {α β : Type} {enc : α -> List Value} {P : World -> α -> Prop} {R : World -> List Value -> β -> Prop} {f : α -> β} {sz : Nat} {T : TypeId} {B : Nat} {w : World} {v : Value} {ys : List α} (hP : StayP P) (he : ∀ y, (enc y).length = sz) (hR : ∀ w y, P w y -> R w (enc y) (f y)) (h : RowG enc P sz T B w v ys) : Sl R sz (mask (fromB B) w) v (ys.map f) := by
 obtain ⟨r, cap, rfl, h1, h2, hx⟩ := sl_of_own enc he (w := mask (fromB B) w) (own_mask h.own fun g hg => by
  have := own_lt h.own hg;simp only [fromB, decide_eq_true_eq]; omega)
 refine ⟨r, cap, by rw [List.length_map], by rw [List.length_map]; exact h1, h2, fun i hi => ?_⟩;rw [List.length_map] at hi;obtain ⟨b, off, cs, hr, hsz, hcell, hc⟩ := hx i hi;subst hc;refine ⟨b, off, _, hr, hsz, hcell, ?_⟩;rw [List.getElem_map];exact hR _ _ (hP _ _ _ (stays_wider fun b hb => by have := keepB_out hb; simp only [fromB, decide_eq_true_eq]; omega) (h.ok _ (List.getElem_mem hi)))
theorem chinfoP : ∃ z bytes, (Tryz.prog.info? 31).map (fun i => (i.zero, i.size, i.bytes)) = some (some z, 22, bytes) /\ z.cells.size = 22 /\ bytes <= 1000 := by
 have hz : (Tryz.prog.info? 31).map (fun i => (i.size, i.zero.map (·.cells.size), decide (i.bytes <= 1000))) = some (22, some 22, true) := by kernel_rfl
 cases hi : Tryz.prog.info? 31 with
 | none => rw [hi] at hz; cases hz
 | some ie =>
   rw [hi] at hz;simp at hz;obtain ⟨hs, ⟨z, hz, hz2⟩, hb⟩ := hz;exact ⟨z, ie.bytes, by simp [hz, hs], hz2, hb⟩
structure CC where
 x : CV
 c : Ch
def encCC (y : CC) : List Value := y.x.arr.toList
def PCC (w : World) (y : CC) : Prop := CvR w y.x y.c
theorem encCC_len (y : CC) : (encCC y).length = 22 := rfl
theorem encCC_one (y : CC) : ∀ u ∈ encCC y, u.oneCell' = true := fun u hu => Array.all_eq_true_iff_forall_mem.1 (cells22 y.x).2 u (by unfold encCC at hu; simpa using hu)
theorem cvR_stays {w w' : World} {x : CV} {c : Ch} (hs : Stays w w') (h : CvR w x c) : CvR w' x c := ⟨h.1, h.2.1, h.2.2.1, h.2.2.2.1, sls_stays hs h.2.2.2.2.1, sls_stays hs h.2.2.2.2.2⟩
theorem pCC_stays : StayP PCC := fun _ _ _ hs h => cvR_stays hs h
def ChF (w : World) (cs : List Value) (c : Ch) : Prop := ∃ x : CV, cs = x.arr.toList /\ CvF w x c
theorem chF_mono : Mono ChF := fun _ _ _ _ hb ⟨x, h1, h2⟩ => ⟨x, h1, h2.below hb⟩
theorem chF_R {w : World} {v : Value} {cs : List Ch} (h : Sl ChF 22 w v cs) : Sl ChR 22 w v cs := by
 obtain ⟨r, c, e, h1, h2, he⟩ := h;refine ⟨r, c, e, h1, h2, fun i hi => ?_⟩;obtain ⟨b, off, cs, hr, hs, hc, x, hx, hf⟩ := he i hi;exact ⟨b, off, cs, hr, hs, hc, x, hx, hf.cv⟩
theorem chF_at {w : World} {r : Option Addr} {n c : Nat} {cs : List Ch} (h : Sl ChF 22 w (.slice r n c) cs) (i : Nat) (hi : i < cs.length) :
  ∃ b off x, r = some ⟨b, off, none⟩ /\ b < w.heap.size /\ (∀ (j : Nat) (u : Value), x.arr.toList[j]? = some u -> w.cell? ⟨b, off + i * 22 + j, none⟩ = some u) /\ CvF w x cs[i] := by
 obtain ⟨r', c', e, h1, h2, he⟩ := h;simp at e;obtain ⟨rfl, rfl, rfl⟩ := e;obtain ⟨b, off, cs, hr, hs, hc, x, hv, hn⟩ := he i hi;subst hv;have g0 := hc 0 _ rfl;exact ⟨b, off, x, hr, World.block_lt_of_cell? w _ g0, hc, hn⟩
def PgP (cs : List Ch) (w : World) (e : Ending) (w' : World) : Prop := ∃ r c g, e = .returned (.slice r cs.length c) /\ Clo cs g /\ Sl ChR 22 w' (.slice r cs.length c) (propL cs g) /\ Below w.heap.size w w'
set_option maxRecDepth 100000 in
set_option maxHeartbeats 40000000 in
theorem propagate_any (rc : Option Addr) (cc : Nat) (cs : List Ch) (w : World) (hT : WT w) (hS : Sl ChF 22 w (.slice rc cs.length cc) cs) (hn : cs.length <= 60) (had : ∀ c ∈ cs, c.addr.size <= 1000000) (hdp : ∀ c ∈ cs, c.deps.length + c.old.length <= 900000) :
  Calls Tryz.prog 28 #[.slice rc cs.length cc] w (PgP cs w) := by
 have HND := hid (needed_any rc cc cs w hT (chF_R hS) hn had hdp);have HCH := hid (fun (W : World) (hW : Below w.heap.size w W) => chF_at (hS.below chF_mono hW));have HL60 := hid hn;obtain ⟨z0, bytes, hi0, hz0, hb0⟩ := chinfoP;have HIN := hid (And.intro hi0 (And.intro hz0 hb0));clear hT hS had hdp hi0 hz0 hb0;unfold PgP;go_enter Tryz.func28, Tryz.ntmps28
 go_wp2_with (go_at_call 55
              refine HND.out.mono ?_;rintro e w1 ⟨M, sn, rfl, hmk, hclo, hb1⟩;have HMK := hid hmk;have HCL := hid hclo;have HB1 := hid hb1;clear hmk hclo hb1)
 have R0 := hid (show RowG encCC PCC 22 31 w1.heap.size w1 (.slice none 0 0) [] from ⟨World.ownsRow_nil w1 _ _ 22, fun y hy => by cases hy⟩);have HPL := hid (propL_len cs (fun k => hasN k sn));go_loopg [4, 11] cs.length (fun gg s4 s11 wr => ∃ (k : Nat) (ys : List CC), k <= cs.length /\ cs.length - k <= gg /\ s11 = .int .i64 k /\ Hid (RowG encCC PCC 22 31 w1.heap.size wr s4 ys) /\ Hid (ys.map (·.c) = (propL cs (fun k => hasN k sn)).take k) /\ Hid (Mk M cs.length sn wr) /\ Hid (Below w.heap.size w wr) /\ Hid (w1.heap.size <= wr.heap.size))
 case atStart => exact ⟨0, [], by omega, by omega, rfl, R0, hid (by simp), HMK, HB1, hid (Nat.le_refl _)⟩
 case round =>
  have HM1 := hid HMK.out.lt;have HB1s := hid HB1.out.size;clear R0 HB1 HMK HND;obtain ⟨k, ys, hk, hgg, rfl, HR, HE, HK, HB, HZ⟩ := hrel;obtain ⟨rv, cv, hv4, hv41, hv42⟩ := own_form HR.out.own;subst hv4
  have HYL := hid (show ys.length = k by
   have := congrArg List.length HE.out;rw [List.length_map, List.length_take, HPL.out] at this;omega)
  by_cases hlt : k < cs.length
  . obtain ⟨cb, coff, x, rfl, hcb, hcell, hx⟩ := HCH.out wr HB.out k hlt
    have HX22 := cells22 x;obtain ⟨l1, l2⟩ := lies_of HX22 hcell;have hkk : (0 : Int) <= (k : Int) := by omega
    have hkk2 : (k : Int) < (cs.length : Int) := by omega
    have hW1 : Below wr.heap.size wr (wr.alloc (.cells x.arr 31)) := (Below.refl _ _).alloc (Nat.le_refl _) _;have HX1 := hid (And.intro (lies_new wr x.arr 31 _ rfl HX22) (rd22_new wr x.arr 31 _ rfl HX22));have HCG := hid (lchange_any x cs[k] (wr.alloc (.cells x.arr 31)) (hx.below hW1));have HBK := hid (MapKept.heap_alloc wr (.cells x.arr 31)).1;have HS1 := hid (show (wr.alloc (.cells x.arr 31)).heap.size = wr.heap.size + 1 by simp);have HW1 := hid hW1;have HPK := hid (show (propL cs (fun k => hasN k sn))[k]'(by rw [HPL.out]; exact hlt) = prop1 cs[k] (hasN k sn) from propL_at hlt _)
    have HTK := hid (show (propL cs (fun k => hasN k sn)).take (k + 1) = (propL cs (fun k => hasN k sn)).take k ++ [prop1 cs[k] (hasN k sn)] from by
     rw [List.take_succ_eq_append_getElem (by rw [HPL.out]; exact hlt), HPK.out])
    have hm1 := HM1.out;have hz1 := HZ.out;clear hcell hx hW1;generalize hck : cs[k] = ck at *;have hxl : x.arr.toList.length = 22 := rfl;generalize x.arr = X at *
    go_upto_region 7 with (
     go_at_call 56;refine HCG.out.mono ?_;rintro e w2 ⟨x', rfl, hx', hb2⟩;have hk2 : w2.heap[wr.heap.size]? = _ := (hb2.block wr.heap.size (by rw [HS1.out]; omega)).trans HBK.out;have hX22 := cells22 x';have ht2 : There w2 wr.heap.size 0 := there_blk hk2 (by rw [<- Array.length_toList, hxl]; omega);have hs2 := stC_run w2 wr.heap.size 0 _ ht2 hX22
     have hkF : (put22 w2 wr.heap.size 0 x'.arr).heap[wr.heap.size]? = some (.cells x'.arr 31) := by
      have hh := setCells_block x'.arr.toList _ w2 wr.heap.size 0 _ hk2 (by rw [<- Array.length_toList, hxl, Nat.zero_add]; exact Nat.le_refl _);have hd : X.toList.drop (0 + x'.arr.toList.length) = [] := List.drop_of_length_le (by rw [hxl]; exact Nat.le_refl _);unfold put22;rw [hh, hd];simp
     have hoF : ∀ b, b ≠ wr.heap.size -> (put22 w2 wr.heap.size 0 x'.arr).heap[b]? = w2.heap[b]? := fun b hb => by
      have hh := setCells_other x'.arr.toList w2 wr.heap.size 0 hb;unfold put22;exact hh
     have hbF : Below wr.heap.size wr (put22 w2 wr.heap.size 0 x'.arr) := by
      have hh := setCells_below (B := wr.heap.size) (w0 := wr) x'.arr.toList w2 wr.heap.size 0 (HW1.out.trans (hb2.mono HW1.out.size)) (Nat.le_refl _);unfold put22;exact hh
     have hzF : (put22 w2 wr.heap.size 0 x'.arr).heap.size = w2.heap.size := setCells_size x'.arr.toList w2 wr.heap.size 0
     have HP := hid (show CvR (mask (fromB (wr.heap.size + 1)) (put22 w2 wr.heap.size 0 x'.arr)) x' ck from cvR_stays (stays_keep fun b hb hl => by
      simp only [fromB, decide_eq_true_eq, HS1.out] at hb ⊢;exact ⟨by omega, hoF b (by omega)⟩) hx')
     have HZ2 := hid (show wr.heap.size + 1 <= (put22 w2 wr.heap.size 0 x'.arr).heap.size by rw [hzF]; have := hb2.size; rw [HS1.out] at this; exact this);generalize put22 w2 wr.heap.size 0 x'.arr = W3 at *;have HKF := hid hkF;have HBF := hid hbF;clear hoF hzF hx' hb2 hk2 ht2 hkF hbF)
    have hzz := HZ2.out;have HMK3 := hid (HK.out.below HBF.out);have hmc := HMK3.out.cell k hlt;have HB3 := hid (HB.out.trans (HBF.out.mono HB.out.size));have hx2 : x'.arr[3]? = some (.int .i64 x'.ac) := rfl;have hac := HP.out.2.1;have hcf := HP.out.2.2.1;have d3 : W3.cell? ⟨wr.heap.size, 3, none⟩ = some (.int .i64 x'.ac) := by unfold World.cell?; rw [HKF.out]; rfl
    have d17 : W3.cell? ⟨wr.heap.size, 17, none⟩ = some (.bool x'.cf) := by unfold World.cell?; rw [HKF.out]; rfl
    have f17 : W3.frozen? ⟨wr.heap.size, 17, none⟩ = false := by unfold World.frozen?; rw [HKF.out]; rfl
    have HB1s' := HB1s.out;cases hh : hasN k sn with
    | true =>
      rw [hh] at HTK hmc
      by_cases ha : x'.ac = 3
      . have hck3 : ck.act = 3 := by rw [<- hac]; exact ha
        have e3 : (x'.ac == 3) = true := by simp [ha]
        have HK4 := hid (show (W3.setCell ⟨wr.heap.size, 17, none⟩ (.bool true)).heap[wr.heap.size]? = some (.cells (⟨x'.ad, x'.de, x'.ty, x'.ac, x'.re, x'.bk, x'.bn, x'.bs, x'.bi, x'.bl, x'.ak, x'.an, x'.at_, x'.ai, x'.al, x'.id, x'.rp, true, x'.pr, x'.im, x'.dp, x'.od⟩ : CV).arr 31) from by
         have hq := setCells_block [.bool true] _ W3 wr.heap.size 17 _ HKF.out (by simp [CV.arr]);exact Eq.trans (show (W3.setCell ⟨wr.heap.size, 17, none⟩ (.bool true)).heap[wr.heap.size]? = _ from hq) (by kernel_rfl))
        have HB4 := hid (show Below wr.heap.size wr (W3.setCell ⟨wr.heap.size, 17, none⟩ (.bool true)) from HBF.out.setCell (Nat.le_refl _) _)
        have HX4 := hid (show PCC (mask (fromB wr.heap.size) (W3.setCell ⟨wr.heap.size, 17, none⟩ (.bool true))) ⟨(⟨x'.ad, x'.de, x'.ty, x'.ac, x'.re, x'.bk, x'.bn, x'.bs, x'.bi, x'.bl, x'.ak, x'.an, x'.at_, x'.ai, x'.al, x'.id, x'.rp, true, x'.pr, x'.im, x'.dp, x'.od⟩ : CV), prop1 ck true⟩ from by
         have h9 : CvR (mask (fromB wr.heap.size) (W3.setCell ⟨wr.heap.size, 17, none⟩ (.bool true))) x' ck := cvR_stays (stays_keep fun b hb hl => by
            simp only [fromB, decide_eq_true_eq] at hb ⊢;exact ⟨by omega, Below.heap_setCell _ _ _ _ (by show b ≠ wr.heap.size; omega)⟩) HP.out
         exact ⟨h9.1, h9.2.1, by show true = (ck.cf || (true && decide (ck.act = 3))); rw [hck3]; simp, h9.2.2.2⟩)
        clear hck3 hac hcf hx2;go_upto_region 9 with (fail)
        clear d3 d17 f17 hmc;generalize hW4 : (W3.setCell ⟨wr.heap.size, 17, none⟩ (.bool true)) = W4 at *;generalize hY4 : (⟨x'.ad, x'.de, x'.ty, x'.ac, x'.re, x'.bk, x'.bn, x'.bs, x'.bi, x'.bl, x'.ak, x'.an, x'.at_, x'.ai, x'.al, x'.id, x'.rp, true, x'.pr, x'.im, x'.dp, x'.od⟩ : CV) = Y4 at *;obtain ⟨l3, l4⟩ := lies_blk HK4.out (cells22 Y4);have HW5 := hid (show Below W4.heap.size W4 (W4.alloc (.cells Y4.arr 31)) from (Below.refl _ _).alloc (Nat.le_refl _) _);have HO5 := hid (show (W4.alloc (.cells Y4.arr 31)).ownsRow w1.heap.size 31 22 (.slice rv ys.length cv) ys.length (ys.flatMap encCC) from own_keep HR.out.own fun q hq => ((HW5.out.block q (by have := (own_lt HR.out.own hq).2; have := HB4.out.size; omega)).trans (HB4.out.block q (own_lt HR.out.own hq).2)))
        have HY5 := hid (show (W4.alloc (.cells Y4.arr 31)).heap[W4.heap.size]? = some (.cells (([⟨Y4, prop1 ck true⟩] : List CC).flatMap encCC).toArray 31) from by
         rw [(MapKept.heap_alloc _ _).1];simp [encCC])
        have HC22 := hid (cells22 Y4);have hc22 := HC22.out;have hyn := HYL.out;have hn60 := HL60.out
        go_wp2_with (at_builtin
                     refine wpList_append_rows encCC encCC_len encCC_one Tryz.underlying22 HIN.out.1 HIN.out.2.1 (by omega) HIN.out.2.2 rfl _ _ rfl w1.heap.size _ ys rfl HO5.out W4.heap.size 1 1 [⟨Y4, prop1 ck true⟩] rfl (by omega) rfl (fr := (0, 0)) HY5.out (by omega) (by have := HB4.out.size; have := HZ.out; simp [World.setCell] at *; omega) ?_;intro g cap w6 p1 p2 p3 p4;have HP1 := hid p1;have HP2 := hid p2;have HP3 := hid p3;clear p1 p2 p3 p4)
        go_roundg (cs.length - (k + 1))
        case measure => omega
        case rel =>
         have p2 := HP2.out;have hb4 := HB4.out;have hmm := HM1.out;refine ⟨k + 1, ys ++ [⟨Y4, prop1 ck true⟩], by omega, by omega, by go_num, hid ?_, hid ?_, hid ?_, hid ?_, hid ?_⟩
         . have p1 := HP1.out
           rw [HYL.out] at p1;exact HR.out.push pCC_stays HZ.out (Below.refl _ _) hb4 HX4.out HW5.out p1 p2 HP3.out
         . rw [List.map_append, HE.out, HTK.out]; rfl
         . exact ((HK.out.below hb4).below HW5.out).grown p2 (fun e => by have := (own_lt HR.out.own e).1; omega)
         . exact Below.grown ((HB.out.trans (hb4.mono HB.out.size)).trans (HW5.out.mono (by have := HB.out.size; have := hb4.size; omega))) p2 (by have := HB.out.size; have := hb4.size; have := HW5.out.size; omega) (fun q hq => by have := (own_lt HR.out.own hq).1; have := HB1s.out; omega)
         . have := p2.size; have := HW5.out.size; have := hb4.size; have := HZ.out; omega
      . have hck3 : ¬ ck.act = 3 := by rw [<- hac]; exact ha
        have e3 : (x'.ac == 3) = false := by simpa using ha
        have HX4 := hid (show PCC (mask (fromB wr.heap.size) W3) ⟨x', prop1 ck true⟩ from cvR_stays (stays_wider fun b hb => by simp only [fromB, decide_eq_true_eq] at hb ⊢; omega) (show CvR (mask (fromB (wr.heap.size + 1)) W3) x' (prop1 ck true) from ⟨HP.out.1, HP.out.2.1, by show x'.cf = (ck.cf || (true && decide (ck.act = 3))); rw [hcf]; simp [hck3], HP.out.2.2.2⟩));have HK4 := hid HKF.out;have HB4 := hid HBF.out;clear hck3 hac hcf hx2 ha;go_upto_region 9 with (fail)
        clear d3 d17 f17 hmc;obtain ⟨l3, l4⟩ := lies_blk HK4.out (cells22 x');have HW5 := hid (show Below W3.heap.size W3 (W3.alloc (.cells x'.arr 31)) from (Below.refl _ _).alloc (Nat.le_refl _) _);have HO5 := hid (show (W3.alloc (.cells x'.arr 31)).ownsRow w1.heap.size 31 22 (.slice rv ys.length cv) ys.length (ys.flatMap encCC) from own_keep HR.out.own fun q hq => ((HW5.out.block q (by have := (own_lt HR.out.own hq).2; have := HB4.out.size; omega)).trans (HB4.out.block q (own_lt HR.out.own hq).2)))
        have HY5 := hid (show (W3.alloc (.cells x'.arr 31)).heap[W3.heap.size]? = some (.cells (([⟨x', prop1 ck true⟩] : List CC).flatMap encCC).toArray 31) from by
         rw [(MapKept.heap_alloc _ _).1];simp [encCC])
        have HC22 := hid (cells22 x');have hc22 := HC22.out;have hyn := HYL.out;have hn60 := HL60.out
        go_wp2_with (at_builtin
                     refine wpList_append_rows encCC encCC_len encCC_one Tryz.underlying22 HIN.out.1 HIN.out.2.1 (by omega) HIN.out.2.2 rfl _ _ rfl w1.heap.size _ ys rfl HO5.out W3.heap.size 1 1 [⟨x', prop1 ck true⟩] rfl (by omega) rfl (fr := (0, 0)) HY5.out (by omega) (by have := HB4.out.size; have := HZ.out; simp [World.setCell] at *; omega) ?_;intro g cap w6 p1 p2 p3 p4;have HP1 := hid p1;have HP2 := hid p2;have HP3 := hid p3;clear p1 p2 p3 p4)
        go_roundg (cs.length - (k + 1))
        case measure => omega
        case rel =>
         have p2 := HP2.out;have hb4 := HB4.out;have hmm := HM1.out;refine ⟨k + 1, ys ++ [⟨x', prop1 ck true⟩], by omega, by omega, by go_num, hid ?_, hid ?_, hid ?_, hid ?_, hid ?_⟩
         . have p1 := HP1.out
           rw [HYL.out] at p1;exact HR.out.push pCC_stays HZ.out (Below.refl _ _) hb4 HX4.out HW5.out p1 p2 HP3.out
         . rw [List.map_append, HE.out, HTK.out]; rfl
         . exact ((HK.out.below hb4).below HW5.out).grown p2 (fun e => by have := (own_lt HR.out.own e).1; omega)
         . exact Below.grown ((HB.out.trans (hb4.mono HB.out.size)).trans (HW5.out.mono (by have := HB.out.size; have := hb4.size; omega))) p2 (by have := HB.out.size; have := hb4.size; have := HW5.out.size; omega) (fun q hq => by have := (own_lt HR.out.own hq).1; have := HB1s.out; omega)
         . have := p2.size; have := HW5.out.size; have := hb4.size; have := HZ.out; omega
    | false =>
      rw [hh] at HTK hmc;have HX4 := hid (show PCC (mask (fromB wr.heap.size) W3) ⟨x', prop1 ck false⟩ from cvR_stays (stays_wider fun b hb => by simp only [fromB, decide_eq_true_eq] at hb ⊢; omega) (show CvR (mask (fromB (wr.heap.size + 1)) W3) x' (prop1 ck false) from ⟨HP.out.1, HP.out.2.1, by show x'.cf = (ck.cf || (false && decide (ck.act = 3))); rw [hcf]; simp, HP.out.2.2.2⟩));have HK4 := hid HKF.out;have HB4 := hid HBF.out;clear hac hcf hx2;go_upto_region 9 with (fail)
      clear d3 d17 f17 hmc;obtain ⟨l3, l4⟩ := lies_blk HK4.out (cells22 x');have HW5 := hid (show Below W3.heap.size W3 (W3.alloc (.cells x'.arr 31)) from (Below.refl _ _).alloc (Nat.le_refl _) _);have HO5 := hid (show (W3.alloc (.cells x'.arr 31)).ownsRow w1.heap.size 31 22 (.slice rv ys.length cv) ys.length (ys.flatMap encCC) from own_keep HR.out.own fun q hq => ((HW5.out.block q (by have := (own_lt HR.out.own hq).2; have := HB4.out.size; omega)).trans (HB4.out.block q (own_lt HR.out.own hq).2)))
      have HY5 := hid (show (W3.alloc (.cells x'.arr 31)).heap[W3.heap.size]? = some (.cells (([⟨x', prop1 ck false⟩] : List CC).flatMap encCC).toArray 31) from by
       rw [(MapKept.heap_alloc _ _).1];simp [encCC])
      have HC22 := hid (cells22 x');have hc22 := HC22.out;have hyn := HYL.out;have hn60 := HL60.out
      go_wp2_with (at_builtin
                   refine wpList_append_rows encCC encCC_len encCC_one Tryz.underlying22 HIN.out.1 HIN.out.2.1 (by omega) HIN.out.2.2 rfl _ _ rfl w1.heap.size _ ys rfl HO5.out W3.heap.size 1 1 [⟨x', prop1 ck false⟩] rfl (by omega) rfl (fr := (0, 0)) HY5.out (by omega) (by have := HB4.out.size; have := HZ.out; simp [World.setCell] at *; omega) ?_;intro g cap w6 p1 p2 p3 p4;have HP1 := hid p1;have HP2 := hid p2;have HP3 := hid p3;clear p1 p2 p3 p4)
      go_roundg (cs.length - (k + 1))
      case measure => omega
      case rel =>
       have p2 := HP2.out;have hb4 := HB4.out;have hmm := HM1.out;refine ⟨k + 1, ys ++ [⟨x', prop1 ck false⟩], by omega, by omega, by go_num, hid ?_, hid ?_, hid ?_, hid ?_, hid ?_⟩
       . have p1 := HP1.out
         rw [HYL.out] at p1;exact HR.out.push pCC_stays HZ.out (Below.refl _ _) hb4 HX4.out HW5.out p1 p2 HP3.out
       . rw [List.map_append, HE.out, HTK.out]; rfl
       . exact ((HK.out.below hb4).below HW5.out).grown p2 (fun e => by have := (own_lt HR.out.own e).1; omega)
       . exact Below.grown ((HB.out.trans (hb4.mono HB.out.size)).trans (HW5.out.mono (by have := HB.out.size; have := hb4.size; omega))) p2 (by have := HB.out.size; have := hb4.size; have := HW5.out.size; omega) (fun q hq => by have := (own_lt HR.out.own hq).1; have := HB1s.out; omega)
       . have := p2.size; have := HW5.out.size; have := hb4.size; have := HZ.out; omega
  . obtain rfl : k = cs.length := by omega
    have hyl := HYL.out
    have HF := hid (show Sl ChR 22 wr (.slice rv cs.length cv) (propL cs (fun k => hasN k sn)) from by
     have h1 := HR.out.sl (R := ChR) (β := Ch) (f := CC.c) pCC_stays encCC_len (fun w y (h : CvR w y.x y.c) => (⟨y.x, rfl, h⟩ : ChR w (encCC y) y.c));have h2 := sl_stays (stays_mask _ _) (fun cs x ⟨y, e1, e2⟩ => ⟨y, e1, cvR_stays (stays_mask _ _) e2⟩) h1;rw [HE.out, List.take_of_length_le (by rw [HPL.out]; exact Nat.le_refl _), hyl] at h2;exact h2)
    rw [hyl];go_wp2_with fail
    go_ret
    exact ⟨rv, cv, _, rfl, HCL.out, HF.out, HB.out⟩
end Go.Proofs.YtpnogmicfomofaaGreatDoor.Stp
