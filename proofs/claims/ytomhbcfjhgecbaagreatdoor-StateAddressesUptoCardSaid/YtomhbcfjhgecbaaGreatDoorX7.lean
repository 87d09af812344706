import Derived.Test.YtomhbcfjhgecbaaGreatDoorX6
import Derived.Test.YtomhbcfjhgecbaaGreatDoorX5
import Derived.Shelf.SlicesQ.Load
import Derived.Test.YtomhbcfjhgecbaaGreatDoorX3
set_option linter.unusedVariables false
set_option linter.unusedSimpArgs false
namespace Go.Proofs.YtomhbcfjhgecbaaGreatDoor
open Go.RowKit Go.Sort Go.Lib
open Go.Lib (hid)
open Stp (wp_region_fresh Spc Stb sVal sBool stTrue Lat Bef grw_below wpF_quiet wq grw_ex wpF_told wpF_put wpF_nil wpF_skip noEnter_op)
attribute [local go_sem] Stp.frUpon
attribute [local go_sem ↓] ldI_eq
attribute [local go_sem] ldI_run
attribute [local go_sem ↓] stI_eq
attribute [local go_sem] stI_run thereI_drew thereI_new put13_drew put13_new liesI_new rd13_new liesI_drew rd13_drew
def eqI (x y:Ins):Bool:=(x.ad.toList == y.ad.toList) && (x.de.toList == y.de.toList) && (x.id.toList == y.id.toList) && (x.ty.toList == y.ty.toList) && (x.ver == y.ver) && (x.ta == y.ta) && (x.cf == y.cf) && decide (x.dp=y.dp) && eqV x.at_ y.at_
set_option maxRecDepth 100000 in
set_option maxHeartbeats 16000000 in
theorem same_any (x y:Ins) (p q:Pt) (w:World) (hx:InsP w x p) (hy:InsP w y q) :
  Calls Tryz.prog 43 #[.agg (insA x p),.agg (insA y q)] w fun e w'=>e=.returned (.bool (eqI x y))/\Below w.heap.size w w':=by
 obtain ⟨W0,hW0,hb0,hz0,hc0,hc2⟩:=two_new' w (.cells (insA x p) 41) (.cells (insA y q) 41);have HW0:=hid hW0;have HB0:=hid hb0;have HLX:=hid (fun (W:World) (hW:Below W0.heap.size W0 W)=>show LiesI W w.heap.size 0/\rd13 W w.heap.size 0=#[.string x.ad,.string x.de,.string x.id,.string x.ty,.int .i64 x.at_.kind,.int .i64 x.at_.num,.string x.at_.str,.slice p.r x.at_.items.length p.c,.slice p.rk x.at_.keys.length p.ck,.int .i64 x.ver,.bool x.ta,.bool x.cf,.slice p.dr x.dp.length p.dc] from liesI_blk ((hW.block _ (by omega)).trans hc0) (cellsI x p));have HLY:=hid (fun (W:World) (hW:Below W0.heap.size W0 W)=>show LiesI W (w.heap.size+1) 0/\rd13 W (w.heap.size+1) 0=#[.string y.ad,.string y.de,.string y.id,.string y.ty,.int .i64 y.at_.kind,.int .i64 y.at_.num,.string y.at_.str,.slice q.r y.at_.items.length q.c,.slice q.rk y.at_.keys.length q.ck,.int .i64 y.ver,.bool y.ta,.bool y.cf,.slice q.dr y.dp.length q.dc] from liesI_blk ((hW.block _ (by omega)).trans hc2) (cellsI y q));have HPX:=hid (fun (W:World)=>show Calls Tryz.prog 33 #[.agg #[.string x.ad,.string x.de,.string x.id,.string x.ty,.int .i64 x.at_.kind,.int .i64 x.at_.num,.string x.at_.str,.slice p.r x.at_.items.length p.c,.slice p.rk x.at_.keys.length p.ck,.int .i64 x.ver,.bool x.ta,.bool x.cf,.slice p.dr x.dp.length p.dc]] W fun e w'=>e=.returned (.agg #[.string x.ad,.string x.de])/\Below W.heap.size W w' from placeOf_any x p W);have HPY:=hid (fun (W:World)=>show Calls Tryz.prog 33 #[.agg #[.string y.ad,.string y.de,.string y.id,.string y.ty,.int .i64 y.at_.kind,.int .i64 y.at_.num,.string y.at_.str,.slice q.r y.at_.items.length q.c,.slice q.rk y.at_.keys.length q.ck,.int .i64 y.ver,.bool y.ta,.bool y.cf,.slice q.dr y.dp.length q.dc]] W fun e w'=>e=.returned (.agg #[.string y.ad,.string y.de])/\Below W.heap.size W w' from placeOf_any y q W);have HD:=hid (fun (W:World) (hW:Below W0.heap.size W0 W)=>seq_any x.dp y.dp p.dr q.dr p.dc q.dc W ((hx.2.1.below strR_mono hb0).below strR_mono hW) ((hy.2.1.below strR_mono hb0).below strR_mono hW));have HV:=hid (fun (W:World) (hW:Below W0.heap.size W0 W)=>peq_any x.at_ y.at_ p.r p.c p.rk p.ck q.r q.c q.rk q.ck W ((hx.1.below hb0).below hW) ((hy.1.below hb0).below hW));have u2:W0.cell? ⟨w.heap.size,2,none⟩=some (.string x.id):=cellv hc0 2 rfl;have ku2:=fun d os=>cell_regrown u2 d os;have u3:W0.cell? ⟨w.heap.size,3,none⟩=some (.string x.ty):=cellv hc0 3 rfl;have ku3:=fun d os=>cell_regrown u3 d os;have u4:W0.cell? ⟨w.heap.size,4,none⟩=some (.int .i64 x.at_.kind):=cellv hc0 4 rfl;have ku4:=fun d os=>cell_regrown u4 d os;have u5:W0.cell? ⟨w.heap.size,5,none⟩=some (.int .i64 x.at_.num):=cellv hc0 5 rfl;have ku5:=fun d os=>cell_regrown u5 d os;have u6:W0.cell? ⟨w.heap.size,6,none⟩=some (.string x.at_.str):=cellv hc0 6 rfl;have ku6:=fun d os=>cell_regrown u6 d os;have u7:W0.cell? ⟨w.heap.size,7,none⟩=some (.slice p.r x.at_.items.length p.c):=cellv hc0 7 rfl;have ku7:=fun d os=>cell_regrown u7 d os;have u8:W0.cell? ⟨w.heap.size,8,none⟩=some (.slice p.rk x.at_.keys.length p.ck):=cellv hc0 8 rfl;have ku8:=fun d os=>cell_regrown u8 d os;have u9:W0.cell? ⟨w.heap.size,9,none⟩=some (.int .i64 x.ver):=cellv hc0 9 rfl;have ku9:=fun d os=>cell_regrown u9 d os;have u10:W0.cell? ⟨w.heap.size,10,none⟩=some (.bool x.ta):=cellv hc0 10 rfl;have ku10:=fun d os=>cell_regrown u10 d os;have u11:W0.cell? ⟨w.heap.size,11,none⟩=some (.bool x.cf):=cellv hc0 11 rfl;have ku11:=fun d os=>cell_regrown u11 d os;have u12:W0.cell? ⟨w.heap.size,12,none⟩=some (.slice p.dr x.dp.length p.dc):=cellv hc0 12 rfl;have ku12:=fun d os=>cell_regrown u12 d os;have v2:W0.cell? ⟨w.heap.size+1,2,none⟩=some (.string y.id):=cellv hc2 2 rfl;have kv2:=fun d os=>cell_regrown v2 d os;have v3:W0.cell? ⟨w.heap.size+1,3,none⟩=some (.string y.ty):=cellv hc2 3 rfl;have kv3:=fun d os=>cell_regrown v3 d os;have v4:W0.cell? ⟨w.heap.size+1,4,none⟩=some (.int .i64 y.at_.kind):=cellv hc2 4 rfl;have kv4:=fun d os=>cell_regrown v4 d os;have v5:W0.cell? ⟨w.heap.size+1,5,none⟩=some (.int .i64 y.at_.num):=cellv hc2 5 rfl;have kv5:=fun d os=>cell_regrown v5 d os;have v6:W0.cell? ⟨w.heap.size+1,6,none⟩=some (.string y.at_.str):=cellv hc2 6 rfl;have kv6:=fun d os=>cell_regrown v6 d os;have v7:W0.cell? ⟨w.heap.size+1,7,none⟩=some (.slice q.r y.at_.items.length q.c):=cellv hc2 7 rfl;have kv7:=fun d os=>cell_regrown v7 d os;have v8:W0.cell? ⟨w.heap.size+1,8,none⟩=some (.slice q.rk y.at_.keys.length q.ck):=cellv hc2 8 rfl;have kv8:=fun d os=>cell_regrown v8 d os;have v9:W0.cell? ⟨w.heap.size+1,9,none⟩=some (.int .i64 y.ver):=cellv hc2 9 rfl;have kv9:=fun d os=>cell_regrown v9 d os;have v10:W0.cell? ⟨w.heap.size+1,10,none⟩=some (.bool y.ta):=cellv hc2 10 rfl;have kv10:=fun d os=>cell_regrown v10 d os;have v11:W0.cell? ⟨w.heap.size+1,11,none⟩=some (.bool y.cf):=cellv hc2 11 rfl;have kv11:=fun d os=>cell_regrown v11 d os;have v12:W0.cell? ⟨w.heap.size+1,12,none⟩=some (.slice q.dr y.dp.length q.dc):=cellv hc2 12 rfl;have kv12:=fun d os=>cell_regrown v12 d os;obtain ⟨a1,h1⟩:∃ e,(x.ad.toList == y.ad.toList)=e:=⟨_,rfl⟩;obtain ⟨b1,h2⟩:∃ e,(x.de.toList == y.de.toList)=e:=⟨_,rfl⟩;obtain ⟨e2,h3⟩:∃ e,(x.id.toList == y.id.toList)=e:=⟨_,rfl⟩;obtain ⟨e3,h4⟩:∃ e,(x.ty.toList == y.ty.toList)=e:=⟨_,rfl⟩;obtain ⟨e4,h5⟩:∃ e,(x.ver == y.ver)=e:=⟨_,rfl⟩;obtain ⟨e5,h6⟩:∃ e,(x.ta == y.ta)=e:=⟨_,rfl⟩;obtain ⟨e6,h7⟩:∃ e,(x.cf == y.cf)=e:=⟨_,rfl⟩;obtain ⟨e7,h8⟩:∃ e,decide (x.dp=y.dp)=e:=⟨_,rfl⟩;obtain ⟨e8,h9⟩:∃ e,eqV x.at_ y.at_=e:=⟨_,rfl⟩;have HQ:eqI x y=(a1 && b1 && e2 && e3 && e4 && e5 && e6 && e7 && e8):=by unfold eqI;rw [h1,h2,h3,h4,h5,h6,h7,h8,h9]
 rw [HQ];rw [h8] at HD;rw [h9] at HV;clear hx hy hc0 hc2 hz0 hb0 hW0 h8 h9 HQ;unfold insA;go_enter Tryz.func43,Tryz.ntmps43;go_upto_region 1 with (fail)
 have hW0:=HW0.out;unfold insA at hW0;rw [<-hW0];clear hW0 HW0;refine wp_region_fresh (fun k=>match k with | 0=>some (sVal (.agg #[.string x.ad,.string x.de,.string x.id,.string x.ty,.int .i64 x.at_.kind,.int .i64 x.at_.num,.string x.at_.str,.slice p.r x.at_.items.length p.c,.slice p.rk x.at_.keys.length p.ck,.int .i64 x.ver,.bool x.ta,.bool x.cf,.slice p.dr x.dp.length p.dc])) | 1=>some (sVal (.agg #[.string x.ad,.string x.de])) | 2=>some (sVal (.agg #[.string y.ad,.string y.de,.string y.id,.string y.ty,.int .i64 y.at_.kind,.int .i64 y.at_.num,.string y.at_.str,.slice q.r y.at_.items.length q.c,.slice q.rk y.at_.keys.length q.ck,.int .i64 y.ver,.bool y.ta,.bool y.cf,.slice q.dr y.dp.length q.dc])) | 3=>some (sVal (.agg #[.string y.ad,.string y.de])) | 45=>some (sBool e7) | 52=>some (sBool e8) | _=>none) (by kernel_rfl) (by kernel_rfl) ?_;refine wpF_told (sVal (.agg #[.string x.ad,.string x.de,.string x.id,.string x.ty,.int .i64 x.at_.kind,.int .i64 x.at_.num,.string x.at_.str,.slice p.r x.at_.items.length p.c,.slice p.rk x.at_.keys.length p.ck,.int .i64 x.ver,.bool x.ta,.bool x.cf,.slice p.dr x.dp.length p.dc])) (by kernel_rfl) rfl ⟨_,rfl⟩ stTrue (fun w4 hw4 hE4=>?_) ?_
 . have hb4:=grw_below hw4
   obtain ⟨l1,l2⟩:=HLX.out w4 hb4;clear hw4 hE4 hb4;go_simp
   exact ⟨Lat.refl _,rfl,trivial⟩
 rintro _ rfl
 (refine wpF_put ?_;intro K hK;go_simp;refine hK _ ?_;clear hK K)
 refine wpF_told (sVal (.agg #[.string x.ad,.string x.de])) (by kernel_rfl) rfl ⟨_,rfl⟩ stTrue (fun w4 hw4 hE4=>?_) ?_
 . have hb4:=grw_below hw4
   have hh:=HPX.out w4;clear hw4 hE4 hb4;go_simp
   go_at_call 33;refine Calls.mono hh ?_;rintro e w5 ⟨rfl,hb5⟩;exact ⟨_,rfl,hb5,rfl,trivial⟩
 rintro _ rfl
 (refine wpF_put ?_;intro K hK;go_simp;refine hK _ ?_;clear hK K)
 refine wpF_told (sVal (.agg #[.string y.ad,.string y.de,.string y.id,.string y.ty,.int .i64 y.at_.kind,.int .i64 y.at_.num,.string y.at_.str,.slice q.r y.at_.items.length q.c,.slice q.rk y.at_.keys.length q.ck,.int .i64 y.ver,.bool y.ta,.bool y.cf,.slice q.dr y.dp.length q.dc])) (by kernel_rfl) rfl ⟨_,rfl⟩ stTrue (fun w4 hw4 hE4=>?_) ?_
 . have hb4:=grw_below hw4
   obtain ⟨l1,l2⟩:=HLY.out w4 hb4;clear hw4 hE4 hb4;go_simp
   exact ⟨Lat.refl _,rfl,trivial⟩
 rintro _ rfl
 (refine wpF_put ?_;intro K hK;go_simp;refine hK _ ?_;clear hK K)
 refine wpF_told (sVal (.agg #[.string y.ad,.string y.de])) (by kernel_rfl) rfl ⟨_,rfl⟩ stTrue (fun w4 hw4 hE4=>?_) ?_
 . have hb4:=grw_below hw4
   have hh:=HPY.out w4;clear hw4 hE4 hb4;go_simp
   go_at_call 33;refine Calls.mono hh ?_;rintro e w5 ⟨rfl,hb5⟩;exact ⟨_,rfl,hb5,rfl,trivial⟩
 rintro _ rfl
 (refine wpF_put ?_;intro K hK;go_simp;refine hK _ ?_;clear hK K)
 cases a1 with
 | false =>
   iterate 2 (refine wq ?_;intro K hK;go_big_quiet_op;go_big_quiet_on)
   iterate 7 ((iterate 5 (refine wpF_skip (by kernel_rfl) ?_));(refine wpF_put ?_;intro K hK;go_simp;refine hK _ ?_;clear hK K);iterate 2 (refine wq ?_;intro K hK;go_big_quiet_op;go_big_quiet_on))
   refine wpF_nil ?_;intro w6 hw6 hE6;have hb6:=grw_below hw6;clear hw6 hE6;have HB6:=hid (HB0.out.trans (hb6.mono HB0.out.size));clear hb6;go_wp2_with fail
   go_ret
   exact ⟨rfl,HB6.out⟩
 | true =>
 cases b1 with
 | false =>
   iterate 2 (refine wq ?_;intro K hK;go_big_quiet_op;go_big_quiet_on)
   iterate 7 ((iterate 5 (refine wpF_skip (by kernel_rfl) ?_));(refine wpF_put ?_;intro K hK;go_simp;refine hK _ ?_;clear hK K);iterate 2 (refine wq ?_;intro K hK;go_big_quiet_op;go_big_quiet_on))
   refine wpF_nil ?_;intro w6 hw6 hE6;have hb6:=grw_below hw6;clear hw6 hE6;have HB6:=hid (HB0.out.trans (hb6.mono HB0.out.size));clear hb6;go_wp2_with fail
   go_ret
   exact ⟨rfl,HB6.out⟩
 | true =>
 iterate 2 (refine wq ?_;intro K hK;go_big_quiet_op;go_big_quiet_on)
 iterate 7 (refine wq ?_;intro K hK;go_big_quiet_op;go_big_quiet_on)
 cases e2 with
 | false =>
   iterate 6 ((iterate 5 (refine wpF_skip (by kernel_rfl) ?_));(refine wpF_put ?_;intro K hK;go_simp;refine hK _ ?_;clear hK K);iterate 2 (refine wq ?_;intro K hK;go_big_quiet_op;go_big_quiet_on))
   refine wpF_nil ?_;intro w6 hw6 hE6;have hb6:=grw_below hw6;clear hw6 hE6;have HB6:=hid (HB0.out.trans (hb6.mono HB0.out.size));clear hb6;go_wp2_with fail
   go_ret
   exact ⟨rfl,HB6.out⟩
 | true =>
 iterate 7 (refine wq ?_;intro K hK;go_big_quiet_op;go_big_quiet_on)
 cases e3 with
 | false =>
   iterate 5 ((iterate 5 (refine wpF_skip (by kernel_rfl) ?_));(refine wpF_put ?_;intro K hK;go_simp;refine hK _ ?_;clear hK K);iterate 2 (refine wq ?_;intro K hK;go_big_quiet_op;go_big_quiet_on))
   refine wpF_nil ?_;intro w6 hw6 hE6;have hb6:=grw_below hw6;clear hw6 hE6;have HB6:=hid (HB0.out.trans (hb6.mono HB0.out.size));clear hb6;go_wp2_with fail
   go_ret
   exact ⟨rfl,HB6.out⟩
 | true =>
 iterate 7 (refine wq ?_;intro K hK;go_big_quiet_op;go_big_quiet_on)
 cases e4 with
 | false =>
   iterate 4 ((iterate 5 (refine wpF_skip (by kernel_rfl) ?_));(refine wpF_put ?_;intro K hK;go_simp;refine hK _ ?_;clear hK K);iterate 2 (refine wq ?_;intro K hK;go_big_quiet_op;go_big_quiet_on))
   refine wpF_nil ?_;intro w6 hw6 hE6;have hb6:=grw_below hw6;clear hw6 hE6;have HB6:=hid (HB0.out.trans (hb6.mono HB0.out.size));clear hb6;go_wp2_with fail
   go_ret
   exact ⟨rfl,HB6.out⟩
 | true =>
 iterate 7 (refine wq ?_;intro K hK;go_big_quiet_op;go_big_quiet_on)
 cases e5 with
 | false =>
   iterate 3 ((iterate 5 (refine wpF_skip (by kernel_rfl) ?_));(refine wpF_put ?_;intro K hK;go_simp;refine hK _ ?_;clear hK K);iterate 2 (refine wq ?_;intro K hK;go_big_quiet_op;go_big_quiet_on))
   refine wpF_nil ?_;intro w6 hw6 hE6;have hb6:=grw_below hw6;clear hw6 hE6;have HB6:=hid (HB0.out.trans (hb6.mono HB0.out.size));clear hb6;go_wp2_with fail
   go_ret
   exact ⟨rfl,HB6.out⟩
 | true =>
 iterate 7 (refine wq ?_;intro K hK;go_big_quiet_op;go_big_quiet_on)
 cases e6 with
 | false =>
   iterate 2 ((iterate 5 (refine wpF_skip (by kernel_rfl) ?_));(refine wpF_put ?_;intro K hK;go_simp;refine hK _ ?_;clear hK K);iterate 2 (refine wq ?_;intro K hK;go_big_quiet_op;go_big_quiet_on))
   refine wpF_nil ?_;intro w6 hw6 hE6;have hb6:=grw_below hw6;clear hw6 hE6;have HB6:=hid (HB0.out.trans (hb6.mono HB0.out.size));clear hb6;go_wp2_with fail
   go_ret
   exact ⟨rfl,HB6.out⟩
 | true =>
 iterate 4 (refine wq ?_;intro K hK;go_big_quiet_op;go_big_quiet_on)
 refine wpF_told (sBool e7) (by kernel_rfl) rfl ⟨_,rfl⟩ stTrue (fun w4 hw4 hE4=>?_) ?_
 . have hb4:=grw_below hw4
   have hh:=HD.out w4 hb4;clear hw4 hE4 hb4;go_simp
   go_at_call 87;refine Calls.mono hh ?_;rintro e w5 ⟨rfl,hb5⟩;exact ⟨_,rfl,hb5,rfl,trivial⟩
 rintro _ rfl
 (refine wpF_put ?_;intro K hK;go_simp;refine hK _ ?_;clear hK K)
 iterate 2 (refine wq ?_;intro K hK;go_big_quiet_op;go_big_quiet_on)
 cases e7 with
 | false =>
   iterate 1 ((iterate 5 (refine wpF_skip (by kernel_rfl) ?_));(refine wpF_put ?_;intro K hK;go_simp;refine hK _ ?_;clear hK K);iterate 2 (refine wq ?_;intro K hK;go_big_quiet_op;go_big_quiet_on))
   refine wpF_nil ?_;intro w6 hw6 hE6;have hb6:=grw_below hw6;clear hw6 hE6;have HB6:=hid (HB0.out.trans (hb6.mono HB0.out.size));clear hb6;go_wp2_with fail
   go_ret
   exact ⟨rfl,HB6.out⟩
 | true =>
 iterate 4 (refine wq ?_;intro K hK;go_big_quiet_op;go_big_quiet_on)
 refine wpF_told (sBool e8) (by kernel_rfl) rfl ⟨_,rfl⟩ stTrue (fun w4 hw4 hE4=>?_) ?_
 . have hb4:=grw_below hw4
   have hh:=HV.out w4 hb4;clear hw4 hE4 hb4;go_simp
   go_at_call 46;refine Calls.mono hh ?_;rintro e w5 ⟨rfl,hb5⟩;exact ⟨_,rfl,hb5,rfl,trivial⟩
 rintro _ rfl
 (refine wpF_put ?_;intro K hK;go_simp;refine hK _ ?_;clear hK K)
 iterate 2 (refine wq ?_;intro K hK;go_big_quiet_op;go_big_quiet_on)
 refine wpF_nil ?_;intro w6 hw6 hE6;have hb6:=grw_below hw6;clear hw6 hE6;have HB6:=hid (HB0.out.trans (hb6.mono HB0.out.size));clear hb6;go_wp2_with fail
 go_ret
 exact ⟨rfl,HB6.out⟩
end Go.Proofs.YtomhbcfjhgecbaaGreatDoor
namespace Go.Proofs.YtomhbcfjhgecbaaGreatDoor
open Go.RowKit Go.Sort Go.Lib
open Go.Lib (hid)
open Adr (WT)
theorem ut_of {w:World} (h:WT w):UT w:=h.u
theorem ne_empty {s:ByteArray} (h:s≠⟨#[]⟩):s.toList.isEmpty=false:=by
 cases hh:s.toList.isEmpty with
 | false=>rfl
 | true =>
   rw [List.isEmpty_iff,ByteArray.toList_eq] at hh;exact absurd (ba_ext (by rw [hh])) h
def txB (s:ByteArray):Bool:=decide (s≠⟨#[]⟩) && (decide (s.size<=4096) && vU s)
theorem pvalidL_any (s:ByteArray) (w:World) (hs:4096 < s.size):Calls Tryz.prog 76 #[.string s] w fun e w'=>e=.returned (.bool false)/\w=w':=by
 have hz:¬ (s.size:Int)<=4096:=by omega
 have hz2:(4096:Int) < (s.size:Int):=by omega
 go_enter Tryz.func76,Tryz.ntmps76;go_wp2
 go_ret
 exact ⟨rfl,rfl⟩
theorem text_any (s:ByteArray) (w:World) (hu:UT w):Calls Tryz.prog 31 #[.string s] w fun e w'=>e=.returned (.bool (txB s))/\Below w.heap.size w w':=by
 by_cases h0:s=⟨#[]⟩
 . subst h0
   go_enter Tryz.func31,Tryz.ntmps31;go_wp2
   go_ret
   exact ⟨rfl,Below.refl _ _⟩
 have n1:=ne_empty h0
 have HC:Hid (Calls Tryz.prog 76 #[.string s] w fun e w'=>e=.returned (.bool (txB s))/\Below w.heap.size w w'):=by
  by_cases h1:s.size<=4096
  . exact hid ((pvalid_any s w hu h1).mono fun e w' h=>by rw [show txB s=vU s by unfold txB;simp [h0,h1]];exact h)
  . exact hid ((pvalidL_any s w (by omega)).mono fun e w' h=>by rw [show txB s=false by unfold txB;simp [h1]];exact ⟨h.1,h.2 ▸ Below.refl _ _⟩)
 clear hu h0;generalize txB s=v at *;go_enter Tryz.func31,Tryz.ntmps31;go_wp2_with (go_at_call 76;refine HC.out.mono ?_;rintro e w1 ⟨rfl,hb1⟩;have HB:=hid hb1;clear hb1)
 go_ret
 exact ⟨rfl,HB.out⟩
def mgT (l:List UInt8):Option (List UInt8):=if Adr.prE l=0 then (match Adr.prR l with | some (_,some (false,ty,_,_))=>some ty | _=>none) else none
def mgB (s t:ByteArray):Bool:=decide (mgT s.data.toList=some t.data.toList)
theorem mgT_no {l:List UInt8} (h:Adr.prE l≠0):mgT l=none:=if_neg h
theorem mgT_data {l:List UInt8} {xs:List Adr.MS} {ty nm:List UInt8} {k:Adr.KeyT} (h0:Adr.prE l=0) (h:Adr.Addr0 l xs true ty nm k):mgT l=none:=by
 unfold mgT;rw [if_pos h0,h.pr]
theorem mgT_ok {l:List UInt8} {xs:List Adr.MS} {ty nm:List UInt8} {k:Adr.KeyT} (h0:Adr.prE l=0) (h:Adr.Addr0 l xs false ty nm k):mgT l=some ty:=by
 unfold mgT;rw [if_pos h0,h.pr]
theorem some_arr (ty:List UInt8) (t:ByteArray):decide (some ty=some t.data.toList)=(ty == t.toList):=by
 rw [ByteArray.toList_eq]
 by_cases h:ty=t.data.toList
 . subst h;simp
 . rw [beq_eq_false_iff_ne.2 h]
   exact decide_eq_false (fun e=>h (Option.some.inj e))
set_option maxHeartbeats 4000000 in
theorem managed_any (s t:ByteArray) (w:World) (hT:WT w) (hs:s.size<=2000000):Calls Tryz.prog 35 #[.string s,.string t] w fun e w'=>e=.returned (.bool (mgB s t))/\Below w.heap.size w w':=by
 by_cases h0:Adr.prE s.data.toList=0
 . obtain ⟨xs,d,ty,nm,k,hA⟩:=Adr.addr_of h0
   have HC:=hid (Adr.parse_ok s w hT hs hA h0)
   have hB:mgB s t=(!d && (ty == t.toList)):=by
    unfold mgB;cases d with
    | true=>rw [mgT_data h0 hA];simp
    | false=>rw [mgT_ok h0 hA,some_arr];rfl
   rw [hB];clear hT hs hA hB h0;unfold Adr.PaOk Adr.aV at HC;cases d
   all_goals
    go_enter Tryz.func35,Tryz.ntmps35;go_wp2_with (go_at_call 52;refine HC.out.mono ?_;rintro e w1 ⟨v1,rfl,ho1,hb1⟩;obtain ⟨r1,c1,rfl,_,_⟩:=own_form ho1;have HB1:=hid hb1;clear hb1 ho1)
    go_ret
    exact ⟨rfl,HB1.out.trans (((Below.refl _ _).alloc (Nat.le_refl _) _).mono HB1.out.size)⟩
 . have HC:=hid (Adr.parse_no s w hT hs h0)
   rw [show mgB s t=false by unfold mgB;rw [mgT_no h0];rfl];have hn:(Adr.prE s.data.toList != 0)=true:=by simp [h0]
   have hn2:(Adr.prE s.data.toList == 0)=false:=by simp [h0]
   clear h0 hT hs;generalize Adr.prE s.data.toList=E at *;unfold Adr.ad0 at HC;go_enter Tryz.func35,Tryz.ntmps35;go_wp2_with (go_at_call 52;refine HC.out.mono ?_;rintro e w1 ⟨rfl,hb1⟩;have HB1:=hid hb1;clear hb1)
   go_ret
   exact ⟨rfl,HB1.out.trans (((Below.refl _ _).alloc (Nat.le_refl _) _).mono HB1.out.size)⟩
def dkB (s:ByteArray):Bool:=decide ((Adr.numS s.data.toList).2=0) && decide (1<=(Adr.numS s.data.toList).1)
theorem key_any (s:ByteArray) (w:World) (hT:WT w) (hs:s.size<=2000000):Calls Tryz.prog 77 #[.string s] w fun e w'=>e=.returned (.bool (dkB s))/\Below w.heap.size w w':=by
 have HC:=hid (Adr.pnum_any s w hT hs);unfold dkB;unfold Adr.NmR at HC;generalize Adr.numS s.data.toList=N at *;obtain ⟨n,e⟩:=N;dsimp only at *;clear hT hs
 by_cases h0:e=0
 . subst h0
   by_cases h1:1<=n
   . have HF:=hid (show (decide ((0:Int)=0) && decide (1<=n))=true by simp [h1])
     rw [HF.out];go_enter Tryz.func77,Tryz.ntmps77;go_wp2_with (go_at_call 120;refine HC.out.mono ?_;rintro e w1 ⟨rfl,hb1⟩;have HB1:=hid hb1;clear hb1)
     go_ret
     exact ⟨rfl,HB1.out⟩
   . have HF:=hid (show (decide ((0:Int)=0) && decide (1<=n))=false by simp [h1])
     rw [HF.out];have H1:=hid h1;clear h1;go_enter Tryz.func77,Tryz.ntmps77;go_wp2_with (go_at_call 120;refine HC.out.mono ?_;rintro e w1 ⟨rfl,hb1⟩;have HB1:=hid hb1;clear hb1)
     go_ret
     exact ⟨ret_bool (by simpa using H1.out),HB1.out⟩
 . have HF:=hid (show (decide (e=0) && decide (1<=n))=false by simp [h0])
   have h2:(e == 0)=false:=by simp [h0]
   have h3:(e != 0)=true:=by simp [h0]
   rw [HF.out];clear h0;go_enter Tryz.func77,Tryz.ntmps77;go_wp2_with (go_at_call 120;refine HC.out.mono ?_;rintro e w1 ⟨rfl,hb1⟩;have HB1:=hid hb1;clear hb1)
   go_ret
   exact ⟨rfl,HB1.out⟩
end Go.Proofs.YtomhbcfjhgecbaaGreatDoor
namespace Go.Proofs.YtomhbcfjhgecbaaGreatDoor
open Go.RowKit Go.Sort Go.Lib
def fstE (n:Nat) (e:Nat->Int):Int:=match (List.range n).find? (fun j=>decide (e j≠0)) with
 | some j=>e j
 | none=>0
theorem fstE_at {n k:Nat} {e:Nat->Int} (hk:k < n) (h:∀ j,j < k->e j=0) (he:e k≠0):fstE n e=e k:=by
 unfold fstE
 have:(List.range n).find? (fun j=>decide (e j≠0))=some k:=by
  rw [List.find?_range_eq_some];refine ⟨by simpa using he,by simpa using hk,fun j hj=>?_⟩;simp [h j hj]
 rw [this]
theorem fstE_none {n:Nat} {e:Nat->Int} (h:∀ j,j < n->e j=0):fstE n e=0:=by
 unfold fstE
 have:(List.range n).find? (fun j=>decide (e j≠0))=none:=by
  rw [List.find?_range_eq_none];intro j hj;simp [h j hj]
 rw [this]
theorem fstE_zero {n:Nat} {e:Nat->Int} (h:fstE n e=0):∀ j,j < n->e j=0:=by
 unfold fstE at h;cases hf:(List.range n).find? (fun j=>decide (e j≠0)) with
 | none =>
   rw [List.find?_range_eq_none] at hf;intro j hj;simpa using hf j hj
 | some k =>
   rw [hf] at h;have:=List.find?_some hf;simp at this;exact absurd h this
def ltL (a b:ByteArray):Bool:=decide (a.data.toList < b.data.toList)
theorem lessL (a b:ByteArray):Op.bytesLess a.toList b.toList=ltL a b:=by
 rw [Go.Proofs.bytesLess_eq,ByteArray.toList_eq,ByteArray.toList_eq];rfl
theorem ltL_iff {a b:ByteArray} : ltL a b=true ↔ ltT a b:=by unfold ltL ltT;rw [cmpS_neg,decide_eq_true_eq]
theorem ltL_leq (a b:ByteArray):(Op.bytesLess a.toList b.toList || (a.toList == b.toList))=!ltL b a:=by
 rw [lessL];rcases ordT.tri a b with h | h | h
 . rw [ltL_iff.2 h]
   have:ltL b a=false:=by rw [Bool.eq_false_iff];intro e;exact ordT.asym h (ltL_iff.1 e)
   rw [this];rfl
 . subst h
   have:ltL a a=false:=by rw [Bool.eq_false_iff];intro e;exact ordT.irr _ (ltL_iff.1 e)
   rw [this];simp
 . rw [ltL_iff.2 h]
   have h1:ltL a b=false:=by rw [Bool.eq_false_iff];intro e;exact ordT.asym h (ltL_iff.1 e)
   have h2:a≠b:=fun e=>ordT.irr b (e ▸ h);rw [h1,str_ne h2];rfl
def stB1 (s:ByteArray):Bool:=decide (Adr.prE s.data.toList=0) && decide (Adr.stcB s.data.toList=s.data.toList)
def depE (l:List ByteArray) (j:Nat):Int:=if stB1 (l.getD j ⟨#[]⟩) && (decide (j=0) || ltL (l.getD (j - 1) ⟨#[]⟩) (l.getD j ⟨#[]⟩)) then 0 else 1
def depsB (l:List ByteArray):Bool:=decide (fstE l.length (depE l)=0)
def insC (x:Ins):Int:=
 if (mgB x.ad x.ty && (decide (x.de=⟨#[]⟩) || dkB x.de) && txB x.id)=false then 1
 else if checkV vU x.at_≠0 then checkV vU x.at_
 else if x.at_.kind≠5 then 6
 else if knownV x.at_=false then 11
 else if x.ver < 1 ∨ 9007199254740992 < x.ver then 5
 else if depsB x.dp=false then 1 else 0
def inZ:Ins:=⟨⟨#[]⟩,⟨#[]⟩,⟨#[]⟩,⟨#[]⟩,.mk 0 0 ⟨#[]⟩ [] [],0,false,false,[]⟩
def insE (l:List Ins) (j:Nat):Int:=if insC (l.getD j inZ)≠0 then insC (l.getD j inZ) else if j≠0/\0<=cmpP (plOf (l.getD (j - 1) inZ)) (plOf (l.getD j inZ)) then 1 else 0
def pnZ:Pnd:=⟨⟨#[]⟩,⟨#[]⟩,⟨#[]⟩⟩
def penB (p:Pnd):Bool:=txB p.tok && mgB p.ad p.ty
def penE (l:List Pnd) (j:Nat):Int:=if penB (l.getD j pnZ) && (decide (j=0) || ltL (l.getD (j - 1) pnZ).tok (l.getD j pnZ).tok) then 0 else 1
def outC (o:Sou):Int:=if Adr.idB o.nm.data.toList=false then 7 else if checkV vU o.v≠0 then checkV vU o.v else if knownV o.v=false then 11 else 0
def ouZ:Sou:=⟨⟨#[]⟩,.mk 0 0 ⟨#[]⟩ [] [],false⟩
def outE (l:List Sou) (j:Nat):Int:=if outC (l.getD j ouZ)≠0 then outC (l.getD j ouZ) else if j≠0/\ltL (l.getD (j - 1) ouZ).nm (l.getD j ouZ).nm=false then 1 else 0
def chkS (s:Sta):Int:=
 if txB s.lin=false then 1
 else if s.ser < 0 ∨ 9007199254740992 < s.ser then 5
 else if 512 < s.ins.length ∨ 512 < s.pen.length ∨ 512 < s.out.length then 14
 else if fstE s.ins.length (insE s.ins)≠0 then fstE s.ins.length (insE s.ins)
 else if fstE s.pen.length (penE s.pen)≠0 then fstE s.pen.length (penE s.pen)
 else fstE s.out.length (outE s.out)
end Go.Proofs.YtomhbcfjhgecbaaGreatDoor
namespace Go.Proofs.YtomhbcfjhgecbaaGreatDoor
open Go.RowKit Go.Sort Go.Lib
open Go.Lib (hid)
open Adr (WT)
attribute [local go_sem] Stp.frUpon
attribute [local go_sem ↓] ldI_eq
attribute [local go_sem] ldI_run
attribute [local go_sem ↓] stI_eq
attribute [local go_sem] stI_run thereI_drew thereI_new put13_drew put13_new liesI_new rd13_new liesI_drew rd13_drew
theorem getD_at {α:Type} {l:List α} {k:Nat} (z:α) (h:k < l.length):l.getD k z=l[k]:=by rw [List.getD_eq_getElem?_getD,List.getElem?_eq_getElem h];rfl
set_option maxHeartbeats 4000000 in
theorem statics_any (l:List ByteArray) (r:Option Addr) (c:Nat) (w:World) (hT:WT w) (h:Sl StrR 1 w (.slice r l.length c) l) (hs:∀ x∈l,x.size<=2000000) :
  Calls Tryz.prog 80 #[.slice r l.length c] w fun e w'=>e=.returned (.bool (depsB l))/\Below w.heap.size w w':=by
 obtain ⟨_,hlc,hlm⟩:=sl_len h;have HL:=hid (fun (W:World) (hW:Below w.heap.size w W)=>str_at (h.below strR_mono hW));have HST:=hid (fun (x:ByteArray) (hx:x∈l) (W:World) (hW:Below w.heap.size w W)=>Adr.pstatic_any x W (hT.below hW) (hs x hx));have HE:=hid (fun (k:Nat) (hk:k < l.length)=>show depE l k=if stB1 l[k] && (decide (k=0) || ltL (l.getD (k - 1) ⟨#[]⟩) l[k]) then 0 else 1 from by unfold depE;rw [getD_at _ hk]);have HN:=hid (fun (k:Nat) (hk:k < l.length) (h1:∀ j,j < k->depE l j=0) (h2:depE l k=1)=>show depsB l=false from by unfold depsB;rw [fstE_at hk h1 (by rw [h2];decide),h2];rfl);have HY:=hid (fun (h1:∀ j,j < l.length->depE l j=0)=>show depsB l=true from by unfold depsB;rw [fstE_none h1];rfl);clear hT h hs;generalize depsB l=R at *;go_enter Tryz.func80,Tryz.ntmps80;go_wp2
 go_loopg [9] l.length (fun gg s9 wr=>∃ k:Nat,k<=l.length/\l.length - k<=gg/\s9=.int .i64 k/\Hid (Below w.heap.size w wr)/\Hid (∀ j,j < k->depE l j=0))
 case atStart=>exact ⟨0,Nat.zero_le _,by omega,rfl,hid (Below.refl _ _),hid fun j h=>absurd h (by omega)⟩
 case round =>
  obtain ⟨k,hk,hg,rfl,BW2,AL⟩:=hrel
  by_cases hlt:k < l.length
  case pos =>
   have hltz:(k:Int) < (l.length:Int):=by omega
   obtain ⟨b,off,rfl,hb,g0,_⟩:=HL.out wr BW2.out k hlt;have HC:=hid (fun (W:World) (hW:Below w.heap.size w W)=>HST.out l[k] (List.getElem_mem hlt) W hW);have HEk:=hid (HE.out k hlt);have HNk:=hid (HN.out k hlt AL.out)
   have HYk:=hid (fun (h:depE l k=0)=>show Hid (∀ j,j < k+1->depE l j=0) from hid fun j hj=>by
    by_cases e:j < k
    . exact AL.out j e
    . obtain rfl:j=k:=by omega
      exact h)
   by_cases hp:Adr.prE l[k].data.toList=0
   case neg =>
    have HF:=hid (HNk.out (by rw [HEk.out];unfold stB1;simp [hp]));have e1:(Adr.prE l[k].data.toList != 0)=true:=by simp [hp]
    have e2:(Adr.prE l[k].data.toList == 0)=false:=by simp [hp]
    clear hp HEk HNk HYk;generalize Adr.prE l[k].data.toList=E at *;generalize l[k]=x at *;go_wp2_with (go_at_call 125;refine (HC.out _ BW2.out).mono ?_;rintro e w1 ⟨rfl,hb1⟩;have HB1:=hid hb1;clear hb1)
    go_ret
    exact ⟨ret_bool HF.out,BW2.out.trans (HB1.out.mono BW2.out.size)⟩
   case pos =>
   by_cases hq:Adr.stcB l[k].data.toList=l[k].data.toList
   case neg =>
    have HF:=hid (HNk.out (by rw [HEk.out];unfold stB1;simp [hq]))
    have hq2:(⟨(Adr.stcB l[k].data.toList).toArray⟩:ByteArray)≠l[k]:=fun e=>hq (by
     have:=congrArg (fun b:ByteArray=>b.data.toList) e;simpa using this)
    have e1:=str_ne' hq2;have e2:=str_ne hq2;rw [hp] at HC;clear hp hq hq2 HEk HNk HYk;generalize (⟨(Adr.stcB l[k].data.toList).toArray⟩:ByteArray)=S at *;generalize l[k]=x at *;go_wp2_with (go_at_call 125;refine (HC.out _ BW2.out).mono ?_;rintro e w1 ⟨rfl,hb1⟩;have HB1:=hid hb1;clear hb1)
    go_ret
    exact ⟨ret_bool HF.out,BW2.out.trans (HB1.out.mono BW2.out.size)⟩
   case pos =>
   have hs1:stB1 l[k]=true:=by unfold stB1;simp [hp,hq]
   have hq2:(⟨(Adr.stcB l[k].data.toList).toArray⟩:ByteArray)=l[k]:=by rw [hq]
   rw [hp,hq2] at HC;rw [hs1] at HEk;clear hp hq hq2 hs1
   by_cases hk0:k=0
   case pos =>
    have HA:=HYk.out (by rw [HEk.out];simp [hk0]);have hkz:¬ (0:Int) < (k:Int):=by omega
    clear HEk HNk HYk hk0;generalize l[k]=x at *;go_wp2_with (go_at_call 125;refine (HC.out _ BW2.out).mono ?_;rintro e w1 ⟨rfl,hb1⟩;have HB1:=hid hb1;clear hb1)
    go_roundg (l.length - (k+1))
    case measure=>omega
    case rel=>exact ⟨k+1,by omega,by omega,by go_num,hid (BW2.out.trans (HB1.out.mono BW2.out.size)),HA⟩
   case neg =>
   have hk1:(0:Int) < (k:Int):=by omega
   have hj0:(0:Int)<=(k:Int) - 1:=by omega
   have hj1:(k:Int) - 1 < (l.length:Int):=by omega
   have hw0:wrap64 ((k:Int) - 1)=(k:Int) - 1:=by unfold wrap64;omega
   obtain ⟨b',off',hr',_,g1,_⟩:=HL.out wr BW2.out (k - 1) (by omega);simp only [Option.some.injEq,Addr.mk.injEq] at hr';obtain ⟨rfl,rfl,_⟩:=hr';have hcz:(((k:Int) - 1).toNat)=k - 1:=by omega
   have HQ:=hid (ltL_leq l[k] (l[k - 1]'(by omega)));have HEk2:Hid (depE l k=if ltL (l[k - 1]'(by omega)) l[k] then 0 else 1):=hid (by rw [HEk.out,getD_at _ (by omega:k - 1 < l.length)];simp [hk0]);clear HEk;generalize hL:ltL (l[k - 1]'(by omega)) l[k]=L at *;clear hL;cases L with
   | true =>
     have HA:=HYk.out (by rw [HEk2.out];rfl);have q:=HQ.out;simp only [Bool.not_true,Bool.or_eq_false_iff] at q;obtain ⟨q1,q2⟩:=q;clear HEk2 HNk HYk HQ;generalize l[k]=x at *;generalize l[k - 1]=y at *;go_wp2_with (go_at_call 125;refine (HC.out _ BW2.out).mono ?_;rintro e w1 ⟨rfl,hb1⟩;have HB1:=hid hb1;clear hb1;have g1:=bget HB1.out g1)
     go_roundg (l.length - (k+1))
     case measure=>omega
     case rel=>exact ⟨k+1,by omega,by omega,by go_num,hid (BW2.out.trans (HB1.out.mono BW2.out.size)),HA⟩
   | false =>
     have HF:=hid (HNk.out (by rw [HEk2.out];rfl));have q:=HQ.out;simp only [Bool.not_false] at q;obtain ⟨v1,q1⟩:∃ v,Op.bytesLess l[k].toList (l[k - 1]'(by omega)).toList=v:=⟨_,rfl⟩;obtain ⟨v2,q2⟩:∃ v,(l[k].toList == (l[k - 1]'(by omega)).toList)=v:=⟨_,rfl⟩;rw [q1,q2] at q;clear HEk2 HNk HYk HQ;generalize l[k]=x at *;generalize l[k - 1]=y at *;go_wp2_with (go_at_call 125;refine (HC.out _ BW2.out).mono ?_;rintro e w1 ⟨rfl,hb1⟩;have HB1:=hid hb1;clear hb1;have g1:=bget HB1.out g1)
     go_ret
     exact ⟨ret_bool HF.out,BW2.out.trans (HB1.out.mono BW2.out.size)⟩
  case neg =>
  have hltz:¬ (k:Int) < (l.length:Int):=by omega
  have HF:=hid (HY.out fun j hj=>AL.out j (by omega));clear AL;go_wp2
  go_ret
  exact ⟨ret_bool HF.out,BW2.out⟩
structure InsS (x:Ins):Prop where
 ad:x.ad.size<=2000000
 de:x.de.size<=2000000
 dp:∀ d∈x.dp,d.size<=2000000
theorem insC_1 {x:Ins} (h:(mgB x.ad x.ty && (decide (x.de=⟨#[]⟩) || dkB x.de) && txB x.id)=false):insC x=1:=by unfold insC;rw [if_pos h]
theorem insC_2 {x:Ins} (h:(mgB x.ad x.ty && (decide (x.de=⟨#[]⟩) || dkB x.de) && txB x.id)=true):insC x=if checkV vU x.at_≠0 then checkV vU x.at_
 else if x.at_.kind≠5 then 6
 else if knownV x.at_=false then 11
 else if x.ver < 1 ∨ 9007199254740992 < x.ver then 5
 else if depsB x.dp=false then 1 else 0:=by unfold insC;rw [if_neg (by rw [h];decide)]
set_option maxRecDepth 100000 in
set_option maxHeartbeats 8000000 in
theorem instance_any (x:Ins) (p:Pt) (w:World) (hT:WT w) (hx:InsP w x p) (hs:InsS x) :
  Calls Tryz.prog 32 #[.agg (insA x p)] w fun e w'=>e=.returned (.int .i64 (insC x))/\Below w.heap.size w w':=by
 have HM:=hid (fun (W:World) (hW:Below w.heap.size w W)=>managed_any x.ad x.ty W (hT.below hW) hs.ad);have HK:=hid (fun (W:World) (hW:Below w.heap.size w W)=>key_any x.de W (hT.below hW) hs.de);have HX:=hid (fun (W:World) (hW:Below w.heap.size w W)=>text_any x.id W (ut_of (hT.below hW)));have HC:=hid (fun (W:World) (hW:Below w.heap.size w W)=>pCheck_any x.at_ p.r p.c p.rk p.ck W (hx.1.below hW) (ut_of (hT.below hW)));have HKN:=hid (fun (W:World) (hW:Below w.heap.size w W)=>pknown_any x.at_ p.r p.c p.rk p.ck W (hx.1.below hW));have HD:=hid (fun (W:World) (hW:Below w.heap.size w W)=>statics_any x.dp p.dr p.dc W (hT.below hW) (hx.2.1.below strR_mono hW) hs.dp);have hb0:Below w.heap.size w (w.alloc (.cells (insA x p) 41)):=(Below.refl _ _).alloc (Nat.le_refl _) _;have hc0:=(MapKept.heap_alloc w (.cells (insA x p) 41)).1;obtain ⟨W0,hW0⟩:∃ W0,W0=w.alloc (.cells (insA x p) 41):=⟨_,rfl⟩;rw [<-hW0] at hb0 hc0;have HW0:=hid hW0;have HB0:=hid hb0;have u0:W0.cell? ⟨w.heap.size,0,none⟩=some (.string x.ad):=cellv hc0 0 rfl;have u1:W0.cell? ⟨w.heap.size,1,none⟩=some (.string x.de):=cellv hc0 1 rfl;have u2:W0.cell? ⟨w.heap.size,2,none⟩=some (.string x.id):=cellv hc0 2 rfl;have u3:W0.cell? ⟨w.heap.size,3,none⟩=some (.string x.ty):=cellv hc0 3 rfl;have u4:W0.cell? ⟨w.heap.size,4,none⟩=some (.int .i64 x.at_.kind):=cellv hc0 4 rfl;have u5:W0.cell? ⟨w.heap.size,5,none⟩=some (.int .i64 x.at_.num):=cellv hc0 5 rfl;have u6:W0.cell? ⟨w.heap.size,6,none⟩=some (.string x.at_.str):=cellv hc0 6 rfl;have u7:W0.cell? ⟨w.heap.size,7,none⟩=some (.slice p.r x.at_.items.length p.c):=cellv hc0 7 rfl;have u8:W0.cell? ⟨w.heap.size,8,none⟩=some (.slice p.rk x.at_.keys.length p.ck):=cellv hc0 8 rfl;have u9:W0.cell? ⟨w.heap.size,9,none⟩=some (.int .i64 x.ver):=cellv hc0 9 rfl;have u10:W0.cell? ⟨w.heap.size,10,none⟩=some (.bool x.ta):=cellv hc0 10 rfl;have u11:W0.cell? ⟨w.heap.size,11,none⟩=some (.bool x.cf):=cellv hc0 11 rfl;have u12:W0.cell? ⟨w.heap.size,12,none⟩=some (.slice p.dr x.dp.length p.dc):=cellv hc0 12 rfl;have HZ0:=hid (show W0.heap.size=w.heap.size+1 by rw [hW0];simp);have h1:=@insC_1 x;have h2:=@insC_2 x;obtain ⟨b1,e1⟩:∃ b,mgB x.ad x.ty=b:=⟨_,rfl⟩;obtain ⟨b2,e2⟩:∃ b,dkB x.de=b:=⟨_,rfl⟩;obtain ⟨b3,e3⟩:∃ b,txB x.id=b:=⟨_,rfl⟩;obtain ⟨ce,e4⟩:∃ b,checkV vU x.at_=b:=⟨_,rfl⟩;obtain ⟨kn,e5⟩:∃ b,knownV x.at_=b:=⟨_,rfl⟩;obtain ⟨ds,e6⟩:∃ b,depsB x.dp=b:=⟨_,rfl⟩;rw [e1,e2,e3] at h1 h2;rw [e4,e5,e6] at h2;rw [e1] at HM;rw [e2] at HK;rw [e3] at HX;rw [e4] at HC;rw [e5] at HKN;rw [e6] at HD;have H1:=hid h1;have H2:=hid h2;clear h1 h2 e1 e2 e3 e4 e5 e6 hT hx hs hc0 hb0 hW0;generalize insC x=R at *;unfold insA;go_enter Tryz.func32,Tryz.ntmps32;go_upto_region 1 with (fail)
 have hW0:=HW0.out;unfold insA at hW0;rw [<-hW0];clear hW0 HW0;have HCE:=hid (fun (W:World) (hW:Below W0.heap.size W0 W)=>show W.cell? ⟨w.heap.size,1,none⟩=some (.string x.de)/\W.cell? ⟨w.heap.size,2,none⟩=some (.string x.id)/\W.cell? ⟨w.heap.size,3,none⟩=some (.string x.ty)/\W.cell? ⟨w.heap.size,4,none⟩=some (.int .i64 x.at_.kind)/\W.cell? ⟨w.heap.size,5,none⟩=some (.int .i64 x.at_.num)/\W.cell? ⟨w.heap.size,6,none⟩=some (.string x.at_.str)/\W.cell? ⟨w.heap.size,7,none⟩=some (.slice p.r x.at_.items.length p.c)/\W.cell? ⟨w.heap.size,8,none⟩=some (.slice p.rk x.at_.keys.length p.ck)/\W.cell? ⟨w.heap.size,9,none⟩=some (.int .i64 x.ver)/\W.cell? ⟨w.heap.size,10,none⟩=some (.bool x.ta)/\W.cell? ⟨w.heap.size,11,none⟩=some (.bool x.cf)/\W.cell? ⟨w.heap.size,12,none⟩=some (.slice p.dr x.dp.length p.dc) from ⟨bget hW u1,bget hW u2,bget hW u3,bget hW u4,bget hW u5,bget hW u6,bget hW u7,bget hW u8,bget hW u9,bget hW u10,bget hW u11,bget hW u12⟩);have HBc:=hid (Below.refl W0.heap.size W0);have HG:=hid (fun (W:World) (hW:Below W0.heap.size W0 W)=>HB0.out.trans (hW.mono HB0.out.size));cases b1 with
 | false =>
   have HF:=hid (H1.out (by simp));clear H1;clear H2;go_wp2_with (first | (go_at_call 35;refine (HM.out _ (HG.out _ HBc.out)).mono ?_;rintro e w1 ⟨rfl,hb1⟩;have HBc:=hid (HBc.out.trans (hb1.mono HBc.out.size));clear hb1;obtain ⟨v1,v2,v3,v4,v5,v6,v7,v8,v9,v10,v11,v12⟩:=HCE.out _ HBc.out) | (go_at_call 77;refine (HK.out _ (HG.out _ HBc.out)).mono ?_;rintro e w1 ⟨rfl,hb1⟩;have HBc:=hid (HBc.out.trans (hb1.mono HBc.out.size));clear hb1;obtain ⟨v1,v2,v3,v4,v5,v6,v7,v8,v9,v10,v11,v12⟩:=HCE.out _ HBc.out) | (go_at_call 31;refine (HX.out _ (HG.out _ HBc.out)).mono ?_;rintro e w1 ⟨rfl,hb1⟩;have HBc:=hid (HBc.out.trans (hb1.mono HBc.out.size));clear hb1;obtain ⟨v1,v2,v3,v4,v5,v6,v7,v8,v9,v10,v11,v12⟩:=HCE.out _ HBc.out))
   go_ret
   exact ⟨ret_int HF.out,HG.out _ HBc.out⟩
 | true =>
 by_cases hde:x.de=⟨#[]⟩
 case pos =>
  have n1:x.de.toList.isEmpty=true:=by rw [hde,ByteArray.toList_eq];rfl
  have hde:=hid hde;cases b3 with
  | false =>
    have HF:=hid (H1.out (by simp [hde.out]));clear H1;clear H2;go_wp2_with (first | (go_at_call 35;refine (HM.out _ (HG.out _ HBc.out)).mono ?_;rintro e w1 ⟨rfl,hb1⟩;have HBc:=hid (HBc.out.trans (hb1.mono HBc.out.size));clear hb1;obtain ⟨v1,v2,v3,v4,v5,v6,v7,v8,v9,v10,v11,v12⟩:=HCE.out _ HBc.out) | (go_at_call 77;refine (HK.out _ (HG.out _ HBc.out)).mono ?_;rintro e w1 ⟨rfl,hb1⟩;have HBc:=hid (HBc.out.trans (hb1.mono HBc.out.size));clear hb1;obtain ⟨v1,v2,v3,v4,v5,v6,v7,v8,v9,v10,v11,v12⟩:=HCE.out _ HBc.out) | (go_at_call 31;refine (HX.out _ (HG.out _ HBc.out)).mono ?_;rintro e w1 ⟨rfl,hb1⟩;have HBc:=hid (HBc.out.trans (hb1.mono HBc.out.size));clear hb1;obtain ⟨v1,v2,v3,v4,v5,v6,v7,v8,v9,v10,v11,v12⟩:=HCE.out _ HBc.out))
    go_ret
    exact ⟨ret_int HF.out,HG.out _ HBc.out⟩
  | true =>
    have H2:=hid (H2.out (by simp [hde.out]));clear H1;go_upto_region 3 with (first | (go_at_call 35;refine (HM.out _ (HG.out _ HBc.out)).mono ?_;rintro e w1 ⟨rfl,hb1⟩;have HBc:=hid (HBc.out.trans (hb1.mono HBc.out.size));clear hb1;obtain ⟨v1,v2,v3,v4,v5,v6,v7,v8,v9,v10,v11,v12⟩:=HCE.out _ HBc.out) | (go_at_call 77;refine (HK.out _ (HG.out _ HBc.out)).mono ?_;rintro e w1 ⟨rfl,hb1⟩;have HBc:=hid (HBc.out.trans (hb1.mono HBc.out.size));clear hb1;obtain ⟨v1,v2,v3,v4,v5,v6,v7,v8,v9,v10,v11,v12⟩:=HCE.out _ HBc.out) | (go_at_call 31;refine (HX.out _ (HG.out _ HBc.out)).mono ?_;rintro e w1 ⟨rfl,hb1⟩;have HBc:=hid (HBc.out.trans (hb1.mono HBc.out.size));clear hb1;obtain ⟨v1,v2,v3,v4,v5,v6,v7,v8,v9,v10,v11,v12⟩:=HCE.out _ HBc.out))
    by_cases hc:ce=0
    case neg =>
     have HF:=hid (H2.out.trans (if_pos hc));have c1:(ce != 0)=true:=by simp [hc]
     have c2:(ce == 0)=false:=by simp [hc]
     clear hc;clear H2;go_wp2_with (go_at_call 78;refine (HC.out _ (HG.out _ HBc.out)).mono ?_;rintro e w1 ⟨rfl,hb1⟩;have HBc:=hid (HBc.out.trans (hb1.mono HBc.out.size));clear hb1;obtain ⟨v1,v2,v3,v4,v5,v6,v7,v8,v9,v10,v11,v12⟩:=HCE.out _ HBc.out)
     go_ret
     exact ⟨ret_int HF.out,HG.out _ HBc.out⟩
    case pos =>
    subst hc;have H2:=hid (H2.out.trans (if_neg (by decide)));go_upto_region 6 with (go_at_call 78;refine (HC.out _ (HG.out _ HBc.out)).mono ?_;rintro e w1 ⟨rfl,hb1⟩;have HBc:=hid (HBc.out.trans (hb1.mono HBc.out.size));clear hb1;obtain ⟨v1,v2,v3,v4,v5,v6,v7,v8,v9,v10,v11,v12⟩:=HCE.out _ HBc.out)
    by_cases hk:x.at_.kind=5
    case neg =>
     have HF:=hid (H2.out.trans (if_pos hk));have c1:(x.at_.kind != 5)=true:=by simp [hk]
     have c2:(x.at_.kind == 5)=false:=by simp [hk]
     clear hk;clear H2;go_wp2_with (fail)
     go_ret
     exact ⟨ret_int HF.out,HG.out _ HBc.out⟩
    case pos =>
    have H2:=hid (H2.out.trans (if_neg (by simp [hk])));have c1:(x.at_.kind != 5)=false:=by simp [hk]
    have c2:(x.at_.kind == 5)=true:=by simp [hk]
    clear hk;go_upto_region 8 with (fail)
    cases kn with
    | false =>
      have HF:=hid (H2.out.trans (if_pos rfl));clear H2;go_wp2_with (go_at_call 79;refine (HKN.out _ (HG.out _ HBc.out)).mono ?_;rintro e w1 ⟨rfl,hb1⟩;have HBc:=hid (HBc.out.trans (hb1.mono HBc.out.size));clear hb1;obtain ⟨v1,v2,v3,v4,v5,v6,v7,v8,v9,v10,v11,v12⟩:=HCE.out _ HBc.out)
      go_ret
      exact ⟨ret_int HF.out,HG.out _ HBc.out⟩
    | true =>
    have H2:=hid (H2.out.trans (if_neg (by decide)));go_upto_region 10 with (go_at_call 79;refine (HKN.out _ (HG.out _ HBc.out)).mono ?_;rintro e w1 ⟨rfl,hb1⟩;have HBc:=hid (HBc.out.trans (hb1.mono HBc.out.size));clear hb1;obtain ⟨v1,v2,v3,v4,v5,v6,v7,v8,v9,v10,v11,v12⟩:=HCE.out _ HBc.out)
    by_cases h1:x.ver < 1
    case pos =>
     have HF:=hid (H2.out.trans (if_pos (Or.inl h1)));clear H2;go_wp2_with (fail)
     go_ret
     exact ⟨ret_int HF.out,HG.out _ HBc.out⟩
    case neg =>
    by_cases h2:9007199254740992 < x.ver
    case pos =>
     have HF:=hid (H2.out.trans (if_pos (Or.inr h2)));clear H2;go_wp2_with (fail)
     go_ret
     exact ⟨ret_int HF.out,HG.out _ HBc.out⟩
    case neg =>
    have H2:=hid (H2.out.trans (if_neg (by omega)));go_upto_region 12 with (fail)
    cases ds with
    | false =>
      have HF:=hid (H2.out.trans (if_pos rfl));clear H2;go_wp2_with (go_at_call 80;refine (HD.out _ (HG.out _ HBc.out)).mono ?_;rintro e w1 ⟨rfl,hb1⟩;have HBc:=hid (HBc.out.trans (hb1.mono HBc.out.size)))
      go_ret
      exact ⟨ret_int HF.out,HG.out _ HBc.out⟩
    | true =>
      have HF:=hid (H2.out.trans (if_neg (by decide)));clear H2;go_wp2_with (go_at_call 80;refine (HD.out _ (HG.out _ HBc.out)).mono ?_;rintro e w1 ⟨rfl,hb1⟩;have HBc:=hid (HBc.out.trans (hb1.mono HBc.out.size)))
      go_ret
      exact ⟨ret_int HF.out,HG.out _ HBc.out⟩
 case neg =>
 have n1:=ne_empty hde;have hde:=hid hde;cases b2 with
 | false =>
   have HF:=hid (H1.out (by simp [hde.out]));clear H1;clear H2;go_wp2_with (first | (go_at_call 35;refine (HM.out _ (HG.out _ HBc.out)).mono ?_;rintro e w1 ⟨rfl,hb1⟩;have HBc:=hid (HBc.out.trans (hb1.mono HBc.out.size));clear hb1;obtain ⟨v1,v2,v3,v4,v5,v6,v7,v8,v9,v10,v11,v12⟩:=HCE.out _ HBc.out) | (go_at_call 77;refine (HK.out _ (HG.out _ HBc.out)).mono ?_;rintro e w1 ⟨rfl,hb1⟩;have HBc:=hid (HBc.out.trans (hb1.mono HBc.out.size));clear hb1;obtain ⟨v1,v2,v3,v4,v5,v6,v7,v8,v9,v10,v11,v12⟩:=HCE.out _ HBc.out) | (go_at_call 31;refine (HX.out _ (HG.out _ HBc.out)).mono ?_;rintro e w1 ⟨rfl,hb1⟩;have HBc:=hid (HBc.out.trans (hb1.mono HBc.out.size));clear hb1;obtain ⟨v1,v2,v3,v4,v5,v6,v7,v8,v9,v10,v11,v12⟩:=HCE.out _ HBc.out))
   go_ret
   exact ⟨ret_int HF.out,HG.out _ HBc.out⟩
 | true =>
 cases b3 with
 | false =>
   have HF:=hid (H1.out (by simp [hde.out]));clear H1;clear H2;go_wp2_with (first | (go_at_call 35;refine (HM.out _ (HG.out _ HBc.out)).mono ?_;rintro e w1 ⟨rfl,hb1⟩;have HBc:=hid (HBc.out.trans (hb1.mono HBc.out.size));clear hb1;obtain ⟨v1,v2,v3,v4,v5,v6,v7,v8,v9,v10,v11,v12⟩:=HCE.out _ HBc.out) | (go_at_call 77;refine (HK.out _ (HG.out _ HBc.out)).mono ?_;rintro e w1 ⟨rfl,hb1⟩;have HBc:=hid (HBc.out.trans (hb1.mono HBc.out.size));clear hb1;obtain ⟨v1,v2,v3,v4,v5,v6,v7,v8,v9,v10,v11,v12⟩:=HCE.out _ HBc.out) | (go_at_call 31;refine (HX.out _ (HG.out _ HBc.out)).mono ?_;rintro e w1 ⟨rfl,hb1⟩;have HBc:=hid (HBc.out.trans (hb1.mono HBc.out.size));clear hb1;obtain ⟨v1,v2,v3,v4,v5,v6,v7,v8,v9,v10,v11,v12⟩:=HCE.out _ HBc.out))
   go_ret
   exact ⟨ret_int HF.out,HG.out _ HBc.out⟩
 | true =>
   have H2:=hid (H2.out (by simp [hde.out]));clear H1;go_upto_region 3 with (first | (go_at_call 35;refine (HM.out _ (HG.out _ HBc.out)).mono ?_;rintro e w1 ⟨rfl,hb1⟩;have HBc:=hid (HBc.out.trans (hb1.mono HBc.out.size));clear hb1;obtain ⟨v1,v2,v3,v4,v5,v6,v7,v8,v9,v10,v11,v12⟩:=HCE.out _ HBc.out) | (go_at_call 77;refine (HK.out _ (HG.out _ HBc.out)).mono ?_;rintro e w1 ⟨rfl,hb1⟩;have HBc:=hid (HBc.out.trans (hb1.mono HBc.out.size));clear hb1;obtain ⟨v1,v2,v3,v4,v5,v6,v7,v8,v9,v10,v11,v12⟩:=HCE.out _ HBc.out) | (go_at_call 31;refine (HX.out _ (HG.out _ HBc.out)).mono ?_;rintro e w1 ⟨rfl,hb1⟩;have HBc:=hid (HBc.out.trans (hb1.mono HBc.out.size));clear hb1;obtain ⟨v1,v2,v3,v4,v5,v6,v7,v8,v9,v10,v11,v12⟩:=HCE.out _ HBc.out))
   by_cases hc:ce=0
   case neg =>
    have HF:=hid (H2.out.trans (if_pos hc));have c1:(ce != 0)=true:=by simp [hc]
    have c2:(ce == 0)=false:=by simp [hc]
    clear hc;clear H2;go_wp2_with (go_at_call 78;refine (HC.out _ (HG.out _ HBc.out)).mono ?_;rintro e w1 ⟨rfl,hb1⟩;have HBc:=hid (HBc.out.trans (hb1.mono HBc.out.size));clear hb1;obtain ⟨v1,v2,v3,v4,v5,v6,v7,v8,v9,v10,v11,v12⟩:=HCE.out _ HBc.out)
    go_ret
    exact ⟨ret_int HF.out,HG.out _ HBc.out⟩
   case pos =>
   subst hc;have H2:=hid (H2.out.trans (if_neg (by decide)));go_upto_region 6 with (go_at_call 78;refine (HC.out _ (HG.out _ HBc.out)).mono ?_;rintro e w1 ⟨rfl,hb1⟩;have HBc:=hid (HBc.out.trans (hb1.mono HBc.out.size));clear hb1;obtain ⟨v1,v2,v3,v4,v5,v6,v7,v8,v9,v10,v11,v12⟩:=HCE.out _ HBc.out)
   by_cases hk:x.at_.kind=5
   case neg =>
    have HF:=hid (H2.out.trans (if_pos hk));have c1:(x.at_.kind != 5)=true:=by simp [hk]
    have c2:(x.at_.kind == 5)=false:=by simp [hk]
    clear hk;clear H2;go_wp2_with (fail)
    go_ret
    exact ⟨ret_int HF.out,HG.out _ HBc.out⟩
   case pos =>
   have H2:=hid (H2.out.trans (if_neg (by simp [hk])));have c1:(x.at_.kind != 5)=false:=by simp [hk]
   have c2:(x.at_.kind == 5)=true:=by simp [hk]
   clear hk;go_upto_region 8 with (fail)
   cases kn with
   | false =>
     have HF:=hid (H2.out.trans (if_pos rfl));clear H2;go_wp2_with (go_at_call 79;refine (HKN.out _ (HG.out _ HBc.out)).mono ?_;rintro e w1 ⟨rfl,hb1⟩;have HBc:=hid (HBc.out.trans (hb1.mono HBc.out.size));clear hb1;obtain ⟨v1,v2,v3,v4,v5,v6,v7,v8,v9,v10,v11,v12⟩:=HCE.out _ HBc.out)
     go_ret
     exact ⟨ret_int HF.out,HG.out _ HBc.out⟩
   | true =>
   have H2:=hid (H2.out.trans (if_neg (by decide)));go_upto_region 10 with (go_at_call 79;refine (HKN.out _ (HG.out _ HBc.out)).mono ?_;rintro e w1 ⟨rfl,hb1⟩;have HBc:=hid (HBc.out.trans (hb1.mono HBc.out.size));clear hb1;obtain ⟨v1,v2,v3,v4,v5,v6,v7,v8,v9,v10,v11,v12⟩:=HCE.out _ HBc.out)
   by_cases h1:x.ver < 1
   case pos =>
    have HF:=hid (H2.out.trans (if_pos (Or.inl h1)));clear H2;go_wp2_with (fail)
    go_ret
    exact ⟨ret_int HF.out,HG.out _ HBc.out⟩
   case neg =>
   by_cases h2:9007199254740992 < x.ver
   case pos =>
    have HF:=hid (H2.out.trans (if_pos (Or.inr h2)));clear H2;go_wp2_with (fail)
    go_ret
    exact ⟨ret_int HF.out,HG.out _ HBc.out⟩
   case neg =>
   have H2:=hid (H2.out.trans (if_neg (by omega)));go_upto_region 12 with (fail)
   cases ds with
   | false =>
     have HF:=hid (H2.out.trans (if_pos rfl));clear H2;go_wp2_with (go_at_call 80;refine (HD.out _ (HG.out _ HBc.out)).mono ?_;rintro e w1 ⟨rfl,hb1⟩;have HBc:=hid (HBc.out.trans (hb1.mono HBc.out.size)))
     go_ret
     exact ⟨ret_int HF.out,HG.out _ HBc.out⟩
   | true =>
     have HF:=hid (H2.out.trans (if_neg (by decide)));clear H2;go_wp2_with (go_at_call 80;refine (HD.out _ (HG.out _ HBc.out)).mono ?_;rintro e w1 ⟨rfl,hb1⟩;have HBc:=hid (HBc.out.trans (hb1.mono HBc.out.size)))
     go_ret
     exact ⟨ret_int HF.out,HG.out _ HBc.out⟩
end Go.Proofs.YtomhbcfjhgecbaaGreatDoor
namespace Go.Proofs.YtomhbcfjhgecbaaGreatDoor
open Go.RowKit Go.Sort Go.Lib
open Go.Lib (hid)
open Adr (WT)
attribute [local go_sem] Stp.frUpon
attribute [local go_sem ↓] ldI_eq
attribute [local go_sem] ldI_run
attribute [local go_sem ↓] stI_eq
attribute [local go_sem] stI_run thereI_drew thereI_new put13_drew put13_new liesI_new rd13_new liesI_drew rd13_drew
theorem run_max3 {P:Program} (w:World) (ts:Array TypeId) (t:TypeId) (k k2 k3:IntKind) (x y z:Int) :
  (Builtin.max_ ts t #[.int k x,.int k2 y,.int k3 z]).run P w=.ok (.int k (max (max x y) z)) w:=by
 have e:∀ x y:Int,(if y > x then y else x)=max x y:=fun x y=>by
  rw [Int.max_def];split <;> split <;> omega
 simp [Builtin.max_,Builtin.max2,e]
attribute [local go_sem high] run_max3
theorem max3 (a b c:Nat):max (max (a:Int) (b:Int)) (c:Int)=((max (max a b) c:Nat):Int):=by omega
open Stp (wp_region_fresh Spc Stb sVal sBool stTrue Lat Bef grw_below wpF_quiet wq grw_ex wpF_told wpF_put wpF_nil wpF_skip noEnter_op)
theorem soX {w:World} {r:Option Addr} {n c:Nat} {xs:List Sou} (h:Sl SoR 7 w (.slice r n c) xs) (i:Nat) (hi:i < xs.length) :
  ∃ b off y,r=some ⟨b,off,none⟩/\b < w.heap.size/\w.cell? ⟨b,off+i * 7,none⟩=some (.string xs[i].nm)/\w.cell? ⟨b,off+i * 7+1,none⟩=some (.int .i64 xs[i].v.kind)/\w.cell? ⟨b,off+i * 7+2,none⟩=some (.int .i64 xs[i].v.num)/\w.cell? ⟨b,off+i * 7+3,none⟩=some (.string xs[i].v.str)/\w.cell? ⟨b,off+i * 7+4,none⟩=some (.slice y.r xs[i].v.items.length y.c)/\w.cell? ⟨b,off+i * 7+5,none⟩=some (.slice y.rk xs[i].v.keys.length y.ck)/\w.cell? ⟨b,off+i * 7+6,none⟩=some (.bool xs[i].se)/\y.x=xs[i]/\SoP w y:=by
 obtain ⟨r',c',e,h1,h2,he⟩:=h;simp at e;obtain ⟨rfl,rfl,rfl⟩:=e;obtain ⟨b,off,cs,hr,hs,hc,y,hy,hv,hn⟩:=he i hi;subst hv;have g0:=hc 0 _ rfl;rw [<-hy];exact ⟨b,off,y,hr,World.block_lt_of_cell? w _ g0,g0,hc 1 _ rfl,hc 2 _ rfl,hc 3 _ rfl,hc 4 _ rfl,hc 5 _ rfl,hc 6 _ rfl,rfl,hn⟩
set_option maxRecDepth 100000 in
set_option maxHeartbeats 4000000 in
theorem output_any (x:Sou) (r:Option Addr) (c:Nat) (rk:Option Addr) (ck:Nat) (w:World) (hT:WT w) (hx:VR5 w r c rk ck x.v) (hs:x.nm.size<=2000000) :
  Calls Tryz.prog 36 #[.agg #[.string x.nm,.int .i64 x.v.kind,.int .i64 x.v.num,.string x.v.str,.slice r x.v.items.length c,.slice rk x.v.keys.length ck,.bool x.se]] w fun e w'=>e=.returned (.int .i64 (outC x))/\Below w.heap.size w w':=by
 have HI:=hid (fun (W:World)=>Adr.pident_any x.nm W hs);have HC:=hid (fun (W:World) (hW:Below w.heap.size w W)=>pCheck_any x.v r c rk ck W (hx.below hW) (ut_of (hT.below hW)));have HKN:=hid (fun (W:World) (hW:Below w.heap.size w W)=>pknown_any x.v r c rk ck W (hx.below hW));have hb0:Below w.heap.size w (w.alloc (.cells #[.string x.nm,.int .i64 x.v.kind,.int .i64 x.v.num,.string x.v.str,.slice r x.v.items.length c,.slice rk x.v.keys.length ck,.bool x.se] 66)):=(Below.refl _ _).alloc (Nat.le_refl _) _;have hc0:=(MapKept.heap_alloc w (.cells #[.string x.nm,.int .i64 x.v.kind,.int .i64 x.v.num,.string x.v.str,.slice r x.v.items.length c,.slice rk x.v.keys.length ck,.bool x.se] 66)).1;obtain ⟨W0,hW0⟩:∃ W0,W0=w.alloc (.cells #[.string x.nm,.int .i64 x.v.kind,.int .i64 x.v.num,.string x.v.str,.slice r x.v.items.length c,.slice rk x.v.keys.length ck,.bool x.se] 66):=⟨_,rfl⟩;rw [<-hW0] at hb0 hc0;have HW0:=hid hW0;have HB0:=hid hb0;have u0:W0.cell? ⟨w.heap.size,0,none⟩=some (.string x.nm):=cellv hc0 0 rfl;have u1:W0.cell? ⟨w.heap.size,1,none⟩=some (.int .i64 x.v.kind):=cellv hc0 1 rfl;have u2:W0.cell? ⟨w.heap.size,2,none⟩=some (.int .i64 x.v.num):=cellv hc0 2 rfl;have u3:W0.cell? ⟨w.heap.size,3,none⟩=some (.string x.v.str):=cellv hc0 3 rfl;have u4:W0.cell? ⟨w.heap.size,4,none⟩=some (.slice r x.v.items.length c):=cellv hc0 4 rfl;have u5:W0.cell? ⟨w.heap.size,5,none⟩=some (.slice rk x.v.keys.length ck):=cellv hc0 5 rfl;have HCE:=hid (fun (W:World) (hW:Below W0.heap.size W0 W)=>show W.cell? ⟨w.heap.size,1,none⟩=some (.int .i64 x.v.kind)/\W.cell? ⟨w.heap.size,2,none⟩=some (.int .i64 x.v.num)/\W.cell? ⟨w.heap.size,3,none⟩=some (.string x.v.str)/\W.cell? ⟨w.heap.size,4,none⟩=some (.slice r x.v.items.length c)/\W.cell? ⟨w.heap.size,5,none⟩=some (.slice rk x.v.keys.length ck) from ⟨bget hW u1,bget hW u2,bget hW u3,bget hW u4,bget hW u5⟩);have HBc:=hid (Below.refl W0.heap.size W0);have HG:=hid (fun (W:World) (hW:Below W0.heap.size W0 W)=>HB0.out.trans (hW.mono HB0.out.size));have HR:=hid (show outC x=if Adr.idB x.nm.data.toList=false then 7 else if checkV vU x.v≠0 then checkV vU x.v else if knownV x.v=false then 11 else 0 from rfl);obtain ⟨b1,e1⟩:∃ b,Adr.idB x.nm.data.toList=b:=⟨_,rfl⟩;obtain ⟨ce,e4⟩:∃ b,checkV vU x.v=b:=⟨_,rfl⟩;obtain ⟨kn,e5⟩:∃ b,knownV x.v=b:=⟨_,rfl⟩;rw [e1,e4,e5] at HR;rw [e1] at HI;rw [e4] at HC;rw [e5] at HKN;clear e1 e4 e5 hT hx hs hc0 hb0 hW0;generalize outC x=R at *;go_enter Tryz.func36,Tryz.ntmps36;go_upto_region 1 with (fail)
 rw [<-HW0.out];clear HW0;cases b1 with
 | false =>
   have HF:=hid (HR.out.trans (if_pos rfl));clear HR;go_wp2_with (first | (go_at_call 83;refine (HI.out _).mono ?_;rintro e w1 ⟨rfl,rfl⟩) | (go_at_call 78;refine (HC.out _ (HG.out _ HBc.out)).mono ?_;rintro e w1 ⟨rfl,hb1⟩;have HBc:=hid (HBc.out.trans (hb1.mono HBc.out.size));clear hb1;obtain ⟨v1,v2,v3,v4,v5⟩:=HCE.out _ HBc.out) | (go_at_call 79;refine (HKN.out _ (HG.out _ HBc.out)).mono ?_;rintro e w1 ⟨rfl,hb1⟩;have HBc:=hid (HBc.out.trans (hb1.mono HBc.out.size));clear hb1;obtain ⟨v1,v2,v3,v4,v5⟩:=HCE.out _ HBc.out))
   go_ret
   exact ⟨ret_int HF.out,HG.out _ HBc.out⟩
 | true =>
 have HR:=hid (HR.out.trans (if_neg (by decide)))
 by_cases hc:ce=0
 case neg =>
  have HF:=hid (HR.out.trans (if_pos hc));have c1:(ce != 0)=true:=by simp [hc]
  have c2:(ce == 0)=false:=by simp [hc]
  clear hc;clear HR;go_wp2_with (first | (go_at_call 83;refine (HI.out _).mono ?_;rintro e w1 ⟨rfl,rfl⟩) | (go_at_call 78;refine (HC.out _ (HG.out _ HBc.out)).mono ?_;rintro e w1 ⟨rfl,hb1⟩;have HBc:=hid (HBc.out.trans (hb1.mono HBc.out.size));clear hb1;obtain ⟨v1,v2,v3,v4,v5⟩:=HCE.out _ HBc.out) | (go_at_call 79;refine (HKN.out _ (HG.out _ HBc.out)).mono ?_;rintro e w1 ⟨rfl,hb1⟩;have HBc:=hid (HBc.out.trans (hb1.mono HBc.out.size));clear hb1;obtain ⟨v1,v2,v3,v4,v5⟩:=HCE.out _ HBc.out))
  go_ret
  exact ⟨ret_int HF.out,HG.out _ HBc.out⟩
 case pos =>
 subst hc;have HR:=hid (HR.out.trans (if_neg (by decide)));cases kn with
 | false =>
   have HF:=hid (HR.out.trans (if_pos rfl));clear HR;go_wp2_with (first | (go_at_call 83;refine (HI.out _).mono ?_;rintro e w1 ⟨rfl,rfl⟩) | (go_at_call 78;refine (HC.out _ (HG.out _ HBc.out)).mono ?_;rintro e w1 ⟨rfl,hb1⟩;have HBc:=hid (HBc.out.trans (hb1.mono HBc.out.size));clear hb1;obtain ⟨v1,v2,v3,v4,v5⟩:=HCE.out _ HBc.out) | (go_at_call 79;refine (HKN.out _ (HG.out _ HBc.out)).mono ?_;rintro e w1 ⟨rfl,hb1⟩;have HBc:=hid (HBc.out.trans (hb1.mono HBc.out.size));clear hb1;obtain ⟨v1,v2,v3,v4,v5⟩:=HCE.out _ HBc.out))
   go_ret
   exact ⟨ret_int HF.out,HG.out _ HBc.out⟩
 | true =>
   have HF:=hid (HR.out.trans (if_neg (by decide)));clear HR;go_wp2_with (first | (go_at_call 83;refine (HI.out _).mono ?_;rintro e w1 ⟨rfl,rfl⟩) | (go_at_call 78;refine (HC.out _ (HG.out _ HBc.out)).mono ?_;rintro e w1 ⟨rfl,hb1⟩;have HBc:=hid (HBc.out.trans (hb1.mono HBc.out.size));clear hb1;obtain ⟨v1,v2,v3,v4,v5⟩:=HCE.out _ HBc.out) | (go_at_call 79;refine (HKN.out _ (HG.out _ HBc.out)).mono ?_;rintro e w1 ⟨rfl,hb1⟩;have HBc:=hid (HBc.out.trans (hb1.mono HBc.out.size));clear hb1;obtain ⟨v1,v2,v3,v4,v5⟩:=HCE.out _ HBc.out))
   go_ret
   exact ⟨ret_int HF.out,HG.out _ HBc.out⟩
structure StaS (s:Sta):Prop where
 ins:∀ x∈s.ins,InsS x
 pen:∀ x∈s.pen,x.ad.size<=2000000
 out:∀ x∈s.out,x.nm.size<=2000000
theorem insE_at {l:List Ins} {k:Nat} (hk:k < l.length):insE l k=if insC l[k]≠0 then insC l[k] else if k≠0/\0<=cmpP (plOf (l.getD (k - 1) inZ)) (plOf l[k]) then 1 else 0:=by unfold insE;rw [getD_at _ hk]
theorem penE_at {l:List Pnd} {k:Nat} (hk:k < l.length):penE l k=if (txB l[k].tok && mgB l[k].ad l[k].ty) && (decide (k=0) || ltL (l.getD (k - 1) pnZ).tok l[k].tok) then 0 else 1:=by unfold penE penB;rw [getD_at _ hk]
theorem outE_at {l:List Sou} {k:Nat} (hk:k < l.length):outE l k=if outC l[k]≠0 then outC l[k] else if k≠0/\ltL (l.getD (k - 1) ouZ).nm l[k].nm=false then 1 else 0:=by unfold outE;rw [getD_at _ hk]
theorem zeroN {e:Nat->Int} {k:Nat} (h:∀ j,j < k->e j=0) (hk:e k=0):∀ j,j < k+1->e j=0:=fun j hj=>by
 by_cases h1:j < k
 . exact h j h1
 . obtain rfl:j=k:=by omega
   exact hk
set_option maxRecDepth 100000 in
set_option maxHeartbeats 16000000 in
theorem check_sta (s:Sta) (p:Sp) (w:World) (hT:WT w) (h:StaP w s p) (hs:StaS s) :
  Calls Tryz.prog 11 #[.agg (staA s p)] w fun e w'=>e=.returned (.int .i64 (chkS s))/\Below w.heap.size w w':=by
 obtain ⟨ri,ci,rp,cp,ro,co⟩:=p;have HTX:=hid (fun (W:World) (hW:Below w.heap.size w W)=>text_any s.lin W (ut_of (hT.below hW)));have HIN:=hid (fun (W:World) (hW:Below w.heap.size w W)=>in_at (h.1.below inR_mono hW));have HPN:=hid (fun (W:World) (hW:Below w.heap.size w W)=>pnd_at (h.2.1.below pdR_mono hW));have HSO:=hid (fun (W:World) (hW:Below w.heap.size w W)=>soX (h.2.2.1.below soR_mono hW));have HIC:=hid (fun (x:Ins) (hx:x∈s.ins) (q:Pt) (W:World) (hW:Below w.heap.size w W) (hP:InsP W x q)=>instance_any x q W (hT.below hW) hP (hs.ins x hx));have HPT:=hid (fun (x:Pnd) (W:World) (hW:Below w.heap.size w W)=>text_any x.tok W (ut_of (hT.below hW)));have HPM:=hid (fun (x:Pnd) (hx:x∈s.pen) (W:World) (hW:Below w.heap.size w W)=>managed_any x.ad x.ty W (hT.below hW) (hs.pen x hx));have HOC:=hid (fun (x:Sou) (hx:x∈s.out) (r:Option Addr) (c:Nat) (rk:Option Addr) (ck:Nat) (W:World) (hW:Below w.heap.size w W) (hP:VR5 W r c rk ck x.v)=>output_any x r c rk ck W (hT.below hW) hP (hs.out x hx));obtain ⟨_,hlc1,hlm1⟩:=sl_len h.1;obtain ⟨_,hlc2,hlm2⟩:=sl_len h.2.1;obtain ⟨_,hlc3,hlm3⟩:=sl_len h.2.2.1;obtain ⟨W0,hW0⟩:∃ W0,W0=w.alloc (.cells #[.string s.lin,.int .i64 s.ser,.slice ri s.ins.length ci,.slice rp s.pen.length cp,.slice ro s.out.length co] 26):=⟨_,rfl⟩;have HW0:=hid hW0;have hb0:Below w.heap.size w W0:=hW0 ▸ (Below.refl _ _).alloc (Nat.le_refl _) _;have hc0:W0.heap[w.heap.size]?=some (.cells #[.string s.lin,.int .i64 s.ser,.slice ri s.ins.length ci,.slice rp s.pen.length cp,.slice ro s.out.length co] 26):=hW0 ▸ (MapKept.heap_alloc w _).1;have HB0:=hid hb0;have HG:=hid (fun (W:World) (hW:Below W0.heap.size W0 W)=>HB0.out.trans (hW.mono HB0.out.size));have t0:W0.cell? ⟨w.heap.size,0,none⟩=some (.string s.lin):=cellv hc0 0 rfl;have t1:W0.cell? ⟨w.heap.size,1,none⟩=some (.int .i64 s.ser):=cellv hc0 1 rfl;have t2:W0.cell? ⟨w.heap.size,2,none⟩=some (.slice ri s.ins.length ci):=cellv hc0 2 rfl;have t3:W0.cell? ⟨w.heap.size,3,none⟩=some (.slice rp s.pen.length cp):=cellv hc0 3 rfl;have t4:W0.cell? ⟨w.heap.size,4,none⟩=some (.slice ro s.out.length co):=cellv hc0 4 rfl;have HCE:=hid (fun (W:World) (hW:Below W0.heap.size W0 W)=>show W.cell? ⟨w.heap.size,1,none⟩=some (.int .i64 s.ser)/\W.cell? ⟨w.heap.size,2,none⟩=some (.slice ri s.ins.length ci)/\W.cell? ⟨w.heap.size,3,none⟩=some (.slice rp s.pen.length cp)/\W.cell? ⟨w.heap.size,4,none⟩=some (.slice ro s.out.length co) from ⟨bget hW t1,bget hW t2,bget hW t3,bget hW t4⟩);have HR:=hid (show chkS s=if txB s.lin=false then 1
 else if s.ser < 0 ∨ 9007199254740992 < s.ser then 5
 else if 512 < s.ins.length ∨ 512 < s.pen.length ∨ 512 < s.out.length then 14
 else if fstE s.ins.length (insE s.ins)≠0 then fstE s.ins.length (insE s.ins)
 else if fstE s.pen.length (penE s.pen)≠0 then fstE s.pen.length (penE s.pen)
 else fstE s.out.length (outE s.out) from rfl)
 clear hT h hs hb0 hc0 hW0;obtain ⟨b1,e1⟩:∃ b,txB s.lin=b:=⟨_,rfl⟩;rw [e1] at HR HTX;clear e1;unfold staA;generalize chkS s=R at *;go_enter Tryz.func11,Tryz.ntmps11;go_upto_region 1 with (fail)
 rw [<-HW0.out];clear HW0;cases b1 with
 | false =>
   have HF:=hid (HR.out.trans (if_pos rfl));clear HR;go_wp2_with (go_at_call 31;refine (HTX.out _ HB0.out).mono ?_;rintro e w1 ⟨rfl,hb1⟩;have HBc:=hid hb1;clear hb1;obtain ⟨t1,t2,t3,t4⟩:=HCE.out _ HBc.out)
   go_ret
   exact ⟨ret_int HF.out,HG.out _ HBc.out⟩
 | true =>
 have HR:=hid (HR.out.trans (if_neg (by decide)))
 by_cases s1:s.ser < 0
 case pos =>
  have HF:=hid (HR.out.trans (if_pos (Or.inl s1)));clear HR;go_wp2_with (go_at_call 31;refine (HTX.out _ HB0.out).mono ?_;rintro e w1 ⟨rfl,hb1⟩;have HBc:=hid hb1;clear hb1;obtain ⟨t1,t2,t3,t4⟩:=HCE.out _ HBc.out)
  go_ret
  exact ⟨ret_int HF.out,HG.out _ HBc.out⟩
 case neg =>
 by_cases s2:9007199254740992 < s.ser
 case pos =>
  have HF:=hid (HR.out.trans (if_pos (Or.inr s2)));clear HR;go_wp2_with (go_at_call 31;refine (HTX.out _ HB0.out).mono ?_;rintro e w1 ⟨rfl,hb1⟩;have HBc:=hid hb1;clear hb1;obtain ⟨t1,t2,t3,t4⟩:=HCE.out _ HBc.out)
  go_ret
  exact ⟨ret_int HF.out,HG.out _ HBc.out⟩
 case neg =>
 have HR:=hid (HR.out.trans (if_neg (by omega)));have HMX:=hid (max3 s.ins.length s.pen.length s.out.length)
 by_cases s3:512 < s.ins.length ∨ 512 < s.pen.length ∨ 512 < s.out.length
 case pos =>
  have HF:=hid (HR.out.trans (if_pos s3));have hmx:(512:Int) < max (max (s.ins.length:Int) (s.pen.length:Int)) (s.out.length:Int):=by omega
  clear HR s3;go_wp2_with (go_at_call 31;refine (HTX.out _ HB0.out).mono ?_;rintro e w1 ⟨rfl,hb1⟩;have HBc:=hid hb1;clear hb1;obtain ⟨t1,t2,t3,t4⟩:=HCE.out _ HBc.out)
  go_ret
  exact ⟨ret_int HF.out,HG.out _ HBc.out⟩
 case neg =>
 have HR:=hid (HR.out.trans (if_neg s3));have hmx:¬ (512:Int) < max (max (s.ins.length:Int) (s.pen.length:Int)) (s.out.length:Int):=by omega
 clear s3;go_wp2_with (go_at_call 31;refine (HTX.out _ HB0.out).mono ?_;rintro e w1 ⟨rfl,hb1⟩;have HBc:=hid hb1;clear hb1;obtain ⟨t1,t2,t3,t4⟩:=HCE.out _ HBc.out)
 clear HTX HMX hmx;have HB1:=hid HBc.out;go_loopg [37] s.ins.length (fun gg s9 wr=>∃ k:Nat,k<=s.ins.length/\s.ins.length - k<=gg/\s9=.int .i64 k/\Hid (Below W0.heap.size W0 wr)/\Hid (∀ j,j < k->insE s.ins j=0))
 case atStart=>exact ⟨0,Nat.zero_le _,by omega,rfl,HB1,hid fun j h=>absurd h (by omega)⟩
 case round =>
  clear t1 t2 t3 t4 HBc HB1;obtain ⟨k,hk,hg,rfl,BW,AL⟩:=hrel;obtain ⟨t1,t2,t3,t4⟩:=HCE.out _ BW.out
  by_cases hlt:k < s.ins.length
  case pos =>
   have hltz:(k:Int) < (s.ins.length:Int):=by omega
   have HEk:=hid (insE_at hlt);have HNk:=hid (fun (h2:insE s.ins k≠0)=>show R=insE s.ins k from HR.out.trans (by rw [fstE_at hlt AL.out h2,if_pos h2]));have HYk:=hid (fun (h:insE s.ins k=0)=>show Hid (∀ j,j < k+1->insE s.ins j=0) from hid (zeroN AL.out h));obtain ⟨b,off,pt,rfl,hbl,hcell,hP⟩:=HIN.out wr (HG.out _ BW.out) k hlt;have HC:=hid (fun (W:World) (hW:Below wr.heap.size wr W)=>HIC.out s.ins[k] (List.getElem_mem hlt) pt W ((HG.out _ BW.out).trans (hW.mono (HG.out _ BW.out).size)) (insP_below hW hP));have hX:=cellsI s.ins[k] pt;obtain ⟨l1,l2⟩:=liesI_of hX hcell;have BA:=hid (show Below wr.heap.size wr (wr.alloc (.cells (insA s.ins[k] pt) 41)) from (Below.refl _ _).alloc (Nat.le_refl _) _);have HLA:=hid (MapKept.heap_alloc wr (.cells (insA s.ins[k] pt) 41)).1;have HZA:=hid (show (wr.alloc (.cells (insA s.ins[k] pt) 41)).heap.size=wr.heap.size+1 by simp);have HPX:=hid (fun (W:World)=>placeOf_any s.ins[k] pt W);have HXC:=hid hX;clear hcell hP AL
   by_cases he:insC s.ins[k]=0
   case neg =>
    have e1:(insC s.ins[k] != 0)=true:=by simp [he]
    have e2:(insC s.ins[k] == 0)=false:=by simp [he]
    have HF:=hid (show R=insC s.ins[k] by
     have:insE s.ins k=insC s.ins[k]:=by rw [HEk.out,if_pos he]
     rw [<-this];exact HNk.out (by rw [this];exact he))
    clear he HEk HNk HYk HR;generalize insC s.ins[k]=E at *;generalize insA s.ins[k] pt=X at *;go_wp2_with (go_at_call 32;refine (HC.out _ BA.out).mono ?_;rintro e w1 ⟨rfl,hb1⟩;have BW1:=hid ((BW.out.trans (BA.out.mono BW.out.size)).trans (hb1.mono (by have:=BW.out.size;have:=BA.out.size;omega)));have HB1:=hid hb1;clear hb1;obtain ⟨t1,t2,t3,t4⟩:=HCE.out _ BW1.out)
    go_ret
    exact ⟨ret_int HF.out,HG.out _ BW1.out⟩
   case pos =>
   rw [he] at HC;have HEk:=hid (HEk.out.trans (if_neg (by rw [he];decide)));clear he
   by_cases hk0:k=0
   case pos =>
    have HY2:=HYk.out (by rw [HEk.out,if_neg (by simp [hk0])]);have hkz:decide ((0:Int) < (k:Int))=false:=decide_eq_false (by omega);have hkz2:decide (0 < k)=false:=decide_eq_false (by omega);have hkz3:¬ 0 < k:=by omega
    clear hk0;clear HEk HNk HYk;generalize insA s.ins[k] pt=X at *;go_wp2_with (go_at_call 32;refine (HC.out _ BA.out).mono ?_;rintro e w1 ⟨rfl,hb1⟩;have BW1:=hid ((BW.out.trans (BA.out.mono BW.out.size)).trans (hb1.mono (by have:=BW.out.size;have:=BA.out.size;omega)));have HB1:=hid hb1;clear hb1;obtain ⟨t1,t2,t3,t4⟩:=HCE.out _ BW1.out)
    go_quiet (fail)
    have BW2:=hid (bel_drewN BW1.out nq);go_wp2_with fail
    go_roundg (s.ins.length - (k+1))
    case measure=>omega
    case rel=>exact ⟨k+1,by omega,by omega,by go_num,BW2,HY2⟩
   case neg =>
    have k0:(0:Int)<=(k:Int) - 1:=by omega
    have k1:(k:Int) - 1 < (s.ins.length:Int):=by omega
    have k4:((k:Int) - 1).toNat=k - 1:=by omega
    have k5:wrap64 ((k:Int) - 1)=(k:Int) - 1:=by unfold wrap64;omega
    have k6:(0:Int) < (k:Int):=by omega
    have hd:decide ((0:Int) < (k:Int))=true:=decide_eq_true (by omega);have hd2:decide (0 < k)=true:=decide_eq_true (by omega);have hpos:0 < k:=by omega
    have k9:(k:Int)<=(s.ins.length:Int):=by omega
    have k7:(1:Int)<=(k:Int):=by omega
    obtain ⟨b',off',pt',hr',_,hcell',hP'⟩:=HIN.out wr (HG.out _ BW.out) (k - 1) (by omega);simp only [Option.some.injEq,Addr.mk.injEq] at hr';obtain ⟨rfl,rfl,_⟩:=hr';have hY:=cellsI (s.ins[k - 1]'(by omega)) pt';obtain ⟨m1,m2⟩:=liesI_of hY hcell';have HM:=hid (And.intro m1 m2);have HPY:=hid (fun (W:World)=>placeOf_any (s.ins[k - 1]'(by omega)) pt' W);have HCP:=hid (fun (W:World)=>pcompare_any (plOf (s.ins[k - 1]'(by omega))) (plOf s.ins[k]) W);have HEk2:Hid (insE s.ins k=if 0<=cmpP (plOf (s.ins[k - 1]'(by omega))) (plOf s.ins[k]) then 1 else 0):=hid (by rw [HEk.out,getD_at _ (by omega:k - 1 < s.ins.length)];simp [hk0]);clear HEk hcell' hP' m1 m2 hY;unfold plOf at HCP;simp only at HCP;have HPL:=hid (show cmpP (plOf (s.ins[k - 1]'(by omega))) (plOf s.ins[k])=cmpP ((s.ins[k - 1]'(by omega)).ad,(s.ins[k - 1]'(by omega)).de) (s.ins[k].ad,s.ins[k].de) from rfl);rw [HPL.out] at HEk2;clear HPL;generalize cmpP ((s.ins[k - 1]'(by omega)).ad,(s.ins[k - 1]'(by omega)).de) (s.ins[k].ad,s.ins[k].de)=C at *;generalize s.ins[k].ad=x1 at *;generalize s.ins[k].de=x2 at *;generalize (s.ins[k - 1]'(by omega)).ad=y1 at *;generalize (s.ins[k - 1]'(by omega)).de=y2 at *;generalize insA s.ins[k] pt=X at *;generalize insA (s.ins[k - 1]'(by omega)) pt'=Y at *;go_wp2_with (go_at_call 32;refine (HC.out _ BA.out).mono ?_;rintro e w1 ⟨rfl,hb1⟩;have BW1:=hid ((BW.out.trans (BA.out.mono BW.out.size)).trans (hb1.mono (by have:=BW.out.size;have:=BA.out.size;omega)));have HB1:=hid hb1;clear hb1;obtain ⟨t1,t2,t3,t4⟩:=HCE.out _ BW1.out)
    have BAW:=hid (BA.out.trans (HB1.out.mono BA.out.size));have HLX:=hid (fun (W:World) (hW:Below w1.heap.size w1 W)=>show LiesI W wr.heap.size 0/\rd13 W wr.heap.size 0=X from liesI_blk ((hW.block _ (by have:=HB1.out.size;have:=HZA.out;omega)).trans ((HB1.out.block _ (by have:=HZA.out;omega)).trans HLA.out)) HXC.out)
    have HLY:=hid (fun (W:World) (hW:Below w1.heap.size w1 W)=>show LiesI W b (off+(k - 1) * 13)/\rd13 W b (off+(k - 1) * 13)=Y from by
     have hh:=HM.out.1.below (BAW.out.trans (hW.mono BAW.out.size));exact ⟨hh.1,hh.2.trans HM.out.2⟩)
    have kt2:=fun d os=>cell_regrown t2 d os;refine wp_region_fresh (fun k=>match k with | 8=>some (sVal (.agg Y)) | 9=>some (sVal (.agg #[.string y1,.string y2])) | 10=>some (sVal (.agg X)) | 11=>some (sVal (.agg #[.string x1,.string x2])) | 12=>some (sVal (.int .i64 C)) | _=>none) (by kernel_rfl) (by kernel_rfl) ?_
    iterate 8 (refine wq ?_;intro K hK;go_big_quiet_op;go_big_quiet_on)
    refine wpF_told (sVal (.agg Y)) (by kernel_rfl) rfl ⟨_,rfl⟩ stTrue (fun w4 hw4 hE4=>?_) ?_
    . have hb4:=grw_below hw4
      obtain ⟨l1,l2⟩:=HLY.out w4 hb4;clear hw4 hE4 hb4;go_simp
      exact ⟨Lat.refl _,rfl,trivial⟩
    rintro _ rfl
    (refine wpF_put ?_;intro K hK;go_simp;refine hK _ ?_;clear hK K)
    refine wpF_told (sVal (.agg #[.string y1,.string y2])) (by kernel_rfl) rfl ⟨_,rfl⟩ stTrue (fun w4 hw4 hE4=>?_) ?_
    . have hb4:=grw_below hw4
      have hh:=HPY.out w4;clear hw4 hE4 hb4;go_simp
      go_at_call 33;refine Calls.mono hh ?_;rintro e w5 ⟨rfl,hb5⟩;exact ⟨_,rfl,hb5,rfl,trivial⟩
    rintro _ rfl
    (refine wpF_put ?_;intro K hK;go_simp;refine hK _ ?_;clear hK K)
    refine wpF_told (sVal (.agg X)) (by kernel_rfl) rfl ⟨_,rfl⟩ stTrue (fun w4 hw4 hE4=>?_) ?_
    . have hb4:=grw_below hw4
      obtain ⟨l1,l2⟩:=HLX.out w4 hb4;clear hw4 hE4 hb4;go_simp
      exact ⟨Lat.refl _,rfl,trivial⟩
    rintro _ rfl
    (refine wpF_put ?_;intro K hK;go_simp;refine hK _ ?_;clear hK K)
    refine wpF_told (sVal (.agg #[.string x1,.string x2])) (by kernel_rfl) rfl ⟨_,rfl⟩ stTrue (fun w4 hw4 hE4=>?_) ?_
    . have hb4:=grw_below hw4
      have hh:=HPX.out w4;clear hw4 hE4 hb4;go_simp
      go_at_call 33;refine Calls.mono hh ?_;rintro e w5 ⟨rfl,hb5⟩;exact ⟨_,rfl,hb5,rfl,trivial⟩
    rintro _ rfl
    (refine wpF_put ?_;intro K hK;go_simp;refine hK _ ?_;clear hK K)
    refine wpF_told (sVal (.int .i64 C)) (by kernel_rfl) rfl ⟨_,rfl⟩ stTrue (fun w4 hw4 hE4=>?_) ?_
    . have hb4:=grw_below hw4
      have hh:=HCP.out w4;clear hw4 hE4 hb4;go_simp
      go_at_call 34;refine Calls.mono hh ?_;rintro e w5 ⟨rfl,hb5⟩;exact ⟨_,rfl,hb5,rfl,trivial⟩
    rintro _ rfl
    (refine wpF_put ?_;intro K hK;go_simp;refine hK _ ?_;clear hK K)
    iterate 2 (refine wq ?_;intro K hK;go_big_quiet_op;go_big_quiet_on)
    refine wpF_nil ?_;intro w6 hw6 hE6;have hb6:=grw_below hw6;clear hw6 hE6;have HB6:=hid (BW1.out.trans (hb6.mono BW1.out.size));clear hb6
    by_cases hC:0<=C
    case pos =>
     have HF:=hid (show R=1 by
      have:insE s.ins k=1:=by rw [HEk2.out,if_pos hC]
      rw [<-this];exact HNk.out (by rw [this];decide))
     clear HEk2 HNk HYk HR;go_wp2_with fail
     go_ret
     exact ⟨ret_int HF.out,HG.out _ HB6.out⟩
    case neg =>
     have HY2:=HYk.out (by rw [HEk2.out,if_neg hC]);clear HEk2 HNk HYk;go_wp2_with fail
     go_roundg (s.ins.length - (k+1))
     case measure=>omega
     case rel=>exact ⟨k+1,by omega,by omega,by go_num,HB6,HY2⟩
  case neg =>
   have hltz:¬ (k:Int) < (s.ins.length:Int):=by omega
   have HR:=hid (HR.out.trans (if_neg (by rw [fstE_none fun j hj=>AL.out j (by omega)];decide)));clear AL;go_wp2_with (fail)
   have HBw:=hid (BW.out);clear t1 t2 t3 t4;go_loopg [66] s.pen.length (fun gg s9 wr=>∃ k:Nat,k<=s.pen.length/\s.pen.length - k<=gg/\s9=.int .i64 k/\Hid (Below W0.heap.size W0 wr)/\Hid (∀ j,j < k->penE s.pen j=0))
   case atStart=>exact ⟨0,Nat.zero_le _,by omega,rfl,HBw,hid fun j h=>absurd h (by omega)⟩
   case round =>
    clear HBw BW;obtain ⟨k,hk,hg,rfl,BW,AL⟩:=hrel;obtain ⟨t1,t2,t3,t4⟩:=HCE.out _ BW.out
    by_cases hlt:k < s.pen.length
    case pos =>
     have hltz:(k:Int) < (s.pen.length:Int):=by omega
     have HEk:=hid (penE_at hlt);have HNk:=hid (fun (h2:penE s.pen k=1)=>show R=1 from HR.out.trans (by rw [fstE_at hlt AL.out (by rw [h2];decide),h2,if_pos (by decide)]));have HYk:=hid (fun (h:penE s.pen k=0)=>show Hid (∀ j,j < k+1->penE s.pen j=0) from hid (zeroN AL.out h));obtain ⟨b,off,rfl,hbl,g0,g1,g2,_⟩:=HPN.out wr (HG.out _ BW.out) k hlt;have HT:=hid (HPT.out s.pen[k]);have HM:=hid (HPM.out s.pen[k] (List.getElem_mem hlt))
     have HPP:=hid (fun (hk:0 < k)=>show ∃ z,z=(s.pen[k - 1]'(by omega)).tok/\wr.cell? ⟨b,off+(k - 1) * 3+2,none⟩=some (.string z) from by
      obtain ⟨b',off',hr',_,_,_,g2',_⟩:=HPN.out wr (HG.out _ BW.out) (k - 1) (by omega);simp only [Option.some.injEq,Addr.mk.injEq] at hr';obtain ⟨rfl,rfl,_⟩:=hr';exact ⟨_,rfl,g2'⟩)
     have HPD:=hid (fun (hk:0 < k)=>getD_at (l:=s.pen) (k:=k - 1) pnZ (by omega));clear AL;obtain ⟨bt,ht⟩:∃ v,txB s.pen[k].tok=v:=⟨_,rfl⟩;obtain ⟨bm,hm⟩:∃ v,mgB s.pen[k].ad s.pen[k].ty=v:=⟨_,rfl⟩;rw [ht] at HT HEk;rw [hm] at HM HEk;clear ht hm;generalize s.pen[k]=x at *;obtain ⟨x1,x2,x3⟩:=x;dsimp only at *;obtain ⟨WA,hWA⟩:∃ WA,WA=wr.alloc (.cells #[.string x1,.string x2,.string x3] 58):=⟨_,rfl⟩;have hla:WA.heap[wr.heap.size]?=some (.cells #[.string x1,.string x2,.string x3] 58):=hWA ▸ (MapKept.heap_alloc wr _).1;have BA:=hid (show Below wr.heap.size wr WA from hWA ▸ (Below.refl _ _).alloc (Nat.le_refl _) _);have BWA:=hid (BW.out.trans (BA.out.mono BW.out.size));have HBA:=hid (HG.out _ BWA.out);have HWA:=hid hWA;clear hWA;go_wp2_with fail
     rw [<-HWA.out];have c0:WA.cell? ⟨wr.heap.size,0,none⟩=some (.string x1):=cellv hla 0 rfl;have c1:WA.cell? ⟨wr.heap.size,1,none⟩=some (.string x2):=cellv hla 1 rfl;have c2:WA.cell? ⟨wr.heap.size,2,none⟩=some (.string x3):=cellv hla 2 rfl;clear hla t1 t2 t3 t4 g0 g1 g2;obtain ⟨t1,t2,t3,t4⟩:=HCE.out _ BWA.out;have kc0:=fun d os=>cell_regrown c0 d os;have kc1:=fun d os=>cell_regrown c1 d os;have kc2:=fun d os=>cell_regrown c2 d os;have kt3:=fun d os=>cell_regrown t3 d os;cases bt with
     | false =>
       have HF:=hid (HNk.out (by rw [HEk.out];rfl));clear HEk HNk HYk HR;refine wp_region_fresh (fun k=>match k with | 2=>some (sBool false) | _=>none) (by kernel_rfl) (by kernel_rfl) ?_
       iterate 2 (refine wq ?_;intro K hK;go_big_quiet_op;go_big_quiet_on)
       refine wpF_told (sBool false) (by kernel_rfl) rfl ⟨_,rfl⟩ stTrue (fun w4 hw4 hE4=>?_) ?_
       . have hb4:=grw_below hw4
         have hh:=HT.out w4 (HBA.out.trans (hb4.mono HBA.out.size));clear hw4 hE4 hb4;go_simp
         go_at_call 31;refine Calls.mono hh ?_;rintro e w5 ⟨rfl,hb5⟩;exact ⟨_,rfl,hb5,rfl,trivial⟩
       rintro _ rfl
       (refine wpF_put ?_;intro K hK;go_simp;refine hK _ ?_;clear hK K)
       iterate 2 (refine wq ?_;intro K hK;go_big_quiet_op;go_big_quiet_on)
       iterate 6 (refine wpF_skip (by kernel_rfl) ?_)
       (refine wpF_put ?_;intro K hK;go_simp;refine hK _ ?_;clear hK K)
       iterate 2 (refine wq ?_;intro K hK;go_big_quiet_op;go_big_quiet_on)
       iterate 14 (refine wpF_skip (by kernel_rfl) ?_)
       (refine wpF_put ?_;intro K hK;go_simp;refine hK _ ?_;clear hK K)
       (refine wq ?_;intro K hK;go_big_quiet_op;go_big_quiet_on)
       refine wpF_nil ?_;intro w6 hw6 hE6;have hb6:=grw_below hw6;clear hw6 hE6;have HB6:=hid (BWA.out.trans (hb6.mono BWA.out.size));clear hb6;go_wp2_with fail
       go_ret
       exact ⟨ret_int HF.out,HG.out _ HB6.out⟩
     | true =>
     cases bm with
     | false =>
       have HF:=hid (HNk.out (by rw [HEk.out];rfl));clear HEk HNk HYk HR;refine wp_region_fresh (fun k=>match k with | 2=>some (sBool true) | 9=>some (sBool false) | _=>none) (by kernel_rfl) (by kernel_rfl) ?_
       iterate 2 (refine wq ?_;intro K hK;go_big_quiet_op;go_big_quiet_on)
       refine wpF_told (sBool true) (by kernel_rfl) rfl ⟨_,rfl⟩ stTrue (fun w4 hw4 hE4=>?_) ?_
       . have hb4:=grw_below hw4
         have hh:=HT.out w4 (HBA.out.trans (hb4.mono HBA.out.size));clear hw4 hE4 hb4;go_simp
         go_at_call 31;refine Calls.mono hh ?_;rintro e w5 ⟨rfl,hb5⟩;exact ⟨_,rfl,hb5,rfl,trivial⟩
       rintro _ rfl
       (refine wpF_put ?_;intro K hK;go_simp;refine hK _ ?_;clear hK K)
       iterate 2 (refine wq ?_;intro K hK;go_big_quiet_op;go_big_quiet_on)
       iterate 4 (refine wq ?_;intro K hK;go_big_quiet_op;go_big_quiet_on)
       refine wpF_told (sBool false) (by kernel_rfl) rfl ⟨_,rfl⟩ stTrue (fun w4 hw4 hE4=>?_) ?_
       . have hb4:=grw_below hw4
         have hh:=HM.out w4 (HBA.out.trans (hb4.mono HBA.out.size));clear hw4 hE4 hb4;go_simp
         go_at_call 35;refine Calls.mono hh ?_;rintro e w5 ⟨rfl,hb5⟩;exact ⟨_,rfl,hb5,rfl,trivial⟩
       rintro _ rfl
       (refine wpF_put ?_;intro K hK;go_simp;refine hK _ ?_;clear hK K)
       iterate 3 (refine wq ?_;intro K hK;go_big_quiet_op;go_big_quiet_on)
       iterate 14 (refine wpF_skip (by kernel_rfl) ?_)
       (refine wpF_put ?_;intro K hK;go_simp;refine hK _ ?_;clear hK K)
       (refine wq ?_;intro K hK;go_big_quiet_op;go_big_quiet_on)
       refine wpF_nil ?_;intro w6 hw6 hE6;have hb6:=grw_below hw6;clear hw6 hE6;have HB6:=hid (BWA.out.trans (hb6.mono BWA.out.size));clear hb6;go_wp2_with fail
       go_ret
       exact ⟨ret_int HF.out,HG.out _ HB6.out⟩
     | true =>
     by_cases hk0:k=0
     case pos =>
      have HY2:=HYk.out (by rw [HEk.out];simp [hk0]);have hkz:decide ((0:Int) < (k:Int))=false:=decide_eq_false (by omega);have hkz2:decide (0 < k)=false:=decide_eq_false (by omega);have hkz3:¬ 0 < k:=by omega
      clear hk0;clear HEk HNk HYk;refine wp_region_fresh (fun k=>match k with | 2=>some (sBool true) | 9=>some (sBool true) | _=>none) (by kernel_rfl) (by kernel_rfl) ?_
      iterate 2 (refine wq ?_;intro K hK;go_big_quiet_op;go_big_quiet_on)
      refine wpF_told (sBool true) (by kernel_rfl) rfl ⟨_,rfl⟩ stTrue (fun w4 hw4 hE4=>?_) ?_
      . have hb4:=grw_below hw4
        have hh:=HT.out w4 (HBA.out.trans (hb4.mono HBA.out.size));clear hw4 hE4 hb4;go_simp
        go_at_call 31;refine Calls.mono hh ?_;rintro e w5 ⟨rfl,hb5⟩;exact ⟨_,rfl,hb5,rfl,trivial⟩
      rintro _ rfl
      (refine wpF_put ?_;intro K hK;go_simp;refine hK _ ?_;clear hK K)
      iterate 2 (refine wq ?_;intro K hK;go_big_quiet_op;go_big_quiet_on)
      iterate 4 (refine wq ?_;intro K hK;go_big_quiet_op;go_big_quiet_on)
      refine wpF_told (sBool true) (by kernel_rfl) rfl ⟨_,rfl⟩ stTrue (fun w4 hw4 hE4=>?_) ?_
      . have hb4:=grw_below hw4
        have hh:=HM.out w4 (HBA.out.trans (hb4.mono HBA.out.size));clear hw4 hE4 hb4;go_simp
        go_at_call 35;refine Calls.mono hh ?_;rintro e w5 ⟨rfl,hb5⟩;exact ⟨_,rfl,hb5,rfl,trivial⟩
      rintro _ rfl
      (refine wpF_put ?_;intro K hK;go_simp;refine hK _ ?_;clear hK K)
      iterate 3 (refine wq ?_;intro K hK;go_big_quiet_op;go_big_quiet_on)
      iterate 3 (refine wq ?_;intro K hK;go_big_quiet_op;go_big_quiet_on)
      iterate 10 (refine wpF_skip (by kernel_rfl) ?_)
      (refine wpF_put ?_;intro K hK;go_simp;refine hK _ ?_;clear hK K)
      iterate 2 (refine wq ?_;intro K hK;go_big_quiet_op;go_big_quiet_on)
      refine wpF_nil ?_;intro w6 hw6 hE6;have hb6:=grw_below hw6;clear hw6 hE6;have HB6:=hid (BWA.out.trans (hb6.mono BWA.out.size));clear hb6;go_wp2_with fail
      go_roundg (s.pen.length - (k+1))
      case measure=>omega
      case rel=>exact ⟨k+1,by omega,by omega,by go_num,HB6,HY2⟩
     case neg =>
     obtain ⟨z,hz,gz⟩:=HPP.out (by omega);have gz:=bget BA.out gz;have kgz:=fun d os=>cell_regrown gz d os;have k0:(0:Int)<=(k:Int) - 1:=by omega
     have k1:(k:Int) - 1 < (s.pen.length:Int):=by omega
     have k4:((k:Int) - 1).toNat=k - 1:=by omega
     have k5:wrap64 ((k:Int) - 1)=(k:Int) - 1:=by unfold wrap64;omega
     have k6:(0:Int) < (k:Int):=by omega
     have hd:decide ((0:Int) < (k:Int))=true:=decide_eq_true (by omega);have hd2:decide (0 < k)=true:=decide_eq_true (by omega);have hpos:0 < k:=by omega
     have k9:(k:Int)<=(s.pen.length:Int):=by omega
     have k7:(1:Int)<=(k:Int):=by omega
     have HEk2:Hid (penE s.pen k=if ltL z x3 then 0 else 1):=hid (by rw [HEk.out,HPD.out (by omega),<-hz];simp [hk0]);have q:=lessL z x3;clear HEk HPD HPP hz;generalize ltL z x3=L at *;cases L with
     | true =>
       have HY2:=HYk.out (by rw [HEk2.out];rfl);have HEk:=HEk2;clear HEk2;clear HEk HNk HYk;refine wp_region_fresh (fun k=>match k with | 2=>some (sBool true) | 9=>some (sBool true) | _=>none) (by kernel_rfl) (by kernel_rfl) ?_
       iterate 2 (refine wq ?_;intro K hK;go_big_quiet_op;go_big_quiet_on)
       refine wpF_told (sBool true) (by kernel_rfl) rfl ⟨_,rfl⟩ stTrue (fun w4 hw4 hE4=>?_) ?_
       . have hb4:=grw_below hw4
         have hh:=HT.out w4 (HBA.out.trans (hb4.mono HBA.out.size));clear hw4 hE4 hb4;go_simp
         go_at_call 31;refine Calls.mono hh ?_;rintro e w5 ⟨rfl,hb5⟩;exact ⟨_,rfl,hb5,rfl,trivial⟩
       rintro _ rfl
       (refine wpF_put ?_;intro K hK;go_simp;refine hK _ ?_;clear hK K)
       iterate 2 (refine wq ?_;intro K hK;go_big_quiet_op;go_big_quiet_on)
       iterate 4 (refine wq ?_;intro K hK;go_big_quiet_op;go_big_quiet_on)
       refine wpF_told (sBool true) (by kernel_rfl) rfl ⟨_,rfl⟩ stTrue (fun w4 hw4 hE4=>?_) ?_
       . have hb4:=grw_below hw4
         have hh:=HM.out w4 (HBA.out.trans (hb4.mono HBA.out.size));clear hw4 hE4 hb4;go_simp
         go_at_call 35;refine Calls.mono hh ?_;rintro e w5 ⟨rfl,hb5⟩;exact ⟨_,rfl,hb5,rfl,trivial⟩
       rintro _ rfl
       (refine wpF_put ?_;intro K hK;go_simp;refine hK _ ?_;clear hK K)
       iterate 3 (refine wq ?_;intro K hK;go_big_quiet_op;go_big_quiet_on)
       iterate 3 (refine wq ?_;intro K hK;go_big_quiet_op;go_big_quiet_on)
       iterate 10 (refine wq ?_;intro K hK;go_big_quiet_op;go_big_quiet_on)
       iterate 2 (refine wq ?_;intro K hK;go_big_quiet_op;go_big_quiet_on)
       refine wpF_nil ?_;intro w6 hw6 hE6;have hb6:=grw_below hw6;clear hw6 hE6;have HB6:=hid (BWA.out.trans (hb6.mono BWA.out.size));clear hb6;go_wp2_with fail
       go_roundg (s.pen.length - (k+1))
       case measure=>omega
       case rel=>exact ⟨k+1,by omega,by omega,by go_num,HB6,HY2⟩
     | false =>
       have HF:=hid (HNk.out (by rw [HEk2.out];rfl));have HEk:=HEk2;clear HEk2;clear HEk HNk HYk HR;refine wp_region_fresh (fun k=>match k with | 2=>some (sBool true) | 9=>some (sBool true) | _=>none) (by kernel_rfl) (by kernel_rfl) ?_
       iterate 2 (refine wq ?_;intro K hK;go_big_quiet_op;go_big_quiet_on)
       refine wpF_told (sBool true) (by kernel_rfl) rfl ⟨_,rfl⟩ stTrue (fun w4 hw4 hE4=>?_) ?_
       . have hb4:=grw_below hw4
         have hh:=HT.out w4 (HBA.out.trans (hb4.mono HBA.out.size));clear hw4 hE4 hb4;go_simp
         go_at_call 31;refine Calls.mono hh ?_;rintro e w5 ⟨rfl,hb5⟩;exact ⟨_,rfl,hb5,rfl,trivial⟩
       rintro _ rfl
       (refine wpF_put ?_;intro K hK;go_simp;refine hK _ ?_;clear hK K)
       iterate 2 (refine wq ?_;intro K hK;go_big_quiet_op;go_big_quiet_on)
       iterate 4 (refine wq ?_;intro K hK;go_big_quiet_op;go_big_quiet_on)
       refine wpF_told (sBool true) (by kernel_rfl) rfl ⟨_,rfl⟩ stTrue (fun w4 hw4 hE4=>?_) ?_
       . have hb4:=grw_below hw4
         have hh:=HM.out w4 (HBA.out.trans (hb4.mono HBA.out.size));clear hw4 hE4 hb4;go_simp
         go_at_call 35;refine Calls.mono hh ?_;rintro e w5 ⟨rfl,hb5⟩;exact ⟨_,rfl,hb5,rfl,trivial⟩
       rintro _ rfl
       (refine wpF_put ?_;intro K hK;go_simp;refine hK _ ?_;clear hK K)
       iterate 3 (refine wq ?_;intro K hK;go_big_quiet_op;go_big_quiet_on)
       iterate 3 (refine wq ?_;intro K hK;go_big_quiet_op;go_big_quiet_on)
       iterate 10 (refine wq ?_;intro K hK;go_big_quiet_op;go_big_quiet_on)
       iterate 2 (refine wq ?_;intro K hK;go_big_quiet_op;go_big_quiet_on)
       refine wpF_nil ?_;intro w6 hw6 hE6;have hb6:=grw_below hw6;clear hw6 hE6;have HB6:=hid (BWA.out.trans (hb6.mono BWA.out.size));clear hb6;go_wp2_with fail
       go_ret
       exact ⟨ret_int HF.out,HG.out _ HB6.out⟩
    case neg =>
     have hltz:¬ (k:Int) < (s.pen.length:Int):=by omega
     have HR:=hid (HR.out.trans (if_neg (by rw [fstE_none fun j hj=>AL.out j (by omega)];decide)));clear AL;go_wp2_with (fail)
     have HBw:=hid (BW.out);clear t1 t2 t3 t4;go_loopg [103] s.out.length (fun gg s9 wr=>∃ k:Nat,k<=s.out.length/\s.out.length - k<=gg/\s9=.int .i64 k/\Hid (Below W0.heap.size W0 wr)/\Hid (∀ j,j < k->outE s.out j=0))
     case atStart=>exact ⟨0,Nat.zero_le _,by omega,rfl,HBw,hid fun j h=>absurd h (by omega)⟩
     case round =>
      clear HBw BW;obtain ⟨k,hk,hg,rfl,BW,AL⟩:=hrel;obtain ⟨t1,t2,t3,t4⟩:=HCE.out _ BW.out
      by_cases hlt:k < s.out.length
      case pos =>
       have hltz:(k:Int) < (s.out.length:Int):=by omega
       have HEk:=hid (outE_at hlt);have HNk:=hid (fun (h2:outE s.out k≠0)=>show R=outE s.out k from HR.out.trans (fstE_at hlt AL.out h2));have HYk:=hid (fun (h:outE s.out k=0)=>show Hid (∀ j,j < k+1->outE s.out j=0) from hid (zeroN AL.out h));obtain ⟨b,off,y,rfl,hbl,g0,g1,g2,g3,g4,g5,g6,hyx,hsp⟩:=HSO.out wr (HG.out _ BW.out) k hlt;obtain ⟨WA,hWA⟩:∃ WA,WA=wr.alloc (.cells #[.string s.out[k].nm,.int .i64 s.out[k].v.kind,.int .i64 s.out[k].v.num,.string s.out[k].v.str,.slice y.r s.out[k].v.items.length y.c,.slice y.rk s.out[k].v.keys.length y.ck,.bool s.out[k].se] 66):=⟨_,rfl⟩;have hla:WA.heap[wr.heap.size]?=some (.cells #[.string s.out[k].nm,.int .i64 s.out[k].v.kind,.int .i64 s.out[k].v.num,.string s.out[k].v.str,.slice y.r s.out[k].v.items.length y.c,.slice y.rk s.out[k].v.keys.length y.ck,.bool s.out[k].se] 66):=hWA ▸ (MapKept.heap_alloc wr _).1;have BA:=hid (show Below wr.heap.size wr WA from hWA ▸ (Below.refl _ _).alloc (Nat.le_refl _) _);have BWA:=hid (BW.out.trans (BA.out.mono BW.out.size));have HC:=hid (fun (W:World) (hW:Below wr.heap.size wr W)=>HOC.out s.out[k] (List.getElem_mem hlt) y.r y.c y.rk y.ck W ((HG.out _ BW.out).trans (hW.mono (HG.out _ BW.out).size)) (by have:=hsp.1;rw [hyx] at this;exact this.below hW))
       have HPP:=hid (fun (hk:0 < k)=>show ∃ z,z=(s.out[k - 1]'(by omega)).nm/\wr.cell? ⟨b,off+(k - 1) * 7,none⟩=some (.string z) from by
        obtain ⟨b',off',y',hr',_,g0',_⟩:=HSO.out wr (HG.out _ BW.out) (k - 1) (by omega);simp only [Option.some.injEq,Addr.mk.injEq] at hr';obtain ⟨rfl,rfl,_⟩:=hr';exact ⟨_,rfl,g0'⟩)
       have HPD:=hid (fun (hk:0 < k)=>getD_at (l:=s.out) (k:=k - 1) ouZ (by omega));have c0:=cellv hla 0 rfl;have c1:=cellv hla 1 rfl;have c2:=cellv hla 2 rfl;have c3:=cellv hla 3 rfl;have c4:=cellv hla 4 rfl;have c5:=cellv hla 5 rfl;have c6:=cellv hla 6 rfl;have HWA:=hid hWA;clear AL hyx hsp hla hWA;generalize s.out[k].nm=x1 at *;generalize s.out[k].v.kind=x2 at *;generalize s.out[k].v.num=x3 at *;generalize s.out[k].v.str=x4 at *;generalize s.out[k].v.items.length=x5 at *;generalize s.out[k].v.keys.length=x6 at *;generalize s.out[k].se=x7 at *;go_upto_region 25 with (fail)
       rw [<-HWA.out];clear HWA g0 g1 g2 g3 g4 g5 g6 t1 t2 t3 t4;obtain ⟨t1,t2,t3,t4⟩:=HCE.out _ BWA.out
       by_cases he:outC s.out[k]=0
       case neg =>
        have e1:(outC s.out[k] != 0)=true:=by simp [he]
        have e2:(outC s.out[k] == 0)=false:=by simp [he]
        have HF:=hid (show R=outC s.out[k] by
         have:outE s.out k=outC s.out[k]:=by rw [HEk.out,if_pos he]
         rw [<-this];exact HNk.out (by rw [this];exact he))
        clear he HEk HNk HYk HR;generalize outC s.out[k]=E at *;go_wp2_with (go_at_call 36;refine (HC.out _ BA.out).mono ?_;rintro e w1 ⟨rfl,hb1⟩;have BW1:=hid (BWA.out.trans (hb1.mono BWA.out.size));have HB1:=hid hb1;clear hb1;obtain ⟨t1,t2,t3,t4⟩:=HCE.out _ BW1.out;have d0:=bget HB1.out c0)
        go_ret
        exact ⟨ret_int HF.out,HG.out _ BW1.out⟩
       case pos =>
       rw [he] at HC;have HEk:=hid (HEk.out.trans (if_neg (by rw [he];decide)));clear he
       by_cases hk0:k=0
       case pos =>
        have HY2:=HYk.out (by rw [HEk.out,if_neg (by simp [hk0])]);have hkz:decide ((0:Int) < (k:Int))=false:=decide_eq_false (by omega);have hkz2:decide (0 < k)=false:=decide_eq_false (by omega);have hkz3:¬ 0 < k:=by omega
        clear hk0;clear HEk HNk HYk;go_wp2_with (go_at_call 36;refine (HC.out _ BA.out).mono ?_;rintro e w1 ⟨rfl,hb1⟩;have BW1:=hid (BWA.out.trans (hb1.mono BWA.out.size));have HB1:=hid hb1;clear hb1;obtain ⟨t1,t2,t3,t4⟩:=HCE.out _ BW1.out;have d0:=bget HB1.out c0)
        go_quiet (fail)
        have BW2:=hid (bel_drewN BW1.out nq);go_wp2_with fail
        go_roundg (s.out.length - (k+1))
        case measure=>omega
        case rel=>exact ⟨k+1,by omega,by omega,by go_num,BW2,HY2⟩
       case neg =>
       obtain ⟨z,hz,gz⟩:=HPP.out (by omega);have gz:=bget BA.out gz;have k0:(0:Int)<=(k:Int) - 1:=by omega
       have k1:(k:Int) - 1 < (s.out.length:Int):=by omega
       have k4:((k:Int) - 1).toNat=k - 1:=by omega
       have k5:wrap64 ((k:Int) - 1)=(k:Int) - 1:=by unfold wrap64;omega
       have k6:(0:Int) < (k:Int):=by omega
       have hd:decide ((0:Int) < (k:Int))=true:=decide_eq_true (by omega);have hd2:decide (0 < k)=true:=decide_eq_true (by omega);have hpos:0 < k:=by omega
       have k9:(k:Int)<=(s.out.length:Int):=by omega
       have k7:(1:Int)<=(k:Int):=by omega
       have HEk2:Hid (outE s.out k=if ltL z x1=false then 1 else 0):=hid (by rw [HEk.out,HPD.out (by omega),<-hz];simp [hk0]);have q:=lessL z x1;clear HEk HPD HPP hz;generalize ltL z x1=L at *;cases L with
       | true =>
         have HY2:=HYk.out (by rw [HEk2.out];rfl);clear HEk2 HNk HYk;go_wp2_with (go_at_call 36;refine (HC.out _ BA.out).mono ?_;rintro e w1 ⟨rfl,hb1⟩;have BW1:=hid (BWA.out.trans (hb1.mono BWA.out.size));have HB1:=hid hb1;clear hb1;obtain ⟨t1,t2,t3,t4⟩:=HCE.out _ BW1.out;have d0:=bget HB1.out c0;have dz:=bget HB1.out gz)
         go_quiet (fail)
         have BW2:=hid (bel_drewN BW1.out nq);go_wp2_with fail
         go_roundg (s.out.length - (k+1))
         case measure=>omega
         case rel=>exact ⟨k+1,by omega,by omega,by go_num,BW2,HY2⟩
       | false =>
         have HF:=hid (show R=1 by
          have:outE s.out k=1:=by rw [HEk2.out];rfl
          rw [<-this];exact HNk.out (by rw [this];decide))
         clear HEk2 HNk HYk HR;go_wp2_with (go_at_call 36;refine (HC.out _ BA.out).mono ?_;rintro e w1 ⟨rfl,hb1⟩;have BW1:=hid (BWA.out.trans (hb1.mono BWA.out.size));have HB1:=hid hb1;clear hb1;obtain ⟨t1,t2,t3,t4⟩:=HCE.out _ BW1.out;have d0:=bget HB1.out c0;have dz:=bget HB1.out gz)
         go_quiet (fail)
         have BW2:=hid (bel_drewN BW1.out nq);go_wp2_with fail
         go_ret
         exact ⟨ret_int HF.out,HG.out _ BW2.out⟩
      case neg =>
       have hltz:¬ (k:Int) < (s.out.length:Int):=by omega
       have HF:=hid (HR.out.trans (fstE_none fun j hj=>AL.out j (by omega)));clear AL;go_wp2_with (fail)
       go_ret
       exact ⟨ret_int HF.out,HG.out _ BW.out⟩
end Go.Proofs.YtomhbcfjhgecbaaGreatDoor
