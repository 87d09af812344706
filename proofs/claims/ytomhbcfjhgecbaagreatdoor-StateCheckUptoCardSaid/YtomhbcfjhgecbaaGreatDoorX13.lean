import Derived.Test.YtomhbcfjhgecbaaGreatDoorX12
import Derived.Test.YtomhbcfjhgecbaaGreatDoorX8
import Derived.Test.YtomhbcfjhgecbaaGreatDoorX10
set_option linter.unusedVariables false
set_option linter.unusedSimpArgs false
namespace Go.Proofs.YtomhbcfjhgecbaaGreatDoor
open Go.RowKit Go.Sort Go.Lib
open Go.Lib (hid)
open Adr (WT)
open Stp (wp_region_fresh Spc Stb sVal sBool stTrue Lat Bef grw_below wpF_quiet wq grw_ex wpF_told wpF_put wpF_nil wpF_skip noEnter_op)
attribute [local go_sem] Stp.frUpon
set_option maxRecDepth 100000 in
set_option maxHeartbeats 8000000 in
theorem lcheck_any (s:Sta) (p:Sp) (w:World) (hT:WT w) (h:StaP w s p) (hs:StaR1 s) :
  Calls Tryz.prog 3 #[.agg (staA s p)] w fun e w'=>e=.returned (.bool true)/\Below w.heap.size w w':=by
 have HSA:=hid (fun (W:World) (hW:Below w.heap.size w W)=>small_sta s p W (staP_below hW h));have HAW:=hid (fun (W:World) (hW:Below w.heap.size w W)=>awake_any W (hT.below hW));have HPE:=hid (fun (W:World) (hW:Below w.heap.size w W)=>check_sta s p W (hT.below hW) (staP_below hW h) ⟨fun x hx=>⟨by have:=(hs.ins x hx).ad;omega,by have:=(hs.ins x hx).de;omega,fun d hd=>by have:=(hs.ins x hx).dp d hd;omega⟩,fun x hx=>by have:=hs.pen x hx;omega,fun x hx=>by have:=hs.out x hx;omega⟩);have HRE:=hid (fun (W:World) (hW:Below w.heap.size w W)=>rcheck_sta s p W (staP_below hW h) hs);clear hT h hs;generalize smallS s=bs at *;generalize chkS s=E at *;obtain ⟨ri,ci,rp,cp,ro,co⟩:=p;unfold staA at *;dsimp only at HSA HPE HRE;obtain ⟨W0,hW0⟩:∃ W0,W0=w.alloc (.cells #[.string s.lin,.int .i64 s.ser,.slice ri s.ins.length ci,.slice rp s.pen.length cp,.slice ro s.out.length co] 26):=⟨_,rfl⟩;have HW0:=hid hW0;have HB0:=hid (show Below w.heap.size w W0 from hW0 ▸ (Below.refl _ _).alloc (Nat.le_refl _) _);have hc0:W0.heap[w.heap.size]?=some (.cells #[.string s.lin,.int .i64 s.ser,.slice ri s.ins.length ci,.slice rp s.pen.length cp,.slice ro s.out.length co] 26):=hW0 ▸ (MapKept.heap_alloc w _).1;have s0:W0.cell? ⟨w.heap.size,0,none⟩=some (.string s.lin):=cellv hc0 0 rfl;have s1:W0.cell? ⟨w.heap.size,1,none⟩=some (.int .i64 s.ser):=cellv hc0 1 rfl;have s2:W0.cell? ⟨w.heap.size,2,none⟩=some (.slice ri s.ins.length ci):=cellv hc0 2 rfl;have s3:W0.cell? ⟨w.heap.size,3,none⟩=some (.slice rp s.pen.length cp):=cellv hc0 3 rfl;have s4:W0.cell? ⟨w.heap.size,4,none⟩=some (.slice ro s.out.length co):=cellv hc0 4 rfl;have HCE:=hid (fun (W:World) (hW:Below W0.heap.size W0 W)=>show W.cell? ⟨w.heap.size,0,none⟩=some (.string s.lin)/\W.cell? ⟨w.heap.size,1,none⟩=some (.int .i64 s.ser)/\W.cell? ⟨w.heap.size,2,none⟩=some (.slice ri s.ins.length ci)/\W.cell? ⟨w.heap.size,3,none⟩=some (.slice rp s.pen.length cp)/\W.cell? ⟨w.heap.size,4,none⟩=some (.slice ro s.out.length co) from ⟨bget hW s0,bget hW s1,bget hW s2,bget hW s3,bget hW s4⟩);have HG:=hid (fun (W:World) (hW:Below W0.heap.size W0 W)=>HB0.out.trans (hW.mono HB0.out.size));have BC:=hid (Below.refl W0.heap.size W0);clear hc0 hW0;go_enter Tryz.func3,Tryz.ntmps3;go_upto_region 1 with (fail)
 rw [<-HW0.out];clear HW0;cases bs with
 | false =>
   go_wp2_with (first | (go_at_call 9;refine (HSA.out _ (HG.out _ BC.out)).mono ?_;rintro e w1 ⟨rfl,hb1⟩;have BC:=hid (BC.out.trans (hb1.mono BC.out.size));clear hb1;clear s0 s1 s2 s3 s4;obtain ⟨s0,s1,s2,s3,s4⟩:=HCE.out _ BC.out) | (go_at_call 10;refine (HAW.out _ (HG.out _ BC.out)).mono ?_;rintro e w1 ⟨rfl,hb1⟩;have BC:=hid (BC.out.trans (hb1.mono BC.out.size));clear hb1))
   go_ret
   exact ⟨rfl,HG.out _ BC.out⟩
 | true =>
   go_wp2_with (first | (go_at_call 9;refine (HSA.out _ (HG.out _ BC.out)).mono ?_;rintro e w1 ⟨rfl,hb1⟩;have BC:=hid (BC.out.trans (hb1.mono BC.out.size));clear hb1;clear s0 s1 s2 s3 s4;obtain ⟨s0,s1,s2,s3,s4⟩:=HCE.out _ BC.out) | (go_at_call 10;refine (HAW.out _ (HG.out _ BC.out)).mono ?_;rintro e w1 ⟨rfl,hb1⟩;have BC:=hid (BC.out.trans (hb1.mono BC.out.size));clear hb1))
   have ks0:=fun d os=>cell_regrown s0 d os;have ks1:=fun d os=>cell_regrown s1 d os;have ks2:=fun d os=>cell_regrown s2 d os;have ks3:=fun d os=>cell_regrown s3 d os;have ks4:=fun d os=>cell_regrown s4 d os;refine wp_region_fresh (fun k=>match k with | 1=>some (sVal (.int .i64 E)) | 3=>some (sVal (.int .i64 E)) | 6=>some (sBool true) | _=>none) (by kernel_rfl) (by kernel_rfl) ?_
   (refine wq ?_;intro K hK;go_big_quiet_op;go_big_quiet_on)
   refine wpF_told (sVal (.int .i64 E)) (by kernel_rfl) rfl ⟨_,rfl⟩ stTrue (fun w4 hw4 hE4=>?_) ?_
   . have hb4:=grw_below hw4
     have hh:=HPE.out w4 (HG.out _ (BC.out.trans (hb4.mono BC.out.size)));clear hw4 hE4 hb4;go_simp
     go_at_call 11;refine Calls.mono hh ?_;rintro e w5 ⟨rfl,hb5⟩;exact ⟨_,rfl,hb5,rfl,trivial⟩
   rintro _ rfl
   (refine wpF_put ?_;intro K hK;go_simp;refine hK _ ?_;clear hK K)
   (refine wq ?_;intro K hK;go_big_quiet_op;go_big_quiet_on)
   refine wpF_told (sVal (.int .i64 E)) (by kernel_rfl) rfl ⟨_,rfl⟩ stTrue (fun w4 hw4 hE4=>?_) ?_
   . have hb4:=grw_below hw4
     have hh:=HRE.out w4 (HG.out _ (BC.out.trans (hb4.mono BC.out.size)));clear hw4 hE4 hb4;go_simp
     go_at_call 12;refine Calls.mono hh ?_;rintro e w5 ⟨rfl,hb5⟩;exact ⟨_,rfl,hb5,rfl,trivial⟩
   rintro _ rfl
   (refine wpF_put ?_;intro K hK;go_simp;refine hK _ ?_;clear hK K)
   iterate 2 (refine wq ?_;intro K hK;go_big_quiet_op;go_big_quiet_on)
   refine wpF_told (sBool true) (by kernel_rfl) rfl ⟨_,rfl⟩ stTrue (fun w4 hw4 hE4=>?_) ?_
   . have hb4:=grw_below hw4
     have hh:=HAW.out w4 (HG.out _ (BC.out.trans (hb4.mono BC.out.size)));clear hw4 hE4 hb4;go_simp
     go_at_call 10;refine Calls.mono hh ?_;rintro e w5 ⟨rfl,hb5⟩;exact ⟨_,rfl,hb5,rfl,trivial⟩
   rintro _ rfl
   (refine wpF_put ?_;intro K hK;go_simp;refine hK _ ?_;clear hK K)
   iterate 2 (refine wq ?_;intro K hK;go_big_quiet_op;go_big_quiet_on)
   refine wpF_nil ?_;intro w6 hw6 hE6;have hb6:=grw_below hw6;clear hw6 hE6;have HB6:=hid (BC.out.trans (hb6.mono BC.out.size));clear hb6;go_wp2_with fail
   go_ret
   exact ⟨rfl,HG.out _ HB6.out⟩
end Go.Proofs.YtomhbcfjhgecbaaGreatDoor
namespace Go.Proofs.YtomhbcfjhgecbaaGreatDoor
open Go.RowKit Go.Sort Go.ChangeShapes Go.WideShapes Go.ChangeAt
open Adr (WT)
set_option maxRecDepth 100000 in
theorem check_from (H:Type) (enc:TypeId × Value->H) (W:World) (base:Nat) (v0:Value) (d0:DataW H) (p0:List MemPlace) (o0:Value.okWide Tryz.prog W .any base 26 v0)
  (h0:DataW.Trod enc Tryz.prog W 0 (fun _=>true) true 26 v0 d0 p0) (q0:Blk.Bk 1048576 d0) (hu:WT W) :
  Calls Tryz.prog 3 #[v0] W fun e W'=>e=.returned (.bool true)/\Below W.heap.size W W':=by
 obtain ⟨s,p,rfl,hs,hr⟩:=state_argb o0 h0 q0;exact lcheck_any s p W hu hs hr
end Go.Proofs.YtomhbcfjhgecbaaGreatDoor
