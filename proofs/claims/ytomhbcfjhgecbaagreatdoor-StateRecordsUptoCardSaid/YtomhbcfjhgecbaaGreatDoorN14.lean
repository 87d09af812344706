import Derived.Test.YtomhbcfjhgecbaaGreatDoorN12
import Derived.Test.YtomhbcfjhgecbaaGreatDoorN13
import Derived.Test.YtomhbcfjhgecbaaGreatDoorN8
import Derived.Deep.DeepCutAuto
set_option linter.unusedVariables false
set_option linter.unusedSimpArgs false
namespace Go.Proofs.YtomhbcfjhgecbaaGreatDoor
open Go.RowKit Go.Sort Go.ChangeShapes Go.WideShapes Go.ChangeAt
open Adr (WT)
set_option maxRecDepth 100000 in
theorem MJ {H:Type} {enc:TypeId × Value->H} {W:World} {base:Nat} {v:Value} {d:DataW H} {p:List MemPlace} (o:Value.okWide Tryz.prog W .any base 41 v) (h:DataW.Trod enc Tryz.prog W 0 (fun _=>true) true 41 v d p) (hw:Blk.Bk 1048576 d) :
  ∃ x q,v=.agg (aH x q)/\jf W x q/\Ed x:=by
 obtain ⟨a,rfl,i⟩:=okWide_struct Tryz.underlying41 o;obtain ⟨b,g⟩:=h;have j:Tryz.prog.cellsOf 41=13:=by kernel_rfl
 have f:(Value.agg a).cells=a:=rfl;rw [f] at g;obtain ⟨x,⟨q,l,m⟩,c⟩:=QG (Nat.le_refl _) b a.toList (d,p) (by simpa [j] using i) hw g;refine ⟨x,q,?_,m,⟨by have:=c.1;omega,by have:=c.2.1;omega,fun d k=>by have:=c.2.2.2.2.2 d k;omega⟩⟩;rw [<-Array.toArray_toList (xs:=a),l,Array.toArray_toList]
set_option maxRecDepth 100000 in
theorem NY {W:World} {base:Nat} {v:Value} (o:Value.okWide Tryz.prog W .any base 47 v):∃ a d,v=.agg #[.string a,.string d]:=by
 have r:Tryz.prog.underlying 47=some (.array 2 9):=Tryz.underlying47;simp only [Value.okWide,r] at o;obtain ⟨g,rfl,f,C,c,_,m⟩:=o;have l:Tryz.prog.cellsOf 47=2:=by kernel_rfl
 have j:Tryz.prog.cellTypes Tryz.prog.depth 47=some [9,9]:=by kernel_rfl
 rw [j] at c;have c:=Option.some.inj c;subst c;rw [l] at f;clear l j
 have k:∀ v,Cell.okWide Tryz.prog W .any base 9 v->∃ s,v=.string s:=by
  intro v h;have t:Tryz.prog.underlying 9=some .string:=Tryz.underlying9;simp only [Cell.okWide,t,Cell.ok] at h;cases v <;> simp_all
 have z:0 < g.size:=by rw [f];decide
 have q:1 < g.size:=by rw [f];decide
 obtain ⟨u0,n,u⟩:=m 0 g[0] (Array.getElem?_eq_getElem z);obtain ⟨u1,p,k1⟩:=m 1 g[1] (Array.getElem?_eq_getElem q);obtain rfl:=Option.some.inj n;obtain rfl:=Option.some.inj p;obtain ⟨a,B⟩:=k _ u;obtain ⟨b,y⟩:=k _ k1;refine ⟨a,b,?_⟩
 congr 1
 apply Array.ext
 . exact f
 . intro i A D
   match i,A with
   | 0,_=>exact B
   | 1,_=>exact y
   | i+2,h=>omega
end Go.Proofs.YtomhbcfjhgecbaaGreatDoor
namespace Go.Proofs.YtomhbcfjhgecbaaGreatDoor
open Go.RowKit Go.Sort Go.Lib
open Go.Lib (hid)
open Adr (WT)
open Stp (wq au mP sF bT bY Gt IG aQ kW qj ai dm gQ aC ay aS aW dG)
attribute [local go_sem] Stp.di
attribute [local go_sem ↓] fQ
attribute [local go_sem] dV
attribute [local go_sem ↓] fK
attribute [local go_sem] dH bD bG bJ cu bQ dA bI cO
set_option maxRecDepth 100000 in
set_option maxHeartbeats 32000000 in
theorem NT (s:fU) (p:Sp) (x:Ins) (q:Pt) (a d:ByteArray) (w:World) (hT:WT w) (h:dQ w s p) (hs:oV s) (hx:jf w x q) (hxs:Ed x) :
  Calls Tryz.prog 6 #[.agg (bK s p),.agg (aH x q),.agg #[.string a,.string d]] w fun e w'=>e=.returned (.bool true)/\Below w.heap.size w w':=by
 have an:=hid (fun (W:World) (hW:Below w.heap.size w W)=>Ad s p W (aI hW h));have av:=hid (fun (W:World) (hW:Below w.heap.size w W)=>zx W (hT.below hW));have ap:=hid (fun (W:World) (hW:Below w.heap.size w W)=>wO s p W (aI hW h) hs);have aR:=hid (fun (W:World) (hW:Below w.heap.size w W)=>qY x.at_ 200 q.r q.c q.rk q.ck W (hx.1.below hW) (by decide));have ar:=hid (fun (W:World) (hW:Below w.heap.size w W)=>qQ x q W (dh hW hx) hxs);have cT:=hid (fun (W:World) (hW:Below w.heap.size w W)=>hT.below hW);have bg:=hid (fun (W:World) (hW:Below w.heap.size w W)=>aI hW h);have cg:=hid (fun (W:World) (hW:Below w.heap.size w W)=>dh hW hx);have cf:=hid hs;have cJ:=hid hxs;have ac:=hid (fun (h:oh s=true)=>Ib h);have af:=hid (fun (h:o8 s=0)=>zu h);clear hT h hs hx hxs;generalize cP:oh s=bs at *;generalize hE:o8 s=E at *;generalize cs:ig x.at_ 200=bx at *;generalize ch:iw x=ic at *;have cX:=hid cs;have cM:=hid ch;clear cP hE cs ch;obtain ⟨ri,ci,rp,cp,ro,co⟩:=p;have dt:=hid (show aP x=(x.ad,x.de) from rfl);unfold bK at an ap ⊢;dsimp only at an ap;have hX:=dD x q;have D:=hid (show (aH x q)[0]?=some (.string x.ad) from rfl);have F:=hid (show (aH x q)[1]?=some (.string x.de) from rfl);have g:=hid (show (aH x q)[4]?=some (.int .i64 x.at_.kind)/\(aH x q)[5]?=some (.int .i64 x.at_.num)/\(aH x q)[6]?=some (.string x.at_.str)/\(aH x q)[7]?=some (.slice q.r x.at_.items.length q.c)/\(aH x q)[8]?=some (.slice q.rk x.at_.keys.length q.ck)/\(aH x q)[12]?=some (.slice q.dr x.dp.length q.dc) from ⟨rfl,rfl,rfl,rfl,rfl,rfl⟩);obtain ⟨X,b0⟩:∃ X,X=aH x q:=⟨_,rfl⟩;have cG:=hid b0;rw [<-b0] at hX D F g ar ⊢;clear b0;obtain ⟨W0,cw,cA,c7,cy,cz,b4⟩:=zg w (.cells #[.string s.lin,.int .i64 s.ser,.slice ri s.ins.length ci,.slice rp s.pen.length cp,.slice ro s.out.length co] 26) (.cells X 41) (.cells #[.string a,.string d] 47);have cn:=hid cw;have cD:=hid cA;have P:=hid (fun (W:World) (hW:Below W0.heap.size W0 W)=>cD.out.trans (hW.mono cD.out.size));have O:=hid (fun (W:World) (hW:Below W0.heap.size W0 W)=>(hW.block w.heap.size (by omega)).trans cy);have C:=hid (fun (W:World) (hW:Below W0.heap.size W0 W)=>(hW.block (w.heap.size+1) (by omega)).trans cz);have M:=hid (fun (W:World) (hW:Below W0.heap.size W0 W)=>dU (C.out W hW) hX);have a0:=ae b4 0 rfl;have a1:=ae b4 1 rfl;have f:=hid (Below.refl W0.heap.size W0);clear cw cA c7 cy cz b4 hX;go_enter Tryz.func6,Tryz.ntmps6;go_upto_region 1 with (fail)
 rw [<-cn.out];clear cn;go_quiet (fail)
 have f:=hid (bu f.out nq);clear a0 a1;have i:=O.out _ f.out;have B:=ae i 0 rfl;have A:=ae i 1 rfl;have u:=ae i 2 rfl;have v:=ae i 3 rfl;have z:=ae i 4 rfl;have b:=C.out _ f.out;have n:=ae b 0 D.out;have m:=ae b 1 F.out;obtain ⟨o,t⟩:=M.out _ f.out;have J:=ae b 4 g.out.1;have G:=ae b 5 g.out.2.1;have L:=ae b 6 g.out.2.2.1;have H:=ae b 7 g.out.2.2.2.1;have I:=ae b 8 g.out.2.2.2.2.1;have l:=ae b 12 g.out.2.2.2.2.2;cases bs with
 | false =>
   go_wp2_with (first | (go_at_call 9;refine (an.out _ (P.out _ f.out)).mono ?_;rintro e w1 ⟨rfl,j⟩;clear B A u v z i n m b o t J G L H I l;have f:=hid (f.out.trans (j.mono f.out.size));clear j;have i:=O.out _ f.out;have B:=ae i 0 rfl;have A:=ae i 1 rfl;have u:=ae i 2 rfl;have v:=ae i 3 rfl;have z:=ae i 4 rfl;have b:=C.out _ f.out;have n:=ae b 0 D.out;have m:=ae b 1 F.out;obtain ⟨o,t⟩:=M.out _ f.out;have J:=ae b 4 g.out.1;have G:=ae b 5 g.out.2.1;have L:=ae b 6 g.out.2.2.1;have H:=ae b 7 g.out.2.2.2.1;have I:=ae b 8 g.out.2.2.2.2.1;have l:=ae b 12 g.out.2.2.2.2.2) | (go_at_call 12;refine (ap.out _ (P.out _ f.out)).mono ?_;rintro e w1 ⟨rfl,j⟩;clear B A u v z i n m b o t J G L H I l;have f:=hid (f.out.trans (j.mono f.out.size));clear j;have i:=O.out _ f.out;have B:=ae i 0 rfl;have A:=ae i 1 rfl;have u:=ae i 2 rfl;have v:=ae i 3 rfl;have z:=ae i 4 rfl;have b:=C.out _ f.out;have n:=ae b 0 D.out;have m:=ae b 1 F.out;obtain ⟨o,t⟩:=M.out _ f.out;have J:=ae b 4 g.out.1;have G:=ae b 5 g.out.2.1;have L:=ae b 6 g.out.2.2.1;have H:=ae b 7 g.out.2.2.2.1;have I:=ae b 8 g.out.2.2.2.2.1;have l:=ae b 12 g.out.2.2.2.2.2) | (go_at_call 19;refine (aR.out _ (P.out _ f.out)).mono ?_;rintro e w1 ⟨rfl,j⟩;clear B A u v z i n m b o t J G L H I l;have f:=hid (f.out.trans (j.mono f.out.size));clear j;have i:=O.out _ f.out;have B:=ae i 0 rfl;have A:=ae i 1 rfl;have u:=ae i 2 rfl;have v:=ae i 3 rfl;have z:=ae i 4 rfl;have b:=C.out _ f.out;have n:=ae b 0 D.out;have m:=ae b 1 F.out;obtain ⟨o,t⟩:=M.out _ f.out;have J:=ae b 4 g.out.1;have G:=ae b 5 g.out.2.1;have L:=ae b 6 g.out.2.2.1;have H:=ae b 7 g.out.2.2.2.1;have I:=ae b 8 g.out.2.2.2.2.1;have l:=ae b 12 g.out.2.2.2.2.2) | (go_at_call 20;refine (ar.out _ (P.out _ f.out)).mono ?_;rintro e w1 ⟨rfl,j⟩;clear B A u v z i n m b o t J G L H I l;have f:=hid (f.out.trans (j.mono f.out.size));clear j;have i:=O.out _ f.out;have B:=ae i 0 rfl;have A:=ae i 1 rfl;have u:=ae i 2 rfl;have v:=ae i 3 rfl;have z:=ae i 4 rfl;have b:=C.out _ f.out;have n:=ae b 0 D.out;have m:=ae b 1 F.out;obtain ⟨o,t⟩:=M.out _ f.out;have J:=ae b 4 g.out.1;have G:=ae b 5 g.out.2.1;have L:=ae b 6 g.out.2.2.1;have H:=ae b 7 g.out.2.2.2.1;have I:=ae b 8 g.out.2.2.2.2.1;have l:=ae b 12 g.out.2.2.2.2.2) | (go_at_call 10;refine (av.out _ (P.out _ f.out)).mono ?_;rintro e w1 ⟨rfl,j⟩;have f:=hid (f.out.trans (j.mono f.out.size));clear j))
   go_ret
   exact ⟨rfl,P.out _ f.out⟩
 | true =>
 by_cases hE:E=0
 case neg =>
  have n1:(E != 0)=true:=by simp [hE]
  have n2:(E == 0)=false:=by simp [hE]
  clear hE af;go_wp2_with (first | (go_at_call 9;refine (an.out _ (P.out _ f.out)).mono ?_;rintro e w1 ⟨rfl,j⟩;clear B A u v z i n m b o t J G L H I l;have f:=hid (f.out.trans (j.mono f.out.size));clear j;have i:=O.out _ f.out;have B:=ae i 0 rfl;have A:=ae i 1 rfl;have u:=ae i 2 rfl;have v:=ae i 3 rfl;have z:=ae i 4 rfl;have b:=C.out _ f.out;have n:=ae b 0 D.out;have m:=ae b 1 F.out;obtain ⟨o,t⟩:=M.out _ f.out;have J:=ae b 4 g.out.1;have G:=ae b 5 g.out.2.1;have L:=ae b 6 g.out.2.2.1;have H:=ae b 7 g.out.2.2.2.1;have I:=ae b 8 g.out.2.2.2.2.1;have l:=ae b 12 g.out.2.2.2.2.2) | (go_at_call 12;refine (ap.out _ (P.out _ f.out)).mono ?_;rintro e w1 ⟨rfl,j⟩;clear B A u v z i n m b o t J G L H I l;have f:=hid (f.out.trans (j.mono f.out.size));clear j;have i:=O.out _ f.out;have B:=ae i 0 rfl;have A:=ae i 1 rfl;have u:=ae i 2 rfl;have v:=ae i 3 rfl;have z:=ae i 4 rfl;have b:=C.out _ f.out;have n:=ae b 0 D.out;have m:=ae b 1 F.out;obtain ⟨o,t⟩:=M.out _ f.out;have J:=ae b 4 g.out.1;have G:=ae b 5 g.out.2.1;have L:=ae b 6 g.out.2.2.1;have H:=ae b 7 g.out.2.2.2.1;have I:=ae b 8 g.out.2.2.2.2.1;have l:=ae b 12 g.out.2.2.2.2.2) | (go_at_call 19;refine (aR.out _ (P.out _ f.out)).mono ?_;rintro e w1 ⟨rfl,j⟩;clear B A u v z i n m b o t J G L H I l;have f:=hid (f.out.trans (j.mono f.out.size));clear j;have i:=O.out _ f.out;have B:=ae i 0 rfl;have A:=ae i 1 rfl;have u:=ae i 2 rfl;have v:=ae i 3 rfl;have z:=ae i 4 rfl;have b:=C.out _ f.out;have n:=ae b 0 D.out;have m:=ae b 1 F.out;obtain ⟨o,t⟩:=M.out _ f.out;have J:=ae b 4 g.out.1;have G:=ae b 5 g.out.2.1;have L:=ae b 6 g.out.2.2.1;have H:=ae b 7 g.out.2.2.2.1;have I:=ae b 8 g.out.2.2.2.2.1;have l:=ae b 12 g.out.2.2.2.2.2) | (go_at_call 20;refine (ar.out _ (P.out _ f.out)).mono ?_;rintro e w1 ⟨rfl,j⟩;clear B A u v z i n m b o t J G L H I l;have f:=hid (f.out.trans (j.mono f.out.size));clear j;have i:=O.out _ f.out;have B:=ae i 0 rfl;have A:=ae i 1 rfl;have u:=ae i 2 rfl;have v:=ae i 3 rfl;have z:=ae i 4 rfl;have b:=C.out _ f.out;have n:=ae b 0 D.out;have m:=ae b 1 F.out;obtain ⟨o,t⟩:=M.out _ f.out;have J:=ae b 4 g.out.1;have G:=ae b 5 g.out.2.1;have L:=ae b 6 g.out.2.2.1;have H:=ae b 7 g.out.2.2.2.1;have I:=ae b 8 g.out.2.2.2.2.1;have l:=ae b 12 g.out.2.2.2.2.2) | (go_at_call 10;refine (av.out _ (P.out _ f.out)).mono ?_;rintro e w1 ⟨rfl,j⟩;have f:=hid (f.out.trans (j.mono f.out.size));clear j))
  go_ret
  exact ⟨rfl,P.out _ f.out⟩
 case pos =>
 replace af:=hid (af.out hE);subst hE;replace ac:=hid (ac.out rfl);cases bx with
 | false =>
   go_wp2_with (first | (go_at_call 9;refine (an.out _ (P.out _ f.out)).mono ?_;rintro e w1 ⟨rfl,j⟩;clear B A u v z i n m b o t J G L H I l;have f:=hid (f.out.trans (j.mono f.out.size));clear j;have i:=O.out _ f.out;have B:=ae i 0 rfl;have A:=ae i 1 rfl;have u:=ae i 2 rfl;have v:=ae i 3 rfl;have z:=ae i 4 rfl;have b:=C.out _ f.out;have n:=ae b 0 D.out;have m:=ae b 1 F.out;obtain ⟨o,t⟩:=M.out _ f.out;have J:=ae b 4 g.out.1;have G:=ae b 5 g.out.2.1;have L:=ae b 6 g.out.2.2.1;have H:=ae b 7 g.out.2.2.2.1;have I:=ae b 8 g.out.2.2.2.2.1;have l:=ae b 12 g.out.2.2.2.2.2) | (go_at_call 12;refine (ap.out _ (P.out _ f.out)).mono ?_;rintro e w1 ⟨rfl,j⟩;clear B A u v z i n m b o t J G L H I l;have f:=hid (f.out.trans (j.mono f.out.size));clear j;have i:=O.out _ f.out;have B:=ae i 0 rfl;have A:=ae i 1 rfl;have u:=ae i 2 rfl;have v:=ae i 3 rfl;have z:=ae i 4 rfl;have b:=C.out _ f.out;have n:=ae b 0 D.out;have m:=ae b 1 F.out;obtain ⟨o,t⟩:=M.out _ f.out;have J:=ae b 4 g.out.1;have G:=ae b 5 g.out.2.1;have L:=ae b 6 g.out.2.2.1;have H:=ae b 7 g.out.2.2.2.1;have I:=ae b 8 g.out.2.2.2.2.1;have l:=ae b 12 g.out.2.2.2.2.2) | (go_at_call 19;refine (aR.out _ (P.out _ f.out)).mono ?_;rintro e w1 ⟨rfl,j⟩;clear B A u v z i n m b o t J G L H I l;have f:=hid (f.out.trans (j.mono f.out.size));clear j;have i:=O.out _ f.out;have B:=ae i 0 rfl;have A:=ae i 1 rfl;have u:=ae i 2 rfl;have v:=ae i 3 rfl;have z:=ae i 4 rfl;have b:=C.out _ f.out;have n:=ae b 0 D.out;have m:=ae b 1 F.out;obtain ⟨o,t⟩:=M.out _ f.out;have J:=ae b 4 g.out.1;have G:=ae b 5 g.out.2.1;have L:=ae b 6 g.out.2.2.1;have H:=ae b 7 g.out.2.2.2.1;have I:=ae b 8 g.out.2.2.2.2.1;have l:=ae b 12 g.out.2.2.2.2.2) | (go_at_call 20;refine (ar.out _ (P.out _ f.out)).mono ?_;rintro e w1 ⟨rfl,j⟩;clear B A u v z i n m b o t J G L H I l;have f:=hid (f.out.trans (j.mono f.out.size));clear j;have i:=O.out _ f.out;have B:=ae i 0 rfl;have A:=ae i 1 rfl;have u:=ae i 2 rfl;have v:=ae i 3 rfl;have z:=ae i 4 rfl;have b:=C.out _ f.out;have n:=ae b 0 D.out;have m:=ae b 1 F.out;obtain ⟨o,t⟩:=M.out _ f.out;have J:=ae b 4 g.out.1;have G:=ae b 5 g.out.2.1;have L:=ae b 6 g.out.2.2.1;have H:=ae b 7 g.out.2.2.2.1;have I:=ae b 8 g.out.2.2.2.2.1;have l:=ae b 12 g.out.2.2.2.2.2) | (go_at_call 10;refine (av.out _ (P.out _ f.out)).mono ?_;rintro e w1 ⟨rfl,j⟩;have f:=hid (f.out.trans (j.mono f.out.size));clear j))
   go_ret
   exact ⟨rfl,P.out _ f.out⟩
 | true =>
 by_cases cb:40 < x.dp.length
 case pos =>
  have n1:(40:Int) < (x.dp.length:Int):=by omega
  go_wp2_with (first | (go_at_call 9;refine (an.out _ (P.out _ f.out)).mono ?_;rintro e w1 ⟨rfl,j⟩;clear B A u v z i n m b o t J G L H I l;have f:=hid (f.out.trans (j.mono f.out.size));clear j;have i:=O.out _ f.out;have B:=ae i 0 rfl;have A:=ae i 1 rfl;have u:=ae i 2 rfl;have v:=ae i 3 rfl;have z:=ae i 4 rfl;have b:=C.out _ f.out;have n:=ae b 0 D.out;have m:=ae b 1 F.out;obtain ⟨o,t⟩:=M.out _ f.out;have J:=ae b 4 g.out.1;have G:=ae b 5 g.out.2.1;have L:=ae b 6 g.out.2.2.1;have H:=ae b 7 g.out.2.2.2.1;have I:=ae b 8 g.out.2.2.2.2.1;have l:=ae b 12 g.out.2.2.2.2.2) | (go_at_call 12;refine (ap.out _ (P.out _ f.out)).mono ?_;rintro e w1 ⟨rfl,j⟩;clear B A u v z i n m b o t J G L H I l;have f:=hid (f.out.trans (j.mono f.out.size));clear j;have i:=O.out _ f.out;have B:=ae i 0 rfl;have A:=ae i 1 rfl;have u:=ae i 2 rfl;have v:=ae i 3 rfl;have z:=ae i 4 rfl;have b:=C.out _ f.out;have n:=ae b 0 D.out;have m:=ae b 1 F.out;obtain ⟨o,t⟩:=M.out _ f.out;have J:=ae b 4 g.out.1;have G:=ae b 5 g.out.2.1;have L:=ae b 6 g.out.2.2.1;have H:=ae b 7 g.out.2.2.2.1;have I:=ae b 8 g.out.2.2.2.2.1;have l:=ae b 12 g.out.2.2.2.2.2) | (go_at_call 19;refine (aR.out _ (P.out _ f.out)).mono ?_;rintro e w1 ⟨rfl,j⟩;clear B A u v z i n m b o t J G L H I l;have f:=hid (f.out.trans (j.mono f.out.size));clear j;have i:=O.out _ f.out;have B:=ae i 0 rfl;have A:=ae i 1 rfl;have u:=ae i 2 rfl;have v:=ae i 3 rfl;have z:=ae i 4 rfl;have b:=C.out _ f.out;have n:=ae b 0 D.out;have m:=ae b 1 F.out;obtain ⟨o,t⟩:=M.out _ f.out;have J:=ae b 4 g.out.1;have G:=ae b 5 g.out.2.1;have L:=ae b 6 g.out.2.2.1;have H:=ae b 7 g.out.2.2.2.1;have I:=ae b 8 g.out.2.2.2.2.1;have l:=ae b 12 g.out.2.2.2.2.2) | (go_at_call 20;refine (ar.out _ (P.out _ f.out)).mono ?_;rintro e w1 ⟨rfl,j⟩;clear B A u v z i n m b o t J G L H I l;have f:=hid (f.out.trans (j.mono f.out.size));clear j;have i:=O.out _ f.out;have B:=ae i 0 rfl;have A:=ae i 1 rfl;have u:=ae i 2 rfl;have v:=ae i 3 rfl;have z:=ae i 4 rfl;have b:=C.out _ f.out;have n:=ae b 0 D.out;have m:=ae b 1 F.out;obtain ⟨o,t⟩:=M.out _ f.out;have J:=ae b 4 g.out.1;have G:=ae b 5 g.out.2.1;have L:=ae b 6 g.out.2.2.1;have H:=ae b 7 g.out.2.2.2.1;have I:=ae b 8 g.out.2.2.2.2.1;have l:=ae b 12 g.out.2.2.2.2.2) | (go_at_call 10;refine (av.out _ (P.out _ f.out)).mono ?_;rintro e w1 ⟨rfl,j⟩;have f:=hid (f.out.trans (j.mono f.out.size));clear j))
  go_ret
  exact ⟨rfl,P.out _ f.out⟩
 case neg =>
 have n1:¬ (40:Int) < (x.dp.length:Int):=by omega
 have c5:=hid cb;clear cb
 by_cases hi:ic=0
 case neg =>
  have n2:(ic != 0)=true:=by simp [hi]
  have n3:(ic == 0)=false:=by simp [hi]
  clear hi;go_wp2_with (first | (go_at_call 9;refine (an.out _ (P.out _ f.out)).mono ?_;rintro e w1 ⟨rfl,j⟩;clear B A u v z i n m b o t J G L H I l;have f:=hid (f.out.trans (j.mono f.out.size));clear j;have i:=O.out _ f.out;have B:=ae i 0 rfl;have A:=ae i 1 rfl;have u:=ae i 2 rfl;have v:=ae i 3 rfl;have z:=ae i 4 rfl;have b:=C.out _ f.out;have n:=ae b 0 D.out;have m:=ae b 1 F.out;obtain ⟨o,t⟩:=M.out _ f.out;have J:=ae b 4 g.out.1;have G:=ae b 5 g.out.2.1;have L:=ae b 6 g.out.2.2.1;have H:=ae b 7 g.out.2.2.2.1;have I:=ae b 8 g.out.2.2.2.2.1;have l:=ae b 12 g.out.2.2.2.2.2) | (go_at_call 12;refine (ap.out _ (P.out _ f.out)).mono ?_;rintro e w1 ⟨rfl,j⟩;clear B A u v z i n m b o t J G L H I l;have f:=hid (f.out.trans (j.mono f.out.size));clear j;have i:=O.out _ f.out;have B:=ae i 0 rfl;have A:=ae i 1 rfl;have u:=ae i 2 rfl;have v:=ae i 3 rfl;have z:=ae i 4 rfl;have b:=C.out _ f.out;have n:=ae b 0 D.out;have m:=ae b 1 F.out;obtain ⟨o,t⟩:=M.out _ f.out;have J:=ae b 4 g.out.1;have G:=ae b 5 g.out.2.1;have L:=ae b 6 g.out.2.2.1;have H:=ae b 7 g.out.2.2.2.1;have I:=ae b 8 g.out.2.2.2.2.1;have l:=ae b 12 g.out.2.2.2.2.2) | (go_at_call 19;refine (aR.out _ (P.out _ f.out)).mono ?_;rintro e w1 ⟨rfl,j⟩;clear B A u v z i n m b o t J G L H I l;have f:=hid (f.out.trans (j.mono f.out.size));clear j;have i:=O.out _ f.out;have B:=ae i 0 rfl;have A:=ae i 1 rfl;have u:=ae i 2 rfl;have v:=ae i 3 rfl;have z:=ae i 4 rfl;have b:=C.out _ f.out;have n:=ae b 0 D.out;have m:=ae b 1 F.out;obtain ⟨o,t⟩:=M.out _ f.out;have J:=ae b 4 g.out.1;have G:=ae b 5 g.out.2.1;have L:=ae b 6 g.out.2.2.1;have H:=ae b 7 g.out.2.2.2.1;have I:=ae b 8 g.out.2.2.2.2.1;have l:=ae b 12 g.out.2.2.2.2.2) | (go_at_call 20;refine (ar.out _ (P.out _ f.out)).mono ?_;rintro e w1 ⟨rfl,j⟩;clear B A u v z i n m b o t J G L H I l;have f:=hid (f.out.trans (j.mono f.out.size));clear j;have i:=O.out _ f.out;have B:=ae i 0 rfl;have A:=ae i 1 rfl;have u:=ae i 2 rfl;have v:=ae i 3 rfl;have z:=ae i 4 rfl;have b:=C.out _ f.out;have n:=ae b 0 D.out;have m:=ae b 1 F.out;obtain ⟨o,t⟩:=M.out _ f.out;have J:=ae b 4 g.out.1;have G:=ae b 5 g.out.2.1;have L:=ae b 6 g.out.2.2.1;have H:=ae b 7 g.out.2.2.2.1;have I:=ae b 8 g.out.2.2.2.2.1;have l:=ae b 12 g.out.2.2.2.2.2) | (go_at_call 10;refine (av.out _ (P.out _ f.out)).mono ?_;rintro e w1 ⟨rfl,j⟩;have f:=hid (f.out.trans (j.mono f.out.size));clear j))
  go_ret
  exact ⟨rfl,P.out _ f.out⟩
 case pos =>
 subst hi;go_upto_region 4 with (first | (go_at_call 9;refine (an.out _ (P.out _ f.out)).mono ?_;rintro e w1 ⟨rfl,j⟩;clear B A u v z i n m b o t J G L H I l;have f:=hid (f.out.trans (j.mono f.out.size));clear j;have i:=O.out _ f.out;have B:=ae i 0 rfl;have A:=ae i 1 rfl;have u:=ae i 2 rfl;have v:=ae i 3 rfl;have z:=ae i 4 rfl;have b:=C.out _ f.out;have n:=ae b 0 D.out;have m:=ae b 1 F.out;obtain ⟨o,t⟩:=M.out _ f.out;have J:=ae b 4 g.out.1;have G:=ae b 5 g.out.2.1;have L:=ae b 6 g.out.2.2.1;have H:=ae b 7 g.out.2.2.2.1;have I:=ae b 8 g.out.2.2.2.2.1;have l:=ae b 12 g.out.2.2.2.2.2) | (go_at_call 12;refine (ap.out _ (P.out _ f.out)).mono ?_;rintro e w1 ⟨rfl,j⟩;clear B A u v z i n m b o t J G L H I l;have f:=hid (f.out.trans (j.mono f.out.size));clear j;have i:=O.out _ f.out;have B:=ae i 0 rfl;have A:=ae i 1 rfl;have u:=ae i 2 rfl;have v:=ae i 3 rfl;have z:=ae i 4 rfl;have b:=C.out _ f.out;have n:=ae b 0 D.out;have m:=ae b 1 F.out;obtain ⟨o,t⟩:=M.out _ f.out;have J:=ae b 4 g.out.1;have G:=ae b 5 g.out.2.1;have L:=ae b 6 g.out.2.2.1;have H:=ae b 7 g.out.2.2.2.1;have I:=ae b 8 g.out.2.2.2.2.1;have l:=ae b 12 g.out.2.2.2.2.2) | (go_at_call 19;refine (aR.out _ (P.out _ f.out)).mono ?_;rintro e w1 ⟨rfl,j⟩;clear B A u v z i n m b o t J G L H I l;have f:=hid (f.out.trans (j.mono f.out.size));clear j;have i:=O.out _ f.out;have B:=ae i 0 rfl;have A:=ae i 1 rfl;have u:=ae i 2 rfl;have v:=ae i 3 rfl;have z:=ae i 4 rfl;have b:=C.out _ f.out;have n:=ae b 0 D.out;have m:=ae b 1 F.out;obtain ⟨o,t⟩:=M.out _ f.out;have J:=ae b 4 g.out.1;have G:=ae b 5 g.out.2.1;have L:=ae b 6 g.out.2.2.1;have H:=ae b 7 g.out.2.2.2.1;have I:=ae b 8 g.out.2.2.2.2.1;have l:=ae b 12 g.out.2.2.2.2.2) | (go_at_call 20;refine (ar.out _ (P.out _ f.out)).mono ?_;rintro e w1 ⟨rfl,j⟩;clear B A u v z i n m b o t J G L H I l;have f:=hid (f.out.trans (j.mono f.out.size));clear j;have i:=O.out _ f.out;have B:=ae i 0 rfl;have A:=ae i 1 rfl;have u:=ae i 2 rfl;have v:=ae i 3 rfl;have z:=ae i 4 rfl;have b:=C.out _ f.out;have n:=ae b 0 D.out;have m:=ae b 1 F.out;obtain ⟨o,t⟩:=M.out _ f.out;have J:=ae b 4 g.out.1;have G:=ae b 5 g.out.2.1;have L:=ae b 6 g.out.2.2.1;have H:=ae b 7 g.out.2.2.2.1;have I:=ae b 8 g.out.2.2.2.2.1;have l:=ae b 12 g.out.2.2.2.2.2) | (go_at_call 10;refine (av.out _ (P.out _ f.out)).mono ?_;rintro e w1 ⟨rfl,j⟩;have f:=hid (f.out.trans (j.mono f.out.size));clear j))
 clear n1 an ap aR ar;have cl:=hid (show BR x from by have:=yu cX.out;have:=c5.out;exact ⟨by omega,by omega,by omega⟩);obtain ⟨Q,ao⟩:∃ Q:fU,Q={ s with ins:=iW s.ins x }:=⟨_,rfl⟩;obtain ⟨N,aq⟩:∃ N:fU,N={ s with ins:=nS s.ins (x.ad,x.de) }:=⟨_,rfl⟩;have bt:=hid (show qF Q from ao ▸ Po af.out cM.out (by have:=ac.out.2;omega))
 have bO:=hid (show lI Q from ao ▸ yt ac.out.1 (by have:=IV s.ins x af.out.qR;have:=ac.out.2;omega) (fun y hy=>by
  rcases jY.1 hy with rfl | ⟨hy,_⟩
  . exact cl.out
  . exact ac.out.1.ix y hy))
 have cL:=hid (show lI N from aq ▸ yt ac.out.1 (by have:=Rk s.ins (x.ad,x.de);have:=ac.out.2;omega) (fun y hy=>ac.out.1.ix y (uF.1 hy).1));have cU:=hid (show fJ N.ins from aq ▸ AX af.out.qR _)
 have cV:=hid (show Ro Q from ao ▸ CJ (EU cf.out (fun y hy=>by
  rcases jY.1 hy with rfl | ⟨hy,_⟩
  . exact cJ.out
  . exact cf.out.ins y hy)))
 have cW:=hid (show iO Q.ins (x.ad,x.de)=some x from ao ▸ ER af.out.qR x);have ce:=hid (fun (q':vT) (hq:q'≠(x.ad,x.de))=>show iO Q.ins q'=iO s.ins q' from ao ▸ Af af.out.qR hq);have cj:=hid (show nS Q.ins (x.ad,x.de)=N.ins from by subst ao aq;exact Rx af.out.qR x);have cd:=hid (show { Q with ins:=N.ins }=N from by subst ao aq;rfl);have c9:=hid (show iO N.ins (x.ad,x.de)=none from aq ▸ Gz _ _)
 have cR:=hid (fun (ho:iO s.ins (x.ad,x.de)=none)=>show eqS N s=true from by
  have:N=s:=by rw [aq,EX ho]
  rw [this];exact xR s)
 have bE:=hid (fun (W:World) (hW:Below w.heap.size w W)=>show Calls Tryz.prog 21 #[.agg #[.string s.lin,.int .i64 s.ser,.slice ri s.ins.length ci,.slice rp s.pen.length cp,.slice ro s.out.length co],.agg X] W fun e w'=>∃ p':Sp,e=.returned (.agg (bK Q p'))/\dQ w' Q p'/\Below W.heap.size W w' from by
  rw [cG.out,ao];refine (Bj s ⟨ri,ci,rp,cp,ro,co⟩ x q W (bg.out W hW) ac.out.1 (cg.out W hW) cl.out af.out.qR (by have:=ac.out.2;omega)).mono ?_;rintro e w1 ⟨p',rfl,hp,hb⟩;exact ⟨p',rfl,iJ (fG _ _) hp,hb⟩)
 have bS:=hid (fun (S:fU) (p':Sp) (W:World) (hp:dQ W S p') (hf:lI S) (ha:fJ S.ins) (he:{ S with ins:=nS S.ins (x.ad,x.de) }=N)=>show Calls Tryz.prog 23 #[.agg (bK S p'),.string x.ad,.string x.de] W fun e w'=>∃ br:Sp,e=.returned (.agg (bK N br))/\dQ w' N br/\Below W.heap.size W w' from by
  rw [<-he];refine (wR S p' x.ad x.de W hp hf ha).mono ?_;rintro e w1 ⟨br,rfl,hp,hb⟩;exact ⟨br,rfl,iJ (fG _ _) hp,hb⟩)
 have c2:=hid (show { Q with ins:=nS Q.ins (x.ad,x.de) }=N from by rw [cj.out];exact cd.out);have cK:=hid (show { s with ins:=nS s.ins (x.ad,x.de) }=N from aq.symm);clear ao aq cj cd;go_upto_region 5 with (go_at_call 21;refine (bE.out _ (P.out _ f.out)).mono ?_;rintro e w2 ⟨p1,rfl,cx,cr⟩;obtain ⟨a3,a6,a2,a7,a8,a9⟩:=p1;unfold bK;have c3:=hid cx;have B2:=hid cr;clear cx cr)
 clear B A u v z i n m b o t J G L H I l;obtain ⟨W2,bj⟩:∃ W,W=w2.alloc (.cells #[.string Q.lin,.int .i64 Q.ser,.slice a3 Q.ins.length a6,.slice a2 Q.pen.length a7,.slice a8 Q.out.length a9] 26):=⟨_,rfl⟩;rw [<-bj];have G2:=hid (show W2.heap[w2.heap.size]?=some (.cells #[.string Q.lin,.int .i64 Q.ser,.slice a3 Q.ins.length a6,.slice a2 Q.pen.length a7,.slice a8 Q.out.length a9] 26) from bj ▸ (MapKept.heap_alloc w2 _).1);have E2:=hid (show Below w2.heap.size w2 W2 from bj ▸ (Below.refl _ _).alloc (Nat.le_refl _) _);have Z2:=hid (show W2.heap.size=w2.heap.size+1 by rw [bj];simp);clear bj;have T2:=hid (f.out.trans ((B2.out.trans (E2.out.mono B2.out.size)).mono f.out.size));have bB:=hid (fun (W:World) (hW:Below W2.heap.size W2 W)=>aI hW (aI E2.out c3.out));have bo:=hid (fun (W:World) (hW:Below W2.heap.size W2 W)=>(hW.block w2.heap.size (by have:=Z2.out;omega)).trans G2.out);have HT:=hid (fun (W:World) (hW:Below W2.heap.size W2 W)=>T2.out.trans (hW.mono T2.out.size));have f:=hid (Below.refl W2.heap.size W2);clear bE;have R:=bo.out _ f.out;have g0:=ae R 0 rfl;have g1:=ae R 1 rfl;have g2:=ae R 2 rfl;have g3:=ae R 3 rfl;have g4:=ae R 4 rfl;have b:=C.out _ (HT.out _ f.out);have n:=ae b 0 D.out;have m:=ae b 1 F.out;obtain ⟨o,t⟩:=M.out _ (HT.out _ f.out);go_upto_region 6 with (go_at_call 16;refine (qf Q ⟨a3,a6,a2,a7,a8,a9⟩ (x.ad,x.de) _ (bB.out _ f.out) bO.out bt.out.qR).mono ?_;rintro e w3 ⟨u3,rfl,bv,cE⟩;rw [cW.out] at bv ⊢;simp only [Option.getD_some,Option.isSome_some] at bv ⊢;have c1:=hid bv;have B3:=hid cE;have hY:=dD x u3;obtain ⟨Y,aa⟩:∃ Y,Y=aH x u3:=⟨_,rfl⟩;have cQ:=hid aa;rw [<-aa] at hY ⊢;clear bv cE aa)
 clear g0 g1 g2 g3 g4 R;clear n m b o t;obtain ⟨W3,bh⟩:∃ W,W=w3.alloc (.cells Y 41):=⟨_,rfl⟩;rw [<-bh];have G3:=hid (show W3.heap[w3.heap.size]?=some (.cells Y 41) from bh ▸ (MapKept.heap_alloc w3 _).1);have E3:=hid (show Below w3.heap.size w3 W3 from bh ▸ (Below.refl _ _).alloc (Nat.le_refl _) _);have Z3:=hid (show W3.heap.size=w3.heap.size+1 by rw [bh];simp);clear bh;have f:=hid (f.out.trans ((B3.out.trans (E3.out.mono B3.out.size)).mono f.out.size));have c0:=hid (dh E3.out c1.out);obtain ⟨m1,m2⟩:=dU G3.out hY;have R:=bo.out _ f.out;have g0:=ae R 0 rfl;have g1:=ae R 1 rfl;have g2:=ae R 2 rfl;have g3:=ae R 3 rfl;have g4:=ae R 4 rfl;have b:=C.out _ (HT.out _ f.out);have n:=ae b 0 D.out;have m:=ae b 1 F.out;obtain ⟨o,t⟩:=M.out _ (HT.out _ f.out)
 have cq:=hid (fun (W:World) (hW:Below W3.heap.size W3 W)=>show Calls Tryz.prog 22 #[.agg X,.agg Y] W fun e w'=>e=.returned (.bool true)/\Below W.heap.size W w' from by
  have h1:=EE x x q u3 W (cg.out W (P.out _ (HT.out _ (f.out.trans (hW.mono f.out.size))))) (dh hW c0.out);rw [xP,<-cG.out,<-cQ.out] at h1;exact h1)
 have cc:=hid (fun (W:World) (hW:Below W2.heap.size W2 W)=>show Calls Tryz.prog 11 #[.agg #[.string Q.lin,.int .i64 Q.ser,.slice a3 Q.ins.length a6,.slice a2 Q.pen.length a7,.slice a8 Q.out.length a9]] W fun e w'=>e=.returned (.int .i64 0)/\Below W.heap.size W w' from by
  have h1:=ng Q ⟨a3,a6,a2,a7,a8,a9⟩ W (cT.out W (P.out _ (HT.out _ hW))) (bB.out W hW) cV.out;rw [Gs bt.out] at h1;exact h1)
 go_upto_region 8 with (first | (go_at_call 22;refine (cq.out _ (Below.refl _ _)).mono ?_;rintro e w4 ⟨rfl,Z⟩;have f:=hid (f.out.trans (Z.mono f.out.size));clear Z;clear g0 g1 g2 g3 g4 R;have R:=bo.out _ f.out;have g0:=ae R 0 rfl;have g1:=ae R 1 rfl;have g2:=ae R 2 rfl;have g3:=ae R 3 rfl;have g4:=ae R 4 rfl) | (go_at_call 11;refine (cc.out _ f.out).mono ?_;rintro e w5 ⟨rfl,V⟩;have f:=hid (f.out.trans (V.mono f.out.size));clear V))
 clear g0 g1 g2 g3 g4 R;clear n m b o t;clear m1 m2 cq cc hY;have i:=O.out _ (HT.out _ f.out);have B:=ae i 0 rfl;have A:=ae i 1 rfl;have u:=ae i 2 rfl;have v:=ae i 3 rfl;have z:=ae i 4 rfl;go_upto_region 9 with (go_at_call 16;refine (qf s ⟨ri,ci,rp,cp,ro,co⟩ (a,d) _ (bg.out _ (P.out _ (HT.out _ f.out))) ac.out.1 af.out.qR).mono ?_;rintro e w6 ⟨u6,rfl,hu,hb⟩;have bm:=hid hu;have B6:=hid hb;have bX:=dD ((iO s.ins (a,d)).getD yV) u6;obtain ⟨Y6,aa⟩:∃ Y,Y=aH ((iO s.ins (a,d)).getD yV) u6:=⟨_,rfl⟩;have c4:=hid aa;rw [<-aa] at bX ⊢;clear hu hb aa)
 clear B A u v z i;obtain ⟨W6,be⟩:∃ W,W=w6.alloc (.cells Y6 41):=⟨_,rfl⟩;rw [<-be];have G6:=hid (show W6.heap[w6.heap.size]?=some (.cells Y6 41) from be ▸ (MapKept.heap_alloc w6 _).1);have E6:=hid (show Below w6.heap.size w6 W6 from be ▸ (Below.refl _ _).alloc (Nat.le_refl _) _);have Z6:=hid (show W6.heap.size=w6.heap.size+1 by rw [be];simp);clear be;have f:=hid (f.out.trans ((B6.out.trans (E6.out.mono B6.out.size)).mono f.out.size));have bm:=hid (dh E6.out bm.out);have R:=bo.out _ f.out;have g0:=ae R 0 rfl;have g1:=ae R 1 rfl;have g2:=ae R 2 rfl;have g3:=ae R 3 rfl;have g4:=ae R 4 rfl;go_upto_region 10 with (go_at_call 16;refine (qf Q ⟨a3,a6,a2,a7,a8,a9⟩ (a,d) _ (bB.out _ f.out) bO.out bt.out.qR).mono ?_;rintro e w7 ⟨u7,rfl,hu,hb⟩;have b1:=hid hu;have B7:=hid hb;have bR:=dD ((iO Q.ins (a,d)).getD yV) u7;obtain ⟨Y7,aa⟩:∃ Y,Y=aH ((iO Q.ins (a,d)).getD yV) u7:=⟨_,rfl⟩;have cY:=hid aa;rw [<-aa] at bR ⊢;clear hu hb aa)
 clear g0 g1 g2 g3 g4 R;obtain ⟨W7,bp⟩:∃ W,W=w7.alloc (.cells Y7 41):=⟨_,rfl⟩;rw [<-bp];have G7:=hid (show W7.heap[w7.heap.size]?=some (.cells Y7 41) from bp ▸ (MapKept.heap_alloc w7 _).1);have E7:=hid (show Below w7.heap.size w7 W7 from bp ▸ (Below.refl _ _).alloc (Nat.le_refl _) _);have Z7:=hid (show W7.heap.size=w7.heap.size+1 by rw [bp];simp);clear bp;have b3:=hid (B7.out.trans (E7.out.mono B7.out.size));have f:=hid (f.out.trans (b3.out.mono f.out.size));have b1:=hid (dh E7.out b1.out);have bm:=hid (dh b3.out bm.out);obtain ⟨m1,m2⟩:=dU G7.out bR;obtain ⟨m3,m4⟩:=dU ((b3.out.block w6.heap.size (by have:=Z6.out;omega)).trans G6.out) bX;have b:=C.out _ (HT.out _ f.out);have n:=ae b 0 D.out;have m:=ae b 1 F.out;obtain ⟨o,t⟩:=M.out _ (HT.out _ f.out)
 have aL:=hid (fun (am:(a,d)≠(x.ad,x.de)) (W:World) (hW:Below W7.heap.size W7 W)=>show Calls Tryz.prog 22 #[.agg Y6,.agg Y7] W fun e w'=>e=.returned (.bool true)/\Below W.heap.size W w' from by
  have h6:=dh hW bm.out;have h7:=dh hW b1.out;have e7:=cY.out;rw [ce.out _ am] at h7 e7;have h1:=EE _ _ _ _ W h6 h7;rw [xP,<-c4.out,<-e7] at h1;exact h1)
 have b2:=hid (fun (am:(a,d)≠(x.ad,x.de))=>show (iO Q.ins (a,d)).isSome=(iO s.ins (a,d)).isSome from by rw [ce.out _ am]);have BD:=hid (Below.refl W7.heap.size W7);generalize (iO Q.ins (a,d)).isSome=z7 at *;generalize (iO s.ins (a,d)).isSome=z6 at *;go_cut [110] (fun cI wx=>cI=.bool false/\Aside (Below W7.heap.size W7 wx))
 case first =>
  by_cases ha:a=x.ad
  case pos =>
   have n1:(a.toList == x.ad.toList)=true:=by rw [ha];simp
   have n2:(a.toList != x.ad.toList)=false:=by rw [ha];simp
   by_cases hd:d=x.de
   case pos =>
    have n3:(d.toList == x.de.toList)=true:=by rw [hd];simp
    have n4:(d.toList != x.de.toList)=false:=by rw [hd];simp
    clear ha hd;go_wp2_with fail
    go_meet
    exact ⟨rfl,BD.out⟩
   case neg =>
    have am:(a,d)≠(x.ad,x.de):=fun e=>hd (Prod.mk.inj e).2;have aL:=hid (aL.out am);obtain rfl:=b2.out am;have n3:=fP hd;have n4:=jU hd;clear ha hd am;cases z7
    all_goals
     go_wp2_with (go_at_call 22;refine (aL.out _ (Below.refl _ _)).mono ?_;rintro e w8 ⟨rfl,bk⟩;have BD:=hid bk;clear bk)
     go_meet
     exact ⟨rfl,BD.out⟩
  case neg =>
   have am:(a,d)≠(x.ad,x.de):=fun e=>ha (Prod.mk.inj e).1;have aL:=hid (aL.out am);obtain rfl:=b2.out am;have n3:=fP ha;have n4:=jU ha;clear ha am;cases z7
   all_goals
    go_wp2_with (go_at_call 22;refine (aL.out _ (Below.refl _ _)).mono ?_;rintro e w8 ⟨rfl,bk⟩;have BD:=hid bk;clear bk)
    go_meet
    exact ⟨rfl,BD.out⟩
 case rest =>
 obtain ⟨rfl,c8⟩:=hcut;have f:=hid (f.out.trans (c8.out.mono f.out.size));clear aL b2 m1 m2 m3 m4 bX bR BD;clear n m b o t;have i:=O.out _ (HT.out _ f.out);have B:=ae i 0 rfl;have A:=ae i 1 rfl;have u:=ae i 2 rfl;have v:=ae i 3 rfl;have z:=ae i 4 rfl;have b:=C.out _ (HT.out _ f.out);have n:=ae b 0 D.out;have m:=ae b 1 F.out;obtain ⟨o,t⟩:=M.out _ (HT.out _ f.out);go_upto_region 13 with (go_at_call 16;refine (qf s ⟨ri,ci,rp,cp,ro,co⟩ (x.ad,x.de) _ (bg.out _ (P.out _ (HT.out _ f.out))) ac.out.1 af.out.qR).mono ?_;rintro e w9 ⟨u9,rfl,hu,hb⟩;have dq:=hid hu;have B9:=hid hb;have c6:=dD ((iO s.ins (x.ad,x.de)).getD yV) u9;obtain ⟨Y9,aa⟩:∃ Y,Y=aH ((iO s.ins (x.ad,x.de)).getD yV) u9:=⟨_,rfl⟩;have ds:=hid aa;rw [<-aa] at c6 ⊢;clear hu hb aa)
 clear B A u v z i;clear n m b o t;obtain ⟨W9,bq⟩:∃ W,W=w9.alloc (.cells Y9 41):=⟨_,rfl⟩;rw [<-bq];have G9:=hid (show W9.heap[w9.heap.size]?=some (.cells Y9 41) from bq ▸ (MapKept.heap_alloc w9 _).1);have E9:=hid (show Below w9.heap.size w9 W9 from bq ▸ (Below.refl _ _).alloc (Nat.le_refl _) _);have Z9:=hid (show W9.heap.size=w9.heap.size+1 by rw [bq];simp);clear bq;have f:=hid (f.out.trans ((B9.out.trans (E9.out.mono B9.out.size)).mono f.out.size));have R:=bo.out _ f.out;have g0:=ae R 0 rfl;have g1:=ae R 1 rfl;have g2:=ae R 2 rfl;have g3:=ae R 3 rfl;have g4:=ae R 4 rfl;have b:=C.out _ (HT.out _ f.out);have n:=ae b 0 D.out;have m:=ae b 1 F.out;obtain ⟨o,t⟩:=M.out _ (HT.out _ f.out);go_upto_region 14 with (go_at_call 23;refine (bS.out Q ⟨a3,a6,a2,a7,a8,a9⟩ _ (bB.out _ f.out) bO.out bt.out.qR c2.out).mono ?_;rintro e w10 ⟨p2,rfl,ca,hb⟩;obtain ⟨aE,aD,a5,aM,ba,aw⟩:=p2;unfold bK;have bw:=hid ca;have ct:=hid hb;clear ca hb)
 clear g0 g1 g2 g3 g4 R;clear n m b o t;obtain ⟨b9,a4⟩:∃ W,W=w10.alloc (.cells #[.string N.lin,.int .i64 N.ser,.slice aE N.ins.length aD,.slice a5 N.pen.length aM,.slice ba N.out.length aw] 26):=⟨_,rfl⟩;rw [<-a4];have cF:=hid (show b9.heap[w10.heap.size]?=some (.cells #[.string N.lin,.int .i64 N.ser,.slice aE N.ins.length aD,.slice a5 N.pen.length aM,.slice ba N.out.length aw] 26) from a4 ▸ (MapKept.heap_alloc w10 _).1);have cC:=hid (show Below w10.heap.size w10 b9 from a4 ▸ (Below.refl _ _).alloc (Nat.le_refl _) _);have cS:=hid (show b9.heap.size=w10.heap.size+1 by rw [a4];simp);clear a4;have f:=hid (f.out.trans ((ct.out.trans (cC.out.mono ct.out.size)).mono f.out.size));have bw:=hid (aI cC.out bw.out);have q5:=cF.out;have q0:=ae q5 0 rfl;have q1:=ae q5 1 rfl;have q2:=ae q5 2 rfl;have q3:=ae q5 3 rfl;have q4:=ae q5 4 rfl;have b:=C.out _ (HT.out _ f.out);have n:=ae b 0 D.out;have m:=ae b 1 F.out;obtain ⟨o,t⟩:=M.out _ (HT.out _ f.out);go_upto_region 15 with (go_at_call 16;refine (qf N ⟨aE,aD,a5,aM,ba,aw⟩ (x.ad,x.de) _ bw.out cL.out cU.out).mono ?_;rintro e w11 ⟨u11,rfl,_,hb⟩;rw [c9.out];have cB:=hid hb;have cH:=dD ((none:Option Ins).getD yV) u11;generalize aH ((none:Option Ins).getD yV) u11=cv at *;clear hb)
 clear q0 q1 q2 q3 q4 q5;clear n m b o t;obtain ⟨al,bb⟩:∃ W,W=w11.alloc (.cells cv 41):=⟨_,rfl⟩;rw [<-bb];have dg:=hid (show al.heap[w11.heap.size]?=some (.cells cv 41) from bb ▸ (MapKept.heap_alloc w11 _).1);have cN:=hid (show Below w11.heap.size w11 al from bb ▸ (Below.refl _ _).alloc (Nat.le_refl _) _);have dy:=hid (show al.heap.size=w11.heap.size+1 by rw [bb];simp);clear bb;have b7:=hid (cB.out.trans (cN.out.mono cB.out.size));have f:=hid (f.out.trans (b7.out.mono f.out.size));have cm:=hid (fun (W:World) (hW:Below al.heap.size al W)=>aI hW (aI b7.out bw.out));have q5:=(b7.out.block w10.heap.size (by have:=cS.out;omega)).trans cF.out;have q0:=ae q5 0 rfl;have q1:=ae q5 1 rfl;have q2:=ae q5 2 rfl;have q3:=ae q5 3 rfl;have q4:=ae q5 4 rfl;have i:=O.out _ (HT.out _ f.out);have B:=ae i 0 rfl;have A:=ae i 1 rfl;have u:=ae i 2 rfl;have v:=ae i 3 rfl;have z:=ae i 4 rfl;have b:=C.out _ (HT.out _ f.out);have n:=ae b 0 D.out;have m:=ae b 1 F.out;obtain ⟨o,t⟩:=M.out _ (HT.out _ f.out);clear cH;have db:=fun d os=>cell_regrown q0 d os;have dj:=fun d os=>cell_regrown B d os;have dk:=fun d os=>cell_regrown q1 d os;have dv:=fun d os=>cell_regrown A d os;have dx:=fun d os=>cell_regrown q2 d os;have dz:=fun d os=>cell_regrown u d os;have da:=fun d os=>cell_regrown q3 d os;have dl:=fun d os=>cell_regrown v d os;have dT:=fun d os=>cell_regrown q4 d os;have du:=fun d os=>cell_regrown z d os;have dd:=fun d os=>cell_regrown n d os;have df:=fun d os=>cell_regrown m d os;have bc:=hid (fun (W:World) (hW:Below al.heap.size al W)=>P.out _ (HT.out _ (f.out.trans (hW.mono f.out.size))))
 have bd:=hid (fun (ho:iO s.ins (x.ad,x.de)=none) (W:World) (hW:Below al.heap.size al W)=>show Calls Tryz.prog 13 #[.agg #[.string N.lin,.int .i64 N.ser,.slice aE N.ins.length aD,.slice a5 N.pen.length aM,.slice ba N.out.length aw],.agg #[.string s.lin,.int .i64 s.ser,.slice ri s.ins.length ci,.slice rp s.pen.length cp,.slice ro s.out.length co]] W fun e w'=>e=.returned (.bool true)/\Below W.heap.size W w' from by
  have h1:=nK N s ⟨aE,aD,a5,aM,ba,aw⟩ ⟨ri,ci,rp,cp,ro,co⟩ W (cm.out W hW) (bg.out W (bc.out W hW));rw [cR.out ho] at h1;exact h1)
 have b5:=hid (fun (p3:Sp) (W:World) (hW:Below al.heap.size al W) (h3:dQ W N p3)=>show Calls Tryz.prog 13 #[.agg #[.string N.lin,.int .i64 N.ser,.slice aE N.ins.length aD,.slice a5 N.pen.length aM,.slice ba N.out.length aw],.agg (bK N p3)] W fun e w'=>e=.returned (.bool true)/\Below W.heap.size W w' from by
  have h1:=nK N N ⟨aE,aD,a5,aM,ba,aw⟩ p3 W (cm.out W hW) h3;rw [xR] at h1;exact h1)
 have bA:=hid (fun (W:World) (hW:Below al.heap.size al W)=>bS.out s ⟨ri,ci,rp,cp,ro,co⟩ W (bg.out W (bc.out W hW)) ac.out.1 af.out.qR cK.out);unfold bK at bA;dsimp only at bA;cases ho:iO s.ins (x.ad,x.de) with
 | none =>
   simp only [Option.isSome_none];have bd:=hid (bd.out ho);clear ho;go_wp2_with fail
   refine au (fun k=>match k with | 4=>some (bY true) | 13=>some (Gt N) | 14=>some (bY true) | 17=>some (bY true) | _=>none) (by kernel_rfl) (by kernel_rfl) ?_
   iterate 2 (refine wq ?_;intro K T;go_big_quiet_op;go_big_quiet_on)
   iterate 2 (refine wq ?_;intro K T;go_big_quiet_op;go_big_quiet_on)
   refine aC (bY true) (by kernel_rfl) rfl ⟨_,rfl⟩ aQ (fun w4 U ab=>?_) ?_
   . have Z:=ai U
     have hh:=bd.out w4 Z;clear U ab;go_simp
     go_at_call 13;refine Calls.mono hh ?_;rintro e w5 ⟨rfl,V⟩;exact ⟨_,rfl,V,rfl,trivial⟩
   rintro _ rfl
   (refine ay ?_;intro K T;go_simp;refine T _ ?_;clear T K)
   iterate 2 (refine wq ?_;intro K T;go_big_quiet_op;go_big_quiet_on)
   iterate 6 (refine wq ?_;intro K T;go_big_quiet_op;go_big_quiet_on)
   refine aC (Gt N) (by kernel_rfl) rfl ⟨_,⟨none,0,none,0,none,0⟩,rfl⟩ (IG _) (fun w4 U ab=>?_) ?_
   . have Z:=ai U
     have hh:=bA.out w4 Z;clear U ab;go_simp
     go_at_call 23;refine Calls.mono hh ?_;rintro e w5 ⟨p5,rfl,b6,V⟩;exact ⟨_,rfl,V,⟨p5,rfl⟩,p5,rfl,b6⟩
   rintro _ ⟨p5,rfl⟩
   (refine ay ?_;intro K T;go_simp;refine T _ ?_;clear T K)
   refine aC (bY true) (by kernel_rfl) rfl ⟨_,rfl⟩ aQ (fun w4 U ab=>?_) ?_
   . have Z:=ai U
     have bL:=ab 13 (qj.one (e:=⟨13,.data⟩) rfl (by simp) rfl rfl);obtain ⟨p6,e6,h6⟩:=bL;have hh:=b5.out p6 w4 Z h6;clear U ab;go_simp
     go_at_call 13;refine Calls.mono hh ?_;rintro e w5 ⟨rfl,V⟩;exact ⟨_,rfl,V,rfl,trivial⟩
   rintro _ rfl
   (refine ay ?_;intro K T;go_simp;refine T _ ?_;clear T K)
   iterate 2 (refine wq ?_;intro K T;go_big_quiet_op;go_big_quiet_on)
   refine aC (bY true) (by kernel_rfl) rfl ⟨_,rfl⟩ aQ (fun w4 U ab=>?_) ?_
   . have Z:=ai U
     have hh:=av.out w4 (bc.out w4 Z);clear U ab;go_simp
     go_at_call 10;refine Calls.mono hh ?_;rintro e w5 ⟨rfl,V⟩;exact ⟨_,rfl,V,rfl,trivial⟩
   rintro _ rfl
   (refine ay ?_;intro K T;go_simp;refine T _ ?_;clear T K)
   iterate 2 (refine wq ?_;intro K T;go_big_quiet_op;go_big_quiet_on)
   refine aS ?_;intro w6 bl b8;have bf:=ai bl;clear bl b8;have bN:=hid (bc.out w6 bf);clear bf;go_wp2_with fail
   go_ret
   exact ⟨rfl,bN.out⟩
 | some y =>
   simp only [Option.isSome_some];clear ho bd;go_wp2_with fail
   refine au (fun k=>match k with | 13=>some (Gt N) | 14=>some (bY true) | 17=>some (bY true) | _=>none) (by kernel_rfl) (by kernel_rfl) ?_
   iterate 2 (refine wq ?_;intro K T;go_big_quiet_op;go_big_quiet_on)
   iterate 3 (refine aW (by kernel_rfl) ?_)
   (refine ay ?_;intro K T;go_simp;refine T _ ?_;clear T K)
   iterate 2 (refine wq ?_;intro K T;go_big_quiet_op;go_big_quiet_on)
   iterate 6 (refine wq ?_;intro K T;go_big_quiet_op;go_big_quiet_on)
   refine aC (Gt N) (by kernel_rfl) rfl ⟨_,⟨none,0,none,0,none,0⟩,rfl⟩ (IG _) (fun w4 U ab=>?_) ?_
   . have Z:=ai U
     have hh:=bA.out w4 Z;clear U ab;go_simp
     go_at_call 23;refine Calls.mono hh ?_;rintro e w5 ⟨p5,rfl,b6,V⟩;exact ⟨_,rfl,V,⟨p5,rfl⟩,p5,rfl,b6⟩
   rintro _ ⟨p5,rfl⟩
   (refine ay ?_;intro K T;go_simp;refine T _ ?_;clear T K)
   refine aC (bY true) (by kernel_rfl) rfl ⟨_,rfl⟩ aQ (fun w4 U ab=>?_) ?_
   . have Z:=ai U
     have bL:=ab 13 (qj.one (e:=⟨13,.data⟩) rfl (by simp) rfl rfl);obtain ⟨p6,e6,h6⟩:=bL;have hh:=b5.out p6 w4 Z h6;clear U ab;go_simp
     go_at_call 13;refine Calls.mono hh ?_;rintro e w5 ⟨rfl,V⟩;exact ⟨_,rfl,V,rfl,trivial⟩
   rintro _ rfl
   (refine ay ?_;intro K T;go_simp;refine T _ ?_;clear T K)
   iterate 2 (refine wq ?_;intro K T;go_big_quiet_op;go_big_quiet_on)
   refine aC (bY true) (by kernel_rfl) rfl ⟨_,rfl⟩ aQ (fun w4 U ab=>?_) ?_
   . have Z:=ai U
     have hh:=av.out w4 (bc.out w4 Z);clear U ab;go_simp
     go_at_call 10;refine Calls.mono hh ?_;rintro e w5 ⟨rfl,V⟩;exact ⟨_,rfl,V,rfl,trivial⟩
   rintro _ rfl
   (refine ay ?_;intro K T;go_simp;refine T _ ?_;clear T K)
   iterate 2 (refine wq ?_;intro K T;go_big_quiet_op;go_big_quiet_on)
   refine aS ?_;intro w6 bl b8;have bf:=ai bl;clear bl b8;have bN:=hid (bc.out w6 bf);clear bf;go_wp2_with fail
   go_ret
   exact ⟨rfl,bN.out⟩
end Go.Proofs.YtomhbcfjhgecbaaGreatDoor
namespace Go.Proofs.YtomhbcfjhgecbaaGreatDoor
open Go.RowKit Go.Sort Go.ChangeShapes Go.WideShapes Go.ChangeAt
open Adr (WT)
set_option maxRecDepth 100000 in
theorem records_from (H:Type) (enc:TypeId × Value->H) (W:World) (base:Nat) (v0 v1 v2:Value) (d0 d1 d2:DataW H) (p0 p1 p2:List MemPlace) (o0:Value.okWide Tryz.prog W .any base 26 v0) (o1:Value.okWide Tryz.prog W .any base 41 v1) (o2:Value.okWide Tryz.prog W .any base 47 v2)
  (h0:DataW.Trod enc Tryz.prog W 0 (fun _=>true) true 26 v0 d0 p0) (h1:DataW.Trod enc Tryz.prog W 0 (fun _=>true) true 41 v1 d1 p1) (h2:DataW.Trod enc Tryz.prog W 0 (fun _=>true) true 47 v2 d2 p2) (q0:Blk.Bk 1048576 d0) (q1:Blk.Bk 1048576 d1) (q2:Blk.Bk 1048576 d2) (hu:WT W) :
  Calls Tryz.prog 6 #[v0,v1,v2] W fun e W'=>e=.returned (.bool true)/\Below W.heap.size W W':=by
 obtain ⟨s,p,rfl,g,f⟩:=yG o0 h0 q0;obtain ⟨x,q,rfl,c,b⟩:=MJ o1 h1 q1;obtain ⟨a,d,rfl⟩:=NY o2;exact NT s p x q a d W hu g f c b
end Go.Proofs.YtomhbcfjhgecbaaGreatDoor
