import Derived.Test.YtomhbcfjhgecbaaGreatDoorN13
import Derived.Deep.DeepCutAuto
import Derived.Test.YtomhbcfjhgecbaaGreatDoorN12
set_option linter.unusedVariables false
set_option linter.unusedSimpArgs false
namespace Go.Proofs.YtomhbcfjhgecbaaGreatDoor
open Go.RowKit Go.Sort Go.Lib
open Go.Lib (hid)
open Stp (wq au mP sF bT aQ kW qj ai dm gQ aC ay aS aW dG)
attribute [local go_sem] Stp.di
theorem JX {xs:List Ins} {d:ByteArray} {j:Nat} (h:j < xs.length):kR (xs.take (j+1)) d=kR (xs.take j) d+if xs[j].id=d then 1 else 0:=by
 unfold kR;rw [List.take_succ_eq_append_getElem h,List.countP_append]
 by_cases e:xs[j].id=d <;> simp [e]
theorem P5 (xs:List Ins) (d:ByteArray):kR xs d<=xs.length:=List.countP_le_length
set_option maxRecDepth 100000 in
set_option maxHeartbeats 8000000 in
theorem count_any (s:fU) (p:Sp) (d:ByteArray) (w:World) (h:dQ w s p) (hl:s.ins.length<=1000000) :
  Calls Tryz.prog 51 #[.agg (bK s p),.string d] w fun e w'=>e=.returned (.int .i64 (kR s.ins d:Nat))/\Below w.heap.size w w':=by
 have m:=hid (fun (W:World) (hW:Below w.heap.size w W)=>mM (h.1.below dB hW));obtain ⟨_,G,C⟩:=bi h.1;clear h;obtain ⟨t,A,y,v,r,B⟩:=p;unfold bK;dsimp only at m;obtain ⟨i,b⟩:∃ i,i=w.alloc (.cells #[.string s.lin,.int .i64 s.ser,.slice t s.ins.length A,.slice y s.pen.length v,.slice r s.out.length B] 26):=⟨_,rfl⟩;have l:=hid b;have n:=hid (show Below w.heap.size w i from b ▸ (Below.refl _ _).alloc (Nat.le_refl _) _);have Q:=ae (show i.heap[w.heap.size]?=some (.cells #[.string s.lin,.int .i64 s.ser,.slice t s.ins.length A,.slice y s.pen.length v,.slice r s.out.length B] 26) from b ▸ (MapKept.heap_alloc w _).1) 2 rfl;clear b;go_enter Tryz.func51,Tryz.ntmps51;go_upto_region 1 with (fail)
 rw [<-l.out];clear l;go_wp2_with fail
 have u:Hid (kR (s.ins.take 0) d=0):=hid (by rw [List.take_zero];rfl);go_loopg [5,6] s.ins.length (fun E F I wr=>∃ j:Nat,j<=s.ins.length/\s.ins.length - j<=E/\I=.int .i64 j/\F=.int .i64 (kR (s.ins.take j) d:Nat)/\wr=i)
 case atStart=>exact ⟨0,by omega,by omega,rfl,by rw [u.out];rfl,rfl⟩
 case round =>
  obtain ⟨j,M,K,rfl,rfl,rfl⟩:=hrel;have z:=P5 (s.ins.take j) d;rw [List.length_take] at z
  by_cases o:j < s.ins.length
  case pos =>
   have q:(j:Int) < (s.ins.length:Int):=by omega
   obtain ⟨P,J,N,rfl,L,a,_⟩:=m.out _ n.out j o;have O:=a 2 _ rfl;have c:=hid (JX (d:=d) o);clear a;generalize k:kR (s.ins.take j) d=R at *
   by_cases f:s.ins[j].id=d
   case pos =>
    have g:=hid (c.out.trans (by rw [if_pos f]));have H:(s.ins[j].id.toList == d.toList)=true:=by rw [f];simp
    clear c k f;generalize s.ins[j].id=D at *;go_wp2_with fail
    go_roundg (s.ins.length - (j+1))
    case measure=>omega
    case rel=>exact ⟨j+1,by omega,by omega,by go_num,by rw [g.out];go_num,rfl⟩
   case neg =>
    have g:=hid (c.out.trans (by rw [if_neg f,Nat.add_zero]));have H:=fP f;clear c k f;generalize s.ins[j].id=D at *;go_wp2_with fail
    go_roundg (s.ins.length - (j+1))
    case measure=>omega
    case rel=>exact ⟨j+1,by omega,by omega,by go_num,by rw [g.out],rfl⟩
  case neg =>
   obtain rfl:j=s.ins.length:=by omega
   have q:¬ ((s.ins.length:Nat):Int) < (s.ins.length:Int):=by omega
   go_wp2_with fail
   go_ret
   exact ⟨rfl,n.out⟩
set_option maxRecDepth 100000 in
set_option maxHeartbeats 8000000 in
theorem E8 (s t:fU) (p q:Sp) (w:World) (h:dQ w s p) (h2:dQ w t q) (hl:s.ins.length<=1000000) (hl2:t.ins.length<=1000000) (hc:∀ d,kR t.ins d=kR s.ins d) (he:t.ins.length=s.ins.length) (hp:t.pen.length=s.pen.length) :
  Calls Tryz.prog 17 #[.agg (bK s p),.agg (bK t q)] w fun e w'=>e=.returned (.bool true)/\Below w.heap.size w w':=by
 have z:=hid (fun (W:World) (hW:Below w.heap.size w W)=>mM (h.1.below dB hW));have r:=hid (fun (d:ByteArray) (W:World) (hW:Below w.heap.size w W)=>count_any s p d W (aI hW h) hl)
 have m:=hid (fun (d:ByteArray) (W:World) (hW:Below w.heap.size w W)=>show Calls Tryz.prog 51 #[.agg (bK t q),.string d] W fun e w'=>e=.returned (.int .i64 (kR s.ins d:Nat))/\Below W.heap.size W w' from by
  have h1:=count_any t q d W (aI hW h2) hl2;rw [hc d] at h1;exact h1)
 have B:=hid (fun (W:World) (hW:Below w.heap.size w W)=>mM (h2.1.below dB hW));obtain ⟨_,af,ad⟩:=bi h.1;clear h h2 hc;obtain ⟨ri,ci,rp,cp,ro,co⟩:=p;obtain ⟨T,S,Y,U,aa,R⟩:=q;unfold bK at *;dsimp only at z B r m;have o:=hid he;have N:=hid hp;clear he hp hl2;rw [o.out,N.out];simp only [o.out,N.out] at m;obtain ⟨c,G,J,ac,I,F⟩:=iK w (.cells #[.string s.lin,.int .i64 s.ser,.slice ri s.ins.length ci,.slice rp s.pen.length cp,.slice ro s.out.length co] 26) (.cells #[.string t.lin,.int .i64 t.ser,.slice T s.ins.length S,.slice Y s.pen.length U,.slice aa t.out.length R] 26);have E:=hid G;have L:=hid J;have y:=hid (fun (W:World) (hW:Below c.heap.size c W)=>L.out.trans (hW.mono L.out.size));have HS:=hid (fun (W:World) (hW:Below c.heap.size c W)=>(hW.block w.heap.size (by omega)).trans I);have HU:=hid (fun (W:World) (hW:Below c.heap.size c W)=>(hW.block (w.heap.size+1) (by omega)).trans F);have Z:=hid (Below.refl c.heap.size c);clear G J ac I F;go_enter Tryz.func17,Tryz.ntmps17;go_upto_region 1 with (fail)
 rw [<-E.out];clear E;go_wp2_with fail
 go_loopg [5] s.ins.length (fun gg q5 wr=>∃ j:Nat,j<=s.ins.length/\s.ins.length - j<=gg/\q5=.int .i64 j/\Hid (Below c.heap.size c wr))
 case atStart=>exact ⟨0,by omega,by omega,rfl,Z⟩
 case round =>
  clear Z;obtain ⟨j,hj,aw,rfl,b⟩:=hrel;have v:=HS.out _ b.out;have u5:=HU.out _ b.out;have s0:=ae v 0 rfl;have s1:=ae v 1 rfl;have s2:=ae v 2 rfl;have s3:=ae v 3 rfl;have s4:=ae v 4 rfl;have u0:=ae u5 0 rfl;have u1:=ae u5 1 rfl;have u2:=ae u5 2 rfl;have u3:=ae u5 3 rfl;have u4:=ae u5 4 rfl
  by_cases M:j < s.ins.length
  case pos =>
   have O:(j:Int) < (s.ins.length:Int):=by omega
   obtain ⟨b3,al,pt,rfl,a2,l,_⟩:=z.out _ (y.out _ b.out) j M;obtain ⟨b4,am,a1,rfl,n,f,_⟩:=B.out _ (y.out _ b.out) j (by rw [o.out];exact M);have ga:=l 2 _ rfl;have gb:=f 2 _ rfl;have V:=hid (fun (W:World) (hW:Below wr.heap.size wr W)=>r.out s.ins[j].id W (y.out _ (b.out.trans (hW.mono b.out.size))));have X:=hid (fun (W:World) (hW:Below wr.heap.size wr W)=>m.out s.ins[j].id W (y.out _ (b.out.trans (hW.mono b.out.size))));clear l f r m z B;generalize Q:kR s.ins s.ins[j].id=C at *;clear Q;have an:=fun d a=>cell_regrown s0 d a;have aD:=fun d a=>cell_regrown s1 d a;have a0:=fun d a=>cell_regrown s2 d a;have ap:=fun d a=>cell_regrown s3 d a;have av:=fun d a=>cell_regrown s4 d a;have ar:=fun d a=>cell_regrown u0 d a;have aq:=fun d a=>cell_regrown u1 d a;have aR:=fun d a=>cell_regrown u2 d a;have aE:=fun d a=>cell_regrown u3 d a;have aM:=fun d a=>cell_regrown u4 d a;have ao:=fun d a=>cell_regrown ga d a;have aL:=fun d a=>cell_regrown gb d a;go_wp2_with fail
   refine au (fun k=>match k with | 7=>some (bT (.int .i64 (C:Nat))) | 15=>some (bT (.int .i64 (C:Nat))) | _=>none) (by kernel_rfl) (by kernel_rfl) ?_
   iterate 7 (refine wq ?_;intro K i;go_big_quiet_op;go_big_quiet_on)
   refine aC (bT (.int .i64 (C:Nat))) (by kernel_rfl) rfl ⟨_,rfl⟩ aQ (fun w4 g A=>?_) ?_
   . have n:=ai g
     have P:=V.out w4 n;clear g A;go_simp
     go_at_call 51;refine Calls.mono P ?_;rintro e w5 ⟨rfl,u⟩;exact ⟨_,rfl,u,rfl,trivial⟩
   rintro _ rfl
   (refine ay ?_;intro K i;go_simp;refine i _ ?_;clear i K)
   iterate 7 (refine wq ?_;intro K i;go_big_quiet_op;go_big_quiet_on)
   refine aC (bT (.int .i64 (C:Nat))) (by kernel_rfl) rfl ⟨_,rfl⟩ aQ (fun w4 g A=>?_) ?_
   . have n:=ai g
     have P:=X.out w4 n;clear g A;go_simp
     go_at_call 51;refine Calls.mono P ?_;rintro e w5 ⟨rfl,u⟩;exact ⟨_,rfl,u,rfl,trivial⟩
   rintro _ rfl
   (refine ay ?_;intro K i;go_simp;refine i _ ?_;clear i K)
   (refine wq ?_;intro K i;go_big_quiet_op;go_big_quiet_on)
   refine aS ?_;intro w6 H ab;have D:=ai H;clear H ab;have b:=hid (b.out.trans (D.mono b.out.size));clear D;go_wp2_with fail
   go_roundg (s.ins.length - (j+1))
   case measure=>omega
   case rel=>exact ⟨j+1,by omega,by omega,by go_num,b⟩
  case neg =>
   obtain rfl:j=s.ins.length:=by omega
   have O:¬ ((s.ins.length:Nat):Int) < (s.ins.length:Int):=by omega
   go_wp2_with fail
   go_ret
   exact ⟨rfl,y.out _ b.out⟩
end Go.Proofs.YtomhbcfjhgecbaaGreatDoor
namespace Go.Proofs.YtomhbcfjhgecbaaGreatDoor
open Go.RowKit Go.Sort Go.Lib
open Go.Lib (hid)
open Adr (WT)
attribute [local go_sem] Stp.di
attribute [local go_sem ↓] fQ
attribute [local go_sem] dV
attribute [local go_sem ↓] fK
attribute [local go_sem] dH bD bG bJ cu bQ dA bI cO
theorem MZ (s:fU) (p:Sp) (a:ByteArray) (w:World) (h:dQ w s p) (hf:lI s) (ha:fJ s.ins) (hn:s.ins.length<=90) (hal:a.size<=maxLen) :
  Calls Tryz.prog 15 #[.agg (bK s p),.string a] w fun e w'=>∃ (S:fU) (k:ByteArray) (E:Int) (p':Sp),e=.returned (.tuple #[.agg (bK S p'),.string k,.int .i64 E])/\dQ w' S p'/\Below w.heap.size w w'/\(E=9 ∨ E=0/\∃ ys,vV s.ins a=some (ys,k)/\S={ s with ins:=ys }):=by
 refine (wV s p a w h hf ha hn hal).mono ?_;rintro e w1 ⟨c,b⟩;cases d:vV s.ins a with
 | none =>
   rw [d] at b;exact ⟨UQ,⟨#[]⟩,9,sZ,b,Fj _,c,.inl rfl⟩
 | some y =>
   obtain ⟨ys,k⟩:=y;rw [d] at b;obtain ⟨p',rfl,f⟩:=b;exact ⟨_,k,0,p',rfl,f,c,.inr ⟨rfl,ys,rfl,rfl⟩⟩
set_option maxRecDepth 100000 in
set_option maxHeartbeats 32000000 in
theorem MO (s:fU) (p:Sp) (a b:ByteArray) (w:World) (hT:WT w) (h:dQ w s p) (hs:oV s) (ha:a.size<=1200001) (hb:b.size<=1200001) :
  Calls Tryz.prog 5 #[.agg (bK s p),.string a,.string b] w fun e w'=>e=.returned (.bool true)/\Below w.heap.size w w':=by
 have L:=hid (fun (W:World) (hW:Below w.heap.size w W)=>Ad s p W (aI hW h));have a8:=hid (fun (W:World) (hW:Below w.heap.size w W)=>zx W (hT.below hW));have S:=hid (fun (W:World) (hW:Below w.heap.size w W)=>wO s p W (aI hW h) hs);have a1:=hid (fun (W:World) (hW:Below w.heap.size w W)=>hT.below hW);have am:=hid (fun (W:World) (hW:Below w.heap.size w W)=>aI hW h);have bo:=hid hs;have v:=hid (fun (h:oh s=true)=>Ib h);have y:=hid (fun (h:o8 s=0)=>zu h);have HA:=hid ha;have bj:=hid hb;clear hT h hs ha hb;generalize b6:oh s=bs at *;generalize hE:o8 s=E at *;clear b6 hE;obtain ⟨ri,ci,rp,cp,ro,co⟩:=p;have b4:=L;have b3:=S;unfold bK at L S ⊢;dsimp only at L S;clear b4 b3;obtain ⟨J,aE⟩:∃ J,J=w.alloc (.cells #[.string s.lin,.int .i64 s.ser,.slice ri s.ins.length ci,.slice rp s.pen.length cp,.slice ro s.out.length co] 26):=⟨_,rfl⟩;have bt:=hid aE;have b2:=hid (show Below w.heap.size w J from aE ▸ (Below.refl _ _).alloc (Nat.le_refl _) _);have bS:J.heap[w.heap.size]?=some (.cells #[.string s.lin,.int .i64 s.ser,.slice ri s.ins.length ci,.slice rp s.pen.length cp,.slice ro s.out.length co] 26):=aE ▸ (MapKept.heap_alloc w _).1;have cb:J.heap.size=w.heap.size+1:=by rw [aE];simp
 have j:=hid (fun (W:World) (hW:Below J.heap.size J W)=>b2.out.trans (hW.mono b2.out.size));have u:=hid (fun (W:World) (hW:Below J.heap.size J W)=>(hW.block w.heap.size (by omega)).trans bS);have c:=hid (Below.refl J.heap.size J);clear aE bS cb;go_enter Tryz.func5,Tryz.ntmps5;go_upto_region 1 with (fail)
 rw [<-bt.out];clear bt;have f:=u.out _ c.out;have t:=ae f 0 rfl;have r:=ae f 1 rfl;have l:=ae f 2 rfl;have m:=ae f 3 rfl;have q:=ae f 4 rfl;cases bs with
 | false =>
   go_wp2_with (first | (go_at_call 9;refine (L.out _ (j.out _ c.out)).mono ?_;rintro e w1 ⟨rfl,i⟩;clear t r l m q f;have c:=hid (c.out.trans (i.mono c.out.size));clear i;have f:=u.out _ c.out;have t:=ae f 0 rfl;have r:=ae f 1 rfl;have l:=ae f 2 rfl;have m:=ae f 3 rfl;have q:=ae f 4 rfl) | (go_at_call 12;refine (S.out _ (j.out _ c.out)).mono ?_;rintro e w1 ⟨rfl,i⟩;clear t r l m q f;have c:=hid (c.out.trans (i.mono c.out.size));clear i;have f:=u.out _ c.out;have t:=ae f 0 rfl;have r:=ae f 1 rfl;have l:=ae f 2 rfl;have m:=ae f 3 rfl;have q:=ae f 4 rfl) | (go_at_call 10;refine (a8.out _ (j.out _ c.out)).mono ?_;rintro e w1 ⟨rfl,i⟩;have c:=hid (c.out.trans (i.mono c.out.size));clear i))
   go_ret
   exact ⟨rfl,j.out _ c.out⟩
 | true =>
 by_cases hE:E=0
 case neg =>
  have n1:(E != 0)=true:=by simp [hE]
  have n2:(E == 0)=false:=by simp [hE]
  clear hE y;go_wp2_with (first | (go_at_call 9;refine (L.out _ (j.out _ c.out)).mono ?_;rintro e w1 ⟨rfl,i⟩;clear t r l m q f;have c:=hid (c.out.trans (i.mono c.out.size));clear i;have f:=u.out _ c.out;have t:=ae f 0 rfl;have r:=ae f 1 rfl;have l:=ae f 2 rfl;have m:=ae f 3 rfl;have q:=ae f 4 rfl) | (go_at_call 12;refine (S.out _ (j.out _ c.out)).mono ?_;rintro e w1 ⟨rfl,i⟩;clear t r l m q f;have c:=hid (c.out.trans (i.mono c.out.size));clear i;have f:=u.out _ c.out;have t:=ae f 0 rfl;have r:=ae f 1 rfl;have l:=ae f 2 rfl;have m:=ae f 3 rfl;have q:=ae f 4 rfl) | (go_at_call 10;refine (a8.out _ (j.out _ c.out)).mono ?_;rintro e w1 ⟨rfl,i⟩;have c:=hid (c.out.trans (i.mono c.out.size));clear i))
  go_ret
  exact ⟨rfl,j.out _ c.out⟩
 case pos =>
 replace y:=hid (y.out hE);subst hE;replace v:=hid (v.out rfl);have ba:=hid (fun (W:World) (hW:Below w.heap.size w W)=>MZ s ⟨ri,ci,rp,cp,ro,co⟩ a W (am.out W hW) v.out.1 y.out.qR (by have:=v.out.2;omega) (by have:=HA.out;unfold maxLen;omega));unfold bK at ba;dsimp only at ba;go_upto_region 4 with (first | (go_at_call 9;refine (L.out _ (j.out _ c.out)).mono ?_;rintro e w1 ⟨rfl,i⟩;clear t r l m q f;have c:=hid (c.out.trans (i.mono c.out.size));clear i;have f:=u.out _ c.out;have t:=ae f 0 rfl;have r:=ae f 1 rfl;have l:=ae f 2 rfl;have m:=ae f 3 rfl;have q:=ae f 4 rfl) | (go_at_call 12;refine (S.out _ (j.out _ c.out)).mono ?_;rintro e w1 ⟨rfl,i⟩;clear t r l m q f;have c:=hid (c.out.trans (i.mono c.out.size));clear i;have f:=u.out _ c.out;have t:=ae f 0 rfl;have r:=ae f 1 rfl;have l:=ae f 2 rfl;have m:=ae f 3 rfl;have q:=ae f 4 rfl) | (go_at_call 15;refine (ba.out _ (j.out _ c.out)).mono ?_;rintro e w2 ⟨o,k,D,⟨Z,ab,X,ac,ad,af⟩,rfl,bN,bx,bE⟩;have bL:=hid bN;have B2:=hid bx;have a0:=hid bE;clear bN bx bE))
 clear t r l m q f;clear L S ba;obtain ⟨H,av⟩:∃ W,W=w2.alloc (.cells #[.string o.lin,.int .i64 o.ser,.slice Z o.ins.length ab,.slice X o.pen.length ac,.slice ad o.out.length af] 26):=⟨_,rfl⟩;rw [<-av];have G2:=hid (show H.heap[w2.heap.size]?=some (.cells #[.string o.lin,.int .i64 o.ser,.slice Z o.ins.length ab,.slice X o.pen.length ac,.slice ad o.out.length af] 26) from av ▸ (MapKept.heap_alloc w2 _).1);have E2:=hid (show Below w2.heap.size w2 H from av ▸ (Below.refl _ _).alloc (Nat.le_refl _) _);have Z2:=hid (show H.heap.size=w2.heap.size+1 by rw [av];simp);clear av;have T2:=hid (c.out.trans ((B2.out.trans (E2.out.mono B2.out.size)).mono c.out.size));have aR:=hid (fun (W:World) (hW:Below H.heap.size H W)=>aI hW (aI E2.out bL.out));have aL:=hid (fun (W:World) (hW:Below H.heap.size H W)=>(hW.block w2.heap.size (by have:=Z2.out;omega)).trans G2.out);have z:=hid (fun (W:World) (hW:Below H.heap.size H W)=>T2.out.trans (hW.mono T2.out.size));have c:=hid (Below.refl H.heap.size H);clear bL B2 G2 E2 Z2 T2;go_upto_if 37 with fail
 go_cut [9] (fun s9 wx=>Aside (Below J.heap.size J wx))
 case first =>
  rcases a0.out with hD | ⟨hD,ys,hd,hS⟩
  . subst hD
    clear a0;go_wp2_with fail
    go_meet
    exact z.out _ c.out
  . subst hD
    have C:=hid (hS ▸ Qa y.out v.out.1 bo.out (by have:=v.out.2;omega) hd:qF o/\lI o/\oV o/\(∀ d,kR o.ins d=kR s.ins d)/\o.ins.length=s.ins.length/\k.size<=maxLen/\(∃ x n,iO s.ins (a,⟨#[]⟩)=some x/\iO o.ins (a,k)=some (uH x n)/\iO o.ins (a,⟨#[]⟩)=none));have b9:=hid (show o.pen.length=s.pen.length from by rw [hS]);clear a0 hd hS;obtain ⟨x,n,bO,b0,bR⟩:=C.out.2.2.2.2.2.2;have cf:=hid bO;have b7:=hid b0;have b5:=hid bR;clear bO b0 bR;have f:=u.out _ (z.out _ c.out);have t:=ae f 0 rfl;have r:=ae f 1 rfl;have l:=ae f 2 rfl;have m:=ae f 3 rfl;have q:=ae f 4 rfl;go_upto_region 6 with (go_at_call 16;refine (qf s ⟨ri,ci,rp,cp,ro,co⟩ (a,⟨#[]⟩) _ (am.out _ (j.out _ (z.out _ c.out))) v.out.1 y.out.qR).mono ?_;rintro e w5 ⟨u5,rfl,hu,hb⟩;rw [cf.out] at hu ⊢;simp only [Option.getD_some,Option.isSome_some,Option.getD_none,Option.isSome_none] at hu ⊢;have B5:=hid hb;have bp:=dD (x) u5;have bb:=hid (show (aH (x) u5)[2]?=some (.string (x).id) from rfl);obtain ⟨Y5,K⟩:∃ Y,Y=aH (x) u5:=⟨_,rfl⟩;rw [<-K] at bp bb ⊢;clear hu hb K)
    clear t r l m q f;obtain ⟨W5,ap⟩:∃ W,W=w5.alloc (.cells Y5 41):=⟨_,rfl⟩;rw [<-ap];have G5:=hid (show W5.heap[w5.heap.size]?=some (.cells Y5 41) from ap ▸ (MapKept.heap_alloc w5 _).1);have E5:=hid (show Below w5.heap.size w5 W5 from ap ▸ (Below.refl _ _).alloc (Nat.le_refl _) _);have Z5:=hid (show W5.heap.size=w5.heap.size+1 by rw [ap];simp);clear ap;have H5:=hid (B5.out.trans (E5.out.mono B5.out.size));have c:=hid (c.out.trans (H5.out.mono c.out.size));have g:=aL.out _ c.out;have g0:=ae g 0 rfl;have g1:=ae g 1 rfl;have g2:=ae g 2 rfl;have U:=ae g 3 rfl;have Q:=ae g 4 rfl;go_upto_region 7 with (go_at_call 16;refine (qf o ⟨Z,ab,X,ac,ad,af⟩ (a,k) _ (aR.out _ c.out) C.out.2.1 C.out.1.qR).mono ?_;rintro e w6 ⟨u6,rfl,hu,hb⟩;rw [b7.out] at hu ⊢;simp only [Option.getD_some,Option.isSome_some,Option.getD_none,Option.isSome_none] at hu ⊢;have B6:=hid hb;have br:=dD (uH x n) u6;have bf:=hid (show (aH (uH x n) u6)[2]?=some (.string (uH x n).id) from rfl);obtain ⟨Y6,K⟩:∃ Y,Y=aH (uH x n) u6:=⟨_,rfl⟩;rw [<-K] at br bf ⊢;clear hu hb K)
    clear g0 g1 g2 U Q g;obtain ⟨W6,ao⟩:∃ W,W=w6.alloc (.cells Y6 41):=⟨_,rfl⟩;rw [<-ao];have G6:=hid (show W6.heap[w6.heap.size]?=some (.cells Y6 41) from ao ▸ (MapKept.heap_alloc w6 _).1);have E6:=hid (show Below w6.heap.size w6 W6 from ao ▸ (Below.refl _ _).alloc (Nat.le_refl _) _);have Z6:=hid (show W6.heap.size=w6.heap.size+1 by rw [ao];simp);clear ao;have H6:=hid (B6.out.trans (E6.out.mono B6.out.size));have c:=hid (c.out.trans (H6.out.mono c.out.size));have g:=aL.out _ c.out;have g0:=ae g 0 rfl;have g1:=ae g 1 rfl;have g2:=ae g 2 rfl;have U:=ae g 3 rfl;have Q:=ae g 4 rfl;go_upto_region 8 with (go_at_call 16;refine (qf o ⟨Z,ab,X,ac,ad,af⟩ (a,⟨#[]⟩) _ (aR.out _ c.out) C.out.2.1 C.out.1.qR).mono ?_;rintro e w7 ⟨u7,rfl,hu,hb⟩;rw [b5.out] at hu ⊢;simp only [Option.getD_some,Option.isSome_some,Option.getD_none,Option.isSome_none] at hu ⊢;have B7:=hid hb;have bq:=dD (yV) u7;have bA:=hid (show (aH (yV) u7)[2]?=some (.string (yV).id) from rfl);obtain ⟨Y7,K⟩:∃ Y,Y=aH (yV) u7:=⟨_,rfl⟩;rw [<-K] at bq bA ⊢;clear hu hb K)
    clear g0 g1 g2 U Q g;obtain ⟨W7,aM⟩:∃ W,W=w7.alloc (.cells Y7 41):=⟨_,rfl⟩;rw [<-aM];have G7:=hid (show W7.heap[w7.heap.size]?=some (.cells Y7 41) from aM ▸ (MapKept.heap_alloc w7 _).1);have E7:=hid (show Below w7.heap.size w7 W7 from aM ▸ (Below.refl _ _).alloc (Nat.le_refl _) _);have Z7:=hid (show W7.heap.size=w7.heap.size+1 by rw [aM];simp);clear aM;have H7:=hid (B7.out.trans (E7.out.mono B7.out.size));have c:=hid (c.out.trans (H7.out.mono c.out.size));have y5:=ae (((H6.out.trans (H7.out.mono H6.out.size)).block w5.heap.size (by have:=Z5.out;omega)).trans G5.out) 2 bb.out;have y6:=ae ((H7.out.block w6.heap.size (by have:=Z6.out;omega)).trans G6.out) 2 bf.out;have bd:(uH x n).id=x.id:=rfl;rw [bd] at y6;have n1:(x.id.toList != x.id.toList)=false:=by simp
    have n2:(x.id.toList == x.id.toList)=true:=by simp
    have g:=aL.out _ c.out;have g0:=ae g 0 rfl;have g1:=ae g 1 rfl;have g2:=ae g 2 rfl;have U:=ae g 3 rfl;have Q:=ae g 4 rfl;have f:=u.out _ (z.out _ c.out);have t:=ae f 0 rfl;have r:=ae f 1 rfl;have l:=ae f 2 rfl;have m:=ae f 3 rfl;have q:=ae f 4 rfl;have V:=hid (fun (W:World) (hW:Below H.heap.size H W)=>E8 s o ⟨ri,ci,rp,cp,ro,co⟩ ⟨Z,ab,X,ac,ad,af⟩ W (am.out W (j.out _ (z.out _ hW))) (aR.out W hW) (by have:=v.out.2;omega) (by have:=v.out.2;have:=C.out.2.2.2.2.1;omega) C.out.2.2.2.1 C.out.2.2.2.2.1 b9.out)
    have M:=hid (fun (W:World) (hW:Below H.heap.size H W)=>show Calls Tryz.prog 11 #[.agg (bK o ⟨Z,ab,X,ac,ad,af⟩)] W fun e w'=>e=.returned (.int .i64 0)/\Below W.heap.size W w' from by
     have I:=ng o ⟨Z,ab,X,ac,ad,af⟩ W (a1.out W (j.out _ (z.out _ hW))) (aR.out W hW) (CJ C.out.2.2.1);rw [Gs C.out.1] at I;exact I)
    unfold bK at V M;dsimp only at V M;clear bp br bq bb bf bA bd;go_wp2_with (first | (go_at_call 17;refine (V.out _ c.out).mono ?_;rintro e w8 ⟨rfl,aw⟩;have c:=hid (c.out.trans (aw.mono c.out.size));clear aw g0 g1 g2 U Q g;have g:=aL.out _ c.out;have g0:=ae g 0 rfl;have g1:=ae g 1 rfl;have g2:=ae g 2 rfl;have U:=ae g 3 rfl;have Q:=ae g 4 rfl) | (go_at_call 11;refine (M.out _ c.out).mono ?_;rintro e w9 ⟨rfl,aD⟩;have c:=hid (c.out.trans (aD.mono c.out.size));clear aD))
    go_meet
    exact z.out _ c.out
 case rest =>
 have c:=hid hcut;clear hcut z aR aL a0;have B:=hid (fun (W:World) (hW:Below w.heap.size w W)=>nV s ⟨ri,ci,rp,cp,ro,co⟩ a b W (a1.out W hW) (am.out W hW) v.out.1 y.out.qR (by have:=HA.out;omega) (by have:=bj.out;omega));unfold bK at B;dsimp only at B
 by_cases R:lZ s a b=0
 case neg =>
  have n1:(lZ s a b != 0)=true:=by simp [R]
  have n2:(lZ s a b == 0)=false:=by simp [R]
  have B:=hid (fun (W:World) (hW:Below w.heap.size w W)=>(B.out W hW).mono fun e w' (h:JP s a b W e w')=>show e=.returned (.tuple #[.agg CU,.int .i64 (lZ s a b)])/\Below W.heap.size W w' from by
   obtain ⟨I,h2⟩:=h;rw [if_neg R] at h2;exact ⟨h2,I⟩)
  unfold CU at B;clear R;generalize lZ s a b=F at *;have f:=u.out _ c.out;have t:=ae f 0 rfl;have r:=ae f 1 rfl;have l:=ae f 2 rfl;have m:=ae f 3 rfl;have q:=ae f 4 rfl;go_wp2_with (first | (go_at_call 18;refine (B.out _ (j.out _ c.out)).mono ?_;rintro e w3 ⟨rfl,an⟩;have c:=hid (c.out.trans ((an.trans ((Below.refl _ _).alloc (Nat.le_refl _) (.cells #[.string ⟨#[]⟩,.int .i64 0,.slice none 0 0,.slice none 0 0,.slice none 0 0] 26) |>.mono an.size)).mono c.out.size));clear an) | (go_at_call 10;refine (a8.out _ (j.out _ c.out)).mono ?_;rintro e w1 ⟨rfl,i⟩;have c:=hid (c.out.trans (i.mono c.out.size));clear i))
  go_ret
  exact ⟨rfl,j.out _ c.out⟩
 case pos =>
 have B:=hid (fun (W:World) (hW:Below w.heap.size w W)=>(B.out W hW).mono fun e w' (h:JP s a b W e w')=>show ∃ p',e=.returned (.tuple #[.agg (bK (jG s a b) p'),.int .i64 0])/\dQ w' (jG s a b) p'/\Below W.heap.size W w' from by
  obtain ⟨I,h2⟩:=h;rw [if_pos R] at h2;obtain ⟨p',h3,h4⟩:=h2;exact ⟨p',h3,iJ (fG _ _) h4,I⟩)
 obtain ⟨bk,b1⟩:=NV y.out R;have b8:=hid bk;have cc:=hid b1;have a5:=hid (Iy y.out R);have bm:=hid (PE y.out R);have cd:=hid (Uk y.out R v.out.1);have ce:=hid (UH y.out R bo.out bj.out);clear R bk b1;generalize jG s a b=G at *;have f:=u.out _ c.out;have t:=ae f 0 rfl;have r:=ae f 1 rfl;have l:=ae f 2 rfl;have m:=ae f 3 rfl;have q:=ae f 4 rfl;go_upto_region 11 with (go_at_call 18;refine (B.out _ (j.out _ c.out)).mono ?_;rintro e w3 ⟨⟨P,O,aa,T,al,N⟩,rfl,bv,an⟩;unfold bK;have bB:=hid bv;have B3:=hid an;clear bv an)
 clear t r l m q f;obtain ⟨A,ar⟩:∃ W,W=w3.alloc (.cells #[.string G.lin,.int .i64 G.ser,.slice P G.ins.length O,.slice aa G.pen.length T,.slice al G.out.length N] 26):=⟨_,rfl⟩;rw [<-ar];have G3:=hid (show A.heap[w3.heap.size]?=some (.cells #[.string G.lin,.int .i64 G.ser,.slice P G.ins.length O,.slice aa G.pen.length T,.slice al G.out.length N] 26) from ar ▸ (MapKept.heap_alloc w3 _).1);have E3:=hid (show Below w3.heap.size w3 A from ar ▸ (Below.refl _ _).alloc (Nat.le_refl _) _);have Z3:=hid (show A.heap.size=w3.heap.size+1 by rw [ar];simp);clear ar;have T3:=hid (c.out.trans ((B3.out.trans (E3.out.mono B3.out.size)).mono c.out.size));have bg:=hid (fun (W:World) (hW:Below A.heap.size A W)=>aI hW (aI E3.out bB.out));have be:=hid (fun (W:World) (hW:Below A.heap.size A W)=>(hW.block w3.heap.size (by have:=Z3.out;omega)).trans G3.out);have z:=hid (fun (W:World) (hW:Below A.heap.size A W)=>T3.out.trans (hW.mono T3.out.size));have c:=hid (Below.refl A.heap.size A);clear bB B3 G3 E3 Z3 T3 B
 have bh:=hid (fun (W:World) (hW:Below A.heap.size A W)=>show Calls Tryz.prog 18 #[.agg (bK G ⟨P,O,aa,T,al,N⟩),.string b,.string a] W fun e w'=>∃ p',e=.returned (.tuple #[.agg (bK s p'),.int .i64 0])/\dQ w' s p'/\Below W.heap.size W w' from by
  refine (nV G ⟨P,O,aa,T,al,N⟩ b a W (a1.out W (j.out _ (z.out _ hW))) (bg.out W hW) cd.out bm.out.qR (by have:=bj.out;omega) (by have:=HA.out;omega)).mono fun e w' h=>?_;obtain ⟨I,h2⟩:=h;rw [if_pos b8.out,cc.out] at h2;obtain ⟨p',h3,h4⟩:=h2;exact ⟨p',h3,iJ (fG _ _) h4,I⟩)
 have M:=hid (fun (W:World) (hW:Below A.heap.size A W)=>show Calls Tryz.prog 11 #[.agg (bK G ⟨P,O,aa,T,al,N⟩)] W fun e w'=>e=.returned (.int .i64 0)/\Below W.heap.size W w' from by
  have I:=ng G ⟨P,O,aa,T,al,N⟩ W (a1.out W (j.out _ (z.out _ hW))) (bg.out W hW) (CJ ce.out);rw [Gs bm.out] at I;exact I)
 have V:=hid (fun (W:World) (hW:Below A.heap.size A W)=>E8 s G ⟨ri,ci,rp,cp,ro,co⟩ ⟨P,O,aa,T,al,N⟩ W (am.out W (j.out _ (z.out _ hW))) (bg.out W hW) (by have:=v.out.2;omega) (by have:=v.out.2;have:=a5.out.2.1;omega) a5.out.1 a5.out.2.1 a5.out.2.2);unfold bK at bh M V;dsimp only at bh M V;have g:=be.out _ c.out;have g0:=ae g 0 rfl;have g1:=ae g 1 rfl;have g2:=ae g 2 rfl;have U:=ae g 3 rfl;have Q:=ae g 4 rfl;go_upto_region 14 with (go_at_call 18;refine (bh.out _ c.out).mono ?_;rintro e w4 ⟨⟨a3,a2,a4,a6,a7,a9⟩,rfl,bl,bX⟩;dsimp only;have ca:=hid bl;have B4:=hid bX;clear bl bX)
 clear g0 g1 g2 U Q g;obtain ⟨W4,aq⟩:∃ W,W=w4.alloc (.cells #[.string s.lin,.int .i64 s.ser,.slice a3 s.ins.length a2,.slice a4 s.pen.length a6,.slice a7 s.out.length a9] 26):=⟨_,rfl⟩;rw [<-aq];have G4:=hid (show W4.heap[w4.heap.size]?=some (.cells #[.string s.lin,.int .i64 s.ser,.slice a3 s.ins.length a2,.slice a4 s.pen.length a6,.slice a7 s.out.length a9] 26) from aq ▸ (MapKept.heap_alloc w4 _).1);have E4:=hid (show Below w4.heap.size w4 W4 from aq ▸ (Below.refl _ _).alloc (Nat.le_refl _) _);have Z4:=hid (show W4.heap.size=w4.heap.size+1 by rw [aq];simp);clear aq;have H4:=hid (B4.out.trans (E4.out.mono B4.out.size));have c:=hid (c.out.trans (H4.out.mono c.out.size))
 have bc:=hid (show Calls Tryz.prog 13 #[.agg (bK s ⟨ri,ci,rp,cp,ro,co⟩),.agg (bK s ⟨a3,a2,a4,a6,a7,a9⟩)] W4 fun e w'=>e=.returned (.bool true)/\Below W4.heap.size W4 w' from by
  have I:=nK s s ⟨ri,ci,rp,cp,ro,co⟩ ⟨a3,a2,a4,a6,a7,a9⟩ W4 (am.out W4 (j.out _ (z.out _ c.out))) (aI E4.out ca.out);rw [xR] at I;exact I)
 unfold bK at bc;dsimp only at bc;have f5:=G4.out;have f0:=ae f5 0 rfl;have f1:=ae f5 1 rfl;have f2:=ae f5 2 rfl;have f3:=ae f5 3 rfl;have f4:=ae f5 4 rfl;have f:=u.out _ (z.out _ c.out);have t:=ae f 0 rfl;have r:=ae f 1 rfl;have l:=ae f 2 rfl;have m:=ae f 3 rfl;have q:=ae f 4 rfl;go_wp2_with (first | (go_at_call 13;refine bc.out.mono ?_;rintro e w5 ⟨rfl,bw⟩;have c:=hid (c.out.trans (bw.mono c.out.size));clear bw f0 f1 f2 f3 f4 f5 t r l m q f;have f:=u.out _ (z.out _ c.out);have t:=ae f 0 rfl;have r:=ae f 1 rfl;have l:=ae f 2 rfl;have m:=ae f 3 rfl;have q:=ae f 4 rfl;have g:=be.out _ c.out;have g0:=ae g 0 rfl;have g1:=ae g 1 rfl;have g2:=ae g 2 rfl;have U:=ae g 3 rfl;have Q:=ae g 4 rfl) | (go_at_call 17;refine (V.out _ c.out).mono ?_;rintro e w8 ⟨rfl,aw⟩;have c:=hid (c.out.trans (aw.mono c.out.size));clear aw g0 g1 g2 U Q g t r l m q f;have g:=be.out _ c.out;have g0:=ae g 0 rfl;have g1:=ae g 1 rfl;have g2:=ae g 2 rfl;have U:=ae g 3 rfl;have Q:=ae g 4 rfl) | (go_at_call 11;refine (M.out _ c.out).mono ?_;rintro e w9 ⟨rfl,aD⟩;have c:=hid (c.out.trans (aD.mono c.out.size));clear aD) | (go_at_call 10;refine (a8.out _ (j.out _ (z.out _ c.out))).mono ?_;rintro e w1 ⟨rfl,i⟩;have c:=hid ((z.out _ c.out).trans (i.mono (z.out _ c.out).size));clear i))
 go_ret
 exact ⟨rfl,j.out _ c.out⟩
end Go.Proofs.YtomhbcfjhgecbaaGreatDoor
namespace Go.Proofs.YtomhbcfjhgecbaaGreatDoor
open Go.RowKit Go.Sort Go.ChangeShapes Go.WideShapes Go.ChangeAt
open Adr (WT)
set_option maxRecDepth 100000 in
theorem CY {H:Type} {enc:TypeId × Value->H} {W:World} {base:Nat} {v:Value} {d:DataW H} {p:List MemPlace} (o:Value.okWide Tryz.prog W .any base 9 v) (h:DataW.Trod enc Tryz.prog W 0 (fun _=>true) true 9 v d p) (hw:Blk.Bk 1048576 d) :
  ∃ s,v=.string s/\s.size<=1200001:=by
 have a:Tryz.prog.underlying 9=some .string:=Tryz.underlying9;obtain ⟨b,c⟩:=h;obtain ⟨s,f,_,i⟩:=Blk.Lt a hw c
 have:∃ u,v=.string u:=by
  simp only [Value.okWide,a,Cell.okWide,Cell.ok] at o;cases v <;> simp_all
 obtain ⟨u,rfl⟩:=this;have g:[Value.string u]=[.string s]:=f;obtain rfl:=Value.string.inj (List.cons.inj g).1;exact ⟨_,rfl,by omega⟩
set_option maxRecDepth 100000 in
theorem renames_from (H:Type) (enc:TypeId × Value->H) (W:World) (base:Nat) (v0 v1 v2:Value) (d0 d1 d2:DataW H) (p0 p1 p2:List MemPlace) (o0:Value.okWide Tryz.prog W .any base 26 v0) (o1:Value.okWide Tryz.prog W .any base 9 v1) (o2:Value.okWide Tryz.prog W .any base 9 v2)
  (h0:DataW.Trod enc Tryz.prog W 0 (fun _=>true) true 26 v0 d0 p0) (h1:DataW.Trod enc Tryz.prog W 0 (fun _=>true) true 9 v1 d1 p1) (h2:DataW.Trod enc Tryz.prog W 0 (fun _=>true) true 9 v2 d2 p2) (q0:Blk.Bk 1048576 d0) (q1:Blk.Bk 1048576 d1) (q2:Blk.Bk 1048576 d2) (hu:WT W) :
  Calls Tryz.prog 5 #[v0,v1,v2] W fun e W'=>e=.returned (.bool true)/\Below W.heap.size W W':=by
 obtain ⟨s,p,rfl,g,d⟩:=yG o0 h0 q0;obtain ⟨a,rfl,f⟩:=CY o1 h1 q1;obtain ⟨b,rfl,c⟩:=CY o2 h2 q2;exact MO s p a b W hu g d f c
end Go.Proofs.YtomhbcfjhgecbaaGreatDoor
