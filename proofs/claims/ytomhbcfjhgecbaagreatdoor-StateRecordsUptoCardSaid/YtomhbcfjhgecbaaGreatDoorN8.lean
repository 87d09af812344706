import Derived.Test.YtomhbcfjhgecbaaGreatDoorN7
import Derived.Test.YtomhbcfjhgecbaaGreatDoorN5
set_option linter.unusedVariables false
set_option linter.unusedSimpArgs false
namespace Go.Proofs.YtomhbcfjhgecbaaGreatDoor
open Go.RowKit Go.Sort Go.Lib
open Go.Lib (hid)
attribute [local go_sem] Stp.di
attribute [local go_sem ↓] fQ
attribute [local go_sem] dV
attribute [local go_sem ↓] fK
attribute [local go_sem] dH bD bG bJ cu bQ dA bI cO
def lV {α:Type} (p:α->α->Bool):List α->List α->Bool
 | [],[]=>true
 | x :: a,y :: b=>p x y && lV p a b
 | _,_=>false
theorem nI {α:Type} {p:α->α->Bool} : ∀ {a b:List α},lV p a b=true ↔ a.length=b.length/\∀ i (h:i < a.length) (h':i < b.length),p a[i] b[i]=true
 | [],[]=>by simp [lV]
 | [],y :: b=>by simp [lV]
 | x :: a,[]=>by simp [lV]
 | x :: a,y :: b=>by
   rw [lV,Bool.and_eq_true,nI];constructor
   . rintro ⟨h0,h1,h2⟩
     refine ⟨by simp [h1],fun i h h'=>?_⟩;cases i with
     | zero=>exact h0
     | succ i=>exact h2 i (by simpa using h) (by simpa using h')
   . rintro ⟨h1,h2⟩
     exact ⟨h2 0 (by simp) (by simp),by simpa using h1,fun i h h'=>h2 (i+1) (by simpa using h) (by simpa using h')⟩
def Jd (x y:Pnd):Bool:=(x.ad.toList == y.ad.toList) && (x.ty.toList == y.ty.toList) && (x.tok.toList == y.tok.toList)
def QT (x y:vS):Bool:=(x.nm.toList == y.nm.toList) && (x.se == y.se) && uM x.v y.v
def eqS (s t:fU):Bool:=(s.lin.toList == t.lin.toList) && (s.ser == t.ser) && lV Jd s.pen t.pen && lV J8 s.ins t.ins && lV QT s.out t.out
set_option maxRecDepth 100000 in
set_option maxHeartbeats 4000000 in
theorem MF (xs ys:List Pnd) (r r2:Option Addr) (c c2:Nat) (w:World) (hK:Sl Kr 3 w (.slice r xs.length c) xs) (hK2:Sl Kr 3 w (.slice r2 ys.length c2) ys) :
  Calls Tryz.prog 41 #[.slice r xs.length c,.slice r2 ys.length c2] w fun e w'=>e=.returned (.bool (lV Jd xs ys))/\Below w.heap.size w w':=by
 obtain ⟨_,ac,al⟩:=bi hK;obtain ⟨_,W,aa⟩:=bi hK2;have HK:=hid hK;have L:=hid hK2;obtain ⟨R,D⟩:∃ R,lV Jd xs ys=R:=⟨_,rfl⟩;have t:=hid (show R=true ↔ xs.length=ys.length/\∀ i (h:i < xs.length) (m:i < ys.length),Jd xs[i] ys[i]=true from D ▸ nI);rw [D];clear hK hK2 D
 by_cases p:xs.length=ys.length
 case neg =>
  have a:=hid (show R=false by rw [Bool.eq_false_iff];intro e;exact p (t.out.1 e).1);have H:((xs.length:Int) != (ys.length:Int))=true:=by simp;omega
  have I:((xs.length:Int) == (ys.length:Int))=false:=by simp;omega
  clear p t;go_enter Tryz.func41,Tryz.ntmps41;go_wp2
  go_ret
  exact ⟨ah a.out,Below.refl _ _⟩
 case pos =>
 have H:((xs.length:Int) != (ys.length:Int))=false:=by simp;omega
 have I:((xs.length:Int) == (ys.length:Int))=true:=by simp;omega
 have K:=hid p;clear p;go_enter Tryz.func41,Tryz.ntmps41;go_wp2
 clear H I;go_loopg [13] xs.length (fun gg s5 wr=>∃ k:Nat,k<=xs.length/\xs.length - k<=gg/\s5=.int .i64 k/\Aside (Below w.heap.size w wr)/\Aside (∀ i (h:i < xs.length) (m:i < ys.length),i < k->Jd xs[i] ys[i]=true))
 case atStart=>exact ⟨0,Nat.zero_le _,by omega,rfl,Below.refl _ _,fun i _ _ h=>absurd h (by omega)⟩
 case round =>
  obtain ⟨k,hk,hg,rfl,l,s⟩:=hrel
  by_cases C:k < xs.length
  case pos =>
   have F:(k:Int) < (xs.length:Int):=by omega
   have n:k < ys.length:=by have:=K.out;omega
   have V:(k:Int) < (ys.length:Int):=by omega
   have v:=HK.out.below iY l.out;have A:=L.out.below iY l.out;obtain ⟨b,af,rfl,hb,g0,g1,g2,_⟩:=uY v k C;obtain ⟨b2,Y,rfl,ab,f0,f1,f2,_⟩:=uY A k n;have d:=hid l.out;have f:=hid (show Jd xs[k] ys[k]=((xs[k].ad.toList == ys[k].ad.toList) && (xs[k].ty.toList == ys[k].ty.toList) && (xs[k].tok.toList == ys[k].tok.toList)) from rfl)
   have o:=hid (show Jd xs[k] ys[k]=true->∀ i (h:i < xs.length) (m:i < ys.length),i < k+1->Jd xs[i] ys[i]=true from fun E i h m hi=>by
    by_cases e:i < k
    . exact s.out i h m e
    . obtain rfl:i=k:=by omega
      exact E)
   have a:=hid (show Jd xs[k] ys[k]=false->R=false from fun E=>by
    rw [Bool.eq_false_iff];intro e;have:=(t.out.1 e).2 k C n;rw [E] at this;cases this)
   clear v A l s;generalize Jd xs[k] ys[k]=Q at *;generalize xs[k]=x at *;generalize ys[k]=y at *;obtain ⟨M,N,S⟩:=x;obtain ⟨P,T,J⟩:=y;dsimp only at *;obtain ⟨U,u⟩:∃ q,(M.toList == P.toList)=q:=⟨_,rfl⟩;obtain ⟨G,B⟩:∃ q,(N.toList == T.toList)=q:=⟨_,rfl⟩;obtain ⟨O,z⟩:∃ q,(S.toList == J.toList)=q:=⟨_,rfl⟩;have n1:(M.toList != P.toList)=!U:=by rw [bne,u]
   have Z:(N.toList != T.toList)=!G:=by rw [bne,B]
   have n3:(S.toList != J.toList)=!O:=by rw [bne,z]
   rw [u,B,z] at f;clear n1 Z n3;cases U with
   | false =>
     have g:=hid (a.out f.out);clear o a f;go_wp2_with fail
     go_quiet (fail)
     have j:=hid (bu d.out nq);go_wp2_with fail
     go_ret
     exact ⟨ah g.out,j.out⟩
   | true =>
   cases G with
   | false =>
     have g:=hid (a.out f.out);clear o a f;go_wp2_with fail
     go_quiet (fail)
     have j:=hid (bu d.out nq);go_wp2_with fail
     go_ret
     exact ⟨ah g.out,j.out⟩
   | true =>
   cases O with
   | false =>
     have g:=hid (a.out f.out);clear o a f;go_wp2_with fail
     go_quiet (fail)
     have j:=hid (bu d.out nq);go_wp2_with fail
     go_ret
     exact ⟨ah g.out,j.out⟩
   | true =>
     have X:=hid (o.out f.out);clear o a f;go_wp2_with fail
     go_quiet (fail)
     have j:=hid (bu d.out nq);go_wp2_with fail
     go_roundg (xs.length - (k+1))
     case measure=>omega
     case rel=>exact ⟨k+1,by omega,by omega,by go_num,j.out,X.out⟩
  case neg =>
  have F:¬ (k:Int) < (xs.length:Int):=by omega
  have a:=hid (show R=true from t.out.2 ⟨K.out,fun i h m=>s.out i h m (by omega)⟩);have d:=hid l.out;clear s l;go_wp2
  go_ret
  exact ⟨ah a.out,d.out⟩
set_option maxRecDepth 100000 in
set_option maxHeartbeats 4000000 in
theorem Ru (g:Nat) (p:Ins->Ins->Bool) (eg:∀ args w,(callFunc g args).run Tryz.prog w=.ok (.enter g args) w) (xs ys:List Ins) (r r2:Option Addr) (c c2:Nat) (w:World)
  (hI:Sl FI 13 w (.slice r xs.length c) xs) (hI2:Sl FI 13 w (.slice r2 ys.length c2) ys)
  (hp:∀ (x y:Ins) (u v:Pt) (w:World),jf w x u->jf w y v->Calls Tryz.prog g #[.agg (aH x u),.agg (aH y v)] w fun e w'=>e=.returned (.bool (p x y))/\Below w.heap.size w w') :
  Calls Tryz.prog 42 #[.slice r xs.length c,.slice r2 ys.length c2,.func (.func g) #[] #[]] w fun e w'=>e=.returned (.bool (lV p xs ys))/\Below w.heap.size w w':=by
 obtain ⟨_,aq,av⟩:=bi hI;obtain ⟨_,ap,ao⟩:=bi hI2;have HI:=hid hI;have Z:=hid hI2;obtain ⟨R,M⟩:∃ R,lV p xs ys=R:=⟨_,rfl⟩;have F:=hid (show R=true ↔ xs.length=ys.length/\∀ i (h:i < xs.length) (t:i < ys.length),p xs[i] ys[i]=true from M ▸ nI);rw [M];have HP:=hid hp;clear hI hI2 M hp
 by_cases E:xs.length=ys.length
 case neg =>
  have n:=hid (show R=false by rw [Bool.eq_false_iff];intro e;exact E (F.out.1 e).1);have e1:((xs.length:Int) != (ys.length:Int))=true:=by simp;omega
  have e2:((xs.length:Int) == (ys.length:Int))=false:=by simp;omega
  clear E F;go_enter Tryz.func42,Tryz.ntmps42;go_wp2
  go_ret
  exact ⟨ah n.out,Below.refl _ _⟩
 case pos =>
 have e1:((xs.length:Int) != (ys.length:Int))=false:=by simp;omega
 have e2:((xs.length:Int) == (ys.length:Int))=true:=by simp;omega
 have H4:=hid E;clear E;go_enter Tryz.func42,Tryz.ntmps42;go_wp2
 clear e1 e2;go_loopg [17] xs.length (fun gg s6 wr=>∃ k:Nat,k<=xs.length/\xs.length - k<=gg/\s6=.int .i64 k/\Aside (Below w.heap.size w wr)/\Aside (∀ i (h:i < xs.length) (t:i < ys.length),i < k->p xs[i] ys[i]=true))
 case atStart=>exact ⟨0,Nat.zero_le _,by omega,rfl,Below.refl _ _,fun i _ _ h=>absurd h (by omega)⟩
 case round =>
  obtain ⟨j,hj,ar,rfl,o,D⟩:=hrel
  by_cases G:j < xs.length
  case pos =>
   have N:(j:Int) < (xs.length:Int):=by omega
   have aD:(0:Int)<=(j:Int):=by omega
   have C:j < ys.length:=by have:=H4.out;omega
   have am:(j:Int) < (ys.length:Int):=by omega
   obtain ⟨b,aw,J,rfl,hb,hx,T⟩:=mM (HI.out.below dB o.out) j G;obtain ⟨b2,an,A,rfl,aE,hy,h6⟩:=mM (Z.out.below dB o.out) j C;have CC:=hid (fun (W:World) (hW:Below wr.heap.size wr W)=>HP.out xs[j] ys[j] J A W (dh hW T) (dh hW h6))
   have z:=hid (show p xs[j] ys[j]=true->∀ i (h:i < xs.length) (t:i < ys.length),i < j+1->p xs[i] ys[i]=true from fun H i h t hi=>by
    by_cases e:i < j
    . exact D.out i h t e
    . obtain rfl:i=j:=by omega
      exact H)
   have n:=hid (show p xs[j] ys[j]=false->R=false from fun H=>by
    rw [Bool.eq_false_iff];intro e;have:=(F.out.1 e).2 j G C;rw [H] at this;cases this)
   have a:=hid o.out;have Q:=dD xs[j] J;have P:=dD ys[j] A;obtain ⟨l1,l2⟩:=gU Q hx;obtain ⟨O,S⟩:=gU P hy;clear o T h6 D hx hy;generalize U:p xs[j] ys[j]=q at *;generalize ab:aH xs[j] J=X at *;generalize ad:aH ys[j] A=Y at *;clear U ab ad;go_upto_region 6 with (fail)
   obtain ⟨d,f⟩:∃ d,d=wr.alloc (.cells X 41):=⟨_,rfl⟩;rw [<-f];have K:=hid (show Below wr.heap.size wr d from f ▸ (Below.refl _ _).alloc (Nat.le_refl _) _);have af:=hid (show d.heap[wr.heap.size]?=some (.cells X 41) from f ▸ (MapKept.heap_alloc wr _).1);have al:=hid (show d.heap.size=wr.heap.size+1 by rw [f];simp);clear f;have I:=O.below K.out;have ac:=I.1;have V:=I.2.trans S;clear I l1 l2 O S;go_upto_region 7 with (fail)
   obtain ⟨B,m⟩:∃ B,B=d.alloc (.cells Y 41):=⟨_,rfl⟩;rw [<-m];have HX:=hid (dU (show B.heap[wr.heap.size]?=some (.cells X 41) from m ▸ (((MapKept.heap_alloc d (.cells Y 41)).2 _ (by have:=al.out;omega)).trans af.out)) Q);have HY:=hid (dU (show B.heap[d.heap.size]?=some (.cells Y 41) from m ▸ (MapKept.heap_alloc d _).1) P);have s:=hid (show Below wr.heap.size wr B from m ▸ K.out.alloc K.out.size _);clear m ac V Q P;obtain ⟨l1,l2⟩:=HX.out;obtain ⟨O,S⟩:=HY.out;cases q
   case false =>
    have aa:=hid (n.out rfl);clear z n;go_wp2_with (go_at_fn g;refine (CC.out _ s.out).mono ?_;rintro e w1 ⟨rfl,l⟩)
    have L:=hid (a.out.trans ((s.out.trans (l.mono s.out.size)).mono a.out.size));clear l;go_ret
    exact ⟨ah aa.out,L.out⟩
   case true =>
    have HA:=hid (z.out rfl);clear z n;go_wp2_with (go_at_fn g;refine (CC.out _ s.out).mono ?_;rintro e w1 ⟨rfl,l⟩)
    have L:=hid (a.out.trans ((s.out.trans (l.mono s.out.size)).mono a.out.size));clear l;go_roundg (xs.length - (j+1))
    case measure=>omega
    case rel=>exact ⟨j+1,by omega,by omega,by go_num,L.out,HA.out⟩
  case neg =>
  have N:¬ (j:Int) < (xs.length:Int):=by omega
  have n:=hid (show R=true from F.out.2 ⟨H4.out,fun i h t=>D.out i h t (by omega)⟩);have a:=hid o.out;clear D o;go_wp2
  go_ret
  exact ⟨ah n.out,a.out⟩
set_option maxRecDepth 100000 in
set_option maxHeartbeats 4000000 in
theorem Sr (g:Nat) (p:vS->vS->Bool) (eg:∀ args w,(callFunc g args).run Tryz.prog w=.ok (.enter g args) w) (xs ys:List vS) (r r2:Option Addr) (c c2:Nat) (w:World)
  (hI:Sl Ez 7 w (.slice r xs.length c) xs) (hI2:Sl Ez 7 w (.slice r2 ys.length c2) ys)
  (hp:∀ (x y:vS) (u v:Om) (w:World),jJ w u.r u.c u.rk u.ck x.v->jJ w v.r v.c v.rk v.ck y.v->Calls Tryz.prog g #[.agg #[.string x.nm,.int .i64 x.v.kind,.int .i64 x.v.num,.string x.v.str,.slice u.r x.v.items.length u.c,.slice u.rk x.v.keys.length u.ck,.bool x.se],.agg #[.string y.nm,.int .i64 y.v.kind,.int .i64 y.v.num,.string y.v.str,.slice v.r y.v.items.length v.c,.slice v.rk y.v.keys.length v.ck,.bool y.se]] w fun e w'=>e=.returned (.bool (p x y))/\Below w.heap.size w w') :
  Calls Tryz.prog 44 #[.slice r xs.length c,.slice r2 ys.length c2,.func (.func g) #[] #[]] w fun e w'=>e=.returned (.bool (lV p xs ys))/\Below w.heap.size w w':=by
 obtain ⟨_,ab,ad⟩:=bi hI;obtain ⟨_,aa,U⟩:=bi hI2;have HI:=hid hI;have J:=hid hI2;obtain ⟨R,G⟩:∃ R,lV p xs ys=R:=⟨_,rfl⟩;have C:=hid (show R=true ↔ xs.length=ys.length/\∀ i (h:i < xs.length) (n:i < ys.length),p xs[i] ys[i]=true from G ▸ nI);rw [G];have V:=hid hp;clear hI hI2 G hp
 by_cases B:xs.length=ys.length
 case neg =>
  have f:=hid (show R=false by rw [Bool.eq_false_iff];intro e;exact B (C.out.1 e).1);have M:((xs.length:Int) != (ys.length:Int))=true:=by simp;omega
  have P:((xs.length:Int) == (ys.length:Int))=false:=by simp;omega
  clear B C;go_enter Tryz.func44,Tryz.ntmps44;go_wp2
  go_ret
  exact ⟨ah f.out,Below.refl _ _⟩
 case pos =>
 have M:((xs.length:Int) != (ys.length:Int))=false:=by simp;omega
 have P:((xs.length:Int) == (ys.length:Int))=true:=by simp;omega
 have L:=hid B;clear B;go_enter Tryz.func44,Tryz.ntmps44;go_wp2
 clear M P;go_loopg [17] xs.length (fun Z Y wr=>∃ k:Nat,k<=xs.length/\xs.length - k<=Z/\Y=.int .i64 k/\Aside (Below w.heap.size w wr)/\Aside (∀ i (h:i < xs.length) (n:i < ys.length),i < k->p xs[i] ys[i]=true))
 case atStart=>exact ⟨0,Nat.zero_le _,by omega,rfl,Below.refl _ _,fun i _ _ h=>absurd h (by omega)⟩
 case round =>
  obtain ⟨j,hj,ac,rfl,l,A⟩:=hrel
  by_cases D:j < xs.length
  case pos =>
   have H:(j:Int) < (xs.length:Int):=by omega
   have al:(0:Int)<=(j:Int):=by omega
   have z:j < ys.length:=by have:=L.out;omega
   have S:(j:Int) < (ys.length:Int):=by omega
   obtain ⟨b,af,u,rfl,hb,g0,g1,g2,g3,g4,g5,g6,Q,o⟩:=TJ (HI.out.below jc l.out) j D;obtain ⟨b2,T,v,rfl,am,f0,f1,f2,f3,f4,f5,f6,N,t⟩:=TJ (J.out.below jc l.out) j z;have o:=o.1;have t:=t.1;rw [Q] at o;rw [N] at t;have O:=hid (fun (W:World) (hW:Below wr.heap.size wr W)=>V.out xs[j] ys[j] u v W (o.below hW) (t.below hW))
   have s:=hid (show p xs[j] ys[j]=true->∀ i (h:i < xs.length) (n:i < ys.length),i < j+1->p xs[i] ys[i]=true from fun E i h n hi=>by
    by_cases e:i < j
    . exact A.out i h n e
    . obtain rfl:i=j:=by omega
      exact E)
   have f:=hid (show p xs[j] ys[j]=false->R=false from fun E=>by
    rw [Bool.eq_false_iff];intro e;have:=(C.out.1 e).2 j D z;rw [E] at this;cases this)
   have a:=hid l.out;clear l o t A Q N;generalize I:p xs[j] ys[j]=q at *;clear I;have m:=hid (show Below wr.heap.size wr ((wr.alloc (.cells #[.string xs[j].nm,.int .i64 xs[j].v.kind,.int .i64 xs[j].v.num,.string xs[j].v.str,.slice u.r xs[j].v.items.length u.c,.slice u.rk xs[j].v.keys.length u.ck,.bool xs[j].se] 66)).alloc (.cells #[.string ys[j].nm,.int .i64 ys[j].v.kind,.int .i64 ys[j].v.num,.string ys[j].v.str,.slice v.r ys[j].v.items.length v.c,.slice v.rk ys[j].v.keys.length v.ck,.bool ys[j].se] 66)) from ((Below.refl _ _).alloc (Nat.le_refl _) _).alloc (by simp) _);generalize xs[j].nm=x0 at *;generalize ys[j].nm=y0 at *;generalize xs[j].v.kind=x1 at *;generalize ys[j].v.kind=y1 at *;generalize xs[j].v.num=x2 at *;generalize ys[j].v.num=y2 at *;generalize xs[j].v.str=x3 at *;generalize ys[j].v.str=y3 at *;generalize xs[j].v.items.length=x4 at *;generalize ys[j].v.items.length=y4 at *;generalize xs[j].v.keys.length=x5 at *;generalize ys[j].v.keys.length=y5 at *;generalize xs[j].se=x6 at *;generalize ys[j].se=y6 at *;cases q
   case false =>
    have K:=hid (f.out rfl);clear s f;go_wp2_with (go_at_fn g;refine (O.out _ m.out).mono ?_;rintro e w1 ⟨rfl,d⟩)
    have F:=hid (a.out.trans ((m.out.trans (d.mono m.out.size)).mono a.out.size));clear d;go_ret
    exact ⟨ah K.out,F.out⟩
   case true =>
    have X:=hid (s.out rfl);clear s f;go_wp2_with (go_at_fn g;refine (O.out _ m.out).mono ?_;rintro e w1 ⟨rfl,d⟩)
    have F:=hid (a.out.trans ((m.out.trans (d.mono m.out.size)).mono a.out.size));clear d;go_roundg (xs.length - (j+1))
    case measure=>omega
    case rel=>exact ⟨j+1,by omega,by omega,by go_num,F.out,X.out⟩
  case neg =>
  have H:¬ (j:Int) < (xs.length:Int):=by omega
  have f:=hid (show R=true from C.out.2 ⟨L.out,fun i h n=>A.out i h n (by omega)⟩);have a:=hid l.out;clear A l;go_wp2
  go_ret
  exact ⟨ah f.out,a.out⟩
set_option maxRecDepth 100000 in
set_option maxHeartbeats 4000000 in
theorem Ph (x y:vS) (u v:Om) (w:World) (hx:jJ w u.r u.c u.rk u.ck x.v) (hy:jJ w v.r v.c v.rk v.ck y.v) :
  Calls Tryz.prog 45 #[.agg #[.string x.nm,.int .i64 x.v.kind,.int .i64 x.v.num,.string x.v.str,.slice u.r x.v.items.length u.c,.slice u.rk x.v.keys.length u.ck,.bool x.se],.agg #[.string y.nm,.int .i64 y.v.kind,.int .i64 y.v.num,.string y.v.str,.slice v.r y.v.items.length v.c,.slice v.rk y.v.keys.length v.ck,.bool y.se]] w fun e w'=>e=.returned (.bool (QT x y))/\Below w.heap.size w w':=by
 have g:=hid (fun (W:World) (hW:Below w.heap.size w W)=>Ic x.v y.v u.r u.c u.rk u.ck v.r v.c v.rk v.ck W (hx.below hW) (hy.below hW));have d:=hid (show QT x y=((x.nm.toList == y.nm.toList) && (x.se == y.se) && uM x.v y.v) from rfl);have a:=hid (show Below w.heap.size w ((w.alloc (.cells #[.string x.nm,.int .i64 x.v.kind,.int .i64 x.v.num,.string x.v.str,.slice u.r x.v.items.length u.c,.slice u.rk x.v.keys.length u.ck,.bool x.se] 66)).alloc (.cells #[.string y.nm,.int .i64 y.v.kind,.int .i64 y.v.num,.string y.v.str,.slice v.r y.v.items.length v.c,.slice v.rk y.v.keys.length v.ck,.bool y.se] 66)) from ((Below.refl _ _).alloc (Nat.le_refl _) _).alloc (by simp) _);obtain ⟨i,k⟩:∃ e,(x.nm.toList == y.nm.toList)=e:=⟨_,rfl⟩;obtain ⟨m,j⟩:∃ e,(x.se == y.se)=e:=⟨_,rfl⟩;obtain ⟨q,f⟩:∃ e,uM x.v y.v=e:=⟨_,rfl⟩;rw [k,j,f] at d;rw [f] at g;rw [d.out];clear d hx hy f;generalize x.v.items.length=p at *;generalize x.v.keys.length=s at *;generalize y.v.items.length=n at *;generalize y.v.keys.length=o at *;cases i with
 | false =>
   go_enter Tryz.func45,Tryz.ntmps45;go_wp2_with fail
   go_ret
   exact ⟨rfl,a.out⟩
 | true =>
 cases m with
 | false =>
   go_enter Tryz.func45,Tryz.ntmps45;go_wp2_with fail
   go_ret
   exact ⟨rfl,a.out⟩
 | true =>
   go_enter Tryz.func45,Tryz.ntmps45;go_wp2_with (go_at_call 46;refine (g.out _ a.out).mono ?_;rintro e w1 ⟨rfl,b⟩;have l:=hid (a.out.trans (b.mono a.out.size));clear b)
   go_ret
   exact ⟨rfl,l.out⟩
theorem JY:∀ args w,(callFunc 43 args).run Tryz.prog w=.ok (.enter 43 args) w:=enters_of Tryz.func43 (by kernel_rfl) rfl
theorem FU:∀ args w,(callFunc 45 args).run Tryz.prog w=.ok (.enter 45 args) w:=enters_of Tryz.func45 (by kernel_rfl) rfl
set_option maxRecDepth 100000 in
set_option maxHeartbeats 8000000 in
theorem nK (s t:fU) (p q:Sp) (w:World) (h:dQ w s p) (h2:dQ w t q) :
  Calls Tryz.prog 13 #[.agg (bK s p),.agg (bK t q)] w fun e w'=>e=.returned (.bool (eqS s t))/\Below w.heap.size w w':=by
 have o:=hid (fun (W:World) (hW:Below w.heap.size w W)=>MF s.pen t.pen p.rp q.rp p.cp q.cp W (h.2.1.below iY hW) (h2.2.1.below iY hW));have n:=hid (fun (W:World) (hW:Below w.heap.size w W)=>Ru 43 J8 JY s.ins t.ins p.ri q.ri p.ci q.ci W (h.1.below dB hW) (h2.1.below dB hW) (fun x y u v w D E=>KX x y u v w D E));have m:=hid (fun (W:World) (hW:Below w.heap.size w W)=>Sr 45 QT FU s.out t.out p.ro q.ro p.co q.co W (h.2.2.1.below jc hW) (h2.2.2.1.below jc hW) (fun x y u v w D E=>Ph x y u v w D E));obtain ⟨g,C,A,J,r,z⟩:=iK w (.cells #[.string s.lin,.int .i64 s.ser,.slice p.ri s.ins.length p.ci,.slice p.rp s.pen.length p.cp,.slice p.ro s.out.length p.co] 26) (.cells #[.string t.lin,.int .i64 t.ser,.slice q.ri t.ins.length q.ci,.slice q.rp t.pen.length q.cp,.slice q.ro t.out.length q.co] 26);have d:=hid C;have B:=hid A;have V:g.cell? ⟨w.heap.size,0,none⟩=some (.string s.lin):=ae r 0 rfl;have T:g.cell? ⟨w.heap.size,1,none⟩=some (.int .i64 s.ser):=ae r 1 rfl;have j:g.cell? ⟨w.heap.size,2,none⟩=some (.slice p.ri s.ins.length p.ci):=ae r 2 rfl;have S:g.cell? ⟨w.heap.size,3,none⟩=some (.slice p.rp s.pen.length p.cp):=ae r 3 rfl;have k:g.cell? ⟨w.heap.size,4,none⟩=some (.slice p.ro s.out.length p.co):=ae r 4 rfl;have U:g.cell? ⟨w.heap.size+1,0,none⟩=some (.string t.lin):=ae z 0 rfl;have R:g.cell? ⟨w.heap.size+1,1,none⟩=some (.int .i64 t.ser):=ae z 1 rfl;have i:g.cell? ⟨w.heap.size+1,2,none⟩=some (.slice q.ri t.ins.length q.ci):=ae z 2 rfl;have X:g.cell? ⟨w.heap.size+1,3,none⟩=some (.slice q.rp t.pen.length q.cp):=ae z 3 rfl;have l:g.cell? ⟨w.heap.size+1,4,none⟩=some (.slice q.ro t.out.length q.co):=ae z 4 rfl;have f:=hid (fun (W:World) (hW:Below g.heap.size g W)=>show W.cell? ⟨w.heap.size,2,none⟩=some (.slice p.ri s.ins.length p.ci)/\W.cell? ⟨w.heap.size,4,none⟩=some (.slice p.ro s.out.length p.co)/\W.cell? ⟨w.heap.size+1,2,none⟩=some (.slice q.ri t.ins.length q.ci)/\W.cell? ⟨w.heap.size+1,4,none⟩=some (.slice q.ro t.out.length q.co) from ⟨az hW j,az hW k,az hW i,az hW l⟩);have c:=hid (fun (W:World) (hW:Below g.heap.size g W)=>B.out.trans (hW.mono B.out.size));have a:=hid (Below.refl g.heap.size g);have I:=hid (show eqS s t=((s.lin.toList == t.lin.toList) && (s.ser == t.ser) && lV Jd s.pen t.pen && lV J8 s.ins t.ins && lV QT s.out t.out) from rfl);obtain ⟨L,K⟩:∃ e,(s.lin.toList == t.lin.toList)=e:=⟨_,rfl⟩;obtain ⟨Q,M⟩:∃ e,(s.ser == t.ser)=e:=⟨_,rfl⟩;obtain ⟨O,F⟩:∃ e,lV Jd s.pen t.pen=e:=⟨_,rfl⟩;obtain ⟨P,H⟩:∃ e,lV J8 s.ins t.ins=e:=⟨_,rfl⟩;obtain ⟨N,G⟩:∃ e,lV QT s.out t.out=e:=⟨_,rfl⟩;rw [K,M,F,H,G] at I;rw [F] at o;rw [H] at n;rw [G] at m;rw [I.out];clear I h h2 F H G r z J A C;unfold bK;cases L with
 | false =>
   go_enter Tryz.func13,Tryz.ntmps13;go_upto_region 1 with (fail)
   rw [<-d.out];clear d;go_wp2_with (first | (go_at_call 41;refine (o.out _ (c.out _ a.out)).mono ?_;rintro e w1 ⟨rfl,b⟩;have a:=hid (a.out.trans (b.mono a.out.size));clear b;obtain ⟨j,k,i,l⟩:=f.out _ a.out) | (go_at_call 42;refine (n.out _ (c.out _ a.out)).mono ?_;rintro e w1 ⟨rfl,b⟩;have a:=hid (a.out.trans (b.mono a.out.size));clear b;obtain ⟨j,k,i,l⟩:=f.out _ a.out) | (go_at_call 44;refine (m.out _ (c.out _ a.out)).mono ?_;rintro e w1 ⟨rfl,b⟩;have a:=hid (a.out.trans (b.mono a.out.size));clear b))
   go_ret
   exact ⟨rfl,c.out _ a.out⟩
 | true =>
 cases Q with
 | false =>
   go_enter Tryz.func13,Tryz.ntmps13;go_upto_region 1 with (fail)
   rw [<-d.out];clear d;go_wp2_with (first | (go_at_call 41;refine (o.out _ (c.out _ a.out)).mono ?_;rintro e w1 ⟨rfl,b⟩;have a:=hid (a.out.trans (b.mono a.out.size));clear b;obtain ⟨j,k,i,l⟩:=f.out _ a.out) | (go_at_call 42;refine (n.out _ (c.out _ a.out)).mono ?_;rintro e w1 ⟨rfl,b⟩;have a:=hid (a.out.trans (b.mono a.out.size));clear b;obtain ⟨j,k,i,l⟩:=f.out _ a.out) | (go_at_call 44;refine (m.out _ (c.out _ a.out)).mono ?_;rintro e w1 ⟨rfl,b⟩;have a:=hid (a.out.trans (b.mono a.out.size));clear b))
   go_ret
   exact ⟨rfl,c.out _ a.out⟩
 | true =>
 cases O with
 | false =>
   go_enter Tryz.func13,Tryz.ntmps13;go_upto_region 1 with (fail)
   rw [<-d.out];clear d;go_wp2_with (first | (go_at_call 41;refine (o.out _ (c.out _ a.out)).mono ?_;rintro e w1 ⟨rfl,b⟩;have a:=hid (a.out.trans (b.mono a.out.size));clear b;obtain ⟨j,k,i,l⟩:=f.out _ a.out) | (go_at_call 42;refine (n.out _ (c.out _ a.out)).mono ?_;rintro e w1 ⟨rfl,b⟩;have a:=hid (a.out.trans (b.mono a.out.size));clear b;obtain ⟨j,k,i,l⟩:=f.out _ a.out) | (go_at_call 44;refine (m.out _ (c.out _ a.out)).mono ?_;rintro e w1 ⟨rfl,b⟩;have a:=hid (a.out.trans (b.mono a.out.size));clear b))
   go_ret
   exact ⟨rfl,c.out _ a.out⟩
 | true =>
 cases P with
 | false =>
   go_enter Tryz.func13,Tryz.ntmps13;go_upto_region 1 with (fail)
   rw [<-d.out];clear d;go_wp2_with (first | (go_at_call 41;refine (o.out _ (c.out _ a.out)).mono ?_;rintro e w1 ⟨rfl,b⟩;have a:=hid (a.out.trans (b.mono a.out.size));clear b;obtain ⟨j,k,i,l⟩:=f.out _ a.out) | (go_at_call 42;refine (n.out _ (c.out _ a.out)).mono ?_;rintro e w1 ⟨rfl,b⟩;have a:=hid (a.out.trans (b.mono a.out.size));clear b;obtain ⟨j,k,i,l⟩:=f.out _ a.out) | (go_at_call 44;refine (m.out _ (c.out _ a.out)).mono ?_;rintro e w1 ⟨rfl,b⟩;have a:=hid (a.out.trans (b.mono a.out.size));clear b))
   go_ret
   exact ⟨rfl,c.out _ a.out⟩
 | true =>
 cases N with
 | false =>
   go_enter Tryz.func13,Tryz.ntmps13;go_upto_region 1 with (fail)
   rw [<-d.out];clear d;go_wp2_with (first | (go_at_call 41;refine (o.out _ (c.out _ a.out)).mono ?_;rintro e w1 ⟨rfl,b⟩;have a:=hid (a.out.trans (b.mono a.out.size));clear b;obtain ⟨j,k,i,l⟩:=f.out _ a.out) | (go_at_call 42;refine (n.out _ (c.out _ a.out)).mono ?_;rintro e w1 ⟨rfl,b⟩;have a:=hid (a.out.trans (b.mono a.out.size));clear b;obtain ⟨j,k,i,l⟩:=f.out _ a.out) | (go_at_call 44;refine (m.out _ (c.out _ a.out)).mono ?_;rintro e w1 ⟨rfl,b⟩;have a:=hid (a.out.trans (b.mono a.out.size));clear b))
   go_ret
   exact ⟨rfl,c.out _ a.out⟩
 | true =>
 go_enter Tryz.func13,Tryz.ntmps13;go_upto_region 1 with (fail)
 rw [<-d.out];clear d;go_wp2_with (first | (go_at_call 41;refine (o.out _ (c.out _ a.out)).mono ?_;rintro e w1 ⟨rfl,b⟩;have a:=hid (a.out.trans (b.mono a.out.size));clear b;obtain ⟨j,k,i,l⟩:=f.out _ a.out) | (go_at_call 42;refine (n.out _ (c.out _ a.out)).mono ?_;rintro e w1 ⟨rfl,b⟩;have a:=hid (a.out.trans (b.mono a.out.size));clear b;obtain ⟨j,k,i,l⟩:=f.out _ a.out) | (go_at_call 44;refine (m.out _ (c.out _ a.out)).mono ?_;rintro e w1 ⟨rfl,b⟩;have a:=hid (a.out.trans (b.mono a.out.size));clear b))
 go_ret
 exact ⟨rfl,c.out _ a.out⟩
end Go.Proofs.YtomhbcfjhgecbaaGreatDoor
namespace Go.Proofs.YtomhbcfjhgecbaaGreatDoor
open Go.RowKit Go.Sort Go.Lib
open Go.Lib (hid)
attribute [local go_sem] Stp.di
attribute [local go_sem ↓] fQ
attribute [local go_sem] dV
attribute [local go_sem ↓] fK
attribute [local go_sem] dH bD bG bJ cu bQ dA bI cO
set_option maxRecDepth 100000 in
set_option maxHeartbeats 4000000 in
theorem JD (ks ks2:List ByteArray) (rk rk2:Option Addr) (ck ck2:Nat) (w:World) (hK:Sl lY 1 w (.slice rk ks.length ck) ks) (hK2:Sl lY 1 w (.slice rk2 ks2.length ck2) ks2) :
  Calls Tryz.prog 28 #[.slice rk ks.length ck,.slice rk2 ks2.length ck2] w fun e w'=>e=.returned (.bool (decide (ks=ks2)))/\Below w.heap.size w w':=by
 obtain ⟨_,I,K⟩:=bi hK;obtain ⟨_,z,B⟩:=bi hK2;have G:=hid hK;have u:=hid hK2;clear hK hK2
 by_cases j:ks.length=ks2.length
 case neg =>
  have d:=hid (decide_eq_false (show ¬ ks=ks2 from fun e=>j (by rw [e])));have n:((ks.length:Int) != (ks2.length:Int))=true:=by simp;omega
  have o:((ks.length:Int) == (ks2.length:Int))=false:=by simp;omega
  clear j;go_enter Tryz.func28,Tryz.ntmps28;go_wp2
  go_ret
  exact ⟨ah d.out,Below.refl _ _⟩
 case pos =>
 have n:((ks.length:Int) != (ks2.length:Int))=false:=by simp;omega
 have o:((ks.length:Int) == (ks2.length:Int))=true:=by simp;omega
 have t:=hid j;clear j;go_enter Tryz.func28,Tryz.ntmps28;go_wp2
 clear n o;go_loopg [5] ks.length (fun D E wr=>∃ k:Nat,k<=ks.length/\ks.length - k<=D/\E=.int .i64 k/\Hid (Below w.heap.size w wr)/\Hid (∀ i (h:i < ks.length) (g:i < ks2.length),i < k->ks[i]=ks2[i]))
 case atStart=>exact ⟨0,Nat.zero_le _,by omega,rfl,hid (Below.refl _ _),hid fun i _ _ h=>absurd h (by omega)⟩
 case round =>
  obtain ⟨k,N,O,rfl,c,f⟩:=hrel
  by_cases v:k < ks.length
  case pos =>
   have q:(k:Int) < (ks.length:Int):=by omega
   have r:k < ks2.length:=by have:=t.out;omega
   have y:(k:Int) < (ks2.length:Int):=by omega
   have l:=G.out.below bP c.out;have m:=u.out.below bP c.out;obtain ⟨b,J,rfl,P,Q,_⟩:=iT l k v;obtain ⟨R,A,rfl,H,C,_⟩:=iT m k r;clear l m
   by_cases a:ks[k]=ks2[k]
   . have s:=hid (show ∀ i (h:i < ks.length) (g:i < ks2.length),i < k+1->ks[i]=ks2[i] from fun i h g L=>by
      by_cases e:i < k
      . exact f.out i h g e
      . obtain rfl:i=k:=by omega
        exact a)
     clear f;rw [<-a] at C;clear a;generalize ks[k]=F at *;go_wp2
     go_quiet (fail)
     have p:=hid (bu c.out nq);go_wp2
     go_roundg (ks.length - (k+1))
     case measure=>omega
     case rel=>exact ⟨k+1,by omega,by omega,by go_num,p,s⟩
   . have d:=hid (decide_eq_false (show ¬ ks=ks2 from fun e=>a (by simp only [e])))
     have n:=jU a;have o:=fP a;clear f a;generalize ks[k]=F at *;generalize ks2[k]=M at *;go_wp2
     go_quiet (fail)
     have p:=hid (bu c.out nq);go_wp2
     go_ret
     exact ⟨ah d.out,p.out⟩
  case neg =>
  have q:¬ (k:Int) < (ks.length:Int):=by omega
  have d:=hid (decide_eq_true (show ks=ks2 from ry t.out fun i h g=>f.out i h g (by omega)));clear f;go_wp2
  go_ret
  exact ⟨ah d.out,c.out⟩
theorem Oz (x y:Ins):J8 x y=((x.ad.toList == y.ad.toList) && (x.de.toList == y.de.toList) && (x.id.toList == y.id.toList) && (x.ty.toList == y.ty.toList) && uM x.at_ y.at_ && (x.ver == y.ver) && (x.ta == y.ta) && (x.cf == y.cf) && decide (x.dp=y.dp)):=by
 unfold J8;generalize (x.ad.toList == y.ad.toList)=a1;generalize (x.de.toList == y.de.toList)=a2;generalize (x.id.toList == y.id.toList)=a3;generalize (x.ty.toList == y.ty.toList)=a4;generalize uM x.at_ y.at_=a5;generalize (x.ver == y.ver)=a6;generalize (x.ta == y.ta)=a7;generalize (x.cf == y.cf)=a8;generalize decide (x.dp=y.dp)=a9;cases a5 <;> cases a1 <;> cases a2 <;> cases a3 <;> cases a4 <;> simp
set_option maxRecDepth 100000 in
set_option maxHeartbeats 8000000 in
theorem EE (x y:Ins) (p q:Pt) (w:World) (hx:jf w x p) (hy:jf w y q) :
  Calls Tryz.prog 22 #[.agg (aH x p),.agg (aH y q)] w fun e w'=>e=.returned (.bool (J8 x y))/\Below w.heap.size w w':=by
 have s:=hid (fun (W:World) (hW:Below w.heap.size w W)=>OJ x.at_ y.at_ p.r p.c p.rk p.ck q.r q.c q.rk q.ck W (hx.1.below hW) (hy.1.below hW));have o:=hid (fun (W:World) (hW:Below w.heap.size w W)=>JD x.dp y.dp p.dr q.dr p.dc q.dc W (hx.2.1.below bP hW) (hy.2.1.below bP hW));obtain ⟨d,t,u,C,g,i⟩:=iK w (.cells (aH x p) 41) (.cells (aH y q) 41);have v:=hid t;have z:=hid u;have u0:d.cell? ⟨w.heap.size,0,none⟩=some (.string x.ad):=ae g 0 rfl;have u1:d.cell? ⟨w.heap.size,1,none⟩=some (.string x.de):=ae g 1 rfl;have u2:d.cell? ⟨w.heap.size,2,none⟩=some (.string x.id):=ae g 2 rfl;have u3:d.cell? ⟨w.heap.size,3,none⟩=some (.string x.ty):=ae g 3 rfl;have u4:d.cell? ⟨w.heap.size,4,none⟩=some (.int .i64 x.at_.kind):=ae g 4 rfl;have u5:d.cell? ⟨w.heap.size,5,none⟩=some (.int .i64 x.at_.num):=ae g 5 rfl;have u6:d.cell? ⟨w.heap.size,6,none⟩=some (.string x.at_.str):=ae g 6 rfl;have u7:d.cell? ⟨w.heap.size,7,none⟩=some (.slice p.r x.at_.items.length p.c):=ae g 7 rfl;have u8:d.cell? ⟨w.heap.size,8,none⟩=some (.slice p.rk x.at_.keys.length p.ck):=ae g 8 rfl;have u9:d.cell? ⟨w.heap.size,9,none⟩=some (.int .i64 x.ver):=ae g 9 rfl;have u10:d.cell? ⟨w.heap.size,10,none⟩=some (.bool x.ta):=ae g 10 rfl;have u11:d.cell? ⟨w.heap.size,11,none⟩=some (.bool x.cf):=ae g 11 rfl;have u12:d.cell? ⟨w.heap.size,12,none⟩=some (.slice p.dr x.dp.length p.dc):=ae g 12 rfl;have v0:d.cell? ⟨w.heap.size+1,0,none⟩=some (.string y.ad):=ae i 0 rfl;have X:d.cell? ⟨w.heap.size+1,1,none⟩=some (.string y.de):=ae i 1 rfl;have V:d.cell? ⟨w.heap.size+1,2,none⟩=some (.string y.id):=ae i 2 rfl;have U:d.cell? ⟨w.heap.size+1,3,none⟩=some (.string y.ty):=ae i 3 rfl;have T:d.cell? ⟨w.heap.size+1,4,none⟩=some (.int .i64 y.at_.kind):=ae i 4 rfl;have Y:d.cell? ⟨w.heap.size+1,5,none⟩=some (.int .i64 y.at_.num):=ae i 5 rfl;have v6:d.cell? ⟨w.heap.size+1,6,none⟩=some (.string y.at_.str):=ae i 6 rfl;have Z:d.cell? ⟨w.heap.size+1,7,none⟩=some (.slice q.r y.at_.items.length q.c):=ae i 7 rfl;have v8:d.cell? ⟨w.heap.size+1,8,none⟩=some (.slice q.rk y.at_.keys.length q.ck):=ae i 8 rfl;have n:d.cell? ⟨w.heap.size+1,9,none⟩=some (.int .i64 y.ver):=ae i 9 rfl;have l:d.cell? ⟨w.heap.size+1,10,none⟩=some (.bool y.ta):=ae i 10 rfl;have j:d.cell? ⟨w.heap.size+1,11,none⟩=some (.bool y.cf):=ae i 11 rfl;have k:d.cell? ⟨w.heap.size+1,12,none⟩=some (.slice q.dr y.dp.length q.dc):=ae i 12 rfl;have m:=hid (fun (W:World) (hW:Below d.heap.size d W)=>show W.cell? ⟨w.heap.size,9,none⟩=some (.int .i64 x.ver)/\W.cell? ⟨w.heap.size,10,none⟩=some (.bool x.ta)/\W.cell? ⟨w.heap.size,11,none⟩=some (.bool x.cf)/\W.cell? ⟨w.heap.size,12,none⟩=some (.slice p.dr x.dp.length p.dc)/\W.cell? ⟨w.heap.size+1,9,none⟩=some (.int .i64 y.ver)/\W.cell? ⟨w.heap.size+1,10,none⟩=some (.bool y.ta)/\W.cell? ⟨w.heap.size+1,11,none⟩=some (.bool y.cf)/\W.cell? ⟨w.heap.size+1,12,none⟩=some (.slice q.dr y.dp.length q.dc) from ⟨az hW u9,az hW u10,az hW u11,az hW u12,az hW n,az hW l,az hW j,az hW k⟩);have f:=hid (fun (W:World) (hW:Below d.heap.size d W)=>z.out.trans (hW.mono z.out.size));have a:=hid (Below.refl d.heap.size d);rw [Oz];obtain ⟨H,E⟩:∃ e,(x.ad.toList == y.ad.toList)=e:=⟨_,rfl⟩;obtain ⟨S,I⟩:∃ e,(x.de.toList == y.de.toList)=e:=⟨_,rfl⟩;obtain ⟨M,N⟩:∃ e,(x.id.toList == y.id.toList)=e:=⟨_,rfl⟩;obtain ⟨R,Q⟩:∃ e,(x.ty.toList == y.ty.toList)=e:=⟨_,rfl⟩;obtain ⟨J,A⟩:∃ e,uM x.at_ y.at_=e:=⟨_,rfl⟩;obtain ⟨D,F⟩:∃ e,(x.ver == y.ver)=e:=⟨_,rfl⟩;obtain ⟨G,K⟩:∃ e,(x.ta == y.ta)=e:=⟨_,rfl⟩;obtain ⟨O,L⟩:∃ e,(x.cf == y.cf)=e:=⟨_,rfl⟩;obtain ⟨P,B⟩:∃ e,decide (x.dp=y.dp)=e:=⟨_,rfl⟩;rw [E,I,N,Q,A,F,K,L,B];rw [A] at s;rw [B] at o;clear hx hy g i C u t A B;unfold aH;go_enter Tryz.func22,Tryz.ntmps22;go_upto_region 1 with (fail)
 have t:=v.out;unfold aH at t;rw [<-t];clear t v;cases H with
 | false =>
   go_wp2_with (first | (go_at_call 47;refine (s.out _ (f.out _ a.out)).mono ?_;rintro e w1 ⟨rfl,b⟩;have a:=hid (a.out.trans (b.mono a.out.size));clear b;obtain ⟨u9,u10,u11,u12,n,l,j,k⟩:=m.out _ a.out) | (go_at_call 28;refine (o.out _ (f.out _ a.out)).mono ?_;rintro e w1 ⟨rfl,b⟩;have a:=hid (a.out.trans (b.mono a.out.size));clear b))
   go_ret
   exact ⟨rfl,f.out _ a.out⟩
 | true =>
 cases S with
 | false =>
   go_wp2_with (first | (go_at_call 47;refine (s.out _ (f.out _ a.out)).mono ?_;rintro e w1 ⟨rfl,b⟩;have a:=hid (a.out.trans (b.mono a.out.size));clear b;obtain ⟨u9,u10,u11,u12,n,l,j,k⟩:=m.out _ a.out) | (go_at_call 28;refine (o.out _ (f.out _ a.out)).mono ?_;rintro e w1 ⟨rfl,b⟩;have a:=hid (a.out.trans (b.mono a.out.size));clear b))
   go_ret
   exact ⟨rfl,f.out _ a.out⟩
 | true =>
 cases M with
 | false =>
   go_wp2_with (first | (go_at_call 47;refine (s.out _ (f.out _ a.out)).mono ?_;rintro e w1 ⟨rfl,b⟩;have a:=hid (a.out.trans (b.mono a.out.size));clear b;obtain ⟨u9,u10,u11,u12,n,l,j,k⟩:=m.out _ a.out) | (go_at_call 28;refine (o.out _ (f.out _ a.out)).mono ?_;rintro e w1 ⟨rfl,b⟩;have a:=hid (a.out.trans (b.mono a.out.size));clear b))
   go_ret
   exact ⟨rfl,f.out _ a.out⟩
 | true =>
 cases R with
 | false =>
   go_wp2_with (first | (go_at_call 47;refine (s.out _ (f.out _ a.out)).mono ?_;rintro e w1 ⟨rfl,b⟩;have a:=hid (a.out.trans (b.mono a.out.size));clear b;obtain ⟨u9,u10,u11,u12,n,l,j,k⟩:=m.out _ a.out) | (go_at_call 28;refine (o.out _ (f.out _ a.out)).mono ?_;rintro e w1 ⟨rfl,b⟩;have a:=hid (a.out.trans (b.mono a.out.size));clear b))
   go_ret
   exact ⟨rfl,f.out _ a.out⟩
 | true =>
 cases J with
 | false =>
   go_wp2_with (first | (go_at_call 47;refine (s.out _ (f.out _ a.out)).mono ?_;rintro e w1 ⟨rfl,b⟩;have a:=hid (a.out.trans (b.mono a.out.size));clear b;obtain ⟨u9,u10,u11,u12,n,l,j,k⟩:=m.out _ a.out) | (go_at_call 28;refine (o.out _ (f.out _ a.out)).mono ?_;rintro e w1 ⟨rfl,b⟩;have a:=hid (a.out.trans (b.mono a.out.size));clear b))
   go_ret
   exact ⟨rfl,f.out _ a.out⟩
 | true =>
 cases D with
 | false =>
   go_wp2_with (first | (go_at_call 47;refine (s.out _ (f.out _ a.out)).mono ?_;rintro e w1 ⟨rfl,b⟩;have a:=hid (a.out.trans (b.mono a.out.size));clear b;obtain ⟨u9,u10,u11,u12,n,l,j,k⟩:=m.out _ a.out) | (go_at_call 28;refine (o.out _ (f.out _ a.out)).mono ?_;rintro e w1 ⟨rfl,b⟩;have a:=hid (a.out.trans (b.mono a.out.size));clear b))
   go_ret
   exact ⟨rfl,f.out _ a.out⟩
 | true =>
 cases G with
 | false =>
   go_wp2_with (first | (go_at_call 47;refine (s.out _ (f.out _ a.out)).mono ?_;rintro e w1 ⟨rfl,b⟩;have a:=hid (a.out.trans (b.mono a.out.size));clear b;obtain ⟨u9,u10,u11,u12,n,l,j,k⟩:=m.out _ a.out) | (go_at_call 28;refine (o.out _ (f.out _ a.out)).mono ?_;rintro e w1 ⟨rfl,b⟩;have a:=hid (a.out.trans (b.mono a.out.size));clear b))
   go_ret
   exact ⟨rfl,f.out _ a.out⟩
 | true =>
 cases O with
 | false =>
   go_wp2_with (first | (go_at_call 47;refine (s.out _ (f.out _ a.out)).mono ?_;rintro e w1 ⟨rfl,b⟩;have a:=hid (a.out.trans (b.mono a.out.size));clear b;obtain ⟨u9,u10,u11,u12,n,l,j,k⟩:=m.out _ a.out) | (go_at_call 28;refine (o.out _ (f.out _ a.out)).mono ?_;rintro e w1 ⟨rfl,b⟩;have a:=hid (a.out.trans (b.mono a.out.size));clear b))
   go_ret
   exact ⟨rfl,f.out _ a.out⟩
 | true =>
 cases P with
 | false =>
   go_wp2_with (first | (go_at_call 47;refine (s.out _ (f.out _ a.out)).mono ?_;rintro e w1 ⟨rfl,b⟩;have a:=hid (a.out.trans (b.mono a.out.size));clear b;obtain ⟨u9,u10,u11,u12,n,l,j,k⟩:=m.out _ a.out) | (go_at_call 28;refine (o.out _ (f.out _ a.out)).mono ?_;rintro e w1 ⟨rfl,b⟩;have a:=hid (a.out.trans (b.mono a.out.size));clear b))
   go_ret
   exact ⟨rfl,f.out _ a.out⟩
 | true =>
 go_wp2_with (first | (go_at_call 47;refine (s.out _ (f.out _ a.out)).mono ?_;rintro e w1 ⟨rfl,b⟩;have a:=hid (a.out.trans (b.mono a.out.size));clear b;obtain ⟨u9,u10,u11,u12,n,l,j,k⟩:=m.out _ a.out) | (go_at_call 28;refine (o.out _ (f.out _ a.out)).mono ?_;rintro e w1 ⟨rfl,b⟩;have a:=hid (a.out.trans (b.mono a.out.size));clear b))
 go_ret
 exact ⟨rfl,f.out _ a.out⟩
end Go.Proofs.YtomhbcfjhgecbaaGreatDoor
namespace Go.Proofs.YtomhbcfjhgecbaaGreatDoor
open Go.RowKit Go.Sort Go.Lib
open Go.Lib (hid)
attribute [local go_sem] Stp.di
attribute [local go_sem ↓] fQ
attribute [local go_sem] dV
attribute [local go_sem ↓] fK
attribute [local go_sem] dH bD bG bJ cu bQ dA bI cO
namespace Stp
def Rw (o:Obj):mP:=⟨fun v=>∃ b,v=.pointer (some ⟨b,0,none⟩),fun v w=>∃ b,v=.pointer (some ⟨b,0,none⟩)/\w.heap[b]?=some o⟩
theorem Us (o:Obj):∀ v,sF ((Rw o).R v):=fun _ _ _ ⟨b,e,h⟩ hl=>⟨b,e,(Below.block hl b (fB h)).trans h⟩
theorem PZ {b:Nat} {o:Obj} {w:World} (h:(Rw o).R (.pointer (some ⟨b,0,none⟩)) w):w.heap[b]?=some o:=by
 obtain ⟨c,e,a⟩:=h;simp at e;subst e;exact a
end Stp
open Stp (au mP sF bT bY Rw Us PZ aQ kW qj ai dm gQ aC ay aS aW dG)
end Go.Proofs.YtomhbcfjhgecbaaGreatDoor
namespace Go.Proofs.YtomhbcfjhgecbaaGreatDoor
open Go.RowKit Go.Sort Go.Lib
open Go.Lib (hid)
def J9 (x:Ins):Bool:=ig x.at_ 200 && decide (x.dp.length<=40)
def oh (s:fU):Bool:=decide (s.ins.length<=40/\s.pen.length<=40/\s.out.length<=40) && (s.ins.all J9 && s.out.all fun o=>ig o.v 200)
theorem MQ {α:Type} {p:α->Bool} {l:List α} {k:Nat} (h:k < l.length) (hk:p l[k]=false):l.all p=false:=by
 rw [Bool.eq_false_iff];intro e;have:=List.all_eq_true.1 e _ (List.getElem_mem h);rw [hk] at this;cases this
theorem MK {α:Type} {p:α->Bool} {l:List α} (h:∀ k (h:k < l.length),p l[k]=true):l.all p=true:=List.all_eq_true.2 fun x hx=>by
 obtain ⟨k,hk,rfl⟩:=List.mem_iff_getElem.1 hx;exact h k hk
set_option maxRecDepth 100000 in
set_option maxHeartbeats 8000000 in
theorem Ad (s:fU) (p:Sp) (w:World) (h:dQ w s p) :
  Calls Tryz.prog 9 #[.agg (bK s p),.int .i64 40,.int .i64 200] w fun e w'=>e=.returned (.bool (oh s))/\Below w.heap.size w w':=by
 obtain ⟨P,Q,rp,cp,N,S⟩:=p;have X:=hid (fun (W:World) (hW:Below w.heap.size w W)=>mM (h.1.below dB hW));have U:=hid (fun (W:World) (hW:Below w.heap.size w W)=>TJ (h.2.2.1.below jc hW));obtain ⟨_,af,ad⟩:=bi h.1;obtain ⟨_,al,am⟩:=bi h.2.1;obtain ⟨_,ao,an⟩:=bi h.2.2.1;dsimp only at X U;obtain ⟨g,H⟩:∃ g,g=w.alloc (.cells #[.string s.lin,.int .i64 s.ser,.slice P s.ins.length Q,.slice rp s.pen.length cp,.slice N s.out.length S] 26):=⟨_,rfl⟩;have T:=hid H;have z:=hid (show Below w.heap.size w g from H ▸ (Below.refl _ _).alloc (Nat.le_refl _) _);have I:g.heap[w.heap.size]?=some (.cells #[.string s.lin,.int .i64 s.ser,.slice P s.ins.length Q,.slice rp s.pen.length cp,.slice N s.out.length S] 26):=H ▸ (MapKept.heap_alloc w _).1;have B:g.cell? ⟨w.heap.size,2,none⟩=some (.slice P s.ins.length Q):=ae I 2 rfl;have s3:g.cell? ⟨w.heap.size,3,none⟩=some (.slice rp s.pen.length cp):=ae I 3 rfl;have C:g.cell? ⟨w.heap.size,4,none⟩=some (.slice N s.out.length S):=ae I 4 rfl;have F:=hid (fun (W:World) (hW:Below g.heap.size g W)=>show W.cell? ⟨w.heap.size,2,none⟩=some (.slice P s.ins.length Q)/\W.cell? ⟨w.heap.size,4,none⟩=some (.slice N s.out.length S) from ⟨az hW B,az hW C⟩);have J:=hid (fun (W:World) (hW:Below g.heap.size g W)=>z.out.trans (hW.mono z.out.size));have f:=hid (show oh s=(decide (s.ins.length<=40/\s.pen.length<=40/\s.out.length<=40) && (s.ins.all J9 && s.out.all fun o=>ig o.v 200)) from rfl);clear h I H;generalize oh s=R at *;unfold bK;go_enter Tryz.func9,Tryz.ntmps9;go_upto_region 1 with (fail)
 rw [<-T.out];clear T
 by_cases l0:40 < s.ins.length
 case pos =>
  have o0:(40:Int) < (s.ins.length:Int):=by omega
  have i:=hid (show R=false by rw [f.out,decide_eq_false (by omega)];rfl);clear l0 f;go_wp2_with fail
  go_ret
  exact ⟨ah i.out,z.out⟩
 case neg =>
 have o0:¬ (40:Int) < (s.ins.length:Int):=by omega
 by_cases l1:40 < s.pen.length
 case pos =>
  have o1:(40:Int) < (s.pen.length:Int):=by omega
  have i:=hid (show R=false by rw [f.out,decide_eq_false (by omega)];rfl);clear l1 f;go_wp2_with fail
  go_ret
  exact ⟨ah i.out,z.out⟩
 case neg =>
 have o1:¬ (40:Int) < (s.pen.length:Int):=by omega
 by_cases l2:40 < s.out.length
 case pos =>
  have o2:(40:Int) < (s.out.length:Int):=by omega
  have i:=hid (show R=false by rw [f.out,decide_eq_false (by omega)];rfl);clear l2 f;go_wp2_with fail
  go_ret
  exact ⟨ah i.out,z.out⟩
 case neg =>
 have o2:¬ (40:Int) < (s.out.length:Int):=by omega
 have f:=hid (show R=(s.ins.all J9 && s.out.all fun o=>ig o.v 200) by rw [f.out,decide_eq_true (by omega)];rfl);clear l0 l1 l2;go_wp2_with fail
 clear o0 o1 o2 s3;have A:=hid (Below.refl g.heap.size g);clear B C;go_loopg [7] s.ins.length (fun gg s9 wr=>∃ k:Nat,k<=s.ins.length/\s.ins.length - k<=gg/\s9=.int .i64 k/\Hid (Below g.heap.size g wr)/\Hid (∀ j (h:j < s.ins.length),j < k->J9 s.ins[j]=true))
 case atStart=>exact ⟨0,Nat.zero_le _,by omega,rfl,A,hid fun j _ h=>absurd h (by omega)⟩
 case round =>
  clear A;obtain ⟨k,hk,ab,rfl,d,n⟩:=hrel;obtain ⟨B,C⟩:=F.out _ d.out
  by_cases u:k < s.ins.length
  case pos =>
   have D:(k:Int) < (s.ins.length:Int):=by omega
   have q:=hid (fun (hq:J9 s.ins[k]=true)=>show Hid (∀ j (h:j < s.ins.length),j < k+1->J9 s.ins[j]=true) from hid fun j h hj=>by
    by_cases e:j < k
    . exact n.out j h e
    . obtain rfl:j=k:=by omega
      exact hq)
   have m:=hid (fun (hq:J9 s.ins[k]=false)=>show R=false by rw [f.out,MQ (p:=J9) u hq];simp);clear n;obtain ⟨b,ac,O,rfl,hb,E,t⟩:=X.out wr (J.out _ d.out) k u;have L:=hid (fun (W:World) (hW:Below wr.heap.size wr W)=>qY s.ins[k].at_ 200 O.r O.c O.rk O.ck W (t.1.below hW) (by decide));have K:=hid (show J9 s.ins[k]=(ig s.ins[k].at_ 200 && decide (s.ins[k].dp.length<=40)) from rfl);have g4:=E 4 _ rfl;have g5:=E 5 _ rfl;have g6:=E 6 _ rfl;have g7:=E 7 _ rfl;have g8:=E 8 _ rfl;have G:=E 12 _ rfl;clear t E;generalize J9 s.ins[k]=V at *;generalize ig s.ins[k].at_ 200=Y at *;generalize s.ins[k].dp.length=Z at *;cases Y with
   | false =>
     have i:=hid (m.out K.out);clear m q K f;go_wp2_with (go_at_call 19;refine (L.out wr (Below.refl _ _)).mono ?_;rintro e w1 ⟨rfl,a⟩;have l:=hid (d.out.trans (a.mono d.out.size));clear a)
     go_ret
     exact ⟨ah i.out,J.out _ l.out⟩
   | true =>
   by_cases hd:40 < Z
   case pos =>
    have aa:(40:Int) < (Z:Int):=by omega
    have i:=hid (m.out (by rw [K.out,decide_eq_false (by omega)];rfl));clear m q K f hd;go_wp2_with (go_at_call 19;refine (L.out wr (Below.refl _ _)).mono ?_;rintro e w1 ⟨rfl,a⟩;have l:=hid (d.out.trans (a.mono d.out.size));obtain ⟨B,C⟩:=F.out _ l.out;have G:=az a G;clear a)
    go_ret
    exact ⟨ah i.out,J.out _ l.out⟩
   case neg =>
    have aa:¬ (40:Int) < (Z:Int):=by omega
    have HA:=q.out (by rw [K.out,decide_eq_true (by omega)];rfl);clear m q K hd;go_wp2_with (go_at_call 19;refine (L.out wr (Below.refl _ _)).mono ?_;rintro e w1 ⟨rfl,a⟩;have l:=hid (d.out.trans (a.mono d.out.size));obtain ⟨B,C⟩:=F.out _ l.out;have G:=az a G;clear a)
    go_roundg (s.ins.length - (k+1))
    case measure=>omega
    case rel=>exact ⟨k+1,by omega,by omega,by go_num,l,HA⟩
  case neg =>
   have D:¬ (k:Int) < (s.ins.length:Int):=by omega
   have M:=hid (show s.ins.all J9=true from MK fun j h=>n.out j h (by omega));rw [M.out] at f;clear n M;go_wp2_with fail
   have A:=hid d.out;clear B C;go_loopg [8] s.out.length (fun gg s9 wr=>∃ k:Nat,k<=s.out.length/\s.out.length - k<=gg/\s9=.int .i64 k/\Hid (Below g.heap.size g wr)/\Hid (∀ j (h:j < s.out.length),j < k->(fun o=>ig o.v 200) s.out[j]=true))
   case atStart=>exact ⟨0,Nat.zero_le _,by omega,rfl,A,hid fun j _ h=>absurd h (by omega)⟩
   case round =>
    clear A;obtain ⟨k,hk,ab,rfl,d,n⟩:=hrel;obtain ⟨B,C⟩:=F.out _ d.out
    by_cases u:k < s.out.length
    case pos =>
     have D:(k:Int) < (s.out.length:Int):=by omega
     have q:=hid (fun (hq:(fun o=>ig o.v 200) s.out[k]=true)=>show Hid (∀ j (h:j < s.out.length),j < k+1->(fun o=>ig o.v 200) s.out[j]=true) from hid fun j h hj=>by
      by_cases e:j < k
      . exact n.out j h e
      . obtain rfl:j=k:=by omega
        exact hq)
     have m:=hid (fun (hq:(fun o=>ig o.v 200) s.out[k]=false)=>show R=false by rw [f.out,MQ (p:=(fun o=>ig o.v 200)) u hq];simp);clear n;obtain ⟨b,ac,y,rfl,hb,g0,g1,g2,g3,g4,g5,g6,hu,t⟩:=U.out wr (J.out _ d.out) k u;have t:=t.1;rw [hu] at t;have L:=hid (fun (W:World) (hW:Below wr.heap.size wr W)=>qY s.out[k].v 200 y.r y.c y.rk y.ck W (t.below hW) (by decide));clear t hu g0 g6;dsimp only at m q;generalize ig s.out[k].v 200=Y at *;cases Y with
     | false =>
       have i:=hid (m.out rfl);clear m q f;go_wp2_with (go_at_call 19;refine (L.out wr (Below.refl _ _)).mono ?_;rintro e w1 ⟨rfl,a⟩;have l:=hid (d.out.trans (a.mono d.out.size));clear a)
       go_ret
       exact ⟨ah i.out,J.out _ l.out⟩
     | true =>
       have HA:=q.out rfl;clear m q;go_wp2_with (go_at_call 19;refine (L.out wr (Below.refl _ _)).mono ?_;rintro e w1 ⟨rfl,a⟩;have l:=hid (d.out.trans (a.mono d.out.size));clear a)
       go_roundg (s.out.length - (k+1))
       case measure=>omega
       case rel=>exact ⟨k+1,by omega,by omega,by go_num,l,HA⟩
    case neg =>
     have D:¬ (k:Int) < (s.out.length:Int):=by omega
     have M:=hid (show s.out.all (fun o=>ig o.v 200)=true from MK fun j h=>n.out j h (by omega));rw [M.out] at f;clear n M;go_wp2_with fail
     have A:=hid d.out;have i:=hid (show R=true by rw [f.out];rfl);clear f;go_ret
     exact ⟨ah i.out,J.out _ A.out⟩
end Go.Proofs.YtomhbcfjhgecbaaGreatDoor
