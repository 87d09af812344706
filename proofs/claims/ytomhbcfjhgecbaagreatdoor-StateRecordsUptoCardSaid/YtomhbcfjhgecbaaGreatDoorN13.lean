import Derived.Test.YtomhbcfjhgecbaaGreatDoorN12
import Derived.Test.YtomhbcfjhgecbaaGreatDoorN8
import Derived.Test.YtomhbcfjhgecbaaGreatDoorN10
import Derived.Test.YtomhbcfjhgecbaaGreatDoorN9
import Derived.Test.YtomhbcfjhgecbaaGreatDoorN6
set_option linter.unusedVariables false
set_option linter.unusedSimpArgs false
namespace Go.Proofs.YtomhbcfjhgecbaaGreatDoor
open Go.RowKit Go.Sort Go.Lib
open Go.Lib (hid)
open Adr (WT)
open Stp (au mP sF bT bY aQ kW qj ai dm gQ aC ay aS aW dG)
attribute [local go_sem] Stp.di
theorem PK {s:fU} (h:o8 s=0):fJ s.ins/\s.ins.length<=512/\s.pen.length<=512/\s.out.length<=512:=by
 unfold o8 at h
 by_cases n:pF s.lin=false
 . rw [if_pos n] at h;cases h
 rw [if_neg n] at h
 by_cases o:s.ser < 0 ∨ 9007199254740992 < s.ser
 . rw [if_pos o] at h;cases h
 rw [if_neg o] at h
 by_cases l:512 < s.ins.length ∨ 512 < s.pen.length ∨ 512 < s.out.length
 . rw [if_pos l] at h;cases h
 rw [if_neg l] at h
 by_cases c:jb s.ins.length (jr s.ins)=0
 . refine ⟨?_,by omega,by omega,by omega⟩
   have p:=qm c
   have b:∀ k (g:k+1 < s.ins.length),CV (aP s.ins[k]) (aP s.ins[k+1]):=fun k g=>by
    have:=p (k+1) g;rw [su g] at this
    by_cases f:iw s.ins[k+1]=0
    . rw [if_neg (by rw [f];decide)] at this
      by_cases r:0<=dI (aP s.ins[k]) (aP s.ins[k+1])
      . rw [if_pos ⟨by omega,by rw [show k+1 - 1=k from rfl,getD_at _ (by omega:k < s.ins.length)];exact r⟩] at this;cases this
      . unfold CV;omega
    . rw [if_pos f] at this;exact absurd this f
   have m:∀ d i (a:i+d+1 < s.ins.length),CV (aP (s.ins[i]'(by omega))) (aP s.ins[i+d+1]):=by
    intro d
    induction d with
    | zero=>intro i a;exact b i a
    | succ d ih=>intro i a;exact jO.tr (ih i (by omega)) (b (i+d+1) a)
   show s.ins.Pairwise _;rw [List.pairwise_iff_getElem];intro i j u q t;obtain ⟨d,rfl⟩:∃ d,j=i+d+1:=⟨j - i - 1,by omega⟩;exact m d i q
 . rw [if_pos c] at h;exact absurd h c
end Go.Proofs.YtomhbcfjhgecbaaGreatDoor
namespace Go.Proofs.YtomhbcfjhgecbaaGreatDoor
open Go.RowKit Go.Sort Go.Lib
structure qF (s:fU):Prop where
 lin:pF s.lin=true
 ser:0<=s.ser/\s.ser<=9007199254740992
 len:s.ins.length<=512/\s.pen.length<=512/\s.out.length<=512
 ins:∀ x∈s.ins,iw x=0
 qR:fJ s.ins
 pen:jb s.pen.length (kw s.pen)=0
 out:jb s.out.length (kH s.out)=0
theorem zu {s:fU} (h:o8 s=0):qF s:=by
 have f:=PK h;unfold o8 at h
 by_cases c:pF s.lin=false
 . rw [if_pos c] at h;cases h
 rw [if_neg c] at h
 by_cases i:s.ser < 0 ∨ 9007199254740992 < s.ser
 . rw [if_pos i] at h;cases h
 rw [if_neg i,if_neg (by omega)] at h
 by_cases a:jb s.ins.length (jr s.ins)=0
 . rw [if_neg (by rw [a];decide)] at h
   by_cases b:jb s.pen.length (kw s.pen)=0
   . rw [if_neg (by rw [b];decide)] at h
     refine ⟨by simpa using c,by omega,f.2,fun x j=>?_,f.1,b,h⟩;obtain ⟨k,g,rfl⟩:=List.mem_iff_getElem.1 j;have:=qm a k g;rw [su g] at this
     by_cases d:iw s.ins[k]=0
     . exact d
     . rw [if_pos d] at this;exact absurd this d
   . rw [if_pos b] at h;exact absurd h b
 . rw [if_pos a] at h;exact absurd h a
theorem Gs {s:fU} (h:qF s):o8 s=0:=by
 unfold o8
 have b:jb s.ins.length (jr s.ins)=0:=iC fun k a=>by
  rw [su a,if_neg (by rw [h.ins _ (List.getElem_mem a)];decide)]
  by_cases c:k=0
  . rw [if_neg (fun e=>e.1 c)]
  . rw [if_neg]
    rintro ⟨_,e⟩;rw [getD_at _ (by omega:k - 1 < s.ins.length)] at e;have:=AC h.qR (i:=k - 1) (j:=k) (by omega) a (by omega);omega
 rw [if_neg (by rw [h.lin];decide),if_neg (by have:=h.ser;omega),if_neg (by have:=h.len;omega),b,if_neg (by decide),h.pen,if_neg (by decide),h.out]
theorem IV (xs:List Ins) (x:Ins) (h:fJ xs):(iW xs x).length<=xs.length+1:=by
 cases a:iO xs (aP x) with
 | none=>rw [(Dp h a).length_eq,List.length_cons];omega
 | some y=>rw [<-Ee h a,List.length_set];omega
theorem jY {xs:List Ins} {x y:Ins} : y∈iW xs x ↔ y=x ∨ (y∈xs/\aP y≠aP x):=Osg.yz jO
theorem uF {xs:List Ins} {q:vT} {y:Ins} : y∈nS xs q ↔ y∈xs/\aP y≠q:=by
 unfold nS Osg.Pe;rw [List.mem_filter,decide_eq_true_eq]
theorem rU {xs:List Ins} (h:fJ xs) (x:Ins):fJ (iW xs x):=Osg.xO jO h x
theorem AX {xs:List Ins} (h:fJ xs) (q:vT):fJ (nS xs q):=Osg.tu (lt:=CV) (k:=aP) h q
theorem Rk (xs:List Ins) (q:vT):(nS xs q).length<=xs.length:=List.length_filter_le _ _
theorem Po {s:fU} {x:Ins} (h:qF s) (hx:iw x=0) (hl:s.ins.length+1<=512):qF { s with ins:=iW s.ins x }:=
 ⟨h.lin,h.ser,⟨by have:=IV s.ins x h.qR;show (iW s.ins x).length<=512;omega,h.len.2⟩,fun y hy=>by
  rcases jY.1 hy with rfl | ⟨hy,_⟩
  . exact hx
  . exact h.ins y hy,rU h.qR x,h.pen,h.out⟩
theorem ER {xs:List Ins} (h:fJ xs) (x:Ins):iO (iW xs x) (aP x)=some x:=Osg.EM jO (rU h x) (jY.2 (.inl rfl))
theorem BM {xs:List Ins} (h:fJ xs) {y:Ins} (hy:y∈xs):iO xs (aP y)=some y:=Osg.EM jO h hy
theorem xW {xs:List Ins} {q:vT} {y:Ins} (h:iO xs q=some y):y∈xs/\aP y=q:=Osg.Ag h
theorem Af {xs:List Ins} (h:fJ xs) {x:Ins} {q:vT} (hq:q≠aP x):iO (iW xs x) q=iO xs q:=by
 cases c:iO xs q with
 | some y =>
   obtain ⟨b,a⟩:=xW c;rw [<-a];exact BM (rU h x) (jY.2 (.inr ⟨b,by rw [a];exact hq⟩))
 | none =>
   cases d:iO (iW xs x) q with
   | none=>rfl
   | some y =>
     obtain ⟨b,a⟩:=xW d;rcases jY.1 b with rfl | ⟨h3,_⟩
     . exact absurd a.symm hq
     . have:=BM h h3
       rw [a,c] at this;cases this
theorem Rx {xs:List Ins} (h:fJ xs) (x:Ins):nS (iW xs x) (aP x)=nS xs (aP x):=by
 refine Osg.tY (k:=aP) jO (AX (rU h x) _) (AX h _) fun y=>?_;rw [show (y∈nS (iW xs x) (aP x))=_ from propext uF,show (y∈nS xs (aP x))=_ from propext uF,show (y∈iW xs x)=_ from propext jY];constructor
 . rintro ⟨rfl | ⟨b,_⟩,a⟩
   . exact absurd rfl a
   . exact ⟨b,a⟩
 . rintro ⟨b,a⟩
   exact ⟨.inr ⟨b,a⟩,a⟩
theorem Gz (xs:List Ins) (q:vT):iO (nS xs q) q=none:=by
 cases c:iO (nS xs q) q with
 | none=>rfl
 | some y =>
   obtain ⟨b,a⟩:=xW c;exact absurd a (uF.1 b).2
theorem Dz (v:Val):uM v v=true:=(O9 v v).2 rfl
theorem xP (x:Ins):J8 x x=true:=by unfold J8;simp [Dz]
theorem NI (x:Pnd):Jd x x=true:=by unfold Jd;simp
theorem Le (x:vS):QT x x=true:=by unfold QT;simp [Dz]
theorem uQ {α:Type} {p:α->α->Bool} (h:∀ x,p x x=true) (l:List α):lV p l l=true:=nI.2 ⟨rfl,fun i _ _=>h _⟩
theorem xR (s:fU):eqS s s=true:=by
 unfold eqS;rw [uQ NI,uQ xP,uQ Le];simp
end Go.Proofs.YtomhbcfjhgecbaaGreatDoor
namespace Go.Proofs.YtomhbcfjhgecbaaGreatDoor
open Go.RowKit Go.Sort Go.Lib
theorem Ib {s:fU} (h:oh s=true):lI s/\s.ins.length<=40:=by
 unfold oh at h;simp only [Bool.and_eq_true,decide_eq_true_eq,List.all_eq_true] at h;obtain ⟨⟨d,i,g⟩,b,c⟩:=h;refine ⟨⟨by omega,fun x a=>?_,by omega,by omega,fun x a=>?_⟩,d⟩
 . have:=b x a
   unfold J9 at this;simp only [Bool.and_eq_true,decide_eq_true_eq] at this;have f:=yu this.1;exact ⟨by omega,by omega,by omega⟩
 . have f:=yu (c x a)
   exact ⟨by omega,by omega⟩
theorem yt {s:fU} (h:lI s) {l:List Ins} (hl:l.length<=1000000) (hx:∀ x∈l,BR x):lI { s with ins:=l }:=⟨hl,hx,h.p,h.o,h.ox⟩
theorem CJ {s:fU} (h:oV s):Ro s:=⟨fun x hx=>⟨by have:=(h.ins x hx).ad;omega,by have:=(h.ins x hx).de;omega,fun d hd=>by have:=(h.ins x hx).dp d hd;omega⟩,fun x hx=>by have:=h.pen x hx;omega,fun x hx=>by have:=h.out x hx;omega⟩
theorem EU {s:fU} (h:oV s) {l:List Ins} (hx:∀ x∈l,Ed x):oV { s with ins:=l }:=⟨hx,h.pen,h.out⟩
theorem Uz {n:Nat} (h1:1<=n) (h2:n < 100):CP (jo n)=true:=by
 have b:∀ m,m < 10->1<=m->CP ⟨([UInt8.ofNat (48+m)]:List UInt8).toArray⟩=true:=by decide +kernel
 have c:∀ m,m < 100->10<=m->CP ⟨([UInt8.ofNat (48+m / 10),UInt8.ofNat (48+m % 10)]:List UInt8).toArray⟩=true:=by decide +kernel
 by_cases a:n < 10
 . have:jo n=⟨([UInt8.ofNat (48+n)]:List UInt8).toArray⟩:=by unfold jo;rw [Lib.decDigits,dif_pos a]
   rw [this];exact b n a h1
 . have:jo n=⟨([UInt8.ofNat (48+n / 10),UInt8.ofNat (48+n % 10)]:List UInt8).toArray⟩:=by
    unfold jo;rw [Lib.decDigits,dif_neg a,Lib.decDigits,dif_pos (by omega)];rfl
   rw [this];exact c n h2 (by omega)
theorem Uf {n:Nat} (h1:1<=n) (h2:n < 100):jo n≠⟨#[]⟩:=fun e=>by
 have:=Uz h1 h2;rw [e] at this;exact absurd this (by decide +kernel)
theorem Ci {x:Ins} (h:iw x=0):xq x.ad x.ty=true:=by
 unfold iw at h;cases a:xq x.ad x.ty with
 | true=>rfl
 | false=>rw [a] at h;rw [if_pos (by rfl)] at h;cases h
theorem Jc {x y:Ins} (h:iw x=0) (h1:xq y.ad y.ty=true) (h2:(decide (y.de=⟨#[]⟩) || CP y.de)=true) (h3:y.id=x.id) (h4:y.at_=x.at_) (h5:y.ver=x.ver) (h6:y.dp=x.dp):iw y=0:=by
 unfold iw at h ⊢;rw [h1,h2,h3,h4,h5,h6]
 by_cases c:(xq x.ad x.ty && (decide (x.de=⟨#[]⟩) || CP x.de) && pF x.id)=false
 . rw [if_pos c] at h;cases h
 . rw [if_neg c] at h
   have a:pF x.id=true:=by
    rw [Bool.not_eq_false,Bool.and_eq_true] at c;exact c.2
   rw [a];exact h
theorem OG {x:Ins} (h:iw x=0):(decide (x.de=⟨#[]⟩) || CP x.de)=true:=by
 unfold iw at h
 by_cases c:(xq x.ad x.ty && (decide (x.de=⟨#[]⟩) || CP x.de) && pF x.id)=false
 . rw [if_pos c] at h;cases h
 . rw [Bool.not_eq_false,Bool.and_eq_true,Bool.and_eq_true] at c;exact c.1.2
theorem Az {a t:ByteArray} (h:xq a t=true):uh a.data.toList=some t.data.toList:=of_decide_eq_true h
theorem QF {l t:List UInt8} (h:uh l=some t):zl l=t:=by
 unfold uh at h;unfold zl
 by_cases c:Adr.jF l=0
 . rw [if_pos c] at h ⊢
   split at h
   . next _ ty _ _ hp=>rw [hp];exact Option.some.inj h
   . cases h
 . rw [if_neg c] at h;cases h
theorem QU {a b t:ByteArray} (h:xq a t=true) (hb:uh b.data.toList≠none) (ht:zl a.data.toList=zl b.data.toList):xq b t=true:=by
 cases c:uh b.data.toList with
 | none=>exact absurd c hb
 | some u =>
   have f:=QF c;have d:=QF (Az h);unfold xq;rw [c,decide_eq_true_eq,<-f,<-ht,d]
theorem lS {s:fU} {a b:ByteArray} (h:lZ s a b=0):uh b.data.toList≠none/\mW s a=true/\zl a.data.toList=zl b.data.toList/\(a≠b->mW s b=false):=by
 unfold lZ at h
 by_cases c:uh b.data.toList=none
 . rw [if_pos c] at h;cases h
 rw [if_neg c] at h
 by_cases d:mW s a=false
 . rw [if_pos d] at h;cases h
 rw [if_neg d] at h
 by_cases f:zl a.data.toList≠zl b.data.toList
 . rw [if_pos f] at h;cases h
 rw [if_neg f] at h;refine ⟨c,by simpa using d,by simpa using f,fun g=>?_⟩;rw [if_neg g] at h
 by_cases i:mW s b=true
 . rw [if_pos i] at h;cases h
 . simpa using i
theorem F7 {s:fU} (h:jb s.pen.length (kw s.pen)=0):∀ p∈s.pen,sG p=true:=fun p hp=>by
 obtain ⟨k,hk,rfl⟩:=List.mem_iff_getElem.1 hp;have:=qm h k hk;unfold kw at this;rw [getD_at _ hk] at this;cases hb:sG s.pen[k] with
 | true=>rfl
 | false=>rw [hb] at this;cases this
theorem Rj {s:fU} {a b:ByteArray} (h:qF s) (hab:a≠b) (he:lZ s a b=0):qF (Kt s a b):=by
 obtain ⟨l,D,q,t⟩:=lS he;obtain ⟨r,C⟩:=nR (t hab);obtain ⟨A,y⟩:=kz h.qR hab r;refine ⟨h.lin,h.ser,⟨?_,?_,h.len.2.2⟩,fun z f=>?_,A,?_,h.out⟩
 . show (JL s.ins a b).length<=512
   rw [(Iw h.qR hab r).length_eq,List.length_map];exact h.len.1
 . show (s.pen.map (sD a b)).length<=512
   rw [List.length_map];exact h.len.2.1
 . obtain ⟨x,v,rfl⟩:=List.mem_map.1 ((y z).1 f)
   have g:=h.ins x v;unfold oG
   by_cases e:x.ad=a
   . rw [if_pos e]
     exact Jc (x:=x) g (QU (e ▸ Ci g) l q) (show (decide (x.de=⟨#[]⟩) || CP x.de)=true from OG g) rfl rfl rfl rfl
   . rw [if_neg e];exact g
 . show jb (s.pen.map (sD a b)).length (kw (s.pen.map (sD a b)))=0
   rw [List.length_map];refine iC fun j c=>?_;have f:=qm h.pen j c;have m:∀ p:Pnd,(sD a b p).tok=p.tok:=fun p=>by unfold sD;split <;> rfl
   have o:∀ p∈s.pen,sG (sD a b p)=true:=fun p B=>by
    have d:=F7 h.pen p B;unfold sD
    by_cases e:p.ad=a
    . rw [if_pos e]
      unfold sG at d ⊢;rw [Bool.and_eq_true] at d ⊢;exact ⟨d.1,QU (e ▸ d.2) l q⟩
    . rw [if_neg e];exact d
   have n:∀ i,i < s.pen.length->(s.pen.map (sD a b)).getD i Qb=sD a b (s.pen.getD i Qb):=fun i k=>by
    rw [getD_at _ k,getD_at _ (by rw [List.length_map];exact k),List.getElem_map]
   unfold kw at f ⊢;rw [n j c,m]
   by_cases u:j=0
   . subst u
     rw [getD_at _ c,o _ (List.getElem_mem c)];rfl
   . rw [n (j - 1) (by omega),m,o _ (by rw [getD_at _ c];exact List.getElem_mem c)]
     rw [F7 h.pen _ (by rw [getD_at _ c];exact List.getElem_mem c)] at f;exact f
theorem PE {s:fU} {a b:ByteArray} (h:qF s) (he:lZ s a b=0):qF (jG s a b):=by
 unfold jG
 by_cases c:a=b
 . rw [if_pos c];exact h
 . rw [if_neg c];exact Rj h c he
theorem NV {s:fU} {a b:ByteArray} (h:qF s) (he:lZ s a b=0):lZ (jG s a b) b a=0/\jG (jG s a b) b a=s:=by
 obtain ⟨u,d,r,g⟩:=lS he
 have k:uh a.data.toList≠none:=by
  unfold mW at d;rw [Bool.or_eq_true,List.any_eq_true,List.any_eq_true] at d;rcases d with ⟨x,hx,e⟩ | ⟨p,f,e⟩
  . rw [<-of_decide_eq_true e,Az (Ci (h.ins x hx))];exact fun e=>by cases e
  . have:=F7 h.pen p f
    unfold sG at this;rw [Bool.and_eq_true] at this;rw [<-of_decide_eq_true e,Az this.2];exact fun e=>by cases e
 by_cases c:a=b
 . subst c
   have:jG s a a=s:=if_pos rfl;rw [this,this];exact ⟨he,rfl⟩
 . have m:jG s a b=Kt s a b:=if_neg c
   obtain ⟨l,t⟩:=nR (g c);obtain ⟨v,o⟩:=kz h.qR c l;rw [m]
   have i:mW (Kt s a b) b=true:=by
    unfold mW at d ⊢;rw [Bool.or_eq_true,List.any_eq_true,List.any_eq_true] at d ⊢;rcases d with ⟨x,hx,e⟩ | ⟨p,f,e⟩
    . refine .inl ⟨oG a b x,(o _).2 (List.mem_map_of_mem hx),?_⟩
      unfold oG;rw [if_pos (of_decide_eq_true e)];exact decide_eq_true rfl
    . refine .inr ⟨sD a b p,List.mem_map_of_mem f,?_⟩
      unfold sD;rw [if_pos (of_decide_eq_true e)];exact decide_eq_true rfl
   have j:mW (Kt s a b) a=false:=by
    unfold mW;rw [Bool.or_eq_false_iff,List.any_eq_false,List.any_eq_false];refine ⟨fun z n=>?_,fun p f=>?_⟩
    . have:=EC h.qR c l z n
      simpa using this
    . obtain ⟨q,y,rfl⟩:=List.mem_map.1 f
      unfold sD
      by_cases e:q.ad=a
      . rw [if_pos e];simpa using Ne.symm c
      . rw [if_neg e];simpa using e
   refine ⟨?_,?_⟩
   . unfold lZ
     rw [if_neg k,i,if_neg (by decide),if_neg (by rw [r];exact fun h=>h rfl),if_neg (Ne.symm c),j,if_neg (by decide)]
   . unfold jG
     rw [if_neg (Ne.symm c)];exact Oe h.qR c (g c)
theorem Iy {s:fU} {a b:ByteArray} (h:qF s) (he:lZ s a b=0):(∀ d,kR (jG s a b).ins d=kR s.ins d)/\(jG s a b).ins.length=s.ins.length/\(jG s a b).pen.length=s.pen.length:=by
 obtain ⟨j,k,i,g⟩:=lS he;unfold jG
 by_cases c:a=b
 . rw [if_pos c];exact ⟨fun _=>rfl,rfl,rfl⟩
 . rw [if_neg c]
   have f:=Iw h.qR c (nR (g c)).1;exact ⟨fun d=>by show kR (JL s.ins a b) d=_;rw [uT f,Pv],by show (JL s.ins a b).length=_;rw [f.length_eq,List.length_map],by show (s.pen.map (sD a b)).length=_;rw [List.length_map]⟩
theorem Uk {s:fU} {a b:ByteArray} (h:qF s) (he:lZ s a b=0) (hf:lI s):lI (jG s a b):=by
 have f:=Iy h he;obtain ⟨l,m,k,j⟩:=lS he;refine ⟨by rw [f.2.1];exact hf.i,fun x d=>?_,by rw [f.2.2];exact hf.p,?_,?_⟩
 . unfold jG at d
   by_cases c:a=b
   . rw [if_pos c] at d;exact hf.ix x d
   . rw [if_neg c] at d
     obtain ⟨y,g,rfl⟩:=List.mem_map.1 (((kz h.qR c (nR (j c)).1).2 x).1 d);have:=hf.ix y g;unfold oG;split
     . exact ⟨this.1,this.2.1,this.2.2⟩
     . exact this
 . unfold jG;split
   . exact hf.o
   . exact hf.o
 . unfold jG;split
   . exact hf.ox
   . exact hf.ox
theorem UH {s:fU} {a b:ByteArray} (h:qF s) (he:lZ s a b=0) (hr:oV s) (hb:b.size<=1200001):oV (jG s a b):=by
 obtain ⟨l,m,k,f⟩:=lS he;unfold jG
 by_cases c:a=b
 . rw [if_pos c];exact hr
 . rw [if_neg c]
   refine ⟨fun x g=>?_,fun p j=>?_,hr.out⟩
   . obtain ⟨y,d,rfl⟩:=List.mem_map.1 (((kz h.qR c (nR (f c)).1).2 x).1 g)
     have:=hr.ins y d;unfold oG;split
     . exact ⟨hb,this.de,this.dp⟩
     . exact this
   . obtain ⟨q,i,rfl⟩:=List.mem_map.1 j
     have:=hr.pen q i;unfold sD;split
     . exact hb
     . exact this
theorem Qa {s:fU} {a k:ByteArray} {ys:List Ins} (h:qF s) (hf:lI s) (hr:oV s) (hl:s.ins.length<=90) (hd:vV s.ins a=some (ys,k)) :
  qF { s with ins:=ys }/\lI { s with ins:=ys }/\oV { s with ins:=ys }/\(∀ d,kR ys d=kR s.ins d)/\ys.length=s.ins.length/\k.size<=maxLen /\
  (∃ x n,iO s.ins (a,⟨#[]⟩)=some x/\iO ys (a,k)=some (uH x n)/\iO ys (a,⟨#[]⟩)=none):=by
 obtain ⟨x,q,p1,p2,_⟩:=MB h.qR hd;unfold vV at hd;rw [q] at hd;simp only [Option.some.injEq,Prod.mk.injEq] at hd;obtain ⟨j,A⟩:=hd;obtain ⟨F,t,G,E⟩:=uB s.ins a;generalize xI s.ins a=n at *;subst A;obtain ⟨g,o⟩:=xW q;have u:x.ad=a:=congrArg Prod.fst o;have C:x.de=⟨#[]⟩:=congrArg Prod.snd o;have m:aP (uH x n)=(a,jo n):=by unfold aP uH;rw [u]
 have B:=AX h.qR (a,ByteArray.empty);have y:fJ ys:=j ▸ rU B _
 have p:∀ z,z∈ys->z=uH x n ∨ z∈s.ins:=fun z b=>by
  rw [<-j] at b;rcases jY.1 b with c | ⟨c,_⟩
  . exact .inl c
  . exact .inr (uF.1 c).1
 have f:ys.length=s.ins.length:=by rw [p2.length_eq,p1.length_eq,List.length_cons,List.length_cons]
 have D:(jo n).size<=2:=by
  have c:(jo n).size=(Lib.decDigits n).length:=by simp [jo,ByteArray.size]
  rw [c,Lib.decDigits]
  by_cases l:n < 10
  . rw [dif_pos l];simp
  . rw [dif_neg l,Lib.decDigits,dif_pos (by omega)];simp
 refine ⟨⟨h.lin,h.ser,⟨by rw [f];exact h.len.1,h.len.2⟩,fun z b=>?_,y,h.pen,h.out⟩,yt hf (by rw [f];exact hf.i) (fun z b=>?_),EU hr (fun z b=>?_),fun d=>?_,f,by unfold maxLen;omega,x,n,q,?_,?_⟩
 . rcases p z b with rfl | b
   . have v:=h.ins x g
     exact Jc (x:=x) v (show xq x.ad x.ty=true from Ci v) (by show (decide (jo n=⟨#[]⟩) || CP (jo n))=true;rw [Uz t (by omega),Bool.or_true]) rfl rfl rfl rfl
   . exact h.ins z b
 . rcases p z b with rfl | b
   . have:=hf.ix x g
     exact ⟨this.1,this.2.1,this.2.2⟩
   . exact hf.ix z b
 . rcases p z b with rfl | b
   . have:=hr.ins x g
     exact ⟨this.ad,by show (jo n).size<=1200001;omega,this.dp⟩
   . exact hr.ins z b
 . rw [uT p2,uT p1]
   unfold kR;rw [List.countP_cons,List.countP_cons];rfl
 . rw [<-m]
   exact BM y (j ▸ jY.2 (.inl rfl))
 . cases hf:iO ys (a,⟨#[]⟩) with
   | none=>rfl
   | some z =>
     obtain ⟨c,r⟩:=xW hf;rw [<-j] at c;rcases jY.1 c with rfl | ⟨h3,_⟩
     . rw [m] at r
       exact absurd (congrArg Prod.snd r) (Uf t (by omega))
     . exact absurd r (uF.1 h3).2
end Go.Proofs.YtomhbcfjhgecbaaGreatDoor
namespace Go.Proofs.YtomhbcfjhgecbaaGreatDoor
open Go.RowKit Go.Sort Go.Lib
open Go.Lib (hid)
theorem JF (w:World):jf w yV ⟨none,0,none,0,none,0⟩:=by
 refine ⟨VR.make (x:=.mk 0 0 ⟨#[]⟩ [] []) (kL _ _ _) (kL _ _ _) (show jD 0 by unfold jD;decide) (show jD 0 by unfold jD;decide) (show (⟨#[]⟩:ByteArray).size<=maxLen by unfold maxLen;decide) (Nat.zero_le _) (Nat.zero_le _),kL _ _ _,show jD 0 by unfold jD;decide,?_⟩;have:(⟨#[]⟩:ByteArray).size<=maxLen:=by unfold maxLen;decide
 exact ⟨this,this,this,this⟩
theorem qf (s:fU) (p:Sp) (q:vT) (w:World) (h:dQ w s p) (hf:lI s) (ha:fJ s.ins) :
  Calls Tryz.prog 16 #[.agg (bK s p),.string q.1,.string q.2] w fun e w'=>∃ u:Pt,e=.returned (.tuple #[.agg (aH ((iO s.ins q).getD yV) u),.bool (iO s.ins q).isSome])/\jf w' ((iO s.ins q).getD yV) u/\Below w.heap.size w w':=by
 refine (xy s p q.1 q.2 w h hf ha).mono ?_;rintro e w1 ⟨b,a⟩;rw [show ((q.1,q.2):vT)=q from rfl] at a;cases c:iO s.ins q with
 | none =>
   rw [c] at a;exact ⟨⟨none,0,none,0,none,0⟩,a,JF _,b⟩
 | some y =>
   rw [c] at a;obtain ⟨u,rfl,d⟩:=a;exact ⟨u,rfl,d,b⟩
end Go.Proofs.YtomhbcfjhgecbaaGreatDoor
