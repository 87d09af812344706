import Derived.Test.YtomhbcfjhgecbaaGreatDoorN1
import Derived.Test.YtomhbcfjhgecbaaGreatDoorN4
import Derived.Test.YtomhbcfjhgecbaaGreatDoorN8
import Derived.Test.YtomhbcfjhgecbaaGreatDoorN9
import Derived.Test.YtomhbcfjhgecbaaGreatDoorN11
set_option linter.unusedVariables false
set_option linter.unusedSimpArgs false
namespace Go.Proofs.YtomhbcfjhgecbaaGreatDoor
open Go.RowKit Go.Sort Go.ChangeShapes Go.WideShapes Go.ChangeAt
theorem yQ:Tryz.prog.cellsOf 9=1:=by kernel_rfl
theorem TZ:Tryz.prog.cellsOf 3=1:=by kernel_rfl
theorem KT:Tryz.prog.cellsOf 4=1:=by kernel_rfl
theorem Uh:Tryz.prog.cellsOf 37=1:=by kernel_rfl
theorem Ut:Tryz.prog.cellsOf 39=5:=by kernel_rfl
theorem U4:Tryz.prog.cellsOf 22=1:=by kernel_rfl
theorem UZ:Tryz.prog.cellsOf 23=1:=by kernel_rfl
theorem U7:Tryz.prog.cellsOf 24=1:=by kernel_rfl
theorem oI:Tryz.prog.cellsOf 41=13:=by kernel_rfl
theorem oP:Tryz.prog.cellsOf 58=3:=by kernel_rfl
theorem oO:Tryz.prog.cellsOf 66=7:=by kernel_rfl
theorem QD {cs l:List Value} (hl:cs.length=l.length) (h:∀ i,i < l.length->cs[i]?=l[i]?):cs=l:=by
 apply List.ext_getElem?;intro i
 by_cases a:i < l.length
 . exact h i a
 . rw [List.getElem?_eq_none (by omega),List.getElem?_eq_none (by omega)]
theorem yR {cs:List Value} {o n k:Nat} {v:Value} (hk:k < n) (h:((cs.drop o).take n)[k]?=some v):cs[o+k]?=some v:=by
 rw [List.getElem?_take,if_pos hk,List.getElem?_drop] at h;exact h
def SS (B:Nat) (x:Ins):Prop:=x.ad.size<=B/\x.de.size<=B/\x.id.size<=B/\x.ty.size<=B/\x.dp.length<=B/\∀ d∈x.dp,d.size<=B
def Sm (B:Nat) (x:Pnd):Prop:=x.ad.size<=B/\x.ty.size<=B/\x.tok.size<=B
def NQ (B:Nat) (x:vS):Prop:=x.nm.size<=B
def U1 (B:Nat) (s:fU):Prop:=s.lin.size<=B/\(∀ x∈s.ins,SS B x)/\(∀ x∈s.pen,Sm B x)/\(∀ x∈s.out,NQ B x)/\s.ins.length<=B/\s.pen.length<=B/\s.out.length<=B
theorem QL {H:Type} {enc:TypeId × Value->H} {w:World} {fuel B:Nat} {cs:List Value} {y:DataW H × List MemPlace} (hB:B<=1048576) (hl:cs.length=5) (hb:Blk.Bk B y.1) (h:DataW.trod enc Tryz.prog w 0 (fun _=>true) true fuel 39 cs=some y):∃ x,VR w cs x:=
 Blk.Cj (by omega) Tryz.underlying39 (by kernel_rfl) ⟨_,rfl,rfl,rfl⟩ ⟨_,rfl,rfl,rfl⟩ ⟨_,rfl,rfl,rfl⟩ ⟨_,rfl,rfl,rfl⟩ ⟨_,rfl,rfl,rfl⟩ Tryz.underlying35 (by kernel_rfl) Tryz.underlying3 (by kernel_rfl) Tryz.underlying9 (by kernel_rfl) Tryz.underlying36 (by kernel_rfl) Tryz.underlying37 (by kernel_rfl) fuel cs y hl hb h
theorem LZ {w:World} {cs:List Value} {x:Val} (h:VR w cs x):∃ r c rk ck,cs=[.int .i64 x.kind,.int .i64 x.num,.string x.str,.slice r x.items.length c,.slice rk x.keys.length ck]/\jJ w r c rk ck x:=by
 obtain ⟨r,c,b,e,_,⟨rk,ck,a,_⟩,_⟩:=id h.open';subst a;subst e;exact ⟨r,c,rk,ck,rfl,h⟩
set_option maxRecDepth 100000 in
theorem QG {H:Type} {enc:TypeId × Value->H} {w:World} {B:Nat} (hB:B<=1048576):∀ fuel cs (y:DataW H × List MemPlace),cs.length=13->Blk.Bk B y.1->DataW.trod enc Tryz.prog w 0 (fun _=>true) true fuel 41 cs=some y->∃ z,FI w cs z/\SS B z:=by
 intro fuel cs y t T h;obtain ⟨_,n,rfl,a⟩:=Blk.pR Tryz.underlying41 T h;obtain ⟨z0,C,b0⟩:∃ y,DataW.trod enc Tryz.prog w 0 (fun _=>true) true n 9 ((cs.drop 0).take (Tryz.prog.cellsOf 9))=some y/\Blk.Bk B y.1:=a 0 _ rfl;rw [yQ] at C;obtain ⟨z1,D,R⟩:∃ y,DataW.trod enc Tryz.prog w 0 (fun _=>true) true n 9 ((cs.drop 1).take (Tryz.prog.cellsOf 9))=some y/\Blk.Bk B y.1:=a 1 _ rfl;rw [yQ] at D;obtain ⟨z2,s,W⟩:∃ y,DataW.trod enc Tryz.prog w 0 (fun _=>true) true n 9 ((cs.drop 2).take (Tryz.prog.cellsOf 9))=some y/\Blk.Bk B y.1:=a 2 _ rfl;rw [yQ] at s;obtain ⟨z3,E,b3⟩:∃ y,DataW.trod enc Tryz.prog w 0 (fun _=>true) true n 9 ((cs.drop 3).take (Tryz.prog.cellsOf 9))=some y/\Blk.Bk B y.1:=a 3 _ rfl;rw [yQ] at E;obtain ⟨z4,A,b4⟩:∃ y,DataW.trod enc Tryz.prog w 0 (fun _=>true) true n 39 ((cs.drop 4).take (Tryz.prog.cellsOf 39))=some y/\Blk.Bk B y.1:=a 4 _ rfl;rw [Ut] at A;obtain ⟨z5,o,b5⟩:∃ y,DataW.trod enc Tryz.prog w 0 (fun _=>true) true n 3 ((cs.drop 9).take (Tryz.prog.cellsOf 3))=some y/\Blk.Bk B y.1:=a 5 _ rfl;rw [TZ] at o;obtain ⟨z6,q,b6⟩:∃ y,DataW.trod enc Tryz.prog w 0 (fun _=>true) true n 4 ((cs.drop 10).take (Tryz.prog.cellsOf 4))=some y/\Blk.Bk B y.1:=a 6 _ rfl;rw [KT] at q;obtain ⟨z7,u,b7⟩:∃ y,DataW.trod enc Tryz.prog w 0 (fun _=>true) true n 4 ((cs.drop 11).take (Tryz.prog.cellsOf 4))=some y/\Blk.Bk B y.1:=a 7 _ rfl;rw [KT] at u;obtain ⟨z8,v,V⟩:∃ y,DataW.trod enc Tryz.prog w 0 (fun _=>true) true n 37 ((cs.drop 12).take (Tryz.prog.cellsOf 37))=some y/\Blk.Bk B y.1:=a 8 _ rfl;rw [Uh] at v;obtain ⟨N,F,w0,P⟩:=Blk.fZ Tryz.underlying9 b0 C;obtain ⟨Q,Z,w1,q1⟩:=Blk.fZ Tryz.underlying9 R D;obtain ⟨I,e2,w2,Y⟩:=Blk.fZ Tryz.underlying9 W s;obtain ⟨v3,M,w3,q3⟩:=Blk.fZ Tryz.underlying9 b3 E;obtain ⟨xv,hxv⟩:=QL hB (by rw [List.length_take,List.length_drop,t];decide) b4 A;obtain ⟨r,c,rk,U,b,hv⟩:=LZ hxv;have d:=yR (k:=0) (by decide) (show ((cs.drop 4).take 5)[0]?=_ by rw [b];rfl);have l:=yR (k:=1) (by decide) (show ((cs.drop 4).take 5)[1]?=_ by rw [b];rfl);have f:=yR (k:=2) (by decide) (show ((cs.drop 4).take 5)[2]?=_ by rw [b];rfl);have g:=yR (k:=3) (by decide) (show ((cs.drop 4).take 5)[3]?=_ by rw [b];rfl);have j:=yR (k:=4) (by decide) (show ((cs.drop 4).take 5)[4]?=_ by rw [b];rfl);obtain ⟨J,e5,w5⟩:=qw Tryz.underlying3 o;obtain ⟨v6,e6⟩:=rJ Tryz.underlying4 q;obtain ⟨L,e7⟩:=rJ Tryz.underlying4 u;obtain ⟨v8,K,e8,m,O,G⟩:=Blk.sH Tryz.underlying37 Tryz.underlying9 yQ (by omega) V v;obtain ⟨dr,S,p,_⟩:=id m;subst p;refine ⟨⟨N,Q,I,v3,xv,J,v6,L,K⟩,⟨⟨r,c,rk,U,dr,S⟩,QD (by rw [t];rfl) (fun i X=>?_),hv,m,bounds_i64 w5,w0,w1,w2,w3⟩,P,q1,Y,q3,O,G⟩
 match i,X with
 | 0,_=>exact F
 | 1,_=>exact Z
 | 2,_=>exact e2
 | 3,_=>exact M
 | 4,_=>exact d
 | 5,_=>exact l
 | 6,_=>exact f
 | 7,_=>exact g
 | 8,_=>exact j
 | 9,_=>exact e5
 | 10,_=>exact e6
 | 11,_=>exact e7
 | 12,_=>exact e8
 | k+13,h=>exact absurd (show k+13 < 13 from h) (by omega)
set_option maxRecDepth 100000 in
theorem TM {H:Type} {enc:TypeId × Value->H} {w:World} {B:Nat} : ∀ fuel cs (y:DataW H × List MemPlace),cs.length=3->Blk.Bk B y.1->DataW.trod enc Tryz.prog w 0 (fun _=>true) true fuel 58 cs=some y->∃ z,Kr w cs z/\Sm B z:=by
 intro fuel cs y o u h;obtain ⟨_,n,rfl,a⟩:=Blk.pR Tryz.underlying58 u h;obtain ⟨F,b,t⟩:∃ y,DataW.trod enc Tryz.prog w 0 (fun _=>true) true n 9 ((cs.drop 0).take (Tryz.prog.cellsOf 9))=some y/\Blk.Bk B y.1:=a 0 _ rfl;rw [yQ] at b;obtain ⟨D,c,r⟩:∃ y,DataW.trod enc Tryz.prog w 0 (fun _=>true) true n 9 ((cs.drop 1).take (Tryz.prog.cellsOf 9))=some y/\Blk.Bk B y.1:=a 1 _ rfl;rw [yQ] at c;obtain ⟨E,d,C⟩:∃ y,DataW.trod enc Tryz.prog w 0 (fun _=>true) true n 9 ((cs.drop 2).take (Tryz.prog.cellsOf 9))=some y/\Blk.Bk B y.1:=a 2 _ rfl;rw [yQ] at d;obtain ⟨v,g,w0,f⟩:=Blk.fZ Tryz.underlying9 t b;obtain ⟨q,m,w1,A⟩:=Blk.fZ Tryz.underlying9 r c;obtain ⟨p,s,w2,l⟩:=Blk.fZ Tryz.underlying9 C d;refine ⟨⟨v,q,p⟩,⟨QD (by rw [o];rfl) (fun i j=>?_),w0,w1,w2⟩,f,A,l⟩
 match i,j with
 | 0,_=>exact g
 | 1,_=>exact m
 | 2,_=>exact s
 | k+3,h=>exact absurd (show k+3 < 3 from h) (by omega)
set_option maxRecDepth 100000 in
theorem TY {H:Type} {enc:TypeId × Value->H} {w:World} {B:Nat} (hB:B<=1048576):∀ fuel cs (y:DataW H × List MemPlace),cs.length=7->Blk.Bk B y.1->DataW.trod enc Tryz.prog w 0 (fun _=>true) true fuel 66 cs=some y->∃ z,Ez w cs z/\NQ B z:=by
 intro fuel cs y o J h;obtain ⟨_,n,rfl,j⟩:=Blk.pR Tryz.underlying66 J h;obtain ⟨N,m,I⟩:∃ y,DataW.trod enc Tryz.prog w 0 (fun _=>true) true n 9 ((cs.drop 0).take (Tryz.prog.cellsOf 9))=some y/\Blk.Bk B y.1:=j 0 _ rfl;rw [yQ] at m;obtain ⟨L,q,E⟩:∃ y,DataW.trod enc Tryz.prog w 0 (fun _=>true) true n 39 ((cs.drop 1).take (Tryz.prog.cellsOf 39))=some y/\Blk.Bk B y.1:=j 1 _ rfl;rw [Ut] at q;obtain ⟨M,s,O⟩:∃ y,DataW.trod enc Tryz.prog w 0 (fun _=>true) true n 4 ((cs.drop 6).take (Tryz.prog.cellsOf 4))=some y/\Blk.Bk B y.1:=j 2 _ rfl;rw [KT] at s;obtain ⟨t,A,w0,v⟩:=Blk.fZ Tryz.underlying9 I m;obtain ⟨u,hxv⟩:=QL hB (by rw [List.length_take,List.length_drop,o];decide) E q;obtain ⟨r,c,D,K,a,G⟩:=LZ hxv;have b:=yR (k:=0) (by decide) (show ((cs.drop 1).take 5)[0]?=_ by rw [a];rfl);have d:=yR (k:=1) (by decide) (show ((cs.drop 1).take 5)[1]?=_ by rw [a];rfl);have g:=yR (k:=2) (by decide) (show ((cs.drop 1).take 5)[2]?=_ by rw [a];rfl);have f:=yR (k:=3) (by decide) (show ((cs.drop 1).take 5)[3]?=_ by rw [a];rfl);have l:=yR (k:=4) (by decide) (show ((cs.drop 1).take 5)[4]?=_ by rw [a];rfl);obtain ⟨p,F⟩:=rJ Tryz.underlying4 s;refine ⟨⟨t,u,p⟩,⟨⟨⟨t,u,p⟩,r,c,D,K⟩,rfl,QD (by rw [o];rfl) (fun i C=>?_),G,w0⟩,v⟩
 match i,C with
 | 0,_=>exact A
 | 1,_=>exact b
 | 2,_=>exact d
 | 3,_=>exact g
 | 4,_=>exact f
 | 5,_=>exact l
 | 6,_=>exact F
 | k+7,h=>exact absurd (show k+7 < 7 from h) (by omega)
theorem RS {H:Type} {enc:TypeId × Value->H} {w:World} {B fuel o:Nat} (hB:B<=1048576) {cs:List Value} {y:DataW H × List MemPlace} (ho:o < cs.length) (hb:Blk.Bk B y.1) (h:DataW.trod enc Tryz.prog w 0 (fun _=>true) true fuel 24 ((cs.drop o).take 1)=some y) :
  ∃ r c,∃ xs:List vS,cs[o]?=some (.slice r xs.length c)/\Sl Ez 7 w (.slice r xs.length c) xs/\xs.length<=B/\∀ x∈xs,NQ B x:=by
 obtain ⟨v,xs,e,S,l⟩:=Blk.rM (fun w cs x=>Ez w cs x/\NQ B x) Tryz.underlying24 oO (by omega) ho (fun f cs y a hb h=>TY hB f cs y a hb h) hb h;obtain ⟨r,c,rfl,_⟩:=id S;exact ⟨r,c,xs,e,Blk.Ce (fun _ _ h=>h.1) S,l,Blk.BH (fun _ _ h=>h.2) S⟩
set_option maxRecDepth 100000 in
theorem TW {H:Type} {enc:TypeId × Value->H} {w:World} {B:Nat} (hB:B<=1048576):∀ fuel cs (y:DataW H × List MemPlace),cs.length=5->Blk.Bk B y.1->DataW.trod enc Tryz.prog w 0 (fun _=>true) true fuel 26 cs=some y->∃ s p,cs=(bK s p).toList/\dQ w s p/\U1 B s:=by
 intro fuel cs y a b h;obtain ⟨_,n,rfl,c⟩:=Blk.pR Tryz.underlying26 b h;obtain ⟨z0,l,K⟩:∃ y,DataW.trod enc Tryz.prog w 0 (fun _=>true) true n 9 ((cs.drop 0).take (Tryz.prog.cellsOf 9))=some y/\Blk.Bk B y.1:=c 0 _ rfl;rw [yQ] at l;obtain ⟨Z,m,b1⟩:∃ y,DataW.trod enc Tryz.prog w 0 (fun _=>true) true n 3 ((cs.drop 1).take (Tryz.prog.cellsOf 3))=some y/\Blk.Bk B y.1:=c 1 _ rfl;rw [TZ] at m;obtain ⟨z2,o,V⟩:∃ y,DataW.trod enc Tryz.prog w 0 (fun _=>true) true n 22 ((cs.drop 2).take (Tryz.prog.cellsOf 22))=some y/\Blk.Bk B y.1:=c 2 _ rfl;rw [U4] at o;obtain ⟨z3,q,I⟩:∃ y,DataW.trod enc Tryz.prog w 0 (fun _=>true) true n 23 ((cs.drop 3).take (Tryz.prog.cellsOf 23))=some y/\Blk.Bk B y.1:=c 3 _ rfl;rw [UZ] at q;obtain ⟨Y,j,U⟩:∃ y,DataW.trod enc Tryz.prog w 0 (fun _=>true) true n 24 ((cs.drop 4).take (Tryz.prog.cellsOf 24))=some y/\Blk.Bk B y.1:=c 4 _ rfl;rw [U7] at j;obtain ⟨O,u,w0,t⟩:=Blk.fZ Tryz.underlying9 K l;obtain ⟨D,C,w1⟩:=qw Tryz.underlying3 m;obtain ⟨v2,G,E,g,S⟩:=Blk.rM (fun w cs x=>FI w cs x/\SS B x) Tryz.underlying22 oI (by omega) (by omega) (fun f cs y a b h=>QG hB f cs y a b h) V o;obtain ⟨v3,P,M,d,z⟩:=Blk.rM (fun w cs x=>Kr w cs x/\Sm B x) Tryz.underlying23 oP (by omega) (by omega) (fun f cs y a b h=>TM f cs y a b h) I q;obtain ⟨r,X,R,Q,W,T,F⟩:=RS hB (by omega) U j;obtain ⟨A,N,rfl,_⟩:=id g;obtain ⟨L,J,rfl,_⟩:=id d;refine ⟨⟨O,D,G,P,R⟩,⟨A,N,L,J,r,X⟩,QD (by rw [a];rfl) (fun i v=>?_),⟨Blk.Ce (fun _ _ h=>h.1) g,Blk.Ce (fun _ _ h=>h.1) d,W,bounds_i64 w1,w0⟩,t,Blk.BH (fun _ _ h=>h.2) g,Blk.BH (fun _ _ h=>h.2) d,F,S,z,T⟩
 match i,v with
 | 0,_=>exact u
 | 1,_=>exact C
 | 2,_=>exact E
 | 3,_=>exact M
 | 4,_=>exact Q
 | k+5,h=>exact absurd (show k+5 < 5 from h) (by omega)
end Go.Proofs.YtomhbcfjhgecbaaGreatDoor
namespace Go.Proofs.YtomhbcfjhgecbaaGreatDoor
open Go.RowKit Go.Sort Go.Lib
open Go.Lib (hid)
open Adr (WT)
open Stp (wq au mP sF bT bY aQ kW qj ai dm gQ aC ay aS aW dG)
attribute [local go_sem] Stp.di
attribute [local go_sem ↓] fQ
attribute [local go_sem] dV
attribute [local go_sem ↓] fK
attribute [local go_sem] dH bD bG bJ cu bQ dA bI cO
theorem CZ (s:ByteArray) (w:World) (hs:4096 < s.size):Calls Tryz.prog 84 #[.string s] w fun e w'=>e=.returned (.bool false)/\w=w':=by
 have b:¬ (s.size:Int)<=4096:=by omega
 have a:(4096:Int) < (s.size:Int):=by omega
 go_enter Tryz.func84,Tryz.ntmps84;go_wp2
 go_ret
 exact ⟨rfl,rfl⟩
theorem Ah (s:ByteArray) (w:World):Calls Tryz.prog 37 #[.string s] w fun e w'=>e=.returned (.bool (pF s))/\Below w.heap.size w w':=by
 by_cases a:s=⟨#[]⟩
 . subst a
   go_enter Tryz.func37,Tryz.ntmps37;go_wp2
   go_ret
   exact ⟨rfl,Below.refl _ _⟩
 have g:=sN a
 have f:Hid (Calls Tryz.prog 84 #[.string s] w fun e w'=>e=.returned (.bool (pF s))/\Below w.heap.size w w'):=by
  by_cases c:s.size<=4096
  . exact hid ((oN s w c).mono fun e w' h=>by rw [show pF s=validD s.data.toList by unfold pF;simp [a,c];rfl];exact h)
  . exact hid ((CZ s w (by omega)).mono fun e w' h=>by rw [show pF s=false by unfold pF;simp [c]];exact ⟨h.1,h.2 ▸ Below.refl _ _⟩)
 clear a;generalize pF s=v at *;go_enter Tryz.func37,Tryz.ntmps37;go_wp2_with (go_at_call 84;refine f.out.mono ?_;rintro e w1 ⟨rfl,b⟩;have d:=hid b;clear b)
 go_ret
 exact ⟨rfl,d.out⟩
def TF (l:List UInt8) (w:World) (e:Ending) (w':World):Prop:=∃ ty:List UInt8,e=.returned (.tuple #[.string ⟨ty.toArray⟩,.bool (uh l).isSome])/\(∀ t,uh l=some t->ty=t)/\Below w.heap.size w w'
set_option maxHeartbeats 4000000 in
theorem sJ (s:ByteArray) (w:World) (hs:s.size<=1200001):Calls Tryz.prog 59 #[.string s] w (TF s.data.toList w):=by
 have p:=hid (Adr.wX s w hs)
 have y:=hid (fun (f:List Adr.MS) (d:Bool) (b g:List UInt8) (k:Adr.bW) (j:Adr.jF s.data.toList=0->Adr.rP s.data.toList=some (f,some (d,b,g,k)))=>show (uh s.data.toList).isSome=(Adr.jF s.data.toList == 0 && !d)/\∀ t,uh s.data.toList=some t->b=t from by
  by_cases a:Adr.jF s.data.toList=0
  . have C:=j a
    unfold uh;rw [if_pos a,C];cases d <;> simp [a]
  . rw [GV a]
    simp [a])
 have A:=hid (show ∀ e v,TF s.data.toList w e v ↔ TF s.data.toList w e v from fun _ _=>Iff.rfl);unfold TF at A ⊢;generalize uh s.data.toList=M at *;unfold Adr.RD at p;generalize Adr.jF s.data.toList=E at *;generalize Adr.rP s.data.toList=J at *;clear A hs
 by_cases a:E=0
 all_goals
  go_enter Tryz.func59,Tryz.ntmps59;go_wp2_with (go_at_call 108;refine p.out.mono ?_;rintro e w1 ⟨H,f,d,b,g,k,rfl,m,l,j⟩;obtain ⟨q,o,rfl,_,_⟩:=dJ m;have z:=hid (y.out f d b g k j);have n:=hid l;clear l m j)
  have u:=hid (n.out.alloc n.out.size (.cells #[.slice q f.length o,.bool d,.string ⟨b.toArray⟩,.string ⟨g.toArray⟩,.int .i64 k.1,.int .i64 k.2.1,.string ⟨k.2.2.toArray⟩] 93));obtain ⟨r,c⟩:∃ r,r=w1.alloc (.cells #[.slice q f.length o,.bool d,.string ⟨b.toArray⟩,.string ⟨g.toArray⟩,.int .i64 k.1,.int .i64 k.2.1,.string ⟨k.2.2.toArray⟩] 93):=⟨_,rfl⟩;rw [<-c] at u;rw [<-c];have i:r.heap[w1.heap.size]?=some (.cells #[.slice q f.length o,.bool d,.string ⟨b.toArray⟩,.string ⟨g.toArray⟩,.int .i64 k.1,.int .i64 k.2.1,.string ⟨k.2.2.toArray⟩] 93):=c ▸ (MapKept.heap_alloc w1 _).1;have G:=ae i 1 rfl;have F:=ae i 2 rfl;clear c i p y
  try subst a
  try have D:(E == 0)=false:=by simp [a]
  try have I:=hid a
  try clear a
  cases d
  all_goals
   go_quiet (fail)
   have B:=hid (bu u.out nq);go_wp2
   go_ret2
   exact ⟨b,by rw [z.out.1];first | rfl | (rw [D];rfl),z.out.2,B.out⟩
theorem Gq (s:ByteArray) (w:World) (hs:s.size<=2000000):Calls Tryz.prog 60 #[.string s] w fun e w'=>e=.returned (.bool (decide (s=⟨#[]⟩) || CP s))/\w=w':=by
 have b:=hid (Adr.ES s w hs);unfold CP;unfold Adr.Pz at b;generalize Adr.gp s.data.toList=N at *;obtain ⟨n,e⟩:=N;dsimp only at *;clear hs
 have f:∃ z,s.toList.isEmpty=z/\decide (s=⟨#[]⟩)=z:=by
  by_cases h:s=⟨#[]⟩
  . exact ⟨true,by rw [h,ByteArray.toList_eq];rfl,decide_eq_true h⟩
  . exact ⟨false,sN h,decide_eq_false h⟩
 obtain ⟨z,g,c⟩:=f;rw [c];clear c;cases z with
 | true =>
   go_enter Tryz.func60,Tryz.ntmps60;go_wp2_with (go_at_call 109;refine b.out.mono ?_;rintro e w1 ⟨rfl,rfl⟩)
   go_ret
   exact ⟨rfl,rfl⟩
 | false =>
 by_cases a:e=0
 . subst a
   go_enter Tryz.func60,Tryz.ntmps60;go_wp2_with (go_at_call 109;refine b.out.mono ?_;rintro e w1 ⟨rfl,rfl⟩)
   go_ret
   exact ⟨ah (by simp),rfl⟩
 . have i:(e == 0)=false:=by simp [a]
   have d:=hid (show (false || (decide (e=0) && decide (1<=n)))=false by simp [a]);clear a;go_enter Tryz.func60,Tryz.ntmps60;go_wp2_with (go_at_call 109;refine b.out.mono ?_;rintro e w1 ⟨rfl,rfl⟩)
   go_ret
   exact ⟨ah d.out,rfl⟩
theorem yU (s:ByteArray) (w:World) (hs:s.size<=1200001):Calls Tryz.prog 111 #[.string s] w fun e w'=>e=.returned (.bool (yA s))/\Below w.heap.size w w':=by
 have f:=hid (Adr.D8 s w hs)
 have b:=hid (show yA s=(decide (Adr.jF s.data.toList=0) && (Adr.qJ s.data.toList == s.toList)) by
  unfold yA;rw [ByteArray.toList_eq]
  congr 1
  by_cases h:Adr.qJ s.data.toList=s.data.toList
  . rw [h];simp
  . rw [decide_eq_false h,beq_eq_false_iff_ne.2 h])
 rw [b.out];clear hs b;generalize Adr.jF s.data.toList=E at *;generalize Adr.qJ s.data.toList=S at *
 by_cases c:E=0
 . subst c
   go_enter Tryz.func111,Tryz.ntmps111;go_wp2_with (go_at_call 154;refine f.out.mono ?_;rintro e w1 ⟨rfl,a⟩;have d:=hid a;clear a)
   go_ret
   exact ⟨ah (by simp),d.out⟩
 . have g:(E == 0)=false:=by simp [c]
   have b:=hid (show (decide (E=0) && (S == s.toList))=false by simp [c]);clear c;go_enter Tryz.func111,Tryz.ntmps111;go_wp2_with (go_at_call 154;refine f.out.mono ?_;rintro e w1 ⟨rfl,a⟩;have d:=hid a;clear a)
   go_ret
   exact ⟨ah b.out,d.out⟩
set_option maxHeartbeats 4000000 in
theorem Js (l:List ByteArray) (r:Option Addr) (c:Nat) (w:World) (h:Sl lY 1 w (.slice r l.length c) l) (hs:∀ x∈l,x.size<=1200001) :
  Calls Tryz.prog 63 #[.slice r l.length c] w fun e w'=>e=.returned (.bool (kX l))/\Below w.heap.size w w':=by
 obtain ⟨_,al,an⟩:=bi h;have Y:=hid (fun (W:World) (hW:Below w.heap.size w W)=>iT (h.below bP hW));have Z:=hid (fun (x:ByteArray) (hx:x∈l) (W:World)=>yU x W (hs x hx));have X:=hid (fun (k:Nat) (H:k < l.length)=>show oq l k=if yA l[k] && (decide (k=0) || ug (l.getD (k - 1) ⟨#[]⟩) l[k]) then 0 else 1 from by unfold oq;rw [getD_at _ H]);have S:=hid (fun (k:Nat) (H:k < l.length) (h1:∀ j,j < k->oq l j=0) (h2:oq l k=1)=>show kX l=false from by unfold kX;rw [l9 H h1 (by rw [h2];decide),h2];rfl);have T:=hid (fun (h1:∀ j,j < l.length->oq l j=0)=>show kX l=true from by unfold kX;rw [iC h1];rfl);clear h hs;generalize kX l=R at *;go_enter Tryz.func63,Tryz.ntmps63;go_wp2
 go_loopg [3] l.length (fun gg s9 wr=>∃ k:Nat,k<=l.length/\l.length - k<=gg/\s9=.int .i64 k/\Hid (Below w.heap.size w wr)/\Hid (∀ j,j < k->oq l j=0))
 case atStart=>exact ⟨0,Nat.zero_le _,by omega,rfl,hid (Below.refl _ _),hid fun j h=>absurd h (by omega)⟩
 case round =>
  obtain ⟨k,H,hg,rfl,f,J⟩:=hrel
  by_cases D:k < l.length
  case pos =>
   have U:(k:Int) < (l.length:Int):=by omega
   obtain ⟨b,aa,rfl,hb,g0,_⟩:=Y.out wr f.out k D;have N:=hid (Z.out l[k] (List.getElem_mem D));have u:=hid (X.out k D);have A:=hid (S.out k D J.out)
   have z:=hid (fun (h:oq l k=0)=>show Hid (∀ j,j < k+1->oq l j=0) from hid fun j hj=>by
    by_cases e:j < k
    . exact J.out j e
    . obtain rfl:j=k:=by omega
      exact h)
   have E:=hid (fun (H:0 < k)=>show ∃ y,y=l[k - 1]'(by omega)/\wr.cell? ⟨b,aa+(k - 1),none⟩=some (.string y) from by
    obtain ⟨b',ab,O,_,Q,_⟩:=Y.out wr f.out (k - 1) (by omega);simp only [Option.some.injEq,Addr.mk.injEq] at O;obtain ⟨rfl,rfl,_⟩:=O;exact ⟨_,rfl,Q⟩)
   have F:=hid (fun (H:0 < k)=>getD_at (l:=l) (k:=k - 1) ⟨#[]⟩ (by omega));have M:=hid (fun (W:World) (hW:Below w.heap.size w W)=>N.out W);clear J N;generalize yA l[k]=v at *;generalize l[k]=x at *;have ap:=fun d V=>cell_regrown g0 d V;cases v with
   | false =>
     have I:=hid (A.out (by rw [u.out];rfl));clear u A z E F X S T;go_wp2_with fail
     refine au (fun k=>match k with | 4=>some (bY false) | _=>none) (by kernel_rfl) (by kernel_rfl) ?_
     iterate 4 (refine wq ?_;intro K a;go_big_quiet_op;go_big_quiet_on)
     refine aC (bY false) (by kernel_rfl) rfl ⟨_,rfl⟩ aQ (fun w4 i s=>?_) ?_
     . have n:=ai i
       have C:=M.out w4 (f.out.trans (n.mono f.out.size));clear i s n;go_simp
       go_at_call 111;refine Calls.mono C ?_;rintro e w5 ⟨rfl,p⟩;exact ⟨_,rfl,p,rfl,trivial⟩
     rintro _ rfl
     (refine ay ?_;intro K a;go_simp;refine a _ ?_;clear a K)
     iterate 2 (refine wq ?_;intro K a;go_big_quiet_op;go_big_quiet_on)
     iterate 14 (refine aW (by kernel_rfl) ?_)
     (refine ay ?_;intro K a;go_simp;refine a _ ?_;clear a K)
     (refine wq ?_;intro K a;go_big_quiet_op;go_big_quiet_on)
     refine aS ?_;intro w6 m t;have g:=ai m;clear m t;have o:=hid (f.out.trans (g.mono f.out.size));clear g;go_wp2_with fail
     go_ret
     exact ⟨ah I.out,o.out⟩
   | true =>
   by_cases G:k=0
   case pos =>
    have P:=z.out (by rw [u.out];simp [G]);have aq:decide ((0:Int) < (k:Int))=false:=decide_eq_false (by omega);have af:decide (0 < k)=false:=decide_eq_false (by omega);have ac:¬ 0 < k:=by omega
    clear u A z G E F;go_wp2_with fail
    refine au (fun k=>match k with | 4=>some (bY true) | _=>none) (by kernel_rfl) (by kernel_rfl) ?_
    iterate 4 (refine wq ?_;intro K a;go_big_quiet_op;go_big_quiet_on)
    refine aC (bY true) (by kernel_rfl) rfl ⟨_,rfl⟩ aQ (fun w4 i s=>?_) ?_
    . have n:=ai i
      have C:=M.out w4 (f.out.trans (n.mono f.out.size));clear i s n;go_simp
      go_at_call 111;refine Calls.mono C ?_;rintro e w5 ⟨rfl,p⟩;exact ⟨_,rfl,p,rfl,trivial⟩
    rintro _ rfl
    (refine ay ?_;intro K a;go_simp;refine a _ ?_;clear a K)
    iterate 2 (refine wq ?_;intro K a;go_big_quiet_op;go_big_quiet_on)
    iterate 3 (refine wq ?_;intro K a;go_big_quiet_op;go_big_quiet_on)
    iterate 10 (refine aW (by kernel_rfl) ?_)
    (refine ay ?_;intro K a;go_simp;refine a _ ?_;clear a K)
    iterate 2 (refine wq ?_;intro K a;go_big_quiet_op;go_big_quiet_on)
    refine aS ?_;intro w6 m t;have g:=ai m;clear m t;have o:=hid (f.out.trans (g.mono f.out.size));clear g;go_wp2_with fail
    go_roundg (l.length - (k+1))
    case measure=>omega
    case rel=>exact ⟨k+1,by omega,by omega,by go_num,o,P⟩
   case neg =>
   obtain ⟨y,hy,Q⟩:=E.out (by omega);have ao:=fun d V=>cell_regrown Q d V;have k0:(0:Int)<=(k:Int) - 1:=by omega
   have k1:(k:Int) - 1 < (l.length:Int):=by omega
   have k4:((k:Int) - 1).toNat=k - 1:=by omega
   have k5:wrap64 ((k:Int) - 1)=(k:Int) - 1:=by unfold wrap64;omega
   have k6:(0:Int) < (k:Int):=by omega
   have k9:(k:Int)<=(l.length:Int):=by omega
   have k7:(1:Int)<=(k:Int):=by omega
   have hd:decide ((0:Int) < (k:Int))=true:=decide_eq_true (by omega);have am:decide (0 < k)=true:=decide_eq_true (by omega);have ad:0 < k:=by omega
   have B:Hid (oq l k=if ug y x then 0 else 1):=hid (by rw [u.out,F.out (by omega),<-hy];simp [G]);have q:=zU y x;clear u F E hy G;generalize ug y x=L at *;cases L with
   | true =>
     have P:=z.out (by rw [B.out];rfl);clear B A z;go_wp2_with fail
     refine au (fun k=>match k with | 4=>some (bY true) | _=>none) (by kernel_rfl) (by kernel_rfl) ?_
     iterate 4 (refine wq ?_;intro K a;go_big_quiet_op;go_big_quiet_on)
     refine aC (bY true) (by kernel_rfl) rfl ⟨_,rfl⟩ aQ (fun w4 i s=>?_) ?_
     . have n:=ai i
       have C:=M.out w4 (f.out.trans (n.mono f.out.size));clear i s n;go_simp
       go_at_call 111;refine Calls.mono C ?_;rintro e w5 ⟨rfl,p⟩;exact ⟨_,rfl,p,rfl,trivial⟩
     rintro _ rfl
     (refine ay ?_;intro K a;go_simp;refine a _ ?_;clear a K)
     iterate 2 (refine wq ?_;intro K a;go_big_quiet_op;go_big_quiet_on)
     iterate 3 (refine wq ?_;intro K a;go_big_quiet_op;go_big_quiet_on)
     iterate 10 (refine wq ?_;intro K a;go_big_quiet_op;go_big_quiet_on)
     iterate 2 (refine wq ?_;intro K a;go_big_quiet_op;go_big_quiet_on)
     refine aS ?_;intro w6 m t;have g:=ai m;clear m t;have o:=hid (f.out.trans (g.mono f.out.size));clear g;go_wp2_with fail
     go_roundg (l.length - (k+1))
     case measure=>omega
     case rel=>exact ⟨k+1,by omega,by omega,by go_num,o,P⟩
   | false =>
     have I:=hid (A.out (by rw [B.out];rfl));clear B A z X S T;go_wp2_with fail
     refine au (fun k=>match k with | 4=>some (bY true) | _=>none) (by kernel_rfl) (by kernel_rfl) ?_
     iterate 4 (refine wq ?_;intro K a;go_big_quiet_op;go_big_quiet_on)
     refine aC (bY true) (by kernel_rfl) rfl ⟨_,rfl⟩ aQ (fun w4 i s=>?_) ?_
     . have n:=ai i
       have C:=M.out w4 (f.out.trans (n.mono f.out.size));clear i s n;go_simp
       go_at_call 111;refine Calls.mono C ?_;rintro e w5 ⟨rfl,p⟩;exact ⟨_,rfl,p,rfl,trivial⟩
     rintro _ rfl
     (refine ay ?_;intro K a;go_simp;refine a _ ?_;clear a K)
     iterate 2 (refine wq ?_;intro K a;go_big_quiet_op;go_big_quiet_on)
     iterate 3 (refine wq ?_;intro K a;go_big_quiet_op;go_big_quiet_on)
     iterate 10 (refine wq ?_;intro K a;go_big_quiet_op;go_big_quiet_on)
     iterate 2 (refine wq ?_;intro K a;go_big_quiet_op;go_big_quiet_on)
     refine aS ?_;intro w6 m t;have g:=ai m;clear m t;have o:=hid (f.out.trans (g.mono f.out.size));clear g;go_wp2_with fail
     go_ret
     exact ⟨ah I.out,o.out⟩
  case neg =>
  have U:¬ (k:Int) < (l.length:Int):=by omega
  have I:=hid (T.out fun j hj=>J.out j (by omega));clear J;go_wp2
  go_ret
  exact ⟨ah I.out,f.out⟩
end Go.Proofs.YtomhbcfjhgecbaaGreatDoor
namespace Go.Proofs.YtomhbcfjhgecbaaGreatDoor
open Go.RowKit Go.Sort Go.Lib
open Go.Lib (hid)
open Adr (WT)
open Stp (au mP sF bT bY aQ kW qj ai dm gQ aC ay aS aW dG)
attribute [local go_sem] Stp.di
attribute [local go_sem ↓] fQ
attribute [local go_sem] dV
attribute [local go_sem ↓] fK
attribute [local go_sem] dH bD bG bJ cu bQ dA bI cO
structure Ed (x:Ins):Prop where
 ad:x.ad.size<=1200001
 de:x.de.size<=1200001
 dp:∀ d∈x.dp,d.size<=1200001
theorem Uc {w W:World} {b:Nat} {v0 v1 v2:Value} (hb:Below w.heap.size w W) (h:w.cell? ⟨b,0,none⟩=some v0/\w.cell? ⟨b,1,none⟩=some v1/\w.cell? ⟨b,2,none⟩=some v2):W.cell? ⟨b,0,none⟩=some v0/\W.cell? ⟨b,1,none⟩=some v1/\W.cell? ⟨b,2,none⟩=some v2:=⟨az hb h.1,az hb h.2.1,az hb h.2.2⟩
set_option maxRecDepth 100000 in
set_option maxHeartbeats 8000000 in
theorem qQ (x:Ins) (p:Pt) (w:World) (hx:jf w x p) (hs:Ed x) :
  Calls Tryz.prog 20 #[.agg (aH x p)] w fun e w'=>e=.returned (.int .i64 (iw x))/\Below w.heap.size w w':=by
 have I:=hid (fun (W:World)=>sJ x.ad W hs.ad);have L:=hid (fun (W:World)=>Gq x.de W (by have:=hs.de;omega));have N:=hid (fun (W:World)=>Ah x.id W);have HC:=hid (fun (W:World) (hW:Below w.heap.size w W)=>xM x.at_ p.r p.c p.rk p.ck W (hx.1.below hW));have Q:=hid (fun (W:World) (hW:Below w.heap.size w W)=>wP x.at_ p.r p.c p.rk p.ck W (hx.1.below hW));have Z:=hid (fun (W:World) (hW:Below w.heap.size w W)=>Js x.dp p.dr p.dc W (hx.2.1.below bP hW) hs.dp);have P:Below w.heap.size w (w.alloc (.cells (aH x p) 41)):=(Below.refl _ _).alloc (Nat.le_refl _) _;have i:=(MapKept.heap_alloc w (.cells (aH x p) 41)).1;obtain ⟨k,E⟩:∃ k,k=w.alloc (.cells (aH x p) 41):=⟨_,rfl⟩;rw [<-E] at P i;have T:=hid E;have U:=hid P;have u0:k.cell? ⟨w.heap.size,0,none⟩=some (.string x.ad):=ae i 0 rfl;have u1:k.cell? ⟨w.heap.size,1,none⟩=some (.string x.de):=ae i 1 rfl;have u2:k.cell? ⟨w.heap.size,2,none⟩=some (.string x.id):=ae i 2 rfl;have u3:k.cell? ⟨w.heap.size,3,none⟩=some (.string x.ty):=ae i 3 rfl;have u4:k.cell? ⟨w.heap.size,4,none⟩=some (.int .i64 x.at_.kind):=ae i 4 rfl;have u5:k.cell? ⟨w.heap.size,5,none⟩=some (.int .i64 x.at_.num):=ae i 5 rfl;have u6:k.cell? ⟨w.heap.size,6,none⟩=some (.string x.at_.str):=ae i 6 rfl;have u7:k.cell? ⟨w.heap.size,7,none⟩=some (.slice p.r x.at_.items.length p.c):=ae i 7 rfl;have u8:k.cell? ⟨w.heap.size,8,none⟩=some (.slice p.rk x.at_.keys.length p.ck):=ae i 8 rfl;have u9:k.cell? ⟨w.heap.size,9,none⟩=some (.int .i64 x.ver):=ae i 9 rfl;have u10:k.cell? ⟨w.heap.size,10,none⟩=some (.bool x.ta):=ae i 10 rfl;have u11:k.cell? ⟨w.heap.size,11,none⟩=some (.bool x.cf):=ae i 11 rfl;have u12:k.cell? ⟨w.heap.size,12,none⟩=some (.slice p.dr x.dp.length p.dc):=ae i 12 rfl;have aa:=hid (show k.heap.size=w.heap.size+1 by rw [E];simp);have K:=@NM x;have J:=@NK x;unfold xq at K J;unfold TF at I;obtain ⟨M,Y⟩:∃ b,uh x.ad.data.toList=b:=⟨_,rfl⟩;obtain ⟨b2,e2⟩:∃ b,(decide (x.de=⟨#[]⟩) || CP x.de)=b:=⟨_,rfl⟩;obtain ⟨b3,e3⟩:∃ b,pF x.id=b:=⟨_,rfl⟩;obtain ⟨V,e4⟩:∃ b,gy vU x.at_=b:=⟨_,rfl⟩;obtain ⟨kn,e5⟩:∃ b,dR x.at_=b:=⟨_,rfl⟩;obtain ⟨ds,X⟩:∃ b,kX x.dp=b:=⟨_,rfl⟩;rw [Y,e2,e3] at K J;rw [e4,e5,X] at J;rw [Y] at I;rw [e2] at L;rw [e3] at N;rw [e4] at HC;rw [e5] at Q;rw [X] at Z;have G:=hid K;have f:=hid J;clear K J Y e2 e3 e4 e5 X hx hs i P E;generalize iw x=R at *;unfold aH;go_enter Tryz.func20,Tryz.ntmps20;go_upto_region 1 with (fail)
 have E:=T.out;unfold aH at E;rw [<-E];clear E T;have j:=hid (fun (W:World) (hW:Below k.heap.size k W)=>show W.cell? ⟨w.heap.size,1,none⟩=some (.string x.de)/\W.cell? ⟨w.heap.size,2,none⟩=some (.string x.id)/\W.cell? ⟨w.heap.size,3,none⟩=some (.string x.ty)/\W.cell? ⟨w.heap.size,4,none⟩=some (.int .i64 x.at_.kind)/\W.cell? ⟨w.heap.size,5,none⟩=some (.int .i64 x.at_.num)/\W.cell? ⟨w.heap.size,6,none⟩=some (.string x.at_.str)/\W.cell? ⟨w.heap.size,7,none⟩=some (.slice p.r x.at_.items.length p.c)/\W.cell? ⟨w.heap.size,8,none⟩=some (.slice p.rk x.at_.keys.length p.ck)/\W.cell? ⟨w.heap.size,9,none⟩=some (.int .i64 x.ver)/\W.cell? ⟨w.heap.size,10,none⟩=some (.bool x.ta)/\W.cell? ⟨w.heap.size,11,none⟩=some (.bool x.cf)/\W.cell? ⟨w.heap.size,12,none⟩=some (.slice p.dr x.dp.length p.dc) from ⟨az hW u1,az hW u2,az hW u3,az hW u4,az hW u5,az hW u6,az hW u7,az hW u8,az hW u9,az hW u10,az hW u11,az hW u12⟩);have a:=hid (Below.refl k.heap.size k);have q:=hid (fun (W:World) (hW:Below k.heap.size k W)=>U.out.trans (hW.mono U.out.size));cases M with
 | none =>
   have o:=hid (G.out (by simp));clear G f;go_wp2_with (first | (go_at_call 59;refine (I.out _).mono ?_;rintro e w1 ⟨ty,rfl,g,d⟩;have F:=hid g;have a:=hid (a.out.trans (d.mono a.out.size));clear d g;obtain ⟨z,v,y,u,A,D,B,C,s,n,l,m⟩:=j.out _ a.out) | (go_at_call 60;refine (L.out _).mono ?_;rintro e w1 ⟨rfl,rfl⟩) | (go_at_call 37;refine (N.out _).mono ?_;rintro e w1 ⟨rfl,d⟩;have a:=hid (a.out.trans (d.mono a.out.size));clear d;obtain ⟨z,v,y,u,A,D,B,C,s,n,l,m⟩:=j.out _ a.out))
   go_ret
   exact ⟨ax o.out,q.out _ a.out⟩
 | some t =>
 cases b2 with
 | false =>
   have o:=hid (G.out (by simp));clear G f;go_wp2_with (first | (go_at_call 59;refine (I.out _).mono ?_;rintro e w1 ⟨ty,rfl,g,d⟩;have F:=hid g;have a:=hid (a.out.trans (d.mono a.out.size));clear d g;obtain ⟨z,v,y,u,A,D,B,C,s,n,l,m⟩:=j.out _ a.out) | (go_at_call 60;refine (L.out _).mono ?_;rintro e w1 ⟨rfl,rfl⟩) | (go_at_call 37;refine (N.out _).mono ?_;rintro e w1 ⟨rfl,d⟩;have a:=hid (a.out.trans (d.mono a.out.size));clear d;obtain ⟨z,v,y,u,A,D,B,C,s,n,l,m⟩:=j.out _ a.out))
   go_ret
   exact ⟨ax o.out,q.out _ a.out⟩
 | true =>
 cases b3 with
 | false =>
   have o:=hid (G.out (by simp));clear G f;go_wp2_with (first | (go_at_call 59;refine (I.out _).mono ?_;rintro e w1 ⟨ty,rfl,g,d⟩;have F:=hid g;have a:=hid (a.out.trans (d.mono a.out.size));clear d g;obtain ⟨z,v,y,u,A,D,B,C,s,n,l,m⟩:=j.out _ a.out) | (go_at_call 60;refine (L.out _).mono ?_;rintro e w1 ⟨rfl,rfl⟩) | (go_at_call 37;refine (N.out _).mono ?_;rintro e w1 ⟨rfl,d⟩;have a:=hid (a.out.trans (d.mono a.out.size));clear d;obtain ⟨z,v,y,u,A,D,B,C,s,n,l,m⟩:=j.out _ a.out))
   go_ret
   exact ⟨ax o.out,q.out _ a.out⟩
 | true =>
 go_upto_region 2 with (go_at_call 59;refine (I.out _).mono ?_;rintro e w1 ⟨ty,rfl,g,d⟩;have F:=hid g;have a:=hid (a.out.trans (d.mono a.out.size));clear d g;obtain ⟨z,v,y,u,A,D,B,C,s,n,l,m⟩:=j.out _ a.out)
 obtain rfl:=F.out t rfl;clear F
 by_cases O:ty=x.ty.data.toList
 case neg =>
  have n1:(x.ty.toList == ty)=false:=by rw [beq_eq_false_iff_ne,ByteArray.toList_eq];exact fun e=>O e.symm
  have o:=hid (G.out (by simp [O]));clear G f O;go_wp2_with (first | (go_at_call 59;refine (I.out _).mono ?_;rintro e w1 ⟨ty,rfl,g,d⟩;have F:=hid g;have a:=hid (a.out.trans (d.mono a.out.size));clear d g;obtain ⟨z,v,y,u,A,D,B,C,s,n,l,m⟩:=j.out _ a.out) | (go_at_call 60;refine (L.out _).mono ?_;rintro e w1 ⟨rfl,rfl⟩) | (go_at_call 37;refine (N.out _).mono ?_;rintro e w1 ⟨rfl,d⟩;have a:=hid (a.out.trans (d.mono a.out.size));clear d;obtain ⟨z,v,y,u,A,D,B,C,s,n,l,m⟩:=j.out _ a.out))
  go_ret
  exact ⟨ax o.out,q.out _ a.out⟩
 case pos =>
 have f:=hid (f.out (by simp [O]));have n1:(x.ty.toList == ty)=true:=by rw [O,ByteArray.toList_eq];simp
 clear G O;go_upto_region 4 with (first | (go_at_call 59;refine (I.out _).mono ?_;rintro e w1 ⟨ty,rfl,g,d⟩;have F:=hid g;have a:=hid (a.out.trans (d.mono a.out.size));clear d g;obtain ⟨z,v,y,u,A,D,B,C,s,n,l,m⟩:=j.out _ a.out) | (go_at_call 60;refine (L.out _).mono ?_;rintro e w1 ⟨rfl,rfl⟩) | (go_at_call 37;refine (N.out _).mono ?_;rintro e w1 ⟨rfl,d⟩;have a:=hid (a.out.trans (d.mono a.out.size));clear d;obtain ⟨z,v,y,u,A,D,B,C,s,n,l,m⟩:=j.out _ a.out))
 by_cases S:V=0
 case neg =>
  have o:=hid (f.out.trans (if_pos S));have c1:(V != 0)=true:=by simp [S]
  have c2:(V == 0)=false:=by simp [S]
  clear S;clear f;go_wp2_with (go_at_call 61;refine (HC.out _ (q.out _ a.out)).mono ?_;rintro e w1 ⟨rfl,d⟩;have a:=hid (a.out.trans (d.mono a.out.size));clear d;obtain ⟨z,v,y,u,A,D,B,C,s,n,l,m⟩:=j.out _ a.out)
  go_ret
  exact ⟨ax o.out,q.out _ a.out⟩
 case pos =>
 subst S;have f:=hid (f.out.trans (if_neg (by decide)));go_upto_region 7 with (go_at_call 61;refine (HC.out _ (q.out _ a.out)).mono ?_;rintro e w1 ⟨rfl,d⟩;have a:=hid (a.out.trans (d.mono a.out.size));clear d;obtain ⟨z,v,y,u,A,D,B,C,s,n,l,m⟩:=j.out _ a.out)
 by_cases H:x.at_.kind=5
 case neg =>
  have o:=hid (f.out.trans (if_pos H));have c1:(x.at_.kind != 5)=true:=by simp [H]
  have c2:(x.at_.kind == 5)=false:=by simp [H]
  clear H;clear f;go_wp2_with (fail)
  go_ret
  exact ⟨ax o.out,q.out _ a.out⟩
 case pos =>
 have f:=hid (f.out.trans (if_neg (by simp [H])));have c1:(x.at_.kind != 5)=false:=by simp [H]
 have c2:(x.at_.kind == 5)=true:=by simp [H]
 clear H;go_upto_region 9 with (fail)
 cases kn with
 | false =>
   have o:=hid (f.out.trans (if_pos rfl));clear f;go_wp2_with (go_at_call 62;refine (Q.out _ (q.out _ a.out)).mono ?_;rintro e w1 ⟨rfl,d⟩;have a:=hid (a.out.trans (d.mono a.out.size));clear d;obtain ⟨z,v,y,u,A,D,B,C,s,n,l,m⟩:=j.out _ a.out)
   go_ret
   exact ⟨ax o.out,q.out _ a.out⟩
 | true =>
 have f:=hid (f.out.trans (if_neg (by decide)));go_upto_region 11 with (go_at_call 62;refine (Q.out _ (q.out _ a.out)).mono ?_;rintro e w1 ⟨rfl,d⟩;have a:=hid (a.out.trans (d.mono a.out.size));clear d;obtain ⟨z,v,y,u,A,D,B,C,s,n,l,m⟩:=j.out _ a.out)
 by_cases K:x.ver < 1
 case pos =>
  have o:=hid (f.out.trans (if_pos (Or.inl K)));clear f;go_wp2_with (fail)
  go_ret
  exact ⟨ax o.out,q.out _ a.out⟩
 case neg =>
 by_cases J:9007199254740992 < x.ver
 case pos =>
  have o:=hid (f.out.trans (if_pos (Or.inr J)));clear f;go_wp2_with (fail)
  go_ret
  exact ⟨ax o.out,q.out _ a.out⟩
 case neg =>
 have f:=hid (f.out.trans (if_neg (by omega)));go_upto_region 13 with (fail)
 cases ds with
 | false =>
   have o:=hid (f.out.trans (if_pos rfl));clear f;go_wp2_with (go_at_call 63;refine (Z.out _ (q.out _ a.out)).mono ?_;rintro e w1 ⟨rfl,d⟩;have a:=hid (a.out.trans (d.mono a.out.size)))
   go_ret
   exact ⟨ax o.out,q.out _ a.out⟩
 | true =>
   have o:=hid (f.out.trans (if_neg (by decide)));clear f;go_wp2_with (go_at_call 63;refine (Z.out _ (q.out _ a.out)).mono ?_;rintro e w1 ⟨rfl,d⟩;have a:=hid (a.out.trans (d.mono a.out.size)))
   go_ret
   exact ⟨ax o.out,q.out _ a.out⟩
set_option maxRecDepth 100000 in
set_option maxHeartbeats 4000000 in
theorem Cm (x:Pnd) (w:World) (hs:x.ad.size<=1200001) :
  Calls Tryz.prog 39 #[.agg #[.string x.ad,.string x.ty,.string x.tok]] w fun e w'=>e=.returned (.int .i64 (if sG x then 0 else 1))/\Below w.heap.size w w':=by
 have n:=hid (fun (W:World)=>sJ x.ad W hs);have q:=hid (fun (W:World)=>Ah x.tok W);have l:=hid (show (if sG x then (0:Int) else 1)=if (pF x.tok && decide (uh x.ad.data.toList=some x.ty.data.toList)) then 0 else 1 from rfl);generalize (if sG x then (0:Int) else 1)=Q at *;unfold TF at n;generalize uh x.ad.data.toList=M at *;generalize pF x.tok=y at *;clear hs;obtain ⟨f,p⟩:∃ f,f=w.alloc (.cells #[.string x.ad,.string x.ty,.string x.tok] 58):=⟨_,rfl⟩;have u:=hid p;have v:=hid (show Below w.heap.size w f from p ▸ (Below.refl _ _).alloc (Nat.le_refl _) _);have o:f.heap[w.heap.size]?=some (.cells #[.string x.ad,.string x.ty,.string x.tok] 58):=p ▸ (MapKept.heap_alloc w _).1;have u0:f.cell? ⟨w.heap.size,0,none⟩=some (.string x.ad):=ae o 0 rfl;have u1:f.cell? ⟨w.heap.size,1,none⟩=some (.string x.ty):=ae o 1 rfl;have u2:f.cell? ⟨w.heap.size,2,none⟩=some (.string x.tok):=ae o 2 rfl;have d:=hid (fun (W:World) (hW:Below f.heap.size f W)=>Uc hW ⟨u0,u1,u2⟩);have s:=hid (fun (W:World) (hW:Below f.heap.size f W)=>v.out.trans (hW.mono v.out.size));have a:=hid (Below.refl f.heap.size f);clear p o;go_enter Tryz.func39,Tryz.ntmps39;go_upto_region 1 with (fail)
 rw [<-u.out];clear u;cases y with
 | false =>
   cases M with
   | none =>
     have m:=hid (show Q=1 by rw [l.out];simp);clear l;go_wp2_with (first | (go_at_call 59;refine (n.out _).mono ?_;rintro e w1 ⟨ty,rfl,c,b⟩;have g:=hid c;have a:=hid (a.out.trans (b.mono a.out.size));clear b c;obtain ⟨k,j,i⟩:=d.out _ a.out) | (go_at_call 37;refine (q.out _).mono ?_;rintro e w1 ⟨rfl,b⟩;have a:=hid (a.out.trans (b.mono a.out.size));clear b;obtain ⟨k,j,i⟩:=d.out _ a.out))
     go_ret
     exact ⟨ax m.out,s.out _ a.out⟩
   | some t =>
     have m:=hid (show Q=1 by rw [l.out];simp);clear l;go_wp2_with (first | (go_at_call 59;refine (n.out _).mono ?_;rintro e w1 ⟨ty,rfl,c,b⟩;have g:=hid c;have a:=hid (a.out.trans (b.mono a.out.size));clear b c;obtain ⟨k,j,i⟩:=d.out _ a.out) | (go_at_call 37;refine (q.out _).mono ?_;rintro e w1 ⟨rfl,b⟩;have a:=hid (a.out.trans (b.mono a.out.size));clear b;obtain ⟨k,j,i⟩:=d.out _ a.out))
     go_ret
     exact ⟨ax m.out,s.out _ a.out⟩
 | true =>
 cases M with
 | none =>
   have m:=hid (show Q=1 by rw [l.out];simp);clear l;go_wp2_with (first | (go_at_call 59;refine (n.out _).mono ?_;rintro e w1 ⟨ty,rfl,c,b⟩;have g:=hid c;have a:=hid (a.out.trans (b.mono a.out.size));clear b c;obtain ⟨k,j,i⟩:=d.out _ a.out) | (go_at_call 37;refine (q.out _).mono ?_;rintro e w1 ⟨rfl,b⟩;have a:=hid (a.out.trans (b.mono a.out.size));clear b;obtain ⟨k,j,i⟩:=d.out _ a.out))
   go_ret
   exact ⟨ax m.out,s.out _ a.out⟩
 | some t =>
 go_upto_region 2 with (first | (go_at_call 59;refine (n.out _).mono ?_;rintro e w1 ⟨ty,rfl,c,b⟩;have g:=hid c;have a:=hid (a.out.trans (b.mono a.out.size));clear b c;obtain ⟨k,j,i⟩:=d.out _ a.out) | (go_at_call 37;refine (q.out _).mono ?_;rintro e w1 ⟨rfl,b⟩;have a:=hid (a.out.trans (b.mono a.out.size));clear b;obtain ⟨k,j,i⟩:=d.out _ a.out))
 obtain rfl:=g.out t rfl;clear g
 by_cases r:ty=x.ty.data.toList
 case neg =>
  have z:(x.ty.toList == ty)=false:=by rw [beq_eq_false_iff_ne,ByteArray.toList_eq];exact fun e=>r e.symm
  have m:=hid (show Q=1 by rw [l.out];simp [r]);clear l r;go_wp2_with (first | (go_at_call 59;refine (n.out _).mono ?_;rintro e w1 ⟨ty,rfl,c,b⟩;have g:=hid c;have a:=hid (a.out.trans (b.mono a.out.size));clear b c;obtain ⟨k,j,i⟩:=d.out _ a.out) | (go_at_call 37;refine (q.out _).mono ?_;rintro e w1 ⟨rfl,b⟩;have a:=hid (a.out.trans (b.mono a.out.size));clear b;obtain ⟨k,j,i⟩:=d.out _ a.out))
  go_ret
  exact ⟨ax m.out,s.out _ a.out⟩
 case pos =>
 have z:(x.ty.toList == ty)=true:=by rw [r,ByteArray.toList_eq];simp
 have m:=hid (show Q=0 by rw [l.out];simp [r]);clear l r;go_wp2_with (first | (go_at_call 59;refine (n.out _).mono ?_;rintro e w1 ⟨ty,rfl,c,b⟩;have g:=hid c;have a:=hid (a.out.trans (b.mono a.out.size));clear b c;obtain ⟨k,j,i⟩:=d.out _ a.out) | (go_at_call 37;refine (q.out _).mono ?_;rintro e w1 ⟨rfl,b⟩;have a:=hid (a.out.trans (b.mono a.out.size));clear b;obtain ⟨k,j,i⟩:=d.out _ a.out))
 go_ret
 exact ⟨ax m.out,s.out _ a.out⟩
set_option maxRecDepth 100000 in
set_option maxHeartbeats 4000000 in
theorem Eh (x:vS) (r:Option Addr) (c:Nat) (rk:Option Addr) (ck:Nat) (w:World) (hx:jJ w r c rk ck x.v) (hs:x.nm.size<=2000000) :
  Calls Tryz.prog 86 #[.agg #[.string x.nm,.int .i64 x.v.kind,.int .i64 x.v.num,.string x.v.str,.slice r x.v.items.length c,.slice rk x.v.keys.length ck,.bool x.se]] w fun e w'=>e=.returned (.int .i64 (kZ x))/\Below w.heap.size w w':=by
 have t:=hid (fun (W:World)=>Adr.lH x.nm W hs);have y:=hid (fun (W:World) (hW:Below w.heap.size w W)=>xM x.v r c rk ck W (hx.below hW));have l:=hid (fun (W:World) (hW:Below w.heap.size w W)=>wP x.v r c rk ck W (hx.below hW));have u:Below w.heap.size w (w.alloc (.cells #[.string x.nm,.int .i64 x.v.kind,.int .i64 x.v.num,.string x.v.str,.slice r x.v.items.length c,.slice rk x.v.keys.length ck,.bool x.se] 66)):=(Below.refl _ _).alloc (Nat.le_refl _) _;have i:=(MapKept.heap_alloc w (.cells #[.string x.nm,.int .i64 x.v.kind,.int .i64 x.v.num,.string x.v.str,.slice r x.v.items.length c,.slice rk x.v.keys.length ck,.bool x.se] 66)).1;obtain ⟨f,A⟩:∃ f,f=w.alloc (.cells #[.string x.nm,.int .i64 x.v.kind,.int .i64 x.v.num,.string x.v.str,.slice r x.v.items.length c,.slice rk x.v.keys.length ck,.bool x.se] 66):=⟨_,rfl⟩;rw [<-A] at u i;have B:=hid A;have C:=hid u;have u0:f.cell? ⟨w.heap.size,0,none⟩=some (.string x.nm):=ae i 0 rfl;have u1:f.cell? ⟨w.heap.size,1,none⟩=some (.int .i64 x.v.kind):=ae i 1 rfl;have u2:f.cell? ⟨w.heap.size,2,none⟩=some (.int .i64 x.v.num):=ae i 2 rfl;have u3:f.cell? ⟨w.heap.size,3,none⟩=some (.string x.v.str):=ae i 3 rfl;have u4:f.cell? ⟨w.heap.size,4,none⟩=some (.slice r x.v.items.length c):=ae i 4 rfl;have u5:f.cell? ⟨w.heap.size,5,none⟩=some (.slice rk x.v.keys.length ck):=ae i 5 rfl;have j:=hid (fun (W:World) (hW:Below f.heap.size f W)=>show W.cell? ⟨w.heap.size,1,none⟩=some (.int .i64 x.v.kind)/\W.cell? ⟨w.heap.size,2,none⟩=some (.int .i64 x.v.num)/\W.cell? ⟨w.heap.size,3,none⟩=some (.string x.v.str)/\W.cell? ⟨w.heap.size,4,none⟩=some (.slice r x.v.items.length c)/\W.cell? ⟨w.heap.size,5,none⟩=some (.slice rk x.v.keys.length ck) from ⟨az hW u1,az hW u2,az hW u3,az hW u4,az hW u5⟩);have a:=hid (Below.refl f.heap.size f);have k:=hid (fun (W:World) (hW:Below f.heap.size f W)=>C.out.trans (hW.mono C.out.size));have g:=hid (show kZ x=if Adr.eH x.nm.data.toList=false then 7 else if gy vU x.v≠0 then gy vU x.v else if dR x.v=false then 11 else 0 from rfl);obtain ⟨H,E⟩:∃ b,Adr.eH x.nm.data.toList=b:=⟨_,rfl⟩;obtain ⟨D,G⟩:∃ b,gy vU x.v=b:=⟨_,rfl⟩;obtain ⟨I,F⟩:∃ b,dR x.v=b:=⟨_,rfl⟩;rw [E,G,F] at g;rw [E] at t;rw [G] at y;rw [F] at l;clear E G F hx hs i u A;generalize kZ x=R at *;go_enter Tryz.func86,Tryz.ntmps86;go_upto_region 1 with (fail)
 rw [<-B.out];clear B;cases H with
 | false =>
   have s:=hid (g.out.trans (if_pos rfl));clear g;go_wp2_with (first | (go_at_call 128;refine (t.out _).mono ?_;rintro e w1 ⟨rfl,rfl⟩) | (go_at_call 61;refine (y.out _ (k.out _ a.out)).mono ?_;rintro e w1 ⟨rfl,d⟩;have a:=hid (a.out.trans (d.mono a.out.size));clear d;obtain ⟨p,n,o,m,q⟩:=j.out _ a.out) | (go_at_call 62;refine (l.out _ (k.out _ a.out)).mono ?_;rintro e w1 ⟨rfl,d⟩;have a:=hid (a.out.trans (d.mono a.out.size));clear d;obtain ⟨p,n,o,m,q⟩:=j.out _ a.out))
   go_ret
   exact ⟨ax s.out,k.out _ a.out⟩
 | true =>
 have g:=hid (g.out.trans (if_neg (by decide)))
 by_cases z:D=0
 case neg =>
  have s:=hid (g.out.trans (if_pos z));have K:(D != 0)=true:=by simp [z]
  have J:(D == 0)=false:=by simp [z]
  clear z;clear g;go_wp2_with (first | (go_at_call 128;refine (t.out _).mono ?_;rintro e w1 ⟨rfl,rfl⟩) | (go_at_call 61;refine (y.out _ (k.out _ a.out)).mono ?_;rintro e w1 ⟨rfl,d⟩;have a:=hid (a.out.trans (d.mono a.out.size));clear d;obtain ⟨p,n,o,m,q⟩:=j.out _ a.out) | (go_at_call 62;refine (l.out _ (k.out _ a.out)).mono ?_;rintro e w1 ⟨rfl,d⟩;have a:=hid (a.out.trans (d.mono a.out.size));clear d;obtain ⟨p,n,o,m,q⟩:=j.out _ a.out))
  go_ret
  exact ⟨ax s.out,k.out _ a.out⟩
 case pos =>
 subst z;have g:=hid (g.out.trans (if_neg (by decide)));cases I with
 | false =>
   have s:=hid (g.out.trans (if_pos rfl));clear g;go_wp2_with (first | (go_at_call 128;refine (t.out _).mono ?_;rintro e w1 ⟨rfl,rfl⟩) | (go_at_call 61;refine (y.out _ (k.out _ a.out)).mono ?_;rintro e w1 ⟨rfl,d⟩;have a:=hid (a.out.trans (d.mono a.out.size));clear d;obtain ⟨p,n,o,m,q⟩:=j.out _ a.out) | (go_at_call 62;refine (l.out _ (k.out _ a.out)).mono ?_;rintro e w1 ⟨rfl,d⟩;have a:=hid (a.out.trans (d.mono a.out.size));clear d;obtain ⟨p,n,o,m,q⟩:=j.out _ a.out))
   go_ret
   exact ⟨ax s.out,k.out _ a.out⟩
 | true =>
   have s:=hid (g.out.trans (if_neg (by decide)));clear g;go_wp2_with (first | (go_at_call 128;refine (t.out _).mono ?_;rintro e w1 ⟨rfl,rfl⟩) | (go_at_call 61;refine (y.out _ (k.out _ a.out)).mono ?_;rintro e w1 ⟨rfl,d⟩;have a:=hid (a.out.trans (d.mono a.out.size));clear d;obtain ⟨p,n,o,m,q⟩:=j.out _ a.out) | (go_at_call 62;refine (l.out _ (k.out _ a.out)).mono ?_;rintro e w1 ⟨rfl,d⟩;have a:=hid (a.out.trans (d.mono a.out.size));clear d;obtain ⟨p,n,o,m,q⟩:=j.out _ a.out))
   go_ret
   exact ⟨ax s.out,k.out _ a.out⟩
set_option maxRecDepth 100000 in
theorem DX (a b:ByteArray) (x:Ins) (p:Pt) (w:World):Calls Tryz.prog 38 #[.string a,.string b,.agg (aH x p)] w fun e w'=>e=.returned (.int .i64 (dI (a,b) (aP x)))/\Below w.heap.size w w':=by
 have f:=hid (fun (u v:ByteArray) (W:World)=>F8 u v W);have d:=hid (show Below w.heap.size w (w.alloc (.cells (aH x p) 41)) from (Below.refl _ _).alloc (Nat.le_refl _) _);have u0:(w.alloc (.cells (aH x p) 41)).cell? ⟨w.heap.size,0,none⟩=some (.string x.ad):=ae (MapKept.heap_alloc w _).1 0 rfl;have u1:(w.alloc (.cells (aH x p) 41)).cell? ⟨w.heap.size,1,none⟩=some (.string x.de):=ae (MapKept.heap_alloc w _).1 1 rfl;have c:=hid (show dI (a,b) (aP x)=iG [dL a x.ad,dL b x.de] from rfl);generalize aH x p=X at *
 by_cases h:a=x.ad
 . have i:(a.toList == x.ad.toList)=true:=by rw [h];simp
   have j:(a.toList != x.ad.toList)=false:=by rw [h];simp
   have g:=hid (show dI (a,b) (aP x)=dL b x.de by
    rw [c.out,fV.2 h];unfold iG iG iG
    by_cases e:dL b x.de=0 <;> simp [e])
   clear h c;go_enter Tryz.func38,Tryz.ntmps38;go_wp2_with (go_at_call 85;refine (f.out _ _ _).mono ?_;rintro e w1 ⟨rfl,rfl⟩)
   go_ret
   exact ⟨ax g.out,d.out⟩
 . have i:=fP h
   have j:=jU h
   have g:=hid (show dI (a,b) (aP x)=dL a x.ad by
    rw [c.out];unfold iG;rw [if_pos (by simpa using fun e=>h (fV.1 e))])
   clear h c;go_enter Tryz.func38,Tryz.ntmps38;go_wp2_with (go_at_call 85;refine (f.out _ _ _).mono ?_;rintro e w1 ⟨rfl,rfl⟩)
   go_ret
   exact ⟨ax g.out,d.out⟩
end Go.Proofs.YtomhbcfjhgecbaaGreatDoor
namespace Go.Proofs.YtomhbcfjhgecbaaGreatDoor
open Go.RowKit Go.Sort Go.Lib
open Go.Lib (hid)
open Adr (WT)
open Stp (wq au mP sF bT bY aQ kW qj ai dm gQ aC ay aS aW dG)
attribute [local go_sem] Stp.di
attribute [local go_sem ↓] fQ
attribute [local go_sem] dV
attribute [local go_sem ↓] fK
attribute [local go_sem] dH bD bG bJ cu bQ dA bI cO
theorem LU {l:List vS} {k:Nat} (hk:k < l.length):kH l k=if kZ l[k]≠0 then kZ l[k] else if k≠0/\ug (l.getD (k - 1) QI).nm l[k].nm=false then 1 else 0:=by unfold kH;rw [getD_at _ hk]
set_option maxRecDepth 100000 in
set_option maxHeartbeats 8000000 in
theorem CG (l:List vS) (ro:Option Addr) (co:Nat) (w:World) (h:Sl Ez 7 w (.slice ro l.length co) l) (hs:∀ x∈l,x.nm.size<=1200001) :
  Calls Tryz.prog 40 #[.slice ro l.length co] w fun e w'=>e=.returned (.int .i64 (jb l.length (kH l)))/\Below w.heap.size w w':=by
 obtain ⟨_,af,am⟩:=bi h;have K:=hid (fun (W:World) (hW:Below w.heap.size w W)=>TJ (h.below jc hW));have Y:=hid (fun (x:vS) (hx:x∈l) (r:Option Addr) (c:Nat) (rk:Option Addr) (ck:Nat) (W:World) (hP:jJ W r c rk ck x.v)=>Eh x r c rk ck W hP (by have:=hs x hx;omega));obtain ⟨R,P⟩:∃ R,jb l.length (kH l)=R:=⟨_,rfl⟩;have HR:=hid P;rw [P];clear h hs P;go_enter Tryz.func40,Tryz.ntmps40;go_wp2
 have S:=hid (Below.refl w.heap.size w);go_loopg [3] l.length (fun gg s9 wr=>∃ k:Nat,k<=l.length/\l.length - k<=gg/\s9=.int .i64 k/\Hid (Below w.heap.size w wr)/\Hid (∀ j,j < k->kH l j=0))
 case atStart=>exact ⟨0,Nat.zero_le _,by omega,rfl,S,hid fun j h=>absurd h (by omega)⟩
 case round =>
  clear S;obtain ⟨k,Z,hg,rfl,g,D⟩:=hrel
  by_cases t:k < l.length
  case pos =>
   have Q:(k:Int) < (l.length:Int):=by omega
   have f:=hid (LU t);have n:=hid (fun (h2:kH l k≠0)=>show R=kH l k from HR.out.symm.trans (l9 t D.out h2));have m:=hid (fun (h:kH l k=0)=>show Hid (∀ j,j < k+1->kH l j=0) from hid (Aa D.out h));obtain ⟨b,V,y,rfl,an,H,g1,g2,g3,g4,g5,g6,I,J⟩:=K.out wr g.out k t;have F:=hid (fun (W:World) (hW:Below wr.heap.size wr W)=>Y.out l[k] (List.getElem_mem t) y.r y.c y.rk y.ck W (by have:=J.1;rw [I] at this;exact this.below hW))
   have u:=hid (fun (Z:0 < k)=>show ∃ z,z=(l[k - 1]'(by omega)).nm/\wr.cell? ⟨b,V+(k - 1) * 7,none⟩=some (.string z) from by
    obtain ⟨b',aa,y',M,_,X,_⟩:=K.out wr g.out (k - 1) (by omega);simp only [Option.some.injEq,Addr.mk.injEq] at M;obtain ⟨rfl,rfl,_⟩:=M;exact ⟨_,rfl,X⟩)
   have A:=hid (fun (Z:0 < k)=>getD_at (l:=l) (k:=k - 1) QI (by omega));clear D I J;generalize l[k].nm=O at *;generalize l[k].v.kind=x2 at *;generalize l[k].v.num=x3 at *;generalize l[k].v.str=x4 at *;generalize l[k].v.items.length=x5 at *;generalize l[k].v.keys.length=x6 at *;generalize l[k].se=x7 at *
   by_cases p:kZ l[k]=0
   case neg =>
    have e1:(kZ l[k] != 0)=true:=by simp [p]
    have e2:(kZ l[k] == 0)=false:=by simp [p]
    have C:=hid (show R=kZ l[k] by
     have:kH l k=kZ l[k]:=by rw [f.out,if_pos p]
     rw [<-this];exact n.out (by rw [this];exact p))
    clear p f n m u A;generalize kZ l[k]=E at *;go_wp2_with (go_at_call 86;refine (F.out _ (Below.refl _ _)).mono ?_;rintro e w1 ⟨rfl,a⟩;have i:=hid (g.out.trans (a.mono g.out.size));have d:=hid a;clear a;have N:=az d.out H)
    go_ret
    exact ⟨ax C.out,i.out⟩
   case pos =>
   rw [p] at F;have f:=hid (f.out.trans (if_neg (by rw [p];decide)));clear p
   by_cases B:k=0
   case pos =>
    have G:=m.out (by rw [f.out,if_neg (by simp [B])]);have ao:decide ((0:Int) < (k:Int))=false:=decide_eq_false (by omega);have ad:decide (0 < k)=false:=decide_eq_false (by omega);have ab:¬ 0 < k:=by omega
    clear f n m B u A;go_wp2_with (go_at_call 86;refine (F.out _ (Below.refl _ _)).mono ?_;rintro e w1 ⟨rfl,a⟩;have i:=hid (g.out.trans (a.mono g.out.size));have d:=hid a;clear a;have N:=az d.out H)
    go_quiet (fail)
    have s:=hid (bu i.out nq);go_wp2_with fail
    go_roundg (l.length - (k+1))
    case measure=>omega
    case rel=>exact ⟨k+1,by omega,by omega,by go_num,s,G⟩
   case neg =>
   obtain ⟨z,U,T⟩:=u.out (by omega);have k0:(0:Int)<=(k:Int) - 1:=by omega
   have k1:(k:Int) - 1 < (l.length:Int):=by omega
   have k4:((k:Int) - 1).toNat=k - 1:=by omega
   have k5:wrap64 ((k:Int) - 1)=(k:Int) - 1:=by unfold wrap64;omega
   have k6:(0:Int) < (k:Int):=by omega
   have k9:(k:Int)<=(l.length:Int):=by omega
   have k7:(1:Int)<=(k:Int):=by omega
   have hd:decide ((0:Int) < (k:Int))=true:=decide_eq_true (by omega);have al:decide (0 < k)=true:=decide_eq_true (by omega);have ac:0 < k:=by omega
   have o:Hid (kH l k=if ug z O=false then 1 else 0):=hid (by rw [f.out,A.out (by omega),<-U];simp [B]);have q:=zU z O;clear f A u U B;generalize ug z O=L at *;cases L with
   | true =>
     have G:=m.out (by rw [o.out];rfl);clear o n m;go_wp2_with (go_at_call 86;refine (F.out _ (Below.refl _ _)).mono ?_;rintro e w1 ⟨rfl,a⟩;have i:=hid (g.out.trans (a.mono g.out.size));have d:=hid a;clear a;have N:=az d.out H;have dz:=az d.out T)
     go_quiet (fail)
     have s:=hid (bu i.out nq);go_wp2_with fail
     go_roundg (l.length - (k+1))
     case measure=>omega
     case rel=>exact ⟨k+1,by omega,by omega,by go_num,s,G⟩
   | false =>
     have C:=hid (show R=1 by
      have:kH l k=1:=by rw [o.out];rfl
      rw [<-this];exact n.out (by rw [this];decide))
     clear o n m;go_wp2_with (go_at_call 86;refine (F.out _ (Below.refl _ _)).mono ?_;rintro e w1 ⟨rfl,a⟩;have i:=hid (g.out.trans (a.mono g.out.size));have d:=hid a;clear a;have N:=az d.out H;have dz:=az d.out T)
     go_quiet (fail)
     have s:=hid (bu i.out nq);go_wp2_with fail
     go_ret
     exact ⟨ax C.out,s.out⟩
  case neg =>
   have Q:¬ (k:Int) < (l.length:Int):=by omega
   have C:=hid (show R=0 from HR.out.symm.trans (iC fun j hj=>D.out j (by omega)));clear D;go_wp2_with (fail)
   go_ret
   exact ⟨ax C.out,g.out⟩
structure oV (s:fU):Prop where
 ins:∀ x∈s.ins,Ed x
 pen:∀ x∈s.pen,x.ad.size<=1200001
 out:∀ x∈s.out,x.nm.size<=1200001
theorem su {l:List Ins} {k:Nat} (hk:k < l.length):jr l k=if iw l[k]≠0 then iw l[k] else if k≠0/\0<=dI (aP (l.getD (k - 1) yV)) (aP l[k]) then 1 else 0:=by unfold jr;rw [getD_at _ hk]
theorem Lr {l:List Pnd} {k:Nat} (hk:k < l.length):kw l k=if sG l[k] && (decide (k=0) || ug (l.getD (k - 1) Qb).tok l[k].tok) then 0 else 1:=by unfold kw;rw [getD_at _ hk]
set_option maxRecDepth 100000 in
set_option maxHeartbeats 16000000 in
theorem wO (s:fU) (p:Sp) (w:World) (h:dQ w s p) (hs:oV s) :
  Calls Tryz.prog 12 #[.agg (bK s p)] w fun e w'=>e=.returned (.int .i64 (o8 s))/\Below w.heap.size w w':=by
 obtain ⟨ri,ci,rp,cp,ro,co⟩:=p;have M:=hid (fun (W:World)=>Ah s.lin W);have a0:=hid (fun (W:World) (hW:Below w.heap.size w W)=>mM (h.1.below dB hW));have aL:=hid (fun (W:World) (hW:Below w.heap.size w W)=>uY (h.2.1.below iY hW));have a9:=hid (fun (W:World) (hW:Below w.heap.size w W)=>CG s.out ro co W (h.2.2.1.below jc hW) hs.out);have bb:=hid (fun (x:Ins) (hx:x∈s.ins) (q:Pt) (W:World) (hP:jf W x q)=>qQ x q W hP (hs.ins x hx));have bd:=hid (fun (x:Pnd) (hx:x∈s.pen) (W:World)=>Cm x W (hs.pen x hx));obtain ⟨_,bt,bs⟩:=bi h.1;obtain ⟨_,bv,bw⟩:=bi h.2.1;obtain ⟨_,bA,bx⟩:=bi h.2.2.1;obtain ⟨G,ao⟩:∃ G,G=w.alloc (.cells #[.string s.lin,.int .i64 s.ser,.slice ri s.ins.length ci,.slice rp s.pen.length cp,.slice ro s.out.length co] 26):=⟨_,rfl⟩;have aE:=hid ao;have a3:Below w.heap.size w G:=ao ▸ (Below.refl _ _).alloc (Nat.le_refl _) _;have U:G.heap[w.heap.size]?=some (.cells #[.string s.lin,.int .i64 s.ser,.slice ri s.ins.length ci,.slice rp s.pen.length cp,.slice ro s.out.length co] 26):=ao ▸ (MapKept.heap_alloc w _).1;have a4:=hid a3;have H:=hid (fun (W:World) (hW:Below G.heap.size G W)=>a4.out.trans (hW.mono a4.out.size));have t0:G.cell? ⟨w.heap.size,0,none⟩=some (.string s.lin):=ae U 0 rfl;have D:G.cell? ⟨w.heap.size,1,none⟩=some (.int .i64 s.ser):=ae U 1 rfl;have r:G.cell? ⟨w.heap.size,2,none⟩=some (.slice ri s.ins.length ci):=ae U 2 rfl;have B:G.cell? ⟨w.heap.size,3,none⟩=some (.slice rp s.pen.length cp):=ae U 3 rfl;have F:G.cell? ⟨w.heap.size,4,none⟩=some (.slice ro s.out.length co):=ae U 4 rfl;have n:=hid (fun (W:World) (hW:Below G.heap.size G W)=>show W.cell? ⟨w.heap.size,1,none⟩=some (.int .i64 s.ser)/\W.cell? ⟨w.heap.size,2,none⟩=some (.slice ri s.ins.length ci)/\W.cell? ⟨w.heap.size,3,none⟩=some (.slice rp s.pen.length cp)/\W.cell? ⟨w.heap.size,4,none⟩=some (.slice ro s.out.length co) from ⟨az hW D,az hW r,az hW B,az hW F⟩);have g:=hid (show o8 s=if pF s.lin=false then 1
 else if s.ser < 0 ∨ 9007199254740992 < s.ser then 5
 else if 512 < s.ins.length ∨ 512 < s.pen.length ∨ 512 < s.out.length then 14
 else if jb s.ins.length (jr s.ins)≠0 then jb s.ins.length (jr s.ins)
 else if jb s.pen.length (kw s.pen)≠0 then jb s.pen.length (kw s.pen)
 else jb s.out.length (kH s.out) from rfl)
 clear h hs a3 U ao;obtain ⟨b1,e1⟩:∃ b,pF s.lin=b:=⟨_,rfl⟩;rw [e1] at g M;clear e1;unfold bK;generalize o8 s=R at *;go_enter Tryz.func12,Tryz.ntmps12;go_upto_region 1 with (fail)
 rw [<-aE.out];clear aE;cases b1 with
 | false =>
   have y:=hid (g.out.trans (if_pos rfl));clear g;go_wp2_with (go_at_call 37;refine (M.out _).mono ?_;rintro e w1 ⟨rfl,a⟩;have f:=hid a;clear a;obtain ⟨D,r,B,F⟩:=n.out _ f.out)
   go_ret
   exact ⟨ax y.out,H.out _ f.out⟩
 | true =>
 have g:=hid (g.out.trans (if_neg (by decide)))
 by_cases s1:s.ser < 0
 case pos =>
  have y:=hid (g.out.trans (if_pos (Or.inl s1)));clear g;go_wp2_with (go_at_call 37;refine (M.out _).mono ?_;rintro e w1 ⟨rfl,a⟩;have f:=hid a;clear a;obtain ⟨D,r,B,F⟩:=n.out _ f.out)
  go_ret
  exact ⟨ax y.out,H.out _ f.out⟩
 case neg =>
 by_cases s2:9007199254740992 < s.ser
 case pos =>
  have y:=hid (g.out.trans (if_pos (Or.inr s2)));clear g;go_wp2_with (go_at_call 37;refine (M.out _).mono ?_;rintro e w1 ⟨rfl,a⟩;have f:=hid a;clear a;obtain ⟨D,r,B,F⟩:=n.out _ f.out)
  go_ret
  exact ⟨ax y.out,H.out _ f.out⟩
 case neg =>
 have g:=hid (g.out.trans (if_neg (by omega)))
 by_cases l0:512 < s.ins.length
 case pos =>
  have o0:(512:Int) < (s.ins.length:Int):=by omega
  have y:=hid (g.out.trans (if_pos (by omega)));clear g l0;go_wp2_with (go_at_call 37;refine (M.out _).mono ?_;rintro e w1 ⟨rfl,a⟩;have f:=hid a;clear a;obtain ⟨D,r,B,F⟩:=n.out _ f.out)
  go_ret
  exact ⟨ax y.out,H.out _ f.out⟩
 case neg =>
 have o0:¬ (512:Int) < (s.ins.length:Int):=by omega
 by_cases l1:512 < s.pen.length
 case pos =>
  have o1:(512:Int) < (s.pen.length:Int):=by omega
  have y:=hid (g.out.trans (if_pos (by omega)));clear g l1;go_wp2_with (go_at_call 37;refine (M.out _).mono ?_;rintro e w1 ⟨rfl,a⟩;have f:=hid a;clear a;obtain ⟨D,r,B,F⟩:=n.out _ f.out)
  go_ret
  exact ⟨ax y.out,H.out _ f.out⟩
 case neg =>
 have o1:¬ (512:Int) < (s.pen.length:Int):=by omega
 by_cases l2:512 < s.out.length
 case pos =>
  have o2:(512:Int) < (s.out.length:Int):=by omega
  have y:=hid (g.out.trans (if_pos (by omega)));clear g l2;go_wp2_with (go_at_call 37;refine (M.out _).mono ?_;rintro e w1 ⟨rfl,a⟩;have f:=hid a;clear a;obtain ⟨D,r,B,F⟩:=n.out _ f.out)
  go_ret
  exact ⟨ax y.out,H.out _ f.out⟩
 case neg =>
 have o2:¬ (512:Int) < (s.out.length:Int):=by omega
 have g:=hid (g.out.trans (if_neg (by omega)));clear l0 l1 l2;go_wp2_with (go_at_call 37;refine (M.out _).mono ?_;rintro e w1 ⟨rfl,a⟩;have f:=hid a;clear a;obtain ⟨D,r,B,F⟩:=n.out _ f.out)
 clear M o0 o1 o2;have m:=hid f.out;clear D r B F;go_loopg [3] s.ins.length (fun gg s9 wr=>∃ k:Nat,k<=s.ins.length/\s.ins.length - k<=gg/\s9=.int .i64 k/\Hid (Below G.heap.size G wr)/\Hid (∀ j,j < k->jr s.ins j=0))
 case atStart=>exact ⟨0,Nat.zero_le _,by omega,rfl,m,hid fun j h=>absurd h (by omega)⟩
 case round =>
  clear m;obtain ⟨k,hk,hg,rfl,i,O⟩:=hrel;obtain ⟨D,r,B,F⟩:=n.out _ i.out
  by_cases I:k < s.ins.length
  case pos =>
   have ac:(k:Int) < (s.ins.length:Int):=by omega
   have o:=hid (su I);have u:=hid (fun (h2:jr s.ins k≠0)=>show R=jr s.ins k from g.out.trans (by rw [l9 I O.out h2,if_pos h2]));have t:=hid (fun (h:jr s.ins k=0)=>show Hid (∀ j,j < k+1->jr s.ins j=0) from hid (Aa O.out h));obtain ⟨b,am,S,rfl,bk,af,hP⟩:=a0.out wr (H.out _ i.out) k I;have T:=hid (fun (W:World) (hW:Below wr.heap.size wr W)=>bb.out s.ins[k] (List.getElem_mem I) S W (dh hW hP));have hX:=dD s.ins[k] S;obtain ⟨l1,l2⟩:=gU hX af;have N:=hid (show Below wr.heap.size wr (wr.alloc (.cells (aH s.ins[k] S) 41)) from (Below.refl _ _).alloc (Nat.le_refl _) _);have aM:=hid (MapKept.heap_alloc wr (.cells (aH s.ins[k] S) 41)).1;have aR:=hid (show (wr.alloc (.cells (aH s.ins[k] S) 41)).heap.size=wr.heap.size+1 by simp);have bg:=hid (show (aH s.ins[k] S)[0]?=some (.string s.ins[k].ad) from rfl);have br:=hid (show (aH s.ins[k] S)[1]?=some (.string s.ins[k].de) from rfl);clear af hP O
   by_cases V:iw s.ins[k]=0
   case neg =>
    have e1:(iw s.ins[k] != 0)=true:=by simp [V]
    have e2:(iw s.ins[k] == 0)=false:=by simp [V]
    have y:=hid (show R=iw s.ins[k] by
     have:jr s.ins k=iw s.ins[k]:=by rw [o.out,if_pos V]
     rw [<-this];exact u.out (by rw [this];exact V))
    clear V o u t g;generalize iw s.ins[k]=E at *;generalize aH s.ins[k] S=X at *;go_wp2_with (go_at_call 20;refine (T.out _ N.out).mono ?_;rintro e w1 ⟨rfl,a⟩;have c:=hid ((i.out.trans (N.out.mono i.out.size)).trans (a.mono (by have:=i.out.size;have:=N.out.size;omega)));have m:=hid a;clear a;obtain ⟨D,r,B,F⟩:=n.out _ c.out)
    go_ret
    exact ⟨ax y.out,H.out _ c.out⟩
   case pos =>
   rw [V] at T;have o:=hid (o.out.trans (if_neg (by rw [V];decide)));clear V
   by_cases J:k=0
   case pos =>
    have Q:=t.out (by rw [o.out,if_neg (by simp [J])]);have bq:decide ((0:Int) < (k:Int))=false:=decide_eq_false (by omega);have a8:decide (0 < k)=false:=decide_eq_false (by omega);have a6:¬ 0 < k:=by omega
    clear o u t J;generalize aH s.ins[k] S=X at *;go_wp2_with (go_at_call 20;refine (T.out _ N.out).mono ?_;rintro e w1 ⟨rfl,a⟩;have c:=hid ((i.out.trans (N.out.mono i.out.size)).trans (a.mono (by have:=i.out.size;have:=N.out.size;omega)));have m:=hid a;clear a;obtain ⟨D,r,B,F⟩:=n.out _ c.out)
    go_quiet (fail)
    have P:=hid (bu c.out nq);go_wp2_with fail
    go_roundg (s.ins.length - (k+1))
    case measure=>omega
    case rel=>exact ⟨k+1,by omega,by omega,by go_num,P,Q⟩
   case neg =>
    have k0:(0:Int)<=(k:Int) - 1:=by omega
    have k1:(k:Int) - 1 < (s.ins.length:Int):=by omega
    have k4:((k:Int) - 1).toNat=k - 1:=by omega
    have k5:wrap64 ((k:Int) - 1)=(k:Int) - 1:=by unfold wrap64;omega
    have k6:(0:Int) < (k:Int):=by omega
    have k9:(k:Int)<=(s.ins.length:Int):=by omega
    have k7:(1:Int)<=(k:Int):=by omega
    have hd:decide ((0:Int) < (k:Int))=true:=decide_eq_true (by omega);have ba:decide (0 < k)=true:=decide_eq_true (by omega);have a7:0 < k:=by omega
    obtain ⟨b',a5,aq,ab,_,aa,bh⟩:=a0.out wr (H.out _ i.out) (k - 1) (by omega);simp only [Option.some.injEq,Addr.mk.injEq] at ab;obtain ⟨rfl,rfl,_⟩:=ab;have hY:=dD (s.ins[k - 1]'(by omega)) aq;obtain ⟨m1,m2⟩:=gU hY aa;have HM:=hid (And.intro m1 m2);have be:=hid (fun (W:World)=>DX s.ins[k].ad s.ins[k].de (s.ins[k - 1]'(by omega)) aq W)
    have A:Hid (jr s.ins k=if dI (s.ins[k].ad,s.ins[k].de) (aP (s.ins[k - 1]'(by omega)))<=0 then 1 else 0):=hid (by
     rw [o.out,getD_at _ (by omega:k - 1 < s.ins.length)];have:=ut (aP (s.ins[k - 1]'(by omega))) (aP s.ins[k]);rw [show dI (s.ins[k].ad,s.ins[k].de) (aP (s.ins[k - 1]'(by omega)))=dI (aP s.ins[k]) (aP (s.ins[k - 1]'(by omega))) from rfl,this]
     by_cases hc:0<=dI (aP (s.ins[k - 1]'(by omega))) (aP s.ins[k])
     . rw [if_pos ⟨J,hc⟩,if_pos (by omega)]
     . rw [if_neg (fun e=>hc e.2),if_neg (by omega)])
    clear o aa bh m1 m2 hY J;generalize dI (s.ins[k].ad,s.ins[k].de) (aP (s.ins[k - 1]'(by omega)))=C at *;generalize s.ins[k].ad=x1 at *;generalize s.ins[k].de=x2 at *;generalize aH s.ins[k] S=X at *;generalize aH (s.ins[k - 1]'(by omega)) aq=Y at *;go_wp2_with (go_at_call 20;refine (T.out _ N.out).mono ?_;rintro e w1 ⟨rfl,a⟩;have c:=hid ((i.out.trans (N.out.mono i.out.size)).trans (a.mono (by have:=i.out.size;have:=N.out.size;omega)));have m:=hid a;clear a;obtain ⟨D,r,B,F⟩:=n.out _ c.out)
    have aD:=hid (N.out.trans (m.out.mono N.out.size));have bc:=ae ((m.out.block wr.heap.size (by have:=aR.out;omega)).trans aM.out) 0 bg.out;have bm:=ae ((m.out.block wr.heap.size (by have:=aR.out;omega)).trans aM.out) 1 br.out
    have bl:=hid (fun (W:World) (hW:Below w1.heap.size w1 W)=>show eG W b (am+(k - 1) * 13)/\ik W b (am+(k - 1) * 13)=Y from by
     have hh:=HM.out.1.below (aD.out.trans (hW.mono aD.out.size));exact ⟨hh.1,hh.2.trans HM.out.2⟩)
    have bB:=fun d os=>cell_regrown r d os;have bL:=fun d os=>cell_regrown bc d os;have bE:=fun d os=>cell_regrown bm d os;refine au (fun k=>match k with | 12=>some (bT (.agg Y)) | 13=>some (bT (.int .i64 C)) | _=>none) (by kernel_rfl) (by kernel_rfl) ?_
    iterate 12 (refine wq ?_;intro K hK;go_big_quiet_op;go_big_quiet_on)
    refine aC (bT (.agg Y)) (by kernel_rfl) rfl ⟨_,rfl⟩ aQ (fun w4 Z ar=>?_) ?_
    . have ap:=ai Z
      obtain ⟨l1,l2⟩:=bl.out w4 ap;clear Z ar ap;go_simp
      exact ⟨kW.refl _,rfl,trivial⟩
    rintro _ rfl
    (refine ay ?_;intro K hK;go_simp;refine hK _ ?_;clear hK K)
    refine aC (bT (.int .i64 C)) (by kernel_rfl) rfl ⟨_,rfl⟩ aQ (fun w4 Z ar=>?_) ?_
    . have ap:=ai Z
      have hh:=be.out w4;clear Z ar ap;go_simp
      go_at_call 38;refine Calls.mono hh ?_;rintro e w5 ⟨rfl,bj⟩;exact ⟨_,rfl,bj,rfl,trivial⟩
    rintro _ rfl
    (refine ay ?_;intro K hK;go_simp;refine hK _ ?_;clear hK K)
    iterate 2 (refine wq ?_;intro K hK;go_big_quiet_op;go_big_quiet_on)
    refine aS ?_;intro w6 a2 bo;have av:=ai a2;clear a2 bo;have aw:=hid (c.out.trans (av.mono c.out.size));clear av
    by_cases hC:C<=0
    case pos =>
     have y:=hid (show R=1 by
      have:jr s.ins k=1:=by rw [A.out,if_pos hC]
      rw [<-this];exact u.out (by rw [this];decide))
     clear A u t g;go_wp2_with fail
     go_ret
     exact ⟨ax y.out,H.out _ aw.out⟩
    case neg =>
     have Q:=t.out (by rw [A.out,if_neg hC]);clear A u t;go_wp2_with fail
     go_roundg (s.ins.length - (k+1))
     case measure=>omega
     case rel=>exact ⟨k+1,by omega,by omega,by go_num,aw,Q⟩
  case neg =>
   have ac:¬ (k:Int) < (s.ins.length:Int):=by omega
   have g:=hid (g.out.trans (if_neg (by rw [iC fun j hj=>O.out j (by omega)];decide)));clear O;go_wp2_with (fail)
   have a1:=hid i.out;clear D r B F;go_loopg [6] s.pen.length (fun gg s9 wr=>∃ k:Nat,k<=s.pen.length/\s.pen.length - k<=gg/\s9=.int .i64 k/\Hid (Below G.heap.size G wr)/\Hid (∀ j,j < k->kw s.pen j=0))
   case atStart=>exact ⟨0,Nat.zero_le _,by omega,rfl,a1,hid fun j h=>absurd h (by omega)⟩
   case round =>
    clear a1;obtain ⟨k,hk,hg,rfl,i,O⟩:=hrel;obtain ⟨D,r,B,F⟩:=n.out _ i.out
    by_cases I:k < s.pen.length
    case pos =>
     have ac:(k:Int) < (s.pen.length:Int):=by omega
     have o:=hid (Lr I);have u:=hid (fun (h2:kw s.pen k=1)=>show R=1 from g.out.trans (by rw [l9 I O.out (by rw [h2];decide),h2,if_pos (by decide)]));have t:=hid (fun (h:kw s.pen k=0)=>show Hid (∀ j,j < k+1->kw s.pen j=0) from hid (Aa O.out h));obtain ⟨b,am,rfl,bk,g0,g1,g2,_⟩:=aL.out wr (H.out _ i.out) k I;have T:=hid (bd.out s.pen[k] (List.getElem_mem I))
     have al:=hid (fun (hk:0 < k)=>show ∃ z,z=(s.pen[k - 1]'(by omega)).tok/\wr.cell? ⟨b,am+(k - 1) * 3+2,none⟩=some (.string z) from by
      obtain ⟨b',a5,ab,_,_,_,bf,_⟩:=aL.out wr (H.out _ i.out) (k - 1) (by omega);simp only [Option.some.injEq,Addr.mk.injEq] at ab;obtain ⟨rfl,rfl,_⟩:=ab;exact ⟨_,rfl,bf⟩)
     have an:=hid (fun (hk:0 < k)=>getD_at (l:=s.pen) (k:=k - 1) Qb (by omega));clear O;obtain ⟨bp,hp⟩:∃ v,sG s.pen[k]=v:=⟨_,rfl⟩;rw [hp] at T o;clear hp;generalize s.pen[k]=x at *;obtain ⟨x1,x2,x3⟩:=x;dsimp only at *;cases bp with
     | false =>
       have y:=hid (u.out (by rw [o.out];rfl));clear o u t g al an;go_wp2_with (go_at_call 39;refine (T.out _).mono ?_;rintro e w1 ⟨rfl,a⟩;have c:=hid (i.out.trans (a.mono i.out.size));have m:=hid a;clear a;obtain ⟨D,r,B,F⟩:=n.out _ c.out;have d2:=az m.out g2)
       go_ret
       exact ⟨ax y.out,H.out _ c.out⟩
     | true =>
     by_cases J:k=0
     case pos =>
      have Q:=t.out (by rw [o.out];simp [J]);have bq:decide ((0:Int) < (k:Int))=false:=decide_eq_false (by omega);have a8:decide (0 < k)=false:=decide_eq_false (by omega);have a6:¬ 0 < k:=by omega
      clear o u t J al an;go_wp2_with (go_at_call 39;refine (T.out _).mono ?_;rintro e w1 ⟨rfl,a⟩;have c:=hid (i.out.trans (a.mono i.out.size));have m:=hid a;clear a;obtain ⟨D,r,B,F⟩:=n.out _ c.out;have d2:=az m.out g2)
      go_quiet (fail)
      have P:=hid (bu c.out nq);go_wp2_with fail
      go_roundg (s.pen.length - (k+1))
      case measure=>omega
      case rel=>exact ⟨k+1,by omega,by omega,by go_num,P,Q⟩
     case neg =>
     obtain ⟨z,hz,gz⟩:=al.out (by omega);have k0:(0:Int)<=(k:Int) - 1:=by omega
     have k1:(k:Int) - 1 < (s.pen.length:Int):=by omega
     have k4:((k:Int) - 1).toNat=k - 1:=by omega
     have k5:wrap64 ((k:Int) - 1)=(k:Int) - 1:=by unfold wrap64;omega
     have k6:(0:Int) < (k:Int):=by omega
     have k9:(k:Int)<=(s.pen.length:Int):=by omega
     have k7:(1:Int)<=(k:Int):=by omega
     have hd:decide ((0:Int) < (k:Int))=true:=decide_eq_true (by omega);have ba:decide (0 < k)=true:=decide_eq_true (by omega);have a7:0 < k:=by omega
     have A:Hid (kw s.pen k=if ug z x3 then 0 else 1):=hid (by rw [o.out,an.out (by omega),<-hz];simp [J]);have q:=zU z x3;clear o an al hz J;generalize ug z x3=L at *;cases L with
     | true =>
       have Q:=t.out (by rw [A.out];rfl);clear A u t;go_wp2_with (go_at_call 39;refine (T.out _).mono ?_;rintro e w1 ⟨rfl,a⟩;have c:=hid (i.out.trans (a.mono i.out.size));have m:=hid a;clear a;obtain ⟨D,r,B,F⟩:=n.out _ c.out;have d2:=az m.out g2;have dz:=az m.out gz)
       go_quiet (fail)
       have P:=hid (bu c.out nq);go_wp2_with fail
       go_roundg (s.pen.length - (k+1))
       case measure=>omega
       case rel=>exact ⟨k+1,by omega,by omega,by go_num,P,Q⟩
     | false =>
       have y:=hid (u.out (by rw [A.out];rfl));clear A u t g;go_wp2_with (go_at_call 39;refine (T.out _).mono ?_;rintro e w1 ⟨rfl,a⟩;have c:=hid (i.out.trans (a.mono i.out.size));have m:=hid a;clear a;obtain ⟨D,r,B,F⟩:=n.out _ c.out;have d2:=az m.out g2;have dz:=az m.out gz)
       go_quiet (fail)
       have P:=hid (bu c.out nq);go_wp2_with fail
       go_ret
       exact ⟨ax y.out,H.out _ P.out⟩
    case neg =>
     have ac:¬ (k:Int) < (s.pen.length:Int):=by omega
     have g:=hid (g.out.trans (if_neg (by rw [iC fun j hj=>O.out j (by omega)];decide)));clear O;go_wp2_with (go_at_call 40;refine (a9.out _ (H.out _ i.out)).mono ?_;rintro e w1 ⟨rfl,a⟩;have c:=hid (i.out.trans (a.mono i.out.size));clear a)
     go_ret
     exact ⟨ax g.out,H.out _ c.out⟩
end Go.Proofs.YtomhbcfjhgecbaaGreatDoor
namespace Go.Proofs.YtomhbcfjhgecbaaGreatDoor
open Go.RowKit Go.Sort Go.ChangeShapes Go.WideShapes Go.ChangeAt
open Adr (WT)
set_option maxRecDepth 100000 in
theorem yG {H:Type} {enc:TypeId × Value->H} {W:World} {base:Nat} {v:Value} {d:DataW H} {p:List MemPlace} (o:Value.okWide Tryz.prog W .any base 26 v) (h:DataW.Trod enc Tryz.prog W 0 (fun _=>true) true 26 v d p) (hw:Blk.Bk 1048576 d) :
  ∃ s sp,v=.agg (bK s sp)/\dQ W s sp/\oV s:=by
 obtain ⟨b,rfl,j⟩:=okWide_struct Tryz.underlying26 o;obtain ⟨c,i⟩:=h;have k:Tryz.prog.cellsOf 26=5:=by kernel_rfl
 have g:(Value.agg b).cells=b:=rfl;rw [g] at i;obtain ⟨s,sp,m,n,f⟩:=TW (Nat.le_refl _) c b.toList (d,p) (by simpa [k] using j) hw i;refine ⟨s,sp,?_,n,⟨fun x a=>?_,fun x a=>?_,fun x a=>?_⟩⟩
 . rw [<-Array.toArray_toList (xs:=b),m,Array.toArray_toList]
 . have:=f.2.1 x a
   exact ⟨by have:=this.1;omega,by have:=this.2.1;omega,fun d l=>by have:=this.2.2.2.2.2 d l;omega⟩
 . have:=f.2.2.1 x a
   have:=this.1;omega
 . have:=f.2.2.2.1 x a
   unfold NQ at this;omega
end Go.Proofs.YtomhbcfjhgecbaaGreatDoor
