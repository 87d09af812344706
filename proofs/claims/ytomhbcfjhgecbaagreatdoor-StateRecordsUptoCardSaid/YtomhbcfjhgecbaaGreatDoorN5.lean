import Derived.Test.YtomhbcfjhgecbaaGreatDoorN1
import Derived.Test.YtomhbcfjhgecbaaGreatDoorN2
import Derived.IntWalk
import Derived.Test.YtomhbcfjhgecbaaGreatDoorN4
import Derived.WalkLawsBesides
import Derived.Sort.Walk0
import Derived.Deep.DeepCutAuto
import Derived.Shelf.GgClosure.Gives
import Derived.Shelf.SlicesQ.Load
import Derived.OneCell
import Derived.Laws.EntriesVeiled
set_option linter.unusedVariables false
set_option linter.unusedSimpArgs false
namespace Go.Proofs.YtomhbcfjhgecbaaGreatDoor
open Go.RowKit Go.Sort Go.Lib
theorem below_drewN {B:Nat} {a w:World} (h:Below B a w) (n:Nat):Below B a (w.drewN n):=Adr.below_drewN h n
abbrev JE:=Adr.JE
theorem wF (l:List UInt8):bU l<=1+l.length/\(bU l=0 ∨ l=[] ∨ bU l<=l.length):=Adr.wF l
theorem kD (s:ByteArray) (i:Nat) (w:World) (hi:i < s.size) (hs:s.size<=100000) :
 Calls Tryz.prog 127 #[.string s,.int .i64 i] w (JE (bU (s.data.toList.drop i)) w):=Adr.kD s i w hi (by omega)
mutual
def uM:Val->Val->Bool
 | .mk k n s is ks,.mk k' n' s' is' ks'=>decide (k=k') && decide (n=n') && decide (s=s') && decide (ks=ks') && CQ is is'
def CQ:List Val->List Val->Bool
 | [],[]=>true
 | x :: xs,y :: ys=>uM x y && CQ xs ys
 | _,_=>false
end
mutual
def jH:Val->Val->Bool
 | .mk k n s is ks,.mk k' n' s' is' ks'=>decide (k'=6) || (decide (k=k') && decide (n=n') && decide (s=s') && decide (ks=ks') && kQ is is')
def kQ:List Val->List Val->Bool
 | [],[]=>true
 | x :: xs,y :: ys=>jH x y && kQ xs ys
 | _,_=>false
end
mutual
def dR:Val->Bool
 | .mk k _ _ is _=>!decide (k=6) && gI is
def gI:List Val->Bool
 | []=>true
 | x :: xs=>dR x && gI xs
end
theorem GZ (a b:Val):uM a b=(decide (a.kind=b.kind) && decide (a.num=b.num) && decide (a.str=b.str) && decide (a.keys=b.keys) && CQ a.items b.items):=by cases a;cases b;rw [uM];rfl
theorem qx (a b:Val):jH a b=(decide (b.kind=6) || (decide (a.kind=b.kind) && decide (a.num=b.num) && decide (a.str=b.str) && decide (a.keys=b.keys) && kQ a.items b.items)):=by cases a;cases b;rw [jH];rfl
theorem uo (a:Val):dR a=(!decide (a.kind=6) && gI a.items):=by cases a;rw [dR];rfl
theorem Val.ext' {a b:Val} (h1:a.kind=b.kind) (h2:a.num=b.num) (h3:a.str=b.str) (h4:a.items=b.items) (h5:a.keys=b.keys):a=b:=by
 cases a;cases b;simp only [Val.kind,Val.num,Val.str,Val.items,Val.keys] at h1 h2 h3 h4 h5;subst h1 h2 h3 h4 h5;rfl
theorem O9 (a:Val):∀ b,uM a b=true ↔ a=b:=by
 refine Val.ind (P:=fun a=>∀ b,uM a b=true ↔ a=b) ?_ a;intro a l b
 have f:∀ (d:List Val),(∀ y∈d,∀ b,uM y b=true ↔ y=b)->∀ c,CQ d c=true ↔ d=c:=by
  intro d
  induction d with
  | nil=>intro _ c;cases c <;> simp [CQ]
  | cons x d ihx =>
    intro h c;cases c with
    | nil=>simp [CQ]
    | cons y c=>rw [CQ,Bool.and_eq_true,h x List.mem_cons_self,ihx (fun z i=>h z (List.mem_cons_of_mem _ i))];simp
 rw [GZ];simp only [Bool.and_eq_true,decide_eq_true_eq,f a.items l];constructor
 . rintro ⟨⟨⟨⟨m,n⟩,k⟩,g⟩,j⟩;exact Val.ext' m n k j g
 . rintro rfl;exact ⟨⟨⟨⟨rfl,rfl⟩,rfl⟩,rfl⟩,rfl⟩
theorem Ub (a:Val):jH a a=true:=by
 refine Val.ind (P:=fun a=>jH a a=true) ?_ a;intro a f
 have c:∀ (b:List Val),(∀ y∈b,jH y y=true)->kQ b b=true:=by
  intro b
  induction b with
  | nil=>intro _;rfl
  | cons x b ihx=>intro h;rw [kQ,h x List.mem_cons_self,ihx (fun z d=>h z (List.mem_cons_of_mem _ d))];rfl
 rw [qx,c a.items f];simp
theorem QN (a b:Val) (h:b.kind=6):jH a b=true:=by rw [qx];simp [h]
theorem TD (a:Val):∀ b c,jH a b=true->jH b c=true->jH a c=true:=by
 refine Val.ind (P:=fun a=>∀ b c,jH a b=true->jH b c=true->jH a c=true) ?_ a;intro a q b c j i
 have n:∀ (g:List Val),(∀ y∈g,∀ b c,jH y b=true->jH b c=true->jH y c=true)->∀ d f,kQ g d=true->kQ d f=true->kQ g f=true:=by
  intro g
  induction g with
  | nil=>intro _ d f k l;cases d <;> simp_all [kQ]
  | cons x g ihx =>
    intro h d f k l;cases d with
    | nil=>simp [kQ] at k
    | cons y d =>
      cases f with
      | nil=>simp [kQ] at l
      | cons z f =>
        rw [kQ,Bool.and_eq_true] at k l ⊢;exact ⟨h x List.mem_cons_self y z k.1 l.1,ihx (fun z v=>h z (List.mem_cons_of_mem _ v)) d f k.2 l.2⟩
 rw [qx] at j i ⊢
 by_cases m:c.kind=6
 . simp [m]
 . simp only [m,decide_false,Bool.false_or,Bool.and_eq_true,decide_eq_true_eq] at i
   obtain ⟨⟨⟨⟨o,r⟩,A⟩,E⟩,C⟩:=i;have t:¬ b.kind=6:=by rw [o];exact m
   simp only [t,decide_false,Bool.false_or,Bool.and_eq_true,decide_eq_true_eq] at j;obtain ⟨⟨⟨⟨B,p⟩,D⟩,s⟩,u⟩:=j;simp only [m,decide_false,Bool.false_or,Bool.and_eq_true,decide_eq_true_eq];exact ⟨⟨⟨⟨B.trans o,p.trans r⟩,D.trans A⟩,s.trans E⟩,n a.items q _ _ u C⟩
inductive zo:Val->Prop where
 | mk (x:Val) (h1:x.kind=6->x.num=0/\x.str=⟨#[]⟩/\x.items=[]/\x.keys=[]) (h3:∀ y∈x.items,zo y):zo x
theorem zo.items {x y:Val} (h:zo x) (hy:y∈x.items):zo y:=by cases h;rename_i h1 h3;exact h3 y hy
theorem zo.self {x:Val} (h:zo x) (hk:x.kind=6):x.num=0/\x.str=⟨#[]⟩/\x.items=[]/\x.keys=[]:=by cases h;rename_i h1 h3;exact h1 hk
theorem UK (a:Val):∀ b,zo a->zo b->jH a b=true->jH b a=true->a=b:=by
 refine Val.ind (P:=fun a=>∀ b,zo a->zo b->jH a b=true->jH b a=true->a=b) ?_ a;intro a v b s u j f
 have t:∀ (d:List Val),(∀ y∈d,∀ b,zo y->zo b->jH y b=true->jH b y=true->y=b)->∀ c,(∀ y∈d,zo y)->(∀ y∈c,zo y)->kQ d c=true->kQ c d=true->d=c:=by
  intro d
  induction d with
  | nil=>intro _ c _ _ l n;cases c <;> simp_all [kQ]
  | cons x d ihx =>
    intro h c u1 u2 l n;cases c with
    | nil=>simp [kQ] at l
    | cons y c =>
      rw [kQ,Bool.and_eq_true] at l n;rw [h x List.mem_cons_self y (u1 x List.mem_cons_self) (u2 y List.mem_cons_self) l.1 n.1,ihx (fun z k=>h z (List.mem_cons_of_mem _ k)) c (fun z k=>u1 z (List.mem_cons_of_mem _ k)) (fun z k=>u2 z (List.mem_cons_of_mem _ k)) l.2 n.2]
 rw [qx] at j f
 by_cases i:b.kind=6
 . by_cases g:a.kind=6
   . obtain ⟨A,B,D,E⟩:=s.self g
     obtain ⟨m,o,r,p⟩:=u.self i;exact Val.ext' (g.trans i.symm) (A.trans m.symm) (B.trans o.symm) (D.trans r.symm) (E.trans p.symm)
   . simp only [g,decide_false,Bool.false_or,Bool.and_eq_true,decide_eq_true_eq] at f
     exact absurd (f.1.1.1.1.symm.trans i) g
 . simp only [i,decide_false,Bool.false_or,Bool.and_eq_true,decide_eq_true_eq] at j
   obtain ⟨⟨⟨⟨m,o⟩,r⟩,p⟩,C⟩:=j;have g:¬ a.kind=6:=by rw [m];exact i
   simp only [g,decide_false,Bool.false_or,Bool.and_eq_true,decide_eq_true_eq] at f;exact Val.ext' m o r (t a.items v b.items (fun y q=>s.items q) (fun y q=>u.items q) C f.2) p
theorem TG (a:Val):∀ b,dR b=true->jH a b=true->a=b:=by
 refine Val.ind (P:=fun a=>∀ b,dR b=true->jH a b=true->a=b) ?_ a;intro a m b i f
 have k:∀ (d:List Val),(∀ y∈d,∀ b,dR b=true->jH y b=true->y=b)->∀ c,gI c=true->kQ d c=true->d=c:=by
  intro d
  induction d with
  | nil=>intro _ c _ g;cases c <;> simp_all [kQ]
  | cons x d ihx =>
    intro h c j g;cases c with
    | nil=>simp [kQ] at g
    | cons y c =>
      rw [kQ,Bool.and_eq_true] at g;rw [gI,Bool.and_eq_true] at j;rw [h x List.mem_cons_self y j.1 g.1,ihx (fun z p=>h z (List.mem_cons_of_mem _ p)) c j.2 g.2]
 rw [qx] at f;rw [uo] at i;simp only [Bool.and_eq_true,Bool.not_eq_true',decide_eq_false_iff_not] at i;simp only [i.1,decide_false,Bool.false_or,Bool.and_eq_true,decide_eq_true_eq] at f;obtain ⟨⟨⟨⟨q,l⟩,r⟩,n⟩,o⟩:=f;exact Val.ext' q l r (k a.items m b.items i.2 o) n
theorem Tu (a:Val):∀ b,zo b->jH a b=true->nodes b<=nodes a:=by
 refine Val.ind (P:=fun a=>∀ b,zo b->jH a b=true->nodes b<=nodes a) ?_ a;intro a m b l f
 have j:∀ (d:List Val),(∀ y∈d,∀ b,zo b->jH y b=true->nodes b<=nodes y)->∀ c,(∀ y∈c,zo y)->kQ d c=true->gq c<=gq d:=by
  intro d
  induction d with
  | nil=>intro _ c _ g;cases c <;> simp_all [kQ]
  | cons x d ihx =>
    intro h c u g;cases c with
    | nil=>simp [kQ] at g
    | cons y c =>
      rw [kQ,Bool.and_eq_true] at g;have o:=h x List.mem_cons_self y (u y List.mem_cons_self) g.1;have p:=ihx (fun z i=>h z (List.mem_cons_of_mem _ i)) c (fun z i=>u z (List.mem_cons_of_mem _ i)) g.2;rw [gq,gq];omega
 rw [qx] at f;rw [nM,nM]
 by_cases k:b.kind=6
 . rw [(l.self k).2.2.1];simp [gq]
 . simp only [k,decide_false,Bool.false_or,Bool.and_eq_true,decide_eq_true_eq] at f
   have:=j a.items m b.items (fun y n=>l.items n) f.2;omega
open Go.Lib (hid)
theorem Qk {a b:List Val} (h:a.length≠b.length):CQ a b=false:=by
 induction a generalizing b with
 | nil=>cases b with
   | nil=>exact absurd rfl h
   | cons y ys=>rfl
 | cons x xs ih=>cases b with
   | nil=>rfl
   | cons y ys=>rw [CQ,ih (by simpa using h)];simp
theorem xx {a b:List Val} : CQ a b=true ↔ a.length=b.length/\∀ i (h:i < a.length) (h':i < b.length),uM a[i] b[i]=true:=by
 induction a generalizing b with
 | nil=>cases b with
   | nil=>exact ⟨fun _=>⟨rfl,fun i h=>absurd h (by simp)⟩,fun _=>rfl⟩
   | cons y ys=>simp [CQ]
 | cons x xs ih=>cases b with
   | nil=>simp [CQ]
   | cons y ys =>
     rw [CQ,Bool.and_eq_true,ih];constructor
     . rintro ⟨f,d,c⟩
       refine ⟨by simp [d],fun i h h'=>?_⟩;cases i with
       | zero=>exact f
       | succ i=>exact c i (by simpa using h) (by simpa using h')
     . rintro ⟨d,c⟩
       exact ⟨c 0 (by simp) (by simp),by simpa using d,fun i h h'=>c (i+1) (by simpa using h) (by simpa using h')⟩
theorem Jg {a b:List Val} (hl:a.length=b.length) (i:Nat) (h:i < a.length) (hi:uM a[i] b[i]=false):CQ a b=false:=by
 rw [Bool.eq_false_iff];intro e;have:=(xx.1 e).2 i h (by omega);rw [hi] at this;cases this
theorem ry {a b:List ByteArray} (hl:a.length=b.length) (h:∀ i (h:i < a.length) (h':i < b.length),a[i]=b[i]):a=b:=List.ext_getElem hl fun i h1 h2=>h i h1 h2
set_option maxRecDepth 100000 in
set_option maxHeartbeats 2000000 in
theorem OJ (x:Val):∀ (y:Val) (r:Option Addr) (c:Nat) (rk:Option Addr) (ck:Nat) (r2:Option Addr) (c2:Nat) (rk2:Option Addr) (ck2:Nat) (w:World),jJ w r c rk ck x->jJ w r2 c2 rk2 ck2 y ->
  Calls Tryz.prog 47 #[.agg #[.int .i64 x.kind,.int .i64 x.num,.string x.str,.slice r x.items.length c,.slice rk x.keys.length ck],.agg #[.int .i64 y.kind,.int .i64 y.num,.string y.str,.slice r2 y.items.length c2,.slice rk2 y.keys.length ck2]] w fun e w'=>e=.returned (.bool (uM x y))/\Below w.heap.size w w':=by
 refine Val.ind (P:=fun x=>∀ (y:Val) (r:Option Addr) (c:Nat) (rk:Option Addr) (ck:Nat) (r2:Option Addr) (c2:Nat) (rk2:Option Addr) (ck2:Nat) (w:World),jJ w r c rk ck x->jJ w r2 c2 rk2 ck2 y ->
  Calls Tryz.prog 47 #[.agg #[.int .i64 x.kind,.int .i64 x.num,.string x.str,.slice r x.items.length c,.slice rk x.keys.length ck],.agg #[.int .i64 y.kind,.int .i64 y.num,.string y.str,.slice r2 y.items.length c2,.slice rk2 y.keys.length ck2]] w fun e w'=>e=.returned (.bool (uM x y))/\Below w.heap.size w w') ?_ x
 intro x ih y r c rk ck r2 c2 rk2 ck2 w hx hy;obtain ⟨hI,hK,_,_,_,be,bd⟩:=hx.parts;obtain ⟨Y,aa,_,_,_,a4,a6⟩:=hy.parts;have HI:=hid hI;have HK:=hid hK;have aq:=hid Y;have a1:=hid aa;obtain ⟨_,a8,bb⟩:=bi hI;obtain ⟨_,a9,bc⟩:=bi hK;obtain ⟨_,a7,a3⟩:=bi Y;obtain ⟨_,a5,a2⟩:=bi aa;have m:=hid (GZ x y);have IH:=hid ih;clear ih hI hK hx Y aa hy;generalize x.kind=S at *;generalize x.num=T at *;generalize x.str=xs at *;generalize y.kind=yk at *;generalize y.num=yn at *;generalize y.str=ys at *;generalize aM:uM x y=A at *;clear aM;generalize u:x.items=f at *;clear u;generalize u:x.keys=g at *;clear u;generalize u:y.items=a at *;clear u;generalize u:y.keys=d at *;clear u;have B:=hid (show Below w.heap.size w ((w.alloc (.cells #[.int .i64 S,.int .i64 T,.string xs,.slice r f.length c,.slice rk g.length ck] 39)).alloc (.cells #[.int .i64 yk,.int .i64 yn,.string ys,.slice r2 a.length c2,.slice rk2 d.length ck2] 39)) from ((Below.refl _ _).alloc (Nat.le_refl _) _).alloc (by simp) _)
 by_cases h1:S=yk
 case neg =>
  have C:=hid (show A=false by rw [m.out];simp [h1]);have Z:(S != yk)=true:=by simpa using h1
  have e2:(S == yk)=false:=by simpa using h1
  clear h1;go_enter Tryz.func47,Tryz.ntmps47;go_wp2
  go_ret
  exact ⟨ah C.out,B.out⟩
 subst h1
 by_cases V:T=yn
 case neg =>
  have C:=hid (show A=false by rw [m.out];simp [V]);have Z:(T != yn)=true:=by simpa using V
  have e2:(T == yn)=false:=by simpa using V
  clear V;go_enter Tryz.func47,Tryz.ntmps47;go_wp2
  go_ret
  exact ⟨ah C.out,B.out⟩
 subst V
 by_cases h3:xs=ys
 case neg =>
  have C:=hid (show A=false by rw [m.out];simp [h3]);have Z:=jU h3;have e2:=fP h3;clear h3;go_enter Tryz.func47,Tryz.ntmps47;go_wp2
  go_ret
  exact ⟨ah C.out,B.out⟩
 subst h3
 by_cases h4:f.length=a.length
 case neg =>
  have C:=hid (show A=false by rw [m.out];rw [Qk h4];simp);have Z:((f.length:Int) != (a.length:Int))=true:=by simp;omega
  have e2:((f.length:Int) == (a.length:Int))=false:=by simp;omega
  clear h4;go_enter Tryz.func47,Tryz.ntmps47;go_wp2
  go_ret
  exact ⟨ah C.out,B.out⟩
 by_cases I:g.length=d.length
 case neg =>
  have C:=hid (show A=false by rw [m.out];rw [decide_eq_false (show ¬ g=d from fun e=>I (by rw [e]))];simp);have Z:((g.length:Int) != (d.length:Int))=true:=by simp;omega
  have e2:((g.length:Int) == (d.length:Int))=false:=by simp;omega
  have e3:((f.length:Int) != (a.length:Int))=false:=by simp;omega
  have e4:((f.length:Int) == (a.length:Int))=true:=by simp;omega
  clear h4;clear I;go_enter Tryz.func47,Tryz.ntmps47;go_wp2
  go_ret
  exact ⟨ah C.out,B.out⟩
 have e3:((f.length:Int) != (a.length:Int))=false:=by simp;omega
 have e4:((f.length:Int) == (a.length:Int))=true:=by simp;omega
 have e5:((g.length:Int) != (d.length:Int))=false:=by simp;omega
 have aE:((g.length:Int) == (d.length:Int))=true:=by simp;omega
 have H4:=hid h4;have H5:=hid I;have m:=hid (show A=(decide (g=d) && CQ f a) by rw [m.out];simp);clear h4 I;go_enter Tryz.func47,Tryz.ntmps47;go_wp2
 clear e3 e4 e5 aE;generalize E:((w.alloc (.cells #[.int .i64 S,.int .i64 T,.string xs,.slice r f.length c,.slice rk g.length ck] 39)).alloc (.cells #[.int .i64 S,.int .i64 T,.string xs,.slice r2 a.length c2,.slice rk2 d.length ck2] 39))=F at *;have c3:F.cell? ⟨w.heap.size,3,none⟩=some (.slice r f.length c):=by rw [<-E];exact (az ((Below.refl _ _).alloc (Nat.le_refl _) _) (aX rfl rfl))
 have K:F.cell? ⟨w.heap.size,4,none⟩=some (.slice rk g.length ck):=by rw [<-E];exact (az ((Below.refl _ _).alloc (Nat.le_refl _) _) (aX rfl rfl))
 have X:F.cell? ⟨w.heap.size+1,3,none⟩=some (.slice r2 a.length c2):=by rw [<-E];exact aX (by simp) rfl
 have O:F.cell? ⟨w.heap.size+1,4,none⟩=some (.slice rk2 d.length ck2):=by rw [<-E];exact aX (by simp) rfl
 clear E;have C3:=hid c3;have C4:=hid K;have D3:=hid X;have D4:=hid O;clear c3 K X O;go_loopg [5] g.length (fun gg s5 wr=>∃ k:Nat,k<=g.length/\g.length - k<=gg/\s5=.int .i64 k/\Aside (Below F.heap.size F wr)/\Aside (∀ i (h:i < g.length) (p:i < d.length),i < k->g[i]=d[i]))
 case atStart=>exact ⟨0,Nat.zero_le _,by omega,rfl,Below.refl _ _,fun i _ _ h=>absurd h (by omega)⟩
 case round =>
  obtain ⟨k,hk,hg,rfl,l,s⟩:=hrel;have K:=az l.out C4.out;have O:=az l.out D4.out;have c3:=az l.out C3.out;have X:=az l.out D3.out;have Q:=World.block_lt_of_cell? _ _ K;have R:=World.block_lt_of_cell? _ _ O;simp only at Q R;have q:=hid (B.out.trans (l.out.mono B.out.size))
  by_cases D:k < g.length
  case pos =>
   have M:(k:Int) < (g.length:Int):=by omega
   have N:k < d.length:=by have:=H5.out;omega
   have ab:(k:Int) < (d.length:Int):=by omega
   have af:=HK.out.below bP q.out;have al:=a1.out.below bP q.out;obtain ⟨b,aL,rfl,hb,g0,_⟩:=iT af k D;obtain ⟨b2,an,rfl,aR,g1,_⟩:=iT al k N;have z:=hid l.out;clear af al l;have H:=iy wr
   by_cases o:g[k]=d[k]
   . have U:=hid (show ∀ i (h:i < g.length) (p:i < d.length),i < k+1->g[i]=d[i] from fun i h p hi=>by
      by_cases e:i < k
      . exact s.out i h p e
      . obtain rfl:i=k:=by omega
        exact o)
     clear s;rw [<-o] at g1;clear o;generalize g[k]=kx at *;go_wp2
     refine wp_region_quiet_below (by kernel_rfl) (by kernel_rfl) ?_
     repeat (first | go_big_quiet_step (fail) | quiet_step (fail))
     refine wpQuiet_nil ?_;intro _ t;obtain ⟨⟨J,v⟩,n⟩:=t;subst n;clear H;have L:=hid (z.out.trans ((below_regrown wr J v).mono z.out.size));go_wp2
     go_roundg (g.length - (k+1))
     case measure=>omega
     case rel=>exact ⟨k+1,by omega,by omega,by go_num,L.out,U.out⟩
   . have m:=hid (show A=false by rw [m.out,decide_eq_false (show ¬ g=d from fun e=>o (by simp only [e]))];simp)
     have Z:=jU o;have e2:=fP o;clear s o;generalize g[k]=kx at *;generalize d[k]=ky at *;go_wp2
     refine wp_region_quiet_below (by kernel_rfl) (by kernel_rfl) ?_
     repeat (first | go_big_quiet_step (fail) | quiet_step (fail))
     refine wpQuiet_nil ?_;intro _ t;obtain ⟨⟨J,v⟩,n⟩:=t;subst n;clear H;have L:=hid (q.out.trans ((below_regrown wr J v).mono q.out.size));go_wp2
     go_ret
     exact ⟨ah m.out,L.out⟩
  case neg =>
  have M:¬ (k:Int) < (g.length:Int):=by omega
  have m:=hid (show A=CQ f a by
   have e:g=d:=ry H5.out fun i h p=>s.out i h p (by omega);rw [m.out,decide_eq_true e];simp)
  have z:=hid l.out;clear s l;obtain ⟨W1,rfl⟩:∃ W1:World,W1=wr:=⟨_,rfl⟩;go_wp2
  clear c3 K X O Q R;go_loopg [6] f.length (fun gg s6 wr=>∃ k:Nat,k<=f.length/\f.length - k<=gg/\s6=.int .i64 k/\Aside (Below F.heap.size F wr)/\Aside (∀ i (h:i < f.length) (p:i < a.length),i < k->uM f[i] a[i]=true))
  case atStart=>exact ⟨0,Nat.zero_le _,by omega,rfl,z.out,fun i _ _ h=>absurd h (by omega)⟩
  case round =>
   clear q;obtain ⟨j,hj,ba,rfl,l,s⟩:=hrel;have K:=az l.out C4.out;have O:=az l.out D4.out;have c3:=az l.out C3.out;have X:=az l.out D3.out;have Q:=World.block_lt_of_cell? _ _ K;have R:=World.block_lt_of_cell? _ _ O;simp only at Q R;have q:=hid (B.out.trans (l.out.mono B.out.size))
   by_cases D:j < f.length
   case pos =>
    have M:(j:Int) < (f.length:Int):=by omega
    have N:j < a.length:=by have:=H4.out;omega
    have ab:(j:Int) < (a.length:Int):=by omega
    have ad:=iq HI.out q.out;have ac:=iq aq.out q.out;obtain ⟨b,aL,ri,ci,a0,ar,rfl,hb,g0,g1,g2,g3,g4,I⟩:=lC ad j D;obtain ⟨b2,an,aw,av,ao,am,rfl,aR,f0,f1,f2,f3,f4,h6⟩:=lC ac j N;have G:=hid (fun (W:World) (hW:Below wr.heap.size wr W)=>IH.out _ (List.getElem_mem D) a[j] ri ci a0 ar aw av ao am W (I.below hW) (h6.below hW));have z:=hid l.out;clear ad ac l I h6;have H:=iy wr;cases o:uM f[j] a[j]
    case true =>
     have U:=hid (show ∀ i (h:i < f.length) (p:i < a.length),i < j+1->uM f[i] a[i]=true from fun i h p hi=>by
      by_cases e:i < j
      . exact s.out i h p e
      . obtain rfl:i=j:=by omega
        exact o)
     rw [o] at G;clear s o;generalize f[j]=vx at *;generalize a[j]=vy at *;obtain ⟨vk,vn,vs,vi,ap⟩:=vx;obtain ⟨uk,un,us,ui,aD⟩:=vy;simp only [Val.kind,Val.num,Val.str,Val.items,Val.keys] at g0 g1 g2 g3 g4 f0 f1 f2 f3 f4 G;go_wp2
     refine wp_region_quiet_below (by kernel_rfl) (by kernel_rfl) ?_
     repeat (first | go_big_quiet_step (exact Calls.regrown_of (G.out _ (below_regrown _ _ _))) | quiet_step (exact Calls.regrown_of (G.out _ (below_regrown _ _ _))))
     refine wpQuiet_nil ?_;intro _ t;obtain ⟨⟨J,v⟩,n⟩:=t;subst n;clear H;have L:=hid (z.out.trans ((below_regrown wr J v).mono z.out.size));go_wp2
     go_roundg (f.length - (j+1))
     case measure=>omega
     case rel=>exact ⟨j+1,by omega,by omega,by go_num,L.out,U.out⟩
    case false =>
     have m:=hid (show A=false from m.out.trans (Jg H4.out j D o));rw [o] at G;clear s o;generalize f[j]=vx at *;generalize a[j]=vy at *;obtain ⟨vk,vn,vs,vi,ap⟩:=vx;obtain ⟨uk,un,us,ui,aD⟩:=vy;simp only [Val.kind,Val.num,Val.str,Val.items,Val.keys] at g0 g1 g2 g3 g4 f0 f1 f2 f3 f4 G;go_wp2
     refine wp_region_quiet_below (by kernel_rfl) (by kernel_rfl) ?_
     repeat (first | go_big_quiet_step (exact Calls.regrown_of (G.out _ (below_regrown _ _ _))) | quiet_step (exact Calls.regrown_of (G.out _ (below_regrown _ _ _))))
     refine wpQuiet_nil ?_;intro _ t;obtain ⟨⟨J,v⟩,n⟩:=t;subst n;clear H;have L:=hid (q.out.trans ((below_regrown wr J v).mono q.out.size));go_wp2
     go_ret
     exact ⟨ah m.out,L.out⟩
   case neg =>
   have M:¬ (j:Int) < (f.length:Int):=by omega
   have m:=hid (show A=true from m.out.trans (xx.2 ⟨H4.out,fun i h p=>s.out i h p (by omega)⟩));clear s l;go_wp2
   go_ret
   exact ⟨ah m.out,q.out⟩
theorem qV (a b:List Val):gI (a ++ b)=(gI a && gI b):=by
 induction a with
 | nil=>simp [gI]
 | cons x xs ih=>simp only [List.cons_append,gI,ih,Bool.and_assoc]
theorem EJ {is:List Val} {k:Nat} (h:k < is.length):gI (is.take (k+1))=(gI (is.take k) && dR is[k]):=by
 rw [List.take_succ_eq_append_getElem h,qV];simp [gI]
theorem Jy {is:List Val} {k:Nat} (h:k < is.length) (hk:dR is[k]=false):gI is=false:=by
 rw [<-List.take_append_drop k is,qV,List.drop_eq_getElem_cons h,gI,hk];simp
set_option maxRecDepth 100000 in
theorem wP (x:Val):∀ (r:Option Addr) (c:Nat) (rk:Option Addr) (ck:Nat) (w:World),jJ w r c rk ck x ->
  Calls Tryz.prog 62 #[.agg #[.int .i64 x.kind,.int .i64 x.num,.string x.str,.slice r x.items.length c,.slice rk x.keys.length ck]] w fun e w'=>e=.returned (.bool (dR x))/\Below w.heap.size w w':=by
 refine Val.ind (P:=fun x=>∀ (r:Option Addr) (c:Nat) (rk:Option Addr) (ck:Nat) (w:World),jJ w r c rk ck x ->
  Calls Tryz.prog 62 #[.agg #[.int .i64 x.kind,.int .i64 x.num,.string x.str,.slice r x.items.length c,.slice rk x.keys.length ck]] w fun e w'=>e=.returned (.bool (dR x))/\Below w.heap.size w w') ?_ x
 intro x D r c rk ck w H;obtain ⟨t,X,_,_,_,af,ab⟩:=H.parts;obtain ⟨_,aa,ad⟩:=bi t;have Y:=hid t;have d:=hid (uo x);have V:=hid D;clear D t X H;generalize x.kind=n at *;generalize x.num=L at *;generalize x.str=J at *;generalize x.keys.length=s at *;generalize M:dR x=z at *;clear M;generalize F:x.items=a at *;clear F;have G:=hid (show Below w.heap.size w (w.alloc (.cells #[.int .i64 n,.int .i64 L,.string J,.slice r a.length c,.slice rk s ck] 39)) from (Below.refl _ _).alloc (Nat.le_refl _) _)
 by_cases q:n=6
 . subst q
   have d:=hid (show z=false by rw [d.out];simp);go_enter Tryz.func62,Tryz.ntmps62;go_wp2
   go_ret
   exact ⟨ah d.out,G.out⟩
 have e6:(n == 6)=false:=by simpa using q
 have d:=hid (show z=gI a by rw [d.out];simp [q]);clear q;go_enter Tryz.func62,Tryz.ntmps62;go_wp2
 go_loopg [3] a.length (fun U N wr=>∃ k:Nat,k<=a.length/\a.length - k<=U/\N=.int .i64 k/\Aside (gI (a.take k)=true)/\Aside (Below (w.heap.size+1) (w.alloc (.cells #[.int .i64 n,.int .i64 L,.string J,.slice r a.length c,.slice rk s ck] 39)) wr))
 case atStart=>exact ⟨0,Nat.zero_le _,by omega,rfl,by rw [List.take_zero];rfl,Below.refl _ _⟩
 case round =>
  obtain ⟨k,R,hg,rfl,j,m⟩:=hrel;have q3:wr.cell? ⟨w.heap.size,3,none⟩=some (.slice r a.length c):=(m.out.cell (p:=⟨w.heap.size,3,none⟩) (by simp)).trans (aX rfl rfl);have l:=hid (G.out.trans (m.out.mono (by simp)))
  by_cases g:k < a.length
  . have A:(k:Int) < (a.length:Int):=by omega
    obtain ⟨b,ac,O,ci,E,K,rfl,hb,g0,Q,g2,T,g4,B⟩:=lC (iq Y.out l.out) k g;have C:=hid (V.out _ (List.getElem_mem g) O ci E K wr B);have o:=hid (EJ g);have u:=hid (Jy g);clear B;generalize a[k]=y at *;obtain ⟨W,yn,Z,S,I⟩:=y;simp only [Val.kind,Val.num,Val.str,Val.items,Val.keys] at g0 Q g2 T g4 C;cases i:dR (.mk W yn Z S I)
    . have d:=hid (d.out.trans (u.out i))
      rw [i] at C;clear o u i j;go_wp2_with fail
      refine C.out.mono ?_;rintro e w1 ⟨rfl,f⟩;have v:=hid (l.out.trans (f.mono l.out.size));clear f;go_wp2
      go_ret
      exact ⟨ah d.out,v.out⟩
    . have o:=hid (show gI (a.take (k+1))=true by rw [o.out,j.out,i];rfl)
      rw [i] at C;clear u i j;go_wp2_with fail
      refine C.out.mono ?_;rintro e w1 ⟨rfl,f⟩;have v:=hid (m.out.trans (f.mono (by have:=m.out.size;simpa using this)));clear f;go_wp2
      go_roundg (a.length - (k+1))
      case measure=>omega
      case rel=>exact ⟨k+1,by omega,by omega,by go_num,o.out,v.out⟩
  . have A:¬ (k:Int) < (a.length:Int):=by omega
    have d:=hid (show z=true by
     have:=j.out;rw [show k=a.length by omega,List.take_length] at this;exact d.out.trans this)
    clear g R j;go_wp2
    go_ret
    exact ⟨ah d.out,l.out⟩
theorem pV {a b:ByteArray} (h:a.data.toList < b.data.toList):Op.bytesLess a.toList b.toList=true:=by
 rw [Go.Proofs.bytesLess_eq,decide_eq_true_eq,ByteArray.toList_eq,ByteArray.toList_eq];exact h
theorem Bi {a b:ByteArray} (h:¬ a.data.toList < b.data.toList):Op.bytesLess a.toList b.toList=false:=by
 rw [Go.Proofs.bytesLess_eq,decide_eq_false_iff_not,ByteArray.toList_eq,ByteArray.toList_eq];exact h
theorem F8 (a b:ByteArray) (w:World):Calls Tryz.prog 85 #[.string a,.string b] w fun e w'=>e=.returned (.int .i64 (dL a b))/\w=w':=by
 have c:=hid (show dL a b=if a.data.toList < b.data.toList then -1 else if b.data.toList < a.data.toList then 1 else 0 from rfl)
 by_cases d:a.data.toList < b.data.toList
 . have c:=hid (c.out.trans (if_pos d))
   have g:=pV d;clear d;go_enter Tryz.func85,Tryz.ntmps85;go_wp2
   go_ret
   exact ⟨ax c.out,rfl⟩
 have g:=Bi d
 by_cases f:b.data.toList < a.data.toList
 . have c:=hid (c.out.trans ((if_neg d).trans (if_pos f)))
   have i:=pV f;have j:=fP (show a≠b from fun e=>List.lt_irrefl _ (by rw [e] at f;exact f));clear d f;go_enter Tryz.func85,Tryz.ntmps85;go_wp2
   go_ret
   exact ⟨ax c.out,rfl⟩
 have c:=hid (c.out.trans ((if_neg d).trans (if_neg f)));obtain rfl:a=b:=wY (List.le_antisymm (List.not_lt.1 f) (List.not_lt.1 d));clear d f;go_enter Tryz.func85,Tryz.ntmps85;go_wp2
 go_ret
 exact ⟨ax c.out,rfl⟩
def PM (a b:ByteArray):Prop:=a.data.toList < b.data.toList
instance (a b:ByteArray):Decidable (PM a b):=inferInstanceAs (Decidable (a.data.toList < b.data.toList))
def textE (vld:ByteArray->Bool) (s:ByteArray):Int:=if 4096 < s.size then 3 else if vld s then 0 else 1
def ru:Option ByteArray->ByteArray->Bool
 | none,_=>true
 | some p,k=>decide (PM p k)
def kY (vld:ByteArray->Bool):Option ByteArray->List ByteArray->Int
 | _,[]=>0
 | p,k :: ks=>if textE vld k≠0 then textE vld k else if ru p k then kY vld (some k) ks else 1
def aJ (k n:Int) (s:ByteArray) (ni nk:Nat):Bool:=
 decide (0<=k) && decide (k<=6) && (decide (k=2) || (decide (k=1) && (decide (n=0) || decide (n=1))) || decide (n=0)) && (decide (k=3) || decide (s.size=0)) && (decide (k=4) || decide (k=5) || decide (ni=0)) && (if k=5 then decide (nk=ni) else decide (nk=0))
def lK (vld:ByteArray->Bool) (k n:Int) (s:ByteArray) (ni:Nat) (ks:List ByteArray):Int:=
 if aJ k n s ni ks.length then (if k=2 then (if -9007199254740992<=n/\n<=9007199254740992 then 0 else 5) else if k=3 then textE vld s else if k=5 then kY vld none ks else 0) else 1
def kJ (vld:ByteArray->Bool) (x:Val):Int:=lK vld x.kind x.num x.str x.items.length x.keys
mutual
def iD (vld:ByteArray->Bool):Val->Int->Nat->Int × Nat
 | .mk k n s is ks,lv,b=>if 32 < lv then (4,b) else if 4096<=b then (14,b) else if lK vld k n s is.length ks≠0 then (lK vld k n s is.length ks,b) else iR vld is (lv+1) (b+1)
def iR (vld:ByteArray->Bool):List Val->Int->Nat->Int × Nat
 | [],_,b=>(0,b)
 | x :: xs,lv,b=>if (iD vld x lv b).1≠0 then iD vld x lv b else iR vld xs lv (iD vld x lv b).2
end
def gy (vld:ByteArray->Bool) (x:Val):Int:=(iD vld x 1 0).1
theorem ww (vld:ByteArray->Bool) (x:Val) (lv:Int) (b:Nat):iD vld x lv b=if 32 < lv then (4,b) else if 4096<=b then (14,b) else if kJ vld x≠0 then (kJ vld x,b) else iR vld x.items (lv+1) (b+1):=by cases x;rw [iD];rfl
inductive Ok (vld:ByteArray->Bool):Val->Prop where
 | mk (x:Val) (h1:kJ vld x=0) (h2:∀ y∈x.items,Ok vld y):Ok vld x
theorem Ok.items {vld:ByteArray->Bool} {x y:Val} (h:Ok vld x) (hy:y∈x.items):Ok vld y:=by cases h;rename_i h1 h2;exact h2 y hy
theorem Ok.self {vld:ByteArray->Bool} {x:Val} (h:Ok vld x):kJ vld x=0:=by cases h;assumption
theorem Et (vld:ByteArray->Bool):∀ (xs:List Val) (lv:Int) (b:Nat),(∀ y∈xs,∀ lv b,(iD vld y lv b).1=0->Ok vld y/\(iD vld y lv b).2=b+nodes y/\lv+depth y<=33)->(iR vld xs lv b).1=0->(∀ y∈xs,Ok vld y)/\(iR vld xs lv b).2=b+gq xs/\(xs=[] ∨ lv+mX xs<=33)
 | [],lv,b,_,_=>⟨by simp,by simp [iR,gq],.inl rfl⟩
 | x :: xs,lv,b,h,h0=>by
   rw [iR] at h0 ⊢
   by_cases hx:(iD vld x lv b).1=0
   . rw [if_neg (by simpa using hx)] at h0 ⊢
     obtain ⟨e1,e2,e3⟩:=h x List.mem_cons_self lv b hx;obtain ⟨d1,d2,d3⟩:=Et vld xs lv _ (fun y hy=>h y (List.mem_cons_of_mem _ hy)) h0;refine ⟨fun y hy=>?_,?_,.inr ?_⟩
     . rcases List.mem_cons.1 hy with rfl | hy
       . exact e1
       . exact d1 y hy
     . rw [d2,e2,gq];omega
     . rw [mX]
       rcases d3 with rfl | d3
       . simp only [mX];omega
       . omega
   . rw [if_pos hx] at h0;exact absurd h0 hx
theorem U9 (vld:ByteArray->Bool) (x:Val):∀ lv b,(iD vld x lv b).1=0->Ok vld x/\(iD vld x lv b).2=b+nodes x/\lv+depth x<=33:=by
 refine Val.ind (P:=fun x=>∀ lv b,(iD vld x lv b).1=0->Ok vld x/\(iD vld x lv b).2=b+nodes x/\lv+depth x<=33) ?_ x;intro x i lv b h;rw [ww] at h ⊢
 by_cases d:32 < lv
 . rw [if_pos d] at h;simp at h
 . rw [if_neg d] at h ⊢
   by_cases f:4096<=b
   . rw [if_pos f] at h;simp at h
   . rw [if_neg f] at h ⊢
     by_cases a:kJ vld x=0
     . rw [if_neg (by simpa using a)] at h ⊢
       obtain ⟨j,g,c⟩:=Et vld x.items (lv+1) (b+1) i h;refine ⟨.mk x a j,by rw [g,nM];omega,?_⟩;rw [DU];rcases c with c | c
       . rw [c];simp only [mX];omega
       . omega
     . rw [if_pos a] at h;exact absurd h a
theorem uy {vld:ByteArray->Bool} {x:Val} (h:kJ vld x=0):aJ x.kind x.num x.str x.items.length x.keys.length=true:=by
 unfold kJ lK at h;cases a:aJ x.kind x.num x.str x.items.length x.keys.length
 . rw [a] at h;simp at h
 . rfl
theorem Ok.Vg {vld:ByteArray->Bool} {x:Val} (h:Ok vld x):oU x:=by
 induction h with
 | mk x h1 h2 ih =>
   have b:=uy h1;simp only [aJ,Bool.and_eq_true] at b;refine .mk x (fun a=>?_) (fun a=>?_) ih
   . have:=b.2;rw [if_pos a] at this;simpa using this
   . have:=b.2;rw [if_neg a] at this
     simpa using this
theorem JU {s:ByteArray} (h:s.size=0):s=⟨#[]⟩:=by
 apply wY;have e:s.data.toList.length=0:=by rw [Array.length_toList];exact h
 exact List.eq_nil_of_length_eq_zero e
theorem Ok.Vh {vld:ByteArray->Bool} {x:Val} (h:Ok vld x):zo x:=by
 induction h with
 | mk x h1 h2 ih =>
   have a:=uy h1;simp only [aJ,Bool.and_eq_true] at a;refine .mk x (fun f=>?_) ih;simp [f] at a;obtain ⟨⟨⟨d,b⟩,c⟩,g⟩:=a;exact ⟨d,JU (by simpa using b),c,g⟩
def AscS:List ByteArray->Prop
 | []=>True
 | [_]=>True
 | a :: b :: l=>PM a b/\AscS (b :: l)
theorem zS {vld:ByteArray->Bool} : ∀ (ks:List ByteArray) (p:Option ByteArray),kY vld p ks=0->(∀ k∈ks,textE vld k=0)/\AscS ks/\(match ks with | []=>True | k :: _=>ru p k=true)
 | [],p,_=>⟨by simp,trivial,trivial⟩
 | k :: ks,p,h=>by
   rw [kY] at h
   by_cases h1:textE vld k=0
   . rw [if_neg (by simpa using h1)] at h
     cases h2:ru p k
     . rw [h2] at h;simp at h
     . rw [h2,if_pos rfl] at h
       obtain ⟨e1,e2,e3⟩:=zS ks (some k) h;refine ⟨fun x hx=>?_,?_,h2⟩
       . rcases List.mem_cons.1 hx with rfl | hx
         . exact h1
         . exact e1 x hx
       . cases ks with
         | nil=>trivial
         | cons k2 ks=>exact ⟨by simpa [ru] using e3,e2⟩
   . rw [if_pos h1] at h;exact absurd h h1
theorem Ok.qR {vld:ByteArray->Bool} {x:Val} (h:Ok vld x):AscS x.keys:=by
 have a:=h.self;have b:=uy a
 by_cases c:x.kind=5
 . unfold kJ lK at a
   rw [if_pos b,if_neg (by omega),if_neg (by omega),if_pos c] at a;exact (zS _ _ a).2.1
 . simp only [aJ,Bool.and_eq_true] at b
   have:=b.2;rw [if_neg c] at this;have:x.keys=[]:=by simpa using this
   rw [this];trivial
theorem Hf {α:Type} (l:List α) (a b:Nat):(l.drop a).drop b=l.drop (a+b):=by rw [List.drop_drop]
set_option maxRecDepth 100000 in
theorem oN (s:ByteArray) (w:World) (hs:s.size<=4096) :
  Calls Tryz.prog 84 #[.string s] w fun e w'=>e=.returned (.bool (validD s.data.toList))/\Below w.heap.size w w':=by
 go_enter Tryz.func84,Tryz.ntmps84;go_wp2
 go_loopg [3] s.size (fun r q wr=>∃ k:Nat,k<=s.size/\s.size - k<=r/\q=.int .i64 k/\Aside (Below w.heap.size w wr)/\Aside (validD (s.data.toList.drop k)=validD s.data.toList))
 case atStart=>exact ⟨0,Nat.zero_le _,by omega,rfl,Below.refl _ _,by show _=_;rw [List.drop_zero]⟩
 case round =>
  obtain ⟨k,y,z,rfl,f,c⟩:=hrel;have a:(s.data.toList.drop k).length=s.size - k:=by rw [List.length_drop,Array.length_toList];rfl
  by_cases p:k < s.size
  . have l:(k:Int) < (s.size:Int):=by omega
    have d:s.data.toList.drop k≠[]:=by intro e;rw [e] at a;simp at a;omega
    have g:=hid (lT _ d)
    have n:bU (s.data.toList.drop k)<=s.size - k:=by
     rcases (wF (s.data.toList.drop k)).2 with h | h | h
     . omega
     . exact absurd h d
     . omega
    have o:=hid (kD s k wr p (by omega));rw [Hf] at g;clear a d;generalize bU (s.data.toList.drop k)=D at *
    by_cases m:D=0
    . subst m
      have i:=hid (show validD s.data.toList=false by rw [<-c.out,g.out];rfl);clear c g n;go_wp2_with fail
      refine o.out.mono ?_;rintro e w1 ⟨t,rfl,b⟩;have j:=hid (f.out.trans (b.mono f.out.size));clear b;go_wp2
      go_ret
      exact ⟨ah i.out,j.out⟩
    . have u:=hid (show validD (s.data.toList.drop (k+D))=validD s.data.toList by rw [<-c.out,g.out,if_neg m])
      have v:((D:Int) == 0)=false:=by simp;omega
      clear c g;go_wp2_with fail
      refine o.out.mono ?_;rintro e w1 ⟨t,rfl,b⟩;have j:=hid (f.out.trans (b.mono f.out.size));clear b;go_wp2
      go_roundg (s.size - (k+D))
      case measure=>omega
      case rel=>exact ⟨k+D,by omega,by omega,by go_num,j.out,u.out⟩
  . have l:¬ (k:Int) < (s.size:Int):=by omega
    have i:=hid (show validD s.data.toList=true by rw [<-c.out,List.drop_eq_nil_of_le (by rw [Array.length_toList];show s.size<=k;omega)];rfl);clear a c;go_wp2
    go_ret
    exact ⟨ah i.out,f.out⟩
theorem ny (s:ByteArray) (w:World) :
  Calls Tryz.prog 199 #[.string s] w fun e w'=>e=.returned (.int .i64 (textE (fun s=>validD s.data.toList) s))/\Below w.heap.size w w':=by
 have a:=hid (show textE (fun s=>validD s.data.toList) s=if 4096 < s.size then 3 else if validD s.data.toList=true then 0 else 1 from rfl)
 by_cases d:4096 < s.size
 . have a:=hid (a.out.trans (if_pos d))
   have f:(4096:Int) < (s.size:Int):=by omega
   go_enter Tryz.func199,Tryz.ntmps199;go_wp2
   go_ret
   exact ⟨ax a.out,Below.refl _ _⟩
 have a:=hid (a.out.trans (if_neg d));have f:(s.size:Int)<=4096:=by omega
 have C:=hid (oN s w (by omega));cases c:validD s.data.toList
 all_goals
  rw [c] at C a;have a:=hid a.out;clear c;go_enter Tryz.func199,Tryz.ntmps199;go_wp2_with fail
  refine C.out.mono ?_;rintro e w1 ⟨rfl,b⟩;have g:=hid b;clear b;go_wp2
  go_ret
  exact ⟨ax (by rw [a.out];rfl),g.out⟩
def dZ (k n:Int):Bool:=decide (k=2) || (decide (k=1) && (decide (n=0) || decide (n=1))) || decide (n=0)
def dW (k:Int) (s:ByteArray):Bool:=decide (k=3) || decide (s.size=0)
def bn (k:Int) (ni:Nat):Bool:=decide (k=4) || decide (k=5) || decide (ni=0)
def keysB (k:Int) (ni nk:Nat):Bool:=if k=5 then decide (nk=ni) else decide (nk=0)
theorem aK (k n:Int) (s:ByteArray) (ni nk:Nat):aJ k n s ni nk=(decide (0<=k) && decide (k<=6) && dZ k n && dW k s && bn k ni && keysB k ni nk):=rfl
theorem jl {s:ByteArray} (h:s.size=0):s.toList=[]:=by
 rw [ByteArray.toList_eq];exact List.eq_nil_of_length_eq_zero (by rw [Array.length_toList];exact h)
theorem gm {s:ByteArray} (h:¬ s.size=0):s.toList.isEmpty=false:=by
 rw [Bool.eq_false_iff];intro e;rw [List.isEmpty_iff,ByteArray.toList_eq] at e;apply h;have:=congrArg List.length e;rw [Array.length_toList] at this;exact this
set_option maxRecDepth 100000 in
set_option maxHeartbeats 4000000 in
theorem JW (k n:Int) (s:ByteArray) (ni nk:Nat) (r:Option Addr) (c:Nat) (rk:Option Addr) (ck:Nat) (w:World) (hni:ni<=10000000000000) (hnk:nk<=10000000000000) (hs:s.size<=maxLen) :
  Calls Tryz.prog 198 #[.agg #[.int .i64 k,.int .i64 n,.string s,.slice r ni c,.slice rk nk ck]] w fun e w'=>e=.returned (.bool (aJ k n s ni nk))/\Below w.heap.size w w':=by
 have g:=hid (aK k n s ni nk);unfold maxLen at hs;have f:=hid (show Below w.heap.size w (w.alloc (.cells #[.int .i64 k,.int .i64 n,.string s,.slice r ni c,.slice rk nk ck] 39)) from (Below.refl _ _).alloc (Nat.le_refl _) _);go_enter Tryz.func198,Tryz.ntmps198;go_upto_region 1 with fail
 go_cut [3] (fun d b=>d=.bool (dZ k n)/\(w.alloc (.cells #[.int .i64 k,.int .i64 n,.string s,.slice r ni c,.slice rk nk ck] 39))=b)
 case first =>
  by_cases p:k=2
  . subst p
    go_wp2_with fail
    go_meet
    exact ⟨by simp [dZ,dW,bn,keysB, *],rfl⟩
  . by_cases k1:k=1
    . subst k1
      by_cases l:n=0
      . subst l
        go_wp2_with fail
        go_meet
        exact ⟨by simp [dZ,dW,bn,keysB, *],rfl⟩
      . by_cases y:n=1
        . subst y
          go_wp2_with fail
          go_meet
          exact ⟨by simp [dZ,dW,bn,keysB, *],rfl⟩
        . have t:(n == 0)=false:=by simpa using l
          have G:(n == 1)=false:=by simpa using y
          go_wp2_with fail
          go_meet
          exact ⟨by simp [dZ,dW,bn,keysB, *],rfl⟩
    . have F:(k == 2)=false:=by simpa using p
      have I:(k == 1)=false:=by simpa using k1
      by_cases l:n=0
      . subst l
        go_wp2_with fail
        go_meet
        exact ⟨by simp [dZ,dW,bn,keysB, *],rfl⟩
      . have t:(n == 0)=false:=by simpa using l
        go_wp2_with fail
        go_meet
        exact ⟨by simp [dZ,dW,bn,keysB, *],rfl⟩
 case rest =>
 obtain ⟨rfl,rfl⟩:=hcut;go_upto_region 2 with fail
 go_cut [4] (fun d b=>d=.bool (dW k s)/\(w.alloc (.cells #[.int .i64 k,.int .i64 n,.string s,.slice r ni c,.slice rk nk ck] 39))=b)
 case first =>
  by_cases z:k=3
  . subst z
    go_wp2_with fail
    go_meet
    exact ⟨by simp [dZ,dW,bn,keysB, *],rfl⟩
  . have K:(k == 3)=false:=by simpa using z
    by_cases u:s.size=0
    . have m:=jl u
      go_wp2_with fail
      go_meet
      exact ⟨by simp [dZ,dW,bn,keysB, *],rfl⟩
    . have m:=gm u
      go_wp2_with fail
      go_meet
      exact ⟨by simp [dZ,dW,bn,keysB, *],rfl⟩
 case rest =>
 obtain ⟨rfl,rfl⟩:=hcut;go_upto_region 3 with fail
 go_cut [5] (fun d b=>d=.bool (bn k ni)/\(w.alloc (.cells #[.int .i64 k,.int .i64 n,.string s,.slice r ni c,.slice rk nk ck] 39))=b)
 case first =>
  by_cases q:k=4
  . subst q
    go_wp2_with fail
    go_meet
    exact ⟨by simp [dZ,dW,bn,keysB, *],rfl⟩
  . have J:(k == 4)=false:=by simpa using q
    by_cases i:k=5
    . subst i
      go_wp2_with fail
      go_meet
      exact ⟨by simp [dZ,dW,bn,keysB, *],rfl⟩
    . have v:(k == 5)=false:=by simpa using i
      by_cases j:ni=0
      . subst j
        go_wp2_with fail
        go_meet
        exact ⟨by simp [dZ,dW,bn,keysB, *],rfl⟩
      . have m:((ni:Int) == 0)=false:=by simp;omega
        go_wp2_with fail
        go_meet
        exact ⟨by simp [dZ,dW,bn,keysB, *],rfl⟩
 case rest =>
 obtain ⟨rfl,rfl⟩:=hcut;go_upto_region 4 with fail
 go_cut [6] (fun d b=>d=.bool (keysB k ni nk)/\(w.alloc (.cells #[.int .i64 k,.int .i64 n,.string s,.slice r ni c,.slice rk nk ck] 39))=b)
 case first =>
  by_cases i:k=5
  . subst i
    by_cases j:nk=ni
    . subst j
      go_wp2_with fail
      go_meet
      exact ⟨by simp [dZ,dW,bn,keysB, *],rfl⟩
    . have m:((nk:Int) == (ni:Int))=false:=by simp;omega
      go_wp2_with fail
      go_meet
      exact ⟨by simp [dZ,dW,bn,keysB, *],rfl⟩
  . have v:(k == 5)=false:=by simpa using i
    have H:(k != 5)=true:=by simpa using i
    by_cases j:nk=0
    . subst j
      go_wp2_with fail
      go_meet
      exact ⟨by simp [dZ,dW,bn,keysB, *],rfl⟩
    . have m:((nk:Int) == 0)=false:=by simp;omega
      go_wp2_with fail
      go_meet
      exact ⟨by simp [dZ,dW,bn,keysB, *],rfl⟩
 case rest =>
 obtain ⟨rfl,rfl⟩:=hcut;generalize dZ k n=A at *;generalize dW k s=E at *;generalize bn k ni=B at *;generalize keysB k ni nk=D at *;generalize o:(w.alloc (.cells #[.int .i64 k,.int .i64 n,.string s,.slice r ni c,.slice rk nk ck] 39))=C at *;have N:C.cell? ⟨w.heap.size,0,none⟩=some (.int .i64 k):=by rw [<-o];exact aX rfl rfl
 clear o
 by_cases M:0<=k
 . by_cases L:k<=6
   . cases A
     . have a:=hid (show aJ k n s ni nk=false by rw [g.out];simp [*])
       go_wp2
       go_ret
       exact ⟨ah a.out,f.out⟩
     cases E
     . have a:=hid (show aJ k n s ni nk=false by rw [g.out];simp [*])
       go_wp2
       go_ret
       exact ⟨ah a.out,f.out⟩
     cases B
     . have a:=hid (show aJ k n s ni nk=false by rw [g.out];simp [*])
       go_wp2
       go_ret
       exact ⟨ah a.out,f.out⟩
     cases D
     . have a:=hid (show aJ k n s ni nk=false by rw [g.out];simp [*])
       go_wp2
       go_ret
       exact ⟨ah a.out,f.out⟩
     have a:=hid (show aJ k n s ni nk=true by rw [g.out];simp [*]);go_wp2
     go_ret
     exact ⟨ah a.out,f.out⟩
   . have:6 < k:=by omega
     have a:=hid (show aJ k n s ni nk=false by rw [g.out];simp [*]);go_wp2
     go_ret
     exact ⟨ah a.out,f.out⟩
 . have:k < 0:=by omega
   have a:=hid (show aJ k n s ni nk=false by rw [g.out];simp [*]);go_wp2
   go_ret
   exact ⟨ah a.out,f.out⟩
theorem EG (x:Val) (r:Option Addr) (c:Nat) (rk:Option Addr) (ck:Nat) (w:World) (hx:jJ w r c rk ck x) :
  Calls Tryz.prog 198 #[.agg #[.int .i64 x.kind,.int .i64 x.num,.string x.str,.slice r x.items.length c,.slice rk x.keys.length ck]] w fun e w'=>e=.returned (.bool (aJ x.kind x.num x.str x.items.length x.keys.length))/\Below w.heap.size w w':=by
 obtain ⟨_,_,_,_,d,a,b⟩:=hx.parts;exact JW _ _ _ _ _ _ _ _ _ _ b a d
def vU (s:ByteArray):Bool:=validD s.data.toList
theorem rZ (n:Int) (w:World):Calls Tryz.prog 152 #[.int .i64 n] w fun e w'=>e=.returned (.bool (decide (-9007199254740992<=n) && decide (n<=9007199254740992)))/\w=w':=by
 by_cases c:-9007199254740992<=n
 . by_cases b:n<=9007199254740992
   . have a:=hid (show (decide (-9007199254740992<=n) && decide (n<=9007199254740992))=true by simp [c,b])
     go_enter Tryz.func152,Tryz.ntmps152;go_wp2
     go_ret
     exact ⟨ah a.out,rfl⟩
   . have a:=hid (show decide (n<=9007199254740992)=false by simp [b])
     go_enter Tryz.func152,Tryz.ntmps152;go_wp2
     go_ret
     exact ⟨ah (by simp [a.out]),rfl⟩
 . have a:=hid (show (decide (-9007199254740992<=n) && decide (n<=9007199254740992))=false by simp [c])
   go_enter Tryz.func152,Tryz.ntmps152;go_wp2
   go_ret
   exact ⟨ah a.out,rfl⟩
def IR (ks:List ByteArray):Nat->Option ByteArray
 | 0=>none
 | k+1=>ks[k]?
theorem xg (vld:ByteArray->Bool) {ks:List ByteArray} {k:Nat} (h:k < ks.length):kY vld (IR ks k) (ks.drop k)=if textE vld ks[k]≠0 then textE vld ks[k] else if ru (IR ks k) ks[k] then kY vld (IR ks (k+1)) (ks.drop (k+1)) else 1:=by
 rw [List.drop_eq_getElem_cons h,kY];have:IR ks (k+1)=some ks[k]:=List.getElem?_eq_getElem h;rw [this]
def L8 (vld:ByteArray->Bool) (k n:Int) (s:ByteArray) (ks:List ByteArray):Int:=
 if k=2/\¬ (-9007199254740992<=n/\n<=9007199254740992) then 5 else if textE vld s≠0 then textE vld s else kY vld none ks
theorem O5 (vld:ByteArray->Bool) (hv:∀ s:ByteArray,s.size=0->vld s=true) {k n:Int} {s:ByteArray} {ni:Nat} {ks:List ByteArray} (h:aJ k n s ni ks.length=true):lK vld k n s ni ks=L8 vld k n s ks:=by
 unfold lK L8;rw [if_pos h];rw [aK] at h;simp only [Bool.and_eq_true,dW,keysB,Bool.or_eq_true,decide_eq_true_eq] at h;obtain ⟨⟨⟨⟨⟨_,_⟩,_⟩,m⟩,_⟩,j⟩:=h
 have i:k≠3->textE vld s=0:=fun p=>by
  have q:s.size=0:=by
   rcases m with h | h
   . exact absurd h p
   . exact h
  unfold textE;rw [if_neg (by omega),hv s q];rfl
 have a:k≠5->kY vld none ks=0:=fun o=>by
  rw [if_neg o] at j;have:ks=[]:=List.eq_nil_of_length_eq_zero (by simpa using j);rw [this,kY]
 by_cases d:k=2
 . rw [if_pos d]
   by_cases b:-9007199254740992<=n/\n<=9007199254740992
   . rw [if_pos b,if_neg (fun h=>h.2 b),if_neg (by rw [i (by omega)];simp),a (by omega)]
   . rw [if_neg b,if_pos ⟨d,b⟩]
 . rw [if_neg d]
   rw [if_neg (c:=k=2/\¬ (-9007199254740992<=n/\n<=9007199254740992)) (fun h=>d h.1)]
   by_cases g:k=3
   . rw [if_pos g,a (by omega)]
     split
     . rfl
     . rename_i h;simpa using h
   . have l:¬ (textE vld s≠0):=by rw [i g];simp
     rw [if_neg g,if_neg (c:=textE vld s≠0) l]
     by_cases f:k=5
     . rw [if_pos f]
     . rw [if_neg f,a f]
theorem Ns (s:ByteArray) (h:s.size=0):vU s=true:=by
 unfold vU;have:s.data.toList=[]:=List.eq_nil_of_length_eq_zero (by rw [Array.length_toList];exact h);rw [this];rfl
set_option maxRecDepth 100000 in
set_option maxHeartbeats 4000000 in
theorem Jo (x:Val) (r:Option Addr) (c:Nat) (rk:Option Addr) (ck:Nat) (w:World) (hx:jJ w r c rk ck x) :
  Calls Tryz.prog 153 #[.agg #[.int .i64 x.kind,.int .i64 x.num,.string x.str,.slice r x.items.length c,.slice rk x.keys.length ck]] w fun e w'=>e=.returned (.int .i64 (kJ vU x))/\Below w.heap.size w w':=by
 obtain ⟨hI,hK,_,_,hs,a2,a1⟩:=hx.parts;obtain ⟨_,aM,a0⟩:=bi hK;have HK:=hid hK;have S:Below w.heap.size w (w.alloc (.cells #[.int .i64 x.kind,.int .i64 x.num,.string x.str,.slice r x.items.length c,.slice rk x.keys.length ck] 39)):=(Below.refl _ _).alloc (Nat.le_refl _) _;have X:=hid (EG x r c rk ck _ (hx.below S));have i:=hid (show kJ vU x=lK vU x.kind x.num x.str x.items.length x.keys from rfl);have HR:=hid (fun h:aJ x.kind x.num x.str x.items.length x.keys.length=true=>O5 vU Ns h);have HF:=hid (fun h:aJ x.kind x.num x.str x.items.length x.keys.length=false=>show lK vU x.kind x.num x.str x.items.length x.keys=1 by unfold lK;rw [if_neg (by rw [h];simp)]);have v:=hid S;clear S hI hK hx;generalize ar:kJ vU x=nx at *;clear ar;generalize aJ x.kind x.num x.str x.items.length x.keys.length=sb at *;generalize x.kind=y at *;generalize x.num=l at *;generalize x.str=m at *;generalize x.items.length=ni at *;generalize x.keys=a at *;cases sb
 . have i:=hid (i.out.trans (HF.out rfl))
   clear HR HF;go_enter Tryz.func153,Tryz.ntmps153;go_wp2_with fail
   refine X.out.mono ?_;rintro e w1 ⟨rfl,f⟩;have E:=hid (v.out.trans (f.mono v.out.size));clear f;go_wp2
   go_ret
   exact ⟨ax i.out,E.out⟩
 have T:=hid (i.out.trans (HR.out rfl));have Z:=hid (show L8 vU y l m a=if y=2/\¬ (-9007199254740992<=l/\l<=9007199254740992) then 5 else if textE vU m≠0 then textE vU m else kY vU none a from rfl);clear HR HF i
 have aa:∀ (w1:World) (p:Below (w.alloc (.cells #[.int .i64 y,.int .i64 l,.string m,.slice r ni c,.slice rk a.length ck] 39)).heap.size (w.alloc (.cells #[.int .i64 y,.int .i64 l,.string m,.slice r ni c,.slice rk a.length ck] 39)) w1),
   w1.cell? ⟨w.heap.size,0,none⟩=some (.int .i64 y)/\w1.cell? ⟨w.heap.size,1,none⟩=some (.int .i64 l)/\w1.cell? ⟨w.heap.size,2,none⟩=some (.string m)/\w1.cell? ⟨w.heap.size,4,none⟩=some (.slice rk a.length ck):=
  fun w1 p=>⟨az p (aX rfl rfl),az p (aX rfl rfl),az p (aX rfl rfl),az p (aX rfl rfl)⟩
 have G:=hid aa;clear aa
 by_cases N:y=2/\¬ (-9007199254740992<=l/\l<=9007199254740992)
 . obtain ⟨rfl,h3⟩:=N
   have i:=hid (T.out.trans (Z.out.trans (if_pos ⟨rfl,h3⟩)))
   have hv:(decide (-9007199254740992<=l) && decide (l<=9007199254740992))=false:=by
    rw [Bool.eq_false_iff];intro e;apply h3;simpa using e
   have Y:=hid hv;clear Z h3 hv;go_enter Tryz.func153,Tryz.ntmps153;go_wp2_with fail
   refine X.out.mono ?_;rintro e w1 ⟨rfl,f⟩;have E:=hid (v.out.trans (f.mono v.out.size));obtain ⟨k0,k1,k2,n⟩:=G.out w1 f;clear f;go_wp2_with fail
   refine (rZ _ _).mono ?_;rintro e w2 ⟨rfl,rfl⟩;rw [Y.out];go_wp2
   go_ret
   exact ⟨ax i.out,E.out⟩
 have M:=hid (T.out.trans (Z.out.trans (if_neg N)));clear Z T
 by_cases e2:y=2
 case' pos =>
  have Y:=hid (show (decide (-9007199254740992<=l) && decide (l<=9007199254740992))=true by
   by_cases hr:-9007199254740992<=l/\l<=9007199254740992
   . simp [hr.1,hr.2]
   . exact absurd ⟨e2,hr⟩ N)
  clear N;subst e2;go_enter Tryz.func153,Tryz.ntmps153;go_wp2_with fail
  refine X.out.mono ?_;rintro e w1 ⟨rfl,f⟩;have E:=hid (v.out.trans (f.mono v.out.size));have af:=hid f;obtain ⟨k0,k1,k2,n⟩:=G.out w1 f;clear f;go_wp2_with fail
  refine (rZ _ _).mono ?_;rintro e w2 ⟨rfl,rfl⟩;rw [Y.out];clear Y;go_wp2_with fail
 case' neg =>
  clear N;have a3:(y == 2)=false:=by simpa using e2
  clear e2;go_enter Tryz.func153,Tryz.ntmps153;go_wp2_with fail
  refine X.out.mono ?_;rintro e w1 ⟨rfl,f⟩;have E:=hid (v.out.trans (f.mono v.out.size));have af:=hid f;obtain ⟨k0,k1,k2,n⟩:=G.out w1 f;clear f;go_wp2_with fail
 all_goals
  refine (ny m w1).mono ?_;rintro e w2 ⟨rfl,O⟩;have B2:=hid (E.out.trans (O.mono E.out.size));have K4:=hid (az O n);clear O k0 k1 k2 n af G
  by_cases g:textE vU m=0
  case neg =>
   have i:=hid (M.out.trans (if_pos g));have A:=hid (show textE (fun s=>validD s.data.toList) m=textE vU m from rfl);rw [A.out];clear A;generalize textE vU m=R at *;have e1:(R != 0)=true:=by simpa using g
   have aw:(R == 0)=false:=by simpa using g
   clear g;go_wp2
   go_ret
   exact ⟨ax i.out,B2.out⟩
  case pos =>
  have an:=hid (M.out.trans (if_neg (by simpa using g)));clear M;rw [show textE (fun s=>validD s.data.toList) m=0 from g];clear g;go_wp2
  go_loopg [4] a.length (fun gg s4 wr=>∃ k:Nat,k<=a.length/\a.length - k<=gg/\s4=.int .i64 k/\Aside (Below w2.heap.size w2 wr)/\Aside (nx=kY vU (IR a k) (a.drop k)))
  case atStart=>exact ⟨0,Nat.zero_le _,by omega,rfl,Below.refl _ _,by show nx=kY vU (IR a 0) (a.drop 0);rw [List.drop_zero];exact an.out⟩
  case round =>
   clear an;obtain ⟨k,hk,hg,rfl,K,U⟩:=hrel;have n:=az K.out K4.out;have o:=World.block_lt_of_cell? _ _ n;simp only at o;have H:=hid (B2.out.trans (K.out.mono B2.out.size))
   by_cases ac:k < a.length
   case neg =>
    have aq:¬ (k:Int) < (a.length:Int):=by omega
    have i:=hid (show nx=0 by rw [U.out,List.drop_eq_nil_of_le (by omega)];cases IR a k <;> rfl);clear U K;go_wp2
    go_ret
    exact ⟨ax i.out,H.out⟩
   have aq:(k:Int) < (a.length:Int):=by omega
   have ad:=hid (HK.out.below bP H.out);obtain ⟨b,aR,rfl,p,I,_⟩:=iT ad.out k ac;have AK:=hid (U.out.trans (xg vU ac));clear U;have F:=hid K.out;clear K
   by_cases g:textE vU a[k]=0
   case neg =>
    have i:=hid (AK.out.trans (if_pos g));have A:=hid (show textE (fun s=>validD s.data.toList) a[k]=textE vU a[k] from rfl);generalize a[k]=B at *;generalize textE vU B=R at *;have e1:(R != 0)=true:=by simpa using g
    have aw:(R == 0)=false:=by simpa using g
    clear g AK;go_wp2_with fail
    refine (ny B _).mono ?_;rintro e w3 ⟨rfl,d⟩;rw [A.out];have t:=hid (H.out.trans (d.mono H.out.size));clear d;go_wp2
    go_ret
    exact ⟨ax i.out,t.out⟩
   case pos =>
   have u:=hid (AK.out.trans (if_neg (by simpa using g)));have A:=hid (show textE (fun s=>validD s.data.toList) a[k]=0 from g);clear AK g
   by_cases h0:k=0
   case pos =>
    subst h0;have Q:=hid (u.out.trans (if_pos rfl));generalize a[0]=B at *;clear u;simp only [Nat.add_zero] at I;go_wp2_with fail
    refine (ny B _).mono ?_;rintro e w3 ⟨rfl,d⟩;rw [A.out];have t:=hid (F.out.trans (d.mono F.out.size));have al:=az d n;have ab:=Nat.lt_of_lt_of_le o d.size;clear d o n I p;have D:=iy w3;go_wp2
    refine wp_region_quiet_below (by kernel_rfl) (by kernel_rfl) ?_
    repeat (first | go_big_quiet_step (fail) | quiet_step (fail))
    refine wpQuiet_nil ?_;intro _ z;obtain ⟨⟨L,C⟩,q⟩:=z;subst q;clear D;have P:=hid (t.out.trans ((below_regrown w3 L C).mono t.out.size));go_wp2
    go_roundg (a.length - (0+1))
    case measure=>omega
    case rel=>exact ⟨0+1,by omega,by omega,by go_num,P.out,Q.out⟩
   case neg =>
   have ao:k - 1 < a.length:=by omega
   obtain ⟨b',aL,ap,am,W,_⟩:=iT ad.out (k - 1) ao;simp only [Option.some.injEq,Addr.mk.injEq,and_true] at ap;obtain ⟨rfl,rfl⟩:=ap
   have HP:=hid (show IR a k=some a[k - 1] by
    obtain ⟨j,rfl⟩:∃ j,k=j+1:=⟨k - 1,by omega⟩;exact List.getElem?_eq_getElem ao)
   have V:=hid (show ru (IR a k) a[k]=decide (PM a[k - 1] a[k]) by rw [HP.out];rfl);clear HP;have y1:(0:Int)<=(k:Int) - 1:=by omega
   have y2:(k:Int) - 1 < (a.length:Int):=by omega
   have y3:0 < k:=by omega
   by_cases J:PM a[k - 1] a[k]
   case pos =>
    have Q:=hid (u.out.trans (if_pos (by rw [V.out];exact decide_eq_true J)));have e1:=pV J;clear u V J h0;generalize a[k - 1]=kp at *;generalize a[k]=B at *;go_wp2_with fail
    refine (ny B _).mono ?_;rintro e w3 ⟨rfl,d⟩;rw [A.out];have t:=hid (F.out.trans (d.mono F.out.size));have al:=az d n;have av:=az d I;have aE:=az d W;have ab:=Nat.lt_of_lt_of_le o d.size;have aD:=Nat.lt_of_lt_of_le p d.size;clear d o n I W p am;have D:=iy w3;have t1:((k:Int) - 1).toNat=k - 1:=by omega
    have x1:IntKind.i64.wrap ((k:Int) - 1)=(k:Int) - 1:=IntWalk.i64_in _ (by omega);go_wp2
    refine wp_region_quiet_below (by kernel_rfl) (by kernel_rfl) ?_
    repeat (first | go_big_quiet_step (fail) | quiet_step (fail))
    refine wpQuiet_nil ?_;intro _ z;obtain ⟨⟨L,C⟩,q⟩:=z;subst q;clear D t1 x1;have P:=hid (t.out.trans ((below_regrown w3 L C).mono t.out.size));go_wp2
    go_roundg (a.length - (k+1))
    case measure=>omega
    case rel=>exact ⟨k+1,by omega,by omega,by go_num,P.out,Q.out⟩
   case neg =>
    have i:=hid (u.out.trans (if_neg (by rw [V.out];simpa using J)));have e1:=Bi J;clear u V J h0;generalize a[k - 1]=kp at *;generalize a[k]=B at *;go_wp2_with fail
    refine (ny B _).mono ?_;rintro e w3 ⟨rfl,d⟩;rw [A.out];have t:=hid (H.out.trans (d.mono H.out.size));have al:=az d n;have av:=az d I;have aE:=az d W;have ab:=Nat.lt_of_lt_of_le o d.size;have aD:=Nat.lt_of_lt_of_le p d.size;clear d o n I W p am;have D:=iy w3;have t1:((k:Int) - 1).toNat=k - 1:=by omega
    have x1:IntKind.i64.wrap ((k:Int) - 1)=(k:Int) - 1:=IntWalk.i64_in _ (by omega);go_wp2
    refine wp_region_quiet_below (by kernel_rfl) (by kernel_rfl) ?_
    repeat (first | go_big_quiet_step (fail) | quiet_step (fail))
    refine wpQuiet_nil ?_;intro _ z;obtain ⟨⟨L,C⟩,q⟩:=z;subst q;clear D t1 x1;have P:=hid (t.out.trans ((below_regrown w3 L C).mono t.out.size));go_wp2
    go_ret
    exact ⟨ax i.out,P.out⟩
theorem pM {a b c d:Int} (h:a=c) (h':b=d):Ending.returned (.tuple #[.int .i64 c,.int .i64 d])=.returned (.tuple #[.int .i64 a,.int .i64 b]):=by rw [h,h']
theorem vM (vld:ByteArray->Bool) (a c:List Val) (lv:Int) (b:Nat):iR vld (a ++ c) lv b=if (iR vld a lv b).1≠0 then iR vld a lv b else iR vld c lv (iR vld a lv b).2:=by
 induction a generalizing b with
 | nil=>simp [iR]
 | cons x xs ih =>
   rw [List.cons_append,iR,iR]
   by_cases h:(iD vld x lv b).1≠0
   . rw [if_pos h,if_pos h,if_pos h]
   . rw [if_neg h,if_neg h,ih]
theorem zA (vld:ByteArray->Bool) {is:List Val} {k:Nat} (h:k < is.length) {lv:Int} {b m:Nat} (hm:iR vld (is.take k) lv b=(0,m)) (h0:(iD vld is[k] lv m).1=0):iR vld (is.take (k+1)) lv b=(0,(iD vld is[k] lv m).2):=by
 rw [List.take_succ_eq_append_getElem h,vM,hm,if_neg (by simp),iR,if_neg (by rw [h0];simp),iR]
theorem Ac (vld:ByteArray->Bool) {is:List Val} {k:Nat} (h:k < is.length) {lv:Int} {b m:Nat} (hm:iR vld (is.take k) lv b=(0,m)) (h0:(iD vld is[k] lv m).1≠0):iR vld is lv b=iD vld is[k] lv m:=by
 have e:iR vld is lv b=iR vld (is.take k ++ is.drop k) lv b:=by rw [List.take_append_drop]
 rw [e,vM,hm,if_neg (by simp),List.drop_eq_getElem_cons h,iR,if_pos h0]
theorem Nu (vld:ByteArray->Bool) (x:Val):∀ (lv:Int) (b:Nat),b<=4096->(iD vld x lv b).2<=4096:=by
 refine Val.ind (P:=fun x=>∀ (lv:Int) (b:Nat),b<=4096->(iD vld x lv b).2<=4096) ?_ x;intro x k lv b a;rw [ww]
 by_cases g:32 < lv
 . rw [if_pos g];exact a
 rw [if_neg g]
 by_cases i:4096<=b
 . rw [if_pos i];exact a
 rw [if_neg i]
 by_cases d:kJ vld x≠0
 . rw [if_pos d];exact a
 rw [if_neg d]
 have f:∀ (c:List Val),(∀ y∈c,∀ (lv:Int) (b:Nat),b<=4096->(iD vld y lv b).2<=4096)->∀ (lv:Int) (b:Nat),b<=4096->(iR vld c lv b).2<=4096:=by
  intro c
  induction c with
  | nil=>intro _ lv b a;rw [iR];exact a
  | cons y ys ihy =>
    intro h lv b a;rw [iR];split
    . exact h y List.mem_cons_self lv b a
    . exact ihy (fun z j=>h z (List.mem_cons_of_mem _ j)) lv _ (h y List.mem_cons_self lv b a)
 exact f x.items k _ _ (by omega)
set_option maxRecDepth 100000 in
set_option maxHeartbeats 4000000 in
theorem GM (x:Val):∀ (lv:Int) (n:Nat) (r:Option Addr) (c:Nat) (rk:Option Addr) (ck:Nat) (w:World),jJ w r c rk ck x->0<=lv->lv<=33->n<=4096 ->
  Calls Tryz.prog 110 #[.agg #[.int .i64 x.kind,.int .i64 x.num,.string x.str,.slice r x.items.length c,.slice rk x.keys.length ck],.int .i64 lv,.int .i64 n] w fun e w'=>e=.returned (.tuple #[.int .i64 (iD vU x lv n).1,.int .i64 (iD vU x lv n).2])/\Below w.heap.size w w':=by
 refine Val.ind (P:=fun x=>∀ (lv:Int) (n:Nat) (r:Option Addr) (c:Nat) (rk:Option Addr) (ck:Nat) (w:World),jJ w r c rk ck x->0<=lv->lv<=33->n<=4096 ->
  Calls Tryz.prog 110 #[.agg #[.int .i64 x.kind,.int .i64 x.num,.string x.str,.slice r x.items.length c,.slice rk x.keys.length ck],.int .i64 lv,.int .i64 n] w fun e w'=>e=.returned (.tuple #[.int .i64 (iD vU x lv n).1,.int .i64 (iD vU x lv n).2])/\Below w.heap.size w w') ?_ x
 intro x ih lv n r c rk ck w T ao av hn;obtain ⟨R,hK,_,_,hs,ar,aq⟩:=T.parts;obtain ⟨_,am,an⟩:=bi R;have HI:=hid R;have u:Below w.heap.size w (w.alloc (.cells #[.int .i64 x.kind,.int .i64 x.num,.string x.str,.slice r x.items.length c,.slice rk x.keys.length ck] 39)):=(Below.refl _ _).alloc (Nat.le_refl _) _;have Z:=hid (Jo x r c rk ck _ (T.below u));have Q:=hid (ww vU x lv n);have q:=hid u;have IH:=hid ih;clear u R hK T ih;generalize aa:kJ vU x=z at *;clear aa;generalize ab:iD vU x lv n=nx at *;clear ab;obtain ⟨i,l⟩:=nx;simp only at *;generalize x.kind=xk at *;generalize x.num=xn at *;generalize x.str=X at *;generalize x.keys.length=nk at *;generalize ac:x.items=a at *;clear ac
 by_cases h1:32 < lv
 . have d:=hid (show i=4/\l=n by have:=Q.out;rw [if_pos h1] at this;simpa using this)
   go_enter Tryz.func110,Tryz.ntmps110;go_wp2
   go_ret2
   exact ⟨pM d.out.1 (by rw [d.out.2]),q.out⟩
 have t:=hid (Q.out.trans (if_neg h1));clear Q
 by_cases O:4096<=n
 . have d:=hid (show i=14/\l=n by have:=t.out;rw [if_pos O] at this;simpa using this)
   have al:4096<=(n:Int):=by omega
   go_enter Tryz.func110,Tryz.ntmps110;go_wp2
   go_ret2
   exact ⟨pM d.out.1 (by rw [d.out.2]),q.out⟩
 have o:=hid (t.out.trans (if_neg O));have al:¬ 4096<=(n:Int):=by omega
 clear t O
 have H:∀ (w1:World) (M:Below (w.alloc (.cells #[.int .i64 xk,.int .i64 xn,.string X,.slice r a.length c,.slice rk nk ck] 39)).heap.size (w.alloc (.cells #[.int .i64 xk,.int .i64 xn,.string X,.slice r a.length c,.slice rk nk ck] 39)) w1),
  w1.cell? ⟨w.heap.size,3,none⟩=some (.slice r a.length c):=fun w1 M=>az M (aX rfl rfl)
 have K:=hid H;clear H
 by_cases v:z=0
 case neg =>
  have d:=hid (show i=z/\l=n by have:=o.out;rw [if_pos v] at this;simpa using this);have e1:(z != 0)=true:=by simpa using v
  have e2:(z == 0)=false:=by simpa using v
  clear v o;go_enter Tryz.func110,Tryz.ntmps110;go_wp2_with fail
  refine Z.out.mono ?_;rintro e w1 ⟨rfl,f⟩;have D:=hid (q.out.trans (f.mono q.out.size));clear f;go_wp2
  go_ret2
  exact ⟨pM d.out.1 (by rw [d.out.2]),D.out⟩
 case pos =>
 subst v;have L:=hid (o.out.trans (if_neg (by simp)));clear o;go_enter Tryz.func110,Tryz.ntmps110;go_wp2_with fail
 refine Z.out.mono ?_;rintro e w1 ⟨rfl,f⟩;have D:=hid (q.out.trans (f.mono q.out.size));have K3:=hid (K.out w1 f);clear f K;go_wp2
 go_loopg [9,10] a.length (fun gg s9 ad wr=>∃ k m:Nat,k<=a.length/\a.length - k<=gg/\ad=.int .i64 k/\s9=.int .i64 m/\m<=4096/\Aside (Below w1.heap.size w1 wr)/\Aside (iR vU (a.take k) (lv+1) (n+1)=(0,m)))
 case atStart=>exact ⟨0,n+1,Nat.zero_le _,by omega,rfl,rfl,by omega,Below.refl _ _,by show iR vU (a.take 0) (lv+1) (n+1)=(0,n+1);rw [List.take_zero,iR]⟩
 case round =>
  obtain ⟨k,m,hk,hg,rfl,rfl,hm,B,s⟩:=hrel;have k3:=az B.out K3.out;have U:=World.block_lt_of_cell? _ _ k3;simp only at U;have E:=hid (D.out.trans (B.out.mono D.out.size));have J:=hid B.out;clear B
  by_cases p:k < a.length
  case neg =>
   have S:¬ (k:Int) < (a.length:Int):=by omega
   have d:=hid (show i=0/\l=m by
    have:=s.out;rw [show k=a.length by omega,List.take_length,<-L.out] at this;simpa using this)
   clear s;go_wp2
   go_ret2
   exact ⟨pM d.out.1 (by rw [d.out.2]),E.out⟩
  have S:(k:Int) < (a.length:Int):=by omega
  obtain ⟨b,ap,ri,ci,af,Y,rfl,M,g0,g1,g2,g3,g4,V⟩:=lC (iq HI.out E.out) k p;have C:=hid (IH.out _ (List.getElem_mem p) (lv+1) m ri ci af Y wr V (by omega) (by omega) hm);have A:=hid (fun g=>zA vU p s.out g);have G:=hid (fun g=>Ac vU p s.out g);have I:=Nu vU a[k] (lv+1) m hm;clear V s;generalize a[k]=y at *;generalize iD vU y (lv+1) m=cv at *;obtain ⟨F,W⟩:=cv;obtain ⟨yk,yn,ys,yi,aw⟩:=y;simp only [Val.kind,Val.num,Val.str,Val.items,Val.keys] at g0 g1 g2 g3 g4 C A G I
  by_cases g:F=0
  case pos =>
   subst g;have HT:=hid (A.out rfl);clear A G;go_wp2_with fail
   refine C.out.mono ?_;rintro e w2 ⟨rfl,j⟩;have N:=hid (J.out.trans (j.mono J.out.size));clear j;go_wp2
   go_roundg (a.length - (k+1))
   case measure=>omega
   case rel=>exact ⟨k+1,W,by omega,by omega,by go_num,rfl,I,N.out,HT.out⟩
  case neg =>
   have d:=hid (show i=F/\l=W by have:=L.out.trans (G.out g);simpa using this);have e1:(F != 0)=true:=by simpa using g
   have e2:(F == 0)=false:=by simpa using g
   clear A G g;go_wp2_with fail
   refine C.out.mono ?_;rintro e w2 ⟨rfl,j⟩;have N:=hid (E.out.trans (j.mono E.out.size));clear j;go_wp2
   go_ret2
   exact ⟨pM d.out.1 (by rw [d.out.2]),N.out⟩
theorem xM (x:Val) (r:Option Addr) (c:Nat) (rk:Option Addr) (ck:Nat) (w:World) (hx:jJ w r c rk ck x) :
  Calls Tryz.prog 61 #[.agg #[.int .i64 x.kind,.int .i64 x.num,.string x.str,.slice r x.items.length c,.slice rk x.keys.length ck]] w fun e w'=>e=.returned (.int .i64 (gy vU x))/\Below w.heap.size w w':=by
 have a:Below w.heap.size w (w.alloc (.cells #[.int .i64 x.kind,.int .i64 x.num,.string x.str,.slice r x.items.length c,.slice rk x.keys.length ck] 39)):=(Below.refl _ _).alloc (Nat.le_refl _) _;have C:=hid (GM x 1 0 r c rk ck _ (hx.below a) (by omega) (by omega) (by omega));have i:=hid (show gy vU x=(iD vU x 1 0).1 from rfl);have d:=hid a;clear a hx;generalize iD vU x 1 0=f at *;obtain ⟨j,n⟩:=f;simp only at *;generalize gy vU x=l at *;generalize x.kind=p at *;generalize x.num=k at *;generalize x.str=m at *;generalize x.keys.length=o at *;generalize x.items.length=q at *;go_enter Tryz.func61,Tryz.ntmps61;go_wp2_with fail
 refine C.out.mono ?_;rintro e w1 ⟨rfl,b⟩;have g:=hid (d.out.trans (b.mono d.out.size));clear b;go_wp2
 go_ret
 exact ⟨ax i.out,g.out⟩
set_option maxRecDepth 100000 in
theorem Io (ks ks2:List ByteArray) (rk rk2:Option Addr) (ck ck2:Nat) (w:World) (hK:Sl lY 1 w (.slice rk ks.length ck) ks) (hK2:Sl lY 1 w (.slice rk2 ks2.length ck2) ks2) :
  Calls Tryz.prog 87 #[.slice rk ks.length ck,.slice rk2 ks2.length ck2] w fun e w'=>e=.returned (.bool (decide (ks=ks2)))/\Below w.heap.size w w':=by
 obtain ⟨_,O,Q⟩:=bi hK;obtain ⟨_,F,H⟩:=bi hK2;have M:=hid hK;have C:=hid hK2;clear hK hK2
 by_cases o:ks.length=ks2.length
 case neg =>
  have g:=hid (decide_eq_false (show ¬ ks=ks2 from fun e=>o (by rw [e])));have s:((ks.length:Int) != (ks2.length:Int))=true:=by simp;omega
  have t:((ks.length:Int) == (ks2.length:Int))=false:=by simp;omega
  clear o;go_enter Tryz.func87,Tryz.ntmps87;go_wp2
  go_ret
  exact ⟨ah g.out,Below.refl _ _⟩
 case pos =>
 have s:((ks.length:Int) != (ks2.length:Int))=false:=by simp;omega
 have t:((ks.length:Int) == (ks2.length:Int))=true:=by simp;omega
 have B:=hid o;clear o;go_enter Tryz.func87,Tryz.ntmps87;go_wp2
 clear s t;go_loopg [13] ks.length (fun J K wr=>∃ k:Nat,k<=ks.length/\ks.length - k<=J/\K=.int .i64 k/\Aside (Below w.heap.size w wr)/\Aside (∀ i (h:i < ks.length) (n:i < ks2.length),i < k->ks[i]=ks2[i]))
 case atStart=>exact ⟨0,Nat.zero_le _,by omega,rfl,Below.refl _ _,fun i _ _ h=>absurd h (by omega)⟩
 case round =>
  obtain ⟨k,T,U,rfl,f,j⟩:=hrel
  by_cases D:k < ks.length
  case pos =>
   have y:(k:Int) < (ks.length:Int):=by omega
   have z:k < ks2.length:=by have:=B.out;omega
   have E:(k:Int) < (ks2.length:Int):=by omega
   have p:=M.out.below bP f.out;have r:=C.out.below bP f.out;obtain ⟨b,P,rfl,V,W,_⟩:=iT p k D;obtain ⟨X,G,rfl,N,I,_⟩:=iT r k z;have a:=hid f.out;clear p r f;have q:=iy wr
   by_cases d:ks[k]=ks2[k]
   . have A:=hid (show ∀ i (h:i < ks.length) (n:i < ks2.length),i < k+1->ks[i]=ks2[i] from fun i h n R=>by
      by_cases e:i < k
      . exact j.out i h n e
      . obtain rfl:i=k:=by omega
        exact d)
     clear j;rw [<-d] at I;clear d;generalize ks[k]=L at *;go_wp2
     refine wp_region_quiet_below (by kernel_rfl) (by kernel_rfl) ?_
     repeat (first | go_big_quiet_step (fail) | quiet_step (fail))
     refine wpQuiet_nil ?_;intro _ l;obtain ⟨⟨u,m⟩,c⟩:=l;subst c;clear q;have v:=hid (a.out.trans ((below_regrown wr u m).mono a.out.size));go_wp2
     go_roundg (ks.length - (k+1))
     case measure=>omega
     case rel=>exact ⟨k+1,by omega,by omega,by go_num,v.out,A.out⟩
   . have g:=hid (decide_eq_false (show ¬ ks=ks2 from fun e=>d (by simp only [e])))
     have s:=jU d;have t:=fP d;clear j d;generalize ks[k]=L at *;generalize ks2[k]=S at *;go_wp2
     refine wp_region_quiet_below (by kernel_rfl) (by kernel_rfl) ?_
     repeat (first | go_big_quiet_step (fail) | quiet_step (fail))
     refine wpQuiet_nil ?_;intro _ l;obtain ⟨⟨u,m⟩,c⟩:=l;subst c;clear q;have v:=hid (a.out.trans ((below_regrown wr u m).mono a.out.size));go_wp2
     go_ret
     exact ⟨ah g.out,v.out⟩
  case neg =>
  have y:¬ (k:Int) < (ks.length:Int):=by omega
  have g:=hid (decide_eq_true (show ks=ks2 from ry B.out fun i h n=>j.out i h n (by omega)));have a:=hid f.out;clear j f;go_wp2
  go_ret
  exact ⟨ah g.out,a.out⟩
set_option maxRecDepth 100000 in
set_option maxHeartbeats 2000000 in
theorem Ov (g:Nat) (R:Bool) (p:Val->Val->Bool) (eg:∀ args w,(callFunc g args).run Tryz.prog w=.ok (.enter g args) w) (is is2:List Val) (r r2:Option Addr) (c c2:Nat) (w:World)
  (hI:Sl VR 5 w (.slice r is.length c) is) (hI2:Sl VR 5 w (.slice r2 is2.length c2) is2) (hR:R=true ↔ is.length=is2.length/\∀ i (h:i < is.length) (h':i < is2.length),p is[i] is2[i]=true)
  (hp:∀ x∈is,∀ (y:Val) (r:Option Addr) (c:Nat) (rk:Option Addr) (ck:Nat) (r2:Option Addr) (c2:Nat) (rk2:Option Addr) (ck2:Nat) (w:World),jJ w r c rk ck x->jJ w r2 c2 rk2 ck2 y ->
   Calls Tryz.prog g #[.agg #[.int .i64 x.kind,.int .i64 x.num,.string x.str,.slice r x.items.length c,.slice rk x.keys.length ck],.agg #[.int .i64 y.kind,.int .i64 y.num,.string y.str,.slice r2 y.items.length c2,.slice rk2 y.keys.length ck2]] w fun e w'=>e=.returned (.bool (p x y))/\Below w.heap.size w w') :
  Calls Tryz.prog 88 #[.slice r is.length c,.slice r2 is2.length c2,.func (.func g) #[] #[]] w fun e w'=>e=.returned (.bool R)/\Below w.heap.size w w':=by
 obtain ⟨_,af,am⟩:=bi hI;obtain ⟨_,ad,ac⟩:=bi hI2;have HI:=hid hI;have O:=hid hI2;have A:=hid hR;have HP:=hid hp;clear hI hI2 hR hp
 by_cases z:is.length=is2.length
 case neg =>
  have f:=hid (show R=false by rw [Bool.eq_false_iff];intro e;exact z (A.out.1 e).1);have X:((is.length:Int) != (is2.length:Int))=true:=by simp;omega
  have Z:((is.length:Int) == (is2.length:Int))=false:=by simp;omega
  clear z A;go_enter Tryz.func88,Tryz.ntmps88;go_wp2
  go_ret
  exact ⟨ah f.out,Below.refl _ _⟩
 case pos =>
 have X:((is.length:Int) != (is2.length:Int))=false:=by simp;omega
 have Z:((is.length:Int) == (is2.length:Int))=true:=by simp;omega
 have U:=hid z;clear z;go_enter Tryz.func88,Tryz.ntmps88;go_wp2
 clear X Z;go_loopg [17] is.length (fun gg s6 wr=>∃ k:Nat,k<=is.length/\is.length - k<=gg/\s6=.int .i64 k/\Aside (Below w.heap.size w wr)/\Aside (∀ i (h:i < is.length) (h':i < is2.length),i < k->p is[i] is2[i]=true))
 case atStart=>exact ⟨0,Nat.zero_le _,by omega,rfl,Below.refl _ _,fun i _ _ h=>absurd h (by omega)⟩
 case round =>
  obtain ⟨j,hj,al,rfl,l,v⟩:=hrel
  by_cases s:j < is.length
  case pos =>
   have J:(j:Int) < (is.length:Int):=by omega
   have u:j < is2.length:=by have:=U.out;omega
   have aa:(j:Int) < (is2.length:Int):=by omega
   have E:=iq HI.out l.out;have B:=iq O.out l.out;obtain ⟨b,an,V,ci,G,C,rfl,hb,g0,g1,g2,g3,g4,L⟩:=lC E j s;obtain ⟨b2,ab,F,D,t,o,rfl,ao,f0,f1,f2,f3,f4,S⟩:=lC B j u;have K:=hid (fun (W:World) (hW:Below wr.heap.size wr W)=>HP.out _ (List.getElem_mem s) is2[j] V ci G C F D t o W (L.below hW) (S.below hW))
   have n:=hid (show p is[j] is2[j]=true->∀ i (h:i < is.length) (h':i < is2.length),i < j+1->p is[i] is2[i]=true from fun H i h h' hi=>by
    by_cases e:i < j
    . exact v.out i h h' e
    . obtain rfl:i=j:=by omega
      exact H)
   have f:=hid (show p is[j] is2[j]=false->R=false from fun H=>by
    rw [Bool.eq_false_iff];intro e;have:=(A.out.1 e).2 j s u;rw [H] at this;cases this)
   have a:=hid l.out;clear E B l L S v;generalize is[j]=Y at *;generalize is2[j]=Q at *;generalize M:p Y Q=q at *;clear M;obtain ⟨vk,vn,vs,vi,N⟩:=Y;obtain ⟨uk,un,us,ui,T⟩:=Q;simp only [Val.kind,Val.num,Val.str,Val.items,Val.keys] at g0 g1 g2 g3 g4 f0 f1 f2 f3 f4 K;have m:=hid (show Below wr.heap.size wr ((wr.alloc (.cells #[.int .i64 vk,.int .i64 vn,.string vs,.slice V vi.length ci,.slice G N.length C] 39)).alloc (.cells #[.int .i64 uk,.int .i64 un,.string us,.slice F ui.length D,.slice t T.length o] 39)) from ((Below.refl _ _).alloc (Nat.le_refl _) _).alloc (by simp) _);cases q
   case false =>
    have P:=hid (f.out rfl);clear n f;go_wp2_with (go_at_fn g;refine (K.out _ m.out).mono ?_;rintro e w1 ⟨rfl,d⟩)
    have I:=hid (a.out.trans ((m.out.trans (d.mono m.out.size)).mono a.out.size));clear d;go_ret
    exact ⟨ah P.out,I.out⟩
   case true =>
    have HA:=hid (n.out rfl);clear n f;go_wp2_with (go_at_fn g;refine (K.out _ m.out).mono ?_;rintro e w1 ⟨rfl,d⟩)
    have I:=hid (a.out.trans ((m.out.trans (d.mono m.out.size)).mono a.out.size));clear d;go_roundg (is.length - (j+1))
    case measure=>omega
    case rel=>exact ⟨j+1,by omega,by omega,by go_num,I.out,HA.out⟩
  case neg =>
  have J:¬ (j:Int) < (is.length:Int):=by omega
  have f:=hid (show R=true from A.out.2 ⟨U.out,fun i h h'=>v.out i h h' (by omega)⟩);have a:=hid l.out;clear v l;go_wp2
  go_ret
  exact ⟨ah f.out,a.out⟩
theorem Nw:∀ args w,(callFunc 46 args).run Tryz.prog w=.ok (.enter 46 args) w:=enters_of Tryz.func46 (by kernel_rfl) rfl
set_option maxRecDepth 100000 in
set_option maxHeartbeats 2000000 in
theorem Ic (x:Val):∀ (y:Val) (r:Option Addr) (c:Nat) (rk:Option Addr) (ck:Nat) (r2:Option Addr) (c2:Nat) (rk2:Option Addr) (ck2:Nat) (w:World),jJ w r c rk ck x->jJ w r2 c2 rk2 ck2 y ->
  Calls Tryz.prog 46 #[.agg #[.int .i64 x.kind,.int .i64 x.num,.string x.str,.slice r x.items.length c,.slice rk x.keys.length ck],.agg #[.int .i64 y.kind,.int .i64 y.num,.string y.str,.slice r2 y.items.length c2,.slice rk2 y.keys.length ck2]] w fun e w'=>e=.returned (.bool (uM x y))/\Below w.heap.size w w':=by
 refine Val.ind (P:=fun x=>∀ (y:Val) (r:Option Addr) (c:Nat) (rk:Option Addr) (ck:Nat) (r2:Option Addr) (c2:Nat) (rk2:Option Addr) (ck2:Nat) (w:World),jJ w r c rk ck x->jJ w r2 c2 rk2 ck2 y ->
  Calls Tryz.prog 46 #[.agg #[.int .i64 x.kind,.int .i64 x.num,.string x.str,.slice r x.items.length c,.slice rk x.keys.length ck],.agg #[.int .i64 y.kind,.int .i64 y.num,.string y.str,.slice r2 y.items.length c2,.slice rk2 y.keys.length ck2]] w fun e w'=>e=.returned (.bool (uM x y))/\Below w.heap.size w w') ?_ x
 intro x J y r c rk ck r2 c2 rk2 ck2 w M T;obtain ⟨I,H,_,_,_,ao,al⟩:=M.parts;obtain ⟨A,u,_,_,_,aa,ab⟩:=T.parts;have Z:=hid I;have HK:=hid H;have L:=hid A;have S:=hid u;obtain ⟨_,ad,an⟩:=bi I;obtain ⟨_,af,am⟩:=bi H;obtain ⟨_,ac,Y⟩:=bi A;obtain ⟨_,V,X⟩:=bi u;have O:=hid (GZ x y);have HL:=hid (fun (W:World) (n:Sl VR 5 W (.slice r x.items.length c) x.items) (o:Sl VR 5 W (.slice r2 y.items.length c2) y.items)=>Ov 46 (CQ x.items y.items) uM Nw x.items y.items r r2 c c2 W n o xx J);clear J I H M A u T;generalize x.kind=d at *;generalize x.num=b at *;generalize x.str=m at *;generalize y.kind=B at *;generalize y.num=D at *;generalize y.str=Q at *;generalize U:uM x y=v at *;clear U;generalize a:x.items=t at *;clear a;generalize a:x.keys=s at *;clear a;generalize a:y.items=i at *;clear a;generalize a:y.keys=g at *;clear a;have j:=hid (show Below w.heap.size w ((w.alloc (.cells #[.int .i64 d,.int .i64 b,.string m,.slice r t.length c,.slice rk s.length ck] 39)).alloc (.cells #[.int .i64 B,.int .i64 D,.string Q,.slice r2 i.length c2,.slice rk2 g.length ck2] 39)) from ((Below.refl _ _).alloc (Nat.le_refl _) _).alloc (by simp) _);have l:=hid O.out;clear O
 by_cases n:d=B
 case neg =>
  have k:=hid (show v=false by rw [l.out];simp [n]);have K:(d != B)=true:=by simpa using n
  have N:(d == B)=false:=by simpa using n
  clear n;go_enter Tryz.func46,Tryz.ntmps46;go_wp2
  go_ret
  exact ⟨ah k.out,j.out⟩
 subst n
 by_cases o:b=D
 case neg =>
  have k:=hid (show v=false by rw [l.out];simp [o]);have K:(b != D)=true:=by simpa using o
  have N:(b == D)=false:=by simpa using o
  clear o;go_enter Tryz.func46,Tryz.ntmps46;go_wp2
  go_ret
  exact ⟨ah k.out,j.out⟩
 subst o
 by_cases z:m=Q
 case neg =>
  have k:=hid (show v=false by rw [l.out];simp [z]);have K:=jU z;have N:=fP z;clear z;go_enter Tryz.func46,Tryz.ntmps46;go_wp2
  go_ret
  exact ⟨ah k.out,j.out⟩
 subst z;have C:=hid (Io s g rk rk2 ck ck2 ((w.alloc (.cells #[.int .i64 d,.int .i64 b,.string m,.slice r t.length c,.slice rk s.length ck] 39)).alloc (.cells #[.int .i64 d,.int .i64 b,.string m,.slice r2 i.length c2,.slice rk2 g.length ck2] 39)) (HK.out.below bP j.out) (S.out.below bP j.out))
 have E:∀ (w1:World),Below (((w.alloc (.cells #[.int .i64 d,.int .i64 b,.string m,.slice r t.length c,.slice rk s.length ck] 39)).alloc (.cells #[.int .i64 d,.int .i64 b,.string m,.slice r2 i.length c2,.slice rk2 g.length ck2] 39))).heap.size ((w.alloc (.cells #[.int .i64 d,.int .i64 b,.string m,.slice r t.length c,.slice rk s.length ck] 39)).alloc (.cells #[.int .i64 d,.int .i64 b,.string m,.slice r2 i.length c2,.slice rk2 g.length ck2] 39)) w1->w1.cell? ⟨w.heap.size,3,none⟩=some (.slice r t.length c)/\w1.cell? ⟨w.heap.size+1,3,none⟩=some (.slice r2 i.length c2):=
  fun w1 R=>⟨az R (az ((Below.refl _ _).alloc (Nat.le_refl _) _) (aX rfl rfl)),az R (aX (by simp) rfl)⟩
 have G:=hid E;clear E
 by_cases p:s=g
 case neg =>
  have k:=hid (show v=false by rw [l.out,decide_eq_false p];simp);rw [decide_eq_false p] at C;clear p;go_enter Tryz.func46,Tryz.ntmps46;go_wp2_with fail
  refine C.out.mono ?_;rintro e w1 ⟨rfl,f⟩;have q:=hid (j.out.trans (f.mono j.out.size));clear f;go_wp2
  go_ret
  exact ⟨ah k.out,q.out⟩
 case pos =>
 have k:=hid (show v=CQ t i by rw [l.out,decide_eq_true p];simp);rw [decide_eq_true p] at C;clear p;go_enter Tryz.func46,Tryz.ntmps46;go_wp2_with fail
 refine C.out.mono ?_;rintro e w1 ⟨rfl,f⟩;have q:=hid (j.out.trans (f.mono j.out.size));obtain ⟨k3,k4⟩:=G.out w1 f;clear f G;go_wp2_with fail
 refine (HL.out w1 (iq Z.out q.out) (iq L.out q.out)).mono ?_;rintro e w2 ⟨rfl,F⟩;have B2:=hid (q.out.trans (F.mono q.out.size));clear F;go_wp2
 go_ret
 exact ⟨ah k.out,B2.out⟩
def UT (w:World):Prop:=Lib.Utf8Tabs (Tryz.pU.g 3) (Tryz.pU.g 4) w
theorem UT.below {w w':World} (h:UT w) (hb:Below w.heap.size w w'):UT w':=
 ⟨fun c hc=>az hb (h.1 c hc),fun i hi=>⟨az hb (h.2 i hi).1,az hb (h.2 i hi).2⟩⟩
theorem A8 (n:Int) (w:World):Calls Tryz.prog 163 #[.int .i64 n] w fun e w'=>e=.returned (.bool (decide (-9007199254740992<=n) && decide (n<=9007199254740992)))/\w=w':=by
 by_cases c:-9007199254740992<=n
 . by_cases b:n<=9007199254740992
   . have a:=hid (show (decide (-9007199254740992<=n) && decide (n<=9007199254740992))=true by simp [c,b])
     go_enter Tryz.func163,Tryz.ntmps163;go_wp2
     go_ret
     exact ⟨ah a.out,rfl⟩
   . have a:=hid (show decide (n<=9007199254740992)=false by simp [b])
     go_enter Tryz.func163,Tryz.ntmps163;go_wp2
     go_ret
     exact ⟨ah (by simp [a.out]),rfl⟩
 . have a:=hid (show (decide (-9007199254740992<=n) && decide (n<=9007199254740992))=false by simp [c])
   go_enter Tryz.func163,Tryz.ntmps163;go_wp2
   go_ret
   exact ⟨ah a.out,rfl⟩
theorem wJ (s:ByteArray) (w:World) (hu:UT w) (hs:s.size<=4096):Calls Tryz.prog 76 #[.string s] w fun e w'=>e=.returned (.bool (vU s))/\Below w.heap.size w w':=by
 have C:Hid (Calls Tryz.prog 119 #[.string s] w fun e w'=>e=.returned (.bool (vU s))/\Below w.heap.size w w'):=hid (Any.utf8_ValidString Tryz.Qd s w (by omega) hu);have c:(s.size:Int)<=4096:=by omega
 clear hu;generalize vU s=v at *;go_enter Tryz.func76,Tryz.ntmps76;go_wp2_with fail
 refine C.out.mono ?_;rintro e w1 ⟨rfl,a⟩;have b:=hid a;clear a;go_wp2
 go_ret
 exact ⟨rfl,b.out⟩
theorem uA (s:ByteArray) (w:World) (hu:UT w) :
  Calls Tryz.prog 165 #[.string s] w fun e w'=>e=.returned (.int .i64 (textE vU s))/\Below w.heap.size w w':=by
 have a:=hid (show textE vU s=if 4096 < s.size then 3 else if vU s=true then 0 else 1 from rfl)
 by_cases f:4096 < s.size
 . have a:=hid (a.out.trans (if_pos f))
   have g:(4096:Int) < (s.size:Int):=by omega
   go_enter Tryz.func165,Tryz.ntmps165;go_wp2
   go_ret
   exact ⟨ax a.out,Below.refl _ _⟩
 have b:=hid (a.out.trans (if_neg f));have g:(s.size:Int)<=4096:=by omega
 have C:=hid (wJ s w hu (by omega));clear a hu;cases d:vU s
 all_goals
  rw [d] at C b;have i:=hid b.out;clear d b;go_enter Tryz.func165,Tryz.ntmps165;go_wp2_with fail
  refine C.out.mono ?_;rintro e w1 ⟨rfl,c⟩;have j:=hid c;clear c;go_wp2
  go_ret
  exact ⟨ax (by rw [i.out];rfl),j.out⟩
set_option maxRecDepth 100000 in
set_option maxHeartbeats 8000000 in
theorem JJ (k n:Int) (s:ByteArray) (ni nk:Nat) (r:Option Addr) (c:Nat) (rk:Option Addr) (ck:Nat) (w:World) (hni:ni<=10000000000000) (hnk:nk<=10000000000000) (hs:s.size<=9223372036854775807) :
  Calls Tryz.prog 164 #[.agg #[.int .i64 k,.int .i64 n,.string s,.slice r ni c,.slice rk nk ck]] w fun e w'=>e=.returned (.bool (aJ k n s ni nk))/\Below w.heap.size w w':=by
 have g:=hid (show Below w.heap.size w (w.alloc (.cells #[.int .i64 k,.int .i64 n,.string s,.slice r ni c,.slice rk nk ck] 39)) from (Below.refl _ _).alloc (Nat.le_refl _) _)
 by_cases y:k < 0
 . have a:=hid (show aJ k n s ni nk=false by rw [aK,decide_eq_false (show ¬ 0<=k by omega)];simp)
   go_enter Tryz.func164,Tryz.ntmps164;go_wp2
   go_ret
   exact ⟨ah a.out,g.out⟩
 by_cases u:6 < k
 . have a:=hid (show aJ k n s ni nk=false by rw [aK,decide_eq_false (show ¬ k<=6 by omega)];simp)
   go_enter Tryz.func164,Tryz.ntmps164;go_wp2
   go_ret
   exact ⟨ah a.out,g.out⟩
 have v:k=0 ∨ k=1 ∨ k=2 ∨ k=3 ∨ k=4 ∨ k=5 ∨ k=6:=by omega
 clear y u;rcases v with rfl | rfl | rfl | rfl | rfl | rfl | rfl
 . by_cases i:n=0
   . subst i
     by_cases b:s.size=0
     . have l:=jl b
       by_cases f:ni=0
       . have m:¬ 0 < ni:=by omega
         have o:¬ (0:Int) < (ni:Int):=by omega
         by_cases d:nk=0
         . have a:=hid (show aJ 0 0 s ni nk=true by rw [aK];simp [dZ,dW,bn,keysB, *])
           have j:((nk:Int) == 0)=true:=by simp;omega
           try clear d
           try clear f
           try clear b
           go_enter Tryz.func164,Tryz.ntmps164;go_wp2
           go_ret
           exact ⟨ah a.out,g.out⟩
         . have a:=hid (show aJ 0 0 s ni nk=false by rw [aK];simp [dZ,dW,bn,keysB, *])
           have j:((nk:Int) == 0)=false:=by simp;omega
           try clear d
           try clear f
           try clear b
           go_enter Tryz.func164,Tryz.ntmps164;go_wp2
           go_ret
           exact ⟨ah a.out,g.out⟩
       . have a:=hid (show aJ 0 0 s ni nk=false by rw [aK];simp [dZ,dW,bn,keysB, *])
         have m:0 < ni:=by omega
         have o:(0:Int) < (ni:Int):=by omega
         try clear d
         try clear f
         try clear b
         go_enter Tryz.func164,Tryz.ntmps164;go_wp2
         go_ret
         exact ⟨ah a.out,g.out⟩
     . have l:=gm b
       have a:=hid (show aJ 0 0 s ni nk=false by rw [aK];simp [dZ,dW,bn,keysB, *])
       try clear d
       try clear f
       try clear b
       go_enter Tryz.func164,Tryz.ntmps164;go_wp2
       go_ret
       exact ⟨ah a.out,g.out⟩
   . have a:=hid (show aJ 0 n s ni nk=false by rw [aK];simp [dZ,dW,bn,keysB, *])
     have q:(n == 0)=false:=by simpa using i
     have p:(n != 0)=true:=by simpa using i
     try clear d
     try clear f
     try clear b
     go_enter Tryz.func164,Tryz.ntmps164;go_wp2
     go_ret
     exact ⟨ah a.out,g.out⟩
 . by_cases i:n=0
   . subst i
     by_cases b:s.size=0
     . have l:=jl b
       by_cases f:ni=0
       . have m:¬ 0 < ni:=by omega
         have o:¬ (0:Int) < (ni:Int):=by omega
         by_cases d:nk=0
         . have a:=hid (show aJ 1 0 s ni nk=true by rw [aK];simp [dZ,dW,bn,keysB, *])
           have j:((nk:Int) == 0)=true:=by simp;omega
           try clear d
           try clear f
           try clear b
           go_enter Tryz.func164,Tryz.ntmps164;go_wp2
           go_ret
           exact ⟨ah a.out,g.out⟩
         . have a:=hid (show aJ 1 0 s ni nk=false by rw [aK];simp [dZ,dW,bn,keysB, *])
           have j:((nk:Int) == 0)=false:=by simp;omega
           try clear d
           try clear f
           try clear b
           go_enter Tryz.func164,Tryz.ntmps164;go_wp2
           go_ret
           exact ⟨ah a.out,g.out⟩
       . have a:=hid (show aJ 1 0 s ni nk=false by rw [aK];simp [dZ,dW,bn,keysB, *])
         have m:0 < ni:=by omega
         have o:(0:Int) < (ni:Int):=by omega
         try clear d
         try clear f
         try clear b
         go_enter Tryz.func164,Tryz.ntmps164;go_wp2
         go_ret
         exact ⟨ah a.out,g.out⟩
     . have l:=gm b
       have a:=hid (show aJ 1 0 s ni nk=false by rw [aK];simp [dZ,dW,bn,keysB, *])
       try clear d
       try clear f
       try clear b
       go_enter Tryz.func164,Tryz.ntmps164;go_wp2
       go_ret
       exact ⟨ah a.out,g.out⟩
   . by_cases t:n=1
     . subst t
       by_cases b:s.size=0
       . have l:=jl b
         by_cases f:ni=0
         . have m:¬ 0 < ni:=by omega
           have o:¬ (0:Int) < (ni:Int):=by omega
           by_cases d:nk=0
           . have a:=hid (show aJ 1 1 s ni nk=true by rw [aK];simp [dZ,dW,bn,keysB, *])
             have j:((nk:Int) == 0)=true:=by simp;omega
             try clear d
             try clear f
             try clear b
             go_enter Tryz.func164,Tryz.ntmps164;go_wp2
             go_ret
             exact ⟨ah a.out,g.out⟩
           . have a:=hid (show aJ 1 1 s ni nk=false by rw [aK];simp [dZ,dW,bn,keysB, *])
             have j:((nk:Int) == 0)=false:=by simp;omega
             try clear d
             try clear f
             try clear b
             go_enter Tryz.func164,Tryz.ntmps164;go_wp2
             go_ret
             exact ⟨ah a.out,g.out⟩
         . have a:=hid (show aJ 1 1 s ni nk=false by rw [aK];simp [dZ,dW,bn,keysB, *])
           have m:0 < ni:=by omega
           have o:(0:Int) < (ni:Int):=by omega
           try clear d
           try clear f
           try clear b
           go_enter Tryz.func164,Tryz.ntmps164;go_wp2
           go_ret
           exact ⟨ah a.out,g.out⟩
       . have l:=gm b
         have a:=hid (show aJ 1 1 s ni nk=false by rw [aK];simp [dZ,dW,bn,keysB, *])
         try clear d
         try clear f
         try clear b
         go_enter Tryz.func164,Tryz.ntmps164;go_wp2
         go_ret
         exact ⟨ah a.out,g.out⟩
     . have a:=hid (show aJ 1 n s ni nk=false by rw [aK];simp [dZ,dW,bn,keysB, *])
       have q:(n == 0)=false:=by simpa using i
       have z:(n == 1)=false:=by simpa using t
       have p:(n != 0)=true:=by simpa using i
       have A:(n != 1)=true:=by simpa using t
       try clear d
       try clear f
       try clear b
       go_enter Tryz.func164,Tryz.ntmps164;go_wp2
       go_ret
       exact ⟨ah a.out,g.out⟩
 . by_cases b:s.size=0
   . have l:=jl b
     by_cases f:ni=0
     . have m:¬ 0 < ni:=by omega
       have o:¬ (0:Int) < (ni:Int):=by omega
       by_cases d:nk=0
       . have a:=hid (show aJ 2 n s ni nk=true by rw [aK];simp [dZ,dW,bn,keysB, *])
         have j:((nk:Int) == 0)=true:=by simp;omega
         try clear d
         try clear f
         try clear b
         go_enter Tryz.func164,Tryz.ntmps164;go_wp2
         go_ret
         exact ⟨ah a.out,g.out⟩
       . have a:=hid (show aJ 2 n s ni nk=false by rw [aK];simp [dZ,dW,bn,keysB, *])
         have j:((nk:Int) == 0)=false:=by simp;omega
         try clear d
         try clear f
         try clear b
         go_enter Tryz.func164,Tryz.ntmps164;go_wp2
         go_ret
         exact ⟨ah a.out,g.out⟩
     . have a:=hid (show aJ 2 n s ni nk=false by rw [aK];simp [dZ,dW,bn,keysB, *])
       have m:0 < ni:=by omega
       have o:(0:Int) < (ni:Int):=by omega
       try clear d
       try clear f
       try clear b
       go_enter Tryz.func164,Tryz.ntmps164;go_wp2
       go_ret
       exact ⟨ah a.out,g.out⟩
   . have l:=gm b
     have a:=hid (show aJ 2 n s ni nk=false by rw [aK];simp [dZ,dW,bn,keysB, *])
     try clear d
     try clear f
     try clear b
     go_enter Tryz.func164,Tryz.ntmps164;go_wp2
     go_ret
     exact ⟨ah a.out,g.out⟩
 . by_cases i:n=0
   . subst i
     by_cases f:ni=0
     . have m:¬ 0 < ni:=by omega
       have o:¬ (0:Int) < (ni:Int):=by omega
       by_cases d:nk=0
       . have a:=hid (show aJ 3 0 s ni nk=true by rw [aK];simp [dZ,dW,bn,keysB, *])
         have j:((nk:Int) == 0)=true:=by simp;omega
         try clear d
         try clear f
         try clear b
         go_enter Tryz.func164,Tryz.ntmps164;go_wp2
         go_ret
         exact ⟨ah a.out,g.out⟩
       . have a:=hid (show aJ 3 0 s ni nk=false by rw [aK];simp [dZ,dW,bn,keysB, *])
         have j:((nk:Int) == 0)=false:=by simp;omega
         try clear d
         try clear f
         try clear b
         go_enter Tryz.func164,Tryz.ntmps164;go_wp2
         go_ret
         exact ⟨ah a.out,g.out⟩
     . have a:=hid (show aJ 3 0 s ni nk=false by rw [aK];simp [dZ,dW,bn,keysB, *])
       have m:0 < ni:=by omega
       have o:(0:Int) < (ni:Int):=by omega
       try clear d
       try clear f
       try clear b
       go_enter Tryz.func164,Tryz.ntmps164;go_wp2
       go_ret
       exact ⟨ah a.out,g.out⟩
   . have a:=hid (show aJ 3 n s ni nk=false by rw [aK];simp [dZ,dW,bn,keysB, *])
     have q:(n == 0)=false:=by simpa using i
     have p:(n != 0)=true:=by simpa using i
     try clear d
     try clear f
     try clear b
     go_enter Tryz.func164,Tryz.ntmps164;go_wp2
     go_ret
     exact ⟨ah a.out,g.out⟩
 . by_cases i:n=0
   . subst i
     by_cases b:s.size=0
     . have l:=jl b
       by_cases d:nk=0
       . have a:=hid (show aJ 4 0 s ni nk=true by rw [aK];simp [dZ,dW,bn,keysB, *])
         have j:((nk:Int) == 0)=true:=by simp;omega
         try clear d
         try clear f
         try clear b
         go_enter Tryz.func164,Tryz.ntmps164;go_wp2
         go_ret
         exact ⟨ah a.out,g.out⟩
       . have a:=hid (show aJ 4 0 s ni nk=false by rw [aK];simp [dZ,dW,bn,keysB, *])
         have j:((nk:Int) == 0)=false:=by simp;omega
         try clear d
         try clear f
         try clear b
         go_enter Tryz.func164,Tryz.ntmps164;go_wp2
         go_ret
         exact ⟨ah a.out,g.out⟩
     . have l:=gm b
       have a:=hid (show aJ 4 0 s ni nk=false by rw [aK];simp [dZ,dW,bn,keysB, *])
       try clear d
       try clear f
       try clear b
       go_enter Tryz.func164,Tryz.ntmps164;go_wp2
       go_ret
       exact ⟨ah a.out,g.out⟩
   . have a:=hid (show aJ 4 n s ni nk=false by rw [aK];simp [dZ,dW,bn,keysB, *])
     have q:(n == 0)=false:=by simpa using i
     have p:(n != 0)=true:=by simpa using i
     try clear d
     try clear f
     try clear b
     go_enter Tryz.func164,Tryz.ntmps164;go_wp2
     go_ret
     exact ⟨ah a.out,g.out⟩
 . by_cases i:n=0
   . subst i
     by_cases b:s.size=0
     . have l:=jl b
       by_cases d:nk=ni
       . have a:=hid (show aJ 5 0 s ni nk=true by rw [aK];simp [dZ,dW,bn,keysB, *])
         have j:((nk:Int) == (ni:Int))=true:=by simp;omega
         try clear d
         try clear f
         try clear b
         go_enter Tryz.func164,Tryz.ntmps164;go_wp2
         go_ret
         exact ⟨ah a.out,g.out⟩
       . have a:=hid (show aJ 5 0 s ni nk=false by rw [aK];simp [dZ,dW,bn,keysB, *])
         have j:((nk:Int) == (ni:Int))=false:=by simp;omega
         try clear d
         try clear f
         try clear b
         go_enter Tryz.func164,Tryz.ntmps164;go_wp2
         go_ret
         exact ⟨ah a.out,g.out⟩
     . have l:=gm b
       have a:=hid (show aJ 5 0 s ni nk=false by rw [aK];simp [dZ,dW,bn,keysB, *])
       try clear d
       try clear f
       try clear b
       go_enter Tryz.func164,Tryz.ntmps164;go_wp2
       go_ret
       exact ⟨ah a.out,g.out⟩
   . have a:=hid (show aJ 5 n s ni nk=false by rw [aK];simp [dZ,dW,bn,keysB, *])
     have q:(n == 0)=false:=by simpa using i
     have p:(n != 0)=true:=by simpa using i
     try clear d
     try clear f
     try clear b
     go_enter Tryz.func164,Tryz.ntmps164;go_wp2
     go_ret
     exact ⟨ah a.out,g.out⟩
 . by_cases i:n=0
   . subst i
     by_cases b:s.size=0
     . have l:=jl b
       by_cases f:ni=0
       . have m:¬ 0 < ni:=by omega
         have o:¬ (0:Int) < (ni:Int):=by omega
         by_cases d:nk=0
         . have a:=hid (show aJ 6 0 s ni nk=true by rw [aK];simp [dZ,dW,bn,keysB, *])
           have j:((nk:Int) == 0)=true:=by simp;omega
           try clear d
           try clear f
           try clear b
           go_enter Tryz.func164,Tryz.ntmps164;go_wp2
           go_ret
           exact ⟨ah a.out,g.out⟩
         . have a:=hid (show aJ 6 0 s ni nk=false by rw [aK];simp [dZ,dW,bn,keysB, *])
           have j:((nk:Int) == 0)=false:=by simp;omega
           try clear d
           try clear f
           try clear b
           go_enter Tryz.func164,Tryz.ntmps164;go_wp2
           go_ret
           exact ⟨ah a.out,g.out⟩
       . have a:=hid (show aJ 6 0 s ni nk=false by rw [aK];simp [dZ,dW,bn,keysB, *])
         have m:0 < ni:=by omega
         have o:(0:Int) < (ni:Int):=by omega
         try clear d
         try clear f
         try clear b
         go_enter Tryz.func164,Tryz.ntmps164;go_wp2
         go_ret
         exact ⟨ah a.out,g.out⟩
     . have l:=gm b
       have a:=hid (show aJ 6 0 s ni nk=false by rw [aK];simp [dZ,dW,bn,keysB, *])
       try clear d
       try clear f
       try clear b
       go_enter Tryz.func164,Tryz.ntmps164;go_wp2
       go_ret
       exact ⟨ah a.out,g.out⟩
   . have a:=hid (show aJ 6 n s ni nk=false by rw [aK];simp [dZ,dW,bn,keysB, *])
     have q:(n == 0)=false:=by simpa using i
     have p:(n != 0)=true:=by simpa using i
     try clear d
     try clear f
     try clear b
     go_enter Tryz.func164,Tryz.ntmps164;go_wp2
     go_ret
     exact ⟨ah a.out,g.out⟩
theorem Dh (x:Val) (r:Option Addr) (c:Nat) (rk:Option Addr) (ck:Nat) (w:World) (hx:jJ w r c rk ck x) :
  Calls Tryz.prog 164 #[.agg #[.int .i64 x.kind,.int .i64 x.num,.string x.str,.slice r x.items.length c,.slice rk x.keys.length ck]] w fun e w'=>e=.returned (.bool (aJ x.kind x.num x.str x.items.length x.keys.length))/\Below w.heap.size w w':=by
 obtain ⟨_,_,_,_,d,a,b⟩:=hx.parts;exact JJ _ _ _ _ _ _ _ _ _ _ b a (by unfold maxLen at d;omega)
theorem AQ (vld:ByteArray->Bool) {k n:Int} {s:ByteArray} {ni:Nat} {ks:List ByteArray} (h:aJ k n s ni ks.length=true) :
  lK vld k n s ni ks=if k=2 then (if -9007199254740992<=n/\n<=9007199254740992 then 0 else 5) else if k=3 then textE vld s else if k=5 then kY vld none ks else 0:=by
 unfold lK;rw [if_pos h]
set_option maxRecDepth 100000 in
set_option maxHeartbeats 4000000 in
theorem Jf (x:Val) (r:Option Addr) (c:Nat) (rk:Option Addr) (ck:Nat) (w:World) (hx:jJ w r c rk ck x) (hu:UT w) :
  Calls Tryz.prog 122 #[.agg #[.int .i64 x.kind,.int .i64 x.num,.string x.str,.slice r x.items.length c,.slice rk x.keys.length ck]] w fun e w'=>e=.returned (.int .i64 (kJ vU x))/\Below w.heap.size w w':=by
 obtain ⟨hI,hK,_,_,hs,aR,aM⟩:=hx.parts;obtain ⟨_,aw,aE⟩:=bi hK;have HK:=hid hK;have HU:=hid hu;have P:Below w.heap.size w (w.alloc (.cells #[.int .i64 x.kind,.int .i64 x.num,.string x.str,.slice r x.items.length c,.slice rk x.keys.length ck] 39)):=(Below.refl _ _).alloc (Nat.le_refl _) _;have K:=hid (Dh x r c rk ck _ (hx.below P));have W:=hid (show kJ vU x=lK vU x.kind x.num x.str x.items.length x.keys from rfl);have HR:=hid (fun h:aJ x.kind x.num x.str x.items.length x.keys.length=true=>AQ vU h);have g:=hid (fun h:aJ x.kind x.num x.str x.items.length x.keys.length=false=>show lK vU x.kind x.num x.str x.items.length x.keys=1 by unfold lK;rw [if_neg (by rw [h];simp)]);have q:=hid P;clear P hI hK hx hu;generalize ar:kJ vU x=S at *;clear ar;generalize aJ x.kind x.num x.str x.items.length x.keys.length=sb at *;generalize x.kind=t at *;generalize x.num=o at *;generalize x.str=Q at *;generalize x.items.length=ni at *;generalize x.keys=a at *;cases sb
 . have i:=hid (W.out.trans (g.out rfl))
   clear HR g W;go_enter Tryz.func122,Tryz.ntmps122;go_wp2_with fail
   refine K.out.mono ?_;rintro e w1 ⟨rfl,f⟩;have n:=hid (q.out.trans (f.mono q.out.size));clear f;go_wp2
   go_ret
   exact ⟨ax i.out,n.out⟩
 have G:=hid (W.out.trans (HR.out rfl));clear HR g W
 have Z:∀ (w1:World) (y:Below (w.alloc (.cells #[.int .i64 t,.int .i64 o,.string Q,.slice r ni c,.slice rk a.length ck] 39)).heap.size (w.alloc (.cells #[.int .i64 t,.int .i64 o,.string Q,.slice r ni c,.slice rk a.length ck] 39)) w1),
   w1.cell? ⟨w.heap.size,0,none⟩=some (.int .i64 t)/\w1.cell? ⟨w.heap.size,1,none⟩=some (.int .i64 o)/\w1.cell? ⟨w.heap.size,2,none⟩=some (.string Q)/\w1.cell? ⟨w.heap.size,4,none⟩=some (.slice rk a.length ck):=
  fun w1 y=>⟨az y (aX rfl rfl),az y (aX rfl rfl),az y (aX rfl rfl),az y (aX rfl rfl)⟩
 have z:=hid Z;clear Z
 by_cases O:t=2
 . subst O
   have p:=hid (G.out.trans (if_pos rfl));clear G;have HV:=hid (show (decide (-9007199254740992<=o) && decide (o<=9007199254740992))=decide (-9007199254740992<=o/\o<=9007199254740992) by simp);have i:=hid (show S=if decide (-9007199254740992<=o/\o<=9007199254740992)=true then 0 else 5 by rw [p.out];simp);clear p;generalize decide (-9007199254740992<=o/\o<=9007199254740992)=vb at *;cases vb
   all_goals
    have g:=hid i.out;clear i;go_enter Tryz.func122,Tryz.ntmps122;go_wp2_with fail
    refine K.out.mono ?_;rintro e w1 ⟨rfl,f⟩;have n:=hid (q.out.trans (f.mono q.out.size));obtain ⟨X,k1,T,m⟩:=z.out w1 f;clear f;go_wp2_with fail
    refine (A8 _ _).mono ?_;rintro e w2 ⟨rfl,rfl⟩;rw [HV.out];go_wp2
    go_ret
    exact ⟨ax (by rw [g.out];rfl),n.out⟩
 have p:=hid (G.out.trans (if_neg O));clear G;have a1:(t == 2)=false:=by simpa using O
 clear O
 by_cases R:t=3
 . subst R
   have g:=hid (p.out.trans (if_pos rfl));clear p;go_enter Tryz.func122,Tryz.ntmps122;go_wp2_with fail
   refine K.out.mono ?_;rintro e w1 ⟨rfl,f⟩;have n:=hid (q.out.trans (f.mono q.out.size));obtain ⟨X,k1,T,m⟩:=z.out w1 f;clear f;go_wp2_with fail
   refine (uA Q w1 (HU.out.below n.out)).mono ?_;rintro e w2 ⟨rfl,ac⟩;have B2:=hid (n.out.trans (ac.mono n.out.size));clear ac;go_wp2
   go_ret
   exact ⟨ax g.out,B2.out⟩
 have i:=hid (p.out.trans (if_neg R));clear p;have aL:(t == 3)=false:=by simpa using R
 clear R
 by_cases L:t=5
 case neg =>
  have g:=hid (i.out.trans (if_neg L));have a2:(t == 5)=false:=by simpa using L
  clear i L;go_enter Tryz.func122,Tryz.ntmps122;go_wp2_with fail
  refine K.out.mono ?_;rintro e w1 ⟨rfl,f⟩;have n:=hid (q.out.trans (f.mono q.out.size));obtain ⟨X,k1,T,m⟩:=z.out w1 f;clear f;go_wp2
  go_ret
  exact ⟨ax g.out,n.out⟩
 case pos =>
 subst L;have am:=hid (i.out.trans (if_pos rfl));clear i;go_enter Tryz.func122,Tryz.ntmps122;go_wp2_with fail
 refine K.out.mono ?_;rintro e w1 ⟨rfl,f⟩;have n:=hid (q.out.trans (f.mono q.out.size));obtain ⟨X,k1,T,m⟩:=z.out w1 f;have K4:=hid m;clear f z;go_wp2
 clear X k1 T m;go_loopg [27] a.length (fun gg s4 wr=>∃ k:Nat,k<=a.length/\a.length - k<=gg/\s4=.int .i64 k/\Aside (Below w1.heap.size w1 wr)/\Aside (S=kY vU (IR a k) (a.drop k)))
 case atStart=>exact ⟨0,Nat.zero_le _,by omega,rfl,Below.refl _ _,by show S=kY vU (IR a 0) (a.drop 0);rw [List.drop_zero];exact am.out⟩
 case round =>
  clear am;obtain ⟨k,hk,hg,rfl,J,U⟩:=hrel;have m:=az J.out K4.out;have D:=World.block_lt_of_cell? _ _ m;simp only at D;have v:=hid (n.out.trans (J.out.mono n.out.size))
  by_cases aa:k < a.length
  case neg =>
   have aq:¬ (k:Int) < (a.length:Int):=by omega
   have g:=hid (show S=0 by rw [U.out,List.drop_eq_nil_of_le (by omega)];cases IR a k <;> rfl);clear U J;go_wp2
   go_ret
   exact ⟨ax g.out,v.out⟩
  have aq:(k:Int) < (a.length:Int):=by omega
  have ab:=hid (HK.out.below bP v.out);have ad:=hid (HU.out.below v.out);obtain ⟨b,aD,rfl,y,C,_⟩:=iT ab.out k aa;have Y:=hid (U.out.trans (xg vU aa));clear U;have E:=hid J.out;clear J
  by_cases A:textE vU a[k]=0
  case neg =>
   have g:=hid (Y.out.trans (if_pos A));have B:=hid (uA a[k] wr ad.out);generalize a[k]=I at *;generalize textE vU I=te at *;have e1:(te != 0)=true:=by simpa using A
   have a0:(te == 0)=false:=by simpa using A
   clear A Y;go_wp2_with fail
   refine B.out.mono ?_;rintro e w3 ⟨rfl,d⟩;have u:=hid (v.out.trans (d.mono v.out.size));clear d;go_wp2
   go_ret
   exact ⟨ax g.out,u.out⟩
  case pos =>
  have s:=hid (Y.out.trans (if_neg (by simpa using A)));have B:=hid (uA a[k] wr ad.out);rw [A] at B;clear Y A
  by_cases h0:k=0
  case pos =>
   subst h0;have M:=hid (s.out.trans (if_pos rfl));generalize a[0]=I at *;clear s;simp only [Nat.add_zero] at C;go_wp2_with fail
   refine B.out.mono ?_;rintro e w3 ⟨rfl,d⟩;have u:=hid (E.out.trans (d.mono E.out.size));clear d;go_wp2
   go_roundg (a.length - (0+1))
   case measure=>omega
   case rel=>exact ⟨0+1,by omega,by omega,by go_num,u.out,M.out⟩
  case neg =>
  have an:k - 1 < a.length:=by omega
  obtain ⟨b',av,ap,N,H,_⟩:=iT ab.out (k - 1) an;simp only [Option.some.injEq,Addr.mk.injEq,and_true] at ap;obtain ⟨rfl,rfl⟩:=ap
  have HP:=hid (show IR a k=some a[k - 1] by
   obtain ⟨j,rfl⟩:∃ j,k=j+1:=⟨k - 1,by omega⟩;exact List.getElem?_eq_getElem an)
  have V:=hid (show ru (IR a k) a[k]=decide (PM a[k - 1] a[k]) by rw [HP.out];rfl);clear HP;have y1:(0:Int)<=(k:Int) - 1:=by omega
  have y2:(k:Int) - 1 < (a.length:Int):=by omega
  have y3:0 < k:=by omega
  by_cases l:PM a[k - 1] a[k]
  case pos =>
   have M:=hid (s.out.trans (if_pos (by rw [V.out];exact decide_eq_true l)));have e1:=pV l;have e4:=fP (show a[k - 1]≠a[k] from fun e=>List.lt_irrefl _ (by unfold PM at l;rw [e] at l;exact l));have L:=Bi (show ¬ (a[k]).data.toList < (a[k - 1]).data.toList from fun h=>List.lt_asymm l h);have e6:=fP (show a[k]≠a[k - 1] from fun e=>List.lt_irrefl _ (by unfold PM at l;rw [e] at l;exact l));clear s V l h0;generalize a[k - 1]=kp at *;generalize a[k]=I at *;go_wp2_with fail
   refine B.out.mono ?_;rintro e w3 ⟨rfl,d⟩;have u:=hid (E.out.trans (d.mono E.out.size));have al:=az d m;have af:=az d C;have ao:=az d H;clear d D m C H y N;go_wp2
   go_roundg (a.length - (k+1))
   case measure=>omega
   case rel=>exact ⟨k+1,by omega,by omega,by go_num,u.out,M.out⟩
  case neg =>
   have g:=hid (s.out.trans (if_neg (by rw [V.out];simpa using l)));clear s V h0;generalize a[k - 1]=kp at *;generalize a[k]=I at *
   by_cases F:I=kp
   . subst F
     clear l;go_wp2_with fail
     refine B.out.mono ?_;rintro e w3 ⟨rfl,d⟩;have u:=hid (v.out.trans (d.mono v.out.size));have al:=az d m;have af:=az d C;have ao:=az d H;clear d D m C H y N;go_wp2
     go_ret
     exact ⟨ax g.out,u.out⟩
   . have e1:=pV (show I.data.toList < kp.data.toList from by
      apply Decidable.byContradiction;intro h;exact F (wY (List.le_antisymm (List.not_lt.1 l) (List.not_lt.1 h))))
     have O:=fP F;clear l F;go_wp2_with fail
     refine B.out.mono ?_;rintro e w3 ⟨rfl,d⟩;have u:=hid (v.out.trans (d.mono v.out.size));have al:=az d m;have af:=az d C;have ao:=az d H;clear d D m C H y N;go_wp2
     go_ret
     exact ⟨ax g.out,u.out⟩
theorem Dq:∀ args w,(callFunc 121 args).run Tryz.prog w=.ok (.enter 121 args) w:=enters_of Tryz.func121 (by kernel_rfl) rfl
theorem gZ {w w':World} {b:Nat} {o:Obj} (hb:Below w.heap.size w w') (h:w.heap[b]?=some o):w'.heap[b]?=some o:=(hb.block b (lt_of_block h)).trans h
theorem heap_set {w:World} {b:Nat} {o:Obj} {p:Addr} {v:Value} (hne:b≠p.block) (h:w.heap[b]?=some o):(w.setCell p v).heap[b]?=some o:=(Below.heap_setCell w p v b hne).trans h
structure Vb (w0 W:World) (Bc Bv:Nat) (fv:Value) (res:Int × Nat) (w':World):Prop where
 below:Below w0.heap.size w0 w'
 size:W.heap.size<=w'.heap.size
 fn:w'.heap[Bv]?=some (.cells #[fv] 147 (0,0))
 cnt:∃ n':Nat,w'.heap[Bc]?=some (.cells #[.int .i64 (n':Int)] 3 (0,0))/\(res.1=0->n'=res.2)
set_option maxRecDepth 100000 in
set_option maxHeartbeats 4000000 in
theorem Qh (w0:World) (hu:UT w0) (Bc Bv:Nat) (hBc:w0.heap.size<=Bc) (hBv:w0.heap.size<=Bv) (hne:Bc≠Bv) (x:Val):∀ (lv:Int) (n:Nat) (r:Option Addr) (c:Nat) (rk:Option Addr) (ck:Nat) (W:World),jJ w0 r c rk ck x->0<=lv->lv<=33->n<=4096->Below w0.heap.size w0 W ->
  W.heap[Bv]?=some (.cells #[.func (.func 121) #[] #[.pointer (some ⟨Bc,0,none⟩),.pointer (some ⟨Bv,0,none⟩)]] 147 (0,0))->W.heap[Bc]?=some (.cells #[.int .i64 (n:Int)] 3 (0,0)) ->
  Calls Tryz.prog 121 #[.agg #[.int .i64 x.kind,.int .i64 x.num,.string x.str,.slice r x.items.length c,.slice rk x.keys.length ck],.int .i64 lv,.pointer (some ⟨Bc,0,none⟩),.pointer (some ⟨Bv,0,none⟩)] W fun e w'=>e=.returned (.int .i64 (iD vU x lv n).1)/\Vb w0 W Bc Bv (.func (.func 121) #[] #[.pointer (some ⟨Bc,0,none⟩),.pointer (some ⟨Bv,0,none⟩)]) (iD vU x lv n) w':=by
 refine Val.ind (P:=fun x=>∀ (lv:Int) (n:Nat) (r:Option Addr) (c:Nat) (rk:Option Addr) (ck:Nat) (W:World),jJ w0 r c rk ck x->0<=lv->lv<=33->n<=4096->Below w0.heap.size w0 W ->
  W.heap[Bv]?=some (.cells #[.func (.func 121) #[] #[.pointer (some ⟨Bc,0,none⟩),.pointer (some ⟨Bv,0,none⟩)]] 147 (0,0))->W.heap[Bc]?=some (.cells #[.int .i64 (n:Int)] 3 (0,0)) ->
  Calls Tryz.prog 121 #[.agg #[.int .i64 x.kind,.int .i64 x.num,.string x.str,.slice r x.items.length c,.slice rk x.keys.length ck],.int .i64 lv,.pointer (some ⟨Bc,0,none⟩),.pointer (some ⟨Bv,0,none⟩)] W fun e w'=>e=.returned (.int .i64 (iD vU x lv n).1)/\Vb w0 W Bc Bv (.func (.func 121) #[] #[.pointer (some ⟨Bc,0,none⟩),.pointer (some ⟨Bv,0,none⟩)]) (iD vU x lv n) w') ?_ x
 intro x ih lv n r c rk ck W hx bh bo hn M K A;obtain ⟨hI,hK,_,_,hs,bm,bl⟩:=hx.parts;obtain ⟨_,bf,bg⟩:=bi hI;have HI:=hid hI;have HU:=hid hu;have HX:=hid hx;have f:Below W.heap.size W (W.alloc (.cells #[.int .i64 x.kind,.int .i64 x.num,.string x.str,.slice r x.items.length c,.slice rk x.keys.length ck] 39)):=(Below.refl _ _).alloc (Nat.le_refl _) _;have U:=hid (M.trans (f.mono M.size));have R:=hid f.size;have FV:=hid (gZ f K);have X:=hid (gZ f A);have HN:=hid (ww vU x lv n);have B:=cell_of_one (gZ f A);have f1:=free_of_one (gZ f A);have bc:=lt_of_block A;have bd:=lt_of_block K;have a8:=hid hne;have a4:=hid hBc;have bj:=hid hBv;have IH:=hid ih;have V0:=hid (show (W.alloc (.cells #[.int .i64 x.kind,.int .i64 x.num,.string x.str,.slice r x.items.length c,.slice rk x.keys.length ck] 39)).cell? ⟨W.heap.size,3,none⟩=some (.slice r x.items.length c) from aX rfl rfl);have V:=hid (fun (Z:World) (S:jJ Z r c rk ck x) (h:UT Z)=>Jf x r c rk ck Z S h);have t:=hid (show ∀ j v,#[.int .i64 x.kind,.int .i64 x.num,.string x.str,.slice r x.items.length c,.slice rk x.keys.length ck][j]?=some v->(W.alloc (.cells #[.int .i64 x.kind,.int .i64 x.num,.string x.str,.slice r x.items.length c,.slice rk x.keys.length ck] 39)).cell? ⟨W.heap.size,j,none⟩=some v from fun j v h=>aX rfl h);clear f hI hK ih M K A hne hBc hBv hu hx;generalize a0:kJ vU x=G at *;clear a0;generalize a1:iD vU x lv n=nx at *;clear a1;obtain ⟨q,u⟩:=nx;simp only at *;generalize x.kind=xk at *;generalize x.num=xn at *;generalize x.str=xs at *;generalize x.keys.length=nk at *;generalize a3:x.items=d at *;clear a3
 by_cases h1:32 < lv
 . have a:=hid (show q=4/\u=n by have:=HN.out;rw [if_pos h1] at this;simpa using this)
   clear V0 t V IH B f1;go_enter Tryz.func121,Tryz.ntmps121;go_wp2
   go_ret
   exact ⟨ax a.out.1,U.out,R.out,FV.out,n,X.out,fun h=>by have:=a.out.1;simp only at h;omega⟩
 have H:=hid (HN.out.trans (if_neg h1));clear HN
 by_cases h2:4096<=n
 . have a:=hid (show q=14/\u=n by have:=H.out;rw [if_pos h2] at this;simpa using this)
   have bb:4096<=(n:Int):=by omega
   clear V0 t V IH;go_enter Tryz.func121,Tryz.ntmps121;go_wp2
   go_ret
   exact ⟨ax a.out.1,U.out,R.out,FV.out,n,X.out,fun h=>by have:=a.out.1;simp only at h;omega⟩
 have E:=hid (H.out.trans (if_neg h2));have bb:¬ 4096<=(n:Int):=by omega
 clear H h2;have aq:=t.out 0 _ rfl;have av:=t.out 1 _ rfl;have an:=t.out 2 _ rfl;have ao:=t.out 3 _ rfl;have ac:=t.out 4 _ rfl;clear t V0;generalize aL:W.alloc (.cells #[.int .i64 xk,.int .i64 xn,.string xs,.slice r d.length c,.slice rk nk ck] 39)=o at *;have aE:Bc≠W.heap.size:=by omega
 have z:=hid (show Below w0.heap.size w0 (o.setCell ⟨Bc,0,none⟩ (.int .i64 ((n:Int)+1))) from U.out.setCell a4.out _);have af:=hid (show (o.setCell ⟨Bc,0,none⟩ (.int .i64 ((n:Int)+1))).heap[Bv]?=_ from heap_set (Ne.symm a8.out) FV.out);have ad:=hid (show (o.setCell ⟨Bc,0,none⟩ (.int .i64 ((n:Int)+1))).heap[Bc]?=_ from one_setCell X.out);have am:=hid (show W.heap.size<=(o.setCell ⟨Bc,0,none⟩ (.int .i64 ((n:Int)+1))).heap.size by have:=R.out;simpa [World.setCell] using this)
 have F:∀ j v,o.cell? ⟨W.heap.size,j,none⟩=some v->(o.setCell ⟨Bc,0,none⟩ (.int .i64 ((n:Int)+1))).cell? ⟨W.heap.size,j,none⟩=some v:=fun j v h=>by
  rw [World.cell?_of_block (w:=o) (Below.heap_setCell o ⟨Bc,0,none⟩ _ W.heap.size (Ne.symm aE))];exact h
 have D0:=hid (F 0 _ aq);have D1:=hid (F 1 _ av);have D2:=hid (F 2 _ an);have D3:=hid (F 3 _ ao);have D4:=hid (F 4 _ ac);have ap:=hid (V.out _ (HX.out.below z.out) (HU.out.below z.out));have be:n+1<=4097:=by omega
 clear F V aq av an ao ac U FV X R;have H3:=hid (show G=0 ∨ G≠0 from Decidable.em _);have eg:=Dq;go_enter Tryz.func121,Tryz.ntmps121;go_upto_region 6 with (fail)
 clear aL B f1;generalize (o.setCell ⟨Bc,0,none⟩ (.int .i64 ((n:Int)+1)))=Z at *;have d0:=D0.out;have d1:=D1.out;have d2:=D2.out;have d3:=D3.out;have d4:=D4.out;go_wp2_with fail
 refine ap.out.mono ?_;rintro e w3 ⟨rfl,l⟩;have B3:=hid (z.out.trans (l.mono z.out.size));have O:=hid (gZ l af.out);have N:=hid (gZ l ad.out);have J:=hid (Nat.le_trans am.out l.size);have e3:=az l D3.out;clear l d0 d1 d2 d3 d4 ap af ad am D0 D1 D2 D3 D4 z;rcases H3.out with h3 | h3
 case inr =>
  have a:=hid (show q=G/\u=n by have:=E.out;rw [if_pos h3] at this;simpa using this);have e1:(G != 0)=true:=by simpa using h3
  have e2:(G == 0)=false:=by simpa using h3
  have aR:=hid h3;clear h3 E H3;go_wp2
  go_ret
  exact ⟨ax a.out.1,B3.out,J.out,O.out,n+1,N.out,fun h=>absurd (a.out.1.symm.trans h) aR.out⟩
 case inl =>
 subst h3;have aa:=hid (E.out.trans (if_neg (by simp)));clear E H3;go_wp2
 clear e3;go_loopg [25] d.length (fun gg aM wr=>∃ k m:Nat,k<=d.length/\d.length - k<=gg/\aM=.int .i64 k/\m<=4096/\Aside (Below w0.heap.size w0 wr)/\Aside (W.heap.size<=wr.heap.size)/\Aside (wr.heap[Bv]?=some (.cells #[.func (.func 121) #[] #[.pointer (some ⟨Bc,0,none⟩),.pointer (some ⟨Bv,0,none⟩)]] 147 (0,0)))/\Aside (wr.heap[Bc]?=some (.cells #[.int .i64 (m:Int)] 3 (0,0)))/\Aside (iR vU (d.take k) (lv+1) (n+1)=(0,m)))
 case atStart=>exact ⟨0,n+1,Nat.zero_le _,by omega,rfl,by omega,B3.out,J.out,O.out,N.out,by show iR vU (d.take 0) (lv+1) (n+1)=(0,n+1);rw [List.take_zero,iR]⟩
 case round =>
  clear B3 O N J;obtain ⟨k,m,hk,hg,rfl,hm,s,SX,I,CX,L⟩:=hrel
  by_cases D:k < d.length
  case neg =>
   have aw:¬ (k:Int) < (d.length:Int):=by omega
   have a:=hid (show q=0/\u=m by
    have:=L.out;rw [show k=d.length by omega,List.take_length,<-aa.out] at this;simpa using this)
   clear L;go_wp2
   go_ret
   exact ⟨ax a.out.1,s.out,SX.out,I.out,m,CX.out,fun _=>a.out.2.symm⟩
  have aw:(k:Int) < (d.length:Int):=by omega
  obtain ⟨b,bk,ri,ci,ar,ab,rfl,hb,g0,g1,g2,g3,g4,S⟩:=lC HI.out k D;have a5:=az s.out g0;have ba:=az s.out g1;have a2:=az s.out g2;have a6:=az s.out g3;have a7:=az s.out g4;have C:=hid (fun (W':World)=>IH.out _ (List.getElem_mem D) (lv+1) m ri ci ar ab W' S (by omega) (by omega) hm);have T:=hid (fun g=>zA vU D L.out g);have Y:=hid (fun g=>Ac vU D L.out g);have al:=Nu vU d[k] (lv+1) m hm;clear S L g0 g1 g2 g3 g4 hb;generalize d[k]=y at *;generalize iD vU y (lv+1) m=cv at *;obtain ⟨B,c2⟩:=cv;obtain ⟨yk,yn,ys,yi,a9⟩:=y;simp only [Val.kind,Val.num,Val.str,Val.items,Val.keys] at a5 ba a2 a6 a7 C T Y al;have i:Below wr.heap.size wr (wr.alloc (.cells #[.int .i64 yk,.int .i64 yn,.string ys,.slice ri yi.length ci,.slice ar a9.length ab] 39)):=(Below.refl _ _).alloc (Nat.le_refl _) _;have v1:=cell_of_one (gZ i I.out);have v2:=lt_of_block I.out;have v3:=cell_of_one I.out;have CA:=hid (C.out _ (s.out.trans (i.mono s.out.size)) (gZ i I.out) (gZ i CX.out));have SA:=hid (Nat.le_trans SX.out i.size);clear i C
  by_cases g:B=0
  case pos =>
   subst g;have HT:=hid (T.out rfl);clear T Y;go_wp2_with fail
   refine CA.out.mono ?_;rintro e w4 ⟨rfl,p⟩;have Q:=hid p;clear p;go_wp2
   obtain ⟨p1,p2,p3,n',p4,p5⟩:=Q.out;obtain rfl:n'=c2:=p5 rfl;have P1:=hid p1;have P2:=hid (Nat.le_trans SA.out p2);have P3:=hid p3;have P4:=hid p4;clear p1 p2 p3 p4 p5;go_roundg (d.length - (k+1))
   case measure=>omega
   case rel=>exact ⟨k+1,n',by omega,by omega,by go_num,al,P1.out,P2.out,P3.out,P4.out,HT.out⟩
  case neg =>
   have a:=hid (show q=B/\u=c2 by have:=aa.out.trans (Y.out g);simpa using this);have e1:(B != 0)=true:=by simpa using g
   have e2:(B == 0)=false:=by simpa using g
   have aD:=hid g;clear T Y g;go_wp2_with fail
   refine CA.out.mono ?_;rintro e w4 ⟨rfl,p⟩;have Q:=hid p;clear p;go_wp2
   obtain ⟨p1,p2,p3,n',p4,p5⟩:=Q.out;go_ret
   exact ⟨ax a.out.1,p1,Nat.le_trans SA.out p2,p3,n',p4,fun h=>absurd (a.out.1.symm.trans h) aD.out⟩
set_option maxRecDepth 100000 in
set_option maxHeartbeats 4000000 in
theorem yD (x:Val) (r:Option Addr) (c:Nat) (rk:Option Addr) (ck:Nat) (w:World) (hx:jJ w r c rk ck x) (hu:UT w) :
  Calls Tryz.prog 78 #[.agg #[.int .i64 x.kind,.int .i64 x.num,.string x.str,.slice r x.items.length c,.slice rk x.keys.length ck]] w fun e w'=>e=.returned (.int .i64 (gy vU x))/\Below w.heap.size w w':=by
 have d:Below w.heap.size w (((w.alloc (.cells #[.int .i64 x.kind,.int .i64 x.num,.string x.str,.slice r x.items.length c,.slice rk x.keys.length ck] 39)).alloc (.cells #[.int .i64 0] 3)).alloc (.cells #[.func (.func 121) #[] #[.pointer (some ⟨w.heap.size+1,0,none⟩),.pointer (some ⟨w.heap.size+1+1,0,none⟩)]] 147)):=(((Below.refl _ _).alloc (Nat.le_refl _) _).alloc (by simp) _).alloc (by simp;omega) _
 have C:=hid (Qh w hu (w.heap.size+1) (w.heap.size+1+1) (by omega) (by omega) (by omega) x 1 0 r c rk ck _ hx (by omega) (by omega) (by omega) d
  ((congrArg _ (by simp)).trans (MapKept.heap_alloc _ _).1) ((Below.heap_alloc _ _ _ (by simp)).trans ((congrArg _ (by simp)).trans (MapKept.heap_alloc _ _).1)))
 have f:=hid (show gy vU x=(iD vU x 1 0).1 from rfl);clear d hx hu;generalize iD vU x 1 0=g at *;obtain ⟨m,j⟩:=g;simp only at *;generalize gy vU x=s at *;generalize x.kind=o at *;generalize x.num=n at *;generalize x.str=l at *;generalize x.keys.length=k at *;generalize x.items.length=p at *;have q:=Dq;have i:∀ (fn:Fn) (first cap:Array Value) (w:World),(Instr.makeFunc fn first cap).run Tryz.prog w=.ok (.func fn first cap) w:=fun _ _ _ _=>rfl;go_enter Tryz.func78,Tryz.ntmps78;go_wp2_with fail
 refine C.out.mono ?_;rintro e w4 ⟨rfl,a⟩;have b:=hid a;clear a;go_wp2
 go_ret
 exact ⟨ax f.out,b.out.below⟩
set_option maxRecDepth 100000 in
set_option maxHeartbeats 1000000 in
theorem Jz (p:Val->Bool) (g:Nat) (lb:Array Value) (eg:∀ args w,(callFunc g args).run Tryz.prog w=.ok (.enter g args) w) (is:List Val) (r:Option Addr) (c:Nat) (w:World)
  (hI:Sl VR 5 w (.slice r is.length c) is) (hp:∀ x∈is,∀ (r:Option Addr) (c:Nat) (rk:Option Addr) (ck:Nat) (W:World),Below w.heap.size w W->jJ W r c rk ck x ->
   Calls Tryz.prog g (#[.agg #[.int .i64 x.kind,.int .i64 x.num,.string x.str,.slice r x.items.length c,.slice rk x.keys.length ck]] ++ lb) W fun e w'=>e=.returned (.bool (p x))/\Below w.heap.size w w') :
  Calls Tryz.prog 166 #[.slice r is.length c,.func (.func g) #[] lb] w fun e w'=>(∃ k:Int,e=.returned (.int .i64 k)/\decide (0<=k)=is.any p)/\Below w.heap.size w w':=by
 obtain ⟨_,O,S⟩:=bi hI;have F:=hid hI;have I:=hid hp;clear hI hp;go_enter Tryz.func166,Tryz.ntmps166;go_wp2
 go_loopg [5,8] is.length (fun E _ G wr=>∃ a:Nat,a<=is.length/\is.length - a<=E/\G=.int .i64 a/\Aside (Below w.heap.size w wr)/\Aside ((is.take a).any p=false))
 case atStart=>exact ⟨0,Nat.zero_le _,by omega,rfl,Below.refl _ w,rfl⟩
 case round =>
  obtain ⟨a,P,U,rfl,j,A⟩:=hrel
  by_cases f:a < is.length
  . have n:(a:Int) < (is.length:Int):=by omega
    obtain ⟨b,R,B,K,s,u,rfl,Y,H,C,N,D,L,o⟩:=lC (iq F.out j.out) a f;have d:=I.out _ (List.getElem_mem f) B K s u wr j.out o
    have m:Aside ((is.take (a+1)).any p=p (is[a])):=by
     show _=_;rw [List.take_succ_eq_append_getElem f,List.any_append,A.out];simp
    have l:Aside (p (is[a])=true->is.any p=true):=fun h=>List.any_eq_true.2 ⟨_,List.getElem_mem f,h⟩;clear o;generalize is[a]=y at *;generalize M:p y=q at *;clear M;obtain ⟨V,Z,X,T,Q⟩:=y;simp only [Val.kind,Val.num,Val.str,Val.items,Val.keys] at H C N D L d;cases q with
    | true =>
      have v:Aside (is.any p=true):=l.out rfl;clear l m;go_wp2_with (go_at_fn g;refine d.mono ?_;rintro e w' ⟨rfl,i⟩)
      go_ret
      exact ⟨⟨a,rfl,by rw [v.out];simp⟩,i⟩
    | false =>
      have z:Aside ((is.take (a+1)).any p=false):=m.out;clear l m;go_wp2_with (go_at_fn g;refine d.mono ?_;rintro e w' ⟨rfl,i⟩)
      go_roundg (is.length - (a+1))
      case measure=>omega
      case rel=>exact ⟨a+1,by omega,by omega,by go_num,i,z⟩
  . have n:¬ (a:Int) < (is.length:Int):=by omega
    have t:a=is.length:=by omega
    have J:Aside (is.any p=false):=by have:=A.out;rw [t,List.take_length] at this;exact this
    clear t A;go_wp2
    go_ret
    exact ⟨⟨-1,rfl,by rw [J.out];rfl⟩,j.out⟩
theorem Be (p:Val->Bool) (g:Nat) (lb:Array Value) (eg:∀ args w,(callFunc g args).run Tryz.prog w=.ok (.enter g args) w) (is:List Val) (r:Option Addr) (c:Nat) (w:World)
  (hI:Sl VR 5 w (.slice r is.length c) is) (hp:∀ x∈is,∀ (r:Option Addr) (c:Nat) (rk:Option Addr) (ck:Nat) (W:World),Below w.heap.size w W->jJ W r c rk ck x ->
   Calls Tryz.prog g (#[.agg #[.int .i64 x.kind,.int .i64 x.num,.string x.str,.slice r x.items.length c,.slice rk x.keys.length ck]] ++ lb) W fun e w'=>e=.returned (.bool (p x))/\Below w.heap.size w w') :
  Calls Tryz.prog 123 #[.slice r is.length c,.func (.func g) #[] lb] w fun e w'=>e=.returned (.bool (is.any p))/\Below w.heap.size w w':=by
 have d:=Lib.hid (Jz p g lb eg is r c w hI hp);clear hI hp;go_enter Tryz.func123,Tryz.ntmps123;go_wp2_with fail
 refine d.out.mono ?_;rintro e w' ⟨⟨k,rfl,a⟩,b⟩;have f:=Lib.hid a;clear a;go_wp2
 go_ret
 exact ⟨ah f.out.symm,b⟩
theorem Gh (is:List Val):gI is=!(is.any fun x=>!dR x):=by
 induction is with
 | nil=>rfl
 | cons x xs ih=>rw [gI,ih,List.any_cons];cases dR x <;> simp
theorem LG:∀ args w,(callFunc 124 args).run Tryz.prog w=.ok (.enter 124 args) w:=enters_of Tryz.func124 (by kernel_rfl) rfl
set_option maxRecDepth 100000 in
set_option maxHeartbeats 1000000 in
theorem xe (x:Val):∀ (r:Option Addr) (c:Nat) (rk:Option Addr) (ck:Nat) (w:World),jJ w r c rk ck x ->
  Calls Tryz.prog 79 #[.agg #[.int .i64 x.kind,.int .i64 x.num,.string x.str,.slice r x.items.length c,.slice rk x.keys.length ck]] w fun e w'=>e=.returned (.bool (dR x))/\Below w.heap.size w w':=by
 refine Val.ind (P:=fun x=>∀ (r:Option Addr) (c:Nat) (rk:Option Addr) (ck:Nat) (w:World),jJ w r c rk ck x ->
  Calls Tryz.prog 79 #[.agg #[.int .i64 x.kind,.int .i64 x.num,.string x.str,.slice r x.items.length c,.slice rk x.keys.length ck]] w fun e w'=>e=.returned (.bool (dR x))/\Below w.heap.size w w') ?_ x
 intro x l r c rk ck w m;obtain ⟨n,B,_,_,_,S,Q⟩:=m.parts;have D:=hid n;have o:=hid (uo x)
 have k:∀ y∈x.items,∀ (r:Option Addr) (c:Nat) (rk:Option Addr) (ck:Nat) (W:World),jJ W r c rk ck y ->
   Calls Tryz.prog 124 (#[.agg #[.int .i64 y.kind,.int .i64 y.num,.string y.str,.slice r y.items.length c,.slice rk y.keys.length ck]] ++ #[]) W fun e w'=>e=.returned (.bool (!dR y))/\Below W.heap.size W w':=by
  intro y s r c rk ck W i;have d:Below W.heap.size W (W.alloc (.cells #[.int .i64 y.kind,.int .i64 y.num,.string y.str,.slice r y.items.length c,.slice rk y.keys.length ck] 39)):=(Below.refl _ _).alloc (Nat.le_refl _) _;have C:=hid (l y s r c rk ck _ (i.below d));have b:=hid d;clear d i l D o n B m;generalize dR y=q at *;generalize y.kind=J at *;generalize y.num=M at *;generalize y.str=L at *;generalize y.items.length=I at *;generalize y.keys.length=z at *;show Calls Tryz.prog 124 #[.agg #[.int .i64 J,.int .i64 M,.string L,.slice r I c,.slice rk z ck]] W _;go_enter Tryz.func124,Tryz.ntmps124;go_wp2_with fail
  refine C.out.mono ?_;rintro e w1 ⟨rfl,a⟩;have t:=hid (b.out.trans (a.mono b.out.size));clear a;go_wp2
  go_ret
  exact ⟨rfl,t.out⟩
 have K:=hid (fun (W:World) (h1:Sl VR 5 W (.slice r x.items.length c) x.items)=>Be (fun y=>!dR y) 124 #[] LG x.items r c W h1 (fun y s r c rk ck N v i=>(k y s r c rk ck N i).mono fun e w' ⟨he,hb⟩=>⟨he,v.trans (hb.mono v.size)⟩));have H:=hid (Gh x.items);clear l n B m k;generalize x.kind=f at *;generalize x.num=E at *;generalize x.str=A at *;generalize x.keys.length=j at *;generalize G:dR x=F at *;clear G;generalize x.items=u at *;generalize (u.any fun y=>!dR y)=q at *;have b:=hid (show Below w.heap.size w (w.alloc (.cells #[.int .i64 f,.int .i64 E,.string A,.slice r u.length c,.slice rk j ck] 39)) from (Below.refl _ _).alloc (Nat.le_refl _) _)
 by_cases g:f=6
 . subst g
   have p:=hid (show F=false by rw [o.out];simp);go_enter Tryz.func79,Tryz.ntmps79;go_wp2
   go_ret
   exact ⟨ah p.out,b.out⟩
 have T:(f != 6)=true:=by simpa using g
 have R:(f == 6)=false:=by simpa using g
 have p:=hid (show F=!q by rw [o.out,H.out];simp [g]);clear g;have O:=hid (K.out (w.alloc (.cells #[.int .i64 f,.int .i64 E,.string A,.slice r u.length c,.slice rk j ck] 39)) (iq D.out b.out));go_enter Tryz.func79,Tryz.ntmps79;go_wp2_with fail
 refine O.out.mono ?_;rintro e w1 ⟨rfl,a⟩;have t:=hid (b.out.trans (a.mono b.out.size));clear a;go_wp2
 go_ret
 exact ⟨ah p.out,t.out⟩
set_option maxRecDepth 100000 in
theorem qY (x:Val) (k:Nat) (r:Option Addr) (c:Nat) (rk:Option Addr) (ck:Nat) (w:World) (hx:jJ w r c rk ck x) (hk:k<=1000) :
  Calls Tryz.prog 19 #[.agg #[.int .i64 x.kind,.int .i64 x.num,.string x.str,.slice r x.items.length c,.slice rk x.keys.length ck],.int .i64 (k:Int)] w fun e w'=>e=.returned (.bool (ig x k))/\Below w.heap.size w w':=by
 have L:=hid (fun (W:World) (hW:Below w.heap.size w W)=>JA x k 40 r c rk ck W (hx.below hW) (by omega) (by omega) (by omega) (by omega));have n:=hid (fun (W:World) (hW:Below w.heap.size w W) (h:gX x<=10000000000000000)=>JR x r c rk ck W (hx.below hW) h)
 have u:=hid (show ∀ l:Int,leftV x k 40=l->0<=l->gX x<=10000000000000000 from fun l e g=>by
  have J:=Na x w _ hx;have K:=((uq x k 40).1 (by rw [e];exact g)).1;have:nodes x<=1000:=by omega
  have:nodes x * 10000000000000<=1000 * 10000000000000:=Nat.mul_le_mul_right _ this;omega)
 have y:=hid (show ∀ l:Int,leftV x k 40=l->ig x k=(decide (0<=l) && decide (gX x<=2 * k)) from fun l e=>by rw [<-e];rfl);generalize leftV x k 40=l at *;have i:=hid (u.out l rfl);have f:=hid (y.out l rfl);clear u y;generalize ig x k=d at *;generalize gX x=C at *;clear hx;go_enter Tryz.func19,Tryz.ntmps19;go_wp2_with fail
 have b:Below w.heap.size w (w.alloc (.cells #[.int .i64 x.kind,.int .i64 x.num,.string x.str,.slice r x.items.length c,.slice rk x.keys.length ck] 39)):=(Below.refl _ _).alloc (Nat.le_refl _) _;have A:(w.alloc (.cells #[.int .i64 x.kind,.int .i64 x.num,.string x.str,.slice r x.items.length c,.slice rk x.keys.length ck] 39)).cell? ⟨w.heap.size,0,none⟩=some (.int .i64 x.kind):=aX rfl rfl;have s:(w.alloc (.cells #[.int .i64 x.kind,.int .i64 x.num,.string x.str,.slice r x.items.length c,.slice rk x.keys.length ck] 39)).cell? ⟨w.heap.size,1,none⟩=some (.int .i64 x.num):=aX rfl rfl;have t:(w.alloc (.cells #[.int .i64 x.kind,.int .i64 x.num,.string x.str,.slice r x.items.length c,.slice rk x.keys.length ck] 39)).cell? ⟨w.heap.size,2,none⟩=some (.string x.str):=aX rfl rfl;have z:(w.alloc (.cells #[.int .i64 x.kind,.int .i64 x.num,.string x.str,.slice r x.items.length c,.slice rk x.keys.length ck] 39)).cell? ⟨w.heap.size,3,none⟩=some (.slice r x.items.length c):=aX rfl rfl;have q:(w.alloc (.cells #[.int .i64 x.kind,.int .i64 x.num,.string x.str,.slice r x.items.length c,.slice rk x.keys.length ck] 39)).cell? ⟨w.heap.size,4,none⟩=some (.slice rk x.keys.length ck):=aX rfl rfl;generalize (w.alloc (.cells #[.int .i64 x.kind,.int .i64 x.num,.string x.str,.slice r x.items.length c,.slice rk x.keys.length ck] 39))=w1 at *;refine (L.out _ b).mono ?_;rintro e w3 ⟨rfl,a⟩;have B:=az a A;have G:=az a s;have H:=az a t;have E:=az a z;have F:=az a q;have j:=hid (b.trans (a.mono b.size));clear b a A s t z q
 by_cases g:0<=l
 . have p:=hid (n.out _ j.out (i.out g))
   have o:=hid (show d=decide (C<=2 * k) from by rw [f.out];simp [g]);clear i f n L;go_wp2_with fail
   refine p.out.mono ?_;rintro e w4 ⟨rfl,m⟩;have D:=hid (j.out.trans (m.mono j.out.size));have M:jD (2 * (k:Int)):=by unfold jD;omega
   clear m B G H E F;go_wp2
   refine bodyPost_ret (v:=.bool d) (by simp [results,Tryz.results19,go_sem,o.out];omega) rfl ⟨rfl,D.out⟩
 . have o:=hid (show d=false from by rw [f.out];simp [g])
   have I:l < 0:=by omega
   clear i f n L;go_wp2
   refine bodyPost_ret (v:=.bool d) (by simp [results,Tryz.results19,go_sem,o.out]) rfl ⟨rfl,j.out⟩
end Go.Proofs.YtomhbcfjhgecbaaGreatDoor
