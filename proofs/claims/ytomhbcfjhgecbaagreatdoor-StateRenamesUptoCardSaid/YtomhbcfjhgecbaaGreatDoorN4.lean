import Derived.Test.YtomhbcfjhgecbaaGreatDoorN1
import Derived.Test.YtomhbcfjhgecbaaGreatDoorN3
import Derived.Deep.MidRow
import Derived.Shelf.Small.Strs
import Derived.Deep.RegionHeld3
import Derived.Deep.DrawnRows
import Derived.Deep.DeepCutAuto
set_option linter.unusedVariables false
set_option linter.unusedSimpArgs false
namespace Go.Proofs.YtomhbcfjhgecbaaGreatDoor
open Go.RowKit Go.Sort Go.Lib
open Go.Lib (hid)
structure Ins where
 ad:ByteArray
 de:ByteArray
 id:ByteArray
 ty:ByteArray
 at_:Val
 ver:Int
 ta:Bool
 cf:Bool
 dp:List ByteArray
structure Pt where
 r:Option Addr
 c:Nat
 rk:Option Addr
 ck:Nat
 dr:Option Addr
 dc:Nat
def aH (x:Ins) (p:Pt):Array Value:=#[.string x.ad,.string x.de,.string x.id,.string x.ty,.int .i64 x.at_.kind,.int .i64 x.at_.num,.string x.at_.str,.slice p.r x.at_.items.length p.c,.slice p.rk x.at_.keys.length p.ck,.int .i64 x.ver,.bool x.ta,.bool x.cf,.slice p.dr x.dp.length p.dc]
def jf (w:World) (x:Ins) (p:Pt):Prop:=jJ w p.r p.c p.rk p.ck x.at_/\Sl lY 1 w (.slice p.dr x.dp.length p.dc) x.dp/\jD x.ver/\(x.ad.size<=maxLen/\x.de.size<=maxLen/\x.id.size<=maxLen/\x.ty.size<=maxLen)
def FI (w:World) (cs:List Value) (x:Ins):Prop:=∃ p:Pt,cs=(aH x p).toList/\jf w x p
theorem dh {w w':World} {x:Ins} {p:Pt} (hb:Below w.heap.size w w') (h:jf w x p):jf w' x p:=⟨h.1.below hb,h.2.1.below bP hb,h.2.2⟩
theorem dB:Hr FI:=fun _ _ _ _ hb ⟨p,h1,h2⟩=>⟨p,h1,dh hb h2⟩
def eG (W:World) (b o:Nat):Prop:=∀ j,j < 13->(W.cell? ⟨b,o+j,none⟩).isSome=true
def ik (W:World) (b o:Nat):Array Value:=((List.range 13).map fun j=>(W.cell? ⟨b,o+j,none⟩).getD undef).toArray
theorem UX (W:World) (b o:Nat) (h:eG W b o):(loadVar 41 ⟨b,o,none⟩).run Tryz.prog W=.ok (.agg (ik W b o)) W:=by
 refine run_loadVar_mid W b o _ ((List.range 13).map fun j=>(W.cell? ⟨b,o+j,none⟩).getD undef) _ (fun j v a=>?_) Tryz.underlying41 rfl (by rw [List.length_map,List.length_range];kernel_rfl);rw [List.getElem?_map] at a
 by_cases d:j < 13
 . rw [List.getElem?_range d] at a
   have f:=h j d;cases c:W.cell? ⟨b,o+j,none⟩ with
   | none=>rw [c] at f;cases f
   | some u =>
     simp [c] at a;rw [a]
 . rw [List.getElem?_eq_none (by rw [List.length_range];omega)] at a
   cases a
def Ve (a:Addr):Sem Value:=loadVar 41 a
theorem fQ (a:Addr):loadVar 41 a=Ve a:=rfl
theorem dV (W:World) (b o:Nat) (h:eG W b o):(Ve ⟨b,o,none⟩).run Tryz.prog W=.ok (.agg (ik W b o)) W:=UX W b o h
def nZ (W:World) (b o:Nat):Prop:=W.there b o 13
def U5 (a:Addr) (v:Value):Sem Unit:=storeVar 41 a v
theorem fK (a:Addr) (v:Value):storeVar 41 a v=U5 a v:=rfl
def gJ (W:World) (b o:Nat) (X:Array Value):World:=W.setCells b o X.toList
def lm (X:Array Value):Prop:=X.size=13/\X.all (·.oneCell')=true
theorem dH (W:World) (b o:Nat) (X:Array Value) (h:nZ W b o) (hX:lm X):(U5 ⟨b,o,none⟩ (.agg X)).run Tryz.prog W=.ok () (gJ W b o X):=
 run_storeVar_mid W b o _ X (by rw [hX.1];exact h) (by rw [hX.1];kernel_rfl) hX.2
theorem bD (W:World) (b o:Nat):nZ W.drew b o=nZ W b o:=by
 unfold nZ;exact propext (World.there_drew W b o 13)
theorem bG (W:World) (Z:Array Value) (T:TypeId) (b:Nat) (hb:b=W.heap.size) (hZ:Z.size=13):nZ (W.alloc (.cells Z T)) b 0=True:=by
 subst hb;refine eq_true fun j a=>⟨?_,?_⟩
 . unfold World.cell?
   simp only [heap_alloc_new,Nat.zero_add];simp [hZ,a]
 . unfold World.frozen?
   simp only [heap_alloc_new];simp
theorem bJ (W:World) (b o:Nat) (X:Array Value):gJ W.drew b o X=(gJ W b o X).drew:=by
 unfold gJ;generalize X.toList=l
 induction l generalizing W o with
 | nil=>rfl
 | cons v l ih =>
   show (W.drew.setCell ⟨b,o,none⟩ v).setCells b (o+1) l=((W.setCell ⟨b,o,none⟩ v).setCells b (o+1) l).drew;rw [<-ih];rfl
theorem pX {α:Type} (Z:List α) (o:Nat) (v:α) (l:List α) (h:o < Z.length):(Z.set o v).take (o+1) ++ l ++ (Z.set o v).drop (o+1+l.length)=Z.take o ++ v :: l ++ Z.drop (o+(l.length+1)):=by
 have b:(Z.set o v).take (o+1)=Z.take o ++ [v]:=by
  rw [List.take_succ_eq_append_getElem (by rw [List.length_set];exact h),List.getElem_set_self,List.take_set,List.set_eq_of_length_le (by rw [List.length_take];omega)]
 have a:(Z.set o v).drop (o+1+l.length)=Z.drop (o+(l.length+1)):=by
  rw [List.drop_set_of_lt (by omega),show o+1+l.length=o+(l.length+1) by omega]
 rw [b,a];simp
theorem qO (W:World) (T:TypeId):∀ (l:List Value) (Z:Array Value) (o:Nat),o+l.length<=Z.size->(W.alloc (.cells Z T)).setCells W.heap.size o l=W.alloc (.cells (Z.toList.take o ++ l ++ Z.toList.drop (o+l.length)).toArray T)
 | [],Z,o,h=>by
   show W.alloc (.cells Z T)=_;rw [List.append_nil,List.length_nil,Nat.add_zero,List.take_append_drop]
 | v :: l,Z,o,h=>by
   show ((W.alloc (.cells Z T)).setCell ⟨W.heap.size,o,none⟩ v).setCells W.heap.size (o+1) l=_;rw [List.length_cons] at h;rw [World.setCell_alloc_new,qO W T l _ (o+1) (by simp;omega)];rw [Array.toList_setIfInBounds,pX Z.toList o v l (by rw [Array.length_toList];omega),List.length_cons]
theorem cu (W:World) (Z X:Array Value) (T:TypeId) (b:Nat) (hb:b=W.heap.size) (hZ:Z.size=13) (hX:lm X):gJ (W.alloc (.cells Z T)) b 0 X=W.alloc (.cells X T):=by
 subst hb;unfold gJ;rw [qO W T _ Z 0 (by rw [Array.length_toList,hX.1,hZ];decide)]
 congr 2
 rw [Array.length_toList,hX.1,List.take_zero,List.nil_append,List.drop_of_length_le (by rw [Array.length_toList,hZ];decide),List.append_nil]
theorem bQ (W:World) (X:Array Value) (T:TypeId) (b:Nat) (hb:b=W.heap.size) (hX:lm X):eG (W.alloc (.cells X T)) b 0=True:=by
 have:=bG W X T b hb hX.1;exact eq_true fun j a=>((of_eq_true this) j a).1
theorem dA (W:World) (X:Array Value) (T:TypeId) (b:Nat) (hb:b=W.heap.size) (hX:lm X):ik (W.alloc (.cells X T)) b 0=X:=by
 subst hb;unfold ik;apply Array.ext
 . simp [hX.1]
 . intro j d a
   have c:∀ j,(W.alloc (.cells X T)).cell? ⟨W.heap.size,j,none⟩=X[j]?:=fun j=>by
    unfold World.cell?;simp only [heap_alloc_new];rfl
   simp [c,a]
theorem bI (W:World) (b o:Nat):eG W.drew b o ↔ eG W b o:=Iff.rfl
theorem cO (W:World) (b o:Nat):ik W.drew b o=ik W b o:=rfl
theorem eG.below {W W':World} {b o:Nat} (hb:Below W.heap.size W W') (h:eG W b o):eG W' b o/\ik W' b o=ik W b o:=by
 have c:∀ j,j < 13->W'.cell? ⟨b,o+j,none⟩=W.cell? ⟨b,o+j,none⟩:=fun j a=>by
  have:=h j a;cases d:W.cell? ⟨b,o+j,none⟩ with
  | none=>rw [d] at this;cases this
  | some u=>exact az hb d
 refine ⟨fun j a=>by rw [c j a];exact h j a,?_⟩;unfold ik
 congr 1
 apply List.map_congr_left;intro j a;rw [c j (List.mem_range.1 a)]
theorem gU {w:World} {b o:Nat} {X:Array Value} (hX:lm X) (h:∀ (j:Nat) (u:Value),X.toList[j]?=some u->w.cell? ⟨b,o+j,none⟩=some u):eG w b o/\ik w b o=X:=by
 have c:∀ j (a:j < X.size),w.cell? ⟨b,o+j,none⟩=some X[j]:=fun j a=>h j _ (by rw [Array.getElem?_toList];exact Array.getElem?_eq_getElem a);refine ⟨fun j a=>by rw [c j (by rw [hX.1];exact a)];rfl,?_⟩;unfold ik;apply Array.ext
 . simp [hX.1]
 . intro j f d
   simp [c j d]
theorem dD (x:Ins) (p:Pt):lm (aH x p):=⟨rfl,by simp [aH,Value.oneCell']⟩
theorem mM {w:World} {r:Option Addr} {n c:Nat} {xs:List Ins} (h:Sl FI 13 w (.slice r n c) xs) (i:Nat) (hi:i < xs.length) :
  ∃ b off p,r=some ⟨b,off,none⟩/\b < w.heap.size/\(∀ (j:Nat) (u:Value),(aH xs[i] p).toList[j]?=some u->w.cell? ⟨b,off+i * 13+j,none⟩=some u)/\jf w xs[i] p:=by
 obtain ⟨q,o,e,s,t,k⟩:=h;simp at e;obtain ⟨rfl,rfl,rfl⟩:=e;obtain ⟨b,off,m,d,v,a,p,f,l⟩:=k i hi;subst f;have g:=a 0 _ rfl;exact ⟨b,off,p,d,World.block_lt_of_cell? w _ g,a,l⟩
end Go.Proofs.YtomhbcfjhgecbaaGreatDoor
namespace Go.Proofs.YtomhbcfjhgecbaaGreatDoor
def qL (a b:Int):Int:=if a < b then -1 else if b < a then 1 else 0
def dL (a b:ByteArray):Int:=if a.data.toList < b.data.toList then -1 else if b.data.toList < a.data.toList then 1 else 0
def lex (x y:Int):Int:=if x=0 then y else x
mutual
def jR:Val->Val->Int
 | .mk k n s is ks,.mk k' n' s' is' ks'=>lex (qL k k') (lex (qL n n') (lex (dL s s') (cmpL is ks is' ks')))
def cmpL:List Val->List ByteArray->List Val->List ByteArray->Int
 | [],_,[],_=>0
 | [],_,_ :: _,_=>-1
 | _ :: _,_,[],_=>1
 | x :: xs,k :: ks,y :: ys,k' :: ks'=>lex (dL k k') (lex (jR x y) (cmpL xs ks ys ks'))
 | x :: xs,[],y :: ys,ks'=>lex (jR x y) (cmpL xs [] ys ks'.tail)
 | x :: xs,_ :: ks,y :: ys,[]=>lex (jR x y) (cmpL xs ks ys [])
end
def qW (x:Int):Prop:=x = -1 ∨ x=0 ∨ x=1
theorem jq (a b:Int):qW (qL a b):=by unfold qL qW;split <;> (try split) <;> simp
theorem fF (a b:ByteArray):qW (dL a b):=by unfold dL qW;split <;> (try split) <;> simp
theorem jd {x y:Int} (hx:qW x) (hy:qW y):qW (lex x y):=by unfold lex;split <;> assumption
theorem zC (a b:Int):qL b a = -qL a b:=by unfold qL;split <;> split <;> omega
theorem J5 {a b:List UInt8} (h:a < b):¬ b < a:=List.lt_asymm h
theorem nH (a b:ByteArray):dL b a = -dL a b:=by
 unfold dL
 by_cases d:a.data.toList < b.data.toList
 . have c:=J5 d
   simp [d,c]
 . by_cases c:b.data.toList < a.data.toList
   . simp [d,c]
   . simp [d,c]
theorem kE {x y x' y':Int} (hx:x' = -x) (hy:y' = -y):lex x' y' = -lex x y:=by
 unfold lex;subst hx hy;split <;> split <;> omega
theorem uJ {a b:Int} : qL a b=0 ↔ a=b:=by unfold qL;split <;> (try split) <;> omega
theorem nJ (a:ByteArray):dL a a=0:=by unfold dL;have:=List.lt_irrefl a.data.toList;simp [this]
theorem wY {a b:ByteArray} (h:a.data.toList=b.data.toList):a=b:=by
 cases a;cases b;simp at h;subst h;rfl
theorem fV {a b:ByteArray} : dL a b=0 ↔ a=b:=by
 constructor
 . intro h
   unfold dL at h;split at h
   . omega
   . split at h
     . omega
     . rename_i h1 h2
       exact wY (List.le_antisymm (List.not_lt.1 h2) (List.not_lt.1 h1))
 . rintro rfl;exact nJ a
def Fit (x y z:Int):Prop:=(x<=0->y<=0->z<=0/\(x < 0 ∨ y < 0->z = -1))/\(x=0->y=0->z=0)
theorem Dl (a b c:Int):Fit (qL a b) (qL b c) (qL a c):=by
 unfold Fit qL
 repeat' split
 all_goals omega
theorem DY (a b c:ByteArray):Fit (dL a b) (dL b c) (dL a c):=by
 have j:dL a b<=0->dL b c<=0->dL a c<=0/\(dL a b < 0 ∨ dL b c < 0->dL a c = -1):=by
  intro d f
  by_cases i:dL a b=0
  . obtain rfl:=fV.1 i
    rcases fF a c with h | h | h <;> omega
  . by_cases g:dL b c=0
    . obtain rfl:=fV.1 g
      rcases fF a b with h | h | h <;> omega
    . have k:a.data.toList < b.data.toList:=by
       apply Decidable.byContradiction;intro h;unfold dL at d i;rw [if_neg h] at d i;split at d <;> simp_all
      have m:b.data.toList < c.data.toList:=by
       apply Decidable.byContradiction;intro h;unfold dL at f g;rw [if_neg h] at f g;split at f <;> simp_all
      have l:a.data.toList < c.data.toList:=List.lt_trans k m;have:dL a c = -1:=by unfold dL;rw [if_pos l]
      omega
 refine ⟨j,fun d f=>?_⟩;obtain rfl:=fV.1 d;exact f
theorem qg {x y z x' y' z':Int} (hx:qW x) (hy:qW y) (hz:qW z) (h:Fit x y z) (h':Fit x' y' z') (hx':qW x') (hy':qW y') (hz':qW z'):Fit (lex x x') (lex y y') (lex z z'):=by
 unfold Fit lex at *;unfold qW at *;obtain ⟨i,j⟩:=h;obtain ⟨l,k⟩:=h';refine ⟨?_,?_⟩
 . intro a b
   by_cases d:x=0
   . by_cases c:y=0
     . have g:=j d c
       rw [if_pos d] at a;rw [if_pos c] at b;rw [if_pos d,if_pos c,if_pos g];exact l a b
     . rw [if_pos d] at a;rw [if_neg c] at b;rw [if_pos d,if_neg c]
       have:=i (by omega) b;have f:z = -1:=this.2 (by omega);rw [if_neg (by omega)];exact ⟨by omega,fun _=>f⟩
   . rw [if_neg d] at a;rw [if_neg d]
     by_cases c:y=0
     . rw [if_pos c] at b;rw [if_pos c]
       have:=i a (by omega);have f:z = -1:=this.2 (by omega);rw [if_neg (by omega)];exact ⟨by omega,fun _=>f⟩
     . rw [if_neg c] at b;rw [if_neg c]
       have:=i a b;have f:z = -1:=this.2 (by omega);rw [if_neg (by omega)];exact ⟨by omega,fun _=>f⟩
 . intro a b
   by_cases d:x=0
   . by_cases c:y=0
     . have g:=j d c
       rw [if_pos d] at a;rw [if_pos c] at b;rw [if_pos g];exact k a b
     . rw [if_neg c] at b;omega
   . rw [if_neg d] at a;omega
theorem mr (a b:Val):jR a b=lex (qL a.kind b.kind) (lex (qL a.num b.num) (lex (dL a.str b.str) (cmpL a.items a.keys b.items b.keys))):=by
 cases a;cases b;rw [jR];rfl
inductive oU:Val->Prop where
 | mk (x:Val) (h1:x.kind=5->x.keys.length=x.items.length) (h2:x.kind≠5->x.keys=[]) (h3:∀ y∈x.items,oU y):oU x
theorem oU.items {x y:Val} (h:oU x) (hy:y∈x.items):oU y:=by cases h;rename_i h1 h2 h3;exact h3 y hy
def lW (m:Bool) (xs:List Val) (ks:List ByteArray):Prop:=if m then ks.length=xs.length else ks=[]
theorem oU.N8 {x:Val} (h:oU x):lW (x.kind == 5) x.items x.keys:=by
 cases h;rename_i h1 h2 h3;unfold lW
 by_cases a:x.kind=5
 . rw [if_pos (by simpa using a)];exact h1 a
 . rw [if_neg (by simpa using a)];exact h2 a
theorem iZ (a:Val):∀ b,qW (jR a b):=by
 refine Val.ind (P:=fun a=>∀ b,qW (jR a b)) ?_ a;intro a n b;rw [mr]
 have l:∀ (i:List Val),(∀ y∈i,∀ b,qW (jR y b))->∀ g f d,qW (cmpL i g f d):=by
  intro i
  induction i with
  | nil=>intro _ g f d;cases f <;> simp [cmpL,qW]
  | cons x i c =>
    intro h g f d;have j:=h x List.mem_cons_self;have c:=c fun y m=>h y (List.mem_cons_of_mem _ m);cases f with
    | nil=>simp [cmpL,qW]
    | cons y f =>
      cases g with
      | nil=>rw [cmpL];exact jd (j y) (c _ _ _)
      | cons k g =>
        cases d with
        | nil=>rw [cmpL];exact jd (j y) (c _ _ _)
        | cons k' d=>rw [cmpL];exact jd (fF _ _) (jd (j y) (c _ _ _))
 exact jd (jq _ _) (jd (jq _ _) (jd (fF _ _) (l _ n _ _ _)))
theorem Lc (xs:List Val) (ks:List ByteArray) (ys:List Val) (ks':List ByteArray):qW (cmpL xs ks ys ks'):=by
 have:=iZ (.mk 0 0 ⟨#[]⟩ xs ks) (.mk 0 0 ⟨#[]⟩ ys ks');rw [mr] at this;simpa [Val.kind,Val.num,Val.str,Val.items,Val.keys,qL,nJ,lex] using this
theorem Ji (a:Val):∀ b,jR b a = -jR a b:=by
 refine Val.ind (P:=fun a=>∀ b,jR b a = -jR a b) ?_ a;intro a n b;rw [mr,mr]
 have l:∀ (i:List Val),(∀ y∈i,∀ b,jR b y = -jR y b)->∀ g f c,cmpL f c i g = -cmpL i g f c:=by
  intro i
  induction i with
  | nil=>intro _ g f c;cases f <;> simp [cmpL]
  | cons x i d =>
    intro h g f c;have j:=h x List.mem_cons_self;have d:=d fun y m=>h y (List.mem_cons_of_mem _ m);cases f with
    | nil=>simp [cmpL]
    | cons y f =>
      cases g with
      | nil =>
        cases c with
        | nil=>rw [cmpL,cmpL];exact kE (j y) (d _ _ _)
        | cons k' c=>rw [cmpL,cmpL];exact kE (j y) (d _ _ _)
      | cons k g =>
        cases c with
        | nil=>rw [cmpL,cmpL];exact kE (j y) (d _ _ _)
        | cons k' c=>rw [cmpL,cmpL];exact kE (nH _ _) (kE (j y) (d _ _ _))
 exact kE (zC _ _) (kE (zC _ _) (kE (nH _ _) (l _ n _ _ _)))
theorem nC {x y:Int} : lex x y=0 ↔ x=0/\y=0:=by unfold lex;split <;> omega
theorem Tv (a:Val):jR a a=0:=by have:=Ji a a;omega
theorem TC (a:Val):∀ b,oU a->oU b->jR a b=0->a=b:=by
 refine Val.ind (P:=fun a=>∀ b,oU a->oU b->jR a b=0->a=b) ?_ a;intro a K b J G h;rw [mr,nC,nC,nC,uJ,uJ,fV] at h;obtain ⟨r,E,H,O⟩:=h;have L:=J.N8;have F:=G.N8;rw [<-r] at F;have M:∀ y∈a.items,oU y:=fun y n=>J.items n;have N:∀ y∈b.items,oU y:=fun y n=>G.items n
 have B:∀ (m:Bool) (f:List Val),(∀ y∈f,∀ b,oU y->oU b->jR y b=0->y=b)->∀ g c d,(∀ y∈f,oU y)->(∀ y∈c,oU y)->lW m f g->lW m c d->cmpL f g c d=0->f=c/\g=d:=by
  intro m f
  induction f with
  | nil =>
    intro _ g c d _ _ j i h;cases c with
    | cons y c=>simp [cmpL] at h
    | nil =>
      refine ⟨rfl,?_⟩;unfold lW at j i;cases m <;> simp_all
  | cons x f l =>
    intro A g c d s t j i h;have D:=A x List.mem_cons_self;have l:=l fun y n=>A y (List.mem_cons_of_mem _ n);cases c with
    | nil=>simp [cmpL] at h
    | cons y c =>
      have p:∀ z∈f,oU z:=fun z u=>s z (List.mem_cons_of_mem _ u);have q:∀ z∈c,oU z:=fun z u=>t z (List.mem_cons_of_mem _ u);cases m with
      | false =>
        simp only [lW,Bool.false_eq_true,if_false] at j i;subst j i;rw [cmpL,nC] at h;have v:=D y (s x List.mem_cons_self) (t y List.mem_cons_self) h.1;have o:=l [] c [] p q (by simp [lW]) (by simp [lW]) h.2;exact ⟨by rw [v,o.1],rfl⟩
      | true =>
        simp only [lW,if_true] at j i;cases g with
        | nil=>simp at j
        | cons k g =>
          cases d with
          | nil=>simp at i
          | cons k' d =>
            rw [cmpL,nC,nC,fV] at h;have v:=D y (s x List.mem_cons_self) (t y List.mem_cons_self) h.2.1;have o:=l g c d p q (by simp [lW];simpa using j) (by simp [lW];simpa using i) h.2.2;exact ⟨by rw [v,o.1],by rw [h.1,o.2]⟩
 obtain ⟨I,C⟩:=B _ a.items K a.keys b.items b.keys M N L F O;cases a;cases b;simp only [Val.kind,Val.num,Val.str,Val.items,Val.keys] at r E H I C;subst r E H I C;rfl
theorem Lm {x y z x' y' z':Int} (hx:qW x) (hy:qW y) (hz:qW z) (hx':qW x') (hy':qW y') (hz':qW z') (h:Fit x y z) (h':x=0->y=0->Fit x' y' z'):Fit (lex x x') (lex y y') (lex z z'):=by
 by_cases e:x=0/\y=0
 . exact qg hx hy hz h (h' e.1 e.2) hx' hy' hz'
 . unfold Fit lex at *
   unfold qW at *;obtain ⟨g,i⟩:=h;refine ⟨?_,?_⟩
   . intro a b
     have d:x<=0:=by split at a <;> omega
     have c:y<=0:=by split at b <;> omega
     have f:z = -1:=(g d c).2 (by omega);rw [if_neg (by omega:¬ z=0)];exact ⟨by omega,fun _=>f⟩
   . intro a b
     split at a <;> split at b <;> omega
theorem Uo (a:Val):∀ b c,oU a->oU b->oU c->Fit (jR a b) (jR b c) (jR a c):=by
 refine Val.ind (P:=fun a=>∀ b c,oU a->oU b->oU c->Fit (jR a b) (jR b c) (jR a c)) ?_ a;intro a T b c S Q R;rw [mr a b,mr b c,mr a c];have o:=Lc;have B:=fun (s s':ByteArray) l j g d=>jd (fF s s') (o l j g d);have G:=fun (n n':Int) (s s':ByteArray) l j g d=>jd (jq n n') (B s s' l j g d);refine Lm (jq _ _) (jq _ _) (jq _ _) (G _ _ _ _ _ _ _ _) (G _ _ _ _ _ _ _ _) (G _ _ _ _ _ _ _ _) (Dl _ _ _) ?_;intro k1 L;rw [uJ] at k1 L;refine qg (jq _ _) (jq _ _) (jq _ _) (Dl _ _ _) ?_ (B _ _ _ _ _ _) (B _ _ _ _ _ _) (B _ _ _ _ _ _);refine qg (fF _ _) (fF _ _) (fF _ _) (DY _ _ _) ?_ (o _ _ _ _) (o _ _ _ _) (o _ _ _ _);have V:=S.N8;have N:=Q.N8;have M:=R.N8;rw [<-k1] at N;rw [<-L,<-k1] at M;have X:∀ y∈a.items,oU y:=fun y p=>S.items p;have Y:∀ y∈b.items,oU y:=fun y p=>Q.items p;have W:∀ y∈c.items,oU y:=fun y p=>R.items p
 have J:∀ (m:Bool) (l:List Val),(∀ x∈l,∀ b c,oU x->oU b->oU c->Fit (jR x b) (jR b c) (jR x c))->∀ j g d i f,(∀ y∈l,oU y)->(∀ y∈g,oU y)->(∀ y∈i,oU y)->lW m l j->lW m g d->lW m i f ->
   Fit (cmpL l j g d) (cmpL g d i f) (cmpL l j i f):=by
  intro m l
  induction l with
  | nil =>
    intro _ j g d i f _ _ _ _ _ _;cases g with
    | nil=>cases i <;> simp [cmpL,Fit]
    | cons y g =>
      cases i with
      | nil=>simp [cmpL,Fit]
      | cons z i =>
        have:=o (y :: g) d (z :: i) f;rw [show cmpL [] j (y :: g) d = -1 by simp [cmpL],show cmpL [] j (z :: i) f = -1 by simp [cmpL]];unfold Fit;omega
  | cons x l q =>
    intro I j g d i f K O H v t r;have U:=I x List.mem_cons_self;have q:=q fun y p=>I y (List.mem_cons_of_mem _ p);cases g with
    | nil =>
      rw [show cmpL (x :: l) j [] d=1 by simp [cmpL]];unfold Fit;omega
    | cons y g =>
      cases i with
      | nil =>
        rw [show cmpL (y :: g) d [] f=1 by simp [cmpL]];unfold Fit;omega
      | cons z i =>
        have D:∀ u∈l,oU u:=fun u A=>K u (List.mem_cons_of_mem _ A);have E:∀ u∈g,oU u:=fun u A=>O u (List.mem_cons_of_mem _ A);have F:∀ u∈i,oU u:=fun u A=>H u (List.mem_cons_of_mem _ A);have C:=U y z (K x List.mem_cons_self) (O y List.mem_cons_self) (H z List.mem_cons_self);cases m with
        | false =>
          simp only [lW,Bool.false_eq_true,if_false] at v t r;subst v t r;rw [cmpL,cmpL,cmpL];exact qg (iZ _ _) (iZ _ _) (iZ _ _) C (q [] g [] i [] D E F (by simp [lW]) (by simp [lW]) (by simp [lW])) (o _ _ _ _) (o _ _ _ _) (o _ _ _ _)
        | true =>
          simp only [lW,if_true] at v t r;cases j with
          | nil=>simp at v
          | cons k j =>
            cases d with
            | nil=>simp at t
            | cons k' d =>
              cases f with
              | nil=>simp at r
              | cons k'' f =>
                rw [cmpL,cmpL,cmpL];refine qg (fF _ _) (fF _ _) (fF _ _) (DY _ _ _) ?_ (jd (iZ _ _) (o _ _ _ _)) (jd (iZ _ _) (o _ _ _ _)) (jd (iZ _ _) (o _ _ _ _));exact qg (iZ _ _) (iZ _ _) (iZ _ _) C (q j g d i f D E F (by simp [lW];simpa using v) (by simp [lW];simpa using t) (by simp [lW];simpa using r)) (o _ _ _ _) (o _ _ _ _) (o _ _ _ _)
 exact J _ a.items T a.keys b.items b.keys c.items c.keys X Y W V N M
end Go.Proofs.YtomhbcfjhgecbaaGreatDoor
namespace Go.Proofs
open Go.Shelf
def Tryz.DI:Go.Shelf.Ren:=⟨fun | 106=>82 | 213=>126 | 265=>169 | n=>n,fun | 9=>9 | 3=>3 | n=>n,fun | n=>n⟩
theorem Tryz.Qe:Go.Proofs.Lays.n106 Tryz.prog Tryz.DI:={
 mixed:=by kernel_rfl
 f106:=Tryz.func82.trans (congrArg some (by kernel_rfl))
 f213:=Tryz.func126.trans (congrArg some (by kernel_rfl))
 f265:=Tryz.func169.trans (congrArg some (by kernel_rfl))
 t3:=Tryz.underlying3
 a3:=Tryz.isAgg3
 z3:=Tryz.sizeOf3
 v3:=Tryz.zeroValue3
 t9:=Tryz.underlying9
 a9:=Tryz.isAgg9
 z9:=Tryz.sizeOf9
 v9:=Tryz.zeroValue9 }
open Go.RowKit in
theorem Tryz.strings_Compare (a b:ByteArray) (w:World) :
 Calls Tryz.prog 82 #[.string a,.string b] w fun e w'=>e=.returned (.int .i64 (Lib.compareBytes a.data.toList b.data.toList))/\w'=w:=Any.strings_Compare Tryz.Qe a b w
end Go.Proofs
namespace Go.Proofs.YtomhbcfjhgecbaaGreatDoor
open Go.RowKit Go.Sort Go.Lib
open Go.Lib (hid)
theorem zt:∀ (a b:List UInt8),compareBytes a b=if a < b then -1 else if b < a then 1 else 0
 | [],[]=>by simp [compareBytes]
 | [],_ :: _=>by simp [compareBytes]
 | _ :: _,[]=>by simp [compareBytes]
 | x :: a,y :: b=>by
   rw [compareBytes,zt a b];simp only [List.cons_lt_cons_iff]
   by_cases h1:x < y
   . rw [if_pos h1,if_pos (.inl h1)]
   . rw [if_neg h1]
     by_cases h2:y < x
     . have hne:x≠y:=fun e=>h1 (by rw [e] at h2 ⊢;exact h2)
       rw [if_pos h2,if_neg (fun h=>h.elim h1 fun h=>hne h.1),if_pos (.inl h2)]
     . rw [if_neg h2]
       have e:x=y:=UInt8.le_antisymm (UInt8.not_lt.1 h2) (UInt8.not_lt.1 h1);subst e
       by_cases h3:a < b
       . rw [if_pos h3,if_pos (.inr ⟨rfl,h3⟩)]
       . have e1:¬ (x < x ∨ x=x/\a < b):=fun h=>h.elim h1 fun h=>h3 h.2
         rw [if_neg h3,if_neg (c:=x < x ∨ x=x/\a < b) e1]
         by_cases h4:b < a
         . rw [if_pos h4,if_pos (.inr ⟨rfl,h4⟩)]
         . rw [if_neg h4,if_neg (fun h=>h.elim h1 fun h=>h4 h.2)]
theorem Gm (a b:ByteArray):compareBytes a.data.toList b.data.toList=dL a b:=zt _ _
theorem tJ (a b:ByteArray) (w:World):Calls Tryz.prog 82 #[.string a,.string b] w fun e w'=>e=.returned (.int .i64 (dL a b))/\w=w':=by
 rw [<-Gm];exact (Tryz.strings_Compare a b w).mono fun e w' ⟨h1,h2⟩=>⟨h1,h2.symm⟩
def iG:List Int->Int
 | []=>0
 | x :: xs=>if x≠0 then x else iG xs
theorem Gl {xs:List Int} {k:Nat} (h:k < xs.length) (hz:∀ i (hi:i < xs.length),i < k->xs[i]=0) (hx:xs[k]≠0):iG xs=xs[k]:=by
 induction xs generalizing k with
 | nil=>simp at h
 | cons x xs ih =>
   cases k with
   | zero=>rw [iG,if_pos (show x≠0 from hx)];rfl
   | succ k =>
     have a:x=0:=hz 0 (by simp) (by omega);rw [iG,if_neg (by simpa using a)];exact ih (by simpa using h) (fun i hi b=>hz (i+1) (by simpa using hi) (by omega)) hx
theorem FW {xs:List Int} (hz:∀ i (hi:i < xs.length),xs[i]=0):iG xs=0:=by
 induction xs with
 | nil=>rfl
 | cons x xs ih =>
   have a:x=0:=hz 0 (by simp);rw [iG,if_neg (by simpa using a)];exact ih fun i hi=>hz (i+1) (by simpa using hi)
theorem SI {w:World} {r:Option Addr} {n c:Nat} {xs:List Int} (h:Sl Rt 1 w (.slice r n c) xs) (i:Nat) (hi:i < xs.length) :
  ∃ b off,r=some ⟨b,off,none⟩/\b < w.heap.size/\w.cell? ⟨b,off+i,none⟩=some (.int .i64 xs[i])/\ -9223372036854775808<=xs[i]/\xs[i]<=9223372036854775807:=by
 obtain ⟨o,m,e,p,q,j⟩:=h;simp at e;obtain ⟨rfl,rfl,rfl⟩:=e;obtain ⟨b,off,l,g,_,d,f,k⟩:=j i hi;have a:=d 0 _ f;simp only [Nat.add_zero,Nat.mul_one] at a;exact ⟨b,off,g,World.block_lt_of_cell? w _ a,a,k⟩
set_option maxRecDepth 100000 in
theorem NS (xs:List Int) (r:Option Addr) (c:Nat) (w:World) (h:Sl Rt 1 w (.slice r xs.length c) xs) :
  Calls Tryz.prog 81 #[.slice r xs.length c] w fun e w'=>e=.returned (.int .i64 (iG xs))/\w=w':=by
 obtain ⟨_,t,z⟩:=bi h;have p:=hid h;clear h;go_enter Tryz.func81,Tryz.ntmps81;go_wp2
 go_loopg [8] xs.length (fun o q wr=>∃ k:Nat,k<=xs.length/\xs.length - k<=o/\q=.int .i64 k/\Aside (w=wr)/\Aside (∀ i (f:i < xs.length),i < k->xs[i]=0))
 case atStart=>exact ⟨0,Nat.zero_le _,by omega,rfl,rfl,fun i _ h=>absurd h (by omega)⟩
 case round =>
  obtain ⟨k,B,C,rfl,g,d⟩:=hrel;obtain rfl:w=wr:=g.out
  by_cases j:k < xs.length
  case pos =>
   have m:(k:Int) < (xs.length:Int):=by omega
   obtain ⟨b,v,rfl,E,s,_,_⟩:=SI p.out k j
   by_cases a:xs[k]=0
   . have n:=hid (show ∀ i (f:i < xs.length),i < k+1->xs[i]=0 from fun i f u=>by
      by_cases e:i < k
      . exact d.out i f e
      . obtain rfl:i=k:=by omega
        exact a)
     rw [a] at s;clear d a g;go_wp2
     go_roundg (xs.length - (k+1))
     case measure=>omega
     case rel=>exact ⟨k+1,by omega,by omega,by go_num,rfl,n.out⟩
   . have l:=hid (Gl j d.out a)
     generalize xs[k]=y at *;have A:(y != 0)=true:=by simpa using a
     have D:(y == 0)=false:=by simpa using a
     clear d a g;go_wp2
     go_ret
     exact ⟨ax l.out,rfl⟩
  case neg =>
   have m:¬ (k:Int) < (xs.length:Int):=by omega
   have l:=hid (FW (xs:=xs) fun i f=>d.out i f (by omega));clear d g;go_wp2
   go_ret
   exact ⟨ax l.out,rfl⟩
theorem Ls {w:World} {B T:Nat} {a b:Int} (h:w.heap[B]?=some (.cells #[.int .i64 a,.int .i64 b] T (0,0))) (ha:-9223372036854775808<=a/\a<=9223372036854775807) (hb:-9223372036854775808<=b/\b<=9223372036854775807) :
  Sl Rt 1 w (.slice (some ⟨B,0,none⟩) 2 2) [a,b]:=by
 refine ⟨some ⟨B,0,none⟩,2,rfl,by simp,by simp [maxLen],fun i d=>⟨B,0,[.int .i64 ([a,b][i])],rfl,rfl,fun j u c=>?_,rfl,?_⟩⟩
 . cases j with
   | zero =>
     simp at c;subst c;unfold World.cell?;simp only [h];simp at d;rcases (show i=0 ∨ i=1 by omega) with rfl | rfl <;> rfl
   | succ j=>simp at c
 . simp at d
   rcases (show i=0 ∨ i=1 by omega) with rfl | rfl
   . exact ha
   . exact hb
end Go.Proofs.YtomhbcfjhgecbaaGreatDoor
namespace Go.Proofs.YtomhbcfjhgecbaaGreatDoor
open Go.RowKit Go.Sort Go.Lib
open Go.Lib (hid)
def dI (a b:ByteArray × ByteArray):Int:=iG [dL a.1 b.1,dL a.2 b.2]
theorem jQ {a b:ByteArray × ByteArray} : dI a b=0 ↔ a=b:=by
 unfold dI iG iG iG;constructor
 . intro h
   split at h
   . omega
   . rename_i h1
     split at h
     . omega
     . rename_i h2
       exact Prod.ext (fV.1 (Classical.byContradiction fun e=>h1 e)) (fV.1 (Classical.byContradiction fun e=>h2 e))
 . rintro rfl
   rw [if_neg (by simp [nJ]),if_neg (by simp [nJ])]
set_option maxRecDepth 100000 in
set_option maxHeartbeats 4000000 in
theorem sK (a b:ByteArray × ByteArray) (w:World) :
  Calls Tryz.prog 34 #[.agg #[.string a.1,.string a.2],.agg #[.string b.1,.string b.2]] w fun e w'=>e=.returned (.int .i64 (dI a b))/\Below w.heap.size w w':=by
 obtain ⟨d,f⟩:=a;obtain ⟨c,g⟩:=b;have l:=hid (fun W=>tJ d c W);have m:=hid (fun W=>tJ f g W);have o:=hid (show -9223372036854775808<=dL d c/\dL d c<=9223372036854775807 by have:=fF d c;unfold qW at this;omega);have n:=hid (show -9223372036854775808<=dL f g/\dL f g<=9223372036854775807 by have:=fF f g;unfold qW at this;omega);have p:=hid (show dI (d,f) (c,g)=iG [dL d c,dL f g] from rfl);generalize dI (d,f) (c,g)=R at *;generalize dL d c=A at *;generalize dL f g=B at *;show Calls Tryz.prog 34 #[.agg #[.string d,.string f],.agg #[.string c,.string g]] w _;go_enter Tryz.func34,Tryz.ntmps34;go_wp2
 have k:=hid (show Below w.heap.size w ((w.alloc (.cells #[.string d,.string f] 70)).alloc (.cells #[.string c,.string g] 70)) from ((Below.refl _ _).alloc (Nat.le_refl _) _).alloc (by simp) _);generalize i:((w.alloc (.cells #[.string d,.string f] 70)).alloc (.cells #[.string c,.string g] 70))=j at *;have t:j.cell? ⟨w.heap.size,0,none⟩=some (.string d):=by rw [<-i];exact (az ((Below.refl _ _).alloc (Nat.le_refl _) _) (aX rfl rfl))
 have q:j.cell? ⟨w.heap.size,1,none⟩=some (.string f):=by rw [<-i];exact (az ((Below.refl _ _).alloc (Nat.le_refl _) _) (aX rfl rfl))
 have s:j.cell? ⟨w.heap.size+1,0,none⟩=some (.string c):=by rw [<-i];exact aX (by simp) rfl
 have r:j.cell? ⟨w.heap.size+1,1,none⟩=some (.string g):=by rw [<-i];exact aX (by simp) rfl
 clear i
 go_region_held3 (fun w'=>w'.cell? ⟨w.heap.size,0,none⟩=some (.string d)/\w'.cell? ⟨w.heap.size,1,none⟩=some (.string f)/\w'.cell? ⟨w.heap.size+1,0,none⟩=some (.string c)/\w'.cell? ⟨w.heap.size+1,1,none⟩=some (.string g))
  (go_keep)
  (first | (go_at_call 82;first | (refine (l.out _).mono ?_;rintro e w1 ⟨rfl,rfl⟩) | (refine (m.out _).mono ?_;rintro e w1 ⟨rfl,rfl⟩)) | (go_at_call 81;refine (NS [A,B] _ _ _ (Ls (by exact (MapKept.heap_alloc j _).1) o.out n.out)).mono ?_;rintro e w1 ⟨rfl,rfl⟩;rw [<-p.out]))
 all_goals
  go_wp2
  go_ret
  exact ⟨rfl,(k.out.alloc k.out.size _).drew⟩
end Go.Proofs.YtomhbcfjhgecbaaGreatDoor
namespace Go.Proofs.YtomhbcfjhgecbaaGreatDoor
open Go.RowKit Go.Sort Go.Lib
open Go.Lib (hid)
attribute [local go_sem] Stp.di
attribute [local go_sem ↓] fQ
attribute [local go_sem] dV
attribute [local go_sem ↓] fK
attribute [local go_sem] dH bD bG bJ cu bQ dA bI cO
def aP (x:Ins):ByteArray × ByteArray:=(x.ad,x.de)
set_option maxRecDepth 100000 in
set_option maxHeartbeats 4000000 in
theorem jm (x:Ins) (p:Pt) (w:World):Calls Tryz.prog 33 #[.agg (aH x p)] w fun e w'=>e=.returned (.agg #[.string x.ad,.string x.de])/\Below w.heap.size w w':=by
 have b:(aH x p)[0]?=some (.string x.ad):=rfl;have d:(aH x p)[1]?=some (.string x.de):=rfl;have a:Below w.heap.size w (w.alloc (.cells (aH x p) 41)):=(Below.refl _ _).alloc (Nat.le_refl _) _;have f:(w.alloc (.cells (aH x p) 41)).cell? ⟨w.heap.size,0,none⟩=some (.string x.ad):=aX rfl b;have g:(w.alloc (.cells (aH x p) 41)).cell? ⟨w.heap.size,1,none⟩=some (.string x.de):=aX rfl d;have c:=hid a;clear a;generalize aH x p=X at *;go_enter Tryz.func33,Tryz.ntmps33;go_wp2
 exact bodyPost_ret (v:=.agg #[.string x.ad,.string x.de]) (by simp [results,Tryz.results33,go_sem]) rfl ⟨rfl,c.out.alloc (by simp) _⟩
set_option maxRecDepth 100000 in
set_option maxHeartbeats 8000000 in
theorem DK (x:Ins) (p:Pt) (q:ByteArray × ByteArray) (fb:Nat) (w:World) (hf:w.cell? ⟨fb,0,none⟩=some (.func (.func 34) #[] #[])) :
  Calls Tryz.prog 90 #[.agg (aH x p),.agg #[.string q.1,.string q.2],.pointer (some ⟨fb,0,none⟩)] w fun e w'=>e=.returned (.int .i64 (dI (aP x) q))/\Below w.heap.size w w':=by
 obtain ⟨g,f⟩:=q;have A:=hid (fun W=>jm x p W);have s:=hid (fun W=>sK (aP x) (g,f) W);have z:=dD x p;have l:=hid (show Below w.heap.size w ((w.alloc (.cells (aH x p) 41)).alloc (.cells #[.string g,.string f] 70)) from ((Below.refl _ _).alloc (Nat.le_refl _) _).alloc (by simp) _);have H:=of_eq_true (bQ w (aH x p) 41 _ rfl z);have y:=dA w (aH x p) 41 _ rfl z;have r:Below (w.alloc (.cells (aH x p) 41)).heap.size (w.alloc (.cells (aH x p) 41)) ((w.alloc (.cells (aH x p) 41)).alloc (.cells #[.string g,.string f] 70)):=(Below.refl _ _).alloc (Nat.le_refl _) _;obtain ⟨o,n⟩:=H.below r;have n:=n.trans y;have L:=az l.out hf;have J:((w.alloc (.cells (aH x p) 41)).alloc (.cells #[.string g,.string f] 70)).cell? ⟨w.heap.size+1,0,none⟩=some (.string g):=aX (by simp) rfl;have I:((w.alloc (.cells (aH x p) 41)).alloc (.cells #[.string g,.string f] 70)).cell? ⟨w.heap.size+1,1,none⟩=some (.string f):=aX (by simp) rfl;clear hf H y r z;unfold aP at *;simp only at s ⊢;generalize dI (x.ad,x.de) (g,f)=V at *;generalize x.ad=E at *;generalize x.de=F at *;generalize aH x p=X at *;go_enter Tryz.func90,Tryz.ntmps90;go_wp2_with fail
 generalize (w.alloc (.cells X 41)).alloc (.cells #[.string g,.string f] 70)=C at *;have G:=hid (fun (W:World) (hW:Below C.heap.size C W)=>show eG W w.heap.size 0/\ik W w.heap.size 0=X from ⟨(o.below hW).1,((o.below hW).2).trans n⟩);have O:=fun d m=>cell_regrown L d m;have N:=fun d m=>cell_regrown J d m;have M:=fun d m=>cell_regrown I d m;clear o n;refine Stp.au (fun k=>match k with | 1=>some (Stp.bT (.agg X)) | 2=>some (Stp.bT (.agg #[.string E,.string F])) | 4=>some (Stp.bT (.int .i64 V)) | _=>none) (by kernel_rfl) (by kernel_rfl) ?_
 (refine Stp.wq ?_;intro K b;go_big_quiet_op;go_big_quiet_on)
 refine Stp.aC (Stp.bT (.agg X)) (by kernel_rfl) rfl ⟨_,rfl⟩ Stp.aQ (fun w4 a i=>?_) ?_
 . have c:=Stp.ai a
   obtain ⟨y,o⟩:=G.out w4 c;clear a i c;go_simp
   exact ⟨Stp.kW.refl _,rfl,trivial⟩
 rintro _ rfl
 (refine Stp.ay ?_;intro K b;go_simp;refine b _ ?_;clear b K)
 refine Stp.aC (Stp.bT (.agg #[.string E,.string F])) (by kernel_rfl) rfl ⟨_,rfl⟩ Stp.aQ (fun w4 a i=>?_) ?_
 . have c:=Stp.ai a
   have v:=A.out w4;clear a i c;go_simp
   go_at_call 33;refine Calls.mono v ?_;rintro e w5 ⟨rfl,j⟩;exact ⟨_,rfl,j,rfl,trivial⟩
 rintro _ rfl
 (refine Stp.ay ?_;intro K b;go_simp;refine b _ ?_;clear b K)
 (refine Stp.wq ?_;intro K b;go_big_quiet_op;go_big_quiet_on)
 refine Stp.aC (Stp.bT (.int .i64 V)) (by kernel_rfl) rfl ⟨_,rfl⟩ Stp.aQ (fun w4 a i=>?_) ?_
 . have c:=Stp.ai a
   have v:=s.out w4;clear a i c;go_simp
   go_at_call 34;refine Calls.mono v ?_;rintro e w5 ⟨rfl,j⟩;exact ⟨_,rfl,j,rfl,trivial⟩
 rintro _ rfl
 (refine Stp.ay ?_;intro K b;go_simp;refine b _ ?_;clear b K)
 (refine Stp.wq ?_;intro K b;go_big_quiet_op;go_big_quiet_on)
 refine Stp.aS ?_;intro w6 u B;have t:=Stp.ai u;clear u B;have D:=hid (l.out.trans (t.mono l.out.size));clear t;go_wp2
 go_ret
 exact ⟨rfl,D.out⟩
end Go.Proofs.YtomhbcfjhgecbaaGreatDoor
namespace Go.Proofs.YtomhbcfjhgecbaaGreatDoor
open Go.RowKit Go.Sort Go.Lib
open Go.Lib (hid)
attribute [local go_sem] Stp.di
attribute [local go_sem ↓] fQ
attribute [local go_sem] dV
attribute [local go_sem ↓] fK
attribute [local go_sem] dH bD bG bJ cu bQ dA bI cO
def BR (x:Ins):Prop:=nodes x.at_<=1000000/\gX x.at_<=1000000/\x.dp.length<=1000000
theorem bF (l:List Value):∀ (W:World) (b o:Nat) {b':Nat},b'≠b->(W.setCells b o l).heap[b']?=W.heap[b']?:=by
 induction l with
 | nil=>intros;rfl
 | cons v l ih =>
   intro W b o b' h;show ((W.setCell ⟨b,o,none⟩ v).setCells b (o+1) l).heap[b']?=_;rw [ih _ _ _ h,Below.heap_setCell _ _ _ _ h]
theorem setCells_size (l:List Value):∀ (W:World) (b o:Nat),(W.setCells b o l).heap.size=W.heap.size:=by
 induction l with
 | nil=>intros;rfl
 | cons v l ih =>
   intro W b o;show ((W.setCell ⟨b,o,none⟩ v).setCells b (o+1) l).heap.size=_;rw [ih];simp [World.setCell]
theorem dn {B:Nat} {w0:World} (l:List Value):∀ (W:World) (b o:Nat),Below B w0 W->B<=b->Below B w0 (W.setCells b o l):=by
 induction l with
 | nil=>intro W b o h _;exact h
 | cons v l ih =>
   intro W b o h a;exact ih _ _ _ (h.setCell a _) a
theorem fC (l:List Value) (T:TypeId):∀ (W:World) (b o:Nat) (Z:Array Value),W.heap[b]?=some (.cells Z T)->o+l.length<=Z.size->(W.setCells b o l).heap[b]?=some (.cells (Z.toList.take o ++ l ++ Z.toList.drop (o+l.length)).toArray T):=by
 induction l with
 | nil =>
   intro W b o Z h _;rw [List.append_nil,List.length_nil,Nat.add_zero,List.take_append_drop];exact h
 | cons v l ih =>
   intro W b o Z h a;rw [List.length_cons] at a;show ((W.setCell ⟨b,o,none⟩ v).setCells b (o+1) l).heap[b]?=_;rw [ih (W.setCell ⟨b,o,none⟩ v) b (o+1) (Z.setIfInBounds o v) (by unfold World.setCell;simp [Array.getElem?_modify,h]) (by simp;omega)];rw [Array.toList_setIfInBounds,pX Z.toList o v l (by rw [Array.length_toList];omega),List.length_cons]
theorem dU {W:World} {b:Nat} {X:Array Value} {T:TypeId} (h:W.heap[b]?=some (.cells X T)) (hX:lm X):eG W b 0/\ik W b 0=X:=gU hX fun j u hj=>by
 unfold World.cell?;simp only [h,Nat.zero_add];rw [Array.getElem?_toList] at hj;exact hj
def FD (a:Addr) (v:Value):Sem Unit:=storeVar 39 a v
theorem MW (a:Addr) (v:Value):storeVar 39 a v=FD a v:=rfl
def IM (W:World) (b o:Nat) (X:Array Value):World:=W.setCells b o X.toList
def FN (W:World) (b o:Nat):Prop:=W.there b o 5
def Gw (X:Array Value):Prop:=X.size=5/\X.all (·.oneCell')=true
theorem Iz (W:World) (b o:Nat) (X:Array Value) (h:FN W b o) (hX:Gw X):(FD ⟨b,o,none⟩ (.agg X)).run Tryz.prog W=.ok () (IM W b o X):=
 run_storeVar_mid W b o _ X (by rw [hX.1];exact h) (by rw [hX.1];kernel_rfl) hX.2
theorem lu {W:World} {b o n:Nat} {Z:Array Value} {T:TypeId} (h:W.heap[b]?=some (.cells Z T)) (ho:o+n<=Z.size):W.there b o n:=fun j hj=>⟨by
 unfold World.cell?;simp only [h];simp [show o+j < Z.size by omega],by
 unfold World.frozen?;simp only [h];simp⟩
attribute [local go_sem ↓] MW
set_option maxRecDepth 100000 in
set_option maxHeartbeats 8000000 in
theorem rE (x:Ins) (p:Pt) (w:World) (h:jf w x p) (hf:BR x) :
  Calls Tryz.prog 50 #[.agg (aH x p)] w fun e w'=>∃ p',e=.returned (.agg (aH x p'))/\jf (mask (bZ w.heap.size) w') x p'/\Below w.heap.size w w':=by
 obtain ⟨h1,h2,h3,h4⟩:=h;have Q:=hid (fun (W:World) (hW:Below w.heap.size w W)=>yc x.at_ p.r p.c p.rk p.ck W (h1.below hW) hf.1 hf.2.1);have P:=hid (fun (W:World) (hW:Below w.heap.size w W)=>clone_any x.dp p.dr p.dc W (h2.below bP hW) hf.2.2);have ap:=hid (IZ h2);clear h1 h2 hf;unfold aH at *;go_enter Tryz.func50,Tryz.ntmps50;go_wp2_with fail
 have A:Below w.heap.size w ((w.alloc (.cells #[.string x.ad,.string x.de,.string x.id,.string x.ty,.int .i64 x.at_.kind,.int .i64 x.at_.num,.string x.at_.str,.slice p.r x.at_.items.length p.c,.slice p.rk x.at_.keys.length p.ck,.int .i64 x.ver,.bool x.ta,.bool x.cf,.slice p.dr x.dp.length p.dc] 41)).alloc (.cells #[.string { data:=#[] },.string { data:=#[] },.string { data:=#[] },.string { data:=#[] },.int .i64 0,.int .i64 0,.string { data:=#[] },.slice none 0 0,.slice none 0 0,.int .i64 0,.bool false,.bool false,.slice none 0 0] 41)):=((Below.refl _ _).alloc (Nat.le_refl _) _).alloc (by simp) _;refine (Q.out _ A).mono ?_;rintro e w3 ⟨j,k,a,d,M3,rfl,S,u⟩;have z3:=u.size;have y:=(u.block w.heap.size (by simp;omega)).trans (Ff w _ _);have E:=(u.block (w.heap.size+1) (by simp)).trans (Di w _ _);simp at z3;have U:Gw #[.int .i64 x.at_.kind,.int .i64 x.at_.num,.string x.at_.str,.slice j x.at_.items.length k,.slice a x.at_.keys.length d]:=⟨rfl,by simp [Value.oneCell']⟩;have ab:FN w3 w.heap.size 4:=lu y (by simp);have G:=hid (show (IM w3 w.heap.size 4 #[.int .i64 x.at_.kind,.int .i64 x.at_.num,.string x.at_.str,.slice j x.at_.items.length k,.slice a x.at_.keys.length d]).heap[w.heap.size]?=some (.cells #[.string x.ad,.string x.de,.string x.id,.string x.ty,.int .i64 x.at_.kind,.int .i64 x.at_.num,.string x.at_.str,.slice j x.at_.items.length k,.slice a x.at_.keys.length d,.int .i64 x.ver,.bool x.ta,.bool x.cf,.slice p.dr x.dp.length p.dc] 41) from fC _ _ _ _ _ _ y (by simp));have ac:=hid ((bF #[.int .i64 x.at_.kind,.int .i64 x.at_.num,.string x.at_.str,.slice j x.at_.items.length k,.slice a x.at_.keys.length d].toList w3 w.heap.size 4 (b':=w.heap.size+1) (by omega)).trans E);have af:=hid (fun (b:Nat) (h:b≠w.heap.size)=>bF #[.int .i64 x.at_.kind,.int .i64 x.at_.num,.string x.at_.str,.slice j x.at_.items.length k,.slice a x.at_.keys.length d].toList w3 w.heap.size 4 h);have O:=hid (setCells_size #[.int .i64 x.at_.kind,.int .i64 x.at_.num,.string x.at_.str,.slice j x.at_.items.length k,.slice a x.at_.keys.length d].toList w3 w.heap.size 4);have B4:=hid (dn (B:=w.heap.size) (w0:=w) #[.int .i64 x.at_.kind,.int .i64 x.at_.num,.string x.at_.str,.slice j x.at_.items.length k,.slice a x.at_.keys.length d].toList w3 w.heap.size 4 (A.trans (u.mono A.size)) (Nat.le_refl _));have N:=hid S;have aa:=hid (show w.heap.size+1+1<=w3.heap.size from z3);have al:(IM w3 w.heap.size 4 #[.int .i64 x.at_.kind,.int .i64 x.at_.num,.string x.at_.str,.slice j x.at_.items.length k,.slice a x.at_.keys.length d]).cell? ⟨w.heap.size,12,none⟩=some (.slice p.dr x.dp.length p.dc):=by unfold World.cell?;rw [G.out];rfl
 clear A u S y E z3;generalize hY:(#[.int .i64 x.at_.kind,.int .i64 x.at_.num,.string x.at_.str,.slice j x.at_.items.length k,.slice a x.at_.keys.length d]:Array Value)=Y at *;generalize o:IM w3 w.heap.size 4 Y=D at *;have aw:(FD ⟨w.heap.size,4,none⟩ (.agg Y)).run Tryz.prog w3=.ok () D:=o ▸ Iz w3 _ _ Y ab U;clear ab U;go_wp2_with fail
 have C:Below w.heap.size w D:=by rw [<-o];exact B4.out
 refine (P.out _ C).mono ?_;rintro e w5 ⟨v5,rfl,t,q⟩;obtain ⟨f,i,rfl,_⟩:=dJ t;have ao:D.heap.size=w3.heap.size:=by rw [<-o];exact O.out
 have am:=aa.out;have z:=(q.block w.heap.size (by omega)).trans G.out;have L:w5.heap[w.heap.size+1]?=some (.cells #[.string { data:=#[] },.string { data:=#[] },.string { data:=#[] },.string { data:=#[] },.int .i64 0,.int .i64 0,.string { data:=#[] },.slice none 0 0,.slice none 0 0,.int .i64 0,.bool false,.bool false,.slice none 0 0] 41):=(q.block (w.heap.size+1) (by omega)).trans (by rw [<-o];exact ac.out);have R:∀ b,b≠w.heap.size->D.heap[b]?=w3.heap[b]?:=fun b s=>by rw [<-o];exact af.out b s
 have t2:w5.frozen? ⟨w.heap.size,12,none⟩=false:=by unfold World.frozen?;rw [z];rfl
 have t3:w5.cell? ⟨w.heap.size,12,none⟩=some (.slice p.dr x.dp.length p.dc):=by unfold World.cell?;rw [z];rfl
 have M:Below w.heap.size w (w5.setCell ⟨w.heap.size,12,none⟩ (.slice f x.dp.length i)):=(C.trans (q.mono C.size)).setCell (Nat.le_refl _) _
 have Z:(w5.setCell ⟨w.heap.size,12,none⟩ (.slice f x.dp.length i)).heap[w.heap.size]?=some (.cells (aH x ⟨j,k,a,d,f,i⟩) 41):=by
  unfold World.setCell;simp only [Array.getElem?_modify,if_true,z,Option.map_some];rfl
 have H:(w5.setCell ⟨w.heap.size,12,none⟩ (.slice f x.dp.length i)).heap[w.heap.size+1]?=some (.cells #[.string { data:=#[] },.string { data:=#[] },.string { data:=#[] },.string { data:=#[] },.int .i64 0,.int .i64 0,.string { data:=#[] },.slice none 0 0,.slice none 0 0,.int .i64 0,.bool false,.bool false,.slice none 0 0] 41):=by
  rw [Below.heap_setCell _ _ _ _ (by simp)];exact L
 have aq:(w5.setCell ⟨w.heap.size,12,none⟩ (.slice f x.dp.length i)).heap.size=w5.heap.size:=by simp [World.setCell]
 have J:∀ b,b≠w.heap.size->(w5.setCell ⟨w.heap.size,12,none⟩ (.slice f x.dp.length i)).heap[b]?=w5.heap[b]?:=fun b s=>Below.heap_setCell _ _ _ _ s;have K:=dD x ⟨j,k,a,d,f,i⟩;have av:=q.size;have I:=fun (b:Nat) (h:b < D.heap.size)=>q.block b h;clear aw Q P;go_wp2_with fail
 generalize w5.setCell ⟨w.heap.size,12,none⟩ (.slice f x.dp.length i)=n at *;obtain ⟨l0,l1⟩:=dU Z K;have T:nZ n (w.heap.size+1) 0:=lu H (by simp)
 have l:(gJ n (w.heap.size+1) 0 (aH x ⟨j,k,a,d,f,i⟩)).heap[w.heap.size+1]?=some (.cells (aH x ⟨j,k,a,d,f,i⟩) 41):=by
  have:=fC (aH x ⟨j,k,a,d,f,i⟩).toList _ n _ 0 _ H (by simp [aH]);exact this.trans (by simp [aH])
 have V:Below w.heap.size w (gJ n (w.heap.size+1) 0 (aH x ⟨j,k,a,d,f,i⟩)):=dn _ _ _ _ M (by omega);have F:∀ b,b≠w.heap.size+1->(gJ n (w.heap.size+1) 0 (aH x ⟨j,k,a,d,f,i⟩)).heap[b]?=n.heap[b]?:=fun b s=>bF _ _ _ _ s;obtain ⟨l2,l3⟩:=dU l K
 have HF:=hid (show jf (mask (bZ w.heap.size) (gJ n (w.heap.size+1) 0 (aH x ⟨j,k,a,d,f,i⟩))) x ⟨j,k,a,d,f,i⟩ from by
  refine ⟨VK.to (bC fun b s hl=>?_) N.out.vk,Jb (B:=w.heap.size) (o9 (fD (own_base t (by omega)) fun g hg=>?_) fun g hg=>?_) ap.out,h3,h4⟩
  . simp only [bZ,decide_eq_true_eq] at s ⊢
    simp at s;refine ⟨by omega,?_⟩;rw [F b (by omega),J b (by omega),I b (by omega),R b (by omega)]
  . have:=cZ t hg
    rw [F g (by omega),J g (by omega)]
  . have:=cZ t hg
    simp only [bZ,decide_eq_true_eq];omega)
 have aL:(U5 ⟨w.heap.size+1,0,none⟩ (.agg (aH x ⟨j,k,a,d,f,i⟩))).run Tryz.prog n=.ok () (gJ n (w.heap.size+1) 0 (aH x ⟨j,k,a,d,f,i⟩)):=dH n _ _ _ T K;generalize aM:gJ n (w.heap.size+1) 0 (aH x ⟨j,k,a,d,f,i⟩)=m at *;have g0:m.cell? ⟨w.heap.size+1,0,none⟩=some (.string x.ad):=by unfold World.cell?;rw [l];rfl
 have g1:m.cell? ⟨w.heap.size+1,1,none⟩=some (.string x.de):=by unfold World.cell?;rw [l];rfl
 have g2:m.cell? ⟨w.heap.size+1,2,none⟩=some (.string x.id):=by unfold World.cell?;rw [l];rfl
 have g3:m.cell? ⟨w.heap.size+1,3,none⟩=some (.string x.ty):=by unfold World.cell?;rw [l];rfl
 have g4:m.cell? ⟨w.heap.size+1,4,none⟩=some (.int .i64 x.at_.kind):=by unfold World.cell?;rw [l];rfl
 have g5:m.cell? ⟨w.heap.size+1,5,none⟩=some (.int .i64 x.at_.num):=by unfold World.cell?;rw [l];rfl
 have g6:m.cell? ⟨w.heap.size+1,6,none⟩=some (.string x.at_.str):=by unfold World.cell?;rw [l];rfl
 have g7:m.cell? ⟨w.heap.size+1,7,none⟩=some (.slice j x.at_.items.length k):=by unfold World.cell?;rw [l];rfl
 have g8:m.cell? ⟨w.heap.size+1,8,none⟩=some (.slice a x.at_.keys.length d):=by unfold World.cell?;rw [l];rfl
 have g9:m.cell? ⟨w.heap.size+1,9,none⟩=some (.int .i64 x.ver):=by unfold World.cell?;rw [l];rfl
 have aE:m.cell? ⟨w.heap.size+1,10,none⟩=some (.bool x.ta):=by unfold World.cell?;rw [l];rfl
 have aD:m.cell? ⟨w.heap.size+1,11,none⟩=some (.bool x.cf):=by unfold World.cell?;rw [l];rfl
 have ar:m.cell? ⟨w.heap.size+1,12,none⟩=some (.slice f x.dp.length i):=by unfold World.cell?;rw [l];rfl
 have an:=hid V;have HI:=hid (show aH x ⟨j,k,a,d,f,i⟩=#[.string x.ad,.string x.de,.string x.id,.string x.ty,.int .i64 x.at_.kind,.int .i64 x.at_.num,.string x.at_.str,.slice j x.at_.items.length k,.slice a x.at_.keys.length d,.int .i64 x.ver,.bool x.ta,.bool x.cf,.slice f x.dp.length i] from rfl);generalize aH x ⟨j,k,a,d,f,i⟩=X at *;clear V F l T Z H J I R M ao av aq am t q z L t2 t3 K al C G ac af O B4 N aa hY o;go_simp
 go_wp2_with fail
 exact bodyPost_ret (v:=.agg X) (by simp [results,Tryz.results50,go_sem,g0,g1,g2,g3,g4,g5,g6,g7,g8,g9,aE,aD,ar,HI.out]) rfl ⟨⟨j,k,a,d,f,i⟩,by rw [HI.out],HF.out,an.out⟩
end Go.Proofs.YtomhbcfjhgecbaaGreatDoor
namespace Go.Proofs.YtomhbcfjhgecbaaGreatDoor
open Go.RowKit Go.Sort Go.Lib
open Go.Lib (hid)
open Stp (mP kW sF)
theorem Nc:(Tryz.prog.info? 58).map (fun i=>(i.zero,i.size,i.bytes))=some (some (.agg #[.string ByteArray.empty,.string ByteArray.empty,.string ByteArray.empty]),3,48):=by kernel_rfl
def F5:Go.Shelf.Ren:=⟨fun | 41=>104 | n=>n,fun | 22=>23 | 23=>58 | 4=>4 | n=>n,fun | n=>n⟩
theorem KP:Go.Proofs.SlLaysE0.n41 Tryz.prog F5:={
 mixed:=by kernel_rfl
 f41:=⟨Tryz.f104.name,by decide,Tryz.func104.trans (congrArg some (by kernel_rfl))⟩
 t4:=Tryz.underlying4
 a4:=Tryz.isAgg4
 z4:=Tryz.sizeOf4
 v4:=Tryz.zeroValue4
 t22:=Tryz.underlying23
 a22:=Tryz.isAgg23
 z22:=Tryz.sizeOf23
 v22:=Tryz.zeroValue23 }
set_option maxHeartbeats 4000000 in
set_option maxRecDepth 100000 in
theorem LX (a:Addr) (c:Nat) (w:World):Calls Tryz.prog 104 #[.slice (some a) 0 c] w fun e w'=>∃ v',e=.returned v'/\w'.ownsRow w.heap.size 58 3 v' 0 []/\Below w.heap.size w w':=by
 obtain ⟨p,q,l,i,m⟩:=info_parts Nc;have v:∀ (w:World) (a:Option Addr) (n c d g:Nat),(binOp .eql 23 (.slice a n c) (.slice none d g)).run Tryz.prog w=.ok (.bool a.isNone) w:=fun w a n c d g=>Lib.run_eql_slice_nil w _ _ a n c d g Tryz.underlying23;go_enter Tryz.func104,Tryz.ntmps104;go_wp2_with (at_builtin;refine wpList_append_own _ rfl _ _ 23 rfl w.heap.size 58 p _ 3 48 Tryz.underlying23 q l i m rfl (by decide) _ _ _ rfl (World.ownsRow_made w #[] 0 (Nat.le_refl _) (Nat.zero_le _) rfl) a 0 c [] rfl rfl (by intro j u r;simp at r) (by intro u t;cases t) (by unfold maxLen;omega) (by omega) (by simp) ?_)
 intro v' w1 f b o;go_wp2
 go_ret
 exact ⟨v',rfl,by simpa using f,((Below.refl _ w).alloc (Nat.le_refl _) _).grown b (by simp) (by intro k s;simp [Value.ownBlock] at s;omega)⟩
theorem O7 (cs:List Value) (n:Nat) (r:Option Addr) (c:Nat) (w:World) (hl:cs.length=n * 3) (hn:n<=c) (hc:c<=maxLen) (hs:n<=1000000) (h0:r=none->n=0)
  (hr:∀ (j:Nat) (u:Value),cs[j]?=some u->∃ b off,r=some ⟨b,off,none⟩/\w.cell? ⟨b,off+j,none⟩=some u) (h1:∀ u∈cs,u.oneCell'=true) :
  Calls Tryz.prog 104 #[.slice r n c] w fun e w'=>∃ v',e=.returned v'/\w'.ownsRow w.heap.size 58 3 v' n cs/\Below w.heap.size w w':=by
 cases r with
 | none =>
   obtain rfl:=h0 rfl;obtain rfl:cs=[]:=List.eq_nil_of_length_eq_zero (by omega);exact (AnyE.slices_Clone_nil KP 0 c w).mono fun e w' ⟨he,hw⟩=>⟨_,he,⟨by simp,.inl ⟨rfl,rfl⟩⟩,by rw [hw];exact Below.refl _ _⟩
 | some a =>
   obtain ⟨m,q,l,f,k⟩:=info_parts Nc
   by_cases d:n=0
   . subst d
     obtain rfl:cs=[]:=List.eq_nil_of_length_eq_zero (by omega);exact LX a c w
   . have p:0 < cs.length:=by omega
     obtain ⟨b,off,i,_⟩:=hr 0 _ (List.getElem?_eq_getElem p);simp only [Option.some.injEq] at i;subst i;refine (AnyE.slices_Clone KP m _ 3 48 q l f k rfl (by decide) Tryz.sizeOf58 b off n c cs w hl (by unfold maxLen;omega) (by omega) (fun j u o=>?_) h1).mono fun e w' ⟨v',he,ho,_,hb2⟩=>⟨v',he,ho,hb2⟩;obtain ⟨v,s,g,t⟩:=hr j u o;simp at g;obtain ⟨rfl,rfl⟩:=g;exact t
theorem NH:(Tryz.prog.info? 66).map (fun i=>(i.zero,i.size,i.bytes))=some (some (.agg #[.string ByteArray.empty,.int .i64 0,.int .i64 0,.string ByteArray.empty,.slice none 0 0,.slice none 0 0,.bool false]),7,104):=by kernel_rfl
def FT:Go.Shelf.Ren:=⟨fun | 41=>139 | n=>n,fun | 22=>24 | 23=>66 | 4=>4 | n=>n,fun | n=>n⟩
theorem Me:Go.Proofs.SlLaysE0.n41 Tryz.prog FT:={
 mixed:=by kernel_rfl
 f41:=⟨Tryz.f139.name,by decide,Tryz.func139.trans (congrArg some (by kernel_rfl))⟩
 t4:=Tryz.underlying4
 a4:=Tryz.isAgg4
 z4:=Tryz.sizeOf4
 v4:=Tryz.zeroValue4
 t22:=Tryz.underlying24
 a22:=Tryz.isAgg24
 z22:=Tryz.sizeOf24
 v22:=Tryz.zeroValue24 }
set_option maxHeartbeats 4000000 in
set_option maxRecDepth 100000 in
theorem KD (a:Addr) (c:Nat) (w:World):Calls Tryz.prog 139 #[.slice (some a) 0 c] w fun e w'=>∃ v',e=.returned v'/\w'.ownsRow w.heap.size 66 7 v' 0 []/\Below w.heap.size w w':=by
 obtain ⟨p,q,l,i,m⟩:=info_parts NH;have v:∀ (w:World) (a:Option Addr) (n c d g:Nat),(binOp .eql 24 (.slice a n c) (.slice none d g)).run Tryz.prog w=.ok (.bool a.isNone) w:=fun w a n c d g=>Lib.run_eql_slice_nil w _ _ a n c d g Tryz.underlying24;go_enter Tryz.func139,Tryz.ntmps139;go_wp2_with (at_builtin;refine wpList_append_own _ rfl _ _ 24 rfl w.heap.size 66 p _ 7 104 Tryz.underlying24 q l i m rfl (by decide) _ _ _ rfl (World.ownsRow_made w #[] 0 (Nat.le_refl _) (Nat.zero_le _) rfl) a 0 c [] rfl rfl (by intro j u r;simp at r) (by intro u t;cases t) (by unfold maxLen;omega) (by omega) (by simp) ?_)
 intro v' w1 f b o;go_wp2
 go_ret
 exact ⟨v',rfl,by simpa using f,((Below.refl _ w).alloc (Nat.le_refl _) _).grown b (by simp) (by intro k s;simp [Value.ownBlock] at s;omega)⟩
theorem OQ (cs:List Value) (n:Nat) (r:Option Addr) (c:Nat) (w:World) (hl:cs.length=n * 7) (hn:n<=c) (hc:c<=maxLen) (hs:n<=1000000) (h0:r=none->n=0)
  (hr:∀ (j:Nat) (u:Value),cs[j]?=some u->∃ b off,r=some ⟨b,off,none⟩/\w.cell? ⟨b,off+j,none⟩=some u) (h1:∀ u∈cs,u.oneCell'=true) :
  Calls Tryz.prog 139 #[.slice r n c] w fun e w'=>∃ v',e=.returned v'/\w'.ownsRow w.heap.size 66 7 v' n cs/\Below w.heap.size w w':=by
 cases r with
 | none =>
   obtain rfl:=h0 rfl;obtain rfl:cs=[]:=List.eq_nil_of_length_eq_zero (by omega);exact (AnyE.slices_Clone_nil Me 0 c w).mono fun e w' ⟨he,hw⟩=>⟨_,he,⟨by simp,.inl ⟨rfl,rfl⟩⟩,by rw [hw];exact Below.refl _ _⟩
 | some a =>
   obtain ⟨m,q,l,f,k⟩:=info_parts NH
   by_cases d:n=0
   . subst d
     obtain rfl:cs=[]:=List.eq_nil_of_length_eq_zero (by omega);exact KD a c w
   . have p:0 < cs.length:=by omega
     obtain ⟨b,off,i,_⟩:=hr 0 _ (List.getElem?_eq_getElem p);simp only [Option.some.injEq] at i;subst i;refine (AnyE.slices_Clone Me m _ 7 104 q l f k rfl (by decide) Tryz.sizeOf66 b off n c cs w hl (by unfold maxLen;omega) (by omega) (fun j u o=>?_) h1).mono fun e w' ⟨v',he,ho,_,hb2⟩=>⟨v',he,ho,hb2⟩;obtain ⟨v,s,g,t⟩:=hr j u o;simp at g;obtain ⟨rfl,rfl⟩:=g;exact t
end Go.Proofs.YtomhbcfjhgecbaaGreatDoor
namespace Go.Proofs.YtomhbcfjhgecbaaGreatDoor
open Go.RowKit Go.Sort Go.Lib
open Go.Lib (hid)
structure eF {α:Type} (enc:α->List Value) (P:World->α->Prop) (sz:Nat) (T:TypeId) (B:Nat) (w:World) (v:Value) (ys:List α):Prop where
 own:w.ownsRow B T sz v ys.length (ys.flatMap enc)
 ok:∀ y∈ys,P (mask (vJ B v) w) y
def lF {α:Type} (P:World->α->Prop):Prop:=∀ w w' y,gB w w'->P w y->P w' y
theorem eF.to {α:Type} {enc:α->List Value} {P:World->α->Prop} {sz:Nat} {T:TypeId} {B:Nat} {w w':World} {v:Value} {ys:List α} (hP:lF P) (h:eF enc P sz T B w v ys) (hk:∀ b,B<=b->b < w.heap.size->w'.heap[b]?=w.heap[b]?):eF enc P sz T B w' v ys:=
 ⟨fD h.own fun g hg=>hk g (cZ h.own hg).1 (cZ h.own hg).2,fun y hy=>hP _ _ y (bC fun b hb hlt=>⟨hb,hk b (eQ hb).1 hlt⟩) (h.ok y hy)⟩
theorem eF.below {α:Type} {enc:α->List Value} {P:World->α->Prop} {sz:Nat} {T:TypeId} {B:Nat} {w w':World} {v:Value} {ys:List α} (hP:lF P) (h:eF enc P sz T B w v ys) (hb:Below w.heap.size w w'):eF enc P sz T B w' v ys:=h.to hP fun b _ hl=>hb.block b hl
theorem eF.push {α:Type} {enc:α->List Value} {P:World->α->Prop} {sz:Nat} {T:TypeId} {B:Nat} {wr w1 w2 w3 w4:World} {v:Value} {ys:List α} {x:α} {g n cap:Nat} (hP:lF P) (h:eF enc P sz T B wr v ys) (hB:B<=wr.heap.size) (h1:Below wr.heap.size wr w1) (h2:Below w1.heap.size w1 w2)
  (hx:P (mask (bZ w1.heap.size) w2) x) (h3:Below w2.heap.size w2 w3) (hown:w4.ownsRow B T sz (.slice (some ⟨g,0,none⟩) n cap) (ys ++ [x]).length ((ys ++ [x]).flatMap enc)) (hg:w3.grownBy w4 v.ownBlock) (hat:v.ownBlock=some g ∨ g=w3.heap.size) :
  eF enc P sz T B w4 (.slice (some ⟨g,0,none⟩) n cap) (ys ++ [x]):=by
 have l:=h1.size;have k:=h2.size;have j:=h3.size;refine ⟨hown,fun y c=>?_⟩;rcases List.mem_append.1 c with c | c
 . refine hP _ _ y (bC fun b a f=>?_) (h.ok y c)
   have a:=eQ a;refine ⟨?_,?_⟩
   . refine lM a.1 (fun e=>?_)
     have e:g=b:=by simpa [Value.ownBlock] using e
     subst e;rcases hat with e | e
     . exact a.2 e
     . omega
   . rw [hg.block b (by omega) (fun e=>a.2 e.symm),h3.block b (by omega),h2.block b (by omega),h1.block b f]
 . obtain rfl:y=x:=by simpa using c
   refine hP _ _ y (bC fun b a f=>?_) hx;simp only [bZ,decide_eq_true_eq] at a;have d:∀ i,v.ownBlock=some i->i≠b:=fun i e=>by have:=(cZ h.own e).2;omega
   refine ⟨?_,?_⟩
   . refine lM (by omega) (fun e=>?_)
     have e:g=b:=by simpa [Value.ownBlock] using e
     subst e;rcases hat with e | e
     . exact d _ e rfl
     . omega
   . rw [hg.block b (by omega) (fun e=>d b e.symm rfl),h3.block b f]
def Gx:List Value->Nat->List Value->List Value
 | xs,_,[]=>xs
 | xs,o,v :: l=>Gx (xs.set o v) (o+1) l
theorem jw {B sz g n cap:Nat} {e:TypeId} : ∀ (l:List Value) {w:World} {xs:List Value} (o:Nat),w.ownsRow B e sz (.slice (some ⟨g,0,none⟩) n cap) n xs->(w.setCells g o l).ownsRow B e sz (.slice (some ⟨g,0,none⟩) n cap) n (Gx xs o l)
 | [],w,xs,o,h=>h
 | v :: l,w,xs,o,h=>jw l (o+1) (lw h o v)
theorem Bl:∀ (l xs:List Value) (o:Nat),o+l.length<=xs.length->Gx xs o l=xs.take o ++ l ++ xs.drop (o+l.length)
 | [],xs,o,_=>by simp [Gx]
 | v :: l,xs,o,h=>by
   rw [List.length_cons] at h;rw [Gx,Bl l (xs.set o v) (o+1) (by rw [List.length_set];omega),pX xs o v l (by omega),List.length_cons]
theorem JV {α:Type} {enc:α->List Value} {sz:Nat} (he:∀ y,(enc y).length=sz) (y:α):∀ (ys:List α) (k:Nat),k < ys.length->Gx (ys.flatMap enc) (k * sz) (enc y)=(ys.set k y).flatMap enc:=by
 have d:∀ ys:List α,(ys.flatMap enc).length=ys.length * sz:=fun ys=>iH enc sz he ys;intro ys k b
 have f:k * sz+sz<=ys.length * sz:=by
  have:=Nat.mul_le_mul_right sz (show k+1<=ys.length from b);rw [Nat.add_mul,Nat.one_mul] at this;exact this
 rw [Bl _ _ _ (by rw [d,he];exact f),he]
 induction ys generalizing k with
 | nil=>cases b
 | cons x ys ih =>
   cases k with
   | zero=>simp [List.flatMap_cons,List.drop_append,he]
   | succ k =>
     have a:k < ys.length:=by simpa using b
     have c:k * sz+sz<=ys.length * sz:=by
      have:=Nat.mul_le_mul_right sz (show k+1<=ys.length from a);rw [Nat.add_mul,Nat.one_mul] at this;exact this
     have:=ih k a c;rw [List.set_cons_succ,List.flatMap_cons,List.flatMap_cons,<-this];rw [show (k+1) * sz=(enc x).length+k * sz by rw [he,Nat.add_mul];omega];rw [List.take_append,List.take_of_length_le (by omega),List.drop_append,List.drop_of_length_le (by omega),List.nil_append];rw [show (enc x).length+k * sz - (enc x).length=k * sz by omega,show (enc x).length+k * sz+sz - (enc x).length=k * sz+sz by omega];simp
theorem eF.put {α:Type} {enc:α->List Value} {P:World->α->Prop} {sz:Nat} {T:TypeId} {B B0 g n cap:Nat} {w:World} {ys:List α} {y:α} (hP:lF P) (he:∀ y,(enc y).length=sz) (h:eF enc P sz T B w (.slice (some ⟨g,0,none⟩) n cap) ys) (hn:n=ys.length) {k:Nat} (hk:k < ys.length)
  (hx:P (mask (bZ B0) w) y) (hB:B<=B0) (hg:g < B0):eF enc P sz T B (w.setCells g (k * sz) (enc y)) (.slice (some ⟨g,0,none⟩) n cap) (ys.set k y):=by
 subst hn;have c:∀ b,b≠g->(w.setCells g (k * sz) (enc y)).heap[b]?=w.heap[b]?:=fun b a=>bF _ _ _ _ a;have f:∀ b,(Value.slice (some ⟨g,0,none⟩) ys.length cap).ownBlock≠some b->b≠g:=fun b a e=>a (by rw [e];rfl);refine ⟨?_,fun z d=>?_⟩
 . rw [List.length_set,<-JV he y ys k hk]
   exact jw _ _ h.own
 . rcases List.mem_or_eq_of_mem_set d with d | rfl
   . exact hP _ _ z (bC fun b a i=>⟨a,c b (f b (eQ a).2)⟩) (h.ok z d)
   . refine hP _ _ z (bC fun b a i=>?_) hx
     simp only [bZ,decide_eq_true_eq] at a;exact ⟨lM (by omega) (fun e=>by simp [Value.ownBlock] at e;omega),c b (by omega)⟩
theorem yj {α:Type} {enc:α->List Value} {sz:Nat} (he:∀ y,(enc y).length=sz) (y:α) (o:Nat) (l:List Value) (hol:o+l.length<=sz):∀ (ys:List α) (k:Nat) (hk:k < ys.length),enc y=(enc ys[k]).take o ++ l ++ (enc ys[k]).drop (o+l.length)->Gx (ys.flatMap enc) (k * sz+o) l=(ys.set k y).flatMap enc:=by
 have f:∀ ys:List α,(ys.flatMap enc).length=ys.length * sz:=fun ys=>iH enc sz he ys;intro ys k hk b
 have g:k * sz+sz<=ys.length * sz:=by
  have:=Nat.mul_le_mul_right sz (show k+1<=ys.length from hk);rw [Nat.add_mul,Nat.one_mul] at this;exact this
 rw [Bl _ _ _ (by rw [f];omega)]
 induction ys generalizing k with
 | nil=>cases hk
 | cons x ys ih =>
   cases k with
   | zero =>
     simp only [List.getElem_cons_zero] at b;have:=he x;rw [List.set_cons_zero,List.flatMap_cons,List.flatMap_cons,b,Nat.zero_mul,Nat.zero_add,List.take_append_of_le_length (by omega),List.drop_append_of_le_length (by omega)];simp
   | succ k =>
     have a:k < ys.length:=by simpa using hk
     have c:k * sz+sz<=ys.length * sz:=by
      have:=Nat.mul_le_mul_right sz (show k+1<=ys.length from a);rw [Nat.add_mul,Nat.one_mul] at this;exact this
     have d:=ih k a (by simpa using b) c;rw [List.set_cons_succ,List.flatMap_cons,List.flatMap_cons,<-d];rw [show (k+1) * sz+o=(enc x).length+(k * sz+o) by rw [he,Nat.add_mul];omega];rw [List.take_append,List.take_of_length_le (by omega),List.drop_append,List.drop_of_length_le (by omega),List.nil_append];rw [show (enc x).length+(k * sz+o) - (enc x).length=k * sz+o by omega,show (enc x).length+(k * sz+o)+l.length - (enc x).length=k * sz+o+l.length by omega];simp
theorem eF.Ul {α:Type} {enc:α->List Value} {P:World->α->Prop} {sz:Nat} {T:TypeId} {B B0 g n cap:Nat} {w:World} {ys:List α} {y:α} {o:Nat} {l:List Value} (hP:lF P) (he:∀ y,(enc y).length=sz) (h:eF enc P sz T B w (.slice (some ⟨g,0,none⟩) n cap) ys) (hn:n=ys.length) {k:Nat} (hk:k < ys.length)
  (hol:o+l.length<=sz) (hy:enc y=(enc ys[k]).take o ++ l ++ (enc ys[k]).drop (o+l.length)) (hx:P (mask (bZ B0) w) y) (hB:B<=B0) (hg:g < B0):eF enc P sz T B (w.setCells g (k * sz+o) l) (.slice (some ⟨g,0,none⟩) n cap) (ys.set k y):=by
 subst hn;have c:∀ b,b≠g->(w.setCells g (k * sz+o) l).heap[b]?=w.heap[b]?:=fun b a=>bF _ _ _ _ a;have f:∀ b,(Value.slice (some ⟨g,0,none⟩) ys.length cap).ownBlock≠some b->b≠g:=fun b a e=>a (by rw [e];rfl);refine ⟨?_,fun z d=>?_⟩
 . rw [List.length_set,<-yj he y o l hol ys k hk hy]
   exact jw _ _ h.own
 . rcases List.mem_or_eq_of_mem_set d with d | rfl
   . exact hP _ _ z (bC fun b a i=>⟨a,c b (f b (eQ a).2)⟩) (h.ok z d)
   . refine hP _ _ z (bC fun b a i=>?_) hx
     simp only [bZ,decide_eq_true_eq] at a;exact ⟨lM (by omega) (fun e=>by simp [Value.ownBlock] at e;omega),c b (by omega)⟩
theorem eF.sl {α β:Type} {enc:α->List Value} {P:World->α->Prop} {R:World->List Value->β->Prop} {f:α->β} {sz:Nat} {T:TypeId} {B:Nat} {w:World} {v:Value} {ys:List α} (hP:lF P) (he:∀ y,(enc y).length=sz) (hR:∀ w y,P w y->R w (enc y) (f y)) (h:eF enc P sz T B w v ys):Sl R sz (mask (bZ B) w) v (ys.map f):=by
 obtain ⟨r,k,rfl,q,p,n⟩:=jM enc he (w:=mask (bZ B) w) (o9 h.own fun g s=>by
  have:=cZ h.own s;simp only [bZ,decide_eq_true_eq];omega)
 refine ⟨r,k,by rw [List.length_map],by rw [List.length_map];exact q,p,fun i c=>?_⟩;rw [List.length_map] at c;obtain ⟨b,d,t,o,j,a,m⟩:=n i c;subst m;refine ⟨b,d,_,o,j,a,?_⟩;rw [List.getElem_map];exact hR _ _ (hP _ _ _ (iL fun b l=>by have:=eQ l;simp only [bZ,decide_eq_true_eq];omega) (h.ok _ (List.getElem_mem c)))
end Go.Proofs.YtomhbcfjhgecbaaGreatDoor
namespace Go.Proofs.YtomhbcfjhgecbaaGreatDoor
open Go.RowKit Go.Sort Go.Lib
open Go.Lib (hid)
structure Pnd where
 ad:ByteArray
 ty:ByteArray
 tok:ByteArray
structure vS where
 nm:ByteArray
 v:Val
 se:Bool
structure fU where
 lin:ByteArray
 ser:Int
 ins:List Ins
 pen:List Pnd
 out:List vS
def Oj (x:Pnd):List Value:=[.string x.ad,.string x.ty,.string x.tok]
def Kr (_:World) (cs:List Value) (x:Pnd):Prop:=cs=Oj x/\x.ad.size<=maxLen/\x.ty.size<=maxLen/\x.tok.size<=maxLen
theorem iY:Hr Kr:=fun _ _ _ _ _ h=>h
structure Om where
 x:vS
 r:Option Addr
 c:Nat
 rk:Option Addr
 ck:Nat
def IC (y:Om):List Value:=[.string y.x.nm,.int .i64 y.x.v.kind,.int .i64 y.x.v.num,.string y.x.v.str,.slice y.r y.x.v.items.length y.c,.slice y.rk y.x.v.keys.length y.ck,.bool y.x.se]
def Pn (w:World) (y:Om):Prop:=jJ w y.r y.c y.rk y.ck y.x.v/\y.x.nm.size<=maxLen
def Ez (w:World) (cs:List Value) (x:vS):Prop:=∃ y:Om,y.x=x/\cs=IC y/\Pn w y
theorem jc:Hr Ez:=fun _ _ _ _ hb ⟨y,h1,h2,h3⟩=>⟨y,h1,h2,h3.1.below hb,h3.2⟩
theorem vw:lF Pn:=fun _ _ _ hs h=>⟨jC hs h.1,h.2⟩
structure jW where
 x:Ins
 p:Pt
def ja (y:jW):List Value:=(aH y.x y.p).toList
def Gu (w:World) (y:jW):Prop:=jf w y.x y.p
theorem aT:lF Gu:=fun _ _ _ hs h=>⟨jC hs h.1,Jt hs h.2.1,h.2.2⟩
structure Sp where
 ri:Option Addr
 ci:Nat
 rp:Option Addr
 cp:Nat
 ro:Option Addr
 co:Nat
def bK (s:fU) (p:Sp):Array Value:=#[.string s.lin,.int .i64 s.ser,.slice p.ri s.ins.length p.ci,.slice p.rp s.pen.length p.cp,.slice p.ro s.out.length p.co]
def dQ (w:World) (s:fU) (p:Sp):Prop:=Sl FI 13 w (.slice p.ri s.ins.length p.ci) s.ins/\Sl Kr 3 w (.slice p.rp s.pen.length p.cp) s.pen/\Sl Ez 7 w (.slice p.ro s.out.length p.co) s.out/\jD s.ser/\s.lin.size<=maxLen
theorem aI {w w':World} {s:fU} {p:Sp} (hb:Below w.heap.size w w') (h:dQ w s p):dQ w' s p:=⟨h.1.below dB hb,h.2.1.below iY hb,h.2.2.1.below jc hb,h.2.2.2⟩
theorem ji {w w':World} (hs:gB w w') {cs:List Value} {x:vS} (h:Ez w cs x):Ez w' cs x:=by
 obtain ⟨y,b,a,c⟩:=h;exact ⟨y,b,a,vw _ _ _ hs c⟩
theorem zO {w w':World} (hs:gB w w') {cs:List Value} {x:Ins} (h:FI w cs x):FI w' cs x:=by
 obtain ⟨p,b,a⟩:=h;exact ⟨p,b,aT _ _ ⟨x,p⟩ hs a⟩
theorem iJ {w w':World} {s:fU} {p:Sp} (hs:gB w w') (h:dQ w s p):dQ w' s p:=
 ⟨gK hs (fun _ _ h=>zO hs h) h.1,gK hs (fun _ _ h=>h) h.2.1,gK hs (fun _ _ h=>ji hs h) h.2.2.1,h.2.2.2⟩
end Go.Proofs.YtomhbcfjhgecbaaGreatDoor
namespace Go.Proofs.YtomhbcfjhgecbaaGreatDoor
open Go.RowKit Go.Sort Go.Lib
open Go.Lib (hid)
theorem CO (y:Om):(IC y).length=7:=rfl
theorem O1 (y:Om):∀ u∈IC y,u.oneCell'=true:=by
 intro u a;simp [IC] at a;rcases a with rfl | rfl | rfl | rfl | rfl | rfl | rfl <;> rfl
theorem Es {α β:Type} {R:World->List Value->β->Prop} {P:World->α->Prop} {enc:α->List Value} {f:α->β} {sz:Nat} {w:World} {r:Option Addr} {n c:Nat} {xs:List β} (hlen:∀ y,(enc y).length=sz) (hR:∀ cs x,R w cs x->∃ y:α,f y=x/\cs=enc y/\P w y) (h:Sl R sz w (.slice r n c) xs) :
  ∃ ys:List α,ys.map f=xs/\(∀ y∈ys,P w y)/\∀ (j:Nat) (u:Value),(ys.flatMap enc)[j]?=some u->∃ b off,r=some ⟨b,off,none⟩/\w.cell? ⟨b,off+j,none⟩=some u:=by
 obtain ⟨F,H,e,G,I,C⟩:=h;simp at e;obtain ⟨rfl,rfl,rfl⟩:=e
 obtain ⟨ys,v,k⟩:=BI xs.length (fun i (y:α)=>∃ J:i < xs.length,f y=xs[i]/\P w y/\∃ b off,r=some ⟨b,off,none⟩/\∀ (j:Nat) (u:Value),(enc y)[j]?=some u->w.cell? ⟨b,off+i * sz+j,none⟩=some u) (fun i a=>by
  obtain ⟨b,off,cs,m,_,l,A⟩:=C i a;obtain ⟨y,t,rfl,B⟩:=hR _ _ A;exact ⟨y,a,t,B,b,off,m,l⟩)
 refine ⟨ys,?_,fun y s=>?_,?_⟩
 . apply List.ext_getElem
   . rw [List.length_map,v]
   . intro i D E
     rw [List.getElem_map];obtain ⟨_,e,_⟩:=k i (by simpa using D);exact e
 . obtain ⟨i,a,rfl⟩:=List.mem_iff_getElem.1 s
   exact (k i a).2.2.1
 . intro j u o
   have d:=(List.getElem?_eq_some_iff.1 o).1;rw [iH enc sz hlen] at d
   have g:0 < sz:=by
    rcases Nat.eq_zero_or_pos sz with h0 | h0
    . rw [h0] at d;omega
    . exact h0
   have a:j / sz < ys.length:=(Nat.div_lt_iff_lt_mul g).2 d;have z:j % sz < sz:=Nat.mod_lt _ g;have p:=flat_get enc sz hlen ys (j / sz) a (j % sz) z;have q:j / sz * sz+j % sz=j:=by rw [Nat.mul_comm];exact Nat.div_add_mod _ _
   rw [q,o] at p;obtain ⟨_,_,_,b,off,m,l⟩:=k (j / sz) a;refine ⟨b,off,m,?_⟩;have:=l (j % sz) u p.symm;rw [show off+j / sz * sz+j % sz=off+j by omega] at this;exact this
attribute [local go_sem] Stp.di
attribute [local go_sem ↓] MW
structure TE where
 y:Om
 d:Bool
def Ea (z:TE):List Value:=IC z.y
def DV (w0:World) (w:World) (z:TE):Prop:=if z.d then Pn w z.y else Pn w0 z.y
theorem xY (w0:World):lF (DV w0):=fun w w' z hs h=>by
 unfold DV at *;cases hd:z.d with
 | true=>rw [hd] at h;exact vw _ _ _ hs h
 | false=>rw [hd] at h;exact h
theorem Dk (z:TE):(Ea z).length=7:=rfl
set_option maxRecDepth 100000 in
set_option maxHeartbeats 8000000 in
theorem Em (xs:List vS) (r:Option Addr) (c:Nat) (w:World) (h:Sl Ez 7 w (.slice r xs.length c) xs) (hf:∀ x∈xs,nodes x.v<=1000000/\gX x.v<=1000000) (hn:xs.length<=1000000) :
  Calls Tryz.prog 105 #[.slice r xs.length c] w fun e w'=>∃ v' ys,e=.returned v'/\eF IC Pn 7 66 w.heap.size w' v' ys/\ys.map (·.x)=xs/\Below w.heap.size w w':=by
 obtain ⟨ys,H,ab,al⟩:=Es (P:=Pn) (enc:=IC) (f:=fun y=>y.x) CO (fun cs x ⟨y,E,I,h3⟩=>⟨y,E,I,h3⟩) h;have hl:ys.length=xs.length:=by rw [<-H,List.length_map]
 have D:=bi h
 have Y:=hid (OQ (ys.flatMap IC) xs.length r c w (by rw [iH IC 7 CO,hl]) (by have:=D.2.1;omega) D.2.2 hn (fun e=>by
  subst e;cases xs with
  | nil=>rfl
  | cons x xs =>
    obtain ⟨_,_,e2,_,_,he⟩:=h;obtain ⟨b,av,_,F,_⟩:=he 0 (by simp);simp at e2;rw [<-e2.1] at F;cases F) al (fun u hu=>by
  obtain ⟨y,_,hu⟩:=List.mem_flatMap.1 hu;exact O1 y u hu))
 have HO:=hid ab;have HM:=hid H;have aE:=hid hf;clear h D al ab H hf;go_enter Tryz.func105,Tryz.ntmps105;go_wp2_with fail
 refine Y.out.mono ?_;rintro e w3 ⟨v3,rfl,G,an⟩;obtain ⟨S,c3,rfl,a2,aL⟩:=dJ G;have ac:=hid an
 have am:=hid (show eF Ea (DV w) 7 66 w.heap.size w3 (.slice S xs.length c3) (ys.map fun y=>⟨y,false⟩) from ⟨by
  have e:(ys.map fun y=>(⟨y,false⟩:TE)).flatMap Ea=ys.flatMap IC:=by rw [List.flatMap_map];rfl
  rw [e,List.length_map,hl];exact G,fun z B=>by
  obtain ⟨y,hy,rfl⟩:=List.mem_map.1 B;exact HO.out y hy⟩)
 clear Y G an;go_wp2_with fail
 have W:=hid (show (ys.map fun y=>(⟨y,false⟩:TE)).map (fun z=>z.y.x)=xs from by rw [List.map_map];exact HM.out);have aR:=hn;go_loopg [9] xs.length (fun gg s9 wr=>∃ (k:Nat) (a:List TE),k<=xs.length/\xs.length - k<=gg/\s9=.int .i64 k/\Hid (eF Ea (DV w) 7 66 w.heap.size wr (.slice S xs.length c3) a)/\Hid (Below w.heap.size w wr)/\Hid (a.map (fun z=>z.y.x)=xs/\∀ (i:Nat) (h:i < a.length),i < k->a[i].d=true))
 case atStart=>exact ⟨0,_,by omega,by omega,rfl,am,ac,hid ⟨W.out,fun i _ h=>absurd h (by omega)⟩⟩
 case round =>
  clear am ac W;obtain ⟨k,a,hk,aM,rfl,t,R,C⟩:=hrel
  have ar:a.length=xs.length:=by
   have:=congrArg List.length C.out.1
   rwa [List.length_map] at this
  by_cases aq:k < xs.length
  . have m:k < a.length:=by omega
    obtain ⟨g,rfl⟩:∃ g,S=some ⟨g,0,none⟩:=by
     rcases t.out.own.2 with ⟨e,h0⟩ | ⟨g,cap,cur,e,_⟩
     . simp at e;omega
     . simp at e;exact ⟨g,by rw [e.1]⟩
    have a1:(0:Int)<=(k:Int):=by omega
    have ao:(k:Int) < (xs.length:Int):=by omega
    have A:∀ (j:Nat) (u:Value),(Ea (a[k]'m))[j]?=some u->wr.cell? ⟨g,k * 7+j,none⟩=some u:=fun j u hj=>by
     obtain ⟨r',c',e,_,_,he⟩:=jM Ea Dk t.out.own;simp at e;obtain ⟨rfl,_,rfl⟩:=e;obtain ⟨b,av,cs,F,_,hc,hv⟩:=he k m;simp at F;obtain ⟨rfl,rfl⟩:=F;have:=hc j u (by rw [hv];exact hj);simpa using this
    have M:(a[k]'m).y.x=xs[k]:=by
     have:=C.out.1;have I:(a.map (fun z=>z.y.x))[k]'(by rw [List.length_map];exact m)=xs[k]:=by simp only [this]
     rwa [List.getElem_map] at I
    have N:jJ wr (a[k]'m).y.r (a[k]'m).y.c (a[k]'m).y.rk (a[k]'m).y.ck (a[k]'m).y.x.v:=by
     have:=t.out.ok _ (List.getElem_mem m);unfold DV at this;cases J:(a[k]'m).d with
     | true=>rw [J] at this;exact jC (fG _ _) this.1
     | false=>rw [J] at this;exact this.1.below R.out
    have g0:=A 1 _ rfl;have g1:wr.cell? ⟨g,k * 7+1+1,none⟩=_:=A 2 _ rfl;have g2:wr.cell? ⟨g,k * 7+1+2,none⟩=_:=A 3 _ rfl;have g3:wr.cell? ⟨g,k * 7+1+3,none⟩=_:=A 4 _ rfl;have g4:wr.cell? ⟨g,k * 7+1+4,none⟩=_:=A 5 _ rfl;clear A
    generalize B:a[k]'m=z at *;go_wp2_with fail
    obtain ⟨af,aa⟩:=aE.out xs[k] (List.getElem_mem aq);rw [M] at N;refine (yc xs[k].v z.y.r z.y.c z.y.rk z.y.ck wr N af aa).mono ?_;rintro e w5 ⟨q,s,n,p,M8,rfl,Z,L⟩;have K:=t.out.below (xY w) L;have Q:=cZ t.out.own (g:=g) rfl
    have O:(a[k]'m).y.x.nm.size<=maxLen:=by
     have:=t.out.ok _ (List.getElem_mem m);unfold DV at this;cases J:(a[k]'m).d with
     | true=>rw [J] at this;exact this.2
     | false=>rw [J] at this;exact this.2
    rw [B] at O;have V:=K.Ul (o:=1) (l:=[.int .i64 xs[k].v.kind,.int .i64 xs[k].v.num,.string xs[k].v.str,.slice q xs[k].v.items.length s,.slice n xs[k].v.keys.length p]) (y:=⟨⟨z.y.x,q,s,n,p⟩,true⟩) (B0:=wr.heap.size) (xY w) Dk ar.symm m (by simp) (by rw [B];unfold Ea IC;simp [M]) (by unfold DV;simp only [if_true];exact ⟨by rw [M];exact Z.vk,O⟩) (by omega) Q.2;have ad:Gw #[.int .i64 xs[k].v.kind,.int .i64 xs[k].v.num,.string xs[k].v.str,.slice q xs[k].v.items.length s,.slice n xs[k].v.keys.length p]:=⟨rfl,by simp [Value.oneCell']⟩
    have U:FN w5 g (k * 7+1):=by
     rcases K.own.2 with ⟨e,_⟩ | ⟨g2,cap,cur,e,_,hg,E,_,hs,_⟩
     . cases e
     . simp at e
       obtain ⟨rfl,e2,rfl⟩:=e;exact lu hg (by rw [hs];omega)
    have T:Below w.heap.size w (w5.setCells g (k * 7+1) [.int .i64 xs[k].v.kind,.int .i64 xs[k].v.num,.string xs[k].v.str,.slice q xs[k].v.items.length s,.slice n xs[k].v.keys.length p]):=dn _ _ _ _ (R.out.trans (L.mono R.out.size)) Q.1;have a0:(FD ⟨g,k * 7+1,none⟩ (.agg #[.int .i64 xs[k].v.kind,.int .i64 xs[k].v.num,.string xs[k].v.str,.slice q xs[k].v.items.length s,.slice n xs[k].v.keys.length p])).run Tryz.prog w5=.ok () (w5.setCells g (k * 7+1) [.int .i64 xs[k].v.kind,.int .i64 xs[k].v.num,.string xs[k].v.str,.slice q xs[k].v.items.length s,.slice n xs[k].v.keys.length p]):=Iz w5 g (k * 7+1) _ U ad
    have ap:=hid (show ((a.set k ⟨⟨z.y.x,q,s,n,p⟩,true⟩).map fun z=>z.y.x)=xs/\∀ (i:Nat) (h:i < (a.set k ⟨⟨z.y.x,q,s,n,p⟩,true⟩).length),i < k+1->(a.set k ⟨⟨z.y.x,q,s,n,p⟩,true⟩)[i].d=true from ⟨by
     rw [List.map_set,<-B];have:=C.out.1;rw [show (a[k]'m).y.x=(a.map fun z=>z.y.x)[k]'(by rw [List.length_map];exact m) by simp,List.set_getElem_self];exact this,fun i hi a3=>by
     rw [List.getElem_set]
     by_cases X:k=i
     . rw [if_pos X]
     . rw [if_neg X]
       exact C.out.2 i (by simpa using hi) (by omega)⟩)
    generalize w5.setCells g (k * 7+1) [.int .i64 xs[k].v.kind,.int .i64 xs[k].v.num,.string xs[k].v.str,.slice q xs[k].v.items.length s,.slice n xs[k].v.keys.length p]=W6 at *;have aD:=hid V;have aw:=hid T;clear V T K ad U Z L Q N g0 g1 g2 g3 g4 t R C af aa O;go_wp2_with fail
    go_roundg (xs.length - (k+1))
    case measure=>omega
    case rel=>exact ⟨k+1,_,by omega,by omega,by go_num,aD,aw,ap⟩
  . obtain rfl:k=xs.length:=by omega
    have ao:decide ((xs.length:Int) < (xs.length:Int))=false:=by simp
    have HF:=hid (show eF IC Pn 7 66 w.heap.size wr (.slice S xs.length c3) (a.map (·.y)) from ⟨by
     have e:(a.map (·.y)).flatMap IC=a.flatMap Ea:=by rw [List.flatMap_map];rfl
     rw [e,List.length_map];exact t.out.own,fun y hy=>by
     obtain ⟨z,B,rfl⟩:=List.mem_map.1 hy;have E:=t.out.ok z B;obtain ⟨i,hi,rfl⟩:=List.mem_iff_getElem.1 B;have I:=C.out.2 i hi (by omega);unfold DV at E;rw [I] at E;exact E⟩)
    have HG:=hid (show (a.map (·.y)).map (·.x)=xs from by rw [List.map_map];exact C.out.1);clear t C;go_wp2_with fail
    go_ret
    exact ⟨_,_,rfl,HF.out,HG.out,R.out⟩
end Go.Proofs.YtomhbcfjhgecbaaGreatDoor
namespace Go.Proofs.YtomhbcfjhgecbaaGreatDoor.Stp
open Go.RowKit Go.Sort Go.Lib Go.Maps
def QS (Q:Exit->Act->World->Prop) (N:Act->World->Prop):Exit->Act->World->Prop
 | .normal,a,w=>N a w
 | e,a,w=>Q e a w
theorem IP (Q:Exit->Act->World->Prop):QS Q (fun a w=>Q .normal a w)=Q:=by
 funext e a w;cases e <;> rfl
theorem Ih {Q:Exit->Act->World->Prop} {N M:Act->World->Prop} (h:LetsOut (QS Q N)):LetsOut (QS Q M):=by
 obtain ⟨a,w,h⟩:=h;exact ⟨a,w,h⟩
theorem PS {P:Program} {o:Oper} {a:Act} {K:Act->World->Prop} {Q:Exit->Act->World->Prop} {N M:Act->World->Prop} {r:Result Next} (h:o.upon P a K (QS Q N) r):o.upon P a K (QS Q M) r:=by
 cases r with
 | ok x w' =>
   cases x with
   | enter f args =>
     exact Calls.mono h fun e g b=>by
      cases e with
      | returned v=>exact b
      | panicked c=>exact b
      | outgrown=>exact Ih b
   | value v=>exact h
   | skip=>exact h
   | defer d=>exact h
   | row r args=>exact h
   | _=>exact h
 | halt x w' =>
   cases x <;> exact h
theorem QE {P:Program} {o:Oper} {a:Act} {w:World} {K:Act->World->Prop} {Q:Exit->Act->World->Prop} {N M:Act->World->Prop} (h:o.wp P a w K (QS Q N)):o.wp P a w K (QS Q M):=PS h
theorem Ha {P:Program} {md:Region.Mode} {l:List Oper} {o:Oper} {Q:Exit->Act->World->Prop} {N M:Act->World->Prop} (hog:o.guard=none)
  (hQ:∀ a w,N a w->o.wp P a w M (QS Q M))
  (hac:∀ (i:Nat) (x:Oper),l[i]?=some x->∀ e∈x.after,e.on < i) (hgd:∀ (i:Nat) (x:Oper),l[i]?=some x->∀ g b,x.guard=some (g,b)->g < l.length) (hon:∀ e∈o.after,e.on < l.length)
  (hall:∀ j,j < l.length->qj md (l ++ [o]).toArray j l.length) :
  ∀ (m:Nat) (listed:Array Bool) (a:Act) (w:World),listed.size=l.length->Ko md (l ++ [o]).toArray (listed.push false) ->
   wpAny P md l.toArray (QS Q N) m listed a w->wpAny P md (l ++ [o]).toArray (QS Q M) (m+1) (listed.push false) a w:=by
 have y:∀ (m:Nat) (listed:Array Bool) (a:Act) (w:World),listed.size=l.length->Region.ready md l.toArray listed=[]->N a w->wpAny P md (l ++ [o]).toArray (QS Q M) (m+1) (listed.push false) a w:=by
  intro m listed a w r A Y;have U:=yg r hac A
  have K:∀ i,i < l.length->listed.getD i true=true:=fun i c=>by
   have p:=U i c;have d:i < listed.size:=by omega
   simp [d] at p ⊢;exact p
  have v:l.length∈Region.ready md (l ++ [o]).toArray (listed.push false):=mem_ready.2 ⟨by rw [dC,if_neg (by omega),if_pos r.symm],o,by simp,fun e t _=>by
   have:=hon e t;rw [dC,if_pos (by omega)];exact U _ this⟩
  have F:∀ i,i∈Region.ready md (l ++ [o]).toArray (listed.push false)->i=l.length:=fun i c=>by
   obtain ⟨f,x,k,_⟩:=mem_ready.1 c;refine Classical.byContradiction fun Z=>?_
   have p:i < l.length:=by
    have:=(Array.getElem?_eq_some_iff.1 k).1;simp at this;omega
   rw [dC,if_pos (by omega),K i p] at f;cases f
  have D:Region.ready md (l ++ [o]).toArray ((listed.push false).setIfInBounds l.length true)=[]:=by
   refine List.eq_nil_iff_forall_not_mem.2 fun i c=>?_;obtain ⟨f,x,k,n⟩:=mem_ready.1 c
   by_cases e:l.length=i
   . subst e
     simp [r] at f
   . rw [getD_set_ne true e] at f
     have p:i < l.length:=by
      have:=(Array.getElem?_eq_some_iff.1 k).1;simp at this;omega
     rw [dC,if_pos (by omega),K i p] at f;cases f
  refine ⟨fun h=>(by rw [h] at v;cases v),fun i c=>?_⟩;obtain rfl:=F i c;unfold wpOp;have O:((l ++ [o]).toArray)[l.length]?=some o:=by simp
  rw [O];simp only;have s:Region.wanted o (yielded (l ++ [o]).toArray a.tmps)=true:=by unfold Region.wanted;rw [hog]
  rw [if_pos s];exact Or.inl (Oper.wp_mono (fun G E h=>wpAny_done (Q':=QS Q M) D h m) (hQ a w Y))
 intro m
 induction m with
 | zero =>
   intro listed a w r L h;exact y 0 listed a w r h.1 h.2
 | succ m ih =>
   intro listed a w r L h
   by_cases A:Region.ready md l.toArray listed=[]
   . exact y (m+1) listed a w r A (h.1 A)
   obtain ⟨C,u⟩:=List.exists_mem_of_ne_nil _ A
   have q:∀ i,i∈Region.ready md l.toArray listed->i < l.length/\i∈Region.ready md (l ++ [o]).toArray (listed.push false):=fun i c=>by
    obtain ⟨f,x,k,n⟩:=mem_ready.1 c
    have p:i < l.length:=by
     have:=(Array.getElem?_eq_some_iff.1 k).1;simpa using this
    refine ⟨p,mem_ready.2 ⟨by rw [dC,if_pos (by omega)];exact f,x,by rw [<-k];simp [List.getElem?_append_left p],fun e t R=>?_⟩⟩;have:=n e t R;have S:=hac i x (by simpa using k) e t;rw [dC,if_pos (by omega)];exact this
   have B:∀ i,i∈Region.ready md (l ++ [o]).toArray (listed.push false)->i∈Region.ready md l.toArray listed:=fun i c=>by
    obtain ⟨f,x,k,n⟩:=mem_ready.1 c
    by_cases p:i < l.length
    . rw [dC,if_pos (by omega)] at f
      have H:l.toArray[i]?=some x:=by rw [<-k];simp [List.getElem?_append_left p]
      refine mem_ready.2 ⟨f,x,H,fun e t R=>?_⟩;have:=n e t R;have S:=hac i x (by simpa using H) e t;rw [dC,if_pos (by omega)] at this;exact this
    . have d:i=l.length:=by
       have:=(Array.getElem?_eq_some_iff.1 k).1;simp at this;omega
      subst d;have T:=nG L c (hall C (q C u).1);rw [dC,if_pos (by have:=(q C u).1;omega)] at T;exact absurd T (lD (mem_ready.1 u).1)
   refine ⟨fun f=>(by have:=(q C u).2;rw [f] at this;cases this),fun i c=>?_⟩;have z:=B i c;have V:=(q i z).1;obtain ⟨_,x,k,_⟩:=mem_ready.1 z;have d:=h.2 i z;have J:=L.add c;rw [DJ (by omega)] at J ⊢;have I:∀ G E,wpAny P md l.toArray (QS Q N) m (listed.setIfInBounds i true) G E->wpAny P md (l ++ [o]).toArray (QS Q M) (m+1) ((listed.setIfInBounds i true).push false) G E:=fun G E X=>ih _ _ _ (by simpa using r) J X;have W:(l ++ [o]).toArray[i]?=some x:=by rw [<-k];simp [List.getElem?_append_left V]
   unfold wpOp at d ⊢;rw [k] at d;rw [W];simp only at d ⊢;rw [vN (hgd i x (by simpa using k))];split
   . rename_i s
     rw [if_pos s] at d;rcases d with d | ⟨d,S⟩
     . exact Or.inl (QE (Oper.wp_mono I d))
     . exact Or.inr ⟨d,Ih S⟩
   . rename_i s
     rw [if_neg s] at d;exact I _ _ d
def qB (P:Program) (Q:Exit->Act->World->Prop):List Oper->Act->World->Prop
 | [],a,w=>Q .normal a w
 | o :: s,a,w=>o.wp P a w (qB P Q s) Q
def yO:List Oper->List Oper->Bool
 | l,[]=>true
 | l,o :: s=>NL l o && yO (l ++ [o]) s
theorem Dc {md:Region.Mode} {ops:Array Oper} (n:Nat):Ko md ops (Array.replicate n false):=fun j k _ hk=>by
 exfalso;unfold Array.getD at hk;split at hk <;> simp at hk
theorem wS {P:Program} {Q:Exit->Act->World->Prop} : ∀ (s l:List Oper) (m:Nat) (a:Act) (w:World),yO l s=true->wpAny P .any l.toArray (QS Q (qB P Q s)) m (Array.replicate l.length false) a w->wpAny P .any (l ++ s).toArray Q (m+s.length) (Array.replicate (l ++ s).length false) a w
 | [],l,m,a,w,_,h=>by
   rw [show QS Q (qB P Q [])=Q from IP Q] at h;simpa using h
 | o :: s,l,m,a,w,ht,h=>by
   unfold yO at ht;rw [Bool.and_eq_true] at ht;have hL:=ht.1;unfold NL at hL;simp only [Bool.and_eq_true] at hL;obtain ⟨⟨⟨hL1,hL2⟩,hL3⟩,hL4⟩:=hL;have hb:=yN hL1
   have hall:∀ j,j < l.length->qj .any (l ++ [o]).toArray j l.length:=fun j hj=>uw _ _ (by
    rw [List.all_eq_true] at hL4;exact hL4 j (List.mem_range.2 hj))
   have hon:∀ e∈o.after,e.on < l.length:=fun e he=>by
    have:=Array.all_eq_true_iff_forall_mem.1 hL3 e he;simpa using this
   have h2:=Ha (P:=P) (md:=.any) (l:=l) (o:=o) (Q:=Q) (N:=qB P Q (o :: s)) (M:=qB P Q s) (by simpa using hL2) (fun a w hh=>by
    have hh:o.wp P a w (qB P Q s) Q:=hh;have h9:o.wp P a w (qB P Q s) (QS Q (fun a w=>Q .normal a w)):=by rw [IP];exact hh
    exact QE h9) (fun i x hx=>(hb i x hx).1) (fun i x hx=>(hb i x hx).2) hon hall m (Array.replicate l.length false) a w (by simp) (by rw [<-Array.replicate_succ];exact Dc _) h
   rw [<-Array.replicate_succ] at h2;have h3:=wS s (l ++ [o]) (m+1) a w ht.2 (by simpa using h2);rw [List.append_assoc] at h3;simpa [Nat.add_assoc,Nat.add_comm 1] using h3
theorem lQ {P:Program} {id:Nat} {Q:Exit->Act->World->Prop} {a:Act} {w:World} {l s ops:List Oper} (sp:Nat->Option mP) (ho:ops=l ++ s) (hm:P.follows .mixedOrders=true) (hB:Region.lexB .any l.toArray=true) (hL:yO l s=true)
  (h:zV P .any l.toArray (fun w'=>∃ p:Regrown,w'=grow (redrawn w p.d) p.os) sp (fun E a'=>∀ w',FH w w'->(∀ j,E j w')->qB P Q s a' w') l 0 (fun _ _=>True) a):(Code.region id ops.toArray true).wp P Q a w:=by
 subst ho;simp only [Region.lexB,Bool.and_eq_true] at hB;refine wp_region_any hm ?_;have g:=nX (P:=P) (md:=.any) hB.1 l 0 (Array.replicate l.toArray.size false) (fun _ _=>True) a (by simp) (by simpa using hB.2) (Dc _) h;have b:=rG (Q:=fun E a'=>∀ w',FH w w'->(∀ j,E j w')->qB P Q s a' w') (Q':=QS Q (qB P Q s)) (C:=fun w'=>∃ p:Regrown,w'=grow (redrawn w p.d) p.os) (sp:=sp) (fun w1 w2 b c=>Bd b c) (fun E a w' f i h=>h w' f i) _ _ (fun _ _=>True) a { w with drawn:=w.drawn+1 } ⟨⟨w.drawn+1,#[]⟩,by rw [grow_empty];rfl⟩ (fun _=>trivial) (fun _ _ _ _ _=>trivial) g;have c:=wS s l l.length a { w with drawn:=w.drawn+1 } hL (by simpa using b);simpa using c
end Go.Proofs.YtomhbcfjhgecbaaGreatDoor.Stp
namespace Go.Proofs.YtomhbcfjhgecbaaGreatDoor
open Go.RowKit Go.Sort Go.Lib
open Go.Lib (hid)
theorem ae {w:World} {b:Nat} {C:Array Value} {E:TypeId} {fr:Nat × Nat} (h:w.heap[b]?=some (.cells C E fr)) (o:Nat) {v:Value} (hv:C[o]?=some v):w.cell? ⟨b,o,none⟩=some v:=by
 unfold World.cell?;simp [h,hv]
theorem ak {w:World} {b:Nat} {C:Array Value} {E:TypeId} (h:w.heap[b]?=some (.cells C E (0,0))) (o:Nat):w.frozen? ⟨b,o,none⟩=false:=by unfold World.frozen?;simp [h]
theorem fB {w:World} {b:Nat} {o:Obj} (h:w.heap[b]?=some o):b < w.heap.size:=(Array.getElem?_eq_some_iff.1 h).1
structure lI (s:fU):Prop where
 i:s.ins.length<=1000000
 ix:∀ x∈s.ins,BR x
 p:s.pen.length<=1000000
 o:s.out.length<=1000000
 ox:∀ x∈s.out,nodes x.v<=1000000/\gX x.v<=1000000
theorem tZ (x:Pnd):(Oj x).length=3:=rfl
theorem Oo (x:Pnd):∀ u∈Oj x,u.oneCell'=true:=by
 intro u a;simp [Oj] at a;rcases a with rfl | rfl | rfl <;> rfl
theorem iE (y:jW):(ja y).length=13:=rfl
theorem qh (y:jW):∀ u∈ja y,u.oneCell'=true:=by
 intro u a;simp [ja,aH] at a;rcases a with rfl | rfl | rfl | rfl | rfl | rfl | rfl | rfl | rfl | rfl | rfl | rfl | rfl <;> rfl
theorem xA:(Tryz.prog.info? 41).map (fun i=>(i.zero,i.size,i.bytes))=some (some (.agg #[.string ByteArray.empty,.string ByteArray.empty,.string ByteArray.empty,.string ByteArray.empty,.int .i64 0,.int .i64 0,.string ByteArray.empty,.slice none 0 0,.slice none 0 0,.int .i64 0,.bool false,.bool false,.slice none 0 0]),13,184):=by kernel_rfl
theorem Ry (xs:List Pnd) (r:Option Addr) (c:Nat) (w:World) (h:Sl Kr 3 w (.slice r xs.length c) xs) (hn:xs.length<=1000000) :
  Calls Tryz.prog 104 #[.slice r xs.length c] w fun e w'=>∃ v',e=.returned v'/\w'.ownsRow w.heap.size 58 3 v' xs.length (xs.flatMap Oj)/\Below w.heap.size w w':=by
 obtain ⟨i,d,n,k⟩:=Es (P:=fun _ _=>True) (enc:=Oj) (f:=id) tZ (fun cs x ⟨h1,_⟩=>⟨x,rfl,h1,trivial⟩) h;rw [List.map_id] at d;subst d;have a:=bi h;refine O7 (i.flatMap Oj) i.length r c w (by rw [iH Oj 3 tZ]) a.2.1 a.2.2 hn (fun e=>?_) k (fun u g=>?_)
 . subst e
   cases i with
   | nil=>rfl
   | cons x xs =>
     obtain ⟨_,_,j,_,_,m⟩:=h;obtain ⟨b,o,_,l,_⟩:=m 0 (by simp);simp at j;rw [<-j.1] at l;cases l
 . obtain ⟨y,_,g⟩:=List.mem_flatMap.1 g
   exact Oo y u g
def Qp (B:Nat) (v:Value):Nat->Bool:=fun b=>decide (b < B) && decide (v.ownBlock≠some b)
theorem wz {B:Nat} {v:Value} {b:Nat} (h:Qp B v b=true):b < B/\v.ownBlock≠some b:=by
 unfold Qp at h;rw [Bool.and_eq_true,decide_eq_true_eq,decide_eq_true_eq] at h;exact h
theorem Nj {B:Nat} {v:Value} {b:Nat} (h1:b < B) (h2:v.ownBlock≠some b):Qp B v b=true:=by
 unfold Qp;rw [Bool.and_eq_true,decide_eq_true_eq,decide_eq_true_eq];exact ⟨h1,h2⟩
def I7 (B B2:Nat) (v:Value):Nat->Bool:=fun b=>Qp B2 v b && decide (B<=b)
theorem tC {B B2:Nat} {v:Value} {b:Nat} (h:I7 B B2 v b=true):b < B2/\v.ownBlock≠some b/\B<=b:=by
 unfold I7 at h;rw [Bool.and_eq_true,decide_eq_true_eq] at h;exact ⟨(wz h.1).1,(wz h.1).2,h.2⟩
theorem Rf {B B2:Nat} {v:Value} {b:Nat} (h1:b < B2) (h2:v.ownBlock≠some b) (h3:B<=b):I7 B B2 v b=true:=by
 unfold I7;rw [Bool.and_eq_true,decide_eq_true_eq];exact ⟨Nj h1 h2,h3⟩
structure eX (B B2:Nat) (w:World) (s:fU) (p:Sp) (is:List jW):Prop where
 ins:eF ja Gu 13 41 B2 w (.slice p.ri is.length p.ci) is
 insx:is.map (·.x)=s.ins
 pen:w.ownsRow B 58 3 (.slice p.rp s.pen.length p.cp) s.pen.length (s.pen.flatMap Oj)
 penl:∀ g,(Value.slice p.rp s.pen.length p.cp).ownBlock=some g->g < B2
 penb:∀ x∈s.pen,x.ad.size<=maxLen/\x.ty.size<=maxLen/\x.tok.size<=maxLen
 out:Sl Ez 7 (mask (I7 B B2 (.slice p.rp s.pen.length p.cp)) w) (.slice p.ro s.out.length p.co) s.out
 ser:jD s.ser
 lin:s.lin.size<=maxLen
 le:B<=B2
 hi:B2<=w.heap.size
theorem GG {α β:Type} {enc:α->List Value} {R:World->List Value->β->Prop} {f:α->β} {sz:Nat} {T:TypeId} {B:Nat} {w:World} {v:Value} {ys:List α} (he:∀ y,(enc y).length=sz) (hR:∀ y∈ys,R w (enc y) (f y)) (h:w.ownsRow B T sz v ys.length (ys.flatMap enc)):Sl R sz w v (ys.map f):=by
 obtain ⟨r,j,rfl,o,n,l⟩:=jM enc he h;refine ⟨r,j,by rw [List.length_map],by rw [List.length_map];exact o,n,fun i c=>?_⟩;rw [List.length_map] at c;obtain ⟨b,d,p,m,g,a,k⟩:=l i c;subst k;refine ⟨b,d,_,m,g,a,?_⟩;rw [List.getElem_map];exact hR _ (List.getElem_mem c)
theorem eX.EY {B B2:Nat} {w:World} {s:fU} {p:Sp} {is:List jW} (h:eX B B2 w s p is):is.length=s.ins.length:=by rw [<-h.insx,List.length_map]
theorem QH {w:World} {y:jW} (h:Gu w y):FI w (ja y) y.x:=⟨y.p,rfl,h⟩
theorem row_in {B:Nat} {w:World} {v:Value} {is:List jW} (h:eF ja Gu 13 41 B w v is):Sl FI 13 w v (is.map (·.x)):=
 GG iE (fun y hy=>QH (aT _ _ _ (fG _ _) (h.ok y hy))) h.own
theorem eX.NW {B B2:Nat} {w:World} {s:fU} {p:Sp} {is:List jW} (h:eX B B2 w s p is):dQ w s p:=by
 refine ⟨?_,?_,gK (fG _ _) (fun _ _=>ji (fG _ _)) h.out,h.ser,h.lin⟩
 . rw [<-h.EY,<-h.insx]
   exact row_in h.ins
 . have:=GG (R:=Kr) (f:=id) tZ (fun y a=>⟨rfl,h.penb y a⟩) h.pen
   rwa [List.map_id] at this
theorem qU {w3:World} {bo:Nat} {x0 x1 x2 x3 x4 v:Value} {a:Addr} (h:w3.cell? a=some v) (hne:a.block≠bo):(((((w3.setCell ⟨bo,0,none⟩ x0).setCell ⟨bo,1,none⟩ x1).setCell ⟨bo,2,none⟩ x2).setCell ⟨bo,3,none⟩ x3).setCell ⟨bo,4,none⟩ x4).cell? a=some v:=
 (World.cell?_of_block (bF [x0,x1,x2,x3,x4] w3 bo 0 hne)).trans h
theorem keepA {w3:World} {o:Obj} {a:Addr} {v:Value} (h:w3.cell? a=some v):(w3.alloc o).cell? a=some v:=az ((Below.refl _ _).alloc (Nat.le_refl _) o) h
theorem fE {w3:World} {bo:Nat} {z0 z1 z2 z3 z4:Value} {T:TypeId} (h:w3.heap[bo]?=some (.cells #[z0,z1,z2,z3,z4] T)) (a b c d e:Value) :
  ∃ WE:World,WE=((((w3.setCell ⟨bo,0,none⟩ a).setCell ⟨bo,1,none⟩ b).setCell ⟨bo,2,none⟩ c).setCell ⟨bo,3,none⟩ d).setCell ⟨bo,4,none⟩ e/\WE.heap[bo]?=some (.cells #[a,b,c,d,e] T)/\(∀ k,k≠bo->WE.heap[k]?=w3.heap[k]?)/\WE.heap.size=w3.heap.size/\(∀ (B:Nat) (w0:World),Below B w0 w3->B<=bo->Below B w0 WE):=by
 refine ⟨w3.setCells bo 0 [a,b,c,d,e],rfl,?_,fun k g=>bF _ _ _ _ g,setCells_size _ _ _ _,fun B w0 f i=>dn _ _ _ _ f i⟩;have:=fC [a,b,c,d,e] T w3 bo 0 _ h (by simp);simpa using this
theorem MV {w X w2 Y w3 WE:World} {r2 r3:Option Addr} {n c2 m c3 bo:Nat} {cs:List Value} {ys:List Om} (h0:w.heap.size<=X.heap.size) (HXY:X.heap.size<=Y.heap.size) (ho2:w2.ownsRow X.heap.size 58 3 (.slice r2 n c2) n cs) (hY:Below w2.heap.size w2 Y) (hR:eF IC Pn 7 66 Y.heap.size w3 (.slice r3 m c3) ys) (hm:m=ys.length) (h3:Below Y.heap.size Y w3)
  (hpo:bo < X.heap.size ∨ w2.heap.size<=bo) (hro:bo < Y.heap.size ∨ w3.heap.size<=bo) (hk:∀ b,b≠bo->b < w3.heap.size->WE.heap[b]?=w3.heap[b]?) (hs:w3.heap.size<=WE.heap.size) :
  WE.ownsRow w.heap.size 58 3 (.slice r2 n c2) n cs/\(∀ g,(Value.slice r2 n c2).ownBlock=some g->g≠bo/\g < WE.heap.size)/\Sl Ez 7 (mask (fun b=>(Qp WE.heap.size (.slice r2 n c2) b && decide (b≠bo)) && decide (w.heap.size<=b)) WE) (.slice r3 m c3) (ys.map (·.x)):=by
 have l:=hY.size;have p:=h3.size
 have c:∀ g,(Value.slice r2 n c2).ownBlock=some g->g≠bo/\X.heap.size<=g/\g < w2.heap.size:=fun g c=>by
  have:=cZ ho2 c;exact ⟨by omega,this.1,this.2⟩
 refine ⟨own_base (fD ho2 fun g h=>?_) h0,fun g h=>?_,?_⟩
 . obtain ⟨a,_,b⟩:=c g h
   rw [hk g a (by omega),h3.block g (by omega),hY.block g b]
 . obtain ⟨a,_,b⟩:=c g h
   exact ⟨a,by omega⟩
 . have j:=eF.sl (R:=Ez) (f:=fun y:Om=>y.x) vw CO (fun w y h=>⟨y,rfl,rfl,h⟩) hR
   have d:gB (mask (bZ Y.heap.size) w3) (mask (fun b=>(Qp WE.heap.size (.slice r2 n c2) b && decide (b≠bo)) && decide (w.heap.size<=b)) WE):=bC fun b i k=>by
    simp only [bZ,decide_eq_true_eq] at i;refine ⟨?_,hk b (by omega) k⟩;rw [Bool.and_eq_true,Bool.and_eq_true,decide_eq_true_eq,decide_eq_true_eq];have o:X.heap.size<=Y.heap.size:=HXY;exact ⟨⟨Nj (by omega) (fun e=>by have:=c b e;omega),by omega⟩,by omega⟩
   subst hm;exact gK d (fun _ _=>ji d) j
theorem xC {x:Ins} {p q:Pt} (h:Value.agg (aH x p)=.agg (aH x q)):p=q:=by
 obtain ⟨b,k,j,g,f,l⟩:=p;obtain ⟨a,m,n,i,c,d⟩:=q;simp [aH] at h;obtain ⟨⟨rfl,rfl⟩,⟨rfl,rfl⟩,rfl,rfl⟩:=h;rfl
namespace Stp
theorem GR {P:Program} {o:Oper} {a:Act} {w:World} {K:Act->World->Prop} {Q:Exit->Act->World->Prop} {ops:Array Oper} {F:Prop} (hg:o.guard=none) (h:if Region.wanted o (yielded ops a.tmps)=true then Oper.wp P o a w K Q else F):Oper.wp P o a w K Q:=by
 have b:Region.wanted o (yielded ops a.tmps)=true:=by unfold Region.wanted;rw [hg]
 rwa [if_pos b] at h
theorem rH {P:Program} {id:Nat} {Q:Exit->Act->World->Prop} {a:Act} {w:World} {x0 x1 x2 x3 x4 x5 x6 x7:Oper} (sp:Nat->Option mP) (hm:P.follows .mixedOrders=true) (hB:Region.lexB .any [x0,x1,x2,x3,x4].toArray=true) (hL:yO [x0,x1,x2,x3,x4] [x5,x6,x7]=true)
  (h:zV P .any [x0,x1,x2,x3,x4].toArray (fun w'=>∃ p:Regrown,w'=grow (redrawn w p.d) p.os) sp (fun E a'=>∀ w',FH w w'->(∀ j,E j w')->qB P Q [x5,x6,x7] a' w') [x0,x1,x2,x3,x4] 0 (fun _ _=>True) a):(Code.region id [x0,x1,x2,x3,x4,x5,x6,x7].toArray true).wp P Q a w:=
 lQ (l:=[x0,x1,x2,x3,x4]) (s:=[x5,x6,x7]) sp rfl hm hB hL h
def yS (B:Nat) (x:Ins):mP:=⟨fun v=>∃ p,v=.agg (aH x p),fun v w=>∃ p,v=.agg (aH x p)/\jf (mask (bZ B) w) x p⟩
theorem zD (B:Nat) (x:Ins):∀ v,sF ((yS B x).R v):=fun v w w' ⟨p,e,h⟩ hl=>⟨p,e,aT _ _ ⟨x,p⟩ (jZ hl) h⟩
def DZ (B:Nat) (x:Ins):mP:=⟨fun v=>∃ b,v=.slice (some ⟨b,0,none⟩) 1 1,fun v w=>∃ b p,v=.slice (some ⟨b,0,none⟩) 1 1/\B<=b/\w.heap[b]?=some (.cells (aH x p) 41 (0,0))/\jf (mask (bZ B) w) x p⟩
theorem Eg (B:Nat) (x:Ins):∀ v,sF ((DZ B x).R v):=fun v w w' ⟨b,p,e,h0,h1,h2⟩ hl=>⟨b,p,e,h0,(Below.block hl b (fB h1)).trans h1,aT _ _ ⟨x,p⟩ (jZ hl) h2⟩
end Stp
open Stp (wq mP sF bT aQ yS zD DZ Eg kW qj ai dm gQ aC ay aS aW dG)
attribute [local go_sem] Stp.di
attribute [local go_sem ↓] fQ
attribute [local go_sem] dV
attribute [local go_sem ↓] fK
attribute [local go_sem] dH bD bG bJ cu bQ dA bI cO
set_option maxRecDepth 100000 in
set_option maxHeartbeats 8000000 in
theorem uD (s:fU) (p:Sp) (w:World) (h:dQ w s p) (hf:lI s) :
  Calls Tryz.prog 54 #[.agg (bK s p)] w fun e w'=>∃ p' is B2,e=.returned (.agg (bK s p'))/\eX w.heap.size B2 w' s p' is/\Below w.heap.size w w':=by
 obtain ⟨Y,ci,L,N,J,O⟩:=p;obtain ⟨hi,hp,ho,hs,hl⟩:=h;dsimp only at hi hp ho;have be:=hid (fun (W:World) (B:Below w.heap.size w W)=>Ry s.pen L N W (hp.below iY B) hf.p);have a1:=hid (fun (W:World) (B:Below w.heap.size w W)=>Em s.out J O W (ho.below jc B) hf.ox hf.o);have bh:=hid (fun (W:World) (B:Below w.heap.size w W)=>mM (hi.below dB B))
 have b1:=hid (show ∀ x∈s.pen,x.ad.size<=maxLen/\x.ty.size<=maxLen/\x.tok.size<=maxLen from fun x hx=>by
  obtain ⟨i,hi,rfl⟩:=List.mem_iff_getElem.1 hx;obtain ⟨_,_,e,_,_,he⟩:=hp;obtain ⟨_,_,_,_,_,_,hv⟩:=he i hi;exact hv.2)
 obtain ⟨_,cC,cK⟩:=bi hi;have b2:=hid hs;have b9:=hid hl;have ct:=hid hf.ix;have cF:=hf.i;clear hi hp ho hs hl hf;unfold bK;go_enter Tryz.func54,Tryz.ntmps54;go_wp2
 have a6:Below w.heap.size w ((w.alloc (.cells #[.string s.lin,.int .i64 s.ser,.slice Y s.ins.length ci,.slice L s.pen.length N,.slice J s.out.length O] 26)).alloc (.cells #[.string { data:=#[] },.int .i64 0,.slice none 0 0,.slice none 0 0,.slice none 0 0] 26)):=((Below.refl _ _).alloc (Nat.le_refl _) _).alloc (by simp) _;have af:((w.alloc (.cells #[.string s.lin,.int .i64 s.ser,.slice Y s.ins.length ci,.slice L s.pen.length N,.slice J s.out.length O] 26)).alloc (.cells #[.string { data:=#[] },.int .i64 0,.slice none 0 0,.slice none 0 0,.slice none 0 0] 26)).heap.size=w.heap.size+2:=by simp
 have R:((w.alloc (.cells #[.string s.lin,.int .i64 s.ser,.slice Y s.ins.length ci,.slice L s.pen.length N,.slice J s.out.length O] 26)).alloc (.cells #[.string { data:=#[] },.int .i64 0,.slice none 0 0,.slice none 0 0,.slice none 0 0] 26)).heap[w.heap.size]?=some (.cells #[.string s.lin,.int .i64 s.ser,.slice Y s.ins.length ci,.slice L s.pen.length N,.slice J s.out.length O] 26):=((MapKept.heap_alloc _ _).2 _ (by simp)).trans (MapKept.heap_alloc w _).1
 have ba:((w.alloc (.cells #[.string s.lin,.int .i64 s.ser,.slice Y s.ins.length ci,.slice L s.pen.length N,.slice J s.out.length O] 26)).alloc (.cells #[.string { data:=#[] },.int .i64 0,.slice none 0 0,.slice none 0 0,.slice none 0 0] 26)).heap[w.heap.size+1]?=some (.cells #[.string { data:=#[] },.int .i64 0,.slice none 0 0,.slice none 0 0,.slice none 0 0] 26):=by
  have:=(MapKept.heap_alloc (w.alloc (.cells #[.string s.lin,.int .i64 s.ser,.slice Y s.ins.length ci,.slice L s.pen.length N,.slice J s.out.length O] 26)) (.cells #[.string { data:=#[] },.int .i64 0,.slice none 0 0,.slice none 0 0,.slice none 0 0] 26)).1;simpa using this
 generalize ((w.alloc (.cells #[.string s.lin,.int .i64 s.ser,.slice Y s.ins.length ci,.slice L s.pen.length N,.slice J s.out.length O] 26)).alloc (.cells #[.string { data:=#[] },.int .i64 0,.slice none 0 0,.slice none 0 0,.slice none 0 0] 26))=j at *;have G:=hid a6;have P:=hid af;have bc:=hid R;have a3:=hid ba;have q0:j.cell? ⟨w.heap.size,0,none⟩=some (.string s.lin):=ae R 0 rfl;have q1:j.cell? ⟨w.heap.size,1,none⟩=some (.int .i64 s.ser):=ae R 1 rfl;have q3:j.cell? ⟨w.heap.size,3,none⟩=some (.slice L s.pen.length N):=ae R 3 rfl;have q4:j.cell? ⟨w.heap.size,4,none⟩=some (.slice J s.out.length O):=ae R 4 rfl;have bE:w.heap.size < j.heap.size:=by omega
 clear a6 af R ba;go_cut [3] (fun s3 wx=>∃ bo n m z A,s3=.pointer (some ⟨bo,0,none⟩)/\Hid (wx.heap[bo]?=some (.cells #[.string s.lin,.int .i64 s.ser,.slice none 0 0,.slice n s.pen.length m,.slice z s.out.length A] 26))/\Hid (j.heap.size<=bo/\Below j.heap.size j wx)/\Hid (wx.ownsRow j.heap.size 58 3 (.slice n s.pen.length m) s.pen.length (s.pen.flatMap Oj))/\Hid (∀ g,(Value.slice n s.pen.length m).ownBlock=some g->g≠bo/\g < wx.heap.size)/\Hid (Sl Ez 7 (mask (fun b=>(Qp wx.heap.size (.slice n s.pen.length m) b && decide (b≠bo)) && decide (j.heap.size<=b)) wx) (.slice z s.out.length A) s.out))
 case first =>
  have a:Below j.heap.size j j.drew:=(Below.refl _ _).drew
  go_region_held3 (fun w'=>w'.cell? ⟨w.heap.size,0,none⟩=some (.string s.lin)/\w'.cell? ⟨w.heap.size,1,none⟩=some (.int .i64 s.ser)/\w'.cell? ⟨w.heap.size,3,none⟩=some (.slice L s.pen.length N)/\w'.cell? ⟨w.heap.size,4,none⟩=some (.slice J s.out.length O))
   (first | with_reducible exact ⟨qU (az a q0) (by simp only;omega),qU (az a q1) (by simp only;omega),qU (az a q3) (by simp only;omega),qU (az a q4) (by simp only;omega)⟩ | with_reducible exact ⟨az a q0,az a q1,az a q3,az a q4⟩ | with_reducible exact ⟨keepA (az a q0),keepA (az a q1),keepA (az a q3),keepA (az a q4)⟩ | go_keep)
   ((first
     | (go_at_call 104
        refine (be.out _ (G.out.trans (Below.mono (show Below j.heap.size j _ by first | exact a | exact a.alloc a.size _ | exact ((Below.refl _ _).alloc (Nat.le_refl _) _).drew) G.out.size))).mono ?_;rintro e w2 ⟨v2,rfl,aE,an⟩;obtain ⟨n,m,rfl,cx,cz⟩:=dJ aE;have a9:=hid aE;have b8:=hid an
        try have ao:=(an.block j.heap.size (by simp)).trans (MapKept.heap_alloc j _).1
        replace a:=(show Below j.heap.size j _ by first | exact a | exact a.alloc a.size _ | exact ((Below.refl _ _).alloc (Nat.le_refl _) _).drew).trans (an.mono (by first | exact a.size | (simp;exact Nat.le_succ_of_le a.size) | (simp)));have cM:=a.size;clear aE an)
     | (go_at_call 105
        refine (a1.out _ (G.out.trans (Below.mono (show Below j.heap.size j _ by first | exact a | exact a.alloc a.size _) G.out.size))).mono ?_;rintro e w3 ⟨v3,ys,rfl,aw,br,ac⟩;obtain ⟨z,A,rfl,cy,cA⟩:=dJ aw.own;have bs:=hid aw;have a0:=hid br;have aM:=hid ac
        try have f:=(ac.block j.heap.size (fB ao)).trans ao
        try have f:=(ac.block w2.heap.size (by simp)).trans (MapKept.heap_alloc w2 _).1
        try have y0:=ae f 0 rfl
        try have y1:=ae f 1 rfl
        try have y2:=ae f 2 rfl
        try have y3:=ae f 3 rfl
        try have y4:=ae f 4 rfl
        try have cm:=ak f 0
        try have cf:=ak f 1
        try have cs:=ak f 2
        try have b4:=ak f 3
        try have b3:=ak f 4
        replace a:=(show Below j.heap.size j _ by first | exact a | exact a.alloc a.size _).trans (ac.mono (by first | exact a.size | (simp;exact Nat.le_succ_of_le a.size) | (simp)));clear aw br ac)))
  all_goals
   rename_i hHeld;clear hHeld;have bd:ys.length=s.out.length:=by rw [<-a0.out,List.length_map]
   have z2:=b8.out.size;have z3:=aM.out.size;have z1:=P.out
   first
   | (obtain ⟨WE,V,k1,k2,k3,k4⟩:=fE f (.string s.lin) (.int .i64 s.ser) (.slice none 0 0) (.slice n s.pen.length m) (.slice z ys.length A)
      rw [<-V];have hrel:=MV (w:=j) (WE:=WE) (by first | (simp;done) | (simp;omega) | omega) (by first | omega | (simp;done) | (simp;omega) | (simp at z2;omega) | (simp at z2 ⊢;omega)) a9.out (by first | exact Below.refl _ _ | exact (Below.refl _ _).alloc (Nat.le_refl _) _) bs.out rfl aM.out (by first | exact Or.inl (by first | (simp;done) | (simp;omega) | omega) | exact Or.inr (by first | (simp;done) | omega)) (by first | exact Or.inl (by first | (simp;done) | (simp at z2;omega) | omega) | exact Or.inr (by first | (simp;done) | omega)) (fun b S _=>k2 b S) (Nat.le_of_eq k3.symm);have a8:=k4 _ _ a (by first | exact Nat.le_refl _ | omega);have cq:=fB k1;clear V k2 k3 k4 f)
   | (have k1:=(MapKept.heap_alloc w3 (.cells #[.string s.lin,.int .i64 s.ser,.slice none 0 0,.slice n s.pen.length m,.slice z ys.length A] 26)).1
      have hrel:=MV (w:=j) (WE:=w3.alloc (.cells #[.string s.lin,.int .i64 s.ser,.slice none 0 0,.slice n s.pen.length m,.slice z ys.length A] 26)) (bo:=w3.heap.size) (by first | (simp;done) | (simp;omega) | omega) (by first | omega | (simp;done) | (simp;omega) | (simp at z2;omega) | (simp at z2 ⊢;omega)) a9.out (by first | exact Below.refl _ _ | exact (Below.refl _ _).alloc (Nat.le_refl _) _) bs.out rfl aM.out (Or.inr (by first | (simp;done) | omega)) (Or.inr (Nat.le_refl _)) (fun b S hl=>(MapKept.heap_alloc w3 _).2 b hl) (by simp);have a8:=a.alloc a.size (.cells #[.string s.lin,.int .i64 s.ser,.slice none 0 0,.slice n s.pen.length m,.slice z ys.length A] 26);have cq:=fB k1;generalize w3.alloc (.cells #[.string s.lin,.int .i64 s.ser,.slice none 0 0,.slice n s.pen.length m,.slice z ys.length A] 26)=WE at *)
   rw [bd] at k1;obtain ⟨g1,g2,g3⟩:=hrel;rw [bd,a0.out] at g3;go_wp2
   go_meet
   exact ⟨_,n,m,z,A,rfl,hid k1,hid ⟨by first | exact Nat.le_refl _ | exact a.size | omega,a8⟩,hid g1,hid g2,hid g3⟩
 case rest =>
  obtain ⟨bo,n,m,z,A,rfl,bb,C,bq,a7,cl⟩:=hcut;have ar:=hid (G.out.trans (C.out.2.mono G.out.size));have ao:=fB bb.out;have p2:wc.cell? ⟨w.heap.size,2,none⟩=some (.slice Y s.ins.length ci):=ae ((C.out.2.block w.heap.size bE).trans bc.out) 2 rfl;have HD:=hid (ae ((C.out.2.block (w.heap.size+1) (by have:=P.out;omega)).trans a3.out) 0 rfl);have cJ:w.heap.size≠bo:=by have:=C.out.1;omega
  have bB:w.heap.size+1≠bo:=by have:=C.out.1;have:=P.out;omega
  have bx:=hid (show w.heap.size+1 < wc.heap.size by have:=C.out.2.size;have:=P.out;omega);clear q0 q1 q3 q4 bc a1 be;go_wp2_with fail
  go_loopg [20] s.ins.length (fun gg ca wr=>∃ (k:Nat) (is:List jW) (r:Option Addr) (c:Nat),k<=s.ins.length/\s.ins.length - k<=gg/\ca=.int .i64 k/\Hid (eF ja Gu 13 41 wc.heap.size wr (.slice r is.length c) is)/\Hid (is.map (·.x)=s.ins.take k)/\Hid (wr.heap[bo]?=some (.cells #[.string s.lin,.int .i64 s.ser,.slice r is.length c,.slice n s.pen.length m,.slice z s.out.length A] 26))/\Hid (∀ b,b < wc.heap.size->b≠bo->wr.heap[b]?=wc.heap[b]?)/\Hid (wc.heap.size<=wr.heap.size)/\Hid (Below w.heap.size w wr))
  case atStart=>exact ⟨0,[],none,0,by omega,by omega,rfl,hid ⟨⟨by rfl,Or.inl ⟨rfl,rfl⟩⟩,fun y hy=>by cases hy⟩,hid rfl,bb,hid (fun _ _ _=>rfl),hid (Nat.le_refl _),ar⟩
  case round =>
   obtain ⟨k,is,r,c,hk,cE,rfl,HR,HM,M,HK,HS,HB⟩:=hrel
   by_cases aD:k < s.ins.length
   . have cN:(k:Int) < (s.ins.length:Int):=by omega
     have cI:(0:Int)<=(k:Int):=by omega
     obtain ⟨b,cG,pt,rfl,cL,al,hP⟩:=bh.out wr HB.out k aD;have hX:=dD s.ins[k] pt;obtain ⟨l1,l2⟩:=gU hX al;have E:Below wr.heap.size wr (wr.alloc (.cells (aH s.ins[k] pt) 41)):=(Below.refl _ _).alloc (Nat.le_refl _) _;have bg:=hid (fun (W:World) (B:Below wr.heap.size wr W)=>rE s.ins[k] pt W (dh B hP) (ct.out _ (List.getElem_mem aD)));have bj:=(MapKept.heap_alloc wr (.cells (aH s.ins[k] pt) 41)).1;have bv:(wr.alloc (.cells (aH s.ins[k] pt) 41)).heap.size=wr.heap.size+1:=by simp
     obtain ⟨l3,l4⟩:=dU bj hX;have H:=fB M.out;have a4:=ae ((E.block bo H).trans M.out) 2 rfl;have b6:=ak ((E.block bo H).trans M.out) 2;have HT:=hid (List.take_succ_eq_append_getElem aD);clear al hP;generalize bw:aH s.ins[k] pt=X at *;have b5:=aT;go_wp2
     generalize cc:wr.alloc (.cells X 41)=Wa at *;have ce:=hid (fun (W:World) (B:Below Wa.heap.size Wa W)=>bg.out W (E.trans (B.mono (by omega))));have ab:=hid E;have ch:=hid (fun (W:World) (B:Below Wa.heap.size Wa W)=>show eG W wr.heap.size 0/\ik W wr.heap.size 0=X from ⟨(l3.below B).1,(l3.below B).2.trans l4⟩);have bO:=hid ((E.block bo H).trans M.out);have cn:=hid (HR.out.below aT E);have bS:=hid (show is.length+1<=2000000 by have:=congrArg List.length HM.out;simp at this;omega);have bf:=hid bv;have cb:=hid H;have k1:=fun d os=>cell_regrown a4 d os;rw [show aH s.ins[k] pt=X from bw] at *;clear hX l1 l2 l3 l4 bj bv E a4 b6 bg bh H cc bw b5;generalize s.ins[k]=x at *;refine Stp.rH (fun qq=>match qq with | 2=>some (bT (.agg X)) | 3=>some (yS Wa.heap.size x) | 4=>some (DZ Wa.heap.size x) | _=>none) (by kernel_rfl) (by kernel_rfl) (by kernel_rfl) ?_
     iterate 2 (refine wq ?_;intro K T;go_big_quiet_op;go_big_quiet_on)
     refine aC (bT (.agg X)) (by kernel_rfl) rfl ⟨_,rfl⟩ aQ (fun w4 D Q=>?_) ?_
     . have I:=ai D
       obtain ⟨l1,l2⟩:=ch.out w4 I;clear D Q I;go_simp
       exact ⟨kW.refl _,rfl,trivial⟩
     rintro _ rfl
     (refine ay ?_;intro K T;go_simp;refine T _ ?_;clear T K)
     refine aC (yS Wa.heap.size x) (by kernel_rfl) rfl ⟨_,⟨none,0,none,0,none,0⟩,rfl⟩ (zD _ _) (fun w4 D Q=>?_) ?_
     . have I:=ai D
       have hh:=ce.out w4 I;have cD:=I.size;clear D Q;go_simp
       go_at_call 50;refine Calls.mono hh ?_;rintro e w5 ⟨p5,rfl,bN,cg⟩;exact ⟨_,rfl,cg,⟨p5,rfl⟩,p5,rfl,aT _ _ ⟨x,p5⟩ (iL fun b S=>by simp only [bZ,decide_eq_true_eq] at S ⊢;omega) bN⟩
     rintro _ ⟨p5,rfl⟩
     (refine ay ?_;intro K T;go_simp;refine T _ ?_;clear T K)
     refine aC (DZ Wa.heap.size x) (by kernel_rfl) rfl ⟨_,0,rfl⟩ (Eg _ _) (fun w4 D Q=>?_) ?_
     . have I:=ai D
       obtain ⟨p6,e6,h6⟩:=Q 3 (qj.one (e:=⟨3,.data⟩) rfl (by simp) rfl rfl);clear D Q;obtain rfl:=xC e6;unfold aH;go_simp
       exact ⟨(Below.refl _ _).alloc (Nat.le_refl _) _,⟨_,rfl⟩,_,_,rfl,I.size,(MapKept.heap_alloc _ _).1,aT _ _ ⟨x,p5⟩ (jZ ((Below.refl _ _).alloc (Nat.le_refl _) _)) h6⟩
     rintro _ ⟨nb,rfl⟩
     (refine ay ?_;intro K T;go_simp;refine T _ ?_;clear T K)
     refine aS ?_;intro w6 bl bt;have am:=ai bl;have cj:=bt 4;clear bl bt;obtain ⟨cH,p6,e6,_,bA,bm⟩:=cj;simp at e6;subst e6;have aq:=hid am;have b0:=hid bA;have cw:=hid bm;have bk:=hid (cn.out.below aT am);have Z:=hid (show wc.heap.size<=w6.heap.size by have:=HS.out;have:=bf.out;have:=am.size;omega);clear am bA bm;simp only [Stp.qB];refine Stp.GR rfl (kK (ops:=#[]) (F:=True) ja iE qh Tryz.underlying22 xA rfl (by omega) (by omega) rfl _ _ rfl wc.heap.size (.slice r is.length c) is rfl bk.out.own nb 1 ⟨x,p6⟩ rfl (fr:=(0,0)) b0.out bS.out Z.out w6.heap.size rfl ?_);intro g t w7 m1 m2 m3 m4;have ap:∀ q,(Value.slice r is.length c).ownBlock=some q->wc.heap.size<=q:=fun q u=>(cZ bk.out.own u).1;have aR:∀ q,q < wc.heap.size->w7.heap[q]?=w6.heap[q]?:=fun q u=>m2.block q (by have:=Z.out;omega) (fun e=>by have:=ap q e.symm;omega);have U:=(aR bo ao).trans ((aq.out.block bo (by have:=cb.out;have:=bf.out;omega)).trans bO.out)
     have bL:wc.heap.size<=g:=by rcases m3 with h | h
                                 . exact ap g h
                                 . have:=Z.out;omega
     have cP:w6.heap.size<=w7.heap.size:=m2.size;have R7:=eF.push (x:=(⟨x,p6⟩:jW)) aT HR.out HS.out ab.out aq.out cw.out (Below.refl _ _) m1 m2 m3;have B7:=((HB.out.trans (ab.out.mono HB.out.size)).trans (aq.out.mono (by have:=HB.out.size;have:=ab.out.size;omega))).grown m2 (by have:=Z.out;have:=ar.out.size;omega) (fun q u=>by have:=ap q u;have:=ar.out.size;omega);have c7:=ae U 2 rfl;have f7:=ak U 2
     have av:(w7.setCells bo 2 [.slice (some ⟨g,0,none⟩) (is.length+1) t]).heap[bo]?=some (.cells #[.string s.lin,.int .i64 s.ser,.slice (some ⟨g,0,none⟩) (is.length+1) t,.slice n s.pen.length m,.slice z s.out.length A] 26):=by
      have:=fC [.slice (some ⟨g,0,none⟩) (is.length+1) t] 26 w7 bo 2 _ U (by simp);simpa using this
     have aL:∀ q,q≠bo->(w7.setCells bo 2 [.slice (some ⟨g,0,none⟩) (is.length+1) t]).heap[q]?=w7.heap[q]?:=fun q u=>bF _ _ _ _ u;have bR:=setCells_size [.slice (some ⟨g,0,none⟩) (is.length+1) t] w7 bo 2;have B8:=dn [.slice (some ⟨g,0,none⟩) (is.length+1) t] w7 bo 2 B7 (by have:=C.out.1;have:=G.out.size;omega);have R8:=R7.to aT (w':=w7.setCells bo 2 [.slice (some ⟨g,0,none⟩) (is.length+1) t]) (fun q u _=>aL q (by omega))
     have K8:=hid (show ∀ q,q < wc.heap.size->q≠bo->(w7.setCells bo 2 [.slice (some ⟨g,0,none⟩) (is.length+1) t]).heap[q]?=wc.heap[q]? from fun q u hn=>by
      have h1:=HS.out;have h2:=ab.out.size;rw [aL q hn,aR q u,aq.out.block q (by omega),ab.out.block q (by omega)];exact HK.out q u hn)
     have M8:=hid (show (is ++ [(⟨x,p6⟩:jW)]).map (·.x)=s.ins.take (k+1) by rw [HT.out,List.map_append,HM.out];rfl);have S8:=hid (show wc.heap.size<=(w7.setCells bo 2 [.slice (some ⟨g,0,none⟩) (is.length+1) t]).heap.size by have:=Z.out;omega);have aa:w7.setCells bo 2 [.slice (some ⟨g,0,none⟩) (is.length+1) t]=w7.setCell ⟨bo,2,none⟩ (.slice (some ⟨g,0,none⟩) (is.length+1) t):=rfl;rw [aa] at *;have b7:=hid R8;have bX:=hid B8;have cv:=hid av;clear R7 R8 B7 B8 U av aR aL bL aa m1 m2 m3 m4 ap bR;go_simp
     go_wp2_with fail
     go_roundg (s.ins.length - (k+1))
     case measure=>omega
     case rel=>exact ⟨k+1,is ++ [⟨x,p6⟩],some ⟨g,0,none⟩,t,by omega,by omega,by go_num,hid (by rw [List.length_append];exact b7.out),M8,hid (by rw [List.length_append];exact cv.out),K8,S8,bX⟩
   . obtain rfl:k=s.ins.length:=by omega
     have l:=(HK.out _ bx.out bB).trans ((C.out.2.block (w.heap.size+1) (by have:=P.out;omega)).trans a3.out);have y0:=ae l 0 rfl;have y1:=ae l 1 rfl;have y2:=ae l 2 rfl;have y3:=ae l 3 rfl;have y4:=ae l 4 rfl;have cm:=ak l 0;have cf:=ak l 1;have cs:=ak l 2;have b4:=ak l 3;have b3:=ak l 4;have t0:=ae M.out 0 rfl;have t1:=ae M.out 1 rfl;have t2:=ae M.out 2 rfl;have t3:=ae M.out 3 rfl;have t4:=ae M.out 4 rfl;obtain ⟨WE,V,k1,k2,k3,k4⟩:=fE l (.string s.lin) (.int .i64 s.ser) (.slice r is.length c) (.slice n s.pen.length m) (.slice z s.out.length A);have cB:=hid l;go_wp2_with fail
     rw [<-V];have hm:is.map (·.x)=s.ins:=by rw [HM.out,List.take_length]
     have ck:is.length=s.ins.length:=by rw [<-hm,List.length_map]
     have g0:=ae k1 0 rfl;have g1:=ae k1 1 rfl;have g2:=ae k1 2 rfl;have g3:=ae k1 3 rfl;have g4:=ae k1 4 rfl;have af:=P.out;have a2:=HS.out;have a5:=ar.out.size;have cr:=bx.out
     have B:=hid (show eX w.heap.size wc.heap.size WE s ⟨r,c,n,m,z,A⟩ is from by
      have bp:gB (mask (fun b=>(Qp wc.heap.size (.slice n s.pen.length m) b && decide (b≠bo)) && decide (j.heap.size<=b)) wc) (mask (I7 w.heap.size wc.heap.size (.slice n s.pen.length m)) WE):=bC fun b S hl=>by
       rw [Bool.and_eq_true,Bool.and_eq_true,decide_eq_true_eq,decide_eq_true_eq] at S;exact ⟨Rf (wz S.1.1).1 (wz S.1.1).2 (by omega),by rw [k2 b (by omega),HK.out b hl S.1.2]⟩
      refine ⟨HR.out.to aT (fun q u _=>k2 q (by omega)),hm,own_base (fD bq.out fun q u=>?_) (by omega),fun q u=>(a7.out q u).2,b1.out,gK bp (fun _ _=>ji bp) cl.out,b2.out,b9.out,a5,by rw [k3];exact a2⟩;have h1:=a7.out q u;have h2:=cZ bq.out u;rw [k2 q (by omega),HK.out q h1.2 h1.1])
     have cd:=hid (k4 _ _ HB.out (by omega));rw [ck] at g2;clear V k1 k2 k3 k4 HR HM M HK HS HB af a2 a5 cr hm;exact bodyPost_ret (v:=.agg (bK s ⟨r,c,n,m,z,A⟩)) (by simp [results,Tryz.results54,go_sem,bK,g0,g1,g2,g3,g4]) rfl ⟨⟨r,c,n,m,z,A⟩,is,wc.heap.size,rfl,B.out,cd.out⟩
end Go.Proofs.YtomhbcfjhgecbaaGreatDoor
