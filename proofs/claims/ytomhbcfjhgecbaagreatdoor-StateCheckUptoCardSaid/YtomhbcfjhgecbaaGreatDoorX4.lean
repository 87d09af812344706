import Derived.Test.YtomhbcfjhgecbaaGreatDoorX1
import Derived.Test.YtomhbcfjhgecbaaGreatDoorX3
import Derived.Deep.MidRow
import Derived.Shelf.Small.Strs
import Derived.Deep.RegionHeld3
import Derived.Deep.DrawnRows
import Derived.Deep.DeepCutAuto
set_option linter.unusedVariables false
set_option linter.unusedSimpArgs false
namespace Go.Proofs.YtomhbcfjhgecbaaGreatDoor
open Go.RowKit Go.Sort Go.Lib
open Go.Lib (hid)
structure Ins where
 ad:ByteArray
 de:ByteArray
 id:ByteArray
 ty:ByteArray
 at_:Val
 ver:Int
 ta:Bool
 cf:Bool
 dp:List ByteArray
structure Pt where
 r:Option Addr
 c:Nat
 rk:Option Addr
 ck:Nat
 dr:Option Addr
 dc:Nat
def insA (x:Ins) (p:Pt):Array Value:=#[.string x.ad,.string x.de,.string x.id,.string x.ty,.int .i64 x.at_.kind,.int .i64 x.at_.num,.string x.at_.str,.slice p.r x.at_.items.length p.c,.slice p.rk x.at_.keys.length p.ck,.int .i64 x.ver,.bool x.ta,.bool x.cf,.slice p.dr x.dp.length p.dc]
def InsP (w:World) (x:Ins) (p:Pt):Prop:=VR5 w p.r p.c p.rk p.ck x.at_/\Sl StrR 1 w (.slice p.dr x.dp.length p.dc) x.dp/\i64B x.ver/\(x.ad.size<=maxLen/\x.de.size<=maxLen/\x.id.size<=maxLen/\x.ty.size<=maxLen)
def InR (w:World) (cs:List Value) (x:Ins):Prop:=∃ p:Pt,cs=(insA x p).toList/\InsP w x p
theorem insP_below {w w':World} {x:Ins} {p:Pt} (hb:Below w.heap.size w w') (h:InsP w x p):InsP w' x p:=⟨h.1.below hb,h.2.1.below strR_mono hb,h.2.2⟩
theorem inR_mono:Mono InR:=fun _ _ _ _ hb ⟨p,h1,h2⟩=>⟨p,h1,insP_below hb h2⟩
def LiesI (W:World) (b o:Nat):Prop:=∀ j,j < 13->(W.cell? ⟨b,o+j,none⟩).isSome=true
def rd13 (W:World) (b o:Nat):Array Value:=((List.range 13).map fun j=>(W.cell? ⟨b,o+j,none⟩).getD undef).toArray
theorem ld13 (W:World) (b o:Nat) (h:LiesI W b o):(loadVar 41 ⟨b,o,none⟩).run Tryz.prog W=.ok (.agg (rd13 W b o)) W:=by
 refine run_loadVar_mid W b o _ ((List.range 13).map fun j=>(W.cell? ⟨b,o+j,none⟩).getD undef) _ (fun j v hv=>?_) Tryz.underlying41 rfl (by rw [List.length_map,List.length_range];kernel_rfl);rw [List.getElem?_map] at hv
 by_cases hj:j < 13
 . rw [List.getElem?_range hj] at hv
   have h1:=h j hj;cases hc:W.cell? ⟨b,o+j,none⟩ with
   | none=>rw [hc] at h1;cases h1
   | some u =>
     simp [hc] at hv;rw [hv]
 . rw [List.getElem?_eq_none (by rw [List.length_range];omega)] at hv
   cases hv
def ldI (a:Addr):Sem Value:=loadVar 41 a
theorem ldI_eq (a:Addr):loadVar 41 a=ldI a:=rfl
theorem ldI_run (W:World) (b o:Nat) (h:LiesI W b o):(ldI ⟨b,o,none⟩).run Tryz.prog W=.ok (.agg (rd13 W b o)) W:=ld13 W b o h
def ThereI (W:World) (b o:Nat):Prop:=W.there b o 13
def stI (a:Addr) (v:Value):Sem Unit:=storeVar 41 a v
theorem stI_eq (a:Addr) (v:Value):storeVar 41 a v=stI a v:=rfl
def put13 (W:World) (b o:Nat) (X:Array Value):World:=W.setCells b o X.toList
def Cells13 (X:Array Value):Prop:=X.size=13/\X.all (·.oneCell')=true
theorem stI_run (W:World) (b o:Nat) (X:Array Value) (h:ThereI W b o) (hX:Cells13 X):(stI ⟨b,o,none⟩ (.agg X)).run Tryz.prog W=.ok () (put13 W b o X):=
 run_storeVar_mid W b o _ X (by rw [hX.1];exact h) (by rw [hX.1];kernel_rfl) hX.2
theorem thereI_drew (W:World) (b o:Nat):ThereI W.drew b o=ThereI W b o:=by
 unfold ThereI;exact propext (World.there_drew W b o 13)
theorem thereI_new (W:World) (Z:Array Value) (T:TypeId) (b:Nat) (hb:b=W.heap.size) (hZ:Z.size=13):ThereI (W.alloc (.cells Z T)) b 0=True:=by
 subst hb;refine eq_true fun j hj=>⟨?_,?_⟩
 . unfold World.cell?
   simp only [heap_alloc_new,Nat.zero_add];simp [hZ,hj]
 . unfold World.frozen?
   simp only [heap_alloc_new];simp
theorem put13_drew (W:World) (b o:Nat) (X:Array Value):put13 W.drew b o X=(put13 W b o X).drew:=by
 unfold put13;generalize X.toList=l
 induction l generalizing W o with
 | nil=>rfl
 | cons v l ih =>
   show (W.drew.setCell ⟨b,o,none⟩ v).setCells b (o+1) l=((W.setCell ⟨b,o,none⟩ v).setCells b (o+1) l).drew;rw [<-ih];rfl
theorem splice_setI {α:Type} (Z:List α) (o:Nat) (v:α) (l:List α) (h:o < Z.length):(Z.set o v).take (o+1) ++ l ++ (Z.set o v).drop (o+1+l.length)=Z.take o ++ v :: l ++ Z.drop (o+(l.length+1)):=by
 have h1:(Z.set o v).take (o+1)=Z.take o ++ [v]:=by
  rw [List.take_succ_eq_append_getElem (by rw [List.length_set];exact h),List.getElem_set_self,List.take_set,List.set_eq_of_length_le (by rw [List.length_take];omega)]
 have h2:(Z.set o v).drop (o+1+l.length)=Z.drop (o+(l.length+1)):=by
  rw [List.drop_set_of_lt (by omega),show o+1+l.length=o+(l.length+1) by omega]
 rw [h1,h2];simp
theorem setCells_newI (W:World) (T:TypeId):∀ (l:List Value) (Z:Array Value) (o:Nat),o+l.length<=Z.size->(W.alloc (.cells Z T)).setCells W.heap.size o l=W.alloc (.cells (Z.toList.take o ++ l ++ Z.toList.drop (o+l.length)).toArray T)
 | [],Z,o,h=>by
   show W.alloc (.cells Z T)=_;rw [List.append_nil,List.length_nil,Nat.add_zero,List.take_append_drop]
 | v :: l,Z,o,h=>by
   show ((W.alloc (.cells Z T)).setCell ⟨W.heap.size,o,none⟩ v).setCells W.heap.size (o+1) l=_;rw [List.length_cons] at h;rw [World.setCell_alloc_new,setCells_newI W T l _ (o+1) (by simp;omega)];rw [Array.toList_setIfInBounds,splice_setI Z.toList o v l (by rw [Array.length_toList];omega),List.length_cons]
theorem put13_new (W:World) (Z X:Array Value) (T:TypeId) (b:Nat) (hb:b=W.heap.size) (hZ:Z.size=13) (hX:Cells13 X):put13 (W.alloc (.cells Z T)) b 0 X=W.alloc (.cells X T):=by
 subst hb;unfold put13;rw [setCells_newI W T _ Z 0 (by rw [Array.length_toList,hX.1,hZ];decide)]
 congr 2
 rw [Array.length_toList,hX.1,List.take_zero,List.nil_append,List.drop_of_length_le (by rw [Array.length_toList,hZ];decide),List.append_nil]
theorem liesI_new (W:World) (X:Array Value) (T:TypeId) (b:Nat) (hb:b=W.heap.size) (hX:Cells13 X):LiesI (W.alloc (.cells X T)) b 0=True:=by
 have:=thereI_new W X T b hb hX.1;exact eq_true fun j hj=>((of_eq_true this) j hj).1
theorem rd13_new (W:World) (X:Array Value) (T:TypeId) (b:Nat) (hb:b=W.heap.size) (hX:Cells13 X):rd13 (W.alloc (.cells X T)) b 0=X:=by
 subst hb;unfold rd13;apply Array.ext
 . simp [hX.1]
 . intro j h1 h2
   have hc:∀ j,(W.alloc (.cells X T)).cell? ⟨W.heap.size,j,none⟩=X[j]?:=fun j=>by
    unfold World.cell?;simp only [heap_alloc_new];rfl
   simp [hc,h2]
theorem liesI_drew (W:World) (b o:Nat):LiesI W.drew b o ↔ LiesI W b o:=Iff.rfl
theorem rd13_drew (W:World) (b o:Nat):rd13 W.drew b o=rd13 W b o:=rfl
theorem LiesI.below {W W':World} {b o:Nat} (hb:Below W.heap.size W W') (h:LiesI W b o):LiesI W' b o/\rd13 W' b o=rd13 W b o:=by
 have hq:∀ j,j < 13->W'.cell? ⟨b,o+j,none⟩=W.cell? ⟨b,o+j,none⟩:=fun j hj=>by
  have:=h j hj;cases hc:W.cell? ⟨b,o+j,none⟩ with
  | none=>rw [hc] at this;cases this
  | some u=>exact bget hb hc
 refine ⟨fun j hj=>by rw [hq j hj];exact h j hj,?_⟩;unfold rd13
 congr 1
 apply List.map_congr_left;intro j hj;rw [hq j (List.mem_range.1 hj)]
theorem liesI_of {w:World} {b o:Nat} {X:Array Value} (hX:Cells13 X) (h:∀ (j:Nat) (u:Value),X.toList[j]?=some u->w.cell? ⟨b,o+j,none⟩=some u):LiesI w b o/\rd13 w b o=X:=by
 have hq:∀ j (hj:j < X.size),w.cell? ⟨b,o+j,none⟩=some X[j]:=fun j hj=>h j _ (by rw [Array.getElem?_toList];exact Array.getElem?_eq_getElem hj);refine ⟨fun j hj=>by rw [hq j (by rw [hX.1];exact hj)];rfl,?_⟩;unfold rd13;apply Array.ext
 . simp [hX.1]
 . intro j h1 h2
   simp [hq j h2]
theorem cellsI (x:Ins) (p:Pt):Cells13 (insA x p):=⟨rfl,by simp [insA,Value.oneCell']⟩
theorem in_at {w:World} {r:Option Addr} {n c:Nat} {xs:List Ins} (h:Sl InR 13 w (.slice r n c) xs) (i:Nat) (hi:i < xs.length) :
  ∃ b off p,r=some ⟨b,off,none⟩/\b < w.heap.size/\(∀ (j:Nat) (u:Value),(insA xs[i] p).toList[j]?=some u->w.cell? ⟨b,off+i * 13+j,none⟩=some u)/\InsP w xs[i] p:=by
 obtain ⟨r',c',e,h1,h2,he⟩:=h;simp at e;obtain ⟨rfl,rfl,rfl⟩:=e;obtain ⟨b,off,cs,hr,hs,hc,p,hv,hn⟩:=he i hi;subst hv;have g0:=hc 0 _ rfl;exact ⟨b,off,p,hr,World.block_lt_of_cell? w _ g0,hc,hn⟩
end Go.Proofs.YtomhbcfjhgecbaaGreatDoor
namespace Go.Proofs.YtomhbcfjhgecbaaGreatDoor
def numC (a b:Int):Int:=if a < b then -1 else if b < a then 1 else 0
def cmpS (a b:ByteArray):Int:=if a.data.toList < b.data.toList then -1 else if b.data.toList < a.data.toList then 1 else 0
def lex (x y:Int):Int:=if x=0 then y else x
mutual
def cmpV:Val->Val->Int
 | .mk k n s is ks,.mk k' n' s' is' ks'=>lex (numC k k') (lex (numC n n') (lex (cmpS s s') (cmpL is ks is' ks')))
def cmpL:List Val->List ByteArray->List Val->List ByteArray->Int
 | [],_,[],_=>0
 | [],_,_ :: _,_=>-1
 | _ :: _,_,[],_=>1
 | x :: xs,k :: ks,y :: ys,k' :: ks'=>lex (cmpS k k') (lex (cmpV x y) (cmpL xs ks ys ks'))
 | x :: xs,[],y :: ys,ks'=>lex (cmpV x y) (cmpL xs [] ys ks'.tail)
 | x :: xs,_ :: ks,y :: ys,[]=>lex (cmpV x y) (cmpL xs ks ys [])
end
def Tri (x:Int):Prop:=x = -1 ∨ x=0 ∨ x=1
theorem numC_tri (a b:Int):Tri (numC a b):=by unfold numC Tri;split <;> (try split) <;> simp
theorem cmpS_tri (a b:ByteArray):Tri (cmpS a b):=by unfold cmpS Tri;split <;> (try split) <;> simp
theorem lex_tri {x y:Int} (hx:Tri x) (hy:Tri y):Tri (lex x y):=by unfold lex;split <;> assumption
theorem numC_anti (a b:Int):numC b a = -numC a b:=by unfold numC;split <;> split <;> omega
theorem lt_asymmL {a b:List UInt8} (h:a < b):¬ b < a:=List.lt_asymm h
theorem cmpS_anti (a b:ByteArray):cmpS b a = -cmpS a b:=by
 unfold cmpS
 by_cases h1:a.data.toList < b.data.toList
 . have h2:=lt_asymmL h1
   simp [h1,h2]
 . by_cases h2:b.data.toList < a.data.toList
   . simp [h1,h2]
   . simp [h1,h2]
theorem lex_anti {x y x' y':Int} (hx:x' = -x) (hy:y' = -y):lex x' y' = -lex x y:=by
 unfold lex;subst hx hy;split <;> split <;> omega
theorem numC_zero {a b:Int} : numC a b=0 ↔ a=b:=by unfold numC;split <;> (try split) <;> omega
theorem cmpS_self (a:ByteArray):cmpS a a=0:=by unfold cmpS;have:=List.lt_irrefl a.data.toList;simp [this]
theorem ba_ext {a b:ByteArray} (h:a.data.toList=b.data.toList):a=b:=by
 cases a;cases b;simp at h;subst h;rfl
theorem cmpS_zero {a b:ByteArray} : cmpS a b=0 ↔ a=b:=by
 constructor
 . intro h
   unfold cmpS at h;split at h
   . omega
   . split at h
     . omega
     . rename_i h1 h2
       exact ba_ext (List.le_antisymm (List.not_lt.1 h2) (List.not_lt.1 h1))
 . rintro rfl;exact cmpS_self a
def Fit (x y z:Int):Prop:=(x<=0->y<=0->z<=0/\(x < 0 ∨ y < 0->z = -1))/\(x=0->y=0->z=0)
theorem numC_fit (a b c:Int):Fit (numC a b) (numC b c) (numC a c):=by
 unfold Fit numC
 repeat' split
 all_goals omega
theorem cmpS_fit (a b c:ByteArray):Fit (cmpS a b) (cmpS b c) (cmpS a c):=by
 have key:cmpS a b<=0->cmpS b c<=0->cmpS a c<=0/\(cmpS a b < 0 ∨ cmpS b c < 0->cmpS a c = -1):=by
  intro h1 h2
  by_cases e1:cmpS a b=0
  . obtain rfl:=cmpS_zero.1 e1
    rcases cmpS_tri a c with h | h | h <;> omega
  . by_cases e2:cmpS b c=0
    . obtain rfl:=cmpS_zero.1 e2
      rcases cmpS_tri a b with h | h | h <;> omega
    . have l1:a.data.toList < b.data.toList:=by
       apply Decidable.byContradiction;intro h;unfold cmpS at h1 e1;rw [if_neg h] at h1 e1;split at h1 <;> simp_all
      have l2:b.data.toList < c.data.toList:=by
       apply Decidable.byContradiction;intro h;unfold cmpS at h2 e2;rw [if_neg h] at h2 e2;split at h2 <;> simp_all
      have l3:a.data.toList < c.data.toList:=List.lt_trans l1 l2;have:cmpS a c = -1:=by unfold cmpS;rw [if_pos l3]
      omega
 refine ⟨key,fun h1 h2=>?_⟩;obtain rfl:=cmpS_zero.1 h1;exact h2
theorem lex_fit {x y z x' y' z':Int} (hx:Tri x) (hy:Tri y) (hz:Tri z) (h:Fit x y z) (h':Fit x' y' z') (hx':Tri x') (hy':Tri y') (hz':Tri z'):Fit (lex x x') (lex y y') (lex z z'):=by
 unfold Fit lex at *;unfold Tri at *;obtain ⟨h1,h2⟩:=h;obtain ⟨h3,h4⟩:=h';refine ⟨?_,?_⟩
 . intro a b
   by_cases e1:x=0
   . by_cases e2:y=0
     . have e3:=h2 e1 e2
       rw [if_pos e1] at a;rw [if_pos e2] at b;rw [if_pos e1,if_pos e2,if_pos e3];exact h3 a b
     . rw [if_pos e1] at a;rw [if_neg e2] at b;rw [if_pos e1,if_neg e2]
       have:=h1 (by omega) b;have h5:z = -1:=this.2 (by omega);rw [if_neg (by omega)];exact ⟨by omega,fun _=>h5⟩
   . rw [if_neg e1] at a;rw [if_neg e1]
     by_cases e2:y=0
     . rw [if_pos e2] at b;rw [if_pos e2]
       have:=h1 a (by omega);have h5:z = -1:=this.2 (by omega);rw [if_neg (by omega)];exact ⟨by omega,fun _=>h5⟩
     . rw [if_neg e2] at b;rw [if_neg e2]
       have:=h1 a b;have h5:z = -1:=this.2 (by omega);rw [if_neg (by omega)];exact ⟨by omega,fun _=>h5⟩
 . intro a b
   by_cases e1:x=0
   . by_cases e2:y=0
     . have e3:=h2 e1 e2
       rw [if_pos e1] at a;rw [if_pos e2] at b;rw [if_pos e3];exact h4 a b
     . rw [if_neg e2] at b;omega
   . rw [if_neg e1] at a;omega
theorem cmpV_eq (a b:Val):cmpV a b=lex (numC a.kind b.kind) (lex (numC a.num b.num) (lex (cmpS a.str b.str) (cmpL a.items a.keys b.items b.keys))):=by
 cases a;cases b;rw [cmpV];rfl
inductive Shp:Val->Prop where
 | mk (x:Val) (h1:x.kind=5->x.keys.length=x.items.length) (h2:x.kind≠5->x.keys=[]) (h3:∀ y∈x.items,Shp y):Shp x
theorem Shp.items {x y:Val} (h:Shp x) (hy:y∈x.items):Shp y:=by cases h;rename_i h1 h2 h3;exact h3 y hy
def KFit (m:Bool) (xs:List Val) (ks:List ByteArray):Prop:=if m then ks.length=xs.length else ks=[]
theorem Shp.kfit {x:Val} (h:Shp x):KFit (x.kind == 5) x.items x.keys:=by
 cases h;rename_i h1 h2 h3;unfold KFit
 by_cases hk:x.kind=5
 . rw [if_pos (by simpa using hk)];exact h1 hk
 . rw [if_neg (by simpa using hk)];exact h2 hk
theorem cmpV_tri (a:Val):∀ b,Tri (cmpV a b):=by
 refine Val.ind (P:=fun a=>∀ b,Tri (cmpV a b)) ?_ a;intro a ih b;rw [cmpV_eq]
 have key:∀ (xs:List Val),(∀ y∈xs,∀ b,Tri (cmpV y b))->∀ ks ys ks',Tri (cmpL xs ks ys ks'):=by
  intro xs
  induction xs with
  | nil=>intro _ ks ys ks';cases ys <;> simp [cmpL,Tri]
  | cons x xs ihx =>
    intro h ks ys ks';have hx:=h x List.mem_cons_self;have ihx:=ihx fun y hy=>h y (List.mem_cons_of_mem _ hy);cases ys with
    | nil=>simp [cmpL,Tri]
    | cons y ys =>
      cases ks with
      | nil=>rw [cmpL];exact lex_tri (hx y) (ihx _ _ _)
      | cons k ks =>
        cases ks' with
        | nil=>rw [cmpL];exact lex_tri (hx y) (ihx _ _ _)
        | cons k' ks'=>rw [cmpL];exact lex_tri (cmpS_tri _ _) (lex_tri (hx y) (ihx _ _ _))
 exact lex_tri (numC_tri _ _) (lex_tri (numC_tri _ _) (lex_tri (cmpS_tri _ _) (key _ ih _ _ _)))
theorem cmpL_tri (xs:List Val) (ks:List ByteArray) (ys:List Val) (ks':List ByteArray):Tri (cmpL xs ks ys ks'):=by
 have:=cmpV_tri (.mk 0 0 ⟨#[]⟩ xs ks) (.mk 0 0 ⟨#[]⟩ ys ks');rw [cmpV_eq] at this;simpa [Val.kind,Val.num,Val.str,Val.items,Val.keys,numC,cmpS_self,lex] using this
theorem cmpV_anti (a:Val):∀ b,cmpV b a = -cmpV a b:=by
 refine Val.ind (P:=fun a=>∀ b,cmpV b a = -cmpV a b) ?_ a;intro a ih b;rw [cmpV_eq,cmpV_eq]
 have key:∀ (xs:List Val),(∀ y∈xs,∀ b,cmpV b y = -cmpV y b)->∀ ks ys ks',cmpL ys ks' xs ks = -cmpL xs ks ys ks':=by
  intro xs
  induction xs with
  | nil=>intro _ ks ys ks';cases ys <;> simp [cmpL]
  | cons x xs ihx =>
    intro h ks ys ks';have hx:=h x List.mem_cons_self;have ihx:=ihx fun y hy=>h y (List.mem_cons_of_mem _ hy);cases ys with
    | nil=>simp [cmpL]
    | cons y ys =>
      cases ks with
      | nil =>
        cases ks' with
        | nil=>rw [cmpL,cmpL];exact lex_anti (hx y) (ihx _ _ _)
        | cons k' ks'=>rw [cmpL,cmpL];exact lex_anti (hx y) (ihx _ _ _)
      | cons k ks =>
        cases ks' with
        | nil=>rw [cmpL,cmpL];exact lex_anti (hx y) (ihx _ _ _)
        | cons k' ks'=>rw [cmpL,cmpL];exact lex_anti (cmpS_anti _ _) (lex_anti (hx y) (ihx _ _ _))
 exact lex_anti (numC_anti _ _) (lex_anti (numC_anti _ _) (lex_anti (cmpS_anti _ _) (key _ ih _ _ _)))
theorem lex_zero {x y:Int} : lex x y=0 ↔ x=0/\y=0:=by unfold lex;split <;> omega
theorem cmpV_self (a:Val):cmpV a a=0:=by have:=cmpV_anti a a;omega
theorem cmpV_zero (a:Val):∀ b,Shp a->Shp b->cmpV a b=0->a=b:=by
 refine Val.ind (P:=fun a=>∀ b,Shp a->Shp b->cmpV a b=0->a=b) ?_ a;intro a ih b ha hb h;rw [cmpV_eq,lex_zero,lex_zero,lex_zero,numC_zero,numC_zero,cmpS_zero] at h;obtain ⟨e1,e2,e3,e4⟩:=h;have fa:=ha.kfit;have fb:=hb.kfit;rw [<-e1] at fb;have sa:∀ y∈a.items,Shp y:=fun y hy=>ha.items hy;have sb:∀ y∈b.items,Shp y:=fun y hy=>hb.items hy
 have key:∀ (m:Bool) (xs:List Val),(∀ y∈xs,∀ b,Shp y->Shp b->cmpV y b=0->y=b)->∀ ks ys ks',(∀ y∈xs,Shp y)->(∀ y∈ys,Shp y)->KFit m xs ks->KFit m ys ks'->cmpL xs ks ys ks'=0->xs=ys/\ks=ks':=by
  intro m xs
  induction xs with
  | nil =>
    intro _ ks ys ks' _ _ f1 f2 h;cases ys with
    | cons y ys=>simp [cmpL] at h
    | nil =>
      refine ⟨rfl,?_⟩;unfold KFit at f1 f2;cases m <;> simp_all
  | cons x xs ihx =>
    intro hi ks ys ks' s1 s2 f1 f2 h;have hx:=hi x List.mem_cons_self;have ihx:=ihx fun y hy=>hi y (List.mem_cons_of_mem _ hy);cases ys with
    | nil=>simp [cmpL] at h
    | cons y ys =>
      have s1':∀ z∈xs,Shp z:=fun z hz=>s1 z (List.mem_cons_of_mem _ hz);have s2':∀ z∈ys,Shp z:=fun z hz=>s2 z (List.mem_cons_of_mem _ hz);cases m with
      | false =>
        simp only [KFit,Bool.false_eq_true,if_false] at f1 f2;subst f1 f2;rw [cmpL,lex_zero] at h;have h1:=hx y (s1 x List.mem_cons_self) (s2 y List.mem_cons_self) h.1;have h2:=ihx [] ys [] s1' s2' (by simp [KFit]) (by simp [KFit]) h.2;exact ⟨by rw [h1,h2.1],rfl⟩
      | true =>
        simp only [KFit,if_true] at f1 f2;cases ks with
        | nil=>simp at f1
        | cons k ks =>
          cases ks' with
          | nil=>simp at f2
          | cons k' ks' =>
            rw [cmpL,lex_zero,lex_zero,cmpS_zero] at h;have h1:=hx y (s1 x List.mem_cons_self) (s2 y List.mem_cons_self) h.2.1;have h2:=ihx ks ys ks' s1' s2' (by simp [KFit];simpa using f1) (by simp [KFit];simpa using f2) h.2.2;exact ⟨by rw [h1,h2.1],by rw [h.1,h2.2]⟩
 obtain ⟨e5,e6⟩:=key _ a.items ih a.keys b.items b.keys sa sb fa fb e4;cases a;cases b;simp only [Val.kind,Val.num,Val.str,Val.items,Val.keys] at e1 e2 e3 e5 e6;subst e1 e2 e3 e5 e6;rfl
theorem fit_zero {x y z x' y' z':Int} (hx:Tri x) (hy:Tri y) (hz:Tri z) (hx':Tri x') (hy':Tri y') (hz':Tri z') (h:Fit x y z) (h':x=0->y=0->Fit x' y' z'):Fit (lex x x') (lex y y') (lex z z'):=by
 by_cases e:x=0/\y=0
 . exact lex_fit hx hy hz h (h' e.1 e.2) hx' hy' hz'
 . unfold Fit lex at *
   unfold Tri at *;obtain ⟨h1,h2⟩:=h;refine ⟨?_,?_⟩
   . intro a b
     have hxl:x<=0:=by split at a <;> omega
     have hyl:y<=0:=by split at b <;> omega
     have h5:z = -1:=(h1 hxl hyl).2 (by omega);rw [if_neg (by omega:¬ z=0)];exact ⟨by omega,fun _=>h5⟩
   . intro a b
     split at a <;> split at b <;> omega
theorem cmpV_fit (a:Val):∀ b c,Shp a->Shp b->Shp c->Fit (cmpV a b) (cmpV b c) (cmpV a c):=by
 refine Val.ind (P:=fun a=>∀ b c,Shp a->Shp b->Shp c->Fit (cmpV a b) (cmpV b c) (cmpV a c)) ?_ a;intro a ih b c ha hb hc;rw [cmpV_eq a b,cmpV_eq b c,cmpV_eq a c];have t4:=cmpL_tri;have t3:=fun (s s':ByteArray) xs ks ys ks'=>lex_tri (cmpS_tri s s') (t4 xs ks ys ks');have t2:=fun (n n':Int) (s s':ByteArray) xs ks ys ks'=>lex_tri (numC_tri n n') (t3 s s' xs ks ys ks');refine fit_zero (numC_tri _ _) (numC_tri _ _) (numC_tri _ _) (t2 _ _ _ _ _ _ _ _) (t2 _ _ _ _ _ _ _ _) (t2 _ _ _ _ _ _ _ _) (numC_fit _ _ _) ?_;intro k1 k2;rw [numC_zero] at k1 k2;refine lex_fit (numC_tri _ _) (numC_tri _ _) (numC_tri _ _) (numC_fit _ _ _) ?_ (t3 _ _ _ _ _ _) (t3 _ _ _ _ _ _) (t3 _ _ _ _ _ _);refine lex_fit (cmpS_tri _ _) (cmpS_tri _ _) (cmpS_tri _ _) (cmpS_fit _ _ _) ?_ (t4 _ _ _ _) (t4 _ _ _ _) (t4 _ _ _ _);have fa:=ha.kfit;have fb:=hb.kfit;have fc:=hc.kfit;rw [<-k1] at fb;rw [<-k2,<-k1] at fc;have sa:∀ y∈a.items,Shp y:=fun y hy=>ha.items hy;have sb:∀ y∈b.items,Shp y:=fun y hy=>hb.items hy;have sc:∀ y∈c.items,Shp y:=fun y hy=>hc.items hy
 have key:∀ (m:Bool) (xs:List Val),(∀ x∈xs,∀ b c,Shp x->Shp b->Shp c->Fit (cmpV x b) (cmpV b c) (cmpV x c))->∀ ks ys ks' zs ks'',(∀ y∈xs,Shp y)->(∀ y∈ys,Shp y)->(∀ y∈zs,Shp y)->KFit m xs ks->KFit m ys ks'->KFit m zs ks'' ->
   Fit (cmpL xs ks ys ks') (cmpL ys ks' zs ks'') (cmpL xs ks zs ks''):=by
  intro m xs
  induction xs with
  | nil =>
    intro _ ks ys ks' zs ks'' _ _ _ _ _ _;cases ys with
    | nil=>cases zs <;> simp [cmpL,Fit]
    | cons y ys =>
      cases zs with
      | nil=>simp [cmpL,Fit]
      | cons z zs =>
        have:=t4 (y :: ys) ks' (z :: zs) ks'';rw [show cmpL [] ks (y :: ys) ks' = -1 by simp [cmpL],show cmpL [] ks (z :: zs) ks'' = -1 by simp [cmpL]];unfold Fit;omega
  | cons x xs ihx =>
    intro hi ks ys ks' zs ks'' s1 s2 s3 f1 f2 f3;have hx:=hi x List.mem_cons_self;have ihx:=ihx fun y hy=>hi y (List.mem_cons_of_mem _ hy);cases ys with
    | nil =>
      rw [show cmpL (x :: xs) ks [] ks'=1 by simp [cmpL]];unfold Fit;omega
    | cons y ys =>
      cases zs with
      | nil =>
        rw [show cmpL (y :: ys) ks' [] ks''=1 by simp [cmpL]];unfold Fit;omega
      | cons z zs =>
        have s1':∀ u∈xs,Shp u:=fun u hu=>s1 u (List.mem_cons_of_mem _ hu);have s2':∀ u∈ys,Shp u:=fun u hu=>s2 u (List.mem_cons_of_mem _ hu);have s3':∀ u∈zs,Shp u:=fun u hu=>s3 u (List.mem_cons_of_mem _ hu);have hxx:=hx y z (s1 x List.mem_cons_self) (s2 y List.mem_cons_self) (s3 z List.mem_cons_self);cases m with
        | false =>
          simp only [KFit,Bool.false_eq_true,if_false] at f1 f2 f3;subst f1 f2 f3;rw [cmpL,cmpL,cmpL];exact lex_fit (cmpV_tri _ _) (cmpV_tri _ _) (cmpV_tri _ _) hxx (ihx [] ys [] zs [] s1' s2' s3' (by simp [KFit]) (by simp [KFit]) (by simp [KFit])) (t4 _ _ _ _) (t4 _ _ _ _) (t4 _ _ _ _)
        | true =>
          simp only [KFit,if_true] at f1 f2 f3;cases ks with
          | nil=>simp at f1
          | cons k ks =>
            cases ks' with
            | nil=>simp at f2
            | cons k' ks' =>
              cases ks'' with
              | nil=>simp at f3
              | cons k'' ks'' =>
                rw [cmpL,cmpL,cmpL];refine lex_fit (cmpS_tri _ _) (cmpS_tri _ _) (cmpS_tri _ _) (cmpS_fit _ _ _) ?_ (lex_tri (cmpV_tri _ _) (t4 _ _ _ _)) (lex_tri (cmpV_tri _ _) (t4 _ _ _ _)) (lex_tri (cmpV_tri _ _) (t4 _ _ _ _));exact lex_fit (cmpV_tri _ _) (cmpV_tri _ _) (cmpV_tri _ _) hxx (ihx ks ys ks' zs ks'' s1' s2' s3' (by simp [KFit];simpa using f1) (by simp [KFit];simpa using f2) (by simp [KFit];simpa using f3)) (t4 _ _ _ _) (t4 _ _ _ _) (t4 _ _ _ _)
 exact key _ a.items ih a.keys b.items b.keys c.items c.keys sa sb sc fa fb fc
end Go.Proofs.YtomhbcfjhgecbaaGreatDoor
namespace Go.Proofs
open Go.Shelf
def Tryz.lays106_ren:Go.Shelf.Ren:=⟨fun | 106=>82 | 213=>126 | 265=>169 | n=>n,fun | 9=>9 | 3=>3 | n=>n,fun | n=>n⟩
theorem Tryz.lays106:Go.Proofs.Lays.n106 Tryz.prog Tryz.lays106_ren:={
 mixed:=by kernel_rfl
 f106:=Tryz.func82.trans (congrArg some (by kernel_rfl))
 f213:=Tryz.func126.trans (congrArg some (by kernel_rfl))
 f265:=Tryz.func169.trans (congrArg some (by kernel_rfl))
 t3:=Tryz.underlying3
 a3:=Tryz.isAgg3
 z3:=Tryz.sizeOf3
 v3:=Tryz.zeroValue3
 t9:=Tryz.underlying9
 a9:=Tryz.isAgg9
 z9:=Tryz.sizeOf9
 v9:=Tryz.zeroValue9 }
open Go.RowKit in
theorem Tryz.strings_Compare (a b:ByteArray) (w:World) :
 Calls Tryz.prog 82 #[.string a,.string b] w fun e w'=>e=.returned (.int .i64 (Lib.compareBytes a.data.toList b.data.toList))/\w'=w:=Any.strings_Compare Tryz.lays106 a b w
end Go.Proofs
namespace Go.Proofs.YtomhbcfjhgecbaaGreatDoor
open Go.RowKit Go.Sort Go.Lib
open Go.Lib (hid)
theorem cmpB_list:∀ (a b:List UInt8),compareBytes a b=if a < b then -1 else if b < a then 1 else 0
 | [],[]=>by simp [compareBytes]
 | [],_ :: _=>by simp [compareBytes]
 | _ :: _,[]=>by simp [compareBytes]
 | x :: a,y :: b=>by
   rw [compareBytes,cmpB_list a b];simp only [List.cons_lt_cons_iff]
   by_cases h1:x < y
   . rw [if_pos h1,if_pos (.inl h1)]
   . rw [if_neg h1]
     by_cases h2:y < x
     . have hne:x≠y:=fun e=>h1 (by rw [e] at h2 ⊢;exact h2)
       rw [if_pos h2,if_neg (fun h=>h.elim h1 fun h=>hne h.1),if_pos (.inl h2)]
     . rw [if_neg h2]
       have e:x=y:=UInt8.le_antisymm (UInt8.not_lt.1 h2) (UInt8.not_lt.1 h1);subst e
       by_cases h3:a < b
       . rw [if_pos h3,if_pos (.inr ⟨rfl,h3⟩)]
       . have e1:¬ (x < x ∨ x=x/\a < b):=fun h=>h.elim h1 fun h=>h3 h.2
         rw [if_neg h3,if_neg (c:=x < x ∨ x=x/\a < b) e1]
         by_cases h4:b < a
         . rw [if_pos h4,if_pos (.inr ⟨rfl,h4⟩)]
         . rw [if_neg h4,if_neg (fun h=>h.elim h1 fun h=>h4 h.2)]
theorem cmpS_bytes (a b:ByteArray):compareBytes a.data.toList b.data.toList=cmpS a b:=cmpB_list _ _
theorem scmp_any (a b:ByteArray) (w:World):Calls Tryz.prog 82 #[.string a,.string b] w fun e w'=>e=.returned (.int .i64 (cmpS a b))/\w=w':=by
 rw [<-cmpS_bytes];exact (Tryz.strings_Compare a b w).mono fun e w' ⟨h1,h2⟩=>⟨h1,h2.symm⟩
def fstNZ:List Int->Int
 | []=>0
 | x :: xs=>if x≠0 then x else fstNZ xs
theorem fstNZ_stop {xs:List Int} {k:Nat} (h:k < xs.length) (hz:∀ i (hi:i < xs.length),i < k->xs[i]=0) (hx:xs[k]≠0):fstNZ xs=xs[k]:=by
 induction xs generalizing k with
 | nil=>simp at h
 | cons x xs ih =>
   cases k with
   | zero=>rw [fstNZ,if_pos (show x≠0 from hx)];rfl
   | succ k =>
     have h0:x=0:=hz 0 (by simp) (by omega);rw [fstNZ,if_neg (by simpa using h0)];exact ih (by simpa using h) (fun i hi hik=>hz (i+1) (by simpa using hi) (by omega)) hx
theorem fstNZ_zero {xs:List Int} (hz:∀ i (hi:i < xs.length),xs[i]=0):fstNZ xs=0:=by
 induction xs with
 | nil=>rfl
 | cons x xs ih =>
   have h0:x=0:=hz 0 (by simp);rw [fstNZ,if_neg (by simpa using h0)];exact ih fun i hi=>hz (i+1) (by simpa using hi)
theorem int_at {w:World} {r:Option Addr} {n c:Nat} {xs:List Int} (h:Sl IntR 1 w (.slice r n c) xs) (i:Nat) (hi:i < xs.length) :
  ∃ b off,r=some ⟨b,off,none⟩/\b < w.heap.size/\w.cell? ⟨b,off+i,none⟩=some (.int .i64 xs[i])/\ -9223372036854775808<=xs[i]/\xs[i]<=9223372036854775807:=by
 obtain ⟨r',c',e,h1,h2,he⟩:=h;simp at e;obtain ⟨rfl,rfl,rfl⟩:=e;obtain ⟨b,off,cs,hr,_,hc,hR,hs⟩:=he i hi;have g0:=hc 0 _ hR;simp only [Nat.add_zero,Nat.mul_one] at g0;exact ⟨b,off,hr,World.block_lt_of_cell? w _ g0,g0,hs⟩
set_option maxRecDepth 100000 in
theorem or_any (xs:List Int) (r:Option Addr) (c:Nat) (w:World) (h:Sl IntR 1 w (.slice r xs.length c) xs) :
  Calls Tryz.prog 81 #[.slice r xs.length c] w fun e w'=>e=.returned (.int .i64 (fstNZ xs))/\w=w':=by
 obtain ⟨_,hlc,hcm⟩:=sl_len h;have HI:=hid h;clear h;go_enter Tryz.func81,Tryz.ntmps81;go_wp2
 go_loopg [8] xs.length (fun gg s8 wr=>∃ k:Nat,k<=xs.length/\xs.length - k<=gg/\s8=.int .i64 k/\Aside (w=wr)/\Aside (∀ i (hi:i < xs.length),i < k->xs[i]=0))
 case atStart=>exact ⟨0,Nat.zero_le _,by omega,rfl,rfl,fun i _ h=>absurd h (by omega)⟩
 case round =>
  obtain ⟨k,hk,hg,rfl,BW,AL⟩:=hrel;obtain rfl:w=wr:=BW.out
  by_cases hlt:k < xs.length
  case pos =>
   have hltz:(k:Int) < (xs.length:Int):=by omega
   obtain ⟨b,off,rfl,hb,g0,_,_⟩:=int_at HI.out k hlt
   by_cases hz:xs[k]=0
   . have AL2:=hid (show ∀ i (hi:i < xs.length),i < k+1->xs[i]=0 from fun i hi hik=>by
      by_cases e:i < k
      . exact AL.out i hi e
      . obtain rfl:i=k:=by omega
        exact hz)
     rw [hz] at g0;clear AL hz BW;go_wp2
     go_roundg (xs.length - (k+1))
     case measure=>omega
     case rel=>exact ⟨k+1,by omega,by omega,by go_num,rfl,AL2.out⟩
   . have HF:=hid (fstNZ_stop hlt AL.out hz)
     generalize xs[k]=y at *;have e1:(y != 0)=true:=by simpa using hz
     have e2:(y == 0)=false:=by simpa using hz
     clear AL hz BW;go_wp2
     go_ret
     exact ⟨ret_int HF.out,rfl⟩
  case neg =>
   have hltz:¬ (k:Int) < (xs.length:Int):=by omega
   have HF:=hid (fstNZ_zero (xs:=xs) fun i hi=>AL.out i hi (by omega));clear AL BW;go_wp2
   go_ret
   exact ⟨ret_int HF.out,rfl⟩
theorem sl_two {w:World} {B T:Nat} {a b:Int} (h:w.heap[B]?=some (.cells #[.int .i64 a,.int .i64 b] T (0,0))) (ha:-9223372036854775808<=a/\a<=9223372036854775807) (hb:-9223372036854775808<=b/\b<=9223372036854775807) :
  Sl IntR 1 w (.slice (some ⟨B,0,none⟩) 2 2) [a,b]:=by
 refine ⟨some ⟨B,0,none⟩,2,rfl,by simp,by simp [maxLen],fun i hi=>⟨B,0,[.int .i64 ([a,b][i])],rfl,rfl,fun j u hj=>?_,rfl,?_⟩⟩
 . cases j with
   | zero =>
     simp at hj;subst hj;unfold World.cell?;simp only [h];simp at hi;rcases (show i=0 ∨ i=1 by omega) with rfl | rfl <;> rfl
   | succ j=>simp at hj
 . simp at hi
   rcases (show i=0 ∨ i=1 by omega) with rfl | rfl
   . exact ha
   . exact hb
end Go.Proofs.YtomhbcfjhgecbaaGreatDoor
namespace Go.Proofs.YtomhbcfjhgecbaaGreatDoor
open Go.RowKit Go.Sort Go.Lib
open Go.Lib (hid)
def cmpP (a b:ByteArray × ByteArray):Int:=fstNZ [cmpS a.1 b.1,cmpS a.2 b.2]
theorem cmpP_zero {a b:ByteArray × ByteArray} : cmpP a b=0 ↔ a=b:=by
 unfold cmpP fstNZ fstNZ fstNZ;constructor
 . intro h
   split at h
   . omega
   . rename_i h1
     split at h
     . omega
     . rename_i h2
       exact Prod.ext (cmpS_zero.1 (Classical.byContradiction fun e=>h1 e)) (cmpS_zero.1 (Classical.byContradiction fun e=>h2 e))
 . rintro rfl
   rw [if_neg (by simp [cmpS_self]),if_neg (by simp [cmpS_self])]
set_option maxRecDepth 100000 in
set_option maxHeartbeats 4000000 in
theorem pcompare_any (a b:ByteArray × ByteArray) (w:World) :
  Calls Tryz.prog 34 #[.agg #[.string a.1,.string a.2],.agg #[.string b.1,.string b.2]] w fun e w'=>e=.returned (.int .i64 (cmpP a b))/\Below w.heap.size w w':=by
 obtain ⟨a1,a2⟩:=a;obtain ⟨b1,b2⟩:=b;have CS1:=hid (fun W=>scmp_any a1 b1 W);have CS2:=hid (fun W=>scmp_any a2 b2 W);have TA:=hid (show -9223372036854775808<=cmpS a1 b1/\cmpS a1 b1<=9223372036854775807 by have:=cmpS_tri a1 b1;unfold Tri at this;omega);have TB:=hid (show -9223372036854775808<=cmpS a2 b2/\cmpS a2 b2<=9223372036854775807 by have:=cmpS_tri a2 b2;unfold Tri at this;omega);have HR:=hid (show cmpP (a1,a2) (b1,b2)=fstNZ [cmpS a1 b1,cmpS a2 b2] from rfl);generalize cmpP (a1,a2) (b1,b2)=R at *;generalize cmpS a1 b1=A at *;generalize cmpS a2 b2=B at *;show Calls Tryz.prog 34 #[.agg #[.string a1,.string a2],.agg #[.string b1,.string b2]] w _;go_enter Tryz.func34,Tryz.ntmps34;go_wp2
 have HB0:=hid (show Below w.heap.size w ((w.alloc (.cells #[.string a1,.string a2] 70)).alloc (.cells #[.string b1,.string b2] 70)) from ((Below.refl _ _).alloc (Nat.le_refl _) _).alloc (by simp) _);generalize hW0:((w.alloc (.cells #[.string a1,.string a2] 70)).alloc (.cells #[.string b1,.string b2] 70))=W0 at *;have z0:W0.cell? ⟨w.heap.size,0,none⟩=some (.string a1):=by rw [<-hW0];exact (bget ((Below.refl _ _).alloc (Nat.le_refl _) _) (cell_at rfl rfl))
 have z1:W0.cell? ⟨w.heap.size,1,none⟩=some (.string a2):=by rw [<-hW0];exact (bget ((Below.refl _ _).alloc (Nat.le_refl _) _) (cell_at rfl rfl))
 have z2:W0.cell? ⟨w.heap.size+1,0,none⟩=some (.string b1):=by rw [<-hW0];exact cell_at (by simp) rfl
 have z3:W0.cell? ⟨w.heap.size+1,1,none⟩=some (.string b2):=by rw [<-hW0];exact cell_at (by simp) rfl
 clear hW0
 go_region_held3 (fun w'=>w'.cell? ⟨w.heap.size,0,none⟩=some (.string a1)/\w'.cell? ⟨w.heap.size,1,none⟩=some (.string a2)/\w'.cell? ⟨w.heap.size+1,0,none⟩=some (.string b1)/\w'.cell? ⟨w.heap.size+1,1,none⟩=some (.string b2))
  (go_keep)
  (first | (go_at_call 82;first | (refine (CS1.out _).mono ?_;rintro e w1 ⟨rfl,rfl⟩) | (refine (CS2.out _).mono ?_;rintro e w1 ⟨rfl,rfl⟩)) | (go_at_call 81;refine (or_any [A,B] _ _ _ (sl_two (by exact (MapKept.heap_alloc W0 _).1) TA.out TB.out)).mono ?_;rintro e w1 ⟨rfl,rfl⟩;rw [<-HR.out]))
 all_goals
  go_wp2
  go_ret
  exact ⟨rfl,(HB0.out.alloc HB0.out.size _).drew⟩
end Go.Proofs.YtomhbcfjhgecbaaGreatDoor
namespace Go.Proofs.YtomhbcfjhgecbaaGreatDoor
open Go.RowKit Go.Sort Go.Lib
open Go.Lib (hid)
attribute [local go_sem] Stp.frUpon
attribute [local go_sem ↓] ldI_eq
attribute [local go_sem] ldI_run
attribute [local go_sem ↓] stI_eq
attribute [local go_sem] stI_run thereI_drew thereI_new put13_drew put13_new liesI_new rd13_new liesI_drew rd13_drew
def plOf (x:Ins):ByteArray × ByteArray:=(x.ad,x.de)
set_option maxRecDepth 100000 in
set_option maxHeartbeats 4000000 in
theorem placeOf_any (x:Ins) (p:Pt) (w:World):Calls Tryz.prog 33 #[.agg (insA x p)] w fun e w'=>e=.returned (.agg #[.string x.ad,.string x.de])/\Below w.heap.size w w':=by
 have h0:(insA x p)[0]?=some (.string x.ad):=rfl;have h1:(insA x p)[1]?=some (.string x.de):=rfl;have hb:Below w.heap.size w (w.alloc (.cells (insA x p) 41)):=(Below.refl _ _).alloc (Nat.le_refl _) _;have g0:(w.alloc (.cells (insA x p) 41)).cell? ⟨w.heap.size,0,none⟩=some (.string x.ad):=cell_at rfl h0;have g1:(w.alloc (.cells (insA x p) 41)).cell? ⟨w.heap.size,1,none⟩=some (.string x.de):=cell_at rfl h1;have HB:=hid hb;clear hb;generalize insA x p=X at *;go_enter Tryz.func33,Tryz.ntmps33;go_wp2
 exact bodyPost_ret (v:=.agg #[.string x.ad,.string x.de]) (by simp [results,Tryz.results33,go_sem]) rfl ⟨rfl,HB.out.alloc (by simp) _⟩
set_option maxRecDepth 100000 in
set_option maxHeartbeats 8000000 in
theorem search1_any (x:Ins) (p:Pt) (q:ByteArray × ByteArray) (fb:Nat) (w:World) (hf:w.cell? ⟨fb,0,none⟩=some (.func (.func 34) #[] #[])) :
  Calls Tryz.prog 90 #[.agg (insA x p),.agg #[.string q.1,.string q.2],.pointer (some ⟨fb,0,none⟩)] w fun e w'=>e=.returned (.int .i64 (cmpP (plOf x) q))/\Below w.heap.size w w':=by
 obtain ⟨q1,q2⟩:=q;have HPO:=hid (fun W=>placeOf_any x p W);have HCP:=hid (fun W=>pcompare_any (plOf x) (q1,q2) W);have hX:=cellsI x p;have HB0:=hid (show Below w.heap.size w ((w.alloc (.cells (insA x p) 41)).alloc (.cells #[.string q1,.string q2] 70)) from ((Below.refl _ _).alloc (Nat.le_refl _) _).alloc (by simp) _);have l0:=of_eq_true (liesI_new w (insA x p) 41 _ rfl hX);have l1:=rd13_new w (insA x p) 41 _ rfl hX;have hb1:Below (w.alloc (.cells (insA x p) 41)).heap.size (w.alloc (.cells (insA x p) 41)) ((w.alloc (.cells (insA x p) 41)).alloc (.cells #[.string q1,.string q2] 70)):=(Below.refl _ _).alloc (Nat.le_refl _) _;obtain ⟨l2,l3⟩:=l0.below hb1;have l3:=l3.trans l1;have f0:=bget HB0.out hf;have z2:((w.alloc (.cells (insA x p) 41)).alloc (.cells #[.string q1,.string q2] 70)).cell? ⟨w.heap.size+1,0,none⟩=some (.string q1):=cell_at (by simp) rfl;have z3:((w.alloc (.cells (insA x p) 41)).alloc (.cells #[.string q1,.string q2] 70)).cell? ⟨w.heap.size+1,1,none⟩=some (.string q2):=cell_at (by simp) rfl;clear hf l0 l1 hb1 hX;unfold plOf at *;simp only at HCP ⊢;generalize cmpP (x.ad,x.de) (q1,q2)=V at *;generalize x.ad=x1 at *;generalize x.de=x2 at *;generalize insA x p=X at *;go_enter Tryz.func90,Tryz.ntmps90;go_wp2_with fail
 generalize (w.alloc (.cells X 41)).alloc (.cells #[.string q1,.string q2] 70)=W3 at *;have HLX:=hid (fun (W:World) (hW:Below W3.heap.size W3 W)=>show LiesI W w.heap.size 0/\rd13 W w.heap.size 0=X from ⟨(l2.below hW).1,((l2.below hW).2).trans l3⟩);have c0:=fun d os=>cell_regrown f0 d os;have c1:=fun d os=>cell_regrown z2 d os;have c2:=fun d os=>cell_regrown z3 d os;clear l2 l3;refine Stp.wp_region_fresh (fun k=>match k with | 1=>some (Stp.sVal (.agg X)) | 2=>some (Stp.sVal (.agg #[.string x1,.string x2])) | 4=>some (Stp.sVal (.int .i64 V)) | _=>none) (by kernel_rfl) (by kernel_rfl) ?_
 (refine Stp.wq ?_;intro K hK;go_big_quiet_op;go_big_quiet_on)
 refine Stp.wpF_told (Stp.sVal (.agg X)) (by kernel_rfl) rfl ⟨_,rfl⟩ Stp.stTrue (fun w4 hw4 hE4=>?_) ?_
 . have hb4:=Stp.grw_below hw4
   obtain ⟨l1,l2⟩:=HLX.out w4 hb4;clear hw4 hE4 hb4;go_simp
   exact ⟨Stp.Lat.refl _,rfl,trivial⟩
 rintro _ rfl
 (refine Stp.wpF_put ?_;intro K hK;go_simp;refine hK _ ?_;clear hK K)
 refine Stp.wpF_told (Stp.sVal (.agg #[.string x1,.string x2])) (by kernel_rfl) rfl ⟨_,rfl⟩ Stp.stTrue (fun w4 hw4 hE4=>?_) ?_
 . have hb4:=Stp.grw_below hw4
   have hh:=HPO.out w4;clear hw4 hE4 hb4;go_simp
   go_at_call 33;refine Calls.mono hh ?_;rintro e w5 ⟨rfl,hb5⟩;exact ⟨_,rfl,hb5,rfl,trivial⟩
 rintro _ rfl
 (refine Stp.wpF_put ?_;intro K hK;go_simp;refine hK _ ?_;clear hK K)
 (refine Stp.wq ?_;intro K hK;go_big_quiet_op;go_big_quiet_on)
 refine Stp.wpF_told (Stp.sVal (.int .i64 V)) (by kernel_rfl) rfl ⟨_,rfl⟩ Stp.stTrue (fun w4 hw4 hE4=>?_) ?_
 . have hb4:=Stp.grw_below hw4
   have hh:=HCP.out w4;clear hw4 hE4 hb4;go_simp
   go_at_call 34;refine Calls.mono hh ?_;rintro e w5 ⟨rfl,hb5⟩;exact ⟨_,rfl,hb5,rfl,trivial⟩
 rintro _ rfl
 (refine Stp.wpF_put ?_;intro K hK;go_simp;refine hK _ ?_;clear hK K)
 (refine Stp.wq ?_;intro K hK;go_big_quiet_op;go_big_quiet_on)
 refine Stp.wpF_nil ?_;intro w6 hw6 hE6;have hb6:=Stp.grw_below hw6;clear hw6 hE6;have HB6:=hid (HB0.out.trans (hb6.mono HB0.out.size));clear hb6;go_wp2
 go_ret
 exact ⟨rfl,HB6.out⟩
end Go.Proofs.YtomhbcfjhgecbaaGreatDoor
namespace Go.Proofs.YtomhbcfjhgecbaaGreatDoor
open Go.RowKit Go.Sort Go.Lib
open Go.Lib (hid)
attribute [local go_sem] Stp.frUpon
attribute [local go_sem ↓] ldI_eq
attribute [local go_sem] ldI_run
attribute [local go_sem ↓] stI_eq
attribute [local go_sem] stI_run thereI_drew thereI_new put13_drew put13_new liesI_new rd13_new liesI_drew rd13_drew
def InsF (x:Ins):Prop:=nodes x.at_<=1000000/\nkeys x.at_<=1000000/\x.dp.length<=1000000
theorem setCells_other (l:List Value):∀ (W:World) (b o:Nat) {b':Nat},b'≠b->(W.setCells b o l).heap[b']?=W.heap[b']?:=by
 induction l with
 | nil=>intros;rfl
 | cons v l ih =>
   intro W b o b' h;show ((W.setCell ⟨b,o,none⟩ v).setCells b (o+1) l).heap[b']?=_;rw [ih _ _ _ h,Below.heap_setCell _ _ _ _ h]
theorem setCells_size (l:List Value):∀ (W:World) (b o:Nat),(W.setCells b o l).heap.size=W.heap.size:=by
 induction l with
 | nil=>intros;rfl
 | cons v l ih =>
   intro W b o;show ((W.setCell ⟨b,o,none⟩ v).setCells b (o+1) l).heap.size=_;rw [ih];simp [World.setCell]
theorem setCells_below {B:Nat} {w0:World} (l:List Value):∀ (W:World) (b o:Nat),Below B w0 W->B<=b->Below B w0 (W.setCells b o l):=by
 induction l with
 | nil=>intro W b o h _;exact h
 | cons v l ih =>
   intro W b o h hb;exact ih _ _ _ (h.setCell hb _) hb
theorem setCells_block (l:List Value) (T:TypeId):∀ (W:World) (b o:Nat) (Z:Array Value),W.heap[b]?=some (.cells Z T)->o+l.length<=Z.size->(W.setCells b o l).heap[b]?=some (.cells (Z.toList.take o ++ l ++ Z.toList.drop (o+l.length)).toArray T):=by
 induction l with
 | nil =>
   intro W b o Z h _;rw [List.append_nil,List.length_nil,Nat.add_zero,List.take_append_drop];exact h
 | cons v l ih =>
   intro W b o Z h hl;rw [List.length_cons] at hl;show ((W.setCell ⟨b,o,none⟩ v).setCells b (o+1) l).heap[b]?=_;rw [ih (W.setCell ⟨b,o,none⟩ v) b (o+1) (Z.setIfInBounds o v) (by unfold World.setCell;simp [Array.getElem?_modify,h]) (by simp;omega)];rw [Array.toList_setIfInBounds,splice_setI Z.toList o v l (by rw [Array.length_toList];omega),List.length_cons]
theorem liesI_blk {W:World} {b:Nat} {X:Array Value} {T:TypeId} (h:W.heap[b]?=some (.cells X T)) (hX:Cells13 X):LiesI W b 0/\rd13 W b 0=X:=liesI_of hX fun j u hj=>by
 unfold World.cell?;simp only [h,Nat.zero_add];rw [Array.getElem?_toList] at hj;exact hj
def stV (a:Addr) (v:Value):Sem Unit:=storeVar 39 a v
theorem stV_eq (a:Addr) (v:Value):storeVar 39 a v=stV a v:=rfl
def put5V (W:World) (b o:Nat) (X:Array Value):World:=W.setCells b o X.toList
def ThereV (W:World) (b o:Nat):Prop:=W.there b o 5
def Cells5 (X:Array Value):Prop:=X.size=5/\X.all (·.oneCell')=true
theorem stV_run (W:World) (b o:Nat) (X:Array Value) (h:ThereV W b o) (hX:Cells5 X):(stV ⟨b,o,none⟩ (.agg X)).run Tryz.prog W=.ok () (put5V W b o X):=
 run_storeVar_mid W b o _ X (by rw [hX.1];exact h) (by rw [hX.1];kernel_rfl) hX.2
theorem there_blk {W:World} {b o n:Nat} {Z:Array Value} {T:TypeId} (h:W.heap[b]?=some (.cells Z T)) (ho:o+n<=Z.size):W.there b o n:=fun j hj=>⟨by
 unfold World.cell?;simp only [h];simp [show o+j < Z.size by omega],by
 unfold World.frozen?;simp only [h];simp⟩
attribute [local go_sem ↓] stV_eq
set_option maxRecDepth 100000 in
set_option maxHeartbeats 8000000 in
theorem record_any (x:Ins) (p:Pt) (w:World) (h:InsP w x p) (hf:InsF x) :
  Calls Tryz.prog 50 #[.agg (insA x p)] w fun e w'=>∃ p',e=.returned (.agg (insA x p'))/\InsP (mask (fromB w.heap.size) w') x p'/\Below w.heap.size w w':=by
 obtain ⟨h1,h2,h3,h4⟩:=h;have HCP:=hid (fun (W:World) (hW:Below w.heap.size w W)=>copied_any x.at_ p.r p.c p.rk p.ck W (h1.below hW) hf.1 hf.2.1);have HCL:=hid (fun (W:World) (hW:Below w.heap.size w W)=>clone_any x.dp p.dr p.dc W (h2.below strR_mono hW) hf.2.2);have HDS:=hid (strs_le h2);clear h1 h2 hf;unfold insA at *;go_enter Tryz.func50,Tryz.ntmps50;go_wp2_with fail
 have hb2:Below w.heap.size w ((w.alloc (.cells #[.string x.ad,.string x.de,.string x.id,.string x.ty,.int .i64 x.at_.kind,.int .i64 x.at_.num,.string x.at_.str,.slice p.r x.at_.items.length p.c,.slice p.rk x.at_.keys.length p.ck,.int .i64 x.ver,.bool x.ta,.bool x.cf,.slice p.dr x.dp.length p.dc] 41)).alloc (.cells #[.string { data:=#[] },.string { data:=#[] },.string { data:=#[] },.string { data:=#[] },.int .i64 0,.int .i64 0,.string { data:=#[] },.slice none 0 0,.slice none 0 0,.int .i64 0,.bool false,.bool false,.slice none 0 0] 41)):=((Below.refl _ _).alloc (Nat.le_refl _) _).alloc (by simp) _;refine (HCP.out _ hb2).mono ?_;rintro e w3 ⟨r3,c3,rk3,ck3,M3,rfl,hX3,hb3⟩;have z3:=hb3.size;have hbk0:=(hb3.block w.heap.size (by simp;omega)).trans (two_blk0 w _ _);have hbk1:=(hb3.block (w.heap.size+1) (by simp)).trans (two_blk1 w _ _);simp at z3;have hc5:Cells5 #[.int .i64 x.at_.kind,.int .i64 x.at_.num,.string x.at_.str,.slice r3 x.at_.items.length c3,.slice rk3 x.at_.keys.length ck3]:=⟨rfl,by simp [Value.oneCell']⟩;have ht3:ThereV w3 w.heap.size 4:=there_blk hbk0 (by simp);have HB4:=hid (show (put5V w3 w.heap.size 4 #[.int .i64 x.at_.kind,.int .i64 x.at_.num,.string x.at_.str,.slice r3 x.at_.items.length c3,.slice rk3 x.at_.keys.length ck3]).heap[w.heap.size]?=some (.cells #[.string x.ad,.string x.de,.string x.id,.string x.ty,.int .i64 x.at_.kind,.int .i64 x.at_.num,.string x.at_.str,.slice r3 x.at_.items.length c3,.slice rk3 x.at_.keys.length ck3,.int .i64 x.ver,.bool x.ta,.bool x.cf,.slice p.dr x.dp.length p.dc] 41) from setCells_block _ _ _ _ _ _ hbk0 (by simp));have HB5:=hid ((setCells_other #[.int .i64 x.at_.kind,.int .i64 x.at_.num,.string x.at_.str,.slice r3 x.at_.items.length c3,.slice rk3 x.at_.keys.length ck3].toList w3 w.heap.size 4 (b':=w.heap.size+1) (by omega)).trans hbk1);have HO4:=hid (fun (b:Nat) (h:b≠w.heap.size)=>setCells_other #[.int .i64 x.at_.kind,.int .i64 x.at_.num,.string x.at_.str,.slice r3 x.at_.items.length c3,.slice rk3 x.at_.keys.length ck3].toList w3 w.heap.size 4 h);have HZ4:=hid (setCells_size #[.int .i64 x.at_.kind,.int .i64 x.at_.num,.string x.at_.str,.slice r3 x.at_.items.length c3,.slice rk3 x.at_.keys.length ck3].toList w3 w.heap.size 4);have B4:=hid (setCells_below (B:=w.heap.size) (w0:=w) #[.int .i64 x.at_.kind,.int .i64 x.at_.num,.string x.at_.str,.slice r3 x.at_.items.length c3,.slice rk3 x.at_.keys.length ck3].toList w3 w.heap.size 4 (hb2.trans (hb3.mono hb2.size)) (Nat.le_refl _));have HX3:=hid hX3;have HZ3:=hid (show w.heap.size+1+1<=w3.heap.size from z3);have hq12:(put5V w3 w.heap.size 4 #[.int .i64 x.at_.kind,.int .i64 x.at_.num,.string x.at_.str,.slice r3 x.at_.items.length c3,.slice rk3 x.at_.keys.length ck3]).cell? ⟨w.heap.size,12,none⟩=some (.slice p.dr x.dp.length p.dc):=by unfold World.cell?;rw [HB4.out];rfl
 clear hb2 hb3 hX3 hbk0 hbk1 z3;generalize hY:(#[.int .i64 x.at_.kind,.int .i64 x.at_.num,.string x.at_.str,.slice r3 x.at_.items.length c3,.slice rk3 x.at_.keys.length ck3]:Array Value)=Y at *;generalize hW4:put5V w3 w.heap.size 4 Y=W4 at *;have hs4:(stV ⟨w.heap.size,4,none⟩ (.agg Y)).run Tryz.prog w3=.ok () W4:=hW4 ▸ stV_run w3 _ _ Y ht3 hc5;clear ht3 hc5;go_wp2_with fail
 have hb4:Below w.heap.size w W4:=by rw [<-hW4];exact B4.out
 refine (HCL.out _ hb4).mono ?_;rintro e w5 ⟨v5,rfl,ho5,hb5⟩;obtain ⟨rk5,ck5,rfl,_⟩:=own_form ho5;have hz4:W4.heap.size=w3.heap.size:=by rw [<-hW4];exact HZ4.out
 have hz3:=HZ3.out;have hk0:=(hb5.block w.heap.size (by omega)).trans HB4.out;have hk1:w5.heap[w.heap.size+1]?=some (.cells #[.string { data:=#[] },.string { data:=#[] },.string { data:=#[] },.string { data:=#[] },.int .i64 0,.int .i64 0,.string { data:=#[] },.slice none 0 0,.slice none 0 0,.int .i64 0,.bool false,.bool false,.slice none 0 0] 41):=(hb5.block (w.heap.size+1) (by omega)).trans (by rw [<-hW4];exact HB5.out);have ho4:∀ b,b≠w.heap.size->W4.heap[b]?=w3.heap[b]?:=fun b hb=>by rw [<-hW4];exact HO4.out b hb
 have t2:w5.frozen? ⟨w.heap.size,12,none⟩=false:=by unfold World.frozen?;rw [hk0];rfl
 have t3:w5.cell? ⟨w.heap.size,12,none⟩=some (.slice p.dr x.dp.length p.dc):=by unfold World.cell?;rw [hk0];rfl
 have hb6:Below w.heap.size w (w5.setCell ⟨w.heap.size,12,none⟩ (.slice rk5 x.dp.length ck5)):=(hb4.trans (hb5.mono hb4.size)).setCell (Nat.le_refl _) _
 have hk6:(w5.setCell ⟨w.heap.size,12,none⟩ (.slice rk5 x.dp.length ck5)).heap[w.heap.size]?=some (.cells (insA x ⟨r3,c3,rk3,ck3,rk5,ck5⟩) 41):=by
  unfold World.setCell;simp only [Array.getElem?_modify,if_true,hk0,Option.map_some];rfl
 have hk7:(w5.setCell ⟨w.heap.size,12,none⟩ (.slice rk5 x.dp.length ck5)).heap[w.heap.size+1]?=some (.cells #[.string { data:=#[] },.string { data:=#[] },.string { data:=#[] },.string { data:=#[] },.int .i64 0,.int .i64 0,.string { data:=#[] },.slice none 0 0,.slice none 0 0,.int .i64 0,.bool false,.bool false,.slice none 0 0] 41):=by
  rw [Below.heap_setCell _ _ _ _ (by simp)];exact hk1
 have hz6:(w5.setCell ⟨w.heap.size,12,none⟩ (.slice rk5 x.dp.length ck5)).heap.size=w5.heap.size:=by simp [World.setCell]
 have hst:∀ b,b≠w.heap.size->(w5.setCell ⟨w.heap.size,12,none⟩ (.slice rk5 x.dp.length ck5)).heap[b]?=w5.heap[b]?:=fun b hb=>Below.heap_setCell _ _ _ _ hb;have hX:=cellsI x ⟨r3,c3,rk3,ck3,rk5,ck5⟩;have hz5:=hb5.size;have hbb5:=fun (b:Nat) (h:b < W4.heap.size)=>hb5.block b h;clear hs4 HCP HCL;go_wp2_with fail
 generalize w5.setCell ⟨w.heap.size,12,none⟩ (.slice rk5 x.dp.length ck5)=W6 at *;obtain ⟨l0,l1⟩:=liesI_blk hk6 hX;have ht6:ThereI W6 (w.heap.size+1) 0:=there_blk hk7 (by simp)
 have hk8:(put13 W6 (w.heap.size+1) 0 (insA x ⟨r3,c3,rk3,ck3,rk5,ck5⟩)).heap[w.heap.size+1]?=some (.cells (insA x ⟨r3,c3,rk3,ck3,rk5,ck5⟩) 41):=by
  have:=setCells_block (insA x ⟨r3,c3,rk3,ck3,rk5,ck5⟩).toList _ W6 _ 0 _ hk7 (by simp [insA]);exact this.trans (by simp [insA])
 have hb8:Below w.heap.size w (put13 W6 (w.heap.size+1) 0 (insA x ⟨r3,c3,rk3,ck3,rk5,ck5⟩)):=setCells_below _ _ _ _ hb6 (by omega);have ho8:∀ b,b≠w.heap.size+1->(put13 W6 (w.heap.size+1) 0 (insA x ⟨r3,c3,rk3,ck3,rk5,ck5⟩)).heap[b]?=W6.heap[b]?:=fun b hb=>setCells_other _ _ _ _ hb;obtain ⟨l2,l3⟩:=liesI_blk hk8 hX
 have HF:=hid (show InsP (mask (fromB w.heap.size) (put13 W6 (w.heap.size+1) 0 (insA x ⟨r3,c3,rk3,ck3,rk5,ck5⟩))) x ⟨r3,c3,rk3,ck3,rk5,ck5⟩ from by
  refine ⟨VK.to (stays_keep fun b hb hl=>?_) HX3.out.vk,ownK_sl (B:=w.heap.size) (own_mask (own_keep (own_base ho5 (by omega)) fun g hg=>?_) fun g hg=>?_) HDS.out,h3,h4⟩
  . simp only [fromB,decide_eq_true_eq] at hb ⊢
    simp at hb;refine ⟨by omega,?_⟩;rw [ho8 b (by omega),hst b (by omega),hbb5 b (by omega),ho4 b (by omega)]
  . have:=own_lt ho5 hg
    rw [ho8 g (by omega),hst g (by omega)]
  . have:=own_lt ho5 hg
    simp only [fromB,decide_eq_true_eq];omega)
 have hs6:(stI ⟨w.heap.size+1,0,none⟩ (.agg (insA x ⟨r3,c3,rk3,ck3,rk5,ck5⟩))).run Tryz.prog W6=.ok () (put13 W6 (w.heap.size+1) 0 (insA x ⟨r3,c3,rk3,ck3,rk5,ck5⟩)):=stI_run W6 _ _ _ ht6 hX;generalize hW8:put13 W6 (w.heap.size+1) 0 (insA x ⟨r3,c3,rk3,ck3,rk5,ck5⟩)=W8 at *;have g0:W8.cell? ⟨w.heap.size+1,0,none⟩=some (.string x.ad):=by unfold World.cell?;rw [hk8];rfl
 have g1:W8.cell? ⟨w.heap.size+1,1,none⟩=some (.string x.de):=by unfold World.cell?;rw [hk8];rfl
 have g2:W8.cell? ⟨w.heap.size+1,2,none⟩=some (.string x.id):=by unfold World.cell?;rw [hk8];rfl
 have g3:W8.cell? ⟨w.heap.size+1,3,none⟩=some (.string x.ty):=by unfold World.cell?;rw [hk8];rfl
 have g4:W8.cell? ⟨w.heap.size+1,4,none⟩=some (.int .i64 x.at_.kind):=by unfold World.cell?;rw [hk8];rfl
 have g5:W8.cell? ⟨w.heap.size+1,5,none⟩=some (.int .i64 x.at_.num):=by unfold World.cell?;rw [hk8];rfl
 have g6:W8.cell? ⟨w.heap.size+1,6,none⟩=some (.string x.at_.str):=by unfold World.cell?;rw [hk8];rfl
 have g7:W8.cell? ⟨w.heap.size+1,7,none⟩=some (.slice r3 x.at_.items.length c3):=by unfold World.cell?;rw [hk8];rfl
 have g8:W8.cell? ⟨w.heap.size+1,8,none⟩=some (.slice rk3 x.at_.keys.length ck3):=by unfold World.cell?;rw [hk8];rfl
 have g9:W8.cell? ⟨w.heap.size+1,9,none⟩=some (.int .i64 x.ver):=by unfold World.cell?;rw [hk8];rfl
 have g10:W8.cell? ⟨w.heap.size+1,10,none⟩=some (.bool x.ta):=by unfold World.cell?;rw [hk8];rfl
 have g11:W8.cell? ⟨w.heap.size+1,11,none⟩=some (.bool x.cf):=by unfold World.cell?;rw [hk8];rfl
 have g12:W8.cell? ⟨w.heap.size+1,12,none⟩=some (.slice rk5 x.dp.length ck5):=by unfold World.cell?;rw [hk8];rfl
 have HB8:=hid hb8;have HI:=hid (show insA x ⟨r3,c3,rk3,ck3,rk5,ck5⟩=#[.string x.ad,.string x.de,.string x.id,.string x.ty,.int .i64 x.at_.kind,.int .i64 x.at_.num,.string x.at_.str,.slice r3 x.at_.items.length c3,.slice rk3 x.at_.keys.length ck3,.int .i64 x.ver,.bool x.ta,.bool x.cf,.slice rk5 x.dp.length ck5] from rfl);generalize insA x ⟨r3,c3,rk3,ck3,rk5,ck5⟩=X at *;clear hb8 ho8 hk8 ht6 hk6 hk7 hst hbb5 ho4 hb6 hz4 hz5 hz6 hz3 ho5 hb5 hk0 hk1 t2 t3 hX hq12 hb4 HB4 HB5 HO4 HZ4 B4 HX3 HZ3 hY hW4;go_simp
 go_wp2_with fail
 exact bodyPost_ret (v:=.agg X) (by simp [results,Tryz.results50,go_sem,g0,g1,g2,g3,g4,g5,g6,g7,g8,g9,g10,g11,g12,HI.out]) rfl ⟨⟨r3,c3,rk3,ck3,rk5,ck5⟩,by rw [HI.out],HF.out,HB8.out⟩
end Go.Proofs.YtomhbcfjhgecbaaGreatDoor
namespace Go.Proofs.YtomhbcfjhgecbaaGreatDoor
open Go.RowKit Go.Sort Go.Lib
open Go.Lib (hid)
open Stp (Spc Lat Stb)
theorem pdinfo:(Tryz.prog.info? 58).map (fun i=>(i.zero,i.size,i.bytes))=some (some (.agg #[.string ByteArray.empty,.string ByteArray.empty,.string ByteArray.empty]),3,48):=by kernel_rfl
def pdlays_ren:Go.Shelf.Ren:=⟨fun | 41=>104 | n=>n,fun | 22=>23 | 23=>58 | 4=>4 | n=>n,fun | n=>n⟩
theorem pdlays:Go.Proofs.SlLaysE0.n41 Tryz.prog pdlays_ren:={
 mixed:=by kernel_rfl
 f41:=⟨Tryz.f104.name,by decide,Tryz.func104.trans (congrArg some (by kernel_rfl))⟩
 t4:=Tryz.underlying4
 a4:=Tryz.isAgg4
 z4:=Tryz.sizeOf4
 v4:=Tryz.zeroValue4
 t22:=Tryz.underlying23
 a22:=Tryz.isAgg23
 z22:=Tryz.sizeOf23
 v22:=Tryz.zeroValue23 }
set_option maxHeartbeats 4000000 in
set_option maxRecDepth 100000 in
theorem pdclone0 (a:Addr) (c:Nat) (w:World):Calls Tryz.prog 104 #[.slice (some a) 0 c] w fun e w'=>∃ v',e=.returned v'/\w'.ownsRow w.heap.size 58 3 v' 0 []/\Below w.heap.size w w':=by
 obtain ⟨i0,hi,hz0,hz1,hz2⟩:=info_parts pdinfo;have q36:∀ (w:World) (a:Option Addr) (n c n' c':Nat),(binOp .eql 23 (.slice a n c) (.slice none n' c')).run Tryz.prog w=.ok (.bool a.isNone) w:=fun w a n c n' c'=>Lib.run_eql_slice_nil w _ _ a n c n' c' Tryz.underlying23;go_enter Tryz.func104,Tryz.ntmps104;go_wp2_with (at_builtin;refine wpList_append_own _ rfl _ _ 23 rfl w.heap.size 58 i0 _ 3 48 Tryz.underlying23 hi hz0 hz1 hz2 rfl (by decide) _ _ _ rfl (World.ownsRow_made w #[] 0 (Nat.le_refl _) (Nat.zero_le _) rfl) a 0 c [] rfl rfl (by intro j u hj;simp at hj) (by intro u hu;cases hu) (by unfold maxLen;omega) (by omega) (by simp) ?_)
 intro v' w1 hown hgrow hnil;go_wp2
 go_ret
 exact ⟨v',rfl,by simpa using hown,((Below.refl _ w).alloc (Nat.le_refl _) _).grown hgrow (by simp) (by intro k hk;simp [Value.ownBlock] at hk;omega)⟩
theorem pdclone (cs:List Value) (n:Nat) (r:Option Addr) (c:Nat) (w:World) (hl:cs.length=n * 3) (hn:n<=c) (hc:c<=maxLen) (hs:n<=1000000) (h0:r=none->n=0)
  (hr:∀ (j:Nat) (u:Value),cs[j]?=some u->∃ b off,r=some ⟨b,off,none⟩/\w.cell? ⟨b,off+j,none⟩=some u) (h1:∀ u∈cs,u.oneCell'=true) :
  Calls Tryz.prog 104 #[.slice r n c] w fun e w'=>∃ v',e=.returned v'/\w'.ownsRow w.heap.size 58 3 v' n cs/\Below w.heap.size w w':=by
 cases r with
 | none =>
   obtain rfl:=h0 rfl;obtain rfl:cs=[]:=List.eq_nil_of_length_eq_zero (by omega);exact (AnyE.slices_Clone_nil pdlays 0 c w).mono fun e w' ⟨he,hw⟩=>⟨_,he,⟨by simp,.inl ⟨rfl,rfl⟩⟩,by rw [hw];exact Below.refl _ _⟩
 | some a =>
   obtain ⟨i0,hi,hz0,hz1,hz2⟩:=info_parts pdinfo
   by_cases hn0:n=0
   . subst hn0
     obtain rfl:cs=[]:=List.eq_nil_of_length_eq_zero (by omega);exact pdclone0 a c w
   . have h2:0 < cs.length:=by omega
     obtain ⟨b,off,ha,_⟩:=hr 0 _ (List.getElem?_eq_getElem h2);simp only [Option.some.injEq] at ha;subst ha;refine (AnyE.slices_Clone pdlays i0 _ 3 48 hi hz0 hz1 hz2 rfl (by decide) Tryz.sizeOf58 b off n c cs w hl (by unfold maxLen;omega) (by omega) (fun j u hu=>?_) h1).mono fun e w' ⟨v',he,ho,_,hb2⟩=>⟨v',he,ho,hb2⟩;obtain ⟨b2,off2,e2,g2⟩:=hr j u hu;simp at e2;obtain ⟨rfl,rfl⟩:=e2;exact g2
theorem soinfo:(Tryz.prog.info? 66).map (fun i=>(i.zero,i.size,i.bytes))=some (some (.agg #[.string ByteArray.empty,.int .i64 0,.int .i64 0,.string ByteArray.empty,.slice none 0 0,.slice none 0 0,.bool false]),7,104):=by kernel_rfl
def solays_ren:Go.Shelf.Ren:=⟨fun | 41=>139 | n=>n,fun | 22=>24 | 23=>66 | 4=>4 | n=>n,fun | n=>n⟩
theorem solays:Go.Proofs.SlLaysE0.n41 Tryz.prog solays_ren:={
 mixed:=by kernel_rfl
 f41:=⟨Tryz.f139.name,by decide,Tryz.func139.trans (congrArg some (by kernel_rfl))⟩
 t4:=Tryz.underlying4
 a4:=Tryz.isAgg4
 z4:=Tryz.sizeOf4
 v4:=Tryz.zeroValue4
 t22:=Tryz.underlying24
 a22:=Tryz.isAgg24
 z22:=Tryz.sizeOf24
 v22:=Tryz.zeroValue24 }
set_option maxHeartbeats 4000000 in
set_option maxRecDepth 100000 in
theorem soclone0 (a:Addr) (c:Nat) (w:World):Calls Tryz.prog 139 #[.slice (some a) 0 c] w fun e w'=>∃ v',e=.returned v'/\w'.ownsRow w.heap.size 66 7 v' 0 []/\Below w.heap.size w w':=by
 obtain ⟨i0,hi,hz0,hz1,hz2⟩:=info_parts soinfo;have q36:∀ (w:World) (a:Option Addr) (n c n' c':Nat),(binOp .eql 24 (.slice a n c) (.slice none n' c')).run Tryz.prog w=.ok (.bool a.isNone) w:=fun w a n c n' c'=>Lib.run_eql_slice_nil w _ _ a n c n' c' Tryz.underlying24;go_enter Tryz.func139,Tryz.ntmps139;go_wp2_with (at_builtin;refine wpList_append_own _ rfl _ _ 24 rfl w.heap.size 66 i0 _ 7 104 Tryz.underlying24 hi hz0 hz1 hz2 rfl (by decide) _ _ _ rfl (World.ownsRow_made w #[] 0 (Nat.le_refl _) (Nat.zero_le _) rfl) a 0 c [] rfl rfl (by intro j u hj;simp at hj) (by intro u hu;cases hu) (by unfold maxLen;omega) (by omega) (by simp) ?_)
 intro v' w1 hown hgrow hnil;go_wp2
 go_ret
 exact ⟨v',rfl,by simpa using hown,((Below.refl _ w).alloc (Nat.le_refl _) _).grown hgrow (by simp) (by intro k hk;simp [Value.ownBlock] at hk;omega)⟩
theorem soclone (cs:List Value) (n:Nat) (r:Option Addr) (c:Nat) (w:World) (hl:cs.length=n * 7) (hn:n<=c) (hc:c<=maxLen) (hs:n<=1000000) (h0:r=none->n=0)
  (hr:∀ (j:Nat) (u:Value),cs[j]?=some u->∃ b off,r=some ⟨b,off,none⟩/\w.cell? ⟨b,off+j,none⟩=some u) (h1:∀ u∈cs,u.oneCell'=true) :
  Calls Tryz.prog 139 #[.slice r n c] w fun e w'=>∃ v',e=.returned v'/\w'.ownsRow w.heap.size 66 7 v' n cs/\Below w.heap.size w w':=by
 cases r with
 | none =>
   obtain rfl:=h0 rfl;obtain rfl:cs=[]:=List.eq_nil_of_length_eq_zero (by omega);exact (AnyE.slices_Clone_nil solays 0 c w).mono fun e w' ⟨he,hw⟩=>⟨_,he,⟨by simp,.inl ⟨rfl,rfl⟩⟩,by rw [hw];exact Below.refl _ _⟩
 | some a =>
   obtain ⟨i0,hi,hz0,hz1,hz2⟩:=info_parts soinfo
   by_cases hn0:n=0
   . subst hn0
     obtain rfl:cs=[]:=List.eq_nil_of_length_eq_zero (by omega);exact soclone0 a c w
   . have h2:0 < cs.length:=by omega
     obtain ⟨b,off,ha,_⟩:=hr 0 _ (List.getElem?_eq_getElem h2);simp only [Option.some.injEq] at ha;subst ha;refine (AnyE.slices_Clone solays i0 _ 7 104 hi hz0 hz1 hz2 rfl (by decide) Tryz.sizeOf66 b off n c cs w hl (by unfold maxLen;omega) (by omega) (fun j u hu=>?_) h1).mono fun e w' ⟨v',he,ho,_,hb2⟩=>⟨v',he,ho,hb2⟩;obtain ⟨b2,off2,e2,g2⟩:=hr j u hu;simp at e2;obtain ⟨rfl,rfl⟩:=e2;exact g2
end Go.Proofs.YtomhbcfjhgecbaaGreatDoor
namespace Go.Proofs.YtomhbcfjhgecbaaGreatDoor
open Go.RowKit Go.Sort Go.Lib
open Go.Lib (hid)
structure RowG {α:Type} (enc:α->List Value) (P:World->α->Prop) (sz:Nat) (T:TypeId) (B:Nat) (w:World) (v:Value) (ys:List α):Prop where
 own:w.ownsRow B T sz v ys.length (ys.flatMap enc)
 ok:∀ y∈ys,P (mask (keepB B v) w) y
def StayP {α:Type} (P:World->α->Prop):Prop:=∀ w w' y,Stays w w'->P w y->P w' y
theorem RowG.to {α:Type} {enc:α->List Value} {P:World->α->Prop} {sz:Nat} {T:TypeId} {B:Nat} {w w':World} {v:Value} {ys:List α} (hP:StayP P) (h:RowG enc P sz T B w v ys) (hk:∀ b,B<=b->b < w.heap.size->w'.heap[b]?=w.heap[b]?):RowG enc P sz T B w' v ys:=
 ⟨own_keep h.own fun g hg=>hk g (own_lt h.own hg).1 (own_lt h.own hg).2,fun y hy=>hP _ _ y (stays_keep fun b hb hlt=>⟨hb,hk b (keepB_out hb).1 hlt⟩) (h.ok y hy)⟩
theorem RowG.below {α:Type} {enc:α->List Value} {P:World->α->Prop} {sz:Nat} {T:TypeId} {B:Nat} {w w':World} {v:Value} {ys:List α} (hP:StayP P) (h:RowG enc P sz T B w v ys) (hb:Below w.heap.size w w'):RowG enc P sz T B w' v ys:=h.to hP fun b _ hl=>hb.block b hl
theorem RowG.push {α:Type} {enc:α->List Value} {P:World->α->Prop} {sz:Nat} {T:TypeId} {B:Nat} {wr w1 w2 w3 w4:World} {v:Value} {ys:List α} {x:α} {g n cap:Nat} (hP:StayP P) (h:RowG enc P sz T B wr v ys) (hB:B<=wr.heap.size) (h1:Below wr.heap.size wr w1) (h2:Below w1.heap.size w1 w2)
  (hx:P (mask (fromB w1.heap.size) w2) x) (h3:Below w2.heap.size w2 w3) (hown:w4.ownsRow B T sz (.slice (some ⟨g,0,none⟩) n cap) (ys ++ [x]).length ((ys ++ [x]).flatMap enc)) (hg:w3.grownBy w4 v.ownBlock) (hat:v.ownBlock=some g ∨ g=w3.heap.size) :
  RowG enc P sz T B w4 (.slice (some ⟨g,0,none⟩) n cap) (ys ++ [x]):=by
 have s1:=h1.size;have s2:=h2.size;have s3:=h3.size;refine ⟨hown,fun y hy=>?_⟩;rcases List.mem_append.1 hy with hy | hy
 . refine hP _ _ y (stays_keep fun b hk hb=>?_) (h.ok y hy)
   have hk:=keepB_out hk;refine ⟨?_,?_⟩
   . refine keepB_mk hk.1 (fun e=>?_)
     have e:g=b:=by simpa [Value.ownBlock] using e
     subst e;rcases hat with e | e
     . exact hk.2 e
     . omega
   . rw [hg.block b (by omega) (fun e=>hk.2 e.symm),h3.block b (by omega),h2.block b (by omega),h1.block b hb]
 . obtain rfl:y=x:=by simpa using hy
   refine hP _ _ y (stays_keep fun b hk hb=>?_) hx;simp only [fromB,decide_eq_true_eq] at hk;have hne:∀ g',v.ownBlock=some g'->g'≠b:=fun g' e=>by have:=(own_lt h.own e).2;omega
   refine ⟨?_,?_⟩
   . refine keepB_mk (by omega) (fun e=>?_)
     have e:g=b:=by simpa [Value.ownBlock] using e
     subst e;rcases hat with e | e
     . exact hne _ e rfl
     . omega
   . rw [hg.block b (by omega) (fun e=>hne b e.symm rfl),h3.block b hb]
def setL:List Value->Nat->List Value->List Value
 | xs,_,[]=>xs
 | xs,o,v :: l=>setL (xs.set o v) (o+1) l
theorem own_setCells {B sz g n cap:Nat} {e:TypeId} : ∀ (l:List Value) {w:World} {xs:List Value} (o:Nat),w.ownsRow B e sz (.slice (some ⟨g,0,none⟩) n cap) n xs->(w.setCells g o l).ownsRow B e sz (.slice (some ⟨g,0,none⟩) n cap) n (setL xs o l)
 | [],w,xs,o,h=>h
 | v :: l,w,xs,o,h=>own_setCells l (o+1) (own_setc5 h o v)
theorem setL_eq:∀ (l xs:List Value) (o:Nat),o+l.length<=xs.length->setL xs o l=xs.take o ++ l ++ xs.drop (o+l.length)
 | [],xs,o,_=>by simp [setL]
 | v :: l,xs,o,h=>by
   rw [List.length_cons] at h;rw [setL,setL_eq l (xs.set o v) (o+1) (by rw [List.length_set];omega),splice_setI xs o v l (by omega),List.length_cons]
theorem flat_setG {α:Type} {enc:α->List Value} {sz:Nat} (he:∀ y,(enc y).length=sz) (y:α):∀ (ys:List α) (k:Nat),k < ys.length->setL (ys.flatMap enc) (k * sz) (enc y)=(ys.set k y).flatMap enc:=by
 have hl:∀ ys:List α,(ys.flatMap enc).length=ys.length * sz:=fun ys=>flat_len enc sz he ys;intro ys k hk
 have hm:k * sz+sz<=ys.length * sz:=by
  have:=Nat.mul_le_mul_right sz (show k+1<=ys.length from hk);rw [Nat.add_mul,Nat.one_mul] at this;exact this
 rw [setL_eq _ _ _ (by rw [hl,he];exact hm),he]
 induction ys generalizing k with
 | nil=>cases hk
 | cons x ys ih =>
   cases k with
   | zero=>simp [List.flatMap_cons,List.drop_append,he]
   | succ k =>
     have hk':k < ys.length:=by simpa using hk
     have hm':k * sz+sz<=ys.length * sz:=by
      have:=Nat.mul_le_mul_right sz (show k+1<=ys.length from hk');rw [Nat.add_mul,Nat.one_mul] at this;exact this
     have:=ih k hk' hm';rw [List.set_cons_succ,List.flatMap_cons,List.flatMap_cons,<-this];rw [show (k+1) * sz=(enc x).length+k * sz by rw [he,Nat.add_mul];omega];rw [List.take_append,List.take_of_length_le (by omega),List.drop_append,List.drop_of_length_le (by omega),List.nil_append];rw [show (enc x).length+k * sz - (enc x).length=k * sz by omega,show (enc x).length+k * sz+sz - (enc x).length=k * sz+sz by omega];simp
theorem RowG.put {α:Type} {enc:α->List Value} {P:World->α->Prop} {sz:Nat} {T:TypeId} {B B0 g n cap:Nat} {w:World} {ys:List α} {y:α} (hP:StayP P) (he:∀ y,(enc y).length=sz) (h:RowG enc P sz T B w (.slice (some ⟨g,0,none⟩) n cap) ys) (hn:n=ys.length) {k:Nat} (hk:k < ys.length)
  (hx:P (mask (fromB B0) w) y) (hB:B<=B0) (hg:g < B0):RowG enc P sz T B (w.setCells g (k * sz) (enc y)) (.slice (some ⟨g,0,none⟩) n cap) (ys.set k y):=by
 subst hn;have hst:∀ b,b≠g->(w.setCells g (k * sz) (enc y)).heap[b]?=w.heap[b]?:=fun b hb=>setCells_other _ _ _ _ hb;have hob:∀ b,(Value.slice (some ⟨g,0,none⟩) ys.length cap).ownBlock≠some b->b≠g:=fun b hb e=>hb (by rw [e];rfl);refine ⟨?_,fun z hz=>?_⟩
 . rw [List.length_set,<-flat_setG he y ys k hk]
   exact own_setCells _ _ h.own
 . rcases List.mem_or_eq_of_mem_set hz with hz | rfl
   . exact hP _ _ z (stays_keep fun b hb hl=>⟨hb,hst b (hob b (keepB_out hb).2)⟩) (h.ok z hz)
   . refine hP _ _ z (stays_keep fun b hb hl=>?_) hx
     simp only [fromB,decide_eq_true_eq] at hb;exact ⟨keepB_mk (by omega) (fun e=>by simp [Value.ownBlock] at e;omega),hst b (by omega)⟩
theorem flat_inG {α:Type} {enc:α->List Value} {sz:Nat} (he:∀ y,(enc y).length=sz) (y:α) (o:Nat) (l:List Value) (hol:o+l.length<=sz):∀ (ys:List α) (k:Nat) (hk:k < ys.length),enc y=(enc ys[k]).take o ++ l ++ (enc ys[k]).drop (o+l.length)->setL (ys.flatMap enc) (k * sz+o) l=(ys.set k y).flatMap enc:=by
 have hl:∀ ys:List α,(ys.flatMap enc).length=ys.length * sz:=fun ys=>flat_len enc sz he ys;intro ys k hk hy
 have hm:k * sz+sz<=ys.length * sz:=by
  have:=Nat.mul_le_mul_right sz (show k+1<=ys.length from hk);rw [Nat.add_mul,Nat.one_mul] at this;exact this
 rw [setL_eq _ _ _ (by rw [hl];omega)]
 induction ys generalizing k with
 | nil=>cases hk
 | cons x ys ih =>
   cases k with
   | zero =>
     simp only [List.getElem_cons_zero] at hy;have:=he x;rw [List.set_cons_zero,List.flatMap_cons,List.flatMap_cons,hy,Nat.zero_mul,Nat.zero_add,List.take_append_of_le_length (by omega),List.drop_append_of_le_length (by omega)];simp
   | succ k =>
     have hk':k < ys.length:=by simpa using hk
     have hm':k * sz+sz<=ys.length * sz:=by
      have:=Nat.mul_le_mul_right sz (show k+1<=ys.length from hk');rw [Nat.add_mul,Nat.one_mul] at this;exact this
     have hq:=ih k hk' (by simpa using hy) hm';rw [List.set_cons_succ,List.flatMap_cons,List.flatMap_cons,<-hq];rw [show (k+1) * sz+o=(enc x).length+(k * sz+o) by rw [he,Nat.add_mul];omega];rw [List.take_append,List.take_of_length_le (by omega),List.drop_append,List.drop_of_length_le (by omega),List.nil_append];rw [show (enc x).length+(k * sz+o) - (enc x).length=k * sz+o by omega,show (enc x).length+(k * sz+o)+l.length - (enc x).length=k * sz+o+l.length by omega];simp
theorem RowG.putIn {α:Type} {enc:α->List Value} {P:World->α->Prop} {sz:Nat} {T:TypeId} {B B0 g n cap:Nat} {w:World} {ys:List α} {y:α} {o:Nat} {l:List Value} (hP:StayP P) (he:∀ y,(enc y).length=sz) (h:RowG enc P sz T B w (.slice (some ⟨g,0,none⟩) n cap) ys) (hn:n=ys.length) {k:Nat} (hk:k < ys.length)
  (hol:o+l.length<=sz) (hy:enc y=(enc ys[k]).take o ++ l ++ (enc ys[k]).drop (o+l.length)) (hx:P (mask (fromB B0) w) y) (hB:B<=B0) (hg:g < B0):RowG enc P sz T B (w.setCells g (k * sz+o) l) (.slice (some ⟨g,0,none⟩) n cap) (ys.set k y):=by
 subst hn;have hst:∀ b,b≠g->(w.setCells g (k * sz+o) l).heap[b]?=w.heap[b]?:=fun b hb=>setCells_other _ _ _ _ hb;have hob:∀ b,(Value.slice (some ⟨g,0,none⟩) ys.length cap).ownBlock≠some b->b≠g:=fun b hb e=>hb (by rw [e];rfl);refine ⟨?_,fun z hz=>?_⟩
 . rw [List.length_set,<-flat_inG he y o l hol ys k hk hy]
   exact own_setCells _ _ h.own
 . rcases List.mem_or_eq_of_mem_set hz with hz | rfl
   . exact hP _ _ z (stays_keep fun b hb hl=>⟨hb,hst b (hob b (keepB_out hb).2)⟩) (h.ok z hz)
   . refine hP _ _ z (stays_keep fun b hb hl=>?_) hx
     simp only [fromB,decide_eq_true_eq] at hb;exact ⟨keepB_mk (by omega) (fun e=>by simp [Value.ownBlock] at e;omega),hst b (by omega)⟩
theorem RowG.sl {α β:Type} {enc:α->List Value} {P:World->α->Prop} {R:World->List Value->β->Prop} {f:α->β} {sz:Nat} {T:TypeId} {B:Nat} {w:World} {v:Value} {ys:List α} (hP:StayP P) (he:∀ y,(enc y).length=sz) (hR:∀ w y,P w y->R w (enc y) (f y)) (h:RowG enc P sz T B w v ys):Sl R sz (mask (fromB B) w) v (ys.map f):=by
 obtain ⟨r,cap,rfl,h1,h2,hx⟩:=sl_of_own enc he (w:=mask (fromB B) w) (own_mask h.own fun g hg=>by
  have:=own_lt h.own hg;simp only [fromB,decide_eq_true_eq];omega)
 refine ⟨r,cap,by rw [List.length_map],by rw [List.length_map];exact h1,h2,fun i hi=>?_⟩;rw [List.length_map] at hi;obtain ⟨b,off,cs,hr,hsz,hcell,hc⟩:=hx i hi;subst hc;refine ⟨b,off,_,hr,hsz,hcell,?_⟩;rw [List.getElem_map];exact hR _ _ (hP _ _ _ (stays_wider fun b hb=>by have:=keepB_out hb;simp only [fromB,decide_eq_true_eq];omega) (h.ok _ (List.getElem_mem hi)))
end Go.Proofs.YtomhbcfjhgecbaaGreatDoor
namespace Go.Proofs.YtomhbcfjhgecbaaGreatDoor
open Go.RowKit Go.Sort Go.Lib
open Go.Lib (hid)
structure Pnd where
 ad:ByteArray
 ty:ByteArray
 tok:ByteArray
structure Sou where
 nm:ByteArray
 v:Val
 se:Bool
structure Sta where
 lin:ByteArray
 ser:Int
 ins:List Ins
 pen:List Pnd
 out:List Sou
def pdE (x:Pnd):List Value:=[.string x.ad,.string x.ty,.string x.tok]
def PdR (_:World) (cs:List Value) (x:Pnd):Prop:=cs=pdE x/\x.ad.size<=maxLen/\x.ty.size<=maxLen/\x.tok.size<=maxLen
theorem pdR_mono:Mono PdR:=fun _ _ _ _ _ h=>h
structure Sop where
 x:Sou
 r:Option Addr
 c:Nat
 rk:Option Addr
 ck:Nat
def soE (y:Sop):List Value:=[.string y.x.nm,.int .i64 y.x.v.kind,.int .i64 y.x.v.num,.string y.x.v.str,.slice y.r y.x.v.items.length y.c,.slice y.rk y.x.v.keys.length y.ck,.bool y.x.se]
def SoP (w:World) (y:Sop):Prop:=VR5 w y.r y.c y.rk y.ck y.x.v/\y.x.nm.size<=maxLen
def SoR (w:World) (cs:List Value) (x:Sou):Prop:=∃ y:Sop,y.x=x/\cs=soE y/\SoP w y
theorem soR_mono:Mono SoR:=fun _ _ _ _ hb ⟨y,h1,h2,h3⟩=>⟨y,h1,h2,h3.1.below hb,h3.2⟩
theorem soP_stays:StayP SoP:=fun _ _ _ hs h=>⟨vr_stays hs h.1,h.2⟩
structure Inp where
 x:Ins
 p:Pt
def inE (y:Inp):List Value:=(insA y.x y.p).toList
def InQ (w:World) (y:Inp):Prop:=InsP w y.x y.p
theorem inQ_stays:StayP InQ:=fun _ _ _ hs h=>⟨vr_stays hs h.1,sls_stays hs h.2.1,h.2.2⟩
structure Sp where
 ri:Option Addr
 ci:Nat
 rp:Option Addr
 cp:Nat
 ro:Option Addr
 co:Nat
def staA (s:Sta) (p:Sp):Array Value:=#[.string s.lin,.int .i64 s.ser,.slice p.ri s.ins.length p.ci,.slice p.rp s.pen.length p.cp,.slice p.ro s.out.length p.co]
def StaP (w:World) (s:Sta) (p:Sp):Prop:=Sl InR 13 w (.slice p.ri s.ins.length p.ci) s.ins/\Sl PdR 3 w (.slice p.rp s.pen.length p.cp) s.pen/\Sl SoR 7 w (.slice p.ro s.out.length p.co) s.out/\i64B s.ser/\s.lin.size<=maxLen
theorem staP_below {w w':World} {s:Sta} {p:Sp} (hb:Below w.heap.size w w') (h:StaP w s p):StaP w' s p:=⟨h.1.below inR_mono hb,h.2.1.below pdR_mono hb,h.2.2.1.below soR_mono hb,h.2.2.2⟩
theorem soR_stays {w w':World} (hs:Stays w w') {cs:List Value} {x:Sou} (h:SoR w cs x):SoR w' cs x:=by
 obtain ⟨y,h1,h2,h3⟩:=h;exact ⟨y,h1,h2,soP_stays _ _ _ hs h3⟩
theorem inR_stays {w w':World} (hs:Stays w w') {cs:List Value} {x:Ins} (h:InR w cs x):InR w' cs x:=by
 obtain ⟨p,h1,h2⟩:=h;exact ⟨p,h1,inQ_stays _ _ ⟨x,p⟩ hs h2⟩
theorem staP_stays {w w':World} {s:Sta} {p:Sp} (hs:Stays w w') (h:StaP w s p):StaP w' s p:=
 ⟨sl_stays hs (fun _ _ h=>inR_stays hs h) h.1,sl_stays hs (fun _ _ h=>h) h.2.1,sl_stays hs (fun _ _ h=>soR_stays hs h) h.2.2.1,h.2.2.2⟩
end Go.Proofs.YtomhbcfjhgecbaaGreatDoor
namespace Go.Proofs.YtomhbcfjhgecbaaGreatDoor
open Go.RowKit Go.Sort Go.Lib
open Go.Lib (hid)
theorem soE_len (y:Sop):(soE y).length=7:=rfl
theorem soE_one (y:Sop):∀ u∈soE y,u.oneCell'=true:=by
 intro u hu;simp [soE] at hu;rcases hu with rfl | rfl | rfl | rfl | rfl | rfl | rfl <;> rfl
theorem row_open {α β:Type} {R:World->List Value->β->Prop} {P:World->α->Prop} {enc:α->List Value} {f:α->β} {sz:Nat} {w:World} {r:Option Addr} {n c:Nat} {xs:List β} (hlen:∀ y,(enc y).length=sz) (hR:∀ cs x,R w cs x->∃ y:α,f y=x/\cs=enc y/\P w y) (h:Sl R sz w (.slice r n c) xs) :
  ∃ ys:List α,ys.map f=xs/\(∀ y∈ys,P w y)/\∀ (j:Nat) (u:Value),(ys.flatMap enc)[j]?=some u->∃ b off,r=some ⟨b,off,none⟩/\w.cell? ⟨b,off+j,none⟩=some u:=by
 obtain ⟨r',c',e,h1,h2,he⟩:=h;simp at e;obtain ⟨rfl,rfl,rfl⟩:=e
 obtain ⟨ys,hl,hy⟩:=list_of xs.length (fun i (y:α)=>∃ h':i < xs.length,f y=xs[i]/\P w y/\∃ b off,r=some ⟨b,off,none⟩/\∀ (j:Nat) (u:Value),(enc y)[j]?=some u->w.cell? ⟨b,off+i * sz+j,none⟩=some u) (fun i hi=>by
  obtain ⟨b,off,cs,hr,_,hc,hv⟩:=he i hi;obtain ⟨y,e1,rfl,e3⟩:=hR _ _ hv;exact ⟨y,hi,e1,e3,b,off,hr,hc⟩)
 refine ⟨ys,?_,fun y hy'=>?_,?_⟩
 . apply List.ext_getElem
   . rw [List.length_map,hl]
   . intro i h3 h4
     rw [List.getElem_map];obtain ⟨_,e,_⟩:=hy i (by simpa using h3);exact e
 . obtain ⟨i,hi,rfl⟩:=List.mem_iff_getElem.1 hy'
   exact (hy i hi).2.2.1
 . intro j u hj
   have hj1:=(List.getElem?_eq_some_iff.1 hj).1;rw [flat_len enc sz hlen] at hj1
   have hsz:0 < sz:=by
    rcases Nat.eq_zero_or_pos sz with h0 | h0
    . rw [h0] at hj1;omega
    . exact h0
   have hi:j / sz < ys.length:=(Nat.div_lt_iff_lt_mul hsz).2 hj1;have hm:j % sz < sz:=Nat.mod_lt _ hsz;have hg:=flat_get enc sz hlen ys (j / sz) hi (j % sz) hm;have hdm:j / sz * sz+j % sz=j:=by rw [Nat.mul_comm];exact Nat.div_add_mod _ _
   rw [hdm,hj] at hg;obtain ⟨_,_,_,b,off,hr,hc⟩:=hy (j / sz) hi;refine ⟨b,off,hr,?_⟩;have:=hc (j % sz) u hg.symm;rw [show off+j / sz * sz+j % sz=off+j by omega] at this;exact this
attribute [local go_sem] Stp.frUpon
attribute [local go_sem ↓] stV_eq
structure Sof where
 y:Sop
 d:Bool
def sofE (z:Sof):List Value:=soE z.y
def SofP (w0:World) (w:World) (z:Sof):Prop:=if z.d then SoP w z.y else SoP w0 z.y
theorem sofP_stays (w0:World):StayP (SofP w0):=fun w w' z hs h=>by
 unfold SofP at *;cases hd:z.d with
 | true=>rw [hd] at h;exact soP_stays _ _ _ hs h
 | false=>rw [hd] at h;exact h
theorem sofE_len (z:Sof):(sofE z).length=7:=rfl
set_option maxRecDepth 100000 in
set_option maxHeartbeats 8000000 in
theorem outputs_any (xs:List Sou) (r:Option Addr) (c:Nat) (w:World) (h:Sl SoR 7 w (.slice r xs.length c) xs) (hf:∀ x∈xs,nodes x.v<=1000000/\nkeys x.v<=1000000) (hn:xs.length<=1000000) :
  Calls Tryz.prog 105 #[.slice r xs.length c] w fun e w'=>∃ v' ys,e=.returned v'/\RowG soE SoP 7 66 w.heap.size w' v' ys/\ys.map (·.x)=xs/\Below w.heap.size w w':=by
 obtain ⟨ys,hy1,hy2,hy3⟩:=row_open (P:=SoP) (enc:=soE) (f:=fun y=>y.x) soE_len (fun cs x ⟨y,h1,h2,h3⟩=>⟨y,h1,h2,h3⟩) h;have hl:ys.length=xs.length:=by rw [<-hy1,List.length_map]
 have hlen:=sl_len h
 have HCL:=hid (soclone (ys.flatMap soE) xs.length r c w (by rw [flat_len soE 7 soE_len,hl]) (by have:=hlen.2.1;omega) hlen.2.2 hn (fun e=>by
  subst e;cases xs with
  | nil=>rfl
  | cons x xs =>
    obtain ⟨_,_,e2,_,_,he⟩:=h;obtain ⟨b,off,_,hr,_⟩:=he 0 (by simp);simp at e2;rw [<-e2.1] at hr;cases hr) hy3 (fun u hu=>by
  obtain ⟨y,_,hu⟩:=List.mem_flatMap.1 hu;exact soE_one y u hu))
 have HO:=hid hy2;have HM:=hid hy1;have HFW:=hid hf;clear h hlen hy3 hy2 hy1 hf;go_enter Tryz.func105,Tryz.ntmps105;go_wp2_with fail
 refine HCL.out.mono ?_;rintro e w3 ⟨v3,rfl,ho3,hb3⟩;obtain ⟨r3,c3,rfl,hc3,hc4⟩:=own_form ho3;have HB3:=hid hb3
 have HR3:=hid (show RowG sofE (SofP w) 7 66 w.heap.size w3 (.slice r3 xs.length c3) (ys.map fun y=>⟨y,false⟩) from ⟨by
  have e:(ys.map fun y=>(⟨y,false⟩:Sof)).flatMap sofE=ys.flatMap soE:=by rw [List.flatMap_map];rfl
  rw [e,List.length_map,hl];exact ho3,fun z hz=>by
  obtain ⟨y,hy,rfl⟩:=List.mem_map.1 hz;exact HO.out y hy⟩)
 clear HCL ho3 hb3;go_wp2_with fail
 have hzz:=hid (show (ys.map fun y=>(⟨y,false⟩:Sof)).map (fun z=>z.y.x)=xs from by rw [List.map_map];exact HM.out);have hlm:=hn;go_loopg [9] xs.length (fun gg s9 wr=>∃ (k:Nat) (zs:List Sof),k<=xs.length/\xs.length - k<=gg/\s9=.int .i64 k/\Hid (RowG sofE (SofP w) 7 66 w.heap.size wr (.slice r3 xs.length c3) zs)/\Hid (Below w.heap.size w wr)/\Hid (zs.map (fun z=>z.y.x)=xs/\∀ (i:Nat) (h:i < zs.length),i < k->zs[i].d=true))
 case atStart=>exact ⟨0,_,by omega,by omega,rfl,HR3,HB3,hid ⟨hzz.out,fun i _ h=>absurd h (by omega)⟩⟩
 case round =>
  clear HR3 HB3 hzz;obtain ⟨k,zs,hk,hgg,rfl,HR,HB,HE⟩:=hrel
  have hzl:zs.length=xs.length:=by
   have:=congrArg List.length HE.out.1
   rwa [List.length_map] at this
  by_cases hlt:k < xs.length
  . have hkz:k < zs.length:=by omega
    obtain ⟨g,rfl⟩:∃ g,r3=some ⟨g,0,none⟩:=by
     rcases HR.out.own.2 with ⟨e,h0⟩ | ⟨g,cap,cur,e,_⟩
     . simp at e;omega
     . simp at e;exact ⟨g,by rw [e.1]⟩
    have hk0:(0:Int)<=(k:Int):=by omega
    have hk1:(k:Int) < (xs.length:Int):=by omega
    have hat:∀ (j:Nat) (u:Value),(sofE (zs[k]'hkz))[j]?=some u->wr.cell? ⟨g,k * 7+j,none⟩=some u:=fun j u hj=>by
     obtain ⟨r',c',e,_,_,he⟩:=sl_of_own sofE sofE_len HR.out.own;simp at e;obtain ⟨rfl,_,rfl⟩:=e;obtain ⟨b,off,cs,hr,_,hc,hv⟩:=he k hkz;simp at hr;obtain ⟨rfl,rfl⟩:=hr;have:=hc j u (by rw [hv];exact hj);simpa using this
    have hzx:(zs[k]'hkz).y.x=xs[k]:=by
     have:=HE.out.1;have h2:(zs.map (fun z=>z.y.x))[k]'(by rw [List.length_map];exact hkz)=xs[k]:=by simp only [this]
     rwa [List.getElem_map] at h2
    have hv5:VR5 wr (zs[k]'hkz).y.r (zs[k]'hkz).y.c (zs[k]'hkz).y.rk (zs[k]'hkz).y.ck (zs[k]'hkz).y.x.v:=by
     have:=HR.out.ok _ (List.getElem_mem hkz);unfold SofP at this;cases hd:(zs[k]'hkz).d with
     | true=>rw [hd] at this;exact vr_stays (stays_mask _ _) this.1
     | false=>rw [hd] at this;exact this.1.below HB.out
    have g0:=hat 1 _ rfl;have g1:wr.cell? ⟨g,k * 7+1+1,none⟩=_:=hat 2 _ rfl;have g2:wr.cell? ⟨g,k * 7+1+2,none⟩=_:=hat 3 _ rfl;have g3:wr.cell? ⟨g,k * 7+1+3,none⟩=_:=hat 4 _ rfl;have g4:wr.cell? ⟨g,k * 7+1+4,none⟩=_:=hat 5 _ rfl;clear hat
    generalize hz:zs[k]'hkz=z at *;go_wp2_with fail
    obtain ⟨hno,hnk⟩:=HFW.out xs[k] (List.getElem_mem hlt);rw [hzx] at hv5;refine (copied_any xs[k].v z.y.r z.y.c z.y.rk z.y.ck wr hv5 hno hnk).mono ?_;rintro e w5 ⟨r8,c8,rk8,ck8,M8,rfl,hX8,hb8⟩;have hR5:=HR.out.below (sofP_stays w) hb8;have hgl:=own_lt HR.out.own (g:=g) rfl
    have hnm:(zs[k]'hkz).y.x.nm.size<=maxLen:=by
     have:=HR.out.ok _ (List.getElem_mem hkz);unfold SofP at this;cases hd:(zs[k]'hkz).d with
     | true=>rw [hd] at this;exact this.2
     | false=>rw [hd] at this;exact this.2
    rw [hz] at hnm;have hRn:=hR5.putIn (o:=1) (l:=[.int .i64 xs[k].v.kind,.int .i64 xs[k].v.num,.string xs[k].v.str,.slice r8 xs[k].v.items.length c8,.slice rk8 xs[k].v.keys.length ck8]) (y:=⟨⟨z.y.x,r8,c8,rk8,ck8⟩,true⟩) (B0:=wr.heap.size) (sofP_stays w) sofE_len hzl.symm hkz (by simp) (by rw [hz];unfold sofE soE;simp [hzx]) (by unfold SofP;simp only [if_true];exact ⟨by rw [hzx];exact hX8.vk,hnm⟩) (by omega) hgl.2;have hc5:Cells5 #[.int .i64 xs[k].v.kind,.int .i64 xs[k].v.num,.string xs[k].v.str,.slice r8 xs[k].v.items.length c8,.slice rk8 xs[k].v.keys.length ck8]:=⟨rfl,by simp [Value.oneCell']⟩
    have ht5:ThereV w5 g (k * 7+1):=by
     rcases hR5.own.2 with ⟨e,_⟩ | ⟨g2,cap,cur,e,_,hg,h1,_,hs,_⟩
     . cases e
     . simp at e
       obtain ⟨rfl,e2,rfl⟩:=e;exact there_blk hg (by rw [hs];omega)
    have hBn:Below w.heap.size w (w5.setCells g (k * 7+1) [.int .i64 xs[k].v.kind,.int .i64 xs[k].v.num,.string xs[k].v.str,.slice r8 xs[k].v.items.length c8,.slice rk8 xs[k].v.keys.length ck8]):=setCells_below _ _ _ _ (HB.out.trans (hb8.mono HB.out.size)) hgl.1;have hs5:(stV ⟨g,k * 7+1,none⟩ (.agg #[.int .i64 xs[k].v.kind,.int .i64 xs[k].v.num,.string xs[k].v.str,.slice r8 xs[k].v.items.length c8,.slice rk8 xs[k].v.keys.length ck8])).run Tryz.prog w5=.ok () (w5.setCells g (k * 7+1) [.int .i64 xs[k].v.kind,.int .i64 xs[k].v.num,.string xs[k].v.str,.slice r8 xs[k].v.items.length c8,.slice rk8 xs[k].v.keys.length ck8]):=stV_run w5 g (k * 7+1) _ ht5 hc5
    have HE2:=hid (show ((zs.set k ⟨⟨z.y.x,r8,c8,rk8,ck8⟩,true⟩).map fun z=>z.y.x)=xs/\∀ (i:Nat) (h:i < (zs.set k ⟨⟨z.y.x,r8,c8,rk8,ck8⟩,true⟩).length),i < k+1->(zs.set k ⟨⟨z.y.x,r8,c8,rk8,ck8⟩,true⟩)[i].d=true from ⟨by
     rw [List.map_set,<-hz];have:=HE.out.1;rw [show (zs[k]'hkz).y.x=(zs.map fun z=>z.y.x)[k]'(by rw [List.length_map];exact hkz) by simp,List.set_getElem_self];exact this,fun i hi hik=>by
     rw [List.getElem_set]
     by_cases hki:k=i
     . rw [if_pos hki]
     . rw [if_neg hki]
       exact HE.out.2 i (by simpa using hi) (by omega)⟩)
    generalize w5.setCells g (k * 7+1) [.int .i64 xs[k].v.kind,.int .i64 xs[k].v.num,.string xs[k].v.str,.slice r8 xs[k].v.items.length c8,.slice rk8 xs[k].v.keys.length ck8]=W6 at *;have HRn:=hid hRn;have HBn:=hid hBn;clear hRn hBn hR5 hc5 ht5 hX8 hb8 hgl hv5 g0 g1 g2 g3 g4 HR HB HE hno hnk hnm;go_wp2_with fail
    go_roundg (xs.length - (k+1))
    case measure=>omega
    case rel=>exact ⟨k+1,_,by omega,by omega,by go_num,HRn,HBn,HE2⟩
  . obtain rfl:k=xs.length:=by omega
    have hk1:decide ((xs.length:Int) < (xs.length:Int))=false:=by simp
    have HF:=hid (show RowG soE SoP 7 66 w.heap.size wr (.slice r3 xs.length c3) (zs.map (·.y)) from ⟨by
     have e:(zs.map (·.y)).flatMap soE=zs.flatMap sofE:=by rw [List.flatMap_map];rfl
     rw [e,List.length_map];exact HR.out.own,fun y hy=>by
     obtain ⟨z,hz,rfl⟩:=List.mem_map.1 hy;have h1:=HR.out.ok z hz;obtain ⟨i,hi,rfl⟩:=List.mem_iff_getElem.1 hz;have h2:=HE.out.2 i hi (by omega);unfold SofP at h1;rw [h2] at h1;exact h1⟩)
    have HG:=hid (show (zs.map (·.y)).map (·.x)=xs from by rw [List.map_map];exact HE.out.1);clear HR HE;go_wp2_with fail
    go_ret
    exact ⟨_,_,rfl,HF.out,HG.out,HB.out⟩
end Go.Proofs.YtomhbcfjhgecbaaGreatDoor
namespace Go.Proofs.YtomhbcfjhgecbaaGreatDoor.Stp
open Go.RowKit Go.Sort Go.Lib Go.Maps
def QS (Q:Exit->Act->World->Prop) (N:Act->World->Prop):Exit->Act->World->Prop
 | .normal,a,w=>N a w
 | e,a,w=>Q e a w
theorem QS_self (Q:Exit->Act->World->Prop):QS Q (fun a w=>Q .normal a w)=Q:=by
 funext e a w;cases e <;> rfl
theorem lets_QS {Q:Exit->Act->World->Prop} {N M:Act->World->Prop} (h:LetsOut (QS Q N)):LetsOut (QS Q M):=by
 obtain ⟨a,w,h⟩:=h;exact ⟨a,w,h⟩
theorem upon_QS {P:Program} {o:Oper} {a:Act} {K:Act->World->Prop} {Q:Exit->Act->World->Prop} {N M:Act->World->Prop} {r:Result Next} (h:o.upon P a K (QS Q N) r):o.upon P a K (QS Q M) r:=by
 cases r with
 | ok x w' =>
   cases x with
   | enter f args =>
     exact Calls.mono h fun e w'' he=>by
      cases e with
      | returned v=>exact he
      | panicked c=>exact he
      | outgrown=>exact lets_QS he
   | value v=>exact h
   | skip=>exact h
   | defer d=>exact h
   | row r args=>exact h
   | _=>exact h
 | halt x w' =>
   cases x <;> exact h
theorem wp_QS {P:Program} {o:Oper} {a:Act} {w:World} {K:Act->World->Prop} {Q:Exit->Act->World->Prop} {N M:Act->World->Prop} (h:o.wp P a w K (QS Q N)):o.wp P a w K (QS Q M):=upon_QS h
theorem wpAny_snoc {P:Program} {md:Region.Mode} {l:List Oper} {o:Oper} {Q:Exit->Act->World->Prop} {N M:Act->World->Prop} (hog:o.guard=none)
  (hQ:∀ a w,N a w->o.wp P a w M (QS Q M))
  (hac:∀ (i:Nat) (x:Oper),l[i]?=some x->∀ e∈x.after,e.on < i) (hgd:∀ (i:Nat) (x:Oper),l[i]?=some x->∀ g b,x.guard=some (g,b)->g < l.length) (hon:∀ e∈o.after,e.on < l.length)
  (hall:∀ j,j < l.length->Bef md (l ++ [o]).toArray j l.length) :
  ∀ (m:Nat) (listed:Array Bool) (a:Act) (w:World),listed.size=l.length->Dwn md (l ++ [o]).toArray (listed.push false) ->
   wpAny P md l.toArray (QS Q N) m listed a w->wpAny P md (l ++ [o]).toArray (QS Q M) (m+1) (listed.push false) a w:=by
 have endc:∀ (m:Nat) (listed:Array Bool) (a:Act) (w:World),listed.size=l.length->Region.ready md l.toArray listed=[]->N a w->wpAny P md (l ++ [o]).toArray (QS Q M) (m+1) (listed.push false) a w:=by
  intro m listed a w hs hr hq;have hl:=all_listed hs hac hr
  have hlt:∀ i,i < l.length->listed.getD i true=true:=fun i hi=>by
   have h1:=hl i hi;have h2:i < listed.size:=by omega
   simp [h2] at h1 ⊢;exact h1
  have hmem:l.length∈Region.ready md (l ++ [o]).toArray (listed.push false):=mem_ready.2 ⟨by rw [getD_push,if_neg (by omega),if_pos hs.symm],o,by simp,fun e he _=>by
   have:=hon e he;rw [getD_push,if_pos (by omega)];exact hl _ this⟩
  have hnone:∀ i,i∈Region.ready md (l ++ [o]).toArray (listed.push false)->i=l.length:=fun i hi=>by
   obtain ⟨h0,x,hx,_⟩:=mem_ready.1 hi;refine Classical.byContradiction fun hne=>?_
   have h1:i < l.length:=by
    have:=(Array.getElem?_eq_some_iff.1 hx).1;simp at this;omega
   rw [getD_push,if_pos (by omega),hlt i h1] at h0;cases h0
  have hdone:Region.ready md (l ++ [o]).toArray ((listed.push false).setIfInBounds l.length true)=[]:=by
   refine List.eq_nil_iff_forall_not_mem.2 fun i hi=>?_;obtain ⟨h0,x,hx,hall2⟩:=mem_ready.1 hi
   by_cases e:l.length=i
   . subst e
     simp [hs] at h0
   . rw [getD_set_ne true e] at h0
     have h1:i < l.length:=by
      have:=(Array.getElem?_eq_some_iff.1 hx).1;simp at this;omega
     rw [getD_push,if_pos (by omega),hlt i h1] at h0;cases h0
  refine ⟨fun h=>(by rw [h] at hmem;cases hmem),fun i hi=>?_⟩;obtain rfl:=hnone i hi;unfold wpOp;have hget:((l ++ [o]).toArray)[l.length]?=some o:=by simp
  rw [hget];simp only;have hwt:Region.wanted o (yielded (l ++ [o]).toArray a.tmps)=true:=by unfold Region.wanted;rw [hog]
  rw [if_pos hwt];exact Or.inl (Oper.wp_mono (fun a' w' h=>wpAny_done (Q':=QS Q M) hdone h m) (hQ a w hq))
 intro m
 induction m with
 | zero =>
   intro listed a w hs hD h;exact endc 0 listed a w hs h.1 h.2
 | succ m ih =>
   intro listed a w hs hD h
   by_cases hr:Region.ready md l.toArray listed=[]
   . exact endc (m+1) listed a w hs hr (h.1 hr)
   obtain ⟨i0,hi0⟩:=List.exists_mem_of_ne_nil _ hr
   have hsub:∀ i,i∈Region.ready md l.toArray listed->i < l.length/\i∈Region.ready md (l ++ [o]).toArray (listed.push false):=fun i hi=>by
    obtain ⟨h0,x,hx,hall2⟩:=mem_ready.1 hi
    have h1:i < l.length:=by
     have:=(Array.getElem?_eq_some_iff.1 hx).1;simpa using this
    refine ⟨h1,mem_ready.2 ⟨by rw [getD_push,if_pos (by omega)];exact h0,x,by rw [<-hx];simp [List.getElem?_append_left h1],fun e he hb=>?_⟩⟩;have:=hall2 e he hb;have h3:=hac i x (by simpa using hx) e he;rw [getD_push,if_pos (by omega)];exact this
   have hlast:∀ i,i∈Region.ready md (l ++ [o]).toArray (listed.push false)->i∈Region.ready md l.toArray listed:=fun i hi=>by
    obtain ⟨h0,x,hx,hall2⟩:=mem_ready.1 hi
    by_cases h1:i < l.length
    . rw [getD_push,if_pos (by omega)] at h0
      have hx':l.toArray[i]?=some x:=by rw [<-hx];simp [List.getElem?_append_left h1]
      refine mem_ready.2 ⟨h0,x,hx',fun e he hb=>?_⟩;have:=hall2 e he hb;have h3:=hac i x (by simpa using hx') e he;rw [getD_push,if_pos (by omega)] at this;exact this
    . have h2:i=l.length:=by
       have:=(Array.getElem?_eq_some_iff.1 hx).1;simp at this;omega
      subst h2;have h4:=bef_ready hD hi (hall i0 (hsub i0 hi0).1);rw [getD_push,if_pos (by have:=(hsub i0 hi0).1;omega)] at h4;exact absurd h4 (not_listed (mem_ready.1 hi0).1)
   refine ⟨fun h0=>(by have:=(hsub i0 hi0).2;rw [h0] at this;cases this),fun i hi=>?_⟩;have hi':=hlast i hi;have hin:=(hsub i hi').1;obtain ⟨_,x,hx,_⟩:=mem_ready.1 hi';have h2:=h.2 i hi';have hDn:=hD.add hi;rw [set_push (by omega)] at hDn ⊢;have key:∀ a' w',wpAny P md l.toArray (QS Q N) m (listed.setIfInBounds i true) a' w'->wpAny P md (l ++ [o]).toArray (QS Q M) (m+1) ((listed.setIfInBounds i true).push false) a' w':=fun a' w' hh=>ih _ _ _ (by simpa using hs) hDn hh;have hx1:(l ++ [o]).toArray[i]?=some x:=by rw [<-hx];simp [List.getElem?_append_left hin]
   unfold wpOp at h2 ⊢;rw [hx] at h2;rw [hx1];simp only at h2 ⊢;rw [wanted_snoc (hgd i x (by simpa using hx))];split
   . rename_i hwt
     rw [if_pos hwt] at h2;rcases h2 with h2 | ⟨h2,h3⟩
     . exact Or.inl (wp_QS (Oper.wp_mono key h2))
     . exact Or.inr ⟨h2,lets_QS h3⟩
   . rename_i hwt
     rw [if_neg hwt] at h2;exact key _ _ h2
def seqW (P:Program) (Q:Exit->Act->World->Prop):List Oper->Act->World->Prop
 | [],a,w=>Q .normal a w
 | o :: s,a,w=>o.wp P a w (seqW P Q s) Q
def tailB:List Oper->List Oper->Bool
 | l,[]=>true
 | l,o :: s=>endB l o && tailB (l ++ [o]) s
theorem dwn_none {md:Region.Mode} {ops:Array Oper} (n:Nat):Dwn md ops (Array.replicate n false):=fun j k _ hk=>by
 exfalso;unfold Array.getD at hk;split at hk <;> simp at hk
theorem wpAny_tail {P:Program} {Q:Exit->Act->World->Prop} : ∀ (s l:List Oper) (m:Nat) (a:Act) (w:World),tailB l s=true->wpAny P .any l.toArray (QS Q (seqW P Q s)) m (Array.replicate l.length false) a w->wpAny P .any (l ++ s).toArray Q (m+s.length) (Array.replicate (l ++ s).length false) a w
 | [],l,m,a,w,_,h=>by
   rw [show QS Q (seqW P Q [])=Q from QS_self Q] at h;simpa using h
 | o :: s,l,m,a,w,ht,h=>by
   unfold tailB at ht;rw [Bool.and_eq_true] at ht;have hL:=ht.1;unfold endB at hL;simp only [Bool.and_eq_true] at hL;obtain ⟨⟨⟨hL1,hL2⟩,hL3⟩,hL4⟩:=hL;have hb:=backB_spec hL1
   have hall:∀ j,j < l.length->Bef .any (l ++ [o]).toArray j l.length:=fun j hj=>befB_spec _ _ (by
    rw [List.all_eq_true] at hL4;exact hL4 j (List.mem_range.2 hj))
   have hon:∀ e∈o.after,e.on < l.length:=fun e he=>by
    have:=Array.all_eq_true_iff_forall_mem.1 hL3 e he;simpa using this
   have h2:=wpAny_snoc (P:=P) (md:=.any) (l:=l) (o:=o) (Q:=Q) (N:=seqW P Q (o :: s)) (M:=seqW P Q s) (by simpa using hL2) (fun a w hh=>by
    have hh:o.wp P a w (seqW P Q s) Q:=hh;have h9:o.wp P a w (seqW P Q s) (QS Q (fun a w=>Q .normal a w)):=by rw [QS_self];exact hh
    exact wp_QS h9) (fun i x hx=>(hb i x hx).1) (fun i x hx=>(hb i x hx).2) hon hall m (Array.replicate l.length false) a w (by simp) (by rw [<-Array.replicate_succ];exact dwn_none _) h
   rw [<-Array.replicate_succ] at h2;have h3:=wpAny_tail s (l ++ [o]) (m+1) a w ht.2 (by simpa using h2);rw [List.append_assoc] at h3;simpa [Nat.add_assoc,Nat.add_comm 1] using h3
theorem wp_region_tail {P:Program} {id:Nat} {Q:Exit->Act->World->Prop} {a:Act} {w:World} {l s ops:List Oper} (sp:Nat->Option Spc) (ho:ops=l ++ s) (hm:P.follows .mixedOrders=true) (hB:Region.lexB .any l.toArray=true) (hL:tailB l s=true)
  (h:wpF P .any l.toArray (fun w'=>∃ p:Regrown,w'=grow (redrawn w p.d) p.os) sp (fun E a'=>∀ w',Grw w w'->(∀ j,E j w')->seqW P Q s a' w') l 0 (fun _ _=>True) a):(Code.region id ops.toArray true).wp P Q a w:=by
 subst ho;simp only [Region.lexB,Bool.and_eq_true] at hB;refine wp_region_any hm ?_;have hF:=wpAnyF_lex (P:=P) (md:=.any) hB.1 l 0 (Array.replicate l.toArray.size false) (fun _ _=>True) a (by simp) (by simpa using hB.2) (dwn_none _) h;have h1:=wpAny_of_F (Q:=fun E a'=>∀ w',Grw w w'->(∀ j,E j w')->seqW P Q s a' w') (Q':=QS Q (seqW P Q s)) (C:=fun w'=>∃ p:Regrown,w'=grow (redrawn w p.d) p.os) (sp:=sp) (fun w1 w2 h1 h2=>grw_lat h1 h2) (fun E a w' hw' hE h=>h w' hw' hE) _ _ (fun _ _=>True) a { w with drawn:=w.drawn+1 } ⟨⟨w.drawn+1,#[]⟩,by rw [grow_empty];rfl⟩ (fun _=>trivial) (fun _ _ _ _ _=>trivial) hF;have h2:=wpAny_tail s l l.length a { w with drawn:=w.drawn+1 } hL (by simpa using h1);simpa using h2
end Go.Proofs.YtomhbcfjhgecbaaGreatDoor.Stp
namespace Go.Proofs.YtomhbcfjhgecbaaGreatDoor
open Go.RowKit Go.Sort Go.Lib
open Go.Lib (hid)
theorem cellv {w:World} {b:Nat} {C:Array Value} {E:TypeId} {fr:Nat × Nat} (h:w.heap[b]?=some (.cells C E fr)) (o:Nat) {v:Value} (hv:C[o]?=some v):w.cell? ⟨b,o,none⟩=some v:=by
 unfold World.cell?;simp [h,hv]
theorem frozen_of {w:World} {b:Nat} {C:Array Value} {E:TypeId} (h:w.heap[b]?=some (.cells C E (0,0))) (o:Nat):w.frozen? ⟨b,o,none⟩=false:=by unfold World.frozen?;simp [h]
theorem lt_of_blk {w:World} {b:Nat} {o:Obj} (h:w.heap[b]?=some o):b < w.heap.size:=(Array.getElem?_eq_some_iff.1 h).1
structure StaF (s:Sta):Prop where
 i:s.ins.length<=1000000
 ix:∀ x∈s.ins,InsF x
 p:s.pen.length<=1000000
 o:s.out.length<=1000000
 ox:∀ x∈s.out,nodes x.v<=1000000/\nkeys x.v<=1000000
theorem pdE_len (x:Pnd):(pdE x).length=3:=rfl
theorem pdE_one (x:Pnd):∀ u∈pdE x,u.oneCell'=true:=by
 intro u hu;simp [pdE] at hu;rcases hu with rfl | rfl | rfl <;> rfl
theorem inE_len (y:Inp):(inE y).length=13:=rfl
theorem inE_one (y:Inp):∀ u∈inE y,u.oneCell'=true:=by
 intro u hu;simp [inE,insA] at hu;rcases hu with rfl | rfl | rfl | rfl | rfl | rfl | rfl | rfl | rfl | rfl | rfl | rfl | rfl <;> rfl
theorem ininfo:(Tryz.prog.info? 41).map (fun i=>(i.zero,i.size,i.bytes))=some (some (.agg #[.string ByteArray.empty,.string ByteArray.empty,.string ByteArray.empty,.string ByteArray.empty,.int .i64 0,.int .i64 0,.string ByteArray.empty,.slice none 0 0,.slice none 0 0,.int .i64 0,.bool false,.bool false,.slice none 0 0]),13,184):=by kernel_rfl
theorem pd_any (xs:List Pnd) (r:Option Addr) (c:Nat) (w:World) (h:Sl PdR 3 w (.slice r xs.length c) xs) (hn:xs.length<=1000000) :
  Calls Tryz.prog 104 #[.slice r xs.length c] w fun e w'=>∃ v',e=.returned v'/\w'.ownsRow w.heap.size 58 3 v' xs.length (xs.flatMap pdE)/\Below w.heap.size w w':=by
 obtain ⟨ys,hy1,hy2,hy3⟩:=row_open (P:=fun _ _=>True) (enc:=pdE) (f:=id) pdE_len (fun cs x ⟨h1,_⟩=>⟨x,rfl,h1,trivial⟩) h;rw [List.map_id] at hy1;subst hy1;have hlen:=sl_len h;refine pdclone (ys.flatMap pdE) ys.length r c w (by rw [flat_len pdE 3 pdE_len]) hlen.2.1 hlen.2.2 hn (fun e=>?_) hy3 (fun u hu=>?_)
 . subst e
   cases ys with
   | nil=>rfl
   | cons x xs =>
     obtain ⟨_,_,e2,_,_,he⟩:=h;obtain ⟨b,off,_,hr,_⟩:=he 0 (by simp);simp at e2;rw [<-e2.1] at hr;cases hr
 . obtain ⟨y,_,hu⟩:=List.mem_flatMap.1 hu
   exact pdE_one y u hu
def ltN (B:Nat) (v:Value):Nat->Bool:=fun b=>decide (b < B) && decide (v.ownBlock≠some b)
theorem ltN_out {B:Nat} {v:Value} {b:Nat} (h:ltN B v b=true):b < B/\v.ownBlock≠some b:=by
 unfold ltN at h;rw [Bool.and_eq_true,decide_eq_true_eq,decide_eq_true_eq] at h;exact h
theorem ltN_mk {B:Nat} {v:Value} {b:Nat} (h1:b < B) (h2:v.ownBlock≠some b):ltN B v b=true:=by
 unfold ltN;rw [Bool.and_eq_true,decide_eq_true_eq,decide_eq_true_eq];exact ⟨h1,h2⟩
def ltM (B B2:Nat) (v:Value):Nat->Bool:=fun b=>ltN B2 v b && decide (B<=b)
theorem ltM_out {B B2:Nat} {v:Value} {b:Nat} (h:ltM B B2 v b=true):b < B2/\v.ownBlock≠some b/\B<=b:=by
 unfold ltM at h;rw [Bool.and_eq_true,decide_eq_true_eq] at h;exact ⟨(ltN_out h.1).1,(ltN_out h.1).2,h.2⟩
theorem ltM_mk {B B2:Nat} {v:Value} {b:Nat} (h1:b < B2) (h2:v.ownBlock≠some b) (h3:B<=b):ltM B B2 v b=true:=by
 unfold ltM;rw [Bool.and_eq_true,decide_eq_true_eq];exact ⟨ltN_mk h1 h2,h3⟩
structure StaO (B B2:Nat) (w:World) (s:Sta) (p:Sp) (is:List Inp):Prop where
 ins:RowG inE InQ 13 41 B2 w (.slice p.ri is.length p.ci) is
 insx:is.map (·.x)=s.ins
 pen:w.ownsRow B 58 3 (.slice p.rp s.pen.length p.cp) s.pen.length (s.pen.flatMap pdE)
 penl:∀ g,(Value.slice p.rp s.pen.length p.cp).ownBlock=some g->g < B2
 penb:∀ x∈s.pen,x.ad.size<=maxLen/\x.ty.size<=maxLen/\x.tok.size<=maxLen
 out:Sl SoR 7 (mask (ltM B B2 (.slice p.rp s.pen.length p.cp)) w) (.slice p.ro s.out.length p.co) s.out
 ser:i64B s.ser
 lin:s.lin.size<=maxLen
 le:B<=B2
 hi:B2<=w.heap.size
theorem own_sl {α β:Type} {enc:α->List Value} {R:World->List Value->β->Prop} {f:α->β} {sz:Nat} {T:TypeId} {B:Nat} {w:World} {v:Value} {ys:List α} (he:∀ y,(enc y).length=sz) (hR:∀ y∈ys,R w (enc y) (f y)) (h:w.ownsRow B T sz v ys.length (ys.flatMap enc)):Sl R sz w v (ys.map f):=by
 obtain ⟨r,cap,rfl,h1,h2,hx⟩:=sl_of_own enc he h;refine ⟨r,cap,by rw [List.length_map],by rw [List.length_map];exact h1,h2,fun i hi=>?_⟩;rw [List.length_map] at hi;obtain ⟨b,off,cs,hr,hsz,hcell,hc⟩:=hx i hi;subst hc;refine ⟨b,off,_,hr,hsz,hcell,?_⟩;rw [List.getElem_map];exact hR _ (List.getElem_mem hi)
theorem StaO.insl {B B2:Nat} {w:World} {s:Sta} {p:Sp} {is:List Inp} (h:StaO B B2 w s p is):is.length=s.ins.length:=by rw [<-h.insx,List.length_map]
theorem inq_r {w:World} {y:Inp} (h:InQ w y):InR w (inE y) y.x:=⟨y.p,rfl,h⟩
theorem row_in {B:Nat} {w:World} {v:Value} {is:List Inp} (h:RowG inE InQ 13 41 B w v is):Sl InR 13 w v (is.map (·.x)):=
 own_sl inE_len (fun y hy=>inq_r (inQ_stays _ _ _ (stays_mask _ _) (h.ok y hy))) h.own
theorem StaO.stap {B B2:Nat} {w:World} {s:Sta} {p:Sp} {is:List Inp} (h:StaO B B2 w s p is):StaP w s p:=by
 refine ⟨?_,?_,sl_stays (stays_mask _ _) (fun _ _=>soR_stays (stays_mask _ _)) h.out,h.ser,h.lin⟩
 . rw [<-h.insl,<-h.insx]
   exact row_in h.ins
 . have:=own_sl (R:=PdR) (f:=id) pdE_len (fun y hy=>⟨rfl,h.penb y hy⟩) h.pen
   rwa [List.map_id] at this
theorem keep5 {w3:World} {bo:Nat} {x0 x1 x2 x3 x4 v:Value} {a:Addr} (h:w3.cell? a=some v) (hne:a.block≠bo):(((((w3.setCell ⟨bo,0,none⟩ x0).setCell ⟨bo,1,none⟩ x1).setCell ⟨bo,2,none⟩ x2).setCell ⟨bo,3,none⟩ x3).setCell ⟨bo,4,none⟩ x4).cell? a=some v:=
 (World.cell?_of_block (setCells_other [x0,x1,x2,x3,x4] w3 bo 0 hne)).trans h
theorem keepA {w3:World} {o:Obj} {a:Addr} {v:Value} (h:w3.cell? a=some v):(w3.alloc o).cell? a=some v:=bget ((Below.refl _ _).alloc (Nat.le_refl _) o) h
theorem cl_store {w3:World} {bo:Nat} {z0 z1 z2 z3 z4:Value} {T:TypeId} (h:w3.heap[bo]?=some (.cells #[z0,z1,z2,z3,z4] T)) (a b c d e:Value) :
  ∃ WE:World,WE=((((w3.setCell ⟨bo,0,none⟩ a).setCell ⟨bo,1,none⟩ b).setCell ⟨bo,2,none⟩ c).setCell ⟨bo,3,none⟩ d).setCell ⟨bo,4,none⟩ e/\WE.heap[bo]?=some (.cells #[a,b,c,d,e] T)/\(∀ k,k≠bo->WE.heap[k]?=w3.heap[k]?)/\WE.heap.size=w3.heap.size/\(∀ (B:Nat) (w0:World),Below B w0 w3->B<=bo->Below B w0 WE):=by
 refine ⟨w3.setCells bo 0 [a,b,c,d,e],rfl,?_,fun k hk=>setCells_other _ _ _ _ hk,setCells_size _ _ _ _,fun B w0 hb hB=>setCells_below _ _ _ _ hb hB⟩;have:=setCells_block [a,b,c,d,e] T w3 bo 0 _ h (by simp);simpa using this
theorem cl_rel {w X w2 Y w3 WE:World} {r2 r3:Option Addr} {n c2 m c3 bo:Nat} {cs:List Value} {ys:List Sop} (h0:w.heap.size<=X.heap.size) (HXY:X.heap.size<=Y.heap.size) (ho2:w2.ownsRow X.heap.size 58 3 (.slice r2 n c2) n cs) (hY:Below w2.heap.size w2 Y) (hR:RowG soE SoP 7 66 Y.heap.size w3 (.slice r3 m c3) ys) (hm:m=ys.length) (h3:Below Y.heap.size Y w3)
  (hpo:bo < X.heap.size ∨ w2.heap.size<=bo) (hro:bo < Y.heap.size ∨ w3.heap.size<=bo) (hk:∀ b,b≠bo->b < w3.heap.size->WE.heap[b]?=w3.heap[b]?) (hs:w3.heap.size<=WE.heap.size) :
  WE.ownsRow w.heap.size 58 3 (.slice r2 n c2) n cs/\(∀ g,(Value.slice r2 n c2).ownBlock=some g->g≠bo/\g < WE.heap.size)/\Sl SoR 7 (mask (fun b=>(ltN WE.heap.size (.slice r2 n c2) b && decide (b≠bo)) && decide (w.heap.size<=b)) WE) (.slice r3 m c3) (ys.map (·.x)):=by
 have y2:=hY.size;have y3:=h3.size
 have hg:∀ g,(Value.slice r2 n c2).ownBlock=some g->g≠bo/\X.heap.size<=g/\g < w2.heap.size:=fun g hg=>by
  have:=own_lt ho2 hg;exact ⟨by omega,this.1,this.2⟩
 refine ⟨own_base (own_keep ho2 fun g h=>?_) h0,fun g h=>?_,?_⟩
 . obtain ⟨a,_,b⟩:=hg g h
   rw [hk g a (by omega),h3.block g (by omega),hY.block g b]
 . obtain ⟨a,_,b⟩:=hg g h
   exact ⟨a,by omega⟩
 . have h1:=RowG.sl (R:=SoR) (f:=fun y:Sop=>y.x) soP_stays soE_len (fun w y h=>⟨y,rfl,rfl,h⟩) hR
   have hst:Stays (mask (fromB Y.heap.size) w3) (mask (fun b=>(ltN WE.heap.size (.slice r2 n c2) b && decide (b≠bo)) && decide (w.heap.size<=b)) WE):=stays_keep fun b hb hl=>by
    simp only [fromB,decide_eq_true_eq] at hb;refine ⟨?_,hk b (by omega) hl⟩;rw [Bool.and_eq_true,Bool.and_eq_true,decide_eq_true_eq,decide_eq_true_eq];have x0:X.heap.size<=Y.heap.size:=HXY;exact ⟨⟨ltN_mk (by omega) (fun e=>by have:=hg b e;omega),by omega⟩,by omega⟩
   subst hm;exact sl_stays hst (fun _ _=>soR_stays hst) h1
theorem insA_inj {x:Ins} {p q:Pt} (h:Value.agg (insA x p)=.agg (insA x q)):p=q:=by
 obtain ⟨a1,a2,a3,a4,a5,a6⟩:=p;obtain ⟨b1,b2,b3,b4,b5,b6⟩:=q;simp [insA] at h;obtain ⟨⟨rfl,rfl⟩,⟨rfl,rfl⟩,rfl,rfl⟩:=h;rfl
namespace Stp
theorem wp_of_step {P:Program} {o:Oper} {a:Act} {w:World} {K:Act->World->Prop} {Q:Exit->Act->World->Prop} {ops:Array Oper} {F:Prop} (hg:o.guard=none) (h:if Region.wanted o (yielded ops a.tmps)=true then Oper.wp P o a w K Q else F):Oper.wp P o a w K Q:=by
 have hw:Region.wanted o (yielded ops a.tmps)=true:=by unfold Region.wanted;rw [hg]
 rwa [if_pos hw] at h
theorem wp_region_tail_5_3 {P:Program} {id:Nat} {Q:Exit->Act->World->Prop} {a:Act} {w:World} {x0 x1 x2 x3 x4 x5 x6 x7:Oper} (sp:Nat->Option Spc) (hm:P.follows .mixedOrders=true) (hB:Region.lexB .any [x0,x1,x2,x3,x4].toArray=true) (hL:tailB [x0,x1,x2,x3,x4] [x5,x6,x7]=true)
  (h:wpF P .any [x0,x1,x2,x3,x4].toArray (fun w'=>∃ p:Regrown,w'=grow (redrawn w p.d) p.os) sp (fun E a'=>∀ w',Grw w w'->(∀ j,E j w')->seqW P Q [x5,x6,x7] a' w') [x0,x1,x2,x3,x4] 0 (fun _ _=>True) a):(Code.region id [x0,x1,x2,x3,x4,x5,x6,x7].toArray true).wp P Q a w:=
 wp_region_tail (l:=[x0,x1,x2,x3,x4]) (s:=[x5,x6,x7]) sp rfl hm hB hL h
def sAgI (B:Nat) (x:Ins):Spc:=⟨fun v=>∃ p,v=.agg (insA x p),fun v w=>∃ p,v=.agg (insA x p)/\InsP (mask (fromB B) w) x p⟩
theorem stAgI (B:Nat) (x:Ins):∀ v,Stb ((sAgI B x).R v):=fun v w w' ⟨p,e,h⟩ hl=>⟨p,e,inQ_stays _ _ ⟨x,p⟩ (stays_below hl) h⟩
def sRwI (B:Nat) (x:Ins):Spc:=⟨fun v=>∃ b,v=.slice (some ⟨b,0,none⟩) 1 1,fun v w=>∃ b p,v=.slice (some ⟨b,0,none⟩) 1 1/\B<=b/\w.heap[b]?=some (.cells (insA x p) 41 (0,0))/\InsP (mask (fromB B) w) x p⟩
theorem stRwI (B:Nat) (x:Ins):∀ v,Stb ((sRwI B x).R v):=fun v w w' ⟨b,p,e,h0,h1,h2⟩ hl=>⟨b,p,e,h0,(Below.block hl b (lt_of_blk h1)).trans h1,inQ_stays _ _ ⟨x,p⟩ (stays_below hl) h2⟩
end Stp
open Stp (Spc Stb sVal stTrue sAgI stAgI sRwI stRwI Lat Bef grw_below wpF_quiet wq grw_ex wpF_told wpF_put wpF_nil wpF_skip noEnter_op)
attribute [local go_sem] Stp.frUpon
attribute [local go_sem ↓] ldI_eq
attribute [local go_sem] ldI_run
attribute [local go_sem ↓] stI_eq
attribute [local go_sem] stI_run thereI_drew thereI_new put13_drew put13_new liesI_new rd13_new liesI_drew rd13_drew
set_option maxRecDepth 100000 in
set_option maxHeartbeats 8000000 in
theorem clone_sta (s:Sta) (p:Sp) (w:World) (h:StaP w s p) (hf:StaF s) :
  Calls Tryz.prog 54 #[.agg (staA s p)] w fun e w'=>∃ p' is B2,e=.returned (.agg (staA s p'))/\StaO w.heap.size B2 w' s p' is/\Below w.heap.size w w':=by
 obtain ⟨ri,ci,rp,cp,ro,co⟩:=p;obtain ⟨hi,hp,ho,hs,hl⟩:=h;dsimp only at hi hp ho;have HPD:=hid (fun (W:World) (hW:Below w.heap.size w W)=>pd_any s.pen rp cp W (hp.below pdR_mono hW) hf.p);have HOU:=hid (fun (W:World) (hW:Below w.heap.size w W)=>outputs_any s.out ro co W (ho.below soR_mono hW) hf.ox hf.o);have HIN:=hid (fun (W:World) (hW:Below w.heap.size w W)=>in_at (hi.below inR_mono hW))
 have HPB:=hid (show ∀ x∈s.pen,x.ad.size<=maxLen/\x.ty.size<=maxLen/\x.tok.size<=maxLen from fun x hx=>by
  obtain ⟨i,hi,rfl⟩:=List.mem_iff_getElem.1 hx;obtain ⟨_,_,e,_,_,he⟩:=hp;obtain ⟨_,_,_,_,_,_,hv⟩:=he i hi;exact hv.2)
 obtain ⟨_,hic,him⟩:=sl_len hi;have HSL:=hid hs;have HLL:=hid hl;have HFI:=hid hf.ix;have hfi:=hf.i;clear hi hp ho hs hl hf;unfold staA;go_enter Tryz.func54,Tryz.ntmps54;go_wp2
 have hb1:Below w.heap.size w ((w.alloc (.cells #[.string s.lin,.int .i64 s.ser,.slice ri s.ins.length ci,.slice rp s.pen.length cp,.slice ro s.out.length co] 26)).alloc (.cells #[.string { data:=#[] },.int .i64 0,.slice none 0 0,.slice none 0 0,.slice none 0 0] 26)):=((Below.refl _ _).alloc (Nat.le_refl _) _).alloc (by simp) _;have hz1:((w.alloc (.cells #[.string s.lin,.int .i64 s.ser,.slice ri s.ins.length ci,.slice rp s.pen.length cp,.slice ro s.out.length co] 26)).alloc (.cells #[.string { data:=#[] },.int .i64 0,.slice none 0 0,.slice none 0 0,.slice none 0 0] 26)).heap.size=w.heap.size+2:=by simp
 have hc1:((w.alloc (.cells #[.string s.lin,.int .i64 s.ser,.slice ri s.ins.length ci,.slice rp s.pen.length cp,.slice ro s.out.length co] 26)).alloc (.cells #[.string { data:=#[] },.int .i64 0,.slice none 0 0,.slice none 0 0,.slice none 0 0] 26)).heap[w.heap.size]?=some (.cells #[.string s.lin,.int .i64 s.ser,.slice ri s.ins.length ci,.slice rp s.pen.length cp,.slice ro s.out.length co] 26):=((MapKept.heap_alloc _ _).2 _ (by simp)).trans (MapKept.heap_alloc w _).1
 have hd1:((w.alloc (.cells #[.string s.lin,.int .i64 s.ser,.slice ri s.ins.length ci,.slice rp s.pen.length cp,.slice ro s.out.length co] 26)).alloc (.cells #[.string { data:=#[] },.int .i64 0,.slice none 0 0,.slice none 0 0,.slice none 0 0] 26)).heap[w.heap.size+1]?=some (.cells #[.string { data:=#[] },.int .i64 0,.slice none 0 0,.slice none 0 0,.slice none 0 0] 26):=by
  have:=(MapKept.heap_alloc (w.alloc (.cells #[.string s.lin,.int .i64 s.ser,.slice ri s.ins.length ci,.slice rp s.pen.length cp,.slice ro s.out.length co] 26)) (.cells #[.string { data:=#[] },.int .i64 0,.slice none 0 0,.slice none 0 0,.slice none 0 0] 26)).1;simpa using this
 generalize ((w.alloc (.cells #[.string s.lin,.int .i64 s.ser,.slice ri s.ins.length ci,.slice rp s.pen.length cp,.slice ro s.out.length co] 26)).alloc (.cells #[.string { data:=#[] },.int .i64 0,.slice none 0 0,.slice none 0 0,.slice none 0 0] 26))=W1 at *;have HB1:=hid hb1;have HZ1:=hid hz1;have HC1:=hid hc1;have HD1:=hid hd1;have q0:W1.cell? ⟨w.heap.size,0,none⟩=some (.string s.lin):=cellv hc1 0 rfl;have q1:W1.cell? ⟨w.heap.size,1,none⟩=some (.int .i64 s.ser):=cellv hc1 1 rfl;have q3:W1.cell? ⟨w.heap.size,3,none⟩=some (.slice rp s.pen.length cp):=cellv hc1 3 rfl;have q4:W1.cell? ⟨w.heap.size,4,none⟩=some (.slice ro s.out.length co):=cellv hc1 4 rfl;have hlt1:w.heap.size < W1.heap.size:=by omega
 clear hb1 hz1 hc1 hd1;go_cut [3] (fun s3 wx=>∃ bo r2 c2 r3 c3,s3=.pointer (some ⟨bo,0,none⟩)/\Hid (wx.heap[bo]?=some (.cells #[.string s.lin,.int .i64 s.ser,.slice none 0 0,.slice r2 s.pen.length c2,.slice r3 s.out.length c3] 26))/\Hid (W1.heap.size<=bo/\Below W1.heap.size W1 wx)/\Hid (wx.ownsRow W1.heap.size 58 3 (.slice r2 s.pen.length c2) s.pen.length (s.pen.flatMap pdE))/\Hid (∀ g,(Value.slice r2 s.pen.length c2).ownBlock=some g->g≠bo/\g < wx.heap.size)/\Hid (Sl SoR 7 (mask (fun b=>(ltN wx.heap.size (.slice r2 s.pen.length c2) b && decide (b≠bo)) && decide (W1.heap.size<=b)) wx) (.slice r3 s.out.length c3) s.out))
 case first =>
  have hB:Below W1.heap.size W1 W1.drew:=(Below.refl _ _).drew
  go_region_held3 (fun w'=>w'.cell? ⟨w.heap.size,0,none⟩=some (.string s.lin)/\w'.cell? ⟨w.heap.size,1,none⟩=some (.int .i64 s.ser)/\w'.cell? ⟨w.heap.size,3,none⟩=some (.slice rp s.pen.length cp)/\w'.cell? ⟨w.heap.size,4,none⟩=some (.slice ro s.out.length co))
   (first | with_reducible exact ⟨keep5 (bget hB q0) (by simp only;omega),keep5 (bget hB q1) (by simp only;omega),keep5 (bget hB q3) (by simp only;omega),keep5 (bget hB q4) (by simp only;omega)⟩ | with_reducible exact ⟨bget hB q0,bget hB q1,bget hB q3,bget hB q4⟩ | with_reducible exact ⟨keepA (bget hB q0),keepA (bget hB q1),keepA (bget hB q3),keepA (bget hB q4)⟩ | go_keep)
   ((first
     | (go_at_call 104
        refine (HPD.out _ (HB1.out.trans (Below.mono (show Below W1.heap.size W1 _ by first | exact hB | exact hB.alloc hB.size _ | exact ((Below.refl _ _).alloc (Nat.le_refl _) _).drew) HB1.out.size))).mono ?_;rintro e w2 ⟨v2,rfl,ho2,hb2⟩;obtain ⟨r2,c2,rfl,hc21,hc22⟩:=own_form ho2;have HO2:=hid ho2;have HB2:=hid hb2
        try have hbo:=(hb2.block W1.heap.size (by simp)).trans (MapKept.heap_alloc W1 _).1
        replace hB:=(show Below W1.heap.size W1 _ by first | exact hB | exact hB.alloc hB.size _ | exact ((Below.refl _ _).alloc (Nat.le_refl _) _).drew).trans (hb2.mono (by first | exact hB.size | (simp;exact Nat.le_succ_of_le hB.size) | (simp)));have hs2:=hB.size;clear ho2 hb2)
     | (go_at_call 105
        refine (HOU.out _ (HB1.out.trans (Below.mono (show Below W1.heap.size W1 _ by first | exact hB | exact hB.alloc hB.size _) HB1.out.size))).mono ?_;rintro e w3 ⟨v3,ys,rfl,hr3,hy3,hb3⟩;obtain ⟨r3,c3,rfl,hc31,hc32⟩:=own_form hr3.own;have HR3:=hid hr3;have HY3:=hid hy3;have HB3:=hid hb3
        try have hbo3:=(hb3.block W1.heap.size (lt_of_blk hbo)).trans hbo
        try have hbo3:=(hb3.block w2.heap.size (by simp)).trans (MapKept.heap_alloc w2 _).1
        try have y0:=cellv hbo3 0 rfl
        try have y1:=cellv hbo3 1 rfl
        try have y2:=cellv hbo3 2 rfl
        try have y3:=cellv hbo3 3 rfl
        try have y4:=cellv hbo3 4 rfl
        try have yf0:=frozen_of hbo3 0
        try have yf1:=frozen_of hbo3 1
        try have yf2:=frozen_of hbo3 2
        try have yf3:=frozen_of hbo3 3
        try have yf4:=frozen_of hbo3 4
        replace hB:=(show Below W1.heap.size W1 _ by first | exact hB | exact hB.alloc hB.size _).trans (hb3.mono (by first | exact hB.size | (simp;exact Nat.le_succ_of_le hB.size) | (simp)));clear hr3 hy3 hb3)))
  all_goals
   rename_i hHeld;clear hHeld;have hyl:ys.length=s.out.length:=by rw [<-HY3.out,List.length_map]
   have z2:=HB2.out.size;have z3:=HB3.out.size;have z1:=HZ1.out
   first
   | (obtain ⟨WE,hWE,k1,k2,k3,k4⟩:=cl_store hbo3 (.string s.lin) (.int .i64 s.ser) (.slice none 0 0) (.slice r2 s.pen.length c2) (.slice r3 ys.length c3)
      rw [<-hWE];have hrel:=cl_rel (w:=W1) (WE:=WE) (by first | (simp;done) | (simp;omega) | omega) (by first | omega | (simp;done) | (simp;omega) | (simp at z2;omega) | (simp at z2 ⊢;omega)) HO2.out (by first | exact Below.refl _ _ | exact (Below.refl _ _).alloc (Nat.le_refl _) _) HR3.out rfl HB3.out (by first | exact Or.inl (by first | (simp;done) | (simp;omega) | omega) | exact Or.inr (by first | (simp;done) | omega)) (by first | exact Or.inl (by first | (simp;done) | (simp at z2;omega) | omega) | exact Or.inr (by first | (simp;done) | omega)) (fun b hb _=>k2 b hb) (Nat.le_of_eq k3.symm);have hBE:=k4 _ _ hB (by first | exact Nat.le_refl _ | omega);have hbE:=lt_of_blk k1;clear hWE k2 k3 k4 hbo3)
   | (have k1:=(MapKept.heap_alloc w3 (.cells #[.string s.lin,.int .i64 s.ser,.slice none 0 0,.slice r2 s.pen.length c2,.slice r3 ys.length c3] 26)).1
      have hrel:=cl_rel (w:=W1) (WE:=w3.alloc (.cells #[.string s.lin,.int .i64 s.ser,.slice none 0 0,.slice r2 s.pen.length c2,.slice r3 ys.length c3] 26)) (bo:=w3.heap.size) (by first | (simp;done) | (simp;omega) | omega) (by first | omega | (simp;done) | (simp;omega) | (simp at z2;omega) | (simp at z2 ⊢;omega)) HO2.out (by first | exact Below.refl _ _ | exact (Below.refl _ _).alloc (Nat.le_refl _) _) HR3.out rfl HB3.out (Or.inr (by first | (simp;done) | omega)) (Or.inr (Nat.le_refl _)) (fun b hb hl=>(MapKept.heap_alloc w3 _).2 b hl) (by simp);have hBE:=hB.alloc hB.size (.cells #[.string s.lin,.int .i64 s.ser,.slice none 0 0,.slice r2 s.pen.length c2,.slice r3 ys.length c3] 26);have hbE:=lt_of_blk k1;generalize w3.alloc (.cells #[.string s.lin,.int .i64 s.ser,.slice none 0 0,.slice r2 s.pen.length c2,.slice r3 ys.length c3] 26)=WE at *)
   rw [hyl] at k1;obtain ⟨g1,g2,g3⟩:=hrel;rw [hyl,HY3.out] at g3;go_wp2
   go_meet
   exact ⟨_,r2,c2,r3,c3,rfl,hid k1,hid ⟨by first | exact Nat.le_refl _ | exact hB.size | omega,hBE⟩,hid g1,hid g2,hid g3⟩
 case rest =>
  obtain ⟨bo,r2,c2,r3,c3,rfl,HBO,HBW,HPO,HGP,HSO⟩:=hcut;have HBw:=hid (HB1.out.trans (HBW.out.2.mono HB1.out.size));have hbo:=lt_of_blk HBO.out;have p2:wc.cell? ⟨w.heap.size,2,none⟩=some (.slice ri s.ins.length ci):=cellv ((HBW.out.2.block w.heap.size hlt1).trans HC1.out) 2 rfl;have HD:=hid (cellv ((HBW.out.2.block (w.heap.size+1) (by have:=HZ1.out;omega)).trans HD1.out) 0 rfl);have hne:w.heap.size≠bo:=by have:=HBW.out.1;omega
  have hne1:w.heap.size+1≠bo:=by have:=HBW.out.1;have:=HZ1.out;omega
  have HB0:=hid (show w.heap.size+1 < wc.heap.size by have:=HBW.out.2.size;have:=HZ1.out;omega);clear q0 q1 q3 q4 HC1 HOU HPD;go_wp2_with fail
  go_loopg [20] s.ins.length (fun gg s20 wr=>∃ (k:Nat) (is:List Inp) (r:Option Addr) (c:Nat),k<=s.ins.length/\s.ins.length - k<=gg/\s20=.int .i64 k/\Hid (RowG inE InQ 13 41 wc.heap.size wr (.slice r is.length c) is)/\Hid (is.map (·.x)=s.ins.take k)/\Hid (wr.heap[bo]?=some (.cells #[.string s.lin,.int .i64 s.ser,.slice r is.length c,.slice r2 s.pen.length c2,.slice r3 s.out.length c3] 26))/\Hid (∀ b,b < wc.heap.size->b≠bo->wr.heap[b]?=wc.heap[b]?)/\Hid (wc.heap.size<=wr.heap.size)/\Hid (Below w.heap.size w wr))
  case atStart=>exact ⟨0,[],none,0,by omega,by omega,rfl,hid ⟨⟨by rfl,Or.inl ⟨rfl,rfl⟩⟩,fun y hy=>by cases hy⟩,hid rfl,HBO,hid (fun _ _ _=>rfl),hid (Nat.le_refl _),HBw⟩
  case round =>
   obtain ⟨k,is,r,c,hk,hgg,rfl,HR,HM,HC,HK,HS,HB⟩:=hrel
   by_cases hlt:k < s.ins.length
   . have hkz:(k:Int) < (s.ins.length:Int):=by omega
     have hk0:(0:Int)<=(k:Int):=by omega
     obtain ⟨b,off,pt,rfl,hbl,hcell,hP⟩:=HIN.out wr HB.out k hlt;have hX:=cellsI s.ins[k] pt;obtain ⟨l1,l2⟩:=liesI_of hX hcell;have hba:Below wr.heap.size wr (wr.alloc (.cells (insA s.ins[k] pt) 41)):=(Below.refl _ _).alloc (Nat.le_refl _) _;have HRC:=hid (fun (W:World) (hW:Below wr.heap.size wr W)=>record_any s.ins[k] pt W (insP_below hW hP) (HFI.out _ (List.getElem_mem hlt)));have hla:=(MapKept.heap_alloc wr (.cells (insA s.ins[k] pt) 41)).1;have hza:(wr.alloc (.cells (insA s.ins[k] pt) 41)).heap.size=wr.heap.size+1:=by simp
     obtain ⟨l3,l4⟩:=liesI_blk hla hX;have hboR:=lt_of_blk HC.out;have c2a:=cellv ((hba.block bo hboR).trans HC.out) 2 rfl;have fza:=frozen_of ((hba.block bo hboR).trans HC.out) 2;have HT:=hid (List.take_succ_eq_append_getElem hlt);clear hcell hP;generalize hXX:insA s.ins[k] pt=X at *;have hPI:=inQ_stays;go_wp2
     generalize hWa:wr.alloc (.cells X 41)=Wa at *;have HRA:=hid (fun (W:World) (hW:Below Wa.heap.size Wa W)=>HRC.out W (hba.trans (hW.mono (by omega))));have HBA:=hid hba;have HLA:=hid (fun (W:World) (hW:Below Wa.heap.size Wa W)=>show LiesI W wr.heap.size 0/\rd13 W wr.heap.size 0=X from ⟨(l3.below hW).1,(l3.below hW).2.trans l4⟩);have HBL:=hid ((hba.block bo hboR).trans HC.out);have HOR:=hid (HR.out.below inQ_stays hba);have HLN:=hid (show is.length+1<=2000000 by have:=congrArg List.length HM.out;simp at this;omega);have HZA:=hid hza;have HLT:=hid hboR;have k1:=fun d os=>cell_regrown c2a d os;rw [show insA s.ins[k] pt=X from hXX] at *;clear hX l1 l2 l3 l4 hla hza hba c2a fza HRC HIN hboR hWa hXX hPI;generalize s.ins[k]=x at *;refine Stp.wp_region_tail_5_3 (fun qq=>match qq with | 2=>some (sVal (.agg X)) | 3=>some (sAgI Wa.heap.size x) | 4=>some (sRwI Wa.heap.size x) | _=>none) (by kernel_rfl) (by kernel_rfl) (by kernel_rfl) ?_
     iterate 2 (refine wq ?_;intro K hK;go_big_quiet_op;go_big_quiet_on)
     refine wpF_told (sVal (.agg X)) (by kernel_rfl) rfl ⟨_,rfl⟩ stTrue (fun w4 hw4 hE4=>?_) ?_
     . have hb4:=grw_below hw4
       obtain ⟨l1,l2⟩:=HLA.out w4 hb4;clear hw4 hE4 hb4;go_simp
       exact ⟨Lat.refl _,rfl,trivial⟩
     rintro _ rfl
     (refine wpF_put ?_;intro K hK;go_simp;refine hK _ ?_;clear hK K)
     refine wpF_told (sAgI Wa.heap.size x) (by kernel_rfl) rfl ⟨_,⟨none,0,none,0,none,0⟩,rfl⟩ (stAgI _ _) (fun w4 hw4 hE4=>?_) ?_
     . have hb4:=grw_below hw4
       have hh:=HRA.out w4 hb4;have hz4:=hb4.size;clear hw4 hE4;go_simp
       go_at_call 50;refine Calls.mono hh ?_;rintro e w5 ⟨p5,rfl,hx5,hb5⟩;exact ⟨_,rfl,hb5,⟨p5,rfl⟩,p5,rfl,inQ_stays _ _ ⟨x,p5⟩ (stays_wider fun b hb=>by simp only [fromB,decide_eq_true_eq] at hb ⊢;omega) hx5⟩
     rintro _ ⟨p5,rfl⟩
     (refine wpF_put ?_;intro K hK;go_simp;refine hK _ ?_;clear hK K)
     refine wpF_told (sRwI Wa.heap.size x) (by kernel_rfl) rfl ⟨_,0,rfl⟩ (stRwI _ _) (fun w4 hw4 hE4=>?_) ?_
     . have hb4:=grw_below hw4
       obtain ⟨p6,e6,h6⟩:=hE4 3 (Bef.one (e:=⟨3,.data⟩) rfl (by simp) rfl rfl);clear hw4 hE4;obtain rfl:=insA_inj e6;unfold insA;go_simp
       exact ⟨(Below.refl _ _).alloc (Nat.le_refl _) _,⟨_,rfl⟩,_,_,rfl,hb4.size,(MapKept.heap_alloc _ _).1,inQ_stays _ _ ⟨x,p5⟩ (stays_below ((Below.refl _ _).alloc (Nat.le_refl _) _)) h6⟩
     rintro _ ⟨nb,rfl⟩
     (refine wpF_put ?_;intro K hK;go_simp;refine hK _ ?_;clear hK K)
     refine wpF_nil ?_;intro w6 hw6 hE6;have hb6:=grw_below hw6;have hnb:=hE6 4;clear hw6 hE6;obtain ⟨nb2,p6,e6,_,hn6,hi6⟩:=hnb;simp at e6;subst e6;have HW6:=hid hb6;have HN6:=hid hn6;have HI6:=hid hi6;have HO6:=hid (HOR.out.below inQ_stays hb6);have HS6:=hid (show wc.heap.size<=w6.heap.size by have:=HS.out;have:=HZA.out;have:=hb6.size;omega);clear hb6 hn6 hi6;simp only [Stp.seqW];refine Stp.wp_of_step rfl (step_append_row (ops:=#[]) (F:=True) inE inE_len inE_one Tryz.underlying22 ininfo rfl (by omega) (by omega) rfl _ _ rfl wc.heap.size (.slice r is.length c) is rfl HO6.out.own nb 1 ⟨x,p6⟩ rfl (fr:=(0,0)) HN6.out HLN.out HS6.out w6.heap.size rfl ?_);intro g cap w7 m1 m2 m3 m4;have hgb:∀ q,(Value.slice r is.length c).ownBlock=some q->wc.heap.size<=q:=fun q hq=>(own_lt HO6.out.own hq).1;have hk7:∀ q,q < wc.heap.size->w7.heap[q]?=w6.heap[q]?:=fun q hq=>m2.block q (by have:=HS6.out;omega) (fun e=>by have:=hgb q e.symm;omega);have hbo7:=(hk7 bo hbo).trans ((HW6.out.block bo (by have:=HLT.out;have:=HZA.out;omega)).trans HBL.out)
     have hgg7:wc.heap.size<=g:=by rcases m3 with h | h
                                   . exact hgb g h
                                   . have:=HS6.out;omega
     have hs7:w6.heap.size<=w7.heap.size:=m2.size;have R7:=RowG.push (x:=(⟨x,p6⟩:Inp)) inQ_stays HR.out HS.out HBA.out HW6.out HI6.out (Below.refl _ _) m1 m2 m3;have B7:=((HB.out.trans (HBA.out.mono HB.out.size)).trans (HW6.out.mono (by have:=HB.out.size;have:=HBA.out.size;omega))).grown m2 (by have:=HS6.out;have:=HBw.out.size;omega) (fun q hq=>by have:=hgb q hq;have:=HBw.out.size;omega);have c7:=cellv hbo7 2 rfl;have f7:=frozen_of hbo7 2
     have hbo8:(w7.setCells bo 2 [.slice (some ⟨g,0,none⟩) (is.length+1) cap]).heap[bo]?=some (.cells #[.string s.lin,.int .i64 s.ser,.slice (some ⟨g,0,none⟩) (is.length+1) cap,.slice r2 s.pen.length c2,.slice r3 s.out.length c3] 26):=by
      have:=setCells_block [.slice (some ⟨g,0,none⟩) (is.length+1) cap] 26 w7 bo 2 _ hbo7 (by simp);simpa using this
     have hk8:∀ q,q≠bo->(w7.setCells bo 2 [.slice (some ⟨g,0,none⟩) (is.length+1) cap]).heap[q]?=w7.heap[q]?:=fun q hq=>setCells_other _ _ _ _ hq;have hz8:=setCells_size [.slice (some ⟨g,0,none⟩) (is.length+1) cap] w7 bo 2;have B8:=setCells_below [.slice (some ⟨g,0,none⟩) (is.length+1) cap] w7 bo 2 B7 (by have:=HBW.out.1;have:=HB1.out.size;omega);have R8:=R7.to inQ_stays (w':=w7.setCells bo 2 [.slice (some ⟨g,0,none⟩) (is.length+1) cap]) (fun q hq _=>hk8 q (by omega))
     have K8:=hid (show ∀ q,q < wc.heap.size->q≠bo->(w7.setCells bo 2 [.slice (some ⟨g,0,none⟩) (is.length+1) cap]).heap[q]?=wc.heap[q]? from fun q hq hn=>by
      have h1:=HS.out;have h2:=HBA.out.size;rw [hk8 q hn,hk7 q hq,HW6.out.block q (by omega),HBA.out.block q (by omega)];exact HK.out q hq hn)
     have M8:=hid (show (is ++ [(⟨x,p6⟩:Inp)]).map (·.x)=s.ins.take (k+1) by rw [HT.out,List.map_append,HM.out];rfl);have S8:=hid (show wc.heap.size<=(w7.setCells bo 2 [.slice (some ⟨g,0,none⟩) (is.length+1) cap]).heap.size by have:=HS6.out;omega);have hcell8:w7.setCells bo 2 [.slice (some ⟨g,0,none⟩) (is.length+1) cap]=w7.setCell ⟨bo,2,none⟩ (.slice (some ⟨g,0,none⟩) (is.length+1) cap):=rfl;rw [hcell8] at *;have HR8:=hid R8;have HB8:=hid B8;have HC8:=hid hbo8;clear R7 R8 B7 B8 hbo7 hbo8 hk7 hk8 hgg7 hcell8 m1 m2 m3 m4 hgb hz8;go_simp
     go_wp2_with fail
     go_roundg (s.ins.length - (k+1))
     case measure=>omega
     case rel=>exact ⟨k+1,is ++ [⟨x,p6⟩],some ⟨g,0,none⟩,cap,by omega,by omega,by go_num,hid (by rw [List.length_append];exact HR8.out),M8,hid (by rw [List.length_append];exact HC8.out),K8,S8,HB8⟩
   . obtain rfl:k=s.ins.length:=by omega
     have hres:=(HK.out _ HB0.out hne1).trans ((HBW.out.2.block (w.heap.size+1) (by have:=HZ1.out;omega)).trans HD1.out);have y0:=cellv hres 0 rfl;have y1:=cellv hres 1 rfl;have y2:=cellv hres 2 rfl;have y3:=cellv hres 3 rfl;have y4:=cellv hres 4 rfl;have yf0:=frozen_of hres 0;have yf1:=frozen_of hres 1;have yf2:=frozen_of hres 2;have yf3:=frozen_of hres 3;have yf4:=frozen_of hres 4;have t0:=cellv HC.out 0 rfl;have t1:=cellv HC.out 1 rfl;have t2:=cellv HC.out 2 rfl;have t3:=cellv HC.out 3 rfl;have t4:=cellv HC.out 4 rfl;obtain ⟨WE,hWE,k1,k2,k3,k4⟩:=cl_store hres (.string s.lin) (.int .i64 s.ser) (.slice r is.length c) (.slice r2 s.pen.length c2) (.slice r3 s.out.length c3);have HRS:=hid hres;go_wp2_with fail
     rw [<-hWE];have hm:is.map (·.x)=s.ins:=by rw [HM.out,List.take_length]
     have hil:is.length=s.ins.length:=by rw [<-hm,List.length_map]
     have g0:=cellv k1 0 rfl;have g1:=cellv k1 1 rfl;have g2:=cellv k1 2 rfl;have g3:=cellv k1 3 rfl;have g4:=cellv k1 4 rfl;have hz1:=HZ1.out;have hsz:=HS.out;have hwb:=HBw.out.size;have hb0:=HB0.out
     have hW:=hid (show StaO w.heap.size wc.heap.size WE s ⟨r,c,r2,c2,r3,c3⟩ is from by
      have hst:Stays (mask (fun b=>(ltN wc.heap.size (.slice r2 s.pen.length c2) b && decide (b≠bo)) && decide (W1.heap.size<=b)) wc) (mask (ltM w.heap.size wc.heap.size (.slice r2 s.pen.length c2)) WE):=stays_keep fun b hb hl=>by
       rw [Bool.and_eq_true,Bool.and_eq_true,decide_eq_true_eq,decide_eq_true_eq] at hb;exact ⟨ltM_mk (ltN_out hb.1.1).1 (ltN_out hb.1.1).2 (by omega),by rw [k2 b (by omega),HK.out b hl hb.1.2]⟩
      refine ⟨HR.out.to inQ_stays (fun q hq _=>k2 q (by omega)),hm,own_base (own_keep HPO.out fun q hq=>?_) (by omega),fun q hq=>(HGP.out q hq).2,HPB.out,sl_stays hst (fun _ _=>soR_stays hst) HSO.out,HSL.out,HLL.out,hwb,by rw [k3];exact hsz⟩;have h1:=HGP.out q hq;have h2:=own_lt HPO.out hq;rw [k2 q (by omega),HK.out q h1.2 h1.1])
     have hBW:=hid (k4 _ _ HB.out (by omega));rw [hil] at g2;clear hWE k1 k2 k3 k4 HR HM HC HK HS HB hz1 hsz hwb hb0 hm;exact bodyPost_ret (v:=.agg (staA s ⟨r,c,r2,c2,r3,c3⟩)) (by simp [results,Tryz.results54,go_sem,staA,g0,g1,g2,g3,g4]) rfl ⟨⟨r,c,r2,c2,r3,c3⟩,is,wc.heap.size,rfl,hW.out,hBW.out⟩
end Go.Proofs.YtomhbcfjhgecbaaGreatDoor
