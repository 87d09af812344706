import Derived.Test.YtomhbcfjhgecbaaGreatDoorN1
import Derived.Deep.LoopGhost
import Derived.IntWalk
import Derived.Lib.Builder
import Derived.Lib.AppendStr
import Derived.Lib.UnsafeStr
import Derived.Laws.Externs
import Derived.Shelf.Unicode.ValidAny
import Derived.Shelf.Spec.TrailingZeros
import Derived.Shelf.Strings.BuilderRune
import Derived.Lib.ValidLaws
import Derived.Lib.MapLaws
import Derived.Laws.BitsLemmas
import Derived.Lib.SmallJoins
import Derived.WalkLawsBesides
import Derived.Lib.OthersKept
import Derived.Lib.IndexAny
import Derived.WalkMore
import Derived.Deep.QuietTactic
import Derived.BigQuiet
import Derived.Lib.RuneCountTail
set_option linter.unusedVariables false
set_option linter.unusedSimpArgs false
namespace Go.Proofs.YtomhbcfjhgecbaaGreatDoor.Adr
open Go.RowKit Go.Sort Go.Lib Go.Maps
open Go.Lib (hid)
def G8 (c:Nat):Bool:=decide (97<=c/\c<=122) || decide (65<=c/\c<=90) || decide (c=95)
def jX (c:Nat):Bool:=decide (48<=c/\c<=57)
def vP (c:Nat):Bool:=G8 c || jX c
def eH (l:List UInt8):Bool:=!l.isEmpty && decide (l.length<=64) && G8 (l.headD 0).toNat && l.all fun c=>vP c.toNat
theorem Vf (c:UInt8):∃ m:Nat,bits BinOp.or IntKind.u8 (c.toNat:Int) 32=(m:Int)/\((97<=m/\m<=122) ↔ ((97<=c.toNat/\c.toNat<=122) ∨ (65<=c.toNat/\c.toNat<=90))):=by
 have:∀ c:Fin 256,∃ m:Fin 256,bits BinOp.or IntKind.u8 (c.val:Int) 32=(m.val:Int)/\((97<=m.val/\m.val<=122) ↔ ((97<=c.val/\c.val<=122) ∨ (65<=c.val/\c.val<=90))):=by decide +kernel
 obtain ⟨m,h⟩:=this ⟨c.toNat,c.toNat_lt⟩;exact ⟨m.val,h⟩
theorem aj (s:ByteArray):s.data.toList.length=s.size:=by rw [Array.length_toList];rfl
theorem eU (s:ByteArray) (i:Nat) (h:i < s.size):s.data.toList[i]'(by rw [aj];exact h)=s[i]:=by rfl
theorem ah {a b:Bool} (h:a=b):Ending.returned (.bool b)=.returned (.bool a):=by rw [h]
theorem kU (c:UInt8):c.toNat<=255:=by have:=c.toNat_lt;omega
theorem pq (c:UInt8) (w:World):Calls Tryz.prog 171 #[.int .u8 c.toNat] w fun e w'=>e=.returned (.bool (G8 c.toNat))/\w=w':=by
 have b:=kU c;generalize c.toNat=n at *
 by_cases f:(97:Int)<=n <;> by_cases g:(n:Int)<=122 <;> by_cases d:(65:Int)<=n <;> by_cases a:(n:Int)<=90 <;> first
  | (exfalso;omega)
  | (go_enter Tryz.func171,Tryz.ntmps171
     go_wp2
     go_ret
     exact ⟨ah (by rw [Bool.eq_iff_iff];simp [G8];omega),rfl⟩)
def okI (i c:Nat):Bool:=G8 c || (decide (i≠0) && jX c)
theorem OX (i c:Nat):okI i c=true ↔ (97<=c/\c<=122 ∨ 65<=c/\c<=90 ∨ c=95) ∨ (i≠0/\48<=c/\c<=57):=by simp [okI,G8,jX];omega
theorem IK {s:ByteArray} (h:∀ j (hj:j < s.size),okI j s[j].toNat=true):eH s.data.toList=(!decide (s.size=0) && decide (s.size<=64)):=by
 unfold eH;have a:=aj s;cases b:s.data.toList with
 | nil=>rw [b] at a;simp at a;simp [<-a]
 | cons x l =>
   have k:s.size=l.length+1:=by rw [<-a,b];rfl
   have i:okI 0 x.toNat=true:=by
    have:=h 0 (by omega);rw [<-eU s 0 (by omega)] at this;simpa [b] using this
   have d:((x :: l).all fun c=>vP c.toNat)=true:=by
    rw [List.all_eq_true];intro c f;rw [<-b] at f;obtain ⟨j,hj,rfl⟩:=List.mem_iff_getElem.1 f;rw [a] at hj;have:=h j hj;rw [eU s j hj];simp [okI,vP,G8,jX] at this ⊢;omega
   have g:G8 x.toNat=true:=by simpa [okI] using i
   rw [d];simp [k,g]
theorem Ll {s:ByteArray} {j:Nat} (hj:j < s.size) (h:okI j s[j].toNat=false):eH s.data.toList=false:=by
 unfold eH;have d:=aj s;cases a:s.data.toList with
 | nil=>rfl
 | cons x l =>
   by_cases b:j=0
   . subst b
     have:G8 x.toNat=false:=by
      rw [<-eU s 0 hj] at h;simpa [okI,a] using h
     simp [this]
   . have:((x :: l).all fun c=>vP c.toNat)=false:=by
      rw [List.all_eq_false];refine ⟨s[j],?_,?_⟩
      . rw [<-a,<-eU s j hj];exact List.getElem_mem _
      . simp [okI,vP,G8,jX] at h ⊢;omega
     rw [this];simp
set_option maxHeartbeats 4000000 in
theorem oH (s:ByteArray) (w:World) (hs:s.size<=2000000):Calls Tryz.prog 83 #[.string s] w fun e w'=>e=.returned (.bool (eH s.data.toList))/\w=w':=by
 have y:=hid (IK (s:=s));have v:=hid (fun j c h=>Ll (s:=s) (j:=j) c h);go_enter Tryz.func83,Tryz.ntmps83;go_wp2
 go_loop [7] (fun i=>∃ k:Nat,k<=s.size/\i=.int .i64 k/\Hid (∀ j (c:j < s.size),j < k->okI j s[j].toNat=true)) (fun i=>s.size - (RowKit.intOf i).toNat)
 case atStart=>exact ⟨0,by omega,rfl,hid (fun j c h=>absurd h (by omega))⟩
 case round =>
  obtain ⟨k,K,rfl,q⟩:=hrel
  by_cases C:k < s.size
  . obtain ⟨m,L,f⟩:=Vf s[k]
    have n:=hid (fun (h:okI k s[k].toNat=true)=>show ∀ j (c:j < s.size),j < k+1->okI j s[j].toNat=true from fun j c J=>by
     by_cases e:j < k
     . exact q.out j c e
     . obtain rfl:j=k:=by omega
       exact h)
    have g:=hid (v.out k C);have M:=kU s[k];have r:=OX k s[k].toNat
    clear q v y;cases a:okI k s[k].toNat
    . have t:=hid (g.out a)
      have d:=mt r.2 (by rw [a];simp);clear r a g n;have B:((s[k].toNat:Int) != 95)=true:=by simp;omega
      have l:(m:Int) < 97 ∨ 122 < (m:Int):=by omega
      rcases l with l | l <;> by_cases u:(k:Int)=0 <;> by_cases F:(s[k].toNat:Int) < 48 <;> first
       | (exfalso;omega)
       | (have D:=u
          first | (have A:((k:Int) == 0)=true:=by simp;omega) | (have A:((k:Int) == 0)=false:=by simp;omega)
          try have I:(57:Int) < (s[k].toNat:Int):=by omega
          clear u D d f;go_wp2
          go_ret
          exact ⟨ah t.out,rfl⟩)
    . have z:=hid (n.out a)
      have d:=r.1 a;clear r a g n
      by_cases b:(s[k].toNat:Int)=95
      . have B:((s[k].toNat:Int) != 95)=false:=by simp;omega
        clear b d f;go_wp2
        go_round
        case rel=>exact ⟨k+1,by omega,by go_num,z⟩
        case measure=>(simp [RowKit.intOf] <;> omega)
      . have B:((s[k].toNat:Int) != 95)=true:=by simp;omega
        by_cases l:(97:Int)<=(m:Int) <;> by_cases H:(m:Int)<=122 <;> first
         | (exfalso;omega)
         | (have p:(97:Int)<=(m:Int)/\(m:Int)<=122:=⟨l,H⟩
            clear b d f p;go_wp2
            go_round
            case rel=>exact ⟨k+1,by omega,by go_num,z⟩
            case measure=>(simp [RowKit.intOf] <;> omega))
         | (have u:((k:Int) == 0)=false:=by simp;omega
            have F:(48:Int)<=(s[k].toNat:Int):=by omega
            have I:(s[k].toNat:Int)<=57:=by omega
            clear b d f;go_wp2
            go_round
            case rel=>exact ⟨k+1,by omega,by go_num,z⟩
            case measure=>(simp [RowKit.intOf] <;> omega))
  . have E:k=s.size:=by omega
    have t:=hid (y.out (fun j c=>q.out j c (by omega)));clear y v q E
    by_cases b:s.size=0
    . have G:s.toList.isEmpty=true:=by rw [ByteArray.toList_eq];have:=aj s;cases h:s.data.toList with | nil=>rfl | cons _ _=>rw [h] at this;simp at this;omega
      have o:=hid (show eH s.data.toList=false by rw [t.out];simp [b]);clear b;go_wp2
      go_ret
      exact ⟨ah o.out,rfl⟩
    . have G:s.toList.isEmpty=false:=by rw [ByteArray.toList_eq];have:=aj s;cases h:s.data.toList with | nil=>rw [h] at this;simp at this;omega | cons _ _=>rfl
      have o:=hid (show eH s.data.toList=decide (s.size<=64) by rw [t.out];simp [b]);clear b;go_wp2
      go_ret
      exact ⟨ah (by rw [o.out,Bool.eq_iff_iff];simp;omega),rfl⟩
def nN (l:List UInt8):Bool:=[[109,111,100,117,108,101],[100,97,116,97],[118,97,114],[108,111,99,97,108],[101,97,99,104],[99,111,117,110,116],[114,101,109,111,116,101],[111,117,116,112,117,116],[112,97,116,104],[115,101,108,102],[99,104,97,110,103,101]].any fun x=>l == x
set_option maxHeartbeats 4000000 in
theorem uX (s:ByteArray) (w:World) (hs:s.size<=2000000):Calls Tryz.prog 99 #[.string s] w fun e w'=>e=.returned (.bool (eH s.data.toList && !nN s.data.toList))/\w=w':=by
 have c:=hid (oH s w hs);have a:=hid (show nN s.data.toList=((s.toList == [109,111,100,117,108,101]) || (s.toList == [100,97,116,97]) || (s.toList == [118,97,114]) || (s.toList == [108,111,99,97,108]) || (s.toList == [101,97,99,104]) || (s.toList == [99,111,117,110,116]) || (s.toList == [114,101,109,111,116,101]) || (s.toList == [111,117,116,112,117,116]) || (s.toList == [112,97,116,104]) || (s.toList == [115,101,108,102]) || (s.toList == [99,104,97,110,103,101])) by rw [ByteArray.toList_eq];simp [nN,Bool.or_assoc]);cases k:(s.toList == [109,111,100,117,108,101])
 case true =>
  have b:=hid (show (eH s.data.toList && !nN s.data.toList)=false by rw [a.out,k];simp);clear a c;go_enter Tryz.func99,Tryz.ntmps99;go_wp2
  go_ret
  exact ⟨ah b.out,rfl⟩
 cases m:(s.toList == [100,97,116,97])
 case true =>
  have b:=hid (show (eH s.data.toList && !nN s.data.toList)=false by rw [a.out,m];simp);clear a c;go_enter Tryz.func99,Tryz.ntmps99;go_wp2
  go_ret
  exact ⟨ah b.out,rfl⟩
 cases o:(s.toList == [118,97,114])
 case true =>
  have b:=hid (show (eH s.data.toList && !nN s.data.toList)=false by rw [a.out,o];simp);clear a c;go_enter Tryz.func99,Tryz.ntmps99;go_wp2
  go_ret
  exact ⟨ah b.out,rfl⟩
 cases j:(s.toList == [108,111,99,97,108])
 case true =>
  have b:=hid (show (eH s.data.toList && !nN s.data.toList)=false by rw [a.out,j];simp);clear a c;go_enter Tryz.func99,Tryz.ntmps99;go_wp2
  go_ret
  exact ⟨ah b.out,rfl⟩
 cases f:(s.toList == [101,97,99,104])
 case true =>
  have b:=hid (show (eH s.data.toList && !nN s.data.toList)=false by rw [a.out,f];simp);clear a c;go_enter Tryz.func99,Tryz.ntmps99;go_wp2
  go_ret
  exact ⟨ah b.out,rfl⟩
 cases i:(s.toList == [99,111,117,110,116])
 case true =>
  have b:=hid (show (eH s.data.toList && !nN s.data.toList)=false by rw [a.out,i];simp);clear a c;go_enter Tryz.func99,Tryz.ntmps99;go_wp2
  go_ret
  exact ⟨ah b.out,rfl⟩
 cases p:(s.toList == [114,101,109,111,116,101])
 case true =>
  have b:=hid (show (eH s.data.toList && !nN s.data.toList)=false by rw [a.out,p];simp);clear a c;go_enter Tryz.func99,Tryz.ntmps99;go_wp2
  go_ret
  exact ⟨ah b.out,rfl⟩
 cases n:(s.toList == [111,117,116,112,117,116])
 case true =>
  have b:=hid (show (eH s.data.toList && !nN s.data.toList)=false by rw [a.out,n];simp);clear a c;go_enter Tryz.func99,Tryz.ntmps99;go_wp2
  go_ret
  exact ⟨ah b.out,rfl⟩
 cases g:(s.toList == [112,97,116,104])
 case true =>
  have b:=hid (show (eH s.data.toList && !nN s.data.toList)=false by rw [a.out,g];simp);clear a c;go_enter Tryz.func99,Tryz.ntmps99;go_wp2
  go_ret
  exact ⟨ah b.out,rfl⟩
 cases l:(s.toList == [115,101,108,102])
 case true =>
  have b:=hid (show (eH s.data.toList && !nN s.data.toList)=false by rw [a.out,l];simp);clear a c;go_enter Tryz.func99,Tryz.ntmps99;go_wp2
  go_ret
  exact ⟨ah b.out,rfl⟩
 cases d:(s.toList == [99,104,97,110,103,101])
 case true =>
  have b:=hid (show (eH s.data.toList && !nN s.data.toList)=false by rw [a.out,d];simp);clear a c;go_enter Tryz.func99,Tryz.ntmps99;go_wp2
  go_ret
  exact ⟨ah b.out,rfl⟩
 have b:=hid (show (eH s.data.toList && !nN s.data.toList)=eH s.data.toList by rw [a.out,k,m,o,j,f,i,p,n,g,l,d];simp);clear a;go_enter Tryz.func99,Tryz.ntmps99;go_wp2_with fail
 refine c.out.mono ?_;rintro e w1 ⟨rfl,q⟩;obtain rfl:=q;go_wp2
 go_ret
 exact ⟨ah b.out,rfl⟩
def IW:List ByteArray:=[⟨#[109,111,100,117,108,101]⟩,⟨#[100,97,116,97]⟩,⟨#[118,97,114]⟩,⟨#[108,111,99,97,108]⟩,⟨#[111,117,116,112,117,116]⟩,⟨#[101,97,99,104]⟩,⟨#[99,111,117,110,116]⟩,⟨#[114,101,109,111,116,101]⟩,⟨#[112,97,116,104]⟩,⟨#[115,101,108,102]⟩,⟨#[99,104,97,110,103,101]⟩]
theorem RY (s:ByteArray):nN s.data.toList=IW.any fun x=>(x.toList == s.toList):=by
 have c:∀ a b:List UInt8,(a == b)=(b == a):=fun a b=>by rw [Bool.eq_iff_iff];simp only [beq_iff_eq];exact ⟨Eq.symm,Eq.symm⟩
 have e:∀ x:ByteArray,x.toList=x.data.toList:=fun x=>ByteArray.toList_eq x;simp only [nN,IW,List.any_cons,List.any_nil,e,Bool.or_false];rw [c s.data.toList [109,111,100,117,108,101]];rw [c s.data.toList [100,97,116,97]];rw [c s.data.toList [118,97,114]];rw [c s.data.toList [108,111,99,97,108]];rw [c s.data.toList [101,97,99,104]];rw [c s.data.toList [99,111,117,110,116]];rw [c s.data.toList [114,101,109,111,116,101]];rw [c s.data.toList [111,117,116,112,117,116]];rw [c s.data.toList [112,97,116,104]];rw [c s.data.toList [115,101,108,102]];rw [c s.data.toList [99,104,97,110,103,101]]
 ac_rfl
theorem DC {s:ByteArray} (h:0 < s.size):s.data.toList.headD 0=s[0]:=by
 have:=eU s 0 h;cases b:s.data.toList with
 | nil=>have a:=aj s;rw [b] at a;simp at a;omega
 | cons x l=>simp [b] at this;simpa using this
theorem Au {s:ByteArray} (h:s.size=0 ∨ 64 < s.size ∨ ∃ h:0 < s.size,G8 s[0].toNat=false):eH s.data.toList=false:=by
 have a:=aj s;unfold eH;rcases h with h | h | ⟨h0,h⟩
 . have:s.data.toList=[]:=List.eq_nil_of_length_eq_zero (by omega)
   rw [this];rfl
 . rw [a,decide_eq_false (by omega)];simp
 . rw [DC h0,h];simp
theorem Sv (i c:Nat) (h:G8 c=true):okI i c=true:=by unfold okI;rw [h];rfl
theorem mD {s:ByteArray} (h:s.size=0):s.toList.isEmpty=true:=by
 rw [ByteArray.toList_eq];have:=aj s;cases a:s.data.toList with
 | nil=>rfl
 | cons _ _=>rw [a] at this;simp at this;omega
theorem gG {s:ByteArray} (h:s.size≠0):s.toList.isEmpty=false:=by
 rw [ByteArray.toList_eq];have:=aj s;cases a:s.data.toList with
 | nil=>rw [a] at this;simp at this;omega
 | cons _ _=>rfl
set_option maxHeartbeats 4000000 in
theorem lH (s:ByteArray) (w:World) (hs:s.size<=2000000):Calls Tryz.prog 128 #[.string s] w fun e w'=>e=.returned (.bool (eH s.data.toList))/\w=w':=by
 by_cases l:s.size=0
 . have b:=hid (Au (Or.inl l))
   have z:=mD l;clear l;go_enter Tryz.func128,Tryz.ntmps128;go_wp2
   go_ret
   exact ⟨ah b.out,rfl⟩
 have z:=gG l;have u:0 < s.size:=by omega
 by_cases t:64 < s.size
 . have b:=hid (Au (Or.inr (Or.inl t)))
   have B:(64:Int) < s.size:=by omega
   clear l t;go_enter Tryz.func128,Tryz.ntmps128;go_wp2
   go_ret
   exact ⟨ah b.out,rfl⟩
 have B:¬ (64:Int) < s.size:=by omega
 have p:=hid (pq s[0] w);cases c:G8 s[0].toNat
 . have b:=hid (Au (Or.inr (Or.inr ⟨u,c⟩)))
   rw [c] at p;clear l t c;go_enter Tryz.func128,Tryz.ntmps128;go_wp2_with (go_at_call 171;refine p.out.mono ?_;rintro e w1 ⟨rfl,rfl⟩)
   go_ret
   exact ⟨ah b.out,rfl⟩
 have r:=hid (fun h=>(IK (s:=s) h).trans (by rw [decide_eq_false l,decide_eq_true (show s.size<=64 by omega)]));have q:=hid (fun j m h=>Ll (s:=s) (j:=j) m h);have A:=hid c;rw [c] at p;clear l t c;go_enter Tryz.func128,Tryz.ntmps128;go_wp2_with (go_at_call 171;refine p.out.mono ?_;rintro e w1 ⟨rfl,rfl⟩)
 go_loop [3] (fun i=>∃ k:Nat,k<=s.size/\i=.int .i64 k/\Hid (∀ j (m:j < s.size),j < k->okI j s[j].toNat=true)) (fun i=>s.size - (RowKit.intOf i).toNat)
 case atStart=>exact ⟨0,by omega,rfl,hid (fun j m h=>absurd h (by omega))⟩
 case round =>
  obtain ⟨k,E,rfl,n⟩:=hrel
  by_cases y:k < s.size
  . have g:=hid (fun (h:okI k s[k].toNat=true)=>show ∀ j (m:j < s.size),j < k+1->okI j s[j].toNat=true from fun j m C=>by
     by_cases e:j < k
     . exact n.out j m e
     . obtain rfl:j=k:=by omega
       exact h)
    have f:=hid (q.out k y);have d:=hid (pq s[k] w);have F:=kU s[k];cases a:G8 s[k].toNat
    . have o:k≠0:=fun e=>by subst e;rw [A.out] at a;cases a
      rw [a] at d
      by_cases D:(s[k].toNat:Int) < 48
      . have b:=hid (f.out (by unfold okI jX;rw [a];simp;omega))
        clear q n r a f g o;go_wp2_with (go_at_call 171;refine d.out.mono ?_;rintro e w1 ⟨rfl,rfl⟩)
        go_ret
        exact ⟨ah b.out,rfl⟩
      . by_cases G:(57:Int) < (s[k].toNat:Int)
        . have b:=hid (f.out (by unfold okI jX;rw [a];simp;omega))
          clear q n r a f g o;go_wp2_with (go_at_call 171;refine d.out.mono ?_;rintro e w1 ⟨rfl,rfl⟩)
          go_ret
          exact ⟨ah b.out,rfl⟩
        . have v:=hid (g.out (by unfold okI jX;rw [decide_eq_true (show 48<=s[k].toNat/\s[k].toNat<=57 by omega),decide_eq_true o];simp))
          clear q n r a f g o;go_wp2_with (go_at_call 171;refine d.out.mono ?_;rintro e w1 ⟨rfl,rfl⟩)
          go_round
          case rel=>exact ⟨k+1,by omega,by go_num,v⟩
          case measure=>(simp [RowKit.intOf] <;> omega)
    . have v:=hid (g.out (Sv _ _ a))
      rw [a] at d;clear q n r a f g;go_wp2_with (go_at_call 171;refine d.out.mono ?_;rintro e w1 ⟨rfl,rfl⟩)
      go_round
      case rel=>exact ⟨k+1,by omega,by go_num,v⟩
      case measure=>(simp [RowKit.intOf] <;> omega)
  . have b:=hid (r.out (fun j m=>n.out j m (by omega)))
    clear r q n;go_wp2
    go_ret
    exact ⟨ah b.out,rfl⟩
set_option maxHeartbeats 4000000 in
theorem qN (s:ByteArray) (w:World):Calls Tryz.prog 196 #[.string s] w fun e w'=>e=.returned (.bool (nN s.data.toList))/\Below w.heap.size w w':=by
 have a:=hid (RY s);have r:=hid (show Below w.heap.size w (w.alloc (.cells #[.string ⟨#[109,111,100,117,108,101]⟩,.string ⟨#[100,97,116,97]⟩,.string ⟨#[118,97,114]⟩,.string ⟨#[108,111,99,97,108]⟩,.string ⟨#[111,117,116,112,117,116]⟩,.string ⟨#[101,97,99,104]⟩,.string ⟨#[99,111,117,110,116]⟩,.string ⟨#[114,101,109,111,116,101]⟩,.string ⟨#[112,97,116,104]⟩,.string ⟨#[115,101,108,102]⟩,.string ⟨#[99,104,97,110,103,101]⟩] 9)) from (Below.refl _ _).alloc (Nat.le_refl _) _)
 have u:∀ k (l:k < 11),(w.alloc (.cells #[.string ⟨#[109,111,100,117,108,101]⟩,.string ⟨#[100,97,116,97]⟩,.string ⟨#[118,97,114]⟩,.string ⟨#[108,111,99,97,108]⟩,.string ⟨#[111,117,116,112,117,116]⟩,.string ⟨#[101,97,99,104]⟩,.string ⟨#[99,111,117,110,116]⟩,.string ⟨#[114,101,109,111,116,101]⟩,.string ⟨#[112,97,116,104]⟩,.string ⟨#[115,101,108,102]⟩,.string ⟨#[99,104,97,110,103,101]⟩] 9)).cell? ⟨w.heap.size,k,none⟩=some (.string (IW[k]'(by simpa [IW] using l))):=fun k l=>by
  refine aX rfl ?_;have:k=0 ∨ k=1 ∨ k=2 ∨ k=3 ∨ k=4 ∨ k=5 ∨ k=6 ∨ k=7 ∨ k=8 ∨ k=9 ∨ k=10:=by omega
  rcases this with rfl | rfl | rfl | rfl | rfl | rfl | rfl | rfl | rfl | rfl | rfl <;> rfl
 have m:=hid u;clear u;go_enter Tryz.func196,Tryz.ntmps196;go_wp2
 generalize w.alloc (.cells #[.string ⟨#[109,111,100,117,108,101]⟩,.string ⟨#[100,97,116,97]⟩,.string ⟨#[118,97,114]⟩,.string ⟨#[108,111,99,97,108]⟩,.string ⟨#[111,117,116,112,117,116]⟩,.string ⟨#[101,97,99,104]⟩,.string ⟨#[99,111,117,110,116]⟩,.string ⟨#[114,101,109,111,116,101]⟩,.string ⟨#[112,97,116,104]⟩,.string ⟨#[115,101,108,102]⟩,.string ⟨#[99,104,97,110,103,101]⟩] 9)=W at *;go_loop [4] (fun i=>∃ k:Nat,k<=11/\i=.int .i64 k/\Hid (∀ j (b:j < IW.length),j < k->(IW[j].toList == s.toList)=false)) (fun i=>11 - (RowKit.intOf i).toNat)
 case atStart=>exact ⟨0,by omega,rfl,hid (fun j b h=>absurd h (by omega))⟩
 case round =>
  obtain ⟨k,l,rfl,d⟩:=hrel
  by_cases f:k < 11
  . have g:=m.out k f
    have p:k < IW.length:=by simpa [IW] using f
    have n:=hid (fun (h:(IW[k].toList == s.toList)=false)=>show ∀ j (b:j < IW.length),j < k+1->(IW[j].toList == s.toList)=false from fun j b y=>by
     by_cases e:j < k
     . exact d.out j b e
     . obtain rfl:j=k:=by omega
       exact h)
    have c:=hid (fun (h:(IW[k].toList == s.toList)=true)=>show nN s.data.toList=true by rw [a.out,List.any_eq_true];exact ⟨_,List.getElem_mem p,h⟩);clear d m a;generalize IW[k]=x at *;cases t:(x.toList == s.toList)
    . have q:=hid (n.out t)
      clear n c;go_wp2
      go_round
      case rel=>exact ⟨k+1,by omega,by go_num,q⟩
      case measure=>(simp [RowKit.intOf] <;> omega)
    . have o:=hid (c.out t)
      clear n c;go_wp2
      go_ret
      exact ⟨ah o.out,r.out⟩
  . have o:=hid (show nN s.data.toList=false by
     rw [a.out,List.any_eq_false];intro x v;obtain ⟨j,b,rfl⟩:=List.mem_iff_getElem.1 v;have:=d.out j b (by have:IW.length=11:=rfl;omega);rw [this];simp)
    clear d a m;go_wp2
    go_ret
    exact ⟨ah o.out,r.out⟩
theorem Fe:(Tryz.prog.info? 5).map (fun i=>(i.zero,i.size,i.bytes))=some (some (.int .u8 0),1,1):=by kernel_rfl
theorem Ja:(Tryz.prog.info? 205).map (·.size)=some 2:=by kernel_rfl
theorem IA:liesAt Tryz.prog Tryz.prog.depth 205 (2 / Tryz.prog.cellsOf 205) 0 205 1=true:=by kernel_rfl
abbrev BL (B b:Nat) (l:List UInt8) (w:World):Prop:=Lib.IsBuilder 205 5 B b (Lib.byteCells l) w
set_option maxHeartbeats 2000000 in
set_option maxRecDepth 100000 in
theorem yh (B b:Nat) (bs:List Value) (w:World) (h:Lib.IsBuilder 205 5 B b bs w) :
  Calls Tryz.prog 218 #[.pointer (some ⟨b,0,none⟩)] w fun e w'=>e=.returned (.tuple #[])/\(Lib.BuilderAt 205 5 B b (.pointer (some ⟨b,0,none⟩)) bs w'/\Below B w w'):=by
 obtain ⟨j,c,d⟩:=Option.map_eq_some_iff.1 Ja;rcases h with h | h
 . have f:=h.cell0
   have a:=h.shape;have g:=h.frozen0;have H:=hid h;clear h;go_enter Tryz.func218,Tryz.ntmps218;go_wp2
   rw [Lib.run_to_unsafe w ⟨b,0,none⟩ Tryz.underlying203 Tryz.underlying255 c (by rw [d];decide) a (Nat.zero_lt_succ 1)];simp only [Result.andThen];rw [Oper.upon_value];go_wp2
   rw [run_callFunc_extern Tryz.func239 (by kernel_rfl) (by kernel_rfl) (by kernel_rfl) (e:=Extern.AbiNoEscape.same) (by kernel_rfl)];rw [Lib.run_noEscape];simp only [Result.andThen];rw [Oper.upon_value];go_wp2
   rw [Lib.run_from_unsafe w ⟨b,0,none⟩ Tryz.underlying255 Tryz.underlying203 c a IA];simp only [Result.andThen];rw [Oper.upon_value];go_wp2
   go_end0
   exact ⟨rfl,H.out.used _,(Below.refl B w).setCell (p:=⟨b,0,none⟩) H.out.1 _⟩
 . have f:=h.cell0
   have H:=hid h;clear h;go_enter Tryz.func218,Tryz.ntmps218;go_wp2
   rw [Lib.run_neq_ptr_same w _ Tryz.underlying203 c];go_wp2
   go_end0
   exact ⟨rfl,H.out,Below.refl B _⟩
set_option maxHeartbeats 2000000 in
set_option maxRecDepth 100000 in
theorem Ju (B b:Nat) (bs:List Value) (c:Int) (w:World) (h:Lib.IsBuilder 205 5 B b bs w) (hlen:bs.length+1<=140737488355328) (hBw:B<=w.heap.size) :
  Calls Tryz.prog 184 #[.pointer (some ⟨b,0,none⟩),.int .u8 c] w fun e w'=>e=.returned .nilIface/\(Lib.BuilderAt 205 5 B b (.pointer (some ⟨b,0,none⟩)) (bs ++ [.int .u8 c]) w'/\Below B w w'):=by
 obtain ⟨D,E,y,q,A⟩:=info_parts Fe;go_enter Tryz.func184,Tryz.ntmps184;go_wp2_with (go_at_call 218;refine (yh B b bs _ h).mono ?_)
 rintro e w1 ⟨rfl,H,a⟩;obtain ⟨r,v,l,n,s⟩:=H;have L:w1.cell? ⟨b,0,none⟩=some (.pointer (some ⟨b,0,none⟩)):=by rw [Lib.cell_of_heap l];rfl
 have z:w1.cell? ⟨b,1,none⟩=some v:=by rw [Lib.cell_of_heap l];rfl
 go_wp2_with (at_builtin;refine wpList_append_own _ rfl _ _ 178 rfl B 5 D (.int .u8 0) 1 1 Tryz.underlying178 E y q A rfl (by decide) _ _ _ rfl (n.alloc _) ⟨w1.heap.size,0,none⟩ 1 1 [.int .u8 c] rfl rfl ?z ?c2 ?c3 ?c4 ?c5 ?_)
 case z =>
  intro j u o
  match j,o with
  | 0,o=>simp at o;subst o;simp [Addr.add]
 case c2=>intro u t;simp at t;subst t;rfl
 case c3=>unfold maxLen;omega
 case c4=>omega
 case c5=>have:=a.size;simp;omega
 intro G w2 m f _
 have C:b < w1.heap.size:=by
  rcases Nat.lt_or_ge b w1.heap.size with h' | h'
  . exact h'
  . simp [Array.getElem?_eq_none h'] at l
 have d:w2.heap[b]?=some (.cells #[.pointer (some ⟨b,0,none⟩),v] 205 (0,0)):=by
  rw [f.block b (by simp;omega) (fun e=>s e.symm),Lib.alloc_old w1 _ b C];exact l
 have J:w2.cell? ⟨b,0,none⟩=some (.pointer (some ⟨b,0,none⟩)):=by rw [Lib.cell_of_heap d];rfl
 have K:w2.cell? ⟨b,1,none⟩=some v:=by rw [Lib.cell_of_heap d];rfl
 have I:w2.frozen? ⟨b,1,none⟩=false:=Lib.frozen_of_heap d 1
 obtain ⟨g,i,rfl⟩:∃ g i,G=.slice (some ⟨g,0,none⟩) (bs.length+1) i:=by
  rcases m.2 with ⟨_,h0⟩ | ⟨g,i,cur,hv,_⟩
  . omega
  . exact ⟨g,i,hv⟩
 go_wp2
 go_ret
 refine ⟨rfl,?_,?_⟩
 . exact Lib.BuilderAt.put (T:=205) (e:=5) r d (bs':=bs ++ [.int .u8 c]) (by simpa using m) (by decide)
 . exact ((a.alloc (by have:=a.size;omega) _).grown f (by have:=a.size;simp;omega) (fun k F=>(n.lt k F).1)).setCell (p:=⟨b,1,none⟩) r _
set_option maxHeartbeats 2000000 in
set_option maxRecDepth 100000 in
theorem Og (B b:Nat) (bs:List Value) (s:ByteArray) (w:World) (h:Lib.IsBuilder 205 5 B b bs w) (hlen:bs.length+s.size<=140737488355328) (hBw:B<=w.heap.size) :
  Calls Tryz.prog 185 #[.pointer (some ⟨b,0,none⟩),.string s] w fun e w'=>e=.returned (.tuple #[.int .i64 s.size,.nilIface])/\(Lib.BuilderAt 205 5 B b (.pointer (some ⟨b,0,none⟩)) (bs ++ Lib.strCells s) w'/\Below B w w'):=by
 obtain ⟨z,A,t,m,y⟩:=info_parts Fe;go_enter Tryz.func185,Tryz.ntmps185;go_wp2_with (go_at_call 218;refine (yh B b bs _ h).mono ?_)
 rintro e w1 ⟨rfl,E,j⟩;obtain ⟨n,v,f,l,q⟩:=E;have K:w1.cell? ⟨b,0,none⟩=some (.pointer (some ⟨b,0,none⟩)):=by rw [Lib.cell_of_heap f];rfl
 have H:w1.cell? ⟨b,1,none⟩=some v:=by rw [Lib.cell_of_heap f];rfl
 go_wp2_with (at_builtin;refine Lib.wpList_append_own_string _ rfl _ _ 178 9 rfl B 5 z Tryz.underlying178 Tryz.underlying9 A t m y _ _ _ rfl l s rfl ?c3 ?c4 ?c5 ?_)
 case c3=>unfold maxLen;omega
 case c4=>omega
 case c5=>have:=j.size;omega
 intro D w2 i c _
 have F:b < w1.heap.size:=by
  rcases Nat.lt_or_ge b w1.heap.size with h' | h'
  . exact h'
  . simp [Array.getElem?_eq_none h'] at f
 have a:w2.heap[b]?=some (.cells #[.pointer (some ⟨b,0,none⟩),v] 205 (0,0)):=by
  rw [c.block b (by omega) (fun e=>q e.symm)];exact f
 have I:w2.cell? ⟨b,0,none⟩=some (.pointer (some ⟨b,0,none⟩)):=by rw [Lib.cell_of_heap a];rfl
 have J:w2.cell? ⟨b,1,none⟩=some v:=by rw [Lib.cell_of_heap a];rfl
 have G:w2.frozen? ⟨b,1,none⟩=false:=Lib.frozen_of_heap a 1
 obtain ⟨r,u,d,o⟩:∃ r u d,D=.slice r u d:=by
  rcases i.2 with ⟨hv,h0⟩ | ⟨g,d,cur,hv,_⟩
  . exact ⟨none,0,0,hv⟩
  . exact ⟨_,_,d,hv⟩
 subst o;go_wp2
 go_ret2
 refine ⟨rfl,?_,?_⟩
 . exact Lib.BuilderAt.put (T:=205) (e:=5) n a (bs':=bs ++ Lib.strCells s) (by simpa [Lib.strCells_length] using i) (by decide)
 . exact (j.grown c (by have:=j.size;omega) (fun k C=>(l.lt k C).1)).setCell (p:=⟨b,1,none⟩) n _
theorem oJ (B b:Nat) (l:List UInt8) (c:UInt8) (w:World) (h:BL B b l w) (hlen:l.length<=1000000000) (hBw:B<=w.heap.size) :
  Calls Tryz.prog 184 #[.pointer (some ⟨b,0,none⟩),.int .u8 c.toNat] w fun e w'=>e=.returned .nilIface/\BL B b (l ++ [c]) w'/\Below B w w':=by
 refine (Ju B b _ c.toNat w h (by simp [Lib.byteCells];omega) hBw).mono ?_;rintro e w' ⟨rfl,d,a⟩;refine ⟨rfl,Or.inr ?_,a⟩;have e:Lib.byteCells (l ++ [c])=Lib.byteCells l ++ [.int .u8 c.toNat]:=by simp [Lib.byteCells]
 rw [e];exact d
theorem og (B b:Nat) (l:List UInt8) (s:ByteArray) (w:World) (h:BL B b l w) (hlen:l.length<=1000000000) (hs:s.size<=1000000000) (hBw:B<=w.heap.size) :
  Calls Tryz.prog 185 #[.pointer (some ⟨b,0,none⟩),.string s] w fun e w'=>e=.returned (.tuple #[.int .i64 s.size,.nilIface])/\BL B b (l ++ s.data.toList) w'/\Below B w w':=by
 refine (Og B b _ s w h (by simp [Lib.byteCells];omega) hBw).mono ?_;rintro e w' ⟨rfl,c,a⟩;refine ⟨rfl,Or.inr ?_,a⟩;have e:Lib.byteCells (l ++ s.data.toList)=Lib.byteCells l ++ Lib.strCells s:=by simp [Lib.byteCells,Lib.strCells]
 rw [e];exact c
theorem FQ (w:World) (B:Nat) (hB:B<=w.heap.size):BL B w.heap.size [] (w.alloc (.cells #[.pointer none,.slice none 0 0] 205)):=
 Or.inl ⟨hB,.slice none 0 0,(MapKept.heap_alloc w _).1,World.ownsRow_nil _ _ _ _,by simp [Value.ownBlock]⟩
structure WT (w:World):Prop where
 u:Lib.Utf8Tabs 0 1 w
 d:TabAt 7 Lib.deBruijn64tab w
 r:∃ ev,w.cell? ⟨5,0,none⟩=some ev/\(ev=.nilIface ∨ ∃ te pe,ev=.iface te pe)
theorem WT.below {w w':World} (h:WT w) (hb:Below w.heap.size w w'):WT w':=
 ⟨⟨fun c hc=>az hb (h.u.1 c hc),fun i hi=>⟨az hb (h.u.2 i hi).1,az hb (h.u.2 i hi).2⟩⟩,fun j hj=>az hb (h.d j hj),by
   obtain ⟨ev,h1,h2⟩:=h.r;exact ⟨ev,az hb h1,h2⟩⟩
def jP (d:Nat):UInt8:=UInt8.ofNat (if d < 10 then 48+d else 87+d)
def hexN (u:Nat):List UInt8:=if u < 16 then [jP u] else [jP (u / 16),jP (u % 16)]
theorem PG:∀ j:Fin 16,((⟨#[48,49,50,51,52,53,54,55,56,57,97,98,99,100,101,102,103,104,105,106,107,108,109,110,111,112,113,114,115,116,117,118,119,120,121,122]⟩:ByteArray)[j.val]'(Nat.lt_of_lt_of_le j.isLt (by decide:16<=36))).toNat=(jP j.val).toNat:=by decide +kernel
theorem Si (k:Nat) (h:k < 16):((⟨#[48,49,50,51,52,53,54,55,56,57,97,98,99,100,101,102,103,104,105,106,107,108,109,110,111,112,113,114,115,116,117,118,119,120,121,122]⟩:ByteArray)[k]'(Nat.lt_of_lt_of_le h (by decide:16<=36))).toNat=(jP k).toNat:=PG ⟨k,h⟩
theorem CB (k:Nat) (h:k < 16):((((⟨#[48,49,50,51,52,53,54,55,56,57,97,98,99,100,101,102,103,104,105,106,107,108,109,110,111,112,113,114,115,116,117,118,119,120,121,122]⟩:ByteArray)[k]'(Nat.lt_of_lt_of_le h (by decide:16<=36))).toNat:Nat):Int)=((jP k).toNat:Nat):=by rw [Si k h]
theorem UB (u:Nat) (h:u < 256):bits BinOp.and IntKind.u64 (u:Int) 15=((u % 16:Nat):Int):=by
 have:∀ u:Fin 256,bits BinOp.and IntKind.u64 (u.val:Int) 15=((u.val % 16:Nat):Int):=by decide +kernel
 exact this ⟨u,h⟩
theorem RF:Tryz.zeroCells254=Array.replicate 65 (.int .u8 0):=by kernel_rfl
structure Ar (b:Nat) (w wr:World) (f:Nat->Nat):Prop where
 hb:w.heap.size<=b
 bel:Below w.heap.size w wr
 lt:b < wr.heap.size
 cell:∀ i,i < 65->wr.cell? ⟨b,i,none⟩=some (.int .u8 (f i:Nat))
 free:∀ o,wr.frozen? ⟨b,o,none⟩=false
theorem Ar.start (w:World):Ar w.heap.size w (w.alloc (.cells Tryz.zeroCells254 254)) (fun _=>0):=
 ⟨Nat.le_refl _,(Below.refl _ _).alloc (Nat.le_refl _) _,by simp,fun i hi=>by unfold World.cell?;rw [(MapKept.heap_alloc w _).1,RF];simp [hi],fun o=>by simp⟩
theorem Ar.set {b:Nat} {w wr:World} {f f':Nat->Nat} (h:Ar b w wr f) {k:Nat} (hk:k < 65) {z:Int} (hz:z=(f' k:Nat)) (hf:∀ i,i≠k->f' i=f i):Ar b w (wr.setCell ⟨b,k,none⟩ (.int .u8 z)) f':=by
 refine ⟨h.hb,h.bel.setCell (by simpa using h.hb) _,by simpa [World.setCell] using h.lt,fun i a=>?_,fun o=>by simpa using h.free o⟩
 by_cases e:k=i
 . subst e;rw [GN (h.cell k hk),hz]
 . rw [Kv e,h.cell i a,hf i (fun h=>e h.symm)]
theorem Uy {b:Nat} {w wr:World} {f:Nat->Nat} (h:Ar b w wr f) {k:Nat} {l:List UInt8} (hk:k+l.length=65) (hl:∀ j (hj:j < l.length),f (k+j)=(l[j]).toNat) :
  (convert 178 9 (.slice (some ⟨b,k,none⟩) l.length l.length)).run Tryz.prog wr=.ok (.string ⟨l.toArray⟩) wr:=
 run_convert_bytes_back wr 178 9 5 ⟨b,k,none⟩ l.length l Tryz.underlying178 Tryz.underlying5 Tryz.underlying9 (fun j hj=>by
  rw [Addr.add_lit,h.cell _ (by omega),hl j hj])
theorem O0 (w:World):Calls Tryz.prog 237 #[.int .i64 16] w fun e w'=>e=.returned (.bool true)/\w=w':=by
 have a:bits BinOp.and IntKind.i64 16 15=0:=by kernel_rfl
 go_enter Tryz.func237,Tryz.ntmps237;go_wp2
 go_ret
 exact ⟨rfl,rfl⟩
theorem Ua (w:World) (hT:WT w):Calls Tryz.prog 238 #[.int .u64 16] w fun e w'=>e=.returned (.int .i64 4)/\w'=w:=by
 have h:=Any7.bits_TrailingZeros64 Tryz.N9 16 (by omega) w (fun _=>hT.d);have a:Lib.ctz 64 16=4:=by decide +kernel
 rw [a] at h;have H:=hid h;clear h hT;go_enter Tryz.func238,Tryz.ntmps238;go_wp2_with (go_at_call 248;refine H.out.mono ?_;rintro e w1 ⟨rfl,rfl⟩)
 go_ret
 exact ⟨rfl,rfl⟩
set_option maxHeartbeats 4000000 in
set_option maxRecDepth 100000 in
theorem JI (u:Nat) (hu:u < 256) (w:World) (hT:WT w):Calls Tryz.prog 212 #[.slice none 0 0,.int .u64 u,.int .i64 16,.bool false,.bool false] w fun e w' =>
  e=.returned (.tuple #[.slice none 0 0,.string ⟨(hexN u).toArray⟩])/\Below w.heap.size w w':=by
 have v:=hid (fun W=>O0 W);have y:=hid (fun (W:World) (h:Below w.heap.size w W)=>Ua W (hT.below h));clear hT;go_enter Tryz.func212,Tryz.ntmps212
 go_wp2_with (first
  | (go_at_call 237;refine (v.out _).mono ?_;rintro e w1 ⟨rfl,rfl⟩)
  | (go_at_call 238;refine (y.out _ ((Below.refl _ _).alloc (Nat.le_refl _) _)).mono ?_;rintro e w1 ⟨rfl,rfl⟩))
 have r:=hid (Ar.start w);generalize w.alloc (.cells Tryz.zeroCells254 254)=B at *;go_loopw [1,13] (fun x i wr=>(x=.int .u64 u/\i=.int .i64 65/\Hid (Ar w.heap.size w wr (fun _=>0))) ∨ (16<=u/\x=.int .u64 (u / 16:Nat)/\i=.int .i64 64/\Hid (Ar w.heap.size w wr (fun k=>if k=64 then (jP (u % 16)).toNat else 0)))) (fun x _ _=>(RowKit.intOf x).toNat)
 case atStart=>exact Or.inl ⟨rfl,rfl,r⟩
 case round =>
  rcases hrel with ⟨rfl,rfl,hw⟩ | ⟨f,rfl,rfl,hw⟩
  . by_cases f:16<=u
    . have b:(16:Int)<=(u:Int):=by omega
      have A:bits BinOp.and IntKind.u64 (u:Int) 15=((u % 16:Nat):Int):=UB u hu;have n:=hw.out.cell 64 (by omega);have s:=hw.out.free 64;go_wp2
      go_round
      case rel =>
       refine Or.inr ⟨f,by go_num,rfl,hid (hw.out.set (by omega) ?_ (fun i c=>by simp [c]))⟩;rw [if_pos rfl];exact CB (u % 16) (by omega)
      case measure=>simp [RowKit.intOf];omega
    . have b:¬ (16:Int)<=(u:Int):=by omega
      have n:=hw.out.cell 64 (by omega);have s:=hw.out.free 64;have o:=hid (fun (z:Int) (hz:z=((jP u).toNat:Nat))=>hw.out.set (k:=64) (z:=z) (f':=fun k=>if k=64 then (jP u).toNat else 0) (by omega) (by rw [if_pos rfl];exact hz) (fun i c=>by simp [c]));have p:=hid (show hexN u=[jP u] by unfold hexN;rw [if_pos (by omega)]);go_wp2
      have d:=hid (o.out _ (CB u (by omega)))
      have a:=Uy d.out (k:=64) (l:=[jP u]) rfl (fun j m=>by
       have g:j=0:=by simpa using m
       subst g;rfl)
      simp only [List.length_cons,List.length_nil,Nat.zero_add] at a;rw [a];simp only [Result.andThen];rw [Oper.upon_value];go_wp2
      go_ret2
      exact ⟨by rw [p.out];rfl,d.out.bel⟩
  . have b:¬ (16:Int)<=(u / 16:Nat):=by omega
    have n:=hw.out.cell 63 (by omega);have s:=hw.out.free 63;rw [if_neg (by omega)] at n;have o:=hid (fun (z:Int) (hz:z=((jP (u / 16)).toNat:Nat))=>hw.out.set (k:=63) (z:=z) (f':=fun k=>if k=63 then (jP (u / 16)).toNat else if k=64 then (jP (u % 16)).toNat else 0) (by omega) (by rw [if_pos rfl];exact hz) (fun i c=>by simp [c]));have p:=hid (show hexN u=[jP (u / 16),jP (u % 16)] by unfold hexN;rw [if_neg (by omega)]);have t:=hid (show u / 16 < 16 by omega);clear hw f;generalize u / 16=q at *;go_wp2
    have d:=hid (o.out _ (CB q t.out))
    have a:=Uy d.out (k:=63) (l:=[jP q,jP (u % 16)]) rfl (fun j m=>by
     have g:j=0 ∨ j=1:=by simp at m;omega
     rcases g with rfl | rfl <;> rfl)
    simp only [List.length_cons,List.length_nil,Nat.zero_add,Nat.reduceAdd] at a;rw [a];simp only [Result.andThen];rw [Oper.upon_value];go_wp2
    go_ret2
    exact ⟨by rw [p.out];rfl,d.out.bel⟩
set_option maxHeartbeats 4000000 in
theorem JB (u:Nat) (hu:u < 256) (w:World) (hT:WT w):Calls Tryz.prog 186 #[.int .i64 u,.int .i64 16] w fun e w'=>e=.returned (.string ⟨(hexN u).toArray⟩)/\Below w.heap.size w w':=by
 have b:=hid (JI u hu w hT)
 have c:Calls Tryz.prog 172 #[.int .i64 u,.int .i64 16] w fun e w'=>e=.returned (.string ⟨(hexN u).toArray⟩)/\Below w.heap.size w w':=by
  clear hT;go_enter Tryz.func172,Tryz.ntmps172;go_wp2_with (go_at_call 212;refine b.out.mono ?_;rintro e w1 ⟨rfl,a⟩)
  go_ret
  exact ⟨rfl,a⟩
 have d:=hid c;clear c hT b;go_enter Tryz.func186,Tryz.ntmps186;go_wp2_with (go_at_call 172;refine d.out.mono ?_;rintro e w1 ⟨rfl,a⟩)
 go_ret
 exact ⟨rfl,a⟩
def esc (c:UInt8):List UInt8:=
 if c.toNat=10 then [92,110] else if c.toNat=13 then [92,114] else if c.toNat=9 then [92,116] else if c.toNat=34 ∨ c.toNat=92 then [92,c]
 else if c.toNat < 32 ∨ c.toNat=127 then [92,117,123] ++ hexN c.toNat ++ [125] else [c]
def quo (l:List UInt8):List UInt8:=[34] ++ l.flatMap esc ++ [34]
theorem jE (u:Nat):(hexN u).length<=2:=by unfold hexN;split <;> simp
theorem Ig (c:UInt8):(esc c).length<=6:=by
 unfold esc;have:=jE c.toNat
 repeat' split
 all_goals simp
 all_goals omega
theorem nY (l:List UInt8):(l.flatMap esc).length<=6 * l.length:=by
 induction l with
 | nil=>simp
 | cons c l ih=>rw [List.flatMap_cons,List.length_append,List.length_cons];have:=Ig c;omega
theorem jy (l:List UInt8):(⟨l.toArray⟩:ByteArray).size=l.length:=by simp [ByteArray.size]
theorem DR (s:ByteArray) (k:Nat) (hk:k < s.size):(s.data.toList.take (k+1)).flatMap esc=(s.data.toList.take k).flatMap esc ++ esc s[k]:=by
 rw [List.take_succ_eq_append_getElem (by rw [aj];exact hk),List.flatMap_append];simp [eU s k hk]
theorem tq (s:ByteArray) {k:Nat} (hk:s.size<=k):s.data.toList.take k=s.data.toList:=List.take_of_length_le (by rw [aj];exact hk)
theorem mi {B b:Nat} {l:List UInt8} {w w':World} (h:BL B b l w) (hb:Below w.heap.size w w'):BL B b l w':=by
 rcases h with h | h
 . obtain ⟨f,v,a,d,c⟩:=h
   exact Or.inl ⟨f,v,(hb.block _ (lt_of_block a)).trans a,d.kept (grown_below hb) (by cases v.ownBlock <;> simp),c⟩
 . obtain ⟨f,v,a,d,c⟩:=h
   exact Or.inr ⟨f,v,(hb.block _ (lt_of_block a)).trans a,d.kept (grown_below hb) (by cases v.ownBlock <;> simp),c⟩
set_option maxHeartbeats 8000000 in
set_option maxRecDepth 100000 in
theorem yE (s:ByteArray) (w:World) (hT:WT w) (hs:s.size<=2000000):Calls Tryz.prog 135 #[.string s] w fun e w'=>e=.returned (.string ⟨(quo s.data.toList).toArray⟩)/\Below w.heap.size w w':=by
 have G:=hid (FQ w w.heap.size (Nat.le_refl _));have D:=hid (show Below w.heap.size w (w.alloc (.cells #[.pointer none,.slice none 0 0] 205)) from (Below.refl _ _).alloc (Nat.le_refl _) _);have L:=hid (fun (u:Nat) (hu:u < 256) (W:World) (hW:Below w.heap.size w W)=>JB u hu W (hT.below hW));clear hT;go_enter Tryz.func135,Tryz.ntmps135;go_wp2_with (go_at_call 184;refine (oJ w.heap.size w.heap.size [] 34 _ G.out (by simp) D.out.size).mono ?_;rintro e w1 ⟨rfl,a,b⟩;have E:=hid a;have N:=hid (D.out.trans b);clear a b)
 clear G D;go_loopg [9] s.size (fun S X wr=>∃ k:Nat,k<=s.size/\s.size - k<=S/\X=.int .i64 k/\Hid (BL w.heap.size w.heap.size ([34] ++ (s.data.toList.take k).flatMap esc) wr)/\Hid (Below w.heap.size w wr))
 case atStart=>exact ⟨0,by omega,by omega,rfl,by simpa using E,N⟩
 case round =>
  clear E N;obtain ⟨k,hk,aa,rfl,q,f⟩:=hrel;have g:=hid (show ([34] ++ (s.data.toList.take k).flatMap esc:List UInt8).length<=1000000000 by have U:=nY (s.data.toList.take k);have V:=aj s;have Z:(s.data.toList.take k).length<=s.data.toList.length:=(List.take_sublist _ _).length_le;rw [List.length_append];simp only [List.length_cons,List.length_nil];omega)
  by_cases R:k < s.size
  . have m:=hid (DR s k R)
    have hc:=kU s[k];have F:=hid (show s[k].toNat < 256 by omega)
    by_cases l:s[k].toNat=10
    . have Q:((s[k].toNat:Int) == 10)=true:=by simp;omega
      have i:=hid (show esc s[k]=[92,110] by unfold esc;simp [*]);clear l
      go_wp2_with (first
       | (go_at_call 185
          refine (og w.heap.size w.heap.size _ _ _ q.out g.out (by show 2<=1000000000;omega) f.out.size).mono ?_;rintro e w2 ⟨rfl,a,b⟩;have d:=hid a;have c:=hid b;clear a b))
      go_roundg (s.size - (k+1))
      case measure=>omega
      case rel =>
       exact ⟨k+1,by omega,by omega,by go_num,hid (by rw [m.out,i.out];simpa using d.out),hid (f.out.trans c.out)⟩
    have Q:((s[k].toNat:Int) == 10)=false:=by simp;omega
    by_cases n:s[k].toNat=13
    . have I:((s[k].toNat:Int) == 13)=true:=by simp;omega
      have i:=hid (show esc s[k]=[92,114] by unfold esc;simp [*]);clear l n
      go_wp2_with (first
       | (go_at_call 185
          refine (og w.heap.size w.heap.size _ _ _ q.out g.out (by show 2<=1000000000;omega) f.out.size).mono ?_;rintro e w2 ⟨rfl,a,b⟩;have d:=hid a;have c:=hid b;clear a b))
      go_roundg (s.size - (k+1))
      case measure=>omega
      case rel =>
       exact ⟨k+1,by omega,by omega,by go_num,hid (by rw [m.out,i.out];simpa using d.out),hid (f.out.trans c.out)⟩
    have I:((s[k].toNat:Int) == 13)=false:=by simp;omega
    by_cases A:s[k].toNat=9
    . have e9:((s[k].toNat:Int) == 9)=true:=by simp;omega
      have i:=hid (show esc s[k]=[92,116] by unfold esc;simp [*]);clear l n A
      go_wp2_with (first
       | (go_at_call 185
          refine (og w.heap.size w.heap.size _ _ _ q.out g.out (by show 2<=1000000000;omega) f.out.size).mono ?_;rintro e w2 ⟨rfl,a,b⟩;have d:=hid a;have c:=hid b;clear a b))
      go_roundg (s.size - (k+1))
      case measure=>omega
      case rel =>
       exact ⟨k+1,by omega,by omega,by go_num,hid (by rw [m.out,i.out];simpa using d.out),hid (f.out.trans c.out)⟩
    have e9:((s[k].toNat:Int) == 9)=false:=by simp;omega
    have z:=hid (show ([34] ++ (s.data.toList.take k).flatMap esc:List UInt8).length<=100000000 by have U:=nY (s.data.toList.take k);have V:=aj s;have Z:(s.data.toList.take k).length<=s.data.toList.length:=(List.take_sublist _ _).length_le;rw [List.length_append];simp only [List.length_cons,List.length_nil];omega);have v:True:=trivial
    by_cases r:s[k].toNat=34
    . have M:((s[k].toNat:Int) == 34)=true:=by simp;omega
      have i:=hid (show esc s[k]=[92,s[k]] by unfold esc;simp [*]);clear l n A r
      go_wp2_with (first
       | (have t:=v
          go_at_call 184;refine (oJ w.heap.size w.heap.size _ 92 _ q.out g.out f.out.size).mono ?_;rintro e w2 ⟨rfl,a,b⟩;have d:=hid a;have c:=hid b;clear a b v t)
       | (go_at_call 184
          refine (oJ w.heap.size w.heap.size _ s[k] _ d.out (by have h:=z.out;rw [List.length_append];simp only [List.length_cons,List.length_nil] at *;omega) (Nat.le_trans f.out.size c.out.size)).mono ?_;rintro e w3 ⟨rfl,a,b⟩;have p:=hid a;have j:=hid b;clear a b))
      go_roundg (s.size - (k+1))
      case measure=>omega
      case rel =>
       exact ⟨k+1,by omega,by omega,by go_num,hid (by rw [m.out,i.out];simpa using p.out),hid (f.out.trans (c.out.trans j.out))⟩
    have M:((s[k].toNat:Int) == 34)=false:=by simp;omega
    by_cases y:s[k].toNat=92
    . have O:((s[k].toNat:Int) == 92)=true:=by simp;omega
      have i:=hid (show esc s[k]=[92,s[k]] by unfold esc;simp [*]);clear l n A r y
      go_wp2_with (first
       | (have t:=v
          go_at_call 184;refine (oJ w.heap.size w.heap.size _ 92 _ q.out g.out f.out.size).mono ?_;rintro e w2 ⟨rfl,a,b⟩;have d:=hid a;have c:=hid b;clear a b v t)
       | (go_at_call 184
          refine (oJ w.heap.size w.heap.size _ s[k] _ d.out (by have h:=z.out;rw [List.length_append];simp only [List.length_cons,List.length_nil] at *;omega) (Nat.le_trans f.out.size c.out.size)).mono ?_;rintro e w3 ⟨rfl,a,b⟩;have p:=hid a;have j:=hid b;clear a b))
      go_roundg (s.size - (k+1))
      case measure=>omega
      case rel =>
       exact ⟨k+1,by omega,by omega,by go_num,hid (by rw [m.out,i.out];simpa using p.out),hid (f.out.trans (c.out.trans j.out))⟩
    have O:((s[k].toNat:Int) == 92)=false:=by simp;omega
    by_cases ab:(s[k].toNat:Int) < 32
    . have o:s[k].toNat < 32:=by omega
      have i:=hid (show esc s[k]=[92,117,123] ++ hexN s[k].toNat ++ [125] by unfold esc;simp [*]);have B:=hid (L.out s[k].toNat F.out _ f.out);have K:=fun (W:World)=>run_string_add_sum (P:=Tryz.prog) (w:=W) ⟨#[92,117,123]⟩ ⟨(hexN s[k].toNat).toArray⟩ (by rw [jy (hexN s[k].toNat)];have:=jE s[k].toNat;show 3+_<=_;omega);have J:=fun (W:World)=>run_string_add_sum (P:=Tryz.prog) (w:=W) (⟨#[92,117,123]⟩ ++ ⟨(hexN s[k].toNat).toArray⟩) ⟨#[125]⟩ (by rw [ByteArray.size_append,jy (hexN s[k].toNat)];have:=jE s[k].toNat;show 3+_+1<=_;omega);clear l n A r y o
      go_wp2_with (first
       | (go_at_call 186
          refine B.out.mono ?_;rintro e w2 ⟨rfl,b⟩;have d:=hid (mi q.out b);have c:=hid b;clear b)
       | (go_at_call 185
          refine (og w.heap.size w.heap.size _ _ _ d.out g.out (by rw [ByteArray.size_append,ByteArray.size_append,jy (hexN s[k].toNat)];have:=jE s[k].toNat;show 3+_+1<=_;omega) (Nat.le_trans f.out.size c.out.size)).mono ?_;rintro e w3 ⟨rfl,a,b⟩;have p:=hid a;have j:=hid b;clear a b))
      go_roundg (s.size - (k+1))
      case measure=>omega
      case rel =>
       exact ⟨k+1,by omega,by omega,by go_num,hid (by rw [m.out,i.out];simpa using p.out),hid (f.out.trans ((c.out.mono f.out.size).trans j.out))⟩
    by_cases C:s[k].toNat=127
    . have H:((s[k].toNat:Int) == 127)=true:=by simp;omega
      have o:¬ s[k].toNat < 32:=by omega
      have i:=hid (show esc s[k]=[92,117,123] ++ hexN s[k].toNat ++ [125] by unfold esc;simp [*]);have B:=hid (L.out s[k].toNat F.out _ f.out);have K:=fun (W:World)=>run_string_add_sum (P:=Tryz.prog) (w:=W) ⟨#[92,117,123]⟩ ⟨(hexN s[k].toNat).toArray⟩ (by rw [jy (hexN s[k].toNat)];have:=jE s[k].toNat;show 3+_<=_;omega);have J:=fun (W:World)=>run_string_add_sum (P:=Tryz.prog) (w:=W) (⟨#[92,117,123]⟩ ++ ⟨(hexN s[k].toNat).toArray⟩) ⟨#[125]⟩ (by rw [ByteArray.size_append,jy (hexN s[k].toNat)];have:=jE s[k].toNat;show 3+_+1<=_;omega);clear l n A r y C o
      go_wp2_with (first
       | (go_at_call 186
          refine B.out.mono ?_;rintro e w2 ⟨rfl,b⟩;have d:=hid (mi q.out b);have c:=hid b;clear b)
       | (go_at_call 185
          refine (og w.heap.size w.heap.size _ _ _ d.out g.out (by rw [ByteArray.size_append,ByteArray.size_append,jy (hexN s[k].toNat)];have:=jE s[k].toNat;show 3+_+1<=_;omega) (Nat.le_trans f.out.size c.out.size)).mono ?_;rintro e w3 ⟨rfl,a,b⟩;have p:=hid a;have j:=hid b;clear a b))
      go_roundg (s.size - (k+1))
      case measure=>omega
      case rel =>
       exact ⟨k+1,by omega,by omega,by go_num,hid (by rw [m.out,i.out];simpa using p.out),hid (f.out.trans ((c.out.mono f.out.size).trans j.out))⟩
    have H:((s[k].toNat:Int) == 127)=false:=by simp;omega
    have o:¬ s[k].toNat < 32:=by omega
    have i:=hid (show esc s[k]=[s[k]] by unfold esc;simp [*]);clear l n A r y C o
    go_wp2_with (first
     | (go_at_call 184
        refine (oJ w.heap.size w.heap.size _ s[k] _ q.out g.out f.out.size).mono ?_;rintro e w2 ⟨rfl,a,b⟩;have d:=hid a;have c:=hid b;clear a b))
    go_roundg (s.size - (k+1))
    case measure=>omega
    case rel =>
     exact ⟨k+1,by omega,by omega,by go_num,hid (by rw [m.out,i.out];simpa using d.out),hid (f.out.trans c.out)⟩
  . have Y:=hid (tq s (k:=k) (by omega))
    have T:=hid (fun (W:World) (h:BL w.heap.size w.heap.size ([34] ++ (s.data.toList.take k).flatMap esc ++ [34]) W) (hW:w.heap.size<=W.heap.size)=>Tryz.Builder_String_any w.heap.size w.heap.size _ W h hW)
    go_wp2_with (first
     | (go_at_call 184
        refine (oJ w.heap.size w.heap.size _ 34 _ q.out g.out f.out.size).mono ?_;rintro e w2 ⟨rfl,a,b⟩;have d:=hid a;have c:=hid b;clear a b)
     | (go_at_call 183
        refine (T.out _ d.out (Nat.le_trans f.out.size c.out.size)).mono ?_;rintro e w3 ⟨rfl,b⟩;have j:=hid b;clear b))
    go_ret
    exact ⟨by rw [Y.out];rfl,f.out.trans (c.out.trans j.out)⟩
theorem SG (a b:List UInt8):(⟨a.toArray⟩:ByteArray) ++ ⟨b.toArray⟩=⟨(a ++ b).toArray⟩:=by
 apply wo;simp [ByteArray.data_append]
theorem dS (w:World) (a b:List UInt8) (h:a.length+b.length<=1000000000000):(Op.stringOp .add ⟨a.toArray⟩ ⟨b.toArray⟩).run Tryz.prog w=.ok (.string ⟨(a ++ b).toArray⟩) w:=by
 rw [<-SG];exact run_string_add_sum w _ _ (by rw [jy,jy];omega)
theorem IB:∀ q:Fin 16,(⟨#[48,49,50,51,52,53,54,55,56,57,97,98,99,100,101,102]⟩:ByteArray).extract q.val (q.val+1)=⟨[jP q.val].toArray⟩:=by decide +kernel
theorem oD {l m:List UInt8} (h:l=m):Ending.returned (.string ⟨m.toArray⟩)=.returned (.string ⟨l.toArray⟩):=by rw [h]
set_option maxHeartbeats 4000000 in
theorem zh (c:Nat) (hc:c < 16) (w:World):Calls Tryz.prog 250 #[.int .i64 c] w fun e w'=>e=.returned (.string ⟨[jP c].toArray⟩)/\w=w':=by
 have g:c % 16=c:=by omega
 have a:=hid (IB ⟨c,hc⟩);have f:(⟨#[48,49,50,51,52,53,54,55,56,57,97,98,99,100,101,102]⟩:ByteArray).extract c (c+1)=⟨[jP c].toArray⟩:=a.out;have d:(c:Int) < 16:=by omega
 have b:(c:Int) % 16=c:=by omega
 go_enter Tryz.func250,Tryz.ntmps250;go_wp2
 go_ret
 exact ⟨rfl,rfl⟩
set_option maxHeartbeats 4000000 in
theorem Dy (c:Nat) (hc:c < 256) (w:World):Calls Tryz.prog 250 #[.int .i64 c] w fun e w'=>e=.returned (.string ⟨(hexN c).toArray⟩)/\w=w':=by
 by_cases h:c < 16
 . have:hexN c=[jP c]:=by unfold hexN;rw [if_pos h]
   rw [this];exact zh c h w
 . have d:=hid (show hexN c=[jP (c / 16)] ++ [jP (c % 16)] by unfold hexN;rw [if_neg h];rfl)
   have a:=hid (IB ⟨c % 16,by omega⟩);have i:(⟨#[48,49,50,51,52,53,54,55,56,57,97,98,99,100,101,102]⟩:ByteArray).extract (c % 16) (c % 16+1)=⟨[jP (c % 16)].toArray⟩:=a.out;have g:¬ (c:Int) < 16:=by omega
   have f:=hid (zh (c / 16) (by omega) w);have b:=fun W=>dS W [jP (c / 16)] [jP (c % 16)] (by simp);clear h;go_enter Tryz.func250,Tryz.ntmps250;go_wp2_with (go_at_call 250;refine f.out.mono ?_;rintro e w1 ⟨rfl,rfl⟩)
   go_ret
   exact ⟨oD d.out,rfl⟩
set_option maxHeartbeats 4000000 in
theorem Bf (c:UInt8) (w:World):Calls Tryz.prog 242 #[.int .u8 c.toNat] w fun e w'=>e=.returned (.string ⟨(esc c).toArray⟩)/\Below w.heap.size w w':=by
 have G:=kU c;have l:=hid (Below.refl w.heap.size w);have r:=hid (fun o=>(Below.refl w.heap.size w).alloc (Nat.le_refl _) o)
 by_cases a:c.toNat=10
 . have t:((c.toNat:Int) == 10)=true:=by simp;omega
   have d:=hid (show esc c=[92,110] by unfold esc;simp [*]);clear a;go_enter Tryz.func242,Tryz.ntmps242;go_wp2
   go_ret
   exact ⟨by rw [d.out];rfl,l.out⟩
 have t:((c.toNat:Int) == 10)=false:=by simp;omega
 by_cases b:c.toNat=13
 . have p:((c.toNat:Int) == 13)=true:=by simp;omega
   have d:=hid (show esc c=[92,114] by unfold esc;simp [*]);clear a b;go_enter Tryz.func242,Tryz.ntmps242;go_wp2
   go_ret
   exact ⟨by rw [d.out];rfl,l.out⟩
 have p:((c.toNat:Int) == 13)=false:=by simp;omega
 by_cases i:c.toNat=9
 . have z:((c.toNat:Int) == 9)=true:=by simp;omega
   have d:=hid (show esc c=[92,116] by unfold esc;simp [*]);clear a b i;go_enter Tryz.func242,Tryz.ntmps242;go_wp2
   go_ret
   exact ⟨by rw [d.out];rfl,l.out⟩
 have z:((c.toNat:Int) == 9)=false:=by simp;omega
 by_cases f:c.toNat=34
 . have q:((c.toNat:Int) == 34)=true:=by simp;omega
   have d:=hid (show esc c=[92,34] by unfold esc;rw [if_neg a,if_neg b,if_neg i,if_pos (Or.inl f),show c=34 from UInt8.toNat_inj.1 f]);clear a b i f;go_enter Tryz.func242,Tryz.ntmps242;go_wp2
   go_ret
   exact ⟨by rw [d.out];rfl,l.out⟩
 have q:((c.toNat:Int) == 34)=false:=by simp;omega
 by_cases k:c.toNat=92
 . have s:((c.toNat:Int) == 92)=true:=by simp;omega
   have d:=hid (show esc c=[92,92] by unfold esc;rw [if_neg a,if_neg b,if_neg i,if_pos (Or.inr k),show c=92 from UInt8.toNat_inj.1 k]);clear a b i f k;go_enter Tryz.func242,Tryz.ntmps242;go_wp2
   go_ret
   exact ⟨by rw [d.out];rfl,l.out⟩
 have s:((c.toNat:Int) == 92)=false:=by simp;omega
 by_cases g:c.toNat < 32 ∨ c.toNat=127
 . have d:=hid (show esc c=[92,117,123] ++ hexN c.toNat ++ [125] by unfold esc;rw [if_neg a,if_neg b,if_neg i,if_neg (by omega),if_pos g])
   have u:=hid (Dy c.toNat (by omega) w);have C:=fun W=>dS W [92,117,123] (hexN c.toNat) (by have:=jE c.toNat;simp;omega);have A:=fun W=>dS W ([92,117,123] ++ hexN c.toNat) [125] (by have:=jE c.toNat;simp;omega);clear a b i f k;generalize [92,117,123] ++ hexN c.toNat ++ [125]=E at *;generalize [92,117,123] ++ hexN c.toNat=D at *;generalize hexN c.toNat=F at *;rcases g with h | h
   . have m:(c.toNat:Int) < 32:=by omega
     clear h;go_enter Tryz.func242,Tryz.ntmps242;go_wp2_with (go_at_call 250;refine u.out.mono ?_;rintro e w1 ⟨rfl,rfl⟩)
     go_ret
     exact ⟨oD d.out,l.out⟩
   . have m:¬ (c.toNat:Int) < 32:=by omega
     have n:((c.toNat:Int) == 127)=true:=by simp;omega
     clear h;go_enter Tryz.func242,Tryz.ntmps242;go_wp2_with (go_at_call 250;refine u.out.mono ?_;rintro e w1 ⟨rfl,rfl⟩)
     go_ret
     exact ⟨oD d.out,l.out⟩
 . have d:=hid (show esc c=[c] by unfold esc;rw [if_neg a,if_neg b,if_neg i,if_neg (by omega),if_neg g])
   have m:¬ (c.toNat:Int) < 32:=by omega
   have n:((c.toNat:Int) == 127)=false:=by simp;omega
   have B:(convert 178 9 (.slice (some ⟨w.heap.size,0,none⟩) 1 1)).run Tryz.prog (w.alloc (.cells #[.int .u8 c.toNat] 5))=.ok (.string ⟨[c].toArray⟩) (w.alloc (.cells #[.int .u8 c.toNat] 5)):=
    run_convert_bytes_back _ 178 9 5 ⟨w.heap.size,0,none⟩ 1 [c] Tryz.underlying178 Tryz.underlying5 Tryz.underlying9 (fun j y=>by
     have v:j=0:=by simpa using y
     subst v;exact aX rfl rfl)
   clear a b i f k g;go_enter Tryz.func242,Tryz.ntmps242;go_wp2
   go_ret
   exact ⟨oD d.out,r.out _⟩
set_option maxHeartbeats 4000000 in
theorem wQ (s:ByteArray) (w:World) (hs:s.size<=2000000):Calls Tryz.prog 223 #[.string s] w fun e w'=>e=.returned (.string ⟨(quo s.data.toList).toArray⟩)/\Below w.heap.size w w':=by
 have i:=hid (Below.refl w.heap.size w);go_enter Tryz.func223,Tryz.ntmps223;go_wp2
 go_loopg [3,4] s.size (fun n m o wr=>∃ k:Nat,k<=s.size/\s.size - k<=n/\o=.int .i64 k/\m=.string ⟨([34] ++ (s.data.toList.take k).flatMap esc).toArray⟩/\Hid (Below w.heap.size w wr))
 case atStart=>exact ⟨0,by omega,by omega,rfl,by simp,i⟩
 case round =>
  obtain ⟨k,t,r,rfl,rfl,b⟩:=hrel;have a:=hid (show ([34] ++ (s.data.toList.take k).flatMap esc:List UInt8).length<=1000000000 by have u:=nY (s.data.toList.take k);have v:=aj s;have y:(s.data.toList.take k).length<=s.data.toList.length:=(List.take_sublist _ _).length_le;rw [List.length_append];simp only [List.length_cons,List.length_nil];omega)
  by_cases l:k < s.size
  . have f:=hid (DR s k l)
    have q:=hid (Bf s[k] wr);have c:=fun W=>dS W ([34] ++ (s.data.toList.take k).flatMap esc) (esc s[k]) (by have:=a.out;have:=Ig s[k];omega);have d:=hid (show [34] ++ (s.data.toList.take (k+1)).flatMap esc=[34] ++ (s.data.toList.take k).flatMap esc ++ esc s[k] by rw [f.out,List.append_assoc]);generalize [34] ++ (s.data.toList.take k).flatMap esc=L at *;go_wp2_with (go_at_call 242;refine q.out.mono ?_;rintro e w1 ⟨rfl,g⟩;have j:=hid g;clear g)
    go_roundg (s.size - (k+1))
    case measure=>omega
    case rel=>exact ⟨k+1,by omega,by omega,by go_num,by rw [d.out],hid (b.out.trans (j.out.mono b.out.size))⟩
  . have p:=hid (tq s (k:=k) (by omega))
    have c:=fun W=>dS W ([34] ++ (s.data.toList.take k).flatMap esc) [34] (by have:=a.out;simp only [List.length_cons,List.length_nil];omega);have d:=hid (show [34] ++ (s.data.toList.take k).flatMap esc ++ [34]=quo s.data.toList by rw [p.out];rfl);generalize [34] ++ (s.data.toList.take k).flatMap esc=L at *;go_wp2
    go_ret
    exact ⟨oD d.out.symm,b.out⟩
def kN (c:Nat):Bool:=decide (48<=c/\c<=57) || decide (97<=c/\c<=102)
def hxv (c:Nat):Nat:=if c<=57 then c - 48 else c - 87
def hxL (l:List UInt8):List UInt8:=(l.take 6).takeWhile fun c=>kN c.toNat
def vH (l:List UInt8):Nat:=l.foldl (fun n c=>16 * n+hxv c.toNat) 0
def kF (l:List UInt8):Int × Nat × Nat:=
 if l.length<=(hxL l).length then (40,0,0)
 else if (l.getD (hxL l).length 0).toNat≠125 ∨ (hxL l).length=0 ∨ (1 < (hxL l).length/\(l.getD 0 0).toNat=48) ∨ Lib.validRune (vH (hxL l):Nat)=false then (2,0,0)
 else (0,vH (hxL l),(hxL l).length+1)
theorem rV {α:Type} {p:α->Bool} : ∀ {l:List α} {k:Nat},k<=l.length->(∀ j (hj:j < l.length),j < k->p l[j]=true)->(∀ h:k < l.length,p l[k]=false)->l.takeWhile p=l.take k
 | [],k,hk,_,_=>by simp at hk;subst hk;rfl
 | x :: l,0,hk,_,h2=>by
   have:=h2 (by simp);simp only [List.getElem_cons_zero] at this;rw [List.takeWhile_cons,if_neg (by rw [this];simp)];rfl
 | x :: l,k+1,hk,h1,h2=>by
   have h0:=h1 0 (by simp) (by omega);simp only [List.getElem_cons_zero] at h0;rw [List.takeWhile_cons,if_pos h0,List.take_succ_cons];rw [rV (l:=l) (k:=k) (by simpa using hk) (fun j hj hjk=>h1 (j+1) (by simpa using hj) (by omega)) (fun h=>h2 (by simpa using h))]
theorem KR {s:ByteArray} {k:Nat} (hk:k<=s.size) (h6:k<=6) (h1:∀ j (hj:j < s.size),j < k->kN s[j].toNat=true) (h2:∀ h:k < s.size,k < 6->kN s[k].toNat=false):hxL s.data.toList=s.data.toList.take k:=by
 have b:=aj s;unfold hxL;rw [rV (k:=k) (by rw [List.length_take];omega) (fun j hj a=>?_) (fun h=>?_)]
 . rw [List.take_take];congr 1;omega
 . rw [List.getElem_take,eU s j (by rw [List.length_take] at hj;omega)]
   exact h1 j _ a
 . rw [List.length_take] at h
   rw [List.getElem_take,eU s k (by omega)];exact h2 _ (by omega)
theorem xX (l:List UInt8) (c:UInt8):vH (l ++ [c])=16 * vH l+hxv c.toNat:=by simp [vH]
theorem F6 {c:Nat} (h:kN c=true):hxv c<=15:=by simp [kN] at h;unfold hxv;split <;> omega
theorem Kz:∀ (l:List UInt8),(∀ c∈l,kN c.toNat=true)->vH l < 16 ^ l.length:=by
 intro l h
 have b:∀ (n:Nat) (l:List UInt8),l.length=n->(∀ c∈l,kN c.toNat=true)->vH l < 16 ^ n:=by
  intro n
  induction n with
  | zero=>intro l a _;have:l=[]:=List.eq_nil_of_length_eq_zero a;subst this;decide
  | succ n ih =>
    intro l a h;rcases List.eq_nil_or_concat l with rfl | ⟨m,c,rfl⟩
    . simp at a
    . rw [List.concat_eq_append] at *
      have g:=ih m (by simpa using a) (fun d f=>h d (by simp [f]));have i:=F6 (h c (by simp));rw [xX,Nat.pow_succ];omega
 exact b _ l rfl h
theorem UW:∀ c:Fin 256,Lib.indexByte (⟨#[48,49,50,51,52,53,54,55,56,57,97,98,99,100,101,102]⟩:ByteArray).data.toList ((c.val:Int).toNat.toUInt8)=if kN c.val=true then (hxv c.val:Int) else -1:=by decide +kernel
theorem take_len (s:ByteArray) {k:Nat} (hk:k<=s.size):(s.data.toList.take k).length=k:=by rw [List.length_take,aj];omega
theorem getD_at (s:ByteArray) {k:Nat} (hk:k < s.size):s.data.toList.getD k 0=s[k]:=by
 rw [List.getD_eq_getElem?_getD,List.getElem?_eq_getElem (by rw [aj];exact hk)];rfl
theorem Iq {s:ByteArray} {k:Nat} (hk:s.size<=k) (h:hxL s.data.toList=s.data.toList.take k/\(hxL s.data.toList).length=k):kF s.data.toList=(40,0,0):=by
 unfold kF;rw [h.2,aj,if_pos hk]
theorem Bo {s:ByteArray} {k:Nat} (hk:k < s.size) (h:hxL s.data.toList=s.data.toList.take k/\(hxL s.data.toList).length=k):kF s.data.toList=if s[k].toNat≠125 ∨ k=0 ∨ (1 < k/\(s[0]'(by omega)).toNat=48) ∨ Lib.validRune (vH (s.data.toList.take k):Nat)=false then (2,0,0) else (0,vH (s.data.toList.take k),k+1):=by
 unfold kF;rw [h.2,aj,if_neg (by omega),h.1,getD_at s hk,getD_at s (show 0 < s.size by omega)]
def UO (x:Int × Nat × Nat):Ending:=.returned (.tuple #[.int .i32 (x.2.1:Nat),.int .i64 (x.2.2:Nat),.int .i64 x.1])
set_option maxHeartbeats 8000000 in
set_option maxRecDepth 100000 in
theorem KG (s:ByteArray) (w:World) (hs:s.size<=2000000):Calls Tryz.prog 217 #[.string s] w fun e w'=>e=UO (kF s.data.toList)/\w=w':=by
 have m:=hid (fun k C G E J=>KR (s:=s) (k:=k) C G E J);have o:=hid (show kF s.data.toList=kF s.data.toList from rfl);go_enter Tryz.func217,Tryz.ntmps217;go_wp2
 go_loop [5,6] (fun n i=>∃ k:Nat,k<=s.size/\k<=6/\i=.int .i64 k/\n=.int .i32 (vH (s.data.toList.take k):Nat)/\Hid (∀ j (A:j < s.size),j < k->kN s[j].toNat=true)) (fun _ i=>s.size - (RowKit.intOf i).toNat)
 case atStart=>exact ⟨0,by omega,by omega,rfl,rfl,hid (fun j A h=>absurd h (by omega))⟩
 case round =>
  obtain ⟨k,C,G,rfl,rfl,D⟩:=hrel
  have U:=hid (show vH (s.data.toList.take k) < 16 ^ 6 from by
   have E:=Kz (s.data.toList.take k) (fun c T=>by
    obtain ⟨j,A,rfl⟩:=List.mem_iff_getElem.1 T;rw [List.length_take] at A;rw [List.getElem_take,eU s j (by omega)];exact D.out j _ (by omega))
   rw [take_len s C] at E;exact Nat.lt_of_lt_of_le E (Nat.pow_le_pow_right (by decide) G))
  have R:=U.out;simp only [Nat.reducePow] at R
  have a:=hid (fun (J:∀ h:k < s.size,k < 6->kN s[k].toNat=false)=>show hxL s.data.toList=s.data.toList.take k/\(hxL s.data.toList).length=k from by
   have h:=m.out k C G D.out J;exact ⟨h,by rw [h,take_len s C]⟩)
  by_cases v:k < s.size
  case neg =>
   have Y:k=s.size:=by omega
   have d:=hid (Iq (s:=s) (k:=k) (by omega) (a.out (fun h=>absurd h v)));have H:((k:Int) == (s.size:Int))=true:=by simp;omega
   clear Y a m o;go_wp2
   go_ret3
   exact ⟨by rw [d.out];rfl,rfl⟩
  have H:((k:Int) == (s.size:Int))=false:=by simp;omega
  by_cases B:k=6
  . have p:∀ h:k < s.size,k < 6->kN s[k].toNat=false:=fun _ h=>by omega
    have S:¬ (k:Int) < 6:=by omega
    have M:1 < k:=by omega
    have P:=hid (a.out p);clear B a p;have a:=hid (fun (_:True)=>P.out);have p:=trivial;have b:=hid (Bo v (a.out p));generalize vH (s.data.toList.take k)=F at *
    by_cases f:s[k].toNat=125
    case neg =>
     have I:((s[k].toNat:Int) != 125)=true:=by simp;omega
     have d:=hid (show kF s.data.toList=(2,0,0) from by rw [b.out,if_pos (Or.inl f)]);clear f b a m o;go_wp2_with (first | (go_at_call 213;refine (Tryz.utf8_ValidRune _ _).mono ?_;rintro e w1 ⟨rfl,rfl⟩))
     go_ret3
     exact ⟨by rw [d.out];rfl,rfl⟩
    have I:((s[k].toNat:Int) != 125)=false:=by simp;omega
    have l:¬ k=0:=by omega
    have Q:((k:Int) == 0)=false:=by simp;omega
    by_cases q:1 < k
    . have Z:(1:Int) < k:=by omega
      have W:0 < s.size:=by omega
      by_cases r:s[0].toNat=48
      . have K:((s[0].toNat:Int) == 48)=true:=by simp;omega
        have d:=hid (show kF s.data.toList=(2,0,0) from by rw [b.out,if_pos (Or.inr (Or.inr (Or.inl ⟨q,r⟩)))]);clear f l q r b a m o;go_wp2_with (first | (go_at_call 213;refine (Tryz.utf8_ValidRune _ _).mono ?_;rintro e w1 ⟨rfl,rfl⟩))
        go_ret3
        exact ⟨by rw [d.out];rfl,rfl⟩
      . have K:((s[0].toNat:Int) == 48)=false:=by simp;omega
        cases u:Lib.validRune (F:Nat)
        . have d:=hid (show kF s.data.toList=(2,0,0) from by rw [b.out,if_pos (Or.inr (Or.inr (Or.inr u)))])
          clear f l q r b a m o;go_wp2_with (first | (go_at_call 213;refine (Tryz.utf8_ValidRune _ _).mono ?_;rintro e w1 ⟨rfl,rfl⟩))
          go_ret3
          exact ⟨by rw [d.out];rfl,rfl⟩
        . have d:=hid (show kF s.data.toList=(0,F,k+1) from by rw [b.out,if_neg];rintro (h | h | h | h);exact h f;exact l h;exact r h.2;rw [u] at h;cases h)
          clear f l q r b a m o;go_wp2_with (first | (go_at_call 213;refine (Tryz.utf8_ValidRune _ _).mono ?_;rintro e w1 ⟨rfl,rfl⟩))
          go_ret3
          exact ⟨by rw [d.out];rfl,rfl⟩
    . exact absurd M q
  have S:(k:Int) < 6:=by omega
  have z:=hid (UW ⟨s[k].toNat,s[k].toNat_lt⟩);have T:=kU s[k];have t:=Tryz.strings_IndexByte ⟨#[48,49,50,51,52,53,54,55,56,57,97,98,99,100,101,102]⟩ s[k].toNat w;cases y:kN s[k].toNat
  . have p:∀ h:k < s.size,k < 6->kN s[k].toNat=false:=fun _ _=>y
    rw [show Lib.indexByte (⟨#[48,49,50,51,52,53,54,55,56,57,97,98,99,100,101,102]⟩:ByteArray).data.toList ((s[k].toNat:Int).toNat.toUInt8) = -1 from by have:=z.out;simp only [y] at this;simpa using this] at t;have g:=hid t;clear t z y;have b:=hid (Bo v (a.out p));generalize vH (s.data.toList.take k)=F at *
    by_cases f:s[k].toNat=125
    case neg =>
     have I:((s[k].toNat:Int) != 125)=true:=by simp;omega
     have d:=hid (show kF s.data.toList=(2,0,0) from by rw [b.out,if_pos (Or.inl f)]);clear f b a m o;go_wp2_with (first | (go_at_call 213;refine (Tryz.utf8_ValidRune _ _).mono ?_;rintro e w1 ⟨rfl,rfl⟩) | (go_at_call 136;refine g.out.mono ?_;rintro e w1 ⟨rfl,rfl⟩))
     go_ret3
     exact ⟨by rw [d.out];rfl,rfl⟩
    have I:((s[k].toNat:Int) != 125)=false:=by simp;omega
    by_cases l:k=0
    case pos =>
     have Q:((k:Int) == 0)=true:=by simp;omega
     have d:=hid (show kF s.data.toList=(2,0,0) from by rw [b.out,if_pos (Or.inr (Or.inl l))]);clear f l b a m o;go_wp2_with (first | (go_at_call 213;refine (Tryz.utf8_ValidRune _ _).mono ?_;rintro e w1 ⟨rfl,rfl⟩) | (go_at_call 136;refine g.out.mono ?_;rintro e w1 ⟨rfl,rfl⟩))
     go_ret3
     exact ⟨by rw [d.out];rfl,rfl⟩
    have Q:((k:Int) == 0)=false:=by simp;omega
    by_cases q:1 < k
    . have Z:(1:Int) < k:=by omega
      have W:0 < s.size:=by omega
      by_cases r:s[0].toNat=48
      . have K:((s[0].toNat:Int) == 48)=true:=by simp;omega
        have d:=hid (show kF s.data.toList=(2,0,0) from by rw [b.out,if_pos (Or.inr (Or.inr (Or.inl ⟨q,r⟩)))]);clear f l q r b a m o;go_wp2_with (first | (go_at_call 213;refine (Tryz.utf8_ValidRune _ _).mono ?_;rintro e w1 ⟨rfl,rfl⟩) | (go_at_call 136;refine g.out.mono ?_;rintro e w1 ⟨rfl,rfl⟩))
        go_ret3
        exact ⟨by rw [d.out];rfl,rfl⟩
      . have K:((s[0].toNat:Int) == 48)=false:=by simp;omega
        cases u:Lib.validRune (F:Nat)
        . have d:=hid (show kF s.data.toList=(2,0,0) from by rw [b.out,if_pos (Or.inr (Or.inr (Or.inr u)))])
          clear f l q r b a m o;go_wp2_with (first | (go_at_call 213;refine (Tryz.utf8_ValidRune _ _).mono ?_;rintro e w1 ⟨rfl,rfl⟩) | (go_at_call 136;refine g.out.mono ?_;rintro e w1 ⟨rfl,rfl⟩))
          go_ret3
          exact ⟨by rw [d.out];rfl,rfl⟩
        . have d:=hid (show kF s.data.toList=(0,F,k+1) from by rw [b.out,if_neg];rintro (h | h | h | h);exact h f;exact l h;exact r h.2;rw [u] at h;cases h)
          clear f l q r b a m o;go_wp2_with (first | (go_at_call 213;refine (Tryz.utf8_ValidRune _ _).mono ?_;rintro e w1 ⟨rfl,rfl⟩) | (go_at_call 136;refine g.out.mono ?_;rintro e w1 ⟨rfl,rfl⟩))
          go_ret3
          exact ⟨by rw [d.out];rfl,rfl⟩
    . have N:k=1:=by omega
      subst N;cases u:Lib.validRune (F:Nat)
      . have d:=hid (show kF s.data.toList=(2,0,0) from by rw [b.out,if_pos (Or.inr (Or.inr (Or.inr u)))])
        clear f l b a m o p q B;have H:((1:Int) == (s.size:Int))=false:=by simp;omega
        have L:(1:Int) < (s.size:Int):=by omega
        go_wp2_with (first | (go_at_call 213;refine (Tryz.utf8_ValidRune _ _).mono ?_;rintro e w1 ⟨rfl,rfl⟩) | (go_at_call 136;refine g.out.mono ?_;rintro e w1 ⟨rfl,rfl⟩))
        go_ret3
        exact ⟨by rw [d.out];rfl,rfl⟩
      . have d:=hid (show kF s.data.toList=(0,F,1+1) from by rw [b.out,if_neg];rintro (h | h | h | h);exact h f;exact l h;exact absurd h.1 (by omega);rw [u] at h;cases h)
        clear f l b a m o p q B;have H:((1:Int) == (s.size:Int))=false:=by simp;omega
        have L:(1:Int) < (s.size:Int):=by omega
        go_wp2_with (first | (go_at_call 213;refine (Tryz.utf8_ValidRune _ _).mono ?_;rintro e w1 ⟨rfl,rfl⟩) | (go_at_call 136;refine g.out.mono ?_;rintro e w1 ⟨rfl,rfl⟩))
        go_ret3
        exact ⟨by rw [d.out];rfl,rfl⟩
  . rw [show Lib.indexByte (⟨#[48,49,50,51,52,53,54,55,56,57,97,98,99,100,101,102]⟩:ByteArray).data.toList ((s[k].toNat:Int).toNat.toUInt8)=(hxv s[k].toNat:Nat) from by have:=z.out;simp only [y] at this;simpa using this] at t
    have g:=hid t;have hv:=F6 y
    have O:=hid (show ∀ j (A:j < s.size),j < k+1->kN s[j].toNat=true from fun j A aa=>by
     by_cases e:j < k
     . exact D.out j A e
     . obtain rfl:j=k:=by omega
       exact y)
    have X:=hid (show vH (s.data.toList.take (k+1))=16 * vH (s.data.toList.take k)+hxv s[k].toNat from by
     rw [List.take_succ_eq_append_getElem (by rw [aj];exact v),xX,eU s k v])
    clear t z y a m o D;generalize vH (s.data.toList.take k)=F at *;generalize hxv s[k].toNat=V at *;go_wp2_with (go_at_call 136;refine g.out.mono ?_;rintro e w1 ⟨rfl,rfl⟩)
    go_round
    case rel=>exact ⟨k+1,by omega,by omega,by go_num,by rw [X.out];go_num,O⟩
    case measure=>(simp [RowKit.intOf] <;> omega)
def gV (l:List UInt8):Int × Nat × Nat:=
 if l.length=0 then (40,0,0)
 else if (l.getD 0 0).toNat=110 then (0,10,1) else if (l.getD 0 0).toNat=114 then (0,13,1) else if (l.getD 0 0).toNat=116 then (0,9,1)
 else if (l.getD 0 0).toNat=34 ∨ (l.getD 0 0).toNat=92 then (0,(l.getD 0 0).toNat,1)
 else if (l.getD 0 0).toNat=117 then (if l.length=1 then (40,0,0) else if (l.getD 1 0).toNat≠123 then (2,0,0) else ((kF (l.drop 2)).1,(kF (l.drop 2)).2.1,(kF (l.drop 2)).2.2+2))
 else (2,0,0)
theorem aY (s:ByteArray) (a:Nat):(s.extract a s.size).data.toList=s.data.toList.drop a:=by
 have h:=Lib.extract_data s a s.size;rw [h,List.take_of_length_le];rw [List.length_drop,aj];exact Nat.le_refl _
theorem H9 (s:ByteArray) (h:0 < s.size):gV s.data.toList=((if s[0].toNat=110 then (0,10,1) else if s[0].toNat=114 then (0,13,1) else if s[0].toNat=116 then (0,9,1)
  else if s[0].toNat=34 ∨ s[0].toNat=92 then (0,s[0].toNat,1)
  else if s[0].toNat=117 then (if h1:s.size=1 then (40,0,0) else if (s[1]'(by omega)).toNat≠123 then (2,0,0) else ((kF (s.data.toList.drop 2)).1,(kF (s.data.toList.drop 2)).2.1,(kF (s.data.toList.drop 2)).2.2+2))
  else (2,0,0)):Int × Nat × Nat):=by
 unfold gV;rw [aj,if_neg (by omega),getD_at s h]
 by_cases h1:s.size=1
 . rw [dif_pos h1,if_pos h1]
 . rw [dif_neg h1,if_neg h1,getD_at s (show 1 < s.size by omega)]
set_option maxHeartbeats 8000000 in
set_option maxRecDepth 100000 in
theorem Lh (s:ByteArray) (w:World) (hs:s.size<=2000000):Calls Tryz.prog 180 #[.string s] w fun e w'=>e=UO (gV s.data.toList)/\w=w':=by
 by_cases m:s.size=0
 . have d:=hid (show gV s.data.toList=(40,0,0) by unfold gV;rw [aj,if_pos m])
   have D:=mD m;clear m;go_enter Tryz.func180,Tryz.ntmps180;go_wp2
   go_ret3
   exact ⟨by rw [d.out];rfl,rfl⟩
 have D:=gG m;have u:0 < s.size:=by omega
 have f:=hid (H9 s u);have M:=kU s[0];clear m
 by_cases a:s[0].toNat=110
 . have t:((s[0].toNat:Int) == 110)=true:=by simp;omega
   have d:=hid (show gV s.data.toList=(0,10,1) by rw [f.out,if_pos a]);clear f a;go_enter Tryz.func180,Tryz.ntmps180;go_wp2
   go_ret3
   exact ⟨by rw [d.out];rfl,rfl⟩
 have t:((s[0].toNat:Int) == 110)=false:=by simp;omega
 by_cases b:s[0].toNat=114
 . have q:((s[0].toNat:Int) == 114)=true:=by simp;omega
   have d:=hid (show gV s.data.toList=(0,13,1) by rw [f.out,if_neg a,if_pos b]);clear f b a;go_enter Tryz.func180,Tryz.ntmps180;go_wp2
   go_ret3
   exact ⟨by rw [d.out];rfl,rfl⟩
 have q:((s[0].toNat:Int) == 114)=false:=by simp;omega
 by_cases c:s[0].toNat=116
 . have r:((s[0].toNat:Int) == 116)=true:=by simp;omega
   have d:=hid (show gV s.data.toList=(0,9,1) by rw [f.out,if_neg a,if_neg b,if_pos c]);clear f c a b;go_enter Tryz.func180,Tryz.ntmps180;go_wp2
   go_ret3
   exact ⟨by rw [d.out];rfl,rfl⟩
 have r:((s[0].toNat:Int) == 116)=false:=by simp;omega
 by_cases j:s[0].toNat=34
 . have B:((s[0].toNat:Int) == 34)=true:=by simp;omega
   have d:=hid (show gV s.data.toList=((0:Int),s[0].toNat,1) by rw [f.out,if_neg a,if_neg b,if_neg c,if_pos (Or.inl j)]);clear f j a b c;go_enter Tryz.func180,Tryz.ntmps180;go_wp2
   go_ret3
   exact ⟨by rw [d.out];rfl,rfl⟩
 have B:((s[0].toNat:Int) == 34)=false:=by simp;omega
 by_cases k:s[0].toNat=92
 . have C:((s[0].toNat:Int) == 92)=true:=by simp;omega
   have d:=hid (show gV s.data.toList=((0:Int),s[0].toNat,1) by rw [f.out,if_neg a,if_neg b,if_neg c,if_pos (Or.inr k)]);clear f k a b c j;go_enter Tryz.func180,Tryz.ntmps180;go_wp2
   go_ret3
   exact ⟨by rw [d.out];rfl,rfl⟩
 have C:((s[0].toNat:Int) == 92)=false:=by simp;omega
 have l:¬ (s[0].toNat=34 ∨ s[0].toNat=92):=by omega
 by_cases i:s[0].toNat=117
 . have v:((s[0].toNat:Int) == 117)=true:=by simp;omega
   have o:=hid (f.out.trans (by rw [if_neg a,if_neg b,if_neg c,if_neg l,if_pos i]));clear f i a b c j k l
   by_cases n:s.size=1
   . have d:=hid (show gV s.data.toList=(40,0,0) from o.out.trans (dif_pos n))
     have E:((s.size:Int) == 1)=true:=by simp;omega
     clear o n;go_enter Tryz.func180,Tryz.ntmps180;go_wp2
     go_ret3
     exact ⟨by rw [d.out];rfl,rfl⟩
   . have E:((s.size:Int) == 1)=false:=by simp;omega
     have K:1 < s.size:=by omega
     have G:(1:Int) < (s.size:Int):=by omega
     have F:(2:Int)<=(s.size:Int):=by omega
     have p:=hid (o.out.trans (dif_neg n))
     by_cases g:s[1].toNat=123
     . have z:((s[1].toNat:Int) != 123)=false:=by simp;omega
       have d:=hid (p.out.trans (if_neg (by simpa using g)));have y:=hid (KG (s.extract 2 s.size) w (by rw [<-aj,aY,List.length_drop,aj];omega));rw [aY] at y
       have A:=hid (show (kF (s.data.toList.drop 2)).2.2<=2000000 by
        have H:(hxL (s.data.toList.drop 2)).length<=6:=by
         unfold hxL;exact Nat.le_trans (List.takeWhile_sublist _).length_le (by rw [List.length_take];omega)
        unfold kF
        repeat' split
        all_goals simp
        all_goals omega)
       generalize kF (s.data.toList.drop 2)=x at *;obtain ⟨I,J,L⟩:=x;simp only at A d;have N:=A.out;clear o p n g;unfold UO at y;go_enter Tryz.func180,Tryz.ntmps180;go_wp2_with (go_at_call 217;refine y.out.mono ?_;rintro e w1 ⟨rfl,rfl⟩)
       go_ret3
       exact ⟨by rw [d.out];rfl,rfl⟩
     . have z:((s[1].toNat:Int) != 123)=true:=by simp;omega
       have d:=hid (p.out.trans (if_pos g));clear o p n g;go_enter Tryz.func180,Tryz.ntmps180;go_wp2
       go_ret3
       exact ⟨by rw [d.out];rfl,rfl⟩
 . have v:((s[0].toNat:Int) == 117)=false:=by simp;omega
   have d:=hid (show gV s.data.toList=(2,0,0) from f.out.trans (by rw [if_neg a,if_neg b,if_neg c,if_neg l,if_neg i]));clear f i a b c j k l;go_enter Tryz.func180,Tryz.ntmps180;go_wp2
   go_ret3
   exact ⟨by rw [d.out];rfl,rfl⟩
def UD:Go.Shelf.Ren:=⟨Tryz.mG.f,fun | 72=>205 | n=>Tryz.mG.t n,Tryz.mG.g⟩
theorem Ue:Go.Proofs.Lays.n242 Tryz.prog UD:={ Tryz.lays242 with }
theorem Rl:Go.Proofs.Builder.Extra Tryz.prog UD:={
 sizeBuilder:=by kernel_rfl
 liesBuilder:=by kernel_rfl
 t5:=Tryz.underlying5
 a5:=Tryz.isAgg5
 z5:=Tryz.sizeOf5
 v5:=Tryz.zeroValue5
 infoByte:=by kernel_rfl
 cellsByte:=by kernel_rfl
 sizeByte:=by kernel_rfl
 neB5:=by decide }
abbrev BF (B b:Nat) (l:List UInt8) (w:World):Prop:=Lib.IsBuilderF 205 5 B b (Lib.byteCells l) w
set_option maxHeartbeats 2000000 in
set_option maxRecDepth 100000 in
theorem Fv (B b:Nat) (bs:List Value) (w:World) (h:Lib.IsBuilderF 205 5 B b bs w) :
  Calls Tryz.prog 218 #[.pointer (some ⟨b,0,none⟩)] w fun e w'=>e=.returned (.tuple #[])/\(Lib.BuilderAtF 205 5 B b (.pointer (some ⟨b,0,none⟩)) bs w'/\Below B w w'):=by
 obtain ⟨j,c,d⟩:=Option.map_eq_some_iff.1 Ja;rcases h with h | h
 . have f:=h.cell0
   have a:=h.shape;have g:=h.frozen0;have H:=hid h;clear h;go_enter Tryz.func218,Tryz.ntmps218;go_wp2
   rw [Lib.run_to_unsafe w ⟨b,0,none⟩ Tryz.underlying203 Tryz.underlying255 c (by rw [d];decide) a (Nat.zero_lt_succ 1)];simp only [Result.andThen];rw [Oper.upon_value];go_wp2
   rw [run_callFunc_extern Tryz.func239 (by kernel_rfl) (by kernel_rfl) (by kernel_rfl) (e:=Extern.AbiNoEscape.same) (by kernel_rfl)];rw [Lib.run_noEscape];simp only [Result.andThen];rw [Oper.upon_value];go_wp2
   rw [Lib.run_from_unsafe w ⟨b,0,none⟩ Tryz.underlying255 Tryz.underlying203 c a IA];simp only [Result.andThen];rw [Oper.upon_value];go_wp2
   go_end0
   exact ⟨rfl,H.out.used _,(Below.refl B w).setCell (p:=⟨b,0,none⟩) H.out.1 _⟩
 . have f:=h.cell0
   have H:=hid h;clear h;go_enter Tryz.func218,Tryz.ntmps218;go_wp2
   rw [Lib.run_neq_ptr_same w _ Tryz.underlying203 c];go_wp2
   go_end0
   exact ⟨rfl,H.out,Below.refl B _⟩
set_option maxHeartbeats 4000000 in
set_option maxRecDepth 100000 in
theorem Jq (B b:Nat) (bs:List Value) (r:Int) (hr0:-2147483648<=r) (hr1:r<=2147483647) (w:World) (h:Lib.IsBuilderF 205 5 B b bs w) (hlen:bs.length+4<=1000000000) (hBw:B<=w.heap.size) :
  Calls Tryz.prog 181 #[.pointer (some ⟨b,0,none⟩),.int .i32 r] w fun e w'=>e=.returned (.tuple #[.int .i64 (Lib.runeCells r).length,.nilIface])/\(Lib.BuilderAtF 205 5 B b (.pointer (some ⟨b,0,none⟩)) (bs ++ Lib.runeCells r) w'/\Below B w w'):=by
 have M:=Lib.runeCells_le r;go_enter Tryz.func181,Tryz.ntmps181;go_wp2_with (go_at_call 218;refine (Fv B b bs _ h).mono ?_)
 rintro e w1 ⟨rfl,L,i⟩;obtain ⟨C,v,l,d,E⟩:=L
 obtain ⟨m,a,rfl⟩:∃ m a,v=.slice m bs.length a:=by
  rcases d.2 with ⟨hv,h0⟩ | ⟨g,a,cur,fz,hv,_⟩
  . exact ⟨none,0,by rw [hv,h0]⟩
  . exact ⟨_,_,hv⟩
 have S:w1.cell? ⟨b,0,none⟩=some (.pointer (some ⟨b,0,none⟩)):=by rw [Lib.cell_of_heap l];rfl
 have P:w1.cell? ⟨b,1,none⟩=some (.slice m bs.length a):=by rw [Lib.cell_of_heap l];rfl
 have s:=Any.utf8_AppendRune_own Ue Rl B _ bs.length bs r hr0 hr1 w1 d (by omega) (by have:=i.size;omega);go_wp2_with (go_at_call 219;refine s.mono ?_)
 rintro e w2 ⟨J,rfl,f,o,c⟩
 have H:b < w1.heap.size:=by
  rcases Nat.lt_or_ge b w1.heap.size with h' | h'
  . exact h'
  . simp [Array.getElem?_eq_none h'] at l
 have j:w2.heap[b]?=some (.cells #[.pointer (some ⟨b,0,none⟩),.slice m bs.length a] 205 (0,0)):=by
  rw [c.block b (by simp;omega) (fun e=>E e.symm),Lib.alloc_old w1 _ b H];exact l
 have Q:w2.cell? ⟨b,0,none⟩=some (.pointer (some ⟨b,0,none⟩)):=by rw [Lib.cell_of_heap j];rfl
 have R:w2.cell? ⟨b,1,none⟩=some (.slice m bs.length a):=by rw [Lib.cell_of_heap j];rfl
 have N:w2.frozen? ⟨b,1,none⟩=false:=Lib.frozen_of_heap j 1
 obtain ⟨y,n,D⟩:∃ y n,J=.slice y (bs.length+(Lib.runeCells r).length) n:=by
  rcases f.2 with ⟨hv,h0⟩ | ⟨g,a,cur,fz,hv,_⟩
  . exact ⟨none,0,by rw [hv,h0]⟩
  . exact ⟨_,_,hv⟩
 subst D;have G:=hid j;have K:=hid f;have O:Hid ((w1.heap.size:Int)=w1.heap.size):=hid rfl;have A:=hid (show Below B w w2 from (i.alloc (by have:=i.size;omega) _).grown c (by have:=i.size;simp;omega) (fun k I=>(d.lt k I).1));have q:((bs.length+(Lib.runeCells r).length:Nat):Int) - (bs.length:Int)=(Lib.runeCells r).length:=by omega
 clear j f c d s i l h;generalize u:(Lib.runeCells r).length=F at *;have t:=hid u;clear u;have U:=hid q;clear q;go_wp2
 go_ret2
 refine ⟨?_,?_,?_⟩
 . rw [t.out]
   exact congrArg (fun z:Int=>Ending.returned (.tuple #[.int .i64 z,.nilIface])) (show ((bs.length:Int)+(F:Int) - (bs.length:Int))=(F:Int) by omega)
 . exact Lib.BuilderAtF.put (T:=205) (e:=5) C G.out (bs':=bs ++ Lib.runeCells r) (by rw [List.length_append,t.out];exact K.out) (by decide)
 . exact A.out.setCell (p:=⟨b,1,none⟩) C _
theorem Cc (B b:Nat) (l:List UInt8) (r:Nat) (hr:r<=1114111) (w:World) (h:BF B b l w) (hlen:l.length<=100000000) (hBw:B<=w.heap.size) :
  Calls Tryz.prog 181 #[.pointer (some ⟨b,0,none⟩),.int .i32 r] w fun e w'=>(∃ k:Int,e=.returned (.tuple #[.int .i64 k,.nilIface]))/\BF B b (l ++ Lib.encodeRune r) w'/\Below B w w':=by
 refine (Jq B b _ r (by omega) (by omega) w h (by simp [Lib.byteCells];omega) hBw).mono ?_;rintro e w' ⟨rfl,c,a⟩;refine ⟨⟨_,rfl⟩,Or.inr ?_,a⟩;have e:Lib.byteCells (l ++ Lib.encodeRune r)=Lib.byteCells l ++ Lib.runeCells r:=by rw [<-Lib.byteCells_encodeRune];simp [Lib.byteCells]
 rw [e];exact c
theorem Tq (w:World) (B:Nat) (hB:B<=w.heap.size):BF B w.heap.size [] (w.alloc (.cells #[.pointer none,.slice none 0 0] 205)):=Lib.IsBuilderF.of (FQ w B hB)
end Go.Proofs.YtomhbcfjhgecbaaGreatDoor.Adr
namespace Go.Proofs.YtomhbcfjhgecbaaGreatDoor
open Go.Lib
def iF (n b0 b1 b2 b3:Nat):Nat:=
 if b0 < 128 then 1
 else if 194<=b0/\b0<=223/\1 < n/\128<=b1/\b1<=191 then 2
 else if 224<=b0/\b0<=239/\1 < n/\(if b0=224 then 160 else 128)<=b1/\b1<=(if b0=237 then 159 else 191)/\2 < n/\128<=b2/\b2<=191 then 3
 else if 240<=b0/\b0<=244/\1 < n/\(if b0=240 then 144 else 128)<=b1/\b1<=(if b0=244 then 143 else 191)/\2 < n/\128<=b2/\b2<=191/\3 < n/\128<=b3/\b3<=191 then 4
 else 0
set_option maxHeartbeats 4000000 in
theorem yB (n b0 b1 b2 b3:Nat) (_hn:1<=n) (h0:b0 < 256) (h1:b1 < 256) (h2:b2 < 256) (h3:b3 < 256) :
  (iF n b0 b1 b2 b3=0/\decodeN n b0 b1 b2 b3=(65533,1)) ∨ (0 < iF n b0 b1 b2 b3/\(decodeN n b0 b1 b2 b3).2=iF n b0 b1 b2 b3/\¬ ((decodeN n b0 b1 b2 b3).1=65533/\(decodeN n b0 b1 b2 b3).2=1)):=by
 by_cases c:b0 < 128
 . right
   unfold iF decodeN;rw [if_pos c,if_pos c];simp;omega
 by_cases d:b0 < 194
 . left
   refine ⟨?_,decodeN_bad n b0 b1 b2 b3 (.inl ⟨by omega,d⟩)⟩;unfold iF;rw [if_neg c,if_neg (by omega),if_neg (by omega),if_neg (by omega)]
 by_cases f:b0<=223
 . unfold iF decodeN
   rw [if_neg c,if_neg c]
   by_cases e:1 < n/\128<=b1/\b1<=191
   . right
     rw [if_pos ⟨by omega,f,e⟩,if_pos ⟨by omega,by omega,by omega⟩,if_pos (by omega)];simp
   . left
     rw [if_neg (by omega),if_neg (by omega),if_neg (by omega),if_neg (by omega),if_neg (by omega),if_neg (by omega)];exact ⟨rfl,rfl⟩
 by_cases g:b0<=239
 . unfold iF decodeN
   rw [if_neg c,if_neg c,if_neg (by omega:¬ (194<=b0/\b0<=223/\1 < n/\128<=b1/\b1<=191)),if_neg (by omega:¬ (b0 / 32=6/\1 < n/\b1 / 64=2))];rw [if_neg (by omega:¬ (240<=b0/\b0<=244/\1 < n/\_))];rw [if_neg (by omega:¬ (b0 / 8=30/\(1 < n/\b1 / 64=2)/\(2 < n/\b2 / 64=2)/\(3 < n/\b3 / 64=2)))]
   by_cases b:b0=224
   . subst b
     repeat' split
     all_goals simp_all
     all_goals omega
   by_cases a:b0=237
   . subst a
     repeat' split
     all_goals simp_all
     all_goals omega
   . simp only [b,a,if_false]
     repeat' split
     all_goals simp_all
     all_goals omega
 by_cases i:b0<=244
 . unfold iF decodeN
   rw [if_neg c,if_neg c,if_neg (by omega:¬ (194<=b0/\b0<=223/\1 < n/\128<=b1/\b1<=191)),if_neg (by omega:¬ (b0 / 32=6/\1 < n/\b1 / 64=2))];rw [if_neg (by omega:¬ (b0 / 16=14/\(1 < n/\b1 / 64=2)/\(2 < n/\b2 / 64=2)))];rw [if_neg (by omega:¬ (224<=b0/\b0<=239/\1 < n/\_))]
   by_cases b:b0=240
   . subst b
     repeat' split
     all_goals simp_all
     all_goals omega
   by_cases a:b0=244
   . subst a
     repeat' split
     all_goals simp_all
     all_goals omega
   . simp only [b,a,if_false]
     repeat' split
     all_goals simp_all
     all_goals omega
 . left
   refine ⟨?_,decodeN_bad n b0 b1 b2 b3 (.inr ⟨by omega,h0⟩)⟩;unfold iF;rw [if_neg c,if_neg (by omega),if_neg (by omega),if_neg (by omega)]
def bU (l:List UInt8):Nat:=iF l.length (l.getD 0 0).toNat (l.getD 1 0).toNat (l.getD 2 0).toNat (l.getD 3 0).toNat
theorem lT (l:List UInt8) (hne:l≠[]):validD l=if bU l=0 then false else validD (l.drop (bU l)):=by
 have a:0 < l.length:=List.length_pos_iff.2 hne;rw [validD_step l hne,decodeL_N];rcases yB l.length (l.getD 0 0).toNat (l.getD 1 0).toNat (l.getD 2 0).toNat (l.getD 3 0).toNat a (l.getD 0 0).toNat_lt (l.getD 1 0).toNat_lt (l.getD 2 0).toNat_lt (l.getD 3 0).toNat_lt with ⟨h1,h2⟩ | ⟨h1,h2,h3⟩
 . rw [h2,if_pos ⟨rfl,rfl⟩,if_pos (show bU l=0 from h1)]
 . rw [if_neg h3,h2,if_neg (show ¬ bU l=0 by unfold bU;omega)];rfl
end Go.Proofs.YtomhbcfjhgecbaaGreatDoor
namespace Go.Proofs.YtomhbcfjhgecbaaGreatDoor.Adr
open Go.RowKit Go.Sort Go.Lib Go.Maps
open Go.Lib (hid)
def gW (l:List UInt8):Int × List UInt8 × Nat:=
 if (l.getD 0 0).toNat=92 then (if (gV l.tail).1≠0 then ((gV l.tail).1,[],0) else (0,Lib.encodeRune ((gV l.tail).2.1:Nat),(gV l.tail).2.2+1))
 else if bU l=0 ∨ (l.getD 0 0).toNat < 32 ∨ (l.getD 0 0).toNat=127 then (2,[],0) else (0,l.take (bU l),bU l)
def iQ (l out:List UInt8):Int × List UInt8 × List UInt8:=
 match l with
 | []=>(40,[],[])
 | c :: r=>if c.toNat=34 then (if 4096 < out.length then (3,[],[]) else (0,out,r))
   else if (gW (c :: r)).1≠0 then ((gW (c :: r)).1,[],[]) else iQ (r.drop ((gW (c :: r)).2.2 - 1)) (out ++ (gW (c :: r)).2.1)
termination_by l.length
decreasing_by simp;omega
def bz (l:List UInt8):Int × List UInt8 × Nat:=
 if l.length=0 then (40,[],0) else if (l.getD 0 0).toNat≠34 then (2,[],0)
 else if (iQ l.tail []).1≠0 then ((iQ l.tail []).1,[],0) else (0,(iQ l.tail []).2.1,l.length - (iQ l.tail []).2.2.length)
theorem rY (out:List UInt8):iQ [] out=(40,[],[]):=by rw [iQ]
theorem rF (c:UInt8) (r out:List UInt8) (h:c.toNat=34):iQ (c :: r) out=if 4096 < out.length then (3,[],[]) else (0,out,r):=by rw [iQ,if_pos h]
theorem wM (c:UInt8) (r out:List UInt8) (h:c.toNat≠34) (h1:(gW (c :: r)).1≠0):iQ (c :: r) out=((gW (c :: r)).1,[],[]):=by rw [iQ,if_neg h,if_pos h1]
theorem EO (c:UInt8) (r out:List UInt8) (h:c.toNat≠34) (h1:(gW (c :: r)).1=0) (h2:1<=(gW (c :: r)).2.2):iQ (c :: r) out=iQ ((c :: r).drop (gW (c :: r)).2.2) (out ++ (gW (c :: r)).2.1):=by
 rw [iQ,if_neg h,if_neg (by rw [h1];simp)]
 congr 1
 obtain ⟨n,a⟩:∃ n,(gW (c :: r)).2.2=n+1:=⟨_,(Nat.sub_add_cancel h2).symm⟩;rw [a];simp
theorem lJ (s:ByteArray) (k:Nat) (h:k < s.size):(s.data.toList.drop k).getD 0 0=s[k]:=by
 rw [List.getD_eq_getElem?_getD,List.getElem?_drop,Nat.add_zero,List.getElem?_eq_getElem (by rw [aj];exact h)];rfl
theorem drop_cons (s:ByteArray) (k:Nat) (h:k < s.size):s.data.toList.drop k=s[k] :: s.data.toList.drop (k+1):=by
 rw [List.drop_eq_getElem_cons (by rw [aj];exact h)];rfl
theorem Nr {l:List UInt8} (h:(kF l).1=0):Lib.validRune ((kF l).2.1:Nat)=true/\1<=(kF l).2.2/\(kF l).2.2<=l.length:=by
 unfold kF at *;generalize (hxL l).length=k at *;generalize vH (hxL l)=F at *;generalize (l.getD k 0).toNat=x at *;generalize (l.getD 0 0).toNat=y at *
 by_cases b:l.length<=k
 . rw [if_pos b] at h;cases h
 . rw [if_neg b] at h ⊢
   by_cases a:x≠125 ∨ k=0 ∨ (1 < k/\y=48) ∨ Lib.validRune (F:Nat)=false
   . rw [if_pos a] at h;cases h
   . rw [if_neg a]
     refine ⟨?_,by show 1<=k+1;omega,by show k+1<=_;omega⟩;cases c:Lib.validRune (F:Nat) with
     | true=>rfl
     | false=>exact absurd (Or.inr (Or.inr (Or.inr c))) a
theorem LP {r:Nat} (h:Lib.validRune (r:Int)=true):r<=1114111:=by unfold Lib.validRune at h;have:=of_decide_eq_true h;omega
theorem rW {r:Nat} (h:r < 256):Lib.validRune (r:Int)=true:=by unfold Lib.validRune;exact decide_eq_true (by omega)
theorem Ii {l:List UInt8} (h:(gV l).1=0):Lib.validRune ((gV l).2.1:Nat)=true/\1<=(gV l).2.2/\(gV l).2.2<=l.length:=by
 have m:(l.getD 0 0).toNat < 256:=(l.getD 0 0).toNat_lt;unfold gV at *
 by_cases f:l.length=0
 . rw [if_pos f] at h;simp at h
 rw [if_neg f] at h ⊢;generalize (l.getD 0 0).toNat=b at *
 by_cases g:b=110
 . rw [if_pos g];exact ⟨rW (by decide),by simp,by simp;omega⟩
 rw [if_neg g] at h ⊢
 by_cases j:b=114
 . rw [if_pos j];exact ⟨rW (by decide),by simp,by simp;omega⟩
 rw [if_neg j] at h ⊢
 by_cases d:b=116
 . rw [if_pos d];exact ⟨rW (by decide),by simp,by simp;omega⟩
 rw [if_neg d] at h ⊢
 by_cases a:b=34 ∨ b=92
 . rw [if_pos a];exact ⟨rW m,by simp,by simp;omega⟩
 rw [if_neg a] at h ⊢
 by_cases c:b=117
 . rw [if_pos c] at h ⊢
   by_cases k:l.length=1
   . rw [if_pos k] at h;simp at h
   rw [if_neg k] at h ⊢
   by_cases i:(l.getD 1 0).toNat≠123
   . rw [if_pos i] at h;simp at h
   rw [if_neg i] at h ⊢;obtain ⟨k1,o,n⟩:=Nr h;refine ⟨k1,by simp,?_⟩;rw [List.length_drop] at n;show _+2<=_;omega
 . rw [if_neg c] at h;simp at h
theorem vX (r:Int):(Lib.encodeRune r).length<=4/\1<=(Lib.encodeRune r).length:=by
 have:=Lib.encodeRuneZ_length r;unfold Lib.encodeRune;simp;omega
theorem zn {l:List UInt8} (hne:l≠[]):((decodeL l).1=92 ↔ (l.getD 0 0).toNat=92)/\((l.getD 0 0).toNat=92->(decodeL l).2=1)/\(decodeL l).1<=1114111 /\
  ((((decodeL l).1=65533/\(decodeL l).2=1) ∨ (decodeL l).1 < 32 ∨ (decodeL l).1=127) ↔ (bU l=0 ∨ (l.getD 0 0).toNat < 32 ∨ (l.getD 0 0).toNat=127)) /\
  (¬ (bU l=0 ∨ (l.getD 0 0).toNat < 32 ∨ (l.getD 0 0).toNat=127)->(decodeL l).2=bU l/\Lib.encodeRune ((decodeL l).1:Int)=l.take (bU l)/\1<=bU l/\bU l<=l.length):=by
 have k:0 < l.length:=List.length_pos_iff.2 hne;have m:=Lib.decodeL_le l hne;have b:=Lib.encode_decode l hne;have i:=yB l.length (l.getD 0 0).toNat (l.getD 1 0).toNat (l.getD 2 0).toNat (l.getD 3 0).toNat k (l.getD 0 0).toNat_lt (l.getD 1 0).toNat_lt (l.getD 2 0).toNat_lt (l.getD 3 0).toNat_lt;have g:=Lib.decodeN_shape l.length (l.getD 0 0).toNat (l.getD 1 0).toNat (l.getD 2 0).toNat (l.getD 3 0).toNat
 have p:(l.getD 0 0).toNat < 256:=(l.getD 0 0).toNat_lt;have u:(l.getD 1 0).toNat < 256:=(l.getD 1 0).toNat_lt;have v:(l.getD 2 0).toNat < 256:=(l.getD 2 0).toNat_lt;have y:(l.getD 3 0).toNat < 256:=(l.getD 3 0).toNat_lt;rw [<-Lib.decodeL_N] at i g;have o:(l.getD 0 0).toNat < 128->bU l=1:=fun h=>by unfold bU iF;rw [if_pos h]
 have j:bU l=iF l.length (l.getD 0 0).toNat (l.getD 1 0).toNat (l.getD 2 0).toNat (l.getD 3 0).toNat:=rfl;rw [<-j] at i;clear j;generalize (l.getD 0 0).toNat=t at *;generalize (l.getD 1 0).toNat=q at *;generalize (l.getD 2 0).toNat=A at *;generalize (l.getD 3 0).toNat=s at *;generalize bU l=D at *;generalize z:decodeL l=d at *;obtain ⟨r,n⟩:=d;simp only [Prod.mk.injEq] at *;rcases g with ⟨a,e1,e2⟩ | ⟨a,a1,a2,a3,e1,e2⟩ | ⟨a,a1,a2,a3,a4,a5,e1,e2⟩ | ⟨a,a1,a2,a3,a4,a5,a6,e1,e2⟩ | ⟨e1,e2⟩
 . refine ⟨by omega,by omega,by omega,by omega,fun f=>?_⟩
   have c:¬ (r=65533/\n=1):=by omega
   refine ⟨by omega,?_,by omega,by omega⟩;rw [b c,show n=D by omega]
 . refine ⟨by omega,by omega,by omega,by omega,fun f=>?_⟩
   have c:¬ (r=65533/\n=1):=by omega
   refine ⟨by omega,?_,by omega,by omega⟩;rw [b c,show n=D by omega]
 . refine ⟨by omega,by omega,by omega,by omega,fun f=>?_⟩
   have c:¬ (r=65533/\n=1):=by omega
   refine ⟨by omega,?_,by omega,by omega⟩;rw [b c,show n=D by omega]
 . refine ⟨by omega,by omega,by omega,by omega,fun f=>?_⟩
   have c:¬ (r=65533/\n=1):=by omega
   refine ⟨by omega,?_,by omega,by omega⟩;rw [b c,show n=D by omega]
 . refine ⟨by omega,by omega,by omega,by omega,fun f=>by omega⟩
theorem Mc (t:ByteArray) (h:t.size≠0):Lib.decodeGo t=Lib.decodeL t.data.toList:=by
 unfold Lib.decodeGo Lib.decodeL;rw [if_neg h]
theorem ext_size (s:ByteArray) (k:Nat) (h:k<=s.size):(s.extract k s.size).size=s.size - k:=by rw [<-aj,aY,List.length_drop,aj]
theorem nT {B b:Nat} {l:List UInt8} {w w':World} (h:BF B b l w) (hb:Below w.heap.size w w'):BF B b l w':=by
 have a:∀ p,Lib.BuilderAtF 205 5 B b p (Lib.byteCells l) w->Lib.BuilderAtF 205 5 B b p (Lib.byteCells l) w':=by
  intro p h;obtain ⟨g,v,c,f,d⟩:=h;exact ⟨g,v,(hb.block _ (lt_of_block c)).trans c,f.kept (grown_below hb) (by cases v.ownBlock <;> simp),d⟩
 exact h.imp (a _) (a _)
def Ol (x:Int × List UInt8 × Nat):Ending:=.returned (.tuple #[.string ⟨x.2.1.toArray⟩,.int .i64 (x.2.2:Nat),.int .i64 x.1])
theorem I5 {s:ByteArray} (h:0 < s.size) (hq:s[0].toNat=34):bz s.data.toList=if (iQ (s.data.toList.drop 1) []).1≠0 then ((iQ (s.data.toList.drop 1) []).1,[],0) else (0,(iQ (s.data.toList.drop 1) []).2.1,s.size - (iQ (s.data.toList.drop 1) []).2.2.length):=by
 unfold bz;rw [aj,if_neg (by omega),getD_at s h,if_neg (by rw [hq];simp),List.drop_one]
set_option maxHeartbeats 16000000 in
set_option maxRecDepth 100000 in
theorem yF (s:ByteArray) (w:World) (hT:WT w) (hs:s.size<=2000000):Calls Tryz.prog 134 #[.string s] w fun e w'=>e=Ol (bz s.data.toList)/\Below w.heap.size w w':=by
 by_cases J:s.size=0
 . have o:=hid (show bz s.data.toList=(40,[],0) by unfold bz;rw [aj,if_pos J])
   have HB:=hid (Below.refl w.heap.size w);have e0:=mD J;clear J hT;go_enter Tryz.func134,Tryz.ntmps134;go_wp2
   go_ret3
   exact ⟨by rw [o.out];rfl,HB.out⟩
 have e0:=gG J;have aa:0 < s.size:=by omega
 by_cases hq:s[0].toNat=34
 case neg =>
  have o:=hid (show bz s.data.toList=(2,[],0) by unfold bz;rw [aj,if_neg J,getD_at s aa,if_pos hq]);have HB:=hid (Below.refl w.heap.size w);have e1:((s[0].toNat:Int) != 34)=true:=by simp;omega
  clear J hT hq;go_enter Tryz.func134,Tryz.ntmps134;go_wp2
  go_ret3
  exact ⟨by rw [o.out];rfl,HB.out⟩
 have z:=hid (I5 aa hq);have e1:((s[0].toNat:Int) != 34)=false:=by simp;omega
 have ad:=hid (Tq w w.heap.size (Nat.le_refl _));have an:=hid (show Below w.heap.size w (w.alloc (.cells #[.pointer none,.slice none 0 0] 205)) from (Below.refl _ _).alloc (Nat.le_refl _) _);have aq:=hid (fun (W:World) (hW:Below w.heap.size w W)=>(hT.below hW).u);clear J hT hq;go_enter Tryz.func134,Tryz.ntmps134;go_wp2
 generalize hX:iQ (s.data.toList.drop 1) []=X at *;have HX:=hid hX;clear hX;go_loopg [6] s.size (fun gg s6 wr=>∃ (k:Nat) (c:List UInt8),1<=k/\k<=s.size/\s.size - k<=gg/\s6=.int .i64 k/\Hid (BF w.heap.size w.heap.size c wr)/\Hid (Below w.heap.size w wr)/\Hid (iQ (s.data.toList.drop k) c=X)/\Hid (c.length<=4 * k))
 case atStart=>exact ⟨1,[],by omega,by omega,by omega,rfl,ad,an,HX,hid (by simp)⟩
 case round =>
  clear ad an HX;obtain ⟨k,c,aM,hk,aR,rfl,D,i,E,HA⟩:=hrel
  by_cases Y:k < s.size
  case neg =>
   have al:(s.data.toList.drop k)=[]:=List.drop_eq_nil_of_le (by rw [aj];omega)
   have o:=hid (show bz s.data.toList=(40,[],0) by
    rw [z.out];have h:=E.out;rw [al,rY] at h;rw [<-h];rfl)
   have e2:((k:Int) == (s.size:Int))=true:=by simp;omega
   clear al z E;go_wp2
   go_ret3
   exact ⟨by rw [o.out];rfl,i.out⟩
  have aL:(k:Int) < (s.size:Int):=by omega
  have e2:((k:Int) == (s.size:Int))=false:=by simp;omega
  have B:=hid (drop_cons s k Y)
  by_cases H:s[k].toNat=34
  . have av:((s[k].toNat:Int) != 34)=false:=by simp;omega
    have N:=hid (show X=if 4096 < c.length then (3,[],[]) else (0,c,s.data.toList.drop (k+1)) by rw [<-E.out,B.out,rF _ _ _ H]);have T:=hid (Tryz.Builder_Len_f w.heap.size w.heap.size _ wr D.out);have j:(Lib.byteCells c).length=c.length:=by simp [Lib.byteCells]
    rw [j] at T;have ar:=hid (fun (W:World) (h:BF w.heap.size w.heap.size c W) (hW:w.heap.size<=W.heap.size)=>Tryz.Builder_String_any_f w.heap.size w.heap.size _ W h hW);clear H j
    by_cases A:4096 < c.length
    . have o:=hid (show bz s.data.toList=(3,[],0) by
       rw [z.out,N.out,if_pos A];rfl)
      have ap:(4096:Int) < (c.length:Int):=by omega
      clear z E N A;go_wp2_with (go_at_call 182;refine T.out.mono ?_;rintro e w2 ⟨rfl,rfl⟩)
      go_ret3
      exact ⟨by rw [o.out];rfl,i.out⟩
    . have o:=hid (show bz s.data.toList=(0,c,k+1) by
       rw [z.out,N.out,if_neg A,if_neg (by simp)];show (0,c,s.size - (s.data.toList.drop (k+1)).length)=_;rw [List.length_drop,aj,show s.size - (s.size - (k+1))=k+1 by omega])
      have ap:¬ (4096:Int) < (c.length:Int):=by omega
      clear z E N A
      go_wp2_with (first
       | (go_at_call 182;refine T.out.mono ?_;rintro e w2 ⟨rfl,rfl⟩)
       | (go_at_call 183;refine (ar.out _ D.out i.out.size).mono ?_;rintro e w3 ⟨rfl,am⟩;have aD:=hid am.2;clear am))
      go_ret3
      exact ⟨by rw [o.out];rfl,i.out.trans aD.out⟩
  . have av:((s[k].toNat:Int) != 34)=true:=by simp;omega
    have ao:=ext_size s k hk;have ab:=Mc (s.extract k s.size) (by rw [ao];omega);rw [aY] at ab;have C:=hid (Tryz.utf8_DecodeRuneInString (s.extract k s.size) wr (aq.out _ i.out));rw [ab] at C;have af:s.data.toList.drop k≠[]:=by rw [B.out];simp
    obtain ⟨U,d2,d3,K,L⟩:=zn af;rw [lJ s k Y] at U d2 K L
    have a:gW (s.data.toList.drop k)=if s[k].toNat=92 then (if (gV (s.data.toList.drop (k+1))).1≠0 then ((gV (s.data.toList.drop (k+1))).1,[],0) else (0,Lib.encodeRune ((gV (s.data.toList.drop (k+1))).2.1:Nat),(gV (s.data.toList.drop (k+1))).2.2+1))
      else if bU (s.data.toList.drop k)=0 ∨ s[k].toNat < 32 ∨ s[k].toNat=127 then (2,[],0) else (0,(s.data.toList.drop k).take (bU (s.data.toList.drop k)),bU (s.data.toList.drop k)):=by
     unfold gW;rw [lJ s k Y,show (s.data.toList.drop k).tail=s.data.toList.drop (k+1) by rw [List.tail_drop]]
    have q:=hid (fun (h:(gW (s.data.toList.drop k)).1≠0)=>show X=((gW (s.data.toList.drop k)).1,[],[]) by
     rw [<-E.out];rw [B.out] at h ⊢;exact wM _ _ _ H h)
    have t:=hid (fun (h:(gW (s.data.toList.drop k)).1=0) (h1:1<=(gW (s.data.toList.drop k)).2.2)=>show iQ (s.data.toList.drop (k+(gW (s.data.toList.drop k)).2.2)) (c ++ (gW (s.data.toList.drop k)).2.1)=X by
     have:=EO s[k] (s.data.toList.drop (k+1)) c H (by rw [<-B.out];exact h) (by rw [<-B.out];exact h1);rw [<-B.out,E.out,List.drop_drop] at this;exact this.symm)
    have ac:(s.data.toList.drop k).length=s.size - k:=by rw [List.length_drop,aj]
    rw [ac] at L;clear H ab af E B ac;have P:c.length<=100000000:=by have:=HA.out;omega
    have V:=hid P;clear P
    by_cases y:s[k].toNat=92
    . rw [if_pos y] at a
      have hr:=U.2 y;have hn:=d2 y;have HE:=hid (fun (W:World)=>Lh (s.extract (k+1) s.size) W (by rw [ext_size s (k+1) (by omega)];omega));rw [aY] at HE;have I:=Ii (l:=s.data.toList.drop (k+1));rw [List.length_drop,aj] at I;have a0:(k:Int)+1<=(s.size:Int):=by omega
      generalize gV (s.data.toList.drop (k+1))=x at *;obtain ⟨x1,x2,x3⟩:=x;unfold UO at HE;simp only at HE a I;rw [hr,hn] at C;clear U d2 d3 K L hr hn y
      by_cases S:x1=0
      . subst S
        obtain ⟨o1,o2,o3⟩:=I rfl;rw [if_neg (by simp)] at a;have g:=hid (t.out (by rw [a]) (by rw [a];show 1<=x3+1;omega));rw [a] at g;have O:=hid (LP o1);have M:=hid (vX (x2:Int)).1;clear a I t q o1 z;go_wp2_with (first | (go_at_call 179;refine C.out.mono ?_;rintro e w2 ⟨rfl,b⟩;have p:=hid (nT D.out b);have f:=hid (i.out.trans (b.mono i.out.size));clear b) | (go_at_call 180;refine (HE.out _).mono ?_;rintro e w3 ⟨rfl,rfl⟩) | (go_at_call 181;refine (Cc w.heap.size w.heap.size c x2 O.out _ p.out V.out f.out.size).mono ?_;rintro e w4 ⟨⟨kk,rfl⟩,j,v⟩;have F:=hid j;have G:=hid (f.out.trans v);clear j v))
        go_roundg (s.size - (k+(x3+1)))
        case measure=>omega
        case rel=>exact ⟨k+(x3+1),c ++ Lib.encodeRune (x2:Nat),by omega,by omega,by omega,by go_num,F,G,g,hid (by have:=M.out;have:=HA.out;rw [List.length_append];omega)⟩
      . have e3:(x1 != 0)=true:=by simpa using S
        rw [if_pos S] at a;have g:=hid (q.out (by rw [a];exact S));rw [a] at g
        have o:=hid (show bz s.data.toList=(x1,[],0) by
         rw [z.out,g.out,if_pos S])
        clear a I t q g z S;go_wp2_with (first | (go_at_call 179;refine C.out.mono ?_;rintro e w2 ⟨rfl,b⟩;have p:=hid (nT D.out b);have f:=hid (i.out.trans (b.mono i.out.size));clear b) | (go_at_call 180;refine (HE.out _).mono ?_;rintro e w3 ⟨rfl,rfl⟩))
        go_ret3
        exact ⟨by rw [o.out];rfl,f.out⟩
    . rw [if_neg y] at a
      have Z:(Lib.decodeL (s.data.toList.drop k)).1≠92:=fun e=>y (U.1 e);generalize aw:Lib.decodeL (s.data.toList.drop k)=d at *;obtain ⟨r,n⟩:=d;simp only at C Z d3 K L;have aE:((r:Int) == 92)=false:=by simp;omega
      clear U d2 aw Z
      by_cases m:bU (s.data.toList.drop k)=0 ∨ s[k].toNat < 32 ∨ s[k].toNat=127
      . rw [if_pos m] at a
        have Q:=K.2 m;have g:=hid (q.out (by rw [a];simp));rw [a] at g
        have o:=hid (show bz s.data.toList=(2,[],0) by
         rw [z.out,g.out];rfl)
        clear a t q g z m d3 K L y
        by_cases R:r=65533
        . have f1:((r:Int) == 65533)=true:=by simp;omega
          have c2:n=1:=by omega
          have f2:((n:Int) == 1)=true:=by simp;omega
          clear Q R c2;go_wp2_with (first | (go_at_call 179;refine C.out.mono ?_;rintro e w2 ⟨rfl,b⟩;have p:=hid (nT D.out b);have f:=hid (i.out.trans (b.mono i.out.size));clear b))
          go_ret3
          exact ⟨by rw [o.out];rfl,f.out⟩
        . have f1:((r:Int) == 65533)=false:=by simp;omega
          by_cases c3:(r:Int) < 32
          . clear Q R
            go_wp2_with (first | (go_at_call 179;refine C.out.mono ?_;rintro e w2 ⟨rfl,b⟩;have p:=hid (nT D.out b);have f:=hid (i.out.trans (b.mono i.out.size));clear b))
            go_ret3
            exact ⟨by rw [o.out];rfl,f.out⟩
          . have f4:((r:Int) == 127)=true:=by simp;omega
            clear Q R;go_wp2_with (first | (go_at_call 179;refine C.out.mono ?_;rintro e w2 ⟨rfl,b⟩;have p:=hid (nT D.out b);have f:=hid (i.out.trans (b.mono i.out.size));clear b))
            go_ret3
            exact ⟨by rw [o.out];rfl,f.out⟩
      . rw [if_neg m] at a
        have Q:¬ ((r=65533/\n=1) ∨ r < 32 ∨ r=127):=fun h=>m (K.1 h);obtain ⟨g1,g2,g3,g4⟩:=L m;rw [<-g1] at g2 g3 g4 a;have g:=hid (t.out (by rw [a]) (by rw [a];exact g3));rw [a,<-g2] at g;have O:=hid d3;have M:=hid (vX (r:Int)).1;clear a t q z m K L y g1 g2 d3;have f3:¬ (r:Int) < 32:=by omega
        have f4:((r:Int) == 127)=false:=by simp;omega
        by_cases R:r=65533
        . have f1:((r:Int) == 65533)=true:=by simp;omega
          have f2:((n:Int) == 1)=false:=by simp;omega
          clear Q R;go_wp2_with (first | (go_at_call 179;refine C.out.mono ?_;rintro e w2 ⟨rfl,b⟩;have p:=hid (nT D.out b);have f:=hid (i.out.trans (b.mono i.out.size));clear b) | (go_at_call 181;refine (Cc w.heap.size w.heap.size c r O.out _ p.out V.out f.out.size).mono ?_;rintro e w4 ⟨⟨kk,rfl⟩,j,v⟩;have F:=hid j;have G:=hid (f.out.trans v);clear j v))
          go_roundg (s.size - (k+n))
          case measure=>omega
          case rel=>exact ⟨k+n,c ++ Lib.encodeRune (r:Nat),by omega,by omega,by omega,by go_num,F,G,g,hid (by have:=M.out;have:=HA.out;rw [List.length_append];omega)⟩
        . have f1:((r:Int) == 65533)=false:=by simp;omega
          clear Q R;go_wp2_with (first | (go_at_call 179;refine C.out.mono ?_;rintro e w2 ⟨rfl,b⟩;have p:=hid (nT D.out b);have f:=hid (i.out.trans (b.mono i.out.size));clear b) | (go_at_call 181;refine (Cc w.heap.size w.heap.size c r O.out _ p.out V.out f.out.size).mono ?_;rintro e w4 ⟨⟨kk,rfl⟩,j,v⟩;have F:=hid j;have G:=hid (f.out.trans v);clear j v))
          go_roundg (s.size - (k+n))
          case measure=>omega
          case rel=>exact ⟨k+n,c ++ Lib.encodeRune (r:Nat),by omega,by omega,by omega,by go_num,F,G,g,hid (by have:=M.out;have:=HA.out;rw [List.length_append];omega)⟩
theorem below_drewN {B:Nat} {a w:World} (h:Below B a w) (n:Nat):Below B a (w.drewN n):=⟨h.os,h.tape,h.output,h.size,h.block⟩
def dE (s:ByteArray) (i:Nat) (lo hi:Int):Bool:=if h:i < s.size then decide (lo<=(s[i].toNat:Int)) && decide ((s[i].toNat:Int)<=hi) else false
theorem aN (s:ByteArray) (j lo hi:Int) (w:World) (h0:0<=j) (h1:j<=2000000) :
  Calls Tryz.prog 170 #[.string s,.int .i64 j,.int .u8 lo,.int .u8 hi] w fun e w'=>e=.returned (.bool (dE s j.toNat lo hi))/\w=w':=by
 obtain ⟨i,rfl⟩:=Int.eq_ofNat_of_zero_le h0;rw [Int.toNat_natCast]
 by_cases b:i < s.size
 . have a:=hid (show dE s i lo hi=(decide (lo<=(s[i].toNat:Int)) && decide ((s[i].toNat:Int)<=hi)) from dif_pos b)
   by_cases c:lo<=(s[i].toNat:Int)
   . by_cases d:(s[i].toNat:Int)<=hi
     all_goals
      have a:=hid (show dE s i lo hi=decide ((s[i].toNat:Int)<=hi) by rw [a.out];simp [c]);go_enter Tryz.func170,Tryz.ntmps170;go_wp2
      go_ret
      exact ⟨ah (by rw [a.out];simp [*]),rfl⟩
   . have a:=hid (show dE s i lo hi=false by rw [a.out];simp [c])
     go_enter Tryz.func170,Tryz.ntmps170;go_wp2
     go_ret
     exact ⟨ah a.out,rfl⟩
 . have a:=hid (show dE s i lo hi=false from dif_neg b)
   go_enter Tryz.func170,Tryz.ntmps170;go_wp2
   go_ret
   exact ⟨ah a.out,rfl⟩
theorem getD_drop (s:ByteArray) (i j:Nat) (h:i+j < s.size):((s.data.toList.drop i).getD j 0)=s[i+j]:=by
 rw [List.getD_eq_getElem?_getD,List.getElem?_drop,List.getElem?_eq_getElem (by simpa using h)];rfl
theorem KH (s:ByteArray) (i j:Nat) (lo hi:Int):dE s (i+j) lo hi=decide (j < (s.data.toList.drop i).length/\lo<=(((s.data.toList.drop i).getD j 0).toNat:Int)/\(((s.data.toList.drop i).getD j 0).toNat:Int)<=hi):=by
 have a:(s.data.toList.drop i).length=s.size - i:=by rw [List.length_drop,Array.length_toList];rfl
 unfold dE
 by_cases h:i+j < s.size
 . rw [dif_pos h,getD_drop s i j h,a]
   have:j < s.size - i:=by omega
   simp [this]
 . rw [dif_neg h,a]
   have:¬ j < s.size - i:=by omega
   simp [this]
theorem QY (s:ByteArray) (i:Nat) (h:i < s.size):bU (s.data.toList.drop i) =
  if s[i].toNat < 128 then 1
  else if 194<=s[i].toNat/\s[i].toNat<=223/\dE s (i+1) 128 191=true then 2
  else if 224<=s[i].toNat/\s[i].toNat<=239/\dE s (i+1) (if s[i].toNat=224 then 160 else 128) (if s[i].toNat=237 then 159 else 191)=true/\dE s (i+2) 128 191=true then 3
  else if 240<=s[i].toNat/\s[i].toNat<=244/\dE s (i+1) (if s[i].toNat=240 then 144 else 128) (if s[i].toNat=244 then 143 else 191)=true/\dE s (i+2) 128 191=true/\dE s (i+3) 128 191=true then 4
  else 0:=by
 have d:=getD_drop s i 0 (by omega);simp only [Nat.add_zero] at d;simp only [KH,decide_eq_true_eq];unfold bU iF;rw [d];generalize ((s.data.toList.drop i).getD 1 0).toNat=b1;generalize ((s.data.toList.drop i).getD 2 0).toNat=b2;generalize ((s.data.toList.drop i).getD 3 0).toNat=b3;generalize (s.data.toList.drop i).length=n;generalize (s[i]).toNat=b0
 by_cases a:b0 < 128
 . rw [if_pos a,if_pos a]
 rw [if_neg a,if_neg a]
 by_cases c:194<=b0/\b0<=223/\1 < n/\128<=b1/\b1<=191
 . rw [if_pos c,if_pos (by omega)]
 have j:¬ (194<=b0/\b0<=223/\1 < n/\(128:Int)<=(b1:Int)/\(b1:Int)<=191):=by omega
 rw [if_neg c,if_neg j];have o:((if b0=224 then 160 else 128:Int))=((if b0=224 then 160 else 128:Nat):Int):=by split <;> rfl
 have l:((if b0=237 then 159 else 191:Int))=((if b0=237 then 159 else 191:Nat):Int):=by split <;> rfl
 have m:((if b0=240 then 144 else 128:Int))=((if b0=240 then 144 else 128:Nat):Int):=by split <;> rfl
 have k:((if b0=244 then 143 else 191:Int))=((if b0=244 then 143 else 191:Nat):Int):=by split <;> rfl
 rw [o,l,m,k];generalize (if b0=224 then 160 else 128)=x1;generalize (if b0=237 then 159 else 191)=x2;generalize (if b0=240 then 144 else 128)=x3;generalize (if b0=244 then 143 else 191)=x4
 by_cases g:224<=b0/\b0<=239/\1 < n/\x1<=b1/\b1<=x2/\2 < n/\128<=b2/\b2<=191
 . rw [if_pos g,if_pos (by omega)]
 have f:¬ (224<=b0/\b0<=239/\(1 < n/\(x1:Int)<=(b1:Int)/\(b1:Int)<=(x2:Int))/\2 < n/\(128:Int)<=(b2:Int)/\(b2:Int)<=191):=by omega
 rw [if_neg g,if_neg f]
 by_cases b:240<=b0/\b0<=244/\1 < n/\x3<=b1/\b1<=x4/\2 < n/\128<=b2/\b2<=191/\3 < n/\128<=b3/\b3<=191
 . rw [if_pos b,if_pos (by omega)]
 rw [if_neg b,if_neg (by omega)]
def JE (n:Nat) (w:World) (e:Ending) (w':World):Prop:=∃ r:Int,e=.returned (.tuple #[.int .i64 r,.int .i64 n])/\Below w.heap.size w w'
theorem wF (l:List UInt8):bU l<=1+l.length/\(bU l=0 ∨ l=[] ∨ bU l<=l.length):=by
 unfold bU iF;cases l with
 | nil=>simp
 | cons x xs =>
   have:1<=(x :: xs).length:=by simp
   generalize (x :: xs).length=n at *;generalize (((x :: xs).getD 0 0).toNat)=b0;generalize (((x :: xs).getD 1 0).toNat)=b1;generalize (((x :: xs).getD 2 0).toNat)=b2;generalize (((x :: xs).getD 3 0).toNat)=b3;refine ⟨?_,?_⟩
   . repeat' split
     all_goals omega
   . by_cases h:n=0
     . omega
     . repeat' split
       all_goals omega
set_option maxRecDepth 100000 in
set_option maxHeartbeats 4000000 in
theorem kD (s:ByteArray) (i:Nat) (w:World) (hi:i < s.size) (hs:s.size<=1200000) :
  Calls Tryz.prog 127 #[.string s,.int .i64 i] w (JE (bU (s.data.toList.drop i)) w):=by
 have j:=hid (QY s i hi);have U:(0:Int)<=(s[i].toNat:Int):=by omega
 have T:(s[i].toNat:Int)<=255:=by have:=s[i].toNat_lt;omega
 generalize R:bU (s.data.toList.drop i)=D at *;clear R
 by_cases K:s[i].toNat < 128
 . have d:=hid (show D=1 by rw [j.out,if_pos K])
   have t:(s[i].toNat:Int) < 128:=by omega
   clear j;go_enter Tryz.func127,Tryz.ntmps127;go_wp2
   go_ret2
   exact ⟨_,by rw [d.out];rfl,Below.refl _ _⟩
 have j:=hid (j.out.trans (if_neg K))
 by_cases W:s[i].toNat < 194
 . have d:=hid (show D=0 by rw [j.out,if_neg (by omega),if_neg (by omega),if_neg (by omega)])
   have t:128<=(s[i].toNat:Int):=by omega
   have z:(s[i].toNat:Int) < 194:=by omega
   have n1:((s[i].toNat:Int) == 224)=false:=by simp;omega
   have X:((s[i].toNat:Int) == 237)=false:=by simp;omega
   have n3:((s[i].toNat:Int) == 240)=false:=by simp;omega
   have Z:((s[i].toNat:Int) == 244)=false:=by simp;omega
   clear j;go_enter Tryz.func127,Tryz.ntmps127;go_wp2
   go_ret2
   exact ⟨_,by rw [d.out];rfl,Below.refl _ _⟩
 by_cases Y:s[i].toNat < 224
 . have t:194<=(s[i].toNat:Int):=by omega
   have z:(s[i].toNat:Int)<=223:=by omega
   have n:((s[i].toNat:Int) == 224)=false:=by simp;omega
   have o:((s[i].toNat:Int) == 237)=false:=by simp;omega
   have l:((s[i].toNat:Int) == 240)=false:=by simp;omega
   have m:((s[i].toNat:Int) == 244)=false:=by simp;omega
   cases b:dE s (i+1) 128 191
   . have d:=hid (show D=0 by rw [j.out,if_neg (by rw [b];simp),if_neg (by omega),if_neg (by omega)])
     have f:=hid b;clear j b;go_enter Tryz.func127,Tryz.ntmps127;go_wp2_with fail
     refine (aN s _ _ _ _ (by omega) (by omega)).mono ?_;rintro e w1 ⟨rfl,rfl⟩;rw [show ((i:Int)+1).toNat=i+1 by omega,f.out];go_wp2
     go_ret2
     exact ⟨_,by rw [d.out];rfl,Below.refl _ _⟩
   . have d:=hid (show D=2 by rw [j.out,if_pos ⟨by omega,by omega,b⟩])
     have V:i+1 < s.size:=by
      apply Decidable.byContradiction;intro h;rw [dE,dif_neg h] at b;cases b
     have f:=hid b;clear j b;go_enter Tryz.func127,Tryz.ntmps127;go_wp2_with fail
     refine (aN s _ _ _ _ (by omega) (by omega)).mono ?_;rintro e w1 ⟨rfl,rfl⟩;rw [show ((i:Int)+1).toNat=i+1 by omega,f.out];go_wp2
     go_ret2
     exact ⟨_,by rw [d.out];rfl,Below.refl _ _⟩
 have j:=hid (j.out.trans (if_neg (by omega)))
 by_cases c4:s[i].toNat < 240
 . have t:224<=(s[i].toNat:Int):=by omega
   have z:(s[i].toNat:Int)<=239:=by omega
   by_cases P:s[i].toNat=224
   . have L:(if s[i].toNat=224 then 160 else 128:Int)=160:=by rw [if_pos (by omega)]
     have H:(if s[i].toNat=237 then 159 else 191:Int)=191:=by rw [if_neg (by omega)]
     have a:=j.out;rw [L,H] at a;clear j L H;have n:((s[i].toNat:Int) == 224)=true:=by simp;omega
     have o:((s[i].toNat:Int) == 237)=false:=by simp;omega
     have l:((s[i].toNat:Int) == 240)=false:=by simp;omega
     have m:((s[i].toNat:Int) == 244)=false:=by simp;omega
     cases b:dE s (i+1) 160 191
     . have d:=hid (show D=0 by rw [a,if_neg (by rw [b];simp),if_neg (by omega)])
       have f:=hid b;clear a b;go_enter Tryz.func127,Tryz.ntmps127;go_wp2_with fail
       refine (aN s _ _ _ _ (by omega) (by omega)).mono ?_;rintro e w1 ⟨rfl,rfl⟩;rw [show ((i:Int)+1).toNat=i+1 by omega,f.out];go_wp2
       go_ret2
       exact ⟨_,by rw [d.out];rfl,Below.refl _ _⟩
     . have p:i+1 < s.size:=by
        apply Decidable.byContradiction;intro h;rw [dE,dif_neg h] at b;cases b
       cases c:dE s (i+2) 128 191
       . have d:=hid (show D=0 by rw [a,if_neg (by rw [c];simp),if_neg (by omega)])
         have f:=hid b;have g:=hid c;clear a b c;go_enter Tryz.func127,Tryz.ntmps127;go_wp2_with fail
         refine (aN s _ _ _ _ (by omega) (by omega)).mono ?_;rintro e w1 ⟨rfl,rfl⟩;rw [show ((i:Int)+1).toNat=i+1 by omega,f.out];go_wp2_with fail
         refine (aN s _ _ _ _ (by omega) (by omega)).mono ?_;rintro e w1 ⟨rfl,rfl⟩;rw [show ((i:Int)+2).toNat=i+2 by omega,g.out];go_wp2
         go_ret2
         exact ⟨_,by rw [d.out];rfl,Below.refl _ _⟩
       . have r:i+2 < s.size:=by
          apply Decidable.byContradiction;intro h;rw [dE,dif_neg h] at c;cases c
         have d:=hid (show D=3 by rw [a,if_pos ⟨by omega,by omega,b,c⟩]);have f:=hid b;have g:=hid c;clear a b c;go_enter Tryz.func127,Tryz.ntmps127;go_wp2_with fail
         refine (aN s _ _ _ _ (by omega) (by omega)).mono ?_;rintro e w1 ⟨rfl,rfl⟩;rw [show ((i:Int)+1).toNat=i+1 by omega,f.out];go_wp2_with fail
         refine (aN s _ _ _ _ (by omega) (by omega)).mono ?_;rintro e w1 ⟨rfl,rfl⟩;rw [show ((i:Int)+2).toNat=i+2 by omega,g.out];go_wp2
         have F:(0:Int)<=(i:Int)+1:=by omega
         have v:(i:Int)+1 < (s.size:Int):=by omega
         have G:(0:Int)<=(i:Int)+2:=by omega
         have A:(i:Int)+2 < (s.size:Int):=by omega
         have u:((i:Int)+1).toNat=i+1:=by omega
         have C:IntKind.i64.wrap ((i:Int)+1)=(i:Int)+1:=IntWalk.i64_in _ (by omega);have B:((i:Int)+2).toNat=i+2:=by omega
         have E:IntKind.i64.wrap ((i:Int)+2)=(i:Int)+2:=IntWalk.i64_in _ (by omega);go_quiet (fail)
         go_wp2
         go_ret2
         exact ⟨_,by rw [d.out];rfl,below_drewN (Below.refl _ _) _⟩
   by_cases S:s[i].toNat=237
   . have L:(if s[i].toNat=224 then 160 else 128:Int)=128:=by rw [if_neg (by omega)]
     have H:(if s[i].toNat=237 then 159 else 191:Int)=159:=by rw [if_pos (by omega)]
     have a:=j.out;rw [L,H] at a;clear j L H;have n:((s[i].toNat:Int) == 224)=false:=by simp;omega
     have o:((s[i].toNat:Int) == 237)=true:=by simp;omega
     have l:((s[i].toNat:Int) == 240)=false:=by simp;omega
     have m:((s[i].toNat:Int) == 244)=false:=by simp;omega
     cases b:dE s (i+1) 128 159
     . have d:=hid (show D=0 by rw [a,if_neg (by rw [b];simp),if_neg (by omega)])
       have f:=hid b;clear a b;go_enter Tryz.func127,Tryz.ntmps127;go_wp2_with fail
       refine (aN s _ _ _ _ (by omega) (by omega)).mono ?_;rintro e w1 ⟨rfl,rfl⟩;rw [show ((i:Int)+1).toNat=i+1 by omega,f.out];go_wp2
       go_ret2
       exact ⟨_,by rw [d.out];rfl,Below.refl _ _⟩
     . have p:i+1 < s.size:=by
        apply Decidable.byContradiction;intro h;rw [dE,dif_neg h] at b;cases b
       cases c:dE s (i+2) 128 191
       . have d:=hid (show D=0 by rw [a,if_neg (by rw [c];simp),if_neg (by omega)])
         have f:=hid b;have g:=hid c;clear a b c;go_enter Tryz.func127,Tryz.ntmps127;go_wp2_with fail
         refine (aN s _ _ _ _ (by omega) (by omega)).mono ?_;rintro e w1 ⟨rfl,rfl⟩;rw [show ((i:Int)+1).toNat=i+1 by omega,f.out];go_wp2_with fail
         refine (aN s _ _ _ _ (by omega) (by omega)).mono ?_;rintro e w1 ⟨rfl,rfl⟩;rw [show ((i:Int)+2).toNat=i+2 by omega,g.out];go_wp2
         go_ret2
         exact ⟨_,by rw [d.out];rfl,Below.refl _ _⟩
       . have r:i+2 < s.size:=by
          apply Decidable.byContradiction;intro h;rw [dE,dif_neg h] at c;cases c
         have d:=hid (show D=3 by rw [a,if_pos ⟨by omega,by omega,b,c⟩]);have f:=hid b;have g:=hid c;clear a b c;go_enter Tryz.func127,Tryz.ntmps127;go_wp2_with fail
         refine (aN s _ _ _ _ (by omega) (by omega)).mono ?_;rintro e w1 ⟨rfl,rfl⟩;rw [show ((i:Int)+1).toNat=i+1 by omega,f.out];go_wp2_with fail
         refine (aN s _ _ _ _ (by omega) (by omega)).mono ?_;rintro e w1 ⟨rfl,rfl⟩;rw [show ((i:Int)+2).toNat=i+2 by omega,g.out];go_wp2
         have F:(0:Int)<=(i:Int)+1:=by omega
         have v:(i:Int)+1 < (s.size:Int):=by omega
         have G:(0:Int)<=(i:Int)+2:=by omega
         have A:(i:Int)+2 < (s.size:Int):=by omega
         have u:((i:Int)+1).toNat=i+1:=by omega
         have C:IntKind.i64.wrap ((i:Int)+1)=(i:Int)+1:=IntWalk.i64_in _ (by omega);have B:((i:Int)+2).toNat=i+2:=by omega
         have E:IntKind.i64.wrap ((i:Int)+2)=(i:Int)+2:=IntWalk.i64_in _ (by omega);go_quiet (fail)
         go_wp2
         go_ret2
         exact ⟨_,by rw [d.out];rfl,below_drewN (Below.refl _ _) _⟩
   have L:(if s[i].toNat=224 then 160 else 128:Int)=128:=by rw [if_neg (by omega)]
   have H:(if s[i].toNat=237 then 159 else 191:Int)=191:=by rw [if_neg (by omega)]
   have a:=j.out;rw [L,H] at a;clear j L H;have n:((s[i].toNat:Int) == 224)=false:=by simp;omega
   have o:((s[i].toNat:Int) == 237)=false:=by simp;omega
   have l:((s[i].toNat:Int) == 240)=false:=by simp;omega
   have m:((s[i].toNat:Int) == 244)=false:=by simp;omega
   cases b:dE s (i+1) 128 191
   . have d:=hid (show D=0 by rw [a,if_neg (by rw [b];simp),if_neg (by omega)])
     have f:=hid b;clear a b;go_enter Tryz.func127,Tryz.ntmps127;go_wp2_with fail
     refine (aN s _ _ _ _ (by omega) (by omega)).mono ?_;rintro e w1 ⟨rfl,rfl⟩;rw [show ((i:Int)+1).toNat=i+1 by omega,f.out];go_wp2
     go_ret2
     exact ⟨_,by rw [d.out];rfl,Below.refl _ _⟩
   . have p:i+1 < s.size:=by
      apply Decidable.byContradiction;intro h;rw [dE,dif_neg h] at b;cases b
     cases c:dE s (i+2) 128 191
     . have d:=hid (show D=0 by rw [a,if_neg (by rw [c];simp),if_neg (by omega)])
       have f:=hid b;have g:=hid c;clear a b c;go_enter Tryz.func127,Tryz.ntmps127;go_wp2_with fail
       refine (aN s _ _ _ _ (by omega) (by omega)).mono ?_;rintro e w1 ⟨rfl,rfl⟩;rw [show ((i:Int)+1).toNat=i+1 by omega,f.out];go_wp2_with fail
       refine (aN s _ _ _ _ (by omega) (by omega)).mono ?_;rintro e w1 ⟨rfl,rfl⟩;rw [show ((i:Int)+2).toNat=i+2 by omega,g.out];go_wp2
       go_ret2
       exact ⟨_,by rw [d.out];rfl,Below.refl _ _⟩
     . have r:i+2 < s.size:=by
        apply Decidable.byContradiction;intro h;rw [dE,dif_neg h] at c;cases c
       have d:=hid (show D=3 by rw [a,if_pos ⟨by omega,by omega,b,c⟩]);have f:=hid b;have g:=hid c;clear a b c;go_enter Tryz.func127,Tryz.ntmps127;go_wp2_with fail
       refine (aN s _ _ _ _ (by omega) (by omega)).mono ?_;rintro e w1 ⟨rfl,rfl⟩;rw [show ((i:Int)+1).toNat=i+1 by omega,f.out];go_wp2_with fail
       refine (aN s _ _ _ _ (by omega) (by omega)).mono ?_;rintro e w1 ⟨rfl,rfl⟩;rw [show ((i:Int)+2).toNat=i+2 by omega,g.out];go_wp2
       have F:(0:Int)<=(i:Int)+1:=by omega
       have v:(i:Int)+1 < (s.size:Int):=by omega
       have G:(0:Int)<=(i:Int)+2:=by omega
       have A:(i:Int)+2 < (s.size:Int):=by omega
       have u:((i:Int)+1).toNat=i+1:=by omega
       have C:IntKind.i64.wrap ((i:Int)+1)=(i:Int)+1:=IntWalk.i64_in _ (by omega);have B:((i:Int)+2).toNat=i+2:=by omega
       have E:IntKind.i64.wrap ((i:Int)+2)=(i:Int)+2:=IntWalk.i64_in _ (by omega);go_quiet (fail)
       go_wp2
       go_ret2
       exact ⟨_,by rw [d.out];rfl,below_drewN (Below.refl _ _) _⟩
 have j:=hid (j.out.trans (if_neg (by omega)))
 by_cases c5:244 < s[i].toNat
 . have d:=hid (show D=0 by rw [j.out,if_neg (by omega)])
   have t:244 < (s[i].toNat:Int):=by omega
   have n:((s[i].toNat:Int) == 224)=false:=by simp;omega
   have o:((s[i].toNat:Int) == 237)=false:=by simp;omega
   have l:((s[i].toNat:Int) == 240)=false:=by simp;omega
   have m:((s[i].toNat:Int) == 244)=false:=by simp;omega
   clear j;go_enter Tryz.func127,Tryz.ntmps127;go_wp2
   go_ret2
   exact ⟨_,by rw [d.out];rfl,Below.refl _ _⟩
 have t:240<=(s[i].toNat:Int):=by omega
 have z:(s[i].toNat:Int)<=244:=by omega
 by_cases Q:s[i].toNat=240
 . have L:(if s[i].toNat=240 then 144 else 128:Int)=144:=by rw [if_pos (by omega)]
   have H:(if s[i].toNat=244 then 143 else 191:Int)=191:=by rw [if_neg (by omega)]
   have a:=j.out;rw [L,H] at a;clear j L H;have n:((s[i].toNat:Int) == 224)=false:=by simp;omega
   have o:((s[i].toNat:Int) == 237)=false:=by simp;omega
   have l:((s[i].toNat:Int) == 240)=true:=by simp;omega
   have m:((s[i].toNat:Int) == 244)=false:=by simp;omega
   cases b:dE s (i+1) 144 191
   . have d:=hid (show D=0 by rw [a,if_neg (by rw [b];simp)])
     have f:=hid b;clear a b;go_enter Tryz.func127,Tryz.ntmps127;go_wp2_with fail
     refine (aN s _ _ _ _ (by omega) (by omega)).mono ?_;rintro e w1 ⟨rfl,rfl⟩;rw [show ((i:Int)+1).toNat=i+1 by omega,f.out];go_wp2
     go_ret2
     exact ⟨_,by rw [d.out];rfl,Below.refl _ _⟩
   . have p:i+1 < s.size:=by
      apply Decidable.byContradiction;intro h;rw [dE,dif_neg h] at b;cases b
     cases c:dE s (i+2) 128 191
     . have d:=hid (show D=0 by rw [a,if_neg (by rw [c];simp)])
       have f:=hid b;have g:=hid c;clear a b c;go_enter Tryz.func127,Tryz.ntmps127;go_wp2_with fail
       refine (aN s _ _ _ _ (by omega) (by omega)).mono ?_;rintro e w1 ⟨rfl,rfl⟩;rw [show ((i:Int)+1).toNat=i+1 by omega,f.out];go_wp2_with fail
       refine (aN s _ _ _ _ (by omega) (by omega)).mono ?_;rintro e w1 ⟨rfl,rfl⟩;rw [show ((i:Int)+2).toNat=i+2 by omega,g.out];go_wp2
       go_ret2
       exact ⟨_,by rw [d.out];rfl,Below.refl _ _⟩
     . have r:i+2 < s.size:=by
        apply Decidable.byContradiction;intro h;rw [dE,dif_neg h] at c;cases c
       cases k:dE s (i+3) 128 191
       . have d:=hid (show D=0 by rw [a,if_neg (by rw [k];simp)])
         have f:=hid b;have g:=hid c;have q:=hid k;clear a b c k;go_enter Tryz.func127,Tryz.ntmps127;go_wp2_with fail
         refine (aN s _ _ _ _ (by omega) (by omega)).mono ?_;rintro e w1 ⟨rfl,rfl⟩;rw [show ((i:Int)+1).toNat=i+1 by omega,f.out];go_wp2_with fail
         refine (aN s _ _ _ _ (by omega) (by omega)).mono ?_;rintro e w1 ⟨rfl,rfl⟩;rw [show ((i:Int)+2).toNat=i+2 by omega,g.out];go_wp2_with fail
         refine (aN s _ _ _ _ (by omega) (by omega)).mono ?_;rintro e w1 ⟨rfl,rfl⟩;rw [show ((i:Int)+3).toNat=i+3 by omega,q.out];go_wp2
         go_ret2
         exact ⟨_,by rw [d.out];rfl,Below.refl _ _⟩
       . have y:i+3 < s.size:=by
          apply Decidable.byContradiction;intro h;rw [dE,dif_neg h] at k;cases k
         have d:=hid (show D=4 by rw [a,if_pos ⟨by omega,by omega,b,c,k⟩]);have f:=hid b;have g:=hid c;have q:=hid k;clear a b c k;go_enter Tryz.func127,Tryz.ntmps127;go_wp2_with fail
         refine (aN s _ _ _ _ (by omega) (by omega)).mono ?_;rintro e w1 ⟨rfl,rfl⟩;rw [show ((i:Int)+1).toNat=i+1 by omega,f.out];go_wp2_with fail
         refine (aN s _ _ _ _ (by omega) (by omega)).mono ?_;rintro e w1 ⟨rfl,rfl⟩;rw [show ((i:Int)+2).toNat=i+2 by omega,g.out];go_wp2_with fail
         refine (aN s _ _ _ _ (by omega) (by omega)).mono ?_;rintro e w1 ⟨rfl,rfl⟩;rw [show ((i:Int)+3).toNat=i+3 by omega,q.out];go_wp2
         have F:(0:Int)<=(i:Int)+1:=by omega
         have v:(i:Int)+1 < (s.size:Int):=by omega
         have G:(0:Int)<=(i:Int)+2:=by omega
         have A:(i:Int)+2 < (s.size:Int):=by omega
         have J:(0:Int)<=(i:Int)+3:=by omega
         have I:(i:Int)+3 < (s.size:Int):=by omega
         have u:((i:Int)+1).toNat=i+1:=by omega
         have C:IntKind.i64.wrap ((i:Int)+1)=(i:Int)+1:=IntWalk.i64_in _ (by omega);have B:((i:Int)+2).toNat=i+2:=by omega
         have E:IntKind.i64.wrap ((i:Int)+2)=(i:Int)+2:=IntWalk.i64_in _ (by omega);have N:((i:Int)+3).toNat=i+3:=by omega
         have M:IntKind.i64.wrap ((i:Int)+3)=(i:Int)+3:=IntWalk.i64_in _ (by omega);go_quiet (fail)
         go_wp2
         go_ret2
         exact ⟨_,by rw [d.out];rfl,below_drewN (Below.refl _ _) _⟩
 by_cases O:s[i].toNat=244
 . have L:(if s[i].toNat=240 then 144 else 128:Int)=128:=by rw [if_neg (by omega)]
   have H:(if s[i].toNat=244 then 143 else 191:Int)=143:=by rw [if_pos (by omega)]
   have a:=j.out;rw [L,H] at a;clear j L H;have n:((s[i].toNat:Int) == 224)=false:=by simp;omega
   have o:((s[i].toNat:Int) == 237)=false:=by simp;omega
   have l:((s[i].toNat:Int) == 240)=false:=by simp;omega
   have m:((s[i].toNat:Int) == 244)=true:=by simp;omega
   cases b:dE s (i+1) 128 143
   . have d:=hid (show D=0 by rw [a,if_neg (by rw [b];simp)])
     have f:=hid b;clear a b;go_enter Tryz.func127,Tryz.ntmps127;go_wp2_with fail
     refine (aN s _ _ _ _ (by omega) (by omega)).mono ?_;rintro e w1 ⟨rfl,rfl⟩;rw [show ((i:Int)+1).toNat=i+1 by omega,f.out];go_wp2
     go_ret2
     exact ⟨_,by rw [d.out];rfl,Below.refl _ _⟩
   . have p:i+1 < s.size:=by
      apply Decidable.byContradiction;intro h;rw [dE,dif_neg h] at b;cases b
     cases c:dE s (i+2) 128 191
     . have d:=hid (show D=0 by rw [a,if_neg (by rw [c];simp)])
       have f:=hid b;have g:=hid c;clear a b c;go_enter Tryz.func127,Tryz.ntmps127;go_wp2_with fail
       refine (aN s _ _ _ _ (by omega) (by omega)).mono ?_;rintro e w1 ⟨rfl,rfl⟩;rw [show ((i:Int)+1).toNat=i+1 by omega,f.out];go_wp2_with fail
       refine (aN s _ _ _ _ (by omega) (by omega)).mono ?_;rintro e w1 ⟨rfl,rfl⟩;rw [show ((i:Int)+2).toNat=i+2 by omega,g.out];go_wp2
       go_ret2
       exact ⟨_,by rw [d.out];rfl,Below.refl _ _⟩
     . have r:i+2 < s.size:=by
        apply Decidable.byContradiction;intro h;rw [dE,dif_neg h] at c;cases c
       cases k:dE s (i+3) 128 191
       . have d:=hid (show D=0 by rw [a,if_neg (by rw [k];simp)])
         have f:=hid b;have g:=hid c;have q:=hid k;clear a b c k;go_enter Tryz.func127,Tryz.ntmps127;go_wp2_with fail
         refine (aN s _ _ _ _ (by omega) (by omega)).mono ?_;rintro e w1 ⟨rfl,rfl⟩;rw [show ((i:Int)+1).toNat=i+1 by omega,f.out];go_wp2_with fail
         refine (aN s _ _ _ _ (by omega) (by omega)).mono ?_;rintro e w1 ⟨rfl,rfl⟩;rw [show ((i:Int)+2).toNat=i+2 by omega,g.out];go_wp2_with fail
         refine (aN s _ _ _ _ (by omega) (by omega)).mono ?_;rintro e w1 ⟨rfl,rfl⟩;rw [show ((i:Int)+3).toNat=i+3 by omega,q.out];go_wp2
         go_ret2
         exact ⟨_,by rw [d.out];rfl,Below.refl _ _⟩
       . have y:i+3 < s.size:=by
          apply Decidable.byContradiction;intro h;rw [dE,dif_neg h] at k;cases k
         have d:=hid (show D=4 by rw [a,if_pos ⟨by omega,by omega,b,c,k⟩]);have f:=hid b;have g:=hid c;have q:=hid k;clear a b c k;go_enter Tryz.func127,Tryz.ntmps127;go_wp2_with fail
         refine (aN s _ _ _ _ (by omega) (by omega)).mono ?_;rintro e w1 ⟨rfl,rfl⟩;rw [show ((i:Int)+1).toNat=i+1 by omega,f.out];go_wp2_with fail
         refine (aN s _ _ _ _ (by omega) (by omega)).mono ?_;rintro e w1 ⟨rfl,rfl⟩;rw [show ((i:Int)+2).toNat=i+2 by omega,g.out];go_wp2_with fail
         refine (aN s _ _ _ _ (by omega) (by omega)).mono ?_;rintro e w1 ⟨rfl,rfl⟩;rw [show ((i:Int)+3).toNat=i+3 by omega,q.out];go_wp2
         have F:(0:Int)<=(i:Int)+1:=by omega
         have v:(i:Int)+1 < (s.size:Int):=by omega
         have G:(0:Int)<=(i:Int)+2:=by omega
         have A:(i:Int)+2 < (s.size:Int):=by omega
         have J:(0:Int)<=(i:Int)+3:=by omega
         have I:(i:Int)+3 < (s.size:Int):=by omega
         have u:((i:Int)+1).toNat=i+1:=by omega
         have C:IntKind.i64.wrap ((i:Int)+1)=(i:Int)+1:=IntWalk.i64_in _ (by omega);have B:((i:Int)+2).toNat=i+2:=by omega
         have E:IntKind.i64.wrap ((i:Int)+2)=(i:Int)+2:=IntWalk.i64_in _ (by omega);have N:((i:Int)+3).toNat=i+3:=by omega
         have M:IntKind.i64.wrap ((i:Int)+3)=(i:Int)+3:=IntWalk.i64_in _ (by omega);go_quiet (fail)
         go_wp2
         go_ret2
         exact ⟨_,by rw [d.out];rfl,below_drewN (Below.refl _ _) _⟩
 have L:(if s[i].toNat=240 then 144 else 128:Int)=128:=by rw [if_neg (by omega)]
 have H:(if s[i].toNat=244 then 143 else 191:Int)=191:=by rw [if_neg (by omega)]
 have a:=j.out;rw [L,H] at a;clear j L H;have n:((s[i].toNat:Int) == 224)=false:=by simp;omega
 have o:((s[i].toNat:Int) == 237)=false:=by simp;omega
 have l:((s[i].toNat:Int) == 240)=false:=by simp;omega
 have m:((s[i].toNat:Int) == 244)=false:=by simp;omega
 cases b:dE s (i+1) 128 191
 . have d:=hid (show D=0 by rw [a,if_neg (by rw [b];simp)])
   have f:=hid b;clear a b;go_enter Tryz.func127,Tryz.ntmps127;go_wp2_with fail
   refine (aN s _ _ _ _ (by omega) (by omega)).mono ?_;rintro e w1 ⟨rfl,rfl⟩;rw [show ((i:Int)+1).toNat=i+1 by omega,f.out];go_wp2
   go_ret2
   exact ⟨_,by rw [d.out];rfl,Below.refl _ _⟩
 . have p:i+1 < s.size:=by
    apply Decidable.byContradiction;intro h;rw [dE,dif_neg h] at b;cases b
   cases c:dE s (i+2) 128 191
   . have d:=hid (show D=0 by rw [a,if_neg (by rw [c];simp)])
     have f:=hid b;have g:=hid c;clear a b c;go_enter Tryz.func127,Tryz.ntmps127;go_wp2_with fail
     refine (aN s _ _ _ _ (by omega) (by omega)).mono ?_;rintro e w1 ⟨rfl,rfl⟩;rw [show ((i:Int)+1).toNat=i+1 by omega,f.out];go_wp2_with fail
     refine (aN s _ _ _ _ (by omega) (by omega)).mono ?_;rintro e w1 ⟨rfl,rfl⟩;rw [show ((i:Int)+2).toNat=i+2 by omega,g.out];go_wp2
     go_ret2
     exact ⟨_,by rw [d.out];rfl,Below.refl _ _⟩
   . have r:i+2 < s.size:=by
      apply Decidable.byContradiction;intro h;rw [dE,dif_neg h] at c;cases c
     cases k:dE s (i+3) 128 191
     . have d:=hid (show D=0 by rw [a,if_neg (by rw [k];simp)])
       have f:=hid b;have g:=hid c;have q:=hid k;clear a b c k;go_enter Tryz.func127,Tryz.ntmps127;go_wp2_with fail
       refine (aN s _ _ _ _ (by omega) (by omega)).mono ?_;rintro e w1 ⟨rfl,rfl⟩;rw [show ((i:Int)+1).toNat=i+1 by omega,f.out];go_wp2_with fail
       refine (aN s _ _ _ _ (by omega) (by omega)).mono ?_;rintro e w1 ⟨rfl,rfl⟩;rw [show ((i:Int)+2).toNat=i+2 by omega,g.out];go_wp2_with fail
       refine (aN s _ _ _ _ (by omega) (by omega)).mono ?_;rintro e w1 ⟨rfl,rfl⟩;rw [show ((i:Int)+3).toNat=i+3 by omega,q.out];go_wp2
       go_ret2
       exact ⟨_,by rw [d.out];rfl,Below.refl _ _⟩
     . have y:i+3 < s.size:=by
        apply Decidable.byContradiction;intro h;rw [dE,dif_neg h] at k;cases k
       have d:=hid (show D=4 by rw [a,if_pos ⟨by omega,by omega,b,c,k⟩]);have f:=hid b;have g:=hid c;have q:=hid k;clear a b c k;go_enter Tryz.func127,Tryz.ntmps127;go_wp2_with fail
       refine (aN s _ _ _ _ (by omega) (by omega)).mono ?_;rintro e w1 ⟨rfl,rfl⟩;rw [show ((i:Int)+1).toNat=i+1 by omega,f.out];go_wp2_with fail
       refine (aN s _ _ _ _ (by omega) (by omega)).mono ?_;rintro e w1 ⟨rfl,rfl⟩;rw [show ((i:Int)+2).toNat=i+2 by omega,g.out];go_wp2_with fail
       refine (aN s _ _ _ _ (by omega) (by omega)).mono ?_;rintro e w1 ⟨rfl,rfl⟩;rw [show ((i:Int)+3).toNat=i+3 by omega,q.out];go_wp2
       have F:(0:Int)<=(i:Int)+1:=by omega
       have v:(i:Int)+1 < (s.size:Int):=by omega
       have G:(0:Int)<=(i:Int)+2:=by omega
       have A:(i:Int)+2 < (s.size:Int):=by omega
       have J:(0:Int)<=(i:Int)+3:=by omega
       have I:(i:Int)+3 < (s.size:Int):=by omega
       have u:((i:Int)+1).toNat=i+1:=by omega
       have C:IntKind.i64.wrap ((i:Int)+1)=(i:Int)+1:=IntWalk.i64_in _ (by omega);have B:((i:Int)+2).toNat=i+2:=by omega
       have E:IntKind.i64.wrap ((i:Int)+2)=(i:Int)+2:=IntWalk.i64_in _ (by omega);have N:((i:Int)+3).toNat=i+3:=by omega
       have M:IntKind.i64.wrap ((i:Int)+3)=(i:Int)+3:=IntWalk.i64_in _ (by omega);go_quiet (fail)
       go_wp2
       go_ret2
       exact ⟨_,by rw [d.out];rfl,below_drewN (Below.refl _ _) _⟩
theorem NG (c:Nat) (h:c < 4294967296):bits BinOp.and IntKind.i64 (c:Int) 63=((c % 64:Nat):Int):=by
 have a:=(bits_nat .i64 32 (by decide) (fun n b a=>IntWalk.i64_in n (by omega)) c 63 (by omega) (by decide)).1;rw [show ((63:Nat):Int)=63 from rfl] at a;rw [a]
 congr 1
 exact Nat.and_two_pow_sub_one_eq_mod c 6
theorem LJ:∀ x:Fin 64,bits BinOp.or IntKind.i64 128 (x.val:Int)=((128+x.val:Nat):Int):=by decide +kernel
theorem Un:∀ x:Fin 32,bits BinOp.or IntKind.i64 192 (x.val:Int)=((192+x.val:Nat):Int):=by decide +kernel
theorem TU:∀ x:Fin 16,bits BinOp.or IntKind.i64 224 (x.val:Int)=((224+x.val:Nat):Int):=by decide +kernel
theorem UI:∀ x:Fin 8,bits BinOp.or IntKind.i64 240 (x.val:Int)=((240+x.val:Nat):Int):=by decide +kernel
theorem wB (W:World) (b:Nat) (zs:List Nat) (h:∀ z∈zs,z < 256) (hc:∀ j (hj:j < zs.length),W.cell? ⟨b,j,none⟩=some (.int .u8 (zs[j]:Nat))) :
  (convert 178 9 (.slice (some ⟨b,0,none⟩) zs.length zs.length)).run Tryz.prog W=.ok (.string ⟨(zs.map fun z=>z.toUInt8).toArray⟩) W:=by
 have:=run_convert_bytes_back (P:=Tryz.prog) W 178 9 5 ⟨b,0,none⟩ zs.length (zs.map fun z=>z.toUInt8) Tryz.underlying178 Tryz.underlying5 Tryz.underlying9 (fun j hj=>by
  rw [List.length_map] at hj;rw [Addr.add_lit,Nat.zero_add,hc j hj,List.getElem_map];have a:=h _ (List.getElem_mem hj);generalize zs[j]=z at *
  congr 2
  show (z:Int)=((UInt8.ofNat z).toNat:Int);rw [UInt8.toNat_ofNat'];omega)
 rw [List.length_map] at this;exact this
set_option maxHeartbeats 4000000 in
set_option maxRecDepth 100000 in
theorem KU (c:Nat) (hv:Lib.validRune (c:Int)=true) (w:World):Calls Tryz.prog 252 #[.int .i64 c] w fun e w'=>e=.returned (.string ⟨(Lib.encodeRune (c:Nat)).toArray⟩)/\Below w.heap.size w w':=by
 have r:=LP hv;have u:(c < 55296 ∨ (57343 < c/\c<=1114111)):=by unfold Lib.validRune at hv;have:=of_decide_eq_true hv;omega
 have i:=hid (fun o=>(Below.refl w.heap.size w).alloc (Nat.le_refl _) o);have v:bits BinOp.and IntKind.i64 (c:Int) 63=(c:Int) % 64:=by have h:=NG c (by omega);push_cast at h;exact h
 have t:bits BinOp.and IntKind.i64 ((c:Int) / 64) 63=(c:Int) / 64 % 64:=by have h:=NG (c / 64) (by omega);push_cast at h;exact h
 have s:bits BinOp.and IntKind.i64 ((c:Int) / 4096) 63=(c:Int) / 4096 % 64:=by have h:=NG (c / 4096) (by omega);push_cast at h;exact h
 have m:bits BinOp.or IntKind.i64 128 ((c:Int) % 64)=128+(c:Int) % 64:=by have h:=LJ ⟨c % 64,by omega⟩;push_cast at h;exact h
 have q:bits BinOp.or IntKind.i64 128 ((c:Int) / 64 % 64)=128+(c:Int) / 64 % 64:=by have h:=LJ ⟨c / 64 % 64,by omega⟩;push_cast at h;exact h
 have n:bits BinOp.or IntKind.i64 128 ((c:Int) / 4096 % 64)=128+(c:Int) / 4096 % 64:=by have h:=LJ ⟨c / 4096 % 64,by omega⟩;push_cast at h;exact h
 by_cases y:(c:Int) < 128
 . have g:=hid (show Lib.encodeRune (c:Nat)=([c]:List Nat).map (fun z=>z.toUInt8) by
    unfold Lib.encodeRune;rw [Lib.encodeRuneZ_one (by omega) (by omega)];rfl)
   have a:=wB (w.alloc (.cells #[.int .u8 ((c:Int))] 5)) w.heap.size ([c]:List Nat) (by intro z f;simp only [List.mem_cons,List.not_mem_nil,or_false] at f;omega) (fun j d=>by
    have b:j=0:=by simp at d;omega
    rcases b with rfl
    all_goals exact aX rfl (by first | rfl | (simp)))
   rw [<-g.out] at a;simp only [List.length_cons,List.length_nil,Nat.zero_add,Nat.reduceAdd] at a;generalize Lib.encodeRune (c:Nat)=E at *;clear hv;go_enter Tryz.func252,Tryz.ntmps252;go_wp2
   go_ret
   exact ⟨rfl,i.out _⟩
 by_cases A:(c:Int) < 2048
 . have p:bits BinOp.or IntKind.i64 192 ((c:Int) / 64)=192+(c:Int) / 64:=by have h:=Un ⟨c / 64,by omega⟩;push_cast at h;exact h
   have g:=hid (show Lib.encodeRune (c:Nat)=([192+c / 64,128+c % 64]:List Nat).map (fun z=>z.toUInt8) by
    unfold Lib.encodeRune;rw [Lib.encodeRuneZ_two (by omega) (by omega)];rfl)
   have a:=wB (w.alloc (.cells #[.int .u8 (192+(c:Int) / 64),.int .u8 (128+(c:Int) % 64)] 5)) w.heap.size ([192+c / 64,128+c % 64]:List Nat) (by intro z f;simp only [List.mem_cons,List.not_mem_nil,or_false] at f;omega) (fun j d=>by
    have b:j=0 ∨ j=1:=by simp at d;omega
    rcases b with rfl | rfl
    all_goals exact aX rfl (by first | rfl | (simp)))
   rw [<-g.out] at a;simp only [List.length_cons,List.length_nil,Nat.zero_add,Nat.reduceAdd] at a;generalize Lib.encodeRune (c:Nat)=E at *;clear hv;go_enter Tryz.func252,Tryz.ntmps252;go_wp2
   go_ret
   exact ⟨rfl,i.out _⟩
 by_cases B:(c:Int) < 65536
 . have l:bits BinOp.or IntKind.i64 224 ((c:Int) / 4096)=224+(c:Int) / 4096:=by have h:=TU ⟨c / 4096,by omega⟩;push_cast at h;exact h
   have g:=hid (show Lib.encodeRune (c:Nat)=([224+c / 4096,128+c / 64 % 64,128+c % 64]:List Nat).map (fun z=>z.toUInt8) by
    unfold Lib.encodeRune;rw [Lib.encodeRuneZ_three (by omega)];rfl)
   have a:=wB (w.alloc (.cells #[.int .u8 (224+(c:Int) / 4096),.int .u8 (128+(c:Int) / 64 % 64),.int .u8 (128+(c:Int) % 64)] 5)) w.heap.size ([224+c / 4096,128+c / 64 % 64,128+c % 64]:List Nat) (by intro z f;simp only [List.mem_cons,List.not_mem_nil,or_false] at f;omega) (fun j d=>by
    have b:j=0 ∨ j=1 ∨ j=2:=by simp at d;omega
    rcases b with rfl | rfl | rfl
    all_goals exact aX rfl (by first | rfl | (simp)))
   rw [<-g.out] at a;simp only [List.length_cons,List.length_nil,Nat.zero_add,Nat.reduceAdd] at a;generalize Lib.encodeRune (c:Nat)=E at *;clear hv;go_enter Tryz.func252,Tryz.ntmps252;go_wp2
   go_ret
   exact ⟨rfl,i.out _⟩
 . have k:bits BinOp.or IntKind.i64 240 ((c:Int) / 262144)=240+(c:Int) / 262144:=by have h:=UI ⟨c / 262144,by omega⟩;have e:((c / 262144:Nat):Int)=(c:Int) / 262144:=(by omega);simp only [Int.natCast_add,e] at h;exact h
   have g:=hid (show Lib.encodeRune (c:Nat)=([240+c / 262144,128+c / 4096 % 64,128+c / 64 % 64,128+c % 64]:List Nat).map (fun z=>z.toUInt8) by
    unfold Lib.encodeRune;rw [Lib.encodeRuneZ_four (by omega) (by omega)];rfl)
   have a:=wB (w.alloc (.cells #[.int .u8 (240+(c:Int) / 262144),.int .u8 (128+(c:Int) / 4096 % 64),.int .u8 (128+(c:Int) / 64 % 64),.int .u8 (128+(c:Int) % 64)] 5)) w.heap.size ([240+c / 262144,128+c / 4096 % 64,128+c / 64 % 64,128+c % 64]:List Nat) (by intro z f;simp only [List.mem_cons,List.not_mem_nil,or_false] at f;omega) (fun j d=>by
    have b:j=0 ∨ j=1 ∨ j=2 ∨ j=3:=by simp at d;omega
    rcases b with rfl | rfl | rfl | rfl
    all_goals exact aX rfl (by first | rfl | (simp)))
   rw [<-g.out] at a;simp only [List.length_cons,List.length_nil,Nat.zero_add,Nat.reduceAdd] at a;generalize Lib.encodeRune (c:Nat)=E at *;clear hv;go_enter Tryz.func252,Tryz.ntmps252;go_wp2
   go_ret
   exact ⟨rfl,i.out _⟩
def Nl (c:Nat):Int:=if kN c=true then (hxv c:Nat) else -1
theorem ax {a b:Int} (h:a=b):Ending.returned (.int .i64 b)=.returned (.int .i64 a):=by rw [h]
set_option maxHeartbeats 4000000 in
theorem Nq (c:UInt8) (w:World):Calls Tryz.prog 253 #[.int .u8 c.toNat] w fun e w'=>e=.returned (.int .i64 (Nl c.toNat))/\w=w':=by
 have d:=kU c;generalize c.toNat=n at *
 by_cases g:(48:Int)<=n <;> by_cases i:(n:Int)<=57 <;> by_cases f:(97:Int)<=n <;> by_cases b:(n:Int)<=102 <;> first
  | (exfalso;omega)
  | (have a:=hid (show Nl n=n - 48 by unfold Nl kN hxv;rw [decide_eq_true (show 48<=n/\n<=57 by omega),if_pos (by simp),if_pos (by omega)];omega)
     go_enter Tryz.func253,Tryz.ntmps253;go_wp2
     go_ret
     exact ⟨ax a.out,rfl⟩)
  | (have a:=hid (show Nl n=n - 97+10 by unfold Nl kN hxv;rw [decide_eq_false (show ¬ (48<=n/\n<=57) by omega),decide_eq_true (show 97<=n/\n<=102 by omega),if_pos (by simp),if_neg (by omega)];omega)
     go_enter Tryz.func253,Tryz.ntmps253;go_wp2
     go_ret
     exact ⟨ax a.out,rfl⟩)
  | (have a:=hid (show Nl n = -1 by unfold Nl kN;rw [decide_eq_false (show ¬ (48<=n/\n<=57) by omega),decide_eq_false (show ¬ (97<=n/\n<=102) by omega)];rfl)
     go_enter Tryz.func253,Tryz.ntmps253;go_wp2
     go_ret
     exact ⟨ax a.out,rfl⟩)
theorem qo (s:ByteArray) (i k:Nat) (h:i+k < s.size):((s.extract i s.size)[k]'(by rw [ext_size s i (by omega)];omega))=s[i+k]:=by
 have b:k < (s.extract i s.size).size:=by rw [ext_size s i (by omega)];omega
 have a:=getD_at (s.extract i s.size) b;rw [aY] at a;rw [<-a,<-getD_at s h,List.getD_eq_getElem?_getD,List.getD_eq_getElem?_getD,List.getElem?_drop]
theorem PY {c:Nat} (h:kN c=true):Nl c=(hxv c:Nat):=by unfold Nl;rw [if_pos h]
theorem RI {c:Nat} (h:kN c=false):Nl c = -1:=by unfold Nl;rw [h];rfl
def TV (i:Nat) (x:Int × Nat × Nat):Ending:=.returned (.tuple #[.int .i64 (x.2.1:Nat),.int .i64 ((if x.1=0 then i+x.2.2 else 0:Nat):Nat),.int .i64 x.1])
set_option maxHeartbeats 8000000 in
set_option maxRecDepth 100000 in
theorem Gy (s:ByteArray) (i:Nat) (w:World) (hi:i<=s.size) (hs:s.size<=2000000):Calls Tryz.prog 251 #[.string s,.int .i64 i] w fun e w'=>e=TV i (kF (s.data.toList.drop i))/\w=w':=by
 have aa:=ext_size s i hi
 have N:=hid (fun k (L:i+k<=s.size) (Q:k<=6) (P:∀ j (A:i+j < s.size),j < k->kN s[i+j].toNat=true) (O:∀ h:i+k < s.size,k < 6->kN s[i+k].toNat=false)=>show hxL (s.data.toList.drop i)=(s.data.toList.drop i).take k/\(hxL (s.data.toList.drop i)).length=k from by
  have h:=KR (s:=s.extract i s.size) (k:=k) (by omega) Q (fun j A R=>by rw [qo s i j (by omega)];exact P j (by omega) R) (fun hh ac=>by rw [qo s i k (by omega)];exact O (by omega) ac);rw [aY] at h;refine ⟨h,?_⟩;rw [h,List.length_take,List.length_drop,aj];omega)
 have S:∀ k,s.size<=i+k->(hxL (s.data.toList.drop i)=(s.data.toList.drop i).take k/\(hxL (s.data.toList.drop i)).length=k)->kF (s.data.toList.drop i)=(40,0,0):=fun k L h=>by
  have:=Iq (s:=s.extract i s.size) (k:=k) (by omega) (by rw [aY];exact h)
  rwa [aY] at this
 have r:∀ (k:Nat) (L:i+k < s.size),(hxL (s.data.toList.drop i)=(s.data.toList.drop i).take k/\(hxL (s.data.toList.drop i)).length=k)->kF (s.data.toList.drop i)=if s[i+k].toNat≠125 ∨ k=0 ∨ (1 < k/\(s[i]'(by omega)).toNat=48) ∨ Lib.validRune (vH ((s.data.toList.drop i).take k):Nat)=false then (2,0,0) else (0,vH ((s.data.toList.drop i).take k),k+1):=fun k L h=>by
  have:=Bo (s:=s.extract i s.size) (k:=k) (by omega) (by rw [aY];exact h);rw [qo s i k (by omega),qo s i 0 (by omega)] at this;simpa only [aY,Nat.add_zero] using this
 have D:=hid S;have y:=hid r;clear S r aa;go_enter Tryz.func251,Tryz.ntmps251;go_wp2
 go_loop [7,8] (fun c n=>∃ k:Nat,i+k<=s.size/\k<=6/\n=.int .i64 k/\c=.int .i64 (vH ((s.data.toList.drop i).take k):Nat)/\Hid (∀ j (A:i+j < s.size),j < k->kN s[i+j].toNat=true)) (fun _ n=>s.size - i - (RowKit.intOf n).toNat)
 case atStart=>exact ⟨0,by omega,by omega,rfl,rfl,hid (fun j A h=>absurd h (by omega))⟩
 case round =>
  obtain ⟨k,L,Q,rfl,rfl,G⟩:=hrel
  have J:=hid (show vH ((s.data.toList.drop i).take k) < 16 ^ 6 from by
   have P:=Kz ((s.data.toList.drop i).take k) (fun c hc=>by
    obtain ⟨j,A,rfl⟩:=List.mem_iff_getElem.1 hc;rw [List.length_take,List.length_drop,aj] at A;rw [List.getElem_take,List.getElem_drop,eU s (i+j) (by omega)];exact G.out j _ (by omega))
   have O:((s.data.toList.drop i).take k).length=k:=by rw [List.length_take,List.length_drop,aj];omega
   rw [O] at P;exact Nat.lt_of_lt_of_le P (Nat.pow_le_pow_right (by decide) Q))
  have I:=J.out;simp only [Nat.reducePow] at I;have p:=hid (fun O=>N.out k L Q G.out O)
  by_cases E:i+k < s.size
  case neg =>
   have d:=hid (D.out k (by omega) (p.out (fun h=>absurd h E)));have e0:¬ (i:Int)+(k:Int) < (s.size:Int):=by omega
   have X:(s.size:Int)<=(i:Int)+(k:Int):=by omega
   clear D y p N G E;go_wp2
   go_ret3
   exact ⟨by rw [d.out];rfl,rfl⟩
  have e0:(i:Int)+(k:Int) < (s.size:Int):=by omega
  have X:¬ (s.size:Int)<=(i:Int)+(k:Int):=by omega
  by_cases K:k=6
  . have z:=hid (p.out (fun _ h=>by omega))
    have ab:¬ (k:Int) < 6:=by omega
    have al:1 < k:=by omega
    have r:=y.out;clear K p N D y G;have b:=hid (r k E z.out);clear r;generalize vH ((s.data.toList.drop i).take k)=F at *;clear z;have f:¬ k=0:=by omega
    have e2:((k:Int) == 0)=false:=by simp;omega
    by_cases g:s[i+k].toNat=125
    case neg =>
     have T:((s[i+k].toNat:Int) != 125)=true:=by simp;omega
     have d:=hid (show kF (s.data.toList.drop i)=(2,0,0) from by rw [b.out,if_pos (Or.inl g)]);clear g f b;go_wp2
     go_ret3
     exact ⟨by rw [d.out];rfl,rfl⟩
    have T:((s[i+k].toNat:Int) != 125)=false:=by simp;omega
    by_cases m:1 < k
    . have e3:(1:Int) < k:=by omega
      have ad:i < s.size:=by omega
      by_cases o:s[i].toNat=48
      . have U:((s[i].toNat:Int) == 48)=true:=by simp;omega
        have d:=hid (show kF (s.data.toList.drop i)=(2,0,0) from by rw [b.out,if_pos (Or.inr (Or.inr (Or.inl ⟨m,o⟩)))]);clear g f m o b;go_wp2
        go_ret3
        exact ⟨by rw [d.out];rfl,rfl⟩
      have U:((s[i].toNat:Int) == 48)=false:=by simp;omega
      by_cases q:1114111 < F
      . have u:(1114111:Int) < (F:Int):=by omega
        have a:Lib.validRune (F:Int)=false:=by unfold Lib.validRune;exact decide_eq_false (by omega)
        have d:=hid (show kF (s.data.toList.drop i)=(2,0,0) from by rw [b.out,if_pos (Or.inr (Or.inr (Or.inr a)))]);clear q a g f m o b;go_wp2
        go_ret3
        exact ⟨by rw [d.out];rfl,rfl⟩
      have u:¬ (1114111:Int) < (F:Int):=by omega
      by_cases t:55296<=F
      . have C:(55296:Int)<=(F:Int):=by omega
        by_cases B:F<=57343
        . have M:(F:Int)<=57343:=by omega
          have a:Lib.validRune (F:Int)=false:=by unfold Lib.validRune;exact decide_eq_false (by omega)
          have d:=hid (show kF (s.data.toList.drop i)=(2,0,0) from by rw [b.out,if_pos (Or.inr (Or.inr (Or.inr a)))]);clear q a t B g f m o b;go_wp2
          go_ret3
          exact ⟨by rw [d.out];rfl,rfl⟩
        . have M:¬ (F:Int)<=57343:=by omega
          have a:Lib.validRune (F:Int)=true:=by unfold Lib.validRune;exact decide_eq_true (by omega)
          have d:=hid (show kF (s.data.toList.drop i)=(0,F,k+1) from by rw [b.out,if_neg (by rintro (h | h | h | h);exact h g;exact f h;exact o h.2;rw [a] at h;cases h)]);clear q t B a g f m o b;go_wp2
          go_ret3
          exact ⟨by rw [d.out];rfl,rfl⟩
      . have C:(F:Int) < 55296:=by omega
        have b5:decide ((1114111:Int) < (F:Int))=false:=decide_eq_false u;have Z:decide ((55296:Int)<=(F:Int))=false:=decide_eq_false (by omega);have a:Lib.validRune (F:Int)=true:=by unfold Lib.validRune;exact decide_eq_true (by omega)
        have d:=hid (show kF (s.data.toList.drop i)=(0,F,k+1) from by rw [b.out,if_neg (by rintro (h | h | h | h);exact h g;exact f h;exact o h.2;rw [a] at h;cases h)]);clear q t u C I J a g f m o b;go_wp2
        go_ret3
        exact ⟨by rw [d.out];rfl,rfl⟩
    . exact absurd m (by omega)
  have ab:(k:Int) < 6:=by omega
  have hc:=kU s[i+k];have v:=fun W=>Nq s[i+k] W;cases H:kN s[i+k].toNat
  . have z:=hid (p.out (fun _ _=>H))
    rw [RI H] at v;have l:=hid v;have r:=y.out;clear v H p N D y G K;have b:=hid (r k E z.out);clear r;generalize vH ((s.data.toList.drop i).take k)=F at *;clear z
    by_cases f:k=0
    case pos =>
     have e2:((k:Int) == 0)=true:=by simp;omega
     have d:=hid (show kF (s.data.toList.drop i)=(2,0,0) from by rw [b.out,if_pos (Or.inr (Or.inl f))]);clear f b;go_wp2_with (go_at_call 253;refine (l.out _).mono ?_;rintro e w1 ⟨rfl,rfl⟩)
     go_ret3
     exact ⟨by rw [d.out];rfl,rfl⟩
    have e2:((k:Int) == 0)=false:=by simp;omega
    by_cases g:s[i+k].toNat=125
    case neg =>
     have T:((s[i+k].toNat:Int) != 125)=true:=by simp;omega
     have d:=hid (show kF (s.data.toList.drop i)=(2,0,0) from by rw [b.out,if_pos (Or.inl g)]);clear g f b;go_wp2_with (go_at_call 253;refine (l.out _).mono ?_;rintro e w1 ⟨rfl,rfl⟩)
     go_ret3
     exact ⟨by rw [d.out];rfl,rfl⟩
    have T:((s[i+k].toNat:Int) != 125)=false:=by simp;omega
    by_cases m:1 < k
    . have e3:(1:Int) < k:=by omega
      have ad:i < s.size:=by omega
      by_cases o:s[i].toNat=48
      . have U:((s[i].toNat:Int) == 48)=true:=by simp;omega
        have d:=hid (show kF (s.data.toList.drop i)=(2,0,0) from by rw [b.out,if_pos (Or.inr (Or.inr (Or.inl ⟨m,o⟩)))]);clear g f m o b;go_wp2_with (go_at_call 253;refine (l.out _).mono ?_;rintro e w1 ⟨rfl,rfl⟩)
        go_ret3
        exact ⟨by rw [d.out];rfl,rfl⟩
      have U:((s[i].toNat:Int) == 48)=false:=by simp;omega
      by_cases q:1114111 < F
      . have u:(1114111:Int) < (F:Int):=by omega
        have a:Lib.validRune (F:Int)=false:=by unfold Lib.validRune;exact decide_eq_false (by omega)
        have d:=hid (show kF (s.data.toList.drop i)=(2,0,0) from by rw [b.out,if_pos (Or.inr (Or.inr (Or.inr a)))]);clear q a g f m o b;go_wp2_with (go_at_call 253;refine (l.out _).mono ?_;rintro e w1 ⟨rfl,rfl⟩)
        go_ret3
        exact ⟨by rw [d.out];rfl,rfl⟩
      have u:¬ (1114111:Int) < (F:Int):=by omega
      by_cases t:55296<=F
      . have C:(55296:Int)<=(F:Int):=by omega
        by_cases B:F<=57343
        . have M:(F:Int)<=57343:=by omega
          have a:Lib.validRune (F:Int)=false:=by unfold Lib.validRune;exact decide_eq_false (by omega)
          have d:=hid (show kF (s.data.toList.drop i)=(2,0,0) from by rw [b.out,if_pos (Or.inr (Or.inr (Or.inr a)))]);clear q a t B g f m o b;go_wp2_with (go_at_call 253;refine (l.out _).mono ?_;rintro e w1 ⟨rfl,rfl⟩)
          go_ret3
          exact ⟨by rw [d.out];rfl,rfl⟩
        . have M:¬ (F:Int)<=57343:=by omega
          have a:Lib.validRune (F:Int)=true:=by unfold Lib.validRune;exact decide_eq_true (by omega)
          have d:=hid (show kF (s.data.toList.drop i)=(0,F,k+1) from by rw [b.out,if_neg (by rintro (h | h | h | h);exact h g;exact f h;exact o h.2;rw [a] at h;cases h)]);clear q t B a g f m o b;go_wp2_with (go_at_call 253;refine (l.out _).mono ?_;rintro e w1 ⟨rfl,rfl⟩)
          go_ret3
          exact ⟨by rw [d.out];rfl,rfl⟩
      . have C:(F:Int) < 55296:=by omega
        have b5:decide ((1114111:Int) < (F:Int))=false:=decide_eq_false u;have Z:decide ((55296:Int)<=(F:Int))=false:=decide_eq_false (by omega);have a:Lib.validRune (F:Int)=true:=by unfold Lib.validRune;exact decide_eq_true (by omega)
        have d:=hid (show kF (s.data.toList.drop i)=(0,F,k+1) from by rw [b.out,if_neg (by rintro (h | h | h | h);exact h g;exact f h;exact o h.2;rw [a] at h;cases h)]);clear q t u C I J a g f m o b;go_wp2_with (go_at_call 253;refine (l.out _).mono ?_;rintro e w1 ⟨rfl,rfl⟩)
        go_ret3
        exact ⟨by rw [d.out];rfl,rfl⟩
    . have e3:¬ (1:Int) < k:=by omega
      have am:(k:Int)<=1:=by omega
      by_cases q:1114111 < F
      . have u:(1114111:Int) < (F:Int):=by omega
        have a:Lib.validRune (F:Int)=false:=by unfold Lib.validRune;exact decide_eq_false (by omega)
        have d:=hid (show kF (s.data.toList.drop i)=(2,0,0) from by rw [b.out,if_pos (Or.inr (Or.inr (Or.inr a)))]);clear q a g f m b;go_wp2_with (go_at_call 253;refine (l.out _).mono ?_;rintro e w1 ⟨rfl,rfl⟩)
        go_ret3
        exact ⟨by rw [d.out];rfl,rfl⟩
      have u:¬ (1114111:Int) < (F:Int):=by omega
      by_cases t:55296<=F
      . have C:(55296:Int)<=(F:Int):=by omega
        by_cases B:F<=57343
        . have M:(F:Int)<=57343:=by omega
          have a:Lib.validRune (F:Int)=false:=by unfold Lib.validRune;exact decide_eq_false (by omega)
          have d:=hid (show kF (s.data.toList.drop i)=(2,0,0) from by rw [b.out,if_pos (Or.inr (Or.inr (Or.inr a)))]);clear q a t B g f m b;go_wp2_with (go_at_call 253;refine (l.out _).mono ?_;rintro e w1 ⟨rfl,rfl⟩)
          go_ret3
          exact ⟨by rw [d.out];rfl,rfl⟩
        . have M:¬ (F:Int)<=57343:=by omega
          have a:Lib.validRune (F:Int)=true:=by unfold Lib.validRune;exact decide_eq_true (by omega)
          have d:=hid (show kF (s.data.toList.drop i)=(0,F,k+1) from by rw [b.out,if_neg (by rintro (h | h | h | h);exact h g;exact f h;exact m h.1;rw [a] at h;cases h)]);clear q t B a g f m b;go_wp2_with (go_at_call 253;refine (l.out _).mono ?_;rintro e w1 ⟨rfl,rfl⟩)
          go_ret3
          exact ⟨by rw [d.out];rfl,rfl⟩
      . have C:(F:Int) < 55296:=by omega
        have b5:decide ((1114111:Int) < (F:Int))=false:=decide_eq_false u;have Z:decide ((55296:Int)<=(F:Int))=false:=decide_eq_false (by omega);have a:Lib.validRune (F:Int)=true:=by unfold Lib.validRune;exact decide_eq_true (by omega)
        have d:=hid (show kF (s.data.toList.drop i)=(0,F,k+1) from by rw [b.out,if_neg (by rintro (h | h | h | h);exact h g;exact f h;exact m h.1;rw [a] at h;cases h)]);clear q t u C I J a g f m b;go_wp2_with (go_at_call 253;refine (l.out _).mono ?_;rintro e w1 ⟨rfl,rfl⟩)
        go_ret3
        exact ⟨by rw [d.out];rfl,rfl⟩
  . rw [PY H] at v
    have l:=hid v;have hv:=F6 H
    have Y:=hid (show ∀ j (A:i+j < s.size),j < k+1->kN s[i+j].toNat=true from fun j A R=>by
     by_cases e:j < k
     . exact G.out j A e
     . obtain rfl:j=k:=by omega
       exact H)
    have af:=hid (show vH ((s.data.toList.drop i).take (k+1))=16 * vH ((s.data.toList.drop i).take k)+hxv s[i+k].toNat from by
     rw [List.take_succ_eq_append_getElem (by rw [List.length_drop,aj];omega),xX,List.getElem_drop,eU s (i+k) E])
    clear v H p N D y G K;generalize vH ((s.data.toList.drop i).take k)=F at *;generalize hxv s[i+k].toNat=V at *;go_wp2_with (go_at_call 253;refine (l.out _).mono ?_;rintro e w1 ⟨rfl,rfl⟩)
    go_round
    case rel=>exact ⟨k+1,by omega,by omega,by go_num,by rw [af.out];go_num,Y⟩
    case measure=>(simp [RowKit.intOf] <;> omega)
def AZ (i:Nat) (y:Int × List UInt8 × Nat):Ending:=.returned (.tuple #[.string ⟨y.2.1.toArray⟩,.int .i64 ((if y.1=0 then i+y.2.2 else 0:Nat):Nat),.int .i64 y.1])
def oZ (x:Int × Nat × Nat):Int × List UInt8 × Nat:=if x.1≠0 then (x.1,[],0) else (0,Lib.encodeRune (x.2.1:Nat),x.2.2+1)
theorem IQ (s:ByteArray) (k:Nat) (h:k < s.size):s.extract k (k+1)=⟨[s[k]].toArray⟩:=by
 apply wo;rw [Lib.extract_data,Nat.add_sub_cancel_left,drop_cons s k h];rfl
theorem Ec (c:UInt8) (h:c.toNat < 128):Lib.encodeRune (c.toNat:Nat)=[c]:=by
 unfold Lib.encodeRune;rw [Lib.encodeRuneZ_one (by omega) (by omega)];simp
theorem CE:Lib.encodeRune (10:Nat)=[10]/\Lib.encodeRune (13:Nat)=[13]/\Lib.encodeRune (9:Nat)=[9]:=by decide
set_option maxHeartbeats 8000000 in
set_option maxRecDepth 100000 in
theorem Jr (s:ByteArray) (i:Nat) (w:World) (hi:i < s.size) (hs:s.size<=2000000):Calls Tryz.prog 249 #[.string s,.int .i64 i] w fun e w'=>e=AZ i (oZ (gV (s.data.toList.drop (i+1))))/\Below w.heap.size w w':=by
 have m:=hid (Below.refl w.heap.size w)
 by_cases C:i+1 < s.size
 case neg =>
  have c:=hid (show gV (s.data.toList.drop (i+1))=(40,0,0) by rw [List.drop_eq_nil_of_le (by rw [aj];omega)];rfl);have S:(s.size:Int)<=(i:Int)+1:=by omega
  clear C;go_enter Tryz.func249,Tryz.ntmps249;go_wp2
  go_ret3
  exact ⟨by rw [c.out];rfl,m.out⟩
 have S:¬ (s.size:Int)<=(i:Int)+1:=by omega
 have V:(i:Int)+1 < (s.size:Int):=by omega
 have f:=ext_size s (i+1) (by omega);have B:=H9 (s.extract (i+1) s.size) (by omega);rw [aY,qo s (i+1) 0 (by omega)] at B;simp only [Nat.add_zero] at B;have g:=hid B;have hc:=kU s[i+1];clear B
 by_cases a:s[i+1].toNat=110
 . have F:((s[i+1].toNat:Int) == 110)=true:=by simp;omega
   have c:=hid (show oZ (gV (s.data.toList.drop (i+1)))=(0,[10],2) by rw [g.out,if_pos a];unfold oZ;rw [if_neg (by simp)];rw [show Lib.encodeRune _=_ from CE.1]);clear g a  f;go_enter Tryz.func249,Tryz.ntmps249;go_wp2
   go_ret3
   exact ⟨by rw [c.out];rfl,m.out⟩
 have F:((s[i+1].toNat:Int) == 110)=false:=by simp;omega
 by_cases b:s[i+1].toNat=114
 . have D:((s[i+1].toNat:Int) == 114)=true:=by simp;omega
   have c:=hid (show oZ (gV (s.data.toList.drop (i+1)))=(0,[13],2) by rw [g.out,if_neg a,if_pos b];unfold oZ;rw [if_neg (by simp)];rw [show Lib.encodeRune _=_ from CE.2.1]);clear g b a f;go_enter Tryz.func249,Tryz.ntmps249;go_wp2
   go_ret3
   exact ⟨by rw [c.out];rfl,m.out⟩
 have D:((s[i+1].toNat:Int) == 114)=false:=by simp;omega
 by_cases d:s[i+1].toNat=116
 . have E:((s[i+1].toNat:Int) == 116)=true:=by simp;omega
   have c:=hid (show oZ (gV (s.data.toList.drop (i+1)))=(0,[9],2) by rw [g.out,if_neg a,if_neg b,if_pos d];unfold oZ;rw [if_neg (by simp)];rw [show Lib.encodeRune _=_ from CE.2.2]);clear g d a b f;go_enter Tryz.func249,Tryz.ntmps249;go_wp2
   go_ret3
   exact ⟨by rw [c.out];rfl,m.out⟩
 have E:((s[i+1].toNat:Int) == 116)=false:=by simp;omega
 by_cases q:s[i+1].toNat=34
 . have M:((s[i+1].toNat:Int) == 34)=true:=by simp;omega
   have c:=hid (show oZ (gV (s.data.toList.drop (i+1)))=(0,[s[i+1]],2) by rw [g.out,if_neg a,if_neg b,if_neg d,if_pos (Or.inl q)];unfold oZ;rw [if_neg (by simp)];rw [show Lib.encodeRune _=_ from Ec s[i+1] (by omega)]);have n:=hid (IQ s (i+1) C);have k:s.extract (i+1) (i+2)=⟨[s[i+1]].toArray⟩:=n.out;clear g q a b d f;go_enter Tryz.func249,Tryz.ntmps249;go_wp2
   go_ret3
   exact ⟨by rw [c.out,show AZ i (0,[s[i+1]],2)=.returned (.tuple #[.string (s.extract (i+1) (i+2)),.int .i64 ((i:Int)+2),.int .i64 0]) from by rw [k];rfl];rfl,m.out⟩
 have M:((s[i+1].toNat:Int) == 34)=false:=by simp;omega
 by_cases r:s[i+1].toNat=92
 . have Q:((s[i+1].toNat:Int) == 92)=true:=by simp;omega
   have c:=hid (show oZ (gV (s.data.toList.drop (i+1)))=(0,[s[i+1]],2) by rw [g.out,if_neg a,if_neg b,if_neg d,if_pos (Or.inr r)];unfold oZ;rw [if_neg (by simp)];rw [show Lib.encodeRune _=_ from Ec s[i+1] (by omega)]);have n:=hid (IQ s (i+1) C);have k:s.extract (i+1) (i+2)=⟨[s[i+1]].toArray⟩:=n.out;clear g r a b d q f;go_enter Tryz.func249,Tryz.ntmps249;go_wp2
   go_ret3
   exact ⟨by rw [c.out,show AZ i (0,[s[i+1]],2)=.returned (.tuple #[.string (s.extract (i+1) (i+2)),.int .i64 ((i:Int)+2),.int .i64 0]) from by rw [k];rfl];rfl,m.out⟩
 have Q:((s[i+1].toNat:Int) == 92)=false:=by simp;omega
 have t:¬ (s[i+1].toNat=34 ∨ s[i+1].toNat=92):=by omega
 by_cases o:s[i+1].toNat=117
 . have I:((s[i+1].toNat:Int) == 117)=true:=by simp;omega
   have n:=hid (g.out.trans (by rw [if_neg a,if_neg b,if_neg d,if_neg t,if_pos o]));clear g o a b d q r t
   by_cases A:s.size=i+2
   . have c:=hid (show gV (s.data.toList.drop (i+1))=(40,0,0) from n.out.trans (dif_pos (by omega)))
     have T:(s.size:Int)<=(i:Int)+2:=by omega
     clear n A f;go_enter Tryz.func249,Tryz.ntmps249;go_wp2
     go_ret3
     exact ⟨by rw [c.out];rfl,m.out⟩
   . have T:¬ (s.size:Int)<=(i:Int)+2:=by omega
     have h2:i+2 < s.size:=by omega
     have Y:(i:Int)+2 < (s.size:Int):=by omega
     have X:(i:Int)+3<=(s.size:Int):=by omega
     have G:=n.out.trans (dif_neg (by omega));rw [qo s (i+1) 1 (by omega),List.drop_drop] at G;have y:=hid (show _ from G);clear G
     by_cases j:s[i+2].toNat=123
     . have K:((s[i+2].toNat:Int) != 123)=false:=by simp;omega
       have c:=hid (y.out.trans (if_neg (by simpa using j)));have v:=hid (Gy s (i+3) w (by omega) hs);have u:=Nr (l:=s.data.toList.drop (i+3));rw [show i+1+2=i+3 from rfl] at c;generalize kF (s.data.toList.drop (i+3))=x at *;obtain ⟨H,O,J⟩:=x;simp only at c u;unfold TV at v;simp only at v
       by_cases k:H=0
       . subst k
         obtain ⟨L,Z,o3⟩:=u rfl;have U:=hid (fun W=>KU O L W);have p:oZ (gV (s.data.toList.drop (i+1)))=(0,Lib.encodeRune (O:Nat),J+3):=by rw [c.out];rfl
         have z:=hid p;clear n y c A j u f p L;simp only [if_true] at v;go_enter Tryz.func249,Tryz.ntmps249
         go_wp2_with (first
          | (go_at_call 251;refine v.out.mono ?_;rintro e w1 ⟨rfl,rfl⟩)
          | (go_at_call 252;refine (U.out _).mono ?_;rintro e w2 ⟨rfl,N⟩;have P:=hid N;clear N))
         go_ret3
         refine ⟨?_,P.out⟩;rw [z.out];unfold AZ;simp only [if_true];rw [show i+(J+3)=i+3+J by omega];rfl
       . have e3:(H != 0)=true:=by simpa using k
         have p:oZ (gV (s.data.toList.drop (i+1)))=(H,[],0):=by rw [c.out];unfold oZ;rw [if_pos k]
         have z:=hid p;have R:=hid k;rw [if_neg k] at v;clear n y c A j u f p k;go_enter Tryz.func249,Tryz.ntmps249;go_wp2_with (go_at_call 251;refine v.out.mono ?_;rintro e w1 ⟨rfl,rfl⟩)
         go_ret3
         exact ⟨by rw [z.out];unfold AZ;rw [if_neg R.out];rfl,m.out⟩
     . have K:((s[i+2].toNat:Int) != 123)=true:=by simp;omega
       have c:=hid (y.out.trans (if_pos j));clear n y A j f;go_enter Tryz.func249,Tryz.ntmps249;go_wp2
       go_ret3
       exact ⟨by rw [c.out];rfl,m.out⟩
 . have I:((s[i+1].toNat:Int) == 117)=false:=by simp;omega
   have c:=hid (show gV (s.data.toList.drop (i+1))=(2,0,0) from g.out.trans (by rw [if_neg a,if_neg b,if_neg d,if_neg t,if_neg o]));clear g o a b d q r t f;go_enter Tryz.func249,Tryz.ntmps249;go_wp2
   go_ret3
   exact ⟨by rw [c.out];rfl,m.out⟩
theorem Il (s:ByteArray) (i:Nat) (hi:i < s.size):gW (s.data.toList.drop i)=if s[i].toNat=92 then oZ (gV (s.data.toList.drop (i+1)))
  else if bU (s.data.toList.drop i)=0 ∨ s[i].toNat < 32 ∨ s[i].toNat=127 then (2,[],0) else (0,(s.data.toList.drop i).take (bU (s.data.toList.drop i)),bU (s.data.toList.drop i)):=by
 unfold gW oZ;rw [lJ s i hi,show (s.data.toList.drop i).tail=s.data.toList.drop (i+1) by rw [List.tail_drop]]
theorem BK (s:ByteArray) (i n:Nat):s.extract i (i+n)=⟨((s.data.toList.drop i).take n).toArray⟩:=by
 apply wo;rw [Lib.extract_data,Nat.add_sub_cancel_left]
set_option maxHeartbeats 8000000 in
set_option maxRecDepth 100000 in
theorem LW (s:ByteArray) (i:Nat) (w:World) (hi:i < s.size) (hs:s.size<=1200000):Calls Tryz.prog 241 #[.string s,.int .i64 i] w fun e w'=>e=AZ i (gW (s.data.toList.drop i))/\Below w.heap.size w w':=by
 have l:=hid (Il s i hi);have J:=kU s[i]
 by_cases c:s[i].toNat=92
 . have v:((s[i].toNat:Int) == 92)=true:=by simp;omega
   have f:=hid (l.out.trans (if_pos c));have n:=hid (Jr s i w hi (by omega));generalize oZ (gV (s.data.toList.drop (i+1)))=y at *;obtain ⟨A,K,z⟩:=y;clear l c;unfold AZ at n;simp only at n;generalize t:((if A=0 then i+z else 0:Nat))=N at *;have u:=hid t;clear t;go_enter Tryz.func241,Tryz.ntmps241;go_wp2_with (go_at_call 249;refine n.out.mono ?_;rintro e w1 ⟨rfl,a⟩;have d:=hid a;clear a)
   go_ret3
   exact ⟨by rw [f.out,<-u.out];rfl,d.out⟩
 . have v:((s[i].toNat:Int) == 92)=false:=by simp;omega
   have j:=hid (kD s i w hi hs);unfold JE at j;have m:=l.out.trans (if_neg c);have g:=wF (s.data.toList.drop i);rw [List.length_drop,aj] at g;have k:s.data.toList.drop i≠[]:=by rw [drop_cons s i hi];simp
   have C:bU (s.data.toList.drop i)<=s.size - i:=by
    rcases g.2 with h | h | h
    . omega
    . exact absurd h k
    . exact h
   have q:=hid (BK s i (bU (s.data.toList.drop i)))
   by_cases b:bU (s.data.toList.drop i)=0 ∨ s[i].toNat < 32 ∨ s[i].toNat=127
   . have f:=hid (m.trans (if_pos b))
     clear l m g k q;generalize bU (s.data.toList.drop i)=D at *
     by_cases p:D=0
     . have r:((D:Int) == 0)=true:=by simp;omega
       clear b p c;go_enter Tryz.func241,Tryz.ntmps241;go_wp2_with (go_at_call 127;refine j.out.mono ?_;rintro e w1 ⟨o,rfl,a⟩;have d:=hid a;clear a)
       go_ret3
       exact ⟨by rw [f.out];rfl,d.out⟩
     . have r:((D:Int) == 0)=false:=by simp;omega
       by_cases H:(s[i].toNat:Int) < 32
       . clear b p c
         go_enter Tryz.func241,Tryz.ntmps241;go_wp2_with (go_at_call 127;refine j.out.mono ?_;rintro e w1 ⟨o,rfl,a⟩;have d:=hid a;clear a)
         go_ret3
         exact ⟨by rw [f.out];rfl,d.out⟩
       . have B:((s[i].toNat:Int) == 127)=true:=by simp;omega
         clear b p c;go_enter Tryz.func241,Tryz.ntmps241;go_wp2_with (go_at_call 127;refine j.out.mono ?_;rintro e w1 ⟨o,rfl,a⟩;have d:=hid a;clear a)
         go_ret3
         exact ⟨by rw [f.out];rfl,d.out⟩
   . have f:=hid (m.trans (if_neg b))
     have r:((bU (s.data.toList.drop i):Int) == 0)=false:=by simp;omega
     have E:¬ (s[i].toNat:Int) < 32:=by omega
     have B:((s[i].toNat:Int) == 127)=false:=by simp;omega
     have F:(i:Int)+(bU (s.data.toList.drop i):Int)<=(s.size:Int):=by omega
     have I:i+bU (s.data.toList.drop i)<=s.size:=by omega
     clear l m g k b c;generalize (s.data.toList.drop i).take (bU (s.data.toList.drop i))=T at *;generalize bU (s.data.toList.drop i)=D at *;have G:=q.out;go_enter Tryz.func241,Tryz.ntmps241;go_wp2_with (go_at_call 127;refine j.out.mono ?_;rintro e w1 ⟨o,rfl,a⟩;have d:=hid a;clear a)
     go_ret3
     refine ⟨?_,d.out⟩;rw [f.out,show AZ i (0,T,D)=.returned (.tuple #[.string (s.extract i (i+D)),.int .i64 ((i:Int)+(D:Int)),.int .i64 0]) from by rw [q.out];rfl];rfl
set_option maxHeartbeats 8000000 in
set_option maxRecDepth 100000 in
theorem pO (s:ByteArray) (w:World) (hs:s.size<=1200000):Calls Tryz.prog 222 #[.string s] w fun e w'=>e=Ol (bz s.data.toList)/\Below w.heap.size w w':=by
 have D:=hid (Below.refl w.heap.size w)
 by_cases v:s.size=0
 . have c:=hid (show bz s.data.toList=(40,[],0) by unfold bz;rw [aj,if_pos v])
   have T:((s.size:Int) == 0)=true:=by rw [beq_iff_eq];omega
   clear v;go_enter Tryz.func222,Tryz.ntmps222;go_wp2
   go_ret3
   exact ⟨by rw [c.out];rfl,D.out⟩
 have T:((s.size:Int) == 0)=false:=by rw [beq_eq_false_iff_ne];omega
 have z:0 < s.size:=by omega
 by_cases E:s[0].toNat=34
 case neg =>
  have c:=hid (show bz s.data.toList=(2,[],0) by unfold bz;rw [aj,if_neg v,getD_at s z,if_pos E]);have V:((s[0].toNat:Int) != 34)=true:=by simp;omega
  clear v E;go_enter Tryz.func222,Tryz.ntmps222;go_wp2
  go_ret3
  exact ⟨by rw [c.out];rfl,D.out⟩
 have g:=hid (I5 z E);have V:((s[0].toNat:Int) != 34)=false:=by simp;omega
 clear v E;go_enter Tryz.func222,Tryz.ntmps222;go_wp2
 generalize Q:iQ (s.data.toList.drop 1) []=X at *;have P:=hid Q;clear Q;go_loopg [5,6] s.size (fun Z s5 U wr=>∃ (k:Nat) (a:List UInt8),1<=k/\k<=s.size/\s.size - k<=Z/\U=.int .i64 k/\s5=.string ⟨a.toArray⟩/\Hid (Below w.heap.size w wr)/\Hid (iQ (s.data.toList.drop k) a=X)/\Hid (a.length<=4 * k))
 case atStart=>exact ⟨1,[],by omega,by omega,by omega,rfl,rfl,D,P,hid (by simp)⟩
 case round =>
  clear D P;obtain ⟨k,a,ac,hk,ad,rfl,rfl,m,l,J⟩:=hrel
  by_cases r:k < s.size
  case neg =>
   have H:(s.data.toList.drop k)=[]:=List.drop_eq_nil_of_le (by rw [aj];omega)
   have c:=hid (show bz s.data.toList=(40,[],0) by
    rw [g.out];have h:=l.out;rw [H,rY] at h;rw [<-h];rfl)
   clear H g l;go_wp2
   go_ret3
   exact ⟨by rw [c.out];rfl,m.out⟩
  have ab:(k:Int) < (s.size:Int):=by omega
  have d:=hid (drop_cons s k r)
  by_cases j:s[k].toNat=34
  . have O:((s[k].toNat:Int) == 34)=true:=by simp;omega
    have o:=hid (show X=if 4096 < a.length then (3,[],[]) else (0,a,s.data.toList.drop (k+1)) by rw [<-l.out,d.out,rF _ _ _ j]);have F:=jy a;clear j
    by_cases b:4096 < a.length
    . have c:=hid (show bz s.data.toList=(3,[],0) by
       rw [g.out,o.out,if_pos b];rfl)
      have N:(4096:Int) < (a.length:Int):=by omega
      clear g l o b F;go_wp2
      go_ret3
      exact ⟨by rw [c.out];rfl,m.out⟩
    . have c:=hid (show bz s.data.toList=(0,a,k+1) by
       rw [g.out,o.out,if_neg b,if_neg (by simp)];show (0,a,s.size - (s.data.toList.drop (k+1)).length)=_;rw [List.length_drop,aj,show s.size - (s.size - (k+1))=k+1 by omega])
      have N:¬ (4096:Int) < (a.length:Int):=by omega
      clear g l o b F;go_wp2
      go_ret3
      exact ⟨by rw [c.out];rfl,m.out⟩
  . have O:((s[k].toNat:Int) == 34)=false:=by simp;omega
    have u:=hid (LW s k wr r hs)
    have p:=hid (fun (h:(gW (s.data.toList.drop k)).1=0)=>show 1<=(gW (s.data.toList.drop k)).2.2/\k+(gW (s.data.toList.drop k)).2.2<=s.size/\(gW (s.data.toList.drop k)).2.1.length<=4 from by
     rw [Il s k r] at h ⊢
     by_cases G:s[k].toNat=92
     . rw [if_pos G] at h ⊢
       unfold oZ at h ⊢
       by_cases C:(gV (s.data.toList.drop (k+1))).1=0
       . rw [if_neg (by rw [C];simp)]
         obtain ⟨o1,o2,o3⟩:=Ii C;rw [List.length_drop,aj] at o3;exact ⟨by show 1<=_+1;omega,by show k+(_+1)<=_;omega,(vX _).1⟩
       . rw [if_pos C] at h;exact absurd h C
     . rw [if_neg G] at h ⊢
       by_cases n:bU (s.data.toList.drop k)=0 ∨ s[k].toNat < 32 ∨ s[k].toNat=127
       . rw [if_pos n] at h;cases h
       . rw [if_neg n]
         have L:s.data.toList.drop k≠[]:=by rw [d.out];simp
         have R:=zn L;rw [lJ s k r] at R;obtain ⟨g1,g2,Y,g4⟩:=R.2.2.2.2 n;rw [List.length_drop,aj] at g4;refine ⟨Y,by show k+bU _<=_;omega,?_⟩;show (List.take _ _).length<=4;rw [<-g2];exact (vX _).1)
    have f:=hid (fun (h:(gW (s.data.toList.drop k)).1≠0)=>show X=((gW (s.data.toList.drop k)).1,[],[]) by
     rw [<-l.out];rw [d.out] at h ⊢;exact wM _ _ _ j h)
    have i:=hid (fun (h:(gW (s.data.toList.drop k)).1=0) (h1:1<=(gW (s.data.toList.drop k)).2.2)=>show iQ (s.data.toList.drop (k+(gW (s.data.toList.drop k)).2.2)) (a ++ (gW (s.data.toList.drop k)).2.1)=X by
     have:=EO s[k] (s.data.toList.drop (k+1)) a j (by rw [<-d.out];exact h) (by rw [<-d.out];exact h1);rw [<-d.out,l.out,List.drop_drop] at this;exact this.symm)
    clear j l d;generalize gW (s.data.toList.drop k)=y at *;obtain ⟨I,S,M⟩:=y;unfold AZ at u;simp only at u p f i
    by_cases t:I=0
    . subst t
      obtain ⟨p1,p2,p3⟩:=p.out rfl;have q:=hid (i.out rfl p1);simp only [if_true] at u;have aa:=fun W=>dS W a S (by have:=J.out;omega);have K:=hid p3;clear i f p g p3;go_wp2_with (go_at_call 241;refine u.out.mono ?_;rintro e w2 ⟨rfl,A⟩;have B:=hid (m.out.trans (A.mono m.out.size));clear A)
      go_roundg (s.size - (k+M))
      case measure=>omega
      case rel=>exact ⟨k+M,a ++ S,by omega,by omega,by omega,by go_num,rfl,B,q,hid (by have:=K.out;have:=J.out;rw [List.length_append];omega)⟩
    . have e3:(I != 0)=true:=by simpa using t
      have q:=hid (f.out t);have c:=hid (show bz s.data.toList=(I,[],0) by rw [g.out,q.out,if_pos t]);rw [if_neg t] at u;clear i f p g t q;go_wp2_with (go_at_call 241;refine u.out.mono ?_;rintro e w2 ⟨rfl,A⟩;have B:=hid (m.out.trans (A.mono m.out.size));clear A)
      go_ret3
      exact ⟨by rw [c.out];rfl,B.out⟩
def jS (l:List UInt8):Bool:=(l.all fun c=>jX c.toNat) && (!decide (l.length=0) && (decide ((l.getD 0 0).toNat≠48) || decide (l.length=1)))
def mY (l:List UInt8):Bool:=if (l.getD 0 0).toNat=45 then jS l.tail && !(l.tail == [48]) else jS l
theorem wI {t:ByteArray} {k:Nat} (hk:k < t.size) (h:jX t[k].toNat=false):jS t.data.toList=false:=by
 unfold jS
 have:(t.data.toList.all fun c=>jX c.toNat)=false:=by
  rw [List.all_eq_false];refine ⟨t[k],?_,by rw [h];simp⟩;rw [<-eU t k hk];exact List.getElem_mem _
 rw [this];rfl
theorem yx {t:ByteArray} (h:∀ j (hj:j < t.size),jX t[j].toNat=true):jS t.data.toList=(!decide (t.size=0) && (decide ((t.data.toList.getD 0 0).toNat≠48) || decide (t.size=1))):=by
 unfold jS
 have:(t.data.toList.all fun c=>jX c.toNat)=true:=by
  rw [List.all_eq_true];intro c a;obtain ⟨j,hj,rfl⟩:=List.mem_iff_getElem.1 a;rw [aj] at hj;rw [eU t j hj];exact h j hj
 rw [this,aj];rfl
theorem jV (c:Nat):jX c=true ↔ 48<=c/\c<=57:=by simp [jX]
theorem Ej {s:ByteArray} (h:0 < s.size) (h1:s[0].toNat=45):mY s.data.toList=(jS (s.extract 1 s.size).data.toList && !((s.extract 1 s.size).data.toList == [48])):=by
 unfold mY;rw [getD_at s h,if_pos h1,aY,List.drop_one]
theorem Ei {s:ByteArray} (h:¬ (∃ h:0 < s.size,s[0].toNat=45)):mY s.data.toList=jS s.data.toList:=by
 unfold mY
 by_cases a:0 < s.size
 . rw [getD_at s a,if_neg (fun e=>h ⟨a,e⟩)]
 . have:s.data.toList=[]:=List.eq_nil_of_length_eq_zero (by rw [aj];omega)
   rw [this];rfl
theorem Ox {t:ByteArray} (h:0 < t.size):(t.toList == [48])=decide (t.size=1/\t[0].toNat=48):=by
 rw [ByteArray.toList_eq,Bool.eq_iff_iff,beq_iff_eq,decide_eq_true_eq];have a:=aj t;constructor
 . intro e
   rw [e] at a;refine ⟨by simpa using a.symm,?_⟩;have:=getD_at t h;rw [e] at this;rw [<-this];rfl
 . rintro ⟨i,g⟩
   have:=getD_at t h;cases b:t.data.toList with
   | nil=>rw [b] at a;simp at a;omega
   | cons x l =>
     rw [b] at a this;have f:l=[]:=List.eq_nil_of_length_eq_zero (by simp at a;omega);subst f;have c:x=t[0]:=this;have d:x=48:=UInt8.toNat_inj.1 (by rw [c];exact g);rw [d]
set_option maxHeartbeats 8000000 in
theorem Nv (s:ByteArray) (w:World) (hs:s.size<=2000000):Calls Tryz.prog 161 #[.string s] w fun e w'=>e=.returned (.bool (mY s.data.toList))/\w=w':=by
 by_cases B:∃ h:0 < s.size,s[0].toNat=45
 . obtain ⟨N,r⟩:=B
   have p:=hid (Ej N r);have I:((s[0].toNat:Int) == 45)=true:=by simp;omega
   have v:(0:Int) < (s.size:Int):=by omega
   have P:(1:Int)<=(s.size:Int):=by omega
   have D:=ext_size s 1 (by omega);cases z:((s.extract 1 s.size).toList == [48])
   . have u:=hid (show mY s.data.toList=jS (s.extract 1 s.size).data.toList by
      rw [p.out,<-ByteArray.toList_eq,z];simp)
     clear p r;go_enter Tryz.func161,Tryz.ntmps161;go_wp2
     generalize s.extract 1 s.size=t at *;rw [<-D];have O:t.size<=2000000:=by omega
     have b:=hid (fun (h:jS t.data.toList=false ∨ False)=>show mY s.data.toList=false by rw [u.out];rcases h with h | h;exact h;exact h.elim);have c:=hid (fun h=>u.out.trans (yx (t:=t) h));clear u z D;go_loop [18] (fun i=>∃ k:Nat,k<=t.size/\i=.int .i64 k/\Hid (∀ j (m:j < t.size),j < k->jX t[j].toNat=true)) (fun i=>t.size - (RowKit.intOf i).toNat)
     case atStart=>exact ⟨0,by omega,rfl,hid (fun j m h=>absurd h (by omega))⟩
     case round =>
      obtain ⟨k,H,rfl,l⟩:=hrel
      by_cases q:k < t.size
      . have f:=hid (fun h=>wI (t:=t) q h)
        have L:=kU t[k]
        by_cases J:(t[k].toNat:Int) < 48
        . have d:=hid (b.out (Or.inl (f.out (by unfold jX;exact decide_eq_false (by omega)))))
          clear l f b c;go_wp2
          go_ret
          exact ⟨ah d.out,rfl⟩
        by_cases K:(57:Int) < (t[k].toNat:Int)
        . have d:=hid (b.out (Or.inl (f.out (by unfold jX;exact decide_eq_false (by omega)))))
          clear l f b c;go_wp2
          go_ret
          exact ⟨ah d.out,rfl⟩
        have A:=hid (show ∀ j (m:j < t.size),j < k+1->jX t[j].toNat=true from fun j m E=>by
         by_cases e:j < k
         . exact l.out j m e
         . obtain rfl:j=k:=by omega
           unfold jX;exact decide_eq_true (by omega))
        clear l f b c;go_wp2
        go_round
        case rel=>exact ⟨k+1,by omega,by go_num,A⟩
        case measure=>(simp [RowKit.intOf] <;> omega)
      . have a:=c.out (fun j m=>l.out j m (by omega))
        clear l c b
        by_cases g:t.size=0
        . have C:=mD g
          have d:=hid (a.trans (show _=false by rw [decide_eq_true g];rfl));clear a g;go_wp2
          go_ret
          exact ⟨ah d.out,rfl⟩
        have C:=gG g;have y:0 < t.size:=by omega
        rw [getD_at t y,decide_eq_false g] at a
        by_cases n:t[0].toNat=48
        . have F:((t[0].toNat:Int) != 48)=false:=by simp;omega
          by_cases o:t.size=1
          . have d:=hid (a.trans (show _=true by rw [decide_eq_true o];simp))
            have G:((t.size:Int) == 1)=true:=by simp;omega
            clear a n o g;go_wp2
            go_ret
            exact ⟨ah d.out,rfl⟩
          . have d:=hid (a.trans (show _=false by rw [decide_eq_false o,decide_eq_false (by simpa using n)];rfl))
            have G:((t.size:Int) == 1)=false:=by simp;omega
            clear a n o g;go_wp2
            go_ret
            exact ⟨ah d.out,rfl⟩
        . have F:((t[0].toNat:Int) != 48)=true:=by simp;omega
          have d:=hid (a.trans (show _=true by rw [decide_eq_true (by simpa using n)];simp));clear a n g;go_wp2
          go_ret
          exact ⟨ah d.out,rfl⟩
   . have u:=hid (show mY s.data.toList=false by rw [p.out,<-ByteArray.toList_eq,z];simp)
     clear p r;go_enter Tryz.func161,Tryz.ntmps161;go_wp2
     go_ret
     exact ⟨ah u.out,rfl⟩
 . have p:=hid (Ei B)
   have b:=hid (fun (h:jS s.data.toList=false ∨ False)=>show mY s.data.toList=false by rw [p.out];rcases h with h | h;exact h;exact h.elim);have c:=hid (fun h=>p.out.trans (yx (t:=s) h))
   by_cases M:0 < s.size
   . have I:((s[0].toNat:Int) == 45)=false:=by
      have:s[0].toNat≠45:=fun e=>B ⟨M,e⟩;simp;omega
     have v:(0:Int) < (s.size:Int):=by omega
     clear p B;go_enter Tryz.func161,Tryz.ntmps161;go_wp2
     go_loop [18] (fun i=>∃ k:Nat,k<=s.size/\i=.int .i64 k/\Hid (∀ j (m:j < s.size),j < k->jX s[j].toNat=true)) (fun i=>s.size - (RowKit.intOf i).toNat)
     case atStart=>exact ⟨0,by omega,rfl,hid (fun j m h=>absurd h (by omega))⟩
     case round =>
      obtain ⟨k,H,rfl,l⟩:=hrel
      by_cases q:k < s.size
      . have f:=hid (fun h=>wI (t:=s) q h)
        have L:=kU s[k]
        by_cases J:(s[k].toNat:Int) < 48
        . have d:=hid (b.out (Or.inl (f.out (by unfold jX;exact decide_eq_false (by omega)))))
          clear l f b c;go_wp2
          go_ret
          exact ⟨ah d.out,rfl⟩
        by_cases K:(57:Int) < (s[k].toNat:Int)
        . have d:=hid (b.out (Or.inl (f.out (by unfold jX;exact decide_eq_false (by omega)))))
          clear l f b c;go_wp2
          go_ret
          exact ⟨ah d.out,rfl⟩
        have A:=hid (show ∀ j (m:j < s.size),j < k+1->jX s[j].toNat=true from fun j m E=>by
         by_cases e:j < k
         . exact l.out j m e
         . obtain rfl:j=k:=by omega
           unfold jX;exact decide_eq_true (by omega))
        clear l f b c;go_wp2
        go_round
        case rel=>exact ⟨k+1,by omega,by go_num,A⟩
        case measure=>(simp [RowKit.intOf] <;> omega)
      . have a:=c.out (fun j m=>l.out j m (by omega))
        clear l c b
        by_cases g:s.size=0
        . have C:=mD g
          have d:=hid (a.trans (show _=false by rw [decide_eq_true g];rfl));clear a g;go_wp2
          go_ret
          exact ⟨ah d.out,rfl⟩
        have C:=gG g;have y:0 < s.size:=by omega
        rw [getD_at s y,decide_eq_false g] at a
        by_cases n:s[0].toNat=48
        . have F:((s[0].toNat:Int) != 48)=false:=by simp;omega
          by_cases o:s.size=1
          . have d:=hid (a.trans (show _=true by rw [decide_eq_true o];simp))
            have G:((s.size:Int) == 1)=true:=by simp;omega
            clear a n o g;go_wp2
            go_ret
            exact ⟨ah d.out,rfl⟩
          . have d:=hid (a.trans (show _=false by rw [decide_eq_false o,decide_eq_false (by simpa using n)];rfl))
            have G:((s.size:Int) == 1)=false:=by simp;omega
            clear a n o g;go_wp2
            go_ret
            exact ⟨ah d.out,rfl⟩
        . have F:((s[0].toNat:Int) != 48)=true:=by simp;omega
          have d:=hid (a.trans (show _=true by rw [decide_eq_true (by simpa using n)];simp));clear a n g;go_wp2
          go_ret
          exact ⟨ah d.out,rfl⟩
   . have v:¬ (0:Int) < (s.size:Int):=by omega
     clear p B;go_enter Tryz.func161,Tryz.ntmps161;go_wp2
     go_loop [18] (fun i=>∃ k:Nat,k<=s.size/\i=.int .i64 k/\Hid (∀ j (m:j < s.size),j < k->jX s[j].toNat=true)) (fun i=>s.size - (RowKit.intOf i).toNat)
     case atStart=>exact ⟨0,by omega,rfl,hid (fun j m h=>absurd h (by omega))⟩
     case round =>
      obtain ⟨k,H,rfl,l⟩:=hrel
      by_cases q:k < s.size
      . have f:=hid (fun h=>wI (t:=s) q h)
        have L:=kU s[k]
        by_cases J:(s[k].toNat:Int) < 48
        . have d:=hid (b.out (Or.inl (f.out (by unfold jX;exact decide_eq_false (by omega)))))
          clear l f b c;go_wp2
          go_ret
          exact ⟨ah d.out,rfl⟩
        by_cases K:(57:Int) < (s[k].toNat:Int)
        . have d:=hid (b.out (Or.inl (f.out (by unfold jX;exact decide_eq_false (by omega)))))
          clear l f b c;go_wp2
          go_ret
          exact ⟨ah d.out,rfl⟩
        have A:=hid (show ∀ j (m:j < s.size),j < k+1->jX s[j].toNat=true from fun j m E=>by
         by_cases e:j < k
         . exact l.out j m e
         . obtain rfl:j=k:=by omega
           unfold jX;exact decide_eq_true (by omega))
        clear l f b c;go_wp2
        go_round
        case rel=>exact ⟨k+1,by omega,by go_num,A⟩
        case measure=>(simp [RowKit.intOf] <;> omega)
      . have a:=c.out (fun j m=>l.out j m (by omega))
        clear l c b;have g:s.size=0:=by omega
        have C:=mD g;have d:=hid (a.trans (show _=false by rw [decide_eq_true g];rfl));clear a g;go_wp2
        go_ret
        exact ⟨ah d.out,rfl⟩
set_option maxHeartbeats 8000000 in
theorem zN (s:ByteArray) (w:World) (hs:s.size<=2000000):Calls Tryz.prog 151 #[.string s] w fun e w'=>e=.returned (.bool (jS s.data.toList))/\w=w':=by
 have b:=hid (fun (h:jS s.data.toList=false ∨ False)=>show jS s.data.toList=false by rcases h with h | h;exact h;exact h.elim);have c:=hid (fun h=>yx (t:=s) h);go_enter Tryz.func151,Tryz.ntmps151;go_wp2
 go_loop [3] (fun i=>∃ k:Nat,k<=s.size/\i=.int .i64 k/\Hid (∀ j (o:j < s.size),j < k->jX s[j].toNat=true)) (fun i=>s.size - (RowKit.intOf i).toNat)
 case atStart=>exact ⟨0,by omega,rfl,hid (fun j o h=>absurd h (by omega))⟩
 case round =>
  obtain ⟨k,B,rfl,n⟩:=hrel
  by_cases u:k < s.size
  . have l:=hid (fun h=>wI (t:=s) u h)
    have E:=kU s[k]
    by_cases C:(s[k].toNat:Int) < 48
    . have d:=hid (b.out (Or.inl (l.out (by unfold jX;exact decide_eq_false (by omega)))))
      clear n l b c;go_wp2
      go_ret
      exact ⟨ah d.out,rfl⟩
    by_cases D:(57:Int) < (s[k].toNat:Int)
    . have d:=hid (b.out (Or.inl (l.out (by unfold jX;exact decide_eq_false (by omega)))))
      clear n l b c;go_wp2
      go_ret
      exact ⟨ah d.out,rfl⟩
    have z:=hid (show ∀ j (o:j < s.size),j < k+1->jX s[j].toNat=true from fun j o A=>by
     by_cases e:j < k
     . exact n.out j o e
     . obtain rfl:j=k:=by omega
       unfold jX;exact decide_eq_true (by omega))
    clear n l b c;go_wp2
    go_round
    case rel=>exact ⟨k+1,by omega,by go_num,z⟩
    case measure=>(simp [RowKit.intOf] <;> omega)
  . have a:=c.out (fun j o=>n.out j o (by omega))
    clear n c b
    by_cases g:s.size=0
    . have v:=mD g
      have q:(s.toList == [48])=false:=by rw [ByteArray.toList_eq,show s.data.toList=[] from List.eq_nil_of_length_eq_zero (by rw [aj];exact g)];rfl
      have d:=hid (a.trans (show _=false by rw [decide_eq_true g];rfl));clear a g;go_wp2
      go_ret
      exact ⟨ah d.out,rfl⟩
    have v:=gG g;have r:0 < s.size:=by omega
    rw [getD_at s r,decide_eq_false g] at a;have f:=Ox r
    by_cases m:s[0].toNat=48
    . have y:((s[0].toNat:Int) != 48)=false:=by simp;omega
      by_cases p:s.size=1
      . have d:=hid (a.trans (show _=true by rw [decide_eq_true p];simp))
        have q:(s.toList == [48])=true:=f.trans (by rw [decide_eq_true (show _/\_ from ⟨p,m⟩)]);clear a m p g f;go_wp2
        go_ret
        exact ⟨ah d.out,rfl⟩
      . have d:=hid (a.trans (show _=false by rw [decide_eq_false p,decide_eq_false (by simpa using m)];rfl))
        have q:(s.toList == [48])=false:=f.trans (by rw [decide_eq_false (fun h=>p h.1)]);clear a m p g f;go_wp2
        go_ret
        exact ⟨ah d.out,rfl⟩
    . have y:((s[0].toNat:Int) != 48)=true:=by simp;omega
      have q:(s.toList == [48])=false:=f.trans (by rw [decide_eq_false (fun h=>m h.2)]);have d:=hid (a.trans (show _=true by rw [decide_eq_true (by simpa using m)];simp));clear a m g f;go_wp2
      go_ret
      exact ⟨ah d.out,rfl⟩
def eY (l:List UInt8):Nat:=l.foldl (fun n c=>10 * n+(c.toNat - 48)) 0
theorem lq (acc:Nat) (c:UInt8) (l:List UInt8):(c :: l).foldl (fun n c=>10 * n+(c.toNat - 48)) acc=l.foldl (fun n c=>10 * n+(c.toNat - 48)) (10 * acc+(c.toNat - 48)):=List.foldl_cons ..
theorem AY:∀ (l:List UInt8) (acc:Nat),acc<=l.foldl (fun n c=>10 * n+(c.toNat - 48)) acc
 | [],acc=>Nat.le_refl _
 | c :: l,acc=>by rw [lq];exact Nat.le_trans (by omega) (AY l _)
theorem Du:∀ (l:List UInt8) (acc:Nat),acc * 10 ^ l.length<=l.foldl (fun n c=>10 * n+(c.toNat - 48)) acc
 | [],acc=>by simp
 | c :: l,acc=>by
   rw [lq];refine Nat.le_trans ?_ (Du l _);rw [List.length_cons,Nat.pow_succ];have:acc * (10 ^ l.length * 10)=(10 * acc) * 10 ^ l.length:=by rw [Nat.mul_comm (10 ^ l.length) 10,<-Nat.mul_assoc,Nat.mul_comm acc 10]
   rw [this];exact Nat.mul_le_mul_right _ (by omega)
theorem BO:∀ (l:List UInt8) (acc:Nat),(l.all fun c=>jX c.toNat)=true->l.foldl (fun n c=>10 * n+(c.toNat - 48)) acc < (acc+1) * 10 ^ l.length
 | [],acc,_=>by simp
 | c :: l,acc,h=>by
   rw [List.all_cons,Bool.and_eq_true] at h;have hc:=(jV c.toNat).1 h.1;rw [lq];refine Nat.lt_of_lt_of_le (BO l _ h.2) ?_;rw [List.length_cons,Nat.pow_succ];have:(acc+1) * (10 ^ l.length * 10)=(10 * (acc+1)) * 10 ^ l.length:=by rw [Nat.mul_comm (10 ^ l.length) 10,<-Nat.mul_assoc,Nat.mul_comm (acc+1) 10]
   rw [this];exact Nat.mul_le_mul_right _ (by omega)
theorem zF:∀ (l:List UInt8) (acc:Nat),(l.all fun c=>jX c.toNat)=true->acc<=18446744073709551615 ->
  Lib.parseUintM 18446744073709551615 acc l=if l.foldl (fun n c=>10 * n+(c.toNat - 48)) acc<=18446744073709551615 then .ok (l.foldl (fun n c=>10 * n+(c.toNat - 48)) acc) else .range
 | [],acc,_,h=>by rw [Lib.parseUintM];show _=if acc<=_ then _ else _;rw [if_pos h];rfl
 | c :: l,acc,hd,h=>by
   rw [List.all_cons,Bool.and_eq_true] at hd;have hc:=(jV c.toNat).1 hd.1;rw [Lib.parseUintM,if_pos hc,lq];have hg:=AY l (10 * acc+(c.toNat - 48))
   by_cases h1:1844674407370955162<=acc
   . rw [if_pos h1,if_neg (by omega)]
   . rw [if_neg h1]
     by_cases h2:18446744073709551615 < acc * 10+(c.toNat - 48)
     . rw [if_pos h2,if_neg (by omega)]
     . rw [if_neg h2,zF l _ hd.2 (by omega),Nat.mul_comm acc 10]
theorem jg {l:List UInt8} (h:jS l=true):(l.all fun c=>jX c.toNat)=true/\l≠[]/\((l.getD 0 0).toNat≠48 ∨ l.length=1):=by
 unfold jS at h;rw [Bool.and_eq_true,Bool.and_eq_true,Bool.or_eq_true] at h;refine ⟨h.1,fun e=>?_,h.2.2.imp of_decide_eq_true of_decide_eq_true⟩;rw [e] at h;simp at h
theorem LK {l:List UInt8} (h:jS l=true) (h17:16 < l.length):10000000000000000<=eY l:=by
 obtain ⟨b,f,a⟩:=jg h;cases l with
 | nil=>exact absurd rfl f
 | cons c l =>
   have g:c.toNat≠48:=by
    rcases a with a | a
    . exact a
    . simp at a;subst a;simp at h17
   rw [List.all_cons,Bool.and_eq_true] at b;have i:=(jV c.toNat).1 b.1;unfold eY;rw [lq];refine Nat.le_trans ?_ (Du l _);rw [List.length_cons] at h17;have:10 ^ 16<=10 ^ l.length:=Nat.pow_le_pow_right (by decide) (by omega);have d:1 * 10 ^ 16<=(10 * 0+(c.toNat - 48)) * 10 ^ l.length:=Nat.mul_le_mul (by omega) this;simpa using d
def qG (l:List UInt8):List UInt8:=if (l.getD 0 0).toNat=45 then l.tail else l
def AO (l:List UInt8):Int:=if (l.getD 0 0).toNat=45 then -(eY (qG l):Int) else eY (qG l)
def gp (l:List UInt8):Int × Int:=
 if mY l=false then (0,2) else if 16 < (qG l).length then (0,5) else if -9007199254740992<=AO l/\AO l<=9007199254740992 then (AO l,0) else (0,5)
theorem Eb {l:List UInt8} (h:mY l=true):jS (qG l)=true:=by
 unfold mY at h;unfold qG
 by_cases a:(l.getD 0 0).toNat=45
 . rw [if_pos a] at h ⊢;rw [Bool.and_eq_true] at h;exact h.1
 . rw [if_neg a] at h ⊢;exact h
theorem JZ {l:List UInt8} (h:mY l=true):(∃ v:Int,Lib.parseIntB 64 l=.ok v/\gp l=if -9007199254740992<=v/\v<=9007199254740992 then (v,0) else (0,5)) ∨ (Lib.parseIntB 64 l=.range/\gp l=(0,5)):=by
 have q:=Eb h;obtain ⟨z,p,A⟩:=jg q;have j:=fun a=>LK q a
 have n:Lib.parseUintB 64 (qG l)=if eY (qG l)<=18446744073709551615 then .ok (eY (qG l)) else .range:=by
  unfold Lib.parseUintB;rw [if_neg p];exact zF (qG l) 0 z (by decide)
 have d:Lib.parseIntB 64 l=if eY (qG l)<=18446744073709551615 then (if ¬ (l.getD 0 0).toNat=45/\2 ^ (64 - 1)<=eY (qG l) then .range else if (l.getD 0 0).toNat=45/\2 ^ (64 - 1) < eY (qG l) then .range else .ok (if (l.getD 0 0).toNat=45 then -(eY (qG l):Int) else eY (qG l))) else .range:=by
  cases l with
  | nil=>unfold qG at p;simp at p
  | cons c r =>
    have s:((c :: r).getD 0 0).toNat=c.toNat:=rfl;rw [s]
    by_cases i:c.toNat=45
    . have o:qG (c :: r)=r:=by unfold qG;rw [s,if_pos i];rfl
      rw [o] at n ⊢;unfold Lib.parseIntB;simp only [i,or_true,if_true,n]
      by_cases f:eY r<=18446744073709551615
      . simp only [if_pos f]
      . simp only [if_neg f]
    . have o:qG (c :: r)=c :: r:=by unfold qG;rw [s,if_neg i]
      have t:c.toNat≠43:=by
       intro e;have u:jS (c :: r)=true:=by rwa [o] at q
       have:=(jg u).1;rw [List.all_cons,Bool.and_eq_true] at this;have:=(jV c.toNat).1 this.1;omega
      rw [o] at n ⊢;unfold Lib.parseIntB;simp only [i,t,or_self,if_false,n]
      by_cases f:eY (c :: r)<=18446744073709551615
      . simp only [if_pos f]
      . simp only [if_neg f]
 have k:gp l=if 16 < (qG l).length then (0,5) else if -9007199254740992<=AO l/\AO l<=9007199254740992 then (AO l,0) else (0,5):=by
  unfold gp;rw [h,if_neg (by simp)]
 have g:AO l=if (l.getD 0 0).toNat=45 then -(eY (qG l):Int) else eY (qG l):=rfl
 clear n;generalize eY (qG l)=V at *;generalize (qG l).length=K at *;generalize AO l=S at *;generalize gp l=N at *;generalize (l.getD 0 0).toNat=b at *;clear h z p A q
 by_cases f:V<=18446744073709551615
 . rw [if_pos f] at d
   by_cases y:b=45
   . simp only [y,not_true,false_and,if_false,true_and,if_true] at d g
     by_cases m:2 ^ (64 - 1) < V
     . rw [if_pos m] at d
       right;refine ⟨d,?_⟩;rw [k];have:¬ (-9007199254740992<=S/\S<=9007199254740992):=by rw [g];omega
       rw [if_neg this];split <;> rfl
     . rw [if_neg m] at d
       left;refine ⟨_,d,?_⟩;rw [k,<-g]
       by_cases a:16 < K
       . have:=j a
         rw [if_pos a,if_neg (by omega)]
       . rw [if_neg a]
   . simp only [y,not_false_eq_true,true_and,false_and,if_false] at d g
     by_cases m:2 ^ (64 - 1)<=V
     . rw [if_pos m] at d
       right;refine ⟨d,?_⟩;rw [k];have:¬ (-9007199254740992<=S/\S<=9007199254740992):=by rw [g];omega
       rw [if_neg this];split <;> rfl
     . rw [if_neg m] at d
       left;refine ⟨_,d,?_⟩;rw [k,<-g]
       by_cases a:16 < K
       . have:=j a
         rw [if_pos a,if_neg (by omega)]
       . rw [if_neg a]
 . rw [if_neg f] at d
   right;refine ⟨d,?_⟩;rw [k];have:¬ (-9007199254740992<=S/\S<=9007199254740992):=by rw [g];split <;> omega
   rw [if_neg this];split <;> rfl
def qK (n:Int):Bool:=decide (-9007199254740992<=n) && decide (n<=9007199254740992)
theorem J6 (n:Int) (w:World):Calls Tryz.prog 163 #[.int .i64 n] w fun e w'=>e=.returned (.bool (qK n))/\w=w':=by
 by_cases b:-9007199254740992<=n
 . have a:=hid (show qK n=decide (n<=9007199254740992) by unfold qK;rw [decide_eq_true b];rfl)
   go_enter Tryz.func163,Tryz.ntmps163;go_wp2
   go_ret
   exact ⟨ah a.out,rfl⟩
 . have a:=hid (show qK n=false by unfold qK;rw [decide_eq_false b];rfl)
   go_enter Tryz.func163,Tryz.ntmps163;go_wp2
   go_ret
   exact ⟨ah a.out,rfl⟩
theorem zQ (n:Int) (w:World):Calls Tryz.prog 152 #[.int .i64 n] w fun e w'=>e=.returned (.bool (qK n))/\w=w':=by
 by_cases b:-9007199254740992<=n
 . have a:=hid (show qK n=decide (n<=9007199254740992) by unfold qK;rw [decide_eq_true b];rfl)
   go_enter Tryz.func152,Tryz.ntmps152;go_wp2
   go_ret
   exact ⟨ah a.out,rfl⟩
 . have a:=hid (show qK n=false by unfold qK;rw [decide_eq_false b];rfl)
   go_enter Tryz.func152,Tryz.ntmps152;go_wp2
   go_ret
   exact ⟨ah a.out,rfl⟩
def Pz (x:Int × Int):Ending:=.returned (.tuple #[.int .i64 x.1,.int .i64 x.2])
set_option maxHeartbeats 4000000 in
theorem Fb (s:ByteArray) (w:World) (hT:WT w) (hs:s.size<=2000000):Calls Tryz.prog 120 #[.string s] w fun e w'=>e=Pz (gp s.data.toList)/\Below w.heap.size w w':=by
 have d:=hid (Nv s w hs);have m:=hid (Below.refl w.heap.size w);cases f:mY s.data.toList
 . have b:=hid (show gp s.data.toList=(0,2) by unfold gp;rw [if_pos f])
   rw [f] at d;clear f hT;go_enter Tryz.func120,Tryz.ntmps120;go_wp2_with (go_at_call 161;refine d.out.mono ?_;rintro e w1 ⟨rfl,rfl⟩)
   go_ret2
   exact ⟨by rw [b.out];rfl,m.out⟩
 have q:=JZ f;rw [f] at d;clear f;rcases q with ⟨v,hv,hn⟩ | ⟨hv,hn⟩
 . have k:=hid (Tryz.strconv_ParseInt_10_at64_ok s (by omega) v hv w)
   have j:=hid (fun W=>J6 v W);have c:qK v=decide (-9007199254740992<=v/\v<=9007199254740992):=by unfold qK;rw [Bool.eq_iff_iff];simp
   have l:=hid (fun t=>Joins.below_bytesWorld w.heap.size w 5 t (Nat.le_refl _));clear hT hv
   by_cases g:-9007199254740992<=v/\v<=9007199254740992
   . have b:=hid (hn.trans (if_pos g))
     rw [c,decide_eq_true g] at j;clear hn c g;go_enter Tryz.func120,Tryz.ntmps120
     go_wp2_with (first
      | (go_at_call 161;refine d.out.mono ?_;rintro e w1 ⟨rfl,rfl⟩)
      | (go_at_call 162;refine k.out.mono ?_;rintro e w2 ⟨rfl,a⟩;have i:=hid (show Below w.heap.size w w2 from by rcases a with rfl | ⟨t,rfl⟩;exact m.out;exact l.out t);clear a)
      | (go_at_call 163;refine (j.out _).mono ?_;rintro e w3 ⟨rfl,rfl⟩))
     go_ret2
     exact ⟨by rw [b.out];rfl,i.out⟩
   . have b:=hid (hn.trans (if_neg g))
     rw [c,decide_eq_false g] at j;clear hn c g;go_enter Tryz.func120,Tryz.ntmps120
     go_wp2_with (first
      | (go_at_call 161;refine d.out.mono ?_;rintro e w1 ⟨rfl,rfl⟩)
      | (go_at_call 162;refine k.out.mono ?_;rintro e w2 ⟨rfl,a⟩;have i:=hid (show Below w.heap.size w w2 from by rcases a with rfl | ⟨t,rfl⟩;exact m.out;exact l.out t);clear a)
      | (go_at_call 163;refine (j.out _).mono ?_;rintro e w3 ⟨rfl,rfl⟩))
     go_ret2
     exact ⟨by rw [b.out];rfl,i.out⟩
 . obtain ⟨p,n,o⟩:=hT.r
   have k:=hid (Tryz.strconv_ParseInt_10_at64_range s (by omega) hv p w n o);have b:=hid hn;clear hT hv hn n o;go_enter Tryz.func120,Tryz.ntmps120
   go_wp2_with (first
    | (go_at_call 161;refine d.out.mono ?_;rintro e w1 ⟨rfl,rfl⟩)
    | (go_at_call 162;refine k.out.mono ?_;rintro e w2 ⟨N,rfl,_,_,a⟩;have i:=hid a;clear a))
   go_ret2
   exact ⟨by rw [b.out];rfl,i.out⟩
theorem ul (l:List UInt8) (c:UInt8):eY (l ++ [c])=10 * eY l+(c.toNat - 48):=by unfold eY;rw [List.foldl_append];rfl
theorem zy (t:ByteArray) (k:Nat) (h:k < t.size):eY (t.data.toList.take (k+1))=10 * eY (t.data.toList.take k)+(t[k].toNat - 48):=by
 rw [List.take_succ_eq_append_getElem (by rw [aj];exact h),ul];rfl
theorem DT {s:ByteArray} (h:0 < s.size) (h1:s[0].toNat=45):(jS (s.extract 1 s.size).data.toList=false ∨ ((s.extract 1 s.size).toList == [48])=true->gp s.data.toList=(0,2)) /\
  (jS (s.extract 1 s.size).data.toList=true->((s.extract 1 s.size).toList == [48])=false->gp s.data.toList=if 16 < (s.extract 1 s.size).size then (0,5) else if -9007199254740992<= -(eY (s.extract 1 s.size).data.toList:Int)/\ -(eY (s.extract 1 s.size).data.toList:Int)<=9007199254740992 then (-(eY (s.extract 1 s.size).data.toList:Int),0) else (0,5)):=by
 have b:=Ej h h1;have c:qG s.data.toList=(s.extract 1 s.size).data.toList:=by unfold qG;rw [getD_at s h,if_pos h1,aY,List.drop_one]
 have f:AO s.data.toList = -(eY (s.extract 1 s.size).data.toList:Int):=by unfold AO;rw [getD_at s h,if_pos h1,c]
 rw [ByteArray.toList_eq];constructor
 . intro a
   have:mY s.data.toList=false:=by rw [b];rcases a with a | a <;> rw [a] <;> simp
   unfold gp;rw [if_pos this]
 . intro a d
   have:mY s.data.toList=true:=by rw [b,a,d];rfl
   unfold gp;rw [this,if_neg (by simp),c,f,aj]
theorem DL {s:ByteArray} (h:¬ (∃ h:0 < s.size,s[0].toNat=45)):(jS s.data.toList=false ∨ False->gp s.data.toList=(0,2)) /\
  (jS s.data.toList=true->gp s.data.toList=if 16 < s.size then (0,5) else if -9007199254740992<=(eY s.data.toList:Int)/\(eY s.data.toList:Int)<=9007199254740992 then ((eY s.data.toList:Int),0) else (0,5)):=by
 have b:=Ei h
 have f:¬ (s.data.toList.getD 0 0).toNat=45:=by
  by_cases d:0 < s.size
  . rw [getD_at s d];exact fun e=>h ⟨d,e⟩
  . rw [show s.data.toList=[] from List.eq_nil_of_length_eq_zero (by rw [aj];omega)];decide
 have c:qG s.data.toList=s.data.toList:=by unfold qG;rw [if_neg f]
 have g:AO s.data.toList=(eY s.data.toList:Int):=by unfold AO;rw [if_neg f,c]
 constructor
 . intro a
   have:mY s.data.toList=false:=by rw [b];rcases a with a | a;exact a;exact a.elim
   unfold gp;rw [if_pos this]
 . intro a
   have:mY s.data.toList=true:=by rw [b,a]
   unfold gp;rw [this,if_neg (by simp),c,g,aj]
set_option maxHeartbeats 8000000 in
set_option maxRecDepth 100000 in
theorem ES (s:ByteArray) (w:World) (hs:s.size<=2000000):Calls Tryz.prog 109 #[.string s] w fun e w'=>e=Pz (gp s.data.toList)/\w=w':=by
 by_cases C:∃ h:0 < s.size,s[0].toNat=45
 . obtain ⟨P,D⟩:=C
   have b:=hid (DT P D).1;have a:=hid (DT P D).2;have O:((s[0].toNat:Int) == 45)=true:=by simp;omega
   have F:(0:Int) < (s.size:Int):=by omega
   have Z:(1:Int)<=(s.size:Int):=by omega
   have G:=ext_size s 1 (by omega);have p:=hid (zN (s.extract 1 s.size) w (by omega));clear D;generalize ht:s.extract 1 s.size=t at *;have Y:t.size<=2000000:=by omega
   have X:s.size - 1=t.size:=G.symm;clear G;cases g:jS t.data.toList
   . have f:=hid (b.out (Or.inl g))
     rw [g] at p;clear g b a;go_enter Tryz.func109,Tryz.ntmps109;go_wp2_with (go_at_call 151;refine p.out.mono ?_;rintro e w1 ⟨rfl,rfl⟩)
     go_ret2
     exact ⟨by rw [f.out];rfl,rfl⟩
   rw [g] at p;cases H:(t.toList == [48])
   case true =>
    have f:=hid (b.out (Or.inr H));clear g b a;go_enter Tryz.func109,Tryz.ntmps109;go_wp2_with (go_at_call 151;refine p.out.mono ?_;rintro e w1 ⟨rfl,rfl⟩)
    go_ret2
    exact ⟨by rw [f.out];rfl,rfl⟩
   have d:=a.out g H;have l:=(jg g).1
   have m:=hid (show ∀ j (E:j < t.size),48<=t[j].toNat/\t[j].toNat<=57 from fun j E=>by
    have:=List.all_eq_true.1 l t[j] (by rw [<-eU t j E];exact List.getElem_mem _);exact (jV _).1 this)
   have q:=hid (fun k=>BO (t.data.toList.take k) 0 (by
    rw [List.all_eq_true];intro c L;exact List.all_eq_true.1 l c (List.mem_of_mem_take L)))
   clear g l b a
   by_cases u:16 < t.size
   . have f:=hid (d.trans (if_pos u))
     have A:(16:Int) < (t.size:Int):=by omega
     clear d u m q;go_enter Tryz.func109,Tryz.ntmps109;go_wp2_with (go_at_call 151;refine p.out.mono ?_;rintro e w1 ⟨rfl,rfl⟩)
     go_ret2
     exact ⟨by rw [f.out];rfl,rfl⟩
   have B:=hid (d.trans (if_neg u));have A:¬ (16:Int) < (t.size:Int):=by omega
   clear d;go_enter Tryz.func109,Tryz.ntmps109;go_wp2_with (go_at_call 151;refine p.out.mono ?_;rintro e w1 ⟨rfl,rfl⟩)
   go_loop [6,7] (fun n i=>∃ k:Nat,k<=t.size/\i=.int .i64 k/\n=.int .i64 (eY (t.data.toList.take k):Nat)) (fun _ i=>t.size - (RowKit.intOf i).toNat)
   case atStart=>exact ⟨0,by omega,rfl,rfl⟩
   case round =>
    obtain ⟨k,I,rfl,rfl⟩:=hrel
    have S:eY (t.data.toList.take k) < 10000000000000000:=by
     have K:=q.out k;rw [take_len t I] at K;have U:10 ^ k<=10 ^ 16:=Nat.pow_le_pow_right (by decide) (by omega);unfold eY;omega
    by_cases y:k < t.size
    . obtain ⟨T,Q⟩:=m.out k y
      have J:=hid (zy t k y);have N:(48:Int)<=(t[k].toNat:Int):=by omega
      have M:(t[k].toNat:Int)<=57:=by omega
      generalize eY (t.data.toList.take k)=V at *;clear B q m;go_wp2
      go_round
      case rel=>exact ⟨k+1,by omega,by go_num,by rw [J.out];go_num⟩
      case measure=>(simp [RowKit.intOf] <;> omega)
    . have z:t.data.toList.take k=t.data.toList:=tq t (by omega)
      have d:=B.out;rw [show eY t.data.toList=eY (t.data.toList.take k) by rw [z]] at d;generalize eY (t.data.toList.take k)=V at *;have v:=hid (fun W=>zQ (-(V:Int)) W);have o:qK (-(V:Int))=decide (-9007199254740992<=(-(V:Int))/\(-(V:Int))<=9007199254740992):=by unfold qK;rw [Bool.eq_iff_iff];simp
      clear z B q m
      by_cases r:-9007199254740992<=(-(V:Int))/\(-(V:Int))<=9007199254740992
      . have f:=hid (d.trans (if_pos r))
        rw [o,decide_eq_true r] at v;clear d o r;go_wp2_with (go_at_call 152;refine (v.out _).mono ?_;rintro e w3 ⟨rfl,rfl⟩)
        go_ret2
        exact ⟨by rw [f.out];rfl,rfl⟩
      . have f:=hid (d.trans (if_neg r))
        rw [o,decide_eq_false r] at v;clear d o r;go_wp2_with (go_at_call 152;refine (v.out _).mono ?_;rintro e w3 ⟨rfl,rfl⟩)
        go_ret2
        exact ⟨by rw [f.out];rfl,rfl⟩
 . have b:=hid (DL C).1
   have a:=hid (DL C).2;have p:=hid (zN s w (by omega))
   by_cases R:0 < s.size
   . have O:((s[0].toNat:Int) == 45)=false:=by
      have:s[0].toNat≠45:=fun e=>C ⟨R,e⟩;simp;omega
     have F:(0:Int) < (s.size:Int):=by omega
     clear C;cases g:jS s.data.toList
     . have f:=hid (b.out (Or.inl g))
       rw [g] at p;clear g b a;go_enter Tryz.func109,Tryz.ntmps109;go_wp2_with (go_at_call 151;refine p.out.mono ?_;rintro e w1 ⟨rfl,rfl⟩)
       go_ret2
       exact ⟨by rw [f.out];rfl,rfl⟩
     rw [g] at p;have d:=a.out g;have l:=(jg g).1
     have m:=hid (show ∀ j (E:j < s.size),48<=s[j].toNat/\s[j].toNat<=57 from fun j E=>by
      have:=List.all_eq_true.1 l s[j] (by rw [<-eU s j E];exact List.getElem_mem _);exact (jV _).1 this)
     have q:=hid (fun k=>BO (s.data.toList.take k) 0 (by
      rw [List.all_eq_true];intro c L;exact List.all_eq_true.1 l c (List.mem_of_mem_take L)))
     clear g l b a
     by_cases u:16 < s.size
     . have f:=hid (d.trans (if_pos u))
       have A:(16:Int) < (s.size:Int):=by omega
       clear d u m q;go_enter Tryz.func109,Tryz.ntmps109;go_wp2_with (go_at_call 151;refine p.out.mono ?_;rintro e w1 ⟨rfl,rfl⟩)
       go_ret2
       exact ⟨by rw [f.out];rfl,rfl⟩
     have B:=hid (d.trans (if_neg u));have A:¬ (16:Int) < (s.size:Int):=by omega
     clear d;go_enter Tryz.func109,Tryz.ntmps109;go_wp2_with (go_at_call 151;refine p.out.mono ?_;rintro e w1 ⟨rfl,rfl⟩)
     go_loop [6,7] (fun n i=>∃ k:Nat,k<=s.size/\i=.int .i64 k/\n=.int .i64 (eY (s.data.toList.take k):Nat)) (fun _ i=>s.size - (RowKit.intOf i).toNat)
     case atStart=>exact ⟨0,by omega,rfl,rfl⟩
     case round =>
      obtain ⟨k,I,rfl,rfl⟩:=hrel
      have S:eY (s.data.toList.take k) < 10000000000000000:=by
       have K:=q.out k;rw [take_len s I] at K;have U:10 ^ k<=10 ^ 16:=Nat.pow_le_pow_right (by decide) (by omega);unfold eY;omega
      by_cases y:k < s.size
      . obtain ⟨T,Q⟩:=m.out k y
        have J:=hid (zy s k y);have N:(48:Int)<=(s[k].toNat:Int):=by omega
        have M:(s[k].toNat:Int)<=57:=by omega
        generalize eY (s.data.toList.take k)=V at *;clear B q m;go_wp2
        go_round
        case rel=>exact ⟨k+1,by omega,by go_num,by rw [J.out];go_num⟩
        case measure=>(simp [RowKit.intOf] <;> omega)
      . have z:s.data.toList.take k=s.data.toList:=tq s (by omega)
        have d:=B.out;rw [show eY s.data.toList=eY (s.data.toList.take k) by rw [z]] at d;generalize eY (s.data.toList.take k)=V at *;have v:=hid (fun W=>zQ (V:Int) W);have o:qK (V:Int)=decide (-9007199254740992<=(V:Int)/\(V:Int)<=9007199254740992):=by unfold qK;rw [Bool.eq_iff_iff];simp
        clear z B q m
        by_cases r:-9007199254740992<=(V:Int)/\(V:Int)<=9007199254740992
        . have f:=hid (d.trans (if_pos r))
          rw [o,decide_eq_true r] at v;clear d o r;go_wp2_with (go_at_call 152;refine (v.out _).mono ?_;rintro e w3 ⟨rfl,rfl⟩)
          go_ret2
          exact ⟨by rw [f.out];rfl,rfl⟩
        . have f:=hid (d.trans (if_neg r))
          rw [o,decide_eq_false r] at v;clear d o r;go_wp2_with (go_at_call 152;refine (v.out _).mono ?_;rintro e w3 ⟨rfl,rfl⟩)
          go_ret2
          exact ⟨by rw [f.out];rfl,rfl⟩
   . have F:¬ (0:Int) < (s.size:Int):=by omega
     clear C;have f:=hid (b.out (Or.inl (by rw [show s.data.toList=[] from List.eq_nil_of_length_eq_zero (by rw [aj];omega)];rfl)));rw [show jS s.data.toList=false by rw [show s.data.toList=[] from List.eq_nil_of_length_eq_zero (by rw [aj];omega)];rfl] at p;clear b a;go_enter Tryz.func109,Tryz.ntmps109;go_wp2_with (go_at_call 151;refine p.out.mono ?_;rintro e w1 ⟨rfl,rfl⟩)
     go_ret2
     exact ⟨by rw [f.out];rfl,rfl⟩
set_option maxHeartbeats 4000000 in
set_option maxRecDepth 100000 in
theorem JS (w:World):Calls Tryz.prog 174 #[.string ⟨#[46,91]⟩,.int .i32 65533] w fun e w'=>e=.returned (.int .i64 (-1))/\Below w.heap.size w w':=by
 have f:=hid (fun i=>show Below w.heap.size w (w.iter ⟨#[46,91]⟩ i) from (Below.refl _ _).alloc (Nat.le_refl _) _);go_enter Tryz.func174,Tryz.ntmps174;go_wp2
 go_loopg [5,6] 2 (fun g _ _ c=>∃ i:Nat,i+g=2/\c=w.iter ⟨#[46,91]⟩ i)
 case atStart=>exact ⟨0,by omega,rfl⟩
 case round =>
  obtain ⟨i,j,rfl⟩:=hrel;have d:i=0 ∨ i=1 ∨ i=2:=by omega
  rcases d with rfl | rfl | rfl
  . have b:=fun a=>run_next_ascii (P:=Tryz.prog) w ⟨#[46,91]⟩ 0 a (by decide) (by decide)
    go_wp2
    go_roundg 1
    case measure=>omega
    case rel=>exact ⟨1,by omega,rfl⟩
  . have b:=fun a=>run_next_ascii (P:=Tryz.prog) w ⟨#[46,91]⟩ 1 a (by decide) (by decide)
    go_wp2
    go_roundg 0
    case measure=>omega
    case rel=>exact ⟨2,by omega,rfl⟩
  . have b:=fun a=>run_next_end (P:=Tryz.prog) w ⟨#[46,91]⟩ 2 a (by decide)
    go_wp2
    go_ret
    exact ⟨rfl,f.out _⟩
set_option maxHeartbeats 4000000 in
set_option maxRecDepth 100000 in
theorem LM (r:Nat) (h0:128<=r) (hv:Lib.validRune (r:Int)=true) (hb:r≠65533) (w:World):Calls Tryz.prog 174 #[.string ⟨#[46,91]⟩,.int .i32 r] w fun e w'=>e=.returned (.int .i64 (-1))/\Below w.heap.size w w':=by
 have A:¬ (r:Int) < 128:=by omega
 have O:((r:Int) == 65533)=false:=by rw [beq_eq_false_iff_ne];omega
 have t:=hid (fun W=>Tryz.utf8_ValidRune (r:Int) W);rw [hv] at t;have B:=LP hv;obtain ⟨o,l,k⟩:=encode_facts (r:Int) (by rw [validRune_eq];exact hv) (by omega);have D:=hid (fun (c:Nat) (W:World)=>Tryz.strings_IndexByte ⟨#[]⟩ (c:Int) W);have s:=hid (Below.refl w.heap.size w);have u:=hid o;have z:=hid l;have C:=hid k;clear o l k hv B hb;generalize N:Utf8.encode (r:Int)=E at *;go_enter Tryz.func174,Tryz.ntmps174;go_wp2_with (go_at_call 213;refine (t.out _).mono ?_;rintro e w1 ⟨rfl,rfl⟩)
 have M:(1:Int)<=(E.size:Int):=by have:=u.out;omega
 have H:(E.size:Int)<=4:=by have:=z.out;omega
 go_step3
 go_wp2
 go_loopg [9,10] 1 (fun g i f y=>i=.int .i64 ((E.size:Int) - 1)/\Hid (y=w1))
 case atStart=>exact ⟨rfl,hid rfl⟩
 case round =>
  obtain ⟨rfl,b⟩:=hrel
  by_cases P:(E.size:Int) - 1 < 2
  . have m:E.size=2:=by have:=u.out;omega
    have A:1 < E.size:=by omega
    have F:128<=E[1].toNat:=by
     have h:=C.out (by omega);simp only [m] at h;exact h
    have p:(E.size:Int) - 1=1:=by omega
    have I:(1:Int) < (E.size:Int):=by omega
    have d:(((⟨#[46,91]⟩:ByteArray)[1]'(by decide)).toNat:Int)=91:=rfl;have G:((((⟨#[46,91]⟩:ByteArray)[1]'(by decide)).toNat:Int) != (E[1].toNat:Int))=true:=by rw [d];simp;omega
    clear d;have K:(⟨#[46,91]⟩:ByteArray).extract 2 2=⟨#[]⟩:=by decide
    have v:=hid (fun (W:World)=>Tryz.strings_IndexByte ByteArray.empty (E[1].toNat:Int) W);have a:∀ c,Lib.indexByte ByteArray.empty.data.toList c = -1:=fun _=>rfl;simp only [a] at v;clear a;clear m;rw [p];go_wp2
    have J:(2:Int)<=2:=by omega
    go_step3
    go_wp2
    go_quiet (fail)
    go_wp2
    have j:=hid (show Below w1.heap.size w1 (wr.drewN nq) from by rw [b.out];exact bu s.out nq);generalize wr.drewN nq=L at *;go_quiet (exact Calls.quiet_of_same (v.out _))
    go_wp2
    rw [Exit.noGoto_ret];go_wp2
    rw [Exit.noGoto_ret];go_ret
    have q:=j.out;clear j;obtain ⟨n,rfl⟩:∃ n,n=nq:=⟨_,rfl⟩;exact ⟨rfl,bu q _⟩
  . go_wp2
    first | rw [Exit.noGoto_ret] | skip
    go_ret
    exact ⟨rfl,by rw [b.out];exact s.out⟩
theorem Kw {l:List UInt8} (hne:l≠[]) (h:128<=(l.getD 0 0).toNat) :
  128<=(decodeL l).1/\Lib.validRune ((decodeL l).1:Nat)=true/\1<=(decodeL l).2/\(decodeL l).2<=l.length/\∀ j,j < (decodeL l).2->128<=(l.getD j 0).toNat:=by
 have q:0 < l.length:=List.length_pos_iff.2 hne;have o:=Lib.decodeL_le l hne;have f:=Lib.decodeN_shape l.length (l.getD 0 0).toNat (l.getD 1 0).toNat (l.getD 2 0).toNat (l.getD 3 0).toNat
 have p:(l.getD 0 0).toNat < 256:=(l.getD 0 0).toNat_lt;have v:(l.getD 1 0).toNat < 256:=(l.getD 1 0).toNat_lt;have y:(l.getD 2 0).toNat < 256:=(l.getD 2 0).toNat_lt;have z:(l.getD 3 0).toNat < 256:=(l.getD 3 0).toNat_lt;have b:∀ j,j=0->(l.getD j 0).toNat=(l.getD 0 0).toNat:=fun j h=>by rw [h]
 have g:∀ j,j=1->(l.getD j 0).toNat=(l.getD 1 0).toNat:=fun j h=>by rw [h]
 have k:∀ j,j=2->(l.getD j 0).toNat=(l.getD 2 0).toNat:=fun j h=>by rw [h]
 have m:∀ j,j=3->(l.getD j 0).toNat=(l.getD 3 0).toNat:=fun j h=>by rw [h]
 rw [<-Lib.decodeL_N] at f;generalize (l.getD 0 0).toNat=u at *;generalize (l.getD 1 0).toNat=s at *;generalize (l.getD 2 0).toNat=A at *;generalize (l.getD 3 0).toNat=t at *;generalize decodeL l=d at *;obtain ⟨r,n⟩:=d;simp only [Prod.mk.injEq] at *;have c:(r < 55296 ∨ (57343 < r/\r<=1114111))->Lib.validRune ((r:Nat):Int)=true:=fun h=>by unfold Lib.validRune;exact decide_eq_true (by omega)
 rcases f with ⟨a,f1,f2⟩ | ⟨a,a1,a2,a3,f1,f2⟩ | ⟨a,a1,a2,a3,a4,a5,f1,f2⟩ | ⟨a,a1,a2,a3,a4,a5,a6,f1,f2⟩ | ⟨f1,f2⟩
 . omega
 . refine ⟨by omega,c (by omega),by omega,by omega,fun j i=>?_⟩
   have:j=0 ∨ j=1:=by omega
   rcases this with rfl | rfl
   . rw [b _ rfl];exact h
   . rw [g _ rfl];omega
 . refine ⟨by omega,c (by omega),by omega,by omega,fun j i=>?_⟩
   have:j=0 ∨ j=1 ∨ j=2:=by omega
   rcases this with rfl | rfl | rfl
   . rw [b _ rfl];exact h
   . rw [g _ rfl];omega
   . rw [k _ rfl];omega
 . refine ⟨by omega,c (by omega),by omega,by omega,fun j i=>?_⟩
   have:j=0 ∨ j=1 ∨ j=2 ∨ j=3:=by omega
   rcases this with rfl | rfl | rfl | rfl
   . rw [b _ rfl];exact h
   . rw [g _ rfl];omega
   . rw [k _ rfl];omega
   . rw [m _ rfl];omega
 . refine ⟨by omega,c (by omega),by omega,by omega,fun j i=>?_⟩
   have:j=0:=by omega
   rw [b _ this];exact h
theorem SB (s:ByteArray) (i:Nat) (h:i < s.size):Utf8.decode s i=decodeL (s.data.toList.drop i):=by
 have a:=Mc (s.extract i s.size) (by rw [ext_size s i (by omega)];omega);rw [aY] at a;rw [<-a];unfold Lib.decodeGo;rw [if_neg (by rw [ext_size s i (by omega)];omega),Lib.tail_decode,Nat.add_zero]
theorem OD {l:List UInt8} {c:UInt8} {r:List UInt8} (hl:l=c :: r) (h:c.toNat < 128):decodeL l=(c.toNat,1):=by
 have d:=Lib.decodeN_shape l.length (l.getD 0 0).toNat (l.getD 1 0).toNat (l.getD 2 0).toNat (l.getD 3 0).toNat
 have a:decodeL l=decodeN l.length (l.getD 0 0).toNat (l.getD 1 0).toNat (l.getD 2 0).toNat (l.getD 3 0).toNat:=Lib.decodeL_N l;have b:(l.getD 0 0).toNat=c.toNat:=by rw [hl];rfl
 rw [a];unfold decodeN;rw [b,if_pos h]
theorem FP {s:ByteArray} {i n:Nat} (h:NoAny s.data.toList [46,91] i) (hn:∀ j,j < n->128<=((s.data.toList.drop i).getD j 0).toNat):NoAny s.data.toList [46,91] (i+n):=by
 intro j b l c
 by_cases k:j < i
 . exact h j b k c
 . have d:=hn (j - i) (by omega)
   rw [List.getD_eq_getElem?_getD,List.getElem?_drop,show i+(j - i)=j by omega,c] at d;have a:128<=b.toNat:=d;have f:b≠46:=fun e=>by rw [e] at a;exact absurd a (by decide)
   have g:b≠91:=fun e=>by rw [e] at a;exact absurd a (by decide)
   simp [f,g]
theorem OZ:∀ w,(zeroValue 200).run Tryz.prog w=.ok (.agg (Array.replicate 256 (.bool false))) w:=
 (zero_of_info (P:=Tryz.prog) (t:=200) (v:=.agg (Array.replicate 256 (.bool false))) (n:=256) (by kernel_rfl)).1
def Qj (l:List UInt8):Int:=Lib.indexAny l [46,91]
set_option maxHeartbeats 8000000 in
set_option maxRecDepth 100000 in
theorem Gi (s:ByteArray) (w:World) (hs:s.size<=2000000):Calls Tryz.prog 132 #[.string s,.string ⟨#[46,91]⟩] w fun e w'=>e=.returned (.int .i64 (Qj s.data.toList))/\Below w.heap.size w w':=by
 by_cases Z:8 < s.size
 . refine (Tryz.strings_IndexAny_long OZ s ⟨#[46,91]⟩ w (by decide) Z (by omega) (by decide) (fun j b k=>by
    have O:b∈([46,91]:List UInt8):=List.mem_of_getElem? k;simp at O;rcases O with rfl | rfl <;> decide)).mono ?_
   rintro e w' ⟨rfl,rfl⟩;exact ⟨rfl,((Below.refl _ _).alloc (Nat.le_refl _) _).alloc (by simp) _⟩
 have T:=hid (show Below w.heap.size w (w.iter s 0) from (Below.refl _ _).alloc (Nat.le_refl _) _);have S:=hid (show (w.iter s 0).heap[w.heap.size]?=some (.stringIter s 0) from World.iter_heap w s 0);have L:decide ((8:Int) < (s.size:Int))=false:=decide_eq_false (by omega);have M:=hid (fun (i:Nat) (u:i < s.size) (h:128<=s[i].toNat)=>Kw (l:=s.data.toList.drop i) (by rw [drop_cons s i u];simp) (by rw [lJ s i u];exact h));have C:=hid (fun (h:NoAny s.data.toList [46,91] s.size)=>show Qj s.data.toList = -1 from Lib.indexAny_none (by rw [aj];exact h));have J:=hid (fun (i:Nat) (u:i < s.size) (h:NoAny s.data.toList [46,91] i) (hc:[46,91].contains s[i]=true)=>show Qj s.data.toList=i from Lib.indexAny_hit h (by rw [List.getElem?_eq_getElem (by rw [aj];exact u)];rfl) hc);go_enter Tryz.func132,Tryz.ntmps132;go_wp2_with (go_at_call 175;refine (Tryz.strings_shouldUseASCIISet _ _).mono ?_;rintro e w' ⟨rfl,X⟩;rw [X,L])
 generalize w.iter s 0=W0 at *;go_loopg [9,10] s.size (fun g _ _ N=>∃ i:Nat,i<=s.size/\s.size - i<=g/\Hid (N.heap[w.heap.size]?=some (.stringIter s i))/\Hid (Below w.heap.size w N)/\Hid (NoAny s.data.toList [46,91] i))
 case atStart=>exact ⟨0,by omega,by omega,S,T,hid (NoAny.zero _ _)⟩
 case round =>
  obtain ⟨i,u,hg,B,H,A⟩:=hrel
  by_cases c:i < s.size
  case neg =>
   have D:i=s.size:=by omega
   have m:=fun G=>run_next_end_at (P:=Tryz.prog) wr w.heap.size s i G B.out c;have K:=hid (C.out (by rw [<-D];exact A.out));clear D;go_wp2
   go_ret
   exact ⟨ax K.out,H.out⟩
  have m:=fun G=>run_next_any_at (P:=Tryz.prog) wr w.heap.size s i G B.out c;rw [SB s i c] at m
  by_cases y:s[i].toNat < 128
  . have v:=OD (drop_cons s i c) y
    rw [v] at m;simp only at m;have z:((s[i].toNat:Int)).toNat.toUInt8=s[i]:=by simp
    have a:=Lib.contains_iff_indexByte [46,91] s[i];have o:=hid (fun (W:World)=>Tryz.strings_IndexRune_ascii ⟨#[46,91]⟩ (s[i].toNat:Int) W (by omega) (by omega));rw [z] at o;have t:=hid (iterAt_heap wr w.heap.size s i (i+1) B.out);have p:=hid (below_iterAt H.out (Nat.le_refl _) s (i+1));cases f:[46,91].contains s[i]
    . have F:Lib.indexByte [46,91] s[i] < 0:=by
       rw [f] at a;have:=of_decide_eq_false a.symm;omega
      have q:=hid (A.out.succ (by rw [List.getElem?_eq_getElem (by rw [aj];exact c)];rfl) f);have Y:¬ (0:Int)<=Lib.indexByte [46,91] s[i]:=by omega
      clear a v f F;go_wp2_with (go_at_call 174;refine (o.out _).mono ?_;rintro e w' ⟨rfl,rfl⟩)
      go_roundg (s.size - (i+1))
      case measure=>omega
      case rel=>exact ⟨i+1,by omega,by omega,t,p,q⟩
    . have Y:(0:Int)<=Lib.indexByte [46,91] s[i]:=by
       rw [f] at a;exact of_decide_eq_true a.symm
      have K:=hid (J.out i c A.out f);clear a v f;go_wp2_with (go_at_call 174;refine (o.out _).mono ?_;rintro e w' ⟨rfl,rfl⟩)
      go_ret
      exact ⟨ax K.out,p.out⟩
  . obtain ⟨I,E,d3,Q,R⟩:=M.out i c (by omega)
    rw [List.length_drop,aj] at Q;have q:=hid (FP A.out R);generalize decodeL (s.data.toList.drop i)=d at *;obtain ⟨r,n⟩:=d;simp only at m I E d3 Q q;have t:=hid (iterAt_heap wr w.heap.size s i (i+n) B.out);have p:=hid (below_iterAt H.out (Nat.le_refl _) s (i+n))
    have o:=hid (fun (W:World)=>show Calls Tryz.prog 174 #[.string ⟨#[46,91]⟩,.int .i32 r] W fun e w'=>e=.returned (.int .i64 (-1))/\Below W.heap.size W w' from by
     by_cases k:r=65533
     . subst k;exact JS W
     . exact LM r I E k W)
    clear I E R y;go_wp2_with (go_at_call 174;refine (o.out _).mono ?_;rintro e w' ⟨rfl,k⟩;have U:=hid ((k.block _ (lt_of_block t.out)).trans t.out);have V:=hid (p.out.trans (k.mono p.out.size));clear k)
    go_roundg (s.size - (i+n))
    case measure=>omega
    case rel=>exact ⟨i+n,by omega,by omega,U,V,q⟩
def bV (l:List UInt8):Nat:=(l.takeWhile fun c=>!([46,91].contains c)).length
theorem IL (l:List UInt8):bV l<=l.length:=(List.takeWhile_sublist _).length_le
theorem qZ:∀ (l:List UInt8),NoAny l [46,91] (bV l)/\∀ c,l[bV l]?=some c->[46,91].contains c=true
 | []=>⟨NoAny.zero _ _,fun c h=>by simp at h⟩
 | x :: l=>by
   obtain ⟨h1,h2⟩:=qZ l;unfold bV;rw [List.takeWhile_cons];cases hx:[46,91].contains x
   . simp only [Bool.not_false,if_true,List.length_cons]
     refine ⟨fun j b hj hb=>?_,fun c hc=>h2 c (by unfold bV;simpa using hc)⟩;cases j with
     | zero=>simp at hb;subst hb;exact hx
     | succ j=>exact h1 j b (by unfold bV;omega) (by simpa using hb)
   . simp only [Bool.not_true,Bool.false_eq_true,if_false,List.length_nil]
     exact ⟨NoAny.zero _ _,fun c hc=>by simp at hc;subst hc;exact hx⟩
theorem O3 (l:List UInt8):Qj l=if bV l < l.length then (bV l:Int) else -1:=by
 obtain ⟨a,b⟩:=qZ l
 by_cases h:bV l < l.length
 . rw [if_pos h]
   exact Lib.indexAny_hit a (List.getElem?_eq_getElem h) (b _ (List.getElem?_eq_getElem h))
 . rw [if_neg h]
   have:=IL l;exact Lib.indexAny_none (by rw [show l.length=bV l by omega];exact a)
def yT (s:ByteArray):ByteArray:=s.extract 0 (bV s.data.toList)
def xH (s:ByteArray):ByteArray:=s.extract (bV s.data.toList) s.size
def lh (p:List UInt8) (s:ByteArray):ByteArray:=⟨(Lib.trimPrefix s.data.toList p).toArray⟩
def rf (p:List UInt8) (s:ByteArray):Bool:=Lib.hasPrefix s.data.toList p
def Rd (b:Nat) (w:World) (s:ByteArray) (bad:Bool):Prop:=w.heap[b]?=some (.cells #[.string s,.bool bad] 122 (0,0))
theorem Rd.cells {b:Nat} {w:World} {s:ByteArray} {bad:Bool} (h:Rd b w s bad):w.cell? ⟨b,0,none⟩=some (.string s)/\w.cell? ⟨b,1,none⟩=some (.bool bad)/\(∀ o,w.frozen? ⟨b,o,none⟩=false)/\b < w.heap.size:=by
 unfold Rd at h;refine ⟨by unfold World.cell?;simp [h],by unfold World.cell?;simp [h],fun o=>by unfold World.frozen?;simp [h],lt_of_block h⟩
theorem Rd.set0 {b:Nat} {w:World} {s:ByteArray} {bad:Bool} (h:Rd b w s bad) (t:ByteArray):Rd b (w.setCell ⟨b,0,none⟩ (.string t)) t bad:=by
 unfold Rd at *;unfold World.setCell;have a:=lt_of_block h;show (w.heap.modify b _)[b]?=_;rw [Array.getElem?_modify,if_pos rfl,h];rfl
theorem Rd.set1 {b:Nat} {w:World} {s:ByteArray} {bad:Bool} (h:Rd b w s bad) (t:Bool):Rd b (w.setCell ⟨b,1,none⟩ (.bool t)) s t:=by
 unfold Rd at *;unfold World.setCell;have a:=lt_of_block h;show (w.heap.modify b _)[b]?=_;rw [Array.getElem?_modify,if_pos rfl,h];rfl
theorem aF (w:World) (a:Addr) (u:Value):w.grownBy (w.setCell a u) (some a.block):=⟨rfl,rfl,rfl,by simp [World.setCell],fun k hk hne=>Below.heap_setCell _ _ _ _ (fun e=>hne (by rw [e]))⟩
theorem aG {a b c:World} {row:Option Nat} (h:a.grownBy b row) (h2:b.grownBy c row):a.grownBy c row:=
 ⟨h2.os.trans h.os,h2.tape.trans h.tape,h2.output.trans h.output,Nat.le_trans h.size h2.size,fun k hk hne=>(h2.block k (Nat.lt_of_lt_of_le hk h.size) hne).trans (h.block k hk hne)⟩
theorem grown_of {a b:World} (h:Below a.heap.size a b) (row:Option Nat):a.grownBy b row:=⟨h.os,h.tape,h.output,h.size,fun k hk _=>h.block k hk⟩
theorem Rd.kept {b:Nat} {w w':World} {s:ByteArray} {bad:Bool} (h:Rd b w s bad) (hb:Below w.heap.size w w'):Rd b w' s bad:=by
 unfold Rd at *;exact (hb.block _ (lt_of_block h)).trans h
set_option maxHeartbeats 4000000 in
theorem mJ (p s:ByteArray) (b:Nat) (bad:Bool) (w:World) (h:Rd b w s bad):Calls Tryz.prog 94 #[.pointer (some ⟨b,0,none⟩),.string p] w fun e w' =>
  e=.returned (.bool (rf p.data.toList s))/\Rd b w' (lh p.data.toList s) bad/\w.grownBy w' (some b):=by
 obtain ⟨i,g,a,k⟩:=h.cells;have f:=hid (fun (W:World)=>Tryz.strings_CutPrefix s p W);have c:=hid (h.set0 (lh p.data.toList s));have d:=hid (aF w ⟨b,0,none⟩ (.string (lh p.data.toList s)));have j:=a 0;go_enter Tryz.func94,Tryz.ntmps94;go_wp2_with (go_at_call 131;refine (f.out _).mono ?_;rintro e w1 ⟨rfl,rfl⟩)
 go_ret
 exact ⟨rfl,c.out,d.out⟩
set_option maxHeartbeats 4000000 in
theorem tN (p s:ByteArray) (b:Nat) (bad:Bool) (w:World) (h:Rd b w s bad):Calls Tryz.prog 96 #[.pointer (some ⟨b,0,none⟩),.string p] w fun e w' =>
  e=.returned (.tuple #[])/\Rd b w' (lh p.data.toList s) (bad || !rf p.data.toList s)/\w.grownBy w' (some b):=by
 obtain ⟨r,n,k,q⟩:=h.cells;have g:=hid (fun (W:World)=>Tryz.strings_CutPrefix s p W);have a:=h.set0 (lh p.data.toList s);obtain ⟨j,m,f,i⟩:=a.cells;have c:=hid (a.set1 (bad || !rf p.data.toList s));have d:=hid (aG (aF w ⟨b,0,none⟩ (.string (lh p.data.toList s))) (aF _ ⟨b,1,none⟩ (.bool (bad || !rf p.data.toList s))));have o:=k 0;have l:=f 1;unfold lh at j m f i l c d;unfold rf at c d;clear a h;cases bad
 . go_enter Tryz.func96,Tryz.ntmps96
   go_wp2_with (go_at_call 131;refine (g.out _).mono ?_;rintro e w1 ⟨rfl,rfl⟩)
   go_end0
   exact ⟨rfl,c.out,d.out⟩
 . go_enter Tryz.func96,Tryz.ntmps96
   go_wp2_with (go_at_call 131;refine (g.out _).mono ?_;rintro e w1 ⟨rfl,rfl⟩)
   go_end0
   exact ⟨rfl,c.out,d.out⟩
set_option maxHeartbeats 4000000 in
theorem Fq (s:ByteArray) (b:Nat) (bad:Bool) (w:World) (hs:s.size<=2000000) (h:Rd b w s bad):Calls Tryz.prog 97 #[.pointer (some ⟨b,0,none⟩)] w fun e w' =>
  e=.returned (.string (yT s))/\Rd b w' (xH s) (bad || !eH (yT s).data.toList)/\w.grownBy w' (some b):=by
 have g:=hid (fun (W:World)=>Gi s W hs)
 have i:=hid (fun (W:World)=>oH (yT s) W (by
  have:=Lib.extract_data s 0 (bV s.data.toList);rw [<-aj,show (yT s).data.toList=_ from this];rw [List.length_take,List.length_drop,aj];omega))
 have j:=hid (fun (W:World) (a:Below w.heap.size w W)=>h.kept a)
 have f:=hid (fun (W W':World) (u:Bool) (a:Below w.heap.size w W) (e:W'=(W.setCell ⟨b,0,none⟩ (.string (xH s))).setCell ⟨b,1,none⟩ (.bool u))=>show Rd b W' (xH s) u/\w.grownBy W' (some b) from by
  subst e;exact ⟨((h.kept a).set0 (xH s)).set1 u,aG (grown_of a (some b)) (aG (aF W ⟨b,0,none⟩ (.string (xH s))) (aF _ ⟨b,1,none⟩ (.bool u)))⟩)
 obtain ⟨F,E,B,C⟩:=h.cells;have n:=IL s.data.toList;rw [aj] at n;have d:=O3 s.data.toList;rw [aj] at d;have v:yT s=s.extract 0 (bV s.data.toList):=rfl;have y:xH s=s.extract (bV s.data.toList) s.size:=rfl;rw [v] at i ⊢;rw [y] at f ⊢;clear v y h;generalize bV s.data.toList=m at n d i f ⊢
 by_cases k:m < s.size
 . rw [if_pos k] at d
   rw [d] at g;have A:decide ((m:Int) < 0)=false:=by simp
   have D:(m:Int)<=s.size:=by omega
   clear d k;cases bad
   . go_enter Tryz.func97,Tryz.ntmps97
     go_wp2_with (go_at_call 132;refine (g.out _).mono ?_;rintro e w1 ⟨rfl,a⟩;obtain ⟨o,p,c,q⟩:=(j.out _ a).cells;have r:=c 0;have l:=c 1)
     refine (i.out _).mono ?_;rintro e w2 ⟨rfl,rfl⟩;go_wp2
     go_ret
     exact ⟨rfl,f.out _ _ _ a (by simp)⟩
   . go_enter Tryz.func97,Tryz.ntmps97
     go_wp2_with (go_at_call 132;refine (g.out _).mono ?_;rintro e w1 ⟨rfl,a⟩;obtain ⟨o,p,c,q⟩:=(j.out _ a).cells;have r:=c 0;have l:=c 1)
     go_ret
     exact ⟨rfl,f.out _ _ _ a (by simp)⟩
 . rw [if_neg k] at d
   rw [d] at g;obtain rfl:m=s.size:=by omega
   have z:s.extract 0 s.size=s:=by simp
   have t:s.extract s.size s.size=ByteArray.empty:=by simp
   rw [z] at i ⊢;rw [t] at f ⊢;have A:(0:Int)<=s.size:=by omega
   clear d k n z t hs;cases bad
   . go_enter Tryz.func97,Tryz.ntmps97
     go_wp2_with (go_at_call 132;refine (g.out _).mono ?_;rintro e w1 ⟨rfl,a⟩;obtain ⟨o,p,c,q⟩:=(j.out _ a).cells;have r:=c 0;have l:=c 1)
     refine (i.out _).mono ?_;rintro e w2 ⟨rfl,rfl⟩;go_wp2
     go_ret
     exact ⟨rfl,f.out _ _ _ a (by simp)⟩
   . go_enter Tryz.func97,Tryz.ntmps97
     go_wp2_with (go_at_call 132;refine (g.out _).mono ?_;rintro e w1 ⟨rfl,a⟩;obtain ⟨o,p,c,q⟩:=(j.out _ a).cells;have r:=c 0;have l:=c 1)
     go_ret
     exact ⟨rfl,f.out _ _ _ a (by simp)⟩
end Go.Proofs.YtomhbcfjhgecbaaGreatDoor.Adr
