import Derived.Test.YtomhbcfjhgecbaaGreatDoorN3
import Derived.Test.YtomhbcfjhgecbaaGreatDoorN1
import Derived.Lib.Bytes2
import Derived.Deep.DeepCutAuto
set_option linter.unusedVariables false
set_option linter.unusedSimpArgs false
namespace Go.Proofs.YtomhbcfjhgecbaaGreatDoor.Adr
open Go.RowKit Go.Sort Go.Lib Go.Maps
open Go.Lib (hid)
theorem QP {α:Type} {p:α->Bool} : ∀ {l:List α} {k:Nat},k<=l.length->(∀ j (hj:j < l.length),j < k->p l[j]=true)->(∀ h:k < l.length,p l[k]=false)->l.takeWhile p=l.take k/\l.dropWhile p=l.drop k
 | [],k,_,_,_=>by simp
 | x :: l,0,_,_,h=>by
   have h0:p x=false:=h (by simp);rw [List.takeWhile_cons,List.dropWhile_cons,h0];simp
 | x :: l,k+1,hk,h1,h2=>by
   have h0:p x=true:=h1 0 (by simp) (by omega);obtain ⟨e1,e2⟩:=QP (p:=p) (l:=l) (k:=k) (by simpa using hk) (fun j hj hjk=>h1 (j+1) (by simpa using hj) (by omega)) (fun h=>h2 (by simpa using h));rw [List.takeWhile_cons,List.dropWhile_cons,h0,if_pos rfl,if_pos rfl,e1,e2];simp
theorem UL {s:ByteArray} {k:Nat} (hk:k<=s.size) (h1:∀ j (hj:j < s.size),j < k->vP s[j].toNat=true) (h2:∀ h:k < s.size,vP s[k].toNat=false):s.extract 0 k=⟨(mg s.data.toList).toArray⟩/\s.extract k s.size=⟨(iV s.data.toList).toArray⟩:=by
 obtain ⟨d,b⟩:=QP (p:=fun c:UInt8=>vP c.toNat) (l:=s.data.toList) (k:=k) (by rw [aj];exact hk) (fun j hj a=>h1 j (by rw [<-aj];exact hj) a) (fun h=>h2 (by rw [<-aj];exact h));unfold mg iV;rw [d,b];have:=BK s 0 k;rw [Nat.zero_add,List.drop_zero] at this;exact ⟨this,nP s k⟩
theorem AP {a b c d:ByteArray} (h1:a=c) (h2:b=d):Ending.returned (.tuple #[.string a,.string b])=.returned (.tuple #[.string c,.string d]):=by rw [h1,h2]
def U2 (s:ByteArray):Ending:=.returned (.tuple #[.string ⟨(mg s.data.toList).toArray⟩,.string ⟨(iV s.data.toList).toArray⟩])
set_option maxHeartbeats 4000000 in
theorem ve (s:ByteArray) (w:World) (hs:s.size<=2000000):Calls Tryz.prog 195 #[.string s] w fun e w'=>e=U2 s/\Below w.heap.size w w':=by
 have l:=hid (fun k n p q=>UL (s:=s) (k:=k) n p q);go_enter Tryz.func195,Tryz.ntmps195;go_wp2
 go_loop [4] (fun i=>∃ k:Nat,k<=s.size/\i=.int .i64 k/\Hid (∀ j (m:j < s.size),j < k->vP s[j].toNat=true)) (fun i=>s.size - (RowKit.intOf i).toNat)
 case atStart=>exact ⟨0,by omega,rfl,hid (fun j m h=>absurd h (by omega))⟩
 case round =>
  obtain ⟨k,n,rfl,g⟩:=hrel;have r:(0:Int)<=(k:Int):=by omega
  have t:(k:Int)<=(s.size:Int):=by omega
  by_cases v:k < s.size
  . have d:=hid (fun (h:vP s[k].toNat=true)=>show ∀ j (m:j < s.size),j < k+1->vP s[j].toNat=true from fun j m u=>by
     by_cases e:j < k
     . exact g.out j m e
     . obtain rfl:j=k:=by omega
       exact h)
    have b:=hid (fun (h:vP s[k].toNat=false)=>l.out k n g.out (fun _=>h));have c:=hid (pq s[k] w);have z:=kU s[k];cases a:G8 s[k].toNat
    . rw [a] at c
      by_cases y:(s[k].toNat:Int) < 48
      . have f:=hid (b.out (by unfold vP jX;rw [a];simp;omega))
        clear a d b l g;go_wp2_with (go_at_call 171;refine c.out.mono ?_;rintro e w1 ⟨rfl,rfl⟩)
        go_quiet (fail)
        go_wp2
        go_ret2
        exact ⟨AP f.out.1 f.out.2,bu (Below.refl _ _) _⟩
      . by_cases A:(57:Int) < (s[k].toNat:Int)
        . have f:=hid (b.out (by unfold vP jX;rw [a];simp;omega))
          clear a d b l g;go_wp2_with (go_at_call 171;refine c.out.mono ?_;rintro e w1 ⟨rfl,rfl⟩)
          go_quiet (fail)
          go_wp2
          go_ret2
          exact ⟨AP f.out.1 f.out.2,bu (Below.refl _ _) _⟩
        . have o:=hid (d.out (by unfold vP jX;rw [a];simp;omega))
          clear a d b g;go_wp2_with (go_at_call 171;refine c.out.mono ?_;rintro e w1 ⟨rfl,rfl⟩)
          go_round
          case rel=>exact ⟨k+1,by omega,by go_num,o⟩
          case measure=>simp [RowKit.intOf];omega
    . have o:=hid (d.out (by unfold vP;rw [a];rfl))
      rw [a] at c;clear a d b g;go_wp2_with (go_at_call 171;refine c.out.mono ?_;rintro e w1 ⟨rfl,rfl⟩)
      go_round
      case rel=>exact ⟨k+1,by omega,by go_num,o⟩
      case measure=>simp [RowKit.intOf];omega
  . obtain rfl:k=s.size:=by omega
    have f:=hid (l.out s.size (Nat.le_refl _) g.out (fun h=>absurd h (Nat.lt_irrefl _)));rw [show s.extract 0 s.size=s by simp,show s.extract s.size s.size=ByteArray.empty by simp] at f;clear l g;go_wp2
    go_quiet (fail)
    go_wp2
    go_ret2
    exact ⟨AP f.out.1 f.out.2,bu (Below.refl _ _) _⟩
theorem pre_eq (s p:ByteArray) (h:p.size<=s.size):((s.extract 0 p.size).toList == p.toList)=Lib.hasPrefix s.data.toList p.data.toList:=by
 have a:=Lib.hasPrefix_raw s p;rw [decide_eq_true h,Bool.true_and] at a;exact a
theorem SK (s p:ByteArray) (h:¬ p.size<=s.size):Lib.hasPrefix s.data.toList p.data.toList=false:=by
 have a:=Lib.hasPrefix_raw s p;rw [decide_eq_false h,Bool.false_and] at a;exact a.symm
set_option maxHeartbeats 4000000 in
theorem vC (s p:ByteArray) (w:World) (hs:s.size<=2000000) (hp:p.size<=2000000):Calls Tryz.prog 193 #[.string s,.string p] w fun e w'=>e=.returned (.bool (Lib.hasPrefix s.data.toList p.data.toList))/\w=w':=by
 by_cases h:p.size<=s.size
 . have a:=hid (pre_eq s p h)
   have c:(0:Int)<=(p.size:Int):=by omega
   have b:(p.size:Int)<=(s.size:Int):=by omega
   go_enter Tryz.func193,Tryz.ntmps193;go_wp2
   go_ret
   exact ⟨ah a.out.symm,rfl⟩
 . have a:=hid (SK s p h)
   have b:¬ (p.size:Int)<=(s.size:Int):=by omega
   clear h;go_enter Tryz.func193,Tryz.ntmps193;go_wp2
   go_ret
   exact ⟨ah a.out,rfl⟩
set_option maxHeartbeats 4000000 in
theorem oN (s:ByteArray) (w:World) (hs:s.size<=4096) (hv:validD s.data.toList=true):Calls Tryz.prog 84 #[.string s] w fun e w'=>e=.returned (.bool true)/\Below w.heap.size w w':=by
 have A:¬ (4096:Int) < (s.size:Int):=by omega
 have l:=hid (fun k (i:k < s.size) (hv:validD (s.data.toList.drop k)=true)=>show bU (s.data.toList.drop k)≠0/\k+bU (s.data.toList.drop k)<=s.size/\validD (s.data.toList.drop (k+bU (s.data.toList.drop k)))=true from by
  have c:s.data.toList.drop k≠[]:=fun e=>by have:=congrArg List.length e;rw [List.length_drop,aj] at this;simp at this;omega
  have a:=hv;rw [lT _ c] at a
  by_cases g:bU (s.data.toList.drop k)=0
  . rw [if_pos g] at a;cases a
  . rw [if_neg g,List.drop_drop] at a
    have:=Hw c;rw [List.length_drop,aj] at this;exact ⟨g,by omega,a⟩)
 have r:=hid (fun k (W:World) (i:k < s.size)=>kD s k W i (by omega));go_enter Tryz.func84,Tryz.ntmps84;go_wp2
 go_loopg [3] s.size (fun t p wr=>∃ k:Nat,k<=s.size/\s.size - k<=t/\p=.int .i64 k/\Hid (validD (s.data.toList.drop k)=true)/\Hid (Below w.heap.size w wr))
 case atStart=>exact ⟨0,by omega,by omega,rfl,hid (by rw [List.drop_zero];exact hv),hid (Below.refl _ _)⟩
 case round =>
  clear hv;obtain ⟨k,i,z,rfl,u,j⟩:=hrel
  by_cases f:k < s.size
  . obtain ⟨y,q,n⟩:=l.out k f u.out
    have d:=hid (r.out k wr f);generalize bU (s.data.toList.drop k)=D at *;have v:=hid n;have o:(((D:Nat):Int) == 0)=false:=by simp;omega
    clear n y;unfold JE at d;go_wp2_with (go_at_call 127;refine d.out.mono ?_;rintro e w1 ⟨B,rfl,b⟩;have m:=hid (j.out.trans (b.mono j.out.size));clear b)
    go_roundg (s.size - (k+D))
    case measure=>have:D≠0:=(fun e=>by subst e;simp at o);omega
    case rel=>exact ⟨k+D,q,by omega,by go_num,v,m⟩
  . obtain rfl:k=s.size:=by omega
    go_wp2
    go_ret
    exact ⟨rfl,j.out⟩
end Go.Proofs.YtomhbcfjhgecbaaGreatDoor.Adr
namespace Go.Proofs.YtomhbcfjhgecbaaGreatDoor.Adr
open Go.RowKit Go.Sort Go.Lib Go.Maps
open Go.Lib (hid)
open Stp (wq mP di kW kW.refl au dm aC aW ay aS gQ ai dG bT bY aQ FH)
attribute [local go_sem] di
def yY (l:List UInt8):mP:=bT (.string ⟨l.toArray⟩)
def Jk (x:bW × List UInt8 × Bool):Ending:=.returned (.tuple #[kV x.1,.string ⟨x.2.1.toArray⟩,.bool x.2.2])
set_option maxHeartbeats 4000000 in
theorem QR (w:World):Calls Tryz.prog 224 #[kV (0,0,[])] w fun e w'=>e=.returned (.bool true)/\Below w.heap.size w w':=by
 unfold kV;go_enter Tryz.func224,Tryz.ntmps224;go_wp2
 go_ret
 exact ⟨rfl,(Below.refl _ _).alloc (Nat.le_refl _) _⟩
set_option maxHeartbeats 4000000 in
theorem UM (t:List UInt8) (w:World) (hs:t.length<=4096) (hv:validD t=true):Calls Tryz.prog 224 #[kV (2,0,t)] w fun e w'=>e=.returned (.bool true)/\Below w.heap.size w w':=by
 unfold kV;have b:=hid (fun W=>oN ⟨t.toArray⟩ W (by rw [<-aj];exact hs) hv);go_enter Tryz.func224,Tryz.ntmps224;go_wp2_with (go_at_call 84;refine (b.out _).mono ?_;rintro e w1 ⟨rfl,a⟩)
 go_ret
 exact ⟨rfl,((Below.refl _ _).alloc (Nat.le_refl _) _).trans (a.mono (by simp))⟩
theorem O6 {s:ByteArray} (h:∀ h:0 < s.size,s[0].toNat≠91):dX s.data.toList=((0,0,[]),s.data.toList,true):=by
 unfold dX;rw [if_pos]
 by_cases a:0 < s.size
 . have:=h a
   rw [show s.data.toList.getD 0 0=s[0] from getD_at s a];exact this
 . have:s.data.toList=[]:=List.length_eq_zero_iff.1 (by rw [aj];omega)
   rw [this];decide
set_option maxHeartbeats 4000000 in
theorem Qg (s:ByteArray) (w:World) (h:∀ h:0 < s.size,s[0].toNat≠91):Calls Tryz.prog 197 #[.string s] w fun e w'=>e=Jk (dX s.data.toList)/\Below w.heap.size w w':=by
 rw [O6 h]
 by_cases b:s.size=0
 . have c:=mD b
   have f:=hid (show (⟨s.data.toList.toArray⟩:ByteArray)=s from rfl);clear h;go_enter Tryz.func197,Tryz.ntmps197;go_wp2
   exact bodyPost_ret (v:=.tuple #[kV (0,0,[]),.string s,.bool true]) (by simp [results,Tryz.results197,go_sem,kV]) rfl ⟨rfl,(Below.refl _ _).alloc (Nat.le_refl _) _⟩
 . have c:=gG b
   have a:0 < s.size:=by omega
   have d:=h a;have g:(((s[0].toNat:Nat):Int) != 91)=true:=by simp;omega
   clear h d b;go_enter Tryz.func197,Tryz.ntmps197;go_wp2
   exact bodyPost_ret (v:=.tuple #[kV (0,0,[]),.string s,.bool true]) (by simp [results,Tryz.results197,go_sem,kV]) rfl ⟨rfl,(Below.refl _ _).alloc (Nat.le_refl _) _⟩
theorem Tc {s:ByteArray} (h:1 < s.size) (h91:s[0].toNat=91) (h34:s[1].toNat=34):dX s.data.toList =
  if (bz s.data.toList.tail).1≠0 ∨ (s.data.toList.getD ((bz s.data.toList.tail).2.2+1) 0).toNat≠93 ∨ quo (bz s.data.toList.tail).2.1≠s.data.toList.tail.take (bz s.data.toList.tail).2.2 then ((0,0,[]),[],false)
  else ((2,0,(bz s.data.toList.tail).2.1),s.data.toList.drop ((bz s.data.toList.tail).2.2+2),true):=by
 unfold dX;rw [if_neg (by rw [getD_at s (show 0 < s.size by omega)];simp [h91]),if_pos (by rw [getD_at s h];exact h34)]
theorem xK {s:ByteArray} {k:Nat} (h:¬ k < s.size):(s.data.toList.getD k 0).toNat≠93:=by
 rw [List.getD_eq_getElem?_getD,List.getElem?_eq_none (by rw [aj];omega)];decide
theorem pz {s:ByteArray} {n:Nat} : s.extract 1 (n+1)=⟨(s.data.toList.tail.take n).toArray⟩:=by
 have:=BK s 1 n;rw [Nat.add_comm 1 n,List.drop_one] at this;exact this
theorem Qn {a b:List UInt8} (h:a≠b):((⟨a.toArray⟩:ByteArray).toList != (⟨b.toArray⟩:ByteArray).toList)=true:=by
 rw [ByteArray.toList_eq,ByteArray.toList_eq];simpa using h
theorem yl {w W:World} {r:Nat} {k n:Int} {t:List UInt8} (h:W.heap[r]?=some (kO k n t)) (k' n':Int) (t':List UInt8):∃ W',W'=(((W.setCell ⟨r,0,none⟩ (.int .i64 k')).setCell ⟨r,1,none⟩ (.int .i64 n')).setCell ⟨r,2,none⟩ (.string ⟨t'.toArray⟩))/\W'.cell? ⟨r,0,none⟩=some (.int .i64 k')/\W'.cell? ⟨r,1,none⟩=some (.int .i64 n')/\W'.cell? ⟨r,2,none⟩=some (.string ⟨t'.toArray⟩):=by
 obtain ⟨a,b,c,_⟩:=aZ (GI h k' n' t');exact ⟨_,rfl,a,b,c⟩
set_option maxRecDepth 100000 in
set_option maxHeartbeats 8000000 in
theorem Qz (s:ByteArray) (w:World) (hs:s.size<=1200001) (hp:1 < s.size) (h91:s[0].toNat=91) (h34:s[1].toNat=34) (he:(bz s.data.toList.tail).1≠0):Calls Tryz.prog 197 #[.string s] w fun e w'=>e=Jk ((0,0,[]),[],false)/\Below w.heap.size w w':=by
 have e0:=gG (show s.size≠0 by omega);have e1:(((s[0].toNat:Nat):Int) != 91)=false:=by rw [h91];rfl
 have e2:(((s[1].toNat:Nat):Int) == 34)=true:=by rw [h34];rfl
 have Y:(1:Int) < (s.size:Int):=by omega
 have T:(1:Int)<=(s.size:Int):=by omega
 have H:(s.extract 1 s.size).size<=1200000:=by rw [ext_size s 1 (by omega)];omega
 have b:=hid (fun W=>pO (s.extract 1 s.size) W H);rw [show (s.extract 1 s.size).data.toList=s.data.toList.tail by rw [aY,List.drop_one]] at b;have I:=(lg s.data.toList.tail).2;rw [List.length_tail,aj] at I;unfold Ol at b;obtain ⟨C,f⟩:∃ C,(bz s.data.toList.tail).1=C:=⟨_,rfl⟩;obtain ⟨x,D⟩:∃ x,(bz s.data.toList.tail).2.1=x:=⟨_,rfl⟩;obtain ⟨n,g⟩:∃ n,(bz s.data.toList.tail).2.2=n:=⟨_,rfl⟩;rw [f,D,g] at b;rw [g] at I;have ee:(C != 0)=true:=by rw [<-f];simp [he]
 clear f D g H h91 h34 he;have z:=hid (bM w (kO 0 0 []));unfold kO at z;go_enter Tryz.func197,Tryz.ntmps197;go_wp2_with (go_at_call 222;refine (b.out _).mono ?_;rintro e w1 ⟨rfl,o⟩;have c:=hid o;clear o)
 have p:=hid (show Below w1.heap.size w1 (w1.alloc (.cells #[.int .i64 2,.int .i64 0,.string ⟨x.toArray⟩] 91)) from (Below.refl _ _).alloc (Nat.le_refl _) _);have u:=hid ((show Below w.heap.size w (w.alloc (.cells #[.int .i64 0,.int .i64 0,.string ⟨#[]⟩] 91)) from (Below.refl _ _).alloc (Nat.le_refl _) _).trans ((c.out.trans (p.out.mono c.out.size)).mono (by simp)));have q:=hid (((c.out.trans (p.out.mono c.out.size)).block w.heap.size (by simp)).trans z.out);have y:=hid (bM w1 (kO 2 0 x));unfold kO at y;generalize hM:w1.heap.size=M at *;generalize w1.alloc (.cells #[.int .i64 2,.int .i64 0,.string ⟨x.toArray⟩] 91)=N at *;obtain ⟨O,Q,L,d3,d4⟩:=aZ (W:=N) (r:=M) (k:=2) (n:=0) (t:=x) y.out;have g0:=fun d l=>cell_regrown O d l;have g1:=fun d l=>cell_regrown Q d l;have g2:=fun d l=>cell_regrown L d l;refine au (fun _=>none) (by kernel_rfl) (by kernel_rfl) ?_
 iterate 3 (refine wq ?_;intro K a;go_big_quiet_op;go_big_quiet_on)
 iterate 5 (refine aW (by kernel_rfl) ?_)
 (refine ay ?_;intro K a;go_simp;refine a _ ?_;clear a K)
 iterate 2 (refine wq ?_;intro K a;go_big_quiet_op;go_big_quiet_on)
 iterate 5 (refine aW (by kernel_rfl) ?_)
 (refine ay ?_;intro K a;go_simp;refine a _ ?_;clear a K)
 iterate 2 (refine wq ?_;intro K a;go_big_quiet_op;go_big_quiet_on)
 iterate 7 (refine aW (by kernel_rfl) ?_)
 (refine ay ?_;intro K a;go_simp;refine a _ ?_;clear a K)
 iterate 2 (refine wq ?_;intro K a;go_big_quiet_op;go_big_quiet_on)
 iterate 3 (refine aW (by kernel_rfl) ?_)
 (refine ay ?_;intro K a;go_simp;refine a _ ?_;clear a K)
 (refine wq ?_;intro K a;go_big_quiet_op;go_big_quiet_on)
 refine aS ?_;intro w6 B E;have i:=ai B;clear B E;have A:=hid ((i.block w.heap.size (lt_of_block q.out)).trans q.out);obtain ⟨f0,f1,Z,m,f4⟩:=aZ (W:=w6) (r:=w.heap.size) (k:=0) (n:=0) (t:=[]) A.out;have U:=m 0;have X:=m 1;have V:=m 2;have G:=hid (u.out.trans (i.mono u.out.size));clear m i;go_wp2
 obtain ⟨S,j,R,P,J⟩:=yl (w:=w) A.out 0 0 [];have F:=hid (show Below w.heap.size w S from by rw [j];exact ((G.out.setCell (Nat.le_refl _) _).setCell (Nat.le_refl _) _).setCell (Nat.le_refl _) _);rw [show (⟨([]:List UInt8).toArray⟩:ByteArray)=⟨#[]⟩ from rfl] at j J;rw [<-j];exact bodyPost_ret (v:=.tuple #[kV (0,0,[]),.string ⟨#[]⟩,.bool false]) (by simp [results,Tryz.results197,go_sem,kV,R,P,J]) rfl ⟨rfl,F.out⟩
set_option maxRecDepth 100000 in
set_option maxHeartbeats 8000000 in
theorem Qm (s:ByteArray) (w:World) (hs:s.size<=1200001) (hp:1 < s.size) (h91:s[0].toNat=91) (h34:s[1].toNat=34) (he:(bz s.data.toList.tail).1=0) (hb:¬ (bz s.data.toList.tail).2.2+1 < s.size):Calls Tryz.prog 197 #[.string s] w fun e w'=>e=Jk ((0,0,[]),[],false)/\Below w.heap.size w w':=by
 have e0:=gG (show s.size≠0 by omega);have e1:(((s[0].toNat:Nat):Int) != 91)=false:=by rw [h91];rfl
 have e2:(((s[1].toNat:Nat):Int) == 34)=true:=by rw [h34];rfl
 have ab:(1:Int) < (s.size:Int):=by omega
 have V:(1:Int)<=(s.size:Int):=by omega
 have I:(s.extract 1 s.size).size<=1200000:=by rw [ext_size s 1 (by omega)];omega
 have b:=hid (fun W=>pO (s.extract 1 s.size) W I);rw [show (s.extract 1 s.size).data.toList=s.data.toList.tail by rw [aY,List.drop_one]] at b;have J:=(lg s.data.toList.tail).2;rw [List.length_tail,aj] at J;unfold Ol at b;obtain ⟨D,i⟩:∃ D,(bz s.data.toList.tail).1=D:=⟨_,rfl⟩;obtain ⟨x,E⟩:∃ x,(bz s.data.toList.tail).2.1=x:=⟨_,rfl⟩;obtain ⟨n,c⟩:∃ n,(bz s.data.toList.tail).2.2=n:=⟨_,rfl⟩;rw [i,E,c] at b;rw [c] at J;have ee:(D != 0)=false:=by rw [<-i];simp [he]
 rw [c] at hb;have Z:((s.size:Nat):Int)<=((n:Nat):Int)+1:=by omega
 clear i E c I h91 h34 he hb;have A:=hid (bM w (kO 0 0 []));unfold kO at A;go_enter Tryz.func197,Tryz.ntmps197;go_wp2_with (go_at_call 222;refine (b.out _).mono ?_;rintro e w1 ⟨rfl,p⟩;have g:=hid p;clear p)
 have q:=hid (show Below w1.heap.size w1 (w1.alloc (.cells #[.int .i64 2,.int .i64 0,.string ⟨x.toArray⟩] 91)) from (Below.refl _ _).alloc (Nat.le_refl _) _);have y:=hid ((show Below w.heap.size w (w.alloc (.cells #[.int .i64 0,.int .i64 0,.string ⟨#[]⟩] 91)) from (Below.refl _ _).alloc (Nat.le_refl _) _).trans ((g.out.trans (q.out.mono g.out.size)).mono (by simp)));have u:=hid (((g.out.trans (q.out.mono g.out.size)).block w.heap.size (by simp)).trans A.out);have z:=hid (bM w1 (kO 2 0 x));unfold kO at z;generalize hM:w1.heap.size=M at *;generalize w1.alloc (.cells #[.int .i64 2,.int .i64 0,.string ⟨x.toArray⟩] 91)=P at *;obtain ⟨Q,S,N,d3,d4⟩:=aZ (W:=P) (r:=M) (k:=2) (n:=0) (t:=x) z.out;have g0:=fun d m=>cell_regrown Q d m;have g1:=fun d m=>cell_regrown S d m;have g2:=fun d m=>cell_regrown N d m;refine au (fun _=>none) (by kernel_rfl) (by kernel_rfl) ?_
 iterate 3 (refine wq ?_;intro K a;go_big_quiet_op;go_big_quiet_on)
 iterate 3 (refine wq ?_;intro K a;go_big_quiet_op;go_big_quiet_on)
 (refine dm (gQ _) (by kernel_rfl) rfl (by intro w f O w';go_simp) ?_;intro K a;go_big_quiet_op;go_big_quiet_on)
 (refine wq ?_;intro K a;go_big_quiet_op;go_big_quiet_on)
 iterate 2 (refine wq ?_;intro K a;go_big_quiet_op;go_big_quiet_on)
 iterate 5 (refine aW (by kernel_rfl) ?_)
 (refine ay ?_;intro K a;go_simp;refine a _ ?_;clear a K)
 iterate 2 (refine wq ?_;intro K a;go_big_quiet_op;go_big_quiet_on)
 iterate 7 (refine aW (by kernel_rfl) ?_)
 (refine ay ?_;intro K a;go_simp;refine a _ ?_;clear a K)
 iterate 2 (refine wq ?_;intro K a;go_big_quiet_op;go_big_quiet_on)
 iterate 3 (refine aW (by kernel_rfl) ?_)
 (refine ay ?_;intro K a;go_simp;refine a _ ?_;clear a K)
 (refine wq ?_;intro K a;go_big_quiet_op;go_big_quiet_on)
 refine aS ?_;intro w6 C F;have j:=ai C;clear C F;have B:=hid ((j.block w.heap.size (lt_of_block u.out)).trans u.out);obtain ⟨f0,f1,f2,o,f4⟩:=aZ (W:=w6) (r:=w.heap.size) (k:=0) (n:=0) (t:=[]) B.out;have X:=o 0;have aa:=o 1;have Y:=o 2;have H:=hid (y.out.trans (j.mono y.out.size));clear o j;go_wp2
 obtain ⟨U,l,T,R,L⟩:=yl (w:=w) B.out 0 0 [];have G:=hid (show Below w.heap.size w U from by rw [l];exact ((H.out.setCell (Nat.le_refl _) _).setCell (Nat.le_refl _) _).setCell (Nat.le_refl _) _);rw [show (⟨([]:List UInt8).toArray⟩:ByteArray)=⟨#[]⟩ from rfl] at l L;rw [<-l];exact bodyPost_ret (v:=.tuple #[kV (0,0,[]),.string ⟨#[]⟩,.bool false]) (by simp [results,Tryz.results197,go_sem,kV,T,R,L]) rfl ⟨rfl,G.out⟩
set_option maxRecDepth 100000 in
set_option maxHeartbeats 8000000 in
theorem PW (s:ByteArray) (w:World) (hs:s.size<=1200001) (hp:1 < s.size) (h91:s[0].toNat=91) (h34:s[1].toNat=34) (he:(bz s.data.toList.tail).1=0) (hb:(bz s.data.toList.tail).2.2+1 < s.size) (hc:s[(bz s.data.toList.tail).2.2+1].toNat≠93):Calls Tryz.prog 197 #[.string s] w fun e w'=>e=Jk ((0,0,[]),[],false)/\Below w.heap.size w w':=by
 have e0:=gG (show s.size≠0 by omega);have e1:(((s[0].toNat:Nat):Int) != 91)=false:=by rw [h91];rfl
 have e2:(((s[1].toNat:Nat):Int) == 34)=true:=by rw [h34];rfl
 have al:(1:Int) < (s.size:Int):=by omega
 have V:(1:Int)<=(s.size:Int):=by omega
 have I:(s.extract 1 s.size).size<=1200000:=by rw [ext_size s 1 (by omega)];omega
 have c:=hid (fun W=>pO (s.extract 1 s.size) W I);rw [show (s.extract 1 s.size).data.toList=s.data.toList.tail by rw [aY,List.drop_one]] at c;have J:=(lg s.data.toList.tail).2;rw [List.length_tail,aj] at J;unfold Ol at c;obtain ⟨D,i⟩:∃ D,(bz s.data.toList.tail).1=D:=⟨_,rfl⟩;obtain ⟨x,E⟩:∃ x,(bz s.data.toList.tail).2.1=x:=⟨_,rfl⟩;obtain ⟨n,b⟩:∃ n,(bz s.data.toList.tail).2.2=n:=⟨_,rfl⟩;rw [i,E,b] at c;rw [b] at J;have ee:(D != 0)=false:=by rw [<-i];simp [he]
 rw [b] at hb;have ab:decide (((s.size:Nat):Int)<=((n:Nat):Int)+1)=false:=by simp;omega
 have ac:(0:Int)<=(n:Int)+1:=by omega
 have Z:(n:Int)+1 < (s.size:Int):=by omega
 have af:((n:Int)+1).toNat=n+1:=by omega
 have X:(((s[n+1].toNat:Nat):Int) != 93)=true:=by have:=hc;simp only [b] at this;simp;omega
 clear i E b I h91 h34 he hc;have A:=hid (bM w (kO 0 0 []));unfold kO at A;go_enter Tryz.func197,Tryz.ntmps197;go_wp2_with (go_at_call 222;refine (c.out _).mono ?_;rintro e w1 ⟨rfl,p⟩;have g:=hid p;clear p)
 have q:=hid (show Below w1.heap.size w1 (w1.alloc (.cells #[.int .i64 2,.int .i64 0,.string ⟨x.toArray⟩] 91)) from (Below.refl _ _).alloc (Nat.le_refl _) _);have y:=hid ((show Below w.heap.size w (w.alloc (.cells #[.int .i64 0,.int .i64 0,.string ⟨#[]⟩] 91)) from (Below.refl _ _).alloc (Nat.le_refl _) _).trans ((g.out.trans (q.out.mono g.out.size)).mono (by simp)));have u:=hid (((g.out.trans (q.out.mono g.out.size)).block w.heap.size (by simp)).trans A.out);have z:=hid (bM w1 (kO 2 0 x));unfold kO at z;generalize hM:w1.heap.size=M at *;generalize w1.alloc (.cells #[.int .i64 2,.int .i64 0,.string ⟨x.toArray⟩] 91)=P at *;obtain ⟨Q,S,N,d3,d4⟩:=aZ (W:=P) (r:=M) (k:=2) (n:=0) (t:=x) z.out;have g0:=fun d m=>cell_regrown Q d m;have g1:=fun d m=>cell_regrown S d m;have g2:=fun d m=>cell_regrown N d m;refine au (fun _=>none) (by kernel_rfl) (by kernel_rfl) ?_
 iterate 3 (refine wq ?_;intro K a;go_big_quiet_op;go_big_quiet_on)
 iterate 3 (refine wq ?_;intro K a;go_big_quiet_op;go_big_quiet_on)
 (refine dm (gQ _) (by kernel_rfl) rfl (by intro w f O w';go_simp) ?_;intro K a;go_big_quiet_op;go_big_quiet_on)
 (refine wq ?_;intro K a;go_big_quiet_op;go_big_quiet_on)
 iterate 2 (refine wq ?_;intro K a;go_big_quiet_op;go_big_quiet_on)
 iterate 5 (refine wq ?_;intro K a;go_big_quiet_op;go_big_quiet_on)
 iterate 2 (refine wq ?_;intro K a;go_big_quiet_op;go_big_quiet_on)
 iterate 7 (refine aW (by kernel_rfl) ?_)
 (refine ay ?_;intro K a;go_simp;refine a _ ?_;clear a K)
 iterate 2 (refine wq ?_;intro K a;go_big_quiet_op;go_big_quiet_on)
 iterate 3 (refine aW (by kernel_rfl) ?_)
 (refine ay ?_;intro K a;go_simp;refine a _ ?_;clear a K)
 (refine wq ?_;intro K a;go_big_quiet_op;go_big_quiet_on)
 refine aS ?_;intro w6 C F;have j:=ai C;clear C F;have B:=hid ((j.block w.heap.size (lt_of_block u.out)).trans u.out);obtain ⟨f0,f1,f2,o,f4⟩:=aZ (W:=w6) (r:=w.heap.size) (k:=0) (n:=0) (t:=[]) B.out;have Y:=o 0;have ad:=o 1;have aa:=o 2;have H:=hid (y.out.trans (j.mono y.out.size));clear o j;go_wp2
 obtain ⟨U,l,T,R,L⟩:=yl (w:=w) B.out 0 0 [];have G:=hid (show Below w.heap.size w U from by rw [l];exact ((H.out.setCell (Nat.le_refl _) _).setCell (Nat.le_refl _) _).setCell (Nat.le_refl _) _);rw [show (⟨([]:List UInt8).toArray⟩:ByteArray)=⟨#[]⟩ from rfl] at l L;rw [<-l];exact bodyPost_ret (v:=.tuple #[kV (0,0,[]),.string ⟨#[]⟩,.bool false]) (by simp [results,Tryz.results197,go_sem,kV,T,R,L]) rfl ⟨rfl,G.out⟩
set_option maxRecDepth 100000 in
set_option maxHeartbeats 8000000 in
theorem PV (s:ByteArray) (w:World) (hs:s.size<=1200001) (hp:1 < s.size) (h91:s[0].toNat=91) (h34:s[1].toNat=34) (he:(bz s.data.toList.tail).1=0) (hb:(bz s.data.toList.tail).2.2+1 < s.size) (hc:s[(bz s.data.toList.tail).2.2+1].toNat=93) (hd:quo (bz s.data.toList.tail).2.1≠s.data.toList.tail.take (bz s.data.toList.tail).2.2):Calls Tryz.prog 197 #[.string s] w fun e w'=>e=Jk ((0,0,[]),[],false)/\Below w.heap.size w w':=by
 have e0:=gG (show s.size≠0 by omega);have e1:(((s[0].toNat:Nat):Int) != 91)=false:=by rw [h91];rfl
 have e2:(((s[1].toNat:Nat):Int) == 34)=true:=by rw [h34];rfl
 have ar:(1:Int) < (s.size:Int):=by omega
 have ab:(1:Int)<=(s.size:Int):=by omega
 have N:(s.extract 1 s.size).size<=1200000:=by rw [ext_size s 1 (by omega)];omega
 have c:=hid (fun W=>pO (s.extract 1 s.size) W N);rw [show (s.extract 1 s.size).data.toList=s.data.toList.tail by rw [aY,List.drop_one]] at c;have T:=(lg s.data.toList.tail).2;rw [List.length_tail,aj] at T;unfold Ol at c;obtain ⟨H,j⟩:∃ H,(bz s.data.toList.tail).1=H:=⟨_,rfl⟩;obtain ⟨x,q⟩:∃ x,(bz s.data.toList.tail).2.1=x:=⟨_,rfl⟩;obtain ⟨n,b⟩:∃ n,(bz s.data.toList.tail).2.2=n:=⟨_,rfl⟩;rw [j,q,b] at c;rw [b] at T;have ee:(H != 0)=false:=by rw [<-j];simp [he]
 rw [b] at hb;have ap:decide (((s.size:Nat):Int)<=((n:Nat):Int)+1)=false:=by simp;omega
 have aq:(0:Int)<=(n:Int)+1:=by omega
 have av:(n:Int)+1 < (s.size:Int):=by omega
 have aw:((n:Int)+1).toNat=n+1:=by omega
 have an:(((s[n+1].toNat:Nat):Int) != 93)=false:=by have:=hc;simp only [b] at this;rw [this];rfl
 have u:=(lg s.data.toList.tail).1;rw [q] at u;have P:=hid (fun W=>wQ ⟨x.toArray⟩ W (by rw [<-aj];show x.length<=2000000;omega));clear u;rw [q,b] at hd;have ac:((s.extract 1 (n+1)).toList != (⟨(quo x).toArray⟩:ByteArray).toList)=true:=by rw [pz];exact Qn (fun e=>hd e.symm)
 have m:(s.extract 1 (n+1)).toList=s.data.toList.tail.take n:=by rw [pz,ByteArray.toList_eq]
 have am:((s.extract 1 (n+1)).toList == quo x)=false:=by rw [m];exact beq_eq_false_iff_ne.2 (fun e=>hd e.symm)
 have af:¬ (s.extract 1 (n+1)).toList=quo x:=by rw [m];exact fun e=>hd e.symm
 clear m;clear j q b N h91 h34 he hc hd;have D:=hid (bM w (kO 0 0 []));unfold kO at D;go_enter Tryz.func197,Tryz.ntmps197;go_wp2_with (go_at_call 222;refine (c.out _).mono ?_;rintro e w1 ⟨rfl,y⟩;have g:=hid y;clear y)
 have C:=hid (show Below w1.heap.size w1 (w1.alloc (.cells #[.int .i64 2,.int .i64 0,.string ⟨x.toArray⟩] 91)) from (Below.refl _ _).alloc (Nat.le_refl _) _);have F:=hid ((show Below w.heap.size w (w.alloc (.cells #[.int .i64 0,.int .i64 0,.string ⟨#[]⟩] 91)) from (Below.refl _ _).alloc (Nat.le_refl _) _).trans ((g.out.trans (C.out.mono g.out.size)).mono (by simp)));have z:=hid (((g.out.trans (C.out.mono g.out.size)).block w.heap.size (by simp)).trans D.out);have G:=hid (bM w1 (kO 2 0 x));unfold kO at G;generalize hM:w1.heap.size=M at *;generalize w1.alloc (.cells #[.int .i64 2,.int .i64 0,.string ⟨x.toArray⟩] 91)=W2 at *;obtain ⟨U,V,d2,d3,d4⟩:=aZ (W:=W2) (r:=M) (k:=2) (n:=0) (t:=x) G.out;have g0:=fun d o=>cell_regrown U d o;have g1:=fun d o=>cell_regrown V d o;have g2:=fun d o=>cell_regrown d2 d o;refine au (fun k=>match k with | 22=>some (yY (quo x)) | _=>none) (by kernel_rfl) (by kernel_rfl) ?_
 iterate 3 (refine wq ?_;intro K a;go_big_quiet_op;go_big_quiet_on)
 iterate 3 (refine wq ?_;intro K a;go_big_quiet_op;go_big_quiet_on)
 (refine dm (gQ _) (by kernel_rfl) rfl (by intro w f aa w';go_simp) ?_;intro K a;go_big_quiet_op;go_big_quiet_on)
 (refine wq ?_;intro K a;go_big_quiet_op;go_big_quiet_on)
 iterate 2 (refine wq ?_;intro K a;go_big_quiet_op;go_big_quiet_on)
 iterate 5 (refine wq ?_;intro K a;go_big_quiet_op;go_big_quiet_on)
 iterate 2 (refine wq ?_;intro K a;go_big_quiet_op;go_big_quiet_on)
 iterate 5 (refine wq ?_;intro K a;go_big_quiet_op;go_big_quiet_on)
 refine aC (yY (quo x)) (by kernel_rfl) rfl ⟨_,rfl⟩ aQ (fun w4 B Q=>?_) ?_
 . have R:=ai B
   have hh:=P.out w4;clear B Q R;go_simp
   go_at_call 223;refine Calls.mono hh ?_;rintro e w5 ⟨rfl,O⟩;exact ⟨_,rfl,O,rfl,trivial⟩
 rintro _ rfl
 (refine ay ?_;intro K a;go_simp;refine a _ ?_;clear a K)
 (refine wq ?_;intro K a;go_big_quiet_op;go_big_quiet_on)
 iterate 2 (refine wq ?_;intro K a;go_big_quiet_op;go_big_quiet_on)
 iterate 3 (refine aW (by kernel_rfl) ?_)
 (refine ay ?_;intro K a;go_simp;refine a _ ?_;clear a K)
 (refine wq ?_;intro K a;go_big_quiet_op;go_big_quiet_on)
 refine aS ?_;intro w6 E S;have i:=ai E;clear E S;have A:=hid ((i.block w.heap.size (lt_of_block z.out)).trans z.out);obtain ⟨f0,f1,f2,p,f4⟩:=aZ (W:=w6) (r:=w.heap.size) (k:=0) (n:=0) (t:=[]) A.out;have ao:=p 0;have ad:=p 1;have al:=p 2;have I:=hid (F.out.trans (i.mono F.out.size));clear p i;go_wp2
 obtain ⟨X,l,Z,Y,J⟩:=yl (w:=w) A.out 0 0 [];have L:=hid (show Below w.heap.size w X from by rw [l];exact ((I.out.setCell (Nat.le_refl _) _).setCell (Nat.le_refl _) _).setCell (Nat.le_refl _) _);rw [show (⟨([]:List UInt8).toArray⟩:ByteArray)=⟨#[]⟩ from rfl] at l J;rw [<-l];exact bodyPost_ret (v:=.tuple #[kV (0,0,[]),.string ⟨#[]⟩,.bool false]) (by simp [results,Tryz.results197,go_sem,kV,Z,Y,J]) rfl ⟨rfl,L.out⟩
set_option maxRecDepth 100000 in
set_option maxHeartbeats 8000000 in
theorem Oy (s:ByteArray) (w:World) (hs:s.size<=1200001) (hp:1 < s.size) (h91:s[0].toNat=91) (h34:s[1].toNat=34) (he:(bz s.data.toList.tail).1=0) (hb:(bz s.data.toList.tail).2.2+1 < s.size) (hc:s[(bz s.data.toList.tail).2.2+1].toNat=93) (hd:quo (bz s.data.toList.tail).2.1=s.data.toList.tail.take (bz s.data.toList.tail).2.2):Calls Tryz.prog 197 #[.string s] w fun e w'=>e=Jk ((2,0,(bz s.data.toList.tail).2.1),s.data.toList.drop ((bz s.data.toList.tail).2.2+2),true)/\Below w.heap.size w w':=by
 have e0:=gG (show s.size≠0 by omega);have e1:(((s[0].toNat:Nat):Int) != 91)=false:=by rw [h91];rfl
 have e2:(((s[1].toNat:Nat):Int) == 34)=true:=by rw [h34];rfl
 have aw:(1:Int) < (s.size:Int):=by omega
 have ac:(1:Int)<=(s.size:Int):=by omega
 have Y:(s.extract 1 s.size).size<=1200000:=by rw [ext_size s 1 (by omega)];omega
 have j:=hid (fun W=>pO (s.extract 1 s.size) W Y);rw [show (s.extract 1 s.size).data.toList=s.data.toList.tail by rw [aY,List.drop_one]] at j;have hn:=(lg s.data.toList.tail).2;rw [List.length_tail,aj] at hn;unfold Ol at j;have i:=GU he;obtain ⟨Q,m⟩:∃ Q,(bz s.data.toList.tail).1=Q:=⟨_,rfl⟩;obtain ⟨x,y⟩:∃ x,(bz s.data.toList.tail).2.1=x:=⟨_,rfl⟩;obtain ⟨n,b⟩:∃ n,(bz s.data.toList.tail).2.2=n:=⟨_,rfl⟩;rw [m,y,b] at j;rw [b] at hn;have ee:(Q != 0)=false:=by rw [<-m];simp [he]
 rw [b] at hb;have ar:decide (((s.size:Nat):Int)<=((n:Nat):Int)+1)=false:=by simp;omega
 have av:(0:Int)<=(n:Int)+1:=by omega
 have aE:(n:Int)+1 < (s.size:Int):=by omega
 have aL:((n:Int)+1).toNat=n+1:=by omega
 have ao:(((s[n+1].toNat:Nat):Int) != 93)=false:=by have:=hc;simp only [b] at this;rw [this];rfl
 have A:=(lg s.data.toList.tail).1;rw [y] at A;have Z:=hid (fun W=>wQ ⟨x.toArray⟩ W (by rw [<-aj];show x.length<=2000000;omega));clear A;rw [y] at i;have G:=hid (fun W=>UM x W i.2 i.1);unfold kV at G;rw [y,b] at hd ⊢;have ad:((s.extract 1 (n+1)).toList != (⟨(quo x).toArray⟩:ByteArray).toList)=false:=by rw [pz,hd];simp
 have H:(s.extract 1 (n+1)).toList=s.data.toList.tail.take n:=by rw [pz,ByteArray.toList_eq]
 have V:(s.extract 1 (n+1)).toList=quo x:=by rw [H];exact hd.symm
 have am:((s.extract 1 (n+1)).toList == quo x)=true:=by rw [V];simp
 clear H;clear m y b Y h91 h34 he hc hd i;have I:=hid (bM w (kO 0 0 []));unfold kO at I;go_enter Tryz.func197,Tryz.ntmps197;go_wp2_with (go_at_call 222;refine (j.out _).mono ?_;rintro e w1 ⟨rfl,B⟩;have l:=hid B;clear B)
 have F:=hid (show Below w1.heap.size w1 (w1.alloc (.cells #[.int .i64 2,.int .i64 0,.string ⟨x.toArray⟩] 91)) from (Below.refl _ _).alloc (Nat.le_refl _) _);have L:=hid ((show Below w.heap.size w (w.alloc (.cells #[.int .i64 0,.int .i64 0,.string ⟨#[]⟩] 91)) from (Below.refl _ _).alloc (Nat.le_refl _) _).trans ((l.out.trans (F.out.mono l.out.size)).mono (by simp)));have C:=hid (((l.out.trans (F.out.mono l.out.size)).block w.heap.size (by simp)).trans I.out);have N:=hid (bM w1 (kO 2 0 x));unfold kO at N;generalize hM:w1.heap.size=M at *;generalize w1.alloc (.cells #[.int .i64 2,.int .i64 0,.string ⟨x.toArray⟩] 91)=W2 at *;obtain ⟨O,P,R,d3,d4⟩:=aZ (W:=W2) (r:=M) (k:=2) (n:=0) (t:=x) N.out;have g0:=fun d p=>cell_regrown O d p;have g1:=fun d p=>cell_regrown P d p;have g2:=fun d p=>cell_regrown R d p;refine au (fun k=>match k with | 22=>some (yY (quo x)) | 27=>some (bY true) | _=>none) (by kernel_rfl) (by kernel_rfl) ?_
 iterate 3 (refine wq ?_;intro K a;go_big_quiet_op;go_big_quiet_on)
 iterate 3 (refine wq ?_;intro K a;go_big_quiet_op;go_big_quiet_on)
 (refine dm (gQ _) (by kernel_rfl) rfl (by intro w f ab w';go_simp) ?_;intro K a;go_big_quiet_op;go_big_quiet_on)
 (refine wq ?_;intro K a;go_big_quiet_op;go_big_quiet_on)
 iterate 2 (refine wq ?_;intro K a;go_big_quiet_op;go_big_quiet_on)
 iterate 5 (refine wq ?_;intro K a;go_big_quiet_op;go_big_quiet_on)
 iterate 2 (refine wq ?_;intro K a;go_big_quiet_op;go_big_quiet_on)
 iterate 5 (refine wq ?_;intro K a;go_big_quiet_op;go_big_quiet_on)
 refine aC (yY (quo x)) (by kernel_rfl) rfl ⟨_,rfl⟩ aQ (fun w4 g q=>?_) ?_
 . have u:=ai g
   have S:=Z.out w4;clear g q u;go_simp
   go_at_call 223;refine Calls.mono S ?_;rintro e w5 ⟨rfl,o⟩;exact ⟨_,rfl,o,rfl,trivial⟩
 rintro _ rfl
 (refine ay ?_;intro K a;go_simp;refine a _ ?_;clear a K)
 (refine wq ?_;intro K a;go_big_quiet_op;go_big_quiet_on)
 iterate 2 (refine wq ?_;intro K a;go_big_quiet_op;go_big_quiet_on)
 (refine wq ?_;intro K a;go_big_quiet_op;go_big_quiet_on)
 refine aC (bY true) (by kernel_rfl) rfl ⟨_,rfl⟩ aQ (fun w4 g q=>?_) ?_
 . have u:=ai g
   have S:=G.out w4;clear g q u;go_simp
   go_at_call 224;refine Calls.mono S ?_;rintro e w5 ⟨rfl,o⟩;exact ⟨_,rfl,o,rfl,trivial⟩
 rintro _ rfl
 (refine ay ?_;intro K a;go_simp;refine a _ ?_;clear a K)
 (refine wq ?_;intro K a;go_big_quiet_op;go_big_quiet_on)
 (refine wq ?_;intro K a;go_big_quiet_op;go_big_quiet_on)
 refine aS ?_;intro w6 J aa;have c:=ai J;clear J aa;have D:=hid ((c.block w.heap.size (lt_of_block C.out)).trans C.out);obtain ⟨f0,f1,f2,z,f4⟩:=aZ (W:=w6) (r:=w.heap.size) (k:=0) (n:=0) (t:=[]) D.out;have ap:=z 0;have af:=z 1;have al:=z 2;have m0:=az c O;have m1:=az c P;have m2:=az c R;have U:=hid (L.out.trans (c.mono L.out.size));have aq:(0:Int)<=(n:Int)+2:=by omega
 have aD:(n:Int)+2<=(s.size:Int):=by omega
 have an:((n:Int)+2).toNat=n+2:=by omega
 have T:=hid (nP s (n+2));clear z c O P R g0 g1 g2;go_wp2_with fail
 go_region
 all_goals
  go_wp2
  obtain ⟨W',E,a0,a1,a2⟩:=yl (w:=w) (W:=w6) D.out 2 0 x;have X:=hid (show Below w.heap.size w W' from by rw [E];exact ((U.out.setCell (Nat.le_refl _) _).setCell (Nat.le_refl _) _).setCell (Nat.le_refl _) _);rw [<-E];exact bodyPost_ret (v:=.tuple #[kV (2,0,x),.string (s.extract (n+2) s.size),.bool true]) (by simp [results,Tryz.results197,go_sem,kV,a0,a1,a2]) rfl ⟨by rw [T.out];rfl,X.out.drew⟩
theorem SC (s:ByteArray) (w:World) (hs:s.size<=1200001) (hp:1 < s.size) (h91:s[0].toNat=91) (h34:s[1].toNat=34):Calls Tryz.prog 197 #[.string s] w fun e w'=>e=Jk (dX s.data.toList)/\Below w.heap.size w w':=by
 rw [Tc hp h91 h34]
 by_cases b:(bz s.data.toList.tail).1=0
 . by_cases a:(bz s.data.toList.tail).2.2+1 < s.size
   . by_cases c:s[(bz s.data.toList.tail).2.2+1].toNat=93
     . by_cases d:quo (bz s.data.toList.tail).2.1=s.data.toList.tail.take (bz s.data.toList.tail).2.2
       . rw [if_neg (by rw [getD_at s a];exact fun h=>h.elim (fun h=>h b) (fun h=>h.elim (fun h=>h c) (fun h=>h d)))]
         exact Oy s w hs hp h91 h34 b a c d
       . rw [if_pos (Or.inr (Or.inr d))]
         exact PV s w hs hp h91 h34 b a c d
     . rw [if_pos (Or.inr (Or.inl (by rw [getD_at s a];exact c)))]
       exact PW s w hs hp h91 h34 b a c
   . rw [if_pos (Or.inr (Or.inl (xK a)))]
     exact Qm s w hs hp h91 h34 b a
 . rw [if_pos (Or.inl b)]
   exact Qz s w hs hp h91 h34 b
end Go.Proofs.YtomhbcfjhgecbaaGreatDoor.Adr
namespace Go.Proofs.YtomhbcfjhgecbaaGreatDoor.Adr
open Go.RowKit Go.Sort Go.Lib Go.Maps
open Go.Lib (hid)
theorem Lj {α:Type} {p:α->Bool} : ∀ l:List α,(l.takeWhile p).length<=l.length/\l.take (l.takeWhile p).length=l.takeWhile p/\(∀ j (hj:j < l.length),j < (l.takeWhile p).length->p l[j]=true)/\(∀ h:(l.takeWhile p).length < l.length,p (l[(l.takeWhile p).length])=false)
 | []=>by simp
 | x :: l=>by
   obtain ⟨h1,h2,h3,h4⟩:=Lj (p:=p) l;cases hx:p x with
   | false =>
     have e:(x :: l).takeWhile p=[]:=by rw [List.takeWhile_cons,hx];rfl
     rw [e];exact ⟨by simp,by simp,fun j hj h=>absurd h (by simp),fun h=>by simpa using hx⟩
   | true =>
     have e:(x :: l).takeWhile p=x :: l.takeWhile p:=by rw [List.takeWhile_cons,hx];rfl
     simp only [e,List.length_cons];refine ⟨by omega,by rw [List.take_succ_cons,h2],fun j hj h=>?_,fun h=>?_⟩
     . cases j with
       | zero=>exact hx
       | succ j=>exact h3 j (by simpa using hj) (by omega)
     . exact h4 (by simpa using h)
theorem IJ (s:ByteArray) (j:Nat) (h:j+1 < s.size):s.data.toList.tail[j]'(by rw [List.length_tail,aj];omega)=s[j+1]:=by
 rw [List.getElem_tail];rfl
theorem KN {s:ByteArray} (h:0 < s.size):(pK s.data.toList.tail).length+1<=s.size/\(∀ j (hj:j < s.size),1<=j->j < (pK s.data.toList.tail).length+1->jX s[j].toNat=true)/\(∀ h:(pK s.data.toList.tail).length+1 < s.size,jX s[(pK s.data.toList.tail).length+1].toNat=false) /\
  s.extract 1 ((pK s.data.toList.tail).length+1)=⟨(pK s.data.toList.tail).toArray⟩:=by
 obtain ⟨l,g,f,d⟩:=Lj (p:=fun c:UInt8=>jX c.toNat) s.data.toList.tail;have m:s.data.toList.tail.length=s.size - 1:=by rw [List.length_tail,aj]
 refine ⟨by unfold pK;omega,fun j hj k b=>?_,fun a=>?_,?_⟩
 . obtain ⟨i,rfl⟩:∃ i,j=i+1:=⟨j - 1,by omega⟩
   have:=f i (by omega) (by unfold pK at b;omega);rw [IJ s i hj] at this;exact this
 . have:=d (by unfold pK at a;omega)
   rw [IJ s _ (by unfold pK at a;exact a)] at this;exact this
 . rw [pz]
   unfold pK;rw [g]
theorem SY {s:ByteArray} (h:0 < s.size) (h91:s[0].toNat=91) (h34:∀ h:1 < s.size,s[1].toNat≠34):dX s.data.toList =
  if (gp (pK s.data.toList.tail)).2≠0 ∨ (s.data.toList.getD ((pK s.data.toList.tail).length+1) 0).toNat≠93 then ((0,0,[]),[],false)
  else ((1,(gp (pK s.data.toList.tail)).1,[]),s.data.toList.drop ((pK s.data.toList.tail).length+2),true):=by
 unfold dX;rw [if_neg (by rw [getD_at s h];simp [h91]),if_neg]
 by_cases a:1 < s.size
 . rw [getD_at s a];exact h34 a
 . rw [List.getD_eq_getElem?_getD,List.getElem?_eq_none (by rw [aj];omega)]
   decide
set_option maxRecDepth 100000 in
set_option maxHeartbeats 16000000 in
theorem Rq (s:ByteArray) (w:World) (hs:s.size<=2000000) (hp:0 < s.size) (h91:s[0].toNat=91) (h34:∀ h:1 < s.size,s[1].toNat≠34):Calls Tryz.prog 197 #[.string s] w fun e w'=>e=Jk (dX s.data.toList)/\Below w.heap.size w w':=by
 have c:=hid (SY hp h91 h34);have e0:=gG (show s.size≠0 by omega);have e1:(((s[0].toNat:Nat):Int) != 91)=false:=by rw [h91];rfl
 obtain ⟨K,N,k1,O,U,G⟩:∃ K,(pK s.data.toList.tail).length=K/\K+1<=s.size/\(∀ j (hj:j < s.size),1<=j->j < K+1->jX s[j].toNat=true)/\(∀ h:K+1 < s.size,jX s[K+1].toNat=false)/\s.extract 1 (K+1)=⟨(pK s.data.toList.tail).toArray⟩:=⟨_,rfl,KN hp⟩
 have C:(s.extract 1 (K+1)).size<=2000000:=by
  rw [<-aj,G];show (pK s.data.toList.tail).length<=2000000;omega
 have b:=hid (fun W=>ES (s.extract 1 (K+1)) W C);rw [show (s.extract 1 (K+1)).data.toList=pK s.data.toList.tail by rw [G]] at b;unfold Pz at b;have f:=hid O;have g:=hid U;obtain ⟨num,t⟩:∃ n,(gp (pK s.data.toList.tail)).1=n:=⟨_,rfl⟩;obtain ⟨m,z⟩:∃ n,(gp (pK s.data.toList.tail)).2=n:=⟨_,rfl⟩;rw [t,z] at b;rw [t,z,N] at c;have l:=hid (nP s (K+2));have F:(1:Int)<=(K:Int)+1:=by omega
 have I:(0:Int)<=(K:Int)+1:=by omega
 have J:(K:Int)+1<=(s.size:Int):=by omega
 have H:((K:Int)+1).toNat=K+1:=by omega
 have o:=hid ((Below.refl w.heap.size w).alloc (Nat.le_refl _) (.cells #[.int .i64 0,.int .i64 0,.string ⟨#[]⟩] 91));clear C O U G t z N h91
 by_cases y:1 < s.size
 . have X:=h34 y
   have e2:(((s[1].toNat:Nat):Int) == 34)=false:=by simp;omega
   have T:(1:Int) < (s.size:Int):=by omega
   clear h34 X;go_enter Tryz.func197,Tryz.ntmps197;go_wp2
   go_loop [9] (fun i=>∃ k:Nat,1<=k/\k<=K+1/\i=.int .i64 k) (fun i=>s.size - (RowKit.intOf i).toNat)
   case atStart=>exact ⟨1,by omega,by omega,rfl⟩
   case round =>
    obtain ⟨k,M,hk,rfl⟩:=hrel
    by_cases L:k < K+1
    . have R:k < s.size:=by omega
      have A:=(jV s[k].toNat).1 (f.out k R M L);have D:(48:Int)<=(s[k].toNat:Int):=by omega
      have P:(s[k].toNat:Int)<=57:=by omega
      have E:(k:Int) < (s.size:Int):=by omega
      clear A;go_wp2
      go_round
      case rel=>exact ⟨k+1,by omega,by omega,by go_num⟩
      case measure=>simp [RowKit.intOf];omega
    . obtain rfl:k=K+1:=by omega
      by_cases q:K+1 < s.size
      . have A:=g.out q
        have E:((K+1:Nat):Int) < (s.size:Int):=by omega
        by_cases V:s[K+1].toNat < 48
        . have D:¬ (48:Int)<=(s[K+1].toNat:Int):=by omega
          have p:s[K+1].toNat≠93:=by omega
          clear A
          by_cases a:m=0
          . have r:(m != 0)=false:=by simp [a]
            have B:(((s[K+1].toNat:Nat):Int) != 93)=true:=by simp;omega
            have u:decide (((s.size:Nat):Int)<=(K:Int)+1)=false:=by simp;omega
            have d:=hid (show dX s.data.toList=((0,0,[]),[],false) by rw [c.out,if_pos (Or.inr (by rw [getD_at s q];exact p))]);clear c f g l p a;go_wp2_with (go_at_call 109;refine (b.out _).mono ?_;rintro e w1 ⟨rfl,rfl⟩)
            exact bodyPost_ret (v:=.tuple #[kV (0,0,[]),.string ⟨#[]⟩,.bool false]) (by simp [results,Tryz.results197,go_sem,kV]) rfl ⟨by rw [d.out];rfl,o.out⟩
          . have r:(m != 0)=true:=by simp [a]
            have d:=hid (show dX s.data.toList=((0,0,[]),[],false) by rw [c.out,if_pos (Or.inl a)]);clear c f g l p a;go_wp2_with (go_at_call 109;refine (b.out _).mono ?_;rintro e w1 ⟨rfl,rfl⟩)
            exact bodyPost_ret (v:=.tuple #[kV (0,0,[]),.string ⟨#[]⟩,.bool false]) (by simp [results,Tryz.results197,go_sem,kV]) rfl ⟨by rw [d.out];rfl,o.out⟩
        . have D:(48:Int)<=(s[K+1].toNat:Int):=by omega
          have P:¬ (s[K+1].toNat:Int)<=57:=fun h=>by
           have:jX s[K+1].toNat=true:=(jV _).2 (by omega);rw [A] at this;cases this
          clear A
          by_cases a:m=0
          . by_cases p:s[K+1].toNat=93
            . have u:decide (((s.size:Nat):Int)<=(K:Int)+1)=false:=by simp;omega
              have r:(m != 0)=false:=by simp [a]
              have B:(((s[K+1].toNat:Nat):Int) != 93)=false:=by rw [p];rfl
              have d:=hid (show dX s.data.toList=((1,num,[]),s.data.toList.drop (K+2),true) by rw [c.out,if_neg (by rw [getD_at s q];exact fun h=>h.elim (fun h=>h a) (fun h=>h p))]);have Z:(0:Int)<=(K:Int)+1+1:=by omega
              have Y:(K:Int)+1+1<=(s.size:Int):=by omega
              have aa:((K:Int)+1+1).toNat=K+2:=by omega
              clear c f g p a;go_wp2_with (go_at_call 109;refine (b.out _).mono ?_;rintro e w1 ⟨rfl,rfl⟩)
              go_region
              all_goals
               go_wp2
               exact bodyPost_ret (v:=.tuple #[kV (1,num,[]),.string (s.extract (K+2) s.size),.bool true]) (by simp [results,Tryz.results197,go_sem,kV]) rfl ⟨by rw [d.out,l.out];rfl,by first | exact (Below.refl _ _).alloc (Nat.le_refl _) _ | exact ((Below.refl _ _).alloc (Nat.le_refl _) _).drew⟩
            . have r:(m != 0)=false:=by simp [a]
              have B:(((s[K+1].toNat:Nat):Int) != 93)=true:=by simp;omega
              have u:decide (((s.size:Nat):Int)<=(K:Int)+1)=false:=by simp;omega
              have d:=hid (show dX s.data.toList=((0,0,[]),[],false) by rw [c.out,if_pos (Or.inr (by rw [getD_at s q];exact p))]);clear c f g l p a;go_wp2_with (go_at_call 109;refine (b.out _).mono ?_;rintro e w1 ⟨rfl,rfl⟩)
              exact bodyPost_ret (v:=.tuple #[kV (0,0,[]),.string ⟨#[]⟩,.bool false]) (by simp [results,Tryz.results197,go_sem,kV]) rfl ⟨by rw [d.out];rfl,o.out⟩
          . have r:(m != 0)=true:=by simp [a]
            have d:=hid (show dX s.data.toList=((0,0,[]),[],false) by rw [c.out,if_pos (Or.inl a)]);clear c f g l a;go_wp2_with (go_at_call 109;refine (b.out _).mono ?_;rintro e w1 ⟨rfl,rfl⟩)
            exact bodyPost_ret (v:=.tuple #[kV (0,0,[]),.string ⟨#[]⟩,.bool false]) (by simp [results,Tryz.results197,go_sem,kV]) rfl ⟨by rw [d.out];rfl,o.out⟩
      . have E:¬ ((K+1:Nat):Int) < (s.size:Int):=by omega
        by_cases a:m=0
        . have r:(m != 0)=false:=by simp [a]
          have u:((s.size:Nat):Int)<=(K:Int)+1:=by omega
          have d:=hid (show dX s.data.toList=((0,0,[]),[],false) by rw [c.out,if_pos (Or.inr (xK q))]);clear c f g l a;go_wp2_with (go_at_call 109;refine (b.out _).mono ?_;rintro e w1 ⟨rfl,rfl⟩)
          exact bodyPost_ret (v:=.tuple #[kV (0,0,[]),.string ⟨#[]⟩,.bool false]) (by simp [results,Tryz.results197,go_sem,kV]) rfl ⟨by rw [d.out];rfl,o.out⟩
        . have r:(m != 0)=true:=by simp [a]
          have d:=hid (show dX s.data.toList=((0,0,[]),[],false) by rw [c.out,if_pos (Or.inl a)]);clear c f g l a;go_wp2_with (go_at_call 109;refine (b.out _).mono ?_;rintro e w1 ⟨rfl,rfl⟩)
          exact bodyPost_ret (v:=.tuple #[kV (0,0,[]),.string ⟨#[]⟩,.bool false]) (by simp [results,Tryz.results197,go_sem,kV]) rfl ⟨by rw [d.out];rfl,o.out⟩
 . have T:¬ (1:Int) < (s.size:Int):=by omega
   have Q:K=0:=by omega
   subst Q;have u:((s.size:Nat):Int)<=1:=by omega
   rw [show s.extract 1 (0+1)=ByteArray.empty by simp] at b;have S:=hid (show ¬ 0+1 < s.size by omega);clear h34 y k1 F I J H
   by_cases a:m=0
   . have r:(m != 0)=false:=by simp [a]
     have d:=hid (show dX s.data.toList=((0,0,[]),[],false) by rw [c.out,if_pos (Or.inr (xK S.out))]);clear c f g l a;go_enter Tryz.func197,Tryz.ntmps197;go_wp2
     go_loop [9] (fun i=>i=.int .i64 (1:Int)) (fun i=>0)
     case atStart=>rfl
     case round =>
      subst hrel;go_wp2_with (go_at_call 109;refine (b.out _).mono ?_;rintro e w1 ⟨rfl,rfl⟩)
      exact bodyPost_ret (v:=.tuple #[kV (0,0,[]),.string ⟨#[]⟩,.bool false]) (by simp [results,Tryz.results197,go_sem,kV]) rfl ⟨by rw [d.out];rfl,o.out⟩
   . have r:(m != 0)=true:=by simp [a]
     have d:=hid (show dX s.data.toList=((0,0,[]),[],false) by rw [c.out,if_pos (Or.inl a)]);clear c f g l a;go_enter Tryz.func197,Tryz.ntmps197;go_wp2
     go_loop [9] (fun i=>i=.int .i64 (1:Int)) (fun i=>0)
     case atStart=>rfl
     case round =>
      subst hrel;go_wp2_with (go_at_call 109;refine (b.out _).mono ?_;rintro e w1 ⟨rfl,rfl⟩)
      exact bodyPost_ret (v:=.tuple #[kV (0,0,[]),.string ⟨#[]⟩,.bool false]) (by simp [results,Tryz.results197,go_sem,kV]) rfl ⟨by rw [d.out];rfl,o.out⟩
theorem Fp (s:ByteArray) (w:World) (hs:s.size<=1200001):Calls Tryz.prog 197 #[.string s] w fun e w'=>e=Jk (dX s.data.toList)/\Below w.heap.size w w':=by
 by_cases c:∃ h:0 < s.size,s[0].toNat=91
 . obtain ⟨g,a⟩:=c
   by_cases d:∃ h:1 < s.size,s[1].toNat=34
   . obtain ⟨f,b⟩:=d
     exact SC s w hs f a b
   . exact Rq s w (by omega) g a (fun h e=>d ⟨h,e⟩)
 . exact Qg s w (fun h e=>c ⟨h,e⟩)
end Go.Proofs.YtomhbcfjhgecbaaGreatDoor.Adr
namespace Go.Proofs.YtomhbcfjhgecbaaGreatDoor.Adr
open Go.RowKit Go.Sort Go.Lib Go.Maps
open Go.Lib (hid)
def Rz (X:MS × List UInt8 × Bool):Ending:=.returned (.tuple #[FD X.1,.string ⟨X.2.1.toArray⟩,.bool X.2.2])
theorem RH {w W:World} {r:Nat} {a b:List UInt8} {c d:Int} (h:W.heap[r]?=some (sO a c d b)) (n':List UInt8) (k' m':Int) (t':List UInt8):∃ W',W'=((((W.setCell ⟨r,0,none⟩ (.string ⟨n'.toArray⟩)).setCell ⟨r,1,none⟩ (.int .i64 k')).setCell ⟨r,2,none⟩ (.int .i64 m')).setCell ⟨r,3,none⟩ (.string ⟨t'.toArray⟩))/\W'.cell? ⟨r,0,none⟩=some (.string ⟨n'.toArray⟩)/\W'.cell? ⟨r,1,none⟩=some (.int .i64 k')/\W'.cell? ⟨r,2,none⟩=some (.int .i64 m')/\W'.cell? ⟨r,3,none⟩=some (.string ⟨t'.toArray⟩):=by
 have f:((((W.setCell ⟨r,0,none⟩ (.string ⟨n'.toArray⟩)).setCell ⟨r,1,none⟩ (.int .i64 k')).setCell ⟨r,2,none⟩ (.int .i64 m')).setCell ⟨r,3,none⟩ (.string ⟨t'.toArray⟩)).heap[r]?=some (sO n' k' m' t'):=by
  unfold World.setCell sO at *;simp only [Array.getElem?_modify,if_true,h,Option.map_some];rfl
 obtain ⟨a,b,c,d,_⟩:=nD f;exact ⟨_,rfl,a,b,c,d⟩
theorem AA (l:List UInt8):(mg l).length<=l.length/\(iV l).length<=l.length:=by
 have h:=congrArg List.length (List.takeWhile_append_dropWhile (p:=fun c:UInt8=>vP c.toNat) (l:=l));rw [List.length_append] at h;unfold mg iV;omega
set_option maxRecDepth 100000 in
set_option maxHeartbeats 8000000 in
theorem JC (s:ByteArray) (w:World) (hs:s.size<=1200001) (h7:7<=s.size):Calls Tryz.prog 194 #[.string s] w fun e w'=>e=Rz (jh (s.data.toList.drop 7))/\Below w.heap.size w w':=by
 have U:(s.extract 7 s.size).size<=2000000:=by rw [ext_size s 7 h7];omega
 have u:=hid (fun W=>ve (s.extract 7 s.size) W U);unfold U2 at u;rw [aY s 7] at u;have Y:(s.data.toList.drop 7).length<=1200001:=by rw [List.length_drop,aj];omega
 obtain ⟨V,R⟩:=AA (s.data.toList.drop 7);have o:Hid (∀ W:World,Calls Tryz.prog 197 #[.string ⟨(iV (s.data.toList.drop 7)).toArray⟩] W fun e w'=>e=Jk (dX (iV (s.data.toList.drop 7)))/\Below W.heap.size W w'):=hid (fun W=>Fp ⟨(iV (s.data.toList.drop 7)).toArray⟩ W (by rw [<-aj];show (iV (s.data.toList.drop 7)).length<=1200001;omega));have P:Hid (∀ W:World,Calls Tryz.prog 128 #[.string ⟨(mg (s.data.toList.drop 7)).toArray⟩] W fun e w'=>e=.returned (.bool (eH (mg (s.data.toList.drop 7))))/\W=w'):=hid (fun W=>lH ⟨(mg (s.data.toList.drop 7)).toArray⟩ W (by rw [<-aj];show (mg (s.data.toList.drop 7)).length<=2000000;omega));have aa:(7:Int)<=(s.size:Int):=by omega
 clear U Y V R;unfold Rz jh;generalize hX:dX (iV (s.data.toList.drop 7))=X at *;generalize mg (s.data.toList.drop 7)=A at *;generalize iV (s.data.toList.drop 7)=rs at *;generalize S:eH A=ib at *;clear hX S;obtain ⟨⟨g,i,j⟩,q,Z⟩:=X;unfold Jk kV at o;simp only at o ⊢;have G:=hid (bM w (sO [] 0 0 []));unfold sO at G;go_enter Tryz.func194,Tryz.ntmps194
 go_wp2_with (first
  | (go_at_call 195;refine (u.out _).mono ?_;rintro e w1 ⟨rfl,B⟩;have F:=hid B;clear B)
  | (go_at_call 197;refine (o.out _).mono ?_;rintro e w2 ⟨rfl,C⟩;have H:=hid (F.out.trans (C.mono F.out.size));clear C))
 have Q:=hid (show Below w2.heap.size w2 (w2.alloc (.cells #[.int .i64 g,.int .i64 i,.string ⟨j.toArray⟩] 91)) from (Below.refl _ _).alloc (Nat.le_refl _) _);have E:=hid (H.out.trans (Q.out.mono H.out.size));have D:=hid ((show Below w.heap.size w (w.alloc (.cells #[.string ⟨#[]⟩,.int .i64 0,.int .i64 0,.string ⟨#[]⟩] 124)) from (Below.refl _ _).alloc (Nat.le_refl _) _).trans (E.out.mono (by simp)));have p:=hid ((E.out.block w.heap.size (by simp)).trans G.out);have I:=hid (bM w2 (kO g i j));unfold kO at I;generalize w2.heap.size=M at *;generalize w2.alloc (.cells #[.int .i64 g,.int .i64 i,.string ⟨j.toArray⟩] 91)=z at *;obtain ⟨d0,d1,d2,_,d4⟩:=aZ (W:=z) (r:=M) (k:=g) (n:=i) (t:=j) I.out;obtain ⟨f0,f1,f2,f3,y,f5⟩:=nD (W:=z) (r:=w.heap.size) (n:=[]) (k:=0) (m:=0) (t:=[]) p.out;have p0:=y 0;have p1:=y 1;have p2:=y 2;have p3:=y 3;clear y;have T:=hid (fun (W:World) (hW:W.heap[w.heap.size]?=some (.cells #[.string ⟨#[]⟩,.int .i64 0,.int .i64 0,.string ⟨#[]⟩] 124 (0,0)))=>RH (w:=w) (W:=W) (r:=w.heap.size) (a:=[]) (b:=[]) (c:=0) (d:=0) hW A g i j);cases Z with
 | false =>
   go_region
   all_goals
    go_wp2
    obtain ⟨L,f,K,J,N,O⟩:=T.out z p.out;have l:=hid (show Below w.heap.size w L from by rw [f];exact ((((D.out).setCell (Nat.le_refl _) _).setCell (Nat.le_refl _) _).setCell (Nat.le_refl _) _).setCell (Nat.le_refl _) _);rw [<-f];exact bodyPost_ret (v:=.tuple #[FD (A,g,i,j),.string ⟨q.toArray⟩,.bool false]) (by simp [results,Tryz.results194,go_sem,FD,K,J,N,O]) rfl ⟨rfl,l.out.drew⟩
 | true =>
   go_region_with (go_at_call 128;refine (P.out _).mono ?_;rintro e w5 ⟨rfl,rfl⟩)
   all_goals
    go_wp2
    obtain ⟨L,f,K,J,N,O⟩:=T.out z p.out;have l:=hid (show Below w.heap.size w L from by rw [f];exact ((((D.out).setCell (Nat.le_refl _) _).setCell (Nat.le_refl _) _).setCell (Nat.le_refl _) _).setCell (Nat.le_refl _) _);rw [<-f];exact bodyPost_ret (v:=.tuple #[FD (A,g,i,j),.string ⟨q.toArray⟩,.bool ib]) (by simp [results,Tryz.results194,go_sem,FD,K,J,N,O]) rfl ⟨by simp,l.out.drew⟩
end Go.Proofs.YtomhbcfjhgecbaaGreatDoor.Adr
namespace Go.Proofs.YtomhbcfjhgecbaaGreatDoor.Adr
open Go.RowKit Go.Sort Go.Lib Go.Maps
open Go.Lib (hid)
def vG (v:Value) (d:Bool) (ty nm:List UInt8) (k:bW) (wh:Bool):Obj:=.cells #[v,.bool d,.string ⟨ty.toArray⟩,.string ⟨nm.toArray⟩,.int .i64 k.1,.int .i64 k.2.1,.string ⟨k.2.2.toArray⟩,.bool wh] 174 (0,0)
def IX (v:Value) (d:Bool) (ty nm:List UInt8) (k:bW) (wh:Bool):Value:=.agg #[v,.bool d,.string ⟨ty.toArray⟩,.string ⟨nm.toArray⟩,.int .i64 k.1,.int .i64 k.2.1,.string ⟨k.2.2.toArray⟩,.bool wh]
theorem dF {W:World} {r:Nat} {v:Value} {d wh:Bool} {ty nm:List UInt8} {k:bW} (h:W.heap[r]?=some (vG v d ty nm k wh)):(W.cell? ⟨r,0,none⟩=some v/\W.cell? ⟨r,1,none⟩=some (.bool d)/\W.cell? ⟨r,2,none⟩=some (.string ⟨ty.toArray⟩)/\W.cell? ⟨r,3,none⟩=some (.string ⟨nm.toArray⟩)/\W.cell? ⟨r,4,none⟩=some (.int .i64 k.1)/\W.cell? ⟨r,5,none⟩=some (.int .i64 k.2.1)/\W.cell? ⟨r,6,none⟩=some (.string ⟨k.2.2.toArray⟩)/\W.cell? ⟨r,7,none⟩=some (.bool wh))/\(∀ o,W.frozen? ⟨r,o,none⟩=false)/\r < W.heap.size:=by
 unfold vG at h;refine ⟨⟨by unfold World.cell?;simp [h],by unfold World.cell?;simp [h],by unfold World.cell?;simp [h],by unfold World.cell?;simp [h],by unfold World.cell?;simp [h],by unfold World.cell?;simp [h],by unfold World.cell?;simp [h],by unfold World.cell?;simp [h]⟩,fun o=>by unfold World.frozen?;simp [h],lt_of_block h⟩
structure Pl (w:World) (W:World) (v:Value) (xs:List MS) (d:Bool) (ty nm:List UInt8) (k:bW) (wh:Bool):Prop where
 ad:W.heap[w.heap.size+1]?=some (vG v d ty nm k wh)
 re:W.heap[w.heap.size]?=some (vG (.slice none 0 0) false [] [] (0,0,[]) false)
 own:eP (w.heap.size+2) W v xs
 bel:Below w.heap.size w W
 sz:w.heap.size+2<=W.heap.size
section
variable {w W:World} {v:Value} {xs:List MS} {d wh:Bool} {ty nm:List UInt8} {k:bW}
theorem kC {B:Nat} (h:eP B W v xs):∀ g,v.ownBlock=some g->B<=g/\g < W.heap.size:=World.ownsRow.lt h
theorem Pl.below {W':World} (h:Pl w W v xs d ty nm k wh) (hb:Below W.heap.size W W'):Pl w W' v xs d ty nm k wh:=
 ⟨(hb.block _ (lt_of_block h.ad)).trans h.ad,(hb.block _ (lt_of_block h.re)).trans h.re,dw h.own (grown_below hb) (fun _ _ e=>by cases e),h.bel.trans (hb.mono h.bel.size),Nat.le_trans h.sz hb.size⟩
theorem Pl.put {v':Value} {xs':List MS} {d' wh':Bool} {ty' nm':List UInt8} {k':bW} (h:Pl w W v xs d ty nm k wh) (i:Nat) (u:Value) (e:(W.setCell ⟨w.heap.size+1,i,none⟩ u).heap[w.heap.size+1]?=some (vG v' d' ty' nm' k' wh')) (ho:eP (w.heap.size+2) W v' xs') :
  Pl w (W.setCell ⟨w.heap.size+1,i,none⟩ u) v' xs' d' ty' nm' k' wh':=by
 have a:=aF W ⟨w.heap.size+1,i,none⟩ u;refine ⟨e,(Below.heap_setCell _ _ _ _ (by simp)).trans h.re,dw ho a (fun g b e=>?_),h.bel.grown a h.bel.size (fun k c=>by cases c;show w.heap.size<=w.heap.size+1;omega),Nat.le_trans h.sz a.size⟩;have:=kC ho g b;simp at e;omega
theorem Pl.p1 (h:Pl w W v xs d ty nm k wh) (d2:Bool):Pl w (W.setCell ⟨w.heap.size+1,1,none⟩ (.bool d2)) v xs d2 ty nm k wh:=by
 refine h.put 1 (.bool d2) ?_ h.own;have a:=h.ad;unfold World.setCell vG at *;simp only [Array.getElem?_modify,if_true,a,Option.map_some];rfl
theorem Pl.p2 (h:Pl w W v xs d ty nm k wh) (s2:List UInt8):Pl w (W.setCell ⟨w.heap.size+1,2,none⟩ (.string ⟨s2.toArray⟩)) v xs d s2 nm k wh:=by
 refine h.put 2 (.string ⟨s2.toArray⟩) ?_ h.own;have a:=h.ad;unfold World.setCell vG at *;simp only [Array.getElem?_modify,if_true,a,Option.map_some];rfl
theorem Pl.p3 (h:Pl w W v xs d ty nm k wh) (s2:List UInt8):Pl w (W.setCell ⟨w.heap.size+1,3,none⟩ (.string ⟨s2.toArray⟩)) v xs d ty s2 k wh:=by
 refine h.put 3 (.string ⟨s2.toArray⟩) ?_ h.own;have a:=h.ad;unfold World.setCell vG at *;simp only [Array.getElem?_modify,if_true,a,Option.map_some];rfl
theorem Pl.p4 (h:Pl w W v xs d ty nm k wh) (k2:bW):Pl w (((W.setCell ⟨w.heap.size+1,4,none⟩ (.int .i64 k2.1)).setCell ⟨w.heap.size+1,5,none⟩ (.int .i64 k2.2.1)).setCell ⟨w.heap.size+1,6,none⟩ (.string ⟨k2.2.2.toArray⟩)) v xs d ty nm k2 wh:=by
 have c:Pl w (W.setCell ⟨w.heap.size+1,4,none⟩ (.int .i64 k2.1)) v xs d ty nm (k2.1,k.2.1,k.2.2) wh:=by
  refine h.put 4 (.int .i64 k2.1) ?_ h.own;have a:=h.ad;unfold World.setCell vG at *;simp only [Array.getElem?_modify,if_true,a,Option.map_some];rfl
 have b:Pl w ((W.setCell ⟨w.heap.size+1,4,none⟩ (.int .i64 k2.1)).setCell ⟨w.heap.size+1,5,none⟩ (.int .i64 k2.2.1)) v xs d ty nm (k2.1,k2.2.1,k.2.2) wh:=by
  refine c.put 5 (.int .i64 k2.2.1) ?_ c.own;have a:=c.ad;generalize W.setCell ⟨w.heap.size+1,4,none⟩ (.int .i64 k2.1)=Y at *;unfold World.setCell vG at *;simp only [Array.getElem?_modify,if_true,a,Option.map_some];rfl
 refine b.put 6 (.string ⟨k2.2.2.toArray⟩) ?_ b.own;have a:=b.ad;generalize (W.setCell ⟨w.heap.size+1,4,none⟩ (.int .i64 k2.1)).setCell ⟨w.heap.size+1,5,none⟩ (.int .i64 k2.2.1)=Y at *;unfold World.setCell vG at *;simp only [Array.getElem?_modify,if_true,a,Option.map_some];rfl
theorem Pl.p7 (h:Pl w W v xs d ty nm k wh) (d2:Bool):Pl w (W.setCell ⟨w.heap.size+1,7,none⟩ (.bool d2)) v xs d ty nm k d2:=by
 refine h.put 7 (.bool d2) ?_ h.own;have a:=h.ad;unfold World.setCell vG at *;simp only [Array.getElem?_modify,if_true,a,Option.map_some];rfl
theorem Pl.app {W1 W2:World} (h:Pl w W v xs d ty nm k wh) (hb:Below W.heap.size W W1) {y:MS} {H g cap len:Nat} (hl:len=xs.length+1) (hm:EQ (w.heap.size+2) W1 v (xs ++ [y]) H g cap W2) :
  (W2.cell? ⟨w.heap.size+1,0,none⟩=some v/\W2.frozen? ⟨w.heap.size+1,0,none⟩=false)/\Pl w (W2.setCell ⟨w.heap.size+1,0,none⟩ (.slice (some ⟨g,0,none⟩) len cap)) (.slice (some ⟨g,0,none⟩) len cap) (xs ++ [y]) d ty nm k wh:=by
 have l:len=(xs ++ [y]).length:=by simp [hl]
 rw [l];clear hl l;have a:=h.below hb;have p:=kC a.own;have n:=hm.2.1;have f:∀ j,j < w.heap.size+2->W2.heap[j]?=W1.heap[j]?:=fun j s=>n.block j (Nat.lt_of_lt_of_le s a.sz) (fun e=>by have:=(p j e.symm).1;omega);have i:=(f _ (by omega)).trans a.ad;have q:=(f _ (by omega)).trans a.re;obtain ⟨⟨t,_⟩,r,_⟩:=dF i;refine ⟨⟨t,r 0⟩,?_⟩;have c:=aF W2 ⟨w.heap.size+1,0,none⟩ (.slice (some ⟨g,0,none⟩) (xs ++ [y]).length cap);have b:Below w.heap.size w W2:=a.bel.grown n a.bel.size (fun k m=>by have:=(p k m).1;omega);refine ⟨?_,(Below.heap_setCell _ _ _ _ (by simp)).trans q,dw hm.1 c (fun u o e=>?_),b.grown c b.size (fun k m=>by cases m;show w.heap.size<=w.heap.size+1;omega),Nat.le_trans (Nat.le_trans a.sz n.size) c.size⟩
 . unfold World.setCell vG at *
   simp only [Array.getElem?_modify,if_true,i,Option.map_some];rfl
 . have:=(kC hm.1 u o).1
   simp at e;omega
set_option maxHeartbeats 8000000 in
theorem Pl.fin (h:Pl w W v xs d ty nm k wh) (v2:Value) (d2:Bool) (ty2 nm2:List UInt8) (k2:bW) (wh2:Bool) :
  ∃ W',W'=(((((((W.setCell ⟨w.heap.size,0,none⟩ v2).setCell ⟨w.heap.size,1,none⟩ (.bool d2)).setCell ⟨w.heap.size,2,none⟩ (.string ⟨ty2.toArray⟩)).setCell ⟨w.heap.size,3,none⟩ (.string ⟨nm2.toArray⟩)).setCell ⟨w.heap.size,4,none⟩ (.int .i64 k2.1)).setCell ⟨w.heap.size,5,none⟩ (.int .i64 k2.2.1)).setCell ⟨w.heap.size,6,none⟩ (.string ⟨k2.2.2.toArray⟩)).setCell ⟨w.heap.size,7,none⟩ (.bool wh2) /\
   W'.heap[w.heap.size]?=some (vG v2 d2 ty2 nm2 k2 wh2)/\eP (w.heap.size+2) W' v xs/\Below w.heap.size w W':=by
 refine ⟨_,rfl,?_,?_,?_⟩
 . have f:=h.re
   unfold World.setCell vG at *;simp only [Array.getElem?_modify,if_true,f,Option.map_some];rfl
 . have a:∀ (X:World) (i:Nat) (u:Value),eP (w.heap.size+2) X v xs->eP (w.heap.size+2) (X.setCell ⟨w.heap.size,i,none⟩ u) v xs:=fun X i u c=>dw c (aF X _ u) (fun g b e=>by have:=(kC c g b).1;simp at e;omega)
   exact a _ _ _ (a _ _ _ (a _ _ _ (a _ _ _ (a _ _ _ (a _ _ _ (a _ _ _ (a _ _ _ h.own)))))))
 . exact (((((((h.bel.setCell (Nat.le_refl _) _).setCell (Nat.le_refl _) _).setCell (Nat.le_refl _) _).setCell (Nat.le_refl _) _).setCell (Nat.le_refl _) _).setCell (Nat.le_refl _) _).setCell (Nat.le_refl _) _).setCell (Nat.le_refl _) _
end
theorem Pl.start (w:World):Pl w ((w.alloc (vG (.slice none 0 0) false [] [] (0,0,[]) false)).alloc (vG (.slice none 0 0) false [] [] (0,0,[]) false)) (.slice none 0 0) [] false [] [] (0,0,[]) false:=by
 have b:Below w.heap.size w (w.alloc (vG (.slice none 0 0) false [] [] (0,0,[]) false)):=(Below.refl _ _).alloc (Nat.le_refl _) _;have c:=bM w (vG (.slice none 0 0) false [] [] (0,0,[]) false);have f:(w.alloc (vG (.slice none 0 0) false [] [] (0,0,[]) false)).heap.size=w.heap.size+1:=by simp [World.size_alloc]
 generalize w.alloc (vG (.slice none 0 0) false [] [] (0,0,[]) false)=w1 at *;have a:Below w1.heap.size w1 (w1.alloc (vG (.slice none 0 0) false [] [] (0,0,[]) false)):=(Below.refl _ _).alloc (Nat.le_refl _) _;have d:=bM w1 (vG (.slice none 0 0) false [] [] (0,0,[]) false);refine ⟨by rw [<-f];exact d,(a.block _ (lt_of_block c)).trans c,iM _ _,b.trans (a.mono (by omega)),by simp [World.size_alloc];omega⟩
theorem L6 (l:List UInt8):(dX l).2.1.length<=l.length:=by
 unfold dX;split
 . exact Nat.le_refl _
 . split
   . split
     . exact Nat.zero_le _
     . show (l.drop _).length<=l.length
       rw [List.length_drop];omega
   . split
     . exact Nat.zero_le _
     . show (l.drop _).length<=l.length
       rw [List.length_drop];omega
theorem Hz (l:List UInt8):(jh l).2.1.length<=l.length:=by
 show (dX (iV l)).2.1.length<=l.length;have b:=L6 (iV l);have a:=(AA l).2;omega
theorem DF {l:List UInt8} (h:¬ Lib.hasPrefix l dN=false):7<=l.length:=by
 have b:Lib.hasPrefix l dN=true:=by cases a:Lib.hasPrefix l dN with
  | true=>rfl
  | false=>exact absurd a h
 exact Lib.hasPrefix_le b
theorem xN {l:List UInt8} {n:Nat} (h1:¬ Lib.hasPrefix l dN=false) (h3:¬ (jh (l.drop 7)).2.1=[]) (hn:l.length < n+1):(jh (l.drop 7)).2.1.tail.length < n:=by
 have b:=DF h1;have a:=Hz (l.drop 7);rw [List.length_drop] at a;rw [List.length_tail];omega
theorem yM:∀ (n m:Nat) (l:List UInt8),l.length < n->l.length < m->iI n l=iI m l
 | 0,_,_,h,_=>by omega
 | _,0,_,_,h=>by omega
 | n+1,m+1,l,hn,hm=>by
   rw [iI,iI]
   by_cases h1:Lib.hasPrefix l dN=false
   . rw [if_pos h1,if_pos h1]
   . rw [if_neg h1,if_neg h1]
     by_cases h2:(jh (l.drop 7)).2.2=false
     . rw [if_pos h2,if_pos h2]
     . rw [if_neg h2,if_neg h2]
       by_cases h3:(jh (l.drop 7)).2.1=[]
       . rw [if_pos h3,if_pos h3]
       . rw [if_neg h3,if_neg h3]
         by_cases h4:((jh (l.drop 7)).2.1.getD 0 0).toNat≠46
         . rw [if_pos h4,if_pos h4]
         . rw [if_neg h4,if_neg h4,yM n m _ (xN h1 h3 hn) (xN h1 h3 hm)]
end Go.Proofs.YtomhbcfjhgecbaaGreatDoor.Adr
namespace Go.Proofs.YtomhbcfjhgecbaaGreatDoor.Adr
open Go.RowKit Go.Sort Go.Lib Go.Maps
open Go.Lib (hid)
def U6 (l:List UInt8) (w:World) (e:Ending) (w':World):Prop:=
 ∃ v xs d ty nm k wh ok,e=.returned (.tuple #[IX v d ty nm k wh,.bool ok])/\eP (w.heap.size+2) w' v xs/\Below w.heap.size w w' /\
  ((ok=false/\rP l=none) ∨ (ok=true/\wh=false/\∃ xs',rP l=some (xs',none)) ∨ (ok=true/\wh=true/\rP l=some (xs,some (d,ty,nm,k))))
theorem qA (l:List UInt8):iI (l.length+1) l =
  if Lib.hasPrefix l dN=false then some ([],some l)
  else if (jh (l.drop 7)).2.2=false then none
  else if (jh (l.drop 7)).2.1=[] then some ([(jh (l.drop 7)).1],none)
  else if ((jh (l.drop 7)).2.1.getD 0 0).toNat≠46 then none
  else (iI ((jh (l.drop 7)).2.1.tail.length+1) (jh (l.drop 7)).2.1.tail).map fun x=>((jh (l.drop 7)).1 :: x.1,x.2):=by
 rw [iI]
 by_cases a:Lib.hasPrefix l dN=false
 . rw [if_pos a,if_pos a]
 . rw [if_neg a,if_neg a]
   by_cases c:(jh (l.drop 7)).2.2=false
   . rw [if_pos c,if_pos c]
   . rw [if_neg c,if_neg c]
     by_cases b:(jh (l.drop 7)).2.1=[]
     . rw [if_pos b,if_pos b]
     . rw [if_neg b,if_neg b]
       by_cases d:((jh (l.drop 7)).2.1.getD 0 0).toNat≠46
       . rw [if_pos d,if_pos d]
       . rw [if_neg d,if_neg d,yM l.length _ _ (xN a b (Nat.lt_succ_self _)) (Nat.lt_succ_self _)]
def Kq (l0:List UInt8) (xs:List MS) (l:List UInt8):Prop:=iI (l0.length+1) l0=(iI (l.length+1) l).map fun x=>(xs ++ x.1,x.2)
theorem J4 (l:List UInt8):Kq l [] l:=by
 unfold Kq;cases iI (l.length+1) l with
 | none=>rfl
 | some x=>simp
theorem Oc {l0 l:List UInt8} {xs:List MS} (h:Kq l0 xs l) (h1:Lib.hasPrefix l dN=true) (h2:(jh (l.drop 7)).2.2=true) (h3:¬ (jh (l.drop 7)).2.1=[]) (h4:((jh (l.drop 7)).2.1.getD 0 0).toNat=46):Kq l0 (xs ++ [(jh (l.drop 7)).1]) (jh (l.drop 7)).2.1.tail:=by
 unfold Kq at *;rw [h,qA l,if_neg (by rw [h1];simp),if_neg (by rw [h2];simp),if_neg h3,if_neg (fun a=>a h4)];cases iI ((jh (l.drop 7)).2.1.tail.length+1) (jh (l.drop 7)).2.1.tail with
 | none=>rfl
 | some x=>simp
theorem Pg {l0 l:List UInt8} {xs:List MS} (h:Kq l0 xs l) (h1:Lib.hasPrefix l dN=true) (h2:(jh (l.drop 7)).2.2=false ∨ (¬ (jh (l.drop 7)).2.1=[]/\((jh (l.drop 7)).2.1.getD 0 0).toNat≠46)):rP l0=none:=by
 unfold rP;unfold Kq at h;rw [h,qA l,if_neg (by rw [h1];simp)];rcases h2 with h2 | ⟨h3,h4⟩
 . rw [if_pos h2];rfl
 . by_cases h2:(jh (l.drop 7)).2.2=false
   . rw [if_pos h2];rfl
   . rw [if_neg h2,if_neg h3,if_pos h4];rfl
theorem Qc {l0 l:List UInt8} {xs:List MS} (h:Kq l0 xs l) (h1:Lib.hasPrefix l dN=true) (h2:(jh (l.drop 7)).2.2=true) (h3:(jh (l.drop 7)).2.1=[]):∃ xs',rP l0=some (xs',none):=by
 unfold rP;unfold Kq at h;rw [h,qA l,if_neg (by rw [h1];simp),if_neg (by rw [h2];simp),if_pos h3];exact ⟨_,rfl⟩
theorem RG {l0 l:List UInt8} {xs:List MS} (h:Kq l0 xs l) (h1:Lib.hasPrefix l dN=false):rP l0=(BZ l).map fun t=>(xs,some t):=by
 unfold rP;unfold Kq at h;rw [h,qA l,if_pos h1];simp
end Go.Proofs.YtomhbcfjhgecbaaGreatDoor.Adr
namespace Go.Proofs.YtomhbcfjhgecbaaGreatDoor.Adr
open Go.RowKit Go.Sort Go.Lib Go.Maps
open Go.Lib (hid)
section
variable {w:World} {ops:Array Oper} {rest:List Oper} {o:Oper} {a:Act} {Q:Exit->Act->World->Prop}
theorem Uu (hgd:o.guard=none) (s x:Operand) (ho:o.op=.call { callee:=.builtin .append,args:=#[s,x],argTypes:=#[88,88] })
  (B:Nat) (v:Value) (xs:List MS) (hs:a.eval s=v) (hown:eP B w v xs) (nb c:Nat) (y:MS) (hx:a.eval x=.slice (some ⟨nb,0,none⟩) 1 c) {fr:Nat × Nat} (hy:w.heap[nb]?=some (.cells #[.string ⟨y.1.toArray⟩,.int .i64 y.2.1,.int .i64 y.2.2.1,.string ⟨y.2.2.2.toArray⟩] 124 fr))
  (hn:xs.length+1<=2000000) (hbase:B<=w.heap.size) (H:Nat) (hH:w.heap.size=H)
  (h:∀ g cap w',EQ B w v (xs ++ [y]) H g cap w'->wpList Tryz.prog ops Q rest (a.put o.dst (.slice (some ⟨g,0,none⟩) (xs.length+1) cap)) w'):wpList Tryz.prog ops Q (o :: rest) a w:=by
 subst hH;refine je qI qc sU Tryz.underlying88 Ae rfl (by omega) (by omega) hgd s x ho B v xs hs hown nb 1 c [y] rfl (by omega) hx (fr:=fr) hy hn hbase ?_;intro g cap w' f i d b;exact h g cap w' (xZ f i d b)
end
theorem ql {B:Nat} {w:World} {v:Value} {xs:List MS} (h:eP B w v xs):∃ r c,v=.slice r xs.length c/\xs.length<=c/\c<=maxLen:=dJ h
theorem FZ {l:List UInt8} (h:l=[]):(⟨l.toArray⟩:ByteArray).toList.isEmpty=true:=by subst h;rw [ByteArray.toList_eq];rfl
theorem Ak {l:List UInt8} (h:¬ l=[]):(⟨l.toArray⟩:ByteArray).toList.isEmpty=false:=by
 rw [ByteArray.toList_eq];cases l with
 | nil=>exact absurd rfl h
 | cons c r=>rfl
theorem mF (l:List UInt8):(⟨l.toArray⟩:ByteArray).size=l.length:=by simp [ByteArray.size]
theorem QV {l:List UInt8} (h:¬ l=[]):∃ hp:0 < (⟨l.toArray⟩:ByteArray).size,((⟨l.toArray⟩:ByteArray)[0]'hp)=l.getD 0 0:=by
 cases l with
 | nil=>exact absurd rfl h
 | cons c r=>exact ⟨by rw [mF];simp,rfl⟩
theorem Oh (l:List UInt8) (n:Nat):(⟨l.toArray⟩:ByteArray).extract n (⟨l.toArray⟩:ByteArray).size=⟨(l.drop n).toArray⟩:=nP ⟨l.toArray⟩ n
theorem NC {l0 l:List UInt8} {xs:List MS} (h:rP l0=(BZ l).map fun t=>(xs,some t)) {ty rs:List UInt8} (h1:mg (Lib.trimPrefix l fO)=ty) (h2:iV (Lib.trimPrefix l fO)=rs) :
  ((eH ty=false ∨ nN ty=true ∨ (rs.getD 0 0).toNat≠46)->rP l0=none) /\
  (¬ (eH ty=false ∨ nN ty=true ∨ (rs.getD 0 0).toNat≠46)->(eH (mg rs.tail)=false ∨ (dX (iV rs.tail)).2.2=false ∨ (dX (iV rs.tail)).2.1≠[])->rP l0=none) /\
  (¬ (eH ty=false ∨ nN ty=true ∨ (rs.getD 0 0).toNat≠46)->¬ (eH (mg rs.tail)=false ∨ (dX (iV rs.tail)).2.2=false ∨ (dX (iV rs.tail)).2.1≠[])->rP l0=some (xs,some (Lib.hasPrefix l fO,ty,mg rs.tail,(dX (iV rs.tail)).1))):=by
 subst h1 h2;refine ⟨fun a=>?_,fun a b=>?_,fun a b=>?_⟩
 . rw [h,show BZ l=none by unfold BZ;rw [if_pos a]];rfl
 . rw [h,show BZ l=none by unfold BZ;rw [if_neg a,if_pos b]];rfl
 . rw [h,show BZ l=some (Lib.hasPrefix l fO,mg (Lib.trimPrefix l fO),mg (iV (Lib.trimPrefix l fO)).tail,(dX (iV (iV (Lib.trimPrefix l fO)).tail)).1) by unfold BZ;rw [if_neg a,if_neg b]];rfl
set_option maxRecDepth 100000 in
set_option maxHeartbeats 40000000 in
theorem Gg (s:ByteArray) (w:World) (hs:s.size<=1200001):Calls Tryz.prog 150 #[.string s] w (U6 s.data.toList w):=by
 have I0:=hid (Pl.start w);unfold vG at I0;have cT:=hid True.intro;go_enter Tryz.func150,Tryz.ntmps150;go_wp2
 clear cT;generalize d4:(World.alloc _ _)=W0 at *;go_loopg [0] (s.size+1) (fun gg s0 wr=>∃ (b:ByteArray) (v:Value) (G:List MS),s0=.string b/\b.size<=gg/\b.size<=s.size/\Hid (Pl w wr v G false [] [] (0,0,[]) false)/\Hid (Kq s.data.toList G b.data.toList)/\G.length+b.size<=s.size)
 case atStart=>exact ⟨s,_,[],rfl,by omega,Nat.le_refl _,I0,hid (J4 _),by simp⟩
 case round =>
  clear I0;obtain ⟨b,v,G,rfl,cQ,da,HP,HM,cN⟩:=hrel;obtain ⟨ro,co,hv,d5,d2⟩:=ql HP.out.own;subst hv;have bd:b.size<=1200001:=by omega
  have ba:=aj b;have am:Hid (∀ W:World,Calls Tryz.prog 193 #[.string b,.string ⟨#[109,111,100,117,108,101,46]⟩] W fun e K=>e=.returned (.bool (Lib.hasPrefix b.data.toList dN))/\W=K):=hid (fun W=>vC b ⟨#[109,111,100,117,108,101,46]⟩ W (by omega) (by decide));have bo:Hid (∀ W:World,Calls Tryz.prog 193 #[.string b,.string ⟨#[100,97,116,97,46]⟩] W fun e K=>e=.returned (.bool (Lib.hasPrefix b.data.toList fO))/\W=K):=hid (fun W=>vC b ⟨#[100,97,116,97,46]⟩ W (by omega) (by decide));have aw:=hid (fun (W:World) h7=>JC b W bd h7);have bb:=aY b 5;obtain ⟨l,hl⟩:∃ l,b.data.toList=l:=⟨_,rfl⟩;rw [hl] at am bo HM aw ba bb;have bA:=hid hl;clear hl;have cL:=hid (show G.length+1<=2000000 by omega);cases hm:Lib.hasPrefix l dN with
  | true =>
    rw [hm] at am;have h7:=DF (l:=l) (by rw [hm];simp);have bL:=hid (fun W=>aw.out W (by omega));have J:=hid (fun h=>Pg HM.out hm h);have L:=hid (fun h2 h3=>Qc HM.out hm h2 h3);have E:=hid (fun h2 h3 h4=>Oc HM.out hm h2 h3 h4);have S:=Hz (l.drop 7);rw [List.length_drop] at S;generalize jh (l.drop 7)=X at *;obtain ⟨⟨d,i,j,f⟩,p,ok⟩:=X;simp only at J L E S;clear HM bd bo aw bb bA;simp only [FD,Rz] at bL;obtain ⟨F,bB⟩:∃ F:ByteArray,F=⟨p.toArray⟩:=⟨_,rfl⟩;rw [<-bB] at bL;have cF:=hid bB;clear bB;go_upto_region 4 with (first | (go_at_call 193;refine Calls.mono (am.out _) ?_;rintro e w1 ⟨rfl,rfl⟩) | (go_at_call 194;refine Calls.mono (bL.out _) ?_;rintro e w2 ⟨rfl,bO⟩;have cV:=hid (bO.trans ((show Below w2.heap.size w2 (w2.alloc (.cells #[.string ⟨d.toArray⟩,.int .i64 i,.int .i64 j,.string ⟨f.toArray⟩] 124)) from (Below.refl _ _).alloc (Nat.le_refl _) _).mono bO.size));have ac:=hid (HP.out.below cV.out);clear bO))
    cases ok with
    | false =>
      have u:=hid (J.out (Or.inl rfl));clear J L E;obtain ⟨⟨b0,b1,Y,b3,b4,b5,b6,b7⟩,a,bl⟩:=dF ac.out.re;have br:=a 0;have bk:=a 1;have bs:=a 2;have be:=a 3;have bh:=a 4;have bp:=a 5;have bt:=a 6;have bx:=a 7;clear a;go_wp2_with fail
      obtain ⟨W9,c,f1,f2,f3⟩:=ac.out.fin (.slice none 0 0) false [] [] (0,0,[]) false;obtain ⟨⟨r0,r1,V,B,r4,Z,U,r7⟩,_,_⟩:=dF f1
      first | rw [<-c] | (simp only [] at c;rw [<-c])
      exact bodyPost_ret (v:=.tuple #[IX (.slice none 0 0) false [] [] (0,0,[]) false,.bool false]) (by simp [results,Tryz.results150,go_sem,IX,r0,r1,V,B,r4,Z,U,r7]) rfl ⟨_,[],_,_,_,_,_,_,rfl,iM _ _,f3,Or.inl ⟨rfl,u.out⟩⟩
    | true =>
      obtain ⟨⟨a0,a1,a2,a3,a4,a5,a6,a7⟩,y,al⟩:=dF ac.out.ad;have cy:=y 0;have ct:=y 1;have cv:=y 2;have cI:=y 3;have cq:=y 4;have cx:=y 5;have cm:=y 6;have cH:=y 7;clear y;obtain ⟨s0,s1,s2,s3,_,s5⟩:=nD (n:=d) (k:=i) (m:=j) (t:=f) (bM w2 (sO d i j f));unfold sO at s0 s1 s2 s3;have bE:=hid (show Below (w2.alloc (.cells #[.string ⟨d.toArray⟩,.int .i64 i,.int .i64 j,.string ⟨f.toArray⟩] 124)).heap.size (w2.alloc (.cells #[.string ⟨d.toArray⟩,.int .i64 i,.int .i64 j,.string ⟨f.toArray⟩] 124)) ((w2.alloc (.cells #[.string ⟨d.toArray⟩,.int .i64 i,.int .i64 j,.string ⟨f.toArray⟩] 124)).alloc (.cells #[.string ⟨d.toArray⟩,.int .i64 i,.int .i64 j,.string ⟨f.toArray⟩] 124)) from (Below.refl _ _).alloc (Nat.le_refl _) _)
      have cM:=hid (show ((w2.alloc (.cells #[.string ⟨d.toArray⟩,.int .i64 i,.int .i64 j,.string ⟨f.toArray⟩] 124)).alloc (.cells #[.string ⟨d.toArray⟩,.int .i64 i,.int .i64 j,.string ⟨f.toArray⟩] 124)).heap[w2.heap.size+1]?=some (.cells #[.string ⟨d.toArray⟩,.int .i64 i,.int .i64 j,.string ⟨f.toArray⟩] 124 (0,0)) from by
       have h:=bM (w2.alloc (.cells #[.string ⟨d.toArray⟩,.int .i64 i,.int .i64 j,.string ⟨f.toArray⟩] 124)) (sO d i j f);rw [show (w2.alloc (.cells #[.string ⟨d.toArray⟩,.int .i64 i,.int .i64 j,.string ⟨f.toArray⟩] 124)).heap.size=w2.heap.size+1 by simp] at h;exact h)
      have c8:=hid (show eP (w.heap.size+2) ((w2.alloc (.cells #[.string ⟨d.toArray⟩,.int .i64 i,.int .i64 j,.string ⟨f.toArray⟩] 124)).alloc (.cells #[.string ⟨d.toArray⟩,.int .i64 i,.int .i64 j,.string ⟨f.toArray⟩] 124)) (.slice ro G.length co) G from dw ac.out.own (grown_below bE.out) (fun _ _ e=>by cases e));have db:=hid (show w.heap.size+2<=((w2.alloc (.cells #[.string ⟨d.toArray⟩,.int .i64 i,.int .i64 j,.string ⟨f.toArray⟩] 124)).alloc (.cells #[.string ⟨d.toArray⟩,.int .i64 i,.int .i64 j,.string ⟨f.toArray⟩] 124)).heap.size from Nat.le_trans ac.out.sz bE.out.size)
      go_upto_region 7 with (at_builtin
                             refine Uu rfl _ _ rfl (w.heap.size+2) (.slice ro G.length co) G rfl c8.out (w2.heap.size+1) 1 (d,i,j,f) rfl (fr:=(0,0)) (by exact cM.out) cL.out db.out (w2.heap.size+2) (by simp) ?_;intro g ce w8 cw;have cA:=hid (ac.out.app bE.out rfl cw);obtain ⟨u1,u2⟩:=cA.out.1;clear cw)
      clear s0 s1 s2 s3 s5 a0 a1 a2 a3 a4 a5 a6 a7 cy ct cv cI cq cx cm cH;have P:=cA.out.2;generalize World.setCell _ _ _=W8 at *
      by_cases r:p=[]
      case pos =>
       have u:=hid (L.out rfl r);have eL:F.toList.isEmpty=true:=by rw [cF.out];exact FZ r
       clear J L E r;obtain ⟨⟨b0,b1,Y,b3,b4,b5,b6,b7⟩,a,bl⟩:=dF P.re;have br:=a 0;have bk:=a 1;have bs:=a 2;have be:=a 3;have bh:=a 4;have bp:=a 5;have bt:=a 6;have bx:=a 7;clear a;obtain ⟨⟨c0,c1,c2,c3,c4,c5,c6,c7⟩,cf,cl⟩:=dF P.ad;clear cf;go_wp2_with fail
       obtain ⟨W9,c,f1,f2,f3⟩:=P.fin (.slice (some ⟨g,0,none⟩) (G.length+1) ce) false [] [] (0,0,[]) false;obtain ⟨⟨r0,r1,V,B,r4,Z,U,r7⟩,_,_⟩:=dF f1
       first | rw [<-c] | (simp only [] at c;rw [<-c])
       exact bodyPost_ret (v:=.tuple #[IX (.slice (some ⟨g,0,none⟩) (G.length+1) ce) false [] [] (0,0,[]) false,.bool true]) (by simp [results,Tryz.results150,go_sem,IX,r0,r1,V,B,r4,Z,U,r7]) rfl ⟨_,_,_,_,_,_,_,_,rfl,f2,f3,Or.inr (Or.inl ⟨rfl,rfl,u.out⟩)⟩
      case neg =>
       obtain ⟨eL,⟨bj,T⟩,av⟩:F.toList.isEmpty=false/\(∃ hp:0 < F.size,(F[0]'hp)=p.getD 0 0)/\F.extract 1 F.size=⟨p.tail.toArray⟩:=by rw [cF.out];exact ⟨Ak r,QV r,by rw [Oh,List.drop_one]⟩
       have cR:(0:Int) < (F.size:Int):=by omega
       by_cases O:(p.getD 0 0).toNat=46
       case pos =>
        have cg:((((F[0]'bj).toNat:Nat):Int) != 46)=false:=by rw [T,O];rfl
        have cY:(1:Int)<=(F.size:Int):=by omega
        have cr:=hid av;have cW:=hid S;have u:=hid (E.out rfl r O);have P:=hid P;clear T av S r O J L E;go_wp2_with fail
        go_roundg (b.size - 7)
        case measure=>omega
        case rel =>
         have dy:=cW.out;have bN:(F.extract 1 F.size).size=p.tail.length:=by rw [cr.out,mF]
         have cp:p.tail.length=p.length - 1:=List.length_tail;exact ⟨F.extract 1 F.size,_,G ++ [(d,i,j,f)],rfl,by rw [bN];omega,by rw [bN];omega,P,by rw [cr.out];exact u,by rw [bN,List.length_append,List.length_singleton];omega⟩
       case neg =>
        have cg:((((F[0]'bj).toNat:Nat):Int) != 46)=true:=by rw [T];exact bne_iff_ne.2 (by omega)
        have u:=hid (J.out (Or.inr ⟨r,O⟩));clear T av r O J L E;obtain ⟨⟨b0,b1,Y,b3,b4,b5,b6,b7⟩,a,bl⟩:=dF P.re;have br:=a 0;have bk:=a 1;have bs:=a 2;have be:=a 3;have bh:=a 4;have bp:=a 5;have bt:=a 6;have bx:=a 7;clear a;go_wp2_with fail
        obtain ⟨W9,c,f1,f2,f3⟩:=P.fin (.slice none 0 0) false [] [] (0,0,[]) false;obtain ⟨⟨r0,r1,V,B,r4,Z,U,r7⟩,_,_⟩:=dF f1
        first | rw [<-c] | (simp only [] at c;rw [<-c])
        exact bodyPost_ret (v:=.tuple #[IX (.slice none 0 0) false [] [] (0,0,[]) false,.bool false]) (by simp [results,Tryz.results150,go_sem,IX,r0,r1,V,B,r4,Z,U,r7]) rfl ⟨_,[],_,_,_,_,_,_,rfl,iM _ _,f3,Or.inl ⟨rfl,u.out⟩⟩
  | false =>
    rw [hm] at am;clear aw;go_upto_region 12 with (go_at_call 193;have hh:=am.out;clear am;refine Calls.mono (hh _) ?_;clear hh;rintro e w1 ⟨rfl,rfl⟩)
    go_upto_if 43 with (go_at_call 193;refine Calls.mono (bo.out _) ?_;rintro e w1 ⟨rfl,rfl⟩)
    go_cut [0] (fun s0 wx=>∃ Y:ByteArray,s0=.string Y/\Y.size<=1200001/\Y.data.toList=Lib.trimPrefix l fO/\Aside (Pl w wx (.slice ro G.length co) G (Lib.hasPrefix l fO) [] [] (0,0,[]) false))
    case first =>
     cases hd:Lib.hasPrefix l fO with
     | false =>
       go_wp2_with fail
       go_meet
       exact ⟨b,rfl,bd,bA.out.trans (Bh hd).symm,by rw [hd];exact HP.out⟩
     | true =>
       have h5:5<=b.size:=by have h:=Lib.hasPrefix_le hd;rw [ba] at h;exact h
       have dv:(5:Int)<=(b.size:Int):=by omega
       have aL:=hid (HP.out.p1 true);obtain ⟨⟨_,d1,_⟩,df,dl⟩:=dF HP.out.ad;have du:=df 1;clear df;go_wp2_with fail
       go_meet
       exact ⟨b.extract 5 b.size,rfl,by rw [ext_size b 5 h5];omega,by rw [bb,Eu hd];rfl,by rw [hd];exact aL.out⟩
    case rest =>
    obtain ⟨Y,rfl,cP,cB,aL⟩:=hcut;clear HP bo bb bA;have ao:=hid (fun W=>ve Y W (by omega));unfold U2 at ao;have hw:=AA Y.data.toList;rw [aj] at hw;rw [cB] at ao hw;obtain ⟨q,ca⟩:∃ q,mg (Lib.trimPrefix l fO)=q:=⟨_,rfl⟩;obtain ⟨z,r⟩:∃ z,iV (Lib.trimPrefix l fO)=z:=⟨_,rfl⟩;obtain ⟨bg,I,H⟩:=NC (RG HM.out hm) ca r;rw [ca,r] at ao hw;obtain ⟨dj,cK⟩:=hw;clear ca r cB ba da cN cQ;generalize Lib.hasPrefix l fO=dd at *;have N:Hid (∀ W:World,Calls Tryz.prog 128 #[.string ⟨q.toArray⟩] W fun e K=>e=.returned (.bool (eH q))/\W=K):=hid (fun W=>lH ⟨q.toArray⟩ W (by rw [mF];omega));have Q:Hid (∀ W:World,Calls Tryz.prog 196 #[.string ⟨q.toArray⟩] W fun e K=>e=.returned (.bool (nN q))/\Below W.heap.size W K):=hid (fun W=>qN ⟨q.toArray⟩ W);obtain ⟨tb,b8⟩:∃ tb:ByteArray,tb=⟨q.toArray⟩:=⟨_,rfl⟩;obtain ⟨A,ab⟩:∃ tb:ByteArray,tb=⟨z.toArray⟩:=⟨_,rfl⟩;rw [<-b8] at ao N Q;rw [<-ab] at ao;have av:A.extract 1 A.size=⟨z.tail.toArray⟩:=by rw [ab,Oh,List.drop_one]
    have a8:A.size=z.length:=by rw [ab,mF]
    have cp:z.tail.length=z.length - 1:=List.length_tail;have cn:=AA z.tail
    have aE:Hid (∀ W:World,Calls Tryz.prog 195 #[.string (A.extract 1 A.size)] W fun e K=>e=.returned (.tuple #[.string ⟨(mg z.tail).toArray⟩,.string ⟨(iV z.tail).toArray⟩])/\Below W.heap.size W K):=by
     rw [av];exact hid (fun W=>ve ⟨z.tail.toArray⟩ W (by rw [mF];omega))
    obtain ⟨d,cC⟩:∃ q,mg z.tail=q:=⟨_,rfl⟩;obtain ⟨kd,cb⟩:∃ dc,iV z.tail=dc:=⟨_,rfl⟩;rw [cC,cb] at aE I H cn;obtain ⟨cU,cX⟩:=cn;have M:Hid (∀ W:World,Calls Tryz.prog 128 #[.string ⟨d.toArray⟩] W fun e K=>e=.returned (.bool (eH d))/\W=K):=hid (fun W=>lH ⟨d.toArray⟩ W (by rw [mF];omega));have ar:Hid (∀ W:World,Calls Tryz.prog 197 #[.string ⟨kd.toArray⟩] W fun e K=>e=Jk (dX kd)/\Below W.heap.size W K):=hid (fun W=>Fp ⟨kd.toArray⟩ W (by rw [mF];omega));generalize dX kd=X at *;obtain ⟨⟨i,j,f⟩,B,ok⟩:=X;unfold Jk kV at ar;simp only at ar I H;obtain ⟨nb,bX⟩:∃ tb:ByteArray,tb=⟨d.toArray⟩:=⟨_,rfl⟩;obtain ⟨kb,cs⟩:∃ tb:ByteArray,tb=⟨kd.toArray⟩:=⟨_,rfl⟩;obtain ⟨de,a9⟩:∃ tb:ByteArray,tb=⟨B.toArray⟩:=⟨_,rfl⟩;rw [<-bX] at aE M;rw [<-cs] at aE ar;rw [<-a9] at ar;have aR:=hid bX;have aM:=hid b8;have bc:=hid ab;have cE:=hid a9;have bq:=hid a8;clear dj cK cU cX cP av cC cb cp cs HM bd bX b8 ab a9 a8;go_upto_region 16 with (go_at_call 195;refine Calls.mono (ao.out _) ?_;rintro e w3 ⟨rfl,cG⟩;have bR:=hid (aL.out.below cG);clear cG)
    have D:=hid (Below.refl w3.heap.size w3);obtain ⟨B1,o⟩:∃ B1:Bool,B1=(!eH q || (nN q || !decide ((z.getD 0 0).toNat=46))):=⟨_,rfl⟩;have ap:=hid o;clear o;go_cut [68] (fun c9 wx=>c9=.bool B1/\Aside (Below w3.heap.size w3 wx))
    case first =>
     have o:=ap.out;have a8:=bq.out;clear ap bg I H aE M ar aR aM cE aL bR bq;cases aq:eH q with
     | false =>
       rw [aq] at N o;simp only [Bool.not_false,Bool.true_or] at o;subst o;clear aq;go_wp2_with (first | (go_at_call 128;refine Calls.mono (N.out _) ?_;rintro e w4 ⟨rfl,rfl⟩) | (go_at_call 196;refine Calls.mono (Q.out _) ?_;rintro e w5 ⟨rfl,aa⟩;have D:=hid (D.out.trans (aa.mono D.out.size))))
       go_meet
       exact ⟨rfl,D.out⟩
     | true =>
       rw [aq] at N o;cases hv:nN q with
       | true =>
         rw [hv] at Q o;simp only [Bool.not_true,Bool.false_or,Bool.true_or] at o;subst o;clear aq hv;go_wp2_with (first | (go_at_call 128;refine Calls.mono (N.out _) ?_;rintro e w4 ⟨rfl,rfl⟩) | (go_at_call 196;refine Calls.mono (Q.out _) ?_;rintro e w5 ⟨rfl,aa⟩;have D:=hid (D.out.trans (aa.mono D.out.size))))
         go_meet
         exact ⟨rfl,D.out⟩
       | false =>
         rw [hv] at Q o;simp only [Bool.not_true,Bool.false_or] at o
         by_cases bv:z=[]
         case pos =>
          subst bv;have eL:A.toList.isEmpty=true:=by rw [bc.out];exact FZ rfl
          obtain rfl:B1=true:=o.trans (by decide);clear aq hv o a8;go_wp2_with (first | (go_at_call 128;refine Calls.mono (N.out _) ?_;rintro e w4 ⟨rfl,rfl⟩) | (go_at_call 196;refine Calls.mono (Q.out _) ?_;rintro e w5 ⟨rfl,aa⟩;have D:=hid (D.out.trans (aa.mono D.out.size))))
          go_meet
          exact ⟨rfl,D.out⟩
         case neg =>
          obtain ⟨bj,T⟩:∃ hp:0 < A.size,(A[0]'hp)=z.getD 0 0:=by have:=QV bv;rw [<-bc.out] at this;exact this
          have eL:A.toList.isEmpty=false:=by rw [bc.out];exact Ak bv
          have cR:(0:Int) < (A.size:Int):=by omega
          have cg:((((A[0]'bj).toNat:Nat):Int) != 46)=B1:=by
           rw [o,T]
           by_cases O:(z.getD 0 0).toNat=46
           . rw [O];simp
           . simp only [O,decide_false,Bool.not_false];exact bne_iff_ne.2 (by omega)
          clear aq hv bv o a8 T
          cases B1
          all_goals
           go_wp2_with (first | (go_at_call 128;refine Calls.mono (N.out _) ?_;rintro e w4 ⟨rfl,rfl⟩) | (go_at_call 196;refine Calls.mono (Q.out _) ?_;rintro e w5 ⟨rfl,aa⟩;have D:=hid (D.out.trans (aa.mono D.out.size))))
           go_meet
           exact ⟨rfl,D.out⟩
    case rest =>
    obtain ⟨rfl,dg⟩:=hcut;have b9:=hid (bR.out.below dg.out);clear D aL bR N Q;cases B1 with
    | true =>
      have u:=hid (bg (by
       have h:=ap.out.symm;rw [Bool.or_eq_true,Bool.or_eq_true] at h;rcases h with h | h | h
       . exact .inl (by simpa using h)
       . exact .inr (.inl h)
       . exact .inr (.inr (by simpa using h))))
      clear bg I H ap;obtain ⟨⟨b0,b1,Y,b3,b4,b5,b6,b7⟩,a,bl⟩:=dF b9.out.re;have br:=a 0;have bk:=a 1;have bs:=a 2;have be:=a 3;have bh:=a 4;have bp:=a 5;have bt:=a 6;have bx:=a 7;clear a;go_wp2_with fail
      obtain ⟨W9,c,f1,f2,f3⟩:=b9.out.fin (.slice none 0 0) false [] [] (0,0,[]) false;obtain ⟨⟨r0,r1,V,B,r4,Z,U,r7⟩,_,_⟩:=dF f1
      first | rw [<-c] | (simp only [] at c;rw [<-c])
      exact bodyPost_ret (v:=.tuple #[IX (.slice none 0 0) false [] [] (0,0,[]) false,.bool false]) (by simp [results,Tryz.results150,go_sem,IX,r0,r1,V,B,r4,Z,U,r7]) rfl ⟨_,[],_,_,_,_,_,_,rfl,iM _ _,f3,Or.inl ⟨rfl,u.out⟩⟩
    | false =>
    have N1:¬ (eH q=false ∨ nN q=true ∨ (z.getD 0 0).toNat≠46):=by
     have h:=ap.out.symm;rw [Bool.or_eq_false_iff,Bool.or_eq_false_iff] at h;rintro (e | e | e)
     . rw [e] at h;exact absurd h.1 (by decide)
     . rw [e] at h;exact absurd h.2.1 (by decide)
     . exact e (by simpa using h.2.2)
    have I:=I N1;have H:=H N1
    have cY:(1:Int)<=(A.size:Int):=by
     have h:=bq.out
     by_cases e:z=[]
     . subst e;exact absurd (.inr (.inr (by decide))) N1
     . have:=List.length_pos_iff.2 e;omega
    clear bg N1 ap bc bq;go_upto_region 20 with (first | (go_at_call 195;refine Calls.mono (aE.out _) ?_;rintro e w6 ⟨rfl,ch⟩;have cj:=hid (b9.out.below ch);clear ch) | (go_at_call 197;refine Calls.mono (ar.out _) ?_;rintro e w7 ⟨rfl,bw⟩;have cd:=hid ((cj.out.below bw).sz);have aD:=hid (cj.out.below (bw.trans ((show Below w7.heap.size w7 (w7.alloc (.cells #[.int .i64 i,.int .i64 j,.string ⟨f.toArray⟩] 91)) from (Below.refl _ _).alloc (Nat.le_refl _) _).mono bw.size)));have bm:=hid (bM w7 (kO i j f));unfold kO at bm;clear bw))
    obtain ⟨B2,C⟩:∃ B2:Bool,B2=(!eH d || (!ok || !decide (B=[]))):=⟨_,rfl⟩;have an:=hid C;clear C;obtain ⟨W8,cJ⟩:∃ W8,W8=w7.alloc (.cells #[.int .i64 i,.int .i64 j,.string ⟨f.toArray⟩] 91):=⟨_,rfl⟩;rw [<-cJ] at aD bm ⊢;clear cJ;go_cut [92] (fun cS wx=>cS=.bool B2/\wx=W8)
    case first =>
     have C:=an.out;clear an I H aR aM;cases R:eH d with
     | false =>
       rw [R] at M C;simp only [Bool.not_false,Bool.true_or] at C;subst C;clear R;go_wp2_with (go_at_call 128;refine Calls.mono (M.out _) ?_;rintro e w9 ⟨rfl,rfl⟩)
       go_meet
       exact ⟨rfl,rfl⟩
     | true =>
       rw [R] at M C;cases ok with
       | false =>
         simp only [Bool.not_false,Bool.not_true,Bool.false_or,Bool.true_or] at C;subst C;clear R;go_wp2_with (go_at_call 128;refine Calls.mono (M.out _) ?_;rintro e w9 ⟨rfl,rfl⟩)
         go_meet
         exact ⟨rfl,rfl⟩
       | true =>
         simp only [Bool.not_true,Bool.false_or] at C
         have dq:de.toList.isEmpty=decide (B=[]):=by
          rw [cE.out]
          by_cases e:B=[]
          . rw [FZ e];simp [e]
          . rw [Ak e];simp [e]
         generalize decide (B=[])=z3 at *;subst C;clear R;cases z3
         all_goals
          go_wp2_with (go_at_call 128;refine Calls.mono (M.out _) ?_;rintro e w9 ⟨rfl,rfl⟩)
          go_meet
          exact ⟨rfl,rfl⟩
    case rest =>
    obtain ⟨rfl,rfl⟩:=hcut;clear M;cases B2 with
    | true =>
      have u:=hid (I (by
       have h:=an.out.symm;rw [Bool.or_eq_true,Bool.or_eq_true] at h;rcases h with h | h | h
       . exact .inl (by simpa using h)
       . exact .inr (.inl (by simpa using h))
       . exact .inr (.inr (by simpa using h))))
      clear I H an;obtain ⟨⟨b0,b1,Y,b3,b4,b5,b6,b7⟩,a,bl⟩:=dF aD.out.re;have br:=a 0;have bk:=a 1;have bs:=a 2;have be:=a 3;have bh:=a 4;have bp:=a 5;have bt:=a 6;have bx:=a 7;clear a;go_wp2_with fail
      obtain ⟨W9,c,f1,f2,f3⟩:=aD.out.fin (.slice none 0 0) false [] [] (0,0,[]) false;obtain ⟨⟨r0,r1,V,B,r4,Z,U,r7⟩,_,_⟩:=dF f1
      first | rw [<-c] | (simp only [] at c;rw [<-c])
      exact bodyPost_ret (v:=.tuple #[IX (.slice none 0 0) false [] [] (0,0,[]) false,.bool false]) (by simp [results,Tryz.results150,go_sem,IX,r0,r1,V,B,r4,Z,U,r7]) rfl ⟨_,[],_,_,_,_,_,_,rfl,iM _ _,f3,Or.inl ⟨rfl,u.out⟩⟩
    | false =>
      have h3:B=[]/\ok=true/\eH d=true:=by
       have h:=an.out.symm;rw [Bool.or_eq_false_iff,Bool.or_eq_false_iff] at h;exact ⟨by simpa using h.2.2,by simpa using h.2.1,by simpa using h.1⟩
      obtain ⟨h3,rfl,R⟩:=h3
      have u:=hid (H (fun h=>by
       rcases h with h | h | h
       . rw [R] at h;cases h
       . cases h
       . exact h h3))
      clear I H R an;subst h3;have aM:=aM.out;have aR:=aR.out;subst aM aR;obtain ⟨⟨a0,a1,a2,a3,a4,a5,a6,a7⟩,y,al⟩:=dF aD.out.ad;have cy:=y 0;have ct:=y 1;have cv:=y 2;have cI:=y 3;have cq:=y 4;have cx:=y 5;have cm:=y 6;have cH:=y 7;clear y;obtain ⟨s0,s1,s2,_,s4⟩:=aZ (k:=i) (n:=j) (t:=f) bm.out;have cz:=hid (aD.out.p2 q);have ci:=hid (cz.out.p3 d);have ck:=hid (ci.out.p4 (i,j,f));have bS:=hid (ck.out.p7 true);obtain ⟨⟨_,_,_,m3,_⟩,mf,_⟩:=dF cz.out.ad;have d8:=mf 3;clear mf;obtain ⟨⟨_,_,_,_,n4,n5,n6,_⟩,nf,_⟩:=dF ci.out.ad;have cc:=(Below.heap_setCell _ ⟨w.heap.size+1,2,none⟩ (.string ⟨q.toArray⟩) w7.heap.size (fun e=>by simp only at e;have:=cd.out;omega)).trans bm.out;have cD:=(Below.heap_setCell _ ⟨w.heap.size+1,3,none⟩ (.string ⟨d.toArray⟩) w7.heap.size (fun e=>by simp only at e;have:=cd.out;omega)).trans cc;obtain ⟨k0,k1,k2,_,_⟩:=aZ cD;clear cc cD s0 s1 s2;have dz:=nf 4;have dr:=nf 5;have dT:=nf 6;clear nf;obtain ⟨⟨_,_,_,_,_,_,_,o7⟩,of,_⟩:=dF ck.out.ad;have ds:=of 7;clear of;obtain ⟨⟨y0,y1,y2,y3,y4,y5,y6,y7⟩,yf,_⟩:=dF bS.out.ad;clear yf;obtain ⟨⟨z0,z1,z2,z3,z4,z5,z6,z7⟩,zf,_⟩:=dF bS.out.re;have dp:=zf 0;have d7:=zf 1;have dx:=zf 2;have d0:=zf 3;have dk:=zf 4;have dt:=zf 5;have d3:=zf 6;have d6:=zf 7;clear zf;go_wp2_with fail
      obtain ⟨W9,c,f1,f2,f3⟩:=bS.out.fin (.slice ro G.length co) dd q d (i,j,f) true;obtain ⟨⟨r0,r1,V,B,r4,Z,U,r7⟩,_,_⟩:=dF f1
      first | rw [<-c] | (simp only [] at c;rw [<-c])
      exact bodyPost_ret (v:=.tuple #[IX (.slice ro G.length co) dd q d (i,j,f) true,.bool true]) (by simp [results,Tryz.results150,go_sem,IX,r0,r1,V,B,r4,Z,U,r7]) rfl ⟨_,_,_,_,_,_,_,_,rfl,f2,f3,Or.inr (Or.inr ⟨rfl,rfl,u.out⟩)⟩
end Go.Proofs.YtomhbcfjhgecbaaGreatDoor.Adr
namespace Go.Proofs.YtomhbcfjhgecbaaGreatDoor.Adr
open Go.RowKit Go.Sort Go.Lib Go.Maps
open Go.Lib (hid)
def RD (l:List UInt8) (w:World) (e:Ending) (w':World):Prop:=
 ∃ v xs d ty nm k,e=.returned (.tuple #[.agg #[v,.bool d,.string ⟨ty.toArray⟩,.string ⟨nm.toArray⟩,.int .i64 k.1,.int .i64 k.2.1,.string ⟨k.2.2.toArray⟩],.int .i64 (jF l)])/\eP w.heap.size w' v xs/\Below w.heap.size w w' /\
  (jF l=0->rP l=some (xs,some (d,ty,nm,k)))
theorem Ap {W:World} {r:Nat} {v:Value} {d:Bool} {ty nm:List UInt8} {k:bW} (h:W.heap[r]?=some (aO v d ty nm k)) (v2:Value) (d2:Bool) (ty2 nm2:List UInt8) (k2:bW) :
  ∃ W',W'=((((((W.setCell ⟨r,0,none⟩ v2).setCell ⟨r,1,none⟩ (.bool d2)).setCell ⟨r,2,none⟩ (.string ⟨ty2.toArray⟩)).setCell ⟨r,3,none⟩ (.string ⟨nm2.toArray⟩)).setCell ⟨r,4,none⟩ (.int .i64 k2.1)).setCell ⟨r,5,none⟩ (.int .i64 k2.2.1)).setCell ⟨r,6,none⟩ (.string ⟨k2.2.2.toArray⟩) /\
   W'.heap[r]?=some (aO v2 d2 ty2 nm2 k2):=by
 refine ⟨_,rfl,?_⟩;unfold World.setCell aO at *;simp only [Array.getElem?_modify,if_true,h,Option.map_some];rfl
theorem Qi {B b:Nat} {w W:World} (h:Below B w W) (hb:B<=b) (v0 v1 v2 v3 v4 v5 v6:Value):Below B w (((((((W.setCell ⟨b,0,none⟩ v0).setCell ⟨b,1,none⟩ v1).setCell ⟨b,2,none⟩ v2).setCell ⟨b,3,none⟩ v3).setCell ⟨b,4,none⟩ v4).setCell ⟨b,5,none⟩ v5).setCell ⟨b,6,none⟩ v6):=
 ((((((h.setCell hb _).setCell hb _).setCell hb _).setCell hb _).setCell hb _).setCell hb _).setCell hb _
set_option maxRecDepth 100000 in
set_option maxHeartbeats 8000000 in
theorem wX (s:ByteArray) (w:World) (hs:s.size<=1200001):Calls Tryz.prog 108 #[.string s] w (RD s.data.toList w):=by
 have Y:=hid (fun W=>Gg s W hs);have T:=hid (bM w (aO (.slice none 0 0) false [] [] (0,0,[])));have H:=hid (show Below w.heap.size w (w.alloc (aO (.slice none 0 0) false [] [] (0,0,[]))) from (Below.refl _ _).alloc (Nat.le_refl _) _);unfold aO at T H;go_enter Tryz.func108,Tryz.ntmps108;go_wp2_with fail
 refine (Y.out _).mono ?_;rintro e w2 ⟨v,a,d,J,K,k,N,ok,rfl,m,M,O⟩;have aa:w.heap.size+1<=w2.heap.size:=by have:=M.size;simp at this;omega
 have P:=hid (H.out.trans (M.mono H.out.size));have V:=hid ((M.block w.heap.size (by simp)).trans T.out);have Q:=hid m;clear m M H T Y;obtain ⟨f,j,hv,_,_⟩:=ql Q.out;subst hv;simp only [IX];have L:=hid (show Below w2.heap.size w2 (w2.alloc (.cells #[.slice f a.length j,.bool d,.string ⟨J.toArray⟩,.string ⟨K.toArray⟩,.int .i64 k.1,.int .i64 k.2.1,.string ⟨k.2.2.toArray⟩,.bool N] 174)) from (Below.refl _ _).alloc (Nat.le_refl _) _);have G:=hid (P.out.trans (L.out.mono P.out.size));have r:=hid (show (w2.alloc (.cells #[.slice f a.length j,.bool d,.string ⟨J.toArray⟩,.string ⟨K.toArray⟩,.int .i64 k.1,.int .i64 k.2.1,.string ⟨k.2.2.toArray⟩,.bool N] 174)).heap[w.heap.size]?=some (aO (.slice none 0 0) false [] [] (0,0,[])) from (L.out.block w.heap.size (by omega)).trans V.out);have I:=hid (show eP (w.heap.size+1) (w2.alloc (.cells #[.slice f a.length j,.bool d,.string ⟨J.toArray⟩,.string ⟨K.toArray⟩,.int .i64 k.1,.int .i64 k.2.1,.string ⟨k.2.2.toArray⟩,.bool N] 174)) (.slice f a.length j) a from dw (AU Q.out (by simp)) (grown_below L.out) (fun _ _ e=>by cases e));have S:=bM w2 (vG (.slice f a.length j) d J K k N);obtain ⟨⟨a0,a1,a2,a3,a4,a5,Z,a7⟩,_,al⟩:=dF S;unfold vG at a0 a1 a2 a3 a4 a5 Z a7;obtain ⟨b0,b1,b2,b3,b4,b5,b6,q,bl⟩:=ag r.out;have am:=q 0;have ad:=q 1;have an:=q 2;have ab:=q 3;have ac:=q 4;have af:=q 5;have ao:=q 6;clear q S al;rcases O with ⟨rfl,hn⟩ | ⟨rfl,rfl,xs',hn⟩ | ⟨rfl,rfl,hn⟩
 . have l:=hid (show jF s.data.toList=2 by unfold jF;rw [hn])
   clear hn;go_wp2
   obtain ⟨o,c,A⟩:=Ap r.out (.slice none 0 0) false ([]:List UInt8) ([]:List UInt8) ((0,0,[]):bW)
   try simp only at c
   have p:Below w.heap.size w o:=by rw [c];exact Qi G.out (Nat.le_refl _) _ _ _ _ _ _ _
   have F:eP (w.heap.size+1) o (.slice f a.length j) a:=by
    rw [c];have b:∀ (X:World) (i:Nat) (u:Value),eP (w.heap.size+1) X (.slice f a.length j) a->eP (w.heap.size+1) (X.setCell ⟨w.heap.size,i,none⟩ u) (.slice f a.length j) a:=fun X i u m=>dw m (aF X _ u) (fun g n e=>by have:=(kC m g n).1;simp at e;omega);exact b _ _ _ (b _ _ _ (b _ _ _ (b _ _ _ (b _ _ _ (b _ _ _ (b _ _ _ I.out))))))
   obtain ⟨C,E,y,B,D,z,t,_,_⟩:=ag A;rw [<-c];exact bodyPost_ret (v:=.tuple #[.agg #[.slice none 0 0,.bool false,.string ⟨List.toArray ([]:List UInt8)⟩,.string ⟨List.toArray ([]:List UInt8)⟩,.int .i64 (((0,0,[]):bW):bW).1,.int .i64 (((0,0,[]):bW):bW).2.1,.string ⟨List.toArray (((0,0,[]):bW):bW).2.2⟩],.int .i64 2]) (by simp [results,Tryz.results108,go_sem,C,E,y,B,D,z,t]) rfl ⟨_,_,_,_,_,_,by rw [l.out],iM _ _,p,fun h=>by rw [l.out] at h;cases h⟩
 . have l:=hid (show jF s.data.toList=2 by unfold jF;rw [hn])
   clear hn;go_wp2
   obtain ⟨o,c,A⟩:=Ap r.out (.slice none 0 0) false ([]:List UInt8) ([]:List UInt8) ((0,0,[]):bW)
   try simp only at c
   have p:Below w.heap.size w o:=by rw [c];exact Qi G.out (Nat.le_refl _) _ _ _ _ _ _ _
   have F:eP (w.heap.size+1) o (.slice f a.length j) a:=by
    rw [c];have b:∀ (X:World) (i:Nat) (u:Value),eP (w.heap.size+1) X (.slice f a.length j) a->eP (w.heap.size+1) (X.setCell ⟨w.heap.size,i,none⟩ u) (.slice f a.length j) a:=fun X i u m=>dw m (aF X _ u) (fun g n e=>by have:=(kC m g n).1;simp at e;omega);exact b _ _ _ (b _ _ _ (b _ _ _ (b _ _ _ (b _ _ _ (b _ _ _ (b _ _ _ I.out))))))
   obtain ⟨C,E,y,B,D,z,t,_,_⟩:=ag A;rw [<-c];exact bodyPost_ret (v:=.tuple #[.agg #[.slice none 0 0,.bool false,.string ⟨List.toArray ([]:List UInt8)⟩,.string ⟨List.toArray ([]:List UInt8)⟩,.int .i64 (((0,0,[]):bW):bW).1,.int .i64 (((0,0,[]):bW):bW).2.1,.string ⟨List.toArray (((0,0,[]):bW):bW).2.2⟩],.int .i64 2]) (by simp [results,Tryz.results108,go_sem,C,E,y,B,D,z,t]) rfl ⟨_,_,_,_,_,_,by rw [l.out],iM _ _,p,fun h=>by rw [l.out] at h;cases h⟩
 . by_cases R:16 < a.length
   . have l:=hid (show jF s.data.toList=4 by unfold jF;rw [hn];simp only;rw [if_pos R])
     have U:(16:Int) < (a.length:Int):=by omega
     clear hn;go_wp2
     obtain ⟨o,c,A⟩:=Ap r.out (.slice none 0 0) false ([]:List UInt8) ([]:List UInt8) ((0,0,[]):bW)
     try simp only at c
     have p:Below w.heap.size w o:=by rw [c];exact Qi G.out (Nat.le_refl _) _ _ _ _ _ _ _
     have F:eP (w.heap.size+1) o (.slice f a.length j) a:=by
      rw [c];have b:∀ (X:World) (i:Nat) (u:Value),eP (w.heap.size+1) X (.slice f a.length j) a->eP (w.heap.size+1) (X.setCell ⟨w.heap.size,i,none⟩ u) (.slice f a.length j) a:=fun X i u m=>dw m (aF X _ u) (fun g n e=>by have:=(kC m g n).1;simp at e;omega);exact b _ _ _ (b _ _ _ (b _ _ _ (b _ _ _ (b _ _ _ (b _ _ _ (b _ _ _ I.out))))))
     obtain ⟨C,E,y,B,D,z,t,_,_⟩:=ag A;rw [<-c];exact bodyPost_ret (v:=.tuple #[.agg #[.slice none 0 0,.bool false,.string ⟨List.toArray ([]:List UInt8)⟩,.string ⟨List.toArray ([]:List UInt8)⟩,.int .i64 (((0,0,[]):bW):bW).1,.int .i64 (((0,0,[]):bW):bW).2.1,.string ⟨List.toArray (((0,0,[]):bW):bW).2.2⟩],.int .i64 4]) (by simp [results,Tryz.results108,go_sem,C,E,y,B,D,z,t]) rfl ⟨_,_,_,_,_,_,by rw [l.out],iM _ _,p,fun h=>by rw [l.out] at h;cases h⟩
   . have l:=hid (show jF s.data.toList=0 by unfold jF;rw [hn];simp only;rw [if_neg R])
     have U:¬ (16:Int) < (a.length:Int):=by omega
     have HN:=hid hn;clear hn;go_wp2
     obtain ⟨o,c,A⟩:=Ap r.out (.slice f a.length j) d J K k
     try simp only at c
     have p:Below w.heap.size w o:=by rw [c];exact Qi G.out (Nat.le_refl _) _ _ _ _ _ _ _
     have F:eP (w.heap.size+1) o (.slice f a.length j) a:=by
      rw [c];have b:∀ (X:World) (i:Nat) (u:Value),eP (w.heap.size+1) X (.slice f a.length j) a->eP (w.heap.size+1) (X.setCell ⟨w.heap.size,i,none⟩ u) (.slice f a.length j) a:=fun X i u m=>dw m (aF X _ u) (fun g n e=>by have:=(kC m g n).1;simp at e;omega);exact b _ _ _ (b _ _ _ (b _ _ _ (b _ _ _ (b _ _ _ (b _ _ _ (b _ _ _ I.out))))))
     obtain ⟨C,E,y,B,D,z,t,_,_⟩:=ag A;rw [<-c];exact bodyPost_ret (v:=.tuple #[.agg #[.slice f a.length j,.bool d,.string ⟨List.toArray J⟩,.string ⟨List.toArray K⟩,.int .i64 (k:bW).1,.int .i64 (k:bW).2.1,.string ⟨List.toArray (k:bW).2.2⟩],.int .i64 0]) (by simp [results,Tryz.results108,go_sem,C,E,y,B,D,z,t]) rfl ⟨_,_,_,_,_,_,by rw [l.out],AU F (by omega),p,fun h=>HN.out⟩
end Go.Proofs.YtomhbcfjhgecbaaGreatDoor.Adr
namespace Go.Proofs.YtomhbcfjhgecbaaGreatDoor.Adr
open Go.RowKit Go.Sort Go.Lib Go.Maps
open Go.Lib (hid)
set_option maxHeartbeats 4000000 in
theorem KJ (w:World):Calls Tryz.prog 227 #[Jn] w fun e w'=>e=.returned (.string ⟨#[]⟩)/\Below w.heap.size w w':=by
 have i:Hid (∀ W:World,Calls Tryz.prog 224 #[Jn] W fun e w'=>e=.returned (.bool true)/\Below W.heap.size W w'):=hid (fun W=>QR W);unfold Jn at *;have c:=hid (show Below w.heap.size w (w.alloc (.cells #[.int .i64 0,.int .i64 0,.string ⟨#[]⟩] 91)) from (Below.refl _ _).alloc (Nat.le_refl _) _);obtain ⟨b,g,f,_,j⟩:=aZ (W:=w.alloc (kO 0 0 [])) (r:=w.heap.size) (k:=0) (n:=0) (t:=[]) (bM w _);unfold kO at b g f;go_enter Tryz.func227,Tryz.ntmps227;go_wp2_with (go_at_call 224;refine (i.out _).mono ?_;rintro e w1 ⟨rfl,a⟩;have l:=az a b;have d:=hid (c.out.trans (a.mono c.out.size));clear a)
 go_ret
 exact ⟨rfl,d.out⟩
set_option maxHeartbeats 8000000 in
theorem OT (r:Option Addr) (c:Nat) (xs:List MS) (d:Bool) (ty nm:List UInt8) (w:World) (h:Sl Jv 4 w (.slice r xs.length c) xs) (hx:Bare xs) (hty:uz ty=true) (hnm:eH nm=true) :
  Calls Tryz.prog 225 #[aV (.slice r xs.length c) d ty nm (0,0,[])] w fun e w'=>e=.returned (.int .i64 0)/\Below w.heap.size w w':=by
 obtain ⟨_,hl,hm⟩:=bi h;have ac:=hx.1;have ab:¬ (16:Int) < (xs.length:Int):=by omega
 have n:∀ {l:List UInt8},eH l=true->(⟨l.toArray⟩:ByteArray).size<=2000000:=fun {l} h=>by
  unfold eH at h;simp only [Bool.and_eq_true,decide_eq_true_eq] at h;rw [mF];have:=h.1.1.2;omega
 have g:∀ {l:List UInt8},eH l=true->∀ W:World,Calls Tryz.prog 128 #[.string ⟨l.toArray⟩] W fun e w'=>e=.returned (.bool true)/\W=w':=fun {l} h W=>by
  have q:=lH ⟨l.toArray⟩ W (n h);rw [show (⟨l.toArray⟩:ByteArray).data.toList=l from rfl,h] at q;exact q
 have B:eH ty=true/\nN ty=false:=by unfold uz at hty;simpa using hty
 have R:=hid (fun (W:World) (hW:Below w.heap.size w W)=>DW (h.below kG hW));have HX:=hid (fun x M=>hx.2 x M);have I:Hid (∀ W:World,Calls Tryz.prog 224 #[Jn] W fun e w'=>e=.returned (.bool true)/\Below W.heap.size W w'):=hid (fun W=>QR W);have C:=hid (fun (l:List UInt8) (h:eH l=true)=>g h);have J:=hid (g B.1);have H:=hid (g hnm)
 have P:Hid (∀ W:World,Calls Tryz.prog 196 #[.string ⟨ty.toArray⟩] W fun e w'=>e=.returned (.bool false)/\Below W.heap.size W w'):=hid (fun W=>by
  have q:=qN ⟨ty.toArray⟩ W;rw [show (⟨ty.toArray⟩:ByteArray).data.toList=ty from rfl,B.2] at q;exact q)
 have E:=hid (show Below w.heap.size w (w.alloc (.cells #[.slice r xs.length c,.bool d,.string ⟨ty.toArray⟩,.string ⟨nm.toArray⟩,.int .i64 0,.int .i64 0,.string ⟨#[]⟩] 93)) from (Below.refl _ _).alloc (Nat.le_refl _) _);clear h hx hty hnm B g n;unfold aV;unfold Jn at I;go_enter Tryz.func225,Tryz.ntmps225;go_wp2
 have N:(w.alloc (.cells #[.slice r xs.length c,.bool d,.string ⟨ty.toArray⟩,.string ⟨nm.toArray⟩,.int .i64 0,.int .i64 0,.string ⟨#[]⟩] 93)).heap.size=w.heap.size+1:=by simp
 obtain ⟨p,S,o,m,j,u,y,_⟩:=ag (v:=.slice r xs.length c) (d:=d) (ty:=ty) (nm:=nm) (k:=(0,0,[])) (bM w (.cells #[.slice r xs.length c,.bool d,.string ⟨ty.toArray⟩,.string ⟨nm.toArray⟩,.int .i64 0,.int .i64 0,.string ⟨#[]⟩] 93));have Y:=hid (And.intro p (And.intro o (And.intro m (And.intro j (And.intro u y)))));clear p S o m j u y;generalize w.alloc (.cells #[.slice r xs.length c,.bool d,.string ⟨ty.toArray⟩,.string ⟨nm.toArray⟩,.int .i64 0,.int .i64 0,.string ⟨#[]⟩] 93)=Q at *;have G:=hid N;clear N;go_loopw [3] (fun t wr=>∃ k:Nat,k<=xs.length/\t=.int .i64 k/\Hid (Below Q.heap.size Q wr)) (fun t _=>xs.length - (RowKit.intOf t).toNat)
 case atStart=>exact ⟨0,Nat.zero_le _,rfl,hid (Below.refl _ _)⟩
 case round =>
  obtain ⟨k,B,rfl,a⟩:=hrel;obtain ⟨p,o,m,j,u,y⟩:=Y.out;have q0:=az a.out p;have q2:=az a.out o;have q3:=az a.out m;have V:=az a.out j;have Z:=az a.out u;have q6:=az a.out y;clear p o m j u y
  by_cases F:k < xs.length
  . obtain ⟨b,ad,rfl,hb,g0,T,g2,U⟩:=R.out wr (E.out.trans (a.out.mono (by rw [G.out];omega))) k F
    obtain ⟨K,O⟩:=HX.out xs[k] (List.getElem_mem F);rw [O] at T g2 U;have X:=hid (C.out _ K);have aa:(0:Int)<=(k:Int):=by omega
    have L:(k:Int) < (xs.length:Int):=by omega
    clear K O J H P;generalize xs[k].1=s at *
    go_wp2_with (first
     | (go_at_call 128;refine (X.out _).mono ?_;rintro e w3 ⟨rfl,rfl⟩)
     | (go_at_call 224;refine (I.out _).mono ?_;rintro e w4 ⟨rfl,i⟩;have A:=hid i;clear i))
    go_roundw
    case rel=>exact ⟨k+1,by omega,by go_num,hid (a.out.trans (A.out.mono a.out.size))⟩
    case measure=>simp [RowKit.intOf];omega
  . have L:¬ (k:Int) < (xs.length:Int):=by omega
    clear C
    go_wp2_with (first
     | (go_at_call 128;have z:=J.out;clear J;refine Calls.mono (z _) ?_;clear z;rintro e w3 ⟨rfl,rfl⟩)
     | (go_at_call 196;refine (P.out _).mono ?_;rintro e w3 ⟨rfl,f⟩;have p3:=az f q3;have p4:=az f V;have p5:=az f Z;have p6:=az f q6;have D:=hid f;clear f)
     | (go_at_call 128;have z:=H.out;clear H;refine Calls.mono (z _) ?_;clear z;rintro e w5 ⟨rfl,rfl⟩)
     | (go_at_call 224;refine (I.out _).mono ?_;rintro e w4 ⟨rfl,i⟩;have A:=hid (D.out.trans (i.mono D.out.size));clear i))
    go_ret
    exact ⟨rfl,(E.out.trans (a.out.mono (by rw [G.out];omega))).trans (A.out.mono (by have:=a.out.size;have:=G.out;omega))⟩
end Go.Proofs.YtomhbcfjhgecbaaGreatDoor.Adr
namespace Go.Proofs.YtomhbcfjhgecbaaGreatDoor.Adr
open Go.RowKit Go.Sort Go.Lib Go.Maps
open Go.Lib (hid)
open Stp (wq mP di kW kW.refl au dm aC aW ay aS gQ ai dG bT bY aQ FH)
attribute [local go_sem] di
set_option maxRecDepth 100000 in
set_option maxHeartbeats 8000000 in
theorem PI (r:Option Addr) (c:Nat) (xs:List MS) (w:World) (h:Sl Jv 4 w (.slice r xs.length c) xs) (hx:Bare xs) :
  Calls Tryz.prog 226 #[.slice r xs.length c] w fun e w'=>e=.returned (.string ⟨(xs.flatMap mQ).toArray⟩)/\Below w.heap.size w w':=by
 obtain ⟨_,hl,hm⟩:=bi h;have ad:=hx.1;have R:=hid (fun (W:World) (hW:Below w.heap.size w W)=>DW (h.below kG hW));have HX:=hid (fun x i=>hx.2 x i);have I:=hid (fun W=>KJ W);have HP:=hid (fun k=>AB (xs:=xs.take k) (fun x i=>(hx.2 x (List.mem_of_mem_take i)).1));clear h hx;unfold Jn at I;go_enter Tryz.func226,Tryz.ntmps226;go_wp2
 go_loopg [3,4] xs.length (fun V T Z wr=>∃ k:Nat,k<=xs.length/\xs.length - k<=V/\Z=.int .i64 k/\T=.string ⟨((xs.take k).flatMap mQ).toArray⟩/\Hid (Below w.heap.size w wr))
 case atStart=>exact ⟨0,by omega,by omega,rfl,by simp,hid (Below.refl _ _)⟩
 case round =>
  obtain ⟨k,hk,ac,rfl,rfl,o⟩:=hrel
  by_cases m:k < xs.length
  . obtain ⟨b,af,rfl,hb,g0,C,Q,D⟩:=R.out wr o.out k m
    have H:=hid (show (xs.take (k+1)).flatMap mQ=(xs.take k).flatMap mQ ++ (dN ++ xs[k].1 ++ [46]) by rw [List.take_succ_eq_append_getElem m,List.flatMap_append];simp [mQ]);have P:=HP.out k;obtain ⟨y,L⟩:=HX.out xs[k] (List.getElem_mem m);have X:=oC y;rw [L] at C Q D;clear y L;generalize xs[k].1=s at *;have G:((xs.take k).flatMap mQ).length<=1000000000:=by rw [List.length_take] at P;omega
    clear P;generalize z:(xs.take k).flatMap mQ=v at *;have Y:=fun W=>dS W v [109,111,100,117,108,101,46] (by simp;omega);have M:(v ++ [109,111,100,117,108,101,46]).length<=1000000010:=by simp;omega
    obtain ⟨j,g⟩:∃ j,v ++ [109,111,100,117,108,101,46]=j:=⟨_,rfl⟩;rw [g] at Y M;have S:=fun W=>dS W j s (by omega);have N:(j ++ s).length<=1000000100:=by simp;omega
    obtain ⟨f,l⟩:∃ f,j ++ s=f:=⟨_,rfl⟩;rw [l] at S N;have U:=fun W=>dS W f [] (by simp;omega);rw [List.append_nil] at U;have c4:=fun W=>dS W f [46] (by simp;omega);have u:=hid (show f ++ [46]=(xs.take (k+1)).flatMap mQ by rw [H.out,<-l,<-g];simp [dN]);obtain ⟨E,q⟩:∃ E,f ++ [46]=E:=⟨_,rfl⟩;rw [q] at c4 u;have e0:=fun d a=>cell_regrown g0 d a;have e1:=fun d a=>cell_regrown C d a;have e2:=fun d a=>cell_regrown Q d a;have e3:=fun d a=>cell_regrown D d a;have aa:(0:Int)<=(k:Int):=by omega
    have ab:(k:Int) < (xs.length:Int):=by omega
    clear X z g l q M N G;go_wp2_with fail
    refine au (fun k=>match k with | 13=>some (yY []) | _=>none) (by kernel_rfl) (by kernel_rfl) ?_
    iterate 13 (refine wq ?_;intro K n;go_big_quiet_op;go_big_quiet_on)
    refine aC (yY []) (by kernel_rfl) rfl ⟨_,rfl⟩ aQ (fun w4 p O=>?_) ?_
    . have B:=ai p
      have hh:=I.out w4;clear p O B;go_simp
      go_at_call 227;refine Calls.mono hh ?_;rintro e w5 ⟨rfl,A⟩;exact ⟨_,rfl,A,rfl,trivial⟩
    rintro _ rfl
    (refine ay ?_;intro K n;go_simp;refine n _ ?_;clear n K)
    iterate 3 (refine wq ?_;intro K n;go_big_quiet_op;go_big_quiet_on)
    refine aS ?_;intro w6 t F;have J:=ai t;clear t F;go_wp2
    go_roundg (xs.length - (k+1))
    case measure=>omega
    case rel=>exact ⟨k+1,by omega,by omega,by go_num,by rw [<-u.out],hid (o.out.trans (J.mono o.out.size))⟩
  . obtain rfl:k=xs.length:=by omega
    have HT:=hid (show xs.take xs.length=xs from List.take_length);go_wp2
    go_ret
    exact ⟨by first | rfl | (rw [HT.out];rfl),o.out⟩
end Go.Proofs.YtomhbcfjhgecbaaGreatDoor.Adr
namespace Go.Proofs.YtomhbcfjhgecbaaGreatDoor.Adr
open Go.RowKit Go.Sort Go.Lib Go.Maps
open Go.Lib (hid)
open Stp (wq mP di kW kW.refl au dm aC aW ay aS gQ ai dG bT bY aQ FH)
attribute [local go_sem] di
set_option maxRecDepth 100000 in
set_option maxHeartbeats 8000000 in
theorem NF (r:Option Addr) (c:Nat) (xs:List MS) (d:Bool) (ty nm:List UInt8) (w:World) (h:Sl Jv 4 w (.slice r xs.length c) xs) (hx:Bare xs) (hty:uz ty=true) (hnm:eH nm=true) :
  Calls Tryz.prog 200 #[aV (.slice r xs.length c) d ty nm (0,0,[])] w fun e w'=>e=.returned (.string ⟨(Bz xs d ty nm).toArray⟩)/\Below w.heap.size w w':=by
 have HC:=hid (fun (W:World) (hW:Below w.heap.size w W)=>OT r c xs d ty nm W (h.below kG hW) hx hty hnm);have HS:=hid (fun (W:World) (hW:Below w.heap.size w W)=>PI r c xs W (h.below kG hW) hx);have S:=hid (fun W=>KJ W)
 have aa:ty.length<=64:=by
  have h1:(eH ty && !nN ty)=true:=hty;rw [Bool.and_eq_true] at h1;exact oC h1.1
 have ab:=oC hnm
 have l0:(xs.flatMap mQ).length<=1000000000:=by
  have hp:=AB (xs:=xs) (fun x m=>(hx.2 x m).1);have:=hx.1;omega
 clear h hx hty hnm;unfold aV at *;unfold Jn at S;generalize C:xs.flatMap mQ=B at *;cases d with
 | false =>
   have k1:B.length<=1000001000:=by omega
   have P:=fun W=>dS W B ty (by omega);have G:(B ++ ty).length<=1000002000:=by simp;omega
   obtain ⟨n,l⟩:∃ n,B ++ ty=n:=⟨_,rfl⟩;rw [l] at P G;have c3:=fun W=>dS W n [46] (by simp;omega);have L:(n ++ [46]).length<=1000003000:=by simp;omega
   obtain ⟨o,g⟩:∃ o,n ++ [46]=o:=⟨_,rfl⟩;rw [g] at c3 L;have T:=fun W=>dS W o nm (by omega);have O:(o ++ nm).length<=1000004000:=by simp;omega
   obtain ⟨q,f⟩:∃ q,o ++ nm=q:=⟨_,rfl⟩;rw [f] at T O;have R:=fun W=>dS W q [] (by simp;omega);rw [List.append_nil] at R;have E:=hid (show Bz xs false ty nm=q by unfold Bz;rw [C,<-f,<-g,<-l];simp [fO]);clear l g f k1 G L O l0 C;rw [E.out];have p:=hid (show Below w.heap.size w (w.alloc (.cells #[.slice r xs.length c,.bool false,.string ⟨ty.toArray⟩,.string ⟨nm.toArray⟩,.int .i64 0,.int .i64 0,.string ⟨#[]⟩] 93)) from (Below.refl _ _).alloc (Nat.le_refl _) _)
   have A:=hid (fun (W:World) (hb:Below (w.alloc (.cells #[.slice r xs.length c,.bool false,.string ⟨ty.toArray⟩,.string ⟨nm.toArray⟩,.int .i64 0,.int .i64 0,.string ⟨#[]⟩] 93)).heap.size (w.alloc (.cells #[.slice r xs.length c,.bool false,.string ⟨ty.toArray⟩,.string ⟨nm.toArray⟩,.int .i64 0,.int .i64 0,.string ⟨#[]⟩] 93)) W)=>show (W.cell? ⟨w.heap.size,0,none⟩=some (.slice r xs.length c)/\W.cell? ⟨w.heap.size,1,none⟩=some (.bool false)/\W.cell? ⟨w.heap.size,2,none⟩=some (.string ⟨ty.toArray⟩)/\W.cell? ⟨w.heap.size,3,none⟩=some (.string ⟨nm.toArray⟩)/\W.cell? ⟨w.heap.size,4,none⟩=some (.int .i64 0)/\W.cell? ⟨w.heap.size,5,none⟩=some (.int .i64 0)/\W.cell? ⟨w.heap.size,6,none⟩=some (.string ⟨#[]⟩))/\w.heap.size < W.heap.size from by
    obtain ⟨X,U,V,z3,Z,Q,Y,_⟩:=ag (v:=.slice r xs.length c) (d:=false) (ty:=ty) (nm:=nm) (k:=(0,0,[])) (bM w (.cells #[.slice r xs.length c,.bool false,.string ⟨ty.toArray⟩,.string ⟨nm.toArray⟩,.int .i64 0,.int .i64 0,.string ⟨#[]⟩] 93));exact ⟨⟨az hb X,az hb U,az hb V,az hb z3,az hb Z,az hb Q,az hb Y⟩,by have:=hb.size;simp at this;omega⟩)
   obtain ⟨⟨o0,o1,o2,o3,o4,o5,o6⟩,_⟩:=A.out _ (Below.refl _ _);go_enter Tryz.func200,Tryz.ntmps200
   go_wp2_with (first
    | (go_at_call 225;refine (HC.out _ p.out).mono ?_;rintro e w1 ⟨rfl,b⟩;have j:=hid (p.out.trans (b.mono p.out.size));have z:=hid b;obtain ⟨⟨q0,q1,q2,q3,q4,q5,q6⟩,q7⟩:=A.out _ b;clear b)
    | (go_at_call 226;refine (HS.out _ j.out).mono ?_;rintro e w2 ⟨rfl,i⟩;have t:=hid (j.out.trans (i.mono j.out.size));have m:=z.out.trans (i.mono z.out.size);obtain ⟨⟨p0,p1,p2,p3,p4,p5,p6⟩,p7⟩:=A.out _ m;clear i m))
   have e2:=fun d a=>cell_regrown p2 d a;have e3:=fun d a=>cell_regrown p3 d a;have e4:=fun d a=>cell_regrown p4 d a;have e5:=fun d a=>cell_regrown p5 d a;have e6:=fun d a=>cell_regrown p6 d a;refine au (fun k=>match k with | 10=>some (yY []) | _=>none) (by kernel_rfl) (by kernel_rfl) ?_
   iterate 10 (refine wq ?_;intro K s;go_big_quiet_op;go_big_quiet_on)
   refine aC (yY []) (by kernel_rfl) rfl ⟨_,rfl⟩ aQ (fun w4 u J=>?_) ?_
   . have M:=ai u
     have hh:=S.out w4;clear u J M;go_simp
     go_at_call 227;refine Calls.mono hh ?_;rintro e w5 ⟨rfl,H⟩;exact ⟨_,rfl,H,rfl,trivial⟩
   rintro _ rfl
   (refine ay ?_;intro K s;go_simp;refine s _ ?_;clear s K)
   iterate 2 (refine wq ?_;intro K s;go_big_quiet_op;go_big_quiet_on)
   refine aS ?_;intro w6 y N;have D:=ai y;clear y N;go_wp2
   go_ret
   exact ⟨rfl,t.out.trans (D.mono t.out.size)⟩
 | true =>
   have d1:=fun W=>dS W B [100,97,116,97,46] (by simp;omega);have k1:(B ++ [100,97,116,97,46]).length<=1000001000:=by simp;omega
   obtain ⟨I,F⟩:∃ I,B ++ [100,97,116,97,46]=I:=⟨_,rfl⟩;rw [F] at d1 k1;have P:=fun W=>dS W I ty (by omega);have G:(I ++ ty).length<=1000002000:=by simp;omega
   obtain ⟨n,l⟩:∃ n,I ++ ty=n:=⟨_,rfl⟩;rw [l] at P G;have c3:=fun W=>dS W n [46] (by simp;omega);have L:(n ++ [46]).length<=1000003000:=by simp;omega
   obtain ⟨o,g⟩:∃ o,n ++ [46]=o:=⟨_,rfl⟩;rw [g] at c3 L;have T:=fun W=>dS W o nm (by omega);have O:(o ++ nm).length<=1000004000:=by simp;omega
   obtain ⟨q,f⟩:∃ q,o ++ nm=q:=⟨_,rfl⟩;rw [f] at T O;have R:=fun W=>dS W q [] (by simp;omega);rw [List.append_nil] at R;have E:=hid (show Bz xs true ty nm=q by unfold Bz;rw [C,<-f,<-g,<-l,<-F];simp [fO]);clear F l g f k1 G L O l0 C;rw [E.out];have p:=hid (show Below w.heap.size w (w.alloc (.cells #[.slice r xs.length c,.bool true,.string ⟨ty.toArray⟩,.string ⟨nm.toArray⟩,.int .i64 0,.int .i64 0,.string ⟨#[]⟩] 93)) from (Below.refl _ _).alloc (Nat.le_refl _) _)
   have A:=hid (fun (W:World) (hb:Below (w.alloc (.cells #[.slice r xs.length c,.bool true,.string ⟨ty.toArray⟩,.string ⟨nm.toArray⟩,.int .i64 0,.int .i64 0,.string ⟨#[]⟩] 93)).heap.size (w.alloc (.cells #[.slice r xs.length c,.bool true,.string ⟨ty.toArray⟩,.string ⟨nm.toArray⟩,.int .i64 0,.int .i64 0,.string ⟨#[]⟩] 93)) W)=>show (W.cell? ⟨w.heap.size,0,none⟩=some (.slice r xs.length c)/\W.cell? ⟨w.heap.size,1,none⟩=some (.bool true)/\W.cell? ⟨w.heap.size,2,none⟩=some (.string ⟨ty.toArray⟩)/\W.cell? ⟨w.heap.size,3,none⟩=some (.string ⟨nm.toArray⟩)/\W.cell? ⟨w.heap.size,4,none⟩=some (.int .i64 0)/\W.cell? ⟨w.heap.size,5,none⟩=some (.int .i64 0)/\W.cell? ⟨w.heap.size,6,none⟩=some (.string ⟨#[]⟩))/\w.heap.size < W.heap.size from by
    obtain ⟨X,U,V,z3,Z,Q,Y,_⟩:=ag (v:=.slice r xs.length c) (d:=true) (ty:=ty) (nm:=nm) (k:=(0,0,[])) (bM w (.cells #[.slice r xs.length c,.bool true,.string ⟨ty.toArray⟩,.string ⟨nm.toArray⟩,.int .i64 0,.int .i64 0,.string ⟨#[]⟩] 93));exact ⟨⟨az hb X,az hb U,az hb V,az hb z3,az hb Z,az hb Q,az hb Y⟩,by have:=hb.size;simp at this;omega⟩)
   obtain ⟨⟨o0,o1,o2,o3,o4,o5,o6⟩,_⟩:=A.out _ (Below.refl _ _);go_enter Tryz.func200,Tryz.ntmps200
   go_wp2_with (first
    | (go_at_call 225;refine (HC.out _ p.out).mono ?_;rintro e w1 ⟨rfl,b⟩;have j:=hid (p.out.trans (b.mono p.out.size));have z:=hid b;obtain ⟨⟨q0,q1,q2,q3,q4,q5,q6⟩,q7⟩:=A.out _ b;clear b)
    | (go_at_call 226;refine (HS.out _ j.out).mono ?_;rintro e w2 ⟨rfl,i⟩;have t:=hid (j.out.trans (i.mono j.out.size));have m:=z.out.trans (i.mono z.out.size);obtain ⟨⟨p0,p1,p2,p3,p4,p5,p6⟩,p7⟩:=A.out _ m;clear i m))
   have e2:=fun d a=>cell_regrown p2 d a;have e3:=fun d a=>cell_regrown p3 d a;have e4:=fun d a=>cell_regrown p4 d a;have e5:=fun d a=>cell_regrown p5 d a;have e6:=fun d a=>cell_regrown p6 d a;refine au (fun k=>match k with | 10=>some (yY []) | _=>none) (by kernel_rfl) (by kernel_rfl) ?_
   iterate 10 (refine wq ?_;intro K s;go_big_quiet_op;go_big_quiet_on)
   refine aC (yY []) (by kernel_rfl) rfl ⟨_,rfl⟩ aQ (fun w4 u J=>?_) ?_
   . have M:=ai u
     have hh:=S.out w4;clear u J M;go_simp
     go_at_call 227;refine Calls.mono hh ?_;rintro e w5 ⟨rfl,H⟩;exact ⟨_,rfl,H,rfl,trivial⟩
   rintro _ rfl
   (refine ay ?_;intro K s;go_simp;refine s _ ?_;clear s K)
   iterate 2 (refine wq ?_;intro K s;go_big_quiet_op;go_big_quiet_on)
   refine aS ?_;intro w6 y N;have D:=ai y;clear y N;go_wp2
   go_ret
   exact ⟨rfl,t.out.trans (D.mono t.out.size)⟩
end Go.Proofs.YtomhbcfjhgecbaaGreatDoor.Adr
namespace Go.Proofs.YtomhbcfjhgecbaaGreatDoor.Adr
open Go.RowKit Go.Sort Go.Lib Go.Maps
open Go.Lib (hid)
structure Br (w W:World) (va:Value) (k:bW) (v:Value) (xs:List MS) (d:Bool) (ty nm:List UInt8):Prop where
 ad:W.heap[w.heap.size]?=some (aO va d ty nm k)
 re:W.heap[w.heap.size+1]?=some (aO (.slice none 0 0) false [] [] (0,0,[]))
 ou:W.heap[w.heap.size+1+1]?=some (aO v d ty nm (0,0,[]))
 own:eP (w.heap.size+3) W v xs
 bel:Below w.heap.size w W
 sz:w.heap.size+3<=W.heap.size
section
variable {w W W1 W2:World} {va v:Value} {k:bW} {xs:List MS} {d:Bool} {ty nm:List UInt8}
theorem Br.below {W':World} (h:Br w W va k v xs d ty nm) (hb:Below W.heap.size W W'):Br w W' va k v xs d ty nm:=
 ⟨(hb.block _ (lt_of_block h.ad)).trans h.ad,(hb.block _ (lt_of_block h.re)).trans h.re,(hb.block _ (lt_of_block h.ou)).trans h.ou,dw h.own (grown_below hb) (fun _ _ e=>by cases e),h.bel.trans (hb.mono h.bel.size),Nat.le_trans h.sz hb.size⟩
theorem Br.start:Br w (((w.alloc (aO va d ty nm k)).alloc (aO (.slice none 0 0) false [] [] (0,0,[]))).alloc (aO (.slice none 0 0) d ty nm (0,0,[]))) va k (.slice none 0 0) [] d ty nm:=by
 have i:Below w.heap.size w (((w.alloc (aO va d ty nm k)).alloc (aO (.slice none 0 0) false [] [] (0,0,[]))).alloc (aO (.slice none 0 0) d ty nm (0,0,[]))):=(((Below.refl _ _).alloc (Nat.le_refl _) _).alloc (by simp) _).alloc (by simp;omega) _;have a:∀ (X:World) (o b:Obj) (j:Nat),X.heap[j]?=some o->(X.alloc b).heap[j]?=some o:=fun X o b j c=>(((Below.refl X.heap.size X).alloc (Nat.le_refl _) b).block _ (lt_of_block c)).trans c;have m:=bM w (aO va d ty nm k);have k1:=bM (w.alloc (aO va d ty nm k)) (aO (.slice none 0 0) false [] [] (0,0,[]));have f:=bM ((w.alloc (aO va d ty nm k)).alloc (aO (.slice none 0 0) false [] [] (0,0,[]))) (aO (.slice none 0 0) d ty nm (0,0,[]));have l:(w.alloc (aO va d ty nm k)).heap.size=w.heap.size+1:=by simp
 have g:((w.alloc (aO va d ty nm k)).alloc (aO (.slice none 0 0) false [] [] (0,0,[]))).heap.size=w.heap.size+1+1:=by simp
 rw [l] at k1;rw [g] at f;exact ⟨a _ _ _ _ (a _ _ _ _ m),a _ _ _ _ k1,f,iM _ _,i,by simp⟩
theorem Br.app (h:Br w W va k v xs d ty nm) (hb:Below W.heap.size W W1) {y:MS} {H g cap:Nat} (hm:EQ (w.heap.size+3) W1 v (xs ++ [y]) H g cap W2) :
  (W2.cell? ⟨w.heap.size+1+1,0,none⟩=some v/\W2.frozen? ⟨w.heap.size+1+1,0,none⟩=false)/\Br w (W2.setCell ⟨w.heap.size+1+1,0,none⟩ (.slice (some ⟨g,0,none⟩) (xs ++ [y]).length cap)) va k (.slice (some ⟨g,0,none⟩) (xs ++ [y]).length cap) (xs ++ [y]) d ty nm:=by
 have a:=h.below hb;have p:=qp a.own;have m:=hm.2.1;have c:∀ j,j < w.heap.size+3->W2.heap[j]?=W1.heap[j]?:=fun j s=>m.block j (Nat.lt_of_lt_of_le s a.sz) (fun e=>by have:=(p j e.symm).1;omega);have i:=(c _ (by omega)).trans a.ou;obtain ⟨t,_,_,_,_,_,_,r,_⟩:=ag i;refine ⟨⟨t,r 0⟩,?_⟩;have n:=(c _ (by omega)).trans a.ad;have q:=(c _ (by omega)).trans a.re;have b:=aF W2 ⟨w.heap.size+1+1,0,none⟩ (.slice (some ⟨g,0,none⟩) (xs ++ [y]).length cap);have f:Below w.heap.size w W2:=a.bel.grown m a.bel.size (fun k l=>by have:=(p k l).1;omega);refine ⟨bH n b (by simp only;omega),bH q b (by simp only;omega),?_,dw hm.1 b (fun u o e=>?_),f.grown b f.size (fun k l=>by cases l;show w.heap.size<=w.heap.size+1+1;omega),Nat.le_trans (Nat.le_trans a.sz m.size) b.size⟩
 . unfold World.setCell aO at *
   simp only [Array.getElem?_modify,if_true,i,Option.map_some];rfl
 . have:=(qp hm.1 u o).1
   simp at e;omega
theorem Br.fin {W':World} (h:Br w W va k v xs d ty nm) (e:W'=((((((W.setCell ⟨w.heap.size+1,0,none⟩ v).setCell ⟨w.heap.size+1,1,none⟩ (.bool d)).setCell ⟨w.heap.size+1,2,none⟩ (.string ⟨ty.toArray⟩)).setCell ⟨w.heap.size+1,3,none⟩ (.string ⟨nm.toArray⟩)).setCell ⟨w.heap.size+1,4,none⟩ (.int .i64 0)).setCell ⟨w.heap.size+1,5,none⟩ (.int .i64 0)).setCell ⟨w.heap.size+1,6,none⟩ (.string ⟨#[]⟩)) :
  W'.heap[w.heap.size+1]?=some (aO v d ty nm (0,0,[]))/\eP w.heap.size W' v xs/\Below w.heap.size w W':=by
 obtain ⟨c,b⟩:=La h.re v d ty nm (0,0,[]) W' e;refine ⟨c,AU (dw h.own b (fun g a e=>?_)) (by omega),h.bel.grown b h.bel.size (fun k f=>by cases f;omega)⟩;have:=(h.own.lt g a).1;simp at e;omega
end
set_option maxRecDepth 100000 in
set_option maxHeartbeats 8000000 in
theorem Jl (r:Option Addr) (c:Nat) (xs:List MS) (d:Bool) (ty nm:List UInt8) (k:bW) (w:World) (h:Sl Jv 4 w (.slice r xs.length c) xs) (hn:xs.length<=1200000) :
  Calls Tryz.prog 201 #[aV (.slice r xs.length c) d ty nm k] w (Su w xs d ty nm):=by
 have Q:=hid (fun (W:World) (hW:Below w.heap.size w W)=>DW (h.below kG hW));have u:=hid (Br.start (w:=w) (va:=.slice r xs.length c) (k:=k) (d:=d) (ty:=ty) (nm:=nm));clear h;unfold aO at u;unfold aV;go_enter Tryz.func201,Tryz.ntmps201;go_wp2
 generalize ac:World.alloc _ _=W0 at *;go_loopw [4] (fun t wr=>∃ (n:Nat) (v:Value),n<=xs.length/\t=.int .i64 n/\Hid (Br w wr (.slice r xs.length c) k v ((xs.take n).map ku) d ty nm)) (fun t _=>xs.length - (RowKit.intOf t).toNat)
 case atStart=>exact ⟨0,_,Nat.zero_le _,rfl,u⟩
 case round =>
  clear u;obtain ⟨n,v,al,rfl,a⟩:=hrel;obtain ⟨a0,_⟩:=ag a.out.ad
  by_cases p:n < xs.length
  . obtain ⟨b,ab,rfl,K,Z,E,B,F⟩:=Q.out wr a.out.bel n p
    have l:=hid (show Below wr.heap.size wr (wr.drew.alloc (.cells #[.string ⟨(xs[n]).1.toArray⟩,.int .i64 0,.int .i64 0,.string ⟨#[]⟩] 124)) from ((Below.refl _ _).drew).alloc (Nat.le_refl _) _);have o:=hid (show (xs.take (n+1)).map ku=(xs.take n).map ku ++ [ku xs[n]] by rw [List.take_succ_eq_append_getElem p,List.map_append];rfl);have I:=hid (show ((xs.take n).map ku).length+1<=2000000 by rw [List.length_map,List.length_take];omega);have m:ku xs[n]=((xs[n]).1,(0,0,[])):=rfl;generalize (xs.take n).map ku=i at *;rw [m] at o;clear m E B F;generalize (xs[n]).1=s at *;obtain ⟨u0,_,_,_,_,_,_,P,_⟩:=ag a.out.ou;have af:=P 0;obtain ⟨q,A,y,H,D⟩:=ql a.out.own;subst y;have HD:=hid (show Below wr.heap.size wr wr.drew from (Below.refl _ _).drew);have X:=hid (bM wr.drew (.cells #[.string ⟨s.toArray⟩,.int .i64 0,.int .i64 0,.string ⟨#[]⟩] 124));have O:=hid (a.out.below l.out).own;have C:=hid (a.out.below l.out).sz;clear P;go_wp2_with fail
    go_region_law
     (refine kK qI qc sU Tryz.underlying88 Ae rfl (by omega) (by omega) (by rfl) _ _ (by rfl) (w.heap.size+3) (.slice q i.length A) i (by rfl) O.out wr.drew.heap.size 1 (s,0,0,[]) (by rfl) (fr:=(0,0)) (by exact X.out) I.out C.out (wr.drew.heap.size+1) (by simp) ?_
      intro g aa w5 M J G N;have j:=hid (a.out.app l.out (xZ M J G N));rw [show (i ++ [((s,0,0,[]):MS)]).length=i.length+1 by simp] at j;obtain ⟨⟨q5,f5⟩,_⟩:=j.out;clear M J G N)
    all_goals go_wp2
    all_goals go_roundw
    all_goals first
     | (case measure=>simp [RowKit.intOf];omega)
     | exact ⟨n+1,_,by omega,by go_num,hid (by rw [o.out];exact j.out.2)⟩
     | skip
  . obtain rfl:n=xs.length:=by omega
    rw [List.take_length] at a;unfold Su;generalize L:xs.map ku=i at *;obtain ⟨q,A,y,H,D⟩:=ql a.out.own;subst y;obtain ⟨_,a1,a2,a3,a4,a5,a6,_,_⟩:=ag a.out.ou;obtain ⟨o0,_⟩:=ag a.out.ou;obtain ⟨e0,e1,e2,e3,e4,e5,e6,f,_⟩:=ag a.out.re;have Z:=f 0;have E:=f 1;have B:=f 2;have F:=f 3;have g4:=f 4;have g5:=f 5;have g6:=f 6;go_wp2
    obtain ⟨K,R,z⟩:=a.out.fin rfl;obtain ⟨Y,k1,T,k3,V,S,U,_,_⟩:=ag K;exact bodyPost_ret (v:=aV (.slice q i.length A) d ty nm (0,0,[])) (by simp [results,Tryz.results201,go_sem,Y,k1,T,k3,V,S,U,aV]) rfl ⟨_,rfl,by subst L;exact R,z⟩
end Go.Proofs.YtomhbcfjhgecbaaGreatDoor.Adr
namespace Go.Proofs.YtomhbcfjhgecbaaGreatDoor.Adr
open Go.RowKit Go.Sort Go.Lib Go.Maps
open Go.Lib (hid)
set_option maxHeartbeats 4000000 in
theorem D8 (s:ByteArray) (w:World) (hs:s.size<=1200001):Calls Tryz.prog 154 #[.string s] w fun e w'=>e=.returned (.tuple #[.string ⟨(qJ s.data.toList).toArray⟩,.int .i64 (jF s.data.toList)])/\Below w.heap.size w w':=by
 have o:=hid (wX s w hs);unfold RD at o
 by_cases j:jF s.data.toList=0
 . obtain ⟨a,d,ty,nm,k,i⟩:=wu j
   have A:=i.bare;have J:=hid i.pr;rw [IE i j];rw [j] at o ⊢;have z:a.length<=1200000:=by have:=i.len;omega
   have C:=hid (fun (r:Option Addr) (c:Nat) (W:World) (h:Sl Jv 4 W (.slice r a.length c) a)=>show Calls Tryz.prog 201 #[aV (.slice r a.length c) d ty nm k] W (fun e w'=>∃ H,e=.returned (aV H d ty nm (0,0,[]))/\eP W.heap.size w' H (a.map ku)/\Below W.heap.size W w') from Jl r c a d ty nm k W h z);have L:=hid (fun (r:Option Addr) (c:Nat) (W:World) (h:Sl Jv 4 W (.slice r (a.map ku).length c) (a.map ku))=>NF r c (a.map ku) d ty nm W h A i.ty i.nm);clear hs i A j z;generalize a.map ku=R at *;go_enter Tryz.func154,Tryz.ntmps154;unfold aV at *
   go_wp2_with (first
    | (go_at_call 108
       refine o.out.mono ?_;rintro e w1 ⟨K,y,I,v,t,k1,rfl,b,f,l⟩;have m:=l rfl;rw [J.out] at m;obtain ⟨rfl,rfl,rfl,rfl,rfl⟩:a=y/\d=I/\ty=v/\nm=t/\k=k1:=by simpa using m
       clear l m;obtain ⟨N,M,rfl,_,_⟩:=dJ b;have D:=hid b;have g:=hid f;clear b f)
    | (go_at_call 201
       refine (C.out _ _ _ (eP.sl (by exact dw D.out (grown_below ((Below.refl _ _).alloc (Nat.le_refl _) _)) (fun _ _ e=>by cases e)))).mono ?_;rintro e w2 ⟨Q,rfl,n,p⟩;obtain ⟨S,P,rfl,_,_⟩:=dJ n;have F:=hid (eP.sl n);have G:=hid p;clear n p)
    | (go_at_call 200
       refine (L.out _ _ _ F.out).mono ?_;rintro e w3 ⟨rfl,u⟩;have B:=hid u;clear u))
   go_ret2
   have q:=g.out.trans ((((Below.refl _ _).alloc (Nat.le_refl _) _).trans (G.out.mono (by simp))).mono g.out.size);exact ⟨rfl,q.trans (B.out.mono q.size)⟩
 . rw [show qJ s.data.toList=[] by unfold qJ;rw [if_neg j]]
   have O:(jF s.data.toList != 0)=true:=by simp [j]
   clear j hs;generalize jF s.data.toList=E at *;go_enter Tryz.func154,Tryz.ntmps154;go_wp2_with (go_at_call 108;refine o.out.mono ?_;rintro e w1 ⟨K,y,I,v,t,k1,rfl,b,f,l⟩;have g:=hid f;obtain ⟨N,M,rfl,_,_⟩:=dJ b;clear f l b)
   go_ret2
   exact ⟨rfl,g.out.trans (((Below.refl _ _).alloc (Nat.le_refl _) _).mono g.out.size)⟩
end Go.Proofs.YtomhbcfjhgecbaaGreatDoor.Adr
