import Derived.Test.YtomhbcfjhgecbaaGreatDoorX3
import Derived.Test.YtomhbcfjhgecbaaGreatDoorX1
import Derived.Lib.Bytes2
set_option linter.unusedVariables false
set_option linter.unusedSimpArgs false
namespace Go.Proofs.YtomhbcfjhgecbaaGreatDoor.Adr
open Go.RowKit Go.Sort Go.Lib Go.Maps
open Go.Lib (hid)
theorem tw_at {α:Type} {p:α->Bool} : ∀ {l:List α} {k:Nat},k<=l.length->(∀ j (hj:j < l.length),j < k->p l[j]=true)->(∀ h:k < l.length,p l[k]=false)->l.takeWhile p=l.take k/\l.dropWhile p=l.drop k
 | [],k,_,_,_=>by simp
 | x :: l,0,_,_,h=>by
   have h0:p x=false:=h (by simp);rw [List.takeWhile_cons,List.dropWhile_cons,h0];simp
 | x :: l,k+1,hk,h1,h2=>by
   have h0:p x=true:=h1 0 (by simp) (by omega);obtain ⟨e1,e2⟩:=tw_at (p:=p) (l:=l) (k:=k) (by simpa using hk) (fun j hj hjk=>h1 (j+1) (by simpa using hj) (by omega)) (fun h=>h2 (by simpa using h));rw [List.takeWhile_cons,List.dropWhile_cons,h0,if_pos rfl,if_pos rfl,e1,e2];simp
theorem wd_at {s:ByteArray} {k:Nat} (hk:k<=s.size) (h1:∀ j (hj:j < s.size),j < k->wrd s[j].toNat=true) (h2:∀ h:k < s.size,wrd s[k].toNat=false):s.extract 0 k=⟨(wdL s.data.toList).toArray⟩/\s.extract k s.size=⟨(wdD s.data.toList).toArray⟩:=by
 obtain ⟨e1,e2⟩:=tw_at (p:=fun c:UInt8=>wrd c.toNat) (l:=s.data.toList) (k:=k) (by rw [size_list];exact hk) (fun j hj hjk=>h1 j (by rw [<-size_list];exact hj) hjk) (fun h=>h2 (by rw [<-size_list];exact h));unfold wdL wdD;rw [e1,e2];have:=ext_mid s 0 k;rw [Nat.zero_add,List.drop_zero] at this;exact ⟨this,ext_arr s k⟩
theorem ret_two {a b c d:ByteArray} (h1:a=c) (h2:b=d):Ending.returned (.tuple #[.string a,.string b])=.returned (.tuple #[.string c,.string d]):=by rw [h1,h2]
def WdR (s:ByteArray):Ending:=.returned (.tuple #[.string ⟨(wdL s.data.toList).toArray⟩,.string ⟨(wdD s.data.toList).toArray⟩])
set_option maxHeartbeats 4000000 in
theorem rword_any (s:ByteArray) (w:World) (hs:s.size<=2000000):Calls Tryz.prog 195 #[.string s] w fun e w'=>e=WdR s/\Below w.heap.size w w':=by
 have HF:=hid (fun k hk h1 h2=>wd_at (s:=s) (k:=k) hk h1 h2);go_enter Tryz.func195,Tryz.ntmps195;go_wp2
 go_loop [4] (fun i=>∃ k:Nat,k<=s.size/\i=.int .i64 k/\Hid (∀ j (hj:j < s.size),j < k->wrd s[j].toNat=true)) (fun i=>s.size - (RowKit.intOf i).toNat)
 case atStart=>exact ⟨0,by omega,rfl,hid (fun j hj h=>absurd h (by omega))⟩
 case round =>
  obtain ⟨k,hk,rfl,HA⟩:=hrel;have hk0:(0:Int)<=(k:Int):=by omega
  have hk1:(k:Int)<=(s.size:Int):=by omega
  by_cases hlt:k < s.size
  . have HAk:=hid (fun (h:wrd s[k].toNat=true)=>show ∀ j (hj:j < s.size),j < k+1->wrd s[j].toNat=true from fun j hj hjk=>by
     by_cases e:j < k
     . exact HA.out j hj e
     . obtain rfl:j=k:=by omega
       exact h)
    have HEND:=hid (fun (h:wrd s[k].toNat=false)=>HF.out k hk HA.out (fun _=>h));have HLk:=hid (rletter_any s[k] w);have hc:=lt256 s[k];cases hlk:ltr s[k].toNat
    . rw [hlk] at HLk
      by_cases h5:(s[k].toNat:Int) < 48
      . have HR:=hid (HEND.out (by unfold wrd dig;rw [hlk];simp;omega))
        clear hlk HAk HEND HF HA;go_wp2_with (go_at_call 171;refine HLk.out.mono ?_;rintro e w1 ⟨rfl,rfl⟩)
        go_quiet (fail)
        go_wp2
        go_ret2
        exact ⟨ret_two HR.out.1 HR.out.2,bel_drewN (Below.refl _ _) _⟩
      . by_cases h6:(57:Int) < (s[k].toNat:Int)
        . have HR:=hid (HEND.out (by unfold wrd dig;rw [hlk];simp;omega))
          clear hlk HAk HEND HF HA;go_wp2_with (go_at_call 171;refine HLk.out.mono ?_;rintro e w1 ⟨rfl,rfl⟩)
          go_quiet (fail)
          go_wp2
          go_ret2
          exact ⟨ret_two HR.out.1 HR.out.2,bel_drewN (Below.refl _ _) _⟩
        . have HN:=hid (HAk.out (by unfold wrd dig;rw [hlk];simp;omega))
          clear hlk HAk HEND HA;go_wp2_with (go_at_call 171;refine HLk.out.mono ?_;rintro e w1 ⟨rfl,rfl⟩)
          go_round
          case rel=>exact ⟨k+1,by omega,by go_num,HN⟩
          case measure=>simp [RowKit.intOf];omega
    . have HN:=hid (HAk.out (by unfold wrd;rw [hlk];rfl))
      rw [hlk] at HLk;clear hlk HAk HEND HA;go_wp2_with (go_at_call 171;refine HLk.out.mono ?_;rintro e w1 ⟨rfl,rfl⟩)
      go_round
      case rel=>exact ⟨k+1,by omega,by go_num,HN⟩
      case measure=>simp [RowKit.intOf];omega
  . obtain rfl:k=s.size:=by omega
    have HR:=hid (HF.out s.size (Nat.le_refl _) HA.out (fun h=>absurd h (Nat.lt_irrefl _)));rw [show s.extract 0 s.size=s by simp,show s.extract s.size s.size=ByteArray.empty by simp] at HR;clear HF HA;go_wp2
    go_quiet (fail)
    go_wp2
    go_ret2
    exact ⟨ret_two HR.out.1 HR.out.2,bel_drewN (Below.refl _ _) _⟩
theorem pre_eq (s p:ByteArray) (h:p.size<=s.size):((s.extract 0 p.size).toList == p.toList)=Lib.hasPrefix s.data.toList p.data.toList:=by
 have h1:=Lib.hasPrefix_raw s p;rw [decide_eq_true h,Bool.true_and] at h1;exact h1
theorem pre_no (s p:ByteArray) (h:¬ p.size<=s.size):Lib.hasPrefix s.data.toList p.data.toList=false:=by
 have h1:=Lib.hasPrefix_raw s p;rw [decide_eq_false h,Bool.false_and] at h1;exact h1.symm
set_option maxHeartbeats 4000000 in
theorem rbegins_any (s p:ByteArray) (w:World) (hs:s.size<=2000000) (hp:p.size<=2000000):Calls Tryz.prog 193 #[.string s,.string p] w fun e w'=>e=.returned (.bool (Lib.hasPrefix s.data.toList p.data.toList))/\w=w':=by
 by_cases h:p.size<=s.size
 . have HE:=hid (pre_eq s p h)
   have hp0:(0:Int)<=(p.size:Int):=by omega
   have hp1:(p.size:Int)<=(s.size:Int):=by omega
   go_enter Tryz.func193,Tryz.ntmps193;go_wp2
   go_ret
   exact ⟨ret_bool HE.out.symm,rfl⟩
 . have HE:=hid (pre_no s p h)
   have hp1:¬ (p.size:Int)<=(s.size:Int):=by omega
   clear h;go_enter Tryz.func193,Tryz.ntmps193;go_wp2
   go_ret
   exact ⟨ret_bool HE.out,rfl⟩
set_option maxHeartbeats 4000000 in
theorem rvalid_any (s:ByteArray) (w:World) (hs:s.size<=4096) (hv:validD s.data.toList=true):Calls Tryz.prog 84 #[.string s] w fun e w'=>e=.returned (.bool true)/\Below w.heap.size w w':=by
 have h1:¬ (4096:Int) < (s.size:Int):=by omega
 have HST:=hid (fun k (hk:k < s.size) (hv:validD (s.data.toList.drop k)=true)=>show decR (s.data.toList.drop k)≠0/\k+decR (s.data.toList.drop k)<=s.size/\validD (s.data.toList.drop (k+decR (s.data.toList.drop k)))=true from by
  have hne:s.data.toList.drop k≠[]:=fun e=>by have:=congrArg List.length e;rw [List.length_drop,size_list] at this;simp at this;omega
  have h2:=hv;rw [validD_ref _ hne] at h2
  by_cases h0:decR (s.data.toList.drop k)=0
  . rw [if_pos h0] at h2;cases h2
  . rw [if_neg h0,List.drop_drop] at h2
    have:=uv_le hne;rw [List.length_drop,size_list] at this;exact ⟨h0,by omega,h2⟩)
 have HD:=hid (fun k (W:World) (hk:k < s.size)=>rdecode_any s k W hk (by omega));go_enter Tryz.func84,Tryz.ntmps84;go_wp2
 go_loopg [3] s.size (fun gg s3 wr=>∃ k:Nat,k<=s.size/\s.size - k<=gg/\s3=.int .i64 k/\Hid (validD (s.data.toList.drop k)=true)/\Hid (Below w.heap.size w wr))
 case atStart=>exact ⟨0,by omega,by omega,rfl,hid (by rw [List.drop_zero];exact hv),hid (Below.refl _ _)⟩
 case round =>
  clear hv;obtain ⟨k,hk,hgg,rfl,HV,HB⟩:=hrel
  by_cases hlt:k < s.size
  . obtain ⟨q1,q2,q3⟩:=HST.out k hlt HV.out
    have HDk:=hid (HD.out k wr hlt);generalize decR (s.data.toList.drop k)=D at *;have HQ:=hid q3;have e0:(((D:Nat):Int) == 0)=false:=by simp;omega
    clear q3 q1;unfold DecP at HDk;go_wp2_with (go_at_call 127;refine HDk.out.mono ?_;rintro e w1 ⟨r1,rfl,hb1⟩;have HB1:=hid (HB.out.trans (hb1.mono HB.out.size));clear hb1)
    go_roundg (s.size - (k+D))
    case measure=>have:D≠0:=(fun e=>by subst e;simp at e0);omega
    case rel=>exact ⟨k+D,q2,by omega,by go_num,HQ,HB1⟩
  . obtain rfl:k=s.size:=by omega
    go_wp2
    go_ret
    exact ⟨rfl,HB.out⟩
end Go.Proofs.YtomhbcfjhgecbaaGreatDoor.Adr
namespace Go.Proofs.YtomhbcfjhgecbaaGreatDoor.Adr
open Go.RowKit Go.Sort Go.Lib Go.Maps
open Go.Lib (hid)
open Stp (wq Spc frUpon Lat Lat.refl wp_region_fresh wpF_quiet wpF_told wpF_skip wpF_put wpF_nil grw_ex grw_below noEnter_op sVal sBool stTrue Grw)
attribute [local go_sem] frUpon
def sStr (l:List UInt8):Spc:=sVal (.string ⟨l.toArray⟩)
def KyR (x:KeyT × List UInt8 × Bool):Ending:=.returned (.tuple #[kV x.1,.string ⟨x.2.1.toArray⟩,.bool x.2.2])
set_option maxHeartbeats 4000000 in
theorem rKey0 (w:World):Calls Tryz.prog 224 #[kV (0,0,[])] w fun e w'=>e=.returned (.bool true)/\Below w.heap.size w w':=by
 unfold kV;go_enter Tryz.func224,Tryz.ntmps224;go_wp2
 go_ret
 exact ⟨rfl,(Below.refl _ _).alloc (Nat.le_refl _) _⟩
set_option maxHeartbeats 4000000 in
theorem rKeyS (t:List UInt8) (w:World) (hs:t.length<=4096) (hv:validD t=true):Calls Tryz.prog 224 #[kV (2,0,t)] w fun e w'=>e=.returned (.bool true)/\Below w.heap.size w w':=by
 unfold kV;have HV:=hid (fun W=>rvalid_any ⟨t.toArray⟩ W (by rw [<-size_list];exact hs) hv);go_enter Tryz.func224,Tryz.ntmps224;go_wp2_with (go_at_call 84;refine (HV.out _).mono ?_;rintro e w1 ⟨rfl,hb1⟩)
 go_ret
 exact ⟨rfl,((Below.refl _ _).alloc (Nat.le_refl _) _).trans (hb1.mono (by simp))⟩
theorem keyR_no {s:ByteArray} (h:∀ h:0 < s.size,s[0].toNat≠91):keyR s.data.toList=((0,0,[]),s.data.toList,true):=by
 unfold keyR;rw [if_pos]
 by_cases h0:0 < s.size
 . have:=h h0
   rw [show s.data.toList.getD 0 0=s[0] from getD_at s h0];exact this
 . have:s.data.toList=[]:=List.length_eq_zero_iff.1 (by rw [size_list];omega)
   rw [this];decide
set_option maxHeartbeats 4000000 in
theorem rkey_no (s:ByteArray) (w:World) (h:∀ h:0 < s.size,s[0].toNat≠91):Calls Tryz.prog 197 #[.string s] w fun e w'=>e=KyR (keyR s.data.toList)/\Below w.heap.size w w':=by
 rw [keyR_no h]
 by_cases h0:s.size=0
 . have e0:=str_nil h0
   have HS:=hid (show (⟨s.data.toList.toArray⟩:ByteArray)=s from rfl);clear h;go_enter Tryz.func197,Tryz.ntmps197;go_wp2
   exact bodyPost_ret (v:=.tuple #[kV (0,0,[]),.string s,.bool true]) (by simp [results,Tryz.results197,go_sem,kV]) rfl ⟨rfl,(Below.refl _ _).alloc (Nat.le_refl _) _⟩
 . have e0:=str_cons h0
   have hpos:0 < s.size:=by omega
   have h1:=h hpos;have e1:(((s[0].toNat:Nat):Int) != 91)=true:=by simp;omega
   clear h h1 h0;go_enter Tryz.func197,Tryz.ntmps197;go_wp2
   exact bodyPost_ret (v:=.tuple #[kV (0,0,[]),.string s,.bool true]) (by simp [results,Tryz.results197,go_sem,kV]) rfl ⟨rfl,(Below.refl _ _).alloc (Nat.le_refl _) _⟩
theorem keyR_q {s:ByteArray} (h:1 < s.size) (h91:s[0].toNat=91) (h34:s[1].toNat=34):keyR s.data.toList =
  if (unqS s.data.toList.tail).1≠0 ∨ (s.data.toList.getD ((unqS s.data.toList.tail).2.2+1) 0).toNat≠93 ∨ quo (unqS s.data.toList.tail).2.1≠s.data.toList.tail.take (unqS s.data.toList.tail).2.2 then ((0,0,[]),[],false)
  else ((2,0,(unqS s.data.toList.tail).2.1),s.data.toList.drop ((unqS s.data.toList.tail).2.2+2),true):=by
 unfold keyR;rw [if_neg (by rw [getD_at s (show 0 < s.size by omega)];simp [h91]),if_pos (by rw [getD_at s h];exact h34)]
theorem getD_end {s:ByteArray} {k:Nat} (h:¬ k < s.size):(s.data.toList.getD k 0).toNat≠93:=by
 rw [List.getD_eq_getElem?_getD,List.getElem?_eq_none (by rw [size_list];omega)];decide
theorem ext_tail {s:ByteArray} {n:Nat} : s.extract 1 (n+1)=⟨(s.data.toList.tail.take n).toArray⟩:=by
 have:=ext_mid s 1 n;rw [Nat.add_comm 1 n,List.drop_one] at this;exact this
theorem list_ne {a b:List UInt8} (h:a≠b):((⟨a.toArray⟩:ByteArray).toList != (⟨b.toArray⟩:ByteArray).toList)=true:=by
 rw [ByteArray.toList_eq,ByteArray.toList_eq];simpa using h
theorem ko_end {w W:World} {r:Nat} {k n:Int} {t:List UInt8} (h:W.heap[r]?=some (kO k n t)) (k' n':Int) (t':List UInt8):∃ W',W'=(((W.setCell ⟨r,0,none⟩ (.int .i64 k')).setCell ⟨r,1,none⟩ (.int .i64 n')).setCell ⟨r,2,none⟩ (.string ⟨t'.toArray⟩))/\W'.cell? ⟨r,0,none⟩=some (.int .i64 k')/\W'.cell? ⟨r,1,none⟩=some (.int .i64 n')/\W'.cell? ⟨r,2,none⟩=some (.string ⟨t'.toArray⟩):=by
 obtain ⟨a,b,c,_⟩:=ko_cells (ko_set h k' n' t');exact ⟨_,rfl,a,b,c⟩
set_option maxRecDepth 100000 in
set_option maxHeartbeats 8000000 in
theorem rkey_qa (s:ByteArray) (w:World) (hs:s.size<=1200001) (hp:1 < s.size) (h91:s[0].toNat=91) (h34:s[1].toNat=34) (he:(unqS s.data.toList.tail).1≠0):Calls Tryz.prog 197 #[.string s] w fun e w'=>e=KyR ((0,0,[]),[],false)/\Below w.heap.size w w':=by
 have e0:=str_cons (show s.size≠0 by omega);have e1:(((s[0].toNat:Nat):Int) != 91)=false:=by rw [h91];rfl
 have e2:(((s[1].toNat:Nat):Int) == 34)=true:=by rw [h34];rfl
 have hp1:(1:Int) < (s.size:Int):=by omega
 have hp2:(1:Int)<=(s.size:Int):=by omega
 have hz:(s.extract 1 s.size).size<=1200000:=by rw [ext_size s 1 (by omega)];omega
 have HUQ:=hid (fun W=>runq_any (s.extract 1 s.size) W hz);rw [show (s.extract 1 s.size).data.toList=s.data.toList.tail by rw [extract_list,List.drop_one]] at HUQ;have hn:=(unqS_ok s.data.toList.tail).2;rw [List.length_tail,size_list] at hn;unfold UqR at HUQ;obtain ⟨er,her⟩:∃ er,(unqS s.data.toList.tail).1=er:=⟨_,rfl⟩;obtain ⟨x,hx⟩:∃ x,(unqS s.data.toList.tail).2.1=x:=⟨_,rfl⟩;obtain ⟨n,hn0⟩:∃ n,(unqS s.data.toList.tail).2.2=n:=⟨_,rfl⟩;rw [her,hx,hn0] at HUQ;rw [hn0] at hn;have ee:(er != 0)=true:=by rw [<-her];simp [he]
 clear her hx hn0 hz h91 h34 he;have HK0:=hid (ko_new w (kO 0 0 []));unfold kO at HK0;go_enter Tryz.func197,Tryz.ntmps197;go_wp2_with (go_at_call 222;refine (HUQ.out _).mono ?_;rintro e w1 ⟨rfl,hb1⟩;have HB1:=hid hb1;clear hb1)
 have HA1:=hid (show Below w1.heap.size w1 (w1.alloc (.cells #[.int .i64 2,.int .i64 0,.string ⟨x.toArray⟩] 91)) from (Below.refl _ _).alloc (Nat.le_refl _) _);have HBA:=hid ((show Below w.heap.size w (w.alloc (.cells #[.int .i64 0,.int .i64 0,.string ⟨#[]⟩] 91)) from (Below.refl _ _).alloc (Nat.le_refl _) _).trans ((HB1.out.trans (HA1.out.mono HB1.out.size)).mono (by simp)));have HK1:=hid (((HB1.out.trans (HA1.out.mono HB1.out.size)).block w.heap.size (by simp)).trans HK0.out);have HK2:=hid (ko_new w1 (kO 2 0 x));unfold kO at HK2;generalize hM:w1.heap.size=M at *;generalize w1.alloc (.cells #[.int .i64 2,.int .i64 0,.string ⟨x.toArray⟩] 91)=W2 at *;obtain ⟨d0,d1,d2,d3,d4⟩:=ko_cells (W:=W2) (r:=M) (k:=2) (n:=0) (t:=x) HK2.out;have g0:=fun d os=>cell_regrown d0 d os;have g1:=fun d os=>cell_regrown d1 d os;have g2:=fun d os=>cell_regrown d2 d os;refine wp_region_fresh (fun _=>none) (by kernel_rfl) (by kernel_rfl) ?_
 iterate 3 (refine wq ?_;intro K hK;go_big_quiet_op;go_big_quiet_on)
 iterate 5 (refine wpF_skip (by kernel_rfl) ?_)
 (refine wpF_put ?_;intro K hK;go_simp;refine hK _ ?_;clear hK K)
 iterate 2 (refine wq ?_;intro K hK;go_big_quiet_op;go_big_quiet_on)
 iterate 5 (refine wpF_skip (by kernel_rfl) ?_)
 (refine wpF_put ?_;intro K hK;go_simp;refine hK _ ?_;clear hK K)
 iterate 2 (refine wq ?_;intro K hK;go_big_quiet_op;go_big_quiet_on)
 iterate 7 (refine wpF_skip (by kernel_rfl) ?_)
 (refine wpF_put ?_;intro K hK;go_simp;refine hK _ ?_;clear hK K)
 iterate 2 (refine wq ?_;intro K hK;go_big_quiet_op;go_big_quiet_on)
 iterate 3 (refine wpF_skip (by kernel_rfl) ?_)
 (refine wpF_put ?_;intro K hK;go_simp;refine hK _ ?_;clear hK K)
 (refine wq ?_;intro K hK;go_big_quiet_op;go_big_quiet_on)
 refine wpF_nil ?_;intro w6 hw6 hE6;have hb6:=grw_below hw6;clear hw6 hE6;have HK3:=hid ((hb6.block w.heap.size (lt_of_block HK1.out)).trans HK1.out);obtain ⟨f0,f1,f2,f3,f4⟩:=ko_cells (W:=w6) (r:=w.heap.size) (k:=0) (n:=0) (t:=[]) HK3.out;have f30:=f3 0;have f31:=f3 1;have f32:=f3 2;have HB6:=hid (HBA.out.trans (hb6.mono HBA.out.size));clear f3 hb6;go_wp2
 obtain ⟨W',hW',a0,a1,a2⟩:=ko_end (w:=w) HK3.out 0 0 [];have HBE:=hid (show Below w.heap.size w W' from by rw [hW'];exact ((HB6.out.setCell (Nat.le_refl _) _).setCell (Nat.le_refl _) _).setCell (Nat.le_refl _) _);rw [show (⟨([]:List UInt8).toArray⟩:ByteArray)=⟨#[]⟩ from rfl] at hW' a2;rw [<-hW'];exact bodyPost_ret (v:=.tuple #[kV (0,0,[]),.string ⟨#[]⟩,.bool false]) (by simp [results,Tryz.results197,go_sem,kV,a0,a1,a2]) rfl ⟨rfl,HBE.out⟩
set_option maxRecDepth 100000 in
set_option maxHeartbeats 8000000 in
theorem rkey_qb (s:ByteArray) (w:World) (hs:s.size<=1200001) (hp:1 < s.size) (h91:s[0].toNat=91) (h34:s[1].toNat=34) (he:(unqS s.data.toList.tail).1=0) (hb:¬ (unqS s.data.toList.tail).2.2+1 < s.size):Calls Tryz.prog 197 #[.string s] w fun e w'=>e=KyR ((0,0,[]),[],false)/\Below w.heap.size w w':=by
 have e0:=str_cons (show s.size≠0 by omega);have e1:(((s[0].toNat:Nat):Int) != 91)=false:=by rw [h91];rfl
 have e2:(((s[1].toNat:Nat):Int) == 34)=true:=by rw [h34];rfl
 have hp1:(1:Int) < (s.size:Int):=by omega
 have hp2:(1:Int)<=(s.size:Int):=by omega
 have hz:(s.extract 1 s.size).size<=1200000:=by rw [ext_size s 1 (by omega)];omega
 have HUQ:=hid (fun W=>runq_any (s.extract 1 s.size) W hz);rw [show (s.extract 1 s.size).data.toList=s.data.toList.tail by rw [extract_list,List.drop_one]] at HUQ;have hn:=(unqS_ok s.data.toList.tail).2;rw [List.length_tail,size_list] at hn;unfold UqR at HUQ;obtain ⟨er,her⟩:∃ er,(unqS s.data.toList.tail).1=er:=⟨_,rfl⟩;obtain ⟨x,hx⟩:∃ x,(unqS s.data.toList.tail).2.1=x:=⟨_,rfl⟩;obtain ⟨n,hn0⟩:∃ n,(unqS s.data.toList.tail).2.2=n:=⟨_,rfl⟩;rw [her,hx,hn0] at HUQ;rw [hn0] at hn;have ee:(er != 0)=false:=by rw [<-her];simp [he]
 rw [hn0] at hb;have hge:((s.size:Nat):Int)<=((n:Nat):Int)+1:=by omega
 clear her hx hn0 hz h91 h34 he hb;have HK0:=hid (ko_new w (kO 0 0 []));unfold kO at HK0;go_enter Tryz.func197,Tryz.ntmps197;go_wp2_with (go_at_call 222;refine (HUQ.out _).mono ?_;rintro e w1 ⟨rfl,hb1⟩;have HB1:=hid hb1;clear hb1)
 have HA1:=hid (show Below w1.heap.size w1 (w1.alloc (.cells #[.int .i64 2,.int .i64 0,.string ⟨x.toArray⟩] 91)) from (Below.refl _ _).alloc (Nat.le_refl _) _);have HBA:=hid ((show Below w.heap.size w (w.alloc (.cells #[.int .i64 0,.int .i64 0,.string ⟨#[]⟩] 91)) from (Below.refl _ _).alloc (Nat.le_refl _) _).trans ((HB1.out.trans (HA1.out.mono HB1.out.size)).mono (by simp)));have HK1:=hid (((HB1.out.trans (HA1.out.mono HB1.out.size)).block w.heap.size (by simp)).trans HK0.out);have HK2:=hid (ko_new w1 (kO 2 0 x));unfold kO at HK2;generalize hM:w1.heap.size=M at *;generalize w1.alloc (.cells #[.int .i64 2,.int .i64 0,.string ⟨x.toArray⟩] 91)=W2 at *;obtain ⟨d0,d1,d2,d3,d4⟩:=ko_cells (W:=W2) (r:=M) (k:=2) (n:=0) (t:=x) HK2.out;have g0:=fun d os=>cell_regrown d0 d os;have g1:=fun d os=>cell_regrown d1 d os;have g2:=fun d os=>cell_regrown d2 d os;refine wp_region_fresh (fun _=>none) (by kernel_rfl) (by kernel_rfl) ?_
 iterate 3 (refine wq ?_;intro K hK;go_big_quiet_op;go_big_quiet_on)
 iterate 3 (refine wq ?_;intro K hK;go_big_quiet_op;go_big_quiet_on)
 (refine wpF_quiet (grw_ex _) (by kernel_rfl) rfl (by intro w f args w';go_simp) ?_;intro K hK;go_big_quiet_op;go_big_quiet_on)
 (refine wq ?_;intro K hK;go_big_quiet_op;go_big_quiet_on)
 iterate 2 (refine wq ?_;intro K hK;go_big_quiet_op;go_big_quiet_on)
 iterate 5 (refine wpF_skip (by kernel_rfl) ?_)
 (refine wpF_put ?_;intro K hK;go_simp;refine hK _ ?_;clear hK K)
 iterate 2 (refine wq ?_;intro K hK;go_big_quiet_op;go_big_quiet_on)
 iterate 7 (refine wpF_skip (by kernel_rfl) ?_)
 (refine wpF_put ?_;intro K hK;go_simp;refine hK _ ?_;clear hK K)
 iterate 2 (refine wq ?_;intro K hK;go_big_quiet_op;go_big_quiet_on)
 iterate 3 (refine wpF_skip (by kernel_rfl) ?_)
 (refine wpF_put ?_;intro K hK;go_simp;refine hK _ ?_;clear hK K)
 (refine wq ?_;intro K hK;go_big_quiet_op;go_big_quiet_on)
 refine wpF_nil ?_;intro w6 hw6 hE6;have hb6:=grw_below hw6;clear hw6 hE6;have HK3:=hid ((hb6.block w.heap.size (lt_of_block HK1.out)).trans HK1.out);obtain ⟨f0,f1,f2,f3,f4⟩:=ko_cells (W:=w6) (r:=w.heap.size) (k:=0) (n:=0) (t:=[]) HK3.out;have f30:=f3 0;have f31:=f3 1;have f32:=f3 2;have HB6:=hid (HBA.out.trans (hb6.mono HBA.out.size));clear f3 hb6;go_wp2
 obtain ⟨W',hW',a0,a1,a2⟩:=ko_end (w:=w) HK3.out 0 0 [];have HBE:=hid (show Below w.heap.size w W' from by rw [hW'];exact ((HB6.out.setCell (Nat.le_refl _) _).setCell (Nat.le_refl _) _).setCell (Nat.le_refl _) _);rw [show (⟨([]:List UInt8).toArray⟩:ByteArray)=⟨#[]⟩ from rfl] at hW' a2;rw [<-hW'];exact bodyPost_ret (v:=.tuple #[kV (0,0,[]),.string ⟨#[]⟩,.bool false]) (by simp [results,Tryz.results197,go_sem,kV,a0,a1,a2]) rfl ⟨rfl,HBE.out⟩
set_option maxRecDepth 100000 in
set_option maxHeartbeats 8000000 in
theorem rkey_qc (s:ByteArray) (w:World) (hs:s.size<=1200001) (hp:1 < s.size) (h91:s[0].toNat=91) (h34:s[1].toNat=34) (he:(unqS s.data.toList.tail).1=0) (hb:(unqS s.data.toList.tail).2.2+1 < s.size) (hc:s[(unqS s.data.toList.tail).2.2+1].toNat≠93):Calls Tryz.prog 197 #[.string s] w fun e w'=>e=KyR ((0,0,[]),[],false)/\Below w.heap.size w w':=by
 have e0:=str_cons (show s.size≠0 by omega);have e1:(((s[0].toNat:Nat):Int) != 91)=false:=by rw [h91];rfl
 have e2:(((s[1].toNat:Nat):Int) == 34)=true:=by rw [h34];rfl
 have hp1:(1:Int) < (s.size:Int):=by omega
 have hp2:(1:Int)<=(s.size:Int):=by omega
 have hz:(s.extract 1 s.size).size<=1200000:=by rw [ext_size s 1 (by omega)];omega
 have HUQ:=hid (fun W=>runq_any (s.extract 1 s.size) W hz);rw [show (s.extract 1 s.size).data.toList=s.data.toList.tail by rw [extract_list,List.drop_one]] at HUQ;have hn:=(unqS_ok s.data.toList.tail).2;rw [List.length_tail,size_list] at hn;unfold UqR at HUQ;obtain ⟨er,her⟩:∃ er,(unqS s.data.toList.tail).1=er:=⟨_,rfl⟩;obtain ⟨x,hx⟩:∃ x,(unqS s.data.toList.tail).2.1=x:=⟨_,rfl⟩;obtain ⟨n,hn0⟩:∃ n,(unqS s.data.toList.tail).2.2=n:=⟨_,rfl⟩;rw [her,hx,hn0] at HUQ;rw [hn0] at hn;have ee:(er != 0)=false:=by rw [<-her];simp [he]
 rw [hn0] at hb;have hge:decide (((s.size:Nat):Int)<=((n:Nat):Int)+1)=false:=by simp;omega
 have hq0:(0:Int)<=(n:Int)+1:=by omega
 have hq1:(n:Int)+1 < (s.size:Int):=by omega
 have hq2:((n:Int)+1).toNat=n+1:=by omega
 have hc2:(((s[n+1].toNat:Nat):Int) != 93)=true:=by have:=hc;simp only [hn0] at this;simp;omega
 clear her hx hn0 hz h91 h34 he hc;have HK0:=hid (ko_new w (kO 0 0 []));unfold kO at HK0;go_enter Tryz.func197,Tryz.ntmps197;go_wp2_with (go_at_call 222;refine (HUQ.out _).mono ?_;rintro e w1 ⟨rfl,hb1⟩;have HB1:=hid hb1;clear hb1)
 have HA1:=hid (show Below w1.heap.size w1 (w1.alloc (.cells #[.int .i64 2,.int .i64 0,.string ⟨x.toArray⟩] 91)) from (Below.refl _ _).alloc (Nat.le_refl _) _);have HBA:=hid ((show Below w.heap.size w (w.alloc (.cells #[.int .i64 0,.int .i64 0,.string ⟨#[]⟩] 91)) from (Below.refl _ _).alloc (Nat.le_refl _) _).trans ((HB1.out.trans (HA1.out.mono HB1.out.size)).mono (by simp)));have HK1:=hid (((HB1.out.trans (HA1.out.mono HB1.out.size)).block w.heap.size (by simp)).trans HK0.out);have HK2:=hid (ko_new w1 (kO 2 0 x));unfold kO at HK2;generalize hM:w1.heap.size=M at *;generalize w1.alloc (.cells #[.int .i64 2,.int .i64 0,.string ⟨x.toArray⟩] 91)=W2 at *;obtain ⟨d0,d1,d2,d3,d4⟩:=ko_cells (W:=W2) (r:=M) (k:=2) (n:=0) (t:=x) HK2.out;have g0:=fun d os=>cell_regrown d0 d os;have g1:=fun d os=>cell_regrown d1 d os;have g2:=fun d os=>cell_regrown d2 d os;refine wp_region_fresh (fun _=>none) (by kernel_rfl) (by kernel_rfl) ?_
 iterate 3 (refine wq ?_;intro K hK;go_big_quiet_op;go_big_quiet_on)
 iterate 3 (refine wq ?_;intro K hK;go_big_quiet_op;go_big_quiet_on)
 (refine wpF_quiet (grw_ex _) (by kernel_rfl) rfl (by intro w f args w';go_simp) ?_;intro K hK;go_big_quiet_op;go_big_quiet_on)
 (refine wq ?_;intro K hK;go_big_quiet_op;go_big_quiet_on)
 iterate 2 (refine wq ?_;intro K hK;go_big_quiet_op;go_big_quiet_on)
 iterate 5 (refine wq ?_;intro K hK;go_big_quiet_op;go_big_quiet_on)
 iterate 2 (refine wq ?_;intro K hK;go_big_quiet_op;go_big_quiet_on)
 iterate 7 (refine wpF_skip (by kernel_rfl) ?_)
 (refine wpF_put ?_;intro K hK;go_simp;refine hK _ ?_;clear hK K)
 iterate 2 (refine wq ?_;intro K hK;go_big_quiet_op;go_big_quiet_on)
 iterate 3 (refine wpF_skip (by kernel_rfl) ?_)
 (refine wpF_put ?_;intro K hK;go_simp;refine hK _ ?_;clear hK K)
 (refine wq ?_;intro K hK;go_big_quiet_op;go_big_quiet_on)
 refine wpF_nil ?_;intro w6 hw6 hE6;have hb6:=grw_below hw6;clear hw6 hE6;have HK3:=hid ((hb6.block w.heap.size (lt_of_block HK1.out)).trans HK1.out);obtain ⟨f0,f1,f2,f3,f4⟩:=ko_cells (W:=w6) (r:=w.heap.size) (k:=0) (n:=0) (t:=[]) HK3.out;have f30:=f3 0;have f31:=f3 1;have f32:=f3 2;have HB6:=hid (HBA.out.trans (hb6.mono HBA.out.size));clear f3 hb6;go_wp2
 obtain ⟨W',hW',a0,a1,a2⟩:=ko_end (w:=w) HK3.out 0 0 [];have HBE:=hid (show Below w.heap.size w W' from by rw [hW'];exact ((HB6.out.setCell (Nat.le_refl _) _).setCell (Nat.le_refl _) _).setCell (Nat.le_refl _) _);rw [show (⟨([]:List UInt8).toArray⟩:ByteArray)=⟨#[]⟩ from rfl] at hW' a2;rw [<-hW'];exact bodyPost_ret (v:=.tuple #[kV (0,0,[]),.string ⟨#[]⟩,.bool false]) (by simp [results,Tryz.results197,go_sem,kV,a0,a1,a2]) rfl ⟨rfl,HBE.out⟩
set_option maxRecDepth 100000 in
set_option maxHeartbeats 8000000 in
theorem rkey_qd (s:ByteArray) (w:World) (hs:s.size<=1200001) (hp:1 < s.size) (h91:s[0].toNat=91) (h34:s[1].toNat=34) (he:(unqS s.data.toList.tail).1=0) (hb:(unqS s.data.toList.tail).2.2+1 < s.size) (hc:s[(unqS s.data.toList.tail).2.2+1].toNat=93) (hd:quo (unqS s.data.toList.tail).2.1≠s.data.toList.tail.take (unqS s.data.toList.tail).2.2):Calls Tryz.prog 197 #[.string s] w fun e w'=>e=KyR ((0,0,[]),[],false)/\Below w.heap.size w w':=by
 have e0:=str_cons (show s.size≠0 by omega);have e1:(((s[0].toNat:Nat):Int) != 91)=false:=by rw [h91];rfl
 have e2:(((s[1].toNat:Nat):Int) == 34)=true:=by rw [h34];rfl
 have hp1:(1:Int) < (s.size:Int):=by omega
 have hp2:(1:Int)<=(s.size:Int):=by omega
 have hz:(s.extract 1 s.size).size<=1200000:=by rw [ext_size s 1 (by omega)];omega
 have HUQ:=hid (fun W=>runq_any (s.extract 1 s.size) W hz);rw [show (s.extract 1 s.size).data.toList=s.data.toList.tail by rw [extract_list,List.drop_one]] at HUQ;have hn:=(unqS_ok s.data.toList.tail).2;rw [List.length_tail,size_list] at hn;unfold UqR at HUQ;obtain ⟨er,her⟩:∃ er,(unqS s.data.toList.tail).1=er:=⟨_,rfl⟩;obtain ⟨x,hx⟩:∃ x,(unqS s.data.toList.tail).2.1=x:=⟨_,rfl⟩;obtain ⟨n,hn0⟩:∃ n,(unqS s.data.toList.tail).2.2=n:=⟨_,rfl⟩;rw [her,hx,hn0] at HUQ;rw [hn0] at hn;have ee:(er != 0)=false:=by rw [<-her];simp [he]
 rw [hn0] at hb;have hge:decide (((s.size:Nat):Int)<=((n:Nat):Int)+1)=false:=by simp;omega
 have hq0:(0:Int)<=(n:Int)+1:=by omega
 have hq1:(n:Int)+1 < (s.size:Int):=by omega
 have hq2:((n:Int)+1).toNat=n+1:=by omega
 have hc2:(((s[n+1].toNat:Nat):Int) != 93)=false:=by have:=hc;simp only [hn0] at this;rw [this];rfl
 have hxl:=(unqS_ok s.data.toList.tail).1;rw [hx] at hxl;have HQT:=hid (fun W=>rquote_any ⟨x.toArray⟩ W (by rw [<-size_list];show x.length<=2000000;omega));clear hxl;rw [hx,hn0] at hd;have hd2:((s.extract 1 (n+1)).toList != (⟨(quo x).toArray⟩:ByteArray).toList)=true:=by rw [ext_tail];exact list_ne (fun e=>hd e.symm)
 have hd4:(s.extract 1 (n+1)).toList=s.data.toList.tail.take n:=by rw [ext_tail,ByteArray.toList_eq]
 have hd3:((s.extract 1 (n+1)).toList == quo x)=false:=by rw [hd4];exact beq_eq_false_iff_ne.2 (fun e=>hd e.symm)
 have hd5:¬ (s.extract 1 (n+1)).toList=quo x:=by rw [hd4];exact fun e=>hd e.symm
 clear hd4;clear her hx hn0 hz h91 h34 he hc hd;have HK0:=hid (ko_new w (kO 0 0 []));unfold kO at HK0;go_enter Tryz.func197,Tryz.ntmps197;go_wp2_with (go_at_call 222;refine (HUQ.out _).mono ?_;rintro e w1 ⟨rfl,hb1⟩;have HB1:=hid hb1;clear hb1)
 have HA1:=hid (show Below w1.heap.size w1 (w1.alloc (.cells #[.int .i64 2,.int .i64 0,.string ⟨x.toArray⟩] 91)) from (Below.refl _ _).alloc (Nat.le_refl _) _);have HBA:=hid ((show Below w.heap.size w (w.alloc (.cells #[.int .i64 0,.int .i64 0,.string ⟨#[]⟩] 91)) from (Below.refl _ _).alloc (Nat.le_refl _) _).trans ((HB1.out.trans (HA1.out.mono HB1.out.size)).mono (by simp)));have HK1:=hid (((HB1.out.trans (HA1.out.mono HB1.out.size)).block w.heap.size (by simp)).trans HK0.out);have HK2:=hid (ko_new w1 (kO 2 0 x));unfold kO at HK2;generalize hM:w1.heap.size=M at *;generalize w1.alloc (.cells #[.int .i64 2,.int .i64 0,.string ⟨x.toArray⟩] 91)=W2 at *;obtain ⟨d0,d1,d2,d3,d4⟩:=ko_cells (W:=W2) (r:=M) (k:=2) (n:=0) (t:=x) HK2.out;have g0:=fun d os=>cell_regrown d0 d os;have g1:=fun d os=>cell_regrown d1 d os;have g2:=fun d os=>cell_regrown d2 d os;refine wp_region_fresh (fun k=>match k with | 22=>some (sStr (quo x)) | _=>none) (by kernel_rfl) (by kernel_rfl) ?_
 iterate 3 (refine wq ?_;intro K hK;go_big_quiet_op;go_big_quiet_on)
 iterate 3 (refine wq ?_;intro K hK;go_big_quiet_op;go_big_quiet_on)
 (refine wpF_quiet (grw_ex _) (by kernel_rfl) rfl (by intro w f args w';go_simp) ?_;intro K hK;go_big_quiet_op;go_big_quiet_on)
 (refine wq ?_;intro K hK;go_big_quiet_op;go_big_quiet_on)
 iterate 2 (refine wq ?_;intro K hK;go_big_quiet_op;go_big_quiet_on)
 iterate 5 (refine wq ?_;intro K hK;go_big_quiet_op;go_big_quiet_on)
 iterate 2 (refine wq ?_;intro K hK;go_big_quiet_op;go_big_quiet_on)
 iterate 5 (refine wq ?_;intro K hK;go_big_quiet_op;go_big_quiet_on)
 refine wpF_told (sStr (quo x)) (by kernel_rfl) rfl ⟨_,rfl⟩ stTrue (fun w4 hw4 hE4=>?_) ?_
 . have hb4:=grw_below hw4
   have hh:=HQT.out w4;clear hw4 hE4 hb4;go_simp
   go_at_call 223;refine Calls.mono hh ?_;rintro e w5 ⟨rfl,hb5⟩;exact ⟨_,rfl,hb5,rfl,trivial⟩
 rintro _ rfl
 (refine wpF_put ?_;intro K hK;go_simp;refine hK _ ?_;clear hK K)
 (refine wq ?_;intro K hK;go_big_quiet_op;go_big_quiet_on)
 iterate 2 (refine wq ?_;intro K hK;go_big_quiet_op;go_big_quiet_on)
 iterate 3 (refine wpF_skip (by kernel_rfl) ?_)
 (refine wpF_put ?_;intro K hK;go_simp;refine hK _ ?_;clear hK K)
 (refine wq ?_;intro K hK;go_big_quiet_op;go_big_quiet_on)
 refine wpF_nil ?_;intro w6 hw6 hE6;have hb6:=grw_below hw6;clear hw6 hE6;have HK3:=hid ((hb6.block w.heap.size (lt_of_block HK1.out)).trans HK1.out);obtain ⟨f0,f1,f2,f3,f4⟩:=ko_cells (W:=w6) (r:=w.heap.size) (k:=0) (n:=0) (t:=[]) HK3.out;have f30:=f3 0;have f31:=f3 1;have f32:=f3 2;have HB6:=hid (HBA.out.trans (hb6.mono HBA.out.size));clear f3 hb6;go_wp2
 obtain ⟨W',hW',a0,a1,a2⟩:=ko_end (w:=w) HK3.out 0 0 [];have HBE:=hid (show Below w.heap.size w W' from by rw [hW'];exact ((HB6.out.setCell (Nat.le_refl _) _).setCell (Nat.le_refl _) _).setCell (Nat.le_refl _) _);rw [show (⟨([]:List UInt8).toArray⟩:ByteArray)=⟨#[]⟩ from rfl] at hW' a2;rw [<-hW'];exact bodyPost_ret (v:=.tuple #[kV (0,0,[]),.string ⟨#[]⟩,.bool false]) (by simp [results,Tryz.results197,go_sem,kV,a0,a1,a2]) rfl ⟨rfl,HBE.out⟩
set_option maxRecDepth 100000 in
set_option maxHeartbeats 8000000 in
theorem rkey_qe (s:ByteArray) (w:World) (hs:s.size<=1200001) (hp:1 < s.size) (h91:s[0].toNat=91) (h34:s[1].toNat=34) (he:(unqS s.data.toList.tail).1=0) (hb:(unqS s.data.toList.tail).2.2+1 < s.size) (hc:s[(unqS s.data.toList.tail).2.2+1].toNat=93) (hd:quo (unqS s.data.toList.tail).2.1=s.data.toList.tail.take (unqS s.data.toList.tail).2.2):Calls Tryz.prog 197 #[.string s] w fun e w'=>e=KyR ((2,0,(unqS s.data.toList.tail).2.1),s.data.toList.drop ((unqS s.data.toList.tail).2.2+2),true)/\Below w.heap.size w w':=by
 have e0:=str_cons (show s.size≠0 by omega);have e1:(((s[0].toNat:Nat):Int) != 91)=false:=by rw [h91];rfl
 have e2:(((s[1].toNat:Nat):Int) == 34)=true:=by rw [h34];rfl
 have hp1:(1:Int) < (s.size:Int):=by omega
 have hp2:(1:Int)<=(s.size:Int):=by omega
 have hz:(s.extract 1 s.size).size<=1200000:=by rw [ext_size s 1 (by omega)];omega
 have HUQ:=hid (fun W=>runq_any (s.extract 1 s.size) W hz);rw [show (s.extract 1 s.size).data.toList=s.data.toList.tail by rw [extract_list,List.drop_one]] at HUQ;have hn:=(unqS_ok s.data.toList.tail).2;rw [List.length_tail,size_list] at hn;unfold UqR at HUQ;have hva:=unqS_valid he;obtain ⟨er,her⟩:∃ er,(unqS s.data.toList.tail).1=er:=⟨_,rfl⟩;obtain ⟨x,hx⟩:∃ x,(unqS s.data.toList.tail).2.1=x:=⟨_,rfl⟩;obtain ⟨n,hn0⟩:∃ n,(unqS s.data.toList.tail).2.2=n:=⟨_,rfl⟩;rw [her,hx,hn0] at HUQ;rw [hn0] at hn;have ee:(er != 0)=false:=by rw [<-her];simp [he]
 rw [hn0] at hb;have hge:decide (((s.size:Nat):Int)<=((n:Nat):Int)+1)=false:=by simp;omega
 have hq0:(0:Int)<=(n:Int)+1:=by omega
 have hq1:(n:Int)+1 < (s.size:Int):=by omega
 have hq2:((n:Int)+1).toNat=n+1:=by omega
 have hc2:(((s[n+1].toNat:Nat):Int) != 93)=false:=by have:=hc;simp only [hn0] at this;rw [this];rfl
 have hxl:=(unqS_ok s.data.toList.tail).1;rw [hx] at hxl;have HQT:=hid (fun W=>rquote_any ⟨x.toArray⟩ W (by rw [<-size_list];show x.length<=2000000;omega));clear hxl;rw [hx] at hva;have HKY:=hid (fun W=>rKeyS x W hva.2 hva.1);unfold kV at HKY;rw [hx,hn0] at hd ⊢;have hd2:((s.extract 1 (n+1)).toList != (⟨(quo x).toArray⟩:ByteArray).toList)=false:=by rw [ext_tail,hd];simp
 have hd4:(s.extract 1 (n+1)).toList=s.data.toList.tail.take n:=by rw [ext_tail,ByteArray.toList_eq]
 have hd5:(s.extract 1 (n+1)).toList=quo x:=by rw [hd4];exact hd.symm
 have hd3:((s.extract 1 (n+1)).toList == quo x)=true:=by rw [hd5];simp
 clear hd4;clear her hx hn0 hz h91 h34 he hc hd hva;have HK0:=hid (ko_new w (kO 0 0 []));unfold kO at HK0;go_enter Tryz.func197,Tryz.ntmps197;go_wp2_with (go_at_call 222;refine (HUQ.out _).mono ?_;rintro e w1 ⟨rfl,hb1⟩;have HB1:=hid hb1;clear hb1)
 have HA1:=hid (show Below w1.heap.size w1 (w1.alloc (.cells #[.int .i64 2,.int .i64 0,.string ⟨x.toArray⟩] 91)) from (Below.refl _ _).alloc (Nat.le_refl _) _);have HBA:=hid ((show Below w.heap.size w (w.alloc (.cells #[.int .i64 0,.int .i64 0,.string ⟨#[]⟩] 91)) from (Below.refl _ _).alloc (Nat.le_refl _) _).trans ((HB1.out.trans (HA1.out.mono HB1.out.size)).mono (by simp)));have HK1:=hid (((HB1.out.trans (HA1.out.mono HB1.out.size)).block w.heap.size (by simp)).trans HK0.out);have HK2:=hid (ko_new w1 (kO 2 0 x));unfold kO at HK2;generalize hM:w1.heap.size=M at *;generalize w1.alloc (.cells #[.int .i64 2,.int .i64 0,.string ⟨x.toArray⟩] 91)=W2 at *;obtain ⟨d0,d1,d2,d3,d4⟩:=ko_cells (W:=W2) (r:=M) (k:=2) (n:=0) (t:=x) HK2.out;have g0:=fun d os=>cell_regrown d0 d os;have g1:=fun d os=>cell_regrown d1 d os;have g2:=fun d os=>cell_regrown d2 d os;refine wp_region_fresh (fun k=>match k with | 22=>some (sStr (quo x)) | 27=>some (sBool true) | _=>none) (by kernel_rfl) (by kernel_rfl) ?_
 iterate 3 (refine wq ?_;intro K hK;go_big_quiet_op;go_big_quiet_on)
 iterate 3 (refine wq ?_;intro K hK;go_big_quiet_op;go_big_quiet_on)
 (refine wpF_quiet (grw_ex _) (by kernel_rfl) rfl (by intro w f args w';go_simp) ?_;intro K hK;go_big_quiet_op;go_big_quiet_on)
 (refine wq ?_;intro K hK;go_big_quiet_op;go_big_quiet_on)
 iterate 2 (refine wq ?_;intro K hK;go_big_quiet_op;go_big_quiet_on)
 iterate 5 (refine wq ?_;intro K hK;go_big_quiet_op;go_big_quiet_on)
 iterate 2 (refine wq ?_;intro K hK;go_big_quiet_op;go_big_quiet_on)
 iterate 5 (refine wq ?_;intro K hK;go_big_quiet_op;go_big_quiet_on)
 refine wpF_told (sStr (quo x)) (by kernel_rfl) rfl ⟨_,rfl⟩ stTrue (fun w4 hw4 hE4=>?_) ?_
 . have hb4:=grw_below hw4
   have hh:=HQT.out w4;clear hw4 hE4 hb4;go_simp
   go_at_call 223;refine Calls.mono hh ?_;rintro e w5 ⟨rfl,hb5⟩;exact ⟨_,rfl,hb5,rfl,trivial⟩
 rintro _ rfl
 (refine wpF_put ?_;intro K hK;go_simp;refine hK _ ?_;clear hK K)
 (refine wq ?_;intro K hK;go_big_quiet_op;go_big_quiet_on)
 iterate 2 (refine wq ?_;intro K hK;go_big_quiet_op;go_big_quiet_on)
 (refine wq ?_;intro K hK;go_big_quiet_op;go_big_quiet_on)
 refine wpF_told (sBool true) (by kernel_rfl) rfl ⟨_,rfl⟩ stTrue (fun w4 hw4 hE4=>?_) ?_
 . have hb4:=grw_below hw4
   have hh:=HKY.out w4;clear hw4 hE4 hb4;go_simp
   go_at_call 224;refine Calls.mono hh ?_;rintro e w5 ⟨rfl,hb5⟩;exact ⟨_,rfl,hb5,rfl,trivial⟩
 rintro _ rfl
 (refine wpF_put ?_;intro K hK;go_simp;refine hK _ ?_;clear hK K)
 (refine wq ?_;intro K hK;go_big_quiet_op;go_big_quiet_on)
 (refine wq ?_;intro K hK;go_big_quiet_op;go_big_quiet_on)
 refine wpF_nil ?_;intro w6 hw6 hE6;have hb6:=grw_below hw6;clear hw6 hE6;have HK3:=hid ((hb6.block w.heap.size (lt_of_block HK1.out)).trans HK1.out);obtain ⟨f0,f1,f2,f3,f4⟩:=ko_cells (W:=w6) (r:=w.heap.size) (k:=0) (n:=0) (t:=[]) HK3.out;have f30:=f3 0;have f31:=f3 1;have f32:=f3 2;have m0:=bget hb6 d0;have m1:=bget hb6 d1;have m2:=bget hb6 d2;have HB6:=hid (HBA.out.trans (hb6.mono HBA.out.size));have hr0:(0:Int)<=(n:Int)+2:=by omega
 have hr1:(n:Int)+2<=(s.size:Int):=by omega
 have hr2:((n:Int)+2).toNat=n+2:=by omega
 have HRS:=hid (ext_arr s (n+2));clear f3 hb6 d0 d1 d2 g0 g1 g2;go_wp2_with fail
 go_region
 all_goals
  go_wp2
  obtain ⟨W',hW',a0,a1,a2⟩:=ko_end (w:=w) (W:=w6) HK3.out 2 0 x;have HBE:=hid (show Below w.heap.size w W' from by rw [hW'];exact ((HB6.out.setCell (Nat.le_refl _) _).setCell (Nat.le_refl _) _).setCell (Nat.le_refl _) _);rw [<-hW'];exact bodyPost_ret (v:=.tuple #[kV (2,0,x),.string (s.extract (n+2) s.size),.bool true]) (by simp [results,Tryz.results197,go_sem,kV,a0,a1,a2]) rfl ⟨by rw [HRS.out];rfl,HBE.out.drew⟩
theorem rkey_q (s:ByteArray) (w:World) (hs:s.size<=1200001) (hp:1 < s.size) (h91:s[0].toNat=91) (h34:s[1].toNat=34):Calls Tryz.prog 197 #[.string s] w fun e w'=>e=KyR (keyR s.data.toList)/\Below w.heap.size w w':=by
 rw [keyR_q hp h91 h34]
 by_cases he:(unqS s.data.toList.tail).1=0
 . by_cases hb:(unqS s.data.toList.tail).2.2+1 < s.size
   . by_cases hc:s[(unqS s.data.toList.tail).2.2+1].toNat=93
     . by_cases hd:quo (unqS s.data.toList.tail).2.1=s.data.toList.tail.take (unqS s.data.toList.tail).2.2
       . rw [if_neg (by rw [getD_at s hb];exact fun h=>h.elim (fun h=>h he) (fun h=>h.elim (fun h=>h hc) (fun h=>h hd)))]
         exact rkey_qe s w hs hp h91 h34 he hb hc hd
       . rw [if_pos (Or.inr (Or.inr hd))]
         exact rkey_qd s w hs hp h91 h34 he hb hc hd
     . rw [if_pos (Or.inr (Or.inl (by rw [getD_at s hb];exact hc)))]
       exact rkey_qc s w hs hp h91 h34 he hb hc
   . rw [if_pos (Or.inr (Or.inl (getD_end hb)))]
     exact rkey_qb s w hs hp h91 h34 he hb
 . rw [if_pos (Or.inl he)]
   exact rkey_qa s w hs hp h91 h34 he
end Go.Proofs.YtomhbcfjhgecbaaGreatDoor.Adr
namespace Go.Proofs.YtomhbcfjhgecbaaGreatDoor.Adr
open Go.RowKit Go.Sort Go.Lib Go.Maps
open Go.Lib (hid)
theorem tw_len {α:Type} {p:α->Bool} : ∀ l:List α,(l.takeWhile p).length<=l.length/\l.take (l.takeWhile p).length=l.takeWhile p/\(∀ j (hj:j < l.length),j < (l.takeWhile p).length->p l[j]=true)/\(∀ h:(l.takeWhile p).length < l.length,p (l[(l.takeWhile p).length])=false)
 | []=>by simp
 | x :: l=>by
   obtain ⟨h1,h2,h3,h4⟩:=tw_len (p:=p) l;cases hx:p x with
   | false =>
     have e:(x :: l).takeWhile p=[]:=by rw [List.takeWhile_cons,hx];rfl
     rw [e];exact ⟨by simp,by simp,fun j hj h=>absurd h (by simp),fun h=>by simpa using hx⟩
   | true =>
     have e:(x :: l).takeWhile p=x :: l.takeWhile p:=by rw [List.takeWhile_cons,hx];rfl
     simp only [e,List.length_cons];refine ⟨by omega,by rw [List.take_succ_cons,h2],fun j hj h=>?_,fun h=>?_⟩
     . cases j with
       | zero=>exact hx
       | succ j=>exact h3 j (by simpa using hj) (by omega)
     . exact h4 (by simpa using h)
theorem tail_at (s:ByteArray) (j:Nat) (h:j+1 < s.size):s.data.toList.tail[j]'(by rw [List.length_tail,size_list];omega)=s[j+1]:=by
 rw [List.getElem_tail];rfl
theorem dg_facts {s:ByteArray} (h:0 < s.size):(dgL s.data.toList.tail).length+1<=s.size/\(∀ j (hj:j < s.size),1<=j->j < (dgL s.data.toList.tail).length+1->dig s[j].toNat=true)/\(∀ h:(dgL s.data.toList.tail).length+1 < s.size,dig s[(dgL s.data.toList.tail).length+1].toNat=false) /\
  s.extract 1 ((dgL s.data.toList.tail).length+1)=⟨(dgL s.data.toList.tail).toArray⟩:=by
 obtain ⟨h1,h2,h3,h4⟩:=tw_len (p:=fun c:UInt8=>dig c.toNat) s.data.toList.tail;have hl:s.data.toList.tail.length=s.size - 1:=by rw [List.length_tail,size_list]
 refine ⟨by unfold dgL;omega,fun j hj hj1 hj2=>?_,fun hk=>?_,?_⟩
 . obtain ⟨i,rfl⟩:∃ i,j=i+1:=⟨j - 1,by omega⟩
   have:=h3 i (by omega) (by unfold dgL at hj2;omega);rw [tail_at s i hj] at this;exact this
 . have:=h4 (by unfold dgL at hk;omega)
   rw [tail_at s _ (by unfold dgL at hk;exact hk)] at this;exact this
 . rw [ext_tail]
   unfold dgL;rw [h2]
theorem keyR_n {s:ByteArray} (h:0 < s.size) (h91:s[0].toNat=91) (h34:∀ h:1 < s.size,s[1].toNat≠34):keyR s.data.toList =
  if (numS (dgL s.data.toList.tail)).2≠0 ∨ (s.data.toList.getD ((dgL s.data.toList.tail).length+1) 0).toNat≠93 then ((0,0,[]),[],false)
  else ((1,(numS (dgL s.data.toList.tail)).1,[]),s.data.toList.drop ((dgL s.data.toList.tail).length+2),true):=by
 unfold keyR;rw [if_neg (by rw [getD_at s h];simp [h91]),if_neg]
 by_cases h1:1 < s.size
 . rw [getD_at s h1];exact h34 h1
 . rw [List.getD_eq_getElem?_getD,List.getElem?_eq_none (by rw [size_list];omega)]
   decide
set_option maxRecDepth 100000 in
set_option maxHeartbeats 16000000 in
theorem rkey_n (s:ByteArray) (w:World) (hs:s.size<=2000000) (hp:0 < s.size) (h91:s[0].toNat=91) (h34:∀ h:1 < s.size,s[1].toNat≠34):Calls Tryz.prog 197 #[.string s] w fun e w'=>e=KyR (keyR s.data.toList)/\Below w.heap.size w w':=by
 have HE:=hid (keyR_n hp h91 h34);have e0:=str_cons (show s.size≠0 by omega);have e1:(((s[0].toNat:Nat):Int) != 91)=false:=by rw [h91];rfl
 obtain ⟨K,hK,k1,k2,k3,k4⟩:∃ K,(dgL s.data.toList.tail).length=K/\K+1<=s.size/\(∀ j (hj:j < s.size),1<=j->j < K+1->dig s[j].toNat=true)/\(∀ h:K+1 < s.size,dig s[K+1].toNat=false)/\s.extract 1 (K+1)=⟨(dgL s.data.toList.tail).toArray⟩:=⟨_,rfl,dg_facts hp⟩
 have hsz:(s.extract 1 (K+1)).size<=2000000:=by
  rw [<-size_list,k4];show (dgL s.data.toList.tail).length<=2000000;omega
 have HNP:=hid (fun W=>rnum_any (s.extract 1 (K+1)) W hsz);rw [show (s.extract 1 (K+1)).data.toList=dgL s.data.toList.tail by rw [k4]] at HNP;unfold NmR at HNP;have HK2:=hid k2;have HK3:=hid k3;obtain ⟨num,hnum⟩:∃ n,(numS (dgL s.data.toList.tail)).1=n:=⟨_,rfl⟩;obtain ⟨er,her⟩:∃ n,(numS (dgL s.data.toList.tail)).2=n:=⟨_,rfl⟩;rw [hnum,her] at HNP;rw [hnum,her,hK] at HE;have HRS:=hid (ext_arr s (K+2));have hk10:(1:Int)<=(K:Int)+1:=by omega
 have hk11:(0:Int)<=(K:Int)+1:=by omega
 have hk12:(K:Int)+1<=(s.size:Int):=by omega
 have hk13:((K:Int)+1).toNat=K+1:=by omega
 have HB0:=hid ((Below.refl w.heap.size w).alloc (Nat.le_refl _) (.cells #[.int .i64 0,.int .i64 0,.string ⟨#[]⟩] 91));clear hsz k2 k3 k4 hnum her hK h91
 by_cases hone:1 < s.size
 . have h1:=h34 hone
   have e2:(((s[1].toNat:Nat):Int) == 34)=false:=by simp;omega
   have hp1:(1:Int) < (s.size:Int):=by omega
   clear h34 h1;go_enter Tryz.func197,Tryz.ntmps197;go_wp2
   go_loop [9] (fun i=>∃ k:Nat,1<=k/\k<=K+1/\i=.int .i64 k) (fun i=>s.size - (RowKit.intOf i).toNat)
   case atStart=>exact ⟨1,by omega,by omega,rfl⟩
   case round =>
    obtain ⟨k,hk1,hk,rfl⟩:=hrel
    by_cases hlt0:k < K+1
    . have hks:k < s.size:=by omega
      have hd:=(dig_iff s[k].toNat).1 (HK2.out k hks hk1 hlt0);have hd1:(48:Int)<=(s[k].toNat:Int):=by omega
      have hd2:(s[k].toNat:Int)<=57:=by omega
      have hki:(k:Int) < (s.size:Int):=by omega
      clear hd;go_wp2
      go_round
      case rel=>exact ⟨k+1,by omega,by omega,by go_num⟩
      case measure=>simp [RowKit.intOf];omega
    . obtain rfl:k=K+1:=by omega
      by_cases hlt:K+1 < s.size
      . have hd:=HK3.out hlt
        have hki:((K+1:Nat):Int) < (s.size:Int):=by omega
        by_cases hlow:s[K+1].toNat < 48
        . have hd1:¬ (48:Int)<=(s[K+1].toNat:Int):=by omega
          have hc:s[K+1].toNat≠93:=by omega
          clear hd
          by_cases he:er=0
          . have ee:(er != 0)=false:=by simp [he]
            have hc2:(((s[K+1].toNat:Nat):Int) != 93)=true:=by simp;omega
            have hge:decide (((s.size:Nat):Int)<=(K:Int)+1)=false:=by simp;omega
            have HR:=hid (show keyR s.data.toList=((0,0,[]),[],false) by rw [HE.out,if_pos (Or.inr (by rw [getD_at s hlt];exact hc))]);clear HE HK2 HK3 HRS hc he;go_wp2_with (go_at_call 109;refine (HNP.out _).mono ?_;rintro e w1 ⟨rfl,rfl⟩)
            exact bodyPost_ret (v:=.tuple #[kV (0,0,[]),.string ⟨#[]⟩,.bool false]) (by simp [results,Tryz.results197,go_sem,kV]) rfl ⟨by rw [HR.out];rfl,HB0.out⟩
          . have ee:(er != 0)=true:=by simp [he]
            have HR:=hid (show keyR s.data.toList=((0,0,[]),[],false) by rw [HE.out,if_pos (Or.inl he)]);clear HE HK2 HK3 HRS hc he;go_wp2_with (go_at_call 109;refine (HNP.out _).mono ?_;rintro e w1 ⟨rfl,rfl⟩)
            exact bodyPost_ret (v:=.tuple #[kV (0,0,[]),.string ⟨#[]⟩,.bool false]) (by simp [results,Tryz.results197,go_sem,kV]) rfl ⟨by rw [HR.out];rfl,HB0.out⟩
        . have hd1:(48:Int)<=(s[K+1].toNat:Int):=by omega
          have hd2:¬ (s[K+1].toNat:Int)<=57:=fun h=>by
           have:dig s[K+1].toNat=true:=(dig_iff _).2 (by omega);rw [hd] at this;cases this
          clear hd
          by_cases he:er=0
          . by_cases hc:s[K+1].toNat=93
            . have hge:decide (((s.size:Nat):Int)<=(K:Int)+1)=false:=by simp;omega
              have ee:(er != 0)=false:=by simp [he]
              have hc2:(((s[K+1].toNat:Nat):Int) != 93)=false:=by rw [hc];rfl
              have HR:=hid (show keyR s.data.toList=((1,num,[]),s.data.toList.drop (K+2),true) by rw [HE.out,if_neg (by rw [getD_at s hlt];exact fun h=>h.elim (fun h=>h he) (fun h=>h hc))]);have hr0:(0:Int)<=(K:Int)+1+1:=by omega
              have hr1:(K:Int)+1+1<=(s.size:Int):=by omega
              have hr2:((K:Int)+1+1).toNat=K+2:=by omega
              clear HE HK2 HK3 hc he;go_wp2_with (go_at_call 109;refine (HNP.out _).mono ?_;rintro e w1 ⟨rfl,rfl⟩)
              go_region
              all_goals
               go_wp2
               exact bodyPost_ret (v:=.tuple #[kV (1,num,[]),.string (s.extract (K+2) s.size),.bool true]) (by simp [results,Tryz.results197,go_sem,kV]) rfl ⟨by rw [HR.out,HRS.out];rfl,by first | exact (Below.refl _ _).alloc (Nat.le_refl _) _ | exact ((Below.refl _ _).alloc (Nat.le_refl _) _).drew⟩
            . have ee:(er != 0)=false:=by simp [he]
              have hc2:(((s[K+1].toNat:Nat):Int) != 93)=true:=by simp;omega
              have hge:decide (((s.size:Nat):Int)<=(K:Int)+1)=false:=by simp;omega
              have HR:=hid (show keyR s.data.toList=((0,0,[]),[],false) by rw [HE.out,if_pos (Or.inr (by rw [getD_at s hlt];exact hc))]);clear HE HK2 HK3 HRS hc he;go_wp2_with (go_at_call 109;refine (HNP.out _).mono ?_;rintro e w1 ⟨rfl,rfl⟩)
              exact bodyPost_ret (v:=.tuple #[kV (0,0,[]),.string ⟨#[]⟩,.bool false]) (by simp [results,Tryz.results197,go_sem,kV]) rfl ⟨by rw [HR.out];rfl,HB0.out⟩
          . have ee:(er != 0)=true:=by simp [he]
            have HR:=hid (show keyR s.data.toList=((0,0,[]),[],false) by rw [HE.out,if_pos (Or.inl he)]);clear HE HK2 HK3 HRS he;go_wp2_with (go_at_call 109;refine (HNP.out _).mono ?_;rintro e w1 ⟨rfl,rfl⟩)
            exact bodyPost_ret (v:=.tuple #[kV (0,0,[]),.string ⟨#[]⟩,.bool false]) (by simp [results,Tryz.results197,go_sem,kV]) rfl ⟨by rw [HR.out];rfl,HB0.out⟩
      . have hki:¬ ((K+1:Nat):Int) < (s.size:Int):=by omega
        by_cases he:er=0
        . have ee:(er != 0)=false:=by simp [he]
          have hge:((s.size:Nat):Int)<=(K:Int)+1:=by omega
          have HR:=hid (show keyR s.data.toList=((0,0,[]),[],false) by rw [HE.out,if_pos (Or.inr (getD_end hlt))]);clear HE HK2 HK3 HRS he;go_wp2_with (go_at_call 109;refine (HNP.out _).mono ?_;rintro e w1 ⟨rfl,rfl⟩)
          exact bodyPost_ret (v:=.tuple #[kV (0,0,[]),.string ⟨#[]⟩,.bool false]) (by simp [results,Tryz.results197,go_sem,kV]) rfl ⟨by rw [HR.out];rfl,HB0.out⟩
        . have ee:(er != 0)=true:=by simp [he]
          have HR:=hid (show keyR s.data.toList=((0,0,[]),[],false) by rw [HE.out,if_pos (Or.inl he)]);clear HE HK2 HK3 HRS he;go_wp2_with (go_at_call 109;refine (HNP.out _).mono ?_;rintro e w1 ⟨rfl,rfl⟩)
          exact bodyPost_ret (v:=.tuple #[kV (0,0,[]),.string ⟨#[]⟩,.bool false]) (by simp [results,Tryz.results197,go_sem,kV]) rfl ⟨by rw [HR.out];rfl,HB0.out⟩
 . have hp1:¬ (1:Int) < (s.size:Int):=by omega
   have hK0:K=0:=by omega
   subst hK0;have hge:((s.size:Nat):Int)<=1:=by omega
   rw [show s.extract 1 (0+1)=ByteArray.empty by simp] at HNP;have HZ1:=hid (show ¬ 0+1 < s.size by omega);clear h34 hone k1 hk10 hk11 hk12 hk13
   by_cases he:er=0
   . have ee:(er != 0)=false:=by simp [he]
     have HR:=hid (show keyR s.data.toList=((0,0,[]),[],false) by rw [HE.out,if_pos (Or.inr (getD_end HZ1.out))]);clear HE HK2 HK3 HRS he;go_enter Tryz.func197,Tryz.ntmps197;go_wp2
     go_loop [9] (fun i=>i=.int .i64 (1:Int)) (fun i=>0)
     case atStart=>rfl
     case round =>
      subst hrel;go_wp2_with (go_at_call 109;refine (HNP.out _).mono ?_;rintro e w1 ⟨rfl,rfl⟩)
      exact bodyPost_ret (v:=.tuple #[kV (0,0,[]),.string ⟨#[]⟩,.bool false]) (by simp [results,Tryz.results197,go_sem,kV]) rfl ⟨by rw [HR.out];rfl,HB0.out⟩
   . have ee:(er != 0)=true:=by simp [he]
     have HR:=hid (show keyR s.data.toList=((0,0,[]),[],false) by rw [HE.out,if_pos (Or.inl he)]);clear HE HK2 HK3 HRS he;go_enter Tryz.func197,Tryz.ntmps197;go_wp2
     go_loop [9] (fun i=>i=.int .i64 (1:Int)) (fun i=>0)
     case atStart=>rfl
     case round =>
      subst hrel;go_wp2_with (go_at_call 109;refine (HNP.out _).mono ?_;rintro e w1 ⟨rfl,rfl⟩)
      exact bodyPost_ret (v:=.tuple #[kV (0,0,[]),.string ⟨#[]⟩,.bool false]) (by simp [results,Tryz.results197,go_sem,kV]) rfl ⟨by rw [HR.out];rfl,HB0.out⟩
theorem rkey_any (s:ByteArray) (w:World) (hs:s.size<=1200001):Calls Tryz.prog 197 #[.string s] w fun e w'=>e=KyR (keyR s.data.toList)/\Below w.heap.size w w':=by
 by_cases h0:∃ h:0 < s.size,s[0].toNat=91
 . obtain ⟨hp,h91⟩:=h0
   by_cases h1:∃ h:1 < s.size,s[1].toNat=34
   . obtain ⟨hp1,h34⟩:=h1
     exact rkey_q s w hs hp1 h91 h34
   . exact rkey_n s w (by omega) hp h91 (fun h e=>h1 ⟨h,e⟩)
 . exact rkey_no s w (fun h e=>h0 ⟨h,e⟩)
end Go.Proofs.YtomhbcfjhgecbaaGreatDoor.Adr
namespace Go.Proofs.YtomhbcfjhgecbaaGreatDoor.Adr
open Go.RowKit Go.Sort Go.Lib Go.Maps
open Go.Lib (hid)
def StpV (X:MS × List UInt8 × Bool):Ending:=.returned (.tuple #[stV X.1,.string ⟨X.2.1.toArray⟩,.bool X.2.2])
theorem so_end {w W:World} {r:Nat} {a b:List UInt8} {c d:Int} (h:W.heap[r]?=some (sO a c d b)) (n':List UInt8) (k' m':Int) (t':List UInt8):∃ W',W'=((((W.setCell ⟨r,0,none⟩ (.string ⟨n'.toArray⟩)).setCell ⟨r,1,none⟩ (.int .i64 k')).setCell ⟨r,2,none⟩ (.int .i64 m')).setCell ⟨r,3,none⟩ (.string ⟨t'.toArray⟩))/\W'.cell? ⟨r,0,none⟩=some (.string ⟨n'.toArray⟩)/\W'.cell? ⟨r,1,none⟩=some (.int .i64 k')/\W'.cell? ⟨r,2,none⟩=some (.int .i64 m')/\W'.cell? ⟨r,3,none⟩=some (.string ⟨t'.toArray⟩):=by
 have h2:((((W.setCell ⟨r,0,none⟩ (.string ⟨n'.toArray⟩)).setCell ⟨r,1,none⟩ (.int .i64 k')).setCell ⟨r,2,none⟩ (.int .i64 m')).setCell ⟨r,3,none⟩ (.string ⟨t'.toArray⟩)).heap[r]?=some (sO n' k' m' t'):=by
  unfold World.setCell sO at *;simp only [Array.getElem?_modify,if_true,h,Option.map_some];rfl
 obtain ⟨a,b,c,d,_⟩:=so_cells h2;exact ⟨_,rfl,a,b,c,d⟩
theorem wd_len (l:List UInt8):(wdL l).length<=l.length/\(wdD l).length<=l.length:=by
 have h:=congrArg List.length (List.takeWhile_append_dropWhile (p:=fun c:UInt8=>wrd c.toNat) (l:=l));rw [List.length_append] at h;unfold wdL wdD;omega
set_option maxRecDepth 100000 in
set_option maxHeartbeats 8000000 in
theorem rstep_any (s:ByteArray) (w:World) (hs:s.size<=1200001) (h7:7<=s.size):Calls Tryz.prog 194 #[.string s] w fun e w'=>e=StpV (stR (s.data.toList.drop 7))/\Below w.heap.size w w':=by
 have hz:(s.extract 7 s.size).size<=2000000:=by rw [ext_size s 7 h7];omega
 have HWD:=hid (fun W=>rword_any (s.extract 7 s.size) W hz);unfold WdR at HWD;rw [extract_list s 7] at HWD;have hl:(s.data.toList.drop 7).length<=1200001:=by rw [List.length_drop,size_list];omega
 obtain ⟨hw1,hw2⟩:=wd_len (s.data.toList.drop 7);have HKY:Hid (∀ W:World,Calls Tryz.prog 197 #[.string ⟨(wdD (s.data.toList.drop 7)).toArray⟩] W fun e w'=>e=KyR (keyR (wdD (s.data.toList.drop 7)))/\Below W.heap.size W w'):=hid (fun W=>rkey_any ⟨(wdD (s.data.toList.drop 7)).toArray⟩ W (by rw [<-size_list];show (wdD (s.data.toList.drop 7)).length<=1200001;omega));have HID:Hid (∀ W:World,Calls Tryz.prog 128 #[.string ⟨(wdL (s.data.toList.drop 7)).toArray⟩] W fun e w'=>e=.returned (.bool (idB (wdL (s.data.toList.drop 7))))/\W=w'):=hid (fun W=>rident_any ⟨(wdL (s.data.toList.drop 7)).toArray⟩ W (by rw [<-size_list];show (wdL (s.data.toList.drop 7)).length<=2000000;omega));have h70:(7:Int)<=(s.size:Int):=by omega
 clear hz hl hw1 hw2;unfold StpV stR;generalize hX:keyR (wdD (s.data.toList.drop 7))=X at *;generalize wdL (s.data.toList.drop 7)=nm at *;generalize wdD (s.data.toList.drop 7)=rs at *;generalize hib:idB nm=ib at *;clear hX hib;obtain ⟨⟨kk,kn,kt⟩,rest,ok⟩:=X;unfold KyR kV at HKY;simp only at HKY ⊢;have HO0:=hid (ko_new w (sO [] 0 0 []));unfold sO at HO0;go_enter Tryz.func194,Tryz.ntmps194
 go_wp2_with (first
  | (go_at_call 195;refine (HWD.out _).mono ?_;rintro e w1 ⟨rfl,hb1⟩;have HB1:=hid hb1;clear hb1)
  | (go_at_call 197;refine (HKY.out _).mono ?_;rintro e w2 ⟨rfl,hb2⟩;have HB2:=hid (HB1.out.trans (hb2.mono HB1.out.size));clear hb2))
 have HA2:=hid (show Below w2.heap.size w2 (w2.alloc (.cells #[.int .i64 kk,.int .i64 kn,.string ⟨kt.toArray⟩] 91)) from (Below.refl _ _).alloc (Nat.le_refl _) _);have HB3:=hid (HB2.out.trans (HA2.out.mono HB2.out.size));have HBW:=hid ((show Below w.heap.size w (w.alloc (.cells #[.string ⟨#[]⟩,.int .i64 0,.int .i64 0,.string ⟨#[]⟩] 124)) from (Below.refl _ _).alloc (Nat.le_refl _) _).trans (HB3.out.mono (by simp)));have HO3:=hid ((HB3.out.block w.heap.size (by simp)).trans HO0.out);have HK3:=hid (ko_new w2 (kO kk kn kt));unfold kO at HK3;generalize w2.heap.size=M at *;generalize w2.alloc (.cells #[.int .i64 kk,.int .i64 kn,.string ⟨kt.toArray⟩] 91)=W3 at *;obtain ⟨d0,d1,d2,_,d4⟩:=ko_cells (W:=W3) (r:=M) (k:=kk) (n:=kn) (t:=kt) HK3.out;obtain ⟨f0,f1,f2,f3,f4,f5⟩:=so_cells (W:=W3) (r:=w.heap.size) (n:=[]) (k:=0) (m:=0) (t:=[]) HO3.out;have p0:=f4 0;have p1:=f4 1;have p2:=f4 2;have p3:=f4 3;clear f4;have HZ:=hid (fun (W:World) (hW:W.heap[w.heap.size]?=some (.cells #[.string ⟨#[]⟩,.int .i64 0,.int .i64 0,.string ⟨#[]⟩] 124 (0,0)))=>so_end (w:=w) (W:=W) (r:=w.heap.size) (a:=[]) (b:=[]) (c:=0) (d:=0) hW nm kk kn kt);cases ok with
 | false =>
   go_region
   all_goals
    go_wp2
    obtain ⟨W',hW',a0,a1,a2,a3⟩:=HZ.out W3 HO3.out;have HBE:=hid (show Below w.heap.size w W' from by rw [hW'];exact ((((HBW.out).setCell (Nat.le_refl _) _).setCell (Nat.le_refl _) _).setCell (Nat.le_refl _) _).setCell (Nat.le_refl _) _);rw [<-hW'];exact bodyPost_ret (v:=.tuple #[stV (nm,kk,kn,kt),.string ⟨rest.toArray⟩,.bool false]) (by simp [results,Tryz.results194,go_sem,stV,a0,a1,a2,a3]) rfl ⟨rfl,HBE.out.drew⟩
 | true =>
   go_region_with (go_at_call 128;refine (HID.out _).mono ?_;rintro e w5 ⟨rfl,rfl⟩)
   all_goals
    go_wp2
    obtain ⟨W',hW',a0,a1,a2,a3⟩:=HZ.out W3 HO3.out;have HBE:=hid (show Below w.heap.size w W' from by rw [hW'];exact ((((HBW.out).setCell (Nat.le_refl _) _).setCell (Nat.le_refl _) _).setCell (Nat.le_refl _) _).setCell (Nat.le_refl _) _);rw [<-hW'];exact bodyPost_ret (v:=.tuple #[stV (nm,kk,kn,kt),.string ⟨rest.toArray⟩,.bool ib]) (by simp [results,Tryz.results194,go_sem,stV,a0,a1,a2,a3]) rfl ⟨by simp,HBE.out.drew⟩
end Go.Proofs.YtomhbcfjhgecbaaGreatDoor.Adr
namespace Go.Proofs.YtomhbcfjhgecbaaGreatDoor.Adr
open Go.RowKit Go.Sort Go.Lib Go.Maps
open Go.Lib (hid)
def plO (v:Value) (d:Bool) (ty nm:List UInt8) (k:KeyT) (wh:Bool):Obj:=.cells #[v,.bool d,.string ⟨ty.toArray⟩,.string ⟨nm.toArray⟩,.int .i64 k.1,.int .i64 k.2.1,.string ⟨k.2.2.toArray⟩,.bool wh] 174 (0,0)
def plV (v:Value) (d:Bool) (ty nm:List UInt8) (k:KeyT) (wh:Bool):Value:=.agg #[v,.bool d,.string ⟨ty.toArray⟩,.string ⟨nm.toArray⟩,.int .i64 k.1,.int .i64 k.2.1,.string ⟨k.2.2.toArray⟩,.bool wh]
theorem pl_cells {W:World} {r:Nat} {v:Value} {d wh:Bool} {ty nm:List UInt8} {k:KeyT} (h:W.heap[r]?=some (plO v d ty nm k wh)):(W.cell? ⟨r,0,none⟩=some v/\W.cell? ⟨r,1,none⟩=some (.bool d)/\W.cell? ⟨r,2,none⟩=some (.string ⟨ty.toArray⟩)/\W.cell? ⟨r,3,none⟩=some (.string ⟨nm.toArray⟩)/\W.cell? ⟨r,4,none⟩=some (.int .i64 k.1)/\W.cell? ⟨r,5,none⟩=some (.int .i64 k.2.1)/\W.cell? ⟨r,6,none⟩=some (.string ⟨k.2.2.toArray⟩)/\W.cell? ⟨r,7,none⟩=some (.bool wh))/\(∀ o,W.frozen? ⟨r,o,none⟩=false)/\r < W.heap.size:=by
 unfold plO at h;refine ⟨⟨by unfold World.cell?;simp [h],by unfold World.cell?;simp [h],by unfold World.cell?;simp [h],by unfold World.cell?;simp [h],by unfold World.cell?;simp [h],by unfold World.cell?;simp [h],by unfold World.cell?;simp [h],by unfold World.cell?;simp [h]⟩,fun o=>by unfold World.frozen?;simp [h],lt_of_block h⟩
structure Pl (w:World) (W:World) (v:Value) (xs:List MS) (d:Bool) (ty nm:List UInt8) (k:KeyT) (wh:Bool):Prop where
 ad:W.heap[w.heap.size+1]?=some (plO v d ty nm k wh)
 re:W.heap[w.heap.size]?=some (plO (.slice none 0 0) false [] [] (0,0,[]) false)
 own:OwnM (w.heap.size+2) W v xs
 bel:Below w.heap.size w W
 sz:w.heap.size+2<=W.heap.size
section
variable {w W:World} {v:Value} {xs:List MS} {d wh:Bool} {ty nm:List UInt8} {k:KeyT}
theorem ownM_far {B:Nat} (h:OwnM B W v xs):∀ g,v.ownBlock=some g->B<=g/\g < W.heap.size:=World.ownsRow.lt h
theorem Pl.below {W':World} (h:Pl w W v xs d ty nm k wh) (hb:Below W.heap.size W W'):Pl w W' v xs d ty nm k wh:=
 ⟨(hb.block _ (lt_of_block h.ad)).trans h.ad,(hb.block _ (lt_of_block h.re)).trans h.re,kept_off h.own (grown_below hb) (fun _ _ e=>by cases e),h.bel.trans (hb.mono h.bel.size),Nat.le_trans h.sz hb.size⟩
theorem Pl.put {v':Value} {xs':List MS} {d' wh':Bool} {ty' nm':List UInt8} {k':KeyT} (h:Pl w W v xs d ty nm k wh) (i:Nat) (u:Value) (e:(W.setCell ⟨w.heap.size+1,i,none⟩ u).heap[w.heap.size+1]?=some (plO v' d' ty' nm' k' wh')) (ho:OwnM (w.heap.size+2) W v' xs') :
  Pl w (W.setCell ⟨w.heap.size+1,i,none⟩ u) v' xs' d' ty' nm' k' wh':=by
 have hg:=grown_setC W ⟨w.heap.size+1,i,none⟩ u;refine ⟨e,(Below.heap_setCell _ _ _ _ (by simp)).trans h.re,kept_off ho hg (fun g hg2 e=>?_),h.bel.grown hg h.bel.size (fun k hk=>by cases hk;show w.heap.size<=w.heap.size+1;omega),Nat.le_trans h.sz hg.size⟩;have:=ownM_far ho g hg2;simp at e;omega
theorem Pl.p1 (h:Pl w W v xs d ty nm k wh) (d2:Bool):Pl w (W.setCell ⟨w.heap.size+1,1,none⟩ (.bool d2)) v xs d2 ty nm k wh:=by
 refine h.put 1 (.bool d2) ?_ h.own;have had:=h.ad;unfold World.setCell plO at *;simp only [Array.getElem?_modify,if_true,had,Option.map_some];rfl
theorem Pl.p2 (h:Pl w W v xs d ty nm k wh) (s2:List UInt8):Pl w (W.setCell ⟨w.heap.size+1,2,none⟩ (.string ⟨s2.toArray⟩)) v xs d s2 nm k wh:=by
 refine h.put 2 (.string ⟨s2.toArray⟩) ?_ h.own;have had:=h.ad;unfold World.setCell plO at *;simp only [Array.getElem?_modify,if_true,had,Option.map_some];rfl
theorem Pl.p3 (h:Pl w W v xs d ty nm k wh) (s2:List UInt8):Pl w (W.setCell ⟨w.heap.size+1,3,none⟩ (.string ⟨s2.toArray⟩)) v xs d ty s2 k wh:=by
 refine h.put 3 (.string ⟨s2.toArray⟩) ?_ h.own;have had:=h.ad;unfold World.setCell plO at *;simp only [Array.getElem?_modify,if_true,had,Option.map_some];rfl
theorem Pl.p4 (h:Pl w W v xs d ty nm k wh) (k2:KeyT):Pl w (((W.setCell ⟨w.heap.size+1,4,none⟩ (.int .i64 k2.1)).setCell ⟨w.heap.size+1,5,none⟩ (.int .i64 k2.2.1)).setCell ⟨w.heap.size+1,6,none⟩ (.string ⟨k2.2.2.toArray⟩)) v xs d ty nm k2 wh:=by
 have h1:Pl w (W.setCell ⟨w.heap.size+1,4,none⟩ (.int .i64 k2.1)) v xs d ty nm (k2.1,k.2.1,k.2.2) wh:=by
  refine h.put 4 (.int .i64 k2.1) ?_ h.own;have had:=h.ad;unfold World.setCell plO at *;simp only [Array.getElem?_modify,if_true,had,Option.map_some];rfl
 have h2:Pl w ((W.setCell ⟨w.heap.size+1,4,none⟩ (.int .i64 k2.1)).setCell ⟨w.heap.size+1,5,none⟩ (.int .i64 k2.2.1)) v xs d ty nm (k2.1,k2.2.1,k.2.2) wh:=by
  refine h1.put 5 (.int .i64 k2.2.1) ?_ h1.own;have had:=h1.ad;generalize W.setCell ⟨w.heap.size+1,4,none⟩ (.int .i64 k2.1)=Y at *;unfold World.setCell plO at *;simp only [Array.getElem?_modify,if_true,had,Option.map_some];rfl
 refine h2.put 6 (.string ⟨k2.2.2.toArray⟩) ?_ h2.own;have had:=h2.ad;generalize (W.setCell ⟨w.heap.size+1,4,none⟩ (.int .i64 k2.1)).setCell ⟨w.heap.size+1,5,none⟩ (.int .i64 k2.2.1)=Y at *;unfold World.setCell plO at *;simp only [Array.getElem?_modify,if_true,had,Option.map_some];rfl
theorem Pl.p7 (h:Pl w W v xs d ty nm k wh) (d2:Bool):Pl w (W.setCell ⟨w.heap.size+1,7,none⟩ (.bool d2)) v xs d ty nm k d2:=by
 refine h.put 7 (.bool d2) ?_ h.own;have had:=h.ad;unfold World.setCell plO at *;simp only [Array.getElem?_modify,if_true,had,Option.map_some];rfl
theorem Pl.app {W1 W2:World} (h:Pl w W v xs d ty nm k wh) (hb:Below W.heap.size W W1) {y:MS} {H g cap len:Nat} (hl:len=xs.length+1) (hm:MoreM (w.heap.size+2) W1 v (xs ++ [y]) H g cap W2) :
  (W2.cell? ⟨w.heap.size+1,0,none⟩=some v/\W2.frozen? ⟨w.heap.size+1,0,none⟩=false)/\Pl w (W2.setCell ⟨w.heap.size+1,0,none⟩ (.slice (some ⟨g,0,none⟩) len cap)) (.slice (some ⟨g,0,none⟩) len cap) (xs ++ [y]) d ty nm k wh:=by
 have hl2:len=(xs ++ [y]).length:=by simp [hl]
 rw [hl2];clear hl hl2;have h1:=h.below hb;have hf:=ownM_far h1.own;have hg:=hm.2.1;have hne:∀ j,j < w.heap.size+2->W2.heap[j]?=W1.heap[j]?:=fun j hj=>hg.block j (Nat.lt_of_lt_of_le hj h1.sz) (fun e=>by have:=(hf j e.symm).1;omega);have had:=(hne _ (by omega)).trans h1.ad;have hre:=(hne _ (by omega)).trans h1.re;obtain ⟨⟨c0,_⟩,cf,_⟩:=pl_cells had;refine ⟨⟨c0,cf 0⟩,?_⟩;have hgs:=grown_setC W2 ⟨w.heap.size+1,0,none⟩ (.slice (some ⟨g,0,none⟩) (xs ++ [y]).length cap);have hbel:Below w.heap.size w W2:=h1.bel.grown hg h1.bel.size (fun k hk=>by have:=(hf k hk).1;omega);refine ⟨?_,(Below.heap_setCell _ _ _ _ (by simp)).trans hre,kept_off hm.1 hgs (fun g2 hg2 e=>?_),hbel.grown hgs hbel.size (fun k hk=>by cases hk;show w.heap.size<=w.heap.size+1;omega),Nat.le_trans (Nat.le_trans h1.sz hg.size) hgs.size⟩
 . unfold World.setCell plO at *
   simp only [Array.getElem?_modify,if_true,had,Option.map_some];rfl
 . have:=(ownM_far hm.1 g2 hg2).1
   simp at e;omega
set_option maxHeartbeats 8000000 in
theorem Pl.fin (h:Pl w W v xs d ty nm k wh) (v2:Value) (d2:Bool) (ty2 nm2:List UInt8) (k2:KeyT) (wh2:Bool) :
  ∃ W',W'=(((((((W.setCell ⟨w.heap.size,0,none⟩ v2).setCell ⟨w.heap.size,1,none⟩ (.bool d2)).setCell ⟨w.heap.size,2,none⟩ (.string ⟨ty2.toArray⟩)).setCell ⟨w.heap.size,3,none⟩ (.string ⟨nm2.toArray⟩)).setCell ⟨w.heap.size,4,none⟩ (.int .i64 k2.1)).setCell ⟨w.heap.size,5,none⟩ (.int .i64 k2.2.1)).setCell ⟨w.heap.size,6,none⟩ (.string ⟨k2.2.2.toArray⟩)).setCell ⟨w.heap.size,7,none⟩ (.bool wh2) /\
   W'.heap[w.heap.size]?=some (plO v2 d2 ty2 nm2 k2 wh2)/\OwnM (w.heap.size+2) W' v xs/\Below w.heap.size w W':=by
 refine ⟨_,rfl,?_,?_,?_⟩
 . have hre:=h.re
   unfold World.setCell plO at *;simp only [Array.getElem?_modify,if_true,hre,Option.map_some];rfl
 . have hS:∀ (X:World) (i:Nat) (u:Value),OwnM (w.heap.size+2) X v xs->OwnM (w.heap.size+2) (X.setCell ⟨w.heap.size,i,none⟩ u) v xs:=fun X i u ho=>kept_off ho (grown_setC X _ u) (fun g hg2 e=>by have:=(ownM_far ho g hg2).1;simp at e;omega)
   exact hS _ _ _ (hS _ _ _ (hS _ _ _ (hS _ _ _ (hS _ _ _ (hS _ _ _ (hS _ _ _ (hS _ _ _ h.own)))))))
 . exact (((((((h.bel.setCell (Nat.le_refl _) _).setCell (Nat.le_refl _) _).setCell (Nat.le_refl _) _).setCell (Nat.le_refl _) _).setCell (Nat.le_refl _) _).setCell (Nat.le_refl _) _).setCell (Nat.le_refl _) _).setCell (Nat.le_refl _) _
end
theorem Pl.start (w:World):Pl w ((w.alloc (plO (.slice none 0 0) false [] [] (0,0,[]) false)).alloc (plO (.slice none 0 0) false [] [] (0,0,[]) false)) (.slice none 0 0) [] false [] [] (0,0,[]) false:=by
 have hb1:Below w.heap.size w (w.alloc (plO (.slice none 0 0) false [] [] (0,0,[]) false)):=(Below.refl _ _).alloc (Nat.le_refl _) _;have n1:=ko_new w (plO (.slice none 0 0) false [] [] (0,0,[]) false);have s1:(w.alloc (plO (.slice none 0 0) false [] [] (0,0,[]) false)).heap.size=w.heap.size+1:=by simp [World.size_alloc]
 generalize w.alloc (plO (.slice none 0 0) false [] [] (0,0,[]) false)=w1 at *;have hb2:Below w1.heap.size w1 (w1.alloc (plO (.slice none 0 0) false [] [] (0,0,[]) false)):=(Below.refl _ _).alloc (Nat.le_refl _) _;have n2:=ko_new w1 (plO (.slice none 0 0) false [] [] (0,0,[]) false);refine ⟨by rw [<-s1];exact n2,(hb2.block _ (lt_of_block n1)).trans n1,ownM_nil _ _,hb1.trans (hb2.mono (by omega)),by simp [World.size_alloc];omega⟩
theorem keyR_len (l:List UInt8):(keyR l).2.1.length<=l.length:=by
 unfold keyR;split
 . exact Nat.le_refl _
 . split
   . split
     . exact Nat.zero_le _
     . show (l.drop _).length<=l.length
       rw [List.length_drop];omega
   . split
     . exact Nat.zero_le _
     . show (l.drop _).length<=l.length
       rw [List.length_drop];omega
theorem stR_len (l:List UInt8):(stR l).2.1.length<=l.length:=by
 show (keyR (wdD l)).2.1.length<=l.length;have h1:=keyR_len (wdD l);have h2:=(wd_len l).2;omega
theorem pre_len7 {l:List UInt8} (h:¬ Lib.hasPrefix l MODP=false):7<=l.length:=by
 have h1:Lib.hasPrefix l MODP=true:=by cases hh:Lib.hasPrefix l MODP with
  | true=>rfl
  | false=>exact absurd hh h
 exact Lib.hasPrefix_le h1
theorem stR_less {l:List UInt8} {n:Nat} (h1:¬ Lib.hasPrefix l MODP=false) (h3:¬ (stR (l.drop 7)).2.1=[]) (hn:l.length < n+1):(stR (l.drop 7)).2.1.tail.length < n:=by
 have h7:=pre_len7 h1;have h4:=stR_len (l.drop 7);rw [List.length_drop] at h4;rw [List.length_tail];omega
theorem modsR_fuel:∀ (n m:Nat) (l:List UInt8),l.length < n->l.length < m->modsR n l=modsR m l
 | 0,_,_,h,_=>by omega
 | _,0,_,_,h=>by omega
 | n+1,m+1,l,hn,hm=>by
   rw [modsR,modsR]
   by_cases h1:Lib.hasPrefix l MODP=false
   . rw [if_pos h1,if_pos h1]
   . rw [if_neg h1,if_neg h1]
     by_cases h2:(stR (l.drop 7)).2.2=false
     . rw [if_pos h2,if_pos h2]
     . rw [if_neg h2,if_neg h2]
       by_cases h3:(stR (l.drop 7)).2.1=[]
       . rw [if_pos h3,if_pos h3]
       . rw [if_neg h3,if_neg h3]
         by_cases h4:((stR (l.drop 7)).2.1.getD 0 0).toNat≠46
         . rw [if_pos h4,if_pos h4]
         . rw [if_neg h4,if_neg h4,modsR_fuel n m _ (stR_less h1 h3 hn) (stR_less h1 h3 hm)]
end Go.Proofs.YtomhbcfjhgecbaaGreatDoor.Adr
namespace Go.Proofs.YtomhbcfjhgecbaaGreatDoor.Adr
open Go.RowKit Go.Sort Go.Lib Go.Maps
open Go.Lib (hid)
def PlcP (l:List UInt8) (w:World) (e:Ending) (w':World):Prop:=
 ∃ v xs d ty nm k wh ok,e=.returned (.tuple #[plV v d ty nm k wh,.bool ok])/\OwnM (w.heap.size+2) w' v xs/\Below w.heap.size w w' /\
  ((ok=false/\prR l=none) ∨ (ok=true/\wh=false/\∃ xs',prR l=some (xs',none)) ∨ (ok=true/\wh=true/\prR l=some (xs,some (d,ty,nm,k))))
theorem modsR_one (l:List UInt8):modsR (l.length+1) l =
  if Lib.hasPrefix l MODP=false then some ([],some l)
  else if (stR (l.drop 7)).2.2=false then none
  else if (stR (l.drop 7)).2.1=[] then some ([(stR (l.drop 7)).1],none)
  else if ((stR (l.drop 7)).2.1.getD 0 0).toNat≠46 then none
  else (modsR ((stR (l.drop 7)).2.1.tail.length+1) (stR (l.drop 7)).2.1.tail).map fun x=>((stR (l.drop 7)).1 :: x.1,x.2):=by
 rw [modsR]
 by_cases h1:Lib.hasPrefix l MODP=false
 . rw [if_pos h1,if_pos h1]
 . rw [if_neg h1,if_neg h1]
   by_cases h2:(stR (l.drop 7)).2.2=false
   . rw [if_pos h2,if_pos h2]
   . rw [if_neg h2,if_neg h2]
     by_cases h3:(stR (l.drop 7)).2.1=[]
     . rw [if_pos h3,if_pos h3]
     . rw [if_neg h3,if_neg h3]
       by_cases h4:((stR (l.drop 7)).2.1.getD 0 0).toNat≠46
       . rw [if_pos h4,if_pos h4]
       . rw [if_neg h4,if_neg h4,modsR_fuel l.length _ _ (stR_less h1 h3 (Nat.lt_succ_self _)) (Nat.lt_succ_self _)]
def Mds (l0:List UInt8) (xs:List MS) (l:List UInt8):Prop:=modsR (l0.length+1) l0=(modsR (l.length+1) l).map fun x=>(xs ++ x.1,x.2)
theorem mds_start (l:List UInt8):Mds l [] l:=by
 unfold Mds;cases modsR (l.length+1) l with
 | none=>rfl
 | some x=>simp
theorem mds_more {l0 l:List UInt8} {xs:List MS} (h:Mds l0 xs l) (h1:Lib.hasPrefix l MODP=true) (h2:(stR (l.drop 7)).2.2=true) (h3:¬ (stR (l.drop 7)).2.1=[]) (h4:((stR (l.drop 7)).2.1.getD 0 0).toNat=46):Mds l0 (xs ++ [(stR (l.drop 7)).1]) (stR (l.drop 7)).2.1.tail:=by
 unfold Mds at *;rw [h,modsR_one l,if_neg (by rw [h1];simp),if_neg (by rw [h2];simp),if_neg h3,if_neg (fun hc=>hc h4)];cases modsR ((stR (l.drop 7)).2.1.tail.length+1) (stR (l.drop 7)).2.1.tail with
 | none=>rfl
 | some x=>simp
theorem mds_bad {l0 l:List UInt8} {xs:List MS} (h:Mds l0 xs l) (h1:Lib.hasPrefix l MODP=true) (h2:(stR (l.drop 7)).2.2=false ∨ (¬ (stR (l.drop 7)).2.1=[]/\((stR (l.drop 7)).2.1.getD 0 0).toNat≠46)):prR l0=none:=by
 unfold prR;unfold Mds at h;rw [h,modsR_one l,if_neg (by rw [h1];simp)];rcases h2 with h2 | ⟨h3,h4⟩
 . rw [if_pos h2];rfl
 . by_cases h2:(stR (l.drop 7)).2.2=false
   . rw [if_pos h2];rfl
   . rw [if_neg h2,if_neg h3,if_pos h4];rfl
theorem mds_end {l0 l:List UInt8} {xs:List MS} (h:Mds l0 xs l) (h1:Lib.hasPrefix l MODP=true) (h2:(stR (l.drop 7)).2.2=true) (h3:(stR (l.drop 7)).2.1=[]):∃ xs',prR l0=some (xs',none):=by
 unfold prR;unfold Mds at h;rw [h,modsR_one l,if_neg (by rw [h1];simp),if_neg (by rw [h2];simp),if_pos h3];exact ⟨_,rfl⟩
theorem mds_tl {l0 l:List UInt8} {xs:List MS} (h:Mds l0 xs l) (h1:Lib.hasPrefix l MODP=false):prR l0=(tlR l).map fun t=>(xs,some t):=by
 unfold prR;unfold Mds at h;rw [h,modsR_one l,if_pos h1];simp
end Go.Proofs.YtomhbcfjhgecbaaGreatDoor.Adr
namespace Go.Proofs.YtomhbcfjhgecbaaGreatDoor.Adr
open Go.RowKit Go.Sort Go.Lib Go.Maps
open Go.Lib (hid)
section
variable {w:World} {ops:Array Oper} {rest:List Oper} {o:Oper} {a:Act} {Q:Exit->Act->World->Prop}
theorem app_m (hgd:o.guard=none) (s x:Operand) (ho:o.op=.call { callee:=.builtin .append,args:=#[s,x],argTypes:=#[88,88] })
  (B:Nat) (v:Value) (xs:List MS) (hs:a.eval s=v) (hown:OwnM B w v xs) (nb c:Nat) (y:MS) (hx:a.eval x=.slice (some ⟨nb,0,none⟩) 1 c) {fr:Nat × Nat} (hy:w.heap[nb]?=some (.cells #[.string ⟨y.1.toArray⟩,.int .i64 y.2.1,.int .i64 y.2.2.1,.string ⟨y.2.2.2.toArray⟩] 124 fr))
  (hn:xs.length+1<=2000000) (hbase:B<=w.heap.size) (H:Nat) (hH:w.heap.size=H)
  (h:∀ g cap w',MoreM B w v (xs ++ [y]) H g cap w'->wpList Tryz.prog ops Q rest (a.put o.dst (.slice (some ⟨g,0,none⟩) (xs.length+1) cap)) w'):wpList Tryz.prog ops Q (o :: rest) a w:=by
 subst hH;refine wpList_append_rows encM encM_len encM_one Tryz.underlying88 msinfo rfl (by omega) (by omega) hgd s x ho B v xs hs hown nb 1 c [y] rfl (by omega) hx (fr:=fr) hy hn hbase ?_;intro g cap w' h1 h2 h3 h4;exact h g cap w' (morem_of h1 h2 h3 h4)
end
theorem ownM_form {B:Nat} {w:World} {v:Value} {xs:List MS} (h:OwnM B w v xs):∃ r c,v=.slice r xs.length c/\xs.length<=c/\c<=maxLen:=own_form h
theorem ls_nil {l:List UInt8} (h:l=[]):(⟨l.toArray⟩:ByteArray).toList.isEmpty=true:=by subst h;rw [ByteArray.toList_eq];rfl
theorem ls_cons {l:List UInt8} (h:¬ l=[]):(⟨l.toArray⟩:ByteArray).toList.isEmpty=false:=by
 rw [ByteArray.toList_eq];cases l with
 | nil=>exact absurd rfl h
 | cons c r=>rfl
theorem ls_size (l:List UInt8):(⟨l.toArray⟩:ByteArray).size=l.length:=by simp [ByteArray.size]
theorem ls_at {l:List UInt8} (h:¬ l=[]):∃ hp:0 < (⟨l.toArray⟩:ByteArray).size,((⟨l.toArray⟩:ByteArray)[0]'hp)=l.getD 0 0:=by
 cases l with
 | nil=>exact absurd rfl h
 | cons c r=>exact ⟨by rw [ls_size];simp,rfl⟩
theorem ls_ext (l:List UInt8) (n:Nat):(⟨l.toArray⟩:ByteArray).extract n (⟨l.toArray⟩:ByteArray).size=⟨(l.drop n).toArray⟩:=ext_arr ⟨l.toArray⟩ n
theorem tl_facts {l0 l:List UInt8} {xs:List MS} (h:prR l0=(tlR l).map fun t=>(xs,some t)) {ty rs:List UInt8} (h1:wdL (Lib.trimPrefix l DATP)=ty) (h2:wdD (Lib.trimPrefix l DATP)=rs) :
  ((idB ty=false ∨ rsv ty=true ∨ (rs.getD 0 0).toNat≠46)->prR l0=none) /\
  (¬ (idB ty=false ∨ rsv ty=true ∨ (rs.getD 0 0).toNat≠46)->(idB (wdL rs.tail)=false ∨ (keyR (wdD rs.tail)).2.2=false ∨ (keyR (wdD rs.tail)).2.1≠[])->prR l0=none) /\
  (¬ (idB ty=false ∨ rsv ty=true ∨ (rs.getD 0 0).toNat≠46)->¬ (idB (wdL rs.tail)=false ∨ (keyR (wdD rs.tail)).2.2=false ∨ (keyR (wdD rs.tail)).2.1≠[])->prR l0=some (xs,some (Lib.hasPrefix l DATP,ty,wdL rs.tail,(keyR (wdD rs.tail)).1))):=by
 subst h1 h2;refine ⟨fun a=>?_,fun a b=>?_,fun a b=>?_⟩
 . rw [h,show tlR l=none by unfold tlR;rw [if_pos a]];rfl
 . rw [h,show tlR l=none by unfold tlR;rw [if_neg a,if_pos b]];rfl
 . rw [h,show tlR l=some (Lib.hasPrefix l DATP,wdL (Lib.trimPrefix l DATP),wdL (wdD (Lib.trimPrefix l DATP)).tail,(keyR (wdD (wdD (Lib.trimPrefix l DATP)).tail)).1) by unfold tlR;rw [if_neg a,if_neg b]];rfl
set_option maxRecDepth 100000 in
set_option maxHeartbeats 40000000 in
theorem rplace_any (s:ByteArray) (w:World) (hs:s.size<=1200001):Calls Tryz.prog 150 #[.string s] w (PlcP s.data.toList w):=by
 have I0:=hid (Pl.start w);unfold plO at I0;have HTL:=hid True.intro;go_enter Tryz.func150,Tryz.ntmps150;go_wp2
 clear HTL;generalize hW0:(World.alloc _ _)=W0 at *;go_loopg [0] (s.size+1) (fun gg s0 wr=>∃ (b:ByteArray) (v:Value) (xs:List MS),s0=.string b/\b.size<=gg/\b.size<=s.size/\Hid (Pl w wr v xs false [] [] (0,0,[]) false)/\Hid (Mds s.data.toList xs b.data.toList)/\xs.length+b.size<=s.size)
 case atStart=>exact ⟨s,_,[],rfl,by omega,Nat.le_refl _,I0,hid (mds_start _),by simp⟩
 case round =>
  clear I0;obtain ⟨b,v,xs,rfl,hgg,hls,HP,HM,hxl⟩:=hrel;obtain ⟨ro,co,hv,hc1,hc2⟩:=ownM_form HP.out.own;subst hv;have hsz:b.size<=1200001:=by omega
  have hlen:=size_list b;have HBG:Hid (∀ W:World,Calls Tryz.prog 193 #[.string b,.string ⟨#[109,111,100,117,108,101,46]⟩] W fun e w'=>e=.returned (.bool (Lib.hasPrefix b.data.toList MODP))/\W=w'):=hid (fun W=>rbegins_any b ⟨#[109,111,100,117,108,101,46]⟩ W (by omega) (by decide));have HBD:Hid (∀ W:World,Calls Tryz.prog 193 #[.string b,.string ⟨#[100,97,116,97,46]⟩] W fun e w'=>e=.returned (.bool (Lib.hasPrefix b.data.toList DATP))/\W=w'):=hid (fun W=>rbegins_any b ⟨#[100,97,116,97,46]⟩ W (by omega) (by decide));have HST0:=hid (fun (W:World) h7=>rstep_any b W hsz h7);have hx5:=extract_list b 5;obtain ⟨l,hl⟩:∃ l,b.data.toList=l:=⟨_,rfl⟩;rw [hl] at HBG HBD HM HST0 hlen hx5;have HBL:=hid hl;clear hl;have HLN:=hid (show xs.length+1<=2000000 by omega);cases hm:Lib.hasPrefix l MODP with
  | true =>
    rw [hm] at HBG;have h7:=pre_len7 (l:=l) (by rw [hm];simp);have HST:=hid (fun W=>HST0.out W (by omega));have HBAD:=hid (fun h=>mds_bad HM.out hm h);have HEND:=hid (fun h2 h3=>mds_end HM.out hm h2 h3);have HMORE:=hid (fun h2 h3 h4=>mds_more HM.out hm h2 h3 h4);have hrlen:=stR_len (l.drop 7);rw [List.length_drop] at hrlen;generalize stR (l.drop 7)=X at *;obtain ⟨⟨nm,kk,kn,kt⟩,rest,ok⟩:=X;simp only at HBAD HEND HMORE hrlen;clear HM hsz HBD HST0 hx5 HBL;cases ok with
    | false =>
      simp only [stV,StpV] at HST;have HRR:=hid (HBAD.out (Or.inl rfl));clear HBAD HEND HMORE
      go_wp2_with (first
       | (go_at_call 193
          have hh:=HBG.out;clear HBG;refine Calls.mono (hh _) ?_;clear hh;rintro e w1 ⟨rfl,rfl⟩
          )
       | (go_at_call 194
          have hh:=HST.out;clear HST;refine Calls.mono (hh _) ?_;clear hh;rintro e w2 ⟨rfl,hb2⟩;have HA5:=hid (hb2.trans ((show Below w2.heap.size w2 (w2.alloc (.cells #[.string ⟨nm.toArray⟩,.int .i64 kk,.int .i64 kn,.string ⟨kt.toArray⟩] 124)) from (Below.refl _ _).alloc (Nat.le_refl _) _).mono hb2.size));have HP5:=hid (HP.out.below HA5.out);obtain ⟨⟨b0,b1,b2,b3,b4,b5,b6,b7⟩,bf,bl⟩:=pl_cells HP5.out.re;have bz0:=bf 0;have bz1:=bf 1;have bz2:=bf 2;have bz3:=bf 3;have bz4:=bf 4;have bz5:=bf 5;have bz6:=bf 6;have bz7:=bf 7;clear bf;clear hb2))
      obtain ⟨W9,hW9,f1,f2,f3⟩:=HP5.out.fin (.slice none 0 0) false [] [] (0,0,[]) false;obtain ⟨⟨r0,r1,r2,r3,r4,r5,r6,r7⟩,_,_⟩:=pl_cells f1
      first | rw [<-hW9] | (simp only [] at hW9;rw [<-hW9])
      exact bodyPost_ret (v:=.tuple #[plV (.slice none 0 0) false [] [] (0,0,[]) false,.bool false]) (by simp [results,Tryz.results150,go_sem,plV,r0,r1,r2,r3,r4,r5,r6,r7]) rfl ⟨_,[],_,_,_,_,_,_,rfl,ownM_nil _ _,f3,Or.inl ⟨rfl,HRR.out⟩⟩
    | true =>
      by_cases hrs:rest=[]
      . simp only [stV,StpV] at HST
        have HRR:=hid (HEND.out rfl hrs);clear HBAD HEND HMORE;subst hrs
        go_wp2_with (first
         | (go_at_call 193
            have hh:=HBG.out;clear HBG;refine Calls.mono (hh _) ?_;clear hh;rintro e w1 ⟨rfl,rfl⟩
            )
         | (go_at_call 194
            have hh:=HST.out;clear HST;refine Calls.mono (hh _) ?_;clear hh;rintro e w2 ⟨rfl,hb2⟩;have HA5:=hid (hb2.trans ((show Below w2.heap.size w2 (w2.alloc (.cells #[.string ⟨nm.toArray⟩,.int .i64 kk,.int .i64 kn,.string ⟨kt.toArray⟩] 124)) from (Below.refl _ _).alloc (Nat.le_refl _) _).mono hb2.size));have HP5:=hid (HP.out.below HA5.out);obtain ⟨⟨a0,a1,a2,a3,a4,a5,a6,a7⟩,af,al⟩:=pl_cells HP5.out.ad;have az0:=af 0;have az1:=af 1;have az2:=af 2;have az3:=af 3;have az4:=af 4;have az5:=af 5;have az6:=af 6;have az7:=af 7;clear af;obtain ⟨s0,s1,s2,s3,_,s5⟩:=so_cells (n:=nm) (k:=kk) (m:=kn) (t:=kt) (ko_new w2 (sO nm kk kn kt));unfold sO at s0 s1 s2 s3;have HA6:=hid (show Below (w2.alloc (.cells #[.string ⟨nm.toArray⟩,.int .i64 kk,.int .i64 kn,.string ⟨kt.toArray⟩] 124)).heap.size (w2.alloc (.cells #[.string ⟨nm.toArray⟩,.int .i64 kk,.int .i64 kn,.string ⟨kt.toArray⟩] 124)) ((w2.alloc (.cells #[.string ⟨nm.toArray⟩,.int .i64 kk,.int .i64 kn,.string ⟨kt.toArray⟩] 124)).alloc (.cells #[.string ⟨nm.toArray⟩,.int .i64 kk,.int .i64 kn,.string ⟨kt.toArray⟩] 124)) from (Below.refl _ _).alloc (Nat.le_refl _) _)
            have HN6:=hid (show ((w2.alloc (.cells #[.string ⟨nm.toArray⟩,.int .i64 kk,.int .i64 kn,.string ⟨kt.toArray⟩] 124)).alloc (.cells #[.string ⟨nm.toArray⟩,.int .i64 kk,.int .i64 kn,.string ⟨kt.toArray⟩] 124)).heap[w2.heap.size+1]?=some (.cells #[.string ⟨nm.toArray⟩,.int .i64 kk,.int .i64 kn,.string ⟨kt.toArray⟩] 124 (0,0)) from by
             have h:=ko_new (w2.alloc (.cells #[.string ⟨nm.toArray⟩,.int .i64 kk,.int .i64 kn,.string ⟨kt.toArray⟩] 124)) (sO nm kk kn kt);rw [show (w2.alloc (.cells #[.string ⟨nm.toArray⟩,.int .i64 kk,.int .i64 kn,.string ⟨kt.toArray⟩] 124)).heap.size=w2.heap.size+1 by simp] at h;exact h)
            have HO6:=hid (show OwnM (w.heap.size+2) ((w2.alloc (.cells #[.string ⟨nm.toArray⟩,.int .i64 kk,.int .i64 kn,.string ⟨kt.toArray⟩] 124)).alloc (.cells #[.string ⟨nm.toArray⟩,.int .i64 kk,.int .i64 kn,.string ⟨kt.toArray⟩] 124)) (.slice ro xs.length co) xs from kept_off HP5.out.own (grown_below HA6.out) (fun _ _ e=>by cases e));have HZ6:=hid (show w.heap.size+2<=((w2.alloc (.cells #[.string ⟨nm.toArray⟩,.int .i64 kk,.int .i64 kn,.string ⟨kt.toArray⟩] 124)).alloc (.cells #[.string ⟨nm.toArray⟩,.int .i64 kk,.int .i64 kn,.string ⟨kt.toArray⟩] 124)).heap.size from Nat.le_trans HP5.out.sz HA6.out.size);clear hb2)
         | (at_builtin
            refine app_m rfl _ _ rfl (w.heap.size+2) (.slice ro xs.length co) xs rfl HO6.out (w2.heap.size+1) 1 (nm,kk,kn,kt) rfl (fr:=(0,0)) (by exact HN6.out) HLN.out HZ6.out (w2.heap.size+2) (by simp) ?_;intro g cap w8 hm8;have HM8:=hid (HP5.out.app HA6.out rfl hm8);obtain ⟨u1,u2⟩:=HM8.out.1;obtain ⟨⟨b0,b1,b2,b3,b4,b5,b6,b7⟩,bf,bl⟩:=pl_cells HM8.out.2.re;have bz0:=bf 0;have bz1:=bf 1;have bz2:=bf 2;have bz3:=bf 3;have bz4:=bf 4;have bz5:=bf 5;have bz6:=bf 6;have bz7:=bf 7;clear bf;obtain ⟨⟨c0,c1,c2,c3,c4,c5,c6,c7⟩,cf,cl⟩:=pl_cells HM8.out.2.ad;clear cf;clear hm8))
        obtain ⟨W9,hW9,f1,f2,f3⟩:=HM8.out.2.fin (.slice (some ⟨g,0,none⟩) (xs.length+1) cap) false [] [] (0,0,[]) false;obtain ⟨⟨r0,r1,r2,r3,r4,r5,r6,r7⟩,_,_⟩:=pl_cells f1
        first | rw [<-hW9] | (simp only [] at hW9;rw [<-hW9])
        exact bodyPost_ret (v:=.tuple #[plV (.slice (some ⟨g,0,none⟩) (xs.length+1) cap) false [] [] (0,0,[]) false,.bool true]) (by simp [results,Tryz.results150,go_sem,plV,r0,r1,r2,r3,r4,r5,r6,r7]) rfl ⟨_,_,_,_,_,_,_,_,rfl,f2,f3,Or.inr (Or.inl ⟨rfl,rfl,HRR.out⟩)⟩
      . by_cases h46:(rest.getD 0 0).toNat=46
        . simp only [stV,StpV] at HST
          obtain ⟨rb,hrb,eL,⟨hp0,hat⟩,hex⟩:∃ rb:ByteArray,rb=⟨rest.toArray⟩/\rb.toList.isEmpty=false/\(∃ hp:0 < rb.size,(rb[0]'hp)=rest.getD 0 0)/\rb.extract 1 rb.size=⟨rest.tail.toArray⟩:=⟨_,rfl,ls_cons hrs,ls_at hrs,by rw [ls_ext,List.drop_one]⟩;rw [<-hrb] at HST;clear hrb;have hpi:(0:Int) < (rb.size:Int):=by omega
          have e46:((((rb[0]'hp0).toNat:Nat):Int) != 46)=false:=by rw [hat,h46];rfl
          have hp1:(1:Int)<=(rb.size:Int):=by omega
          have HLX:=hid hex;have HRL:=hid hrlen;have HRR:=hid (HMORE.out rfl hrs h46);clear hat hex hrlen hrs h46 HBAD HEND HMORE
          go_wp2_with (first
           | (go_at_call 193
              have hh:=HBG.out;clear HBG;refine Calls.mono (hh _) ?_;clear hh;rintro e w1 ⟨rfl,rfl⟩
              )
           | (go_at_call 194
              have hh:=HST.out;clear HST;refine Calls.mono (hh _) ?_;clear hh;rintro e w2 ⟨rfl,hb2⟩;have HA5:=hid (hb2.trans ((show Below w2.heap.size w2 (w2.alloc (.cells #[.string ⟨nm.toArray⟩,.int .i64 kk,.int .i64 kn,.string ⟨kt.toArray⟩] 124)) from (Below.refl _ _).alloc (Nat.le_refl _) _).mono hb2.size));have HP5:=hid (HP.out.below HA5.out);obtain ⟨⟨a0,a1,a2,a3,a4,a5,a6,a7⟩,af,al⟩:=pl_cells HP5.out.ad;have az0:=af 0;have az1:=af 1;have az2:=af 2;have az3:=af 3;have az4:=af 4;have az5:=af 5;have az6:=af 6;have az7:=af 7;clear af;obtain ⟨s0,s1,s2,s3,_,s5⟩:=so_cells (n:=nm) (k:=kk) (m:=kn) (t:=kt) (ko_new w2 (sO nm kk kn kt));unfold sO at s0 s1 s2 s3;have HA6:=hid (show Below (w2.alloc (.cells #[.string ⟨nm.toArray⟩,.int .i64 kk,.int .i64 kn,.string ⟨kt.toArray⟩] 124)).heap.size (w2.alloc (.cells #[.string ⟨nm.toArray⟩,.int .i64 kk,.int .i64 kn,.string ⟨kt.toArray⟩] 124)) ((w2.alloc (.cells #[.string ⟨nm.toArray⟩,.int .i64 kk,.int .i64 kn,.string ⟨kt.toArray⟩] 124)).alloc (.cells #[.string ⟨nm.toArray⟩,.int .i64 kk,.int .i64 kn,.string ⟨kt.toArray⟩] 124)) from (Below.refl _ _).alloc (Nat.le_refl _) _)
              have HN6:=hid (show ((w2.alloc (.cells #[.string ⟨nm.toArray⟩,.int .i64 kk,.int .i64 kn,.string ⟨kt.toArray⟩] 124)).alloc (.cells #[.string ⟨nm.toArray⟩,.int .i64 kk,.int .i64 kn,.string ⟨kt.toArray⟩] 124)).heap[w2.heap.size+1]?=some (.cells #[.string ⟨nm.toArray⟩,.int .i64 kk,.int .i64 kn,.string ⟨kt.toArray⟩] 124 (0,0)) from by
               have h:=ko_new (w2.alloc (.cells #[.string ⟨nm.toArray⟩,.int .i64 kk,.int .i64 kn,.string ⟨kt.toArray⟩] 124)) (sO nm kk kn kt);rw [show (w2.alloc (.cells #[.string ⟨nm.toArray⟩,.int .i64 kk,.int .i64 kn,.string ⟨kt.toArray⟩] 124)).heap.size=w2.heap.size+1 by simp] at h;exact h)
              have HO6:=hid (show OwnM (w.heap.size+2) ((w2.alloc (.cells #[.string ⟨nm.toArray⟩,.int .i64 kk,.int .i64 kn,.string ⟨kt.toArray⟩] 124)).alloc (.cells #[.string ⟨nm.toArray⟩,.int .i64 kk,.int .i64 kn,.string ⟨kt.toArray⟩] 124)) (.slice ro xs.length co) xs from kept_off HP5.out.own (grown_below HA6.out) (fun _ _ e=>by cases e));have HZ6:=hid (show w.heap.size+2<=((w2.alloc (.cells #[.string ⟨nm.toArray⟩,.int .i64 kk,.int .i64 kn,.string ⟨kt.toArray⟩] 124)).alloc (.cells #[.string ⟨nm.toArray⟩,.int .i64 kk,.int .i64 kn,.string ⟨kt.toArray⟩] 124)).heap.size from Nat.le_trans HP5.out.sz HA6.out.size);clear hb2)
           | (at_builtin
              refine app_m rfl _ _ rfl (w.heap.size+2) (.slice ro xs.length co) xs rfl HO6.out (w2.heap.size+1) 1 (nm,kk,kn,kt) rfl (fr:=(0,0)) (by exact HN6.out) HLN.out HZ6.out (w2.heap.size+2) (by simp) ?_;intro g cap w8 hm8;have HM8:=hid (HP5.out.app HA6.out rfl hm8);obtain ⟨u1,u2⟩:=HM8.out.1;clear hm8))
          go_roundg (b.size - 7)
          case measure=>omega
          case rel =>
           have hrl:=HRL.out;have hxs:(rb.extract 1 rb.size).size=rest.tail.length:=by rw [HLX.out,ls_size]
           have hrt:rest.tail.length=rest.length - 1:=List.length_tail;exact ⟨rb.extract 1 rb.size,_,xs ++ [(nm,kk,kn,kt)],rfl,by rw [hxs];omega,by rw [hxs];omega,hid HM8.out.2,by rw [HLX.out];exact HRR,by rw [hxs,List.length_append,List.length_singleton];omega⟩
        . simp only [stV,StpV] at HST
          obtain ⟨rb,hrb,eL,⟨hp0,hat⟩,hex⟩:∃ rb:ByteArray,rb=⟨rest.toArray⟩/\rb.toList.isEmpty=false/\(∃ hp:0 < rb.size,(rb[0]'hp)=rest.getD 0 0)/\rb.extract 1 rb.size=⟨rest.tail.toArray⟩:=⟨_,rfl,ls_cons hrs,ls_at hrs,by rw [ls_ext,List.drop_one]⟩;rw [<-hrb] at HST;clear hrb;have hpi:(0:Int) < (rb.size:Int):=by omega
          have e46:((((rb[0]'hp0).toNat:Nat):Int) != 46)=true:=by rw [hat];exact bne_iff_ne.2 (by omega)
          have HRR:=hid (HBAD.out (Or.inr ⟨hrs,h46⟩));clear hat hex hrs h46 HBAD HEND HMORE
          go_wp2_with (first
           | (go_at_call 193
              have hh:=HBG.out;clear HBG;refine Calls.mono (hh _) ?_;clear hh;rintro e w1 ⟨rfl,rfl⟩
              )
           | (go_at_call 194
              have hh:=HST.out;clear HST;refine Calls.mono (hh _) ?_;clear hh;rintro e w2 ⟨rfl,hb2⟩;have HA5:=hid (hb2.trans ((show Below w2.heap.size w2 (w2.alloc (.cells #[.string ⟨nm.toArray⟩,.int .i64 kk,.int .i64 kn,.string ⟨kt.toArray⟩] 124)) from (Below.refl _ _).alloc (Nat.le_refl _) _).mono hb2.size));have HP5:=hid (HP.out.below HA5.out);obtain ⟨⟨a0,a1,a2,a3,a4,a5,a6,a7⟩,af,al⟩:=pl_cells HP5.out.ad;have az0:=af 0;have az1:=af 1;have az2:=af 2;have az3:=af 3;have az4:=af 4;have az5:=af 5;have az6:=af 6;have az7:=af 7;clear af;obtain ⟨s0,s1,s2,s3,_,s5⟩:=so_cells (n:=nm) (k:=kk) (m:=kn) (t:=kt) (ko_new w2 (sO nm kk kn kt));unfold sO at s0 s1 s2 s3;have HA6:=hid (show Below (w2.alloc (.cells #[.string ⟨nm.toArray⟩,.int .i64 kk,.int .i64 kn,.string ⟨kt.toArray⟩] 124)).heap.size (w2.alloc (.cells #[.string ⟨nm.toArray⟩,.int .i64 kk,.int .i64 kn,.string ⟨kt.toArray⟩] 124)) ((w2.alloc (.cells #[.string ⟨nm.toArray⟩,.int .i64 kk,.int .i64 kn,.string ⟨kt.toArray⟩] 124)).alloc (.cells #[.string ⟨nm.toArray⟩,.int .i64 kk,.int .i64 kn,.string ⟨kt.toArray⟩] 124)) from (Below.refl _ _).alloc (Nat.le_refl _) _)
              have HN6:=hid (show ((w2.alloc (.cells #[.string ⟨nm.toArray⟩,.int .i64 kk,.int .i64 kn,.string ⟨kt.toArray⟩] 124)).alloc (.cells #[.string ⟨nm.toArray⟩,.int .i64 kk,.int .i64 kn,.string ⟨kt.toArray⟩] 124)).heap[w2.heap.size+1]?=some (.cells #[.string ⟨nm.toArray⟩,.int .i64 kk,.int .i64 kn,.string ⟨kt.toArray⟩] 124 (0,0)) from by
               have h:=ko_new (w2.alloc (.cells #[.string ⟨nm.toArray⟩,.int .i64 kk,.int .i64 kn,.string ⟨kt.toArray⟩] 124)) (sO nm kk kn kt);rw [show (w2.alloc (.cells #[.string ⟨nm.toArray⟩,.int .i64 kk,.int .i64 kn,.string ⟨kt.toArray⟩] 124)).heap.size=w2.heap.size+1 by simp] at h;exact h)
              have HO6:=hid (show OwnM (w.heap.size+2) ((w2.alloc (.cells #[.string ⟨nm.toArray⟩,.int .i64 kk,.int .i64 kn,.string ⟨kt.toArray⟩] 124)).alloc (.cells #[.string ⟨nm.toArray⟩,.int .i64 kk,.int .i64 kn,.string ⟨kt.toArray⟩] 124)) (.slice ro xs.length co) xs from kept_off HP5.out.own (grown_below HA6.out) (fun _ _ e=>by cases e));have HZ6:=hid (show w.heap.size+2<=((w2.alloc (.cells #[.string ⟨nm.toArray⟩,.int .i64 kk,.int .i64 kn,.string ⟨kt.toArray⟩] 124)).alloc (.cells #[.string ⟨nm.toArray⟩,.int .i64 kk,.int .i64 kn,.string ⟨kt.toArray⟩] 124)).heap.size from Nat.le_trans HP5.out.sz HA6.out.size);clear hb2)
           | (at_builtin
              refine app_m rfl _ _ rfl (w.heap.size+2) (.slice ro xs.length co) xs rfl HO6.out (w2.heap.size+1) 1 (nm,kk,kn,kt) rfl (fr:=(0,0)) (by exact HN6.out) HLN.out HZ6.out (w2.heap.size+2) (by simp) ?_;intro g cap w8 hm8;have HM8:=hid (HP5.out.app HA6.out rfl hm8);obtain ⟨u1,u2⟩:=HM8.out.1;obtain ⟨⟨b0,b1,b2,b3,b4,b5,b6,b7⟩,bf,bl⟩:=pl_cells HM8.out.2.re;have bz0:=bf 0;have bz1:=bf 1;have bz2:=bf 2;have bz3:=bf 3;have bz4:=bf 4;have bz5:=bf 5;have bz6:=bf 6;have bz7:=bf 7;clear bf;clear hm8))
          obtain ⟨W9,hW9,f1,f2,f3⟩:=HM8.out.2.fin (.slice none 0 0) false [] [] (0,0,[]) false;obtain ⟨⟨r0,r1,r2,r3,r4,r5,r6,r7⟩,_,_⟩:=pl_cells f1
          first | rw [<-hW9] | (simp only [] at hW9;rw [<-hW9])
          exact bodyPost_ret (v:=.tuple #[plV (.slice none 0 0) false [] [] (0,0,[]) false,.bool false]) (by simp [results,Tryz.results150,go_sem,plV,r0,r1,r2,r3,r4,r5,r6,r7]) rfl ⟨_,[],_,_,_,_,_,_,rfl,ownM_nil _ _,f3,Or.inl ⟨rfl,HRR.out⟩⟩
  | false =>
    rw [hm] at HBG;clear HST0;cases hd:Lib.hasPrefix l DATP with
    | false =>
      rw [hd] at HBD;have HP1:=HP;have hbl:b.data.toList=Lib.trimPrefix l DATP:=HBL.out.trans (trim_no hd).symm;have hbs:b.size<=1200001:=hsz;have HW1:=hid (fun W=>rword_any b W (by omega));unfold WdR at HW1;have hw:=wd_len b.data.toList;rw [size_list] at hw;rw [hbl] at HW1 hw;obtain ⟨ty,hty⟩:∃ ty,wdL (Lib.trimPrefix l DATP)=ty:=⟨_,rfl⟩;obtain ⟨rs,hrs⟩:∃ rs,wdD (Lib.trimPrefix l DATP)=rs:=⟨_,rfl⟩;obtain ⟨hF1,hF2,hF3⟩:=tl_facts (mds_tl HM.out hm) hty hrs;rw [hd] at hF3;rw [hty,hrs] at HW1 hw;obtain ⟨hw1,hw2⟩:=hw;clear hty hrs hbl;have HI1:Hid (∀ W:World,Calls Tryz.prog 128 #[.string ⟨ty.toArray⟩] W fun e w'=>e=.returned (.bool (idB ty))/\W=w'):=hid (fun W=>rident_any ⟨ty.toArray⟩ W (by rw [ls_size];omega));have HRV:Hid (∀ W:World,Calls Tryz.prog 196 #[.string ⟨ty.toArray⟩] W fun e w'=>e=.returned (.bool (rsv ty))/\Below W.heap.size W w'):=hid (fun W=>rreserved_any ⟨ty.toArray⟩ W);obtain ⟨tb,htb⟩:∃ tb:ByteArray,tb=⟨ty.toArray⟩:=⟨_,rfl⟩;obtain ⟨rsb,hrsb⟩:∃ tb:ByteArray,tb=⟨rs.toArray⟩:=⟨_,rfl⟩;rw [<-htb] at HW1 HI1 HRV;rw [<-hrsb] at HW1;have hex:rsb.extract 1 rsb.size=⟨rs.tail.toArray⟩:=by rw [hrsb,ls_ext,List.drop_one]
      have hrz:rsb.size=rs.length:=by rw [hrsb,ls_size]
      have hrt:rs.tail.length=rs.length - 1:=List.length_tail;have hw3:=wd_len rs.tail
      have HW2:Hid (∀ W:World,Calls Tryz.prog 195 #[.string (rsb.extract 1 rsb.size)] W fun e w'=>e=.returned (.tuple #[.string ⟨(wdL rs.tail).toArray⟩,.string ⟨(wdD rs.tail).toArray⟩])/\Below W.heap.size W w'):=by
       rw [hex];exact hid (fun W=>rword_any ⟨rs.tail.toArray⟩ W (by rw [ls_size];omega))
      obtain ⟨nm,hnm⟩:∃ ty,wdL rs.tail=ty:=⟨_,rfl⟩;obtain ⟨kd,hkd⟩:∃ rs',wdD rs.tail=rs':=⟨_,rfl⟩;rw [hnm,hkd] at HW2 hF2 hF3 hw3;obtain ⟨hw4,hw5⟩:=hw3;have HI2:Hid (∀ W:World,Calls Tryz.prog 128 #[.string ⟨nm.toArray⟩] W fun e w'=>e=.returned (.bool (idB nm))/\W=w'):=hid (fun W=>rident_any ⟨nm.toArray⟩ W (by rw [ls_size];omega));have HKY:Hid (∀ W:World,Calls Tryz.prog 197 #[.string ⟨kd.toArray⟩] W fun e w'=>e=KyR (keyR kd)/\Below W.heap.size W w'):=hid (fun W=>rkey_any ⟨kd.toArray⟩ W (by rw [ls_size];omega));generalize keyR kd=X at *;obtain ⟨⟨kk,kn,kt⟩,r3,ok⟩:=X;unfold KyR kV at HKY;simp only at HKY hF2 hF3;obtain ⟨nb,hnb⟩:∃ tb:ByteArray,tb=⟨nm.toArray⟩:=⟨_,rfl⟩;obtain ⟨kb,hkb⟩:∃ tb:ByteArray,tb=⟨kd.toArray⟩:=⟨_,rfl⟩;obtain ⟨r3b,hr3b⟩:∃ tb:ByteArray,tb=⟨r3.toArray⟩:=⟨_,rfl⟩;rw [<-hnb] at HW2 HI2;rw [<-hkb] at HW2 HKY;rw [<-hr3b] at HKY;clear hw1 hw2 hw4 hw5 hbs hex hnm hkd hrt hkb HM hsz;clear hx5 hlen HBL hd hls hxl hgg;cases hi1:idB ty with
      | false =>
        have HRR:=hid (hF1 (Or.inl hi1));rw [hi1] at HI1;clear hF1 hF2 hF3 hi1 htb hrsb hnb hr3b
        go_wp2_with (first
         | (go_at_call 193
            have hh:=HBG.out;clear HBG;refine Calls.mono (hh _) ?_;clear hh;rintro e w1 ⟨rfl,rfl⟩)
         | (go_at_call 193
            have hh:=HBD.out;clear HBD;refine Calls.mono (hh _) ?_;clear hh;rintro e w1 ⟨rfl,rfl⟩)
         | (go_at_call 195
            have hh:=HW1.out;clear HW1;refine Calls.mono (hh _) ?_;clear hh;rintro e w3 ⟨rfl,hb3⟩;have HP3:=hid (HP1.out.below hb3);obtain ⟨⟨b0,b1,b2,b3,b4,b5,b6,b7⟩,bf,bl⟩:=pl_cells HP3.out.re;have bz0:=bf 0;have bz1:=bf 1;have bz2:=bf 2;have bz3:=bf 3;have bz4:=bf 4;have bz5:=bf 5;have bz6:=bf 6;have bz7:=bf 7;clear bf;clear hb3)
         | (go_at_call 128
            have hh:=HI1.out;clear HI1;refine Calls.mono (hh _) ?_;clear hh;rintro e w4 ⟨rfl,rfl⟩))
        obtain ⟨W9,hW9,f1,f2,f3⟩:=HP3.out.fin (.slice none 0 0) false [] [] (0,0,[]) false;obtain ⟨⟨r0,r1,r2,r3,r4,r5,r6,r7⟩,_,_⟩:=pl_cells f1
        first | rw [<-hW9] | (simp only [] at hW9;rw [<-hW9])
        exact bodyPost_ret (v:=.tuple #[plV (.slice none 0 0) false [] [] (0,0,[]) false,.bool false]) (by simp [results,Tryz.results150,go_sem,plV,r0,r1,r2,r3,r4,r5,r6,r7]) rfl ⟨_,[],_,_,_,_,_,_,rfl,ownM_nil _ _,f3,Or.inl ⟨rfl,HRR.out⟩⟩
      | true =>
        rw [hi1] at HI1;cases hv:rsv ty with
        | true =>
          have HRR:=hid (hF1 (Or.inr (Or.inl hv)));rw [hv] at HRV;clear hF1 hF2 hF3 hi1 hv htb hrsb hnb hr3b
          go_wp2_with (first
           | (go_at_call 193
              have hh:=HBG.out;clear HBG;refine Calls.mono (hh _) ?_;clear hh;rintro e w1 ⟨rfl,rfl⟩)
           | (go_at_call 193
              have hh:=HBD.out;clear HBD;refine Calls.mono (hh _) ?_;clear hh;rintro e w1 ⟨rfl,rfl⟩)
           | (go_at_call 195
              have hh:=HW1.out;clear HW1;refine Calls.mono (hh _) ?_;clear hh;rintro e w3 ⟨rfl,hb3⟩;have HP3:=hid (HP1.out.below hb3);clear hb3)
           | (go_at_call 128
              have hh:=HI1.out;clear HI1;refine Calls.mono (hh _) ?_;clear hh;rintro e w4 ⟨rfl,rfl⟩)
           | (go_at_call 196
              have hh:=HRV.out;clear HRV;refine Calls.mono (hh _) ?_;clear hh;rintro e w5 ⟨rfl,hb5⟩;have HP5:=hid (HP3.out.below hb5);obtain ⟨⟨b0,b1,b2,b3,b4,b5,b6,b7⟩,bf,bl⟩:=pl_cells HP5.out.re;have bz0:=bf 0;have bz1:=bf 1;have bz2:=bf 2;have bz3:=bf 3;have bz4:=bf 4;have bz5:=bf 5;have bz6:=bf 6;have bz7:=bf 7;clear bf;clear hb5))
          obtain ⟨W9,hW9,f1,f2,f3⟩:=HP5.out.fin (.slice none 0 0) false [] [] (0,0,[]) false;obtain ⟨⟨r0,r1,r2,r3,r4,r5,r6,r7⟩,_,_⟩:=pl_cells f1
          first | rw [<-hW9] | (simp only [] at hW9;rw [<-hW9])
          exact bodyPost_ret (v:=.tuple #[plV (.slice none 0 0) false [] [] (0,0,[]) false,.bool false]) (by simp [results,Tryz.results150,go_sem,plV,r0,r1,r2,r3,r4,r5,r6,r7]) rfl ⟨_,[],_,_,_,_,_,_,rfl,ownM_nil _ _,f3,Or.inl ⟨rfl,HRR.out⟩⟩
        | false =>
          rw [hv] at HRV
          by_cases hrn:rs=[]
          . have HRR:=hid (hF1 (Or.inr (Or.inr (by subst hrn;decide))))
            have eL:rsb.toList.isEmpty=true:=by subst hrsb;exact ls_nil hrn
            clear hF1 hF2 hF3 hi1 hv hrn htb hrsb hnb hr3b hrz
            go_wp2_with (first
             | (go_at_call 193
                have hh:=HBG.out;clear HBG;refine Calls.mono (hh _) ?_;clear hh;rintro e w1 ⟨rfl,rfl⟩)
             | (go_at_call 193
                have hh:=HBD.out;clear HBD;refine Calls.mono (hh _) ?_;clear hh;rintro e w1 ⟨rfl,rfl⟩)
             | (go_at_call 195
                have hh:=HW1.out;clear HW1;refine Calls.mono (hh _) ?_;clear hh;rintro e w3 ⟨rfl,hb3⟩;have HP3:=hid (HP1.out.below hb3);clear hb3)
             | (go_at_call 128
                have hh:=HI1.out;clear HI1;refine Calls.mono (hh _) ?_;clear hh;rintro e w4 ⟨rfl,rfl⟩)
             | (go_at_call 196
                have hh:=HRV.out;clear HRV;refine Calls.mono (hh _) ?_;clear hh;rintro e w5 ⟨rfl,hb5⟩;have HP5:=hid (HP3.out.below hb5);obtain ⟨⟨b0,b1,b2,b3,b4,b5,b6,b7⟩,bf,bl⟩:=pl_cells HP5.out.re;have bz0:=bf 0;have bz1:=bf 1;have bz2:=bf 2;have bz3:=bf 3;have bz4:=bf 4;have bz5:=bf 5;have bz6:=bf 6;have bz7:=bf 7;clear bf;clear hb5))
            obtain ⟨W9,hW9,f1,f2,f3⟩:=HP5.out.fin (.slice none 0 0) false [] [] (0,0,[]) false;obtain ⟨⟨r0,r1,r2,r3,r4,r5,r6,r7⟩,_,_⟩:=pl_cells f1
            first | rw [<-hW9] | (simp only [] at hW9;rw [<-hW9])
            exact bodyPost_ret (v:=.tuple #[plV (.slice none 0 0) false [] [] (0,0,[]) false,.bool false]) (by simp [results,Tryz.results150,go_sem,plV,r0,r1,r2,r3,r4,r5,r6,r7]) rfl ⟨_,[],_,_,_,_,_,_,rfl,ownM_nil _ _,f3,Or.inl ⟨rfl,HRR.out⟩⟩
          . obtain ⟨hp0,hat⟩:∃ hp:0 < rsb.size,(rsb[0]'hp)=rs.getD 0 0:=by subst hrsb;exact ls_at hrn
            have eL:rsb.toList.isEmpty=false:=by subst hrsb;exact ls_cons hrn
            clear hrsb;have hpi:(0:Int) < (rsb.size:Int):=by omega
            by_cases h46:(rs.getD 0 0).toNat=46
            . have e46:((((rsb[0]'hp0).toNat:Nat):Int) != 46)=false:=by rw [hat,h46];rfl
              have hp1:(1:Int)<=(rsb.size:Int):=by omega
              have N1:¬ (idB ty=false ∨ rsv ty=true ∨ (rs.getD 0 0).toNat≠46):=fun h=>by
               rcases h with h | h | h
               . rw [hi1] at h;cases h
               . rw [hv] at h;cases h
               . exact h h46
              have hF2:=hF2 N1;have hF3:=hF3 N1;clear hF1 N1 hat h46 hrn hi1 hv hrz;cases hi2:idB nm with
              | false =>
                have HRR:=hid (hF2 (Or.inl hi2));rw [hi2] at HI2;clear hF2 hF3 hi2 htb hnb hr3b
                go_wp2_with (first
                 | (go_at_call 193
                    have hh:=HBG.out;clear HBG;refine Calls.mono (hh _) ?_;clear hh;rintro e w1 ⟨rfl,rfl⟩)
                 | (go_at_call 193
                    have hh:=HBD.out;clear HBD;refine Calls.mono (hh _) ?_;clear hh;rintro e w1 ⟨rfl,rfl⟩)
                 | (go_at_call 195
                    have hh:=HW1.out;clear HW1;refine Calls.mono (hh _) ?_;clear hh;rintro e w3 ⟨rfl,hb3⟩;have HP3:=hid (HP1.out.below hb3);clear hb3)
                 | (go_at_call 128
                    have hh:=HI1.out;clear HI1;refine Calls.mono (hh _) ?_;clear hh;rintro e w4 ⟨rfl,rfl⟩)
                 | (go_at_call 196
                    have hh:=HRV.out;clear HRV;refine Calls.mono (hh _) ?_;clear hh;rintro e w5 ⟨rfl,hb5⟩;have HP5:=hid (HP3.out.below hb5);clear hb5)
                 | (go_at_call 195
                    have hh:=HW2.out;clear HW2;refine Calls.mono (hh _) ?_;clear hh;rintro e w6 ⟨rfl,hb6⟩;have HP6:=hid (HP5.out.below hb6);clear hb6)
                 | (go_at_call 197
                    have hh:=HKY.out;clear HKY;refine Calls.mono (hh _) ?_;clear hh;rintro e w7 ⟨rfl,hb7⟩;have HS7:=hid ((HP6.out.below hb7).sz);have HP8:=hid (HP6.out.below (hb7.trans ((show Below w7.heap.size w7 (w7.alloc (.cells #[.int .i64 kk,.int .i64 kn,.string ⟨kt.toArray⟩] 91)) from (Below.refl _ _).alloc (Nat.le_refl _) _).mono hb7.size)));obtain ⟨⟨b0,b1,b2,b3,b4,b5,b6,b7⟩,bf,bl⟩:=pl_cells HP8.out.re;have bz0:=bf 0;have bz1:=bf 1;have bz2:=bf 2;have bz3:=bf 3;have bz4:=bf 4;have bz5:=bf 5;have bz6:=bf 6;have bz7:=bf 7;clear bf;clear hb7)
                 | (go_at_call 128
                    have hh:=HI2.out;clear HI2;refine Calls.mono (hh _) ?_;clear hh;rintro e w9 ⟨rfl,rfl⟩))
                obtain ⟨W9,hW9,f1,f2,f3⟩:=HP8.out.fin (.slice none 0 0) false [] [] (0,0,[]) false;obtain ⟨⟨r0,r1,r2,r3,r4,r5,r6,r7⟩,_,_⟩:=pl_cells f1
                first | rw [<-hW9] | (simp only [] at hW9;rw [<-hW9])
                exact bodyPost_ret (v:=.tuple #[plV (.slice none 0 0) false [] [] (0,0,[]) false,.bool false]) (by simp [results,Tryz.results150,go_sem,plV,r0,r1,r2,r3,r4,r5,r6,r7]) rfl ⟨_,[],_,_,_,_,_,_,rfl,ownM_nil _ _,f3,Or.inl ⟨rfl,HRR.out⟩⟩
              | true =>
                rw [hi2] at HI2;cases ok with
                | false =>
                  have HRR:=hid (hF2 (Or.inr (Or.inl rfl)));clear hF2 hF3 hi2 htb hnb hr3b
                  go_wp2_with (first
                   | (go_at_call 193
                      have hh:=HBG.out;clear HBG;refine Calls.mono (hh _) ?_;clear hh;rintro e w1 ⟨rfl,rfl⟩)
                   | (go_at_call 193
                      have hh:=HBD.out;clear HBD;refine Calls.mono (hh _) ?_;clear hh;rintro e w1 ⟨rfl,rfl⟩)
                   | (go_at_call 195
                      have hh:=HW1.out;clear HW1;refine Calls.mono (hh _) ?_;clear hh;rintro e w3 ⟨rfl,hb3⟩;have HP3:=hid (HP1.out.below hb3);clear hb3)
                   | (go_at_call 128
                      have hh:=HI1.out;clear HI1;refine Calls.mono (hh _) ?_;clear hh;rintro e w4 ⟨rfl,rfl⟩)
                   | (go_at_call 196
                      have hh:=HRV.out;clear HRV;refine Calls.mono (hh _) ?_;clear hh;rintro e w5 ⟨rfl,hb5⟩;have HP5:=hid (HP3.out.below hb5);clear hb5)
                   | (go_at_call 195
                      have hh:=HW2.out;clear HW2;refine Calls.mono (hh _) ?_;clear hh;rintro e w6 ⟨rfl,hb6⟩;have HP6:=hid (HP5.out.below hb6);clear hb6)
                   | (go_at_call 197
                      have hh:=HKY.out;clear HKY;refine Calls.mono (hh _) ?_;clear hh;rintro e w7 ⟨rfl,hb7⟩;have HS7:=hid ((HP6.out.below hb7).sz);have HP8:=hid (HP6.out.below (hb7.trans ((show Below w7.heap.size w7 (w7.alloc (.cells #[.int .i64 kk,.int .i64 kn,.string ⟨kt.toArray⟩] 91)) from (Below.refl _ _).alloc (Nat.le_refl _) _).mono hb7.size)));obtain ⟨⟨b0,b1,b2,b3,b4,b5,b6,b7⟩,bf,bl⟩:=pl_cells HP8.out.re;have bz0:=bf 0;have bz1:=bf 1;have bz2:=bf 2;have bz3:=bf 3;have bz4:=bf 4;have bz5:=bf 5;have bz6:=bf 6;have bz7:=bf 7;clear bf;clear hb7)
                   | (go_at_call 128
                      have hh:=HI2.out;clear HI2;refine Calls.mono (hh _) ?_;clear hh;rintro e w9 ⟨rfl,rfl⟩))
                  obtain ⟨W9,hW9,f1,f2,f3⟩:=HP8.out.fin (.slice none 0 0) false [] [] (0,0,[]) false;obtain ⟨⟨r0,r1,r2,r3,r4,r5,r6,r7⟩,_,_⟩:=pl_cells f1
                  first | rw [<-hW9] | (simp only [] at hW9;rw [<-hW9])
                  exact bodyPost_ret (v:=.tuple #[plV (.slice none 0 0) false [] [] (0,0,[]) false,.bool false]) (by simp [results,Tryz.results150,go_sem,plV,r0,r1,r2,r3,r4,r5,r6,r7]) rfl ⟨_,[],_,_,_,_,_,_,rfl,ownM_nil _ _,f3,Or.inl ⟨rfl,HRR.out⟩⟩
                | true =>
                  by_cases h3:r3=[]
                  . have HRR:=hid (hF3 (fun h=>by
                     rcases h with h | h | h
                     . rw [hi2] at h;cases h
                     . cases h
                     . exact h h3))
                    have eL3:r3b.toList.isEmpty=true:=by subst hr3b;exact ls_nil h3
                    clear hF2 hF3 hi2 h3 hr3b;subst htb hnb
                    go_wp2_with (first
                     | (go_at_call 193
                        have hh:=HBG.out;clear HBG;refine Calls.mono (hh _) ?_;clear hh;rintro e w1 ⟨rfl,rfl⟩)
                     | (go_at_call 193
                        have hh:=HBD.out;clear HBD;refine Calls.mono (hh _) ?_;clear hh;rintro e w1 ⟨rfl,rfl⟩)
                     | (go_at_call 195
                        have hh:=HW1.out;clear HW1;refine Calls.mono (hh _) ?_;clear hh;rintro e w3 ⟨rfl,hb3⟩;have HP3:=hid (HP1.out.below hb3);clear hb3)
                     | (go_at_call 128
                        have hh:=HI1.out;clear HI1;refine Calls.mono (hh _) ?_;clear hh;rintro e w4 ⟨rfl,rfl⟩)
                     | (go_at_call 196
                        have hh:=HRV.out;clear HRV;refine Calls.mono (hh _) ?_;clear hh;rintro e w5 ⟨rfl,hb5⟩;have HP5:=hid (HP3.out.below hb5);clear hb5)
                     | (go_at_call 195
                        have hh:=HW2.out;clear HW2;refine Calls.mono (hh _) ?_;clear hh;rintro e w6 ⟨rfl,hb6⟩;have HP6:=hid (HP5.out.below hb6);clear hb6)
                     | (go_at_call 197
                        have hh:=HKY.out;clear HKY;refine Calls.mono (hh _) ?_;clear hh;rintro e w7 ⟨rfl,hb7⟩;have HS7:=hid ((HP6.out.below hb7).sz);have HP8:=hid (HP6.out.below (hb7.trans ((show Below w7.heap.size w7 (w7.alloc (.cells #[.int .i64 kk,.int .i64 kn,.string ⟨kt.toArray⟩] 91)) from (Below.refl _ _).alloc (Nat.le_refl _) _).mono hb7.size)));obtain ⟨⟨a0,a1,a2,a3,a4,a5,a6,a7⟩,af,al⟩:=pl_cells HP8.out.ad;have az0:=af 0;have az1:=af 1;have az2:=af 2;have az3:=af 3;have az4:=af 4;have az5:=af 5;have az6:=af 6;have az7:=af 7;clear af;obtain ⟨s0,s1,s2,_,s4⟩:=ko_cells (k:=kk) (n:=kn) (t:=kt) (ko_new w7 (kO kk kn kt));unfold kO at s0 s1 s2;clear hb7)
                     | (go_at_call 128
                        have hh:=HI2.out;clear HI2;refine Calls.mono (hh _) ?_;clear hh;rintro e w9 ⟨rfl,rfl⟩;have HPA:=hid (HP8.out.p2 ty);have HPB:=hid (HPA.out.p3 nm);have HPC:=hid (HPB.out.p4 (kk,kn,kt));have HPF:=hid (HPC.out.p7 true);obtain ⟨⟨_,_,_,m3,_⟩,mf,_⟩:=pl_cells HPA.out.ad;have mz3:=mf 3;clear mf;obtain ⟨⟨_,_,_,_,n4,n5,n6,_⟩,nf,_⟩:=pl_cells HPB.out.ad;have hk0:=ko_new w7 (kO kk kn kt);have hk1:=(Below.heap_setCell (w7.alloc (kO kk kn kt)) ⟨w.heap.size+1,2,none⟩ (.string ⟨ty.toArray⟩) w7.heap.size (fun e=>by simp only at e;have:=HS7.out;omega)).trans hk0;have hk2:=(Below.heap_setCell _ ⟨w.heap.size+1,3,none⟩ (.string ⟨nm.toArray⟩) w7.heap.size (fun e=>by simp only at e;have:=HS7.out;omega)).trans hk1;obtain ⟨k0,k1,k2,_,_⟩:=ko_cells hk2;unfold kO at k0 k1 k2;clear hk0 hk1 hk2 s0 s1 s2;have nz4:=nf 4;have nz5:=nf 5;have nz6:=nf 6;clear nf;obtain ⟨⟨_,_,_,_,_,_,_,o7⟩,of,_⟩:=pl_cells HPC.out.ad;have oz7:=of 7;clear of;obtain ⟨⟨y0,y1,y2,y3,y4,y5,y6,y7⟩,yf,_⟩:=pl_cells HPF.out.ad;clear yf;obtain ⟨⟨z0,z1,z2,z3,z4,z5,z6,z7⟩,zf,_⟩:=pl_cells HPF.out.re;have zz0:=zf 0;have zz1:=zf 1;have zz2:=zf 2;have zz3:=zf 3;have zz4:=zf 4;have zz5:=zf 5;have zz6:=zf 6;have zz7:=zf 7;clear zf))
                    obtain ⟨W9,hW9,f1,f2,f3⟩:=HPF.out.fin (.slice ro xs.length co) false ty nm (kk,kn,kt) true;obtain ⟨⟨r0,r1,r2,r3,r4,r5,r6,r7⟩,_,_⟩:=pl_cells f1
                    first | rw [<-hW9] | (simp only [] at hW9;rw [<-hW9])
                    exact bodyPost_ret (v:=.tuple #[plV (.slice ro xs.length co) false ty nm (kk,kn,kt) true,.bool true]) (by simp [results,Tryz.results150,go_sem,plV,r0,r1,r2,r3,r4,r5,r6,r7]) rfl ⟨_,_,_,_,_,_,_,_,rfl,f2,f3,Or.inr (Or.inr ⟨rfl,rfl,HRR.out⟩)⟩
                  . have HRR:=hid (hF2 (Or.inr (Or.inr h3)))
                    have eL3:r3b.toList.isEmpty=false:=by subst hr3b;exact ls_cons h3
                    clear hF2 hF3 hi2 h3 hr3b htb hnb
                    go_wp2_with (first
                     | (go_at_call 193
                        have hh:=HBG.out;clear HBG;refine Calls.mono (hh _) ?_;clear hh;rintro e w1 ⟨rfl,rfl⟩)
                     | (go_at_call 193
                        have hh:=HBD.out;clear HBD;refine Calls.mono (hh _) ?_;clear hh;rintro e w1 ⟨rfl,rfl⟩)
                     | (go_at_call 195
                        have hh:=HW1.out;clear HW1;refine Calls.mono (hh _) ?_;clear hh;rintro e w3 ⟨rfl,hb3⟩;have HP3:=hid (HP1.out.below hb3);clear hb3)
                     | (go_at_call 128
                        have hh:=HI1.out;clear HI1;refine Calls.mono (hh _) ?_;clear hh;rintro e w4 ⟨rfl,rfl⟩)
                     | (go_at_call 196
                        have hh:=HRV.out;clear HRV;refine Calls.mono (hh _) ?_;clear hh;rintro e w5 ⟨rfl,hb5⟩;have HP5:=hid (HP3.out.below hb5);clear hb5)
                     | (go_at_call 195
                        have hh:=HW2.out;clear HW2;refine Calls.mono (hh _) ?_;clear hh;rintro e w6 ⟨rfl,hb6⟩;have HP6:=hid (HP5.out.below hb6);clear hb6)
                     | (go_at_call 197
                        have hh:=HKY.out;clear HKY;refine Calls.mono (hh _) ?_;clear hh;rintro e w7 ⟨rfl,hb7⟩;have HS7:=hid ((HP6.out.below hb7).sz);have HP8:=hid (HP6.out.below (hb7.trans ((show Below w7.heap.size w7 (w7.alloc (.cells #[.int .i64 kk,.int .i64 kn,.string ⟨kt.toArray⟩] 91)) from (Below.refl _ _).alloc (Nat.le_refl _) _).mono hb7.size)));obtain ⟨⟨b0,b1,b2,b3,b4,b5,b6,b7⟩,bf,bl⟩:=pl_cells HP8.out.re;have bz0:=bf 0;have bz1:=bf 1;have bz2:=bf 2;have bz3:=bf 3;have bz4:=bf 4;have bz5:=bf 5;have bz6:=bf 6;have bz7:=bf 7;clear bf;clear hb7)
                     | (go_at_call 128
                        have hh:=HI2.out;clear HI2;refine Calls.mono (hh _) ?_;clear hh;rintro e w9 ⟨rfl,rfl⟩))
                    obtain ⟨W9,hW9,f1,f2,f3⟩:=HP8.out.fin (.slice none 0 0) false [] [] (0,0,[]) false;obtain ⟨⟨r0,r1,r2,r3,r4,r5,r6,r7⟩,_,_⟩:=pl_cells f1
                    first | rw [<-hW9] | (simp only [] at hW9;rw [<-hW9])
                    exact bodyPost_ret (v:=.tuple #[plV (.slice none 0 0) false [] [] (0,0,[]) false,.bool false]) (by simp [results,Tryz.results150,go_sem,plV,r0,r1,r2,r3,r4,r5,r6,r7]) rfl ⟨_,[],_,_,_,_,_,_,rfl,ownM_nil _ _,f3,Or.inl ⟨rfl,HRR.out⟩⟩
            . have HRR:=hid (hF1 (Or.inr (Or.inr h46)))
              have e46:((((rsb[0]'hp0).toNat:Nat):Int) != 46)=true:=by rw [hat];exact bne_iff_ne.2 (by omega)
              clear hF1 hF2 hF3 hi1 hv hrn htb hnb hr3b hat h46 hrz
              go_wp2_with (first
               | (go_at_call 193
                  have hh:=HBG.out;clear HBG;refine Calls.mono (hh _) ?_;clear hh;rintro e w1 ⟨rfl,rfl⟩)
               | (go_at_call 193
                  have hh:=HBD.out;clear HBD;refine Calls.mono (hh _) ?_;clear hh;rintro e w1 ⟨rfl,rfl⟩)
               | (go_at_call 195
                  have hh:=HW1.out;clear HW1;refine Calls.mono (hh _) ?_;clear hh;rintro e w3 ⟨rfl,hb3⟩;have HP3:=hid (HP1.out.below hb3);clear hb3)
               | (go_at_call 128
                  have hh:=HI1.out;clear HI1;refine Calls.mono (hh _) ?_;clear hh;rintro e w4 ⟨rfl,rfl⟩)
               | (go_at_call 196
                  have hh:=HRV.out;clear HRV;refine Calls.mono (hh _) ?_;clear hh;rintro e w5 ⟨rfl,hb5⟩;have HP5:=hid (HP3.out.below hb5);obtain ⟨⟨b0,b1,b2,b3,b4,b5,b6,b7⟩,bf,bl⟩:=pl_cells HP5.out.re;have bz0:=bf 0;have bz1:=bf 1;have bz2:=bf 2;have bz3:=bf 3;have bz4:=bf 4;have bz5:=bf 5;have bz6:=bf 6;have bz7:=bf 7;clear bf;clear hb5))
              obtain ⟨W9,hW9,f1,f2,f3⟩:=HP5.out.fin (.slice none 0 0) false [] [] (0,0,[]) false;obtain ⟨⟨r0,r1,r2,r3,r4,r5,r6,r7⟩,_,_⟩:=pl_cells f1
              first | rw [<-hW9] | (simp only [] at hW9;rw [<-hW9])
              exact bodyPost_ret (v:=.tuple #[plV (.slice none 0 0) false [] [] (0,0,[]) false,.bool false]) (by simp [results,Tryz.results150,go_sem,plV,r0,r1,r2,r3,r4,r5,r6,r7]) rfl ⟨_,[],_,_,_,_,_,_,rfl,ownM_nil _ _,f3,Or.inl ⟨rfl,HRR.out⟩⟩
    | true =>
      rw [hd] at HBD;have h5:5<=b.size:=by have h:=Lib.hasPrefix_le hd;rw [hlen] at h;exact h
      have h50:(5:Int)<=(b.size:Int):=by omega
      have HP1:=hid (HP.out.p1 true);obtain ⟨⟨_,d1,_⟩,df,dl⟩:=pl_cells HP.out.ad;have dz1:=df 1;clear df;have hbl:(b.extract 5 b.size).data.toList=Lib.trimPrefix l DATP:=by rw [hx5,trim_yes hd];rfl
      have hbs:(b.extract 5 b.size).size<=1200001:=by rw [ext_size b 5 h5];omega
      have HW1:=hid (fun W=>rword_any (b.extract 5 b.size) W (by omega));unfold WdR at HW1;have hw:=wd_len (b.extract 5 b.size).data.toList;rw [size_list] at hw;rw [hbl] at HW1 hw;obtain ⟨ty,hty⟩:∃ ty,wdL (Lib.trimPrefix l DATP)=ty:=⟨_,rfl⟩;obtain ⟨rs,hrs⟩:∃ rs,wdD (Lib.trimPrefix l DATP)=rs:=⟨_,rfl⟩;obtain ⟨hF1,hF2,hF3⟩:=tl_facts (mds_tl HM.out hm) hty hrs;rw [hd] at hF3;rw [hty,hrs] at HW1 hw;obtain ⟨hw1,hw2⟩:=hw;clear hty hrs hbl;have HI1:Hid (∀ W:World,Calls Tryz.prog 128 #[.string ⟨ty.toArray⟩] W fun e w'=>e=.returned (.bool (idB ty))/\W=w'):=hid (fun W=>rident_any ⟨ty.toArray⟩ W (by rw [ls_size];omega));have HRV:Hid (∀ W:World,Calls Tryz.prog 196 #[.string ⟨ty.toArray⟩] W fun e w'=>e=.returned (.bool (rsv ty))/\Below W.heap.size W w'):=hid (fun W=>rreserved_any ⟨ty.toArray⟩ W);obtain ⟨tb,htb⟩:∃ tb:ByteArray,tb=⟨ty.toArray⟩:=⟨_,rfl⟩;obtain ⟨rsb,hrsb⟩:∃ tb:ByteArray,tb=⟨rs.toArray⟩:=⟨_,rfl⟩;rw [<-htb] at HW1 HI1 HRV;rw [<-hrsb] at HW1;have hex:rsb.extract 1 rsb.size=⟨rs.tail.toArray⟩:=by rw [hrsb,ls_ext,List.drop_one]
      have hrz:rsb.size=rs.length:=by rw [hrsb,ls_size]
      have hrt:rs.tail.length=rs.length - 1:=List.length_tail;have hw3:=wd_len rs.tail
      have HW2:Hid (∀ W:World,Calls Tryz.prog 195 #[.string (rsb.extract 1 rsb.size)] W fun e w'=>e=.returned (.tuple #[.string ⟨(wdL rs.tail).toArray⟩,.string ⟨(wdD rs.tail).toArray⟩])/\Below W.heap.size W w'):=by
       rw [hex];exact hid (fun W=>rword_any ⟨rs.tail.toArray⟩ W (by rw [ls_size];omega))
      obtain ⟨nm,hnm⟩:∃ ty,wdL rs.tail=ty:=⟨_,rfl⟩;obtain ⟨kd,hkd⟩:∃ rs',wdD rs.tail=rs':=⟨_,rfl⟩;rw [hnm,hkd] at HW2 hF2 hF3 hw3;obtain ⟨hw4,hw5⟩:=hw3;have HI2:Hid (∀ W:World,Calls Tryz.prog 128 #[.string ⟨nm.toArray⟩] W fun e w'=>e=.returned (.bool (idB nm))/\W=w'):=hid (fun W=>rident_any ⟨nm.toArray⟩ W (by rw [ls_size];omega));have HKY:Hid (∀ W:World,Calls Tryz.prog 197 #[.string ⟨kd.toArray⟩] W fun e w'=>e=KyR (keyR kd)/\Below W.heap.size W w'):=hid (fun W=>rkey_any ⟨kd.toArray⟩ W (by rw [ls_size];omega));generalize keyR kd=X at *;obtain ⟨⟨kk,kn,kt⟩,r3,ok⟩:=X;unfold KyR kV at HKY;simp only at HKY hF2 hF3;obtain ⟨nb,hnb⟩:∃ tb:ByteArray,tb=⟨nm.toArray⟩:=⟨_,rfl⟩;obtain ⟨kb,hkb⟩:∃ tb:ByteArray,tb=⟨kd.toArray⟩:=⟨_,rfl⟩;obtain ⟨r3b,hr3b⟩:∃ tb:ByteArray,tb=⟨r3.toArray⟩:=⟨_,rfl⟩;rw [<-hnb] at HW2 HI2;rw [<-hkb] at HW2 HKY;rw [<-hr3b] at HKY;clear hw1 hw2 hw4 hw5 hbs hex hnm hkd hrt hkb HM hsz;clear hx5 hlen HBL hd hls hxl hgg h5;cases hi1:idB ty with
      | false =>
        have HRR:=hid (hF1 (Or.inl hi1));rw [hi1] at HI1;clear hF1 hF2 hF3 hi1 htb hrsb hnb hr3b
        go_wp2_with (first
         | (go_at_call 193
            have hh:=HBG.out;clear HBG;refine Calls.mono (hh _) ?_;clear hh;rintro e w1 ⟨rfl,rfl⟩)
         | (go_at_call 193
            have hh:=HBD.out;clear HBD;refine Calls.mono (hh _) ?_;clear hh;rintro e w1 ⟨rfl,rfl⟩)
         | (go_at_call 195
            have hh:=HW1.out;clear HW1;refine Calls.mono (hh _) ?_;clear hh;rintro e w3 ⟨rfl,hb3⟩;have HP3:=hid (HP1.out.below hb3);obtain ⟨⟨b0,b1,b2,b3,b4,b5,b6,b7⟩,bf,bl⟩:=pl_cells HP3.out.re;have bz0:=bf 0;have bz1:=bf 1;have bz2:=bf 2;have bz3:=bf 3;have bz4:=bf 4;have bz5:=bf 5;have bz6:=bf 6;have bz7:=bf 7;clear bf;clear hb3)
         | (go_at_call 128
            have hh:=HI1.out;clear HI1;refine Calls.mono (hh _) ?_;clear hh;rintro e w4 ⟨rfl,rfl⟩))
        obtain ⟨W9,hW9,f1,f2,f3⟩:=HP3.out.fin (.slice none 0 0) false [] [] (0,0,[]) false;obtain ⟨⟨r0,r1,r2,r3,r4,r5,r6,r7⟩,_,_⟩:=pl_cells f1
        first | rw [<-hW9] | (simp only [] at hW9;rw [<-hW9])
        exact bodyPost_ret (v:=.tuple #[plV (.slice none 0 0) false [] [] (0,0,[]) false,.bool false]) (by simp [results,Tryz.results150,go_sem,plV,r0,r1,r2,r3,r4,r5,r6,r7]) rfl ⟨_,[],_,_,_,_,_,_,rfl,ownM_nil _ _,f3,Or.inl ⟨rfl,HRR.out⟩⟩
      | true =>
        rw [hi1] at HI1;cases hv:rsv ty with
        | true =>
          have HRR:=hid (hF1 (Or.inr (Or.inl hv)));rw [hv] at HRV;clear hF1 hF2 hF3 hi1 hv htb hrsb hnb hr3b
          go_wp2_with (first
           | (go_at_call 193
              have hh:=HBG.out;clear HBG;refine Calls.mono (hh _) ?_;clear hh;rintro e w1 ⟨rfl,rfl⟩)
           | (go_at_call 193
              have hh:=HBD.out;clear HBD;refine Calls.mono (hh _) ?_;clear hh;rintro e w1 ⟨rfl,rfl⟩)
           | (go_at_call 195
              have hh:=HW1.out;clear HW1;refine Calls.mono (hh _) ?_;clear hh;rintro e w3 ⟨rfl,hb3⟩;have HP3:=hid (HP1.out.below hb3);clear hb3)
           | (go_at_call 128
              have hh:=HI1.out;clear HI1;refine Calls.mono (hh _) ?_;clear hh;rintro e w4 ⟨rfl,rfl⟩)
           | (go_at_call 196
              have hh:=HRV.out;clear HRV;refine Calls.mono (hh _) ?_;clear hh;rintro e w5 ⟨rfl,hb5⟩;have HP5:=hid (HP3.out.below hb5);obtain ⟨⟨b0,b1,b2,b3,b4,b5,b6,b7⟩,bf,bl⟩:=pl_cells HP5.out.re;have bz0:=bf 0;have bz1:=bf 1;have bz2:=bf 2;have bz3:=bf 3;have bz4:=bf 4;have bz5:=bf 5;have bz6:=bf 6;have bz7:=bf 7;clear bf;clear hb5))
          obtain ⟨W9,hW9,f1,f2,f3⟩:=HP5.out.fin (.slice none 0 0) false [] [] (0,0,[]) false;obtain ⟨⟨r0,r1,r2,r3,r4,r5,r6,r7⟩,_,_⟩:=pl_cells f1
          first | rw [<-hW9] | (simp only [] at hW9;rw [<-hW9])
          exact bodyPost_ret (v:=.tuple #[plV (.slice none 0 0) false [] [] (0,0,[]) false,.bool false]) (by simp [results,Tryz.results150,go_sem,plV,r0,r1,r2,r3,r4,r5,r6,r7]) rfl ⟨_,[],_,_,_,_,_,_,rfl,ownM_nil _ _,f3,Or.inl ⟨rfl,HRR.out⟩⟩
        | false =>
          rw [hv] at HRV
          by_cases hrn:rs=[]
          . have HRR:=hid (hF1 (Or.inr (Or.inr (by subst hrn;decide))))
            have eL:rsb.toList.isEmpty=true:=by subst hrsb;exact ls_nil hrn
            clear hF1 hF2 hF3 hi1 hv hrn htb hrsb hnb hr3b hrz
            go_wp2_with (first
             | (go_at_call 193
                have hh:=HBG.out;clear HBG;refine Calls.mono (hh _) ?_;clear hh;rintro e w1 ⟨rfl,rfl⟩)
             | (go_at_call 193
                have hh:=HBD.out;clear HBD;refine Calls.mono (hh _) ?_;clear hh;rintro e w1 ⟨rfl,rfl⟩)
             | (go_at_call 195
                have hh:=HW1.out;clear HW1;refine Calls.mono (hh _) ?_;clear hh;rintro e w3 ⟨rfl,hb3⟩;have HP3:=hid (HP1.out.below hb3);clear hb3)
             | (go_at_call 128
                have hh:=HI1.out;clear HI1;refine Calls.mono (hh _) ?_;clear hh;rintro e w4 ⟨rfl,rfl⟩)
             | (go_at_call 196
                have hh:=HRV.out;clear HRV;refine Calls.mono (hh _) ?_;clear hh;rintro e w5 ⟨rfl,hb5⟩;have HP5:=hid (HP3.out.below hb5);obtain ⟨⟨b0,b1,b2,b3,b4,b5,b6,b7⟩,bf,bl⟩:=pl_cells HP5.out.re;have bz0:=bf 0;have bz1:=bf 1;have bz2:=bf 2;have bz3:=bf 3;have bz4:=bf 4;have bz5:=bf 5;have bz6:=bf 6;have bz7:=bf 7;clear bf;clear hb5))
            obtain ⟨W9,hW9,f1,f2,f3⟩:=HP5.out.fin (.slice none 0 0) false [] [] (0,0,[]) false;obtain ⟨⟨r0,r1,r2,r3,r4,r5,r6,r7⟩,_,_⟩:=pl_cells f1
            first | rw [<-hW9] | (simp only [] at hW9;rw [<-hW9])
            exact bodyPost_ret (v:=.tuple #[plV (.slice none 0 0) false [] [] (0,0,[]) false,.bool false]) (by simp [results,Tryz.results150,go_sem,plV,r0,r1,r2,r3,r4,r5,r6,r7]) rfl ⟨_,[],_,_,_,_,_,_,rfl,ownM_nil _ _,f3,Or.inl ⟨rfl,HRR.out⟩⟩
          . obtain ⟨hp0,hat⟩:∃ hp:0 < rsb.size,(rsb[0]'hp)=rs.getD 0 0:=by subst hrsb;exact ls_at hrn
            have eL:rsb.toList.isEmpty=false:=by subst hrsb;exact ls_cons hrn
            clear hrsb;have hpi:(0:Int) < (rsb.size:Int):=by omega
            by_cases h46:(rs.getD 0 0).toNat=46
            . have e46:((((rsb[0]'hp0).toNat:Nat):Int) != 46)=false:=by rw [hat,h46];rfl
              have hp1:(1:Int)<=(rsb.size:Int):=by omega
              have N1:¬ (idB ty=false ∨ rsv ty=true ∨ (rs.getD 0 0).toNat≠46):=fun h=>by
               rcases h with h | h | h
               . rw [hi1] at h;cases h
               . rw [hv] at h;cases h
               . exact h h46
              have hF2:=hF2 N1;have hF3:=hF3 N1;clear hF1 N1 hat h46 hrn hi1 hv hrz;cases hi2:idB nm with
              | false =>
                have HRR:=hid (hF2 (Or.inl hi2));rw [hi2] at HI2;clear hF2 hF3 hi2 htb hnb hr3b
                go_wp2_with (first
                 | (go_at_call 193
                    have hh:=HBG.out;clear HBG;refine Calls.mono (hh _) ?_;clear hh;rintro e w1 ⟨rfl,rfl⟩)
                 | (go_at_call 193
                    have hh:=HBD.out;clear HBD;refine Calls.mono (hh _) ?_;clear hh;rintro e w1 ⟨rfl,rfl⟩)
                 | (go_at_call 195
                    have hh:=HW1.out;clear HW1;refine Calls.mono (hh _) ?_;clear hh;rintro e w3 ⟨rfl,hb3⟩;have HP3:=hid (HP1.out.below hb3);clear hb3)
                 | (go_at_call 128
                    have hh:=HI1.out;clear HI1;refine Calls.mono (hh _) ?_;clear hh;rintro e w4 ⟨rfl,rfl⟩)
                 | (go_at_call 196
                    have hh:=HRV.out;clear HRV;refine Calls.mono (hh _) ?_;clear hh;rintro e w5 ⟨rfl,hb5⟩;have HP5:=hid (HP3.out.below hb5);clear hb5)
                 | (go_at_call 195
                    have hh:=HW2.out;clear HW2;refine Calls.mono (hh _) ?_;clear hh;rintro e w6 ⟨rfl,hb6⟩;have HP6:=hid (HP5.out.below hb6);clear hb6)
                 | (go_at_call 197
                    have hh:=HKY.out;clear HKY;refine Calls.mono (hh _) ?_;clear hh;rintro e w7 ⟨rfl,hb7⟩;have HS7:=hid ((HP6.out.below hb7).sz);have HP8:=hid (HP6.out.below (hb7.trans ((show Below w7.heap.size w7 (w7.alloc (.cells #[.int .i64 kk,.int .i64 kn,.string ⟨kt.toArray⟩] 91)) from (Below.refl _ _).alloc (Nat.le_refl _) _).mono hb7.size)));obtain ⟨⟨b0,b1,b2,b3,b4,b5,b6,b7⟩,bf,bl⟩:=pl_cells HP8.out.re;have bz0:=bf 0;have bz1:=bf 1;have bz2:=bf 2;have bz3:=bf 3;have bz4:=bf 4;have bz5:=bf 5;have bz6:=bf 6;have bz7:=bf 7;clear bf;clear hb7)
                 | (go_at_call 128
                    have hh:=HI2.out;clear HI2;refine Calls.mono (hh _) ?_;clear hh;rintro e w9 ⟨rfl,rfl⟩))
                obtain ⟨W9,hW9,f1,f2,f3⟩:=HP8.out.fin (.slice none 0 0) false [] [] (0,0,[]) false;obtain ⟨⟨r0,r1,r2,r3,r4,r5,r6,r7⟩,_,_⟩:=pl_cells f1
                first | rw [<-hW9] | (simp only [] at hW9;rw [<-hW9])
                exact bodyPost_ret (v:=.tuple #[plV (.slice none 0 0) false [] [] (0,0,[]) false,.bool false]) (by simp [results,Tryz.results150,go_sem,plV,r0,r1,r2,r3,r4,r5,r6,r7]) rfl ⟨_,[],_,_,_,_,_,_,rfl,ownM_nil _ _,f3,Or.inl ⟨rfl,HRR.out⟩⟩
              | true =>
                rw [hi2] at HI2;cases ok with
                | false =>
                  have HRR:=hid (hF2 (Or.inr (Or.inl rfl)));clear hF2 hF3 hi2 htb hnb hr3b
                  go_wp2_with (first
                   | (go_at_call 193
                      have hh:=HBG.out;clear HBG;refine Calls.mono (hh _) ?_;clear hh;rintro e w1 ⟨rfl,rfl⟩)
                   | (go_at_call 193
                      have hh:=HBD.out;clear HBD;refine Calls.mono (hh _) ?_;clear hh;rintro e w1 ⟨rfl,rfl⟩)
                   | (go_at_call 195
                      have hh:=HW1.out;clear HW1;refine Calls.mono (hh _) ?_;clear hh;rintro e w3 ⟨rfl,hb3⟩;have HP3:=hid (HP1.out.below hb3);clear hb3)
                   | (go_at_call 128
                      have hh:=HI1.out;clear HI1;refine Calls.mono (hh _) ?_;clear hh;rintro e w4 ⟨rfl,rfl⟩)
                   | (go_at_call 196
                      have hh:=HRV.out;clear HRV;refine Calls.mono (hh _) ?_;clear hh;rintro e w5 ⟨rfl,hb5⟩;have HP5:=hid (HP3.out.below hb5);clear hb5)
                   | (go_at_call 195
                      have hh:=HW2.out;clear HW2;refine Calls.mono (hh _) ?_;clear hh;rintro e w6 ⟨rfl,hb6⟩;have HP6:=hid (HP5.out.below hb6);clear hb6)
                   | (go_at_call 197
                      have hh:=HKY.out;clear HKY;refine Calls.mono (hh _) ?_;clear hh;rintro e w7 ⟨rfl,hb7⟩;have HS7:=hid ((HP6.out.below hb7).sz);have HP8:=hid (HP6.out.below (hb7.trans ((show Below w7.heap.size w7 (w7.alloc (.cells #[.int .i64 kk,.int .i64 kn,.string ⟨kt.toArray⟩] 91)) from (Below.refl _ _).alloc (Nat.le_refl _) _).mono hb7.size)));obtain ⟨⟨b0,b1,b2,b3,b4,b5,b6,b7⟩,bf,bl⟩:=pl_cells HP8.out.re;have bz0:=bf 0;have bz1:=bf 1;have bz2:=bf 2;have bz3:=bf 3;have bz4:=bf 4;have bz5:=bf 5;have bz6:=bf 6;have bz7:=bf 7;clear bf;clear hb7)
                   | (go_at_call 128
                      have hh:=HI2.out;clear HI2;refine Calls.mono (hh _) ?_;clear hh;rintro e w9 ⟨rfl,rfl⟩))
                  obtain ⟨W9,hW9,f1,f2,f3⟩:=HP8.out.fin (.slice none 0 0) false [] [] (0,0,[]) false;obtain ⟨⟨r0,r1,r2,r3,r4,r5,r6,r7⟩,_,_⟩:=pl_cells f1
                  first | rw [<-hW9] | (simp only [] at hW9;rw [<-hW9])
                  exact bodyPost_ret (v:=.tuple #[plV (.slice none 0 0) false [] [] (0,0,[]) false,.bool false]) (by simp [results,Tryz.results150,go_sem,plV,r0,r1,r2,r3,r4,r5,r6,r7]) rfl ⟨_,[],_,_,_,_,_,_,rfl,ownM_nil _ _,f3,Or.inl ⟨rfl,HRR.out⟩⟩
                | true =>
                  by_cases h3:r3=[]
                  . have HRR:=hid (hF3 (fun h=>by
                     rcases h with h | h | h
                     . rw [hi2] at h;cases h
                     . cases h
                     . exact h h3))
                    have eL3:r3b.toList.isEmpty=true:=by subst hr3b;exact ls_nil h3
                    clear hF2 hF3 hi2 h3 hr3b;subst htb hnb
                    go_wp2_with (first
                     | (go_at_call 193
                        have hh:=HBG.out;clear HBG;refine Calls.mono (hh _) ?_;clear hh;rintro e w1 ⟨rfl,rfl⟩)
                     | (go_at_call 193
                        have hh:=HBD.out;clear HBD;refine Calls.mono (hh _) ?_;clear hh;rintro e w1 ⟨rfl,rfl⟩)
                     | (go_at_call 195
                        have hh:=HW1.out;clear HW1;refine Calls.mono (hh _) ?_;clear hh;rintro e w3 ⟨rfl,hb3⟩;have HP3:=hid (HP1.out.below hb3);clear hb3)
                     | (go_at_call 128
                        have hh:=HI1.out;clear HI1;refine Calls.mono (hh _) ?_;clear hh;rintro e w4 ⟨rfl,rfl⟩)
                     | (go_at_call 196
                        have hh:=HRV.out;clear HRV;refine Calls.mono (hh _) ?_;clear hh;rintro e w5 ⟨rfl,hb5⟩;have HP5:=hid (HP3.out.below hb5);clear hb5)
                     | (go_at_call 195
                        have hh:=HW2.out;clear HW2;refine Calls.mono (hh _) ?_;clear hh;rintro e w6 ⟨rfl,hb6⟩;have HP6:=hid (HP5.out.below hb6);clear hb6)
                     | (go_at_call 197
                        have hh:=HKY.out;clear HKY;refine Calls.mono (hh _) ?_;clear hh;rintro e w7 ⟨rfl,hb7⟩;have HS7:=hid ((HP6.out.below hb7).sz);have HP8:=hid (HP6.out.below (hb7.trans ((show Below w7.heap.size w7 (w7.alloc (.cells #[.int .i64 kk,.int .i64 kn,.string ⟨kt.toArray⟩] 91)) from (Below.refl _ _).alloc (Nat.le_refl _) _).mono hb7.size)));obtain ⟨⟨a0,a1,a2,a3,a4,a5,a6,a7⟩,af,al⟩:=pl_cells HP8.out.ad;have az0:=af 0;have az1:=af 1;have az2:=af 2;have az3:=af 3;have az4:=af 4;have az5:=af 5;have az6:=af 6;have az7:=af 7;clear af;obtain ⟨s0,s1,s2,_,s4⟩:=ko_cells (k:=kk) (n:=kn) (t:=kt) (ko_new w7 (kO kk kn kt));unfold kO at s0 s1 s2;clear hb7)
                     | (go_at_call 128
                        have hh:=HI2.out;clear HI2;refine Calls.mono (hh _) ?_;clear hh;rintro e w9 ⟨rfl,rfl⟩;have HPA:=hid (HP8.out.p2 ty);have HPB:=hid (HPA.out.p3 nm);have HPC:=hid (HPB.out.p4 (kk,kn,kt));have HPF:=hid (HPC.out.p7 true);obtain ⟨⟨_,_,_,m3,_⟩,mf,_⟩:=pl_cells HPA.out.ad;have mz3:=mf 3;clear mf;obtain ⟨⟨_,_,_,_,n4,n5,n6,_⟩,nf,_⟩:=pl_cells HPB.out.ad;have hk0:=ko_new w7 (kO kk kn kt);have hk1:=(Below.heap_setCell (w7.alloc (kO kk kn kt)) ⟨w.heap.size+1,2,none⟩ (.string ⟨ty.toArray⟩) w7.heap.size (fun e=>by simp only at e;have:=HS7.out;omega)).trans hk0;have hk2:=(Below.heap_setCell _ ⟨w.heap.size+1,3,none⟩ (.string ⟨nm.toArray⟩) w7.heap.size (fun e=>by simp only at e;have:=HS7.out;omega)).trans hk1;obtain ⟨k0,k1,k2,_,_⟩:=ko_cells hk2;unfold kO at k0 k1 k2;clear hk0 hk1 hk2 s0 s1 s2;have nz4:=nf 4;have nz5:=nf 5;have nz6:=nf 6;clear nf;obtain ⟨⟨_,_,_,_,_,_,_,o7⟩,of,_⟩:=pl_cells HPC.out.ad;have oz7:=of 7;clear of;obtain ⟨⟨y0,y1,y2,y3,y4,y5,y6,y7⟩,yf,_⟩:=pl_cells HPF.out.ad;clear yf;obtain ⟨⟨z0,z1,z2,z3,z4,z5,z6,z7⟩,zf,_⟩:=pl_cells HPF.out.re;have zz0:=zf 0;have zz1:=zf 1;have zz2:=zf 2;have zz3:=zf 3;have zz4:=zf 4;have zz5:=zf 5;have zz6:=zf 6;have zz7:=zf 7;clear zf))
                    obtain ⟨W9,hW9,f1,f2,f3⟩:=HPF.out.fin (.slice ro xs.length co) true ty nm (kk,kn,kt) true;obtain ⟨⟨r0,r1,r2,r3,r4,r5,r6,r7⟩,_,_⟩:=pl_cells f1
                    first | rw [<-hW9] | (simp only [] at hW9;rw [<-hW9])
                    exact bodyPost_ret (v:=.tuple #[plV (.slice ro xs.length co) true ty nm (kk,kn,kt) true,.bool true]) (by simp [results,Tryz.results150,go_sem,plV,r0,r1,r2,r3,r4,r5,r6,r7]) rfl ⟨_,_,_,_,_,_,_,_,rfl,f2,f3,Or.inr (Or.inr ⟨rfl,rfl,HRR.out⟩)⟩
                  . have HRR:=hid (hF2 (Or.inr (Or.inr h3)))
                    have eL3:r3b.toList.isEmpty=false:=by subst hr3b;exact ls_cons h3
                    clear hF2 hF3 hi2 h3 hr3b htb hnb
                    go_wp2_with (first
                     | (go_at_call 193
                        have hh:=HBG.out;clear HBG;refine Calls.mono (hh _) ?_;clear hh;rintro e w1 ⟨rfl,rfl⟩)
                     | (go_at_call 193
                        have hh:=HBD.out;clear HBD;refine Calls.mono (hh _) ?_;clear hh;rintro e w1 ⟨rfl,rfl⟩)
                     | (go_at_call 195
                        have hh:=HW1.out;clear HW1;refine Calls.mono (hh _) ?_;clear hh;rintro e w3 ⟨rfl,hb3⟩;have HP3:=hid (HP1.out.below hb3);clear hb3)
                     | (go_at_call 128
                        have hh:=HI1.out;clear HI1;refine Calls.mono (hh _) ?_;clear hh;rintro e w4 ⟨rfl,rfl⟩)
                     | (go_at_call 196
                        have hh:=HRV.out;clear HRV;refine Calls.mono (hh _) ?_;clear hh;rintro e w5 ⟨rfl,hb5⟩;have HP5:=hid (HP3.out.below hb5);clear hb5)
                     | (go_at_call 195
                        have hh:=HW2.out;clear HW2;refine Calls.mono (hh _) ?_;clear hh;rintro e w6 ⟨rfl,hb6⟩;have HP6:=hid (HP5.out.below hb6);clear hb6)
                     | (go_at_call 197
                        have hh:=HKY.out;clear HKY;refine Calls.mono (hh _) ?_;clear hh;rintro e w7 ⟨rfl,hb7⟩;have HS7:=hid ((HP6.out.below hb7).sz);have HP8:=hid (HP6.out.below (hb7.trans ((show Below w7.heap.size w7 (w7.alloc (.cells #[.int .i64 kk,.int .i64 kn,.string ⟨kt.toArray⟩] 91)) from (Below.refl _ _).alloc (Nat.le_refl _) _).mono hb7.size)));obtain ⟨⟨b0,b1,b2,b3,b4,b5,b6,b7⟩,bf,bl⟩:=pl_cells HP8.out.re;have bz0:=bf 0;have bz1:=bf 1;have bz2:=bf 2;have bz3:=bf 3;have bz4:=bf 4;have bz5:=bf 5;have bz6:=bf 6;have bz7:=bf 7;clear bf;clear hb7)
                     | (go_at_call 128
                        have hh:=HI2.out;clear HI2;refine Calls.mono (hh _) ?_;clear hh;rintro e w9 ⟨rfl,rfl⟩))
                    obtain ⟨W9,hW9,f1,f2,f3⟩:=HP8.out.fin (.slice none 0 0) false [] [] (0,0,[]) false;obtain ⟨⟨r0,r1,r2,r3,r4,r5,r6,r7⟩,_,_⟩:=pl_cells f1
                    first | rw [<-hW9] | (simp only [] at hW9;rw [<-hW9])
                    exact bodyPost_ret (v:=.tuple #[plV (.slice none 0 0) false [] [] (0,0,[]) false,.bool false]) (by simp [results,Tryz.results150,go_sem,plV,r0,r1,r2,r3,r4,r5,r6,r7]) rfl ⟨_,[],_,_,_,_,_,_,rfl,ownM_nil _ _,f3,Or.inl ⟨rfl,HRR.out⟩⟩
            . have HRR:=hid (hF1 (Or.inr (Or.inr h46)))
              have e46:((((rsb[0]'hp0).toNat:Nat):Int) != 46)=true:=by rw [hat];exact bne_iff_ne.2 (by omega)
              clear hF1 hF2 hF3 hi1 hv hrn htb hnb hr3b hat h46 hrz
              go_wp2_with (first
               | (go_at_call 193
                  have hh:=HBG.out;clear HBG;refine Calls.mono (hh _) ?_;clear hh;rintro e w1 ⟨rfl,rfl⟩)
               | (go_at_call 193
                  have hh:=HBD.out;clear HBD;refine Calls.mono (hh _) ?_;clear hh;rintro e w1 ⟨rfl,rfl⟩)
               | (go_at_call 195
                  have hh:=HW1.out;clear HW1;refine Calls.mono (hh _) ?_;clear hh;rintro e w3 ⟨rfl,hb3⟩;have HP3:=hid (HP1.out.below hb3);clear hb3)
               | (go_at_call 128
                  have hh:=HI1.out;clear HI1;refine Calls.mono (hh _) ?_;clear hh;rintro e w4 ⟨rfl,rfl⟩)
               | (go_at_call 196
                  have hh:=HRV.out;clear HRV;refine Calls.mono (hh _) ?_;clear hh;rintro e w5 ⟨rfl,hb5⟩;have HP5:=hid (HP3.out.below hb5);obtain ⟨⟨b0,b1,b2,b3,b4,b5,b6,b7⟩,bf,bl⟩:=pl_cells HP5.out.re;have bz0:=bf 0;have bz1:=bf 1;have bz2:=bf 2;have bz3:=bf 3;have bz4:=bf 4;have bz5:=bf 5;have bz6:=bf 6;have bz7:=bf 7;clear bf;clear hb5))
              obtain ⟨W9,hW9,f1,f2,f3⟩:=HP5.out.fin (.slice none 0 0) false [] [] (0,0,[]) false;obtain ⟨⟨r0,r1,r2,r3,r4,r5,r6,r7⟩,_,_⟩:=pl_cells f1
              first | rw [<-hW9] | (simp only [] at hW9;rw [<-hW9])
              exact bodyPost_ret (v:=.tuple #[plV (.slice none 0 0) false [] [] (0,0,[]) false,.bool false]) (by simp [results,Tryz.results150,go_sem,plV,r0,r1,r2,r3,r4,r5,r6,r7]) rfl ⟨_,[],_,_,_,_,_,_,rfl,ownM_nil _ _,f3,Or.inl ⟨rfl,HRR.out⟩⟩
end Go.Proofs.YtomhbcfjhgecbaaGreatDoor.Adr
namespace Go.Proofs.YtomhbcfjhgecbaaGreatDoor.Adr
open Go.RowKit Go.Sort Go.Lib Go.Maps
open Go.Lib (hid)
def RPaP (l:List UInt8) (w:World) (e:Ending) (w':World):Prop:=
 ∃ v xs d ty nm k,e=.returned (.tuple #[.agg #[v,.bool d,.string ⟨ty.toArray⟩,.string ⟨nm.toArray⟩,.int .i64 k.1,.int .i64 k.2.1,.string ⟨k.2.2.toArray⟩],.int .i64 (prE l)])/\OwnM w.heap.size w' v xs/\Below w.heap.size w w' /\
  (prE l=0->prR l=some (xs,some (d,ty,nm,k)))
theorem ao_end {W:World} {r:Nat} {v:Value} {d:Bool} {ty nm:List UInt8} {k:KeyT} (h:W.heap[r]?=some (aO v d ty nm k)) (v2:Value) (d2:Bool) (ty2 nm2:List UInt8) (k2:KeyT) :
  ∃ W',W'=((((((W.setCell ⟨r,0,none⟩ v2).setCell ⟨r,1,none⟩ (.bool d2)).setCell ⟨r,2,none⟩ (.string ⟨ty2.toArray⟩)).setCell ⟨r,3,none⟩ (.string ⟨nm2.toArray⟩)).setCell ⟨r,4,none⟩ (.int .i64 k2.1)).setCell ⟨r,5,none⟩ (.int .i64 k2.2.1)).setCell ⟨r,6,none⟩ (.string ⟨k2.2.2.toArray⟩) /\
   W'.heap[r]?=some (aO v2 d2 ty2 nm2 k2):=by
 refine ⟨_,rfl,?_⟩;unfold World.setCell aO at *;simp only [Array.getElem?_modify,if_true,h,Option.map_some];rfl
theorem set7 {B b:Nat} {w W:World} (h:Below B w W) (hb:B<=b) (v0 v1 v2 v3 v4 v5 v6:Value):Below B w (((((((W.setCell ⟨b,0,none⟩ v0).setCell ⟨b,1,none⟩ v1).setCell ⟨b,2,none⟩ v2).setCell ⟨b,3,none⟩ v3).setCell ⟨b,4,none⟩ v4).setCell ⟨b,5,none⟩ v5).setCell ⟨b,6,none⟩ v6):=
 ((((((h.setCell hb _).setCell hb _).setCell hb _).setCell hb _).setCell hb _).setCell hb _).setCell hb _
set_option maxRecDepth 100000 in
set_option maxHeartbeats 8000000 in
theorem rparse_any (s:ByteArray) (w:World) (hs:s.size<=1200001):Calls Tryz.prog 108 #[.string s] w (RPaP s.data.toList w):=by
 have HP:=hid (fun W=>rplace_any s W hs);have HO:=hid (ko_new w (aO (.slice none 0 0) false [] [] (0,0,[])));have HB0:=hid (show Below w.heap.size w (w.alloc (aO (.slice none 0 0) false [] [] (0,0,[]))) from (Below.refl _ _).alloc (Nat.le_refl _) _);unfold aO at HO HB0;go_enter Tryz.func108,Tryz.ntmps108;go_wp2_with fail
 refine (HP.out _).mono ?_;rintro e w2 ⟨v,xs,d,ty,nm,k,wh,ok,rfl,ho,hb,hcase⟩;have hsz1:w.heap.size+1<=w2.heap.size:=by have:=hb.size;simp at this;omega
 have HB2:=hid (HB0.out.trans (hb.mono HB0.out.size));have HO2:=hid ((hb.block w.heap.size (by simp)).trans HO.out);have HOW:=hid ho;clear ho hb HB0 HO HP;obtain ⟨ro,co,hv,_,_⟩:=ownM_form HOW.out;subst hv;simp only [plV];have HA3:=hid (show Below w2.heap.size w2 (w2.alloc (.cells #[.slice ro xs.length co,.bool d,.string ⟨ty.toArray⟩,.string ⟨nm.toArray⟩,.int .i64 k.1,.int .i64 k.2.1,.string ⟨k.2.2.toArray⟩,.bool wh] 174)) from (Below.refl _ _).alloc (Nat.le_refl _) _);have HB3:=hid (HB2.out.trans (HA3.out.mono HB2.out.size));have HO3:=hid (show (w2.alloc (.cells #[.slice ro xs.length co,.bool d,.string ⟨ty.toArray⟩,.string ⟨nm.toArray⟩,.int .i64 k.1,.int .i64 k.2.1,.string ⟨k.2.2.toArray⟩,.bool wh] 174)).heap[w.heap.size]?=some (aO (.slice none 0 0) false [] [] (0,0,[])) from (HA3.out.block w.heap.size (by omega)).trans HO2.out);have HW3:=hid (show OwnM (w.heap.size+1) (w2.alloc (.cells #[.slice ro xs.length co,.bool d,.string ⟨ty.toArray⟩,.string ⟨nm.toArray⟩,.int .i64 k.1,.int .i64 k.2.1,.string ⟨k.2.2.toArray⟩,.bool wh] 174)) (.slice ro xs.length co) xs from kept_off (row_le HOW.out (by simp)) (grown_below HA3.out) (fun _ _ e=>by cases e));have hpn:=ko_new w2 (plO (.slice ro xs.length co) d ty nm k wh);obtain ⟨⟨a0,a1,a2,a3,a4,a5,a6,a7⟩,_,al⟩:=pl_cells hpn;unfold plO at a0 a1 a2 a3 a4 a5 a6 a7;obtain ⟨b0,b1,b2,b3,b4,b5,b6,bf,bl⟩:=ao_cells HO3.out;have bz0:=bf 0;have bz1:=bf 1;have bz2:=bf 2;have bz3:=bf 3;have bz4:=bf 4;have bz5:=bf 5;have bz6:=bf 6;clear bf hpn al;rcases hcase with ⟨rfl,hn⟩ | ⟨rfl,rfl,xs',hn⟩ | ⟨rfl,rfl,hn⟩
 . have HPE:=hid (show prE s.data.toList=2 by unfold prE;rw [hn])
   clear hn;go_wp2
   obtain ⟨W9,hW9,f1⟩:=ao_end HO3.out (.slice none 0 0) false ([]:List UInt8) ([]:List UInt8) ((0,0,[]):KeyT)
   try simp only at hW9
   have hb9:Below w.heap.size w W9:=by rw [hW9];exact set7 HB3.out (Nat.le_refl _) _ _ _ _ _ _ _
   have hg9:OwnM (w.heap.size+1) W9 (.slice ro xs.length co) xs:=by
    rw [hW9];have hS:∀ (X:World) (i:Nat) (u:Value),OwnM (w.heap.size+1) X (.slice ro xs.length co) xs->OwnM (w.heap.size+1) (X.setCell ⟨w.heap.size,i,none⟩ u) (.slice ro xs.length co) xs:=fun X i u ho=>kept_off ho (grown_setC X _ u) (fun g hg2 e=>by have:=(ownM_far ho g hg2).1;simp at e;omega);exact hS _ _ _ (hS _ _ _ (hS _ _ _ (hS _ _ _ (hS _ _ _ (hS _ _ _ (hS _ _ _ HW3.out))))))
   obtain ⟨r0,r1,r2,r3,r4,r5,r6,_,_⟩:=ao_cells f1;rw [<-hW9];exact bodyPost_ret (v:=.tuple #[.agg #[.slice none 0 0,.bool false,.string ⟨List.toArray ([]:List UInt8)⟩,.string ⟨List.toArray ([]:List UInt8)⟩,.int .i64 (((0,0,[]):KeyT):KeyT).1,.int .i64 (((0,0,[]):KeyT):KeyT).2.1,.string ⟨List.toArray (((0,0,[]):KeyT):KeyT).2.2⟩],.int .i64 2]) (by simp [results,Tryz.results108,go_sem,r0,r1,r2,r3,r4,r5,r6]) rfl ⟨_,_,_,_,_,_,by rw [HPE.out],ownM_nil _ _,hb9,fun h=>by rw [HPE.out] at h;cases h⟩
 . have HPE:=hid (show prE s.data.toList=2 by unfold prE;rw [hn])
   clear hn;go_wp2
   obtain ⟨W9,hW9,f1⟩:=ao_end HO3.out (.slice none 0 0) false ([]:List UInt8) ([]:List UInt8) ((0,0,[]):KeyT)
   try simp only at hW9
   have hb9:Below w.heap.size w W9:=by rw [hW9];exact set7 HB3.out (Nat.le_refl _) _ _ _ _ _ _ _
   have hg9:OwnM (w.heap.size+1) W9 (.slice ro xs.length co) xs:=by
    rw [hW9];have hS:∀ (X:World) (i:Nat) (u:Value),OwnM (w.heap.size+1) X (.slice ro xs.length co) xs->OwnM (w.heap.size+1) (X.setCell ⟨w.heap.size,i,none⟩ u) (.slice ro xs.length co) xs:=fun X i u ho=>kept_off ho (grown_setC X _ u) (fun g hg2 e=>by have:=(ownM_far ho g hg2).1;simp at e;omega);exact hS _ _ _ (hS _ _ _ (hS _ _ _ (hS _ _ _ (hS _ _ _ (hS _ _ _ (hS _ _ _ HW3.out))))))
   obtain ⟨r0,r1,r2,r3,r4,r5,r6,_,_⟩:=ao_cells f1;rw [<-hW9];exact bodyPost_ret (v:=.tuple #[.agg #[.slice none 0 0,.bool false,.string ⟨List.toArray ([]:List UInt8)⟩,.string ⟨List.toArray ([]:List UInt8)⟩,.int .i64 (((0,0,[]):KeyT):KeyT).1,.int .i64 (((0,0,[]):KeyT):KeyT).2.1,.string ⟨List.toArray (((0,0,[]):KeyT):KeyT).2.2⟩],.int .i64 2]) (by simp [results,Tryz.results108,go_sem,r0,r1,r2,r3,r4,r5,r6]) rfl ⟨_,_,_,_,_,_,by rw [HPE.out],ownM_nil _ _,hb9,fun h=>by rw [HPE.out] at h;cases h⟩
 . by_cases h16:16 < xs.length
   . have HPE:=hid (show prE s.data.toList=4 by unfold prE;rw [hn];simp only;rw [if_pos h16])
     have h17:(16:Int) < (xs.length:Int):=by omega
     clear hn;go_wp2
     obtain ⟨W9,hW9,f1⟩:=ao_end HO3.out (.slice none 0 0) false ([]:List UInt8) ([]:List UInt8) ((0,0,[]):KeyT)
     try simp only at hW9
     have hb9:Below w.heap.size w W9:=by rw [hW9];exact set7 HB3.out (Nat.le_refl _) _ _ _ _ _ _ _
     have hg9:OwnM (w.heap.size+1) W9 (.slice ro xs.length co) xs:=by
      rw [hW9];have hS:∀ (X:World) (i:Nat) (u:Value),OwnM (w.heap.size+1) X (.slice ro xs.length co) xs->OwnM (w.heap.size+1) (X.setCell ⟨w.heap.size,i,none⟩ u) (.slice ro xs.length co) xs:=fun X i u ho=>kept_off ho (grown_setC X _ u) (fun g hg2 e=>by have:=(ownM_far ho g hg2).1;simp at e;omega);exact hS _ _ _ (hS _ _ _ (hS _ _ _ (hS _ _ _ (hS _ _ _ (hS _ _ _ (hS _ _ _ HW3.out))))))
     obtain ⟨r0,r1,r2,r3,r4,r5,r6,_,_⟩:=ao_cells f1;rw [<-hW9];exact bodyPost_ret (v:=.tuple #[.agg #[.slice none 0 0,.bool false,.string ⟨List.toArray ([]:List UInt8)⟩,.string ⟨List.toArray ([]:List UInt8)⟩,.int .i64 (((0,0,[]):KeyT):KeyT).1,.int .i64 (((0,0,[]):KeyT):KeyT).2.1,.string ⟨List.toArray (((0,0,[]):KeyT):KeyT).2.2⟩],.int .i64 4]) (by simp [results,Tryz.results108,go_sem,r0,r1,r2,r3,r4,r5,r6]) rfl ⟨_,_,_,_,_,_,by rw [HPE.out],ownM_nil _ _,hb9,fun h=>by rw [HPE.out] at h;cases h⟩
   . have HPE:=hid (show prE s.data.toList=0 by unfold prE;rw [hn];simp only;rw [if_neg h16])
     have h17:¬ (16:Int) < (xs.length:Int):=by omega
     have HN:=hid hn;clear hn;go_wp2
     obtain ⟨W9,hW9,f1⟩:=ao_end HO3.out (.slice ro xs.length co) d ty nm k
     try simp only at hW9
     have hb9:Below w.heap.size w W9:=by rw [hW9];exact set7 HB3.out (Nat.le_refl _) _ _ _ _ _ _ _
     have hg9:OwnM (w.heap.size+1) W9 (.slice ro xs.length co) xs:=by
      rw [hW9];have hS:∀ (X:World) (i:Nat) (u:Value),OwnM (w.heap.size+1) X (.slice ro xs.length co) xs->OwnM (w.heap.size+1) (X.setCell ⟨w.heap.size,i,none⟩ u) (.slice ro xs.length co) xs:=fun X i u ho=>kept_off ho (grown_setC X _ u) (fun g hg2 e=>by have:=(ownM_far ho g hg2).1;simp at e;omega);exact hS _ _ _ (hS _ _ _ (hS _ _ _ (hS _ _ _ (hS _ _ _ (hS _ _ _ (hS _ _ _ HW3.out))))))
     obtain ⟨r0,r1,r2,r3,r4,r5,r6,_,_⟩:=ao_cells f1;rw [<-hW9];exact bodyPost_ret (v:=.tuple #[.agg #[.slice ro xs.length co,.bool d,.string ⟨List.toArray ty⟩,.string ⟨List.toArray nm⟩,.int .i64 (k:KeyT).1,.int .i64 (k:KeyT).2.1,.string ⟨List.toArray (k:KeyT).2.2⟩],.int .i64 0]) (by simp [results,Tryz.results108,go_sem,r0,r1,r2,r3,r4,r5,r6]) rfl ⟨_,_,_,_,_,_,by rw [HPE.out],row_le hg9 (by omega),hb9,fun h=>HN.out⟩
end Go.Proofs.YtomhbcfjhgecbaaGreatDoor.Adr
namespace Go.Proofs.YtomhbcfjhgecbaaGreatDoor.Adr
open Go.RowKit Go.Sort Go.Lib Go.Maps
open Go.Lib (hid)
set_option maxHeartbeats 4000000 in
theorem rfkey0 (w:World):Calls Tryz.prog 227 #[k0V] w fun e w'=>e=.returned (.string ⟨#[]⟩)/\Below w.heap.size w w':=by
 have HK:Hid (∀ W:World,Calls Tryz.prog 224 #[k0V] W fun e w'=>e=.returned (.bool true)/\Below W.heap.size W w'):=hid (fun W=>rKey0 W);unfold k0V at *;have HA:=hid (show Below w.heap.size w (w.alloc (.cells #[.int .i64 0,.int .i64 0,.string ⟨#[]⟩] 91)) from (Below.refl _ _).alloc (Nat.le_refl _) _);obtain ⟨d0,d1,d2,_,d4⟩:=ko_cells (W:=w.alloc (kO 0 0 [])) (r:=w.heap.size) (k:=0) (n:=0) (t:=[]) (ko_new w _);unfold kO at d0 d1 d2;go_enter Tryz.func227,Tryz.ntmps227;go_wp2_with (go_at_call 224;refine (HK.out _).mono ?_;rintro e w1 ⟨rfl,hb1⟩;have c0:=bget hb1 d0;have HB1:=hid (HA.out.trans (hb1.mono HA.out.size));clear hb1)
 go_ret
 exact ⟨rfl,HB1.out⟩
set_option maxHeartbeats 8000000 in
theorem rcheck0 (r:Option Addr) (c:Nat) (xs:List MS) (d:Bool) (ty nm:List UInt8) (w:World) (h:Sl MsR 4 w (.slice r xs.length c) xs) (hx:Bare xs) (hty:kdB ty=true) (hnm:idB nm=true) :
  Calls Tryz.prog 225 #[aV (.slice r xs.length c) d ty nm (0,0,[])] w fun e w'=>e=.returned (.int .i64 0)/\Below w.heap.size w w':=by
 obtain ⟨_,hl,hm⟩:=sl_len h;have h16:=hx.1;have h17:¬ (16:Int) < (xs.length:Int):=by omega
 have hlen:∀ {l:List UInt8},idB l=true->(⟨l.toArray⟩:ByteArray).size<=2000000:=fun {l} h=>by
  unfold idB at h;simp only [Bool.and_eq_true,decide_eq_true_eq] at h;rw [ls_size];have:=h.1.1.2;omega
 have hid1:∀ {l:List UInt8},idB l=true->∀ W:World,Calls Tryz.prog 128 #[.string ⟨l.toArray⟩] W fun e w'=>e=.returned (.bool true)/\W=w':=fun {l} h W=>by
  have h2:=rident_any ⟨l.toArray⟩ W (hlen h);rw [show (⟨l.toArray⟩:ByteArray).data.toList=l from rfl,h] at h2;exact h2
 have hk:idB ty=true/\rsv ty=false:=by unfold kdB at hty;simpa using hty
 have HE:=hid (fun (W:World) (hW:Below w.heap.size w W)=>ms_at (h.below msR_mono hW));have HX:=hid (fun x hx2=>hx.2 x hx2);have HV:Hid (∀ W:World,Calls Tryz.prog 224 #[k0V] W fun e w'=>e=.returned (.bool true)/\Below W.heap.size W w'):=hid (fun W=>rKey0 W);have HID:=hid (fun (l:List UInt8) (h:idB l=true)=>hid1 h);have HT:=hid (hid1 hk.1);have HN:=hid (hid1 hnm)
 have HR:Hid (∀ W:World,Calls Tryz.prog 196 #[.string ⟨ty.toArray⟩] W fun e w'=>e=.returned (.bool false)/\Below W.heap.size W w'):=hid (fun W=>by
  have h2:=rreserved_any ⟨ty.toArray⟩ W;rw [show (⟨ty.toArray⟩:ByteArray).data.toList=ty from rfl,hk.2] at h2;exact h2)
 have HB0:=hid (show Below w.heap.size w (w.alloc (.cells #[.slice r xs.length c,.bool d,.string ⟨ty.toArray⟩,.string ⟨nm.toArray⟩,.int .i64 0,.int .i64 0,.string ⟨#[]⟩] 93)) from (Below.refl _ _).alloc (Nat.le_refl _) _);clear h hx hty hnm hk hid1 hlen;unfold aV;unfold k0V at HV;go_enter Tryz.func225,Tryz.ntmps225;go_wp2
 have hz:(w.alloc (.cells #[.slice r xs.length c,.bool d,.string ⟨ty.toArray⟩,.string ⟨nm.toArray⟩,.int .i64 0,.int .i64 0,.string ⟨#[]⟩] 93)).heap.size=w.heap.size+1:=by simp
 obtain ⟨z0,z1,z2,z3,z4,z5,z6,_⟩:=ao_cells (v:=.slice r xs.length c) (d:=d) (ty:=ty) (nm:=nm) (k:=(0,0,[])) (ko_new w (.cells #[.slice r xs.length c,.bool d,.string ⟨ty.toArray⟩,.string ⟨nm.toArray⟩,.int .i64 0,.int .i64 0,.string ⟨#[]⟩] 93));have HZ:=hid (And.intro z0 (And.intro z2 (And.intro z3 (And.intro z4 (And.intro z5 z6)))));clear z0 z1 z2 z3 z4 z5 z6;generalize w.alloc (.cells #[.slice r xs.length c,.bool d,.string ⟨ty.toArray⟩,.string ⟨nm.toArray⟩,.int .i64 0,.int .i64 0,.string ⟨#[]⟩] 93)=W0 at *;have HS:=hid hz;clear hz;go_loopw [3] (fun t wr=>∃ k:Nat,k<=xs.length/\t=.int .i64 k/\Hid (Below W0.heap.size W0 wr)) (fun t _=>xs.length - (RowKit.intOf t).toNat)
 case atStart=>exact ⟨0,Nat.zero_le _,rfl,hid (Below.refl _ _)⟩
 case round =>
  obtain ⟨k,hk,rfl,HW⟩:=hrel;obtain ⟨z0,z2,z3,z4,z5,z6⟩:=HZ.out;have q0:=bget HW.out z0;have q2:=bget HW.out z2;have q3:=bget HW.out z3;have q4:=bget HW.out z4;have q5:=bget HW.out z5;have q6:=bget HW.out z6;clear z0 z2 z3 z4 z5 z6
  by_cases hlt:k < xs.length
  . obtain ⟨b,off,rfl,hb,g0,g1,g2,g3⟩:=HE.out wr (HB0.out.trans (HW.out.mono (by rw [HS.out];omega))) k hlt
    obtain ⟨j1,j2⟩:=HX.out xs[k] (List.getElem_mem hlt);rw [j2] at g1 g2 g3;have HI:=hid (HID.out _ j1);have hk0:(0:Int)<=(k:Int):=by omega
    have hk1:(k:Int) < (xs.length:Int):=by omega
    clear j1 j2 HT HN HR;generalize xs[k].1=s at *
    go_wp2_with (first
     | (go_at_call 128;refine (HI.out _).mono ?_;rintro e w3 ⟨rfl,rfl⟩)
     | (go_at_call 224;refine (HV.out _).mono ?_;rintro e w4 ⟨rfl,hb4⟩;have HB4:=hid hb4;clear hb4))
    go_roundw
    case rel=>exact ⟨k+1,by omega,by go_num,hid (HW.out.trans (HB4.out.mono HW.out.size))⟩
    case measure=>simp [RowKit.intOf];omega
  . have hk1:¬ (k:Int) < (xs.length:Int):=by omega
    clear HID
    go_wp2_with (first
     | (go_at_call 128;have hh:=HT.out;clear HT;refine Calls.mono (hh _) ?_;clear hh;rintro e w3 ⟨rfl,rfl⟩)
     | (go_at_call 196;refine (HR.out _).mono ?_;rintro e w3 ⟨rfl,hb3⟩;have p3:=bget hb3 q3;have p4:=bget hb3 q4;have p5:=bget hb3 q5;have p6:=bget hb3 q6;have HB3:=hid hb3;clear hb3)
     | (go_at_call 128;have hh:=HN.out;clear HN;refine Calls.mono (hh _) ?_;clear hh;rintro e w5 ⟨rfl,rfl⟩)
     | (go_at_call 224;refine (HV.out _).mono ?_;rintro e w4 ⟨rfl,hb4⟩;have HB4:=hid (HB3.out.trans (hb4.mono HB3.out.size));clear hb4))
    go_ret
    exact ⟨rfl,(HB0.out.trans (HW.out.mono (by rw [HS.out];omega))).trans (HB4.out.mono (by have:=HW.out.size;have:=HS.out;omega))⟩
end Go.Proofs.YtomhbcfjhgecbaaGreatDoor.Adr
namespace Go.Proofs.YtomhbcfjhgecbaaGreatDoor.Adr
open Go.RowKit Go.Sort Go.Lib Go.Maps
open Go.Lib (hid)
open Stp (wq Spc frUpon Lat Lat.refl wp_region_fresh wpF_quiet wpF_told wpF_skip wpF_put wpF_nil grw_ex grw_below noEnter_op sVal sBool stTrue Grw)
attribute [local go_sem] frUpon
set_option maxRecDepth 100000 in
set_option maxHeartbeats 8000000 in
theorem rsteps0 (r:Option Addr) (c:Nat) (xs:List MS) (w:World) (h:Sl MsR 4 w (.slice r xs.length c) xs) (hx:Bare xs) :
  Calls Tryz.prog 226 #[.slice r xs.length c] w fun e w'=>e=.returned (.string ⟨(xs.flatMap stpB).toArray⟩)/\Below w.heap.size w w':=by
 obtain ⟨_,hl,hm⟩:=sl_len h;have h16:=hx.1;have HE:=hid (fun (W:World) (hW:Below w.heap.size w W)=>ms_at (h.below msR_mono hW));have HX:=hid (fun x hx2=>hx.2 x hx2);have HF:=hid (fun W=>rfkey0 W);have HP:=hid (fun k=>pre_len (xs:=xs.take k) (fun x hx2=>(hx.2 x (List.mem_of_mem_take hx2)).1));clear h hx;unfold k0V at HF;go_enter Tryz.func226,Tryz.ntmps226;go_wp2
 go_loopg [3,4] xs.length (fun gg s3 s4 wr=>∃ k:Nat,k<=xs.length/\xs.length - k<=gg/\s4=.int .i64 k/\s3=.string ⟨((xs.take k).flatMap stpB).toArray⟩/\Hid (Below w.heap.size w wr))
 case atStart=>exact ⟨0,by omega,by omega,rfl,by simp,hid (Below.refl _ _)⟩
 case round =>
  obtain ⟨k,hk,hgg,rfl,rfl,HB⟩:=hrel
  by_cases hlt:k < xs.length
  . obtain ⟨b,off,rfl,hb,g0,g1,g2,g3⟩:=HE.out wr HB.out k hlt
    have HTK:=hid (show (xs.take (k+1)).flatMap stpB=(xs.take k).flatMap stpB ++ (MODP ++ xs[k].1 ++ [46]) by rw [List.take_succ_eq_append_getElem hlt,List.flatMap_append];simp [stpB]);have hp:=HP.out k;obtain ⟨j1,j2⟩:=HX.out xs[k] (List.getElem_mem hlt);have hs:=id_len j1;rw [j2] at g1 g2 g3;clear j1 j2;generalize xs[k].1=s at *;have hpl:((xs.take k).flatMap stpB).length<=1000000000:=by rw [List.length_take] at hp;omega
    clear hp;generalize hP0:(xs.take k).flatMap stpB=P0 at *;have c1:=fun W=>cat_run W P0 [109,111,100,117,108,101,46] (by simp;omega);have l1:(P0 ++ [109,111,100,117,108,101,46]).length<=1000000010:=by simp;omega
    obtain ⟨P1,hP1⟩:∃ P1,P0 ++ [109,111,100,117,108,101,46]=P1:=⟨_,rfl⟩;rw [hP1] at c1 l1;have c2:=fun W=>cat_run W P1 s (by omega);have l2:(P1 ++ s).length<=1000000100:=by simp;omega
    obtain ⟨P2,hP2⟩:∃ P2,P1 ++ s=P2:=⟨_,rfl⟩;rw [hP2] at c2 l2;have c3:=fun W=>cat_run W P2 [] (by simp;omega);rw [List.append_nil] at c3;have c4:=fun W=>cat_run W P2 [46] (by simp;omega);have HRE:=hid (show P2 ++ [46]=(xs.take (k+1)).flatMap stpB by rw [HTK.out,<-hP2,<-hP1];simp [MODP]);obtain ⟨P4,hP4⟩:∃ P4,P2 ++ [46]=P4:=⟨_,rfl⟩;rw [hP4] at c4 HRE;have e0:=fun d os=>cell_regrown g0 d os;have e1:=fun d os=>cell_regrown g1 d os;have e2:=fun d os=>cell_regrown g2 d os;have e3:=fun d os=>cell_regrown g3 d os;have hk0:(0:Int)<=(k:Int):=by omega
    have hk1:(k:Int) < (xs.length:Int):=by omega
    clear hs hP0 hP1 hP2 hP4 l1 l2 hpl;go_wp2_with fail
    refine wp_region_fresh (fun k=>match k with | 13=>some (sStr []) | _=>none) (by kernel_rfl) (by kernel_rfl) ?_
    iterate 13 (refine wq ?_;intro K hK;go_big_quiet_op;go_big_quiet_on)
    refine wpF_told (sStr []) (by kernel_rfl) rfl ⟨_,rfl⟩ stTrue (fun w4 hw4 hE4=>?_) ?_
    . have hb4:=grw_below hw4
      have hh:=HF.out w4;clear hw4 hE4 hb4;go_simp
      go_at_call 227;refine Calls.mono hh ?_;rintro e w5 ⟨rfl,hb5⟩;exact ⟨_,rfl,hb5,rfl,trivial⟩
    rintro _ rfl
    (refine wpF_put ?_;intro K hK;go_simp;refine hK _ ?_;clear hK K)
    iterate 3 (refine wq ?_;intro K hK;go_big_quiet_op;go_big_quiet_on)
    refine wpF_nil ?_;intro w6 hw6 hE6;have hb6:=grw_below hw6;clear hw6 hE6;go_wp2
    go_roundg (xs.length - (k+1))
    case measure=>omega
    case rel=>exact ⟨k+1,by omega,by omega,by go_num,by rw [<-HRE.out],hid (HB.out.trans (hb6.mono HB.out.size))⟩
  . obtain rfl:k=xs.length:=by omega
    have HT:=hid (show xs.take xs.length=xs from List.take_length);go_wp2
    go_ret
    exact ⟨by first | rfl | (rw [HT.out];rfl),HB.out⟩
end Go.Proofs.YtomhbcfjhgecbaaGreatDoor.Adr
namespace Go.Proofs.YtomhbcfjhgecbaaGreatDoor.Adr
open Go.RowKit Go.Sort Go.Lib Go.Maps
open Go.Lib (hid)
open Stp (wq Spc frUpon Lat Lat.refl wp_region_fresh wpF_quiet wpF_told wpF_skip wpF_put wpF_nil grw_ex grw_below noEnter_op sVal sBool stTrue Grw)
attribute [local go_sem] frUpon
set_option maxRecDepth 100000 in
set_option maxHeartbeats 8000000 in
theorem rformat0 (r:Option Addr) (c:Nat) (xs:List MS) (d:Bool) (ty nm:List UInt8) (w:World) (h:Sl MsR 4 w (.slice r xs.length c) xs) (hx:Bare xs) (hty:kdB ty=true) (hnm:idB nm=true) :
  Calls Tryz.prog 200 #[aV (.slice r xs.length c) d ty nm (0,0,[])] w fun e w'=>e=.returned (.string ⟨(fmtB xs d ty nm).toArray⟩)/\Below w.heap.size w w':=by
 have HC:=hid (fun (W:World) (hW:Below w.heap.size w W)=>rcheck0 r c xs d ty nm W (h.below msR_mono hW) hx hty hnm);have HS:=hid (fun (W:World) (hW:Below w.heap.size w W)=>rsteps0 r c xs W (h.below msR_mono hW) hx);have HF:=hid (fun W=>rfkey0 W)
 have hty2:ty.length<=64:=by
  have h1:(idB ty && !rsv ty)=true:=hty;rw [Bool.and_eq_true] at h1;exact id_len h1.1
 have hnm2:=id_len hnm
 have l0:(xs.flatMap stpB).length<=1000000000:=by
  have hp:=pre_len (xs:=xs) (fun x hx2=>(hx.2 x hx2).1);have:=hx.1;omega
 clear h hx hty hnm;unfold aV at *;unfold k0V at HF;generalize hP0:xs.flatMap stpB=P0 at *;cases d with
 | false =>
   have k1:P0.length<=1000001000:=by omega
   have c2:=fun W=>cat_run W P0 ty (by omega);have k2:(P0 ++ ty).length<=1000002000:=by simp;omega
   obtain ⟨P2,hP2⟩:∃ P2,P0 ++ ty=P2:=⟨_,rfl⟩;rw [hP2] at c2 k2;have c3:=fun W=>cat_run W P2 [46] (by simp;omega);have k3:(P2 ++ [46]).length<=1000003000:=by simp;omega
   obtain ⟨P3,hP3⟩:∃ P3,P2 ++ [46]=P3:=⟨_,rfl⟩;rw [hP3] at c3 k3;have c4:=fun W=>cat_run W P3 nm (by omega);have k4:(P3 ++ nm).length<=1000004000:=by simp;omega
   obtain ⟨P4,hP4⟩:∃ P4,P3 ++ nm=P4:=⟨_,rfl⟩;rw [hP4] at c4 k4;have c5:=fun W=>cat_run W P4 [] (by simp;omega);rw [List.append_nil] at c5;have HRE:=hid (show fmtB xs false ty nm=P4 by unfold fmtB;rw [hP0,<-hP4,<-hP3,<-hP2];simp [DATP]);clear hP2 hP3 hP4 k1 k2 k3 k4 l0 hP0;rw [HRE.out];have HB0:=hid (show Below w.heap.size w (w.alloc (.cells #[.slice r xs.length c,.bool false,.string ⟨ty.toArray⟩,.string ⟨nm.toArray⟩,.int .i64 0,.int .i64 0,.string ⟨#[]⟩] 93)) from (Below.refl _ _).alloc (Nat.le_refl _) _)
   have HZ:=hid (fun (W:World) (hb:Below (w.alloc (.cells #[.slice r xs.length c,.bool false,.string ⟨ty.toArray⟩,.string ⟨nm.toArray⟩,.int .i64 0,.int .i64 0,.string ⟨#[]⟩] 93)).heap.size (w.alloc (.cells #[.slice r xs.length c,.bool false,.string ⟨ty.toArray⟩,.string ⟨nm.toArray⟩,.int .i64 0,.int .i64 0,.string ⟨#[]⟩] 93)) W)=>show (W.cell? ⟨w.heap.size,0,none⟩=some (.slice r xs.length c)/\W.cell? ⟨w.heap.size,1,none⟩=some (.bool false)/\W.cell? ⟨w.heap.size,2,none⟩=some (.string ⟨ty.toArray⟩)/\W.cell? ⟨w.heap.size,3,none⟩=some (.string ⟨nm.toArray⟩)/\W.cell? ⟨w.heap.size,4,none⟩=some (.int .i64 0)/\W.cell? ⟨w.heap.size,5,none⟩=some (.int .i64 0)/\W.cell? ⟨w.heap.size,6,none⟩=some (.string ⟨#[]⟩))/\w.heap.size < W.heap.size from by
    obtain ⟨z0,z1,z2,z3,z4,z5,z6,_⟩:=ao_cells (v:=.slice r xs.length c) (d:=false) (ty:=ty) (nm:=nm) (k:=(0,0,[])) (ko_new w (.cells #[.slice r xs.length c,.bool false,.string ⟨ty.toArray⟩,.string ⟨nm.toArray⟩,.int .i64 0,.int .i64 0,.string ⟨#[]⟩] 93));exact ⟨⟨bget hb z0,bget hb z1,bget hb z2,bget hb z3,bget hb z4,bget hb z5,bget hb z6⟩,by have:=hb.size;simp at this;omega⟩)
   obtain ⟨⟨o0,o1,o2,o3,o4,o5,o6⟩,_⟩:=HZ.out _ (Below.refl _ _);go_enter Tryz.func200,Tryz.ntmps200
   go_wp2_with (first
    | (go_at_call 225;refine (HC.out _ HB0.out).mono ?_;rintro e w1 ⟨rfl,hb1⟩;have HB1:=hid (HB0.out.trans (hb1.mono HB0.out.size));have HX1:=hid hb1;obtain ⟨⟨q0,q1,q2,q3,q4,q5,q6⟩,q7⟩:=HZ.out _ hb1;clear hb1)
    | (go_at_call 226;refine (HS.out _ HB1.out).mono ?_;rintro e w2 ⟨rfl,hb2⟩;have HB2:=hid (HB1.out.trans (hb2.mono HB1.out.size));have hx2:=HX1.out.trans (hb2.mono HX1.out.size);obtain ⟨⟨p0,p1,p2,p3,p4,p5,p6⟩,p7⟩:=HZ.out _ hx2;clear hb2 hx2))
   have e2:=fun d os=>cell_regrown p2 d os;have e3:=fun d os=>cell_regrown p3 d os;have e4:=fun d os=>cell_regrown p4 d os;have e5:=fun d os=>cell_regrown p5 d os;have e6:=fun d os=>cell_regrown p6 d os;refine wp_region_fresh (fun k=>match k with | 10=>some (sStr []) | _=>none) (by kernel_rfl) (by kernel_rfl) ?_
   iterate 10 (refine wq ?_;intro K hK;go_big_quiet_op;go_big_quiet_on)
   refine wpF_told (sStr []) (by kernel_rfl) rfl ⟨_,rfl⟩ stTrue (fun w4 hw4 hE4=>?_) ?_
   . have hb4:=grw_below hw4
     have hh:=HF.out w4;clear hw4 hE4 hb4;go_simp
     go_at_call 227;refine Calls.mono hh ?_;rintro e w5 ⟨rfl,hb5⟩;exact ⟨_,rfl,hb5,rfl,trivial⟩
   rintro _ rfl
   (refine wpF_put ?_;intro K hK;go_simp;refine hK _ ?_;clear hK K)
   iterate 2 (refine wq ?_;intro K hK;go_big_quiet_op;go_big_quiet_on)
   refine wpF_nil ?_;intro w6 hw6 hE6;have hb6:=grw_below hw6;clear hw6 hE6;go_wp2
   go_ret
   exact ⟨rfl,HB2.out.trans (hb6.mono HB2.out.size)⟩
 | true =>
   have d1:=fun W=>cat_run W P0 [100,97,116,97,46] (by simp;omega);have k1:(P0 ++ [100,97,116,97,46]).length<=1000001000:=by simp;omega
   obtain ⟨P1,hP1⟩:∃ P1,P0 ++ [100,97,116,97,46]=P1:=⟨_,rfl⟩;rw [hP1] at d1 k1;have c2:=fun W=>cat_run W P1 ty (by omega);have k2:(P1 ++ ty).length<=1000002000:=by simp;omega
   obtain ⟨P2,hP2⟩:∃ P2,P1 ++ ty=P2:=⟨_,rfl⟩;rw [hP2] at c2 k2;have c3:=fun W=>cat_run W P2 [46] (by simp;omega);have k3:(P2 ++ [46]).length<=1000003000:=by simp;omega
   obtain ⟨P3,hP3⟩:∃ P3,P2 ++ [46]=P3:=⟨_,rfl⟩;rw [hP3] at c3 k3;have c4:=fun W=>cat_run W P3 nm (by omega);have k4:(P3 ++ nm).length<=1000004000:=by simp;omega
   obtain ⟨P4,hP4⟩:∃ P4,P3 ++ nm=P4:=⟨_,rfl⟩;rw [hP4] at c4 k4;have c5:=fun W=>cat_run W P4 [] (by simp;omega);rw [List.append_nil] at c5;have HRE:=hid (show fmtB xs true ty nm=P4 by unfold fmtB;rw [hP0,<-hP4,<-hP3,<-hP2,<-hP1];simp [DATP]);clear hP1 hP2 hP3 hP4 k1 k2 k3 k4 l0 hP0;rw [HRE.out];have HB0:=hid (show Below w.heap.size w (w.alloc (.cells #[.slice r xs.length c,.bool true,.string ⟨ty.toArray⟩,.string ⟨nm.toArray⟩,.int .i64 0,.int .i64 0,.string ⟨#[]⟩] 93)) from (Below.refl _ _).alloc (Nat.le_refl _) _)
   have HZ:=hid (fun (W:World) (hb:Below (w.alloc (.cells #[.slice r xs.length c,.bool true,.string ⟨ty.toArray⟩,.string ⟨nm.toArray⟩,.int .i64 0,.int .i64 0,.string ⟨#[]⟩] 93)).heap.size (w.alloc (.cells #[.slice r xs.length c,.bool true,.string ⟨ty.toArray⟩,.string ⟨nm.toArray⟩,.int .i64 0,.int .i64 0,.string ⟨#[]⟩] 93)) W)=>show (W.cell? ⟨w.heap.size,0,none⟩=some (.slice r xs.length c)/\W.cell? ⟨w.heap.size,1,none⟩=some (.bool true)/\W.cell? ⟨w.heap.size,2,none⟩=some (.string ⟨ty.toArray⟩)/\W.cell? ⟨w.heap.size,3,none⟩=some (.string ⟨nm.toArray⟩)/\W.cell? ⟨w.heap.size,4,none⟩=some (.int .i64 0)/\W.cell? ⟨w.heap.size,5,none⟩=some (.int .i64 0)/\W.cell? ⟨w.heap.size,6,none⟩=some (.string ⟨#[]⟩))/\w.heap.size < W.heap.size from by
    obtain ⟨z0,z1,z2,z3,z4,z5,z6,_⟩:=ao_cells (v:=.slice r xs.length c) (d:=true) (ty:=ty) (nm:=nm) (k:=(0,0,[])) (ko_new w (.cells #[.slice r xs.length c,.bool true,.string ⟨ty.toArray⟩,.string ⟨nm.toArray⟩,.int .i64 0,.int .i64 0,.string ⟨#[]⟩] 93));exact ⟨⟨bget hb z0,bget hb z1,bget hb z2,bget hb z3,bget hb z4,bget hb z5,bget hb z6⟩,by have:=hb.size;simp at this;omega⟩)
   obtain ⟨⟨o0,o1,o2,o3,o4,o5,o6⟩,_⟩:=HZ.out _ (Below.refl _ _);go_enter Tryz.func200,Tryz.ntmps200
   go_wp2_with (first
    | (go_at_call 225;refine (HC.out _ HB0.out).mono ?_;rintro e w1 ⟨rfl,hb1⟩;have HB1:=hid (HB0.out.trans (hb1.mono HB0.out.size));have HX1:=hid hb1;obtain ⟨⟨q0,q1,q2,q3,q4,q5,q6⟩,q7⟩:=HZ.out _ hb1;clear hb1)
    | (go_at_call 226;refine (HS.out _ HB1.out).mono ?_;rintro e w2 ⟨rfl,hb2⟩;have HB2:=hid (HB1.out.trans (hb2.mono HB1.out.size));have hx2:=HX1.out.trans (hb2.mono HX1.out.size);obtain ⟨⟨p0,p1,p2,p3,p4,p5,p6⟩,p7⟩:=HZ.out _ hx2;clear hb2 hx2))
   have e2:=fun d os=>cell_regrown p2 d os;have e3:=fun d os=>cell_regrown p3 d os;have e4:=fun d os=>cell_regrown p4 d os;have e5:=fun d os=>cell_regrown p5 d os;have e6:=fun d os=>cell_regrown p6 d os;refine wp_region_fresh (fun k=>match k with | 10=>some (sStr []) | _=>none) (by kernel_rfl) (by kernel_rfl) ?_
   iterate 10 (refine wq ?_;intro K hK;go_big_quiet_op;go_big_quiet_on)
   refine wpF_told (sStr []) (by kernel_rfl) rfl ⟨_,rfl⟩ stTrue (fun w4 hw4 hE4=>?_) ?_
   . have hb4:=grw_below hw4
     have hh:=HF.out w4;clear hw4 hE4 hb4;go_simp
     go_at_call 227;refine Calls.mono hh ?_;rintro e w5 ⟨rfl,hb5⟩;exact ⟨_,rfl,hb5,rfl,trivial⟩
   rintro _ rfl
   (refine wpF_put ?_;intro K hK;go_simp;refine hK _ ?_;clear hK K)
   iterate 2 (refine wq ?_;intro K hK;go_big_quiet_op;go_big_quiet_on)
   refine wpF_nil ?_;intro w6 hw6 hE6;have hb6:=grw_below hw6;clear hw6 hE6;go_wp2
   go_ret
   exact ⟨rfl,HB2.out.trans (hb6.mono HB2.out.size)⟩
end Go.Proofs.YtomhbcfjhgecbaaGreatDoor.Adr
namespace Go.Proofs.YtomhbcfjhgecbaaGreatDoor.Adr
open Go.RowKit Go.Sort Go.Lib Go.Maps
open Go.Lib (hid)
structure Br (w W:World) (va:Value) (k:KeyT) (v:Value) (xs:List MS) (d:Bool) (ty nm:List UInt8):Prop where
 ad:W.heap[w.heap.size]?=some (aO va d ty nm k)
 re:W.heap[w.heap.size+1]?=some (aO (.slice none 0 0) false [] [] (0,0,[]))
 ou:W.heap[w.heap.size+1+1]?=some (aO v d ty nm (0,0,[]))
 own:OwnM (w.heap.size+3) W v xs
 bel:Below w.heap.size w W
 sz:w.heap.size+3<=W.heap.size
section
variable {w W W1 W2:World} {va v:Value} {k:KeyT} {xs:List MS} {d:Bool} {ty nm:List UInt8}
theorem Br.below {W':World} (h:Br w W va k v xs d ty nm) (hb:Below W.heap.size W W'):Br w W' va k v xs d ty nm:=
 ⟨(hb.block _ (lt_of_block h.ad)).trans h.ad,(hb.block _ (lt_of_block h.re)).trans h.re,(hb.block _ (lt_of_block h.ou)).trans h.ou,kept_off h.own (grown_below hb) (fun _ _ e=>by cases e),h.bel.trans (hb.mono h.bel.size),Nat.le_trans h.sz hb.size⟩
theorem Br.start:Br w (((w.alloc (aO va d ty nm k)).alloc (aO (.slice none 0 0) false [] [] (0,0,[]))).alloc (aO (.slice none 0 0) d ty nm (0,0,[]))) va k (.slice none 0 0) [] d ty nm:=by
 have hW:Below w.heap.size w (((w.alloc (aO va d ty nm k)).alloc (aO (.slice none 0 0) false [] [] (0,0,[]))).alloc (aO (.slice none 0 0) d ty nm (0,0,[]))):=(((Below.refl _ _).alloc (Nat.le_refl _) _).alloc (by simp) _).alloc (by simp;omega) _;have n1:∀ (X:World) (o o2:Obj) (j:Nat),X.heap[j]?=some o->(X.alloc o2).heap[j]?=some o:=fun X o o2 j hx=>(((Below.refl X.heap.size X).alloc (Nat.le_refl _) o2).block _ (lt_of_block hx)).trans hx;have k0:=ko_new w (aO va d ty nm k);have k1:=ko_new (w.alloc (aO va d ty nm k)) (aO (.slice none 0 0) false [] [] (0,0,[]));have k2:=ko_new ((w.alloc (aO va d ty nm k)).alloc (aO (.slice none 0 0) false [] [] (0,0,[]))) (aO (.slice none 0 0) d ty nm (0,0,[]));have e1:(w.alloc (aO va d ty nm k)).heap.size=w.heap.size+1:=by simp
 have e2:((w.alloc (aO va d ty nm k)).alloc (aO (.slice none 0 0) false [] [] (0,0,[]))).heap.size=w.heap.size+1+1:=by simp
 rw [e1] at k1;rw [e2] at k2;exact ⟨n1 _ _ _ _ (n1 _ _ _ _ k0),n1 _ _ _ _ k1,k2,ownM_nil _ _,hW,by simp⟩
theorem Br.app (h:Br w W va k v xs d ty nm) (hb:Below W.heap.size W W1) {y:MS} {H g cap:Nat} (hm:MoreM (w.heap.size+3) W1 v (xs ++ [y]) H g cap W2) :
  (W2.cell? ⟨w.heap.size+1+1,0,none⟩=some v/\W2.frozen? ⟨w.heap.size+1+1,0,none⟩=false)/\Br w (W2.setCell ⟨w.heap.size+1+1,0,none⟩ (.slice (some ⟨g,0,none⟩) (xs ++ [y]).length cap)) va k (.slice (some ⟨g,0,none⟩) (xs ++ [y]).length cap) (xs ++ [y]) d ty nm:=by
 have h1:=h.below hb;have hf:=own_far h1.own;have hg:=hm.2.1;have hne:∀ j,j < w.heap.size+3->W2.heap[j]?=W1.heap[j]?:=fun j hj=>hg.block j (Nat.lt_of_lt_of_le hj h1.sz) (fun e=>by have:=(hf j e.symm).1;omega);have hou:=(hne _ (by omega)).trans h1.ou;obtain ⟨c0,_,_,_,_,_,_,cf,_⟩:=ao_cells hou;refine ⟨⟨c0,cf 0⟩,?_⟩;have had:=(hne _ (by omega)).trans h1.ad;have hre:=(hne _ (by omega)).trans h1.re;have hgs:=grown_setC W2 ⟨w.heap.size+1+1,0,none⟩ (.slice (some ⟨g,0,none⟩) (xs ++ [y]).length cap);have hbel:Below w.heap.size w W2:=h1.bel.grown hg h1.bel.size (fun k hk=>by have:=(hf k hk).1;omega);refine ⟨ko_kept had hgs (by simp only;omega),ko_kept hre hgs (by simp only;omega),?_,kept_off hm.1 hgs (fun g2 hg2 e=>?_),hbel.grown hgs hbel.size (fun k hk=>by cases hk;show w.heap.size<=w.heap.size+1+1;omega),Nat.le_trans (Nat.le_trans h1.sz hg.size) hgs.size⟩
 . unfold World.setCell aO at *
   simp only [Array.getElem?_modify,if_true,hou,Option.map_some];rfl
 . have:=(own_far hm.1 g2 hg2).1
   simp at e;omega
theorem Br.fin {W':World} (h:Br w W va k v xs d ty nm) (e:W'=((((((W.setCell ⟨w.heap.size+1,0,none⟩ v).setCell ⟨w.heap.size+1,1,none⟩ (.bool d)).setCell ⟨w.heap.size+1,2,none⟩ (.string ⟨ty.toArray⟩)).setCell ⟨w.heap.size+1,3,none⟩ (.string ⟨nm.toArray⟩)).setCell ⟨w.heap.size+1,4,none⟩ (.int .i64 0)).setCell ⟨w.heap.size+1,5,none⟩ (.int .i64 0)).setCell ⟨w.heap.size+1,6,none⟩ (.string ⟨#[]⟩)) :
  W'.heap[w.heap.size+1]?=some (aO v d ty nm (0,0,[]))/\OwnM w.heap.size W' v xs/\Below w.heap.size w W':=by
 obtain ⟨h1,hg⟩:=ao_fin h.re v d ty nm (0,0,[]) W' e;refine ⟨h1,row_le (kept_off h.own hg (fun g hg2 e=>?_)) (by omega),h.bel.grown hg h.bel.size (fun k hk=>by cases hk;omega)⟩;have:=(h.own.lt g hg2).1;simp at e;omega
end
set_option maxRecDepth 100000 in
set_option maxHeartbeats 8000000 in
theorem rbare_any (r:Option Addr) (c:Nat) (xs:List MS) (d:Bool) (ty nm:List UInt8) (k:KeyT) (w:World) (h:Sl MsR 4 w (.slice r xs.length c) xs) (hn:xs.length<=1200000) :
  Calls Tryz.prog 201 #[aV (.slice r xs.length c) d ty nm k] w (StaR w xs d ty nm):=by
 have HE:=hid (fun (W:World) (hW:Below w.heap.size w W)=>ms_at (h.below msR_mono hW));have I0:=hid (Br.start (w:=w) (va:=.slice r xs.length c) (k:=k) (d:=d) (ty:=ty) (nm:=nm));clear h;unfold aO at I0;unfold aV;go_enter Tryz.func201,Tryz.ntmps201;go_wp2
 generalize hW0:World.alloc _ _=W0 at *;go_loopw [4] (fun t wr=>∃ (n:Nat) (v:Value),n<=xs.length/\t=.int .i64 n/\Hid (Br w wr (.slice r xs.length c) k v ((xs.take n).map barM) d ty nm)) (fun t _=>xs.length - (RowKit.intOf t).toNat)
 case atStart=>exact ⟨0,_,Nat.zero_le _,rfl,I0⟩
 case round =>
  clear I0;obtain ⟨n,v,hnn,rfl,HP⟩:=hrel;obtain ⟨a0,_⟩:=ao_cells HP.out.ad
  by_cases hlt:n < xs.length
  . obtain ⟨b,off,rfl,hb,g0,g1,g2,g3⟩:=HE.out wr HP.out.bel n hlt
    have HBD:=hid (show Below wr.heap.size wr (wr.drew.alloc (.cells #[.string ⟨(xs[n]).1.toArray⟩,.int .i64 0,.int .i64 0,.string ⟨#[]⟩] 124)) from ((Below.refl _ _).drew).alloc (Nat.le_refl _) _);have HTK:=hid (show (xs.take (n+1)).map barM=(xs.take n).map barM ++ [barM xs[n]] by rw [List.take_succ_eq_append_getElem hlt,List.map_append];rfl);have HLN:=hid (show ((xs.take n).map barM).length+1<=2000000 by rw [List.length_map,List.length_take];omega);have hbM:barM xs[n]=((xs[n]).1,(0,0,[])):=rfl;generalize (xs.take n).map barM=ys at *;rw [hbM] at HTK;clear hbM g1 g2 g3;generalize (xs[n]).1=s at *;obtain ⟨u0,_,_,_,_,_,_,uf,_⟩:=ao_cells HP.out.ou;have uf0:=uf 0;obtain ⟨ro,co,hv,hc1,hc2⟩:=ownM_form HP.out.own;subst hv;have HD:=hid (show Below wr.heap.size wr wr.drew from (Below.refl _ _).drew);have HN:=hid (ko_new wr.drew (.cells #[.string ⟨s.toArray⟩,.int .i64 0,.int .i64 0,.string ⟨#[]⟩] 124));have HOW:=hid (HP.out.below HBD.out).own;have HSZ:=hid (HP.out.below HBD.out).sz;clear uf;go_wp2_with fail
    go_region_law
     (refine step_append_row encM encM_len encM_one Tryz.underlying88 msinfo rfl (by omega) (by omega) (by rfl) _ _ (by rfl) (w.heap.size+3) (.slice ro ys.length co) ys (by rfl) HOW.out wr.drew.heap.size 1 (s,0,0,[]) (by rfl) (fr:=(0,0)) (by exact HN.out) HLN.out HSZ.out (wr.drew.heap.size+1) (by simp) ?_
      intro g cap w5 m1 m2 m3 m4;have HP5:=hid (HP.out.app HBD.out (morem_of m1 m2 m3 m4));rw [show (ys ++ [((s,0,0,[]):MS)]).length=ys.length+1 by simp] at HP5;obtain ⟨⟨q5,f5⟩,_⟩:=HP5.out;clear m1 m2 m3 m4)
    all_goals go_wp2
    all_goals go_roundw
    all_goals first
     | (case measure=>simp [RowKit.intOf];omega)
     | exact ⟨n+1,_,by omega,by go_num,hid (by rw [HTK.out];exact HP5.out.2)⟩
     | skip
  . obtain rfl:n=xs.length:=by omega
    rw [List.take_length] at HP;unfold StaR;generalize hys:xs.map barM=ys at *;obtain ⟨ro,co,hv,hc1,hc2⟩:=ownM_form HP.out.own;subst hv;obtain ⟨_,a1,a2,a3,a4,a5,a6,_,_⟩:=ao_cells HP.out.ou;obtain ⟨o0,_⟩:=ao_cells HP.out.ou;obtain ⟨e0,e1,e2,e3,e4,e5,e6,ef,_⟩:=ao_cells HP.out.re;have g0:=ef 0;have g1:=ef 1;have g2:=ef 2;have g3:=ef 3;have g4:=ef 4;have g5:=ef 5;have g6:=ef 6;go_wp2
    obtain ⟨hb,ho,hbel⟩:=HP.out.fin rfl;obtain ⟨k0,k1,k2,k3,k4,k5,k6,_,_⟩:=ao_cells hb;exact bodyPost_ret (v:=aV (.slice ro ys.length co) d ty nm (0,0,[])) (by simp [results,Tryz.results201,go_sem,k0,k1,k2,k3,k4,k5,k6,aV]) rfl ⟨_,rfl,by subst hys;exact ho,hbel⟩
end Go.Proofs.YtomhbcfjhgecbaaGreatDoor.Adr
namespace Go.Proofs.YtomhbcfjhgecbaaGreatDoor.Adr
open Go.RowKit Go.Sort Go.Lib Go.Maps
open Go.Lib (hid)
set_option maxHeartbeats 4000000 in
theorem rstatic_any (s:ByteArray) (w:World) (hs:s.size<=1200001):Calls Tryz.prog 154 #[.string s] w fun e w'=>e=.returned (.tuple #[.string ⟨(stcB s.data.toList).toArray⟩,.int .i64 (prE s.data.toList)])/\Below w.heap.size w w':=by
 have HC:=hid (rparse_any s w hs);unfold RPaP at HC
 by_cases h0:prE s.data.toList=0
 . obtain ⟨xs,d,ty,nm,k,hA⟩:=addr_of h0
   have hB:=hA.bare;have HPR:=hid hA.pr;rw [stcB_ok hA h0];rw [h0] at HC ⊢;have hl:xs.length<=1200000:=by have:=hA.len;omega
   have HST:=hid (fun (r:Option Addr) (c:Nat) (W:World) (h:Sl MsR 4 W (.slice r xs.length c) xs)=>show Calls Tryz.prog 201 #[aV (.slice r xs.length c) d ty nm k] W (fun e w'=>∃ v',e=.returned (aV v' d ty nm (0,0,[]))/\OwnM W.heap.size w' v' (xs.map barM)/\Below W.heap.size W w') from rbare_any r c xs d ty nm k W h hl);have HF:=hid (fun (r:Option Addr) (c:Nat) (W:World) (h:Sl MsR 4 W (.slice r (xs.map barM).length c) (xs.map barM))=>rformat0 r c (xs.map barM) d ty nm W h hB hA.ty hA.nm);clear hs hA hB h0 hl;generalize xs.map barM=ys at *;go_enter Tryz.func154,Tryz.ntmps154;unfold aV at *
   go_wp2_with (first
    | (go_at_call 108
       refine HC.out.mono ?_;rintro e w1 ⟨v1,xs1,d1,ty1,nm1,k1,rfl,ho1,hb1,hp1⟩;have hp2:=hp1 rfl;rw [HPR.out] at hp2;obtain ⟨rfl,rfl,rfl,rfl,rfl⟩:xs=xs1/\d=d1/\ty=ty1/\nm=nm1/\k=k1:=by simpa using hp2
       clear hp1 hp2;obtain ⟨r1,c1,rfl,_,_⟩:=own_form ho1;have HO1:=hid ho1;have HB1:=hid hb1;clear ho1 hb1)
    | (go_at_call 201
       refine (HST.out _ _ _ (OwnM.sl (by exact kept_off HO1.out (grown_below ((Below.refl _ _).alloc (Nat.le_refl _) _)) (fun _ _ e=>by cases e)))).mono ?_;rintro e w2 ⟨v2,rfl,ho2,hb2⟩;obtain ⟨r2,c2,rfl,_,_⟩:=own_form ho2;have HO2:=hid (OwnM.sl ho2);have HB2:=hid hb2;clear ho2 hb2)
    | (go_at_call 200
       refine (HF.out _ _ _ HO2.out).mono ?_;rintro e w3 ⟨rfl,hb3⟩;have HB3:=hid hb3;clear hb3))
   go_ret2
   have h12:=HB1.out.trans ((((Below.refl _ _).alloc (Nat.le_refl _) _).trans (HB2.out.mono (by simp))).mono HB1.out.size);exact ⟨rfl,h12.trans (HB3.out.mono h12.size)⟩
 . rw [show stcB s.data.toList=[] by unfold stcB;rw [if_neg h0]]
   have hn:(prE s.data.toList != 0)=true:=by simp [h0]
   clear h0 hs;generalize prE s.data.toList=E at *;go_enter Tryz.func154,Tryz.ntmps154;go_wp2_with (go_at_call 108;refine HC.out.mono ?_;rintro e w1 ⟨v1,xs1,d1,ty1,nm1,k1,rfl,ho1,hb1,hp1⟩;have HB1:=hid hb1;obtain ⟨r1,c1,rfl,_,_⟩:=own_form ho1;clear hb1 hp1 ho1)
   go_ret2
   exact ⟨rfl,HB1.out.trans (((Below.refl _ _).alloc (Nat.le_refl _) _).mono HB1.out.size)⟩
end Go.Proofs.YtomhbcfjhgecbaaGreatDoor.Adr
