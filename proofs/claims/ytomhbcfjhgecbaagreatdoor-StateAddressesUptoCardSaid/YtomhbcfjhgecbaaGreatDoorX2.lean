import Derived.Test.YtomhbcfjhgecbaaGreatDoorX1
import Derived.Deep.LoopGhost
import Derived.IntWalk
import Derived.Lib.Builder
import Derived.Lib.AppendStr
import Derived.Lib.UnsafeStr
import Derived.Laws.Externs
import Derived.Shelf.Unicode.ValidAny
import Derived.Shelf.Spec.TrailingZeros
import Derived.Shelf.Strings.BuilderRune
import Derived.Lib.ValidLaws
import Derived.Lib.MapLaws
import Derived.Laws.BitsLemmas
import Derived.Lib.SmallJoins
import Derived.WalkLawsBesides
import Derived.Lib.OthersKept
import Derived.Lib.IndexAny
import Derived.WalkMore
import Derived.Deep.QuietTactic
import Derived.BigQuiet
import Derived.Lib.RuneCountTail
set_option linter.unusedVariables false
set_option linter.unusedSimpArgs false
namespace Go.Proofs.YtomhbcfjhgecbaaGreatDoor.Adr
open Go.RowKit Go.Sort Go.Lib Go.Maps
open Go.Lib (hid)
def ltr (c:Nat):Bool:=decide (97<=c/\c<=122) || decide (65<=c/\c<=90) || decide (c=95)
def dig (c:Nat):Bool:=decide (48<=c/\c<=57)
def wrd (c:Nat):Bool:=ltr c || dig c
def idB (l:List UInt8):Bool:=!l.isEmpty && decide (l.length<=64) && ltr (l.headD 0).toNat && l.all fun c=>wrd c.toNat
theorem orm (c:UInt8):∃ m:Nat,bits BinOp.or IntKind.u8 (c.toNat:Int) 32=(m:Int)/\((97<=m/\m<=122) ↔ ((97<=c.toNat/\c.toNat<=122) ∨ (65<=c.toNat/\c.toNat<=90))):=by
 have:∀ c:Fin 256,∃ m:Fin 256,bits BinOp.or IntKind.u8 (c.val:Int) 32=(m.val:Int)/\((97<=m.val/\m.val<=122) ↔ ((97<=c.val/\c.val<=122) ∨ (65<=c.val/\c.val<=90))):=by decide +kernel
 obtain ⟨m,h⟩:=this ⟨c.toNat,c.toNat_lt⟩;exact ⟨m.val,h⟩
theorem size_list (s:ByteArray):s.data.toList.length=s.size:=by rw [Array.length_toList];rfl
theorem get_list (s:ByteArray) (i:Nat) (h:i < s.size):s.data.toList[i]'(by rw [size_list];exact h)=s[i]:=by rfl
theorem ret_bool {a b:Bool} (h:a=b):Ending.returned (.bool b)=.returned (.bool a):=by rw [h]
theorem lt256 (c:UInt8):c.toNat<=255:=by have:=c.toNat_lt;omega
theorem rletter_any (c:UInt8) (w:World):Calls Tryz.prog 171 #[.int .u8 c.toNat] w fun e w'=>e=.returned (.bool (ltr c.toNat))/\w=w':=by
 have hc:=lt256 c;generalize c.toNat=n at *
 by_cases h1:(97:Int)<=n <;> by_cases h2:(n:Int)<=122 <;> by_cases h3:(65:Int)<=n <;> by_cases h4:(n:Int)<=90 <;> first
  | (exfalso;omega)
  | (go_enter Tryz.func171,Tryz.ntmps171
     go_wp2
     go_ret
     exact ⟨ret_bool (by rw [Bool.eq_iff_iff];simp [ltr];omega),rfl⟩)
def okI (i c:Nat):Bool:=ltr c || (decide (i≠0) && dig c)
theorem okI_iff (i c:Nat):okI i c=true ↔ (97<=c/\c<=122 ∨ 65<=c/\c<=90 ∨ c=95) ∨ (i≠0/\48<=c/\c<=57):=by simp [okI,ltr,dig];omega
theorem idB_yes {s:ByteArray} (h:∀ j (hj:j < s.size),okI j s[j].toNat=true):idB s.data.toList=(!decide (s.size=0) && decide (s.size<=64)):=by
 unfold idB;have hl:=size_list s;cases hs:s.data.toList with
 | nil=>rw [hs] at hl;simp at hl;simp [<-hl]
 | cons x l =>
   have h0:s.size=l.length+1:=by rw [<-hl,hs];rfl
   have hx:okI 0 x.toNat=true:=by
    have:=h 0 (by omega);rw [<-get_list s 0 (by omega)] at this;simpa [hs] using this
   have hall:((x :: l).all fun c=>wrd c.toNat)=true:=by
    rw [List.all_eq_true];intro c hc;rw [<-hs] at hc;obtain ⟨j,hj,rfl⟩:=List.mem_iff_getElem.1 hc;rw [hl] at hj;have:=h j hj;rw [get_list s j hj];simp [okI,wrd,ltr,dig] at this ⊢;omega
   have hl0:ltr x.toNat=true:=by simpa [okI] using hx
   rw [hall];simp [h0,hl0]
theorem idB_no {s:ByteArray} {j:Nat} (hj:j < s.size) (h:okI j s[j].toNat=false):idB s.data.toList=false:=by
 unfold idB;have hl:=size_list s;cases hs:s.data.toList with
 | nil=>rfl
 | cons x l =>
   by_cases h0:j=0
   . subst h0
     have:ltr x.toNat=false:=by
      rw [<-get_list s 0 hj] at h;simpa [okI,hs] using h
     simp [this]
   . have:((x :: l).all fun c=>wrd c.toNat)=false:=by
      rw [List.all_eq_false];refine ⟨s[j],?_,?_⟩
      . rw [<-hs,<-get_list s j hj];exact List.getElem_mem _
      . simp [okI,wrd,ltr,dig] at h ⊢;omega
     rw [this];simp
set_option maxHeartbeats 4000000 in
theorem pident_any (s:ByteArray) (w:World) (hs:s.size<=2000000):Calls Tryz.prog 83 #[.string s] w fun e w'=>e=.returned (.bool (idB s.data.toList))/\w=w':=by
 have HY:=hid (idB_yes (s:=s));have HN:=hid (fun j hj h=>idB_no (s:=s) (j:=j) hj h);go_enter Tryz.func83,Tryz.ntmps83;go_wp2
 go_loop [7] (fun i=>∃ k:Nat,k<=s.size/\i=.int .i64 k/\Hid (∀ j (hj:j < s.size),j < k->okI j s[j].toNat=true)) (fun i=>s.size - (RowKit.intOf i).toNat)
 case atStart=>exact ⟨0,by omega,rfl,hid (fun j hj h=>absurd h (by omega))⟩
 case round =>
  obtain ⟨k,hk,rfl,HA⟩:=hrel
  by_cases hlt:k < s.size
  . obtain ⟨m,hm,hmi⟩:=orm s[k]
    have HAk:=hid (fun (h:okI k s[k].toNat=true)=>show ∀ j (hj:j < s.size),j < k+1->okI j s[j].toNat=true from fun j hj hjk=>by
     by_cases e:j < k
     . exact HA.out j hj e
     . obtain rfl:j=k:=by omega
       exact h)
    have HNk:=hid (HN.out k hlt);have hc:=lt256 s[k];have hI:=okI_iff k s[k].toNat
    clear HA HN HY;cases hok:okI k s[k].toNat
    . have HR:=hid (HNk.out hok)
      have hI2:=mt hI.2 (by rw [hok];simp);clear hI hok HNk HAk;have h1:((s[k].toNat:Int) != 95)=true:=by simp;omega
      have h2:(m:Int) < 97 ∨ 122 < (m:Int):=by omega
      rcases h2 with h2 | h2 <;> by_cases h4:(k:Int)=0 <;> by_cases h5:(s[k].toNat:Int) < 48 <;> first
       | (exfalso;omega)
       | (have h4':=h4
          first | (have h4b:((k:Int) == 0)=true:=by simp;omega) | (have h4b:((k:Int) == 0)=false:=by simp;omega)
          try have h6:(57:Int) < (s[k].toNat:Int):=by omega
          clear h4 h4' hI2 hmi;go_wp2
          go_ret
          exact ⟨ret_bool HR.out,rfl⟩)
    . have HX:=hid (HAk.out hok)
      have hI2:=hI.1 hok;clear hI hok HNk HAk
      by_cases h0:(s[k].toNat:Int)=95
      . have h1:((s[k].toNat:Int) != 95)=false:=by simp;omega
        clear h0 hI2 hmi;go_wp2
        go_round
        case rel=>exact ⟨k+1,by omega,by go_num,HX⟩
        case measure=>(simp [RowKit.intOf] <;> omega)
      . have h1:((s[k].toNat:Int) != 95)=true:=by simp;omega
        by_cases h2:(97:Int)<=(m:Int) <;> by_cases h3:(m:Int)<=122 <;> first
         | (exfalso;omega)
         | (have _hlet:(97:Int)<=(m:Int)/\(m:Int)<=122:=⟨h2,h3⟩
            clear h0 hI2 hmi _hlet;go_wp2
            go_round
            case rel=>exact ⟨k+1,by omega,by go_num,HX⟩
            case measure=>(simp [RowKit.intOf] <;> omega))
         | (have h4:((k:Int) == 0)=false:=by simp;omega
            have h5:(48:Int)<=(s[k].toNat:Int):=by omega
            have h6:(s[k].toNat:Int)<=57:=by omega
            clear h0 hI2 hmi;go_wp2
            go_round
            case rel=>exact ⟨k+1,by omega,by go_num,HX⟩
            case measure=>(simp [RowKit.intOf] <;> omega))
  . have hke:k=s.size:=by omega
    have HR:=hid (HY.out (fun j hj=>HA.out j hj (by omega)));clear HY HN HA hke
    by_cases h0:s.size=0
    . have e0:s.toList.isEmpty=true:=by rw [ByteArray.toList_eq];have:=size_list s;cases h:s.data.toList with | nil=>rfl | cons _ _=>rw [h] at this;simp at this;omega
      have HR2:=hid (show idB s.data.toList=false by rw [HR.out];simp [h0]);clear h0;go_wp2
      go_ret
      exact ⟨ret_bool HR2.out,rfl⟩
    . have e0:s.toList.isEmpty=false:=by rw [ByteArray.toList_eq];have:=size_list s;cases h:s.data.toList with | nil=>rw [h] at this;simp at this;omega | cons _ _=>rfl
      have HR2:=hid (show idB s.data.toList=decide (s.size<=64) by rw [HR.out];simp [h0]);clear h0;go_wp2
      go_ret
      exact ⟨ret_bool (by rw [HR2.out,Bool.eq_iff_iff];simp;omega),rfl⟩
def rsv (l:List UInt8):Bool:=[[109,111,100,117,108,101],[100,97,116,97],[118,97,114],[108,111,99,97,108],[101,97,99,104],[99,111,117,110,116],[114,101,109,111,116,101],[111,117,116,112,117,116],[112,97,116,104],[115,101,108,102],[99,104,97,110,103,101]].any fun x=>l == x
set_option maxHeartbeats 4000000 in
theorem pkind_any (s:ByteArray) (w:World) (hs:s.size<=2000000):Calls Tryz.prog 99 #[.string s] w fun e w'=>e=.returned (.bool (idB s.data.toList && !rsv s.data.toList))/\w=w':=by
 have HI:=hid (pident_any s w hs);have HRV:=hid (show rsv s.data.toList=((s.toList == [109,111,100,117,108,101]) || (s.toList == [100,97,116,97]) || (s.toList == [118,97,114]) || (s.toList == [108,111,99,97,108]) || (s.toList == [101,97,99,104]) || (s.toList == [99,111,117,110,116]) || (s.toList == [114,101,109,111,116,101]) || (s.toList == [111,117,116,112,117,116]) || (s.toList == [112,97,116,104]) || (s.toList == [115,101,108,102]) || (s.toList == [99,104,97,110,103,101])) by rw [ByteArray.toList_eq];simp [rsv,Bool.or_assoc]);cases h0:(s.toList == [109,111,100,117,108,101])
 case true =>
  have HR:=hid (show (idB s.data.toList && !rsv s.data.toList)=false by rw [HRV.out,h0];simp);clear HRV HI;go_enter Tryz.func99,Tryz.ntmps99;go_wp2
  go_ret
  exact ⟨ret_bool HR.out,rfl⟩
 cases h1:(s.toList == [100,97,116,97])
 case true =>
  have HR:=hid (show (idB s.data.toList && !rsv s.data.toList)=false by rw [HRV.out,h1];simp);clear HRV HI;go_enter Tryz.func99,Tryz.ntmps99;go_wp2
  go_ret
  exact ⟨ret_bool HR.out,rfl⟩
 cases h2:(s.toList == [118,97,114])
 case true =>
  have HR:=hid (show (idB s.data.toList && !rsv s.data.toList)=false by rw [HRV.out,h2];simp);clear HRV HI;go_enter Tryz.func99,Tryz.ntmps99;go_wp2
  go_ret
  exact ⟨ret_bool HR.out,rfl⟩
 cases h3:(s.toList == [108,111,99,97,108])
 case true =>
  have HR:=hid (show (idB s.data.toList && !rsv s.data.toList)=false by rw [HRV.out,h3];simp);clear HRV HI;go_enter Tryz.func99,Tryz.ntmps99;go_wp2
  go_ret
  exact ⟨ret_bool HR.out,rfl⟩
 cases h4:(s.toList == [101,97,99,104])
 case true =>
  have HR:=hid (show (idB s.data.toList && !rsv s.data.toList)=false by rw [HRV.out,h4];simp);clear HRV HI;go_enter Tryz.func99,Tryz.ntmps99;go_wp2
  go_ret
  exact ⟨ret_bool HR.out,rfl⟩
 cases h5:(s.toList == [99,111,117,110,116])
 case true =>
  have HR:=hid (show (idB s.data.toList && !rsv s.data.toList)=false by rw [HRV.out,h5];simp);clear HRV HI;go_enter Tryz.func99,Tryz.ntmps99;go_wp2
  go_ret
  exact ⟨ret_bool HR.out,rfl⟩
 cases h6:(s.toList == [114,101,109,111,116,101])
 case true =>
  have HR:=hid (show (idB s.data.toList && !rsv s.data.toList)=false by rw [HRV.out,h6];simp);clear HRV HI;go_enter Tryz.func99,Tryz.ntmps99;go_wp2
  go_ret
  exact ⟨ret_bool HR.out,rfl⟩
 cases h7:(s.toList == [111,117,116,112,117,116])
 case true =>
  have HR:=hid (show (idB s.data.toList && !rsv s.data.toList)=false by rw [HRV.out,h7];simp);clear HRV HI;go_enter Tryz.func99,Tryz.ntmps99;go_wp2
  go_ret
  exact ⟨ret_bool HR.out,rfl⟩
 cases h8:(s.toList == [112,97,116,104])
 case true =>
  have HR:=hid (show (idB s.data.toList && !rsv s.data.toList)=false by rw [HRV.out,h8];simp);clear HRV HI;go_enter Tryz.func99,Tryz.ntmps99;go_wp2
  go_ret
  exact ⟨ret_bool HR.out,rfl⟩
 cases h9:(s.toList == [115,101,108,102])
 case true =>
  have HR:=hid (show (idB s.data.toList && !rsv s.data.toList)=false by rw [HRV.out,h9];simp);clear HRV HI;go_enter Tryz.func99,Tryz.ntmps99;go_wp2
  go_ret
  exact ⟨ret_bool HR.out,rfl⟩
 cases h10:(s.toList == [99,104,97,110,103,101])
 case true =>
  have HR:=hid (show (idB s.data.toList && !rsv s.data.toList)=false by rw [HRV.out,h10];simp);clear HRV HI;go_enter Tryz.func99,Tryz.ntmps99;go_wp2
  go_ret
  exact ⟨ret_bool HR.out,rfl⟩
 have HR:=hid (show (idB s.data.toList && !rsv s.data.toList)=idB s.data.toList by rw [HRV.out,h0,h1,h2,h3,h4,h5,h6,h7,h8,h9,h10];simp);clear HRV;go_enter Tryz.func99,Tryz.ntmps99;go_wp2_with fail
 refine HI.out.mono ?_;rintro e w1 ⟨rfl,hw⟩;obtain rfl:=hw;go_wp2
 go_ret
 exact ⟨ret_bool HR.out,rfl⟩
def nms:List ByteArray:=[⟨#[109,111,100,117,108,101]⟩,⟨#[100,97,116,97]⟩,⟨#[118,97,114]⟩,⟨#[108,111,99,97,108]⟩,⟨#[111,117,116,112,117,116]⟩,⟨#[101,97,99,104]⟩,⟨#[99,111,117,110,116]⟩,⟨#[114,101,109,111,116,101]⟩,⟨#[112,97,116,104]⟩,⟨#[115,101,108,102]⟩,⟨#[99,104,97,110,103,101]⟩]
theorem rsv_eq (s:ByteArray):rsv s.data.toList=nms.any fun x=>(x.toList == s.toList):=by
 have hb:∀ a b:List UInt8,(a == b)=(b == a):=fun a b=>by rw [Bool.eq_iff_iff];simp only [beq_iff_eq];exact ⟨Eq.symm,Eq.symm⟩
 have e:∀ x:ByteArray,x.toList=x.data.toList:=fun x=>ByteArray.toList_eq x;simp only [rsv,nms,List.any_cons,List.any_nil,e,Bool.or_false];rw [hb s.data.toList [109,111,100,117,108,101]];rw [hb s.data.toList [100,97,116,97]];rw [hb s.data.toList [118,97,114]];rw [hb s.data.toList [108,111,99,97,108]];rw [hb s.data.toList [101,97,99,104]];rw [hb s.data.toList [99,111,117,110,116]];rw [hb s.data.toList [114,101,109,111,116,101]];rw [hb s.data.toList [111,117,116,112,117,116]];rw [hb s.data.toList [112,97,116,104]];rw [hb s.data.toList [115,101,108,102]];rw [hb s.data.toList [99,104,97,110,103,101]]
 ac_rfl
theorem ident_first {s:ByteArray} (h:0 < s.size):s.data.toList.headD 0=s[0]:=by
 have:=get_list s 0 h;cases hs:s.data.toList with
 | nil=>have h2:=size_list s;rw [hs] at h2;simp at h2;omega
 | cons x l=>simp [hs] at this;simpa using this
theorem idB_not {s:ByteArray} (h:s.size=0 ∨ 64 < s.size ∨ ∃ h:0 < s.size,ltr s[0].toNat=false):idB s.data.toList=false:=by
 have hl:=size_list s;unfold idB;rcases h with h | h | ⟨h0,h⟩
 . have:s.data.toList=[]:=List.eq_nil_of_length_eq_zero (by omega)
   rw [this];rfl
 . rw [hl,decide_eq_false (by omega)];simp
 . rw [ident_first h0,h];simp
theorem okI_of (i c:Nat) (h:ltr c=true):okI i c=true:=by unfold okI;rw [h];rfl
theorem str_nil {s:ByteArray} (h:s.size=0):s.toList.isEmpty=true:=by
 rw [ByteArray.toList_eq];have:=size_list s;cases hs:s.data.toList with
 | nil=>rfl
 | cons _ _=>rw [hs] at this;simp at this;omega
theorem str_cons {s:ByteArray} (h:s.size≠0):s.toList.isEmpty=false:=by
 rw [ByteArray.toList_eq];have:=size_list s;cases hs:s.data.toList with
 | nil=>rw [hs] at this;simp at this;omega
 | cons _ _=>rfl
set_option maxHeartbeats 4000000 in
theorem rident_any (s:ByteArray) (w:World) (hs:s.size<=2000000):Calls Tryz.prog 128 #[.string s] w fun e w'=>e=.returned (.bool (idB s.data.toList))/\w=w':=by
 by_cases h0:s.size=0
 . have HR:=hid (idB_not (Or.inl h0))
   have e0:=str_nil h0;clear h0;go_enter Tryz.func128,Tryz.ntmps128;go_wp2
   go_ret
   exact ⟨ret_bool HR.out,rfl⟩
 have e0:=str_cons h0;have hpos:0 < s.size:=by omega
 by_cases h1:64 < s.size
 . have HR:=hid (idB_not (Or.inr (Or.inl h1)))
   have h2:(64:Int) < s.size:=by omega
   clear h0 h1;go_enter Tryz.func128,Tryz.ntmps128;go_wp2
   go_ret
   exact ⟨ret_bool HR.out,rfl⟩
 have h2:¬ (64:Int) < s.size:=by omega
 have HL0:=hid (rletter_any s[0] w);cases hl0:ltr s[0].toNat
 . have HR:=hid (idB_not (Or.inr (Or.inr ⟨hpos,hl0⟩)))
   rw [hl0] at HL0;clear h0 h1 hl0;go_enter Tryz.func128,Tryz.ntmps128;go_wp2_with (go_at_call 171;refine HL0.out.mono ?_;rintro e w1 ⟨rfl,rfl⟩)
   go_ret
   exact ⟨ret_bool HR.out,rfl⟩
 have HY:=hid (fun h=>(idB_yes (s:=s) h).trans (by rw [decide_eq_false h0,decide_eq_true (show s.size<=64 by omega)]));have HN:=hid (fun j hj h=>idB_no (s:=s) (j:=j) hj h);have HF:=hid hl0;rw [hl0] at HL0;clear h0 h1 hl0;go_enter Tryz.func128,Tryz.ntmps128;go_wp2_with (go_at_call 171;refine HL0.out.mono ?_;rintro e w1 ⟨rfl,rfl⟩)
 go_loop [3] (fun i=>∃ k:Nat,k<=s.size/\i=.int .i64 k/\Hid (∀ j (hj:j < s.size),j < k->okI j s[j].toNat=true)) (fun i=>s.size - (RowKit.intOf i).toNat)
 case atStart=>exact ⟨0,by omega,rfl,hid (fun j hj h=>absurd h (by omega))⟩
 case round =>
  obtain ⟨k,hk,rfl,HA⟩:=hrel
  by_cases hlt:k < s.size
  . have HAk:=hid (fun (h:okI k s[k].toNat=true)=>show ∀ j (hj:j < s.size),j < k+1->okI j s[j].toNat=true from fun j hj hjk=>by
     by_cases e:j < k
     . exact HA.out j hj e
     . obtain rfl:j=k:=by omega
       exact h)
    have HNk:=hid (HN.out k hlt);have HLk:=hid (rletter_any s[k] w);have hc:=lt256 s[k];cases hlk:ltr s[k].toNat
    . have hk0:k≠0:=fun e=>by subst e;rw [HF.out] at hlk;cases hlk
      rw [hlk] at HLk
      by_cases h5:(s[k].toNat:Int) < 48
      . have HR:=hid (HNk.out (by unfold okI dig;rw [hlk];simp;omega))
        clear HN HA HY hlk HNk HAk hk0;go_wp2_with (go_at_call 171;refine HLk.out.mono ?_;rintro e w1 ⟨rfl,rfl⟩)
        go_ret
        exact ⟨ret_bool HR.out,rfl⟩
      . by_cases h6:(57:Int) < (s[k].toNat:Int)
        . have HR:=hid (HNk.out (by unfold okI dig;rw [hlk];simp;omega))
          clear HN HA HY hlk HNk HAk hk0;go_wp2_with (go_at_call 171;refine HLk.out.mono ?_;rintro e w1 ⟨rfl,rfl⟩)
          go_ret
          exact ⟨ret_bool HR.out,rfl⟩
        . have HX:=hid (HAk.out (by unfold okI dig;rw [decide_eq_true (show 48<=s[k].toNat/\s[k].toNat<=57 by omega),decide_eq_true hk0];simp))
          clear HN HA HY hlk HNk HAk hk0;go_wp2_with (go_at_call 171;refine HLk.out.mono ?_;rintro e w1 ⟨rfl,rfl⟩)
          go_round
          case rel=>exact ⟨k+1,by omega,by go_num,HX⟩
          case measure=>(simp [RowKit.intOf] <;> omega)
    . have HX:=hid (HAk.out (okI_of _ _ hlk))
      rw [hlk] at HLk;clear HN HA HY hlk HNk HAk;go_wp2_with (go_at_call 171;refine HLk.out.mono ?_;rintro e w1 ⟨rfl,rfl⟩)
      go_round
      case rel=>exact ⟨k+1,by omega,by go_num,HX⟩
      case measure=>(simp [RowKit.intOf] <;> omega)
  . have HR:=hid (HY.out (fun j hj=>HA.out j hj (by omega)))
    clear HY HN HA;go_wp2
    go_ret
    exact ⟨ret_bool HR.out,rfl⟩
set_option maxHeartbeats 4000000 in
theorem rreserved_any (s:ByteArray) (w:World):Calls Tryz.prog 196 #[.string s] w fun e w'=>e=.returned (.bool (rsv s.data.toList))/\Below w.heap.size w w':=by
 have HRV:=hid (rsv_eq s);have HB:=hid (show Below w.heap.size w (w.alloc (.cells #[.string ⟨#[109,111,100,117,108,101]⟩,.string ⟨#[100,97,116,97]⟩,.string ⟨#[118,97,114]⟩,.string ⟨#[108,111,99,97,108]⟩,.string ⟨#[111,117,116,112,117,116]⟩,.string ⟨#[101,97,99,104]⟩,.string ⟨#[99,111,117,110,116]⟩,.string ⟨#[114,101,109,111,116,101]⟩,.string ⟨#[112,97,116,104]⟩,.string ⟨#[115,101,108,102]⟩,.string ⟨#[99,104,97,110,103,101]⟩] 9)) from (Below.refl _ _).alloc (Nat.le_refl _) _)
 have hc:∀ k (hk:k < 11),(w.alloc (.cells #[.string ⟨#[109,111,100,117,108,101]⟩,.string ⟨#[100,97,116,97]⟩,.string ⟨#[118,97,114]⟩,.string ⟨#[108,111,99,97,108]⟩,.string ⟨#[111,117,116,112,117,116]⟩,.string ⟨#[101,97,99,104]⟩,.string ⟨#[99,111,117,110,116]⟩,.string ⟨#[114,101,109,111,116,101]⟩,.string ⟨#[112,97,116,104]⟩,.string ⟨#[115,101,108,102]⟩,.string ⟨#[99,104,97,110,103,101]⟩] 9)).cell? ⟨w.heap.size,k,none⟩=some (.string (nms[k]'(by simpa [nms] using hk))):=fun k hk=>by
  refine cell_at rfl ?_;have:k=0 ∨ k=1 ∨ k=2 ∨ k=3 ∨ k=4 ∨ k=5 ∨ k=6 ∨ k=7 ∨ k=8 ∨ k=9 ∨ k=10:=by omega
  rcases this with rfl | rfl | rfl | rfl | rfl | rfl | rfl | rfl | rfl | rfl | rfl <;> rfl
 have HC:=hid hc;clear hc;go_enter Tryz.func196,Tryz.ntmps196;go_wp2
 generalize w.alloc (.cells #[.string ⟨#[109,111,100,117,108,101]⟩,.string ⟨#[100,97,116,97]⟩,.string ⟨#[118,97,114]⟩,.string ⟨#[108,111,99,97,108]⟩,.string ⟨#[111,117,116,112,117,116]⟩,.string ⟨#[101,97,99,104]⟩,.string ⟨#[99,111,117,110,116]⟩,.string ⟨#[114,101,109,111,116,101]⟩,.string ⟨#[112,97,116,104]⟩,.string ⟨#[115,101,108,102]⟩,.string ⟨#[99,104,97,110,103,101]⟩] 9)=W at *;go_loop [4] (fun i=>∃ k:Nat,k<=11/\i=.int .i64 k/\Hid (∀ j (hj:j < nms.length),j < k->(nms[j].toList == s.toList)=false)) (fun i=>11 - (RowKit.intOf i).toNat)
 case atStart=>exact ⟨0,by omega,rfl,hid (fun j hj h=>absurd h (by omega))⟩
 case round =>
  obtain ⟨k,hk,rfl,HA⟩:=hrel
  by_cases hlt:k < 11
  . have g:=HC.out k hlt
    have hkn:k < nms.length:=by simpa [nms] using hlt
    have HX:=hid (fun (h:(nms[k].toList == s.toList)=false)=>show ∀ j (hj:j < nms.length),j < k+1->(nms[j].toList == s.toList)=false from fun j hj hjk=>by
     by_cases e:j < k
     . exact HA.out j hj e
     . obtain rfl:j=k:=by omega
       exact h)
    have HYs:=hid (fun (h:(nms[k].toList == s.toList)=true)=>show rsv s.data.toList=true by rw [HRV.out,List.any_eq_true];exact ⟨_,List.getElem_mem hkn,h⟩);clear HA HC HRV;generalize nms[k]=x at *;cases he:(x.toList == s.toList)
    . have HXX:=hid (HX.out he)
      clear HX HYs;go_wp2
      go_round
      case rel=>exact ⟨k+1,by omega,by go_num,HXX⟩
      case measure=>(simp [RowKit.intOf] <;> omega)
    . have HR:=hid (HYs.out he)
      clear HX HYs;go_wp2
      go_ret
      exact ⟨ret_bool HR.out,HB.out⟩
  . have HR:=hid (show rsv s.data.toList=false by
     rw [HRV.out,List.any_eq_false];intro x hx;obtain ⟨j,hj,rfl⟩:=List.mem_iff_getElem.1 hx;have:=HA.out j hj (by have:nms.length=11:=rfl;omega);rw [this];simp)
    clear HA HRV HC;go_wp2
    go_ret
    exact ⟨ret_bool HR.out,HB.out⟩
theorem byteinfo:(Tryz.prog.info? 5).map (fun i=>(i.zero,i.size,i.bytes))=some (some (.int .u8 0),1,1):=by kernel_rfl
theorem bldinfo:(Tryz.prog.info? 205).map (·.size)=some 2:=by kernel_rfl
theorem bldlies:liesAt Tryz.prog Tryz.prog.depth 205 (2 / Tryz.prog.cellsOf 205) 0 205 1=true:=by kernel_rfl
abbrev BL (B b:Nat) (l:List UInt8) (w:World):Prop:=Lib.IsBuilder 205 5 B b (Lib.byteCells l) w
set_option maxHeartbeats 2000000 in
set_option maxRecDepth 100000 in
theorem bcheck_any (B b:Nat) (bs:List Value) (w:World) (h:Lib.IsBuilder 205 5 B b bs w) :
  Calls Tryz.prog 218 #[.pointer (some ⟨b,0,none⟩)] w fun e w'=>e=.returned (.tuple #[])/\(Lib.BuilderAt 205 5 B b (.pointer (some ⟨b,0,none⟩)) bs w'/\Below B w w'):=by
 obtain ⟨j,hj,hjs⟩:=Option.map_eq_some_iff.1 bldinfo;rcases h with h | h
 . have h0:=h.cell0
   have hsh:=h.shape;have hfz:=h.frozen0;have H:=hid h;clear h;go_enter Tryz.func218,Tryz.ntmps218;go_wp2
   rw [Lib.run_to_unsafe w ⟨b,0,none⟩ Tryz.underlying203 Tryz.underlying255 hj (by rw [hjs];decide) hsh (Nat.zero_lt_succ 1)];simp only [Result.andThen];rw [Oper.upon_value];go_wp2
   rw [run_callFunc_extern Tryz.func239 (by kernel_rfl) (by kernel_rfl) (by kernel_rfl) (e:=Extern.AbiNoEscape.same) (by kernel_rfl)];rw [Lib.run_noEscape];simp only [Result.andThen];rw [Oper.upon_value];go_wp2
   rw [Lib.run_from_unsafe w ⟨b,0,none⟩ Tryz.underlying255 Tryz.underlying203 hj hsh bldlies];simp only [Result.andThen];rw [Oper.upon_value];go_wp2
   go_end0
   exact ⟨rfl,H.out.used _,(Below.refl B w).setCell (p:=⟨b,0,none⟩) H.out.1 _⟩
 . have h0:=h.cell0
   have H:=hid h;clear h;go_enter Tryz.func218,Tryz.ntmps218;go_wp2
   rw [Lib.run_neq_ptr_same w _ Tryz.underlying203 hj];go_wp2
   go_end0
   exact ⟨rfl,H.out,Below.refl B _⟩
set_option maxHeartbeats 2000000 in
set_option maxRecDepth 100000 in
theorem bbyte_any (B b:Nat) (bs:List Value) (c:Int) (w:World) (h:Lib.IsBuilder 205 5 B b bs w) (hlen:bs.length+1<=140737488355328) (hBw:B<=w.heap.size) :
  Calls Tryz.prog 184 #[.pointer (some ⟨b,0,none⟩),.int .u8 c] w fun e w'=>e=.returned .nilIface/\(Lib.BuilderAt 205 5 B b (.pointer (some ⟨b,0,none⟩)) (bs ++ [.int .u8 c]) w'/\Below B w w'):=by
 obtain ⟨i0,hi,hz0,hz1,hz2⟩:=info_parts byteinfo;go_enter Tryz.func184,Tryz.ntmps184;go_wp2_with (go_at_call 218;refine (bcheck_any B b bs _ h).mono ?_)
 rintro e w1 ⟨rfl,h1,hb1⟩;obtain ⟨hB,v,hbk,hown,hne⟩:=h1;have c0:w1.cell? ⟨b,0,none⟩=some (.pointer (some ⟨b,0,none⟩)):=by rw [Lib.cell_of_heap hbk];rfl
 have c1:w1.cell? ⟨b,1,none⟩=some v:=by rw [Lib.cell_of_heap hbk];rfl
 go_wp2_with (at_builtin;refine wpList_append_own _ rfl _ _ 178 rfl B 5 i0 (.int .u8 0) 1 1 Tryz.underlying178 hi hz0 hz1 hz2 rfl (by decide) _ _ _ rfl (hown.alloc _) ⟨w1.heap.size,0,none⟩ 1 1 [.int .u8 c] rfl rfl ?c1 ?c2 ?c3 ?c4 ?c5 ?_)
 case c1 =>
  intro j u hj
  match j,hj with
  | 0,hj=>simp at hj;subst hj;simp [Addr.add]
 case c2=>intro u hu;simp at hu;subst hu;rfl
 case c3=>unfold maxLen;omega
 case c4=>omega
 case c5=>have:=hb1.size;simp;omega
 intro v' w2 hown' hgrow _
 have hlt:b < w1.heap.size:=by
  rcases Nat.lt_or_ge b w1.heap.size with h' | h'
  . exact h'
  . simp [Array.getElem?_eq_none h'] at hbk
 have hb2:w2.heap[b]?=some (.cells #[.pointer (some ⟨b,0,none⟩),v] 205 (0,0)):=by
  rw [hgrow.block b (by simp;omega) (fun e=>hne e.symm),Lib.alloc_old w1 _ b hlt];exact hbk
 have d0:w2.cell? ⟨b,0,none⟩=some (.pointer (some ⟨b,0,none⟩)):=by rw [Lib.cell_of_heap hb2];rfl
 have d1:w2.cell? ⟨b,1,none⟩=some v:=by rw [Lib.cell_of_heap hb2];rfl
 have f1:w2.frozen? ⟨b,1,none⟩=false:=Lib.frozen_of_heap hb2 1
 obtain ⟨g,cap,rfl⟩:∃ g cap,v'=.slice (some ⟨g,0,none⟩) (bs.length+1) cap:=by
  rcases hown'.2 with ⟨_,h0⟩ | ⟨g,cap,cur,hv,_⟩
  . omega
  . exact ⟨g,cap,hv⟩
 go_wp2
 go_ret
 refine ⟨rfl,?_,?_⟩
 . exact Lib.BuilderAt.put (T:=205) (e:=5) hB hb2 (bs':=bs ++ [.int .u8 c]) (by simpa using hown') (by decide)
 . exact ((hb1.alloc (by have:=hb1.size;omega) _).grown hgrow (by have:=hb1.size;simp;omega) (fun k hk=>(hown.lt k hk).1)).setCell (p:=⟨b,1,none⟩) hB _
set_option maxHeartbeats 2000000 in
set_option maxRecDepth 100000 in
theorem bstr_any (B b:Nat) (bs:List Value) (s:ByteArray) (w:World) (h:Lib.IsBuilder 205 5 B b bs w) (hlen:bs.length+s.size<=140737488355328) (hBw:B<=w.heap.size) :
  Calls Tryz.prog 185 #[.pointer (some ⟨b,0,none⟩),.string s] w fun e w'=>e=.returned (.tuple #[.int .i64 s.size,.nilIface])/\(Lib.BuilderAt 205 5 B b (.pointer (some ⟨b,0,none⟩)) (bs ++ Lib.strCells s) w'/\Below B w w'):=by
 obtain ⟨i0,hi,hz0,hz1,hz2⟩:=info_parts byteinfo;go_enter Tryz.func185,Tryz.ntmps185;go_wp2_with (go_at_call 218;refine (bcheck_any B b bs _ h).mono ?_)
 rintro e w1 ⟨rfl,h1,hb1⟩;obtain ⟨hB,v,hbk,hown,hne⟩:=h1;have c0:w1.cell? ⟨b,0,none⟩=some (.pointer (some ⟨b,0,none⟩)):=by rw [Lib.cell_of_heap hbk];rfl
 have c1:w1.cell? ⟨b,1,none⟩=some v:=by rw [Lib.cell_of_heap hbk];rfl
 go_wp2_with (at_builtin;refine Lib.wpList_append_own_string _ rfl _ _ 178 9 rfl B 5 i0 Tryz.underlying178 Tryz.underlying9 hi hz0 hz1 hz2 _ _ _ rfl hown s rfl ?c3 ?c4 ?c5 ?_)
 case c3=>unfold maxLen;omega
 case c4=>omega
 case c5=>have:=hb1.size;omega
 intro v' w2 hown' hgrow _
 have hlt:b < w1.heap.size:=by
  rcases Nat.lt_or_ge b w1.heap.size with h' | h'
  . exact h'
  . simp [Array.getElem?_eq_none h'] at hbk
 have hb2:w2.heap[b]?=some (.cells #[.pointer (some ⟨b,0,none⟩),v] 205 (0,0)):=by
  rw [hgrow.block b (by omega) (fun e=>hne e.symm)];exact hbk
 have d0:w2.cell? ⟨b,0,none⟩=some (.pointer (some ⟨b,0,none⟩)):=by rw [Lib.cell_of_heap hb2];rfl
 have d1:w2.cell? ⟨b,1,none⟩=some v:=by rw [Lib.cell_of_heap hb2];rfl
 have f1:w2.frozen? ⟨b,1,none⟩=false:=Lib.frozen_of_heap hb2 1
 obtain ⟨ao,n',cap,hv'⟩:∃ ao n' cap,v'=.slice ao n' cap:=by
  rcases hown'.2 with ⟨hv,h0⟩ | ⟨g,cap,cur,hv,_⟩
  . exact ⟨none,0,0,hv⟩
  . exact ⟨_,_,cap,hv⟩
 subst hv';go_wp2
 go_ret2
 refine ⟨rfl,?_,?_⟩
 . exact Lib.BuilderAt.put (T:=205) (e:=5) hB hb2 (bs':=bs ++ Lib.strCells s) (by simpa [Lib.strCells_length] using hown') (by decide)
 . exact (hb1.grown hgrow (by have:=hb1.size;omega) (fun k hk=>(hown.lt k hk).1)).setCell (p:=⟨b,1,none⟩) hB _
theorem bbyte_b (B b:Nat) (l:List UInt8) (c:UInt8) (w:World) (h:BL B b l w) (hlen:l.length<=1000000000) (hBw:B<=w.heap.size) :
  Calls Tryz.prog 184 #[.pointer (some ⟨b,0,none⟩),.int .u8 c.toNat] w fun e w'=>e=.returned .nilIface/\BL B b (l ++ [c]) w'/\Below B w w':=by
 refine (bbyte_any B b _ c.toNat w h (by simp [Lib.byteCells];omega) hBw).mono ?_;rintro e w' ⟨rfl,h1,h2⟩;refine ⟨rfl,Or.inr ?_,h2⟩;have e:Lib.byteCells (l ++ [c])=Lib.byteCells l ++ [.int .u8 c.toNat]:=by simp [Lib.byteCells]
 rw [e];exact h1
theorem bstr_b (B b:Nat) (l:List UInt8) (s:ByteArray) (w:World) (h:BL B b l w) (hlen:l.length<=1000000000) (hs:s.size<=1000000000) (hBw:B<=w.heap.size) :
  Calls Tryz.prog 185 #[.pointer (some ⟨b,0,none⟩),.string s] w fun e w'=>e=.returned (.tuple #[.int .i64 s.size,.nilIface])/\BL B b (l ++ s.data.toList) w'/\Below B w w':=by
 refine (bstr_any B b _ s w h (by simp [Lib.byteCells];omega) hBw).mono ?_;rintro e w' ⟨rfl,h1,h2⟩;refine ⟨rfl,Or.inr ?_,h2⟩;have e:Lib.byteCells (l ++ s.data.toList)=Lib.byteCells l ++ Lib.strCells s:=by simp [Lib.byteCells,Lib.strCells]
 rw [e];exact h1
theorem bl_new (w:World) (B:Nat) (hB:B<=w.heap.size):BL B w.heap.size [] (w.alloc (.cells #[.pointer none,.slice none 0 0] 205)):=
 Or.inl ⟨hB,.slice none 0 0,(MapKept.heap_alloc w _).1,World.ownsRow_nil _ _ _ _,by simp [Value.ownBlock]⟩
structure WT (w:World):Prop where
 u:Lib.Utf8Tabs 0 1 w
 d:TabAt 7 Lib.deBruijn64tab w
 r:∃ ev,w.cell? ⟨5,0,none⟩=some ev/\(ev=.nilIface ∨ ∃ te pe,ev=.iface te pe)
theorem WT.below {w w':World} (h:WT w) (hb:Below w.heap.size w w'):WT w':=
 ⟨⟨fun c hc=>bget hb (h.u.1 c hc),fun i hi=>⟨bget hb (h.u.2 i hi).1,bget hb (h.u.2 i hi).2⟩⟩,fun j hj=>bget hb (h.d j hj),by
   obtain ⟨ev,h1,h2⟩:=h.r;exact ⟨ev,bget hb h1,h2⟩⟩
def hexd (d:Nat):UInt8:=UInt8.ofNat (if d < 10 then 48+d else 87+d)
def hexN (u:Nat):List UInt8:=if u < 16 then [hexd u] else [hexd (u / 16),hexd (u % 16)]
theorem dig_fin:∀ j:Fin 16,((⟨#[48,49,50,51,52,53,54,55,56,57,97,98,99,100,101,102,103,104,105,106,107,108,109,110,111,112,113,114,115,116,117,118,119,120,121,122]⟩:ByteArray)[j.val]'(Nat.lt_of_lt_of_le j.isLt (by decide:16<=36))).toNat=(hexd j.val).toNat:=by decide +kernel
theorem dig_at (k:Nat) (h:k < 16):((⟨#[48,49,50,51,52,53,54,55,56,57,97,98,99,100,101,102,103,104,105,106,107,108,109,110,111,112,113,114,115,116,117,118,119,120,121,122]⟩:ByteArray)[k]'(Nat.lt_of_lt_of_le h (by decide:16<=36))).toNat=(hexd k).toNat:=dig_fin ⟨k,h⟩
theorem dig_atI (k:Nat) (h:k < 16):((((⟨#[48,49,50,51,52,53,54,55,56,57,97,98,99,100,101,102,103,104,105,106,107,108,109,110,111,112,113,114,115,116,117,118,119,120,121,122]⟩:ByteArray)[k]'(Nat.lt_of_lt_of_le h (by decide:16<=36))).toNat:Nat):Int)=((hexd k).toNat:Nat):=by rw [dig_at k h]
theorem and15 (u:Nat) (h:u < 256):bits BinOp.and IntKind.u64 (u:Int) 15=((u % 16:Nat):Int):=by
 have:∀ u:Fin 256,bits BinOp.and IntKind.u64 (u.val:Int) 15=((u.val % 16:Nat):Int):=by decide +kernel
 exact this ⟨u,h⟩
theorem zero65:Tryz.zeroCells254=Array.replicate 65 (.int .u8 0):=by kernel_rfl
structure Ar (b:Nat) (w wr:World) (f:Nat->Nat):Prop where
 hb:w.heap.size<=b
 bel:Below w.heap.size w wr
 lt:b < wr.heap.size
 cell:∀ i,i < 65->wr.cell? ⟨b,i,none⟩=some (.int .u8 (f i:Nat))
 free:∀ o,wr.frozen? ⟨b,o,none⟩=false
theorem Ar.start (w:World):Ar w.heap.size w (w.alloc (.cells Tryz.zeroCells254 254)) (fun _=>0):=
 ⟨Nat.le_refl _,(Below.refl _ _).alloc (Nat.le_refl _) _,by simp,fun i hi=>by unfold World.cell?;rw [(MapKept.heap_alloc w _).1,zero65];simp [hi],fun o=>by simp⟩
theorem Ar.set {b:Nat} {w wr:World} {f f':Nat->Nat} (h:Ar b w wr f) {k:Nat} (hk:k < 65) {z:Int} (hz:z=(f' k:Nat)) (hf:∀ i,i≠k->f' i=f i):Ar b w (wr.setCell ⟨b,k,none⟩ (.int .u8 z)) f':=by
 refine ⟨h.hb,h.bel.setCell (by simpa using h.hb) _,by simpa [World.setCell] using h.lt,fun i hi=>?_,fun o=>by simpa using h.free o⟩
 by_cases e:k=i
 . subst e;rw [scell_same (h.cell k hk),hz]
 . rw [scell_ne e,h.cell i hi,hf i (fun h=>e h.symm)]
theorem cvtK {b:Nat} {w wr:World} {f:Nat->Nat} (h:Ar b w wr f) {k:Nat} {l:List UInt8} (hk:k+l.length=65) (hl:∀ j (hj:j < l.length),f (k+j)=(l[j]).toNat) :
  (convert 178 9 (.slice (some ⟨b,k,none⟩) l.length l.length)).run Tryz.prog wr=.ok (.string ⟨l.toArray⟩) wr:=
 run_convert_bytes_back wr 178 9 5 ⟨b,k,none⟩ l.length l Tryz.underlying178 Tryz.underlying5 Tryz.underlying9 (fun j hj=>by
  rw [Addr.add_lit,h.cell _ (by omega),hl j hj])
theorem pow2_16 (w:World):Calls Tryz.prog 237 #[.int .i64 16] w fun e w'=>e=.returned (.bool true)/\w=w':=by
 have hb:bits BinOp.and IntKind.i64 16 15=0:=by kernel_rfl
 go_enter Tryz.func237,Tryz.ntmps237;go_wp2
 go_ret
 exact ⟨rfl,rfl⟩
theorem tz_16 (w:World) (hT:WT w):Calls Tryz.prog 238 #[.int .u64 16] w fun e w'=>e=.returned (.int .i64 4)/\w'=w:=by
 have h:=Any7.bits_TrailingZeros64 Tryz.lays7n29 16 (by omega) w (fun _=>hT.d);have hc:Lib.ctz 64 16=4:=by decide +kernel
 rw [hc] at h;have H:=hid h;clear h hT;go_enter Tryz.func238,Tryz.ntmps238;go_wp2_with (go_at_call 248;refine H.out.mono ?_;rintro e w1 ⟨rfl,rfl⟩)
 go_ret
 exact ⟨rfl,rfl⟩
set_option maxHeartbeats 4000000 in
set_option maxRecDepth 100000 in
theorem fbits_any (u:Nat) (hu:u < 256) (w:World) (hT:WT w):Calls Tryz.prog 212 #[.slice none 0 0,.int .u64 u,.int .i64 16,.bool false,.bool false] w fun e w' =>
  e=.returned (.tuple #[.slice none 0 0,.string ⟨(hexN u).toArray⟩])/\Below w.heap.size w w':=by
 have HP:=hid (fun W=>pow2_16 W);have HT:=hid (fun (W:World) (h:Below w.heap.size w W)=>tz_16 W (hT.below h));clear hT;go_enter Tryz.func212,Tryz.ntmps212
 go_wp2_with (first
  | (go_at_call 237;refine (HP.out _).mono ?_;rintro e w1 ⟨rfl,rfl⟩)
  | (go_at_call 238;refine (HT.out _ ((Below.refl _ _).alloc (Nat.le_refl _) _)).mono ?_;rintro e w1 ⟨rfl,rfl⟩))
 have HA0:=hid (Ar.start w);generalize w.alloc (.cells Tryz.zeroCells254 254)=W0 at *;go_loopw [1,13] (fun x i wr=>(x=.int .u64 u/\i=.int .i64 65/\Hid (Ar w.heap.size w wr (fun _=>0))) ∨ (16<=u/\x=.int .u64 (u / 16:Nat)/\i=.int .i64 64/\Hid (Ar w.heap.size w wr (fun k=>if k=64 then (hexd (u % 16)).toNat else 0)))) (fun x _ _=>(RowKit.intOf x).toNat)
 case atStart=>exact Or.inl ⟨rfl,rfl,HA0⟩
 case round =>
  rcases hrel with ⟨rfl,rfl,hw⟩ | ⟨h16,rfl,rfl,hw⟩
  . by_cases h16:16<=u
    . have h16z:(16:Int)<=(u:Int):=by omega
      have hx:bits BinOp.and IntKind.u64 (u:Int) 15=((u % 16:Nat):Int):=and15 u hu;have l0:=hw.out.cell 64 (by omega);have l1:=hw.out.free 64;go_wp2
      go_round
      case rel =>
       refine Or.inr ⟨h16,by go_num,rfl,hid (hw.out.set (by omega) ?_ (fun i hi=>by simp [hi]))⟩;rw [if_pos rfl];exact dig_atI (u % 16) (by omega)
      case measure=>simp [RowKit.intOf];omega
    . have h16z:¬ (16:Int)<=(u:Int):=by omega
      have l0:=hw.out.cell 64 (by omega);have l1:=hw.out.free 64;have hf:=hid (fun (z:Int) (hz:z=((hexd u).toNat:Nat))=>hw.out.set (k:=64) (z:=z) (f':=fun k=>if k=64 then (hexd u).toNat else 0) (by omega) (by rw [if_pos rfl];exact hz) (fun i hi=>by simp [hi]));have hX:=hid (show hexN u=[hexd u] by unfold hexN;rw [if_pos (by omega)]);go_wp2
      have HF:=hid (hf.out _ (dig_atI u (by omega)))
      have hcv:=cvtK HF.out (k:=64) (l:=[hexd u]) rfl (fun j hj=>by
       have h0:j=0:=by simpa using hj
       subst h0;rfl)
      simp only [List.length_cons,List.length_nil,Nat.zero_add] at hcv;rw [hcv];simp only [Result.andThen];rw [Oper.upon_value];go_wp2
      go_ret2
      exact ⟨by rw [hX.out];rfl,HF.out.bel⟩
  . have h16z:¬ (16:Int)<=(u / 16:Nat):=by omega
    have l0:=hw.out.cell 63 (by omega);have l1:=hw.out.free 63;rw [if_neg (by omega)] at l0;have hf:=hid (fun (z:Int) (hz:z=((hexd (u / 16)).toNat:Nat))=>hw.out.set (k:=63) (z:=z) (f':=fun k=>if k=63 then (hexd (u / 16)).toNat else if k=64 then (hexd (u % 16)).toNat else 0) (by omega) (by rw [if_pos rfl];exact hz) (fun i hi=>by simp [hi]));have hX:=hid (show hexN u=[hexd (u / 16),hexd (u % 16)] by unfold hexN;rw [if_neg (by omega)]);have HU:=hid (show u / 16 < 16 by omega);clear hw h16;generalize u / 16=q at *;go_wp2
    have HF:=hid (hf.out _ (dig_atI q HU.out))
    have hcv:=cvtK HF.out (k:=63) (l:=[hexd q,hexd (u % 16)]) rfl (fun j hj=>by
     have h0:j=0 ∨ j=1:=by simp at hj;omega
     rcases h0 with rfl | rfl <;> rfl)
    simp only [List.length_cons,List.length_nil,Nat.zero_add,Nat.reduceAdd] at hcv;rw [hcv];simp only [Result.andThen];rw [Oper.upon_value];go_wp2
    go_ret2
    exact ⟨by rw [hX.out];rfl,HF.out.bel⟩
set_option maxHeartbeats 4000000 in
theorem fmt16_any (u:Nat) (hu:u < 256) (w:World) (hT:WT w):Calls Tryz.prog 186 #[.int .i64 u,.int .i64 16] w fun e w'=>e=.returned (.string ⟨(hexN u).toArray⟩)/\Below w.heap.size w w':=by
 have HB:=hid (fbits_any u hu w hT)
 have hI:Calls Tryz.prog 172 #[.int .i64 u,.int .i64 16] w fun e w'=>e=.returned (.string ⟨(hexN u).toArray⟩)/\Below w.heap.size w w':=by
  clear hT;go_enter Tryz.func172,Tryz.ntmps172;go_wp2_with (go_at_call 212;refine HB.out.mono ?_;rintro e w1 ⟨rfl,hb⟩)
  go_ret
  exact ⟨rfl,hb⟩
 have HI:=hid hI;clear hI hT HB;go_enter Tryz.func186,Tryz.ntmps186;go_wp2_with (go_at_call 172;refine HI.out.mono ?_;rintro e w1 ⟨rfl,hb⟩)
 go_ret
 exact ⟨rfl,hb⟩
def esc (c:UInt8):List UInt8:=
 if c.toNat=10 then [92,110] else if c.toNat=13 then [92,114] else if c.toNat=9 then [92,116] else if c.toNat=34 ∨ c.toNat=92 then [92,c]
 else if c.toNat < 32 ∨ c.toNat=127 then [92,117,123] ++ hexN c.toNat ++ [125] else [c]
def quo (l:List UInt8):List UInt8:=[34] ++ l.flatMap esc ++ [34]
theorem hexN_len (u:Nat):(hexN u).length<=2:=by unfold hexN;split <;> simp
theorem esc_len (c:UInt8):(esc c).length<=6:=by
 unfold esc;have:=hexN_len c.toNat
 repeat' split
 all_goals simp
 all_goals omega
theorem flat_esc_len (l:List UInt8):(l.flatMap esc).length<=6 * l.length:=by
 induction l with
 | nil=>simp
 | cons c l ih=>rw [List.flatMap_cons,List.length_append,List.length_cons];have:=esc_len c;omega
theorem ba_size (l:List UInt8):(⟨l.toArray⟩:ByteArray).size=l.length:=by simp [ByteArray.size]
theorem take_esc (s:ByteArray) (k:Nat) (hk:k < s.size):(s.data.toList.take (k+1)).flatMap esc=(s.data.toList.take k).flatMap esc ++ esc s[k]:=by
 rw [List.take_succ_eq_append_getElem (by rw [size_list];exact hk),List.flatMap_append];simp [get_list s k hk]
theorem take_all (s:ByteArray) {k:Nat} (hk:s.size<=k):s.data.toList.take k=s.data.toList:=List.take_of_length_le (by rw [size_list];exact hk)
theorem bl_kept {B b:Nat} {l:List UInt8} {w w':World} (h:BL B b l w) (hb:Below w.heap.size w w'):BL B b l w':=by
 rcases h with h | h
 . obtain ⟨h1,v,h2,h3,h4⟩:=h
   exact Or.inl ⟨h1,v,(hb.block _ (lt_of_block h2)).trans h2,h3.kept (grown_below hb) (by cases v.ownBlock <;> simp),h4⟩
 . obtain ⟨h1,v,h2,h3,h4⟩:=h
   exact Or.inr ⟨h1,v,(hb.block _ (lt_of_block h2)).trans h2,h3.kept (grown_below hb) (by cases v.ownBlock <;> simp),h4⟩
set_option maxHeartbeats 8000000 in
set_option maxRecDepth 100000 in
theorem pquote_any (s:ByteArray) (w:World) (hT:WT w) (hs:s.size<=2000000):Calls Tryz.prog 135 #[.string s] w fun e w'=>e=.returned (.string ⟨(quo s.data.toList).toArray⟩)/\Below w.heap.size w w':=by
 have HBN:=hid (bl_new w w.heap.size (Nat.le_refl _));have HB0:=hid (show Below w.heap.size w (w.alloc (.cells #[.pointer none,.slice none 0 0] 205)) from (Below.refl _ _).alloc (Nat.le_refl _) _);have HF:=hid (fun (u:Nat) (hu:u < 256) (W:World) (hW:Below w.heap.size w W)=>fmt16_any u hu W (hT.below hW));clear hT;go_enter Tryz.func135,Tryz.ntmps135;go_wp2_with (go_at_call 184;refine (bbyte_b w.heap.size w.heap.size [] 34 _ HBN.out (by simp) HB0.out.size).mono ?_;rintro e w1 ⟨rfl,hbl,hb⟩;have HBL:=hid hbl;have HB:=hid (HB0.out.trans hb);clear hbl hb)
 clear HBN HB0;go_loopg [9] s.size (fun gg s9 wr=>∃ k:Nat,k<=s.size/\s.size - k<=gg/\s9=.int .i64 k/\Hid (BL w.heap.size w.heap.size ([34] ++ (s.data.toList.take k).flatMap esc) wr)/\Hid (Below w.heap.size w wr))
 case atStart=>exact ⟨0,by omega,by omega,rfl,by simpa using HBL,HB⟩
 case round =>
  clear HBL HB;obtain ⟨k,hk,hgk,rfl,HL,HW⟩:=hrel;have HLen:=hid (show ([34] ++ (s.data.toList.take k).flatMap esc:List UInt8).length<=1000000000 by have h1:=flat_esc_len (s.data.toList.take k);have h2:=size_list s;have h3:(s.data.toList.take k).length<=s.data.toList.length:=(List.take_sublist _ _).length_le;rw [List.length_append];simp only [List.length_cons,List.length_nil];omega)
  by_cases hlt:k < s.size
  . have HTE:=hid (take_esc s k hlt)
    have hc:=lt256 s[k];have HIX:=hid (show s[k].toNat < 256 by omega)
    by_cases h10:s[k].toNat=10
    . have e10:((s[k].toNat:Int) == 10)=true:=by simp;omega
      have HX:=hid (show esc s[k]=[92,110] by unfold esc;simp [*]);clear h10
      go_wp2_with (first
       | (go_at_call 185
          refine (bstr_b w.heap.size w.heap.size _ _ _ HL.out HLen.out (by show 2<=1000000000;omega) HW.out.size).mono ?_;rintro e w2 ⟨rfl,hbl,hb⟩;have HL2:=hid hbl;have HW2:=hid hb;clear hbl hb))
      go_roundg (s.size - (k+1))
      case measure=>omega
      case rel =>
       exact ⟨k+1,by omega,by omega,by go_num,hid (by rw [HTE.out,HX.out];simpa using HL2.out),hid (HW.out.trans HW2.out)⟩
    have e10:((s[k].toNat:Int) == 10)=false:=by simp;omega
    by_cases h13:s[k].toNat=13
    . have e13:((s[k].toNat:Int) == 13)=true:=by simp;omega
      have HX:=hid (show esc s[k]=[92,114] by unfold esc;simp [*]);clear h10 h13
      go_wp2_with (first
       | (go_at_call 185
          refine (bstr_b w.heap.size w.heap.size _ _ _ HL.out HLen.out (by show 2<=1000000000;omega) HW.out.size).mono ?_;rintro e w2 ⟨rfl,hbl,hb⟩;have HL2:=hid hbl;have HW2:=hid hb;clear hbl hb))
      go_roundg (s.size - (k+1))
      case measure=>omega
      case rel =>
       exact ⟨k+1,by omega,by omega,by go_num,hid (by rw [HTE.out,HX.out];simpa using HL2.out),hid (HW.out.trans HW2.out)⟩
    have e13:((s[k].toNat:Int) == 13)=false:=by simp;omega
    by_cases h9:s[k].toNat=9
    . have e9:((s[k].toNat:Int) == 9)=true:=by simp;omega
      have HX:=hid (show esc s[k]=[92,116] by unfold esc;simp [*]);clear h10 h13 h9
      go_wp2_with (first
       | (go_at_call 185
          refine (bstr_b w.heap.size w.heap.size _ _ _ HL.out HLen.out (by show 2<=1000000000;omega) HW.out.size).mono ?_;rintro e w2 ⟨rfl,hbl,hb⟩;have HL2:=hid hbl;have HW2:=hid hb;clear hbl hb))
      go_roundg (s.size - (k+1))
      case measure=>omega
      case rel =>
       exact ⟨k+1,by omega,by omega,by go_num,hid (by rw [HTE.out,HX.out];simpa using HL2.out),hid (HW.out.trans HW2.out)⟩
    have e9:((s[k].toNat:Int) == 9)=false:=by simp;omega
    have HLen2:=hid (show ([34] ++ (s.data.toList.take k).flatMap esc:List UInt8).length<=100000000 by have h1:=flat_esc_len (s.data.toList.take k);have h2:=size_list s;have h3:(s.data.toList.take k).length<=s.data.toList.length:=(List.take_sublist _ _).length_le;rw [List.length_append];simp only [List.length_cons,List.length_nil];omega);have tok:True:=trivial
    by_cases h34:s[k].toNat=34
    . have e34:((s[k].toNat:Int) == 34)=true:=by simp;omega
      have HX:=hid (show esc s[k]=[92,s[k]] by unfold esc;simp [*]);clear h10 h13 h9 h34
      go_wp2_with (first
       | (have tok1:=tok
          go_at_call 184;refine (bbyte_b w.heap.size w.heap.size _ 92 _ HL.out HLen.out HW.out.size).mono ?_;rintro e w2 ⟨rfl,hbl,hb⟩;have HL2:=hid hbl;have HW2:=hid hb;clear hbl hb tok tok1)
       | (go_at_call 184
          refine (bbyte_b w.heap.size w.heap.size _ s[k] _ HL2.out (by have h:=HLen2.out;rw [List.length_append];simp only [List.length_cons,List.length_nil] at *;omega) (Nat.le_trans HW.out.size HW2.out.size)).mono ?_;rintro e w3 ⟨rfl,hbl,hb⟩;have HL3:=hid hbl;have HW3:=hid hb;clear hbl hb))
      go_roundg (s.size - (k+1))
      case measure=>omega
      case rel =>
       exact ⟨k+1,by omega,by omega,by go_num,hid (by rw [HTE.out,HX.out];simpa using HL3.out),hid (HW.out.trans (HW2.out.trans HW3.out))⟩
    have e34:((s[k].toNat:Int) == 34)=false:=by simp;omega
    by_cases h92:s[k].toNat=92
    . have e92:((s[k].toNat:Int) == 92)=true:=by simp;omega
      have HX:=hid (show esc s[k]=[92,s[k]] by unfold esc;simp [*]);clear h10 h13 h9 h34 h92
      go_wp2_with (first
       | (have tok1:=tok
          go_at_call 184;refine (bbyte_b w.heap.size w.heap.size _ 92 _ HL.out HLen.out HW.out.size).mono ?_;rintro e w2 ⟨rfl,hbl,hb⟩;have HL2:=hid hbl;have HW2:=hid hb;clear hbl hb tok tok1)
       | (go_at_call 184
          refine (bbyte_b w.heap.size w.heap.size _ s[k] _ HL2.out (by have h:=HLen2.out;rw [List.length_append];simp only [List.length_cons,List.length_nil] at *;omega) (Nat.le_trans HW.out.size HW2.out.size)).mono ?_;rintro e w3 ⟨rfl,hbl,hb⟩;have HL3:=hid hbl;have HW3:=hid hb;clear hbl hb))
      go_roundg (s.size - (k+1))
      case measure=>omega
      case rel =>
       exact ⟨k+1,by omega,by omega,by go_num,hid (by rw [HTE.out,HX.out];simpa using HL3.out),hid (HW.out.trans (HW2.out.trans HW3.out))⟩
    have e92:((s[k].toNat:Int) == 92)=false:=by simp;omega
    by_cases h32:(s[k].toNat:Int) < 32
    . have h32n:s[k].toNat < 32:=by omega
      have HX:=hid (show esc s[k]=[92,117,123] ++ hexN s[k].toNat ++ [125] by unfold esc;simp [*]);have HFc:=hid (HF.out s[k].toNat HIX.out _ HW.out);have hc1:=fun (W:World)=>run_string_add_sum (P:=Tryz.prog) (w:=W) ⟨#[92,117,123]⟩ ⟨(hexN s[k].toNat).toArray⟩ (by rw [ba_size (hexN s[k].toNat)];have:=hexN_len s[k].toNat;show 3+_<=_;omega);have hc2:=fun (W:World)=>run_string_add_sum (P:=Tryz.prog) (w:=W) (⟨#[92,117,123]⟩ ++ ⟨(hexN s[k].toNat).toArray⟩) ⟨#[125]⟩ (by rw [ByteArray.size_append,ba_size (hexN s[k].toNat)];have:=hexN_len s[k].toNat;show 3+_+1<=_;omega);clear h10 h13 h9 h34 h92 h32n
      go_wp2_with (first
       | (go_at_call 186
          refine HFc.out.mono ?_;rintro e w2 ⟨rfl,hb⟩;have HL2:=hid (bl_kept HL.out hb);have HW2:=hid hb;clear hb)
       | (go_at_call 185
          refine (bstr_b w.heap.size w.heap.size _ _ _ HL2.out HLen.out (by rw [ByteArray.size_append,ByteArray.size_append,ba_size (hexN s[k].toNat)];have:=hexN_len s[k].toNat;show 3+_+1<=_;omega) (Nat.le_trans HW.out.size HW2.out.size)).mono ?_;rintro e w3 ⟨rfl,hbl,hb⟩;have HL3:=hid hbl;have HW3:=hid hb;clear hbl hb))
      go_roundg (s.size - (k+1))
      case measure=>omega
      case rel =>
       exact ⟨k+1,by omega,by omega,by go_num,hid (by rw [HTE.out,HX.out];simpa using HL3.out),hid (HW.out.trans ((HW2.out.mono HW.out.size).trans HW3.out))⟩
    by_cases h127:s[k].toNat=127
    . have e127:((s[k].toNat:Int) == 127)=true:=by simp;omega
      have h32n:¬ s[k].toNat < 32:=by omega
      have HX:=hid (show esc s[k]=[92,117,123] ++ hexN s[k].toNat ++ [125] by unfold esc;simp [*]);have HFc:=hid (HF.out s[k].toNat HIX.out _ HW.out);have hc1:=fun (W:World)=>run_string_add_sum (P:=Tryz.prog) (w:=W) ⟨#[92,117,123]⟩ ⟨(hexN s[k].toNat).toArray⟩ (by rw [ba_size (hexN s[k].toNat)];have:=hexN_len s[k].toNat;show 3+_<=_;omega);have hc2:=fun (W:World)=>run_string_add_sum (P:=Tryz.prog) (w:=W) (⟨#[92,117,123]⟩ ++ ⟨(hexN s[k].toNat).toArray⟩) ⟨#[125]⟩ (by rw [ByteArray.size_append,ba_size (hexN s[k].toNat)];have:=hexN_len s[k].toNat;show 3+_+1<=_;omega);clear h10 h13 h9 h34 h92 h127 h32n
      go_wp2_with (first
       | (go_at_call 186
          refine HFc.out.mono ?_;rintro e w2 ⟨rfl,hb⟩;have HL2:=hid (bl_kept HL.out hb);have HW2:=hid hb;clear hb)
       | (go_at_call 185
          refine (bstr_b w.heap.size w.heap.size _ _ _ HL2.out HLen.out (by rw [ByteArray.size_append,ByteArray.size_append,ba_size (hexN s[k].toNat)];have:=hexN_len s[k].toNat;show 3+_+1<=_;omega) (Nat.le_trans HW.out.size HW2.out.size)).mono ?_;rintro e w3 ⟨rfl,hbl,hb⟩;have HL3:=hid hbl;have HW3:=hid hb;clear hbl hb))
      go_roundg (s.size - (k+1))
      case measure=>omega
      case rel =>
       exact ⟨k+1,by omega,by omega,by go_num,hid (by rw [HTE.out,HX.out];simpa using HL3.out),hid (HW.out.trans ((HW2.out.mono HW.out.size).trans HW3.out))⟩
    have e127:((s[k].toNat:Int) == 127)=false:=by simp;omega
    have h32n:¬ s[k].toNat < 32:=by omega
    have HX:=hid (show esc s[k]=[s[k]] by unfold esc;simp [*]);clear h10 h13 h9 h34 h92 h127 h32n
    go_wp2_with (first
     | (go_at_call 184
        refine (bbyte_b w.heap.size w.heap.size _ s[k] _ HL.out HLen.out HW.out.size).mono ?_;rintro e w2 ⟨rfl,hbl,hb⟩;have HL2:=hid hbl;have HW2:=hid hb;clear hbl hb))
    go_roundg (s.size - (k+1))
    case measure=>omega
    case rel =>
     exact ⟨k+1,by omega,by omega,by go_num,hid (by rw [HTE.out,HX.out];simpa using HL2.out),hid (HW.out.trans HW2.out)⟩
  . have HK:=hid (take_all s (k:=k) (by omega))
    have HS:=hid (fun (W:World) (h:BL w.heap.size w.heap.size ([34] ++ (s.data.toList.take k).flatMap esc ++ [34]) W) (hW:w.heap.size<=W.heap.size)=>Tryz.Builder_String_any w.heap.size w.heap.size _ W h hW)
    go_wp2_with (first
     | (go_at_call 184
        refine (bbyte_b w.heap.size w.heap.size _ 34 _ HL.out HLen.out HW.out.size).mono ?_;rintro e w2 ⟨rfl,hbl,hb⟩;have HL2:=hid hbl;have HW2:=hid hb;clear hbl hb)
     | (go_at_call 183
        refine (HS.out _ HL2.out (Nat.le_trans HW.out.size HW2.out.size)).mono ?_;rintro e w3 ⟨rfl,hb⟩;have HW3:=hid hb;clear hb))
    go_ret
    exact ⟨by rw [HK.out];rfl,HW.out.trans (HW2.out.trans HW3.out)⟩
theorem bs_app (a b:List UInt8):(⟨a.toArray⟩:ByteArray) ++ ⟨b.toArray⟩=⟨(a ++ b).toArray⟩:=by
 apply ba_extA;simp [ByteArray.data_append]
theorem cat_run (w:World) (a b:List UInt8) (h:a.length+b.length<=1000000000000):(Op.stringOp .add ⟨a.toArray⟩ ⟨b.toArray⟩).run Tryz.prog w=.ok (.string ⟨(a ++ b).toArray⟩) w:=by
 rw [<-bs_app];exact run_string_add_sum w _ _ (by rw [ba_size,ba_size];omega)
theorem hex_cut:∀ q:Fin 16,(⟨#[48,49,50,51,52,53,54,55,56,57,97,98,99,100,101,102]⟩:ByteArray).extract q.val (q.val+1)=⟨[hexd q.val].toArray⟩:=by decide +kernel
theorem ret_str {l m:List UInt8} (h:l=m):Ending.returned (.string ⟨m.toArray⟩)=.returned (.string ⟨l.toArray⟩):=by rw [h]
set_option maxHeartbeats 4000000 in
theorem rdig1_any (c:Nat) (hc:c < 16) (w:World):Calls Tryz.prog 250 #[.int .i64 c] w fun e w'=>e=.returned (.string ⟨[hexd c].toArray⟩)/\w=w':=by
 have hq:c % 16=c:=by omega
 have HX:=hid (hex_cut ⟨c,hc⟩);have hx:(⟨#[48,49,50,51,52,53,54,55,56,57,97,98,99,100,101,102]⟩:ByteArray).extract c (c+1)=⟨[hexd c].toArray⟩:=HX.out;have hcz:(c:Int) < 16:=by omega
 have hmod:(c:Int) % 16=c:=by omega
 go_enter Tryz.func250,Tryz.ntmps250;go_wp2
 go_ret
 exact ⟨rfl,rfl⟩
set_option maxHeartbeats 4000000 in
theorem rdigits_any (c:Nat) (hc:c < 256) (w:World):Calls Tryz.prog 250 #[.int .i64 c] w fun e w'=>e=.returned (.string ⟨(hexN c).toArray⟩)/\w=w':=by
 by_cases h:c < 16
 . have:hexN c=[hexd c]:=by unfold hexN;rw [if_pos h]
   rw [this];exact rdig1_any c h w
 . have HN:=hid (show hexN c=[hexd (c / 16)] ++ [hexd (c % 16)] by unfold hexN;rw [if_neg h];rfl)
   have HX:=hid (hex_cut ⟨c % 16,by omega⟩);have hx:(⟨#[48,49,50,51,52,53,54,55,56,57,97,98,99,100,101,102]⟩:ByteArray).extract (c % 16) (c % 16+1)=⟨[hexd (c % 16)].toArray⟩:=HX.out;have hcz:¬ (c:Int) < 16:=by omega
   have HR:=hid (rdig1_any (c / 16) (by omega) w);have hcat:=fun W=>cat_run W [hexd (c / 16)] [hexd (c % 16)] (by simp);clear h;go_enter Tryz.func250,Tryz.ntmps250;go_wp2_with (go_at_call 250;refine HR.out.mono ?_;rintro e w1 ⟨rfl,rfl⟩)
   go_ret
   exact ⟨ret_str HN.out,rfl⟩
set_option maxHeartbeats 4000000 in
theorem rescaped_any (c:UInt8) (w:World):Calls Tryz.prog 242 #[.int .u8 c.toNat] w fun e w'=>e=.returned (.string ⟨(esc c).toArray⟩)/\Below w.heap.size w w':=by
 have hc:=lt256 c;have HB:=hid (Below.refl w.heap.size w);have HBA:=hid (fun o=>(Below.refl w.heap.size w).alloc (Nat.le_refl _) o)
 by_cases h10:c.toNat=10
 . have e10:((c.toNat:Int) == 10)=true:=by simp;omega
   have HX:=hid (show esc c=[92,110] by unfold esc;simp [*]);clear h10;go_enter Tryz.func242,Tryz.ntmps242;go_wp2
   go_ret
   exact ⟨by rw [HX.out];rfl,HB.out⟩
 have e10:((c.toNat:Int) == 10)=false:=by simp;omega
 by_cases h13:c.toNat=13
 . have e13:((c.toNat:Int) == 13)=true:=by simp;omega
   have HX:=hid (show esc c=[92,114] by unfold esc;simp [*]);clear h10 h13;go_enter Tryz.func242,Tryz.ntmps242;go_wp2
   go_ret
   exact ⟨by rw [HX.out];rfl,HB.out⟩
 have e13:((c.toNat:Int) == 13)=false:=by simp;omega
 by_cases h9:c.toNat=9
 . have e9:((c.toNat:Int) == 9)=true:=by simp;omega
   have HX:=hid (show esc c=[92,116] by unfold esc;simp [*]);clear h10 h13 h9;go_enter Tryz.func242,Tryz.ntmps242;go_wp2
   go_ret
   exact ⟨by rw [HX.out];rfl,HB.out⟩
 have e9:((c.toNat:Int) == 9)=false:=by simp;omega
 by_cases h34:c.toNat=34
 . have e34:((c.toNat:Int) == 34)=true:=by simp;omega
   have HX:=hid (show esc c=[92,34] by unfold esc;rw [if_neg h10,if_neg h13,if_neg h9,if_pos (Or.inl h34),show c=34 from UInt8.toNat_inj.1 h34]);clear h10 h13 h9 h34;go_enter Tryz.func242,Tryz.ntmps242;go_wp2
   go_ret
   exact ⟨by rw [HX.out];rfl,HB.out⟩
 have e34:((c.toNat:Int) == 34)=false:=by simp;omega
 by_cases h92:c.toNat=92
 . have e92:((c.toNat:Int) == 92)=true:=by simp;omega
   have HX:=hid (show esc c=[92,92] by unfold esc;rw [if_neg h10,if_neg h13,if_neg h9,if_pos (Or.inr h92),show c=92 from UInt8.toNat_inj.1 h92]);clear h10 h13 h9 h34 h92;go_enter Tryz.func242,Tryz.ntmps242;go_wp2
   go_ret
   exact ⟨by rw [HX.out];rfl,HB.out⟩
 have e92:((c.toNat:Int) == 92)=false:=by simp;omega
 by_cases hctl:c.toNat < 32 ∨ c.toNat=127
 . have HX:=hid (show esc c=[92,117,123] ++ hexN c.toNat ++ [125] by unfold esc;rw [if_neg h10,if_neg h13,if_neg h9,if_neg (by omega),if_pos hctl])
   have HR:=hid (rdigits_any c.toNat (by omega) w);have hc1:=fun W=>cat_run W [92,117,123] (hexN c.toNat) (by have:=hexN_len c.toNat;simp;omega);have hc2:=fun W=>cat_run W ([92,117,123] ++ hexN c.toNat) [125] (by have:=hexN_len c.toNat;simp;omega);clear h10 h13 h9 h34 h92;generalize [92,117,123] ++ hexN c.toNat ++ [125]=T2 at *;generalize [92,117,123] ++ hexN c.toNat=T1 at *;generalize hexN c.toNat=T0 at *;rcases hctl with h | h
   . have h32:(c.toNat:Int) < 32:=by omega
     clear h;go_enter Tryz.func242,Tryz.ntmps242;go_wp2_with (go_at_call 250;refine HR.out.mono ?_;rintro e w1 ⟨rfl,rfl⟩)
     go_ret
     exact ⟨ret_str HX.out,HB.out⟩
   . have h32:¬ (c.toNat:Int) < 32:=by omega
     have h127:((c.toNat:Int) == 127)=true:=by simp;omega
     clear h;go_enter Tryz.func242,Tryz.ntmps242;go_wp2_with (go_at_call 250;refine HR.out.mono ?_;rintro e w1 ⟨rfl,rfl⟩)
     go_ret
     exact ⟨ret_str HX.out,HB.out⟩
 . have HX:=hid (show esc c=[c] by unfold esc;rw [if_neg h10,if_neg h13,if_neg h9,if_neg (by omega),if_neg hctl])
   have h32:¬ (c.toNat:Int) < 32:=by omega
   have h127:((c.toNat:Int) == 127)=false:=by simp;omega
   have hcv:(convert 178 9 (.slice (some ⟨w.heap.size,0,none⟩) 1 1)).run Tryz.prog (w.alloc (.cells #[.int .u8 c.toNat] 5))=.ok (.string ⟨[c].toArray⟩) (w.alloc (.cells #[.int .u8 c.toNat] 5)):=
    run_convert_bytes_back _ 178 9 5 ⟨w.heap.size,0,none⟩ 1 [c] Tryz.underlying178 Tryz.underlying5 Tryz.underlying9 (fun j hj=>by
     have h0:j=0:=by simpa using hj
     subst h0;exact cell_at rfl rfl)
   clear h10 h13 h9 h34 h92 hctl;go_enter Tryz.func242,Tryz.ntmps242;go_wp2
   go_ret
   exact ⟨ret_str HX.out,HBA.out _⟩
set_option maxHeartbeats 4000000 in
theorem rquote_any (s:ByteArray) (w:World) (hs:s.size<=2000000):Calls Tryz.prog 223 #[.string s] w fun e w'=>e=.returned (.string ⟨(quo s.data.toList).toArray⟩)/\Below w.heap.size w w':=by
 have HB0:=hid (Below.refl w.heap.size w);go_enter Tryz.func223,Tryz.ntmps223;go_wp2
 go_loopg [3,4] s.size (fun gg s3 s4 wr=>∃ k:Nat,k<=s.size/\s.size - k<=gg/\s4=.int .i64 k/\s3=.string ⟨([34] ++ (s.data.toList.take k).flatMap esc).toArray⟩/\Hid (Below w.heap.size w wr))
 case atStart=>exact ⟨0,by omega,by omega,rfl,by simp,HB0⟩
 case round =>
  obtain ⟨k,hk,hgk,rfl,rfl,HW⟩:=hrel;have HLen:=hid (show ([34] ++ (s.data.toList.take k).flatMap esc:List UInt8).length<=1000000000 by have h1:=flat_esc_len (s.data.toList.take k);have h2:=size_list s;have h3:(s.data.toList.take k).length<=s.data.toList.length:=(List.take_sublist _ _).length_le;rw [List.length_append];simp only [List.length_cons,List.length_nil];omega)
  by_cases hlt:k < s.size
  . have HTE:=hid (take_esc s k hlt)
    have HR:=hid (rescaped_any s[k] wr);have hcat:=fun W=>cat_run W ([34] ++ (s.data.toList.take k).flatMap esc) (esc s[k]) (by have:=HLen.out;have:=esc_len s[k];omega);have HX:=hid (show [34] ++ (s.data.toList.take (k+1)).flatMap esc=[34] ++ (s.data.toList.take k).flatMap esc ++ esc s[k] by rw [HTE.out,List.append_assoc]);generalize [34] ++ (s.data.toList.take k).flatMap esc=L at *;go_wp2_with (go_at_call 242;refine HR.out.mono ?_;rintro e w1 ⟨rfl,hb⟩;have HW1:=hid hb;clear hb)
    go_roundg (s.size - (k+1))
    case measure=>omega
    case rel=>exact ⟨k+1,by omega,by omega,by go_num,by rw [HX.out],hid (HW.out.trans (HW1.out.mono HW.out.size))⟩
  . have HK:=hid (take_all s (k:=k) (by omega))
    have hcat:=fun W=>cat_run W ([34] ++ (s.data.toList.take k).flatMap esc) [34] (by have:=HLen.out;simp only [List.length_cons,List.length_nil];omega);have HX:=hid (show [34] ++ (s.data.toList.take k).flatMap esc ++ [34]=quo s.data.toList by rw [HK.out];rfl);generalize [34] ++ (s.data.toList.take k).flatMap esc=L at *;go_wp2
    go_ret
    exact ⟨ret_str HX.out.symm,HW.out⟩
def isHx (c:Nat):Bool:=decide (48<=c/\c<=57) || decide (97<=c/\c<=102)
def hxv (c:Nat):Nat:=if c<=57 then c - 48 else c - 87
def hxL (l:List UInt8):List UInt8:=(l.take 6).takeWhile fun c=>isHx c.toNat
def hxF (l:List UInt8):Nat:=l.foldl (fun n c=>16 * n+hxv c.toNat) 0
def hxP (l:List UInt8):Int × Nat × Nat:=
 if l.length<=(hxL l).length then (40,0,0)
 else if (l.getD (hxL l).length 0).toNat≠125 ∨ (hxL l).length=0 ∨ (1 < (hxL l).length/\(l.getD 0 0).toNat=48) ∨ Lib.validRune (hxF (hxL l):Nat)=false then (2,0,0)
 else (0,hxF (hxL l),(hxL l).length+1)
theorem takeWhile_at {α:Type} {p:α->Bool} : ∀ {l:List α} {k:Nat},k<=l.length->(∀ j (hj:j < l.length),j < k->p l[j]=true)->(∀ h:k < l.length,p l[k]=false)->l.takeWhile p=l.take k
 | [],k,hk,_,_=>by simp at hk;subst hk;rfl
 | x :: l,0,hk,_,h2=>by
   have:=h2 (by simp);simp only [List.getElem_cons_zero] at this;rw [List.takeWhile_cons,if_neg (by rw [this];simp)];rfl
 | x :: l,k+1,hk,h1,h2=>by
   have h0:=h1 0 (by simp) (by omega);simp only [List.getElem_cons_zero] at h0;rw [List.takeWhile_cons,if_pos h0,List.take_succ_cons];rw [takeWhile_at (l:=l) (k:=k) (by simpa using hk) (fun j hj hjk=>h1 (j+1) (by simpa using hj) (by omega)) (fun h=>h2 (by simpa using h))]
theorem hxL_at {s:ByteArray} {k:Nat} (hk:k<=s.size) (h6:k<=6) (h1:∀ j (hj:j < s.size),j < k->isHx s[j].toNat=true) (h2:∀ h:k < s.size,k < 6->isHx s[k].toNat=false):hxL s.data.toList=s.data.toList.take k:=by
 have hl:=size_list s;unfold hxL;rw [takeWhile_at (k:=k) (by rw [List.length_take];omega) (fun j hj hjk=>?_) (fun h=>?_)]
 . rw [List.take_take];congr 1;omega
 . rw [List.getElem_take,get_list s j (by rw [List.length_take] at hj;omega)]
   exact h1 j _ hjk
 . rw [List.length_take] at h
   rw [List.getElem_take,get_list s k (by omega)];exact h2 _ (by omega)
theorem hxF_snoc (l:List UInt8) (c:UInt8):hxF (l ++ [c])=16 * hxF l+hxv c.toNat:=by simp [hxF]
theorem hxv_le {c:Nat} (h:isHx c=true):hxv c<=15:=by simp [isHx] at h;unfold hxv;split <;> omega
theorem hxF_le:∀ (l:List UInt8),(∀ c∈l,isHx c.toNat=true)->hxF l < 16 ^ l.length:=by
 intro l h
 have key:∀ (n:Nat) (l:List UInt8),l.length=n->(∀ c∈l,isHx c.toNat=true)->hxF l < 16 ^ n:=by
  intro n
  induction n with
  | zero=>intro l hl _;have:l=[]:=List.eq_nil_of_length_eq_zero hl;subst this;decide
  | succ n ih =>
    intro l hl h;rcases List.eq_nil_or_concat l with rfl | ⟨m,c,rfl⟩
    . simp at hl
    . rw [List.concat_eq_append] at *
      have h1:=ih m (by simpa using hl) (fun d hd=>h d (by simp [hd]));have h2:=hxv_le (h c (by simp));rw [hxF_snoc,Nat.pow_succ];omega
 exact key _ l rfl h
theorem ixHx:∀ c:Fin 256,Lib.indexByte (⟨#[48,49,50,51,52,53,54,55,56,57,97,98,99,100,101,102]⟩:ByteArray).data.toList ((c.val:Int).toNat.toUInt8)=if isHx c.val=true then (hxv c.val:Int) else -1:=by decide +kernel
theorem take_len (s:ByteArray) {k:Nat} (hk:k<=s.size):(s.data.toList.take k).length=k:=by rw [List.length_take,size_list];omega
theorem getD_at (s:ByteArray) {k:Nat} (hk:k < s.size):s.data.toList.getD k 0=s[k]:=by
 rw [List.getD_eq_getElem?_getD,List.getElem?_eq_getElem (by rw [size_list];exact hk)];rfl
theorem hxP_end {s:ByteArray} {k:Nat} (hk:s.size<=k) (h:hxL s.data.toList=s.data.toList.take k/\(hxL s.data.toList).length=k):hxP s.data.toList=(40,0,0):=by
 unfold hxP;rw [h.2,size_list,if_pos hk]
theorem hxP_cut {s:ByteArray} {k:Nat} (hk:k < s.size) (h:hxL s.data.toList=s.data.toList.take k/\(hxL s.data.toList).length=k):hxP s.data.toList=if s[k].toNat≠125 ∨ k=0 ∨ (1 < k/\(s[0]'(by omega)).toNat=48) ∨ Lib.validRune (hxF (s.data.toList.take k):Nat)=false then (2,0,0) else (0,hxF (s.data.toList.take k),k+1):=by
 unfold hxP;rw [h.2,size_list,if_neg (by omega),h.1,getD_at s hk,getD_at s (show 0 < s.size by omega)]
def HxR (x:Int × Nat × Nat):Ending:=.returned (.tuple #[.int .i32 (x.2.1:Nat),.int .i64 (x.2.2:Nat),.int .i64 x.1])
set_option maxHeartbeats 8000000 in
set_option maxRecDepth 100000 in
theorem phex_any (s:ByteArray) (w:World) (hs:s.size<=2000000):Calls Tryz.prog 217 #[.string s] w fun e w'=>e=HxR (hxP s.data.toList)/\w=w':=by
 have HL:=hid (fun k hk h6 h1 h2=>hxL_at (s:=s) (k:=k) hk h6 h1 h2);have HP:=hid (show hxP s.data.toList=hxP s.data.toList from rfl);go_enter Tryz.func217,Tryz.ntmps217;go_wp2
 go_loop [5,6] (fun n i=>∃ k:Nat,k<=s.size/\k<=6/\i=.int .i64 k/\n=.int .i32 (hxF (s.data.toList.take k):Nat)/\Hid (∀ j (hj:j < s.size),j < k->isHx s[j].toNat=true)) (fun _ i=>s.size - (RowKit.intOf i).toNat)
 case atStart=>exact ⟨0,by omega,by omega,rfl,rfl,hid (fun j hj h=>absurd h (by omega))⟩
 case round =>
  obtain ⟨k,hk,h6,rfl,rfl,HA⟩:=hrel
  have HBd:=hid (show hxF (s.data.toList.take k) < 16 ^ 6 from by
   have h1:=hxF_le (s.data.toList.take k) (fun c hc=>by
    obtain ⟨j,hj,rfl⟩:=List.mem_iff_getElem.1 hc;rw [List.length_take] at hj;rw [List.getElem_take,get_list s j (by omega)];exact HA.out j _ (by omega))
   rw [take_len s hk] at h1;exact Nat.lt_of_lt_of_le h1 (Nat.pow_le_pow_right (by decide) h6))
  have hbd:=HBd.out;simp only [Nat.reducePow] at hbd
  have HFin:=hid (fun (h2:∀ h:k < s.size,k < 6->isHx s[k].toNat=false)=>show hxL s.data.toList=s.data.toList.take k/\(hxL s.data.toList).length=k from by
   have h:=HL.out k hk h6 HA.out h2;exact ⟨h,by rw [h,take_len s hk]⟩)
  by_cases hlt:k < s.size
  case neg =>
   have hke:k=s.size:=by omega
   have HR:=hid (hxP_end (s:=s) (k:=k) (by omega) (HFin.out (fun h=>absurd h hlt)));have e0:((k:Int) == (s.size:Int))=true:=by simp;omega
   clear hke HFin HL HP;go_wp2
   go_ret3
   exact ⟨by rw [HR.out];rfl,rfl⟩
  have e0:((k:Int) == (s.size:Int))=false:=by simp;omega
  by_cases h6':k=6
  . have hno:∀ h:k < s.size,k < 6->isHx s[k].toNat=false:=fun _ h=>by omega
    have h6z:¬ (k:Int) < 6:=by omega
    have hk0:1 < k:=by omega
    have HNO:=hid (HFin.out hno);clear h6' HFin hno;have HFin:=hid (fun (_:True)=>HNO.out);have hno:=trivial;have HC:=hid (hxP_cut hlt (HFin.out hno));generalize hxF (s.data.toList.take k)=F at *
    by_cases c1:s[k].toNat=125
    case neg =>
     have e1:((s[k].toNat:Int) != 125)=true:=by simp;omega
     have HR:=hid (show hxP s.data.toList=(2,0,0) from by rw [HC.out,if_pos (Or.inl c1)]);clear c1 HC HFin HL HP;go_wp2_with (first | (go_at_call 213;refine (Tryz.utf8_ValidRune _ _).mono ?_;rintro e w1 ⟨rfl,rfl⟩))
     go_ret3
     exact ⟨by rw [HR.out];rfl,rfl⟩
    have e1:((s[k].toNat:Int) != 125)=false:=by simp;omega
    have c2:¬ k=0:=by omega
    have e2:((k:Int) == 0)=false:=by simp;omega
    by_cases c3:1 < k
    . have e3:(1:Int) < k:=by omega
      have hs0:0 < s.size:=by omega
      by_cases c4:s[0].toNat=48
      . have e4:((s[0].toNat:Int) == 48)=true:=by simp;omega
        have HR:=hid (show hxP s.data.toList=(2,0,0) from by rw [HC.out,if_pos (Or.inr (Or.inr (Or.inl ⟨c3,c4⟩)))]);clear c1 c2 c3 c4 HC HFin HL HP;go_wp2_with (first | (go_at_call 213;refine (Tryz.utf8_ValidRune _ _).mono ?_;rintro e w1 ⟨rfl,rfl⟩))
        go_ret3
        exact ⟨by rw [HR.out];rfl,rfl⟩
      . have e4:((s[0].toNat:Int) == 48)=false:=by simp;omega
        cases c5:Lib.validRune (F:Nat)
        . have HR:=hid (show hxP s.data.toList=(2,0,0) from by rw [HC.out,if_pos (Or.inr (Or.inr (Or.inr c5)))])
          clear c1 c2 c3 c4 HC HFin HL HP;go_wp2_with (first | (go_at_call 213;refine (Tryz.utf8_ValidRune _ _).mono ?_;rintro e w1 ⟨rfl,rfl⟩))
          go_ret3
          exact ⟨by rw [HR.out];rfl,rfl⟩
        . have HR:=hid (show hxP s.data.toList=(0,F,k+1) from by rw [HC.out,if_neg];rintro (h | h | h | h);exact h c1;exact c2 h;exact c4 h.2;rw [c5] at h;cases h)
          clear c1 c2 c3 c4 HC HFin HL HP;go_wp2_with (first | (go_at_call 213;refine (Tryz.utf8_ValidRune _ _).mono ?_;rintro e w1 ⟨rfl,rfl⟩))
          go_ret3
          exact ⟨by rw [HR.out];rfl,rfl⟩
    . exact absurd hk0 c3
  have h6z:(k:Int) < 6:=by omega
  have HIX:=hid (ixHx ⟨s[k].toNat,s[k].toNat_lt⟩);have hc:=lt256 s[k];have hIB:=Tryz.strings_IndexByte ⟨#[48,49,50,51,52,53,54,55,56,57,97,98,99,100,101,102]⟩ s[k].toNat w;cases hx:isHx s[k].toNat
  . have hno:∀ h:k < s.size,k < 6->isHx s[k].toNat=false:=fun _ _=>hx
    rw [show Lib.indexByte (⟨#[48,49,50,51,52,53,54,55,56,57,97,98,99,100,101,102]⟩:ByteArray).data.toList ((s[k].toNat:Int).toNat.toUInt8) = -1 from by have:=HIX.out;simp only [hx] at this;simpa using this] at hIB;have HIB:=hid hIB;clear hIB HIX hx;have HC:=hid (hxP_cut hlt (HFin.out hno));generalize hxF (s.data.toList.take k)=F at *
    by_cases c1:s[k].toNat=125
    case neg =>
     have e1:((s[k].toNat:Int) != 125)=true:=by simp;omega
     have HR:=hid (show hxP s.data.toList=(2,0,0) from by rw [HC.out,if_pos (Or.inl c1)]);clear c1 HC HFin HL HP;go_wp2_with (first | (go_at_call 213;refine (Tryz.utf8_ValidRune _ _).mono ?_;rintro e w1 ⟨rfl,rfl⟩) | (go_at_call 136;refine HIB.out.mono ?_;rintro e w1 ⟨rfl,rfl⟩))
     go_ret3
     exact ⟨by rw [HR.out];rfl,rfl⟩
    have e1:((s[k].toNat:Int) != 125)=false:=by simp;omega
    by_cases c2:k=0
    case pos =>
     have e2:((k:Int) == 0)=true:=by simp;omega
     have HR:=hid (show hxP s.data.toList=(2,0,0) from by rw [HC.out,if_pos (Or.inr (Or.inl c2))]);clear c1 c2 HC HFin HL HP;go_wp2_with (first | (go_at_call 213;refine (Tryz.utf8_ValidRune _ _).mono ?_;rintro e w1 ⟨rfl,rfl⟩) | (go_at_call 136;refine HIB.out.mono ?_;rintro e w1 ⟨rfl,rfl⟩))
     go_ret3
     exact ⟨by rw [HR.out];rfl,rfl⟩
    have e2:((k:Int) == 0)=false:=by simp;omega
    by_cases c3:1 < k
    . have e3:(1:Int) < k:=by omega
      have hs0:0 < s.size:=by omega
      by_cases c4:s[0].toNat=48
      . have e4:((s[0].toNat:Int) == 48)=true:=by simp;omega
        have HR:=hid (show hxP s.data.toList=(2,0,0) from by rw [HC.out,if_pos (Or.inr (Or.inr (Or.inl ⟨c3,c4⟩)))]);clear c1 c2 c3 c4 HC HFin HL HP;go_wp2_with (first | (go_at_call 213;refine (Tryz.utf8_ValidRune _ _).mono ?_;rintro e w1 ⟨rfl,rfl⟩) | (go_at_call 136;refine HIB.out.mono ?_;rintro e w1 ⟨rfl,rfl⟩))
        go_ret3
        exact ⟨by rw [HR.out];rfl,rfl⟩
      . have e4:((s[0].toNat:Int) == 48)=false:=by simp;omega
        cases c5:Lib.validRune (F:Nat)
        . have HR:=hid (show hxP s.data.toList=(2,0,0) from by rw [HC.out,if_pos (Or.inr (Or.inr (Or.inr c5)))])
          clear c1 c2 c3 c4 HC HFin HL HP;go_wp2_with (first | (go_at_call 213;refine (Tryz.utf8_ValidRune _ _).mono ?_;rintro e w1 ⟨rfl,rfl⟩) | (go_at_call 136;refine HIB.out.mono ?_;rintro e w1 ⟨rfl,rfl⟩))
          go_ret3
          exact ⟨by rw [HR.out];rfl,rfl⟩
        . have HR:=hid (show hxP s.data.toList=(0,F,k+1) from by rw [HC.out,if_neg];rintro (h | h | h | h);exact h c1;exact c2 h;exact c4 h.2;rw [c5] at h;cases h)
          clear c1 c2 c3 c4 HC HFin HL HP;go_wp2_with (first | (go_at_call 213;refine (Tryz.utf8_ValidRune _ _).mono ?_;rintro e w1 ⟨rfl,rfl⟩) | (go_at_call 136;refine HIB.out.mono ?_;rintro e w1 ⟨rfl,rfl⟩))
          go_ret3
          exact ⟨by rw [HR.out];rfl,rfl⟩
    . have hk1:k=1:=by omega
      subst hk1;cases c5:Lib.validRune (F:Nat)
      . have HR:=hid (show hxP s.data.toList=(2,0,0) from by rw [HC.out,if_pos (Or.inr (Or.inr (Or.inr c5)))])
        clear c1 c2 HC HFin HL HP hno c3 h6';have e0:((1:Int) == (s.size:Int))=false:=by simp;omega
        have hltz:(1:Int) < (s.size:Int):=by omega
        go_wp2_with (first | (go_at_call 213;refine (Tryz.utf8_ValidRune _ _).mono ?_;rintro e w1 ⟨rfl,rfl⟩) | (go_at_call 136;refine HIB.out.mono ?_;rintro e w1 ⟨rfl,rfl⟩))
        go_ret3
        exact ⟨by rw [HR.out];rfl,rfl⟩
      . have HR:=hid (show hxP s.data.toList=(0,F,1+1) from by rw [HC.out,if_neg];rintro (h | h | h | h);exact h c1;exact c2 h;exact absurd h.1 (by omega);rw [c5] at h;cases h)
        clear c1 c2 HC HFin HL HP hno c3 h6';have e0:((1:Int) == (s.size:Int))=false:=by simp;omega
        have hltz:(1:Int) < (s.size:Int):=by omega
        go_wp2_with (first | (go_at_call 213;refine (Tryz.utf8_ValidRune _ _).mono ?_;rintro e w1 ⟨rfl,rfl⟩) | (go_at_call 136;refine HIB.out.mono ?_;rintro e w1 ⟨rfl,rfl⟩))
        go_ret3
        exact ⟨by rw [HR.out];rfl,rfl⟩
  . rw [show Lib.indexByte (⟨#[48,49,50,51,52,53,54,55,56,57,97,98,99,100,101,102]⟩:ByteArray).data.toList ((s[k].toNat:Int).toNat.toUInt8)=(hxv s[k].toNat:Nat) from by have:=HIX.out;simp only [hx] at this;simpa using this] at hIB
    have HIB:=hid hIB;have hv:=hxv_le hx
    have HA2:=hid (show ∀ j (hj:j < s.size),j < k+1->isHx s[j].toNat=true from fun j hj hjk=>by
     by_cases e:j < k
     . exact HA.out j hj e
     . obtain rfl:j=k:=by omega
       exact hx)
    have HSn:=hid (show hxF (s.data.toList.take (k+1))=16 * hxF (s.data.toList.take k)+hxv s[k].toNat from by
     rw [List.take_succ_eq_append_getElem (by rw [size_list];exact hlt),hxF_snoc,get_list s k hlt])
    clear hIB HIX hx HFin HL HP HA;generalize hxF (s.data.toList.take k)=F at *;generalize hxv s[k].toNat=V at *;go_wp2_with (go_at_call 136;refine HIB.out.mono ?_;rintro e w1 ⟨rfl,rfl⟩)
    go_round
    case rel=>exact ⟨k+1,by omega,by omega,by go_num,by rw [HSn.out];go_num,HA2⟩
    case measure=>(simp [RowKit.intOf] <;> omega)
def escS (l:List UInt8):Int × Nat × Nat:=
 if l.length=0 then (40,0,0)
 else if (l.getD 0 0).toNat=110 then (0,10,1) else if (l.getD 0 0).toNat=114 then (0,13,1) else if (l.getD 0 0).toNat=116 then (0,9,1)
 else if (l.getD 0 0).toNat=34 ∨ (l.getD 0 0).toNat=92 then (0,(l.getD 0 0).toNat,1)
 else if (l.getD 0 0).toNat=117 then (if l.length=1 then (40,0,0) else if (l.getD 1 0).toNat≠123 then (2,0,0) else ((hxP (l.drop 2)).1,(hxP (l.drop 2)).2.1,(hxP (l.drop 2)).2.2+2))
 else (2,0,0)
theorem extract_list (s:ByteArray) (a:Nat):(s.extract a s.size).data.toList=s.data.toList.drop a:=by
 have h:=Lib.extract_data s a s.size;rw [h,List.take_of_length_le];rw [List.length_drop,size_list];exact Nat.le_refl _
theorem escS_at (s:ByteArray) (h:0 < s.size):escS s.data.toList=((if s[0].toNat=110 then (0,10,1) else if s[0].toNat=114 then (0,13,1) else if s[0].toNat=116 then (0,9,1)
  else if s[0].toNat=34 ∨ s[0].toNat=92 then (0,s[0].toNat,1)
  else if s[0].toNat=117 then (if h1:s.size=1 then (40,0,0) else if (s[1]'(by omega)).toNat≠123 then (2,0,0) else ((hxP (s.data.toList.drop 2)).1,(hxP (s.data.toList.drop 2)).2.1,(hxP (s.data.toList.drop 2)).2.2+2))
  else (2,0,0)):Int × Nat × Nat):=by
 unfold escS;rw [size_list,if_neg (by omega),getD_at s h]
 by_cases h1:s.size=1
 . rw [dif_pos h1,if_pos h1]
 . rw [dif_neg h1,if_neg h1,getD_at s (show 1 < s.size by omega)]
set_option maxHeartbeats 8000000 in
set_option maxRecDepth 100000 in
theorem pesc_any (s:ByteArray) (w:World) (hs:s.size<=2000000):Calls Tryz.prog 180 #[.string s] w fun e w'=>e=HxR (escS s.data.toList)/\w=w':=by
 by_cases h0:s.size=0
 . have HR:=hid (show escS s.data.toList=(40,0,0) by unfold escS;rw [size_list,if_pos h0])
   have e0:=str_nil h0;clear h0;go_enter Tryz.func180,Tryz.ntmps180;go_wp2
   go_ret3
   exact ⟨by rw [HR.out];rfl,rfl⟩
 have e0:=str_cons h0;have hpos:0 < s.size:=by omega
 have HE:=hid (escS_at s hpos);have hc:=lt256 s[0];clear h0
 by_cases h110:s[0].toNat=110
 . have e110:((s[0].toNat:Int) == 110)=true:=by simp;omega
   have HR:=hid (show escS s.data.toList=(0,10,1) by rw [HE.out,if_pos h110]);clear HE h110;go_enter Tryz.func180,Tryz.ntmps180;go_wp2
   go_ret3
   exact ⟨by rw [HR.out];rfl,rfl⟩
 have e110:((s[0].toNat:Int) == 110)=false:=by simp;omega
 by_cases h114:s[0].toNat=114
 . have e114:((s[0].toNat:Int) == 114)=true:=by simp;omega
   have HR:=hid (show escS s.data.toList=(0,13,1) by rw [HE.out,if_neg h110,if_pos h114]);clear HE h114 h110;go_enter Tryz.func180,Tryz.ntmps180;go_wp2
   go_ret3
   exact ⟨by rw [HR.out];rfl,rfl⟩
 have e114:((s[0].toNat:Int) == 114)=false:=by simp;omega
 by_cases h116:s[0].toNat=116
 . have e116:((s[0].toNat:Int) == 116)=true:=by simp;omega
   have HR:=hid (show escS s.data.toList=(0,9,1) by rw [HE.out,if_neg h110,if_neg h114,if_pos h116]);clear HE h116 h110 h114;go_enter Tryz.func180,Tryz.ntmps180;go_wp2
   go_ret3
   exact ⟨by rw [HR.out];rfl,rfl⟩
 have e116:((s[0].toNat:Int) == 116)=false:=by simp;omega
 by_cases h34:s[0].toNat=34
 . have e34:((s[0].toNat:Int) == 34)=true:=by simp;omega
   have HR:=hid (show escS s.data.toList=((0:Int),s[0].toNat,1) by rw [HE.out,if_neg h110,if_neg h114,if_neg h116,if_pos (Or.inl h34)]);clear HE h34 h110 h114 h116;go_enter Tryz.func180,Tryz.ntmps180;go_wp2
   go_ret3
   exact ⟨by rw [HR.out];rfl,rfl⟩
 have e34:((s[0].toNat:Int) == 34)=false:=by simp;omega
 by_cases h92:s[0].toNat=92
 . have e92:((s[0].toNat:Int) == 92)=true:=by simp;omega
   have HR:=hid (show escS s.data.toList=((0:Int),s[0].toNat,1) by rw [HE.out,if_neg h110,if_neg h114,if_neg h116,if_pos (Or.inr h92)]);clear HE h92 h110 h114 h116 h34;go_enter Tryz.func180,Tryz.ntmps180;go_wp2
   go_ret3
   exact ⟨by rw [HR.out];rfl,rfl⟩
 have e92:((s[0].toNat:Int) == 92)=false:=by simp;omega
 have hno:¬ (s[0].toNat=34 ∨ s[0].toNat=92):=by omega
 by_cases h117:s[0].toNat=117
 . have e117:((s[0].toNat:Int) == 117)=true:=by simp;omega
   have HX:=hid (HE.out.trans (by rw [if_neg h110,if_neg h114,if_neg h116,if_neg hno,if_pos h117]));clear HE h117 h110 h114 h116 h34 h92 hno
   by_cases h1:s.size=1
   . have HR:=hid (show escS s.data.toList=(40,0,0) from HX.out.trans (dif_pos h1))
     have e1:((s.size:Int) == 1)=true:=by simp;omega
     clear HX h1;go_enter Tryz.func180,Tryz.ntmps180;go_wp2
     go_ret3
     exact ⟨by rw [HR.out];rfl,rfl⟩
   . have e1:((s.size:Int) == 1)=false:=by simp;omega
     have h2:1 < s.size:=by omega
     have h2z:(1:Int) < (s.size:Int):=by omega
     have h3z:(2:Int)<=(s.size:Int):=by omega
     have HY:=hid (HX.out.trans (dif_neg h1))
     by_cases h123:s[1].toNat=123
     . have e123:((s[1].toNat:Int) != 123)=false:=by simp;omega
       have HR:=hid (HY.out.trans (if_neg (by simpa using h123)));have HP:=hid (phex_any (s.extract 2 s.size) w (by rw [<-size_list,extract_list,List.length_drop,size_list];omega));rw [extract_list] at HP
       have HN:=hid (show (hxP (s.data.toList.drop 2)).2.2<=2000000 by
        have hl:(hxL (s.data.toList.drop 2)).length<=6:=by
         unfold hxL;exact Nat.le_trans (List.takeWhile_sublist _).length_le (by rw [List.length_take];omega)
        unfold hxP
        repeat' split
        all_goals simp
        all_goals omega)
       generalize hxP (s.data.toList.drop 2)=x at *;obtain ⟨x1,x2,x3⟩:=x;simp only at HN HR;have hn:=HN.out;clear HX HY h1 h123;unfold HxR at HP;go_enter Tryz.func180,Tryz.ntmps180;go_wp2_with (go_at_call 217;refine HP.out.mono ?_;rintro e w1 ⟨rfl,rfl⟩)
       go_ret3
       exact ⟨by rw [HR.out];rfl,rfl⟩
     . have e123:((s[1].toNat:Int) != 123)=true:=by simp;omega
       have HR:=hid (HY.out.trans (if_pos h123));clear HX HY h1 h123;go_enter Tryz.func180,Tryz.ntmps180;go_wp2
       go_ret3
       exact ⟨by rw [HR.out];rfl,rfl⟩
 . have e117:((s[0].toNat:Int) == 117)=false:=by simp;omega
   have HR:=hid (show escS s.data.toList=(2,0,0) from HE.out.trans (by rw [if_neg h110,if_neg h114,if_neg h116,if_neg hno,if_neg h117]));clear HE h117 h110 h114 h116 h34 h92 hno;go_enter Tryz.func180,Tryz.ntmps180;go_wp2
   go_ret3
   exact ⟨by rw [HR.out];rfl,rfl⟩
def renR:Go.Shelf.Ren:=⟨Tryz.lays242_ren.f,fun | 72=>205 | n=>Tryz.lays242_ren.t n,Tryz.lays242_ren.g⟩
theorem laysR:Go.Proofs.Lays.n242 Tryz.prog renR:={ Tryz.lays242 with }
theorem extraR:Go.Proofs.Builder.Extra Tryz.prog renR:={
 sizeBuilder:=by kernel_rfl
 liesBuilder:=by kernel_rfl
 t5:=Tryz.underlying5
 a5:=Tryz.isAgg5
 z5:=Tryz.sizeOf5
 v5:=Tryz.zeroValue5
 infoByte:=by kernel_rfl
 cellsByte:=by kernel_rfl
 sizeByte:=by kernel_rfl
 neB5:=by decide }
abbrev BF (B b:Nat) (l:List UInt8) (w:World):Prop:=Lib.IsBuilderF 205 5 B b (Lib.byteCells l) w
set_option maxHeartbeats 2000000 in
set_option maxRecDepth 100000 in
theorem bcheckF_any (B b:Nat) (bs:List Value) (w:World) (h:Lib.IsBuilderF 205 5 B b bs w) :
  Calls Tryz.prog 218 #[.pointer (some ⟨b,0,none⟩)] w fun e w'=>e=.returned (.tuple #[])/\(Lib.BuilderAtF 205 5 B b (.pointer (some ⟨b,0,none⟩)) bs w'/\Below B w w'):=by
 obtain ⟨j,hj,hjs⟩:=Option.map_eq_some_iff.1 bldinfo;rcases h with h | h
 . have h0:=h.cell0
   have hsh:=h.shape;have hfz:=h.frozen0;have H:=hid h;clear h;go_enter Tryz.func218,Tryz.ntmps218;go_wp2
   rw [Lib.run_to_unsafe w ⟨b,0,none⟩ Tryz.underlying203 Tryz.underlying255 hj (by rw [hjs];decide) hsh (Nat.zero_lt_succ 1)];simp only [Result.andThen];rw [Oper.upon_value];go_wp2
   rw [run_callFunc_extern Tryz.func239 (by kernel_rfl) (by kernel_rfl) (by kernel_rfl) (e:=Extern.AbiNoEscape.same) (by kernel_rfl)];rw [Lib.run_noEscape];simp only [Result.andThen];rw [Oper.upon_value];go_wp2
   rw [Lib.run_from_unsafe w ⟨b,0,none⟩ Tryz.underlying255 Tryz.underlying203 hj hsh bldlies];simp only [Result.andThen];rw [Oper.upon_value];go_wp2
   go_end0
   exact ⟨rfl,H.out.used _,(Below.refl B w).setCell (p:=⟨b,0,none⟩) H.out.1 _⟩
 . have h0:=h.cell0
   have H:=hid h;clear h;go_enter Tryz.func218,Tryz.ntmps218;go_wp2
   rw [Lib.run_neq_ptr_same w _ Tryz.underlying203 hj];go_wp2
   go_end0
   exact ⟨rfl,H.out,Below.refl B _⟩
set_option maxHeartbeats 4000000 in
set_option maxRecDepth 100000 in
theorem brune_any (B b:Nat) (bs:List Value) (r:Int) (hr0:-2147483648<=r) (hr1:r<=2147483647) (w:World) (h:Lib.IsBuilderF 205 5 B b bs w) (hlen:bs.length+4<=1000000000) (hBw:B<=w.heap.size) :
  Calls Tryz.prog 181 #[.pointer (some ⟨b,0,none⟩),.int .i32 r] w fun e w'=>e=.returned (.tuple #[.int .i64 (Lib.runeCells r).length,.nilIface])/\(Lib.BuilderAtF 205 5 B b (.pointer (some ⟨b,0,none⟩)) (bs ++ Lib.runeCells r) w'/\Below B w w'):=by
 have hk4:=Lib.runeCells_le r;go_enter Tryz.func181,Tryz.ntmps181;go_wp2_with (go_at_call 218;refine (bcheckF_any B b bs _ h).mono ?_)
 rintro e w1 ⟨rfl,h1,hb1⟩;obtain ⟨hB,v,hbk,hown,hne⟩:=h1
 obtain ⟨ao,cap,rfl⟩:∃ ao cap,v=.slice ao bs.length cap:=by
  rcases hown.2 with ⟨hv,h0⟩ | ⟨g,cap,cur,fz,hv,_⟩
  . exact ⟨none,0,by rw [hv,h0]⟩
  . exact ⟨_,_,hv⟩
 have c0:w1.cell? ⟨b,0,none⟩=some (.pointer (some ⟨b,0,none⟩)):=by rw [Lib.cell_of_heap hbk];rfl
 have c1:w1.cell? ⟨b,1,none⟩=some (.slice ao bs.length cap):=by rw [Lib.cell_of_heap hbk];rfl
 have HAP:=Any.utf8_AppendRune_own laysR extraR B _ bs.length bs r hr0 hr1 w1 hown (by omega) (by have:=hb1.size;omega);go_wp2_with (go_at_call 219;refine HAP.mono ?_)
 rintro e w2 ⟨v',rfl,hown',o,hgrow⟩
 have hlt:b < w1.heap.size:=by
  rcases Nat.lt_or_ge b w1.heap.size with h' | h'
  . exact h'
  . simp [Array.getElem?_eq_none h'] at hbk
 have hb2:w2.heap[b]?=some (.cells #[.pointer (some ⟨b,0,none⟩),.slice ao bs.length cap] 205 (0,0)):=by
  rw [hgrow.block b (by simp;omega) (fun e=>hne e.symm),Lib.alloc_old w1 _ b hlt];exact hbk
 have d0:w2.cell? ⟨b,0,none⟩=some (.pointer (some ⟨b,0,none⟩)):=by rw [Lib.cell_of_heap hb2];rfl
 have d1:w2.cell? ⟨b,1,none⟩=some (.slice ao bs.length cap):=by rw [Lib.cell_of_heap hb2];rfl
 have f1:w2.frozen? ⟨b,1,none⟩=false:=Lib.frozen_of_heap hb2 1
 obtain ⟨ao',cap',hv'⟩:∃ ao' cap',v'=.slice ao' (bs.length+(Lib.runeCells r).length) cap':=by
  rcases hown'.2 with ⟨hv,h0⟩ | ⟨g,cap,cur,fz,hv,_⟩
  . exact ⟨none,0,by rw [hv,h0]⟩
  . exact ⟨_,_,hv⟩
 subst hv';have HB2:=hid hb2;have HO:=hid hown';have HN:Hid ((w1.heap.size:Int)=w1.heap.size):=hid rfl;have HBel:=hid (show Below B w w2 from (hb1.alloc (by have:=hb1.size;omega) _).grown hgrow (by have:=hb1.size;simp;omega) (fun k hk=>(hown.lt k hk).1));have hsub:((bs.length+(Lib.runeCells r).length:Nat):Int) - (bs.length:Int)=(Lib.runeCells r).length:=by omega
 clear hb2 hown' hgrow hown HAP hb1 hbk h;generalize hRC:(Lib.runeCells r).length=RC at *;have HRC:=hid hRC;clear hRC;have HR:=hid hsub;clear hsub;go_wp2
 go_ret2
 refine ⟨?_,?_,?_⟩
 . rw [HRC.out]
   exact congrArg (fun z:Int=>Ending.returned (.tuple #[.int .i64 z,.nilIface])) (show ((bs.length:Int)+(RC:Int) - (bs.length:Int))=(RC:Int) by omega)
 . exact Lib.BuilderAtF.put (T:=205) (e:=5) hB HB2.out (bs':=bs ++ Lib.runeCells r) (by rw [List.length_append,HRC.out];exact HO.out) (by decide)
 . exact HBel.out.setCell (p:=⟨b,1,none⟩) hB _
theorem brune_b (B b:Nat) (l:List UInt8) (r:Nat) (hr:r<=1114111) (w:World) (h:BF B b l w) (hlen:l.length<=100000000) (hBw:B<=w.heap.size) :
  Calls Tryz.prog 181 #[.pointer (some ⟨b,0,none⟩),.int .i32 r] w fun e w'=>(∃ k:Int,e=.returned (.tuple #[.int .i64 k,.nilIface]))/\BF B b (l ++ Lib.encodeRune r) w'/\Below B w w':=by
 refine (brune_any B b _ r (by omega) (by omega) w h (by simp [Lib.byteCells];omega) hBw).mono ?_;rintro e w' ⟨rfl,h1,h2⟩;refine ⟨⟨_,rfl⟩,Or.inr ?_,h2⟩;have e:Lib.byteCells (l ++ Lib.encodeRune r)=Lib.byteCells l ++ Lib.runeCells r:=by rw [<-Lib.byteCells_encodeRune];simp [Lib.byteCells]
 rw [e];exact h1
theorem bf_new (w:World) (B:Nat) (hB:B<=w.heap.size):BF B w.heap.size [] (w.alloc (.cells #[.pointer none,.slice none 0 0] 205)):=Lib.IsBuilderF.of (bl_new w B hB)
end Go.Proofs.YtomhbcfjhgecbaaGreatDoor.Adr
namespace Go.Proofs.YtomhbcfjhgecbaaGreatDoor
open Go.Lib
def decRN (n b0 b1 b2 b3:Nat):Nat:=
 if b0 < 128 then 1
 else if 194<=b0/\b0<=223/\1 < n/\128<=b1/\b1<=191 then 2
 else if 224<=b0/\b0<=239/\1 < n/\(if b0=224 then 160 else 128)<=b1/\b1<=(if b0=237 then 159 else 191)/\2 < n/\128<=b2/\b2<=191 then 3
 else if 240<=b0/\b0<=244/\1 < n/\(if b0=240 then 144 else 128)<=b1/\b1<=(if b0=244 then 143 else 191)/\2 < n/\128<=b2/\b2<=191/\3 < n/\128<=b3/\b3<=191 then 4
 else 0
set_option maxHeartbeats 4000000 in
theorem decRN_spec (n b0 b1 b2 b3:Nat) (_hn:1<=n) (h0:b0 < 256) (h1:b1 < 256) (h2:b2 < 256) (h3:b3 < 256) :
  (decRN n b0 b1 b2 b3=0/\decodeN n b0 b1 b2 b3=(65533,1)) ∨ (0 < decRN n b0 b1 b2 b3/\(decodeN n b0 b1 b2 b3).2=decRN n b0 b1 b2 b3/\¬ ((decodeN n b0 b1 b2 b3).1=65533/\(decodeN n b0 b1 b2 b3).2=1)):=by
 by_cases c:b0 < 128
 . right
   unfold decRN decodeN;rw [if_pos c,if_pos c];simp;omega
 by_cases c2:b0 < 194
 . left
   refine ⟨?_,decodeN_bad n b0 b1 b2 b3 (.inl ⟨by omega,c2⟩)⟩;unfold decRN;rw [if_neg c,if_neg (by omega),if_neg (by omega),if_neg (by omega)]
 by_cases c3:b0<=223
 . unfold decRN decodeN
   rw [if_neg c,if_neg c]
   by_cases e:1 < n/\128<=b1/\b1<=191
   . right
     rw [if_pos ⟨by omega,c3,e⟩,if_pos ⟨by omega,by omega,by omega⟩,if_pos (by omega)];simp
   . left
     rw [if_neg (by omega),if_neg (by omega),if_neg (by omega),if_neg (by omega),if_neg (by omega),if_neg (by omega)];exact ⟨rfl,rfl⟩
 by_cases c4:b0<=239
 . unfold decRN decodeN
   rw [if_neg c,if_neg c,if_neg (by omega:¬ (194<=b0/\b0<=223/\1 < n/\128<=b1/\b1<=191)),if_neg (by omega:¬ (b0 / 32=6/\1 < n/\b1 / 64=2))];rw [if_neg (by omega:¬ (240<=b0/\b0<=244/\1 < n/\_))];rw [if_neg (by omega:¬ (b0 / 8=30/\(1 < n/\b1 / 64=2)/\(2 < n/\b2 / 64=2)/\(3 < n/\b3 / 64=2)))]
   by_cases e1:b0=224
   . subst e1
     repeat' split
     all_goals simp_all
     all_goals omega
   by_cases e2:b0=237
   . subst e2
     repeat' split
     all_goals simp_all
     all_goals omega
   . simp only [e1,e2,if_false]
     repeat' split
     all_goals simp_all
     all_goals omega
 by_cases c5:b0<=244
 . unfold decRN decodeN
   rw [if_neg c,if_neg c,if_neg (by omega:¬ (194<=b0/\b0<=223/\1 < n/\128<=b1/\b1<=191)),if_neg (by omega:¬ (b0 / 32=6/\1 < n/\b1 / 64=2))];rw [if_neg (by omega:¬ (b0 / 16=14/\(1 < n/\b1 / 64=2)/\(2 < n/\b2 / 64=2)))];rw [if_neg (by omega:¬ (224<=b0/\b0<=239/\1 < n/\_))]
   by_cases e1:b0=240
   . subst e1
     repeat' split
     all_goals simp_all
     all_goals omega
   by_cases e2:b0=244
   . subst e2
     repeat' split
     all_goals simp_all
     all_goals omega
   . simp only [e1,e2,if_false]
     repeat' split
     all_goals simp_all
     all_goals omega
 . left
   refine ⟨?_,decodeN_bad n b0 b1 b2 b3 (.inr ⟨by omega,h0⟩)⟩;unfold decRN;rw [if_neg c,if_neg (by omega),if_neg (by omega),if_neg (by omega)]
def decR (l:List UInt8):Nat:=decRN l.length (l.getD 0 0).toNat (l.getD 1 0).toNat (l.getD 2 0).toNat (l.getD 3 0).toNat
theorem validD_ref (l:List UInt8) (hne:l≠[]):validD l=if decR l=0 then false else validD (l.drop (decR l)):=by
 have hl:0 < l.length:=List.length_pos_iff.2 hne;rw [validD_step l hne,decodeL_N];rcases decRN_spec l.length (l.getD 0 0).toNat (l.getD 1 0).toNat (l.getD 2 0).toNat (l.getD 3 0).toNat hl (l.getD 0 0).toNat_lt (l.getD 1 0).toNat_lt (l.getD 2 0).toNat_lt (l.getD 3 0).toNat_lt with ⟨h1,h2⟩ | ⟨h1,h2,h3⟩
 . rw [h2,if_pos ⟨rfl,rfl⟩,if_pos (show decR l=0 from h1)]
 . rw [if_neg h3,h2,if_neg (show ¬ decR l=0 by unfold decR;omega)];rfl
end Go.Proofs.YtomhbcfjhgecbaaGreatDoor
namespace Go.Proofs.YtomhbcfjhgecbaaGreatDoor.Adr
open Go.RowKit Go.Sort Go.Lib Go.Maps
open Go.Lib (hid)
def oneS (l:List UInt8):Int × List UInt8 × Nat:=
 if (l.getD 0 0).toNat=92 then (if (escS l.tail).1≠0 then ((escS l.tail).1,[],0) else (0,Lib.encodeRune ((escS l.tail).2.1:Nat),(escS l.tail).2.2+1))
 else if decR l=0 ∨ (l.getD 0 0).toNat < 32 ∨ (l.getD 0 0).toNat=127 then (2,[],0) else (0,l.take (decR l),decR l)
def unqL (l out:List UInt8):Int × List UInt8 × List UInt8:=
 match l with
 | []=>(40,[],[])
 | c :: r=>if c.toNat=34 then (if 4096 < out.length then (3,[],[]) else (0,out,r))
   else if (oneS (c :: r)).1≠0 then ((oneS (c :: r)).1,[],[]) else unqL (r.drop ((oneS (c :: r)).2.2 - 1)) (out ++ (oneS (c :: r)).2.1)
termination_by l.length
decreasing_by simp;omega
def unqS (l:List UInt8):Int × List UInt8 × Nat:=
 if l.length=0 then (40,[],0) else if (l.getD 0 0).toNat≠34 then (2,[],0)
 else if (unqL l.tail []).1≠0 then ((unqL l.tail []).1,[],0) else (0,(unqL l.tail []).2.1,l.length - (unqL l.tail []).2.2.length)
theorem unqL_nil (out:List UInt8):unqL [] out=(40,[],[]):=by rw [unqL]
theorem unqL_quote (c:UInt8) (r out:List UInt8) (h:c.toNat=34):unqL (c :: r) out=if 4096 < out.length then (3,[],[]) else (0,out,r):=by rw [unqL,if_pos h]
theorem unqL_bad (c:UInt8) (r out:List UInt8) (h:c.toNat≠34) (h1:(oneS (c :: r)).1≠0):unqL (c :: r) out=((oneS (c :: r)).1,[],[]):=by rw [unqL,if_neg h,if_pos h1]
theorem unqL_one (c:UInt8) (r out:List UInt8) (h:c.toNat≠34) (h1:(oneS (c :: r)).1=0) (h2:1<=(oneS (c :: r)).2.2):unqL (c :: r) out=unqL ((c :: r).drop (oneS (c :: r)).2.2) (out ++ (oneS (c :: r)).2.1):=by
 rw [unqL,if_neg h,if_neg (by rw [h1];simp)]
 congr 1
 obtain ⟨n,hn⟩:∃ n,(oneS (c :: r)).2.2=n+1:=⟨_,(Nat.sub_add_cancel h2).symm⟩;rw [hn];simp
theorem getD_drop0 (s:ByteArray) (k:Nat) (h:k < s.size):(s.data.toList.drop k).getD 0 0=s[k]:=by
 rw [List.getD_eq_getElem?_getD,List.getElem?_drop,Nat.add_zero,List.getElem?_eq_getElem (by rw [size_list];exact h)];rfl
theorem drop_cons (s:ByteArray) (k:Nat) (h:k < s.size):s.data.toList.drop k=s[k] :: s.data.toList.drop (k+1):=by
 rw [List.drop_eq_getElem_cons (by rw [size_list];exact h)];rfl
theorem hxP_ok {l:List UInt8} (h:(hxP l).1=0):Lib.validRune ((hxP l).2.1:Nat)=true/\1<=(hxP l).2.2/\(hxP l).2.2<=l.length:=by
 unfold hxP at *;generalize (hxL l).length=k at *;generalize hxF (hxL l)=F at *;generalize (l.getD k 0).toNat=x at *;generalize (l.getD 0 0).toNat=y at *
 by_cases h1:l.length<=k
 . rw [if_pos h1] at h;cases h
 . rw [if_neg h1] at h ⊢
   by_cases h2:x≠125 ∨ k=0 ∨ (1 < k/\y=48) ∨ Lib.validRune (F:Nat)=false
   . rw [if_pos h2] at h;cases h
   . rw [if_neg h2]
     refine ⟨?_,by show 1<=k+1;omega,by show k+1<=_;omega⟩;cases h3:Lib.validRune (F:Nat) with
     | true=>rfl
     | false=>exact absurd (Or.inr (Or.inr (Or.inr h3))) h2
theorem vr_le {r:Nat} (h:Lib.validRune (r:Int)=true):r<=1114111:=by unfold Lib.validRune at h;have:=of_decide_eq_true h;omega
theorem vr_small {r:Nat} (h:r < 256):Lib.validRune (r:Int)=true:=by unfold Lib.validRune;exact decide_eq_true (by omega)
theorem escS_ok {l:List UInt8} (h:(escS l).1=0):Lib.validRune ((escS l).2.1:Nat)=true/\1<=(escS l).2.2/\(escS l).2.2<=l.length:=by
 have hc:(l.getD 0 0).toNat < 256:=(l.getD 0 0).toNat_lt;unfold escS at *
 by_cases h0:l.length=0
 . rw [if_pos h0] at h;simp at h
 rw [if_neg h0] at h ⊢;generalize (l.getD 0 0).toNat=b at *
 by_cases h1:b=110
 . rw [if_pos h1];exact ⟨vr_small (by decide),by simp,by simp;omega⟩
 rw [if_neg h1] at h ⊢
 by_cases h2:b=114
 . rw [if_pos h2];exact ⟨vr_small (by decide),by simp,by simp;omega⟩
 rw [if_neg h2] at h ⊢
 by_cases h3:b=116
 . rw [if_pos h3];exact ⟨vr_small (by decide),by simp,by simp;omega⟩
 rw [if_neg h3] at h ⊢
 by_cases h4:b=34 ∨ b=92
 . rw [if_pos h4];exact ⟨vr_small hc,by simp,by simp;omega⟩
 rw [if_neg h4] at h ⊢
 by_cases h5:b=117
 . rw [if_pos h5] at h ⊢
   by_cases h6:l.length=1
   . rw [if_pos h6] at h;simp at h
   rw [if_neg h6] at h ⊢
   by_cases h7:(l.getD 1 0).toNat≠123
   . rw [if_pos h7] at h;simp at h
   rw [if_neg h7] at h ⊢;obtain ⟨k1,k2,k3⟩:=hxP_ok h;refine ⟨k1,by simp,?_⟩;rw [List.length_drop] at k3;show _+2<=_;omega
 . rw [if_neg h5] at h;simp at h
theorem enc_len (r:Int):(Lib.encodeRune r).length<=4/\1<=(Lib.encodeRune r).length:=by
 have:=Lib.encodeRuneZ_length r;unfold Lib.encodeRune;simp;omega
theorem dec_facts {l:List UInt8} (hne:l≠[]):((decodeL l).1=92 ↔ (l.getD 0 0).toNat=92)/\((l.getD 0 0).toNat=92->(decodeL l).2=1)/\(decodeL l).1<=1114111 /\
  ((((decodeL l).1=65533/\(decodeL l).2=1) ∨ (decodeL l).1 < 32 ∨ (decodeL l).1=127) ↔ (decR l=0 ∨ (l.getD 0 0).toNat < 32 ∨ (l.getD 0 0).toNat=127)) /\
  (¬ (decR l=0 ∨ (l.getD 0 0).toNat < 32 ∨ (l.getD 0 0).toNat=127)->(decodeL l).2=decR l/\Lib.encodeRune ((decodeL l).1:Int)=l.take (decR l)/\1<=decR l/\decR l<=l.length):=by
 have hl:0 < l.length:=List.length_pos_iff.2 hne;have hle:=Lib.decodeL_le l hne;have henc:=Lib.encode_decode l hne;have hs:=decRN_spec l.length (l.getD 0 0).toNat (l.getD 1 0).toNat (l.getD 2 0).toNat (l.getD 3 0).toNat hl (l.getD 0 0).toNat_lt (l.getD 1 0).toNat_lt (l.getD 2 0).toNat_lt (l.getD 3 0).toNat_lt;have hsh:=Lib.decodeN_shape l.length (l.getD 0 0).toNat (l.getD 1 0).toNat (l.getD 2 0).toNat (l.getD 3 0).toNat
 have h0:(l.getD 0 0).toNat < 256:=(l.getD 0 0).toNat_lt;have h1:(l.getD 1 0).toNat < 256:=(l.getD 1 0).toNat_lt;have h2:(l.getD 2 0).toNat < 256:=(l.getD 2 0).toNat_lt;have h3:(l.getD 3 0).toNat < 256:=(l.getD 3 0).toNat_lt;rw [<-Lib.decodeL_N] at hs hsh;have hD1:(l.getD 0 0).toNat < 128->decR l=1:=fun h=>by unfold decR decRN;rw [if_pos h]
 have hR:decR l=decRN l.length (l.getD 0 0).toNat (l.getD 1 0).toNat (l.getD 2 0).toNat (l.getD 3 0).toNat:=rfl;rw [<-hR] at hs;clear hR;generalize (l.getD 0 0).toNat=b0 at *;generalize (l.getD 1 0).toNat=b1 at *;generalize (l.getD 2 0).toNat=b2 at *;generalize (l.getD 3 0).toNat=b3 at *;generalize decR l=D at *;generalize hd:decodeL l=d at *;obtain ⟨r,n⟩:=d;simp only [Prod.mk.injEq] at *;rcases hsh with ⟨a,e1,e2⟩ | ⟨a,a1,a2,a3,e1,e2⟩ | ⟨a,a1,a2,a3,a4,a5,e1,e2⟩ | ⟨a,a1,a2,a3,a4,a5,a6,e1,e2⟩ | ⟨e1,e2⟩
 . refine ⟨by omega,by omega,by omega,by omega,fun hg=>?_⟩
   have hb:¬ (r=65533/\n=1):=by omega
   refine ⟨by omega,?_,by omega,by omega⟩;rw [henc hb,show n=D by omega]
 . refine ⟨by omega,by omega,by omega,by omega,fun hg=>?_⟩
   have hb:¬ (r=65533/\n=1):=by omega
   refine ⟨by omega,?_,by omega,by omega⟩;rw [henc hb,show n=D by omega]
 . refine ⟨by omega,by omega,by omega,by omega,fun hg=>?_⟩
   have hb:¬ (r=65533/\n=1):=by omega
   refine ⟨by omega,?_,by omega,by omega⟩;rw [henc hb,show n=D by omega]
 . refine ⟨by omega,by omega,by omega,by omega,fun hg=>?_⟩
   have hb:¬ (r=65533/\n=1):=by omega
   refine ⟨by omega,?_,by omega,by omega⟩;rw [henc hb,show n=D by omega]
 . refine ⟨by omega,by omega,by omega,by omega,fun hg=>by omega⟩
theorem dec_go (t:ByteArray) (h:t.size≠0):Lib.decodeGo t=Lib.decodeL t.data.toList:=by
 unfold Lib.decodeGo Lib.decodeL;rw [if_neg h]
theorem ext_size (s:ByteArray) (k:Nat) (h:k<=s.size):(s.extract k s.size).size=s.size - k:=by rw [<-size_list,extract_list,List.length_drop,size_list]
theorem bf_kept {B b:Nat} {l:List UInt8} {w w':World} (h:BF B b l w) (hb:Below w.heap.size w w'):BF B b l w':=by
 have key:∀ p,Lib.BuilderAtF 205 5 B b p (Lib.byteCells l) w->Lib.BuilderAtF 205 5 B b p (Lib.byteCells l) w':=by
  intro p h;obtain ⟨h1,v,h2,h3,h4⟩:=h;exact ⟨h1,v,(hb.block _ (lt_of_block h2)).trans h2,h3.kept (grown_below hb) (by cases v.ownBlock <;> simp),h4⟩
 exact h.imp (key _) (key _)
def UqR (x:Int × List UInt8 × Nat):Ending:=.returned (.tuple #[.string ⟨x.2.1.toArray⟩,.int .i64 (x.2.2:Nat),.int .i64 x.1])
theorem unqS_in {s:ByteArray} (h:0 < s.size) (hq:s[0].toNat=34):unqS s.data.toList=if (unqL (s.data.toList.drop 1) []).1≠0 then ((unqL (s.data.toList.drop 1) []).1,[],0) else (0,(unqL (s.data.toList.drop 1) []).2.1,s.size - (unqL (s.data.toList.drop 1) []).2.2.length):=by
 unfold unqS;rw [size_list,if_neg (by omega),getD_at s h,if_neg (by rw [hq];simp),List.drop_one]
set_option maxHeartbeats 16000000 in
set_option maxRecDepth 100000 in
theorem punq_any (s:ByteArray) (w:World) (hT:WT w) (hs:s.size<=2000000):Calls Tryz.prog 134 #[.string s] w fun e w'=>e=UqR (unqS s.data.toList)/\Below w.heap.size w w':=by
 by_cases h0:s.size=0
 . have HR:=hid (show unqS s.data.toList=(40,[],0) by unfold unqS;rw [size_list,if_pos h0])
   have HB:=hid (Below.refl w.heap.size w);have e0:=str_nil h0;clear h0 hT;go_enter Tryz.func134,Tryz.ntmps134;go_wp2
   go_ret3
   exact ⟨by rw [HR.out];rfl,HB.out⟩
 have e0:=str_cons h0;have hpos:0 < s.size:=by omega
 by_cases hq:s[0].toNat=34
 case neg =>
  have HR:=hid (show unqS s.data.toList=(2,[],0) by unfold unqS;rw [size_list,if_neg h0,getD_at s hpos,if_pos hq]);have HB:=hid (Below.refl w.heap.size w);have e1:((s[0].toNat:Int) != 34)=true:=by simp;omega
  clear h0 hT hq;go_enter Tryz.func134,Tryz.ntmps134;go_wp2
  go_ret3
  exact ⟨by rw [HR.out];rfl,HB.out⟩
 have HU:=hid (unqS_in hpos hq);have e1:((s[0].toNat:Int) != 34)=false:=by simp;omega
 have HBN:=hid (bf_new w w.heap.size (Nat.le_refl _));have HB0:=hid (show Below w.heap.size w (w.alloc (.cells #[.pointer none,.slice none 0 0] 205)) from (Below.refl _ _).alloc (Nat.le_refl _) _);have HWT:=hid (fun (W:World) (hW:Below w.heap.size w W)=>(hT.below hW).u);clear h0 hT hq;go_enter Tryz.func134,Tryz.ntmps134;go_wp2
 generalize hX:unqL (s.data.toList.drop 1) []=X at *;have HX:=hid hX;clear hX;go_loopg [6] s.size (fun gg s6 wr=>∃ (k:Nat) (acc:List UInt8),1<=k/\k<=s.size/\s.size - k<=gg/\s6=.int .i64 k/\Hid (BF w.heap.size w.heap.size acc wr)/\Hid (Below w.heap.size w wr)/\Hid (unqL (s.data.toList.drop k) acc=X)/\Hid (acc.length<=4 * k))
 case atStart=>exact ⟨1,[],by omega,by omega,by omega,rfl,HBN,HB0,HX,hid (by simp)⟩
 case round =>
  clear HBN HB0 HX;obtain ⟨k,acc,hk1,hk,hgk,rfl,HL,HW,HQ,HA⟩:=hrel
  by_cases hlt:k < s.size
  case neg =>
   have hke:(s.data.toList.drop k)=[]:=List.drop_eq_nil_of_le (by rw [size_list];omega)
   have HR:=hid (show unqS s.data.toList=(40,[],0) by
    rw [HU.out];have h:=HQ.out;rw [hke,unqL_nil] at h;rw [<-h];rfl)
   have e2:((k:Int) == (s.size:Int))=true:=by simp;omega
   clear hke HU HQ;go_wp2
   go_ret3
   exact ⟨by rw [HR.out];rfl,HW.out⟩
  have hltz:(k:Int) < (s.size:Int):=by omega
  have e2:((k:Int) == (s.size:Int))=false:=by simp;omega
  have HDC:=hid (drop_cons s k hlt)
  by_cases h34:s[k].toNat=34
  . have e34:((s[k].toNat:Int) != 34)=false:=by simp;omega
    have HQ2:=hid (show X=if 4096 < acc.length then (3,[],[]) else (0,acc,s.data.toList.drop (k+1)) by rw [<-HQ.out,HDC.out,unqL_quote _ _ _ h34]);have HLN:=hid (Tryz.Builder_Len_f w.heap.size w.heap.size _ wr HL.out);have hbl:(Lib.byteCells acc).length=acc.length:=by simp [Lib.byteCells]
    rw [hbl] at HLN;have HST:=hid (fun (W:World) (h:BF w.heap.size w.heap.size acc W) (hW:w.heap.size<=W.heap.size)=>Tryz.Builder_String_any_f w.heap.size w.heap.size _ W h hW);clear h34 hbl
    by_cases hlong:4096 < acc.length
    . have HR:=hid (show unqS s.data.toList=(3,[],0) by
       rw [HU.out,HQ2.out,if_pos hlong];rfl)
      have hlz:(4096:Int) < (acc.length:Int):=by omega
      clear HU HQ HQ2 hlong;go_wp2_with (go_at_call 182;refine HLN.out.mono ?_;rintro e w2 ⟨rfl,rfl⟩)
      go_ret3
      exact ⟨by rw [HR.out];rfl,HW.out⟩
    . have HR:=hid (show unqS s.data.toList=(0,acc,k+1) by
       rw [HU.out,HQ2.out,if_neg hlong,if_neg (by simp)];show (0,acc,s.size - (s.data.toList.drop (k+1)).length)=_;rw [List.length_drop,size_list,show s.size - (s.size - (k+1))=k+1 by omega])
      have hlz:¬ (4096:Int) < (acc.length:Int):=by omega
      clear HU HQ HQ2 hlong
      go_wp2_with (first
       | (go_at_call 182;refine HLN.out.mono ?_;rintro e w2 ⟨rfl,rfl⟩)
       | (go_at_call 183;refine (HST.out _ HL.out HW.out.size).mono ?_;rintro e w3 ⟨rfl,hb3⟩;have HW3:=hid hb3.2;clear hb3))
      go_ret3
      exact ⟨by rw [HR.out];rfl,HW.out.trans HW3.out⟩
  . have e34:((s[k].toNat:Int) != 34)=true:=by simp;omega
    have hsz:=ext_size s k hk;have hgo:=dec_go (s.extract k s.size) (by rw [hsz];omega);rw [extract_list] at hgo;have HD:=hid (Tryz.utf8_DecodeRuneInString (s.extract k s.size) wr (HWT.out _ HW.out));rw [hgo] at HD;have hne:s.data.toList.drop k≠[]:=by rw [HDC.out];simp
    obtain ⟨d1,d2,d3,d4,d5⟩:=dec_facts hne;rw [getD_drop0 s k hlt] at d1 d2 d4 d5
    have hone:oneS (s.data.toList.drop k)=if s[k].toNat=92 then (if (escS (s.data.toList.drop (k+1))).1≠0 then ((escS (s.data.toList.drop (k+1))).1,[],0) else (0,Lib.encodeRune ((escS (s.data.toList.drop (k+1))).2.1:Nat),(escS (s.data.toList.drop (k+1))).2.2+1))
      else if decR (s.data.toList.drop k)=0 ∨ s[k].toNat < 32 ∨ s[k].toNat=127 then (2,[],0) else (0,(s.data.toList.drop k).take (decR (s.data.toList.drop k)),decR (s.data.toList.drop k)):=by
     unfold oneS;rw [getD_drop0 s k hlt,show (s.data.toList.drop k).tail=s.data.toList.drop (k+1) by rw [List.tail_drop]]
    have HBAD:=hid (fun (h:(oneS (s.data.toList.drop k)).1≠0)=>show X=((oneS (s.data.toList.drop k)).1,[],[]) by
     rw [<-HQ.out];rw [HDC.out] at h ⊢;exact unqL_bad _ _ _ h34 h)
    have HONE:=hid (fun (h:(oneS (s.data.toList.drop k)).1=0) (h1:1<=(oneS (s.data.toList.drop k)).2.2)=>show unqL (s.data.toList.drop (k+(oneS (s.data.toList.drop k)).2.2)) (acc ++ (oneS (s.data.toList.drop k)).2.1)=X by
     have:=unqL_one s[k] (s.data.toList.drop (k+1)) acc h34 (by rw [<-HDC.out];exact h) (by rw [<-HDC.out];exact h1);rw [<-HDC.out,HQ.out,List.drop_drop] at this;exact this.symm)
    have hdl:(s.data.toList.drop k).length=s.size - k:=by rw [List.length_drop,size_list]
    rw [hdl] at d5;clear h34 hgo hne HQ HDC hdl;have haccz:acc.length<=100000000:=by have:=HA.out;omega
    have HAC:=hid haccz;clear haccz
    by_cases h92:s[k].toNat=92
    . rw [if_pos h92] at hone
      have hr:=d1.2 h92;have hn:=d2 h92;have HE:=hid (fun (W:World)=>pesc_any (s.extract (k+1) s.size) W (by rw [ext_size s (k+1) (by omega)];omega));rw [extract_list] at HE;have hok:=escS_ok (l:=s.data.toList.drop (k+1));rw [List.length_drop,size_list] at hok;have hkz:(k:Int)+1<=(s.size:Int):=by omega
      generalize escS (s.data.toList.drop (k+1))=x at *;obtain ⟨x1,x2,x3⟩:=x;unfold HxR at HE;simp only at HE hone hok;rw [hr,hn] at HD;clear d1 d2 d3 d4 d5 hr hn h92
      by_cases hx:x1=0
      . subst hx
        obtain ⟨o1,o2,o3⟩:=hok rfl;rw [if_neg (by simp)] at hone;have HX1:=hid (HONE.out (by rw [hone]) (by rw [hone];show 1<=x3+1;omega));rw [hone] at HX1;have HRl:=hid (vr_le o1);have HEl:=hid (enc_len (x2:Int)).1;clear hone hok HONE HBAD o1 HU;go_wp2_with (first | (go_at_call 179;refine HD.out.mono ?_;rintro e w2 ⟨rfl,hb2⟩;have HL2:=hid (bf_kept HL.out hb2);have HW2:=hid (HW.out.trans (hb2.mono HW.out.size));clear hb2) | (go_at_call 180;refine (HE.out _).mono ?_;rintro e w3 ⟨rfl,rfl⟩) | (go_at_call 181;refine (brune_b w.heap.size w.heap.size acc x2 HRl.out _ HL2.out HAC.out HW2.out.size).mono ?_;rintro e w4 ⟨⟨kk,rfl⟩,hbl,hb4⟩;have HL4:=hid hbl;have HW4:=hid (HW2.out.trans hb4);clear hbl hb4))
        go_roundg (s.size - (k+(x3+1)))
        case measure=>omega
        case rel=>exact ⟨k+(x3+1),acc ++ Lib.encodeRune (x2:Nat),by omega,by omega,by omega,by go_num,HL4,HW4,HX1,hid (by have:=HEl.out;have:=HA.out;rw [List.length_append];omega)⟩
      . have e3:(x1 != 0)=true:=by simpa using hx
        rw [if_pos hx] at hone;have HX1:=hid (HBAD.out (by rw [hone];exact hx));rw [hone] at HX1
        have HR:=hid (show unqS s.data.toList=(x1,[],0) by
          rw [HU.out,HX1.out,if_pos hx])
        clear hone hok HONE HBAD HX1 HU hx;go_wp2_with (first | (go_at_call 179;refine HD.out.mono ?_;rintro e w2 ⟨rfl,hb2⟩;have HL2:=hid (bf_kept HL.out hb2);have HW2:=hid (HW.out.trans (hb2.mono HW.out.size));clear hb2) | (go_at_call 180;refine (HE.out _).mono ?_;rintro e w3 ⟨rfl,rfl⟩))
        go_ret3
        exact ⟨by rw [HR.out];rfl,HW2.out⟩
    . rw [if_neg h92] at hone
      have hr92:(Lib.decodeL (s.data.toList.drop k)).1≠92:=fun e=>h92 (d1.1 e);generalize hdd:Lib.decodeL (s.data.toList.drop k)=d at *;obtain ⟨r,n⟩:=d;simp only at HD hr92 d3 d4 d5;have er92:((r:Int) == 92)=false:=by simp;omega
      clear d1 d2 hdd hr92
      by_cases hbad:decR (s.data.toList.drop k)=0 ∨ s[k].toNat < 32 ∨ s[k].toNat=127
      . rw [if_pos hbad] at hone
        have hb:=d4.2 hbad;have HX1:=hid (HBAD.out (by rw [hone];simp));rw [hone] at HX1
        have HR:=hid (show unqS s.data.toList=(2,[],0) by
          rw [HU.out,HX1.out];rfl)
        clear hone HONE HBAD HX1 HU hbad d3 d4 d5 h92
        by_cases c1:r=65533
        . have f1:((r:Int) == 65533)=true:=by simp;omega
          have c2:n=1:=by omega
          have f2:((n:Int) == 1)=true:=by simp;omega
          clear hb c1 c2;go_wp2_with (first | (go_at_call 179;refine HD.out.mono ?_;rintro e w2 ⟨rfl,hb2⟩;have HL2:=hid (bf_kept HL.out hb2);have HW2:=hid (HW.out.trans (hb2.mono HW.out.size));clear hb2))
          go_ret3
          exact ⟨by rw [HR.out];rfl,HW2.out⟩
        . have f1:((r:Int) == 65533)=false:=by simp;omega
          by_cases c3:(r:Int) < 32
          . clear hb c1
            go_wp2_with (first | (go_at_call 179;refine HD.out.mono ?_;rintro e w2 ⟨rfl,hb2⟩;have HL2:=hid (bf_kept HL.out hb2);have HW2:=hid (HW.out.trans (hb2.mono HW.out.size));clear hb2))
            go_ret3
            exact ⟨by rw [HR.out];rfl,HW2.out⟩
          . have f4:((r:Int) == 127)=true:=by simp;omega
            clear hb c1;go_wp2_with (first | (go_at_call 179;refine HD.out.mono ?_;rintro e w2 ⟨rfl,hb2⟩;have HL2:=hid (bf_kept HL.out hb2);have HW2:=hid (HW.out.trans (hb2.mono HW.out.size));clear hb2))
            go_ret3
            exact ⟨by rw [HR.out];rfl,HW2.out⟩
      . rw [if_neg hbad] at hone
        have hb:¬ ((r=65533/\n=1) ∨ r < 32 ∨ r=127):=fun h=>hbad (d4.1 h);obtain ⟨g1,g2,g3,g4⟩:=d5 hbad;rw [<-g1] at g2 g3 g4 hone;have HX1:=hid (HONE.out (by rw [hone]) (by rw [hone];exact g3));rw [hone,<-g2] at HX1;have HRl:=hid d3;have HEl:=hid (enc_len (r:Int)).1;clear hone HONE HBAD HU hbad d4 d5 h92 g1 g2 d3;have f3:¬ (r:Int) < 32:=by omega
        have f4:((r:Int) == 127)=false:=by simp;omega
        by_cases c1:r=65533
        . have f1:((r:Int) == 65533)=true:=by simp;omega
          have f2:((n:Int) == 1)=false:=by simp;omega
          clear hb c1;go_wp2_with (first | (go_at_call 179;refine HD.out.mono ?_;rintro e w2 ⟨rfl,hb2⟩;have HL2:=hid (bf_kept HL.out hb2);have HW2:=hid (HW.out.trans (hb2.mono HW.out.size));clear hb2) | (go_at_call 181;refine (brune_b w.heap.size w.heap.size acc r HRl.out _ HL2.out HAC.out HW2.out.size).mono ?_;rintro e w4 ⟨⟨kk,rfl⟩,hbl,hb4⟩;have HL4:=hid hbl;have HW4:=hid (HW2.out.trans hb4);clear hbl hb4))
          go_roundg (s.size - (k+n))
          case measure=>omega
          case rel=>exact ⟨k+n,acc ++ Lib.encodeRune (r:Nat),by omega,by omega,by omega,by go_num,HL4,HW4,HX1,hid (by have:=HEl.out;have:=HA.out;rw [List.length_append];omega)⟩
        . have f1:((r:Int) == 65533)=false:=by simp;omega
          clear hb c1;go_wp2_with (first | (go_at_call 179;refine HD.out.mono ?_;rintro e w2 ⟨rfl,hb2⟩;have HL2:=hid (bf_kept HL.out hb2);have HW2:=hid (HW.out.trans (hb2.mono HW.out.size));clear hb2) | (go_at_call 181;refine (brune_b w.heap.size w.heap.size acc r HRl.out _ HL2.out HAC.out HW2.out.size).mono ?_;rintro e w4 ⟨⟨kk,rfl⟩,hbl,hb4⟩;have HL4:=hid hbl;have HW4:=hid (HW2.out.trans hb4);clear hbl hb4))
          go_roundg (s.size - (k+n))
          case measure=>omega
          case rel=>exact ⟨k+n,acc ++ Lib.encodeRune (r:Nat),by omega,by omega,by omega,by go_num,HL4,HW4,HX1,hid (by have:=HEl.out;have:=HA.out;rw [List.length_append];omega)⟩
theorem below_drewN {B:Nat} {a w:World} (h:Below B a w) (n:Nat):Below B a (w.drewN n):=⟨h.os,h.tape,h.output,h.size,h.block⟩
def contB (s:ByteArray) (i:Nat) (lo hi:Int):Bool:=if h:i < s.size then decide (lo<=(s[i].toNat:Int)) && decide ((s[i].toNat:Int)<=hi) else false
theorem rcont_any (s:ByteArray) (j lo hi:Int) (w:World) (h0:0<=j) (h1:j<=2000000) :
  Calls Tryz.prog 170 #[.string s,.int .i64 j,.int .u8 lo,.int .u8 hi] w fun e w'=>e=.returned (.bool (contB s j.toNat lo hi))/\w=w':=by
 obtain ⟨i,rfl⟩:=Int.eq_ofNat_of_zero_le h0;rw [Int.toNat_natCast]
 by_cases hlt:i < s.size
 . have HN:=hid (show contB s i lo hi=(decide (lo<=(s[i].toNat:Int)) && decide ((s[i].toNat:Int)<=hi)) from dif_pos hlt)
   by_cases h2:lo<=(s[i].toNat:Int)
   . by_cases h3:(s[i].toNat:Int)<=hi
     all_goals
      have HN:=hid (show contB s i lo hi=decide ((s[i].toNat:Int)<=hi) by rw [HN.out];simp [h2]);go_enter Tryz.func170,Tryz.ntmps170;go_wp2
      go_ret
      exact ⟨ret_bool (by rw [HN.out];simp [*]),rfl⟩
   . have HN:=hid (show contB s i lo hi=false by rw [HN.out];simp [h2])
     go_enter Tryz.func170,Tryz.ntmps170;go_wp2
     go_ret
     exact ⟨ret_bool HN.out,rfl⟩
 . have HN:=hid (show contB s i lo hi=false from dif_neg hlt)
   go_enter Tryz.func170,Tryz.ntmps170;go_wp2
   go_ret
   exact ⟨ret_bool HN.out,rfl⟩
theorem getD_drop (s:ByteArray) (i j:Nat) (h:i+j < s.size):((s.data.toList.drop i).getD j 0)=s[i+j]:=by
 rw [List.getD_eq_getElem?_getD,List.getElem?_drop,List.getElem?_eq_getElem (by simpa using h)];rfl
theorem contB_eq (s:ByteArray) (i j:Nat) (lo hi:Int):contB s (i+j) lo hi=decide (j < (s.data.toList.drop i).length/\lo<=(((s.data.toList.drop i).getD j 0).toNat:Int)/\(((s.data.toList.drop i).getD j 0).toNat:Int)<=hi):=by
 have hl:(s.data.toList.drop i).length=s.size - i:=by rw [List.length_drop,Array.length_toList];rfl
 unfold contB
 by_cases h:i+j < s.size
 . rw [dif_pos h,getD_drop s i j h,hl]
   have:j < s.size - i:=by omega
   simp [this]
 . rw [dif_neg h,hl]
   have:¬ j < s.size - i:=by omega
   simp [this]
theorem decR_c (s:ByteArray) (i:Nat) (h:i < s.size):decR (s.data.toList.drop i) =
  if s[i].toNat < 128 then 1
  else if 194<=s[i].toNat/\s[i].toNat<=223/\contB s (i+1) 128 191=true then 2
  else if 224<=s[i].toNat/\s[i].toNat<=239/\contB s (i+1) (if s[i].toNat=224 then 160 else 128) (if s[i].toNat=237 then 159 else 191)=true/\contB s (i+2) 128 191=true then 3
  else if 240<=s[i].toNat/\s[i].toNat<=244/\contB s (i+1) (if s[i].toNat=240 then 144 else 128) (if s[i].toNat=244 then 143 else 191)=true/\contB s (i+2) 128 191=true/\contB s (i+3) 128 191=true then 4
  else 0:=by
 have h0:=getD_drop s i 0 (by omega);simp only [Nat.add_zero] at h0;simp only [contB_eq,decide_eq_true_eq];unfold decR decRN;rw [h0];generalize ((s.data.toList.drop i).getD 1 0).toNat=b1;generalize ((s.data.toList.drop i).getD 2 0).toNat=b2;generalize ((s.data.toList.drop i).getD 3 0).toNat=b3;generalize (s.data.toList.drop i).length=n;generalize (s[i]).toNat=b0
 by_cases c1:b0 < 128
 . rw [if_pos c1,if_pos c1]
 rw [if_neg c1,if_neg c1]
 by_cases c2:194<=b0/\b0<=223/\1 < n/\128<=b1/\b1<=191
 . rw [if_pos c2,if_pos (by omega)]
 have c2':¬ (194<=b0/\b0<=223/\1 < n/\(128:Int)<=(b1:Int)/\(b1:Int)<=191):=by omega
 rw [if_neg c2,if_neg c2'];have e1:((if b0=224 then 160 else 128:Int))=((if b0=224 then 160 else 128:Nat):Int):=by split <;> rfl
 have e2:((if b0=237 then 159 else 191:Int))=((if b0=237 then 159 else 191:Nat):Int):=by split <;> rfl
 have e3:((if b0=240 then 144 else 128:Int))=((if b0=240 then 144 else 128:Nat):Int):=by split <;> rfl
 have e4:((if b0=244 then 143 else 191:Int))=((if b0=244 then 143 else 191:Nat):Int):=by split <;> rfl
 rw [e1,e2,e3,e4];generalize (if b0=224 then 160 else 128)=x1;generalize (if b0=237 then 159 else 191)=x2;generalize (if b0=240 then 144 else 128)=x3;generalize (if b0=244 then 143 else 191)=x4
 by_cases c3:224<=b0/\b0<=239/\1 < n/\x1<=b1/\b1<=x2/\2 < n/\128<=b2/\b2<=191
 . rw [if_pos c3,if_pos (by omega)]
 have c3':¬ (224<=b0/\b0<=239/\(1 < n/\(x1:Int)<=(b1:Int)/\(b1:Int)<=(x2:Int))/\2 < n/\(128:Int)<=(b2:Int)/\(b2:Int)<=191):=by omega
 rw [if_neg c3,if_neg c3']
 by_cases c4:240<=b0/\b0<=244/\1 < n/\x3<=b1/\b1<=x4/\2 < n/\128<=b2/\b2<=191/\3 < n/\128<=b3/\b3<=191
 . rw [if_pos c4,if_pos (by omega)]
 rw [if_neg c4,if_neg (by omega)]
def DecP (n:Nat) (w:World) (e:Ending) (w':World):Prop:=∃ r:Int,e=.returned (.tuple #[.int .i64 r,.int .i64 n])/\Below w.heap.size w w'
theorem decR_le (l:List UInt8):decR l<=1+l.length/\(decR l=0 ∨ l=[] ∨ decR l<=l.length):=by
 unfold decR decRN;cases l with
 | nil=>simp
 | cons x xs =>
   have:1<=(x :: xs).length:=by simp
   generalize (x :: xs).length=n at *;generalize (((x :: xs).getD 0 0).toNat)=b0;generalize (((x :: xs).getD 1 0).toNat)=b1;generalize (((x :: xs).getD 2 0).toNat)=b2;generalize (((x :: xs).getD 3 0).toNat)=b3;refine ⟨?_,?_⟩
   . repeat' split
     all_goals omega
   . by_cases h:n=0
     . omega
     . repeat' split
       all_goals omega
set_option maxRecDepth 100000 in
set_option maxHeartbeats 4000000 in
theorem rdecode_any (s:ByteArray) (i:Nat) (w:World) (hi:i < s.size) (hs:s.size<=1200000) :
  Calls Tryz.prog 127 #[.string s,.int .i64 i] w (DecP (decR (s.data.toList.drop i)) w):=by
 have HD:=hid (decR_c s i hi);have hb0:(0:Int)<=(s[i].toNat:Int):=by omega
 have hb1:(s[i].toNat:Int)<=255:=by have:=s[i].toNat_lt;omega
 generalize hd:decR (s.data.toList.drop i)=D at *;clear hd
 by_cases c1:s[i].toNat < 128
 . have HN:=hid (show D=1 by rw [HD.out,if_pos c1])
   have c1z:(s[i].toNat:Int) < 128:=by omega
   clear HD;go_enter Tryz.func127,Tryz.ntmps127;go_wp2
   go_ret2
   exact ⟨_,by rw [HN.out];rfl,Below.refl _ _⟩
 have HD:=hid (HD.out.trans (if_neg c1))
 by_cases c2:s[i].toNat < 194
 . have HN:=hid (show D=0 by rw [HD.out,if_neg (by omega),if_neg (by omega),if_neg (by omega)])
   have c1z:128<=(s[i].toNat:Int):=by omega
   have c2z:(s[i].toNat:Int) < 194:=by omega
   have n1:((s[i].toNat:Int) == 224)=false:=by simp;omega
   have n2:((s[i].toNat:Int) == 237)=false:=by simp;omega
   have n3:((s[i].toNat:Int) == 240)=false:=by simp;omega
   have n4:((s[i].toNat:Int) == 244)=false:=by simp;omega
   clear HD;go_enter Tryz.func127,Tryz.ntmps127;go_wp2
   go_ret2
   exact ⟨_,by rw [HN.out];rfl,Below.refl _ _⟩
 by_cases c3:s[i].toNat < 224
 . have c1z:194<=(s[i].toNat:Int):=by omega
   have c2z:(s[i].toNat:Int)<=223:=by omega
   have n224:((s[i].toNat:Int) == 224)=false:=by simp;omega
   have n237:((s[i].toNat:Int) == 237)=false:=by simp;omega
   have n240:((s[i].toNat:Int) == 240)=false:=by simp;omega
   have n244:((s[i].toNat:Int) == 244)=false:=by simp;omega
   cases q1:contB s (i+1) 128 191
   . have HN:=hid (show D=0 by rw [HD.out,if_neg (by rw [q1];simp),if_neg (by omega),if_neg (by omega)])
     have Q1:=hid q1;clear HD q1;go_enter Tryz.func127,Tryz.ntmps127;go_wp2_with fail
     refine (rcont_any s _ _ _ _ (by omega) (by omega)).mono ?_;rintro e w1 ⟨rfl,rfl⟩;rw [show ((i:Int)+1).toNat=i+1 by omega,Q1.out];go_wp2
     go_ret2
     exact ⟨_,by rw [HN.out];rfl,Below.refl _ _⟩
   . have HN:=hid (show D=2 by rw [HD.out,if_pos ⟨by omega,by omega,q1⟩])
     have hlt:i+1 < s.size:=by
      apply Decidable.byContradiction;intro h;rw [contB,dif_neg h] at q1;cases q1
     have Q1:=hid q1;clear HD q1;go_enter Tryz.func127,Tryz.ntmps127;go_wp2_with fail
     refine (rcont_any s _ _ _ _ (by omega) (by omega)).mono ?_;rintro e w1 ⟨rfl,rfl⟩;rw [show ((i:Int)+1).toNat=i+1 by omega,Q1.out];go_wp2
     go_ret2
     exact ⟨_,by rw [HN.out];rfl,Below.refl _ _⟩
 have HD:=hid (HD.out.trans (if_neg (by omega)))
 by_cases c4:s[i].toNat < 240
 . have c1z:224<=(s[i].toNat:Int):=by omega
   have c2z:(s[i].toNat:Int)<=239:=by omega
   by_cases v224:s[i].toNat=224
   . have L:(if s[i].toNat=224 then 160 else 128:Int)=160:=by rw [if_pos (by omega)]
     have H:(if s[i].toNat=237 then 159 else 191:Int)=191:=by rw [if_neg (by omega)]
     have HD2:=HD.out;rw [L,H] at HD2;clear HD L H;have n224:((s[i].toNat:Int) == 224)=true:=by simp;omega
     have n237:((s[i].toNat:Int) == 237)=false:=by simp;omega
     have n240:((s[i].toNat:Int) == 240)=false:=by simp;omega
     have n244:((s[i].toNat:Int) == 244)=false:=by simp;omega
     cases q1:contB s (i+1) 160 191
     . have HN:=hid (show D=0 by rw [HD2,if_neg (by rw [q1];simp),if_neg (by omega)])
       have Q1:=hid q1;clear HD2 q1;go_enter Tryz.func127,Tryz.ntmps127;go_wp2_with fail
       refine (rcont_any s _ _ _ _ (by omega) (by omega)).mono ?_;rintro e w1 ⟨rfl,rfl⟩;rw [show ((i:Int)+1).toNat=i+1 by omega,Q1.out];go_wp2
       go_ret2
       exact ⟨_,by rw [HN.out];rfl,Below.refl _ _⟩
     . have hlt1:i+1 < s.size:=by
        apply Decidable.byContradiction;intro h;rw [contB,dif_neg h] at q1;cases q1
       cases q2:contB s (i+2) 128 191
       . have HN:=hid (show D=0 by rw [HD2,if_neg (by rw [q2];simp),if_neg (by omega)])
         have Q1:=hid q1;have Q2:=hid q2;clear HD2 q1 q2;go_enter Tryz.func127,Tryz.ntmps127;go_wp2_with fail
         refine (rcont_any s _ _ _ _ (by omega) (by omega)).mono ?_;rintro e w1 ⟨rfl,rfl⟩;rw [show ((i:Int)+1).toNat=i+1 by omega,Q1.out];go_wp2_with fail
         refine (rcont_any s _ _ _ _ (by omega) (by omega)).mono ?_;rintro e w1 ⟨rfl,rfl⟩;rw [show ((i:Int)+2).toNat=i+2 by omega,Q2.out];go_wp2
         go_ret2
         exact ⟨_,by rw [HN.out];rfl,Below.refl _ _⟩
       . have hlt2:i+2 < s.size:=by
          apply Decidable.byContradiction;intro h;rw [contB,dif_neg h] at q2;cases q2
         have HN:=hid (show D=3 by rw [HD2,if_pos ⟨by omega,by omega,q1,q2⟩]);have Q1:=hid q1;have Q2:=hid q2;clear HD2 q1 q2;go_enter Tryz.func127,Tryz.ntmps127;go_wp2_with fail
         refine (rcont_any s _ _ _ _ (by omega) (by omega)).mono ?_;rintro e w1 ⟨rfl,rfl⟩;rw [show ((i:Int)+1).toNat=i+1 by omega,Q1.out];go_wp2_with fail
         refine (rcont_any s _ _ _ _ (by omega) (by omega)).mono ?_;rintro e w1 ⟨rfl,rfl⟩;rw [show ((i:Int)+2).toNat=i+2 by omega,Q2.out];go_wp2
         have y1:(0:Int)<=(i:Int)+1:=by omega
         have z1:(i:Int)+1 < (s.size:Int):=by omega
         have y2:(0:Int)<=(i:Int)+2:=by omega
         have z2:(i:Int)+2 < (s.size:Int):=by omega
         have t1:((i:Int)+1).toNat=i+1:=by omega
         have x1:IntKind.i64.wrap ((i:Int)+1)=(i:Int)+1:=IntWalk.i64_in _ (by omega);have t2:((i:Int)+2).toNat=i+2:=by omega
         have x2:IntKind.i64.wrap ((i:Int)+2)=(i:Int)+2:=IntWalk.i64_in _ (by omega);go_quiet (fail)
         go_wp2
         go_ret2
         exact ⟨_,by rw [HN.out];rfl,below_drewN (Below.refl _ _) _⟩
   by_cases v237:s[i].toNat=237
   . have L:(if s[i].toNat=224 then 160 else 128:Int)=128:=by rw [if_neg (by omega)]
     have H:(if s[i].toNat=237 then 159 else 191:Int)=159:=by rw [if_pos (by omega)]
     have HD2:=HD.out;rw [L,H] at HD2;clear HD L H;have n224:((s[i].toNat:Int) == 224)=false:=by simp;omega
     have n237:((s[i].toNat:Int) == 237)=true:=by simp;omega
     have n240:((s[i].toNat:Int) == 240)=false:=by simp;omega
     have n244:((s[i].toNat:Int) == 244)=false:=by simp;omega
     cases q1:contB s (i+1) 128 159
     . have HN:=hid (show D=0 by rw [HD2,if_neg (by rw [q1];simp),if_neg (by omega)])
       have Q1:=hid q1;clear HD2 q1;go_enter Tryz.func127,Tryz.ntmps127;go_wp2_with fail
       refine (rcont_any s _ _ _ _ (by omega) (by omega)).mono ?_;rintro e w1 ⟨rfl,rfl⟩;rw [show ((i:Int)+1).toNat=i+1 by omega,Q1.out];go_wp2
       go_ret2
       exact ⟨_,by rw [HN.out];rfl,Below.refl _ _⟩
     . have hlt1:i+1 < s.size:=by
        apply Decidable.byContradiction;intro h;rw [contB,dif_neg h] at q1;cases q1
       cases q2:contB s (i+2) 128 191
       . have HN:=hid (show D=0 by rw [HD2,if_neg (by rw [q2];simp),if_neg (by omega)])
         have Q1:=hid q1;have Q2:=hid q2;clear HD2 q1 q2;go_enter Tryz.func127,Tryz.ntmps127;go_wp2_with fail
         refine (rcont_any s _ _ _ _ (by omega) (by omega)).mono ?_;rintro e w1 ⟨rfl,rfl⟩;rw [show ((i:Int)+1).toNat=i+1 by omega,Q1.out];go_wp2_with fail
         refine (rcont_any s _ _ _ _ (by omega) (by omega)).mono ?_;rintro e w1 ⟨rfl,rfl⟩;rw [show ((i:Int)+2).toNat=i+2 by omega,Q2.out];go_wp2
         go_ret2
         exact ⟨_,by rw [HN.out];rfl,Below.refl _ _⟩
       . have hlt2:i+2 < s.size:=by
          apply Decidable.byContradiction;intro h;rw [contB,dif_neg h] at q2;cases q2
         have HN:=hid (show D=3 by rw [HD2,if_pos ⟨by omega,by omega,q1,q2⟩]);have Q1:=hid q1;have Q2:=hid q2;clear HD2 q1 q2;go_enter Tryz.func127,Tryz.ntmps127;go_wp2_with fail
         refine (rcont_any s _ _ _ _ (by omega) (by omega)).mono ?_;rintro e w1 ⟨rfl,rfl⟩;rw [show ((i:Int)+1).toNat=i+1 by omega,Q1.out];go_wp2_with fail
         refine (rcont_any s _ _ _ _ (by omega) (by omega)).mono ?_;rintro e w1 ⟨rfl,rfl⟩;rw [show ((i:Int)+2).toNat=i+2 by omega,Q2.out];go_wp2
         have y1:(0:Int)<=(i:Int)+1:=by omega
         have z1:(i:Int)+1 < (s.size:Int):=by omega
         have y2:(0:Int)<=(i:Int)+2:=by omega
         have z2:(i:Int)+2 < (s.size:Int):=by omega
         have t1:((i:Int)+1).toNat=i+1:=by omega
         have x1:IntKind.i64.wrap ((i:Int)+1)=(i:Int)+1:=IntWalk.i64_in _ (by omega);have t2:((i:Int)+2).toNat=i+2:=by omega
         have x2:IntKind.i64.wrap ((i:Int)+2)=(i:Int)+2:=IntWalk.i64_in _ (by omega);go_quiet (fail)
         go_wp2
         go_ret2
         exact ⟨_,by rw [HN.out];rfl,below_drewN (Below.refl _ _) _⟩
   have L:(if s[i].toNat=224 then 160 else 128:Int)=128:=by rw [if_neg (by omega)]
   have H:(if s[i].toNat=237 then 159 else 191:Int)=191:=by rw [if_neg (by omega)]
   have HD2:=HD.out;rw [L,H] at HD2;clear HD L H;have n224:((s[i].toNat:Int) == 224)=false:=by simp;omega
   have n237:((s[i].toNat:Int) == 237)=false:=by simp;omega
   have n240:((s[i].toNat:Int) == 240)=false:=by simp;omega
   have n244:((s[i].toNat:Int) == 244)=false:=by simp;omega
   cases q1:contB s (i+1) 128 191
   . have HN:=hid (show D=0 by rw [HD2,if_neg (by rw [q1];simp),if_neg (by omega)])
     have Q1:=hid q1;clear HD2 q1;go_enter Tryz.func127,Tryz.ntmps127;go_wp2_with fail
     refine (rcont_any s _ _ _ _ (by omega) (by omega)).mono ?_;rintro e w1 ⟨rfl,rfl⟩;rw [show ((i:Int)+1).toNat=i+1 by omega,Q1.out];go_wp2
     go_ret2
     exact ⟨_,by rw [HN.out];rfl,Below.refl _ _⟩
   . have hlt1:i+1 < s.size:=by
      apply Decidable.byContradiction;intro h;rw [contB,dif_neg h] at q1;cases q1
     cases q2:contB s (i+2) 128 191
     . have HN:=hid (show D=0 by rw [HD2,if_neg (by rw [q2];simp),if_neg (by omega)])
       have Q1:=hid q1;have Q2:=hid q2;clear HD2 q1 q2;go_enter Tryz.func127,Tryz.ntmps127;go_wp2_with fail
       refine (rcont_any s _ _ _ _ (by omega) (by omega)).mono ?_;rintro e w1 ⟨rfl,rfl⟩;rw [show ((i:Int)+1).toNat=i+1 by omega,Q1.out];go_wp2_with fail
       refine (rcont_any s _ _ _ _ (by omega) (by omega)).mono ?_;rintro e w1 ⟨rfl,rfl⟩;rw [show ((i:Int)+2).toNat=i+2 by omega,Q2.out];go_wp2
       go_ret2
       exact ⟨_,by rw [HN.out];rfl,Below.refl _ _⟩
     . have hlt2:i+2 < s.size:=by
        apply Decidable.byContradiction;intro h;rw [contB,dif_neg h] at q2;cases q2
       have HN:=hid (show D=3 by rw [HD2,if_pos ⟨by omega,by omega,q1,q2⟩]);have Q1:=hid q1;have Q2:=hid q2;clear HD2 q1 q2;go_enter Tryz.func127,Tryz.ntmps127;go_wp2_with fail
       refine (rcont_any s _ _ _ _ (by omega) (by omega)).mono ?_;rintro e w1 ⟨rfl,rfl⟩;rw [show ((i:Int)+1).toNat=i+1 by omega,Q1.out];go_wp2_with fail
       refine (rcont_any s _ _ _ _ (by omega) (by omega)).mono ?_;rintro e w1 ⟨rfl,rfl⟩;rw [show ((i:Int)+2).toNat=i+2 by omega,Q2.out];go_wp2
       have y1:(0:Int)<=(i:Int)+1:=by omega
       have z1:(i:Int)+1 < (s.size:Int):=by omega
       have y2:(0:Int)<=(i:Int)+2:=by omega
       have z2:(i:Int)+2 < (s.size:Int):=by omega
       have t1:((i:Int)+1).toNat=i+1:=by omega
       have x1:IntKind.i64.wrap ((i:Int)+1)=(i:Int)+1:=IntWalk.i64_in _ (by omega);have t2:((i:Int)+2).toNat=i+2:=by omega
       have x2:IntKind.i64.wrap ((i:Int)+2)=(i:Int)+2:=IntWalk.i64_in _ (by omega);go_quiet (fail)
       go_wp2
       go_ret2
       exact ⟨_,by rw [HN.out];rfl,below_drewN (Below.refl _ _) _⟩
 have HD:=hid (HD.out.trans (if_neg (by omega)))
 by_cases c5:244 < s[i].toNat
 . have HN:=hid (show D=0 by rw [HD.out,if_neg (by omega)])
   have c1z:244 < (s[i].toNat:Int):=by omega
   have n224:((s[i].toNat:Int) == 224)=false:=by simp;omega
   have n237:((s[i].toNat:Int) == 237)=false:=by simp;omega
   have n240:((s[i].toNat:Int) == 240)=false:=by simp;omega
   have n244:((s[i].toNat:Int) == 244)=false:=by simp;omega
   clear HD;go_enter Tryz.func127,Tryz.ntmps127;go_wp2
   go_ret2
   exact ⟨_,by rw [HN.out];rfl,Below.refl _ _⟩
 have c1z:240<=(s[i].toNat:Int):=by omega
 have c2z:(s[i].toNat:Int)<=244:=by omega
 by_cases v240:s[i].toNat=240
 . have L:(if s[i].toNat=240 then 144 else 128:Int)=144:=by rw [if_pos (by omega)]
   have H:(if s[i].toNat=244 then 143 else 191:Int)=191:=by rw [if_neg (by omega)]
   have HD2:=HD.out;rw [L,H] at HD2;clear HD L H;have n224:((s[i].toNat:Int) == 224)=false:=by simp;omega
   have n237:((s[i].toNat:Int) == 237)=false:=by simp;omega
   have n240:((s[i].toNat:Int) == 240)=true:=by simp;omega
   have n244:((s[i].toNat:Int) == 244)=false:=by simp;omega
   cases q1:contB s (i+1) 144 191
   . have HN:=hid (show D=0 by rw [HD2,if_neg (by rw [q1];simp)])
     have Q1:=hid q1;clear HD2 q1;go_enter Tryz.func127,Tryz.ntmps127;go_wp2_with fail
     refine (rcont_any s _ _ _ _ (by omega) (by omega)).mono ?_;rintro e w1 ⟨rfl,rfl⟩;rw [show ((i:Int)+1).toNat=i+1 by omega,Q1.out];go_wp2
     go_ret2
     exact ⟨_,by rw [HN.out];rfl,Below.refl _ _⟩
   . have hlt1:i+1 < s.size:=by
      apply Decidable.byContradiction;intro h;rw [contB,dif_neg h] at q1;cases q1
     cases q2:contB s (i+2) 128 191
     . have HN:=hid (show D=0 by rw [HD2,if_neg (by rw [q2];simp)])
       have Q1:=hid q1;have Q2:=hid q2;clear HD2 q1 q2;go_enter Tryz.func127,Tryz.ntmps127;go_wp2_with fail
       refine (rcont_any s _ _ _ _ (by omega) (by omega)).mono ?_;rintro e w1 ⟨rfl,rfl⟩;rw [show ((i:Int)+1).toNat=i+1 by omega,Q1.out];go_wp2_with fail
       refine (rcont_any s _ _ _ _ (by omega) (by omega)).mono ?_;rintro e w1 ⟨rfl,rfl⟩;rw [show ((i:Int)+2).toNat=i+2 by omega,Q2.out];go_wp2
       go_ret2
       exact ⟨_,by rw [HN.out];rfl,Below.refl _ _⟩
     . have hlt2:i+2 < s.size:=by
        apply Decidable.byContradiction;intro h;rw [contB,dif_neg h] at q2;cases q2
       cases q3:contB s (i+3) 128 191
       . have HN:=hid (show D=0 by rw [HD2,if_neg (by rw [q3];simp)])
         have Q1:=hid q1;have Q2:=hid q2;have Q3:=hid q3;clear HD2 q1 q2 q3;go_enter Tryz.func127,Tryz.ntmps127;go_wp2_with fail
         refine (rcont_any s _ _ _ _ (by omega) (by omega)).mono ?_;rintro e w1 ⟨rfl,rfl⟩;rw [show ((i:Int)+1).toNat=i+1 by omega,Q1.out];go_wp2_with fail
         refine (rcont_any s _ _ _ _ (by omega) (by omega)).mono ?_;rintro e w1 ⟨rfl,rfl⟩;rw [show ((i:Int)+2).toNat=i+2 by omega,Q2.out];go_wp2_with fail
         refine (rcont_any s _ _ _ _ (by omega) (by omega)).mono ?_;rintro e w1 ⟨rfl,rfl⟩;rw [show ((i:Int)+3).toNat=i+3 by omega,Q3.out];go_wp2
         go_ret2
         exact ⟨_,by rw [HN.out];rfl,Below.refl _ _⟩
       . have hlt3:i+3 < s.size:=by
          apply Decidable.byContradiction;intro h;rw [contB,dif_neg h] at q3;cases q3
         have HN:=hid (show D=4 by rw [HD2,if_pos ⟨by omega,by omega,q1,q2,q3⟩]);have Q1:=hid q1;have Q2:=hid q2;have Q3:=hid q3;clear HD2 q1 q2 q3;go_enter Tryz.func127,Tryz.ntmps127;go_wp2_with fail
         refine (rcont_any s _ _ _ _ (by omega) (by omega)).mono ?_;rintro e w1 ⟨rfl,rfl⟩;rw [show ((i:Int)+1).toNat=i+1 by omega,Q1.out];go_wp2_with fail
         refine (rcont_any s _ _ _ _ (by omega) (by omega)).mono ?_;rintro e w1 ⟨rfl,rfl⟩;rw [show ((i:Int)+2).toNat=i+2 by omega,Q2.out];go_wp2_with fail
         refine (rcont_any s _ _ _ _ (by omega) (by omega)).mono ?_;rintro e w1 ⟨rfl,rfl⟩;rw [show ((i:Int)+3).toNat=i+3 by omega,Q3.out];go_wp2
         have y1:(0:Int)<=(i:Int)+1:=by omega
         have z1:(i:Int)+1 < (s.size:Int):=by omega
         have y2:(0:Int)<=(i:Int)+2:=by omega
         have z2:(i:Int)+2 < (s.size:Int):=by omega
         have y3:(0:Int)<=(i:Int)+3:=by omega
         have z3:(i:Int)+3 < (s.size:Int):=by omega
         have t1:((i:Int)+1).toNat=i+1:=by omega
         have x1:IntKind.i64.wrap ((i:Int)+1)=(i:Int)+1:=IntWalk.i64_in _ (by omega);have t2:((i:Int)+2).toNat=i+2:=by omega
         have x2:IntKind.i64.wrap ((i:Int)+2)=(i:Int)+2:=IntWalk.i64_in _ (by omega);have t3:((i:Int)+3).toNat=i+3:=by omega
         have x3:IntKind.i64.wrap ((i:Int)+3)=(i:Int)+3:=IntWalk.i64_in _ (by omega);go_quiet (fail)
         go_wp2
         go_ret2
         exact ⟨_,by rw [HN.out];rfl,below_drewN (Below.refl _ _) _⟩
 by_cases v244:s[i].toNat=244
 . have L:(if s[i].toNat=240 then 144 else 128:Int)=128:=by rw [if_neg (by omega)]
   have H:(if s[i].toNat=244 then 143 else 191:Int)=143:=by rw [if_pos (by omega)]
   have HD2:=HD.out;rw [L,H] at HD2;clear HD L H;have n224:((s[i].toNat:Int) == 224)=false:=by simp;omega
   have n237:((s[i].toNat:Int) == 237)=false:=by simp;omega
   have n240:((s[i].toNat:Int) == 240)=false:=by simp;omega
   have n244:((s[i].toNat:Int) == 244)=true:=by simp;omega
   cases q1:contB s (i+1) 128 143
   . have HN:=hid (show D=0 by rw [HD2,if_neg (by rw [q1];simp)])
     have Q1:=hid q1;clear HD2 q1;go_enter Tryz.func127,Tryz.ntmps127;go_wp2_with fail
     refine (rcont_any s _ _ _ _ (by omega) (by omega)).mono ?_;rintro e w1 ⟨rfl,rfl⟩;rw [show ((i:Int)+1).toNat=i+1 by omega,Q1.out];go_wp2
     go_ret2
     exact ⟨_,by rw [HN.out];rfl,Below.refl _ _⟩
   . have hlt1:i+1 < s.size:=by
      apply Decidable.byContradiction;intro h;rw [contB,dif_neg h] at q1;cases q1
     cases q2:contB s (i+2) 128 191
     . have HN:=hid (show D=0 by rw [HD2,if_neg (by rw [q2];simp)])
       have Q1:=hid q1;have Q2:=hid q2;clear HD2 q1 q2;go_enter Tryz.func127,Tryz.ntmps127;go_wp2_with fail
       refine (rcont_any s _ _ _ _ (by omega) (by omega)).mono ?_;rintro e w1 ⟨rfl,rfl⟩;rw [show ((i:Int)+1).toNat=i+1 by omega,Q1.out];go_wp2_with fail
       refine (rcont_any s _ _ _ _ (by omega) (by omega)).mono ?_;rintro e w1 ⟨rfl,rfl⟩;rw [show ((i:Int)+2).toNat=i+2 by omega,Q2.out];go_wp2
       go_ret2
       exact ⟨_,by rw [HN.out];rfl,Below.refl _ _⟩
     . have hlt2:i+2 < s.size:=by
        apply Decidable.byContradiction;intro h;rw [contB,dif_neg h] at q2;cases q2
       cases q3:contB s (i+3) 128 191
       . have HN:=hid (show D=0 by rw [HD2,if_neg (by rw [q3];simp)])
         have Q1:=hid q1;have Q2:=hid q2;have Q3:=hid q3;clear HD2 q1 q2 q3;go_enter Tryz.func127,Tryz.ntmps127;go_wp2_with fail
         refine (rcont_any s _ _ _ _ (by omega) (by omega)).mono ?_;rintro e w1 ⟨rfl,rfl⟩;rw [show ((i:Int)+1).toNat=i+1 by omega,Q1.out];go_wp2_with fail
         refine (rcont_any s _ _ _ _ (by omega) (by omega)).mono ?_;rintro e w1 ⟨rfl,rfl⟩;rw [show ((i:Int)+2).toNat=i+2 by omega,Q2.out];go_wp2_with fail
         refine (rcont_any s _ _ _ _ (by omega) (by omega)).mono ?_;rintro e w1 ⟨rfl,rfl⟩;rw [show ((i:Int)+3).toNat=i+3 by omega,Q3.out];go_wp2
         go_ret2
         exact ⟨_,by rw [HN.out];rfl,Below.refl _ _⟩
       . have hlt3:i+3 < s.size:=by
          apply Decidable.byContradiction;intro h;rw [contB,dif_neg h] at q3;cases q3
         have HN:=hid (show D=4 by rw [HD2,if_pos ⟨by omega,by omega,q1,q2,q3⟩]);have Q1:=hid q1;have Q2:=hid q2;have Q3:=hid q3;clear HD2 q1 q2 q3;go_enter Tryz.func127,Tryz.ntmps127;go_wp2_with fail
         refine (rcont_any s _ _ _ _ (by omega) (by omega)).mono ?_;rintro e w1 ⟨rfl,rfl⟩;rw [show ((i:Int)+1).toNat=i+1 by omega,Q1.out];go_wp2_with fail
         refine (rcont_any s _ _ _ _ (by omega) (by omega)).mono ?_;rintro e w1 ⟨rfl,rfl⟩;rw [show ((i:Int)+2).toNat=i+2 by omega,Q2.out];go_wp2_with fail
         refine (rcont_any s _ _ _ _ (by omega) (by omega)).mono ?_;rintro e w1 ⟨rfl,rfl⟩;rw [show ((i:Int)+3).toNat=i+3 by omega,Q3.out];go_wp2
         have y1:(0:Int)<=(i:Int)+1:=by omega
         have z1:(i:Int)+1 < (s.size:Int):=by omega
         have y2:(0:Int)<=(i:Int)+2:=by omega
         have z2:(i:Int)+2 < (s.size:Int):=by omega
         have y3:(0:Int)<=(i:Int)+3:=by omega
         have z3:(i:Int)+3 < (s.size:Int):=by omega
         have t1:((i:Int)+1).toNat=i+1:=by omega
         have x1:IntKind.i64.wrap ((i:Int)+1)=(i:Int)+1:=IntWalk.i64_in _ (by omega);have t2:((i:Int)+2).toNat=i+2:=by omega
         have x2:IntKind.i64.wrap ((i:Int)+2)=(i:Int)+2:=IntWalk.i64_in _ (by omega);have t3:((i:Int)+3).toNat=i+3:=by omega
         have x3:IntKind.i64.wrap ((i:Int)+3)=(i:Int)+3:=IntWalk.i64_in _ (by omega);go_quiet (fail)
         go_wp2
         go_ret2
         exact ⟨_,by rw [HN.out];rfl,below_drewN (Below.refl _ _) _⟩
 have L:(if s[i].toNat=240 then 144 else 128:Int)=128:=by rw [if_neg (by omega)]
 have H:(if s[i].toNat=244 then 143 else 191:Int)=191:=by rw [if_neg (by omega)]
 have HD2:=HD.out;rw [L,H] at HD2;clear HD L H;have n224:((s[i].toNat:Int) == 224)=false:=by simp;omega
 have n237:((s[i].toNat:Int) == 237)=false:=by simp;omega
 have n240:((s[i].toNat:Int) == 240)=false:=by simp;omega
 have n244:((s[i].toNat:Int) == 244)=false:=by simp;omega
 cases q1:contB s (i+1) 128 191
 . have HN:=hid (show D=0 by rw [HD2,if_neg (by rw [q1];simp)])
   have Q1:=hid q1;clear HD2 q1;go_enter Tryz.func127,Tryz.ntmps127;go_wp2_with fail
   refine (rcont_any s _ _ _ _ (by omega) (by omega)).mono ?_;rintro e w1 ⟨rfl,rfl⟩;rw [show ((i:Int)+1).toNat=i+1 by omega,Q1.out];go_wp2
   go_ret2
   exact ⟨_,by rw [HN.out];rfl,Below.refl _ _⟩
 . have hlt1:i+1 < s.size:=by
    apply Decidable.byContradiction;intro h;rw [contB,dif_neg h] at q1;cases q1
   cases q2:contB s (i+2) 128 191
   . have HN:=hid (show D=0 by rw [HD2,if_neg (by rw [q2];simp)])
     have Q1:=hid q1;have Q2:=hid q2;clear HD2 q1 q2;go_enter Tryz.func127,Tryz.ntmps127;go_wp2_with fail
     refine (rcont_any s _ _ _ _ (by omega) (by omega)).mono ?_;rintro e w1 ⟨rfl,rfl⟩;rw [show ((i:Int)+1).toNat=i+1 by omega,Q1.out];go_wp2_with fail
     refine (rcont_any s _ _ _ _ (by omega) (by omega)).mono ?_;rintro e w1 ⟨rfl,rfl⟩;rw [show ((i:Int)+2).toNat=i+2 by omega,Q2.out];go_wp2
     go_ret2
     exact ⟨_,by rw [HN.out];rfl,Below.refl _ _⟩
   . have hlt2:i+2 < s.size:=by
      apply Decidable.byContradiction;intro h;rw [contB,dif_neg h] at q2;cases q2
     cases q3:contB s (i+3) 128 191
     . have HN:=hid (show D=0 by rw [HD2,if_neg (by rw [q3];simp)])
       have Q1:=hid q1;have Q2:=hid q2;have Q3:=hid q3;clear HD2 q1 q2 q3;go_enter Tryz.func127,Tryz.ntmps127;go_wp2_with fail
       refine (rcont_any s _ _ _ _ (by omega) (by omega)).mono ?_;rintro e w1 ⟨rfl,rfl⟩;rw [show ((i:Int)+1).toNat=i+1 by omega,Q1.out];go_wp2_with fail
       refine (rcont_any s _ _ _ _ (by omega) (by omega)).mono ?_;rintro e w1 ⟨rfl,rfl⟩;rw [show ((i:Int)+2).toNat=i+2 by omega,Q2.out];go_wp2_with fail
       refine (rcont_any s _ _ _ _ (by omega) (by omega)).mono ?_;rintro e w1 ⟨rfl,rfl⟩;rw [show ((i:Int)+3).toNat=i+3 by omega,Q3.out];go_wp2
       go_ret2
       exact ⟨_,by rw [HN.out];rfl,Below.refl _ _⟩
     . have hlt3:i+3 < s.size:=by
        apply Decidable.byContradiction;intro h;rw [contB,dif_neg h] at q3;cases q3
       have HN:=hid (show D=4 by rw [HD2,if_pos ⟨by omega,by omega,q1,q2,q3⟩]);have Q1:=hid q1;have Q2:=hid q2;have Q3:=hid q3;clear HD2 q1 q2 q3;go_enter Tryz.func127,Tryz.ntmps127;go_wp2_with fail
       refine (rcont_any s _ _ _ _ (by omega) (by omega)).mono ?_;rintro e w1 ⟨rfl,rfl⟩;rw [show ((i:Int)+1).toNat=i+1 by omega,Q1.out];go_wp2_with fail
       refine (rcont_any s _ _ _ _ (by omega) (by omega)).mono ?_;rintro e w1 ⟨rfl,rfl⟩;rw [show ((i:Int)+2).toNat=i+2 by omega,Q2.out];go_wp2_with fail
       refine (rcont_any s _ _ _ _ (by omega) (by omega)).mono ?_;rintro e w1 ⟨rfl,rfl⟩;rw [show ((i:Int)+3).toNat=i+3 by omega,Q3.out];go_wp2
       have y1:(0:Int)<=(i:Int)+1:=by omega
       have z1:(i:Int)+1 < (s.size:Int):=by omega
       have y2:(0:Int)<=(i:Int)+2:=by omega
       have z2:(i:Int)+2 < (s.size:Int):=by omega
       have y3:(0:Int)<=(i:Int)+3:=by omega
       have z3:(i:Int)+3 < (s.size:Int):=by omega
       have t1:((i:Int)+1).toNat=i+1:=by omega
       have x1:IntKind.i64.wrap ((i:Int)+1)=(i:Int)+1:=IntWalk.i64_in _ (by omega);have t2:((i:Int)+2).toNat=i+2:=by omega
       have x2:IntKind.i64.wrap ((i:Int)+2)=(i:Int)+2:=IntWalk.i64_in _ (by omega);have t3:((i:Int)+3).toNat=i+3:=by omega
       have x3:IntKind.i64.wrap ((i:Int)+3)=(i:Int)+3:=IntWalk.i64_in _ (by omega);go_quiet (fail)
       go_wp2
       go_ret2
       exact ⟨_,by rw [HN.out];rfl,below_drewN (Below.refl _ _) _⟩
theorem and63 (c:Nat) (h:c < 4294967296):bits BinOp.and IntKind.i64 (c:Int) 63=((c % 64:Nat):Int):=by
 have h1:=(bits_nat .i64 32 (by decide) (fun n h0 h1=>IntWalk.i64_in n (by omega)) c 63 (by omega) (by decide)).1;rw [show ((63:Nat):Int)=63 from rfl] at h1;rw [h1]
 congr 1
 exact Nat.and_two_pow_sub_one_eq_mod c 6
theorem or128:∀ x:Fin 64,bits BinOp.or IntKind.i64 128 (x.val:Int)=((128+x.val:Nat):Int):=by decide +kernel
theorem or192:∀ x:Fin 32,bits BinOp.or IntKind.i64 192 (x.val:Int)=((192+x.val:Nat):Int):=by decide +kernel
theorem or224:∀ x:Fin 16,bits BinOp.or IntKind.i64 224 (x.val:Int)=((224+x.val:Nat):Int):=by decide +kernel
theorem or240:∀ x:Fin 8,bits BinOp.or IntKind.i64 240 (x.val:Int)=((240+x.val:Nat):Int):=by decide +kernel
theorem conv_zs (W:World) (b:Nat) (zs:List Nat) (h:∀ z∈zs,z < 256) (hc:∀ j (hj:j < zs.length),W.cell? ⟨b,j,none⟩=some (.int .u8 (zs[j]:Nat))) :
  (convert 178 9 (.slice (some ⟨b,0,none⟩) zs.length zs.length)).run Tryz.prog W=.ok (.string ⟨(zs.map fun z=>z.toUInt8).toArray⟩) W:=by
 have:=run_convert_bytes_back (P:=Tryz.prog) W 178 9 5 ⟨b,0,none⟩ zs.length (zs.map fun z=>z.toUInt8) Tryz.underlying178 Tryz.underlying5 Tryz.underlying9 (fun j hj=>by
  rw [List.length_map] at hj;rw [Addr.add_lit,Nat.zero_add,hc j hj,List.getElem_map];have hz:=h _ (List.getElem_mem hj);generalize zs[j]=z at *
  congr 2
  show (z:Int)=((UInt8.ofNat z).toNat:Int);rw [UInt8.toNat_ofNat'];omega)
 rw [List.length_map] at this;exact this
set_option maxHeartbeats 4000000 in
set_option maxRecDepth 100000 in
theorem renc_any (c:Nat) (hv:Lib.validRune (c:Int)=true) (w:World):Calls Tryz.prog 252 #[.int .i64 c] w fun e w'=>e=.returned (.string ⟨(Lib.encodeRune (c:Nat)).toArray⟩)/\Below w.heap.size w w':=by
 have hle:=vr_le hv;have hvv:(c < 55296 ∨ (57343 < c/\c<=1114111)):=by unfold Lib.validRune at hv;have:=of_decide_eq_true hv;omega
 have HBA:=hid (fun o=>(Below.refl w.heap.size w).alloc (Nat.le_refl _) o);have a63:bits BinOp.and IntKind.i64 (c:Int) 63=(c:Int) % 64:=by have h:=and63 c (by omega);push_cast at h;exact h
 have b63:bits BinOp.and IntKind.i64 ((c:Int) / 64) 63=(c:Int) / 64 % 64:=by have h:=and63 (c / 64) (by omega);push_cast at h;exact h
 have c63:bits BinOp.and IntKind.i64 ((c:Int) / 4096) 63=(c:Int) / 4096 % 64:=by have h:=and63 (c / 4096) (by omega);push_cast at h;exact h
 have a128:bits BinOp.or IntKind.i64 128 ((c:Int) % 64)=128+(c:Int) % 64:=by have h:=or128 ⟨c % 64,by omega⟩;push_cast at h;exact h
 have b128:bits BinOp.or IntKind.i64 128 ((c:Int) / 64 % 64)=128+(c:Int) / 64 % 64:=by have h:=or128 ⟨c / 64 % 64,by omega⟩;push_cast at h;exact h
 have c128:bits BinOp.or IntKind.i64 128 ((c:Int) / 4096 % 64)=128+(c:Int) / 4096 % 64:=by have h:=or128 ⟨c / 4096 % 64,by omega⟩;push_cast at h;exact h
 by_cases h1:(c:Int) < 128
 . have HX:=hid (show Lib.encodeRune (c:Nat)=([c]:List Nat).map (fun z=>z.toUInt8) by
    unfold Lib.encodeRune;rw [Lib.encodeRuneZ_one (by omega) (by omega)];rfl)
   have hcv:=conv_zs (w.alloc (.cells #[.int .u8 ((c:Int))] 5)) w.heap.size ([c]:List Nat) (by intro z hz;simp only [List.mem_cons,List.not_mem_nil,or_false] at hz;omega) (fun j hj=>by
    have h0:j=0:=by simp at hj;omega
    rcases h0 with rfl
    all_goals exact cell_at rfl (by first | rfl | (simp)))
   rw [<-HX.out] at hcv;simp only [List.length_cons,List.length_nil,Nat.zero_add,Nat.reduceAdd] at hcv;generalize Lib.encodeRune (c:Nat)=E at *;clear hv;go_enter Tryz.func252,Tryz.ntmps252;go_wp2
   go_ret
   exact ⟨rfl,HBA.out _⟩
 by_cases h2:(c:Int) < 2048
 . have a192:bits BinOp.or IntKind.i64 192 ((c:Int) / 64)=192+(c:Int) / 64:=by have h:=or192 ⟨c / 64,by omega⟩;push_cast at h;exact h
   have HX:=hid (show Lib.encodeRune (c:Nat)=([192+c / 64,128+c % 64]:List Nat).map (fun z=>z.toUInt8) by
    unfold Lib.encodeRune;rw [Lib.encodeRuneZ_two (by omega) (by omega)];rfl)
   have hcv:=conv_zs (w.alloc (.cells #[.int .u8 (192+(c:Int) / 64),.int .u8 (128+(c:Int) % 64)] 5)) w.heap.size ([192+c / 64,128+c % 64]:List Nat) (by intro z hz;simp only [List.mem_cons,List.not_mem_nil,or_false] at hz;omega) (fun j hj=>by
    have h0:j=0 ∨ j=1:=by simp at hj;omega
    rcases h0 with rfl | rfl
    all_goals exact cell_at rfl (by first | rfl | (simp)))
   rw [<-HX.out] at hcv;simp only [List.length_cons,List.length_nil,Nat.zero_add,Nat.reduceAdd] at hcv;generalize Lib.encodeRune (c:Nat)=E at *;clear hv;go_enter Tryz.func252,Tryz.ntmps252;go_wp2
   go_ret
   exact ⟨rfl,HBA.out _⟩
 by_cases h3:(c:Int) < 65536
 . have a224:bits BinOp.or IntKind.i64 224 ((c:Int) / 4096)=224+(c:Int) / 4096:=by have h:=or224 ⟨c / 4096,by omega⟩;push_cast at h;exact h
   have HX:=hid (show Lib.encodeRune (c:Nat)=([224+c / 4096,128+c / 64 % 64,128+c % 64]:List Nat).map (fun z=>z.toUInt8) by
    unfold Lib.encodeRune;rw [Lib.encodeRuneZ_three (by omega)];rfl)
   have hcv:=conv_zs (w.alloc (.cells #[.int .u8 (224+(c:Int) / 4096),.int .u8 (128+(c:Int) / 64 % 64),.int .u8 (128+(c:Int) % 64)] 5)) w.heap.size ([224+c / 4096,128+c / 64 % 64,128+c % 64]:List Nat) (by intro z hz;simp only [List.mem_cons,List.not_mem_nil,or_false] at hz;omega) (fun j hj=>by
    have h0:j=0 ∨ j=1 ∨ j=2:=by simp at hj;omega
    rcases h0 with rfl | rfl | rfl
    all_goals exact cell_at rfl (by first | rfl | (simp)))
   rw [<-HX.out] at hcv;simp only [List.length_cons,List.length_nil,Nat.zero_add,Nat.reduceAdd] at hcv;generalize Lib.encodeRune (c:Nat)=E at *;clear hv;go_enter Tryz.func252,Tryz.ntmps252;go_wp2
   go_ret
   exact ⟨rfl,HBA.out _⟩
 . have a240:bits BinOp.or IntKind.i64 240 ((c:Int) / 262144)=240+(c:Int) / 262144:=by have h:=or240 ⟨c / 262144,by omega⟩;have e:((c / 262144:Nat):Int)=(c:Int) / 262144:=(by omega);simp only [Int.natCast_add,e] at h;exact h
   have HX:=hid (show Lib.encodeRune (c:Nat)=([240+c / 262144,128+c / 4096 % 64,128+c / 64 % 64,128+c % 64]:List Nat).map (fun z=>z.toUInt8) by
    unfold Lib.encodeRune;rw [Lib.encodeRuneZ_four (by omega) (by omega)];rfl)
   have hcv:=conv_zs (w.alloc (.cells #[.int .u8 (240+(c:Int) / 262144),.int .u8 (128+(c:Int) / 4096 % 64),.int .u8 (128+(c:Int) / 64 % 64),.int .u8 (128+(c:Int) % 64)] 5)) w.heap.size ([240+c / 262144,128+c / 4096 % 64,128+c / 64 % 64,128+c % 64]:List Nat) (by intro z hz;simp only [List.mem_cons,List.not_mem_nil,or_false] at hz;omega) (fun j hj=>by
    have h0:j=0 ∨ j=1 ∨ j=2 ∨ j=3:=by simp at hj;omega
    rcases h0 with rfl | rfl | rfl | rfl
    all_goals exact cell_at rfl (by first | rfl | (simp)))
   rw [<-HX.out] at hcv;simp only [List.length_cons,List.length_nil,Nat.zero_add,Nat.reduceAdd] at hcv;generalize Lib.encodeRune (c:Nat)=E at *;clear hv;go_enter Tryz.func252,Tryz.ntmps252;go_wp2
   go_ret
   exact ⟨rfl,HBA.out _⟩
def hxI (c:Nat):Int:=if isHx c=true then (hxv c:Nat) else -1
theorem ret_int {a b:Int} (h:a=b):Ending.returned (.int .i64 b)=.returned (.int .i64 a):=by rw [h]
set_option maxHeartbeats 4000000 in
theorem rhex_any (c:UInt8) (w:World):Calls Tryz.prog 253 #[.int .u8 c.toNat] w fun e w'=>e=.returned (.int .i64 (hxI c.toNat))/\w=w':=by
 have hc:=lt256 c;generalize c.toNat=n at *
 by_cases h1:(48:Int)<=n <;> by_cases h2:(n:Int)<=57 <;> by_cases h3:(97:Int)<=n <;> by_cases h4:(n:Int)<=102 <;> first
  | (exfalso;omega)
  | (have HR:=hid (show hxI n=n - 48 by unfold hxI isHx hxv;rw [decide_eq_true (show 48<=n/\n<=57 by omega),if_pos (by simp),if_pos (by omega)];omega)
     go_enter Tryz.func253,Tryz.ntmps253;go_wp2
     go_ret
     exact ⟨ret_int HR.out,rfl⟩)
  | (have HR:=hid (show hxI n=n - 97+10 by unfold hxI isHx hxv;rw [decide_eq_false (show ¬ (48<=n/\n<=57) by omega),decide_eq_true (show 97<=n/\n<=102 by omega),if_pos (by simp),if_neg (by omega)];omega)
     go_enter Tryz.func253,Tryz.ntmps253;go_wp2
     go_ret
     exact ⟨ret_int HR.out,rfl⟩)
  | (have HR:=hid (show hxI n = -1 by unfold hxI isHx;rw [decide_eq_false (show ¬ (48<=n/\n<=57) by omega),decide_eq_false (show ¬ (97<=n/\n<=102) by omega)];rfl)
     go_enter Tryz.func253,Tryz.ntmps253;go_wp2
     go_ret
     exact ⟨ret_int HR.out,rfl⟩)
theorem ext_get (s:ByteArray) (i k:Nat) (h:i+k < s.size):((s.extract i s.size)[k]'(by rw [ext_size s i (by omega)];omega))=s[i+k]:=by
 have h1:k < (s.extract i s.size).size:=by rw [ext_size s i (by omega)];omega
 have h2:=getD_at (s.extract i s.size) h1;rw [extract_list] at h2;rw [<-h2,<-getD_at s h,List.getD_eq_getElem?_getD,List.getD_eq_getElem?_getD,List.getElem?_drop]
theorem hxI_yes {c:Nat} (h:isHx c=true):hxI c=(hxv c:Nat):=by unfold hxI;rw [if_pos h]
theorem hxI_no {c:Nat} (h:isHx c=false):hxI c = -1:=by unfold hxI;rw [h];rfl
def PtR (i:Nat) (x:Int × Nat × Nat):Ending:=.returned (.tuple #[.int .i64 (x.2.1:Nat),.int .i64 ((if x.1=0 then i+x.2.2 else 0:Nat):Nat),.int .i64 x.1])
set_option maxHeartbeats 8000000 in
set_option maxRecDepth 100000 in
theorem rpoint_any (s:ByteArray) (i:Nat) (w:World) (hi:i<=s.size) (hs:s.size<=2000000):Calls Tryz.prog 251 #[.string s,.int .i64 i] w fun e w'=>e=PtR i (hxP (s.data.toList.drop i))/\w=w':=by
 have hsz:=ext_size s i hi
 have HL:=hid (fun k (hk:i+k<=s.size) (h6:k<=6) (h1:∀ j (hj:i+j < s.size),j < k->isHx s[i+j].toNat=true) (h2:∀ h:i+k < s.size,k < 6->isHx s[i+k].toNat=false)=>show hxL (s.data.toList.drop i)=(s.data.toList.drop i).take k/\(hxL (s.data.toList.drop i)).length=k from by
  have h:=hxL_at (s:=s.extract i s.size) (k:=k) (by omega) h6 (fun j hj hjk=>by rw [ext_get s i j (by omega)];exact h1 j (by omega) hjk) (fun hh hh6=>by rw [ext_get s i k (by omega)];exact h2 (by omega) hh6);rw [extract_list] at h;refine ⟨h,?_⟩;rw [h,List.length_take,List.length_drop,size_list];omega)
 have hxE:∀ k,s.size<=i+k->(hxL (s.data.toList.drop i)=(s.data.toList.drop i).take k/\(hxL (s.data.toList.drop i)).length=k)->hxP (s.data.toList.drop i)=(40,0,0):=fun k hk h=>by
  have:=hxP_end (s:=s.extract i s.size) (k:=k) (by omega) (by rw [extract_list];exact h)
  rwa [extract_list] at this
 have hxC:∀ (k:Nat) (hk:i+k < s.size),(hxL (s.data.toList.drop i)=(s.data.toList.drop i).take k/\(hxL (s.data.toList.drop i)).length=k)->hxP (s.data.toList.drop i)=if s[i+k].toNat≠125 ∨ k=0 ∨ (1 < k/\(s[i]'(by omega)).toNat=48) ∨ Lib.validRune (hxF ((s.data.toList.drop i).take k):Nat)=false then (2,0,0) else (0,hxF ((s.data.toList.drop i).take k),k+1):=fun k hk h=>by
  have:=hxP_cut (s:=s.extract i s.size) (k:=k) (by omega) (by rw [extract_list];exact h);rw [ext_get s i k (by omega),ext_get s i 0 (by omega)] at this;simpa only [extract_list,Nat.add_zero] using this
 have HXE:=hid hxE;have HXC:=hid hxC;clear hxE hxC hsz;go_enter Tryz.func251,Tryz.ntmps251;go_wp2
 go_loop [7,8] (fun c n=>∃ k:Nat,i+k<=s.size/\k<=6/\n=.int .i64 k/\c=.int .i64 (hxF ((s.data.toList.drop i).take k):Nat)/\Hid (∀ j (hj:i+j < s.size),j < k->isHx s[i+j].toNat=true)) (fun _ n=>s.size - i - (RowKit.intOf n).toNat)
 case atStart=>exact ⟨0,by omega,by omega,rfl,rfl,hid (fun j hj h=>absurd h (by omega))⟩
 case round =>
  obtain ⟨k,hk,h6,rfl,rfl,HA⟩:=hrel
  have HBd:=hid (show hxF ((s.data.toList.drop i).take k) < 16 ^ 6 from by
   have h1:=hxF_le ((s.data.toList.drop i).take k) (fun c hc=>by
    obtain ⟨j,hj,rfl⟩:=List.mem_iff_getElem.1 hc;rw [List.length_take,List.length_drop,size_list] at hj;rw [List.getElem_take,List.getElem_drop,get_list s (i+j) (by omega)];exact HA.out j _ (by omega))
   have h2:((s.data.toList.drop i).take k).length=k:=by rw [List.length_take,List.length_drop,size_list];omega
   rw [h2] at h1;exact Nat.lt_of_lt_of_le h1 (Nat.pow_le_pow_right (by decide) h6))
  have hbd:=HBd.out;simp only [Nat.reducePow] at hbd;have HFin:=hid (fun h2=>HL.out k hk h6 HA.out h2)
  by_cases hlt:i+k < s.size
  case neg =>
   have HR:=hid (HXE.out k (by omega) (HFin.out (fun h=>absurd h hlt)));have e0:¬ (i:Int)+(k:Int) < (s.size:Int):=by omega
   have e0':(s.size:Int)<=(i:Int)+(k:Int):=by omega
   clear HXE HXC HFin HL HA hlt;go_wp2
   go_ret3
   exact ⟨by rw [HR.out];rfl,rfl⟩
  have e0:(i:Int)+(k:Int) < (s.size:Int):=by omega
  have e0':¬ (s.size:Int)<=(i:Int)+(k:Int):=by omega
  by_cases h6':k=6
  . have HFF:=hid (HFin.out (fun _ h=>by omega))
    have h6z:¬ (k:Int) < 6:=by omega
    have hk0:1 < k:=by omega
    have hxC:=HXC.out;clear h6' HFin HL HXE HXC HA;have HC:=hid (hxC k hlt HFF.out);clear hxC;generalize hxF ((s.data.toList.drop i).take k)=F at *;clear HFF;have c2:¬ k=0:=by omega
    have e2:((k:Int) == 0)=false:=by simp;omega
    by_cases c1:s[i+k].toNat=125
    case neg =>
     have e1:((s[i+k].toNat:Int) != 125)=true:=by simp;omega
     have HR:=hid (show hxP (s.data.toList.drop i)=(2,0,0) from by rw [HC.out,if_pos (Or.inl c1)]);clear c1 c2 HC;go_wp2
     go_ret3
     exact ⟨by rw [HR.out];rfl,rfl⟩
    have e1:((s[i+k].toNat:Int) != 125)=false:=by simp;omega
    by_cases c3:1 < k
    . have e3:(1:Int) < k:=by omega
      have hs0:i < s.size:=by omega
      by_cases c4:s[i].toNat=48
      . have e4:((s[i].toNat:Int) == 48)=true:=by simp;omega
        have HR:=hid (show hxP (s.data.toList.drop i)=(2,0,0) from by rw [HC.out,if_pos (Or.inr (Or.inr (Or.inl ⟨c3,c4⟩)))]);clear c1 c2 c3 c4 HC;go_wp2
        go_ret3
        exact ⟨by rw [HR.out];rfl,rfl⟩
      have e4:((s[i].toNat:Int) == 48)=false:=by simp;omega
      by_cases c5:1114111 < F
      . have e5:(1114111:Int) < (F:Int):=by omega
        have c6:Lib.validRune (F:Int)=false:=by unfold Lib.validRune;exact decide_eq_false (by omega)
        have HR:=hid (show hxP (s.data.toList.drop i)=(2,0,0) from by rw [HC.out,if_pos (Or.inr (Or.inr (Or.inr c6)))]);clear c5 c6 c1 c2 c3 c4 HC;go_wp2
        go_ret3
        exact ⟨by rw [HR.out];rfl,rfl⟩
      have e5:¬ (1114111:Int) < (F:Int):=by omega
      by_cases c7:55296<=F
      . have e7:(55296:Int)<=(F:Int):=by omega
        by_cases c8:F<=57343
        . have e8:(F:Int)<=57343:=by omega
          have c6:Lib.validRune (F:Int)=false:=by unfold Lib.validRune;exact decide_eq_false (by omega)
          have HR:=hid (show hxP (s.data.toList.drop i)=(2,0,0) from by rw [HC.out,if_pos (Or.inr (Or.inr (Or.inr c6)))]);clear c5 c6 c7 c8 c1 c2 c3 c4 HC;go_wp2
          go_ret3
          exact ⟨by rw [HR.out];rfl,rfl⟩
        . have e8:¬ (F:Int)<=57343:=by omega
          have c6:Lib.validRune (F:Int)=true:=by unfold Lib.validRune;exact decide_eq_true (by omega)
          have HR:=hid (show hxP (s.data.toList.drop i)=(0,F,k+1) from by rw [HC.out,if_neg (by rintro (h | h | h | h);exact h c1;exact c2 h;exact c4 h.2;rw [c6] at h;cases h)]);clear c5 c7 c8 c6 c1 c2 c3 c4 HC;go_wp2
          go_ret3
          exact ⟨by rw [HR.out];rfl,rfl⟩
      . have e7:(F:Int) < 55296:=by omega
        have b5:decide ((1114111:Int) < (F:Int))=false:=decide_eq_false e5;have b7:decide ((55296:Int)<=(F:Int))=false:=decide_eq_false (by omega);have c6:Lib.validRune (F:Int)=true:=by unfold Lib.validRune;exact decide_eq_true (by omega)
        have HR:=hid (show hxP (s.data.toList.drop i)=(0,F,k+1) from by rw [HC.out,if_neg (by rintro (h | h | h | h);exact h c1;exact c2 h;exact c4 h.2;rw [c6] at h;cases h)]);clear c5 c7 e5 e7 hbd HBd c6 c1 c2 c3 c4 HC;go_wp2
        go_ret3
        exact ⟨by rw [HR.out];rfl,rfl⟩
    . exact absurd c3 (by omega)
  have h6z:(k:Int) < 6:=by omega
  have hc:=lt256 s[i+k];have hIB:=fun W=>rhex_any s[i+k] W;cases hx:isHx s[i+k].toNat
  . have HFF:=hid (HFin.out (fun _ _=>hx))
    rw [hxI_no hx] at hIB;have HIB:=hid hIB;have hxC:=HXC.out;clear hIB hx HFin HL HXE HXC HA h6';have HC:=hid (hxC k hlt HFF.out);clear hxC;generalize hxF ((s.data.toList.drop i).take k)=F at *;clear HFF
    by_cases c2:k=0
    case pos =>
     have e2:((k:Int) == 0)=true:=by simp;omega
     have HR:=hid (show hxP (s.data.toList.drop i)=(2,0,0) from by rw [HC.out,if_pos (Or.inr (Or.inl c2))]);clear c2 HC;go_wp2_with (go_at_call 253;refine (HIB.out _).mono ?_;rintro e w1 ⟨rfl,rfl⟩)
     go_ret3
     exact ⟨by rw [HR.out];rfl,rfl⟩
    have e2:((k:Int) == 0)=false:=by simp;omega
    by_cases c1:s[i+k].toNat=125
    case neg =>
     have e1:((s[i+k].toNat:Int) != 125)=true:=by simp;omega
     have HR:=hid (show hxP (s.data.toList.drop i)=(2,0,0) from by rw [HC.out,if_pos (Or.inl c1)]);clear c1 c2 HC;go_wp2_with (go_at_call 253;refine (HIB.out _).mono ?_;rintro e w1 ⟨rfl,rfl⟩)
     go_ret3
     exact ⟨by rw [HR.out];rfl,rfl⟩
    have e1:((s[i+k].toNat:Int) != 125)=false:=by simp;omega
    by_cases c3:1 < k
    . have e3:(1:Int) < k:=by omega
      have hs0:i < s.size:=by omega
      by_cases c4:s[i].toNat=48
      . have e4:((s[i].toNat:Int) == 48)=true:=by simp;omega
        have HR:=hid (show hxP (s.data.toList.drop i)=(2,0,0) from by rw [HC.out,if_pos (Or.inr (Or.inr (Or.inl ⟨c3,c4⟩)))]);clear c1 c2 c3 c4 HC;go_wp2_with (go_at_call 253;refine (HIB.out _).mono ?_;rintro e w1 ⟨rfl,rfl⟩)
        go_ret3
        exact ⟨by rw [HR.out];rfl,rfl⟩
      have e4:((s[i].toNat:Int) == 48)=false:=by simp;omega
      by_cases c5:1114111 < F
      . have e5:(1114111:Int) < (F:Int):=by omega
        have c6:Lib.validRune (F:Int)=false:=by unfold Lib.validRune;exact decide_eq_false (by omega)
        have HR:=hid (show hxP (s.data.toList.drop i)=(2,0,0) from by rw [HC.out,if_pos (Or.inr (Or.inr (Or.inr c6)))]);clear c5 c6 c1 c2 c3 c4 HC;go_wp2_with (go_at_call 253;refine (HIB.out _).mono ?_;rintro e w1 ⟨rfl,rfl⟩)
        go_ret3
        exact ⟨by rw [HR.out];rfl,rfl⟩
      have e5:¬ (1114111:Int) < (F:Int):=by omega
      by_cases c7:55296<=F
      . have e7:(55296:Int)<=(F:Int):=by omega
        by_cases c8:F<=57343
        . have e8:(F:Int)<=57343:=by omega
          have c6:Lib.validRune (F:Int)=false:=by unfold Lib.validRune;exact decide_eq_false (by omega)
          have HR:=hid (show hxP (s.data.toList.drop i)=(2,0,0) from by rw [HC.out,if_pos (Or.inr (Or.inr (Or.inr c6)))]);clear c5 c6 c7 c8 c1 c2 c3 c4 HC;go_wp2_with (go_at_call 253;refine (HIB.out _).mono ?_;rintro e w1 ⟨rfl,rfl⟩)
          go_ret3
          exact ⟨by rw [HR.out];rfl,rfl⟩
        . have e8:¬ (F:Int)<=57343:=by omega
          have c6:Lib.validRune (F:Int)=true:=by unfold Lib.validRune;exact decide_eq_true (by omega)
          have HR:=hid (show hxP (s.data.toList.drop i)=(0,F,k+1) from by rw [HC.out,if_neg (by rintro (h | h | h | h);exact h c1;exact c2 h;exact c4 h.2;rw [c6] at h;cases h)]);clear c5 c7 c8 c6 c1 c2 c3 c4 HC;go_wp2_with (go_at_call 253;refine (HIB.out _).mono ?_;rintro e w1 ⟨rfl,rfl⟩)
          go_ret3
          exact ⟨by rw [HR.out];rfl,rfl⟩
      . have e7:(F:Int) < 55296:=by omega
        have b5:decide ((1114111:Int) < (F:Int))=false:=decide_eq_false e5;have b7:decide ((55296:Int)<=(F:Int))=false:=decide_eq_false (by omega);have c6:Lib.validRune (F:Int)=true:=by unfold Lib.validRune;exact decide_eq_true (by omega)
        have HR:=hid (show hxP (s.data.toList.drop i)=(0,F,k+1) from by rw [HC.out,if_neg (by rintro (h | h | h | h);exact h c1;exact c2 h;exact c4 h.2;rw [c6] at h;cases h)]);clear c5 c7 e5 e7 hbd HBd c6 c1 c2 c3 c4 HC;go_wp2_with (go_at_call 253;refine (HIB.out _).mono ?_;rintro e w1 ⟨rfl,rfl⟩)
        go_ret3
        exact ⟨by rw [HR.out];rfl,rfl⟩
    . have e3:¬ (1:Int) < k:=by omega
      have hnn:(k:Int)<=1:=by omega
      by_cases c5:1114111 < F
      . have e5:(1114111:Int) < (F:Int):=by omega
        have c6:Lib.validRune (F:Int)=false:=by unfold Lib.validRune;exact decide_eq_false (by omega)
        have HR:=hid (show hxP (s.data.toList.drop i)=(2,0,0) from by rw [HC.out,if_pos (Or.inr (Or.inr (Or.inr c6)))]);clear c5 c6 c1 c2 c3 HC;go_wp2_with (go_at_call 253;refine (HIB.out _).mono ?_;rintro e w1 ⟨rfl,rfl⟩)
        go_ret3
        exact ⟨by rw [HR.out];rfl,rfl⟩
      have e5:¬ (1114111:Int) < (F:Int):=by omega
      by_cases c7:55296<=F
      . have e7:(55296:Int)<=(F:Int):=by omega
        by_cases c8:F<=57343
        . have e8:(F:Int)<=57343:=by omega
          have c6:Lib.validRune (F:Int)=false:=by unfold Lib.validRune;exact decide_eq_false (by omega)
          have HR:=hid (show hxP (s.data.toList.drop i)=(2,0,0) from by rw [HC.out,if_pos (Or.inr (Or.inr (Or.inr c6)))]);clear c5 c6 c7 c8 c1 c2 c3 HC;go_wp2_with (go_at_call 253;refine (HIB.out _).mono ?_;rintro e w1 ⟨rfl,rfl⟩)
          go_ret3
          exact ⟨by rw [HR.out];rfl,rfl⟩
        . have e8:¬ (F:Int)<=57343:=by omega
          have c6:Lib.validRune (F:Int)=true:=by unfold Lib.validRune;exact decide_eq_true (by omega)
          have HR:=hid (show hxP (s.data.toList.drop i)=(0,F,k+1) from by rw [HC.out,if_neg (by rintro (h | h | h | h);exact h c1;exact c2 h;exact c3 h.1;rw [c6] at h;cases h)]);clear c5 c7 c8 c6 c1 c2 c3 HC;go_wp2_with (go_at_call 253;refine (HIB.out _).mono ?_;rintro e w1 ⟨rfl,rfl⟩)
          go_ret3
          exact ⟨by rw [HR.out];rfl,rfl⟩
      . have e7:(F:Int) < 55296:=by omega
        have b5:decide ((1114111:Int) < (F:Int))=false:=decide_eq_false e5;have b7:decide ((55296:Int)<=(F:Int))=false:=decide_eq_false (by omega);have c6:Lib.validRune (F:Int)=true:=by unfold Lib.validRune;exact decide_eq_true (by omega)
        have HR:=hid (show hxP (s.data.toList.drop i)=(0,F,k+1) from by rw [HC.out,if_neg (by rintro (h | h | h | h);exact h c1;exact c2 h;exact c3 h.1;rw [c6] at h;cases h)]);clear c5 c7 e5 e7 hbd HBd c6 c1 c2 c3 HC;go_wp2_with (go_at_call 253;refine (HIB.out _).mono ?_;rintro e w1 ⟨rfl,rfl⟩)
        go_ret3
        exact ⟨by rw [HR.out];rfl,rfl⟩
  . rw [hxI_yes hx] at hIB
    have HIB:=hid hIB;have hv:=hxv_le hx
    have HA2:=hid (show ∀ j (hj:i+j < s.size),j < k+1->isHx s[i+j].toNat=true from fun j hj hjk=>by
     by_cases e:j < k
     . exact HA.out j hj e
     . obtain rfl:j=k:=by omega
       exact hx)
    have HSn:=hid (show hxF ((s.data.toList.drop i).take (k+1))=16 * hxF ((s.data.toList.drop i).take k)+hxv s[i+k].toNat from by
     rw [List.take_succ_eq_append_getElem (by rw [List.length_drop,size_list];omega),hxF_snoc,List.getElem_drop,get_list s (i+k) hlt])
    clear hIB hx HFin HL HXE HXC HA h6';generalize hxF ((s.data.toList.drop i).take k)=F at *;generalize hxv s[i+k].toNat=V at *;go_wp2_with (go_at_call 253;refine (HIB.out _).mono ?_;rintro e w1 ⟨rfl,rfl⟩)
    go_round
    case rel=>exact ⟨k+1,by omega,by omega,by go_num,by rw [HSn.out];go_num,HA2⟩
    case measure=>(simp [RowKit.intOf] <;> omega)
def OneR (i:Nat) (y:Int × List UInt8 × Nat):Ending:=.returned (.tuple #[.string ⟨y.2.1.toArray⟩,.int .i64 ((if y.1=0 then i+y.2.2 else 0:Nat):Nat),.int .i64 y.1])
def escO (x:Int × Nat × Nat):Int × List UInt8 × Nat:=if x.1≠0 then (x.1,[],0) else (0,Lib.encodeRune (x.2.1:Nat),x.2.2+1)
theorem ext_one (s:ByteArray) (k:Nat) (h:k < s.size):s.extract k (k+1)=⟨[s[k]].toArray⟩:=by
 apply ba_extA;rw [Lib.extract_data,Nat.add_sub_cancel_left,drop_cons s k h];rfl
theorem enc_byte (c:UInt8) (h:c.toNat < 128):Lib.encodeRune (c.toNat:Nat)=[c]:=by
 unfold Lib.encodeRune;rw [Lib.encodeRuneZ_one (by omega) (by omega)];simp
theorem enc_lit:Lib.encodeRune (10:Nat)=[10]/\Lib.encodeRune (13:Nat)=[13]/\Lib.encodeRune (9:Nat)=[9]:=by decide
set_option maxHeartbeats 8000000 in
set_option maxRecDepth 100000 in
theorem rescd_any (s:ByteArray) (i:Nat) (w:World) (hi:i < s.size) (hs:s.size<=2000000):Calls Tryz.prog 249 #[.string s,.int .i64 i] w fun e w'=>e=OneR i (escO (escS (s.data.toList.drop (i+1))))/\Below w.heap.size w w':=by
 have HB:=hid (Below.refl w.heap.size w)
 by_cases h0:i+1 < s.size
 case neg =>
  have HR:=hid (show escS (s.data.toList.drop (i+1))=(40,0,0) by rw [List.drop_eq_nil_of_le (by rw [size_list];omega)];rfl);have e0:(s.size:Int)<=(i:Int)+1:=by omega
  clear h0;go_enter Tryz.func249,Tryz.ntmps249;go_wp2
  go_ret3
  exact ⟨by rw [HR.out];rfl,HB.out⟩
 have e0:¬ (s.size:Int)<=(i:Int)+1:=by omega
 have e0':(i:Int)+1 < (s.size:Int):=by omega
 have hsz:=ext_size s (i+1) (by omega);have hE:=escS_at (s.extract (i+1) s.size) (by omega);rw [extract_list,ext_get s (i+1) 0 (by omega)] at hE;simp only [Nat.add_zero] at hE;have HE:=hid hE;have hc:=lt256 s[i+1];clear hE
 by_cases h110:s[i+1].toNat=110
 . have e110:((s[i+1].toNat:Int) == 110)=true:=by simp;omega
   have HR:=hid (show escO (escS (s.data.toList.drop (i+1)))=(0,[10],2) by rw [HE.out,if_pos h110];unfold escO;rw [if_neg (by simp)];rw [show Lib.encodeRune _=_ from enc_lit.1]);clear HE h110  hsz;go_enter Tryz.func249,Tryz.ntmps249;go_wp2
   go_ret3
   exact ⟨by rw [HR.out];rfl,HB.out⟩
 have e110:((s[i+1].toNat:Int) == 110)=false:=by simp;omega
 by_cases h114:s[i+1].toNat=114
 . have e114:((s[i+1].toNat:Int) == 114)=true:=by simp;omega
   have HR:=hid (show escO (escS (s.data.toList.drop (i+1)))=(0,[13],2) by rw [HE.out,if_neg h110,if_pos h114];unfold escO;rw [if_neg (by simp)];rw [show Lib.encodeRune _=_ from enc_lit.2.1]);clear HE h114 h110 hsz;go_enter Tryz.func249,Tryz.ntmps249;go_wp2
   go_ret3
   exact ⟨by rw [HR.out];rfl,HB.out⟩
 have e114:((s[i+1].toNat:Int) == 114)=false:=by simp;omega
 by_cases h116:s[i+1].toNat=116
 . have e116:((s[i+1].toNat:Int) == 116)=true:=by simp;omega
   have HR:=hid (show escO (escS (s.data.toList.drop (i+1)))=(0,[9],2) by rw [HE.out,if_neg h110,if_neg h114,if_pos h116];unfold escO;rw [if_neg (by simp)];rw [show Lib.encodeRune _=_ from enc_lit.2.2]);clear HE h116 h110 h114 hsz;go_enter Tryz.func249,Tryz.ntmps249;go_wp2
   go_ret3
   exact ⟨by rw [HR.out];rfl,HB.out⟩
 have e116:((s[i+1].toNat:Int) == 116)=false:=by simp;omega
 by_cases h34:s[i+1].toNat=34
 . have e34:((s[i+1].toNat:Int) == 34)=true:=by simp;omega
   have HR:=hid (show escO (escS (s.data.toList.drop (i+1)))=(0,[s[i+1]],2) by rw [HE.out,if_neg h110,if_neg h114,if_neg h116,if_pos (Or.inl h34)];unfold escO;rw [if_neg (by simp)];rw [show Lib.encodeRune _=_ from enc_byte s[i+1] (by omega)]);have HX:=hid (ext_one s (i+1) h0);have hx:s.extract (i+1) (i+2)=⟨[s[i+1]].toArray⟩:=HX.out;clear HE h34 h110 h114 h116 hsz;go_enter Tryz.func249,Tryz.ntmps249;go_wp2
   go_ret3
   exact ⟨by rw [HR.out,show OneR i (0,[s[i+1]],2)=.returned (.tuple #[.string (s.extract (i+1) (i+2)),.int .i64 ((i:Int)+2),.int .i64 0]) from by rw [hx];rfl];rfl,HB.out⟩
 have e34:((s[i+1].toNat:Int) == 34)=false:=by simp;omega
 by_cases h92:s[i+1].toNat=92
 . have e92:((s[i+1].toNat:Int) == 92)=true:=by simp;omega
   have HR:=hid (show escO (escS (s.data.toList.drop (i+1)))=(0,[s[i+1]],2) by rw [HE.out,if_neg h110,if_neg h114,if_neg h116,if_pos (Or.inr h92)];unfold escO;rw [if_neg (by simp)];rw [show Lib.encodeRune _=_ from enc_byte s[i+1] (by omega)]);have HX:=hid (ext_one s (i+1) h0);have hx:s.extract (i+1) (i+2)=⟨[s[i+1]].toArray⟩:=HX.out;clear HE h92 h110 h114 h116 h34 hsz;go_enter Tryz.func249,Tryz.ntmps249;go_wp2
   go_ret3
   exact ⟨by rw [HR.out,show OneR i (0,[s[i+1]],2)=.returned (.tuple #[.string (s.extract (i+1) (i+2)),.int .i64 ((i:Int)+2),.int .i64 0]) from by rw [hx];rfl];rfl,HB.out⟩
 have e92:((s[i+1].toNat:Int) == 92)=false:=by simp;omega
 have hno:¬ (s[i+1].toNat=34 ∨ s[i+1].toNat=92):=by omega
 by_cases h117:s[i+1].toNat=117
 . have e117:((s[i+1].toNat:Int) == 117)=true:=by simp;omega
   have HX:=hid (HE.out.trans (by rw [if_neg h110,if_neg h114,if_neg h116,if_neg hno,if_pos h117]));clear HE h117 h110 h114 h116 h34 h92 hno
   by_cases h1:s.size=i+2
   . have HR:=hid (show escS (s.data.toList.drop (i+1))=(40,0,0) from HX.out.trans (dif_pos (by omega)))
     have e1:(s.size:Int)<=(i:Int)+2:=by omega
     clear HX h1 hsz;go_enter Tryz.func249,Tryz.ntmps249;go_wp2
     go_ret3
     exact ⟨by rw [HR.out];rfl,HB.out⟩
   . have e1:¬ (s.size:Int)<=(i:Int)+2:=by omega
     have h2:i+2 < s.size:=by omega
     have h2z:(i:Int)+2 < (s.size:Int):=by omega
     have h3z:(i:Int)+3<=(s.size:Int):=by omega
     have hY:=HX.out.trans (dif_neg (by omega));rw [ext_get s (i+1) 1 (by omega),List.drop_drop] at hY;have HY:=hid (show _ from hY);clear hY
     by_cases h123:s[i+2].toNat=123
     . have e123:((s[i+2].toNat:Int) != 123)=false:=by simp;omega
       have HR:=hid (HY.out.trans (if_neg (by simpa using h123)));have HP:=hid (rpoint_any s (i+3) w (by omega) hs);have hok:=hxP_ok (l:=s.data.toList.drop (i+3));rw [show i+1+2=i+3 from rfl] at HR;generalize hxP (s.data.toList.drop (i+3))=x at *;obtain ⟨x1,x2,x3⟩:=x;simp only at HR hok;unfold PtR at HP;simp only at HP
       by_cases hx:x1=0
       . subst hx
         obtain ⟨o1,o2,o3⟩:=hok rfl;have HO:=hid (fun W=>renc_any x2 o1 W);have hR2:escO (escS (s.data.toList.drop (i+1)))=(0,Lib.encodeRune (x2:Nat),x3+3):=by rw [HR.out];rfl
         have HR2:=hid hR2;clear HX HY HR h1 h123 hok hsz hR2 o1;simp only [if_true] at HP;go_enter Tryz.func249,Tryz.ntmps249
         go_wp2_with (first
          | (go_at_call 251;refine HP.out.mono ?_;rintro e w1 ⟨rfl,rfl⟩)
          | (go_at_call 252;refine (HO.out _).mono ?_;rintro e w2 ⟨rfl,hb⟩;have HB2:=hid hb;clear hb))
         go_ret3
         refine ⟨?_,HB2.out⟩;rw [HR2.out];unfold OneR;simp only [if_true];rw [show i+(x3+3)=i+3+x3 by omega];rfl
       . have e3:(x1 != 0)=true:=by simpa using hx
         have hR2:escO (escS (s.data.toList.drop (i+1)))=(x1,[],0):=by rw [HR.out];unfold escO;rw [if_pos hx]
         have HR2:=hid hR2;have HNx:=hid hx;rw [if_neg hx] at HP;clear HX HY HR h1 h123 hok hsz hR2 hx;go_enter Tryz.func249,Tryz.ntmps249;go_wp2_with (go_at_call 251;refine HP.out.mono ?_;rintro e w1 ⟨rfl,rfl⟩)
         go_ret3
         exact ⟨by rw [HR2.out];unfold OneR;rw [if_neg HNx.out];rfl,HB.out⟩
     . have e123:((s[i+2].toNat:Int) != 123)=true:=by simp;omega
       have HR:=hid (HY.out.trans (if_pos h123));clear HX HY h1 h123 hsz;go_enter Tryz.func249,Tryz.ntmps249;go_wp2
       go_ret3
       exact ⟨by rw [HR.out];rfl,HB.out⟩
 . have e117:((s[i+1].toNat:Int) == 117)=false:=by simp;omega
   have HR:=hid (show escS (s.data.toList.drop (i+1))=(2,0,0) from HE.out.trans (by rw [if_neg h110,if_neg h114,if_neg h116,if_neg hno,if_neg h117]));clear HE h117 h110 h114 h116 h34 h92 hno hsz;go_enter Tryz.func249,Tryz.ntmps249;go_wp2
   go_ret3
   exact ⟨by rw [HR.out];rfl,HB.out⟩
theorem oneS_at (s:ByteArray) (i:Nat) (hi:i < s.size):oneS (s.data.toList.drop i)=if s[i].toNat=92 then escO (escS (s.data.toList.drop (i+1)))
  else if decR (s.data.toList.drop i)=0 ∨ s[i].toNat < 32 ∨ s[i].toNat=127 then (2,[],0) else (0,(s.data.toList.drop i).take (decR (s.data.toList.drop i)),decR (s.data.toList.drop i)):=by
 unfold oneS escO;rw [getD_drop0 s i hi,show (s.data.toList.drop i).tail=s.data.toList.drop (i+1) by rw [List.tail_drop]]
theorem ext_mid (s:ByteArray) (i n:Nat):s.extract i (i+n)=⟨((s.data.toList.drop i).take n).toArray⟩:=by
 apply ba_extA;rw [Lib.extract_data,Nat.add_sub_cancel_left]
set_option maxHeartbeats 8000000 in
set_option maxRecDepth 100000 in
theorem rone_any (s:ByteArray) (i:Nat) (w:World) (hi:i < s.size) (hs:s.size<=1200000):Calls Tryz.prog 241 #[.string s,.int .i64 i] w fun e w'=>e=OneR i (oneS (s.data.toList.drop i))/\Below w.heap.size w w':=by
 have HO:=hid (oneS_at s i hi);have hc:=lt256 s[i]
 by_cases h92:s[i].toNat=92
 . have e92:((s[i].toNat:Int) == 92)=true:=by simp;omega
   have HR:=hid (HO.out.trans (if_pos h92));have HE:=hid (rescd_any s i w hi (by omega));generalize escO (escS (s.data.toList.drop (i+1)))=y at *;obtain ⟨y1,y2,y3⟩:=y;clear HO h92;unfold OneR at HE;simp only at HE;generalize hN:((if y1=0 then i+y3 else 0:Nat))=N at *;have HNn:=hid hN;clear hN;go_enter Tryz.func241,Tryz.ntmps241;go_wp2_with (go_at_call 249;refine HE.out.mono ?_;rintro e w1 ⟨rfl,hb⟩;have HB:=hid hb;clear hb)
   go_ret3
   exact ⟨by rw [HR.out,<-HNn.out];rfl,HB.out⟩
 . have e92:((s[i].toNat:Int) == 92)=false:=by simp;omega
   have HD:=hid (rdecode_any s i w hi hs);unfold DecP at HD;have hX:=HO.out.trans (if_neg h92);have hle:=decR_le (s.data.toList.drop i);rw [List.length_drop,size_list] at hle;have hne:s.data.toList.drop i≠[]:=by rw [drop_cons s i hi];simp
   have hdl:decR (s.data.toList.drop i)<=s.size - i:=by
    rcases hle.2 with h | h | h
    . omega
    . exact absurd h hne
    . exact h
   have HM:=hid (ext_mid s i (decR (s.data.toList.drop i)))
   by_cases hbad:decR (s.data.toList.drop i)=0 ∨ s[i].toNat < 32 ∨ s[i].toNat=127
   . have HR:=hid (hX.trans (if_pos hbad))
     clear HO hX hle hne HM;generalize decR (s.data.toList.drop i)=D at *
     by_cases c1:D=0
     . have f1:((D:Int) == 0)=true:=by simp;omega
       clear hbad c1 h92;go_enter Tryz.func241,Tryz.ntmps241;go_wp2_with (go_at_call 127;refine HD.out.mono ?_;rintro e w1 ⟨rr,rfl,hb⟩;have HB:=hid hb;clear hb)
       go_ret3
       exact ⟨by rw [HR.out];rfl,HB.out⟩
     . have f1:((D:Int) == 0)=false:=by simp;omega
       by_cases c3:(s[i].toNat:Int) < 32
       . clear hbad c1 h92
         go_enter Tryz.func241,Tryz.ntmps241;go_wp2_with (go_at_call 127;refine HD.out.mono ?_;rintro e w1 ⟨rr,rfl,hb⟩;have HB:=hid hb;clear hb)
         go_ret3
         exact ⟨by rw [HR.out];rfl,HB.out⟩
       . have f4:((s[i].toNat:Int) == 127)=true:=by simp;omega
         clear hbad c1 h92;go_enter Tryz.func241,Tryz.ntmps241;go_wp2_with (go_at_call 127;refine HD.out.mono ?_;rintro e w1 ⟨rr,rfl,hb⟩;have HB:=hid hb;clear hb)
         go_ret3
         exact ⟨by rw [HR.out];rfl,HB.out⟩
   . have HR:=hid (hX.trans (if_neg hbad))
     have f1:((decR (s.data.toList.drop i):Int) == 0)=false:=by simp;omega
     have f3:¬ (s[i].toNat:Int) < 32:=by omega
     have f4:((s[i].toNat:Int) == 127)=false:=by simp;omega
     have f5:(i:Int)+(decR (s.data.toList.drop i):Int)<=(s.size:Int):=by omega
     have f6:i+decR (s.data.toList.drop i)<=s.size:=by omega
     clear HO hX hle hne hbad h92;generalize (s.data.toList.drop i).take (decR (s.data.toList.drop i))=T at *;generalize decR (s.data.toList.drop i)=D at *;have hm:=HM.out;go_enter Tryz.func241,Tryz.ntmps241;go_wp2_with (go_at_call 127;refine HD.out.mono ?_;rintro e w1 ⟨rr,rfl,hb⟩;have HB:=hid hb;clear hb)
     go_ret3
     refine ⟨?_,HB.out⟩;rw [HR.out,show OneR i (0,T,D)=.returned (.tuple #[.string (s.extract i (i+D)),.int .i64 ((i:Int)+(D:Int)),.int .i64 0]) from by rw [HM.out];rfl];rfl
set_option maxHeartbeats 8000000 in
set_option maxRecDepth 100000 in
theorem runq_any (s:ByteArray) (w:World) (hs:s.size<=1200000):Calls Tryz.prog 222 #[.string s] w fun e w'=>e=UqR (unqS s.data.toList)/\Below w.heap.size w w':=by
 have HB:=hid (Below.refl w.heap.size w)
 by_cases h0:s.size=0
 . have HR:=hid (show unqS s.data.toList=(40,[],0) by unfold unqS;rw [size_list,if_pos h0])
   have e0:((s.size:Int) == 0)=true:=by rw [beq_iff_eq];omega
   clear h0;go_enter Tryz.func222,Tryz.ntmps222;go_wp2
   go_ret3
   exact ⟨by rw [HR.out];rfl,HB.out⟩
 have e0:((s.size:Int) == 0)=false:=by rw [beq_eq_false_iff_ne];omega
 have hpos:0 < s.size:=by omega
 by_cases hq:s[0].toNat=34
 case neg =>
  have HR:=hid (show unqS s.data.toList=(2,[],0) by unfold unqS;rw [size_list,if_neg h0,getD_at s hpos,if_pos hq]);have e1:((s[0].toNat:Int) != 34)=true:=by simp;omega
  clear h0 hq;go_enter Tryz.func222,Tryz.ntmps222;go_wp2
  go_ret3
  exact ⟨by rw [HR.out];rfl,HB.out⟩
 have HU:=hid (unqS_in hpos hq);have e1:((s[0].toNat:Int) != 34)=false:=by simp;omega
 clear h0 hq;go_enter Tryz.func222,Tryz.ntmps222;go_wp2
 generalize hX:unqL (s.data.toList.drop 1) []=X at *;have HX:=hid hX;clear hX;go_loopg [5,6] s.size (fun gg s5 s6 wr=>∃ (k:Nat) (acc:List UInt8),1<=k/\k<=s.size/\s.size - k<=gg/\s6=.int .i64 k/\s5=.string ⟨acc.toArray⟩/\Hid (Below w.heap.size w wr)/\Hid (unqL (s.data.toList.drop k) acc=X)/\Hid (acc.length<=4 * k))
 case atStart=>exact ⟨1,[],by omega,by omega,by omega,rfl,rfl,HB,HX,hid (by simp)⟩
 case round =>
  clear HB HX;obtain ⟨k,acc,hk1,hk,hgk,rfl,rfl,HW,HQ,HA⟩:=hrel
  by_cases hlt:k < s.size
  case neg =>
   have hke:(s.data.toList.drop k)=[]:=List.drop_eq_nil_of_le (by rw [size_list];omega)
   have HR:=hid (show unqS s.data.toList=(40,[],0) by
    rw [HU.out];have h:=HQ.out;rw [hke,unqL_nil] at h;rw [<-h];rfl)
   clear hke HU HQ;go_wp2
   go_ret3
   exact ⟨by rw [HR.out];rfl,HW.out⟩
  have hltz:(k:Int) < (s.size:Int):=by omega
  have HDC:=hid (drop_cons s k hlt)
  by_cases h34:s[k].toNat=34
  . have e34:((s[k].toNat:Int) == 34)=true:=by simp;omega
    have HQ2:=hid (show X=if 4096 < acc.length then (3,[],[]) else (0,acc,s.data.toList.drop (k+1)) by rw [<-HQ.out,HDC.out,unqL_quote _ _ _ h34]);have hsa:=ba_size acc;clear h34
    by_cases hlong:4096 < acc.length
    . have HR:=hid (show unqS s.data.toList=(3,[],0) by
       rw [HU.out,HQ2.out,if_pos hlong];rfl)
      have hlz:(4096:Int) < (acc.length:Int):=by omega
      clear HU HQ HQ2 hlong hsa;go_wp2
      go_ret3
      exact ⟨by rw [HR.out];rfl,HW.out⟩
    . have HR:=hid (show unqS s.data.toList=(0,acc,k+1) by
       rw [HU.out,HQ2.out,if_neg hlong,if_neg (by simp)];show (0,acc,s.size - (s.data.toList.drop (k+1)).length)=_;rw [List.length_drop,size_list,show s.size - (s.size - (k+1))=k+1 by omega])
      have hlz:¬ (4096:Int) < (acc.length:Int):=by omega
      clear HU HQ HQ2 hlong hsa;go_wp2
      go_ret3
      exact ⟨by rw [HR.out];rfl,HW.out⟩
  . have e34:((s[k].toNat:Int) == 34)=false:=by simp;omega
    have HO:=hid (rone_any s k wr hlt hs)
    have HOK:=hid (fun (h:(oneS (s.data.toList.drop k)).1=0)=>show 1<=(oneS (s.data.toList.drop k)).2.2/\k+(oneS (s.data.toList.drop k)).2.2<=s.size/\(oneS (s.data.toList.drop k)).2.1.length<=4 from by
     rw [oneS_at s k hlt] at h ⊢
     by_cases h92:s[k].toNat=92
     . rw [if_pos h92] at h ⊢
       unfold escO at h ⊢
       by_cases hx:(escS (s.data.toList.drop (k+1))).1=0
       . rw [if_neg (by rw [hx];simp)]
         obtain ⟨o1,o2,o3⟩:=escS_ok hx;rw [List.length_drop,size_list] at o3;exact ⟨by show 1<=_+1;omega,by show k+(_+1)<=_;omega,(enc_len _).1⟩
       . rw [if_pos hx] at h;exact absurd h hx
     . rw [if_neg h92] at h ⊢
       by_cases hbad:decR (s.data.toList.drop k)=0 ∨ s[k].toNat < 32 ∨ s[k].toNat=127
       . rw [if_pos hbad] at h;cases h
       . rw [if_neg hbad]
         have hne:s.data.toList.drop k≠[]:=by rw [HDC.out];simp
         have hd:=dec_facts hne;rw [getD_drop0 s k hlt] at hd;obtain ⟨g1,g2,g3,g4⟩:=hd.2.2.2.2 hbad;rw [List.length_drop,size_list] at g4;refine ⟨g3,by show k+decR _<=_;omega,?_⟩;show (List.take _ _).length<=4;rw [<-g2];exact (enc_len _).1)
    have HBAD:=hid (fun (h:(oneS (s.data.toList.drop k)).1≠0)=>show X=((oneS (s.data.toList.drop k)).1,[],[]) by
     rw [<-HQ.out];rw [HDC.out] at h ⊢;exact unqL_bad _ _ _ h34 h)
    have HONE:=hid (fun (h:(oneS (s.data.toList.drop k)).1=0) (h1:1<=(oneS (s.data.toList.drop k)).2.2)=>show unqL (s.data.toList.drop (k+(oneS (s.data.toList.drop k)).2.2)) (acc ++ (oneS (s.data.toList.drop k)).2.1)=X by
     have:=unqL_one s[k] (s.data.toList.drop (k+1)) acc h34 (by rw [<-HDC.out];exact h) (by rw [<-HDC.out];exact h1);rw [<-HDC.out,HQ.out,List.drop_drop] at this;exact this.symm)
    clear h34 HQ HDC;generalize oneS (s.data.toList.drop k)=y at *;obtain ⟨y1,y2,y3⟩:=y;unfold OneR at HO;simp only at HO HOK HBAD HONE
    by_cases hy:y1=0
    . subst hy
      obtain ⟨p1,p2,p3⟩:=HOK.out rfl;have HX1:=hid (HONE.out rfl p1);simp only [if_true] at HO;have hcat:=fun W=>cat_run W acc y2 (by have:=HA.out;omega);have HP3:=hid p3;clear HONE HBAD HOK HU p3;go_wp2_with (go_at_call 241;refine HO.out.mono ?_;rintro e w2 ⟨rfl,hb⟩;have HW2:=hid (HW.out.trans (hb.mono HW.out.size));clear hb)
      go_roundg (s.size - (k+y3))
      case measure=>omega
      case rel=>exact ⟨k+y3,acc ++ y2,by omega,by omega,by omega,by go_num,rfl,HW2,HX1,hid (by have:=HP3.out;have:=HA.out;rw [List.length_append];omega)⟩
    . have e3:(y1 != 0)=true:=by simpa using hy
      have HX1:=hid (HBAD.out hy);have HR:=hid (show unqS s.data.toList=(y1,[],0) by rw [HU.out,HX1.out,if_pos hy]);rw [if_neg hy] at HO;clear HONE HBAD HOK HU hy HX1;go_wp2_with (go_at_call 241;refine HO.out.mono ?_;rintro e w2 ⟨rfl,hb⟩;have HW2:=hid (HW.out.trans (hb.mono HW.out.size));clear hb)
      go_ret3
      exact ⟨by rw [HR.out];rfl,HW2.out⟩
def digB (l:List UInt8):Bool:=(l.all fun c=>dig c.toNat) && (!decide (l.length=0) && (decide ((l.getD 0 0).toNat≠48) || decide (l.length=1)))
def canS (l:List UInt8):Bool:=if (l.getD 0 0).toNat=45 then digB l.tail && !(l.tail == [48]) else digB l
theorem digB_no {t:ByteArray} {k:Nat} (hk:k < t.size) (h:dig t[k].toNat=false):digB t.data.toList=false:=by
 unfold digB
 have:(t.data.toList.all fun c=>dig c.toNat)=false:=by
  rw [List.all_eq_false];refine ⟨t[k],?_,by rw [h];simp⟩;rw [<-get_list t k hk];exact List.getElem_mem _
 rw [this];rfl
theorem digB_all {t:ByteArray} (h:∀ j (hj:j < t.size),dig t[j].toNat=true):digB t.data.toList=(!decide (t.size=0) && (decide ((t.data.toList.getD 0 0).toNat≠48) || decide (t.size=1))):=by
 unfold digB
 have:(t.data.toList.all fun c=>dig c.toNat)=true:=by
  rw [List.all_eq_true];intro c hc;obtain ⟨j,hj,rfl⟩:=List.mem_iff_getElem.1 hc;rw [size_list] at hj;rw [get_list t j hj];exact h j hj
 rw [this,size_list];rfl
theorem dig_iff (c:Nat):dig c=true ↔ 48<=c/\c<=57:=by simp [dig]
theorem canS_neg {s:ByteArray} (h:0 < s.size) (h1:s[0].toNat=45):canS s.data.toList=(digB (s.extract 1 s.size).data.toList && !((s.extract 1 s.size).data.toList == [48])):=by
 unfold canS;rw [getD_at s h,if_pos h1,extract_list,List.drop_one]
theorem canS_pos {s:ByteArray} (h:¬ (∃ h:0 < s.size,s[0].toNat=45)):canS s.data.toList=digB s.data.toList:=by
 unfold canS
 by_cases h0:0 < s.size
 . rw [getD_at s h0,if_neg (fun e=>h ⟨h0,e⟩)]
 . have:s.data.toList=[]:=List.eq_nil_of_length_eq_zero (by rw [size_list];omega)
   rw [this];rfl
theorem one_str {t:ByteArray} (h:0 < t.size):(t.toList == [48])=decide (t.size=1/\t[0].toNat=48):=by
 rw [ByteArray.toList_eq,Bool.eq_iff_iff,beq_iff_eq,decide_eq_true_eq];have hl:=size_list t;constructor
 . intro e
   rw [e] at hl;refine ⟨by simpa using hl.symm,?_⟩;have:=getD_at t h;rw [e] at this;rw [<-this];rfl
 . rintro ⟨h1,h2⟩
   have:=getD_at t h;cases hs:t.data.toList with
   | nil=>rw [hs] at hl;simp at hl;omega
   | cons x l =>
     rw [hs] at hl this;have h3:l=[]:=List.eq_nil_of_length_eq_zero (by simp at hl;omega);subst h3;have h4:x=t[0]:=this;have h5:x=48:=UInt8.toNat_inj.1 (by rw [h4];exact h2);rw [h5]
set_option maxHeartbeats 8000000 in
theorem pcan_any (s:ByteArray) (w:World) (hs:s.size<=2000000):Calls Tryz.prog 161 #[.string s] w fun e w'=>e=.returned (.bool (canS s.data.toList))/\w=w':=by
 by_cases hn:∃ h:0 < s.size,s[0].toNat=45
 . obtain ⟨hp,h45⟩:=hn
   have HC:=hid (canS_neg hp h45);have e45:((s[0].toNat:Int) == 45)=true:=by simp;omega
   have hpz0:(0:Int) < (s.size:Int):=by omega
   have h1z:(1:Int)<=(s.size:Int):=by omega
   have hsz:=ext_size s 1 (by omega);cases h48:((s.extract 1 s.size).toList == [48])
   . have HD:=hid (show canS s.data.toList=digB (s.extract 1 s.size).data.toList by
      rw [HC.out,<-ByteArray.toList_eq,h48];simp)
     clear HC h45;go_enter Tryz.func161,Tryz.ntmps161;go_wp2
     generalize s.extract 1 s.size=t at *;rw [<-hsz];have hts:t.size<=2000000:=by omega
     have HRES:=hid (fun (h:digB t.data.toList=false ∨ False)=>show canS s.data.toList=false by rw [HD.out];rcases h with h | h;exact h;exact h.elim);have HALL:=hid (fun h=>HD.out.trans (digB_all (t:=t) h));clear HD h48 hsz;go_loop [18] (fun i=>∃ k:Nat,k<=t.size/\i=.int .i64 k/\Hid (∀ j (hj:j < t.size),j < k->dig t[j].toNat=true)) (fun i=>t.size - (RowKit.intOf i).toNat)
     case atStart=>exact ⟨0,by omega,rfl,hid (fun j hj h=>absurd h (by omega))⟩
     case round =>
      obtain ⟨k,hk,rfl,HA⟩:=hrel
      by_cases hlt:k < t.size
      . have HNk:=hid (fun h=>digB_no (t:=t) hlt h)
        have hc:=lt256 t[k]
        by_cases h1:(t[k].toNat:Int) < 48
        . have HR:=hid (HRES.out (Or.inl (HNk.out (by unfold dig;exact decide_eq_false (by omega)))))
          clear HA HNk HRES HALL;go_wp2
          go_ret
          exact ⟨ret_bool HR.out,rfl⟩
        by_cases h2:(57:Int) < (t[k].toNat:Int)
        . have HR:=hid (HRES.out (Or.inl (HNk.out (by unfold dig;exact decide_eq_false (by omega)))))
          clear HA HNk HRES HALL;go_wp2
          go_ret
          exact ⟨ret_bool HR.out,rfl⟩
        have HX:=hid (show ∀ j (hj:j < t.size),j < k+1->dig t[j].toNat=true from fun j hj hjk=>by
           by_cases e:j < k
           . exact HA.out j hj e
           . obtain rfl:j=k:=by omega
             unfold dig;exact decide_eq_true (by omega))
        clear HA HNk HRES HALL;go_wp2
        go_round
        case rel=>exact ⟨k+1,by omega,by go_num,HX⟩
        case measure=>(simp [RowKit.intOf] <;> omega)
      . have hfin:=HALL.out (fun j hj=>HA.out j hj (by omega))
        clear HA HALL HRES
        by_cases z0:t.size=0
        . have e0:=str_nil z0
          have HR:=hid (hfin.trans (show _=false by rw [decide_eq_true z0];rfl));clear hfin z0;go_wp2
          go_ret
          exact ⟨ret_bool HR.out,rfl⟩
        have e0:=str_cons z0;have hpz:0 < t.size:=by omega
        rw [getD_at t hpz,decide_eq_false z0] at hfin
        by_cases z1:t[0].toNat=48
        . have e1:((t[0].toNat:Int) != 48)=false:=by simp;omega
          by_cases z2:t.size=1
          . have HR:=hid (hfin.trans (show _=true by rw [decide_eq_true z2];simp))
            have e2:((t.size:Int) == 1)=true:=by simp;omega
            clear hfin z1 z2 z0;go_wp2
            go_ret
            exact ⟨ret_bool HR.out,rfl⟩
          . have HR:=hid (hfin.trans (show _=false by rw [decide_eq_false z2,decide_eq_false (by simpa using z1)];rfl))
            have e2:((t.size:Int) == 1)=false:=by simp;omega
            clear hfin z1 z2 z0;go_wp2
            go_ret
            exact ⟨ret_bool HR.out,rfl⟩
        . have e1:((t[0].toNat:Int) != 48)=true:=by simp;omega
          have HR:=hid (hfin.trans (show _=true by rw [decide_eq_true (by simpa using z1)];simp));clear hfin z1 z0;go_wp2
          go_ret
          exact ⟨ret_bool HR.out,rfl⟩
   . have HD:=hid (show canS s.data.toList=false by rw [HC.out,<-ByteArray.toList_eq,h48];simp)
     clear HC h45;go_enter Tryz.func161,Tryz.ntmps161;go_wp2
     go_ret
     exact ⟨ret_bool HD.out,rfl⟩
 . have HC:=hid (canS_pos hn)
   have HRES:=hid (fun (h:digB s.data.toList=false ∨ False)=>show canS s.data.toList=false by rw [HC.out];rcases h with h | h;exact h;exact h.elim);have HALL:=hid (fun h=>HC.out.trans (digB_all (t:=s) h))
   by_cases h0:0 < s.size
   . have e45:((s[0].toNat:Int) == 45)=false:=by
      have:s[0].toNat≠45:=fun e=>hn ⟨h0,e⟩;simp;omega
     have hpz0:(0:Int) < (s.size:Int):=by omega
     clear HC hn;go_enter Tryz.func161,Tryz.ntmps161;go_wp2
     go_loop [18] (fun i=>∃ k:Nat,k<=s.size/\i=.int .i64 k/\Hid (∀ j (hj:j < s.size),j < k->dig s[j].toNat=true)) (fun i=>s.size - (RowKit.intOf i).toNat)
     case atStart=>exact ⟨0,by omega,rfl,hid (fun j hj h=>absurd h (by omega))⟩
     case round =>
      obtain ⟨k,hk,rfl,HA⟩:=hrel
      by_cases hlt:k < s.size
      . have HNk:=hid (fun h=>digB_no (t:=s) hlt h)
        have hc:=lt256 s[k]
        by_cases h1:(s[k].toNat:Int) < 48
        . have HR:=hid (HRES.out (Or.inl (HNk.out (by unfold dig;exact decide_eq_false (by omega)))))
          clear HA HNk HRES HALL;go_wp2
          go_ret
          exact ⟨ret_bool HR.out,rfl⟩
        by_cases h2:(57:Int) < (s[k].toNat:Int)
        . have HR:=hid (HRES.out (Or.inl (HNk.out (by unfold dig;exact decide_eq_false (by omega)))))
          clear HA HNk HRES HALL;go_wp2
          go_ret
          exact ⟨ret_bool HR.out,rfl⟩
        have HX:=hid (show ∀ j (hj:j < s.size),j < k+1->dig s[j].toNat=true from fun j hj hjk=>by
         by_cases e:j < k
         . exact HA.out j hj e
         . obtain rfl:j=k:=by omega
           unfold dig;exact decide_eq_true (by omega))
        clear HA HNk HRES HALL;go_wp2
        go_round
        case rel=>exact ⟨k+1,by omega,by go_num,HX⟩
        case measure=>(simp [RowKit.intOf] <;> omega)
      . have hfin:=HALL.out (fun j hj=>HA.out j hj (by omega))
        clear HA HALL HRES
        by_cases z0:s.size=0
        . have e0:=str_nil z0
          have HR:=hid (hfin.trans (show _=false by rw [decide_eq_true z0];rfl));clear hfin z0;go_wp2
          go_ret
          exact ⟨ret_bool HR.out,rfl⟩
        have e0:=str_cons z0;have hpz:0 < s.size:=by omega
        rw [getD_at s hpz,decide_eq_false z0] at hfin
        by_cases z1:s[0].toNat=48
        . have e1:((s[0].toNat:Int) != 48)=false:=by simp;omega
          by_cases z2:s.size=1
          . have HR:=hid (hfin.trans (show _=true by rw [decide_eq_true z2];simp))
            have e2:((s.size:Int) == 1)=true:=by simp;omega
            clear hfin z1 z2 z0;go_wp2
            go_ret
            exact ⟨ret_bool HR.out,rfl⟩
          . have HR:=hid (hfin.trans (show _=false by rw [decide_eq_false z2,decide_eq_false (by simpa using z1)];rfl))
            have e2:((s.size:Int) == 1)=false:=by simp;omega
            clear hfin z1 z2 z0;go_wp2
            go_ret
            exact ⟨ret_bool HR.out,rfl⟩
        . have e1:((s[0].toNat:Int) != 48)=true:=by simp;omega
          have HR:=hid (hfin.trans (show _=true by rw [decide_eq_true (by simpa using z1)];simp));clear hfin z1 z0;go_wp2
          go_ret
          exact ⟨ret_bool HR.out,rfl⟩
   . have hpz0:¬ (0:Int) < (s.size:Int):=by omega
     clear HC hn;go_enter Tryz.func161,Tryz.ntmps161;go_wp2
     go_loop [18] (fun i=>∃ k:Nat,k<=s.size/\i=.int .i64 k/\Hid (∀ j (hj:j < s.size),j < k->dig s[j].toNat=true)) (fun i=>s.size - (RowKit.intOf i).toNat)
     case atStart=>exact ⟨0,by omega,rfl,hid (fun j hj h=>absurd h (by omega))⟩
     case round =>
      obtain ⟨k,hk,rfl,HA⟩:=hrel
      by_cases hlt:k < s.size
      . have HNk:=hid (fun h=>digB_no (t:=s) hlt h)
        have hc:=lt256 s[k]
        by_cases h1:(s[k].toNat:Int) < 48
        . have HR:=hid (HRES.out (Or.inl (HNk.out (by unfold dig;exact decide_eq_false (by omega)))))
          clear HA HNk HRES HALL;go_wp2
          go_ret
          exact ⟨ret_bool HR.out,rfl⟩
        by_cases h2:(57:Int) < (s[k].toNat:Int)
        . have HR:=hid (HRES.out (Or.inl (HNk.out (by unfold dig;exact decide_eq_false (by omega)))))
          clear HA HNk HRES HALL;go_wp2
          go_ret
          exact ⟨ret_bool HR.out,rfl⟩
        have HX:=hid (show ∀ j (hj:j < s.size),j < k+1->dig s[j].toNat=true from fun j hj hjk=>by
         by_cases e:j < k
         . exact HA.out j hj e
         . obtain rfl:j=k:=by omega
           unfold dig;exact decide_eq_true (by omega))
        clear HA HNk HRES HALL;go_wp2
        go_round
        case rel=>exact ⟨k+1,by omega,by go_num,HX⟩
        case measure=>(simp [RowKit.intOf] <;> omega)
      . have hfin:=HALL.out (fun j hj=>HA.out j hj (by omega))
        clear HA HALL HRES;have z0:s.size=0:=by omega
        have e0:=str_nil z0;have HR:=hid (hfin.trans (show _=false by rw [decide_eq_true z0];rfl));clear hfin z0;go_wp2
        go_ret
        exact ⟨ret_bool HR.out,rfl⟩
set_option maxHeartbeats 8000000 in
theorem rdigs_any (s:ByteArray) (w:World) (hs:s.size<=2000000):Calls Tryz.prog 151 #[.string s] w fun e w'=>e=.returned (.bool (digB s.data.toList))/\w=w':=by
 have HRES:=hid (fun (h:digB s.data.toList=false ∨ False)=>show digB s.data.toList=false by rcases h with h | h;exact h;exact h.elim);have HALL:=hid (fun h=>digB_all (t:=s) h);go_enter Tryz.func151,Tryz.ntmps151;go_wp2
 go_loop [3] (fun i=>∃ k:Nat,k<=s.size/\i=.int .i64 k/\Hid (∀ j (hj:j < s.size),j < k->dig s[j].toNat=true)) (fun i=>s.size - (RowKit.intOf i).toNat)
 case atStart=>exact ⟨0,by omega,rfl,hid (fun j hj h=>absurd h (by omega))⟩
 case round =>
  obtain ⟨k,hk,rfl,HA⟩:=hrel
  by_cases hlt:k < s.size
  . have HNk:=hid (fun h=>digB_no (t:=s) hlt h)
    have hc:=lt256 s[k]
    by_cases h1:(s[k].toNat:Int) < 48
    . have HR:=hid (HRES.out (Or.inl (HNk.out (by unfold dig;exact decide_eq_false (by omega)))))
      clear HA HNk HRES HALL;go_wp2
      go_ret
      exact ⟨ret_bool HR.out,rfl⟩
    by_cases h2:(57:Int) < (s[k].toNat:Int)
    . have HR:=hid (HRES.out (Or.inl (HNk.out (by unfold dig;exact decide_eq_false (by omega)))))
      clear HA HNk HRES HALL;go_wp2
      go_ret
      exact ⟨ret_bool HR.out,rfl⟩
    have HX:=hid (show ∀ j (hj:j < s.size),j < k+1->dig s[j].toNat=true from fun j hj hjk=>by
     by_cases e:j < k
     . exact HA.out j hj e
     . obtain rfl:j=k:=by omega
       unfold dig;exact decide_eq_true (by omega))
    clear HA HNk HRES HALL;go_wp2
    go_round
    case rel=>exact ⟨k+1,by omega,by go_num,HX⟩
    case measure=>(simp [RowKit.intOf] <;> omega)
  . have hfin:=HALL.out (fun j hj=>HA.out j hj (by omega))
    clear HA HALL HRES
    by_cases z0:s.size=0
    . have e0:=str_nil z0
      have e48:(s.toList == [48])=false:=by rw [ByteArray.toList_eq,show s.data.toList=[] from List.eq_nil_of_length_eq_zero (by rw [size_list];exact z0)];rfl
      have HR:=hid (hfin.trans (show _=false by rw [decide_eq_true z0];rfl));clear hfin z0;go_wp2
      go_ret
      exact ⟨ret_bool HR.out,rfl⟩
    have e0:=str_cons z0;have hpz:0 < s.size:=by omega
    rw [getD_at s hpz,decide_eq_false z0] at hfin;have h48:=one_str hpz
    by_cases z1:s[0].toNat=48
    . have e1:((s[0].toNat:Int) != 48)=false:=by simp;omega
      by_cases z2:s.size=1
      . have HR:=hid (hfin.trans (show _=true by rw [decide_eq_true z2];simp))
        have e48:(s.toList == [48])=true:=h48.trans (by rw [decide_eq_true (show _/\_ from ⟨z2,z1⟩)]);clear hfin z1 z2 z0 h48;go_wp2
        go_ret
        exact ⟨ret_bool HR.out,rfl⟩
      . have HR:=hid (hfin.trans (show _=false by rw [decide_eq_false z2,decide_eq_false (by simpa using z1)];rfl))
        have e48:(s.toList == [48])=false:=h48.trans (by rw [decide_eq_false (fun h=>z2 h.1)]);clear hfin z1 z2 z0 h48;go_wp2
        go_ret
        exact ⟨ret_bool HR.out,rfl⟩
    . have e1:((s[0].toNat:Int) != 48)=true:=by simp;omega
      have e48:(s.toList == [48])=false:=h48.trans (by rw [decide_eq_false (fun h=>z1 h.2)]);have HR:=hid (hfin.trans (show _=true by rw [decide_eq_true (by simpa using z1)];simp));clear hfin z1 z0 h48;go_wp2
      go_ret
      exact ⟨ret_bool HR.out,rfl⟩
def valL (l:List UInt8):Nat:=l.foldl (fun n c=>10 * n+(c.toNat - 48)) 0
theorem fold_cons (acc:Nat) (c:UInt8) (l:List UInt8):(c :: l).foldl (fun n c=>10 * n+(c.toNat - 48)) acc=l.foldl (fun n c=>10 * n+(c.toNat - 48)) (10 * acc+(c.toNat - 48)):=List.foldl_cons ..
theorem fold_ge:∀ (l:List UInt8) (acc:Nat),acc<=l.foldl (fun n c=>10 * n+(c.toNat - 48)) acc
 | [],acc=>Nat.le_refl _
 | c :: l,acc=>by rw [fold_cons];exact Nat.le_trans (by omega) (fold_ge l _)
theorem fold_pow:∀ (l:List UInt8) (acc:Nat),acc * 10 ^ l.length<=l.foldl (fun n c=>10 * n+(c.toNat - 48)) acc
 | [],acc=>by simp
 | c :: l,acc=>by
   rw [fold_cons];refine Nat.le_trans ?_ (fold_pow l _);rw [List.length_cons,Nat.pow_succ];have:acc * (10 ^ l.length * 10)=(10 * acc) * 10 ^ l.length:=by rw [Nat.mul_comm (10 ^ l.length) 10,<-Nat.mul_assoc,Nat.mul_comm acc 10]
   rw [this];exact Nat.mul_le_mul_right _ (by omega)
theorem fold_lt:∀ (l:List UInt8) (acc:Nat),(l.all fun c=>dig c.toNat)=true->l.foldl (fun n c=>10 * n+(c.toNat - 48)) acc < (acc+1) * 10 ^ l.length
 | [],acc,_=>by simp
 | c :: l,acc,h=>by
   rw [List.all_cons,Bool.and_eq_true] at h;have hc:=(dig_iff c.toNat).1 h.1;rw [fold_cons];refine Nat.lt_of_lt_of_le (fold_lt l _ h.2) ?_;rw [List.length_cons,Nat.pow_succ];have:(acc+1) * (10 ^ l.length * 10)=(10 * (acc+1)) * 10 ^ l.length:=by rw [Nat.mul_comm (10 ^ l.length) 10,<-Nat.mul_assoc,Nat.mul_comm (acc+1) 10]
   rw [this];exact Nat.mul_le_mul_right _ (by omega)
theorem uint_fold:∀ (l:List UInt8) (acc:Nat),(l.all fun c=>dig c.toNat)=true->acc<=18446744073709551615 ->
  Lib.parseUintM 18446744073709551615 acc l=if l.foldl (fun n c=>10 * n+(c.toNat - 48)) acc<=18446744073709551615 then .ok (l.foldl (fun n c=>10 * n+(c.toNat - 48)) acc) else .range
 | [],acc,_,h=>by rw [Lib.parseUintM];show _=if acc<=_ then _ else _;rw [if_pos h];rfl
 | c :: l,acc,hd,h=>by
   rw [List.all_cons,Bool.and_eq_true] at hd;have hc:=(dig_iff c.toNat).1 hd.1;rw [Lib.parseUintM,if_pos hc,fold_cons];have hg:=fold_ge l (10 * acc+(c.toNat - 48))
   by_cases h1:1844674407370955162<=acc
   . rw [if_pos h1,if_neg (by omega)]
   . rw [if_neg h1]
     by_cases h2:18446744073709551615 < acc * 10+(c.toNat - 48)
     . rw [if_pos h2,if_neg (by omega)]
     . rw [if_neg h2,uint_fold l _ hd.2 (by omega),Nat.mul_comm acc 10]
theorem digB_parts {l:List UInt8} (h:digB l=true):(l.all fun c=>dig c.toNat)=true/\l≠[]/\((l.getD 0 0).toNat≠48 ∨ l.length=1):=by
 unfold digB at h;rw [Bool.and_eq_true,Bool.and_eq_true,Bool.or_eq_true] at h;refine ⟨h.1,fun e=>?_,h.2.2.imp of_decide_eq_true of_decide_eq_true⟩;rw [e] at h;simp at h
theorem digB_big {l:List UInt8} (h:digB l=true) (h17:16 < l.length):10000000000000000<=valL l:=by
 obtain ⟨h1,h2,h3⟩:=digB_parts h;cases l with
 | nil=>exact absurd rfl h2
 | cons c l =>
   have hc:c.toNat≠48:=by
    rcases h3 with h3 | h3
    . exact h3
    . simp at h3;subst h3;simp at h17
   rw [List.all_cons,Bool.and_eq_true] at h1;have hd:=(dig_iff c.toNat).1 h1.1;unfold valL;rw [fold_cons];refine Nat.le_trans ?_ (fold_pow l _);rw [List.length_cons] at h17;have:10 ^ 16<=10 ^ l.length:=Nat.pow_le_pow_right (by decide) (by omega);have h4:1 * 10 ^ 16<=(10 * 0+(c.toNat - 48)) * 10 ^ l.length:=Nat.mul_le_mul (by omega) this;simpa using h4
def tlS (l:List UInt8):List UInt8:=if (l.getD 0 0).toNat=45 then l.tail else l
def svS (l:List UInt8):Int:=if (l.getD 0 0).toNat=45 then -(valL (tlS l):Int) else valL (tlS l)
def numS (l:List UInt8):Int × Int:=
 if canS l=false then (0,2) else if 16 < (tlS l).length then (0,5) else if -9007199254740992<=svS l/\svS l<=9007199254740992 then (svS l,0) else (0,5)
theorem canS_dig {l:List UInt8} (h:canS l=true):digB (tlS l)=true:=by
 unfold canS at h;unfold tlS
 by_cases h1:(l.getD 0 0).toNat=45
 . rw [if_pos h1] at h ⊢;rw [Bool.and_eq_true] at h;exact h.1
 . rw [if_neg h1] at h ⊢;exact h
theorem num_parse {l:List UInt8} (h:canS l=true):(∃ v:Int,Lib.parseIntB 64 l=.ok v/\numS l=if -9007199254740992<=v/\v<=9007199254740992 then (v,0) else (0,5)) ∨ (Lib.parseIntB 64 l=.range/\numS l=(0,5)):=by
 have hd:=canS_dig h;obtain ⟨h1,h2,h3⟩:=digB_parts hd;have hbig:=fun h17=>digB_big hd h17
 have hU:Lib.parseUintB 64 (tlS l)=if valL (tlS l)<=18446744073709551615 then .ok (valL (tlS l)) else .range:=by
  unfold Lib.parseUintB;rw [if_neg h2];exact uint_fold (tlS l) 0 h1 (by decide)
 have hP:Lib.parseIntB 64 l=if valL (tlS l)<=18446744073709551615 then (if ¬ (l.getD 0 0).toNat=45/\2 ^ (64 - 1)<=valL (tlS l) then .range else if (l.getD 0 0).toNat=45/\2 ^ (64 - 1) < valL (tlS l) then .range else .ok (if (l.getD 0 0).toNat=45 then -(valL (tlS l):Int) else valL (tlS l))) else .range:=by
  cases l with
  | nil=>unfold tlS at h2;simp at h2
  | cons c r =>
    have hc:((c :: r).getD 0 0).toNat=c.toNat:=rfl;rw [hc]
    by_cases h45:c.toNat=45
    . have ht:tlS (c :: r)=r:=by unfold tlS;rw [hc,if_pos h45];rfl
      rw [ht] at hU ⊢;unfold Lib.parseIntB;simp only [h45,or_true,if_true,hU]
      by_cases hV:valL r<=18446744073709551615
      . simp only [if_pos hV]
      . simp only [if_neg hV]
    . have ht:tlS (c :: r)=c :: r:=by unfold tlS;rw [hc,if_neg h45]
      have h43:c.toNat≠43:=by
       intro e;have hd2:digB (c :: r)=true:=by rwa [ht] at hd
       have:=(digB_parts hd2).1;rw [List.all_cons,Bool.and_eq_true] at this;have:=(dig_iff c.toNat).1 this.1;omega
      rw [ht] at hU ⊢;unfold Lib.parseIntB;simp only [h45,h43,or_self,if_false,hU]
      by_cases hV:valL (c :: r)<=18446744073709551615
      . simp only [if_pos hV]
      . simp only [if_neg hV]
 have hN:numS l=if 16 < (tlS l).length then (0,5) else if -9007199254740992<=svS l/\svS l<=9007199254740992 then (svS l,0) else (0,5):=by
  unfold numS;rw [h,if_neg (by simp)]
 have hS:svS l=if (l.getD 0 0).toNat=45 then -(valL (tlS l):Int) else valL (tlS l):=rfl
 clear hU;generalize valL (tlS l)=V at *;generalize (tlS l).length=K at *;generalize svS l=S at *;generalize numS l=N at *;generalize (l.getD 0 0).toNat=b at *;clear h h1 h2 h3 hd
 by_cases hV:V<=18446744073709551615
 . rw [if_pos hV] at hP
   by_cases hb:b=45
   . simp only [hb,not_true,false_and,if_false,true_and,if_true] at hP hS
     by_cases h9:2 ^ (64 - 1) < V
     . rw [if_pos h9] at hP
       right;refine ⟨hP,?_⟩;rw [hN];have:¬ (-9007199254740992<=S/\S<=9007199254740992):=by rw [hS];omega
       rw [if_neg this];split <;> rfl
     . rw [if_neg h9] at hP
       left;refine ⟨_,hP,?_⟩;rw [hN,<-hS]
       by_cases h17:16 < K
       . have:=hbig h17
         rw [if_pos h17,if_neg (by omega)]
       . rw [if_neg h17]
   . simp only [hb,not_false_eq_true,true_and,false_and,if_false] at hP hS
     by_cases h9:2 ^ (64 - 1)<=V
     . rw [if_pos h9] at hP
       right;refine ⟨hP,?_⟩;rw [hN];have:¬ (-9007199254740992<=S/\S<=9007199254740992):=by rw [hS];omega
       rw [if_neg this];split <;> rfl
     . rw [if_neg h9] at hP
       left;refine ⟨_,hP,?_⟩;rw [hN,<-hS]
       by_cases h17:16 < K
       . have:=hbig h17
         rw [if_pos h17,if_neg (by omega)]
       . rw [if_neg h17]
 . rw [if_neg hV] at hP
   right;refine ⟨hP,?_⟩;rw [hN];have:¬ (-9007199254740992<=S/\S<=9007199254740992):=by rw [hS];split <;> omega
   rw [if_neg this];split <;> rfl
def vldN (n:Int):Bool:=decide (-9007199254740992<=n) && decide (n<=9007199254740992)
theorem pvldn_any (n:Int) (w:World):Calls Tryz.prog 163 #[.int .i64 n] w fun e w'=>e=.returned (.bool (vldN n))/\w=w':=by
 by_cases h1:-9007199254740992<=n
 . have HN:=hid (show vldN n=decide (n<=9007199254740992) by unfold vldN;rw [decide_eq_true h1];rfl)
   go_enter Tryz.func163,Tryz.ntmps163;go_wp2
   go_ret
   exact ⟨ret_bool HN.out,rfl⟩
 . have HN:=hid (show vldN n=false by unfold vldN;rw [decide_eq_false h1];rfl)
   go_enter Tryz.func163,Tryz.ntmps163;go_wp2
   go_ret
   exact ⟨ret_bool HN.out,rfl⟩
theorem rvldn_any (n:Int) (w:World):Calls Tryz.prog 152 #[.int .i64 n] w fun e w'=>e=.returned (.bool (vldN n))/\w=w':=by
 by_cases h1:-9007199254740992<=n
 . have HN:=hid (show vldN n=decide (n<=9007199254740992) by unfold vldN;rw [decide_eq_true h1];rfl)
   go_enter Tryz.func152,Tryz.ntmps152;go_wp2
   go_ret
   exact ⟨ret_bool HN.out,rfl⟩
 . have HN:=hid (show vldN n=false by unfold vldN;rw [decide_eq_false h1];rfl)
   go_enter Tryz.func152,Tryz.ntmps152;go_wp2
   go_ret
   exact ⟨ret_bool HN.out,rfl⟩
def NmR (x:Int × Int):Ending:=.returned (.tuple #[.int .i64 x.1,.int .i64 x.2])
set_option maxHeartbeats 4000000 in
theorem pnum_any (s:ByteArray) (w:World) (hT:WT w) (hs:s.size<=2000000):Calls Tryz.prog 120 #[.string s] w fun e w'=>e=NmR (numS s.data.toList)/\Below w.heap.size w w':=by
 have HC:=hid (pcan_any s w hs);have HB:=hid (Below.refl w.heap.size w);cases hc:canS s.data.toList
 . have HR:=hid (show numS s.data.toList=(0,2) by unfold numS;rw [if_pos hc])
   rw [hc] at HC;clear hc hT;go_enter Tryz.func120,Tryz.ntmps120;go_wp2_with (go_at_call 161;refine HC.out.mono ?_;rintro e w1 ⟨rfl,rfl⟩)
   go_ret2
   exact ⟨by rw [HR.out];rfl,HB.out⟩
 have hp:=num_parse hc;rw [hc] at HC;clear hc;rcases hp with ⟨v,hv,hn⟩ | ⟨hv,hn⟩
 . have HP:=hid (Tryz.strconv_ParseInt_10_at64_ok s (by omega) v hv w)
   have HV:=hid (fun W=>pvldn_any v W);have hvl:vldN v=decide (-9007199254740992<=v/\v<=9007199254740992):=by unfold vldN;rw [Bool.eq_iff_iff];simp
   have HBW:=hid (fun t=>Joins.below_bytesWorld w.heap.size w 5 t (Nat.le_refl _));clear hT hv
   by_cases hr:-9007199254740992<=v/\v<=9007199254740992
   . have HR:=hid (hn.trans (if_pos hr))
     rw [hvl,decide_eq_true hr] at HV;clear hn hvl hr;go_enter Tryz.func120,Tryz.ntmps120
     go_wp2_with (first
      | (go_at_call 161;refine HC.out.mono ?_;rintro e w1 ⟨rfl,rfl⟩)
      | (go_at_call 162;refine HP.out.mono ?_;rintro e w2 ⟨rfl,hw⟩;have HW:=hid (show Below w.heap.size w w2 from by rcases hw with rfl | ⟨t,rfl⟩;exact HB.out;exact HBW.out t);clear hw)
      | (go_at_call 163;refine (HV.out _).mono ?_;rintro e w3 ⟨rfl,rfl⟩))
     go_ret2
     exact ⟨by rw [HR.out];rfl,HW.out⟩
   . have HR:=hid (hn.trans (if_neg hr))
     rw [hvl,decide_eq_false hr] at HV;clear hn hvl hr;go_enter Tryz.func120,Tryz.ntmps120
     go_wp2_with (first
      | (go_at_call 161;refine HC.out.mono ?_;rintro e w1 ⟨rfl,rfl⟩)
      | (go_at_call 162;refine HP.out.mono ?_;rintro e w2 ⟨rfl,hw⟩;have HW:=hid (show Below w.heap.size w w2 from by rcases hw with rfl | ⟨t,rfl⟩;exact HB.out;exact HBW.out t);clear hw)
      | (go_at_call 163;refine (HV.out _).mono ?_;rintro e w3 ⟨rfl,rfl⟩))
     go_ret2
     exact ⟨by rw [HR.out];rfl,HW.out⟩
 . obtain ⟨ev,h1,h2⟩:=hT.r
   have HP:=hid (Tryz.strconv_ParseInt_10_at64_range s (by omega) hv ev w h1 h2);have HR:=hid hn;clear hT hv hn h1 h2;go_enter Tryz.func120,Tryz.ntmps120
   go_wp2_with (first
    | (go_at_call 161;refine HC.out.mono ?_;rintro e w1 ⟨rfl,rfl⟩)
    | (go_at_call 162;refine HP.out.mono ?_;rintro e w2 ⟨N,rfl,_,_,hw⟩;have HW:=hid hw;clear hw))
   go_ret2
   exact ⟨by rw [HR.out];rfl,HW.out⟩
theorem valL_snoc (l:List UInt8) (c:UInt8):valL (l ++ [c])=10 * valL l+(c.toNat - 48):=by unfold valL;rw [List.foldl_append];rfl
theorem valL_take (t:ByteArray) (k:Nat) (h:k < t.size):valL (t.data.toList.take (k+1))=10 * valL (t.data.toList.take k)+(t[k].toNat - 48):=by
 rw [List.take_succ_eq_append_getElem (by rw [size_list];exact h),valL_snoc];rfl
theorem numS_neg {s:ByteArray} (h:0 < s.size) (h1:s[0].toNat=45):(digB (s.extract 1 s.size).data.toList=false ∨ ((s.extract 1 s.size).toList == [48])=true->numS s.data.toList=(0,2)) /\
  (digB (s.extract 1 s.size).data.toList=true->((s.extract 1 s.size).toList == [48])=false->numS s.data.toList=if 16 < (s.extract 1 s.size).size then (0,5) else if -9007199254740992<= -(valL (s.extract 1 s.size).data.toList:Int)/\ -(valL (s.extract 1 s.size).data.toList:Int)<=9007199254740992 then (-(valL (s.extract 1 s.size).data.toList:Int),0) else (0,5)):=by
 have hc:=canS_neg h h1;have ht:tlS s.data.toList=(s.extract 1 s.size).data.toList:=by unfold tlS;rw [getD_at s h,if_pos h1,extract_list,List.drop_one]
 have hv:svS s.data.toList = -(valL (s.extract 1 s.size).data.toList:Int):=by unfold svS;rw [getD_at s h,if_pos h1,ht]
 rw [ByteArray.toList_eq];constructor
 . intro h2
   have:canS s.data.toList=false:=by rw [hc];rcases h2 with h2 | h2 <;> rw [h2] <;> simp
   unfold numS;rw [if_pos this]
 . intro h2 h3
   have:canS s.data.toList=true:=by rw [hc,h2,h3];rfl
   unfold numS;rw [this,if_neg (by simp),ht,hv,size_list]
theorem numS_pos {s:ByteArray} (h:¬ (∃ h:0 < s.size,s[0].toNat=45)):(digB s.data.toList=false ∨ False->numS s.data.toList=(0,2)) /\
  (digB s.data.toList=true->numS s.data.toList=if 16 < s.size then (0,5) else if -9007199254740992<=(valL s.data.toList:Int)/\(valL s.data.toList:Int)<=9007199254740992 then ((valL s.data.toList:Int),0) else (0,5)):=by
 have hc:=canS_pos h
 have hg:¬ (s.data.toList.getD 0 0).toNat=45:=by
  by_cases h0:0 < s.size
  . rw [getD_at s h0];exact fun e=>h ⟨h0,e⟩
  . rw [show s.data.toList=[] from List.eq_nil_of_length_eq_zero (by rw [size_list];omega)];decide
 have ht:tlS s.data.toList=s.data.toList:=by unfold tlS;rw [if_neg hg]
 have hv:svS s.data.toList=(valL s.data.toList:Int):=by unfold svS;rw [if_neg hg,ht]
 constructor
 . intro h2
   have:canS s.data.toList=false:=by rw [hc];rcases h2 with h2 | h2;exact h2;exact h2.elim
   unfold numS;rw [if_pos this]
 . intro h2
   have:canS s.data.toList=true:=by rw [hc,h2]
   unfold numS;rw [this,if_neg (by simp),ht,hv,size_list]
set_option maxHeartbeats 8000000 in
set_option maxRecDepth 100000 in
theorem rnum_any (s:ByteArray) (w:World) (hs:s.size<=2000000):Calls Tryz.prog 109 #[.string s] w fun e w'=>e=NmR (numS s.data.toList)/\w=w':=by
 by_cases hn:∃ h:0 < s.size,s[0].toNat=45
 . obtain ⟨hp,h45⟩:=hn
   have HBAD:=hid (numS_neg hp h45).1;have HGOOD:=hid (numS_neg hp h45).2;have e45:((s[0].toNat:Int) == 45)=true:=by simp;omega
   have hpz0:(0:Int) < (s.size:Int):=by omega
   have h1z:(1:Int)<=(s.size:Int):=by omega
   have hsz:=ext_size s 1 (by omega);have HC:=hid (rdigs_any (s.extract 1 s.size) w (by omega));clear h45;generalize ht:s.extract 1 s.size=t at *;have hts:t.size<=2000000:=by omega
   have hsz':s.size - 1=t.size:=hsz.symm;clear hsz;cases hd:digB t.data.toList
   . have HR:=hid (HBAD.out (Or.inl hd))
     rw [hd] at HC;clear hd HBAD HGOOD;go_enter Tryz.func109,Tryz.ntmps109;go_wp2_with (go_at_call 151;refine HC.out.mono ?_;rintro e w1 ⟨rfl,rfl⟩)
     go_ret2
     exact ⟨by rw [HR.out];rfl,rfl⟩
   rw [hd] at HC;cases h48:(t.toList == [48])
   case true =>
    have HR:=hid (HBAD.out (Or.inr h48));clear hd HBAD HGOOD;go_enter Tryz.func109,Tryz.ntmps109;go_wp2_with (go_at_call 151;refine HC.out.mono ?_;rintro e w1 ⟨rfl,rfl⟩)
    go_ret2
    exact ⟨by rw [HR.out];rfl,rfl⟩
   have hX:=HGOOD.out hd h48;have hall:=(digB_parts hd).1
   have HAL:=hid (show ∀ j (hj:j < t.size),48<=t[j].toNat/\t[j].toNat<=57 from fun j hj=>by
    have:=List.all_eq_true.1 hall t[j] (by rw [<-get_list t j hj];exact List.getElem_mem _);exact (dig_iff _).1 this)
   have HLT:=hid (fun k=>fold_lt (t.data.toList.take k) 0 (by
    rw [List.all_eq_true];intro c hc;exact List.all_eq_true.1 hall c (List.mem_of_mem_take hc)))
   clear hd hall HBAD HGOOD
   by_cases h17:16 < t.size
   . have HR:=hid (hX.trans (if_pos h17))
     have h17z:(16:Int) < (t.size:Int):=by omega
     clear hX h17 HAL HLT;go_enter Tryz.func109,Tryz.ntmps109;go_wp2_with (go_at_call 151;refine HC.out.mono ?_;rintro e w1 ⟨rfl,rfl⟩)
     go_ret2
     exact ⟨by rw [HR.out];rfl,rfl⟩
   have HX:=hid (hX.trans (if_neg h17));have h17z:¬ (16:Int) < (t.size:Int):=by omega
   clear hX;go_enter Tryz.func109,Tryz.ntmps109;go_wp2_with (go_at_call 151;refine HC.out.mono ?_;rintro e w1 ⟨rfl,rfl⟩)
   go_loop [6,7] (fun n i=>∃ k:Nat,k<=t.size/\i=.int .i64 k/\n=.int .i64 (valL (t.data.toList.take k):Nat)) (fun _ i=>t.size - (RowKit.intOf i).toNat)
   case atStart=>exact ⟨0,by omega,rfl,rfl⟩
   case round =>
    obtain ⟨k,hk,rfl,rfl⟩:=hrel
    have hb:valL (t.data.toList.take k) < 10000000000000000:=by
     have h1:=HLT.out k;rw [take_len t hk] at h1;have h2:10 ^ k<=10 ^ 16:=Nat.pow_le_pow_right (by decide) (by omega);unfold valL;omega
    by_cases hlt:k < t.size
    . obtain ⟨c1,c2⟩:=HAL.out k hlt
      have HS:=hid (valL_take t k hlt);have c1z:(48:Int)<=(t[k].toNat:Int):=by omega
      have c2z:(t[k].toNat:Int)<=57:=by omega
      generalize valL (t.data.toList.take k)=V at *;clear HX HLT HAL;go_wp2
      go_round
      case rel=>exact ⟨k+1,by omega,by go_num,by rw [HS.out];go_num⟩
      case measure=>(simp [RowKit.intOf] <;> omega)
    . have hke:t.data.toList.take k=t.data.toList:=take_all t (by omega)
      have hX:=HX.out;rw [show valL t.data.toList=valL (t.data.toList.take k) by rw [hke]] at hX;generalize valL (t.data.toList.take k)=V at *;have HV:=hid (fun W=>rvldn_any (-(V:Int)) W);have hvl:vldN (-(V:Int))=decide (-9007199254740992<=(-(V:Int))/\(-(V:Int))<=9007199254740992):=by unfold vldN;rw [Bool.eq_iff_iff];simp
      clear hke HX HLT HAL
      by_cases hr:-9007199254740992<=(-(V:Int))/\(-(V:Int))<=9007199254740992
      . have HR:=hid (hX.trans (if_pos hr))
        rw [hvl,decide_eq_true hr] at HV;clear hX hvl hr;go_wp2_with (go_at_call 152;refine (HV.out _).mono ?_;rintro e w3 ⟨rfl,rfl⟩)
        go_ret2
        exact ⟨by rw [HR.out];rfl,rfl⟩
      . have HR:=hid (hX.trans (if_neg hr))
        rw [hvl,decide_eq_false hr] at HV;clear hX hvl hr;go_wp2_with (go_at_call 152;refine (HV.out _).mono ?_;rintro e w3 ⟨rfl,rfl⟩)
        go_ret2
        exact ⟨by rw [HR.out];rfl,rfl⟩
 . have HBAD:=hid (numS_pos hn).1
   have HGOOD:=hid (numS_pos hn).2;have HC:=hid (rdigs_any s w (by omega))
   by_cases h0:0 < s.size
   . have e45:((s[0].toNat:Int) == 45)=false:=by
      have:s[0].toNat≠45:=fun e=>hn ⟨h0,e⟩;simp;omega
     have hpz0:(0:Int) < (s.size:Int):=by omega
     clear hn;cases hd:digB s.data.toList
     . have HR:=hid (HBAD.out (Or.inl hd))
       rw [hd] at HC;clear hd HBAD HGOOD;go_enter Tryz.func109,Tryz.ntmps109;go_wp2_with (go_at_call 151;refine HC.out.mono ?_;rintro e w1 ⟨rfl,rfl⟩)
       go_ret2
       exact ⟨by rw [HR.out];rfl,rfl⟩
     rw [hd] at HC;have hX:=HGOOD.out hd;have hall:=(digB_parts hd).1
     have HAL:=hid (show ∀ j (hj:j < s.size),48<=s[j].toNat/\s[j].toNat<=57 from fun j hj=>by
      have:=List.all_eq_true.1 hall s[j] (by rw [<-get_list s j hj];exact List.getElem_mem _);exact (dig_iff _).1 this)
     have HLT:=hid (fun k=>fold_lt (s.data.toList.take k) 0 (by
      rw [List.all_eq_true];intro c hc;exact List.all_eq_true.1 hall c (List.mem_of_mem_take hc)))
     clear hd hall HBAD HGOOD
     by_cases h17:16 < s.size
     . have HR:=hid (hX.trans (if_pos h17))
       have h17z:(16:Int) < (s.size:Int):=by omega
       clear hX h17 HAL HLT;go_enter Tryz.func109,Tryz.ntmps109;go_wp2_with (go_at_call 151;refine HC.out.mono ?_;rintro e w1 ⟨rfl,rfl⟩)
       go_ret2
       exact ⟨by rw [HR.out];rfl,rfl⟩
     have HX:=hid (hX.trans (if_neg h17));have h17z:¬ (16:Int) < (s.size:Int):=by omega
     clear hX;go_enter Tryz.func109,Tryz.ntmps109;go_wp2_with (go_at_call 151;refine HC.out.mono ?_;rintro e w1 ⟨rfl,rfl⟩)
     go_loop [6,7] (fun n i=>∃ k:Nat,k<=s.size/\i=.int .i64 k/\n=.int .i64 (valL (s.data.toList.take k):Nat)) (fun _ i=>s.size - (RowKit.intOf i).toNat)
     case atStart=>exact ⟨0,by omega,rfl,rfl⟩
     case round =>
      obtain ⟨k,hk,rfl,rfl⟩:=hrel
      have hb:valL (s.data.toList.take k) < 10000000000000000:=by
       have h1:=HLT.out k;rw [take_len s hk] at h1;have h2:10 ^ k<=10 ^ 16:=Nat.pow_le_pow_right (by decide) (by omega);unfold valL;omega
      by_cases hlt:k < s.size
      . obtain ⟨c1,c2⟩:=HAL.out k hlt
        have HS:=hid (valL_take s k hlt);have c1z:(48:Int)<=(s[k].toNat:Int):=by omega
        have c2z:(s[k].toNat:Int)<=57:=by omega
        generalize valL (s.data.toList.take k)=V at *;clear HX HLT HAL;go_wp2
        go_round
        case rel=>exact ⟨k+1,by omega,by go_num,by rw [HS.out];go_num⟩
        case measure=>(simp [RowKit.intOf] <;> omega)
      . have hke:s.data.toList.take k=s.data.toList:=take_all s (by omega)
        have hX:=HX.out;rw [show valL s.data.toList=valL (s.data.toList.take k) by rw [hke]] at hX;generalize valL (s.data.toList.take k)=V at *;have HV:=hid (fun W=>rvldn_any (V:Int) W);have hvl:vldN (V:Int)=decide (-9007199254740992<=(V:Int)/\(V:Int)<=9007199254740992):=by unfold vldN;rw [Bool.eq_iff_iff];simp
        clear hke HX HLT HAL
        by_cases hr:-9007199254740992<=(V:Int)/\(V:Int)<=9007199254740992
        . have HR:=hid (hX.trans (if_pos hr))
          rw [hvl,decide_eq_true hr] at HV;clear hX hvl hr;go_wp2_with (go_at_call 152;refine (HV.out _).mono ?_;rintro e w3 ⟨rfl,rfl⟩)
          go_ret2
          exact ⟨by rw [HR.out];rfl,rfl⟩
        . have HR:=hid (hX.trans (if_neg hr))
          rw [hvl,decide_eq_false hr] at HV;clear hX hvl hr;go_wp2_with (go_at_call 152;refine (HV.out _).mono ?_;rintro e w3 ⟨rfl,rfl⟩)
          go_ret2
          exact ⟨by rw [HR.out];rfl,rfl⟩
   . have hpz0:¬ (0:Int) < (s.size:Int):=by omega
     clear hn;have HR:=hid (HBAD.out (Or.inl (by rw [show s.data.toList=[] from List.eq_nil_of_length_eq_zero (by rw [size_list];omega)];rfl)));rw [show digB s.data.toList=false by rw [show s.data.toList=[] from List.eq_nil_of_length_eq_zero (by rw [size_list];omega)];rfl] at HC;clear HBAD HGOOD;go_enter Tryz.func109,Tryz.ntmps109;go_wp2_with (go_at_call 151;refine HC.out.mono ?_;rintro e w1 ⟨rfl,rfl⟩)
     go_ret2
     exact ⟨by rw [HR.out];rfl,rfl⟩
set_option maxHeartbeats 4000000 in
set_option maxRecDepth 100000 in
theorem irune_bad (w:World):Calls Tryz.prog 174 #[.string ⟨#[46,91]⟩,.int .i32 65533] w fun e w'=>e=.returned (.int .i64 (-1))/\Below w.heap.size w w':=by
 have HI:=hid (fun i=>show Below w.heap.size w (w.iter ⟨#[46,91]⟩ i) from (Below.refl _ _).alloc (Nat.le_refl _) _);go_enter Tryz.func174,Tryz.ntmps174;go_wp2
 go_loopg [5,6] 2 (fun g _ _ wx=>∃ i:Nat,i+g=2/\wx=w.iter ⟨#[46,91]⟩ i)
 case atStart=>exact ⟨0,by omega,rfl⟩
 case round =>
  obtain ⟨i,hig,rfl⟩:=hrel;have hi:i=0 ∨ i=1 ∨ i=2:=by omega
  rcases hi with rfl | rfl | rfl
  . have hnx:=fun ty=>run_next_ascii (P:=Tryz.prog) w ⟨#[46,91]⟩ 0 ty (by decide) (by decide)
    go_wp2
    go_roundg 1
    case measure=>omega
    case rel=>exact ⟨1,by omega,rfl⟩
  . have hnx:=fun ty=>run_next_ascii (P:=Tryz.prog) w ⟨#[46,91]⟩ 1 ty (by decide) (by decide)
    go_wp2
    go_roundg 0
    case measure=>omega
    case rel=>exact ⟨2,by omega,rfl⟩
  . have hnx:=fun ty=>run_next_end (P:=Tryz.prog) w ⟨#[46,91]⟩ 2 ty (by decide)
    go_wp2
    go_ret
    exact ⟨rfl,HI.out _⟩
set_option maxHeartbeats 4000000 in
set_option maxRecDepth 100000 in
theorem irune_hi (r:Nat) (h0:128<=r) (hv:Lib.validRune (r:Int)=true) (hb:r≠65533) (w:World):Calls Tryz.prog 174 #[.string ⟨#[46,91]⟩,.int .i32 r] w fun e w'=>e=.returned (.int .i64 (-1))/\Below w.heap.size w w':=by
 have h1:¬ (r:Int) < 128:=by omega
 have h2:((r:Int) == 65533)=false:=by rw [beq_eq_false_iff_ne];omega
 have HV:=hid (fun W=>Tryz.utf8_ValidRune (r:Int) W);rw [hv] at HV;have hr:=vr_le hv;obtain ⟨f1,f2,f3⟩:=encode_facts (r:Int) (by rw [validRune_eq];exact hv) (by omega);have HIB:=hid (fun (c:Nat) (W:World)=>Tryz.strings_IndexByte ⟨#[]⟩ (c:Int) W);have HB:=hid (Below.refl w.heap.size w);have F1:=hid f1;have F2:=hid f2;have F4:=hid f3;clear f1 f2 f3 hv hr hb;generalize hE:Utf8.encode (r:Int)=E at *;go_enter Tryz.func174,Tryz.ntmps174;go_wp2_with (go_at_call 213;refine (HV.out _).mono ?_;rintro e w1 ⟨rfl,rfl⟩)
 have hz:(1:Int)<=(E.size:Int):=by have:=F1.out;omega
 have hz2:(E.size:Int)<=4:=by have:=F2.out;omega
 go_step3
 go_wp2
 go_loopg [9,10] 1 (fun g i f wx=>i=.int .i64 ((E.size:Int) - 1)/\Hid (wx=w1))
 case atStart=>exact ⟨rfl,hid rfl⟩
 case round =>
  obtain ⟨rfl,HWx⟩:=hrel
  by_cases h3:(E.size:Int) - 1 < 2
  . have hA:E.size=2:=by have:=F1.out;omega
    have h1:1 < E.size:=by omega
    have hb1:128<=E[1].toNat:=by
     have h:=F4.out (by omega);simp only [hA] at h;exact h
    have hz3:(E.size:Int) - 1=1:=by omega
    have h1z:(1:Int) < (E.size:Int):=by omega
    have hn1:(((⟨#[46,91]⟩:ByteArray)[1]'(by decide)).toNat:Int)=91:=rfl;have hne:((((⟨#[46,91]⟩:ByteArray)[1]'(by decide)).toNat:Int) != (E[1].toNat:Int))=true:=by rw [hn1];simp;omega
    clear hn1;have hx:(⟨#[46,91]⟩:ByteArray).extract 2 2=⟨#[]⟩:=by decide
    have HX:=hid (fun (W:World)=>Tryz.strings_IndexByte ByteArray.empty (E[1].toNat:Int) W);have hIBe:∀ c,Lib.indexByte ByteArray.empty.data.toList c = -1:=fun _=>rfl;simp only [hIBe] at HX;clear hIBe;clear hA;rw [hz3];go_wp2
    have hz4:(2:Int)<=2:=by omega
    go_step3
    go_wp2
    go_quiet (fail)
    go_wp2
    have HW2:=hid (show Below w1.heap.size w1 (wr.drewN nq) from by rw [HWx.out];exact bel_drewN HB.out nq);generalize wr.drewN nq=W2 at *;go_quiet (exact Calls.quiet_of_same (HX.out _))
    go_wp2
    rw [Exit.noGoto_ret];go_wp2
    rw [Exit.noGoto_ret];go_ret
    have hW2:=HW2.out;clear HW2;obtain ⟨n2,rfl⟩:∃ n2,n2=nq:=⟨_,rfl⟩;exact ⟨rfl,bel_drewN hW2 _⟩
  . go_wp2
    first | rw [Exit.noGoto_ret] | skip
    go_ret
    exact ⟨rfl,by rw [HWx.out];exact HB.out⟩
theorem dec_high {l:List UInt8} (hne:l≠[]) (h:128<=(l.getD 0 0).toNat) :
  128<=(decodeL l).1/\Lib.validRune ((decodeL l).1:Nat)=true/\1<=(decodeL l).2/\(decodeL l).2<=l.length/\∀ j,j < (decodeL l).2->128<=(l.getD j 0).toNat:=by
 have hl:0 < l.length:=List.length_pos_iff.2 hne;have hle:=Lib.decodeL_le l hne;have hsh:=Lib.decodeN_shape l.length (l.getD 0 0).toNat (l.getD 1 0).toNat (l.getD 2 0).toNat (l.getD 3 0).toNat
 have h0:(l.getD 0 0).toNat < 256:=(l.getD 0 0).toNat_lt;have h1:(l.getD 1 0).toNat < 256:=(l.getD 1 0).toNat_lt;have h2:(l.getD 2 0).toNat < 256:=(l.getD 2 0).toNat_lt;have h3:(l.getD 3 0).toNat < 256:=(l.getD 3 0).toNat_lt;have e0:∀ j,j=0->(l.getD j 0).toNat=(l.getD 0 0).toNat:=fun j h=>by rw [h]
 have e1:∀ j,j=1->(l.getD j 0).toNat=(l.getD 1 0).toNat:=fun j h=>by rw [h]
 have e2:∀ j,j=2->(l.getD j 0).toNat=(l.getD 2 0).toNat:=fun j h=>by rw [h]
 have e3:∀ j,j=3->(l.getD j 0).toNat=(l.getD 3 0).toNat:=fun j h=>by rw [h]
 rw [<-Lib.decodeL_N] at hsh;generalize (l.getD 0 0).toNat=b0 at *;generalize (l.getD 1 0).toNat=b1 at *;generalize (l.getD 2 0).toNat=b2 at *;generalize (l.getD 3 0).toNat=b3 at *;generalize decodeL l=d at *;obtain ⟨r,n⟩:=d;simp only [Prod.mk.injEq] at *;have vr:(r < 55296 ∨ (57343 < r/\r<=1114111))->Lib.validRune ((r:Nat):Int)=true:=fun h=>by unfold Lib.validRune;exact decide_eq_true (by omega)
 rcases hsh with ⟨a,f1,f2⟩ | ⟨a,a1,a2,a3,f1,f2⟩ | ⟨a,a1,a2,a3,a4,a5,f1,f2⟩ | ⟨a,a1,a2,a3,a4,a5,a6,f1,f2⟩ | ⟨f1,f2⟩
 . omega
 . refine ⟨by omega,vr (by omega),by omega,by omega,fun j hj=>?_⟩
   have:j=0 ∨ j=1:=by omega
   rcases this with rfl | rfl
   . rw [e0 _ rfl];exact h
   . rw [e1 _ rfl];omega
 . refine ⟨by omega,vr (by omega),by omega,by omega,fun j hj=>?_⟩
   have:j=0 ∨ j=1 ∨ j=2:=by omega
   rcases this with rfl | rfl | rfl
   . rw [e0 _ rfl];exact h
   . rw [e1 _ rfl];omega
   . rw [e2 _ rfl];omega
 . refine ⟨by omega,vr (by omega),by omega,by omega,fun j hj=>?_⟩
   have:j=0 ∨ j=1 ∨ j=2 ∨ j=3:=by omega
   rcases this with rfl | rfl | rfl | rfl
   . rw [e0 _ rfl];exact h
   . rw [e1 _ rfl];omega
   . rw [e2 _ rfl];omega
   . rw [e3 _ rfl];omega
 . refine ⟨by omega,vr (by omega),by omega,by omega,fun j hj=>?_⟩
   have:j=0:=by omega
   rw [e0 _ this];exact h
theorem dec_at (s:ByteArray) (i:Nat) (h:i < s.size):Utf8.decode s i=decodeL (s.data.toList.drop i):=by
 have h1:=dec_go (s.extract i s.size) (by rw [ext_size s i (by omega)];omega);rw [extract_list] at h1;rw [<-h1];unfold Lib.decodeGo;rw [if_neg (by rw [ext_size s i (by omega)];omega),Lib.tail_decode,Nat.add_zero]
theorem dec_low {l:List UInt8} {c:UInt8} {r:List UInt8} (hl:l=c :: r) (h:c.toNat < 128):decodeL l=(c.toNat,1):=by
 have hsh:=Lib.decodeN_shape l.length (l.getD 0 0).toNat (l.getD 1 0).toNat (l.getD 2 0).toNat (l.getD 3 0).toNat
 have hD:decodeL l=decodeN l.length (l.getD 0 0).toNat (l.getD 1 0).toNat (l.getD 2 0).toNat (l.getD 3 0).toNat:=Lib.decodeL_N l;have h0:(l.getD 0 0).toNat=c.toNat:=by rw [hl];rfl
 rw [hD];unfold decodeN;rw [h0,if_pos h]
theorem noany_more {s:ByteArray} {i n:Nat} (h:NoAny s.data.toList [46,91] i) (hn:∀ j,j < n->128<=((s.data.toList.drop i).getD j 0).toNat):NoAny s.data.toList [46,91] (i+n):=by
 intro j b hj hb
 by_cases h1:j < i
 . exact h j b h1 hb
 . have h2:=hn (j - i) (by omega)
   rw [List.getD_eq_getElem?_getD,List.getElem?_drop,show i+(j - i)=j by omega,hb] at h2;have h3:128<=b.toNat:=h2;have n1:b≠46:=fun e=>by rw [e] at h3;exact absurd h3 (by decide)
   have n2:b≠91:=fun e=>by rw [e] at h3;exact absurd h3 (by decide)
   simp [n1,n2]
theorem zero208:∀ w,(zeroValue 200).run Tryz.prog w=.ok (.agg (Array.replicate 256 (.bool false))) w:=
 (zero_of_info (P:=Tryz.prog) (t:=200) (v:=.agg (Array.replicate 256 (.bool false))) (n:=256) (by kernel_rfl)).1
def dotI (l:List UInt8):Int:=Lib.indexAny l [46,91]
set_option maxHeartbeats 8000000 in
set_option maxRecDepth 100000 in
theorem idxany_any (s:ByteArray) (w:World) (hs:s.size<=2000000):Calls Tryz.prog 132 #[.string s,.string ⟨#[46,91]⟩] w fun e w'=>e=.returned (.int .i64 (dotI s.data.toList))/\Below w.heap.size w w':=by
 by_cases h8:8 < s.size
 . refine (Tryz.strings_IndexAny_long zero208 s ⟨#[46,91]⟩ w (by decide) h8 (by omega) (by decide) (fun j b hb=>by
    have hm:b∈([46,91]:List UInt8):=List.mem_of_getElem? hb;simp at hm;rcases hm with rfl | rfl <;> decide)).mono ?_
   rintro e w' ⟨rfl,rfl⟩;exact ⟨rfl,((Below.refl _ _).alloc (Nat.le_refl _) _).alloc (by simp) _⟩
 have HI0:=hid (show Below w.heap.size w (w.iter s 0) from (Below.refl _ _).alloc (Nat.le_refl _) _);have HK0:=hid (show (w.iter s 0).heap[w.heap.size]?=some (.stringIter s 0) from World.iter_heap w s 0);have h8z:decide ((8:Int) < (s.size:Int))=false:=decide_eq_false (by omega);have HDH:=hid (fun (i:Nat) (hi:i < s.size) (h:128<=s[i].toNat)=>dec_high (l:=s.data.toList.drop i) (by rw [drop_cons s i hi];simp) (by rw [getD_drop0 s i hi];exact h));have HNone:=hid (fun (h:NoAny s.data.toList [46,91] s.size)=>show dotI s.data.toList = -1 from Lib.indexAny_none (by rw [size_list];exact h));have HHit:=hid (fun (i:Nat) (hi:i < s.size) (h:NoAny s.data.toList [46,91] i) (hc:[46,91].contains s[i]=true)=>show dotI s.data.toList=i from Lib.indexAny_hit h (by rw [List.getElem?_eq_getElem (by rw [size_list];exact hi)];rfl) hc);go_enter Tryz.func132,Tryz.ntmps132;go_wp2_with (go_at_call 175;refine (Tryz.strings_shouldUseASCIISet _ _).mono ?_;rintro e w' ⟨rfl,hw⟩;rw [hw,h8z])
 generalize w.iter s 0=W0 at *;go_loopg [9,10] s.size (fun g _ _ wx=>∃ i:Nat,i<=s.size/\s.size - i<=g/\Hid (wx.heap[w.heap.size]?=some (.stringIter s i))/\Hid (Below w.heap.size w wx)/\Hid (NoAny s.data.toList [46,91] i))
 case atStart=>exact ⟨0,by omega,by omega,HK0,HI0,hid (NoAny.zero _ _)⟩
 case round =>
  obtain ⟨i,hi,hg,HK,HW,HN⟩:=hrel
  by_cases hlt:i < s.size
  case neg =>
   have hie:i=s.size:=by omega
   have hnx:=fun ty=>run_next_end_at (P:=Tryz.prog) wr w.heap.size s i ty HK.out hlt;have HR:=hid (HNone.out (by rw [<-hie];exact HN.out));clear hie;go_wp2
   go_ret
   exact ⟨ret_int HR.out,HW.out⟩
  have hnx:=fun ty=>run_next_any_at (P:=Tryz.prog) wr w.heap.size s i ty HK.out hlt;rw [dec_at s i hlt] at hnx
  by_cases h128:s[i].toNat < 128
  . have hdl:=dec_low (drop_cons s i hlt) h128
    rw [hdl] at hnx;simp only at hnx;have hback:((s[i].toNat:Int)).toNat.toUInt8=s[i]:=by simp
    have hcon:=Lib.contains_iff_indexByte [46,91] s[i];have HIR:=hid (fun (W:World)=>Tryz.strings_IndexRune_ascii ⟨#[46,91]⟩ (s[i].toNat:Int) W (by omega) (by omega));rw [hback] at HIR;have HK2:=hid (iterAt_heap wr w.heap.size s i (i+1) HK.out);have HW2:=hid (below_iterAt HW.out (Nat.le_refl _) s (i+1));cases hin:[46,91].contains s[i]
    . have hneg:Lib.indexByte [46,91] s[i] < 0:=by
       rw [hin] at hcon;have:=of_decide_eq_false hcon.symm;omega
      have HN2:=hid (HN.out.succ (by rw [List.getElem?_eq_getElem (by rw [size_list];exact hlt)];rfl) hin);have hz:¬ (0:Int)<=Lib.indexByte [46,91] s[i]:=by omega
      clear hcon hdl hin hneg;go_wp2_with (go_at_call 174;refine (HIR.out _).mono ?_;rintro e w' ⟨rfl,rfl⟩)
      go_roundg (s.size - (i+1))
      case measure=>omega
      case rel=>exact ⟨i+1,by omega,by omega,HK2,HW2,HN2⟩
    . have hz:(0:Int)<=Lib.indexByte [46,91] s[i]:=by
       rw [hin] at hcon;exact of_decide_eq_true hcon.symm
      have HR:=hid (HHit.out i hlt HN.out hin);clear hcon hdl hin;go_wp2_with (go_at_call 174;refine (HIR.out _).mono ?_;rintro e w' ⟨rfl,rfl⟩)
      go_ret
      exact ⟨ret_int HR.out,HW2.out⟩
  . obtain ⟨d1,d2,d3,d4,d5⟩:=HDH.out i hlt (by omega)
    rw [List.length_drop,size_list] at d4;have HN2:=hid (noany_more HN.out d5);generalize decodeL (s.data.toList.drop i)=d at *;obtain ⟨r,n⟩:=d;simp only at hnx d1 d2 d3 d4 HN2;have HK2:=hid (iterAt_heap wr w.heap.size s i (i+n) HK.out);have HW2:=hid (below_iterAt HW.out (Nat.le_refl _) s (i+n))
    have HIR:=hid (fun (W:World)=>show Calls Tryz.prog 174 #[.string ⟨#[46,91]⟩,.int .i32 r] W fun e w'=>e=.returned (.int .i64 (-1))/\Below W.heap.size W w' from by
     by_cases hb:r=65533
     . subst hb;exact irune_bad W
     . exact irune_hi r d1 d2 hb W)
    clear d1 d2 d5 h128;go_wp2_with (go_at_call 174;refine (HIR.out _).mono ?_;rintro e w' ⟨rfl,hb⟩;have HK3:=hid ((hb.block _ (lt_of_block HK2.out)).trans HK2.out);have HW3:=hid (HW2.out.trans (hb.mono HW2.out.size));clear hb)
    go_roundg (s.size - (i+n))
    case measure=>omega
    case rel=>exact ⟨i+n,by omega,by omega,HK3,HW3,HN2⟩
def dotN (l:List UInt8):Nat:=(l.takeWhile fun c=>!([46,91].contains c)).length
theorem dotN_le (l:List UInt8):dotN l<=l.length:=(List.takeWhile_sublist _).length_le
theorem dotN_noany:∀ (l:List UInt8),NoAny l [46,91] (dotN l)/\∀ c,l[dotN l]?=some c->[46,91].contains c=true
 | []=>⟨NoAny.zero _ _,fun c h=>by simp at h⟩
 | x :: l=>by
   obtain ⟨h1,h2⟩:=dotN_noany l;unfold dotN;rw [List.takeWhile_cons];cases hx:[46,91].contains x
   . simp only [Bool.not_false,if_true,List.length_cons]
     refine ⟨fun j b hj hb=>?_,fun c hc=>h2 c (by unfold dotN;simpa using hc)⟩;cases j with
     | zero=>simp at hb;subst hb;exact hx
     | succ j=>exact h1 j b (by unfold dotN;omega) (by simpa using hb)
   . simp only [Bool.not_true,Bool.false_eq_true,if_false,List.length_nil]
     exact ⟨NoAny.zero _ _,fun c hc=>by simp at hc;subst hc;exact hx⟩
theorem dotI_eq (l:List UInt8):dotI l=if dotN l < l.length then (dotN l:Int) else -1:=by
 obtain ⟨h1,h2⟩:=dotN_noany l
 by_cases h:dotN l < l.length
 . rw [if_pos h]
   exact Lib.indexAny_hit h1 (List.getElem?_eq_getElem h) (h2 _ (List.getElem?_eq_getElem h))
 . rw [if_neg h]
   have:=dotN_le l;exact Lib.indexAny_none (by rw [show l.length=dotN l by omega];exact h1)
def wrdS (s:ByteArray):ByteArray:=s.extract 0 (dotN s.data.toList)
def wrdR (s:ByteArray):ByteArray:=s.extract (dotN s.data.toList) s.size
def cutS (p:List UInt8) (s:ByteArray):ByteArray:=⟨(Lib.trimPrefix s.data.toList p).toArray⟩
def hasP (p:List UInt8) (s:ByteArray):Bool:=Lib.hasPrefix s.data.toList p
def Rd (b:Nat) (w:World) (s:ByteArray) (bad:Bool):Prop:=w.heap[b]?=some (.cells #[.string s,.bool bad] 122 (0,0))
theorem Rd.cells {b:Nat} {w:World} {s:ByteArray} {bad:Bool} (h:Rd b w s bad):w.cell? ⟨b,0,none⟩=some (.string s)/\w.cell? ⟨b,1,none⟩=some (.bool bad)/\(∀ o,w.frozen? ⟨b,o,none⟩=false)/\b < w.heap.size:=by
 unfold Rd at h;refine ⟨by unfold World.cell?;simp [h],by unfold World.cell?;simp [h],fun o=>by unfold World.frozen?;simp [h],lt_of_block h⟩
theorem Rd.set0 {b:Nat} {w:World} {s:ByteArray} {bad:Bool} (h:Rd b w s bad) (t:ByteArray):Rd b (w.setCell ⟨b,0,none⟩ (.string t)) t bad:=by
 unfold Rd at *;unfold World.setCell;have hb:=lt_of_block h;show (w.heap.modify b _)[b]?=_;rw [Array.getElem?_modify,if_pos rfl,h];rfl
theorem Rd.set1 {b:Nat} {w:World} {s:ByteArray} {bad:Bool} (h:Rd b w s bad) (t:Bool):Rd b (w.setCell ⟨b,1,none⟩ (.bool t)) s t:=by
 unfold Rd at *;unfold World.setCell;have hb:=lt_of_block h;show (w.heap.modify b _)[b]?=_;rw [Array.getElem?_modify,if_pos rfl,h];rfl
theorem grown_setC (w:World) (a:Addr) (u:Value):w.grownBy (w.setCell a u) (some a.block):=⟨rfl,rfl,rfl,by simp [World.setCell],fun k hk hne=>Below.heap_setCell _ _ _ _ (fun e=>hne (by rw [e]))⟩
theorem grown_trans {a b c:World} {row:Option Nat} (h:a.grownBy b row) (h2:b.grownBy c row):a.grownBy c row:=
 ⟨h2.os.trans h.os,h2.tape.trans h.tape,h2.output.trans h.output,Nat.le_trans h.size h2.size,fun k hk hne=>(h2.block k (Nat.lt_of_lt_of_le hk h.size) hne).trans (h.block k hk hne)⟩
theorem grown_of {a b:World} (h:Below a.heap.size a b) (row:Option Nat):a.grownBy b row:=⟨h.os,h.tape,h.output,h.size,fun k hk _=>h.block k hk⟩
theorem Rd.kept {b:Nat} {w w':World} {s:ByteArray} {bad:Bool} (h:Rd b w s bad) (hb:Below w.heap.size w w'):Rd b w' s bad:=by
 unfold Rd at *;exact (hb.block _ (lt_of_block h)).trans h
set_option maxHeartbeats 4000000 in
theorem has_any (p s:ByteArray) (b:Nat) (bad:Bool) (w:World) (h:Rd b w s bad):Calls Tryz.prog 94 #[.pointer (some ⟨b,0,none⟩),.string p] w fun e w' =>
  e=.returned (.bool (hasP p.data.toList s))/\Rd b w' (cutS p.data.toList s) bad/\w.grownBy w' (some b):=by
 obtain ⟨c0,c1,c2,c3⟩:=h.cells;have HC:=hid (fun (W:World)=>Tryz.strings_CutPrefix s p W);have HR:=hid (h.set0 (cutS p.data.toList s));have HG:=hid (grown_setC w ⟨b,0,none⟩ (.string (cutS p.data.toList s)));have f0:=c2 0;go_enter Tryz.func94,Tryz.ntmps94;go_wp2_with (go_at_call 131;refine (HC.out _).mono ?_;rintro e w1 ⟨rfl,rfl⟩)
 go_ret
 exact ⟨rfl,HR.out,HG.out⟩
set_option maxHeartbeats 4000000 in
theorem skip_any (p s:ByteArray) (b:Nat) (bad:Bool) (w:World) (h:Rd b w s bad):Calls Tryz.prog 96 #[.pointer (some ⟨b,0,none⟩),.string p] w fun e w' =>
  e=.returned (.tuple #[])/\Rd b w' (cutS p.data.toList s) (bad || !hasP p.data.toList s)/\w.grownBy w' (some b):=by
 obtain ⟨c0,c1,c2,c3⟩:=h.cells;have HC:=hid (fun (W:World)=>Tryz.strings_CutPrefix s p W);have HR1:=h.set0 (cutS p.data.toList s);obtain ⟨d0,d1,d2,d3⟩:=HR1.cells;have HR:=hid (HR1.set1 (bad || !hasP p.data.toList s));have HG:=hid (grown_trans (grown_setC w ⟨b,0,none⟩ (.string (cutS p.data.toList s))) (grown_setC _ ⟨b,1,none⟩ (.bool (bad || !hasP p.data.toList s))));have f0:=c2 0;have f1:=d2 1;unfold cutS at d0 d1 d2 d3 f1 HR HG;unfold hasP at HR HG;clear HR1 h;cases bad
 . go_enter Tryz.func96,Tryz.ntmps96
   go_wp2_with (go_at_call 131;refine (HC.out _).mono ?_;rintro e w1 ⟨rfl,rfl⟩)
   go_end0
   exact ⟨rfl,HR.out,HG.out⟩
 . go_enter Tryz.func96,Tryz.ntmps96
   go_wp2_with (go_at_call 131;refine (HC.out _).mono ?_;rintro e w1 ⟨rfl,rfl⟩)
   go_end0
   exact ⟨rfl,HR.out,HG.out⟩
set_option maxHeartbeats 4000000 in
theorem word_any (s:ByteArray) (b:Nat) (bad:Bool) (w:World) (hs:s.size<=2000000) (h:Rd b w s bad):Calls Tryz.prog 97 #[.pointer (some ⟨b,0,none⟩)] w fun e w' =>
  e=.returned (.string (wrdS s))/\Rd b w' (wrdR s) (bad || !idB (wrdS s).data.toList)/\w.grownBy w' (some b):=by
 have HI:=hid (fun (W:World)=>idxany_any s W hs)
 have HP:=hid (fun (W:World)=>pident_any (wrdS s) W (by
  have:=Lib.extract_data s 0 (dotN s.data.toList);rw [<-size_list,show (wrdS s).data.toList=_ from this];rw [List.length_take,List.length_drop,size_list];omega))
 have HK:=hid (fun (W:World) (hb:Below w.heap.size w W)=>h.kept hb)
 have HE:=hid (fun (W W':World) (u:Bool) (hb:Below w.heap.size w W) (e:W'=(W.setCell ⟨b,0,none⟩ (.string (wrdR s))).setCell ⟨b,1,none⟩ (.bool u))=>show Rd b W' (wrdR s) u/\w.grownBy W' (some b) from by
  subst e;exact ⟨((h.kept hb).set0 (wrdR s)).set1 u,grown_trans (grown_of hb (some b)) (grown_trans (grown_setC W ⟨b,0,none⟩ (.string (wrdR s))) (grown_setC _ ⟨b,1,none⟩ (.bool u)))⟩)
 obtain ⟨c0,c1,c2,c3⟩:=h.cells;have hm:=dotN_le s.data.toList;rw [size_list] at hm;have hI:=dotI_eq s.data.toList;rw [size_list] at hI;have e1:wrdS s=s.extract 0 (dotN s.data.toList):=rfl;have e2:wrdR s=s.extract (dotN s.data.toList) s.size:=rfl;rw [e1] at HP ⊢;rw [e2] at HE ⊢;clear e1 e2 h;generalize dotN s.data.toList=m at hm hI HP HE ⊢
 by_cases hd:m < s.size
 . rw [if_pos hd] at hI
   rw [hI] at HI;have g0:decide ((m:Int) < 0)=false:=by simp
   have g1:(m:Int)<=s.size:=by omega
   clear hI hd;cases bad
   . go_enter Tryz.func97,Tryz.ntmps97
     go_wp2_with (go_at_call 132;refine (HI.out _).mono ?_;rintro e w1 ⟨rfl,hb⟩;obtain ⟨d0,d1,d2,d3⟩:=(HK.out _ hb).cells;have f0:=d2 0;have f1:=d2 1)
     refine (HP.out _).mono ?_;rintro e w2 ⟨rfl,rfl⟩;go_wp2
     go_ret
     exact ⟨rfl,HE.out _ _ _ hb (by simp)⟩
   . go_enter Tryz.func97,Tryz.ntmps97
     go_wp2_with (go_at_call 132;refine (HI.out _).mono ?_;rintro e w1 ⟨rfl,hb⟩;obtain ⟨d0,d1,d2,d3⟩:=(HK.out _ hb).cells;have f0:=d2 0;have f1:=d2 1)
     go_ret
     exact ⟨rfl,HE.out _ _ _ hb (by simp)⟩
 . rw [if_neg hd] at hI
   rw [hI] at HI;obtain rfl:m=s.size:=by omega
   have q1:s.extract 0 s.size=s:=by simp
   have q2:s.extract s.size s.size=ByteArray.empty:=by simp
   rw [q1] at HP ⊢;rw [q2] at HE ⊢;have g0:(0:Int)<=s.size:=by omega
   clear hI hd hm q1 q2 hs;cases bad
   . go_enter Tryz.func97,Tryz.ntmps97
     go_wp2_with (go_at_call 132;refine (HI.out _).mono ?_;rintro e w1 ⟨rfl,hb⟩;obtain ⟨d0,d1,d2,d3⟩:=(HK.out _ hb).cells;have f0:=d2 0;have f1:=d2 1)
     refine (HP.out _).mono ?_;rintro e w2 ⟨rfl,rfl⟩;go_wp2
     go_ret
     exact ⟨rfl,HE.out _ _ _ hb (by simp)⟩
   . go_enter Tryz.func97,Tryz.ntmps97
     go_wp2_with (go_at_call 132;refine (HI.out _).mono ?_;rintro e w1 ⟨rfl,hb⟩;obtain ⟨d0,d1,d2,d3⟩:=(HK.out _ hb).cells;have f0:=d2 0;have f1:=d2 1)
     go_ret
     exact ⟨rfl,HE.out _ _ _ hb (by simp)⟩
end Go.Proofs.YtomhbcfjhgecbaaGreatDoor.Adr
