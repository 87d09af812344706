import Derived.Test.YtomhbcfjhgecbaaGreatDoorX12
import Derived.Test.YtomhbcfjhgecbaaGreatDoorX8
import Derived.Test.YtomhbcfjhgecbaaGreatDoorX10
set_option linter.unusedVariables false
set_option linter.unusedSimpArgs false
namespace Go.Proofs.YtomhbcfjhgecbaaGreatDoor
open Go.RowKit Go.Sort Go.Lib
open Go.Lib (hid)
open Adr (WT)
open Stp (wp_region_fresh Spc Stb sVal sBool stTrue Lat Bef grw_below wpF_quiet wq grw_ex wpF_told wpF_put wpF_nil wpF_skip noEnter_op)
attribute [local go_sem] Stp.frUpon
theorem chk_asc {s:Sta} (h:chkS s=0):AscP s.ins/\s.ins.length<=512/\s.pen.length<=512/\s.out.length<=512:=by
 unfold chkS at h
 by_cases h1:txB s.lin=false
 . rw [if_pos h1] at h;cases h
 rw [if_neg h1] at h
 by_cases h2:s.ser < 0 ∨ 9007199254740992 < s.ser
 . rw [if_pos h2] at h;cases h
 rw [if_neg h2] at h
 by_cases h3:512 < s.ins.length ∨ 512 < s.pen.length ∨ 512 < s.out.length
 . rw [if_pos h3] at h;cases h
 rw [if_neg h3] at h
 by_cases h4:fstE s.ins.length (insE s.ins)=0
 . refine ⟨?_,by omega,by omega,by omega⟩
   have hz:=fstE_zero h4
   have adj:∀ k (hk:k+1 < s.ins.length),ltP (plOf s.ins[k]) (plOf s.ins[k+1]):=fun k hk=>by
    have:=hz (k+1) hk;rw [insE_at' hk] at this
    by_cases h5:insC s.ins[k+1]=0
    . rw [if_neg (by rw [h5];decide)] at this
      by_cases h6:0<=cmpP (plOf s.ins[k]) (plOf s.ins[k+1])
      . rw [if_pos ⟨by omega,by rw [show k+1 - 1=k from rfl,getD_at _ (by omega:k < s.ins.length)];exact h6⟩] at this;cases this
      . unfold ltP;omega
    . rw [if_pos h5] at this;exact absurd this h5
   have key:∀ d i (hd:i+d+1 < s.ins.length),ltP (plOf (s.ins[i]'(by omega))) (plOf s.ins[i+d+1]):=by
    intro d
    induction d with
    | zero=>intro i hd;exact adj i hd
    | succ d ih=>intro i hd;exact ordP.tr (ih i (by omega)) (adj (i+d+1) hd)
   show s.ins.Pairwise _;rw [List.pairwise_iff_getElem];intro i j hi hj hij;obtain ⟨d,rfl⟩:∃ d,j=i+d+1:=⟨j - i - 1,by omega⟩;exact key d i hj
 . rw [if_pos h4] at h;exact absurd h h4
def metA (xs:List Ins) (l:List ByteArray):Nat:=(l.map (cntA xs)).sum
theorem metA_next {xs:List Ins} {l:List ByteArray} {k:Nat} (h:k < l.length):metA xs (l.take (k+1))=metA xs (l.take k)+cntA xs l[k]:=by
 unfold metA;rw [List.take_succ_eq_append_getElem h,List.map_append,List.sum_append];simp
theorem cntA_next {xs:List Ins} {a:ByteArray} {j:Nat} (h:j < xs.length):cntA (xs.take (j+1)) a=cntA (xs.take j) a+if xs[j].ad=a then 1 else 0:=by
 unfold cntA;rw [List.take_succ_eq_append_getElem h,List.countP_append]
 by_cases e:xs[j].ad=a <;> simp [e]
theorem cntA_le (xs:List Ins) (a:ByteArray):cntA xs a<=xs.length:=List.countP_le_length
theorem metA_le {xs:List Ins} : ∀ l:List ByteArray,metA xs l<=l.length * xs.length
 | []=>by unfold metA;simp
 | a :: l=>by
   have:=metA_le (xs:=xs) l;have h2:=cntA_le xs a;unfold metA at this ⊢;rw [List.map_cons,List.sum_cons,List.length_cons,Nat.add_mul];omega
set_option maxRecDepth 100000 in
set_option maxHeartbeats 8000000 in
theorem laddr_any (s:Sta) (p:Sp) (w:World) (hT:WT w) (h:StaP w s p) (hs:StaR1 s) :
  Calls Tryz.prog 7 #[.agg (staA s p)] w fun e w'=>e=.returned (.bool true)/\Below w.heap.size w w':=by
 have HSA:=hid (fun (W:World) (hW:Below w.heap.size w W)=>small_sta s p W (staP_below hW h));have HAW:=hid (fun (W:World) (hW:Below w.heap.size w W)=>awake_any W (hT.below hW));have HRE:=hid (fun (W:World) (hW:Below w.heap.size w W)=>rcheck_sta s p W (staP_below hW h) hs);have HIN:=hid (fun (W:World) (hW:Below w.heap.size w W)=>in_at (h.1.below inR_mono hW));have HAD:=hid (fun (hn:s.ins.length<=1000000) (W:World) (hW:Below w.heap.size w W)=>adrs_sta s p W (staP_below hW h) hn);obtain ⟨_,hlc1,hlm1⟩:=sl_len h.1;have HAS:=hid (fun (h:chkS s=0)=>chk_asc h);clear hT h hs;generalize smallS s=bs at *;generalize chkS s=E at *;obtain ⟨ri,ci,rp,cp,ro,co⟩:=p;unfold staA at *;dsimp only at HSA HRE HIN HAD;obtain ⟨W0,hW0⟩:∃ W0,W0=w.alloc (.cells #[.string s.lin,.int .i64 s.ser,.slice ri s.ins.length ci,.slice rp s.pen.length cp,.slice ro s.out.length co] 26):=⟨_,rfl⟩;have HW0:=hid hW0;have HB0:=hid (show Below w.heap.size w W0 from hW0 ▸ (Below.refl _ _).alloc (Nat.le_refl _) _);have hc0:W0.heap[w.heap.size]?=some (.cells #[.string s.lin,.int .i64 s.ser,.slice ri s.ins.length ci,.slice rp s.pen.length cp,.slice ro s.out.length co] 26):=hW0 ▸ (MapKept.heap_alloc w _).1;have s0:W0.cell? ⟨w.heap.size,0,none⟩=some (.string s.lin):=cellv hc0 0 rfl;have s1:W0.cell? ⟨w.heap.size,1,none⟩=some (.int .i64 s.ser):=cellv hc0 1 rfl;have s2:W0.cell? ⟨w.heap.size,2,none⟩=some (.slice ri s.ins.length ci):=cellv hc0 2 rfl;have s3:W0.cell? ⟨w.heap.size,3,none⟩=some (.slice rp s.pen.length cp):=cellv hc0 3 rfl;have s4:W0.cell? ⟨w.heap.size,4,none⟩=some (.slice ro s.out.length co):=cellv hc0 4 rfl;have HCE:=hid (fun (W:World) (hW:Below W0.heap.size W0 W)=>show W.cell? ⟨w.heap.size,0,none⟩=some (.string s.lin)/\W.cell? ⟨w.heap.size,1,none⟩=some (.int .i64 s.ser)/\W.cell? ⟨w.heap.size,2,none⟩=some (.slice ri s.ins.length ci)/\W.cell? ⟨w.heap.size,3,none⟩=some (.slice rp s.pen.length cp)/\W.cell? ⟨w.heap.size,4,none⟩=some (.slice ro s.out.length co) from ⟨bget hW s0,bget hW s1,bget hW s2,bget hW s3,bget hW s4⟩);have HG:=hid (fun (W:World) (hW:Below W0.heap.size W0 W)=>HB0.out.trans (hW.mono HB0.out.size));have BC:=hid (Below.refl W0.heap.size W0);clear hc0 hW0;go_enter Tryz.func7,Tryz.ntmps7;go_upto_region 1 with (fail)
 rw [<-HW0.out];clear HW0;cases bs with
 | false =>
   go_wp2_with (first | (go_at_call 9;refine (HSA.out _ (HG.out _ BC.out)).mono ?_;rintro e w1 ⟨rfl,hb1⟩;have BC:=hid (BC.out.trans (hb1.mono BC.out.size));clear hb1;clear s0 s1 s2 s3 s4;obtain ⟨s0,s1,s2,s3,s4⟩:=HCE.out _ BC.out) | (go_at_call 12;refine (HRE.out _ (HG.out _ BC.out)).mono ?_;rintro e w1 ⟨rfl,hb1⟩;have BC:=hid (BC.out.trans (hb1.mono BC.out.size));clear hb1;clear s0 s1 s2 s3 s4;obtain ⟨s0,s1,s2,s3,s4⟩:=HCE.out _ BC.out) | (go_at_call 10;refine (HAW.out _ (HG.out _ BC.out)).mono ?_;rintro e w1 ⟨rfl,hb1⟩;have BC:=hid (BC.out.trans (hb1.mono BC.out.size));clear hb1))
   go_ret
   exact ⟨rfl,HG.out _ BC.out⟩
 | true =>
 by_cases hE:E=0
 case neg =>
  have n1:(E != 0)=true:=by simp [hE]
  have n2:(E == 0)=false:=by simp [hE]
  clear hE HAS;go_wp2_with (first | (go_at_call 9;refine (HSA.out _ (HG.out _ BC.out)).mono ?_;rintro e w1 ⟨rfl,hb1⟩;have BC:=hid (BC.out.trans (hb1.mono BC.out.size));clear hb1;clear s0 s1 s2 s3 s4;obtain ⟨s0,s1,s2,s3,s4⟩:=HCE.out _ BC.out) | (go_at_call 12;refine (HRE.out _ (HG.out _ BC.out)).mono ?_;rintro e w1 ⟨rfl,hb1⟩;have BC:=hid (BC.out.trans (hb1.mono BC.out.size));clear hb1;clear s0 s1 s2 s3 s4;obtain ⟨s0,s1,s2,s3,s4⟩:=HCE.out _ BC.out) | (go_at_call 10;refine (HAW.out _ (HG.out _ BC.out)).mono ?_;rintro e w1 ⟨rfl,hb1⟩;have BC:=hid (BC.out.trans (hb1.mono BC.out.size));clear hb1))
  go_ret
  exact ⟨rfl,HG.out _ BC.out⟩
 case pos =>
 obtain ⟨hasc,hln,_,_⟩:=HAS.out hE;subst hE;have HSP:=hid (adsI_spec hasc);have HFO:=hid (adsI_found hasc);have HLL:=hid (adsI_len s.ins);clear HAS hasc;go_upto_region 3 with (first | (go_at_call 9;refine (HSA.out _ (HG.out _ BC.out)).mono ?_;rintro e w1 ⟨rfl,hb1⟩;have BC:=hid (BC.out.trans (hb1.mono BC.out.size));clear hb1;clear s0 s1 s2 s3 s4;obtain ⟨s0,s1,s2,s3,s4⟩:=HCE.out _ BC.out) | (go_at_call 12;refine (HRE.out _ (HG.out _ BC.out)).mono ?_;rintro e w1 ⟨rfl,hb1⟩;have BC:=hid (BC.out.trans (hb1.mono BC.out.size));clear hb1;clear s0 s1 s2 s3 s4;obtain ⟨s0,s1,s2,s3,s4⟩:=HCE.out _ BC.out) | (go_at_call 10;refine (HAW.out _ (HG.out _ BC.out)).mono ?_;rintro e w1 ⟨rfl,hb1⟩;have BC:=hid (BC.out.trans (hb1.mono BC.out.size));clear hb1))
 go_upto_region 4 with (go_at_call 24;refine (HAD.out (by omega) _ (HG.out _ BC.out)).mono ?_;rintro e w2 ⟨v,rfl,ho,hb⟩;obtain ⟨ra,ca,rfl,_⟩:=ho.form;have HO:=hid ho.sl;have BD:=hid (BC.out.trans (hb.mono BC.out.size));have B2:=hid hb;clear hb ho)
 go_wp2_with fail
 clear s0 s1 s2 s3 s4;have hLa:(adsI s.ins).length<=512:=by have:=HLL.out;omega
 have HST:=hid (fun (W:World) (hW:Below w2.heap.size w2 W)=>str_at (HO.out.below strR_mono hW));have BS:=hid (Below.refl w2.heap.size w2);have HGD:=hid (fun (W:World) (hW:Below w2.heap.size w2 W)=>BD.out.trans (hW.mono BD.out.size));generalize hL:adsI s.ins=L at *;clear hL
 have hml:=hid (fun (j:Nat)=>show metA s.ins (L.take j)<=512 * 512 from by
  have:=metA_le (xs:=s.ins) (L.take j);rw [List.length_take] at this;exact Nat.le_trans this (Nat.mul_le_mul (by omega) hln))
 have HZ:Hid (metA s.ins (L.take 0)=0):=hid (by rw [List.take_zero];rfl);go_loopg [4,5] L.length (fun gg q4 q5 wr=>∃ k:Nat,k<=L.length/\L.length - k<=gg/\q5=.int .i64 k/\q4=.int .i64 (metA s.ins (L.take k):Nat)/\Hid (Below w2.heap.size w2 wr))
 case atStart=>exact ⟨0,by omega,by omega,rfl,by rw [HZ.out];rfl,BS⟩
 case round =>
  clear BS;obtain ⟨k,hk,hg,rfl,rfl,BW⟩:=hrel;obtain ⟨s0,s1,s2,s3,s4⟩:=HCE.out _ (HGD.out _ BW.out)
  by_cases hlt:k < L.length
  case pos =>
   have hltz:(k:Int) < (L.length:Int):=by omega
   obtain ⟨b,off,rfl,hb,g0,_⟩:=HST.out wr BW.out k hlt
   by_cases hk0:k=0
   case pos =>
    have hkz:decide ((0:Int) < (k:Int))=false:=decide_eq_false (by omega);have hkz2:decide (0 < k)=false:=decide_eq_false (by omega);have hkz3:¬ 0 < k:=by omega
    go_wp2_with fail
    go_quiet (fail)
    have BJ:=hid (bel_drewN BW.out nq);clear hkz hkz2 hkz3 hk0 g0 s0 s1 s2 s3 s4;go_wp2_with fail
    have HZ2:Hid (cntA (s.ins.take 0) (L[k]'hlt)=0):=hid (by rw [List.take_zero];rfl);have hmk:=hml.out k;go_loopg [4,6] s.ins.length (fun gg q4 q6 wj=>∃ j:Nat,j<=s.ins.length/\s.ins.length - j<=gg/\q6=.int .i64 j/\q4=.int .i64 (metA s.ins (L.take k)+cntA (s.ins.take j) (L[k]'hlt):Nat)/\Hid (Below w2.heap.size w2 wj))
    case atStart=>exact ⟨0,by omega,by omega,rfl,by rw [HZ2.out];rfl,BJ⟩
    case round =>
     clear BJ;obtain ⟨j,hj,hgj,rfl,rfl,BV⟩:=hrel;obtain ⟨s0,s1,s2,s3,s4⟩:=HCE.out _ (HGD.out _ BV.out);have hcj:=cntA_le (s.ins.take j) (L[k]'hlt);rw [List.length_take] at hcj
     by_cases hlj:j < s.ins.length
     case pos =>
      have hljz:(j:Int) < (s.ins.length:Int):=by omega
      obtain ⟨b3,off3,pt,rfl,hb3,hcell,_⟩:=HIN.out _ (HG.out _ (HGD.out _ BV.out)) j hlj;have ga:=hcell 0 _ rfl;obtain ⟨b4,off4,hr4,hb4,gb,_⟩:=HST.out _ BV.out k hlt;simp only [Option.some.injEq,Addr.mk.injEq] at hr4;obtain ⟨rfl,rfl,_⟩:=hr4;simp only [Nat.add_zero] at ga;have HCN:=hid (cntA_next (a:=L[k]'hlt) hlj);clear hcell;generalize hcv:cntA (s.ins.take j) (L[k]'hlt)=cv at *
      by_cases hq:s.ins[j].ad=L[k]'hlt
      case pos =>
       have HCM:=hid (HCN.out.trans (by rw [if_pos hq]));rw [<-hq] at gb;have n1:(s.ins[j].ad.toList == s.ins[j].ad.toList)=true:=by simp
       clear HCN hcv hq;generalize s.ins[j].ad=xa at *;go_wp2_with fail
       go_quiet (fail)
       have BU:=hid (bel_drewN BV.out nq);go_wp2_with fail
       go_roundg (s.ins.length - (j+1))
       case measure=>omega
       case rel=>exact ⟨j+1,by omega,by omega,by go_num,by rw [HCM.out];go_num,BU⟩
      case neg =>
       have HCM:=hid (HCN.out.trans (by rw [if_neg hq,Nat.add_zero]));have n1:=str_ne hq;clear HCN hcv hq;generalize s.ins[j].ad=xa at *;generalize hyy:L[k]'hlt=yy at *;go_wp2_with fail
       go_quiet (fail)
       have BU:=hid (bel_drewN BV.out nq);go_wp2_with fail
       go_roundg (s.ins.length - (j+1))
       case measure=>omega
       case rel=>exact ⟨j+1,by omega,by omega,by go_num,by rw [HCM.out],BU⟩
     case neg =>
      obtain rfl:j=s.ins.length:=by omega
      have hljz:¬ ((s.ins.length:Nat):Int) < (s.ins.length:Int):=by omega
      have HME:=hid (metA_next (xs:=s.ins) hlt);go_wp2_with fail
      go_roundg (L.length - (k+1))
      case measure=>omega
      case rel=>exact ⟨k+1,by omega,by omega,by go_num,by rw [HME.out,Int.natCast_add] <;> rw [List.take_length],BV⟩
   case neg =>
   obtain ⟨b',off',hr',_,g1,_⟩:=HST.out wr BW.out (k - 1) (by omega);simp only [Option.some.injEq,Addr.mk.injEq] at hr';obtain ⟨rfl,rfl,_⟩:=hr';have k0:(0:Int)<=(k:Int) - 1:=by omega
   have k1:(k:Int) - 1 < (L.length:Int):=by omega
   have k4:((k:Int) - 1).toNat=k - 1:=by omega
   have k5:wrap64 ((k:Int) - 1)=(k:Int) - 1:=by unfold wrap64;omega
   have k6:(0:Int) < (k:Int):=by omega
   have k9:(k:Int)<=(L.length:Int):=by omega
   have k7:(1:Int)<=(k:Int):=by omega
   have hd:decide ((0:Int) < (k:Int))=true:=decide_eq_true (by omega);have hd2:decide (0 < k)=true:=decide_eq_true (by omega);have hpos:0 < k:=by omega
   have hlt3:=List.pairwise_iff_getElem.1 HSP.out.1 (k - 1) k (by omega) hlt (by omega);have q:Op.bytesLess (L[k - 1]'(by omega)).toList (L[k]'hlt).toList=true:=(lessL _ _).trans (ltL_iff.2 hlt3);clear hlt3;go_wp2_with fail
   go_quiet (fail)
   have BJ:=hid (bel_drewN BW.out nq);clear k0 k1 k4 k5 k6 k7 k9 hd hd2 hpos q g0 g1 hk0 s0 s1 s2 s3 s4;go_wp2_with fail
   have HZ2:Hid (cntA (s.ins.take 0) (L[k]'hlt)=0):=hid (by rw [List.take_zero];rfl);have hmk:=hml.out k;go_loopg [4,6] s.ins.length (fun gg q4 q6 wj=>∃ j:Nat,j<=s.ins.length/\s.ins.length - j<=gg/\q6=.int .i64 j/\q4=.int .i64 (metA s.ins (L.take k)+cntA (s.ins.take j) (L[k]'hlt):Nat)/\Hid (Below w2.heap.size w2 wj))
   case atStart=>exact ⟨0,by omega,by omega,rfl,by rw [HZ2.out];rfl,BJ⟩
   case round =>
    clear BJ;obtain ⟨j,hj,hgj,rfl,rfl,BV⟩:=hrel;obtain ⟨s0,s1,s2,s3,s4⟩:=HCE.out _ (HGD.out _ BV.out);have hcj:=cntA_le (s.ins.take j) (L[k]'hlt);rw [List.length_take] at hcj
    by_cases hlj:j < s.ins.length
    case pos =>
     have hljz:(j:Int) < (s.ins.length:Int):=by omega
     obtain ⟨b3,off3,pt,rfl,hb3,hcell,_⟩:=HIN.out _ (HG.out _ (HGD.out _ BV.out)) j hlj;have ga:=hcell 0 _ rfl;obtain ⟨b4,off4,hr4,hb4,gb,_⟩:=HST.out _ BV.out k hlt;simp only [Option.some.injEq,Addr.mk.injEq] at hr4;obtain ⟨rfl,rfl,_⟩:=hr4;simp only [Nat.add_zero] at ga;have HCN:=hid (cntA_next (a:=L[k]'hlt) hlj);clear hcell;generalize hcv:cntA (s.ins.take j) (L[k]'hlt)=cv at *
     by_cases hq:s.ins[j].ad=L[k]'hlt
     case pos =>
      have HCM:=hid (HCN.out.trans (by rw [if_pos hq]));rw [<-hq] at gb;have n1:(s.ins[j].ad.toList == s.ins[j].ad.toList)=true:=by simp
      clear HCN hcv hq;generalize s.ins[j].ad=xa at *;go_wp2_with fail
      go_quiet (fail)
      have BU:=hid (bel_drewN BV.out nq);go_wp2_with fail
      go_roundg (s.ins.length - (j+1))
      case measure=>omega
      case rel=>exact ⟨j+1,by omega,by omega,by go_num,by rw [HCM.out];go_num,BU⟩
     case neg =>
      have HCM:=hid (HCN.out.trans (by rw [if_neg hq,Nat.add_zero]));have n1:=str_ne hq;clear HCN hcv hq;generalize s.ins[j].ad=xa at *;generalize hyy:L[k]'hlt=yy at *;go_wp2_with fail
      go_quiet (fail)
      have BU:=hid (bel_drewN BV.out nq);go_wp2_with fail
      go_roundg (s.ins.length - (j+1))
      case measure=>omega
      case rel=>exact ⟨j+1,by omega,by omega,by go_num,by rw [HCM.out],BU⟩
    case neg =>
     obtain rfl:j=s.ins.length:=by omega
     have hljz:¬ ((s.ins.length:Nat):Int) < (s.ins.length:Int):=by omega
     have HME:=hid (show metA s.ins (L.take (k+1))=metA s.ins (L.take k)+cntA (s.ins.take s.ins.length) (L[k]'hlt) by rw [List.take_length];exact metA_next hlt);go_wp2_with fail
     go_roundg (L.length - (k+1))
     case measure=>omega
     case rel=>exact ⟨k+1,by omega,by omega,by go_num,by rw [HME.out,Int.natCast_add] <;> rw [List.take_length],BV⟩
  case neg =>
   obtain rfl:k=L.length:=by omega
   have hltz:¬ ((L.length:Nat):Int) < (L.length:Int):=by omega
   have HFD:=hid (show metA s.ins (L.take L.length)=s.ins.length by rw [List.take_length];exact HFO.out);rw [HFD.out];have hle:(L.length:Int)<=(s.ins.length:Int):=by have:=HLL.out;omega
   go_wp2_with (go_at_call 10;refine (HAW.out _ (HG.out _ (HGD.out _ BW.out))).mono ?_;rintro e w9 ⟨rfl,hb9⟩;have BZ:=hid ((HGD.out _ BW.out).trans (hb9.mono (HGD.out _ BW.out).size));clear hb9)
   go_ret
   exact ⟨rfl,HG.out _ BZ.out⟩
end Go.Proofs.YtomhbcfjhgecbaaGreatDoor
namespace Go.Proofs.YtomhbcfjhgecbaaGreatDoor
open Go.RowKit Go.Sort Go.ChangeShapes Go.WideShapes Go.ChangeAt
open Adr (WT)
set_option maxRecDepth 100000 in
theorem addr_from (H:Type) (enc:TypeId × Value->H) (W:World) (base:Nat) (v0:Value) (d0:DataW H) (p0:List MemPlace) (o0:Value.okWide Tryz.prog W .any base 26 v0)
  (h0:DataW.Trod enc Tryz.prog W 0 (fun _=>true) true 26 v0 d0 p0) (q0:Blk.Bk 1048576 d0) (hu:WT W) :
  Calls Tryz.prog 7 #[v0] W fun e W'=>e=.returned (.bool true)/\Below W.heap.size W W':=by
 obtain ⟨s,p,rfl,hs,hr⟩:=state_argb o0 h0 q0;exact laddr_any s p W hu hs hr
end Go.Proofs.YtomhbcfjhgecbaaGreatDoor
