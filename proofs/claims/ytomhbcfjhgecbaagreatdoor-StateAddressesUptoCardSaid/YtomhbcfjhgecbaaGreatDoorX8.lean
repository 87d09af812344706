import Derived.Test.YtomhbcfjhgecbaaGreatDoorX7
import Derived.Test.YtomhbcfjhgecbaaGreatDoorX5
set_option linter.unusedVariables false
set_option linter.unusedSimpArgs false
namespace Go.Proofs.YtomhbcfjhgecbaaGreatDoor
open Go.RowKit Go.Sort Go.Lib
open Go.Lib (hid)
attribute [local go_sem] Stp.frUpon
attribute [local go_sem ↓] ldI_eq
attribute [local go_sem] ldI_run
attribute [local go_sem ↓] stI_eq
attribute [local go_sem] stI_run thereI_drew thereI_new put13_drew put13_new liesI_new rd13_new liesI_drew rd13_drew
def eqLs {α:Type} (p:α->α->Bool):List α->List α->Bool
 | [],[]=>true
 | x :: a,y :: b=>p x y && eqLs p a b
 | _,_=>false
theorem eqLs_true {α:Type} {p:α->α->Bool} : ∀ {a b:List α},eqLs p a b=true ↔ a.length=b.length/\∀ i (h:i < a.length) (h':i < b.length),p a[i] b[i]=true
 | [],[]=>by simp [eqLs]
 | [],y :: b=>by simp [eqLs]
 | x :: a,[]=>by simp [eqLs]
 | x :: a,y :: b=>by
   rw [eqLs,Bool.and_eq_true,eqLs_true];constructor
   . rintro ⟨h0,h1,h2⟩
     refine ⟨by simp [h1],fun i h h'=>?_⟩;cases i with
     | zero=>exact h0
     | succ i=>exact h2 i (by simpa using h) (by simpa using h')
   . rintro ⟨h1,h2⟩
     exact ⟨h2 0 (by simp) (by simp),by simpa using h1,fun i h h'=>h2 (i+1) (by simpa using h) (by simpa using h')⟩
def eqP (x y:Pnd):Bool:=(x.ad.toList == y.ad.toList) && (x.ty.toList == y.ty.toList) && (x.tok.toList == y.tok.toList)
def eqO (x y:Sou):Bool:=(x.nm.toList == y.nm.toList) && (x.se == y.se) && eqV x.v y.v
def eqS (s t:Sta):Bool:=(s.lin.toList == t.lin.toList) && (s.ser == t.ser) && eqLs eqP s.pen t.pen && eqLs eqI s.ins t.ins && eqLs eqO s.out t.out
set_option maxRecDepth 100000 in
set_option maxHeartbeats 4000000 in
theorem pdeq_any (xs ys:List Pnd) (r r2:Option Addr) (c c2:Nat) (w:World) (hK:Sl PdR 3 w (.slice r xs.length c) xs) (hK2:Sl PdR 3 w (.slice r2 ys.length c2) ys) :
  Calls Tryz.prog 41 #[.slice r xs.length c,.slice r2 ys.length c2] w fun e w'=>e=.returned (.bool (eqLs eqP xs ys))/\Below w.heap.size w w':=by
 obtain ⟨_,hlk,hkm⟩:=sl_len hK;obtain ⟨_,hlk2,hkm2⟩:=sl_len hK2;have HK:=hid hK;have HK2:=hid hK2;obtain ⟨R,hR⟩:∃ R,eqLs eqP xs ys=R:=⟨_,rfl⟩;have HR:=hid (show R=true ↔ xs.length=ys.length/\∀ i (h:i < xs.length) (h':i < ys.length),eqP xs[i] ys[i]=true from hR ▸ eqLs_true);rw [hR];clear hK hK2 hR
 by_cases h5:xs.length=ys.length
 case neg =>
  have HF:=hid (show R=false by rw [Bool.eq_false_iff];intro e;exact h5 (HR.out.1 e).1);have e1:((xs.length:Int) != (ys.length:Int))=true:=by simp;omega
  have e2:((xs.length:Int) == (ys.length:Int))=false:=by simp;omega
  clear h5 HR;go_enter Tryz.func41,Tryz.ntmps41;go_wp2
  go_ret
  exact ⟨ret_bool HF.out,Below.refl _ _⟩
 case pos =>
 have e1:((xs.length:Int) != (ys.length:Int))=false:=by simp;omega
 have e2:((xs.length:Int) == (ys.length:Int))=true:=by simp;omega
 have H5:=hid h5;clear h5;go_enter Tryz.func41,Tryz.ntmps41;go_wp2
 clear e1 e2;go_loopg [13] xs.length (fun gg s5 wr=>∃ k:Nat,k<=xs.length/\xs.length - k<=gg/\s5=.int .i64 k/\Aside (Below w.heap.size w wr)/\Aside (∀ i (h:i < xs.length) (h':i < ys.length),i < k->eqP xs[i] ys[i]=true))
 case atStart=>exact ⟨0,Nat.zero_le _,by omega,rfl,Below.refl _ _,fun i _ _ h=>absurd h (by omega)⟩
 case round =>
  obtain ⟨k,hk,hg,rfl,BW,AL⟩:=hrel
  by_cases hlt:k < xs.length
  case pos =>
   have hltz:(k:Int) < (xs.length:Int):=by omega
   have hlt2:k < ys.length:=by have:=H5.out;omega
   have hltz2:(k:Int) < (ys.length:Int):=by omega
   have HKx:=HK.out.below pdR_mono BW.out;have HKy:=HK2.out.below pdR_mono BW.out;obtain ⟨b,off,rfl,hb,g0,g1,g2,_⟩:=pnd_at HKx k hlt;obtain ⟨b2,off2,rfl,hb2,f0,f1,f2,_⟩:=pnd_at HKy k hlt2;have BW2:=hid BW.out;have HQ:=hid (show eqP xs[k] ys[k]=((xs[k].ad.toList == ys[k].ad.toList) && (xs[k].ty.toList == ys[k].ty.toList) && (xs[k].tok.toList == ys[k].tok.toList)) from rfl)
   have HT:=hid (show eqP xs[k] ys[k]=true->∀ i (h:i < xs.length) (h':i < ys.length),i < k+1->eqP xs[i] ys[i]=true from fun hq i h h' hi=>by
    by_cases e:i < k
    . exact AL.out i h h' e
    . obtain rfl:i=k:=by omega
      exact hq)
   have HF:=hid (show eqP xs[k] ys[k]=false->R=false from fun hq=>by
    rw [Bool.eq_false_iff];intro e;have:=(HR.out.1 e).2 k hlt hlt2;rw [hq] at this;cases this)
   clear HKx HKy BW AL;generalize eqP xs[k] ys[k]=Q at *;generalize xs[k]=x at *;generalize ys[k]=y at *;obtain ⟨x1,x2,x3⟩:=x;obtain ⟨y1,y2,y3⟩:=y;dsimp only at *;obtain ⟨q1,hq1⟩:∃ q,(x1.toList == y1.toList)=q:=⟨_,rfl⟩;obtain ⟨q2,hq2⟩:∃ q,(x2.toList == y2.toList)=q:=⟨_,rfl⟩;obtain ⟨q3,hq3⟩:∃ q,(x3.toList == y3.toList)=q:=⟨_,rfl⟩;have n1:(x1.toList != y1.toList)=!q1:=by rw [bne,hq1]
   have n2:(x2.toList != y2.toList)=!q2:=by rw [bne,hq2]
   have n3:(x3.toList != y3.toList)=!q3:=by rw [bne,hq3]
   rw [hq1,hq2,hq3] at HQ;clear n1 n2 n3;cases q1 with
   | false =>
     have HF2:=hid (HF.out HQ.out);clear HT HF HQ;go_wp2_with fail
     go_quiet (fail)
     have BV:=hid (bel_drewN BW2.out nq);go_wp2_with fail
     go_ret
     exact ⟨ret_bool HF2.out,BV.out⟩
   | true =>
   cases q2 with
   | false =>
     have HF2:=hid (HF.out HQ.out);clear HT HF HQ;go_wp2_with fail
     go_quiet (fail)
     have BV:=hid (bel_drewN BW2.out nq);go_wp2_with fail
     go_ret
     exact ⟨ret_bool HF2.out,BV.out⟩
   | true =>
   cases q3 with
   | false =>
     have HF2:=hid (HF.out HQ.out);clear HT HF HQ;go_wp2_with fail
     go_quiet (fail)
     have BV:=hid (bel_drewN BW2.out nq);go_wp2_with fail
     go_ret
     exact ⟨ret_bool HF2.out,BV.out⟩
   | true =>
     have HA:=hid (HT.out HQ.out);clear HT HF HQ;go_wp2_with fail
     go_quiet (fail)
     have BV:=hid (bel_drewN BW2.out nq);go_wp2_with fail
     go_roundg (xs.length - (k+1))
     case measure=>omega
     case rel=>exact ⟨k+1,by omega,by omega,by go_num,BV.out,HA.out⟩
  case neg =>
  have hltz:¬ (k:Int) < (xs.length:Int):=by omega
  have HF:=hid (show R=true from HR.out.2 ⟨H5.out,fun i h h'=>AL.out i h h' (by omega)⟩);have BW2:=hid BW.out;clear AL BW;go_wp2
  go_ret
  exact ⟨ret_bool HF.out,BW2.out⟩
set_option maxRecDepth 100000 in
set_option maxHeartbeats 4000000 in
theorem eqf_in (g:Nat) (p:Ins->Ins->Bool) (eg:∀ args w,(callFunc g args).run Tryz.prog w=.ok (.enter g args) w) (xs ys:List Ins) (r r2:Option Addr) (c c2:Nat) (w:World)
  (hI:Sl InR 13 w (.slice r xs.length c) xs) (hI2:Sl InR 13 w (.slice r2 ys.length c2) ys)
  (hp:∀ (x y:Ins) (u v:Pt) (w:World),InsP w x u->InsP w y v->Calls Tryz.prog g #[.agg (insA x u),.agg (insA y v)] w fun e w'=>e=.returned (.bool (p x y))/\Below w.heap.size w w') :
  Calls Tryz.prog 42 #[.slice r xs.length c,.slice r2 ys.length c2,.func (.func g) #[] #[]] w fun e w'=>e=.returned (.bool (eqLs p xs ys))/\Below w.heap.size w w':=by
 obtain ⟨_,hlc,hcm⟩:=sl_len hI;obtain ⟨_,hlc2,hcm2⟩:=sl_len hI2;have HI:=hid hI;have HI2:=hid hI2;obtain ⟨R,hR⟩:∃ R,eqLs p xs ys=R:=⟨_,rfl⟩;have HR:=hid (show R=true ↔ xs.length=ys.length/\∀ i (h:i < xs.length) (h':i < ys.length),p xs[i] ys[i]=true from hR ▸ eqLs_true);rw [hR];have HP:=hid hp;clear hI hI2 hR hp
 by_cases h4:xs.length=ys.length
 case neg =>
  have HF:=hid (show R=false by rw [Bool.eq_false_iff];intro e;exact h4 (HR.out.1 e).1);have e1:((xs.length:Int) != (ys.length:Int))=true:=by simp;omega
  have e2:((xs.length:Int) == (ys.length:Int))=false:=by simp;omega
  clear h4 HR;go_enter Tryz.func42,Tryz.ntmps42;go_wp2
  go_ret
  exact ⟨ret_bool HF.out,Below.refl _ _⟩
 case pos =>
 have e1:((xs.length:Int) != (ys.length:Int))=false:=by simp;omega
 have e2:((xs.length:Int) == (ys.length:Int))=true:=by simp;omega
 have H4:=hid h4;clear h4;go_enter Tryz.func42,Tryz.ntmps42;go_wp2
 clear e1 e2;go_loopg [17] xs.length (fun gg s6 wr=>∃ k:Nat,k<=xs.length/\xs.length - k<=gg/\s6=.int .i64 k/\Aside (Below w.heap.size w wr)/\Aside (∀ i (h:i < xs.length) (h':i < ys.length),i < k->p xs[i] ys[i]=true))
 case atStart=>exact ⟨0,Nat.zero_le _,by omega,rfl,Below.refl _ _,fun i _ _ h=>absurd h (by omega)⟩
 case round =>
  obtain ⟨j,hj,hg2,rfl,BW,AL⟩:=hrel
  by_cases hlt:j < xs.length
  case pos =>
   have hltz:(j:Int) < (xs.length:Int):=by omega
   have hj0:(0:Int)<=(j:Int):=by omega
   have hlt2:j < ys.length:=by have:=H4.out;omega
   have hltz2:(j:Int) < (ys.length:Int):=by omega
   obtain ⟨b,off,pt,rfl,hb,hx,h5⟩:=in_at (HI.out.below inR_mono BW.out) j hlt;obtain ⟨b2,off2,pt2,rfl,hb2,hy,h6⟩:=in_at (HI2.out.below inR_mono BW.out) j hlt2;have CC:=hid (fun (W:World) (hW:Below wr.heap.size wr W)=>HP.out xs[j] ys[j] pt pt2 W (insP_below hW h5) (insP_below hW h6))
   have HAL:=hid (show p xs[j] ys[j]=true->∀ i (h:i < xs.length) (h':i < ys.length),i < j+1->p xs[i] ys[i]=true from fun hq i h h' hi=>by
    by_cases e:i < j
    . exact AL.out i h h' e
    . obtain rfl:i=j:=by omega
      exact hq)
   have HF:=hid (show p xs[j] ys[j]=false->R=false from fun hq=>by
    rw [Bool.eq_false_iff];intro e;have:=(HR.out.1 e).2 j hlt hlt2;rw [hq] at this;cases this)
   have BW2:=hid BW.out;have hX:=cellsI xs[j] pt;have hY:=cellsI ys[j] pt2;obtain ⟨l1,l2⟩:=liesI_of hX hx;obtain ⟨l3,l4⟩:=liesI_of hY hy;clear BW h5 h6 AL hx hy;generalize hpq:p xs[j] ys[j]=q at *;generalize hIA:insA xs[j] pt=X at *;generalize hIB:insA ys[j] pt2=Y at *;clear hpq hIA hIB;go_upto_region 6 with (fail)
   obtain ⟨W1,hW1⟩:∃ W1,W1=wr.alloc (.cells X 41):=⟨_,rfl⟩;rw [<-hW1];have BA:=hid (show Below wr.heap.size wr W1 from hW1 ▸ (Below.refl _ _).alloc (Nat.le_refl _) _);have HLA:=hid (show W1.heap[wr.heap.size]?=some (.cells X 41) from hW1 ▸ (MapKept.heap_alloc wr _).1);have HZA:=hid (show W1.heap.size=wr.heap.size+1 by rw [hW1];simp);clear hW1;have hm:=l3.below BA.out;have hm1:=hm.1;have hm2:=hm.2.trans l4;clear hm l1 l2 l3 l4;go_upto_region 7 with (fail)
   obtain ⟨W2,hW2⟩:∃ W2,W2=W1.alloc (.cells Y 41):=⟨_,rfl⟩;rw [<-hW2];have HX:=hid (liesI_blk (show W2.heap[wr.heap.size]?=some (.cells X 41) from hW2 ▸ (((MapKept.heap_alloc W1 (.cells Y 41)).2 _ (by have:=HZA.out;omega)).trans HLA.out)) hX);have HY:=hid (liesI_blk (show W2.heap[W1.heap.size]?=some (.cells Y 41) from hW2 ▸ (MapKept.heap_alloc W1 _).1) hY);have B1:=hid (show Below wr.heap.size wr W2 from hW2 ▸ BA.out.alloc BA.out.size _);clear hW2 hm1 hm2 hX hY;obtain ⟨l1,l2⟩:=HX.out;obtain ⟨l3,l4⟩:=HY.out;cases q
   case false =>
    have HF2:=hid (HF.out rfl);clear HAL HF;go_wp2_with (go_at_fn g;refine (CC.out _ B1.out).mono ?_;rintro e w1 ⟨rfl,hb1⟩)
    have B2:=hid (BW2.out.trans ((B1.out.trans (hb1.mono B1.out.size)).mono BW2.out.size));clear hb1;go_ret
    exact ⟨ret_bool HF2.out,B2.out⟩
   case true =>
    have HA:=hid (HAL.out rfl);clear HAL HF;go_wp2_with (go_at_fn g;refine (CC.out _ B1.out).mono ?_;rintro e w1 ⟨rfl,hb1⟩)
    have B2:=hid (BW2.out.trans ((B1.out.trans (hb1.mono B1.out.size)).mono BW2.out.size));clear hb1;go_roundg (xs.length - (j+1))
    case measure=>omega
    case rel=>exact ⟨j+1,by omega,by omega,by go_num,B2.out,HA.out⟩
  case neg =>
  have hltz:¬ (j:Int) < (xs.length:Int):=by omega
  have HF:=hid (show R=true from HR.out.2 ⟨H4.out,fun i h h'=>AL.out i h h' (by omega)⟩);have BW2:=hid BW.out;clear AL BW;go_wp2
  go_ret
  exact ⟨ret_bool HF.out,BW2.out⟩
set_option maxRecDepth 100000 in
set_option maxHeartbeats 4000000 in
theorem eqf_so (g:Nat) (p:Sou->Sou->Bool) (eg:∀ args w,(callFunc g args).run Tryz.prog w=.ok (.enter g args) w) (xs ys:List Sou) (r r2:Option Addr) (c c2:Nat) (w:World)
  (hI:Sl SoR 7 w (.slice r xs.length c) xs) (hI2:Sl SoR 7 w (.slice r2 ys.length c2) ys)
  (hp:∀ (x y:Sou) (u v:Sop) (w:World),VR5 w u.r u.c u.rk u.ck x.v->VR5 w v.r v.c v.rk v.ck y.v->Calls Tryz.prog g #[.agg #[.string x.nm,.int .i64 x.v.kind,.int .i64 x.v.num,.string x.v.str,.slice u.r x.v.items.length u.c,.slice u.rk x.v.keys.length u.ck,.bool x.se],.agg #[.string y.nm,.int .i64 y.v.kind,.int .i64 y.v.num,.string y.v.str,.slice v.r y.v.items.length v.c,.slice v.rk y.v.keys.length v.ck,.bool y.se]] w fun e w'=>e=.returned (.bool (p x y))/\Below w.heap.size w w') :
  Calls Tryz.prog 44 #[.slice r xs.length c,.slice r2 ys.length c2,.func (.func g) #[] #[]] w fun e w'=>e=.returned (.bool (eqLs p xs ys))/\Below w.heap.size w w':=by
 obtain ⟨_,hlc,hcm⟩:=sl_len hI;obtain ⟨_,hlc2,hcm2⟩:=sl_len hI2;have HI:=hid hI;have HI2:=hid hI2;obtain ⟨R,hR⟩:∃ R,eqLs p xs ys=R:=⟨_,rfl⟩;have HR:=hid (show R=true ↔ xs.length=ys.length/\∀ i (h:i < xs.length) (h':i < ys.length),p xs[i] ys[i]=true from hR ▸ eqLs_true);rw [hR];have HP:=hid hp;clear hI hI2 hR hp
 by_cases h4:xs.length=ys.length
 case neg =>
  have HF:=hid (show R=false by rw [Bool.eq_false_iff];intro e;exact h4 (HR.out.1 e).1);have e1:((xs.length:Int) != (ys.length:Int))=true:=by simp;omega
  have e2:((xs.length:Int) == (ys.length:Int))=false:=by simp;omega
  clear h4 HR;go_enter Tryz.func44,Tryz.ntmps44;go_wp2
  go_ret
  exact ⟨ret_bool HF.out,Below.refl _ _⟩
 case pos =>
 have e1:((xs.length:Int) != (ys.length:Int))=false:=by simp;omega
 have e2:((xs.length:Int) == (ys.length:Int))=true:=by simp;omega
 have H4:=hid h4;clear h4;go_enter Tryz.func44,Tryz.ntmps44;go_wp2
 clear e1 e2;go_loopg [17] xs.length (fun gg s6 wr=>∃ k:Nat,k<=xs.length/\xs.length - k<=gg/\s6=.int .i64 k/\Aside (Below w.heap.size w wr)/\Aside (∀ i (h:i < xs.length) (h':i < ys.length),i < k->p xs[i] ys[i]=true))
 case atStart=>exact ⟨0,Nat.zero_le _,by omega,rfl,Below.refl _ _,fun i _ _ h=>absurd h (by omega)⟩
 case round =>
  obtain ⟨j,hj,hg2,rfl,BW,AL⟩:=hrel
  by_cases hlt:j < xs.length
  case pos =>
   have hltz:(j:Int) < (xs.length:Int):=by omega
   have hj0:(0:Int)<=(j:Int):=by omega
   have hlt2:j < ys.length:=by have:=H4.out;omega
   have hltz2:(j:Int) < (ys.length:Int):=by omega
   obtain ⟨b,off,u,rfl,hb,g0,g1,g2,g3,g4,g5,g6,hu,h5⟩:=soX (HI.out.below soR_mono BW.out) j hlt;obtain ⟨b2,off2,v,rfl,hb2,f0,f1,f2,f3,f4,f5,f6,hv,h6⟩:=soX (HI2.out.below soR_mono BW.out) j hlt2;have h5:=h5.1;have h6:=h6.1;rw [hu] at h5;rw [hv] at h6;have CC:=hid (fun (W:World) (hW:Below wr.heap.size wr W)=>HP.out xs[j] ys[j] u v W (h5.below hW) (h6.below hW))
   have HAL:=hid (show p xs[j] ys[j]=true->∀ i (h:i < xs.length) (h':i < ys.length),i < j+1->p xs[i] ys[i]=true from fun hq i h h' hi=>by
    by_cases e:i < j
    . exact AL.out i h h' e
    . obtain rfl:i=j:=by omega
      exact hq)
   have HF:=hid (show p xs[j] ys[j]=false->R=false from fun hq=>by
    rw [Bool.eq_false_iff];intro e;have:=(HR.out.1 e).2 j hlt hlt2;rw [hq] at this;cases this)
   have BW2:=hid BW.out;clear BW h5 h6 AL hu hv;generalize hpq:p xs[j] ys[j]=q at *;clear hpq;have B1:=hid (show Below wr.heap.size wr ((wr.alloc (.cells #[.string xs[j].nm,.int .i64 xs[j].v.kind,.int .i64 xs[j].v.num,.string xs[j].v.str,.slice u.r xs[j].v.items.length u.c,.slice u.rk xs[j].v.keys.length u.ck,.bool xs[j].se] 66)).alloc (.cells #[.string ys[j].nm,.int .i64 ys[j].v.kind,.int .i64 ys[j].v.num,.string ys[j].v.str,.slice v.r ys[j].v.items.length v.c,.slice v.rk ys[j].v.keys.length v.ck,.bool ys[j].se] 66)) from ((Below.refl _ _).alloc (Nat.le_refl _) _).alloc (by simp) _);generalize xs[j].nm=x0 at *;generalize ys[j].nm=y0 at *;generalize xs[j].v.kind=x1 at *;generalize ys[j].v.kind=y1 at *;generalize xs[j].v.num=x2 at *;generalize ys[j].v.num=y2 at *;generalize xs[j].v.str=x3 at *;generalize ys[j].v.str=y3 at *;generalize xs[j].v.items.length=x4 at *;generalize ys[j].v.items.length=y4 at *;generalize xs[j].v.keys.length=x5 at *;generalize ys[j].v.keys.length=y5 at *;generalize xs[j].se=x6 at *;generalize ys[j].se=y6 at *;cases q
   case false =>
    have HF2:=hid (HF.out rfl);clear HAL HF;go_wp2_with (go_at_fn g;refine (CC.out _ B1.out).mono ?_;rintro e w1 ⟨rfl,hb1⟩)
    have B2:=hid (BW2.out.trans ((B1.out.trans (hb1.mono B1.out.size)).mono BW2.out.size));clear hb1;go_ret
    exact ⟨ret_bool HF2.out,B2.out⟩
   case true =>
    have HA:=hid (HAL.out rfl);clear HAL HF;go_wp2_with (go_at_fn g;refine (CC.out _ B1.out).mono ?_;rintro e w1 ⟨rfl,hb1⟩)
    have B2:=hid (BW2.out.trans ((B1.out.trans (hb1.mono B1.out.size)).mono BW2.out.size));clear hb1;go_roundg (xs.length - (j+1))
    case measure=>omega
    case rel=>exact ⟨j+1,by omega,by omega,by go_num,B2.out,HA.out⟩
  case neg =>
  have hltz:¬ (j:Int) < (xs.length:Int):=by omega
  have HF:=hid (show R=true from HR.out.2 ⟨H4.out,fun i h h'=>AL.out i h h' (by omega)⟩);have BW2:=hid BW.out;clear AL BW;go_wp2
  go_ret
  exact ⟨ret_bool HF.out,BW2.out⟩
set_option maxRecDepth 100000 in
set_option maxHeartbeats 4000000 in
theorem eq1_any (x y:Sou) (u v:Sop) (w:World) (hx:VR5 w u.r u.c u.rk u.ck x.v) (hy:VR5 w v.r v.c v.rk v.ck y.v) :
  Calls Tryz.prog 45 #[.agg #[.string x.nm,.int .i64 x.v.kind,.int .i64 x.v.num,.string x.v.str,.slice u.r x.v.items.length u.c,.slice u.rk x.v.keys.length u.ck,.bool x.se],.agg #[.string y.nm,.int .i64 y.v.kind,.int .i64 y.v.num,.string y.v.str,.slice v.r y.v.items.length v.c,.slice v.rk y.v.keys.length v.ck,.bool y.se]] w fun e w'=>e=.returned (.bool (eqO x y))/\Below w.heap.size w w':=by
 have HV:=hid (fun (W:World) (hW:Below w.heap.size w W)=>peq_any x.v y.v u.r u.c u.rk u.ck v.r v.c v.rk v.ck W (hx.below hW) (hy.below hW));have HQ:=hid (show eqO x y=((x.nm.toList == y.nm.toList) && (x.se == y.se) && eqV x.v y.v) from rfl);have B0:=hid (show Below w.heap.size w ((w.alloc (.cells #[.string x.nm,.int .i64 x.v.kind,.int .i64 x.v.num,.string x.v.str,.slice u.r x.v.items.length u.c,.slice u.rk x.v.keys.length u.ck,.bool x.se] 66)).alloc (.cells #[.string y.nm,.int .i64 y.v.kind,.int .i64 y.v.num,.string y.v.str,.slice v.r y.v.items.length v.c,.slice v.rk y.v.keys.length v.ck,.bool y.se] 66)) from ((Below.refl _ _).alloc (Nat.le_refl _) _).alloc (by simp) _);obtain ⟨b1,e1⟩:∃ e,(x.nm.toList == y.nm.toList)=e:=⟨_,rfl⟩;obtain ⟨b2,e2⟩:∃ e,(x.se == y.se)=e:=⟨_,rfl⟩;obtain ⟨b3,e3⟩:∃ e,eqV x.v y.v=e:=⟨_,rfl⟩;rw [e1,e2,e3] at HQ;rw [e3] at HV;rw [HQ.out];clear HQ hx hy e3;generalize x.v.items.length=x4 at *;generalize x.v.keys.length=x5 at *;generalize y.v.items.length=y4 at *;generalize y.v.keys.length=y5 at *;cases b1 with
 | false =>
   go_enter Tryz.func45,Tryz.ntmps45;go_wp2_with fail
   go_ret
   exact ⟨rfl,B0.out⟩
 | true =>
 cases b2 with
 | false =>
   go_enter Tryz.func45,Tryz.ntmps45;go_wp2_with fail
   go_ret
   exact ⟨rfl,B0.out⟩
 | true =>
   go_enter Tryz.func45,Tryz.ntmps45;go_wp2_with (go_at_call 46;refine (HV.out _ B0.out).mono ?_;rintro e w1 ⟨rfl,hb1⟩;have B1:=hid (B0.out.trans (hb1.mono B0.out.size));clear hb1)
   go_ret
   exact ⟨rfl,B1.out⟩
theorem eq_enters:∀ args w,(callFunc 43 args).run Tryz.prog w=.ok (.enter 43 args) w:=enters_of Tryz.func43 (by kernel_rfl) rfl
theorem eq1_enters:∀ args w,(callFunc 45 args).run Tryz.prog w=.ok (.enter 45 args) w:=enters_of Tryz.func45 (by kernel_rfl) rfl
set_option maxRecDepth 100000 in
set_option maxHeartbeats 8000000 in
theorem equal_sta (s t:Sta) (p q:Sp) (w:World) (h:StaP w s p) (h2:StaP w t q) :
  Calls Tryz.prog 13 #[.agg (staA s p),.agg (staA t q)] w fun e w'=>e=.returned (.bool (eqS s t))/\Below w.heap.size w w':=by
 have HPD:=hid (fun (W:World) (hW:Below w.heap.size w W)=>pdeq_any s.pen t.pen p.rp q.rp p.cp q.cp W (h.2.1.below pdR_mono hW) (h2.2.1.below pdR_mono hW));have HIN:=hid (fun (W:World) (hW:Below w.heap.size w W)=>eqf_in 43 eqI eq_enters s.ins t.ins p.ri q.ri p.ci q.ci W (h.1.below inR_mono hW) (h2.1.below inR_mono hW) (fun x y u v w hx hy=>same_any x y u v w hx hy));have HSO:=hid (fun (W:World) (hW:Below w.heap.size w W)=>eqf_so 45 eqO eq1_enters s.out t.out p.ro q.ro p.co q.co W (h.2.2.1.below soR_mono hW) (h2.2.2.1.below soR_mono hW) (fun x y u v w hx hy=>eq1_any x y u v w hx hy));obtain ⟨W0,hW0,hb0,hz0,hc0,hc2⟩:=two_new' w (.cells #[.string s.lin,.int .i64 s.ser,.slice p.ri s.ins.length p.ci,.slice p.rp s.pen.length p.cp,.slice p.ro s.out.length p.co] 26) (.cells #[.string t.lin,.int .i64 t.ser,.slice q.ri t.ins.length q.ci,.slice q.rp t.pen.length q.cp,.slice q.ro t.out.length q.co] 26);have HW0:=hid hW0;have HB0:=hid hb0;have s0:W0.cell? ⟨w.heap.size,0,none⟩=some (.string s.lin):=cellv hc0 0 rfl;have s1:W0.cell? ⟨w.heap.size,1,none⟩=some (.int .i64 s.ser):=cellv hc0 1 rfl;have s2:W0.cell? ⟨w.heap.size,2,none⟩=some (.slice p.ri s.ins.length p.ci):=cellv hc0 2 rfl;have s3:W0.cell? ⟨w.heap.size,3,none⟩=some (.slice p.rp s.pen.length p.cp):=cellv hc0 3 rfl;have s4:W0.cell? ⟨w.heap.size,4,none⟩=some (.slice p.ro s.out.length p.co):=cellv hc0 4 rfl;have t0:W0.cell? ⟨w.heap.size+1,0,none⟩=some (.string t.lin):=cellv hc2 0 rfl;have t1:W0.cell? ⟨w.heap.size+1,1,none⟩=some (.int .i64 t.ser):=cellv hc2 1 rfl;have t2:W0.cell? ⟨w.heap.size+1,2,none⟩=some (.slice q.ri t.ins.length q.ci):=cellv hc2 2 rfl;have t3:W0.cell? ⟨w.heap.size+1,3,none⟩=some (.slice q.rp t.pen.length q.cp):=cellv hc2 3 rfl;have t4:W0.cell? ⟨w.heap.size+1,4,none⟩=some (.slice q.ro t.out.length q.co):=cellv hc2 4 rfl;have HCE:=hid (fun (W:World) (hW:Below W0.heap.size W0 W)=>show W.cell? ⟨w.heap.size,2,none⟩=some (.slice p.ri s.ins.length p.ci)/\W.cell? ⟨w.heap.size,4,none⟩=some (.slice p.ro s.out.length p.co)/\W.cell? ⟨w.heap.size+1,2,none⟩=some (.slice q.ri t.ins.length q.ci)/\W.cell? ⟨w.heap.size+1,4,none⟩=some (.slice q.ro t.out.length q.co) from ⟨bget hW s2,bget hW s4,bget hW t2,bget hW t4⟩);have HG:=hid (fun (W:World) (hW:Below W0.heap.size W0 W)=>HB0.out.trans (hW.mono HB0.out.size));have BC:=hid (Below.refl W0.heap.size W0);have HQ:=hid (show eqS s t=((s.lin.toList == t.lin.toList) && (s.ser == t.ser) && eqLs eqP s.pen t.pen && eqLs eqI s.ins t.ins && eqLs eqO s.out t.out) from rfl);obtain ⟨b1,e1⟩:∃ e,(s.lin.toList == t.lin.toList)=e:=⟨_,rfl⟩;obtain ⟨b2,e2⟩:∃ e,(s.ser == t.ser)=e:=⟨_,rfl⟩;obtain ⟨b3,e3⟩:∃ e,eqLs eqP s.pen t.pen=e:=⟨_,rfl⟩;obtain ⟨b4,e4⟩:∃ e,eqLs eqI s.ins t.ins=e:=⟨_,rfl⟩;obtain ⟨b5,e5⟩:∃ e,eqLs eqO s.out t.out=e:=⟨_,rfl⟩;rw [e1,e2,e3,e4,e5] at HQ;rw [e3] at HPD;rw [e4] at HIN;rw [e5] at HSO;rw [HQ.out];clear HQ h h2 e3 e4 e5 hc0 hc2 hz0 hb0 hW0;unfold staA;cases b1 with
 | false =>
   go_enter Tryz.func13,Tryz.ntmps13;go_upto_region 1 with (fail)
   rw [<-HW0.out];clear HW0;go_wp2_with (first | (go_at_call 41;refine (HPD.out _ (HG.out _ BC.out)).mono ?_;rintro e w1 ⟨rfl,hb1⟩;have BC:=hid (BC.out.trans (hb1.mono BC.out.size));clear hb1;obtain ⟨s2,s4,t2,t4⟩:=HCE.out _ BC.out) | (go_at_call 42;refine (HIN.out _ (HG.out _ BC.out)).mono ?_;rintro e w1 ⟨rfl,hb1⟩;have BC:=hid (BC.out.trans (hb1.mono BC.out.size));clear hb1;obtain ⟨s2,s4,t2,t4⟩:=HCE.out _ BC.out) | (go_at_call 44;refine (HSO.out _ (HG.out _ BC.out)).mono ?_;rintro e w1 ⟨rfl,hb1⟩;have BC:=hid (BC.out.trans (hb1.mono BC.out.size));clear hb1))
   go_ret
   exact ⟨rfl,HG.out _ BC.out⟩
 | true =>
 cases b2 with
 | false =>
   go_enter Tryz.func13,Tryz.ntmps13;go_upto_region 1 with (fail)
   rw [<-HW0.out];clear HW0;go_wp2_with (first | (go_at_call 41;refine (HPD.out _ (HG.out _ BC.out)).mono ?_;rintro e w1 ⟨rfl,hb1⟩;have BC:=hid (BC.out.trans (hb1.mono BC.out.size));clear hb1;obtain ⟨s2,s4,t2,t4⟩:=HCE.out _ BC.out) | (go_at_call 42;refine (HIN.out _ (HG.out _ BC.out)).mono ?_;rintro e w1 ⟨rfl,hb1⟩;have BC:=hid (BC.out.trans (hb1.mono BC.out.size));clear hb1;obtain ⟨s2,s4,t2,t4⟩:=HCE.out _ BC.out) | (go_at_call 44;refine (HSO.out _ (HG.out _ BC.out)).mono ?_;rintro e w1 ⟨rfl,hb1⟩;have BC:=hid (BC.out.trans (hb1.mono BC.out.size));clear hb1))
   go_ret
   exact ⟨rfl,HG.out _ BC.out⟩
 | true =>
 cases b3 with
 | false =>
   go_enter Tryz.func13,Tryz.ntmps13;go_upto_region 1 with (fail)
   rw [<-HW0.out];clear HW0;go_wp2_with (first | (go_at_call 41;refine (HPD.out _ (HG.out _ BC.out)).mono ?_;rintro e w1 ⟨rfl,hb1⟩;have BC:=hid (BC.out.trans (hb1.mono BC.out.size));clear hb1;obtain ⟨s2,s4,t2,t4⟩:=HCE.out _ BC.out) | (go_at_call 42;refine (HIN.out _ (HG.out _ BC.out)).mono ?_;rintro e w1 ⟨rfl,hb1⟩;have BC:=hid (BC.out.trans (hb1.mono BC.out.size));clear hb1;obtain ⟨s2,s4,t2,t4⟩:=HCE.out _ BC.out) | (go_at_call 44;refine (HSO.out _ (HG.out _ BC.out)).mono ?_;rintro e w1 ⟨rfl,hb1⟩;have BC:=hid (BC.out.trans (hb1.mono BC.out.size));clear hb1))
   go_ret
   exact ⟨rfl,HG.out _ BC.out⟩
 | true =>
 cases b4 with
 | false =>
   go_enter Tryz.func13,Tryz.ntmps13;go_upto_region 1 with (fail)
   rw [<-HW0.out];clear HW0;go_wp2_with (first | (go_at_call 41;refine (HPD.out _ (HG.out _ BC.out)).mono ?_;rintro e w1 ⟨rfl,hb1⟩;have BC:=hid (BC.out.trans (hb1.mono BC.out.size));clear hb1;obtain ⟨s2,s4,t2,t4⟩:=HCE.out _ BC.out) | (go_at_call 42;refine (HIN.out _ (HG.out _ BC.out)).mono ?_;rintro e w1 ⟨rfl,hb1⟩;have BC:=hid (BC.out.trans (hb1.mono BC.out.size));clear hb1;obtain ⟨s2,s4,t2,t4⟩:=HCE.out _ BC.out) | (go_at_call 44;refine (HSO.out _ (HG.out _ BC.out)).mono ?_;rintro e w1 ⟨rfl,hb1⟩;have BC:=hid (BC.out.trans (hb1.mono BC.out.size));clear hb1))
   go_ret
   exact ⟨rfl,HG.out _ BC.out⟩
 | true =>
 cases b5 with
 | false =>
   go_enter Tryz.func13,Tryz.ntmps13;go_upto_region 1 with (fail)
   rw [<-HW0.out];clear HW0;go_wp2_with (first | (go_at_call 41;refine (HPD.out _ (HG.out _ BC.out)).mono ?_;rintro e w1 ⟨rfl,hb1⟩;have BC:=hid (BC.out.trans (hb1.mono BC.out.size));clear hb1;obtain ⟨s2,s4,t2,t4⟩:=HCE.out _ BC.out) | (go_at_call 42;refine (HIN.out _ (HG.out _ BC.out)).mono ?_;rintro e w1 ⟨rfl,hb1⟩;have BC:=hid (BC.out.trans (hb1.mono BC.out.size));clear hb1;obtain ⟨s2,s4,t2,t4⟩:=HCE.out _ BC.out) | (go_at_call 44;refine (HSO.out _ (HG.out _ BC.out)).mono ?_;rintro e w1 ⟨rfl,hb1⟩;have BC:=hid (BC.out.trans (hb1.mono BC.out.size));clear hb1))
   go_ret
   exact ⟨rfl,HG.out _ BC.out⟩
 | true =>
 go_enter Tryz.func13,Tryz.ntmps13;go_upto_region 1 with (fail)
 rw [<-HW0.out];clear HW0;go_wp2_with (first | (go_at_call 41;refine (HPD.out _ (HG.out _ BC.out)).mono ?_;rintro e w1 ⟨rfl,hb1⟩;have BC:=hid (BC.out.trans (hb1.mono BC.out.size));clear hb1;obtain ⟨s2,s4,t2,t4⟩:=HCE.out _ BC.out) | (go_at_call 42;refine (HIN.out _ (HG.out _ BC.out)).mono ?_;rintro e w1 ⟨rfl,hb1⟩;have BC:=hid (BC.out.trans (hb1.mono BC.out.size));clear hb1;obtain ⟨s2,s4,t2,t4⟩:=HCE.out _ BC.out) | (go_at_call 44;refine (HSO.out _ (HG.out _ BC.out)).mono ?_;rintro e w1 ⟨rfl,hb1⟩;have BC:=hid (BC.out.trans (hb1.mono BC.out.size));clear hb1))
 go_ret
 exact ⟨rfl,HG.out _ BC.out⟩
end Go.Proofs.YtomhbcfjhgecbaaGreatDoor
namespace Go.Proofs.YtomhbcfjhgecbaaGreatDoor
open Go.RowKit Go.Sort Go.Lib
open Go.Lib (hid)
attribute [local go_sem] Stp.frUpon
attribute [local go_sem ↓] ldI_eq
attribute [local go_sem] ldI_run
attribute [local go_sem ↓] stI_eq
attribute [local go_sem] stI_run thereI_drew thereI_new put13_drew put13_new liesI_new rd13_new liesI_drew rd13_drew
end Go.Proofs.YtomhbcfjhgecbaaGreatDoor
namespace Go.Proofs.YtomhbcfjhgecbaaGreatDoor
open Go.RowKit Go.Sort Go.Lib
open Go.Lib (hid)
attribute [local go_sem] Stp.frUpon
attribute [local go_sem ↓] ldI_eq
attribute [local go_sem] ldI_run
attribute [local go_sem ↓] stI_eq
attribute [local go_sem] stI_run thereI_drew thereI_new put13_drew put13_new liesI_new rd13_new liesI_drew rd13_drew
namespace Stp
def sPtr (o:Obj):Spc:=⟨fun v=>∃ b,v=.pointer (some ⟨b,0,none⟩),fun v w=>∃ b,v=.pointer (some ⟨b,0,none⟩)/\w.heap[b]?=some o⟩
theorem stPtr (o:Obj):∀ v,Stb ((sPtr o).R v):=fun _ _ _ ⟨b,e,h⟩ hl=>⟨b,e,(Below.block hl b (lt_of_blk h)).trans h⟩
theorem sPtr_at {b:Nat} {o:Obj} {w:World} (h:(sPtr o).R (.pointer (some ⟨b,0,none⟩)) w):w.heap[b]?=some o:=by
 obtain ⟨b',e,h1⟩:=h;simp at e;subst e;exact h1
end Stp
open Stp (wp_region_fresh Spc Stb sVal sBool sPtr stPtr sPtr_at stTrue Lat Bef grw_below wpF_quiet wq grw_ex wpF_told wpF_put wpF_nil wpF_skip noEnter_op)
end Go.Proofs.YtomhbcfjhgecbaaGreatDoor
namespace Go.Proofs.YtomhbcfjhgecbaaGreatDoor
open Go.RowKit Go.Sort Go.Lib
open Go.Lib (hid)
def smI (x:Ins):Bool:=smallB x.at_ 200 && decide (x.dp.length<=40)
def smallS (s:Sta):Bool:=decide (s.ins.length<=40/\s.pen.length<=40/\s.out.length<=40) && (s.ins.all smI && s.out.all fun o=>smallB o.v 200)
theorem all_at {α:Type} {p:α->Bool} {l:List α} {k:Nat} (h:k < l.length) (hk:p l[k]=false):l.all p=false:=by
 rw [Bool.eq_false_iff];intro e;have:=List.all_eq_true.1 e _ (List.getElem_mem h);rw [hk] at this;cases this
theorem all_of {α:Type} {p:α->Bool} {l:List α} (h:∀ k (h:k < l.length),p l[k]=true):l.all p=true:=List.all_eq_true.2 fun x hx=>by
 obtain ⟨k,hk,rfl⟩:=List.mem_iff_getElem.1 hx;exact h k hk
set_option maxRecDepth 100000 in
set_option maxHeartbeats 8000000 in
theorem small_sta (s:Sta) (p:Sp) (w:World) (h:StaP w s p) :
  Calls Tryz.prog 9 #[.agg (staA s p),.int .i64 40,.int .i64 200] w fun e w'=>e=.returned (.bool (smallS s))/\Below w.heap.size w w':=by
 obtain ⟨ri,ci,rp,cp,ro,co⟩:=p;have HIN:=hid (fun (W:World) (hW:Below w.heap.size w W)=>in_at (h.1.below inR_mono hW));have HSO:=hid (fun (W:World) (hW:Below w.heap.size w W)=>soX (h.2.2.1.below soR_mono hW));obtain ⟨_,hlc1,hlm1⟩:=sl_len h.1;obtain ⟨_,hlc2,hlm2⟩:=sl_len h.2.1;obtain ⟨_,hlc3,hlm3⟩:=sl_len h.2.2.1;dsimp only at HIN HSO;obtain ⟨W0,hW0⟩:∃ W0,W0=w.alloc (.cells #[.string s.lin,.int .i64 s.ser,.slice ri s.ins.length ci,.slice rp s.pen.length cp,.slice ro s.out.length co] 26):=⟨_,rfl⟩;have HW0:=hid hW0;have HB0:=hid (show Below w.heap.size w W0 from hW0 ▸ (Below.refl _ _).alloc (Nat.le_refl _) _);have hc0:W0.heap[w.heap.size]?=some (.cells #[.string s.lin,.int .i64 s.ser,.slice ri s.ins.length ci,.slice rp s.pen.length cp,.slice ro s.out.length co] 26):=hW0 ▸ (MapKept.heap_alloc w _).1;have s2:W0.cell? ⟨w.heap.size,2,none⟩=some (.slice ri s.ins.length ci):=cellv hc0 2 rfl;have s3:W0.cell? ⟨w.heap.size,3,none⟩=some (.slice rp s.pen.length cp):=cellv hc0 3 rfl;have s4:W0.cell? ⟨w.heap.size,4,none⟩=some (.slice ro s.out.length co):=cellv hc0 4 rfl;have HCE:=hid (fun (W:World) (hW:Below W0.heap.size W0 W)=>show W.cell? ⟨w.heap.size,2,none⟩=some (.slice ri s.ins.length ci)/\W.cell? ⟨w.heap.size,4,none⟩=some (.slice ro s.out.length co) from ⟨bget hW s2,bget hW s4⟩);have HG:=hid (fun (W:World) (hW:Below W0.heap.size W0 W)=>HB0.out.trans (hW.mono HB0.out.size));have HQ:=hid (show smallS s=(decide (s.ins.length<=40/\s.pen.length<=40/\s.out.length<=40) && (s.ins.all smI && s.out.all fun o=>smallB o.v 200)) from rfl);clear h hc0 hW0;generalize smallS s=R at *;unfold staA;go_enter Tryz.func9,Tryz.ntmps9;go_upto_region 1 with (fail)
 rw [<-HW0.out];clear HW0
 by_cases l0:40 < s.ins.length
 case pos =>
  have o0:(40:Int) < (s.ins.length:Int):=by omega
  have HF:=hid (show R=false by rw [HQ.out,decide_eq_false (by omega)];rfl);clear l0 HQ;go_wp2_with fail
  go_ret
  exact ⟨ret_bool HF.out,HB0.out⟩
 case neg =>
 have o0:¬ (40:Int) < (s.ins.length:Int):=by omega
 by_cases l1:40 < s.pen.length
 case pos =>
  have o1:(40:Int) < (s.pen.length:Int):=by omega
  have HF:=hid (show R=false by rw [HQ.out,decide_eq_false (by omega)];rfl);clear l1 HQ;go_wp2_with fail
  go_ret
  exact ⟨ret_bool HF.out,HB0.out⟩
 case neg =>
 have o1:¬ (40:Int) < (s.pen.length:Int):=by omega
 by_cases l2:40 < s.out.length
 case pos =>
  have o2:(40:Int) < (s.out.length:Int):=by omega
  have HF:=hid (show R=false by rw [HQ.out,decide_eq_false (by omega)];rfl);clear l2 HQ;go_wp2_with fail
  go_ret
  exact ⟨ret_bool HF.out,HB0.out⟩
 case neg =>
 have o2:¬ (40:Int) < (s.out.length:Int):=by omega
 have HQ:=hid (show R=(s.ins.all smI && s.out.all fun o=>smallB o.v 200) by rw [HQ.out,decide_eq_true (by omega)];rfl);clear l0 l1 l2;go_wp2_with fail
 clear o0 o1 o2 s3;have BS:=hid (Below.refl W0.heap.size W0);clear s2 s4;go_loopg [7] s.ins.length (fun gg s9 wr=>∃ k:Nat,k<=s.ins.length/\s.ins.length - k<=gg/\s9=.int .i64 k/\Hid (Below W0.heap.size W0 wr)/\Hid (∀ j (h:j < s.ins.length),j < k->smI s.ins[j]=true))
 case atStart=>exact ⟨0,Nat.zero_le _,by omega,rfl,BS,hid fun j _ h=>absurd h (by omega)⟩
 case round =>
  clear BS;obtain ⟨k,hk,hgg,rfl,BW,AL⟩:=hrel;obtain ⟨s2,s4⟩:=HCE.out _ BW.out
  by_cases hlt:k < s.ins.length
  case pos =>
   have hltz:(k:Int) < (s.ins.length:Int):=by omega
   have HY:=hid (fun (hq:smI s.ins[k]=true)=>show Hid (∀ j (h:j < s.ins.length),j < k+1->smI s.ins[j]=true) from hid fun j h hj=>by
    by_cases e:j < k
    . exact AL.out j h e
    . obtain rfl:j=k:=by omega
      exact hq)
   have HN:=hid (fun (hq:smI s.ins[k]=false)=>show R=false by rw [HQ.out,all_at (p:=smI) hlt hq];simp);clear AL;obtain ⟨b,off,pt,rfl,hb,hx,h5⟩:=HIN.out wr (HG.out _ BW.out) k hlt;have HC:=hid (fun (W:World) (hW:Below wr.heap.size wr W)=>rsmall_any s.ins[k].at_ 200 pt.r pt.c pt.rk pt.ck W (h5.1.below hW) (by decide));have HV:=hid (show smI s.ins[k]=(smallB s.ins[k].at_ 200 && decide (s.ins[k].dp.length<=40)) from rfl);have g4:=hx 4 _ rfl;have g5:=hx 5 _ rfl;have g6:=hx 6 _ rfl;have g7:=hx 7 _ rfl;have g8:=hx 8 _ rfl;have g12:=hx 12 _ rfl;clear h5 hx;generalize smI s.ins[k]=V at *;generalize smallB s.ins[k].at_ 200=V1 at *;generalize s.ins[k].dp.length=dl at *;cases V1 with
   | false =>
     have HF:=hid (HN.out HV.out);clear HN HY HV HQ;go_wp2_with (go_at_call 19;refine (HC.out wr (Below.refl _ _)).mono ?_;rintro e w1 ⟨rfl,hb1⟩;have B1:=hid (BW.out.trans (hb1.mono BW.out.size));clear hb1)
     go_ret
     exact ⟨ret_bool HF.out,HG.out _ B1.out⟩
   | true =>
   by_cases hd:40 < dl
   case pos =>
    have hdz:(40:Int) < (dl:Int):=by omega
    have HF:=hid (HN.out (by rw [HV.out,decide_eq_false (by omega)];rfl));clear HN HY HV HQ hd;go_wp2_with (go_at_call 19;refine (HC.out wr (Below.refl _ _)).mono ?_;rintro e w1 ⟨rfl,hb1⟩;have B1:=hid (BW.out.trans (hb1.mono BW.out.size));obtain ⟨s2,s4⟩:=HCE.out _ B1.out;have g12:=bget hb1 g12;clear hb1)
    go_ret
    exact ⟨ret_bool HF.out,HG.out _ B1.out⟩
   case neg =>
    have hdz:¬ (40:Int) < (dl:Int):=by omega
    have HA:=HY.out (by rw [HV.out,decide_eq_true (by omega)];rfl);clear HN HY HV hd;go_wp2_with (go_at_call 19;refine (HC.out wr (Below.refl _ _)).mono ?_;rintro e w1 ⟨rfl,hb1⟩;have B1:=hid (BW.out.trans (hb1.mono BW.out.size));obtain ⟨s2,s4⟩:=HCE.out _ B1.out;have g12:=bget hb1 g12;clear hb1)
    go_roundg (s.ins.length - (k+1))
    case measure=>omega
    case rel=>exact ⟨k+1,by omega,by omega,by go_num,B1,HA⟩
  case neg =>
   have hltz:¬ (k:Int) < (s.ins.length:Int):=by omega
   have HE:=hid (show s.ins.all smI=true from all_of fun j h=>AL.out j h (by omega));rw [HE.out] at HQ;clear AL HE;go_wp2_with fail
   have BS:=hid BW.out;clear s2 s4;go_loopg [8] s.out.length (fun gg s9 wr=>∃ k:Nat,k<=s.out.length/\s.out.length - k<=gg/\s9=.int .i64 k/\Hid (Below W0.heap.size W0 wr)/\Hid (∀ j (h:j < s.out.length),j < k->(fun o=>smallB o.v 200) s.out[j]=true))
   case atStart=>exact ⟨0,Nat.zero_le _,by omega,rfl,BS,hid fun j _ h=>absurd h (by omega)⟩
   case round =>
    clear BS;obtain ⟨k,hk,hgg,rfl,BW,AL⟩:=hrel;obtain ⟨s2,s4⟩:=HCE.out _ BW.out
    by_cases hlt:k < s.out.length
    case pos =>
     have hltz:(k:Int) < (s.out.length:Int):=by omega
     have HY:=hid (fun (hq:(fun o=>smallB o.v 200) s.out[k]=true)=>show Hid (∀ j (h:j < s.out.length),j < k+1->(fun o=>smallB o.v 200) s.out[j]=true) from hid fun j h hj=>by
      by_cases e:j < k
      . exact AL.out j h e
      . obtain rfl:j=k:=by omega
        exact hq)
     have HN:=hid (fun (hq:(fun o=>smallB o.v 200) s.out[k]=false)=>show R=false by rw [HQ.out,all_at (p:=(fun o=>smallB o.v 200)) hlt hq];simp);clear AL;obtain ⟨b,off,y,rfl,hb,g0,g1,g2,g3,g4,g5,g6,hu,h5⟩:=HSO.out wr (HG.out _ BW.out) k hlt;have h5:=h5.1;rw [hu] at h5;have HC:=hid (fun (W:World) (hW:Below wr.heap.size wr W)=>rsmall_any s.out[k].v 200 y.r y.c y.rk y.ck W (h5.below hW) (by decide));clear h5 hu g0 g6;dsimp only at HN HY;generalize smallB s.out[k].v 200=V1 at *;cases V1 with
     | false =>
       have HF:=hid (HN.out rfl);clear HN HY HQ;go_wp2_with (go_at_call 19;refine (HC.out wr (Below.refl _ _)).mono ?_;rintro e w1 ⟨rfl,hb1⟩;have B1:=hid (BW.out.trans (hb1.mono BW.out.size));clear hb1)
       go_ret
       exact ⟨ret_bool HF.out,HG.out _ B1.out⟩
     | true =>
       have HA:=HY.out rfl;clear HN HY;go_wp2_with (go_at_call 19;refine (HC.out wr (Below.refl _ _)).mono ?_;rintro e w1 ⟨rfl,hb1⟩;have B1:=hid (BW.out.trans (hb1.mono BW.out.size));clear hb1)
       go_roundg (s.out.length - (k+1))
       case measure=>omega
       case rel=>exact ⟨k+1,by omega,by omega,by go_num,B1,HA⟩
    case neg =>
     have hltz:¬ (k:Int) < (s.out.length:Int):=by omega
     have HE:=hid (show s.out.all (fun o=>smallB o.v 200)=true from all_of fun j h=>AL.out j h (by omega));rw [HE.out] at HQ;clear AL HE;go_wp2_with fail
     have BS:=hid BW.out;have HF:=hid (show R=true by rw [HQ.out];rfl);clear HQ;go_ret
     exact ⟨ret_bool HF.out,HG.out _ BS.out⟩
end Go.Proofs.YtomhbcfjhgecbaaGreatDoor
