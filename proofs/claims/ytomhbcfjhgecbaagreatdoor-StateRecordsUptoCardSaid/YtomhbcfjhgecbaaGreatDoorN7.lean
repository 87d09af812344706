import Derived.Test.YtomhbcfjhgecbaaGreatDoorN6
import Derived.Test.YtomhbcfjhgecbaaGreatDoorN5
import Derived.Shelf.SlicesQ.Load
import Derived.Test.YtomhbcfjhgecbaaGreatDoorN3
set_option linter.unusedVariables false
set_option linter.unusedSimpArgs false
namespace Go.Proofs.YtomhbcfjhgecbaaGreatDoor
open Go.RowKit Go.Sort Go.Lib
open Go.Lib (hid)
open Stp (wq au mP sF bT bY aQ kW qj ai dm gQ aC ay aS aW dG)
attribute [local go_sem] Stp.di
attribute [local go_sem ↓] fQ
attribute [local go_sem] dV
attribute [local go_sem ↓] fK
attribute [local go_sem] dH bD bG bJ cu bQ dA bI cO
def J8 (x y:Ins):Bool:=(x.ad.toList == y.ad.toList) && (x.de.toList == y.de.toList) && (x.id.toList == y.id.toList) && (x.ty.toList == y.ty.toList) && (x.ver == y.ver) && (x.ta == y.ta) && (x.cf == y.cf) && decide (x.dp=y.dp) && uM x.at_ y.at_
set_option maxRecDepth 100000 in
set_option maxHeartbeats 16000000 in
theorem KX (x y:Ins) (p q:Pt) (w:World) (hx:jf w x p) (hy:jf w y q) :
  Calls Tryz.prog 43 #[.agg (aH x p),.agg (aH y q)] w fun e w'=>e=.returned (.bool (J8 x y))/\Below w.heap.size w w':=by
 obtain ⟨i,z,A,Z,t,s⟩:=iK w (.cells (aH x p) 41) (.cells (aH y q) 41);have D:=hid z;have j:=hid A;have Q:=hid (fun (W:World) (hW:Below i.heap.size i W)=>show eG W w.heap.size 0/\ik W w.heap.size 0=#[.string x.ad,.string x.de,.string x.id,.string x.ty,.int .i64 x.at_.kind,.int .i64 x.at_.num,.string x.at_.str,.slice p.r x.at_.items.length p.c,.slice p.rk x.at_.keys.length p.ck,.int .i64 x.ver,.bool x.ta,.bool x.cf,.slice p.dr x.dp.length p.dc] from dU ((hW.block _ (by omega)).trans t) (dD x p));have V:=hid (fun (W:World) (hW:Below i.heap.size i W)=>show eG W (w.heap.size+1) 0/\ik W (w.heap.size+1) 0=#[.string y.ad,.string y.de,.string y.id,.string y.ty,.int .i64 y.at_.kind,.int .i64 y.at_.num,.string y.at_.str,.slice q.r y.at_.items.length q.c,.slice q.rk y.at_.keys.length q.ck,.int .i64 y.ver,.bool y.ta,.bool y.cf,.slice q.dr y.dp.length q.dc] from dU ((hW.block _ (by omega)).trans s) (dD y q));have N:=hid (fun (W:World)=>show Calls Tryz.prog 33 #[.agg #[.string x.ad,.string x.de,.string x.id,.string x.ty,.int .i64 x.at_.kind,.int .i64 x.at_.num,.string x.at_.str,.slice p.r x.at_.items.length p.c,.slice p.rk x.at_.keys.length p.ck,.int .i64 x.ver,.bool x.ta,.bool x.cf,.slice p.dr x.dp.length p.dc]] W fun e w'=>e=.returned (.agg #[.string x.ad,.string x.de])/\Below W.heap.size W w' from jm x p W);have O:=hid (fun (W:World)=>show Calls Tryz.prog 33 #[.agg #[.string y.ad,.string y.de,.string y.id,.string y.ty,.int .i64 y.at_.kind,.int .i64 y.at_.num,.string y.at_.str,.slice q.r y.at_.items.length q.c,.slice q.rk y.at_.keys.length q.ck,.int .i64 y.ver,.bool y.ta,.bool y.cf,.slice q.dr y.dp.length q.dc]] W fun e w'=>e=.returned (.agg #[.string y.ad,.string y.de])/\Below W.heap.size W w' from jm y q W);have X:=hid (fun (W:World) (hW:Below i.heap.size i W)=>Io x.dp y.dp p.dr q.dr p.dc q.dc W ((hx.2.1.below bP A).below bP hW) ((hy.2.1.below bP A).below bP hW));have R:=hid (fun (W:World) (hW:Below i.heap.size i W)=>Ic x.at_ y.at_ p.r p.c p.rk p.ck q.r q.c q.rk q.ck W ((hx.1.below A).below hW) ((hy.1.below A).below hW));have u2:i.cell? ⟨w.heap.size,2,none⟩=some (.string x.id):=ae t 2 rfl;have a0:=fun d b=>cell_regrown u2 d b;have u3:i.cell? ⟨w.heap.size,3,none⟩=some (.string x.ty):=ae t 3 rfl;have aE:=fun d b=>cell_regrown u3 d b;have u4:i.cell? ⟨w.heap.size,4,none⟩=some (.int .i64 x.at_.kind):=ae t 4 rfl;have aR:=fun d b=>cell_regrown u4 d b;have u5:i.cell? ⟨w.heap.size,5,none⟩=some (.int .i64 x.at_.num):=ae t 5 rfl;have av:=fun d b=>cell_regrown u5 d b;have u6:i.cell? ⟨w.heap.size,6,none⟩=some (.string x.at_.str):=ae t 6 rfl;have ar:=fun d b=>cell_regrown u6 d b;have u7:i.cell? ⟨w.heap.size,7,none⟩=some (.slice p.r x.at_.items.length p.c):=ae t 7 rfl;have a2:=fun d b=>cell_regrown u7 d b;have u8:i.cell? ⟨w.heap.size,8,none⟩=some (.slice p.rk x.at_.keys.length p.ck):=ae t 8 rfl;have aL:=fun d b=>cell_regrown u8 d b;have u9:i.cell? ⟨w.heap.size,9,none⟩=some (.int .i64 x.ver):=ae t 9 rfl;have aD:=fun d b=>cell_regrown u9 d b;have u10:i.cell? ⟨w.heap.size,10,none⟩=some (.bool x.ta):=ae t 10 rfl;have al:=fun d b=>cell_regrown u10 d b;have u11:i.cell? ⟨w.heap.size,11,none⟩=some (.bool x.cf):=ae t 11 rfl;have aa:=fun d b=>cell_regrown u11 d b;have u12:i.cell? ⟨w.heap.size,12,none⟩=some (.slice p.dr x.dp.length p.dc):=ae t 12 rfl;have af:=fun d b=>cell_regrown u12 d b;have v2:i.cell? ⟨w.heap.size+1,2,none⟩=some (.string y.id):=ae s 2 rfl;have an:=fun d b=>cell_regrown v2 d b;have v3:i.cell? ⟨w.heap.size+1,3,none⟩=some (.string y.ty):=ae s 3 rfl;have a3:=fun d b=>cell_regrown v3 d b;have v4:i.cell? ⟨w.heap.size+1,4,none⟩=some (.int .i64 y.at_.kind):=ae s 4 rfl;have aw:=fun d b=>cell_regrown v4 d b;have v5:i.cell? ⟨w.heap.size+1,5,none⟩=some (.int .i64 y.at_.num):=ae s 5 rfl;have a4:=fun d b=>cell_regrown v5 d b;have v6:i.cell? ⟨w.heap.size+1,6,none⟩=some (.string y.at_.str):=ae s 6 rfl;have aM:=fun d b=>cell_regrown v6 d b;have v7:i.cell? ⟨w.heap.size+1,7,none⟩=some (.slice q.r y.at_.items.length q.c):=ae s 7 rfl;have ao:=fun d b=>cell_regrown v7 d b;have v8:i.cell? ⟨w.heap.size+1,8,none⟩=some (.slice q.rk y.at_.keys.length q.ck):=ae s 8 rfl;have aq:=fun d b=>cell_regrown v8 d b;have v9:i.cell? ⟨w.heap.size+1,9,none⟩=some (.int .i64 y.ver):=ae s 9 rfl;have ap:=fun d b=>cell_regrown v9 d b;have T:i.cell? ⟨w.heap.size+1,10,none⟩=some (.bool y.ta):=ae s 10 rfl;have ab:=fun d b=>cell_regrown T d b;have P:i.cell? ⟨w.heap.size+1,11,none⟩=some (.bool y.cf):=ae s 11 rfl;have ac:=fun d b=>cell_regrown P d b;have J:i.cell? ⟨w.heap.size+1,12,none⟩=some (.slice q.dr y.dp.length q.dc):=ae s 12 rfl;have am:=fun d b=>cell_regrown J d b;obtain ⟨L,h1⟩:∃ e,(x.ad.toList == y.ad.toList)=e:=⟨_,rfl⟩;obtain ⟨I,h2⟩:∃ e,(x.de.toList == y.de.toList)=e:=⟨_,rfl⟩;obtain ⟨Y,h3⟩:∃ e,(x.id.toList == y.id.toList)=e:=⟨_,rfl⟩;obtain ⟨H,h4⟩:∃ e,(x.ty.toList == y.ty.toList)=e:=⟨_,rfl⟩;obtain ⟨e4,h5⟩:∃ e,(x.ver == y.ver)=e:=⟨_,rfl⟩;obtain ⟨S,h6⟩:∃ e,(x.ta == y.ta)=e:=⟨_,rfl⟩;obtain ⟨U,h7⟩:∃ e,(x.cf == y.cf)=e:=⟨_,rfl⟩;obtain ⟨C,G⟩:∃ e,decide (x.dp=y.dp)=e:=⟨_,rfl⟩;obtain ⟨F,E⟩:∃ e,uM x.at_ y.at_=e:=⟨_,rfl⟩;have M:J8 x y=(L && I && Y && H && e4 && S && U && C && F):=by unfold J8;rw [h1,h2,h3,h4,h5,h6,h7,G,E]
 rw [M];rw [G] at X;rw [E] at R;clear hx hy t s Z A z G E M;unfold aH;go_enter Tryz.func43,Tryz.ntmps43;go_upto_region 1 with (fail)
 have z:=D.out;unfold aH at z;rw [<-z];clear z D;refine au (fun k=>match k with | 0=>some (bT (.agg #[.string x.ad,.string x.de,.string x.id,.string x.ty,.int .i64 x.at_.kind,.int .i64 x.at_.num,.string x.at_.str,.slice p.r x.at_.items.length p.c,.slice p.rk x.at_.keys.length p.ck,.int .i64 x.ver,.bool x.ta,.bool x.cf,.slice p.dr x.dp.length p.dc])) | 1=>some (bT (.agg #[.string x.ad,.string x.de])) | 2=>some (bT (.agg #[.string y.ad,.string y.de,.string y.id,.string y.ty,.int .i64 y.at_.kind,.int .i64 y.at_.num,.string y.at_.str,.slice q.r y.at_.items.length q.c,.slice q.rk y.at_.keys.length q.ck,.int .i64 y.ver,.bool y.ta,.bool y.cf,.slice q.dr y.dp.length q.dc])) | 3=>some (bT (.agg #[.string y.ad,.string y.de])) | 45=>some (bY C) | 52=>some (bY F) | _=>none) (by kernel_rfl) (by kernel_rfl) ?_;refine aC (bT (.agg #[.string x.ad,.string x.de,.string x.id,.string x.ty,.int .i64 x.at_.kind,.int .i64 x.at_.num,.string x.at_.str,.slice p.r x.at_.items.length p.c,.slice p.rk x.at_.keys.length p.ck,.int .i64 x.ver,.bool x.ta,.bool x.cf,.slice p.dr x.dp.length p.dc])) (by kernel_rfl) rfl ⟨_,rfl⟩ aQ (fun w4 m u=>?_) ?_
 . have o:=ai m
   obtain ⟨l1,l2⟩:=Q.out w4 o;clear m u o;go_simp
   exact ⟨kW.refl _,rfl,trivial⟩
 rintro _ rfl
 (refine ay ?_;intro K a;go_simp;refine a _ ?_;clear a K)
 refine aC (bT (.agg #[.string x.ad,.string x.de])) (by kernel_rfl) rfl ⟨_,rfl⟩ aQ (fun w4 m u=>?_) ?_
 . have o:=ai m
   have B:=N.out w4;clear m u o;go_simp
   go_at_call 33;refine Calls.mono B ?_;rintro e w5 ⟨rfl,v⟩;exact ⟨_,rfl,v,rfl,trivial⟩
 rintro _ rfl
 (refine ay ?_;intro K a;go_simp;refine a _ ?_;clear a K)
 refine aC (bT (.agg #[.string y.ad,.string y.de,.string y.id,.string y.ty,.int .i64 y.at_.kind,.int .i64 y.at_.num,.string y.at_.str,.slice q.r y.at_.items.length q.c,.slice q.rk y.at_.keys.length q.ck,.int .i64 y.ver,.bool y.ta,.bool y.cf,.slice q.dr y.dp.length q.dc])) (by kernel_rfl) rfl ⟨_,rfl⟩ aQ (fun w4 m u=>?_) ?_
 . have o:=ai m
   obtain ⟨l1,l2⟩:=V.out w4 o;clear m u o;go_simp
   exact ⟨kW.refl _,rfl,trivial⟩
 rintro _ rfl
 (refine ay ?_;intro K a;go_simp;refine a _ ?_;clear a K)
 refine aC (bT (.agg #[.string y.ad,.string y.de])) (by kernel_rfl) rfl ⟨_,rfl⟩ aQ (fun w4 m u=>?_) ?_
 . have o:=ai m
   have B:=O.out w4;clear m u o;go_simp
   go_at_call 33;refine Calls.mono B ?_;rintro e w5 ⟨rfl,v⟩;exact ⟨_,rfl,v,rfl,trivial⟩
 rintro _ rfl
 (refine ay ?_;intro K a;go_simp;refine a _ ?_;clear a K)
 cases L with
 | false =>
   iterate 2 (refine wq ?_;intro K a;go_big_quiet_op;go_big_quiet_on)
   iterate 7 ((iterate 5 (refine aW (by kernel_rfl) ?_));(refine ay ?_;intro K a;go_simp;refine a _ ?_;clear a K);iterate 2 (refine wq ?_;intro K a;go_big_quiet_op;go_big_quiet_on))
   refine aS ?_;intro w6 g n;have f:=ai g;clear g n;have l:=hid (j.out.trans (f.mono j.out.size));clear f;go_wp2_with fail
   go_ret
   exact ⟨rfl,l.out⟩
 | true =>
 cases I with
 | false =>
   iterate 2 (refine wq ?_;intro K a;go_big_quiet_op;go_big_quiet_on)
   iterate 7 ((iterate 5 (refine aW (by kernel_rfl) ?_));(refine ay ?_;intro K a;go_simp;refine a _ ?_;clear a K);iterate 2 (refine wq ?_;intro K a;go_big_quiet_op;go_big_quiet_on))
   refine aS ?_;intro w6 g n;have f:=ai g;clear g n;have l:=hid (j.out.trans (f.mono j.out.size));clear f;go_wp2_with fail
   go_ret
   exact ⟨rfl,l.out⟩
 | true =>
 iterate 2 (refine wq ?_;intro K a;go_big_quiet_op;go_big_quiet_on)
 iterate 7 (refine wq ?_;intro K a;go_big_quiet_op;go_big_quiet_on)
 cases Y with
 | false =>
   iterate 6 ((iterate 5 (refine aW (by kernel_rfl) ?_));(refine ay ?_;intro K a;go_simp;refine a _ ?_;clear a K);iterate 2 (refine wq ?_;intro K a;go_big_quiet_op;go_big_quiet_on))
   refine aS ?_;intro w6 g n;have f:=ai g;clear g n;have l:=hid (j.out.trans (f.mono j.out.size));clear f;go_wp2_with fail
   go_ret
   exact ⟨rfl,l.out⟩
 | true =>
 iterate 7 (refine wq ?_;intro K a;go_big_quiet_op;go_big_quiet_on)
 cases H with
 | false =>
   iterate 5 ((iterate 5 (refine aW (by kernel_rfl) ?_));(refine ay ?_;intro K a;go_simp;refine a _ ?_;clear a K);iterate 2 (refine wq ?_;intro K a;go_big_quiet_op;go_big_quiet_on))
   refine aS ?_;intro w6 g n;have f:=ai g;clear g n;have l:=hid (j.out.trans (f.mono j.out.size));clear f;go_wp2_with fail
   go_ret
   exact ⟨rfl,l.out⟩
 | true =>
 iterate 7 (refine wq ?_;intro K a;go_big_quiet_op;go_big_quiet_on)
 cases e4 with
 | false =>
   iterate 4 ((iterate 5 (refine aW (by kernel_rfl) ?_));(refine ay ?_;intro K a;go_simp;refine a _ ?_;clear a K);iterate 2 (refine wq ?_;intro K a;go_big_quiet_op;go_big_quiet_on))
   refine aS ?_;intro w6 g n;have f:=ai g;clear g n;have l:=hid (j.out.trans (f.mono j.out.size));clear f;go_wp2_with fail
   go_ret
   exact ⟨rfl,l.out⟩
 | true =>
 iterate 7 (refine wq ?_;intro K a;go_big_quiet_op;go_big_quiet_on)
 cases S with
 | false =>
   iterate 3 ((iterate 5 (refine aW (by kernel_rfl) ?_));(refine ay ?_;intro K a;go_simp;refine a _ ?_;clear a K);iterate 2 (refine wq ?_;intro K a;go_big_quiet_op;go_big_quiet_on))
   refine aS ?_;intro w6 g n;have f:=ai g;clear g n;have l:=hid (j.out.trans (f.mono j.out.size));clear f;go_wp2_with fail
   go_ret
   exact ⟨rfl,l.out⟩
 | true =>
 iterate 7 (refine wq ?_;intro K a;go_big_quiet_op;go_big_quiet_on)
 cases U with
 | false =>
   iterate 2 ((iterate 5 (refine aW (by kernel_rfl) ?_));(refine ay ?_;intro K a;go_simp;refine a _ ?_;clear a K);iterate 2 (refine wq ?_;intro K a;go_big_quiet_op;go_big_quiet_on))
   refine aS ?_;intro w6 g n;have f:=ai g;clear g n;have l:=hid (j.out.trans (f.mono j.out.size));clear f;go_wp2_with fail
   go_ret
   exact ⟨rfl,l.out⟩
 | true =>
 iterate 4 (refine wq ?_;intro K a;go_big_quiet_op;go_big_quiet_on)
 refine aC (bY C) (by kernel_rfl) rfl ⟨_,rfl⟩ aQ (fun w4 m u=>?_) ?_
 . have o:=ai m
   have B:=X.out w4 o;clear m u o;go_simp
   go_at_call 87;refine Calls.mono B ?_;rintro e w5 ⟨rfl,v⟩;exact ⟨_,rfl,v,rfl,trivial⟩
 rintro _ rfl
 (refine ay ?_;intro K a;go_simp;refine a _ ?_;clear a K)
 iterate 2 (refine wq ?_;intro K a;go_big_quiet_op;go_big_quiet_on)
 cases C with
 | false =>
   iterate 1 ((iterate 5 (refine aW (by kernel_rfl) ?_));(refine ay ?_;intro K a;go_simp;refine a _ ?_;clear a K);iterate 2 (refine wq ?_;intro K a;go_big_quiet_op;go_big_quiet_on))
   refine aS ?_;intro w6 g n;have f:=ai g;clear g n;have l:=hid (j.out.trans (f.mono j.out.size));clear f;go_wp2_with fail
   go_ret
   exact ⟨rfl,l.out⟩
 | true =>
 iterate 4 (refine wq ?_;intro K a;go_big_quiet_op;go_big_quiet_on)
 refine aC (bY F) (by kernel_rfl) rfl ⟨_,rfl⟩ aQ (fun w4 m u=>?_) ?_
 . have o:=ai m
   have B:=R.out w4 o;clear m u o;go_simp
   go_at_call 46;refine Calls.mono B ?_;rintro e w5 ⟨rfl,v⟩;exact ⟨_,rfl,v,rfl,trivial⟩
 rintro _ rfl
 (refine ay ?_;intro K a;go_simp;refine a _ ?_;clear a K)
 iterate 2 (refine wq ?_;intro K a;go_big_quiet_op;go_big_quiet_on)
 refine aS ?_;intro w6 g n;have f:=ai g;clear g n;have l:=hid (j.out.trans (f.mono j.out.size));clear f;go_wp2_with fail
 go_ret
 exact ⟨rfl,l.out⟩
end Go.Proofs.YtomhbcfjhgecbaaGreatDoor
namespace Go.Proofs.YtomhbcfjhgecbaaGreatDoor
open Go.RowKit Go.Sort Go.Lib
open Go.Lib (hid)
open Adr (WT)
theorem C9 {w:World} (h:WT w):UT w:=h.u
theorem sN {s:ByteArray} (h:s≠⟨#[]⟩):s.toList.isEmpty=false:=by
 cases a:s.toList.isEmpty with
 | false=>rfl
 | true =>
   rw [List.isEmpty_iff,ByteArray.toList_eq] at a;exact absurd (wY (by rw [a])) h
def pF (s:ByteArray):Bool:=decide (s≠⟨#[]⟩) && (decide (s.size<=4096) && vU s)
theorem Df (s:ByteArray) (w:World) (hs:4096 < s.size):Calls Tryz.prog 76 #[.string s] w fun e w'=>e=.returned (.bool false)/\w=w':=by
 have b:¬ (s.size:Int)<=4096:=by omega
 have a:(4096:Int) < (s.size:Int):=by omega
 go_enter Tryz.func76,Tryz.ntmps76;go_wp2
 go_ret
 exact ⟨rfl,rfl⟩
theorem yI (s:ByteArray) (w:World) (hu:UT w):Calls Tryz.prog 31 #[.string s] w fun e w'=>e=.returned (.bool (pF s))/\Below w.heap.size w w':=by
 by_cases a:s=⟨#[]⟩
 . subst a
   go_enter Tryz.func31,Tryz.ntmps31;go_wp2
   go_ret
   exact ⟨rfl,Below.refl _ _⟩
 have g:=sN a
 have f:Hid (Calls Tryz.prog 76 #[.string s] w fun e w'=>e=.returned (.bool (pF s))/\Below w.heap.size w w'):=by
  by_cases c:s.size<=4096
  . exact hid ((wJ s w hu c).mono fun e w' h=>by rw [show pF s=vU s by unfold pF;simp [a,c]];exact h)
  . exact hid ((Df s w (by omega)).mono fun e w' h=>by rw [show pF s=false by unfold pF;simp [c]];exact ⟨h.1,h.2 ▸ Below.refl _ _⟩)
 clear hu a;generalize pF s=v at *;go_enter Tryz.func31,Tryz.ntmps31;go_wp2_with (go_at_call 76;refine f.out.mono ?_;rintro e w1 ⟨rfl,b⟩;have d:=hid b;clear b)
 go_ret
 exact ⟨rfl,d.out⟩
def uh (l:List UInt8):Option (List UInt8):=if Adr.jF l=0 then (match Adr.rP l with | some (_,some (false,ty,_,_))=>some ty | _=>none) else none
def xq (s t:ByteArray):Bool:=decide (uh s.data.toList=some t.data.toList)
theorem GV {l:List UInt8} (h:Adr.jF l≠0):uh l=none:=if_neg h
theorem Fg {l:List UInt8} {xs:List Adr.MS} {ty nm:List UInt8} {k:Adr.bW} (h0:Adr.jF l=0) (h:Adr.yK l xs true ty nm k):uh l=none:=by
 unfold uh;rw [if_pos h0,h.pr]
theorem KZ {l:List UInt8} {xs:List Adr.MS} {ty nm:List UInt8} {k:Adr.bW} (h0:Adr.jF l=0) (h:Adr.yK l xs false ty nm k):uh l=some ty:=by
 unfold uh;rw [if_pos h0,h.pr]
theorem NP (ty:List UInt8) (t:ByteArray):decide (some ty=some t.data.toList)=(ty == t.toList):=by
 rw [ByteArray.toList_eq]
 by_cases h:ty=t.data.toList
 . subst h;simp
 . rw [beq_eq_false_iff_ne.2 h]
   exact decide_eq_false (fun e=>h (Option.some.inj e))
set_option maxHeartbeats 4000000 in
theorem vF (s t:ByteArray) (w:World) (hT:WT w) (hs:s.size<=2000000):Calls Tryz.prog 35 #[.string s,.string t] w fun e w'=>e=.returned (.bool (xq s t))/\Below w.heap.size w w':=by
 by_cases a:Adr.jF s.data.toList=0
 . obtain ⟨o,d,l,q,k,g⟩:=Adr.wu a
   have f:=hid (Adr.xu s w hT hs g a)
   have j:xq s t=(!d && (l == t.toList)):=by
    unfold xq;cases d with
    | true=>rw [Fg a g];simp
    | false=>rw [KZ a g,NP];rfl
   rw [j];clear hT hs g j a;unfold Adr.UC Adr.aV at f;cases d
   all_goals
    go_enter Tryz.func35,Tryz.ntmps35;go_wp2_with (go_at_call 52;refine f.out.mono ?_;rintro e w1 ⟨n,rfl,i,b⟩;obtain ⟨r,p,rfl,_,_⟩:=dJ i;have c:=hid b;clear b i)
    go_ret
    exact ⟨rfl,c.out.trans (((Below.refl _ _).alloc (Nat.le_refl _) _).mono c.out.size)⟩
 . have f:=hid (Adr.wW s w hT hs a)
   rw [show xq s t=false by unfold xq;rw [GV a];rfl];have u:(Adr.jF s.data.toList != 0)=true:=by simp [a]
   have m:(Adr.jF s.data.toList == 0)=false:=by simp [a]
   clear a hT hs;generalize Adr.jF s.data.toList=E at *;unfold Adr.ad0 at f;go_enter Tryz.func35,Tryz.ntmps35;go_wp2_with (go_at_call 52;refine f.out.mono ?_;rintro e w1 ⟨rfl,b⟩;have c:=hid b;clear b)
   go_ret
   exact ⟨rfl,c.out.trans (((Below.refl _ _).alloc (Nat.le_refl _) _).mono c.out.size)⟩
def CP (s:ByteArray):Bool:=decide ((Adr.gp s.data.toList).2=0) && decide (1<=(Adr.gp s.data.toList).1)
theorem wE (s:ByteArray) (w:World) (hT:WT w) (hs:s.size<=2000000):Calls Tryz.prog 77 #[.string s] w fun e w'=>e=.returned (.bool (CP s))/\Below w.heap.size w w':=by
 have g:=hid (Adr.Fb s w hT hs);unfold CP;unfold Adr.Pz at g;generalize Adr.gp s.data.toList=N at *;obtain ⟨n,e⟩:=N;dsimp only at *;clear hT hs
 by_cases c:e=0
 . subst c
   by_cases f:1<=n
   . have d:=hid (show (decide ((0:Int)=0) && decide (1<=n))=true by simp [f])
     rw [d.out];go_enter Tryz.func77,Tryz.ntmps77;go_wp2_with (go_at_call 120;refine g.out.mono ?_;rintro e w1 ⟨rfl,a⟩;have b:=hid a;clear a)
     go_ret
     exact ⟨rfl,b.out⟩
   . have d:=hid (show (decide ((0:Int)=0) && decide (1<=n))=false by simp [f])
     rw [d.out];have i:=hid f;clear f;go_enter Tryz.func77,Tryz.ntmps77;go_wp2_with (go_at_call 120;refine g.out.mono ?_;rintro e w1 ⟨rfl,a⟩;have b:=hid a;clear a)
     go_ret
     exact ⟨ah (by simpa using i.out),b.out⟩
 . have d:=hid (show (decide (e=0) && decide (1<=n))=false by simp [c])
   have k:(e == 0)=false:=by simp [c]
   have j:(e != 0)=true:=by simp [c]
   rw [d.out];clear c;go_enter Tryz.func77,Tryz.ntmps77;go_wp2_with (go_at_call 120;refine g.out.mono ?_;rintro e w1 ⟨rfl,a⟩;have b:=hid a;clear a)
   go_ret
   exact ⟨rfl,b.out⟩
end Go.Proofs.YtomhbcfjhgecbaaGreatDoor
namespace Go.Proofs.YtomhbcfjhgecbaaGreatDoor
open Go.RowKit Go.Sort Go.Lib
def jb (n:Nat) (e:Nat->Int):Int:=match (List.range n).find? (fun j=>decide (e j≠0)) with
 | some j=>e j
 | none=>0
theorem l9 {n k:Nat} {e:Nat->Int} (hk:k < n) (h:∀ j,j < k->e j=0) (he:e k≠0):jb n e=e k:=by
 unfold jb
 have:(List.range n).find? (fun j=>decide (e j≠0))=some k:=by
  rw [List.find?_range_eq_some];refine ⟨by simpa using he,by simpa using hk,fun j a=>?_⟩;simp [h j a]
 rw [this]
theorem iC {n:Nat} {e:Nat->Int} (h:∀ j,j < n->e j=0):jb n e=0:=by
 unfold jb
 have:(List.range n).find? (fun j=>decide (e j≠0))=none:=by
  rw [List.find?_range_eq_none];intro j a;simp [h j a]
 rw [this]
theorem qm {n:Nat} {e:Nat->Int} (h:jb n e=0):∀ j,j < n->e j=0:=by
 unfold jb at h;cases a:(List.range n).find? (fun j=>decide (e j≠0)) with
 | none =>
   rw [List.find?_range_eq_none] at a;intro j b;simpa using a j b
 | some k =>
   rw [a] at h;have:=List.find?_some a;simp at this;exact absurd h this
def ug (a b:ByteArray):Bool:=decide (a.data.toList < b.data.toList)
theorem zU (a b:ByteArray):Op.bytesLess a.toList b.toList=ug a b:=by
 rw [Go.Proofs.bytesLess_eq,ByteArray.toList_eq,ByteArray.toList_eq];rfl
theorem rQ {a b:ByteArray} : ug a b=true ↔ Tz a b:=by unfold ug Tz;rw [pg,decide_eq_true_eq]
theorem OH (a b:ByteArray):(Op.bytesLess a.toList b.toList || (a.toList == b.toList))=!ug b a:=by
 rw [zU];rcases MX.tri a b with h | h | h
 . rw [rQ.2 h]
   have:ug b a=false:=by rw [Bool.eq_false_iff];intro e;exact MX.asym h (rQ.1 e)
   rw [this];rfl
 . subst h
   have:ug a a=false:=by rw [Bool.eq_false_iff];intro e;exact MX.irr _ (rQ.1 e)
   rw [this];simp
 . rw [rQ.2 h]
   have d:ug a b=false:=by rw [Bool.eq_false_iff];intro e;exact MX.asym h (rQ.1 e)
   have c:a≠b:=fun e=>MX.irr b (e ▸ h);rw [d,fP c];rfl
def yA (s:ByteArray):Bool:=decide (Adr.jF s.data.toList=0) && decide (Adr.qJ s.data.toList=s.data.toList)
def oq (l:List ByteArray) (j:Nat):Int:=if yA (l.getD j ⟨#[]⟩) && (decide (j=0) || ug (l.getD (j - 1) ⟨#[]⟩) (l.getD j ⟨#[]⟩)) then 0 else 1
def kX (l:List ByteArray):Bool:=decide (jb l.length (oq l)=0)
def iw (x:Ins):Int:=
 if (xq x.ad x.ty && (decide (x.de=⟨#[]⟩) || CP x.de) && pF x.id)=false then 1
 else if gy vU x.at_≠0 then gy vU x.at_
 else if x.at_.kind≠5 then 6
 else if dR x.at_=false then 11
 else if x.ver < 1 ∨ 9007199254740992 < x.ver then 5
 else if kX x.dp=false then 1 else 0
def yV:Ins:=⟨⟨#[]⟩,⟨#[]⟩,⟨#[]⟩,⟨#[]⟩,.mk 0 0 ⟨#[]⟩ [] [],0,false,false,[]⟩
def jr (l:List Ins) (j:Nat):Int:=if iw (l.getD j yV)≠0 then iw (l.getD j yV) else if j≠0/\0<=dI (aP (l.getD (j - 1) yV)) (aP (l.getD j yV)) then 1 else 0
def Qb:Pnd:=⟨⟨#[]⟩,⟨#[]⟩,⟨#[]⟩⟩
def sG (p:Pnd):Bool:=pF p.tok && xq p.ad p.ty
def kw (l:List Pnd) (j:Nat):Int:=if sG (l.getD j Qb) && (decide (j=0) || ug (l.getD (j - 1) Qb).tok (l.getD j Qb).tok) then 0 else 1
def kZ (o:vS):Int:=if Adr.eH o.nm.data.toList=false then 7 else if gy vU o.v≠0 then gy vU o.v else if dR o.v=false then 11 else 0
def QI:vS:=⟨⟨#[]⟩,.mk 0 0 ⟨#[]⟩ [] [],false⟩
def kH (l:List vS) (j:Nat):Int:=if kZ (l.getD j QI)≠0 then kZ (l.getD j QI) else if j≠0/\ug (l.getD (j - 1) QI).nm (l.getD j QI).nm=false then 1 else 0
def o8 (s:fU):Int:=
 if pF s.lin=false then 1
 else if s.ser < 0 ∨ 9007199254740992 < s.ser then 5
 else if 512 < s.ins.length ∨ 512 < s.pen.length ∨ 512 < s.out.length then 14
 else if jb s.ins.length (jr s.ins)≠0 then jb s.ins.length (jr s.ins)
 else if jb s.pen.length (kw s.pen)≠0 then jb s.pen.length (kw s.pen)
 else jb s.out.length (kH s.out)
end Go.Proofs.YtomhbcfjhgecbaaGreatDoor
namespace Go.Proofs.YtomhbcfjhgecbaaGreatDoor
open Go.RowKit Go.Sort Go.Lib
open Go.Lib (hid)
open Adr (WT)
attribute [local go_sem] Stp.di
attribute [local go_sem ↓] fQ
attribute [local go_sem] dV
attribute [local go_sem ↓] fK
attribute [local go_sem] dH bD bG bJ cu bQ dA bI cO
theorem getD_at {α:Type} {l:List α} {k:Nat} (z:α) (h:k < l.length):l.getD k z=l[k]:=by rw [List.getD_eq_getElem?_getD,List.getElem?_eq_getElem h];rfl
set_option maxHeartbeats 4000000 in
theorem Eo (l:List ByteArray) (r:Option Addr) (c:Nat) (w:World) (hT:WT w) (h:Sl lY 1 w (.slice r l.length c) l) (hs:∀ x∈l,x.size<=2000000) :
  Calls Tryz.prog 80 #[.slice r l.length c] w fun e w'=>e=.returned (.bool (kX l))/\Below w.heap.size w w':=by
 obtain ⟨_,aa,ad⟩:=bi h;have N:=hid (fun (W:World) (hW:Below w.heap.size w W)=>iT (h.below bP hW));have M:=hid (fun (x:ByteArray) (hx:x∈l) (W:World) (hW:Below w.heap.size w W)=>Adr.Fh x W (hT.below hW) (hs x hx));have P:=hid (fun (k:Nat) (B:k < l.length)=>show oq l k=if yA l[k] && (decide (k=0) || ug (l.getD (k - 1) ⟨#[]⟩) l[k]) then 0 else 1 from by unfold oq;rw [getD_at _ B]);have Y:=hid (fun (k:Nat) (B:k < l.length) (h1:∀ j,j < k->oq l j=0) (h2:oq l k=1)=>show kX l=false from by unfold kX;rw [l9 B h1 (by rw [h2];decide),h2];rfl);have HY:=hid (fun (h1:∀ j,j < l.length->oq l j=0)=>show kX l=true from by unfold kX;rw [iC h1];rfl);clear hT h hs;generalize kX l=R at *;go_enter Tryz.func80,Tryz.ntmps80;go_wp2
 go_loopg [9] l.length (fun V s9 wr=>∃ k:Nat,k<=l.length/\l.length - k<=V/\s9=.int .i64 k/\Hid (Below w.heap.size w wr)/\Hid (∀ j,j < k->oq l j=0))
 case atStart=>exact ⟨0,Nat.zero_le _,by omega,rfl,hid (Below.refl _ _),hid fun j h=>absurd h (by omega)⟩
 case round =>
  obtain ⟨k,B,hg,rfl,a,D⟩:=hrel
  by_cases u:k < l.length
  case pos =>
   have J:(k:Int) < (l.length:Int):=by omega
   obtain ⟨b,am,rfl,hb,g0,_⟩:=N.out wr a.out k u;have t:=hid (fun (W:World) (hW:Below w.heap.size w W)=>M.out l[k] (List.getElem_mem u) W hW);have g:=hid (P.out k u);have i:=hid (Y.out k u D.out)
   have m:=hid (fun (h:oq l k=0)=>show Hid (∀ j,j < k+1->oq l j=0) from hid fun j U=>by
    by_cases e:j < k
    . exact D.out j e
    . obtain rfl:j=k:=by omega
      exact h)
   by_cases p:Adr.jF l[k].data.toList=0
   case neg =>
    have s:=hid (i.out (by rw [g.out];unfold yA;simp [p]));have T:(Adr.jF l[k].data.toList != 0)=true:=by simp [p]
    have X:(Adr.jF l[k].data.toList == 0)=false:=by simp [p]
    clear p g i m;generalize Adr.jF l[k].data.toList=E at *;generalize l[k]=x at *;go_wp2_with (go_at_call 125;refine (t.out _ a.out).mono ?_;rintro e w1 ⟨rfl,d⟩;have f:=hid d;clear d)
    go_ret
    exact ⟨ah s.out,a.out.trans (f.out.mono a.out.size)⟩
   case pos =>
   by_cases z:Adr.qJ l[k].data.toList=l[k].data.toList
   case neg =>
    have s:=hid (i.out (by rw [g.out];unfold yA;simp [z]))
    have n:(⟨(Adr.qJ l[k].data.toList).toArray⟩:ByteArray)≠l[k]:=fun e=>z (by
     have:=congrArg (fun b:ByteArray=>b.data.toList) e;simpa using this)
    have T:=jU n;have X:=fP n;rw [p] at t;clear p z n g i m;generalize (⟨(Adr.qJ l[k].data.toList).toArray⟩:ByteArray)=S at *;generalize l[k]=x at *;go_wp2_with (go_at_call 125;refine (t.out _ a.out).mono ?_;rintro e w1 ⟨rfl,d⟩;have f:=hid d;clear d)
    go_ret
    exact ⟨ah s.out,a.out.trans (f.out.mono a.out.size)⟩
   case pos =>
   have G:yA l[k]=true:=by unfold yA;simp [p,z]
   have n:(⟨(Adr.qJ l[k].data.toList).toArray⟩:ByteArray)=l[k]:=by rw [z]
   rw [p,n] at t;rw [G] at g;clear p z n G
   by_cases A:k=0
   case pos =>
    have I:=m.out (by rw [g.out];simp [A]);have ao:¬ (0:Int) < (k:Int):=by omega
    clear g i m A;generalize l[k]=x at *;go_wp2_with (go_at_call 125;refine (t.out _ a.out).mono ?_;rintro e w1 ⟨rfl,d⟩;have f:=hid d;clear d)
    go_roundg (l.length - (k+1))
    case measure=>omega
    case rel=>exact ⟨k+1,by omega,by omega,by go_num,hid (a.out.trans (f.out.mono a.out.size)),I⟩
   case neg =>
   have ab:(0:Int) < (k:Int):=by omega
   have ac:(0:Int)<=(k:Int) - 1:=by omega
   have an:(k:Int) - 1 < (l.length:Int):=by omega
   have al:wrap64 ((k:Int) - 1)=(k:Int) - 1:=by unfold wrap64;omega
   obtain ⟨b',Z,H,_,C,_⟩:=N.out wr a.out (k - 1) (by omega);simp only [Option.some.injEq,Addr.mk.injEq] at H;obtain ⟨rfl,rfl,_⟩:=H;have af:(((k:Int) - 1).toNat)=k - 1:=by omega
   have F:=hid (OH l[k] (l[k - 1]'(by omega)));have o:Hid (oq l k=if ug (l[k - 1]'(by omega)) l[k] then 0 else 1):=hid (by rw [g.out,getD_at _ (by omega:k - 1 < l.length)];simp [A]);clear g;generalize Q:ug (l[k - 1]'(by omega)) l[k]=L at *;clear Q;cases L with
   | true =>
     have I:=m.out (by rw [o.out];rfl);have q:=F.out;simp only [Bool.not_true,Bool.or_eq_false_iff] at q;obtain ⟨O,K⟩:=q;clear o i m F;generalize l[k]=x at *;generalize l[k - 1]=y at *;go_wp2_with (go_at_call 125;refine (t.out _ a.out).mono ?_;rintro e w1 ⟨rfl,d⟩;have f:=hid d;clear d;have C:=az f.out C)
     go_roundg (l.length - (k+1))
     case measure=>omega
     case rel=>exact ⟨k+1,by omega,by omega,by go_num,hid (a.out.trans (f.out.mono a.out.size)),I⟩
   | false =>
     have s:=hid (i.out (by rw [o.out];rfl));have q:=F.out;simp only [Bool.not_false] at q;obtain ⟨v1,O⟩:∃ v,Op.bytesLess l[k].toList (l[k - 1]'(by omega)).toList=v:=⟨_,rfl⟩;obtain ⟨v2,K⟩:∃ v,(l[k].toList == (l[k - 1]'(by omega)).toList)=v:=⟨_,rfl⟩;rw [O,K] at q;clear o i m F;generalize l[k]=x at *;generalize l[k - 1]=y at *;go_wp2_with (go_at_call 125;refine (t.out _ a.out).mono ?_;rintro e w1 ⟨rfl,d⟩;have f:=hid d;clear d;have C:=az f.out C)
     go_ret
     exact ⟨ah s.out,a.out.trans (f.out.mono a.out.size)⟩
  case neg =>
  have J:¬ (k:Int) < (l.length:Int):=by omega
  have s:=hid (HY.out fun j U=>D.out j (by omega));clear D;go_wp2
  go_ret
  exact ⟨ah s.out,a.out⟩
structure Ur (x:Ins):Prop where
 ad:x.ad.size<=2000000
 de:x.de.size<=2000000
 dp:∀ d∈x.dp,d.size<=2000000
theorem NM {x:Ins} (h:(xq x.ad x.ty && (decide (x.de=⟨#[]⟩) || CP x.de) && pF x.id)=false):iw x=1:=by unfold iw;rw [if_pos h]
theorem NK {x:Ins} (h:(xq x.ad x.ty && (decide (x.de=⟨#[]⟩) || CP x.de) && pF x.id)=true):iw x=if gy vU x.at_≠0 then gy vU x.at_
 else if x.at_.kind≠5 then 6
 else if dR x.at_=false then 11
 else if x.ver < 1 ∨ 9007199254740992 < x.ver then 5
 else if kX x.dp=false then 1 else 0:=by unfold iw;rw [if_neg (by rw [h];decide)]
set_option maxRecDepth 100000 in
set_option maxHeartbeats 8000000 in
theorem Aw (x:Ins) (p:Pt) (w:World) (hT:WT w) (hx:jf w x p) (hs:Ur x) :
  Calls Tryz.prog 32 #[.agg (aH x p)] w fun e w'=>e=.returned (.int .i64 (iw x))/\Below w.heap.size w w':=by
 have J:=hid (fun (W:World) (hW:Below w.heap.size w W)=>vF x.ad x.ty W (hT.below hW) hs.ad);have L:=hid (fun (W:World) (hW:Below w.heap.size w W)=>wE x.de W (hT.below hW) hs.de);have M:=hid (fun (W:World) (hW:Below w.heap.size w W)=>yI x.id W (C9 (hT.below hW)));have T:=hid (fun (W:World) (hW:Below w.heap.size w W)=>yD x.at_ p.r p.c p.rk p.ck W (hx.1.below hW) (C9 (hT.below hW)));have H:=hid (fun (W:World) (hW:Below w.heap.size w W)=>xe x.at_ p.r p.c p.rk p.ck W (hx.1.below hW));have P:=hid (fun (W:World) (hW:Below w.heap.size w W)=>Eo x.dp p.dr p.dc W (hT.below hW) (hx.2.1.below bP hW) hs.dp);have Q:Below w.heap.size w (w.alloc (.cells (aH x p) 41)):=(Below.refl _ _).alloc (Nat.le_refl _) _;have A:=(MapKept.heap_alloc w (.cells (aH x p) 41)).1;obtain ⟨B,E⟩:∃ B,B=w.alloc (.cells (aH x p) 41):=⟨_,rfl⟩;rw [<-E] at Q A;have U:=hid E;have V:=hid Q;have u0:B.cell? ⟨w.heap.size,0,none⟩=some (.string x.ad):=ae A 0 rfl;have u1:B.cell? ⟨w.heap.size,1,none⟩=some (.string x.de):=ae A 1 rfl;have u2:B.cell? ⟨w.heap.size,2,none⟩=some (.string x.id):=ae A 2 rfl;have u3:B.cell? ⟨w.heap.size,3,none⟩=some (.string x.ty):=ae A 3 rfl;have u4:B.cell? ⟨w.heap.size,4,none⟩=some (.int .i64 x.at_.kind):=ae A 4 rfl;have u5:B.cell? ⟨w.heap.size,5,none⟩=some (.int .i64 x.at_.num):=ae A 5 rfl;have u6:B.cell? ⟨w.heap.size,6,none⟩=some (.string x.at_.str):=ae A 6 rfl;have u7:B.cell? ⟨w.heap.size,7,none⟩=some (.slice p.r x.at_.items.length p.c):=ae A 7 rfl;have u8:B.cell? ⟨w.heap.size,8,none⟩=some (.slice p.rk x.at_.keys.length p.ck):=ae A 8 rfl;have u9:B.cell? ⟨w.heap.size,9,none⟩=some (.int .i64 x.ver):=ae A 9 rfl;have u10:B.cell? ⟨w.heap.size,10,none⟩=some (.bool x.ta):=ae A 10 rfl;have u11:B.cell? ⟨w.heap.size,11,none⟩=some (.bool x.cf):=ae A 11 rfl;have u12:B.cell? ⟨w.heap.size,12,none⟩=some (.slice p.dr x.dp.length p.dc):=ae A 12 rfl;have aa:=hid (show B.heap.size=w.heap.size+1 by rw [E];simp);have K:=@NM x;have I:=@NK x;obtain ⟨b1,Y⟩:∃ b,xq x.ad x.ty=b:=⟨_,rfl⟩;obtain ⟨b2,Z⟩:∃ b,CP x.de=b:=⟨_,rfl⟩;obtain ⟨b3,e3⟩:∃ b,pF x.id=b:=⟨_,rfl⟩;obtain ⟨N,e4⟩:∃ b,gy vU x.at_=b:=⟨_,rfl⟩;obtain ⟨kn,e5⟩:∃ b,dR x.at_=b:=⟨_,rfl⟩;obtain ⟨ds,X⟩:∃ b,kX x.dp=b:=⟨_,rfl⟩;rw [Y,Z,e3] at K I;rw [e4,e5,X] at I;rw [Y] at J;rw [Z] at L;rw [e3] at M;rw [e4] at T;rw [e5] at H;rw [X] at P;have G:=hid K;have f:=hid I;clear K I Y Z e3 e4 e5 X hT hx hs A Q E;generalize iw x=R at *;unfold aH;go_enter Tryz.func32,Tryz.ntmps32;go_upto_region 1 with (fail)
 have E:=U.out;unfold aH at E;rw [<-E];clear E U;have i:=hid (fun (W:World) (hW:Below B.heap.size B W)=>show W.cell? ⟨w.heap.size,1,none⟩=some (.string x.de)/\W.cell? ⟨w.heap.size,2,none⟩=some (.string x.id)/\W.cell? ⟨w.heap.size,3,none⟩=some (.string x.ty)/\W.cell? ⟨w.heap.size,4,none⟩=some (.int .i64 x.at_.kind)/\W.cell? ⟨w.heap.size,5,none⟩=some (.int .i64 x.at_.num)/\W.cell? ⟨w.heap.size,6,none⟩=some (.string x.at_.str)/\W.cell? ⟨w.heap.size,7,none⟩=some (.slice p.r x.at_.items.length p.c)/\W.cell? ⟨w.heap.size,8,none⟩=some (.slice p.rk x.at_.keys.length p.ck)/\W.cell? ⟨w.heap.size,9,none⟩=some (.int .i64 x.ver)/\W.cell? ⟨w.heap.size,10,none⟩=some (.bool x.ta)/\W.cell? ⟨w.heap.size,11,none⟩=some (.bool x.cf)/\W.cell? ⟨w.heap.size,12,none⟩=some (.slice p.dr x.dp.length p.dc) from ⟨az hW u1,az hW u2,az hW u3,az hW u4,az hW u5,az hW u6,az hW u7,az hW u8,az hW u9,az hW u10,az hW u11,az hW u12⟩);have a:=hid (Below.refl B.heap.size B);have g:=hid (fun (W:World) (hW:Below B.heap.size B W)=>V.out.trans (hW.mono V.out.size));cases b1 with
 | false =>
   have m:=hid (G.out (by simp));clear G;clear f;go_wp2_with (first | (go_at_call 35;refine (J.out _ (g.out _ a.out)).mono ?_;rintro e w1 ⟨rfl,d⟩;have a:=hid (a.out.trans (d.mono a.out.size));clear d;obtain ⟨s,q,t,o,u,z,v,y,n,l,j,k⟩:=i.out _ a.out) | (go_at_call 77;refine (L.out _ (g.out _ a.out)).mono ?_;rintro e w1 ⟨rfl,d⟩;have a:=hid (a.out.trans (d.mono a.out.size));clear d;obtain ⟨s,q,t,o,u,z,v,y,n,l,j,k⟩:=i.out _ a.out) | (go_at_call 31;refine (M.out _ (g.out _ a.out)).mono ?_;rintro e w1 ⟨rfl,d⟩;have a:=hid (a.out.trans (d.mono a.out.size));clear d;obtain ⟨s,q,t,o,u,z,v,y,n,l,j,k⟩:=i.out _ a.out))
   go_ret
   exact ⟨ax m.out,g.out _ a.out⟩
 | true =>
 by_cases D:x.de=⟨#[]⟩
 case pos =>
  have n1:x.de.toList.isEmpty=true:=by rw [D,ByteArray.toList_eq];rfl
  have D:=hid D;cases b3 with
  | false =>
    have m:=hid (G.out (by simp [D.out]));clear G;clear f;go_wp2_with (first | (go_at_call 35;refine (J.out _ (g.out _ a.out)).mono ?_;rintro e w1 ⟨rfl,d⟩;have a:=hid (a.out.trans (d.mono a.out.size));clear d;obtain ⟨s,q,t,o,u,z,v,y,n,l,j,k⟩:=i.out _ a.out) | (go_at_call 77;refine (L.out _ (g.out _ a.out)).mono ?_;rintro e w1 ⟨rfl,d⟩;have a:=hid (a.out.trans (d.mono a.out.size));clear d;obtain ⟨s,q,t,o,u,z,v,y,n,l,j,k⟩:=i.out _ a.out) | (go_at_call 31;refine (M.out _ (g.out _ a.out)).mono ?_;rintro e w1 ⟨rfl,d⟩;have a:=hid (a.out.trans (d.mono a.out.size));clear d;obtain ⟨s,q,t,o,u,z,v,y,n,l,j,k⟩:=i.out _ a.out))
    go_ret
    exact ⟨ax m.out,g.out _ a.out⟩
  | true =>
    have f:=hid (f.out (by simp [D.out]));clear G;go_upto_region 3 with (first | (go_at_call 35;refine (J.out _ (g.out _ a.out)).mono ?_;rintro e w1 ⟨rfl,d⟩;have a:=hid (a.out.trans (d.mono a.out.size));clear d;obtain ⟨s,q,t,o,u,z,v,y,n,l,j,k⟩:=i.out _ a.out) | (go_at_call 77;refine (L.out _ (g.out _ a.out)).mono ?_;rintro e w1 ⟨rfl,d⟩;have a:=hid (a.out.trans (d.mono a.out.size));clear d;obtain ⟨s,q,t,o,u,z,v,y,n,l,j,k⟩:=i.out _ a.out) | (go_at_call 31;refine (M.out _ (g.out _ a.out)).mono ?_;rintro e w1 ⟨rfl,d⟩;have a:=hid (a.out.trans (d.mono a.out.size));clear d;obtain ⟨s,q,t,o,u,z,v,y,n,l,j,k⟩:=i.out _ a.out))
    by_cases F:N=0
    case neg =>
     have m:=hid (f.out.trans (if_pos F));have S:(N != 0)=true:=by simp [F]
     have O:(N == 0)=false:=by simp [F]
     clear F;clear f;go_wp2_with (go_at_call 78;refine (T.out _ (g.out _ a.out)).mono ?_;rintro e w1 ⟨rfl,d⟩;have a:=hid (a.out.trans (d.mono a.out.size));clear d;obtain ⟨s,q,t,o,u,z,v,y,n,l,j,k⟩:=i.out _ a.out)
     go_ret
     exact ⟨ax m.out,g.out _ a.out⟩
    case pos =>
    subst F;have f:=hid (f.out.trans (if_neg (by decide)));go_upto_region 6 with (go_at_call 78;refine (T.out _ (g.out _ a.out)).mono ?_;rintro e w1 ⟨rfl,d⟩;have a:=hid (a.out.trans (d.mono a.out.size));clear d;obtain ⟨s,q,t,o,u,z,v,y,n,l,j,k⟩:=i.out _ a.out)
    by_cases C:x.at_.kind=5
    case neg =>
     have m:=hid (f.out.trans (if_pos C));have S:(x.at_.kind != 5)=true:=by simp [C]
     have O:(x.at_.kind == 5)=false:=by simp [C]
     clear C;clear f;go_wp2_with (fail)
     go_ret
     exact ⟨ax m.out,g.out _ a.out⟩
    case pos =>
    have f:=hid (f.out.trans (if_neg (by simp [C])));have S:(x.at_.kind != 5)=false:=by simp [C]
    have O:(x.at_.kind == 5)=true:=by simp [C]
    clear C;go_upto_region 8 with (fail)
    cases kn with
    | false =>
      have m:=hid (f.out.trans (if_pos rfl));clear f;go_wp2_with (go_at_call 79;refine (H.out _ (g.out _ a.out)).mono ?_;rintro e w1 ⟨rfl,d⟩;have a:=hid (a.out.trans (d.mono a.out.size));clear d;obtain ⟨s,q,t,o,u,z,v,y,n,l,j,k⟩:=i.out _ a.out)
      go_ret
      exact ⟨ax m.out,g.out _ a.out⟩
    | true =>
    have f:=hid (f.out.trans (if_neg (by decide)));go_upto_region 10 with (go_at_call 79;refine (H.out _ (g.out _ a.out)).mono ?_;rintro e w1 ⟨rfl,d⟩;have a:=hid (a.out.trans (d.mono a.out.size));clear d;obtain ⟨s,q,t,o,u,z,v,y,n,l,j,k⟩:=i.out _ a.out)
    by_cases K:x.ver < 1
    case pos =>
     have m:=hid (f.out.trans (if_pos (Or.inl K)));clear f;go_wp2_with (fail)
     go_ret
     exact ⟨ax m.out,g.out _ a.out⟩
    case neg =>
    by_cases I:9007199254740992 < x.ver
    case pos =>
     have m:=hid (f.out.trans (if_pos (Or.inr I)));clear f;go_wp2_with (fail)
     go_ret
     exact ⟨ax m.out,g.out _ a.out⟩
    case neg =>
    have f:=hid (f.out.trans (if_neg (by omega)));go_upto_region 12 with (fail)
    cases ds with
    | false =>
      have m:=hid (f.out.trans (if_pos rfl));clear f;go_wp2_with (go_at_call 80;refine (P.out _ (g.out _ a.out)).mono ?_;rintro e w1 ⟨rfl,d⟩;have a:=hid (a.out.trans (d.mono a.out.size)))
      go_ret
      exact ⟨ax m.out,g.out _ a.out⟩
    | true =>
      have m:=hid (f.out.trans (if_neg (by decide)));clear f;go_wp2_with (go_at_call 80;refine (P.out _ (g.out _ a.out)).mono ?_;rintro e w1 ⟨rfl,d⟩;have a:=hid (a.out.trans (d.mono a.out.size)))
      go_ret
      exact ⟨ax m.out,g.out _ a.out⟩
 case neg =>
 have n1:=sN D;have D:=hid D;cases b2 with
 | false =>
   have m:=hid (G.out (by simp [D.out]));clear G;clear f;go_wp2_with (first | (go_at_call 35;refine (J.out _ (g.out _ a.out)).mono ?_;rintro e w1 ⟨rfl,d⟩;have a:=hid (a.out.trans (d.mono a.out.size));clear d;obtain ⟨s,q,t,o,u,z,v,y,n,l,j,k⟩:=i.out _ a.out) | (go_at_call 77;refine (L.out _ (g.out _ a.out)).mono ?_;rintro e w1 ⟨rfl,d⟩;have a:=hid (a.out.trans (d.mono a.out.size));clear d;obtain ⟨s,q,t,o,u,z,v,y,n,l,j,k⟩:=i.out _ a.out) | (go_at_call 31;refine (M.out _ (g.out _ a.out)).mono ?_;rintro e w1 ⟨rfl,d⟩;have a:=hid (a.out.trans (d.mono a.out.size));clear d;obtain ⟨s,q,t,o,u,z,v,y,n,l,j,k⟩:=i.out _ a.out))
   go_ret
   exact ⟨ax m.out,g.out _ a.out⟩
 | true =>
 cases b3 with
 | false =>
   have m:=hid (G.out (by simp [D.out]));clear G;clear f;go_wp2_with (first | (go_at_call 35;refine (J.out _ (g.out _ a.out)).mono ?_;rintro e w1 ⟨rfl,d⟩;have a:=hid (a.out.trans (d.mono a.out.size));clear d;obtain ⟨s,q,t,o,u,z,v,y,n,l,j,k⟩:=i.out _ a.out) | (go_at_call 77;refine (L.out _ (g.out _ a.out)).mono ?_;rintro e w1 ⟨rfl,d⟩;have a:=hid (a.out.trans (d.mono a.out.size));clear d;obtain ⟨s,q,t,o,u,z,v,y,n,l,j,k⟩:=i.out _ a.out) | (go_at_call 31;refine (M.out _ (g.out _ a.out)).mono ?_;rintro e w1 ⟨rfl,d⟩;have a:=hid (a.out.trans (d.mono a.out.size));clear d;obtain ⟨s,q,t,o,u,z,v,y,n,l,j,k⟩:=i.out _ a.out))
   go_ret
   exact ⟨ax m.out,g.out _ a.out⟩
 | true =>
   have f:=hid (f.out (by simp [D.out]));clear G;go_upto_region 3 with (first | (go_at_call 35;refine (J.out _ (g.out _ a.out)).mono ?_;rintro e w1 ⟨rfl,d⟩;have a:=hid (a.out.trans (d.mono a.out.size));clear d;obtain ⟨s,q,t,o,u,z,v,y,n,l,j,k⟩:=i.out _ a.out) | (go_at_call 77;refine (L.out _ (g.out _ a.out)).mono ?_;rintro e w1 ⟨rfl,d⟩;have a:=hid (a.out.trans (d.mono a.out.size));clear d;obtain ⟨s,q,t,o,u,z,v,y,n,l,j,k⟩:=i.out _ a.out) | (go_at_call 31;refine (M.out _ (g.out _ a.out)).mono ?_;rintro e w1 ⟨rfl,d⟩;have a:=hid (a.out.trans (d.mono a.out.size));clear d;obtain ⟨s,q,t,o,u,z,v,y,n,l,j,k⟩:=i.out _ a.out))
   by_cases F:N=0
   case neg =>
    have m:=hid (f.out.trans (if_pos F));have S:(N != 0)=true:=by simp [F]
    have O:(N == 0)=false:=by simp [F]
    clear F;clear f;go_wp2_with (go_at_call 78;refine (T.out _ (g.out _ a.out)).mono ?_;rintro e w1 ⟨rfl,d⟩;have a:=hid (a.out.trans (d.mono a.out.size));clear d;obtain ⟨s,q,t,o,u,z,v,y,n,l,j,k⟩:=i.out _ a.out)
    go_ret
    exact ⟨ax m.out,g.out _ a.out⟩
   case pos =>
   subst F;have f:=hid (f.out.trans (if_neg (by decide)));go_upto_region 6 with (go_at_call 78;refine (T.out _ (g.out _ a.out)).mono ?_;rintro e w1 ⟨rfl,d⟩;have a:=hid (a.out.trans (d.mono a.out.size));clear d;obtain ⟨s,q,t,o,u,z,v,y,n,l,j,k⟩:=i.out _ a.out)
   by_cases C:x.at_.kind=5
   case neg =>
    have m:=hid (f.out.trans (if_pos C));have S:(x.at_.kind != 5)=true:=by simp [C]
    have O:(x.at_.kind == 5)=false:=by simp [C]
    clear C;clear f;go_wp2_with (fail)
    go_ret
    exact ⟨ax m.out,g.out _ a.out⟩
   case pos =>
   have f:=hid (f.out.trans (if_neg (by simp [C])));have S:(x.at_.kind != 5)=false:=by simp [C]
   have O:(x.at_.kind == 5)=true:=by simp [C]
   clear C;go_upto_region 8 with (fail)
   cases kn with
   | false =>
     have m:=hid (f.out.trans (if_pos rfl));clear f;go_wp2_with (go_at_call 79;refine (H.out _ (g.out _ a.out)).mono ?_;rintro e w1 ⟨rfl,d⟩;have a:=hid (a.out.trans (d.mono a.out.size));clear d;obtain ⟨s,q,t,o,u,z,v,y,n,l,j,k⟩:=i.out _ a.out)
     go_ret
     exact ⟨ax m.out,g.out _ a.out⟩
   | true =>
   have f:=hid (f.out.trans (if_neg (by decide)));go_upto_region 10 with (go_at_call 79;refine (H.out _ (g.out _ a.out)).mono ?_;rintro e w1 ⟨rfl,d⟩;have a:=hid (a.out.trans (d.mono a.out.size));clear d;obtain ⟨s,q,t,o,u,z,v,y,n,l,j,k⟩:=i.out _ a.out)
   by_cases K:x.ver < 1
   case pos =>
    have m:=hid (f.out.trans (if_pos (Or.inl K)));clear f;go_wp2_with (fail)
    go_ret
    exact ⟨ax m.out,g.out _ a.out⟩
   case neg =>
   by_cases I:9007199254740992 < x.ver
   case pos =>
    have m:=hid (f.out.trans (if_pos (Or.inr I)));clear f;go_wp2_with (fail)
    go_ret
    exact ⟨ax m.out,g.out _ a.out⟩
   case neg =>
   have f:=hid (f.out.trans (if_neg (by omega)));go_upto_region 12 with (fail)
   cases ds with
   | false =>
     have m:=hid (f.out.trans (if_pos rfl));clear f;go_wp2_with (go_at_call 80;refine (P.out _ (g.out _ a.out)).mono ?_;rintro e w1 ⟨rfl,d⟩;have a:=hid (a.out.trans (d.mono a.out.size)))
     go_ret
     exact ⟨ax m.out,g.out _ a.out⟩
   | true =>
     have m:=hid (f.out.trans (if_neg (by decide)));clear f;go_wp2_with (go_at_call 80;refine (P.out _ (g.out _ a.out)).mono ?_;rintro e w1 ⟨rfl,d⟩;have a:=hid (a.out.trans (d.mono a.out.size)))
     go_ret
     exact ⟨ax m.out,g.out _ a.out⟩
end Go.Proofs.YtomhbcfjhgecbaaGreatDoor
namespace Go.Proofs.YtomhbcfjhgecbaaGreatDoor
open Go.RowKit Go.Sort Go.Lib
open Go.Lib (hid)
open Adr (WT)
attribute [local go_sem] Stp.di
attribute [local go_sem ↓] fQ
attribute [local go_sem] dV
attribute [local go_sem ↓] fK
attribute [local go_sem] dH bD bG bJ cu bQ dA bI cO
theorem NZ {P:Program} (w:World) (ts:Array TypeId) (t:TypeId) (k k2 k3:IntKind) (x y z:Int) :
  (Builtin.max_ ts t #[.int k x,.int k2 y,.int k3 z]).run P w=.ok (.int k (max (max x y) z)) w:=by
 have e:∀ x y:Int,(if y > x then y else x)=max x y:=fun x y=>by
  rw [Int.max_def];split <;> split <;> omega
 simp [Builtin.max_,Builtin.max2,e]
attribute [local go_sem high] NZ
theorem UV (a b c:Nat):max (max (a:Int) (b:Int)) (c:Int)=((max (max a b) c:Nat):Int):=by omega
open Stp (wq au mP sF bT bY aQ kW qj ai dm gQ aC ay aS aW dG)
theorem TJ {w:World} {r:Option Addr} {n c:Nat} {xs:List vS} (h:Sl Ez 7 w (.slice r n c) xs) (i:Nat) (hi:i < xs.length) :
  ∃ b off y,r=some ⟨b,off,none⟩/\b < w.heap.size/\w.cell? ⟨b,off+i * 7,none⟩=some (.string xs[i].nm)/\w.cell? ⟨b,off+i * 7+1,none⟩=some (.int .i64 xs[i].v.kind)/\w.cell? ⟨b,off+i * 7+2,none⟩=some (.int .i64 xs[i].v.num)/\w.cell? ⟨b,off+i * 7+3,none⟩=some (.string xs[i].v.str)/\w.cell? ⟨b,off+i * 7+4,none⟩=some (.slice y.r xs[i].v.items.length y.c)/\w.cell? ⟨b,off+i * 7+5,none⟩=some (.slice y.rk xs[i].v.keys.length y.ck)/\w.cell? ⟨b,off+i * 7+6,none⟩=some (.bool xs[i].se)/\y.x=xs[i]/\Pn w y:=by
 obtain ⟨p,o,e,q,s,k⟩:=h;simp at e;obtain ⟨rfl,rfl,rfl⟩:=e;obtain ⟨b,off,m,g,t,a,y,f,j,l⟩:=k i hi;subst j;have d:=a 0 _ rfl;rw [<-f];exact ⟨b,off,y,g,World.block_lt_of_cell? w _ d,d,a 1 _ rfl,a 2 _ rfl,a 3 _ rfl,a 4 _ rfl,a 5 _ rfl,a 6 _ rfl,rfl,l⟩
set_option maxRecDepth 100000 in
set_option maxHeartbeats 4000000 in
theorem Hm (x:vS) (r:Option Addr) (c:Nat) (rk:Option Addr) (ck:Nat) (w:World) (hT:WT w) (hx:jJ w r c rk ck x.v) (hs:x.nm.size<=2000000) :
  Calls Tryz.prog 36 #[.agg #[.string x.nm,.int .i64 x.v.kind,.int .i64 x.v.num,.string x.v.str,.slice r x.v.items.length c,.slice rk x.v.keys.length ck,.bool x.se]] w fun e w'=>e=.returned (.int .i64 (kZ x))/\Below w.heap.size w w':=by
 have t:=hid (fun (W:World)=>Adr.oH x.nm W hs);have y:=hid (fun (W:World) (hW:Below w.heap.size w W)=>yD x.v r c rk ck W (hx.below hW) (C9 (hT.below hW)));have l:=hid (fun (W:World) (hW:Below w.heap.size w W)=>xe x.v r c rk ck W (hx.below hW));have u:Below w.heap.size w (w.alloc (.cells #[.string x.nm,.int .i64 x.v.kind,.int .i64 x.v.num,.string x.v.str,.slice r x.v.items.length c,.slice rk x.v.keys.length ck,.bool x.se] 66)):=(Below.refl _ _).alloc (Nat.le_refl _) _;have i:=(MapKept.heap_alloc w (.cells #[.string x.nm,.int .i64 x.v.kind,.int .i64 x.v.num,.string x.v.str,.slice r x.v.items.length c,.slice rk x.v.keys.length ck,.bool x.se] 66)).1;obtain ⟨f,A⟩:∃ f,f=w.alloc (.cells #[.string x.nm,.int .i64 x.v.kind,.int .i64 x.v.num,.string x.v.str,.slice r x.v.items.length c,.slice rk x.v.keys.length ck,.bool x.se] 66):=⟨_,rfl⟩;rw [<-A] at u i;have B:=hid A;have C:=hid u;have u0:f.cell? ⟨w.heap.size,0,none⟩=some (.string x.nm):=ae i 0 rfl;have u1:f.cell? ⟨w.heap.size,1,none⟩=some (.int .i64 x.v.kind):=ae i 1 rfl;have u2:f.cell? ⟨w.heap.size,2,none⟩=some (.int .i64 x.v.num):=ae i 2 rfl;have u3:f.cell? ⟨w.heap.size,3,none⟩=some (.string x.v.str):=ae i 3 rfl;have u4:f.cell? ⟨w.heap.size,4,none⟩=some (.slice r x.v.items.length c):=ae i 4 rfl;have u5:f.cell? ⟨w.heap.size,5,none⟩=some (.slice rk x.v.keys.length ck):=ae i 5 rfl;have j:=hid (fun (W:World) (hW:Below f.heap.size f W)=>show W.cell? ⟨w.heap.size,1,none⟩=some (.int .i64 x.v.kind)/\W.cell? ⟨w.heap.size,2,none⟩=some (.int .i64 x.v.num)/\W.cell? ⟨w.heap.size,3,none⟩=some (.string x.v.str)/\W.cell? ⟨w.heap.size,4,none⟩=some (.slice r x.v.items.length c)/\W.cell? ⟨w.heap.size,5,none⟩=some (.slice rk x.v.keys.length ck) from ⟨az hW u1,az hW u2,az hW u3,az hW u4,az hW u5⟩);have a:=hid (Below.refl f.heap.size f);have k:=hid (fun (W:World) (hW:Below f.heap.size f W)=>C.out.trans (hW.mono C.out.size));have g:=hid (show kZ x=if Adr.eH x.nm.data.toList=false then 7 else if gy vU x.v≠0 then gy vU x.v else if dR x.v=false then 11 else 0 from rfl);obtain ⟨H,E⟩:∃ b,Adr.eH x.nm.data.toList=b:=⟨_,rfl⟩;obtain ⟨D,G⟩:∃ b,gy vU x.v=b:=⟨_,rfl⟩;obtain ⟨I,F⟩:∃ b,dR x.v=b:=⟨_,rfl⟩;rw [E,G,F] at g;rw [E] at t;rw [G] at y;rw [F] at l;clear E G F hT hx hs i u A;generalize kZ x=R at *;go_enter Tryz.func36,Tryz.ntmps36;go_upto_region 1 with (fail)
 rw [<-B.out];clear B;cases H with
 | false =>
   have s:=hid (g.out.trans (if_pos rfl));clear g;go_wp2_with (first | (go_at_call 83;refine (t.out _).mono ?_;rintro e w1 ⟨rfl,rfl⟩) | (go_at_call 78;refine (y.out _ (k.out _ a.out)).mono ?_;rintro e w1 ⟨rfl,d⟩;have a:=hid (a.out.trans (d.mono a.out.size));clear d;obtain ⟨p,n,o,m,q⟩:=j.out _ a.out) | (go_at_call 79;refine (l.out _ (k.out _ a.out)).mono ?_;rintro e w1 ⟨rfl,d⟩;have a:=hid (a.out.trans (d.mono a.out.size));clear d;obtain ⟨p,n,o,m,q⟩:=j.out _ a.out))
   go_ret
   exact ⟨ax s.out,k.out _ a.out⟩
 | true =>
 have g:=hid (g.out.trans (if_neg (by decide)))
 by_cases z:D=0
 case neg =>
  have s:=hid (g.out.trans (if_pos z));have K:(D != 0)=true:=by simp [z]
  have J:(D == 0)=false:=by simp [z]
  clear z;clear g;go_wp2_with (first | (go_at_call 83;refine (t.out _).mono ?_;rintro e w1 ⟨rfl,rfl⟩) | (go_at_call 78;refine (y.out _ (k.out _ a.out)).mono ?_;rintro e w1 ⟨rfl,d⟩;have a:=hid (a.out.trans (d.mono a.out.size));clear d;obtain ⟨p,n,o,m,q⟩:=j.out _ a.out) | (go_at_call 79;refine (l.out _ (k.out _ a.out)).mono ?_;rintro e w1 ⟨rfl,d⟩;have a:=hid (a.out.trans (d.mono a.out.size));clear d;obtain ⟨p,n,o,m,q⟩:=j.out _ a.out))
  go_ret
  exact ⟨ax s.out,k.out _ a.out⟩
 case pos =>
 subst z;have g:=hid (g.out.trans (if_neg (by decide)));cases I with
 | false =>
   have s:=hid (g.out.trans (if_pos rfl));clear g;go_wp2_with (first | (go_at_call 83;refine (t.out _).mono ?_;rintro e w1 ⟨rfl,rfl⟩) | (go_at_call 78;refine (y.out _ (k.out _ a.out)).mono ?_;rintro e w1 ⟨rfl,d⟩;have a:=hid (a.out.trans (d.mono a.out.size));clear d;obtain ⟨p,n,o,m,q⟩:=j.out _ a.out) | (go_at_call 79;refine (l.out _ (k.out _ a.out)).mono ?_;rintro e w1 ⟨rfl,d⟩;have a:=hid (a.out.trans (d.mono a.out.size));clear d;obtain ⟨p,n,o,m,q⟩:=j.out _ a.out))
   go_ret
   exact ⟨ax s.out,k.out _ a.out⟩
 | true =>
   have s:=hid (g.out.trans (if_neg (by decide)));clear g;go_wp2_with (first | (go_at_call 83;refine (t.out _).mono ?_;rintro e w1 ⟨rfl,rfl⟩) | (go_at_call 78;refine (y.out _ (k.out _ a.out)).mono ?_;rintro e w1 ⟨rfl,d⟩;have a:=hid (a.out.trans (d.mono a.out.size));clear d;obtain ⟨p,n,o,m,q⟩:=j.out _ a.out) | (go_at_call 79;refine (l.out _ (k.out _ a.out)).mono ?_;rintro e w1 ⟨rfl,d⟩;have a:=hid (a.out.trans (d.mono a.out.size));clear d;obtain ⟨p,n,o,m,q⟩:=j.out _ a.out))
   go_ret
   exact ⟨ax s.out,k.out _ a.out⟩
structure Ro (s:fU):Prop where
 ins:∀ x∈s.ins,Ur x
 pen:∀ x∈s.pen,x.ad.size<=2000000
 out:∀ x∈s.out,x.nm.size<=2000000
theorem PX {l:List Ins} {k:Nat} (hk:k < l.length):jr l k=if iw l[k]≠0 then iw l[k] else if k≠0/\0<=dI (aP (l.getD (k - 1) yV)) (aP l[k]) then 1 else 0:=by unfold jr;rw [getD_at _ hk]
theorem Py {l:List Pnd} {k:Nat} (hk:k < l.length):kw l k=if (pF l[k].tok && xq l[k].ad l[k].ty) && (decide (k=0) || ug (l.getD (k - 1) Qb).tok l[k].tok) then 0 else 1:=by unfold kw sG;rw [getD_at _ hk]
theorem PT {l:List vS} {k:Nat} (hk:k < l.length):kH l k=if kZ l[k]≠0 then kZ l[k] else if k≠0/\ug (l.getD (k - 1) QI).nm l[k].nm=false then 1 else 0:=by unfold kH;rw [getD_at _ hk]
theorem Aa {e:Nat->Int} {k:Nat} (h:∀ j,j < k->e j=0) (hk:e k=0):∀ j,j < k+1->e j=0:=fun j hj=>by
 by_cases h1:j < k
 . exact h j h1
 . obtain rfl:j=k:=by omega
   exact hk
set_option maxRecDepth 100000 in
set_option maxHeartbeats 16000000 in
theorem ng (s:fU) (p:Sp) (w:World) (hT:WT w) (h:dQ w s p) (hs:Ro s) :
  Calls Tryz.prog 11 #[.agg (bK s p)] w fun e w'=>e=.returned (.int .i64 (o8 s))/\Below w.heap.size w w':=by
 obtain ⟨ri,ci,rp,cp,ro,co⟩:=p;have ap:=hid (fun (W:World) (hW:Below w.heap.size w W)=>yI s.lin W (C9 (hT.below hW)));have bj:=hid (fun (W:World) (hW:Below w.heap.size w W)=>mM (h.1.below dB hW));have be:=hid (fun (W:World) (hW:Below w.heap.size w W)=>uY (h.2.1.below iY hW));have bh:=hid (fun (W:World) (hW:Below w.heap.size w W)=>TJ (h.2.2.1.below jc hW));have bq:=hid (fun (x:Ins) (hx:x∈s.ins) (q:Pt) (W:World) (hW:Below w.heap.size w W) (hP:jf W x q)=>Aw x q W (hT.below hW) hP (hs.ins x hx));have bR:=hid (fun (x:Pnd) (W:World) (hW:Below w.heap.size w W)=>yI x.tok W (C9 (hT.below hW)));have br:=hid (fun (x:Pnd) (hx:x∈s.pen) (W:World) (hW:Below w.heap.size w W)=>vF x.ad x.ty W (hT.below hW) (hs.pen x hx));have bO:=hid (fun (x:vS) (hx:x∈s.out) (r:Option Addr) (c:Nat) (rk:Option Addr) (ck:Nat) (W:World) (hW:Below w.heap.size w W) (hP:jJ W r c rk ck x.v)=>Hm x r c rk ck W (hT.below hW) hP (hs.out x hx));obtain ⟨_,b0,bX⟩:=bi h.1;obtain ⟨_,b2,b3⟩:=bi h.2.1;obtain ⟨_,b5,b4⟩:=bi h.2.2.1;obtain ⟨W0,a2⟩:∃ W0,W0=w.alloc (.cells #[.string s.lin,.int .i64 s.ser,.slice ri s.ins.length ci,.slice rp s.pen.length cp,.slice ro s.out.length co] 26):=⟨_,rfl⟩;have bc:=hid a2;have bl:Below w.heap.size w W0:=a2 ▸ (Below.refl _ _).alloc (Nat.le_refl _) _;have aD:W0.heap[w.heap.size]?=some (.cells #[.string s.lin,.int .i64 s.ser,.slice ri s.ins.length ci,.slice rp s.pen.length cp,.slice ro s.out.length co] 26):=a2 ▸ (MapKept.heap_alloc w _).1;have av:=hid bl;have U:=hid (fun (W:World) (hW:Below W0.heap.size W0 W)=>av.out.trans (hW.mono av.out.size));have t0:W0.cell? ⟨w.heap.size,0,none⟩=some (.string s.lin):=ae aD 0 rfl;have V:W0.cell? ⟨w.heap.size,1,none⟩=some (.int .i64 s.ser):=ae aD 1 rfl;have P:W0.cell? ⟨w.heap.size,2,none⟩=some (.slice ri s.ins.length ci):=ae aD 2 rfl;have Q:W0.cell? ⟨w.heap.size,3,none⟩=some (.slice rp s.pen.length cp):=ae aD 3 rfl;have Z:W0.cell? ⟨w.heap.size,4,none⟩=some (.slice ro s.out.length co):=ae aD 4 rfl;have M:=hid (fun (W:World) (hW:Below W0.heap.size W0 W)=>show W.cell? ⟨w.heap.size,1,none⟩=some (.int .i64 s.ser)/\W.cell? ⟨w.heap.size,2,none⟩=some (.slice ri s.ins.length ci)/\W.cell? ⟨w.heap.size,3,none⟩=some (.slice rp s.pen.length cp)/\W.cell? ⟨w.heap.size,4,none⟩=some (.slice ro s.out.length co) from ⟨az hW V,az hW P,az hW Q,az hW Z⟩);have G:=hid (show o8 s=if pF s.lin=false then 1
 else if s.ser < 0 ∨ 9007199254740992 < s.ser then 5
 else if 512 < s.ins.length ∨ 512 < s.pen.length ∨ 512 < s.out.length then 14
 else if jb s.ins.length (jr s.ins)≠0 then jb s.ins.length (jr s.ins)
 else if jb s.pen.length (kw s.pen)≠0 then jb s.pen.length (kw s.pen)
 else jb s.out.length (kH s.out) from rfl)
 clear hT h hs bl aD a2;obtain ⟨b1,e1⟩:∃ b,pF s.lin=b:=⟨_,rfl⟩;rw [e1] at G ap;clear e1;unfold bK;generalize o8 s=R at *;go_enter Tryz.func11,Tryz.ntmps11;go_upto_region 1 with (fail)
 rw [<-bc.out];clear bc;cases b1 with
 | false =>
   have T:=hid (G.out.trans (if_pos rfl));clear G;go_wp2_with (go_at_call 31;refine (ap.out _ av.out).mono ?_;rintro e w1 ⟨rfl,f⟩;have S:=hid f;clear f;obtain ⟨V,P,Q,Z⟩:=M.out _ S.out)
   go_ret
   exact ⟨ax T.out,U.out _ S.out⟩
 | true =>
 have G:=hid (G.out.trans (if_neg (by decide)))
 by_cases s1:s.ser < 0
 case pos =>
  have T:=hid (G.out.trans (if_pos (Or.inl s1)));clear G;go_wp2_with (go_at_call 31;refine (ap.out _ av.out).mono ?_;rintro e w1 ⟨rfl,f⟩;have S:=hid f;clear f;obtain ⟨V,P,Q,Z⟩:=M.out _ S.out)
  go_ret
  exact ⟨ax T.out,U.out _ S.out⟩
 case neg =>
 by_cases s2:9007199254740992 < s.ser
 case pos =>
  have T:=hid (G.out.trans (if_pos (Or.inr s2)));clear G;go_wp2_with (go_at_call 31;refine (ap.out _ av.out).mono ?_;rintro e w1 ⟨rfl,f⟩;have S:=hid f;clear f;obtain ⟨V,P,Q,Z⟩:=M.out _ S.out)
  go_ret
  exact ⟨ax T.out,U.out _ S.out⟩
 case neg =>
 have G:=hid (G.out.trans (if_neg (by omega)));have bE:=hid (UV s.ins.length s.pen.length s.out.length)
 by_cases s3:512 < s.ins.length ∨ 512 < s.pen.length ∨ 512 < s.out.length
 case pos =>
  have T:=hid (G.out.trans (if_pos s3));have bo:(512:Int) < max (max (s.ins.length:Int) (s.pen.length:Int)) (s.out.length:Int):=by omega
  clear G s3;go_wp2_with (go_at_call 31;refine (ap.out _ av.out).mono ?_;rintro e w1 ⟨rfl,f⟩;have S:=hid f;clear f;obtain ⟨V,P,Q,Z⟩:=M.out _ S.out)
  go_ret
  exact ⟨ax T.out,U.out _ S.out⟩
 case neg =>
 have G:=hid (G.out.trans (if_neg s3));have bo:¬ (512:Int) < max (max (s.ins.length:Int) (s.pen.length:Int)) (s.out.length:Int):=by omega
 clear s3;go_wp2_with (go_at_call 31;refine (ap.out _ av.out).mono ?_;rintro e w1 ⟨rfl,f⟩;have S:=hid f;clear f;obtain ⟨V,P,Q,Z⟩:=M.out _ S.out)
 clear ap bE bo;have H:=hid S.out;go_loopg [37] s.ins.length (fun gg s9 wr=>∃ k:Nat,k<=s.ins.length/\s.ins.length - k<=gg/\s9=.int .i64 k/\Hid (Below W0.heap.size W0 wr)/\Hid (∀ j,j < k->jr s.ins j=0))
 case atStart=>exact ⟨0,Nat.zero_le _,by omega,rfl,H,hid fun j h=>absurd h (by omega)⟩
 case round =>
  clear V P Q Z S H;obtain ⟨k,hk,hg,rfl,B,AL⟩:=hrel;obtain ⟨V,P,Q,Z⟩:=M.out _ B.out
  by_cases aa:k < s.ins.length
  case pos =>
   have aq:(k:Int) < (s.ins.length:Int):=by omega
   have m:=hid (PX aa);have A:=hid (fun (h2:jr s.ins k≠0)=>show R=jr s.ins k from G.out.trans (by rw [l9 aa AL.out h2,if_pos h2]));have D:=hid (fun (h:jr s.ins k=0)=>show Hid (∀ j,j < k+1->jr s.ins j=0) from hid (Aa AL.out h));obtain ⟨b,aw,pt,rfl,bk,a0,hP⟩:=bj.out wr (U.out _ B.out) k aa;have HC:=hid (fun (W:World) (hW:Below wr.heap.size wr W)=>bq.out s.ins[k] (List.getElem_mem aa) pt W ((U.out _ B.out).trans (hW.mono (U.out _ B.out).size)) (dh hW hP));have hX:=dD s.ins[k] pt;obtain ⟨l1,l2⟩:=gU hX a0;have BA:=hid (show Below wr.heap.size wr (wr.alloc (.cells (aH s.ins[k] pt) 41)) from (Below.refl _ _).alloc (Nat.le_refl _) _);have bA:=hid (MapKept.heap_alloc wr (.cells (aH s.ins[k] pt) 41)).1;have bg:=hid (show (wr.alloc (.cells (aH s.ins[k] pt) 41)).heap.size=wr.heap.size+1 by simp);have bw:=hid (fun (W:World)=>jm s.ins[k] pt W);have bB:=hid hX;clear a0 hP AL
   by_cases he:iw s.ins[k]=0
   case neg =>
    have e1:(iw s.ins[k] != 0)=true:=by simp [he]
    have e2:(iw s.ins[k] == 0)=false:=by simp [he]
    have T:=hid (show R=iw s.ins[k] by
     have:jr s.ins k=iw s.ins[k]:=by rw [m.out,if_pos he]
     rw [<-this];exact A.out (by rw [this];exact he))
    clear he m A D G;generalize iw s.ins[k]=E at *;generalize aH s.ins[k] pt=X at *;go_wp2_with (go_at_call 32;refine (HC.out _ BA.out).mono ?_;rintro e w1 ⟨rfl,f⟩;have F:=hid ((B.out.trans (BA.out.mono B.out.size)).trans (f.mono (by have:=B.out.size;have:=BA.out.size;omega)));have H:=hid f;clear f;obtain ⟨V,P,Q,Z⟩:=M.out _ F.out)
    go_ret
    exact ⟨ax T.out,U.out _ F.out⟩
   case pos =>
   rw [he] at HC;have m:=hid (m.out.trans (if_neg (by rw [he];decide)));clear he
   by_cases af:k=0
   case pos =>
    have am:=D.out (by rw [m.out,if_neg (by simp [af])]);have bp:decide ((0:Int) < (k:Int))=false:=decide_eq_false (by omega);have a8:decide (0 < k)=false:=decide_eq_false (by omega);have a6:¬ 0 < k:=by omega
    clear af;clear m A D;generalize aH s.ins[k] pt=X at *;go_wp2_with (go_at_call 32;refine (HC.out _ BA.out).mono ?_;rintro e w1 ⟨rfl,f⟩;have F:=hid ((B.out.trans (BA.out.mono B.out.size)).trans (f.mono (by have:=B.out.size;have:=BA.out.size;omega)));have H:=hid f;clear f;obtain ⟨V,P,Q,Z⟩:=M.out _ F.out)
    go_quiet (fail)
    have ar:=hid (bu F.out nq);go_wp2_with fail
    go_roundg (s.ins.length - (k+1))
    case measure=>omega
    case rel=>exact ⟨k+1,by omega,by omega,by go_num,ar,am⟩
   case neg =>
    have k0:(0:Int)<=(k:Int) - 1:=by omega
    have k1:(k:Int) - 1 < (s.ins.length:Int):=by omega
    have k4:((k:Int) - 1).toNat=k - 1:=by omega
    have k5:wrap64 ((k:Int) - 1)=(k:Int) - 1:=by unfold wrap64;omega
    have k6:(0:Int) < (k:Int):=by omega
    have hd:decide ((0:Int) < (k:Int))=true:=decide_eq_true (by omega);have a9:decide (0 < k)=true:=decide_eq_true (by omega);have a7:0 < k:=by omega
    have k9:(k:Int)<=(s.ins.length:Int):=by omega
    have k7:(1:Int)<=(k:Int):=by omega
    obtain ⟨b',a5,a3,ao,_,aM,bv⟩:=bj.out wr (U.out _ B.out) (k - 1) (by omega);simp only [Option.some.injEq,Addr.mk.injEq] at ao;obtain ⟨rfl,rfl,_⟩:=ao;have hY:=dD (s.ins[k - 1]'(by omega)) a3;obtain ⟨m1,m2⟩:=gU hY aM;have HM:=hid (And.intro m1 m2);have bx:=hid (fun (W:World)=>jm (s.ins[k - 1]'(by omega)) a3 W);have a4:=hid (fun (W:World)=>sK (aP (s.ins[k - 1]'(by omega))) (aP s.ins[k]) W);have t:Hid (jr s.ins k=if 0<=dI (aP (s.ins[k - 1]'(by omega))) (aP s.ins[k]) then 1 else 0):=hid (by rw [m.out,getD_at _ (by omega:k - 1 < s.ins.length)];simp [af]);clear m aM bv m1 m2 hY;unfold aP at a4;simp only at a4;have bb:=hid (show dI (aP (s.ins[k - 1]'(by omega))) (aP s.ins[k])=dI ((s.ins[k - 1]'(by omega)).ad,(s.ins[k - 1]'(by omega)).de) (s.ins[k].ad,s.ins[k].de) from rfl);rw [bb.out] at t;clear bb;generalize dI ((s.ins[k - 1]'(by omega)).ad,(s.ins[k - 1]'(by omega)).de) (s.ins[k].ad,s.ins[k].de)=C at *;generalize s.ins[k].ad=x1 at *;generalize s.ins[k].de=x2 at *;generalize (s.ins[k - 1]'(by omega)).ad=y1 at *;generalize (s.ins[k - 1]'(by omega)).de=y2 at *;generalize aH s.ins[k] pt=X at *;generalize aH (s.ins[k - 1]'(by omega)) a3=Y at *;go_wp2_with (go_at_call 32;refine (HC.out _ BA.out).mono ?_;rintro e w1 ⟨rfl,f⟩;have F:=hid ((B.out.trans (BA.out.mono B.out.size)).trans (f.mono (by have:=B.out.size;have:=BA.out.size;omega)));have H:=hid f;clear f;obtain ⟨V,P,Q,Z⟩:=M.out _ F.out)
    have ba:=hid (BA.out.trans (H.out.mono BA.out.size));have bN:=hid (fun (W:World) (hW:Below w1.heap.size w1 W)=>show eG W wr.heap.size 0/\ik W wr.heap.size 0=X from dU ((hW.block _ (by have:=H.out.size;have:=bg.out;omega)).trans ((H.out.block _ (by have:=bg.out;omega)).trans bA.out)) bB.out)
    have bS:=hid (fun (W:World) (hW:Below w1.heap.size w1 W)=>show eG W b (aw+(k - 1) * 13)/\ik W b (aw+(k - 1) * 13)=Y from by
     have O:=HM.out.1.below (ba.out.trans (hW.mono ba.out.size));exact ⟨O.1,O.2.trans HM.out.2⟩)
    have b9:=fun d os=>cell_regrown P d os;refine au (fun k=>match k with | 8=>some (bT (.agg Y)) | 9=>some (bT (.agg #[.string y1,.string y2])) | 10=>some (bT (.agg X)) | 11=>some (bT (.agg #[.string x1,.string x2])) | 12=>some (bT (.int .i64 C)) | _=>none) (by kernel_rfl) (by kernel_rfl) ?_
    iterate 8 (refine wq ?_;intro K a;go_big_quiet_op;go_big_quiet_on)
    refine aC (bT (.agg Y)) (by kernel_rfl) rfl ⟨_,rfl⟩ aQ (fun w4 g n=>?_) ?_
    . have i:=ai g
      obtain ⟨l1,l2⟩:=bS.out w4 i;clear g n i;go_simp
      exact ⟨kW.refl _,rfl,trivial⟩
    rintro _ rfl
    (refine ay ?_;intro K a;go_simp;refine a _ ?_;clear a K)
    refine aC (bT (.agg #[.string y1,.string y2])) (by kernel_rfl) rfl ⟨_,rfl⟩ aQ (fun w4 g n=>?_) ?_
    . have i:=ai g
      have O:=bx.out w4;clear g n i;go_simp
      go_at_call 33;refine Calls.mono O ?_;rintro e w5 ⟨rfl,o⟩;exact ⟨_,rfl,o,rfl,trivial⟩
    rintro _ rfl
    (refine ay ?_;intro K a;go_simp;refine a _ ?_;clear a K)
    refine aC (bT (.agg X)) (by kernel_rfl) rfl ⟨_,rfl⟩ aQ (fun w4 g n=>?_) ?_
    . have i:=ai g
      obtain ⟨l1,l2⟩:=bN.out w4 i;clear g n i;go_simp
      exact ⟨kW.refl _,rfl,trivial⟩
    rintro _ rfl
    (refine ay ?_;intro K a;go_simp;refine a _ ?_;clear a K)
    refine aC (bT (.agg #[.string x1,.string x2])) (by kernel_rfl) rfl ⟨_,rfl⟩ aQ (fun w4 g n=>?_) ?_
    . have i:=ai g
      have O:=bw.out w4;clear g n i;go_simp
      go_at_call 33;refine Calls.mono O ?_;rintro e w5 ⟨rfl,o⟩;exact ⟨_,rfl,o,rfl,trivial⟩
    rintro _ rfl
    (refine ay ?_;intro K a;go_simp;refine a _ ?_;clear a K)
    refine aC (bT (.int .i64 C)) (by kernel_rfl) rfl ⟨_,rfl⟩ aQ (fun w4 g n=>?_) ?_
    . have i:=ai g
      have O:=a4.out w4;clear g n i;go_simp
      go_at_call 34;refine Calls.mono O ?_;rintro e w5 ⟨rfl,o⟩;exact ⟨_,rfl,o,rfl,trivial⟩
    rintro _ rfl
    (refine ay ?_;intro K a;go_simp;refine a _ ?_;clear a K)
    iterate 2 (refine wq ?_;intro K a;go_big_quiet_op;go_big_quiet_on)
    refine aS ?_;intro w6 N al;have J:=ai N;clear N al;have ac:=hid (F.out.trans (J.mono F.out.size));clear J
    by_cases hC:0<=C
    case pos =>
     have T:=hid (show R=1 by
      have:jr s.ins k=1:=by rw [t.out,if_pos hC]
      rw [<-this];exact A.out (by rw [this];decide))
     clear t A D G;go_wp2_with fail
     go_ret
     exact ⟨ax T.out,U.out _ ac.out⟩
    case neg =>
     have am:=D.out (by rw [t.out,if_neg hC]);clear t A D;go_wp2_with fail
     go_roundg (s.ins.length - (k+1))
     case measure=>omega
     case rel=>exact ⟨k+1,by omega,by omega,by go_num,ac,am⟩
  case neg =>
   have aq:¬ (k:Int) < (s.ins.length:Int):=by omega
   have G:=hid (G.out.trans (if_neg (by rw [iC fun j hj=>AL.out j (by omega)];decide)));clear AL;go_wp2_with (fail)
   have aR:=hid (B.out);clear V P Q Z;go_loopg [66] s.pen.length (fun gg s9 wr=>∃ k:Nat,k<=s.pen.length/\s.pen.length - k<=gg/\s9=.int .i64 k/\Hid (Below W0.heap.size W0 wr)/\Hid (∀ j,j < k->kw s.pen j=0))
   case atStart=>exact ⟨0,Nat.zero_le _,by omega,rfl,aR,hid fun j h=>absurd h (by omega)⟩
   case round =>
    clear aR B;obtain ⟨k,hk,hg,rfl,B,AL⟩:=hrel;obtain ⟨V,P,Q,Z⟩:=M.out _ B.out
    by_cases aa:k < s.pen.length
    case pos =>
     have aq:(k:Int) < (s.pen.length:Int):=by omega
     have m:=hid (Py aa);have A:=hid (fun (h2:kw s.pen k=1)=>show R=1 from G.out.trans (by rw [l9 aa AL.out (by rw [h2];decide),h2,if_pos (by decide)]));have D:=hid (fun (h:kw s.pen k=0)=>show Hid (∀ j,j < k+1->kw s.pen j=0) from hid (Aa AL.out h));obtain ⟨b,aw,rfl,bk,g0,g1,g2,_⟩:=be.out wr (U.out _ B.out) k aa;have HT:=hid (bR.out s.pen[k]);have HM:=hid (br.out s.pen[k] (List.getElem_mem aa))
     have aE:=hid (fun (hk:0 < k)=>show ∃ z,z=(s.pen[k - 1]'(by omega)).tok/\wr.cell? ⟨b,aw+(k - 1) * 3+2,none⟩=some (.string z) from by
      obtain ⟨b',a5,ao,_,_,_,bs,_⟩:=be.out wr (U.out _ B.out) (k - 1) (by omega);simp only [Option.some.injEq,Addr.mk.injEq] at ao;obtain ⟨rfl,rfl,_⟩:=ao;exact ⟨_,rfl,bs⟩)
     have aL:=hid (fun (hk:0 < k)=>getD_at (l:=s.pen) (k:=k - 1) Qb (by omega));clear AL;obtain ⟨bt,ht⟩:∃ v,pF s.pen[k].tok=v:=⟨_,rfl⟩;obtain ⟨bm,hm⟩:∃ v,xq s.pen[k].ad s.pen[k].ty=v:=⟨_,rfl⟩;rw [ht] at HT m;rw [hm] at HM m;clear ht hm;generalize s.pen[k]=x at *;obtain ⟨x1,x2,x3⟩:=x;dsimp only at *;obtain ⟨WA,an⟩:∃ WA,WA=wr.alloc (.cells #[.string x1,.string x2,.string x3] 58):=⟨_,rfl⟩;have ab:WA.heap[wr.heap.size]?=some (.cells #[.string x1,.string x2,.string x3] 58):=an ▸ (MapKept.heap_alloc wr _).1;have BA:=hid (show Below wr.heap.size wr WA from an ▸ (Below.refl _ _).alloc (Nat.le_refl _) _);have u:=hid (B.out.trans (BA.out.mono B.out.size));have I:=hid (U.out _ u.out);have a1:=hid an;clear an;go_wp2_with fail
     rw [<-a1.out];have c0:WA.cell? ⟨wr.heap.size,0,none⟩=some (.string x1):=ae ab 0 rfl;have c1:WA.cell? ⟨wr.heap.size,1,none⟩=some (.string x2):=ae ab 1 rfl;have c2:WA.cell? ⟨wr.heap.size,2,none⟩=some (.string x3):=ae ab 2 rfl;clear ab V P Q Z g0 g1 g2;obtain ⟨V,P,Q,Z⟩:=M.out _ u.out;have b6:=fun d os=>cell_regrown c0 d os;have b8:=fun d os=>cell_regrown c1 d os;have cb:=fun d os=>cell_regrown c2 d os;have b7:=fun d os=>cell_regrown Q d os;cases bt with
     | false =>
       have T:=hid (A.out (by rw [m.out];rfl));clear m A D G;refine au (fun k=>match k with | 2=>some (bY false) | _=>none) (by kernel_rfl) (by kernel_rfl) ?_
       iterate 2 (refine wq ?_;intro K a;go_big_quiet_op;go_big_quiet_on)
       refine aC (bY false) (by kernel_rfl) rfl ⟨_,rfl⟩ aQ (fun w4 g n=>?_) ?_
       . have i:=ai g
         have O:=HT.out w4 (I.out.trans (i.mono I.out.size));clear g n i;go_simp
         go_at_call 31;refine Calls.mono O ?_;rintro e w5 ⟨rfl,o⟩;exact ⟨_,rfl,o,rfl,trivial⟩
       rintro _ rfl
       (refine ay ?_;intro K a;go_simp;refine a _ ?_;clear a K)
       iterate 2 (refine wq ?_;intro K a;go_big_quiet_op;go_big_quiet_on)
       iterate 6 (refine aW (by kernel_rfl) ?_)
       (refine ay ?_;intro K a;go_simp;refine a _ ?_;clear a K)
       iterate 2 (refine wq ?_;intro K a;go_big_quiet_op;go_big_quiet_on)
       iterate 14 (refine aW (by kernel_rfl) ?_)
       (refine ay ?_;intro K a;go_simp;refine a _ ?_;clear a K)
       (refine wq ?_;intro K a;go_big_quiet_op;go_big_quiet_on)
       refine aS ?_;intro w6 N al;have J:=ai N;clear N al;have ac:=hid (u.out.trans (J.mono u.out.size));clear J;go_wp2_with fail
       go_ret
       exact ⟨ax T.out,U.out _ ac.out⟩
     | true =>
     cases bm with
     | false =>
       have T:=hid (A.out (by rw [m.out];rfl));clear m A D G;refine au (fun k=>match k with | 2=>some (bY true) | 9=>some (bY false) | _=>none) (by kernel_rfl) (by kernel_rfl) ?_
       iterate 2 (refine wq ?_;intro K a;go_big_quiet_op;go_big_quiet_on)
       refine aC (bY true) (by kernel_rfl) rfl ⟨_,rfl⟩ aQ (fun w4 g n=>?_) ?_
       . have i:=ai g
         have O:=HT.out w4 (I.out.trans (i.mono I.out.size));clear g n i;go_simp
         go_at_call 31;refine Calls.mono O ?_;rintro e w5 ⟨rfl,o⟩;exact ⟨_,rfl,o,rfl,trivial⟩
       rintro _ rfl
       (refine ay ?_;intro K a;go_simp;refine a _ ?_;clear a K)
       iterate 2 (refine wq ?_;intro K a;go_big_quiet_op;go_big_quiet_on)
       iterate 4 (refine wq ?_;intro K a;go_big_quiet_op;go_big_quiet_on)
       refine aC (bY false) (by kernel_rfl) rfl ⟨_,rfl⟩ aQ (fun w4 g n=>?_) ?_
       . have i:=ai g
         have O:=HM.out w4 (I.out.trans (i.mono I.out.size));clear g n i;go_simp
         go_at_call 35;refine Calls.mono O ?_;rintro e w5 ⟨rfl,o⟩;exact ⟨_,rfl,o,rfl,trivial⟩
       rintro _ rfl
       (refine ay ?_;intro K a;go_simp;refine a _ ?_;clear a K)
       iterate 3 (refine wq ?_;intro K a;go_big_quiet_op;go_big_quiet_on)
       iterate 14 (refine aW (by kernel_rfl) ?_)
       (refine ay ?_;intro K a;go_simp;refine a _ ?_;clear a K)
       (refine wq ?_;intro K a;go_big_quiet_op;go_big_quiet_on)
       refine aS ?_;intro w6 N al;have J:=ai N;clear N al;have ac:=hid (u.out.trans (J.mono u.out.size));clear J;go_wp2_with fail
       go_ret
       exact ⟨ax T.out,U.out _ ac.out⟩
     | true =>
     by_cases af:k=0
     case pos =>
      have am:=D.out (by rw [m.out];simp [af]);have bp:decide ((0:Int) < (k:Int))=false:=decide_eq_false (by omega);have a8:decide (0 < k)=false:=decide_eq_false (by omega);have a6:¬ 0 < k:=by omega
      clear af;clear m A D;refine au (fun k=>match k with | 2=>some (bY true) | 9=>some (bY true) | _=>none) (by kernel_rfl) (by kernel_rfl) ?_
      iterate 2 (refine wq ?_;intro K a;go_big_quiet_op;go_big_quiet_on)
      refine aC (bY true) (by kernel_rfl) rfl ⟨_,rfl⟩ aQ (fun w4 g n=>?_) ?_
      . have i:=ai g
        have O:=HT.out w4 (I.out.trans (i.mono I.out.size));clear g n i;go_simp
        go_at_call 31;refine Calls.mono O ?_;rintro e w5 ⟨rfl,o⟩;exact ⟨_,rfl,o,rfl,trivial⟩
      rintro _ rfl
      (refine ay ?_;intro K a;go_simp;refine a _ ?_;clear a K)
      iterate 2 (refine wq ?_;intro K a;go_big_quiet_op;go_big_quiet_on)
      iterate 4 (refine wq ?_;intro K a;go_big_quiet_op;go_big_quiet_on)
      refine aC (bY true) (by kernel_rfl) rfl ⟨_,rfl⟩ aQ (fun w4 g n=>?_) ?_
      . have i:=ai g
        have O:=HM.out w4 (I.out.trans (i.mono I.out.size));clear g n i;go_simp
        go_at_call 35;refine Calls.mono O ?_;rintro e w5 ⟨rfl,o⟩;exact ⟨_,rfl,o,rfl,trivial⟩
      rintro _ rfl
      (refine ay ?_;intro K a;go_simp;refine a _ ?_;clear a K)
      iterate 3 (refine wq ?_;intro K a;go_big_quiet_op;go_big_quiet_on)
      iterate 3 (refine wq ?_;intro K a;go_big_quiet_op;go_big_quiet_on)
      iterate 10 (refine aW (by kernel_rfl) ?_)
      (refine ay ?_;intro K a;go_simp;refine a _ ?_;clear a K)
      iterate 2 (refine wq ?_;intro K a;go_big_quiet_op;go_big_quiet_on)
      refine aS ?_;intro w6 N al;have J:=ai N;clear N al;have ac:=hid (u.out.trans (J.mono u.out.size));clear J;go_wp2_with fail
      go_roundg (s.pen.length - (k+1))
      case measure=>omega
      case rel=>exact ⟨k+1,by omega,by omega,by go_num,ac,am⟩
     case neg =>
     obtain ⟨z,hz,gz⟩:=aE.out (by omega);have gz:=az BA.out gz;have ca:=fun d os=>cell_regrown gz d os;have k0:(0:Int)<=(k:Int) - 1:=by omega
     have k1:(k:Int) - 1 < (s.pen.length:Int):=by omega
     have k4:((k:Int) - 1).toNat=k - 1:=by omega
     have k5:wrap64 ((k:Int) - 1)=(k:Int) - 1:=by unfold wrap64;omega
     have k6:(0:Int) < (k:Int):=by omega
     have hd:decide ((0:Int) < (k:Int))=true:=decide_eq_true (by omega);have a9:decide (0 < k)=true:=decide_eq_true (by omega);have a7:0 < k:=by omega
     have k9:(k:Int)<=(s.pen.length:Int):=by omega
     have k7:(1:Int)<=(k:Int):=by omega
     have t:Hid (kw s.pen k=if ug z x3 then 0 else 1):=hid (by rw [m.out,aL.out (by omega),<-hz];simp [af]);have q:=zU z x3;clear m aL aE hz;generalize ug z x3=L at *;cases L with
     | true =>
       have am:=D.out (by rw [t.out];rfl);have m:=t;clear t;clear m A D;refine au (fun k=>match k with | 2=>some (bY true) | 9=>some (bY true) | _=>none) (by kernel_rfl) (by kernel_rfl) ?_
       iterate 2 (refine wq ?_;intro K a;go_big_quiet_op;go_big_quiet_on)
       refine aC (bY true) (by kernel_rfl) rfl ⟨_,rfl⟩ aQ (fun w4 g n=>?_) ?_
       . have i:=ai g
         have O:=HT.out w4 (I.out.trans (i.mono I.out.size));clear g n i;go_simp
         go_at_call 31;refine Calls.mono O ?_;rintro e w5 ⟨rfl,o⟩;exact ⟨_,rfl,o,rfl,trivial⟩
       rintro _ rfl
       (refine ay ?_;intro K a;go_simp;refine a _ ?_;clear a K)
       iterate 2 (refine wq ?_;intro K a;go_big_quiet_op;go_big_quiet_on)
       iterate 4 (refine wq ?_;intro K a;go_big_quiet_op;go_big_quiet_on)
       refine aC (bY true) (by kernel_rfl) rfl ⟨_,rfl⟩ aQ (fun w4 g n=>?_) ?_
       . have i:=ai g
         have O:=HM.out w4 (I.out.trans (i.mono I.out.size));clear g n i;go_simp
         go_at_call 35;refine Calls.mono O ?_;rintro e w5 ⟨rfl,o⟩;exact ⟨_,rfl,o,rfl,trivial⟩
       rintro _ rfl
       (refine ay ?_;intro K a;go_simp;refine a _ ?_;clear a K)
       iterate 3 (refine wq ?_;intro K a;go_big_quiet_op;go_big_quiet_on)
       iterate 3 (refine wq ?_;intro K a;go_big_quiet_op;go_big_quiet_on)
       iterate 10 (refine wq ?_;intro K a;go_big_quiet_op;go_big_quiet_on)
       iterate 2 (refine wq ?_;intro K a;go_big_quiet_op;go_big_quiet_on)
       refine aS ?_;intro w6 N al;have J:=ai N;clear N al;have ac:=hid (u.out.trans (J.mono u.out.size));clear J;go_wp2_with fail
       go_roundg (s.pen.length - (k+1))
       case measure=>omega
       case rel=>exact ⟨k+1,by omega,by omega,by go_num,ac,am⟩
     | false =>
       have T:=hid (A.out (by rw [t.out];rfl));have m:=t;clear t;clear m A D G;refine au (fun k=>match k with | 2=>some (bY true) | 9=>some (bY true) | _=>none) (by kernel_rfl) (by kernel_rfl) ?_
       iterate 2 (refine wq ?_;intro K a;go_big_quiet_op;go_big_quiet_on)
       refine aC (bY true) (by kernel_rfl) rfl ⟨_,rfl⟩ aQ (fun w4 g n=>?_) ?_
       . have i:=ai g
         have O:=HT.out w4 (I.out.trans (i.mono I.out.size));clear g n i;go_simp
         go_at_call 31;refine Calls.mono O ?_;rintro e w5 ⟨rfl,o⟩;exact ⟨_,rfl,o,rfl,trivial⟩
       rintro _ rfl
       (refine ay ?_;intro K a;go_simp;refine a _ ?_;clear a K)
       iterate 2 (refine wq ?_;intro K a;go_big_quiet_op;go_big_quiet_on)
       iterate 4 (refine wq ?_;intro K a;go_big_quiet_op;go_big_quiet_on)
       refine aC (bY true) (by kernel_rfl) rfl ⟨_,rfl⟩ aQ (fun w4 g n=>?_) ?_
       . have i:=ai g
         have O:=HM.out w4 (I.out.trans (i.mono I.out.size));clear g n i;go_simp
         go_at_call 35;refine Calls.mono O ?_;rintro e w5 ⟨rfl,o⟩;exact ⟨_,rfl,o,rfl,trivial⟩
       rintro _ rfl
       (refine ay ?_;intro K a;go_simp;refine a _ ?_;clear a K)
       iterate 3 (refine wq ?_;intro K a;go_big_quiet_op;go_big_quiet_on)
       iterate 3 (refine wq ?_;intro K a;go_big_quiet_op;go_big_quiet_on)
       iterate 10 (refine wq ?_;intro K a;go_big_quiet_op;go_big_quiet_on)
       iterate 2 (refine wq ?_;intro K a;go_big_quiet_op;go_big_quiet_on)
       refine aS ?_;intro w6 N al;have J:=ai N;clear N al;have ac:=hid (u.out.trans (J.mono u.out.size));clear J;go_wp2_with fail
       go_ret
       exact ⟨ax T.out,U.out _ ac.out⟩
    case neg =>
     have aq:¬ (k:Int) < (s.pen.length:Int):=by omega
     have G:=hid (G.out.trans (if_neg (by rw [iC fun j hj=>AL.out j (by omega)];decide)));clear AL;go_wp2_with (fail)
     have aR:=hid (B.out);clear V P Q Z;go_loopg [103] s.out.length (fun gg s9 wr=>∃ k:Nat,k<=s.out.length/\s.out.length - k<=gg/\s9=.int .i64 k/\Hid (Below W0.heap.size W0 wr)/\Hid (∀ j,j < k->kH s.out j=0))
     case atStart=>exact ⟨0,Nat.zero_le _,by omega,rfl,aR,hid fun j h=>absurd h (by omega)⟩
     case round =>
      clear aR B;obtain ⟨k,hk,hg,rfl,B,AL⟩:=hrel;obtain ⟨V,P,Q,Z⟩:=M.out _ B.out
      by_cases aa:k < s.out.length
      case pos =>
       have aq:(k:Int) < (s.out.length:Int):=by omega
       have m:=hid (PT aa);have A:=hid (fun (h2:kH s.out k≠0)=>show R=kH s.out k from G.out.trans (l9 aa AL.out h2));have D:=hid (fun (h:kH s.out k=0)=>show Hid (∀ j,j < k+1->kH s.out j=0) from hid (Aa AL.out h));obtain ⟨b,aw,y,rfl,bk,g0,g1,g2,g3,g4,g5,g6,bd,bf⟩:=bh.out wr (U.out _ B.out) k aa;obtain ⟨WA,an⟩:∃ WA,WA=wr.alloc (.cells #[.string s.out[k].nm,.int .i64 s.out[k].v.kind,.int .i64 s.out[k].v.num,.string s.out[k].v.str,.slice y.r s.out[k].v.items.length y.c,.slice y.rk s.out[k].v.keys.length y.ck,.bool s.out[k].se] 66):=⟨_,rfl⟩;have ab:WA.heap[wr.heap.size]?=some (.cells #[.string s.out[k].nm,.int .i64 s.out[k].v.kind,.int .i64 s.out[k].v.num,.string s.out[k].v.str,.slice y.r s.out[k].v.items.length y.c,.slice y.rk s.out[k].v.keys.length y.ck,.bool s.out[k].se] 66):=an ▸ (MapKept.heap_alloc wr _).1;have BA:=hid (show Below wr.heap.size wr WA from an ▸ (Below.refl _ _).alloc (Nat.le_refl _) _);have u:=hid (B.out.trans (BA.out.mono B.out.size));have HC:=hid (fun (W:World) (hW:Below wr.heap.size wr W)=>bO.out s.out[k] (List.getElem_mem aa) y.r y.c y.rk y.ck W ((U.out _ B.out).trans (hW.mono (U.out _ B.out).size)) (by have:=bf.1;rw [bd] at this;exact this.below hW))
       have aE:=hid (fun (hk:0 < k)=>show ∃ z,z=(s.out[k - 1]'(by omega)).nm/\wr.cell? ⟨b,aw+(k - 1) * 7,none⟩=some (.string z) from by
        obtain ⟨b',a5,y',ao,_,bL,_⟩:=bh.out wr (U.out _ B.out) (k - 1) (by omega);simp only [Option.some.injEq,Addr.mk.injEq] at ao;obtain ⟨rfl,rfl,_⟩:=ao;exact ⟨_,rfl,bL⟩)
       have aL:=hid (fun (hk:0 < k)=>getD_at (l:=s.out) (k:=k - 1) QI (by omega));have c0:=ae ab 0 rfl;have c1:=ae ab 1 rfl;have c2:=ae ab 2 rfl;have c3:=ae ab 3 rfl;have c4:=ae ab 4 rfl;have c5:=ae ab 5 rfl;have c6:=ae ab 6 rfl;have a1:=hid an;clear AL bd bf ab an;generalize s.out[k].nm=x1 at *;generalize s.out[k].v.kind=x2 at *;generalize s.out[k].v.num=x3 at *;generalize s.out[k].v.str=x4 at *;generalize s.out[k].v.items.length=x5 at *;generalize s.out[k].v.keys.length=x6 at *;generalize s.out[k].se=x7 at *;go_upto_region 25 with (fail)
       rw [<-a1.out];clear a1 g0 g1 g2 g3 g4 g5 g6 V P Q Z;obtain ⟨V,P,Q,Z⟩:=M.out _ u.out
       by_cases he:kZ s.out[k]=0
       case neg =>
        have e1:(kZ s.out[k] != 0)=true:=by simp [he]
        have e2:(kZ s.out[k] == 0)=false:=by simp [he]
        have T:=hid (show R=kZ s.out[k] by
         have:kH s.out k=kZ s.out[k]:=by rw [m.out,if_pos he]
         rw [<-this];exact A.out (by rw [this];exact he))
        clear he m A D G;generalize kZ s.out[k]=E at *;go_wp2_with (go_at_call 36;refine (HC.out _ BA.out).mono ?_;rintro e w1 ⟨rfl,f⟩;have F:=hid (u.out.trans (f.mono u.out.size));have H:=hid f;clear f;obtain ⟨V,P,Q,Z⟩:=M.out _ F.out;have d0:=az H.out c0)
        go_ret
        exact ⟨ax T.out,U.out _ F.out⟩
       case pos =>
       rw [he] at HC;have m:=hid (m.out.trans (if_neg (by rw [he];decide)));clear he
       by_cases af:k=0
       case pos =>
        have am:=D.out (by rw [m.out,if_neg (by simp [af])]);have bp:decide ((0:Int) < (k:Int))=false:=decide_eq_false (by omega);have a8:decide (0 < k)=false:=decide_eq_false (by omega);have a6:¬ 0 < k:=by omega
        clear af;clear m A D;go_wp2_with (go_at_call 36;refine (HC.out _ BA.out).mono ?_;rintro e w1 ⟨rfl,f⟩;have F:=hid (u.out.trans (f.mono u.out.size));have H:=hid f;clear f;obtain ⟨V,P,Q,Z⟩:=M.out _ F.out;have d0:=az H.out c0)
        go_quiet (fail)
        have ar:=hid (bu F.out nq);go_wp2_with fail
        go_roundg (s.out.length - (k+1))
        case measure=>omega
        case rel=>exact ⟨k+1,by omega,by omega,by go_num,ar,am⟩
       case neg =>
       obtain ⟨z,hz,gz⟩:=aE.out (by omega);have gz:=az BA.out gz;have k0:(0:Int)<=(k:Int) - 1:=by omega
       have k1:(k:Int) - 1 < (s.out.length:Int):=by omega
       have k4:((k:Int) - 1).toNat=k - 1:=by omega
       have k5:wrap64 ((k:Int) - 1)=(k:Int) - 1:=by unfold wrap64;omega
       have k6:(0:Int) < (k:Int):=by omega
       have hd:decide ((0:Int) < (k:Int))=true:=decide_eq_true (by omega);have a9:decide (0 < k)=true:=decide_eq_true (by omega);have a7:0 < k:=by omega
       have k9:(k:Int)<=(s.out.length:Int):=by omega
       have k7:(1:Int)<=(k:Int):=by omega
       have t:Hid (kH s.out k=if ug z x1=false then 1 else 0):=hid (by rw [m.out,aL.out (by omega),<-hz];simp [af]);have q:=zU z x1;clear m aL aE hz;generalize ug z x1=L at *;cases L with
       | true =>
         have am:=D.out (by rw [t.out];rfl);clear t A D;go_wp2_with (go_at_call 36;refine (HC.out _ BA.out).mono ?_;rintro e w1 ⟨rfl,f⟩;have F:=hid (u.out.trans (f.mono u.out.size));have H:=hid f;clear f;obtain ⟨V,P,Q,Z⟩:=M.out _ F.out;have d0:=az H.out c0;have dz:=az H.out gz)
         go_quiet (fail)
         have ar:=hid (bu F.out nq);go_wp2_with fail
         go_roundg (s.out.length - (k+1))
         case measure=>omega
         case rel=>exact ⟨k+1,by omega,by omega,by go_num,ar,am⟩
       | false =>
         have T:=hid (show R=1 by
          have:kH s.out k=1:=by rw [t.out];rfl
          rw [<-this];exact A.out (by rw [this];decide))
         clear t A D G;go_wp2_with (go_at_call 36;refine (HC.out _ BA.out).mono ?_;rintro e w1 ⟨rfl,f⟩;have F:=hid (u.out.trans (f.mono u.out.size));have H:=hid f;clear f;obtain ⟨V,P,Q,Z⟩:=M.out _ F.out;have d0:=az H.out c0;have dz:=az H.out gz)
         go_quiet (fail)
         have ar:=hid (bu F.out nq);go_wp2_with fail
         go_ret
         exact ⟨ax T.out,U.out _ ar.out⟩
      case neg =>
       have aq:¬ (k:Int) < (s.out.length:Int):=by omega
       have T:=hid (G.out.trans (iC fun j hj=>AL.out j (by omega)));clear AL;go_wp2_with (fail)
       go_ret
       exact ⟨ax T.out,U.out _ B.out⟩
end Go.Proofs.YtomhbcfjhgecbaaGreatDoor
