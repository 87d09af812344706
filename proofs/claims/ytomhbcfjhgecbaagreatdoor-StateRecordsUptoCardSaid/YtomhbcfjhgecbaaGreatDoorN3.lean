import Derived.Test.YtomhbcfjhgecbaaGreatDoorN2
import Derived.Lib.QuietBelow
import Derived.BigQuiet
import Derived.Test.YtomhbcfjhgecbaaGreatDoorN1
import Derived.Deep.RegionHeld3
import Derived.Deep.RegionLaw
import Derived.Lib.RuneBytes
import Derived.Lib.MapLaws
import Derived.Laws.StructEq
set_option linter.unusedVariables false
set_option linter.unusedSimpArgs false
namespace Go.Proofs.YtomhbcfjhgecbaaGreatDoor.Adr
open Go.RowKit Go.Sort Go.Lib Go.Maps
open Go.Lib (hid)
def kO (k n:Int) (t:List UInt8):Obj:=.cells #[.int .i64 k,.int .i64 n,.string ⟨t.toArray⟩] 91 (0,0)
theorem aZ {W:World} {r:Nat} {k n:Int} {t:List UInt8} (h:W.heap[r]?=some (kO k n t)):W.cell? ⟨r,0,none⟩=some (.int .i64 k)/\W.cell? ⟨r,1,none⟩=some (.int .i64 n)/\W.cell? ⟨r,2,none⟩=some (.string ⟨t.toArray⟩)/\(∀ o,W.frozen? ⟨r,o,none⟩=false)/\r < W.heap.size:=by
 unfold kO at h;refine ⟨by unfold World.cell?;simp [h],by unfold World.cell?;simp [h],by unfold World.cell?;simp [h],fun o=>by unfold World.frozen?;simp [h],lt_of_block h⟩
theorem bH {W W':World} {r b:Nat} {o:Obj} (h:W.heap[r]?=some o) (hg:W.grownBy W' (some b)) (hne:r≠b):W'.heap[r]?=some o:=(hg.block r (lt_of_block h) (by simpa using hne)).trans h
theorem bM (w:World) (o:Obj):(w.alloc o).heap[w.heap.size]?=some o:=by
 show (w.heap.push o)[w.heap.size]?=_;simp
theorem GI {W:World} {r:Nat} {k n:Int} {t:List UInt8} (h:W.heap[r]?=some (kO k n t)) (k' n':Int) (t':List UInt8):(((W.setCell ⟨r,0,none⟩ (.int .i64 k')).setCell ⟨r,1,none⟩ (.int .i64 n')).setCell ⟨r,2,none⟩ (.string ⟨t'.toArray⟩)).heap[r]?=some (kO k' n' t'):=by
 unfold World.setCell kO at *;simp only [Array.getElem?_modify,if_true,h,Option.map_some];rfl
theorem nz {W:World} {r b:Nat} {s:ByteArray} {bad:Bool} (h:Rd b W s bad) (hne:r≠b) (i:Nat) (v:Value):Rd b (W.setCell ⟨r,i,none⟩ v) s bad:=by
 unfold Rd at *;rw [<-h];exact Below.heap_setCell _ _ _ _ (fun e=>hne e.symm)
theorem jA {W:World} {b:Nat} {s:ByteArray} {bad:Bool} (h:Rd b W s bad) (o:Obj):Rd b (W.alloc o) s bad:=h.kept ((Below.refl _ _).alloc (Nat.le_refl _) _)
theorem Dt {W W':World} {b r:Nat} {s:ByteArray} {bad:Bool} (h:Rd b W s bad) (hg:W.grownBy W' (some r)) (hne:b≠r):Rd b W' s bad:=bH h hg hne
theorem dY {w W:World} {row:Option Nat} (h:w.grownBy W row) (a:Addr) (u:Value) (hle:w.heap.size<=a.block):w.grownBy (W.setCell a u) row:=
 ⟨h.os,h.tape,h.output,by simp [World.setCell];exact h.size,fun k hk hne=>(Below.heap_setCell _ _ _ _ (fun e=>by subst e;omega)).trans (h.block k hk hne)⟩
theorem l7 {w W:World} {r b:Nat} {s:ByteArray} {bad:Bool} {k n:Int} {t:List UInt8} (h:W.heap[r]?=some (kO k n t)) (hr:Rd b W s bad) (hg:w.grownBy W (some b)) (hne:r≠b) (hle:w.heap.size<=r) (k' n':Int) (t':ByteArray) (W':World) (e:W'=((W.setCell ⟨r,0,none⟩ (.int .i64 k')).setCell ⟨r,1,none⟩ (.int .i64 n')).setCell ⟨r,2,none⟩ (.string t')) :
  (W'.cell? ⟨r,0,none⟩=some (.int .i64 k')/\W'.cell? ⟨r,1,none⟩=some (.int .i64 n')/\W'.cell? ⟨r,2,none⟩=some (.string t'))/\Rd b W' s bad/\w.grownBy W' (some b):=by
 have c:(⟨t'.data.toList.toArray⟩:ByteArray)=t':=by simp
 subst e;have a:=aZ (GI h k' n' t'.data.toList);rw [c] at a;exact ⟨⟨a.1,a.2.1,a.2.2.1⟩,nz (nz (nz hr hne _ _) hne _ _) hne _ _,dY (dY (dY hg _ _ hle) _ _ hle) _ _ hle⟩
theorem oM {w w1:World} {b:Nat} {s:ByteArray} {bad:Bool} (h0:w.grownBy (w.alloc (kO 0 0 [])) (some b)) (hg:(w.alloc (kO 0 0 [])).grownBy w1 (some b)) (hr:Rd b w1 s bad) (ho:(w.alloc (kO 0 0 [])).heap[w.heap.size]?=some (kO 0 0 [])) (hne:w.heap.size≠b) :
  w.grownBy (w1.alloc (kO 0 0 [])) (some b)/\Rd b (w1.alloc (kO 0 0 [])) s bad/\(w1.alloc (kO 0 0 [])).heap[w.heap.size]?=some (kO 0 0 [])/\(w1.alloc (kO 0 0 [])).heap[w1.heap.size]?=some (kO 0 0 []):=by
 have a:Below w1.heap.size w1 (w1.alloc (kO 0 0 [])):=(Below.refl _ _).alloc (Nat.le_refl _) _;have c:=bH ho hg hne;exact ⟨aG (aG h0 hg) (grown_of a _),jA hr _,(a.block _ (lt_of_block c)).trans c,bM _ _⟩
theorem I4:∀ (n:Nat) (l out:List UInt8),l.length<=n->(iQ l out).1=0->(iQ l out).2.1.length<=4096/\(iQ l out).2.2.length<=l.length
 | n,[],out,_,h=>by rw [rY] at h;exact absurd h (by simp)
 | 0,c :: r,out,hn,h=>by simp at hn
 | n+1,c :: r,out,hn,h=>by
   rw [iQ] at h ⊢
   by_cases hq:c.toNat=34
   . rw [if_pos hq] at h ⊢
     by_cases h4:4096 < out.length
     . rw [if_pos h4] at h;exact absurd h (by simp)
     . rw [if_neg h4];exact ⟨by show out.length<=4096;omega,by simp⟩
   . rw [if_neg hq] at h ⊢
     by_cases h1:(gW (c :: r)).1≠0
     . rw [if_pos h1] at h;exact absurd h h1
     . rw [if_neg h1] at h ⊢
       have hl:(r.drop ((gW (c :: r)).2.2 - 1)).length<=r.length:=by rw [List.length_drop];omega
       obtain ⟨a,b⟩:=I4 n _ _ (by simp at hn;omega) h;exact ⟨a,by simp;omega⟩
theorem lg (l:List UInt8):(bz l).2.1.length<=4096/\(bz l).2.2<=l.length:=by
 unfold bz;split
 . simp
 . split
   . simp
   . split
     . simp
     . have:=I4 _ l.tail [] (Nat.le_refl _) (by simp_all)
       exact ⟨this.1,by simp⟩
set_option maxHeartbeats 4000000 in
theorem PL (s:ByteArray) (b:Nat) (w:World) (h:Rd b w s true):Calls Tryz.prog 98 #[.pointer (some ⟨b,0,none⟩)] w fun e w' =>
  e=.returned (.agg #[.int .i64 0,.int .i64 0,.string ⟨#[]⟩])/\Rd b w' s true/\w.grownBy w' (some b):=by
 obtain ⟨o,g,j,m⟩:=h.cells;have c:=hid (⟨jA h (kO 0 0 []),grown_of ((Below.refl _ _).alloc (Nat.le_refl _) _) (some b)⟩:Rd b (w.alloc (kO 0 0 [])) s true/\w.grownBy (w.alloc (kO 0 0 [])) (some b));clear h;go_enter Tryz.func98,Tryz.ntmps98;go_wp2
 obtain ⟨a,f,d,i,l⟩:=aZ (W:=w.alloc (kO 0 0 [])) (r:=w.heap.size) (k:=0) (n:=0) (t:=[]) (bM w _);unfold kO at a f d c;exact bodyPost_ret (v:=.agg #[.int .i64 0,.int .i64 0,.string ⟨#[]⟩]) (by simp [results,Tryz.results98,go_sem,a,f,d]) rfl ⟨rfl,c.out⟩
theorem RJ (s:ByteArray) (b:Nat) (w:World) (h:Rd b w s false) (hp:rf [91] s=false):Calls Tryz.prog 98 #[.pointer (some ⟨b,0,none⟩)] w fun e w' =>
  e=.returned (.agg #[.int .i64 0,.int .i64 0,.string ⟨#[]⟩])/\Rd b w' (lh [91] s) false/\w.grownBy w' (some b):=by
 have j:=hid (fun (W:World) (hW:Rd b W s false)=>mJ ⟨#[91]⟩ s b false W hW);have i:=hid (jA h (kO 0 0 []));have f:=hid (grown_of ((Below.refl w.heap.size w).alloc (Nat.le_refl _) (kO 0 0 [])) (some b));have g:=hid (show (w.alloc (kO 0 0 [])).heap[w.heap.size]?=some (kO 0 0 []) from bM w _);obtain ⟨B,y,q,t⟩:=h.cells;have a:w.heap.size≠b:=by omega
 clear h;unfold kO at i f;go_enter Tryz.func98,Tryz.ntmps98;go_wp2_with (go_at_call 94;refine (j.out _ i.out).mono ?_;rintro e w1 ⟨rfl,n,c⟩;rw [hp];obtain ⟨z,A,o,d,u⟩:=aZ (bH g.out c a);have C:=d 0;have r:=d 1;have p:=d 2)
 obtain ⟨⟨l,k1,k⟩,m⟩:=l7 (bH g.out c a) n (aG f.out c) a (Nat.le_refl _) 0 0 ⟨#[]⟩ _ rfl;exact bodyPost_ret (v:=.agg #[.int .i64 0,.int .i64 0,.string ⟨#[]⟩]) (by simp [results,Tryz.results98,go_sem,l,k1,k]) rfl ⟨rfl,m⟩
set_option maxHeartbeats 4000000 in
theorem Tn (s s1:ByteArray) (b:Nat) (w w0:World) (hT:WT w0) (hB:Below w0.heap.size w0 w) (hb0:w0.heap.size<=b) (hs:s1.size<=2000000) (h:Rd b w s false) (hp:rf [91] s=true) (e1:lh [91] s=s1) (hq:Lib.hasPrefix s1.data.toList [34]=true) (he:(bz s1.data.toList).1≠0):Calls Tryz.prog 98 #[.pointer (some ⟨b,0,none⟩)] w fun e w' =>
  e=.returned (.agg #[.int .i64 0,.int .i64 0,.string ⟨#[]⟩])/\Rd b w' s1 true/\w.grownBy w' (some b):=by
 have E:=hid (fun (W:World) (hW:Rd b W s false)=>mJ ⟨#[91]⟩ s b false W hW);rw [show lh (⟨#[91]⟩:ByteArray).data.toList s=s1 from e1] at E;have Q:=hid (jA h (kO 0 0 []));have L:=hid (grown_of ((Below.refl w.heap.size w).alloc (Nat.le_refl _) (kO 0 0 [])) (some b));have V:=hid (show (w.alloc (kO 0 0 [])).heap[w.heap.size]?=some (kO 0 0 []) from bM w _);have Y:=hid (fun (W:World)=>Tryz.strings_HasPrefix s1 ⟨#[34]⟩ W);have D:=hid (fun (W:World) (hW:WT W)=>yF s1 W hW hs);generalize bz s1.data.toList=x at D he;obtain ⟨c0,c1,c2,c3⟩:=h.cells;have f:w.heap.size≠b:=by omega
 have M:w0.heap.size<=w.heap.size:=hB.size;have T:=hid (fun (W:World) (r:w.grownBy W (some b))=>hB.grown r M (fun k R=>by cases R;exact hb0));clear h;unfold kO at Q L;have g0:decide (x.1=0)=false:=decide_eq_false he;go_enter Tryz.func98,Tryz.ntmps98;go_wp2_with (go_at_call 94;refine (E.out _ Q.out).mono ?_;rintro e w1 ⟨rfl,O,r⟩;rw [hp];obtain ⟨y,z,d,B⟩:=O.cells;have u:w1.heap.size≠b:=by omega)
 obtain ⟨A,q,i,g⟩:=oM (L.out) r O V.out f;unfold kO at A q i g;go_at_call 133;refine (Y.out _).mono ?_;rintro e w2 ⟨rfl,rfl⟩;rw [show Lib.hasPrefix s1.data.toList (⟨#[34]⟩:ByteArray).data.toList=true from hq];go_wp2_with (go_at_call 134;refine (D.out _ (hT.below (T.out _ A))).mono ?_;rintro e w3 ⟨rfl,c⟩;simp only [Ol])
 have j:=q.kept c;have m:=(c.block _ (lt_of_block i)).trans i;have p:=(c.block _ (lt_of_block g)).trans g;have N:=aG A (grown_of c (some b));obtain ⟨y,z,d,B⟩:=j.cells;have F:=d 1;go_quiet (fail)
 have a:=bu (Below.refl w3.heap.size w3) nq;generalize w3.drewN nq=w4 at *;have l:=j.kept a;have P:=(a.block _ (lt_of_block m)).trans m;have H:=(a.block _ (lt_of_block p)).trans p;have I:=aG N (grown_of a (some b));clear y z d B F;obtain ⟨y,z,d,B⟩:=l.cells;have F:=d 1;have K:=l.set1 true;have o:=bH P (aF w4 ⟨b,1,none⟩ (.bool true)) f;have G:=bH H (aF w4 ⟨b,1,none⟩ (.bool true)) u;have J:=aG I (aF w4 ⟨b,1,none⟩ (.bool true));obtain ⟨v0,v1,v2,v3,v4⟩:=aZ (k:=0) (n:=0) (t:=[]) G;obtain ⟨Z,o1,o2,C,o4⟩:=aZ (k:=0) (n:=0) (t:=[]) o;have q0:=C 0;have q1:=C 1;have q2:=C 2;go_wp2
 obtain ⟨⟨U,k1,S⟩,X⟩:=l7 (k:=0) (n:=0) (t:=[]) o K J f (Nat.le_refl _) 0 0 ⟨#[]⟩ _ rfl;exact bodyPost_ret (v:=.agg #[.int .i64 0,.int .i64 0,.string ⟨#[]⟩]) (by simp [results,Tryz.results98,go_sem,U,k1,S]) rfl ⟨rfl,X⟩
set_option maxHeartbeats 4000000 in
theorem SE (s s1:ByteArray) (b:Nat) (w w0:World) (hT:WT w0) (hB:Below w0.heap.size w0 w) (hb0:w0.heap.size<=b) (hs:s1.size<=2000000) (h:Rd b w s false) (hp:rf [91] s=true) (e1:lh [91] s=s1) (hq:Lib.hasPrefix s1.data.toList [34]=true) (he:(bz s1.data.toList).1=0) (hv:quo (bz s1.data.toList).2.1≠s1.data.toList.take (bz s1.data.toList).2.2):Calls Tryz.prog 98 #[.pointer (some ⟨b,0,none⟩)] w fun e w' =>
  e=.returned (.agg #[.int .i64 0,.int .i64 0,.string ⟨#[]⟩])/\Rd b w' s1 true/\w.grownBy w' (some b):=by
 have V:=hid (fun (W:World) (hW:Rd b W s false)=>mJ ⟨#[91]⟩ s b false W hW);rw [show lh (⟨#[91]⟩:ByteArray).data.toList s=s1 from e1] at V;have HR:=hid (jA h (kO 0 0 []));have Y:=hid (grown_of ((Below.refl w.heap.size w).alloc (Nat.le_refl _) (kO 0 0 [])) (some b));have HO:=hid (show (w.alloc (kO 0 0 [])).heap[w.heap.size]?=some (kO 0 0 []) from bM w _);have HH:=hid (fun (W:World)=>Tryz.strings_HasPrefix s1 ⟨#[34]⟩ W);have O:=hid (fun (W:World) (hW:WT W)=>yF s1 W hW hs);have l:=lg s1.data.toList;rw [aj] at l;generalize bz s1.data.toList=x at O he l hv;obtain ⟨x1,Z,n⟩:=x;obtain rfl:x1=0:=he;have HQ:=hid (fun (W:World) (hW:WT W)=>yE ⟨Z.toArray⟩ W hW (by rw [jy];have:=l.1;simp only at this;omega));have hn:(n:Int)<=s1.size:=by have:=l.2;simp only at this;omega
 have P:(s1.extract 0 n).toList=s1.data.toList.take n:=by
  have:=Lib.extract_data s1 0 n;rw [ByteArray.toList_eq,this];simp
 have M:(quo Z == (s1.extract 0 n).toList)=false:=by rw [P];simpa using hv
 clear l hv P;obtain ⟨c0,c1,c2,c3⟩:=h.cells;have i:w.heap.size≠b:=by omega
 have aa:w0.heap.size<=w.heap.size:=hB.size;have S:=hid (fun (W:World) (D:w.grownBy W (some b))=>hB.grown D aa (fun k hk=>by cases hk;exact hb0));clear h;unfold kO at HR Y;go_enter Tryz.func98,Tryz.ntmps98;go_wp2_with (go_at_call 94;refine (V.out _ HR.out).mono ?_;rintro e w1 ⟨rfl,N,D⟩;rw [hp];obtain ⟨m,C,g,F⟩:=N.cells;have E:w1.heap.size≠b:=by omega)
 obtain ⟨G,y,f,j⟩:=oM (Y.out) D N HO.out i;unfold kO at G y f j;go_at_call 133;refine (HH.out _).mono ?_;rintro e w2 ⟨rfl,rfl⟩;rw [show Lib.hasPrefix s1.data.toList (⟨#[34]⟩:ByteArray).data.toList=true from hq];go_wp2_with (go_at_call 134;refine (O.out _ (hT.below (S.out _ G))).mono ?_;rintro e w3 ⟨rfl,c⟩;simp only [Ol])
 have z:=y.kept c;have p:=(c.block _ (lt_of_block f)).trans f;have q:=(c.block _ (lt_of_block j)).trans j;have r:=aG G (grown_of c (some b));obtain ⟨m,C,g,F⟩:=z.cells;have X:=g 1;have dr:=fun d H=>cell_regrown m d H;have o:=hid (fun d H=>Calls.regrown_of (HQ.out _ (hT.below (S.out _ (aG r (grown_of (below_regrown w3 d H) (some b)))))));refine wp_region_quiet_below (by kernel_rfl) (by kernel_rfl) ?_
 repeat (go_big_quiet_step (exact o.out _ _))
 refine wpQuiet_nil ?_;intro _ T;obtain ⟨⟨U,u⟩,J⟩:=T;subst J;simp only [M,Bool.not_false,Bool.not_true];have a:=below_regrown w3 U u;clear dr o;generalize grow (redrawn w3 U) u=w4 at *;have A:=z.kept a;have ac:=(a.block _ (lt_of_block p)).trans p;have Q:=(a.block _ (lt_of_block q)).trans q;have L:=aG r (grown_of a (some b));clear m C g F X;obtain ⟨m,C,g,F⟩:=A.cells;have X:=g 1;have ab:=A.set1 true;have B:=bH ac (aF w4 ⟨b,1,none⟩ (.bool true)) i;have K:=bH Q (aF w4 ⟨b,1,none⟩ (.bool true)) E;have R:=aG L (aF w4 ⟨b,1,none⟩ (.bool true));obtain ⟨v0,v1,v2,v3,v4⟩:=aZ (k:=0) (n:=0) (t:=[]) K;obtain ⟨o0,o1,o2,I,o4⟩:=aZ (k:=0) (n:=0) (t:=[]) B;have q0:=I 0;have q1:=I 1;have q2:=I 2;go_wp2
 obtain ⟨⟨k0,k1,k2⟩,hE⟩:=l7 (k:=0) (n:=0) (t:=[]) B ab R i (Nat.le_refl _) 0 0 ⟨#[]⟩ _ rfl;exact bodyPost_ret (v:=.agg #[.int .i64 0,.int .i64 0,.string ⟨#[]⟩]) (by simp [results,Tryz.results98,go_sem,k0,k1,k2]) rfl ⟨rfl,hE⟩
theorem sQ {w w1 w4:World} {b:Nat} {s:ByteArray} {bad:Bool} (HR4:Rd b w4 s bad) (HO4:w4.heap[w.heap.size]?=some (kO 0 0 [])) (HV4:w4.heap[w1.heap.size]?=some (kO 0 0 [])) (HG4:w.grownBy w4 (some b)) (hne:w.heap.size≠b) (hne1:w1.heap.size≠b) (hlt:w.heap.size < w1.heap.size) (k n:Int) (x t:List UInt8) (s2:ByteArray) (W:World)
  (e:W=(((w4.setCell ⟨w1.heap.size,0,none⟩ (.int .i64 k)).setCell ⟨w1.heap.size,1,none⟩ (.int .i64 n)).setCell ⟨w1.heap.size,2,none⟩ (.string ⟨x.toArray⟩)).setCell ⟨b,0,none⟩ (.string s2)) :
  Rd b W s2 bad/\W.heap[w.heap.size]?=some (kO 0 0 [])/\W.heap[w1.heap.size]?=some (kO k n x)/\w.grownBy W (some b):=by
 subst e;have a:∀ (X:World) (i:Nat) (v:Value),(X.setCell ⟨w1.heap.size,i,none⟩ v).heap[w.heap.size]?=X.heap[w.heap.size]?:=fun X i v=>Below.heap_setCell _ _ _ _ (fun e=>by simp only at e;omega);have c:=HG4.size;refine ⟨(nz (nz (nz HR4 hne1 _ _) hne1 _ _) hne1 _ _).set0 s2,?_,?_,?_⟩
 . exact bH (((a _ _ _).trans ((a _ _ _).trans (a _ _ _))).trans HO4) (aF _ ⟨b,0,none⟩ _) hne
 . exact bH (GI HV4 k n x) (aF _ ⟨b,0,none⟩ _) hne1
 . exact aG (dY (dY (dY HG4 _ _ (Nat.le_of_lt hlt)) _ _ (Nat.le_of_lt hlt)) _ _ (Nat.le_of_lt hlt)) (aF _ ⟨b,0,none⟩ _)
set_option maxHeartbeats 4000000 in
theorem Tj (s s1:ByteArray) (b:Nat) (w w0:World) (hT:WT w0) (hB:Below w0.heap.size w0 w) (hb0:w0.heap.size<=b) (hs:s1.size<=2000000) (h:Rd b w s false) (hp:rf [91] s=true) (e1:lh [91] s=s1) (hq:Lib.hasPrefix s1.data.toList [34]=true) (he:(bz s1.data.toList).1=0) (hv:quo (bz s1.data.toList).2.1=s1.data.toList.take (bz s1.data.toList).2.2):Calls Tryz.prog 98 #[.pointer (some ⟨b,0,none⟩)] w fun e w' =>
  e=.returned (.agg #[.int .i64 2,.int .i64 0,.string ⟨(bz s1.data.toList).2.1.toArray⟩])/\Rd b w' (lh [93] (s1.extract (bz s1.data.toList).2.2 s1.size)) (false || !rf [93] (s1.extract (bz s1.data.toList).2.2 s1.size))/\w.grownBy w' (some b):=by
 have HA:=hid (fun (W:World) (hW:Rd b W s false)=>mJ ⟨#[91]⟩ s b false W hW);rw [show lh (⟨#[91]⟩:ByteArray).data.toList s=s1 from e1] at HA;have HR:=hid (jA h (kO 0 0 []));have HG:=hid (grown_of ((Below.refl w.heap.size w).alloc (Nat.le_refl _) (kO 0 0 [])) (some b));have HO:=hid (show (w.alloc (kO 0 0 [])).heap[w.heap.size]?=some (kO 0 0 []) from bM w _);have HH:=hid (fun (W:World)=>Tryz.strings_HasPrefix s1 ⟨#[34]⟩ W);have U:=hid (fun (W:World) (hW:WT W)=>yF s1 W hW hs);have p:=lg s1.data.toList;rw [aj] at p;generalize bz s1.data.toList=x at U he p hv ⊢;obtain ⟨x1,o,n⟩:=x;obtain rfl:x1=0:=he;have HQ:=hid (fun (W:World) (hW:WT W)=>yE ⟨o.toArray⟩ W hW (by rw [jy];have:=p.1;simp only at this;omega));have hn:(n:Int)<=s1.size:=by have:=p.2;simp only at this;omega
 have V:(s1.extract 0 n).toList=s1.data.toList.take n:=by
  have:=Lib.extract_data s1 0 n;rw [ByteArray.toList_eq,this];simp
 have Q:(quo o == (s1.extract 0 n).toList)=true:=by rw [V];simpa using hv
 clear p hv V;have P:=hid (fun (W:World) (hW:Rd b W (s1.extract n s1.size) false)=>tN ⟨#[93]⟩ (s1.extract n s1.size) b false W hW);rw [show (⟨#[93]⟩:ByteArray).data.toList=[93] from rfl] at P;obtain ⟨c0,c1,c2,c3⟩:=h.cells;have a:w.heap.size≠b:=by omega
 have ab:w0.heap.size<=w.heap.size:=hB.size;have X:=hid (fun (W:World) (r:w.grownBy W (some b))=>hB.grown r ab (fun k hk=>by cases hk;exact hb0));clear h;unfold kO at HR HG;go_enter Tryz.func98,Tryz.ntmps98;go_wp2_with (go_at_call 94;refine (HA.out _ HR.out).mono ?_;rintro e w1 ⟨rfl,S,r⟩;rw [hp];obtain ⟨q,I,g,J⟩:=S.cells;have j:w1.heap.size≠b:=by omega)
 obtain ⟨K,F,l,m⟩:=oM (HG.out) r S HO.out a;unfold kO at K F l m;go_at_call 133;refine (HH.out _).mono ?_;rintro e w2 ⟨rfl,rfl⟩;rw [show Lib.hasPrefix s1.data.toList (⟨#[34]⟩:ByteArray).data.toList=true from hq];go_wp2_with (go_at_call 134;refine (U.out _ (hT.below (X.out _ K))).mono ?_;rintro e w3 ⟨rfl,f⟩;simp only [Ol])
 have G:=F.kept f;have B:=(f.block _ (lt_of_block l)).trans l;have C:=(f.block _ (lt_of_block m)).trans m;have D:=aG K (grown_of f (some b));obtain ⟨q,I,g,J⟩:=G.cells;have f1:=g 1;have dr:=fun d L=>cell_regrown q d L;have y:=hid (fun d L=>Calls.regrown_of (HQ.out _ (hT.below (X.out _ (aG D (grown_of (below_regrown w3 d L) (some b)))))));refine wp_region_quiet_below (by kernel_rfl) (by kernel_rfl) ?_
 repeat (go_big_quiet_step (exact y.out _ _))
 refine wpQuiet_nil ?_;intro _ Z;obtain ⟨⟨dq,E⟩,N⟩:=Z;subst N;simp only [Q,Bool.not_false,Bool.not_true];have c:=below_regrown w3 dq E;clear dr y;generalize grow (redrawn w3 dq) E=w4 at *;have H:=G.kept c;have al:=(c.block _ (lt_of_block B)).trans B;have z:=(c.block _ (lt_of_block C)).trans C;have O:=aG D (grown_of c (some b));clear q I g J f1;obtain ⟨q,I,g,J⟩:=H.cells;have f1:=g 1;have f0:=g 0;have T:w.heap.size < w1.heap.size:=by have:=r.size;simp [World.size_alloc] at this;omega
 obtain ⟨v0,v1,v2,u,v4⟩:=aZ (k:=0) (n:=0) (t:=[]) z;have p0:=u 0;have p1:=u 1;have p2:=u 2;go_wp2_with (go_at_call 96;obtain ⟨Y,ac,R,aa⟩:=sQ H al z O a j T 2 0 o [] (s1.extract n s1.size) _ rfl;refine (P.out _ Y).mono ?_;rintro e w7 ⟨rfl,af,i⟩;obtain ⟨v0,v1,v2,u,v4⟩:=aZ (bH R i j);have A:=bH ac i a;obtain ⟨o0,o1,o2,M,o4⟩:=aZ (k:=0) (n:=0) (t:=[]) A;have ad:=aG aa i;have q0:=M 0;have q1:=M 1;have q2:=M 2)
 obtain ⟨⟨k0,k1,k2⟩,hE⟩:=l7 (k:=0) (n:=0) (t:=[]) A af ad a (Nat.le_refl _) 2 0 ⟨o.toArray⟩ _ rfl;exact bodyPost_ret (v:=.agg #[.int .i64 2,.int .i64 0,.string ⟨o.toArray⟩]) (by simp [results,Tryz.results98,go_sem,k0,k1,k2]) rfl ⟨rfl,hE⟩
def lU (l:List UInt8):Nat:=(max (Lib.indexByte l 93) 0).toNat
theorem Ik (l:List UInt8):lU l<=l.length:=by
 have b:=Lib.indexByte_ge l 93;unfold lU
 by_cases h:Lib.indexByte l 93 < 0
 . omega
 . have a:Lib.indexByte l 93=((Lib.indexByte l 93).toNat:Int):=by omega
   have:=(List.getElem?_eq_some_iff.mp (Lib.indexByte_some a).1).1;omega
set_option maxHeartbeats 4000000 in
theorem Tt (s s1:ByteArray) (b:Nat) (w w0:World) (hT:WT w0) (hB:Below w0.heap.size w0 w) (hb0:w0.heap.size<=b) (hs:s1.size<=2000000) (h:Rd b w s false) (hp:rf [91] s=true) (e1:lh [91] s=s1) (v:Bool) (hq:Lib.hasPrefix s1.data.toList [34]=false) (hv:(decide ((gp (s1.data.toList.take (lU s1.data.toList))).2≠0) || decide ((gp (s1.data.toList.take (lU s1.data.toList))).1 < 0))=v):Calls Tryz.prog 98 #[.pointer (some ⟨b,0,none⟩)] w fun e w' =>
  e=.returned (.agg #[.int .i64 1,.int .i64 (gp (s1.data.toList.take (lU s1.data.toList))).1,.string ⟨#[]⟩])/\Rd b w' (lh [93] (s1.extract (lU s1.data.toList) s1.size)) (v || !rf [93] (s1.extract (lU s1.data.toList) s1.size))/\w.grownBy w' (some b):=by
 have Z:=hid (fun (W:World) (hW:Rd b W s false)=>mJ ⟨#[91]⟩ s b false W hW);rw [show lh (⟨#[91]⟩:ByteArray).data.toList s=s1 from e1] at Z;have HR:=hid (jA h (kO 0 0 []));have HG:=hid (grown_of ((Below.refl w.heap.size w).alloc (Nat.le_refl _) (kO 0 0 [])) (some b));have HO:=hid (show (w.alloc (kO 0 0 [])).heap[w.heap.size]?=some (kO 0 0 []) from bM w _);have HH:=hid (fun (W:World)=>Tryz.strings_HasPrefix s1 ⟨#[34]⟩ W);have HI:=hid (fun (W:World)=>Tryz.strings_IndexByte s1 93 W)
 have hz:∃ z:Int,∃ m:Nat,Lib.indexByte s1.data.toList 93=z/\lU s1.data.toList=m/\(z=(m:Int) ∨ (z = -1/\m=0))/\m<=s1.size:=by
  have A:=Lib.indexByte_ge s1.data.toList 93;refine ⟨_,_,rfl,rfl,?_,?_⟩
  . unfold lU;omega
  . rw [<-aj];exact Ik _
 obtain ⟨z,m,aa,ab,ad,hm⟩:=hz;rw [show (93:Int).toNat.toUInt8=93 from rfl,aa] at HI;rw [ab] at hv ⊢
 have ht:(s1.extract 0 m).data.toList=s1.data.toList.take m:=by
  have:=Lib.extract_data s1 0 m;rw [this];simp
 have V:=hid (fun (W:World) (hW:WT W)=>Fb (s1.extract 0 m) W hW (by rw [<-aj,ht,List.length_take,aj];omega));rw [ht] at V;have al:(m:Int)<=s1.size:=by omega
 generalize gp (s1.data.toList.take m)=x at V hv ⊢;obtain ⟨num,Y⟩:=x;have X:=hid (fun (W:World) (hW:Rd b W (s1.extract m s1.size) v)=>tN ⟨#[93]⟩ (s1.extract m s1.size) b v W hW);rw [show (⟨#[93]⟩:ByteArray).data.toList=[93] from rfl] at X;simp only at hv;clear aa ab ht hm
 have ac:(((Y != 0)=true/\(Y == 0)=false/\decide (Y=0)=false)/\v=true) ∨ (Y=0/\v=decide (num < 0)):=by
  subst hv
  by_cases h1:Y=0 <;> simp [h1]
 clear hv;obtain ⟨c0,c1,c2,c3⟩:=h.cells;have c:w.heap.size≠b:=by omega
 have af:w0.heap.size<=w.heap.size:=hB.size;have HW:=hid (fun (W:World) (A:w.grownBy W (some b))=>hB.grown A af (fun k hk=>by cases hk;exact hb0));clear h;unfold kO at HR HG;rcases ad with rfl | ⟨rfl,rfl⟩ <;> rcases ac with ⟨⟨g1,g2,g3⟩,rfl⟩ | ⟨rfl,rfl⟩
 . go_enter Tryz.func98,Tryz.ntmps98
   go_wp2_with (go_at_call 94;refine (Z.out _ HR.out).mono ?_;rintro e w1 ⟨rfl,D,A⟩;rw [hp];obtain ⟨M,N,r,S⟩:=D.cells;have a:w1.heap.size≠b:=by omega)
   obtain ⟨u,p,g,i⟩:=oM (HG.out) A D HO.out c;unfold kO at u p g i;go_at_call 133;refine (HH.out _).mono ?_;rintro e w2 ⟨rfl,rfl⟩;rw [show Lib.hasPrefix s1.data.toList (⟨#[34]⟩:ByteArray).data.toList=false from hq];go_wp2_with (go_at_call 136;refine (HI.out _).mono ?_;rintro e wq ⟨rfl,rfl⟩)
   go_wp2_with (go_at_call 120;refine (V.out _ (hT.below (HW.out _ u))).mono ?_;rintro e w4 ⟨rfl,d⟩;simp only [Pz];have q:=p.kept d;have K:=(d.block _ (lt_of_block g)).trans g;have l:=(d.block _ (lt_of_block i)).trans i;have B:=aG u (grown_of d (some b));obtain ⟨M,N,r,S⟩:=q.cells;have f1:=r 1;have f0:=r 0;have E:w.heap.size < w1.heap.size:=(by have:=A.size;simp [World.size_alloc] at this;omega);obtain ⟨P,Q,L,j,T⟩:=aZ (k:=0) (n:=0) (t:=[]) l;have p0:=j 0;have p1:=j 1;have p2:=j 2)
   go_at_call 96;obtain ⟨F,H,C,G⟩:=sQ (q.set1 _) (bH K (aF w4 ⟨b,1,none⟩ (.bool _)) c) (bH l (aF w4 ⟨b,1,none⟩ (.bool _)) a) (aG B (aF w4 ⟨b,1,none⟩ (.bool _))) c a E 1 num [] [] _ _ rfl;refine (X.out _ F).mono ?_;rintro e w7 ⟨rfl,J,f⟩;obtain ⟨P,Q,L,j,T⟩:=aZ (bH C f a);have o:=bH H f c;obtain ⟨o0,o1,o2,y,o4⟩:=aZ (k:=0) (n:=0) (t:=[]) o;have I:=aG G f;have q0:=y 0;have q1:=y 1;have q2:=y 2;go_wp2
   obtain ⟨⟨U,k1,R⟩,O⟩:=l7 (k:=0) (n:=0) (t:=[]) o J I c (Nat.le_refl _) 1 num ⟨#[]⟩ _ rfl;exact bodyPost_ret (v:=.agg #[.int .i64 1,.int .i64 num,.string ⟨#[]⟩]) (by simp [results,Tryz.results98,go_sem,U,k1,R]) rfl ⟨rfl,O⟩
 . go_enter Tryz.func98,Tryz.ntmps98
   go_wp2_with (go_at_call 94;refine (Z.out _ HR.out).mono ?_;rintro e w1 ⟨rfl,D,A⟩;rw [hp];obtain ⟨M,N,r,S⟩:=D.cells;have a:w1.heap.size≠b:=by omega)
   obtain ⟨u,p,g,i⟩:=oM (HG.out) A D HO.out c;unfold kO at u p g i;go_at_call 133;refine (HH.out _).mono ?_;rintro e w2 ⟨rfl,rfl⟩;rw [show Lib.hasPrefix s1.data.toList (⟨#[34]⟩:ByteArray).data.toList=false from hq];go_wp2_with (go_at_call 136;refine (HI.out _).mono ?_;rintro e wq ⟨rfl,rfl⟩)
   go_wp2_with (go_at_call 120;refine (V.out _ (hT.below (HW.out _ u))).mono ?_;rintro e w4 ⟨rfl,d⟩;simp only [Pz];have q:=p.kept d;have K:=(d.block _ (lt_of_block g)).trans g;have l:=(d.block _ (lt_of_block i)).trans i;have B:=aG u (grown_of d (some b));obtain ⟨M,N,r,S⟩:=q.cells;have f1:=r 1;have f0:=r 0;have E:w.heap.size < w1.heap.size:=(by have:=A.size;simp [World.size_alloc] at this;omega);obtain ⟨P,Q,L,j,T⟩:=aZ (k:=0) (n:=0) (t:=[]) l;have p0:=j 0;have p1:=j 1;have p2:=j 2)
   go_at_call 96;obtain ⟨F,H,C,G⟩:=sQ (q.set1 _) (bH K (aF w4 ⟨b,1,none⟩ (.bool _)) c) (bH l (aF w4 ⟨b,1,none⟩ (.bool _)) a) (aG B (aF w4 ⟨b,1,none⟩ (.bool _))) c a E 1 num [] [] _ _ rfl;refine (X.out _ F).mono ?_;rintro e w7 ⟨rfl,J,f⟩;obtain ⟨P,Q,L,j,T⟩:=aZ (bH C f a);have o:=bH H f c;obtain ⟨o0,o1,o2,y,o4⟩:=aZ (k:=0) (n:=0) (t:=[]) o;have I:=aG G f;have q0:=y 0;have q1:=y 1;have q2:=y 2;go_wp2
   obtain ⟨⟨U,k1,R⟩,O⟩:=l7 (k:=0) (n:=0) (t:=[]) o J I c (Nat.le_refl _) 1 num ⟨#[]⟩ _ rfl;exact bodyPost_ret (v:=.agg #[.int .i64 1,.int .i64 num,.string ⟨#[]⟩]) (by simp [results,Tryz.results98,go_sem,U,k1,R]) rfl ⟨rfl,O⟩
 . go_enter Tryz.func98,Tryz.ntmps98
   go_wp2_with (go_at_call 94;refine (Z.out _ HR.out).mono ?_;rintro e w1 ⟨rfl,D,A⟩;rw [hp];obtain ⟨M,N,r,S⟩:=D.cells;have a:w1.heap.size≠b:=by omega)
   obtain ⟨u,p,g,i⟩:=oM (HG.out) A D HO.out c;unfold kO at u p g i;go_at_call 133;refine (HH.out _).mono ?_;rintro e w2 ⟨rfl,rfl⟩;rw [show Lib.hasPrefix s1.data.toList (⟨#[34]⟩:ByteArray).data.toList=false from hq];go_wp2_with (go_at_call 136;refine (HI.out _).mono ?_;rintro e wq ⟨rfl,rfl⟩)
   go_wp2_with (go_at_call 120;refine (V.out _ (hT.below (HW.out _ u))).mono ?_;rintro e w4 ⟨rfl,d⟩;simp only [Pz];have q:=p.kept d;have K:=(d.block _ (lt_of_block g)).trans g;have l:=(d.block _ (lt_of_block i)).trans i;have B:=aG u (grown_of d (some b));obtain ⟨M,N,r,S⟩:=q.cells;have f1:=r 1;have f0:=r 0;have E:w.heap.size < w1.heap.size:=(by have:=A.size;simp [World.size_alloc] at this;omega);obtain ⟨P,Q,L,j,T⟩:=aZ (k:=0) (n:=0) (t:=[]) l;have p0:=j 0;have p1:=j 1;have p2:=j 2)
   go_at_call 96;obtain ⟨F,H,C,G⟩:=sQ (q.set1 _) (bH K (aF w4 ⟨b,1,none⟩ (.bool _)) c) (bH l (aF w4 ⟨b,1,none⟩ (.bool _)) a) (aG B (aF w4 ⟨b,1,none⟩ (.bool _))) c a E 1 num [] [] _ _ rfl;refine (X.out _ F).mono ?_;rintro e w7 ⟨rfl,J,f⟩;obtain ⟨P,Q,L,j,T⟩:=aZ (bH C f a);have o:=bH H f c;obtain ⟨o0,o1,o2,y,o4⟩:=aZ (k:=0) (n:=0) (t:=[]) o;have I:=aG G f;have q0:=y 0;have q1:=y 1;have q2:=y 2;go_wp2
   obtain ⟨⟨U,k1,R⟩,O⟩:=l7 (k:=0) (n:=0) (t:=[]) o J I c (Nat.le_refl _) 1 num ⟨#[]⟩ _ rfl;exact bodyPost_ret (v:=.agg #[.int .i64 1,.int .i64 num,.string ⟨#[]⟩]) (by simp [results,Tryz.results98,go_sem,U,k1,R]) rfl ⟨rfl,O⟩
 . go_enter Tryz.func98,Tryz.ntmps98
   go_wp2_with (go_at_call 94;refine (Z.out _ HR.out).mono ?_;rintro e w1 ⟨rfl,D,A⟩;rw [hp];obtain ⟨M,N,r,S⟩:=D.cells;have a:w1.heap.size≠b:=by omega)
   obtain ⟨u,p,g,i⟩:=oM (HG.out) A D HO.out c;unfold kO at u p g i;go_at_call 133;refine (HH.out _).mono ?_;rintro e w2 ⟨rfl,rfl⟩;rw [show Lib.hasPrefix s1.data.toList (⟨#[34]⟩:ByteArray).data.toList=false from hq];go_wp2_with (go_at_call 136;refine (HI.out _).mono ?_;rintro e wq ⟨rfl,rfl⟩)
   go_wp2_with (go_at_call 120;refine (V.out _ (hT.below (HW.out _ u))).mono ?_;rintro e w4 ⟨rfl,d⟩;simp only [Pz];have q:=p.kept d;have K:=(d.block _ (lt_of_block g)).trans g;have l:=(d.block _ (lt_of_block i)).trans i;have B:=aG u (grown_of d (some b));obtain ⟨M,N,r,S⟩:=q.cells;have f1:=r 1;have f0:=r 0;have E:w.heap.size < w1.heap.size:=(by have:=A.size;simp [World.size_alloc] at this;omega);obtain ⟨P,Q,L,j,T⟩:=aZ (k:=0) (n:=0) (t:=[]) l;have p0:=j 0;have p1:=j 1;have p2:=j 2)
   go_at_call 96;obtain ⟨F,H,C,G⟩:=sQ (q.set1 _) (bH K (aF w4 ⟨b,1,none⟩ (.bool _)) c) (bH l (aF w4 ⟨b,1,none⟩ (.bool _)) a) (aG B (aF w4 ⟨b,1,none⟩ (.bool _))) c a E 1 num [] [] _ _ rfl;refine (X.out _ F).mono ?_;rintro e w7 ⟨rfl,J,f⟩;obtain ⟨P,Q,L,j,T⟩:=aZ (bH C f a);have o:=bH H f c;obtain ⟨o0,o1,o2,y,o4⟩:=aZ (k:=0) (n:=0) (t:=[]) o;have I:=aG G f;have q0:=y 0;have q1:=y 1;have q2:=y 2;go_wp2
   obtain ⟨⟨U,k1,R⟩,O⟩:=l7 (k:=0) (n:=0) (t:=[]) o J I c (Nat.le_refl _) 1 num ⟨#[]⟩ _ rfl;exact bodyPost_ret (v:=.agg #[.int .i64 1,.int .i64 num,.string ⟨#[]⟩]) (by simp [results,Tryz.results98,go_sem,U,k1,R]) rfl ⟨rfl,O⟩
abbrev bW:=Int × Int × List UInt8
def kV (k:bW):Value:=.agg #[.int .i64 k.1,.int .i64 k.2.1,.string ⟨k.2.2.toArray⟩]
def eu (p l:List UInt8) (bad:Bool):List UInt8 × Bool:=(Lib.trimPrefix l p,bad || !Lib.hasPrefix l p)
def lL (l:List UInt8) (bad:Bool):bW × List UInt8 × Bool:=
 if bad=true then ((0,0,[]),l,true)
 else if Lib.hasPrefix l [91]=false then ((0,0,[]),Lib.trimPrefix l [91],false)
 else
  let t:=Lib.trimPrefix l [91]
  if Lib.hasPrefix t [34]=true then
   (if (bz t).1≠0 then ((0,0,[]),t,true)
   else if quo (bz t).2.1≠t.take (bz t).2.2 then ((0,0,[]),t,true)
   else ((2,0,(bz t).2.1),eu [93] (t.drop (bz t).2.2) false))
  else ((1,(gp (t.take (lU t))).1,[]),eu [93] (t.drop (lU t)) (decide ((gp (t.take (lU t))).2≠0) || decide ((gp (t.take (lU t))).1 < 0)))
theorem jB (l p:List UInt8):(Lib.trimPrefix l p).length<=l.length:=by unfold Lib.trimPrefix;split <;> simp
theorem Oa (p:List UInt8) (s:ByteArray):(lh p s).size<=s.size:=by
 rw [<-aj,<-aj s];exact jB _ _
theorem nP (s:ByteArray) (n:Nat):s.extract n s.size=⟨(s.data.toList.drop n).toArray⟩:=by
 apply ByteArray.ext;apply Array.toList_inj.mp;rw [aY]
theorem wE (s:ByteArray) (b:Nat) (bad:Bool) (w w0:World) (hT:WT w0) (hB:Below w0.heap.size w0 w) (hb0:w0.heap.size<=b) (hs:s.size<=2000000) (h:Rd b w s bad):Calls Tryz.prog 98 #[.pointer (some ⟨b,0,none⟩)] w fun e w' =>
  e=.returned (kV (lL s.data.toList bad).1)/\Rd b w' ⟨(lL s.data.toList bad).2.1.toArray⟩ (lL s.data.toList bad).2.2/\w.grownBy w' (some b):=by
 cases bad
 case true =>
  refine (PL s b w h).mono ?_;rintro e w' ⟨rfl,a,c⟩;exact ⟨rfl,a,c⟩
 have l:lL s.data.toList false=if Lib.hasPrefix s.data.toList [91]=false then ((0,0,[]),Lib.trimPrefix s.data.toList [91],false)
  else
  let t:=Lib.trimPrefix s.data.toList [91]
  if Lib.hasPrefix t [34]=true then
   (if (bz t).1≠0 then ((0,0,[]),t,true)
   else if quo (bz t).2.1≠t.take (bz t).2.2 then ((0,0,[]),t,true)
   else ((2,0,(bz t).2.1),eu [93] (t.drop (bz t).2.2) false))
  else ((1,(gp (t.take (lU t))).1,[]),eu [93] (t.drop (lU t)) (decide ((gp (t.take (lU t))).2≠0) || decide ((gp (t.take (lU t))).1 < 0))):=by
  unfold lL;rw [if_neg (by simp)]
 cases d:Lib.hasPrefix s.data.toList [91]
 . rw [l,if_pos d]
   refine (RJ s b w h d).mono ?_;rintro e w' ⟨rfl,a,c⟩;exact ⟨rfl,a,c⟩
 rw [l,if_neg (by rw [d];simp)];have g:(lh [91] s).size<=2000000:=Nat.le_trans (Oa _ _) hs;have m:(lh [91] s).data.toList=Lib.trimPrefix s.data.toList [91]:=rfl;simp only;rw [<-m];generalize f:lh [91] s=s1 at g ⊢;cases j:Lib.hasPrefix s1.data.toList [34]
 case false =>
  rw [if_neg (by simp)];refine (Tt s s1 b w w0 hT hB hb0 g h d f _ j rfl).mono ?_;rintro e w' ⟨rfl,a,c⟩;rw [nP] at a;exact ⟨rfl,a,c⟩
 rw [if_pos rfl]
 by_cases i:(bz s1.data.toList).1=0
 case neg =>
  rw [if_pos i];refine (Tn s s1 b w w0 hT hB hb0 g h d f j i).mono ?_;rintro e w' ⟨rfl,a,c⟩;exact ⟨rfl,a,c⟩
 rw [if_neg (by simpa using i)]
 by_cases k:quo (bz s1.data.toList).2.1=s1.data.toList.take (bz s1.data.toList).2.2
 case neg =>
  rw [if_pos k];refine (SE s s1 b w w0 hT hB hb0 g h d f j i k).mono ?_;rintro e w' ⟨rfl,a,c⟩;exact ⟨rfl,a,c⟩
 rw [if_neg (by simpa using k)];refine (Tj s s1 b w w0 hT hB hb0 g h d f j i k).mono ?_;rintro e w' ⟨rfl,a,c⟩;rw [nP] at a;exact ⟨rfl,a,c⟩
theorem uO (s:ByteArray):xH s=⟨(s.data.toList.drop (bV s.data.toList)).toArray⟩:=nP _ _
theorem uU (s:ByteArray):(yT s).data.toList=s.data.toList.take (bV s.data.toList):=by
 have:=Lib.extract_data s 0 (bV s.data.toList);unfold yT;rw [this];simp
theorem DD (s:ByteArray):yT s=⟨(s.data.toList.take (bV s.data.toList)).toArray⟩:=by
 apply ByteArray.ext;apply Array.toList_inj.mp;rw [uU]
def dK (l:List UInt8) (bad:Bool):(List UInt8 × bW) × List UInt8 × Bool:=
 ((l.take (bV l),(lL (l.drop (bV l)) (bad || !eH (l.take (bV l)))).1),(lL (l.drop (bV l)) (bad || !eH (l.take (bV l)))).2)
def FD (x:List UInt8 × bW):Value:=.agg #[.string ⟨x.1.toArray⟩,.int .i64 x.2.1,.int .i64 x.2.2.1,.string ⟨x.2.2.2.toArray⟩]
def sO (n:List UInt8) (k m:Int) (t:List UInt8):Obj:=.cells #[.string ⟨n.toArray⟩,.int .i64 k,.int .i64 m,.string ⟨t.toArray⟩] 124 (0,0)
theorem nD {W:World} {r:Nat} {n t:List UInt8} {k m:Int} (h:W.heap[r]?=some (sO n k m t)):W.cell? ⟨r,0,none⟩=some (.string ⟨n.toArray⟩)/\W.cell? ⟨r,1,none⟩=some (.int .i64 k)/\W.cell? ⟨r,2,none⟩=some (.int .i64 m)/\W.cell? ⟨r,3,none⟩=some (.string ⟨t.toArray⟩)/\(∀ o,W.frozen? ⟨r,o,none⟩=false)/\r < W.heap.size:=by
 unfold sO at h;refine ⟨by unfold World.cell?;simp [h],by unfold World.cell?;simp [h],by unfold World.cell?;simp [h],by unfold World.cell?;simp [h],fun o=>by unfold World.frozen?;simp [h],lt_of_block h⟩
theorem KO {w w1:World} {b:Nat} {s:ByteArray} {bad:Bool} (h0:w.grownBy (w.alloc (sO [] 0 0 [])) (some b)) (hg:(w.alloc (sO [] 0 0 [])).grownBy w1 (some b)) (hr:Rd b w1 s bad) (ho:(w.alloc (sO [] 0 0 [])).heap[w.heap.size]?=some (sO [] 0 0 [])) (hne:w.heap.size≠b) (nm:List UInt8) :
  w.grownBy (w1.alloc (sO nm 0 0 [])) (some b)/\Rd b (w1.alloc (sO nm 0 0 [])) s bad/\(w1.alloc (sO nm 0 0 [])).heap[w.heap.size]?=some (sO [] 0 0 [])/\(w1.alloc (sO nm 0 0 [])).heap[w1.heap.size]?=some (sO nm 0 0 []):=by
 have a:Below w1.heap.size w1 (w1.alloc (sO nm 0 0 [])):=(Below.refl _ _).alloc (Nat.le_refl _) _;have c:=bH ho hg hne;exact ⟨aG (aG h0 hg) (grown_of a _),jA hr _,(a.block _ (lt_of_block c)).trans c,bM _ _⟩
theorem step_end {w w1 w4:World} {b:Nat} {s:ByteArray} {bad:Bool} (HO4:w4.heap[w.heap.size]?=some (sO [] 0 0 [])) (HR4:Rd b w4 s bad) (HG4:w.grownBy w4 (some b)) (hne:w.heap.size≠b) (hne1:w1.heap.size≠b) (hlt:w.heap.size < w1.heap.size) (nm:List UInt8) (x:bW) (W:World)
  (e:W=((((((w4.setCell ⟨w1.heap.size,1,none⟩ (.int .i64 x.1)).setCell ⟨w1.heap.size,2,none⟩ (.int .i64 x.2.1)).setCell ⟨w1.heap.size,3,none⟩ (.string ⟨x.2.2.toArray⟩)).setCell ⟨w.heap.size,0,none⟩ (.string ⟨nm.toArray⟩)).setCell ⟨w.heap.size,1,none⟩ (.int .i64 x.1)).setCell ⟨w.heap.size,2,none⟩ (.int .i64 x.2.1)).setCell ⟨w.heap.size,3,none⟩ (.string ⟨x.2.2.toArray⟩)) :
  (W.cell? ⟨w.heap.size,0,none⟩=some (.string ⟨nm.toArray⟩)/\W.cell? ⟨w.heap.size,1,none⟩=some (.int .i64 x.1)/\W.cell? ⟨w.heap.size,2,none⟩=some (.int .i64 x.2.1)/\W.cell? ⟨w.heap.size,3,none⟩=some (.string ⟨x.2.2.toArray⟩))/\Rd b W s bad/\w.grownBy W (some b):=by
 have c:∀ (X:World) (i:Nat) (v:Value),(X.setCell ⟨w1.heap.size,i,none⟩ v).heap[w.heap.size]?=X.heap[w.heap.size]?:=fun X i v=>Below.heap_setCell _ _ _ _ (fun e=>by simp only at e;omega)
 have g:W.heap[w.heap.size]?=some (sO nm x.1 x.2.1 x.2.2):=by
  have a:=(c _ 3 (.string ⟨x.2.2.toArray⟩)).trans ((c _ 2 (.int .i64 x.2.1)).trans (c w4 1 (.int .i64 x.1)));rw [HO4] at a;subst e;generalize ((w4.setCell ⟨w1.heap.size,1,none⟩ (.int .i64 x.1)).setCell ⟨w1.heap.size,2,none⟩ (.int .i64 x.2.1)).setCell ⟨w1.heap.size,3,none⟩ (.string ⟨x.2.2.toArray⟩)=Y at a;unfold World.setCell sO at *;simp only [Array.getElem?_modify,if_true,a,Option.map_some];rfl
 obtain ⟨k,k1,f,j,_⟩:=nD g;refine ⟨⟨k,k1,f,j⟩,?_⟩;subst e;have d:=Nat.le_of_lt hlt
 exact ⟨nz (nz (nz (nz (nz (nz (nz HR4 hne1 _ _) hne1 _ _) hne1 _ _) hne _ _) hne _ _) hne _ _) hne _ _,
  dY (dY (dY (dY (dY (dY (dY HG4 _ _ d) _ _ d) _ _ d) _ _ (Nat.le_refl _)) _ _ (Nat.le_refl _)) _ _ (Nat.le_refl _)) _ _ (Nat.le_refl _)⟩
set_option maxHeartbeats 4000000 in
theorem KE (s:ByteArray) (b:Nat) (bad:Bool) (w w0:World) (hT:WT w0) (hB:Below w0.heap.size w0 w) (hb0:w0.heap.size<=b) (hs:s.size<=2000000) (h:Rd b w s bad):Calls Tryz.prog 95 #[.pointer (some ⟨b,0,none⟩)] w fun e w' =>
  e=.returned (FD (dK s.data.toList bad).1)/\Rd b w' ⟨(dK s.data.toList bad).2.1.toArray⟩ (dK s.data.toList bad).2.2/\w.grownBy w' (some b):=by
 have p:=hid (fun (W:World) (hW:Rd b W s bad)=>Fq s b bad W hs hW)
 have B:(xH s).size<=2000000:=by
  rw [<-aj,uO,List.length_drop,aj];omega
 have o:=hid (fun (W:World) (v:Bool) (g:w.grownBy W (some b)) (hW:Rd b W (xH s) v)=>wE (xH s) b v W w0 hT (hB.grown g hB.size (fun k F=>by cases F;exact hb0)) hb0 B hW);rw [show (xH s).data.toList=s.data.toList.drop (bV s.data.toList) by rw [uO]] at o;rw [show eH (yT s).data.toList=eH (s.data.toList.take (bV s.data.toList)) by rw [uU],DD] at p;unfold dK;have E:=hid (jA h (sO [] 0 0 []));have A:=hid (grown_of ((Below.refl w.heap.size w).alloc (Nat.le_refl _) (sO [] 0 0 [])) (some b));have L:=hid (show (w.alloc (sO [] 0 0 [])).heap[w.heap.size]?=some (sO [] 0 0 []) from bM w _);obtain ⟨c0,c1,R,U⟩:=h.cells;have a:w.heap.size≠b:=by omega
 clear h B hs;unfold sO at E A;generalize s.data.toList.take (bV s.data.toList)=f at *;generalize s.data.toList.drop (bV s.data.toList)=G at *;go_enter Tryz.func95,Tryz.ntmps95;go_wp2_with (go_at_call 97;refine (p.out _ E.out).mono ?_;rintro e w1 ⟨rfl,N,g⟩)
 obtain ⟨u,q,l,j⟩:=KO A.out g N L.out a f;have D:w.heap.size < w1.heap.size:=by have:=g.size;simp [World.size_alloc] at this;omega
 have d:w1.heap.size≠b:=by omega
 unfold sO at u q l j;refine (o.out _ _ u q).mono ?_;generalize H:lL G (bad || !eH f)=x;rintro e w4 ⟨rfl,C,c⟩;have r:=bH l c a;have y:=bH j c d;have z:=aG u c;obtain ⟨v0,Z,X,Y,i,V⟩:=nD (n:=f) (k:=0) (m:=0) (t:=[]) y;obtain ⟨P,o1,T,o3,of,o4⟩:=nD (n:=[]) (k:=0) (m:=0) (t:=[]) r;have p0:=i 0;have p1:=i 1;have p2:=i 2;have p3:=i 3;have Q:=of 0;have q1:=of 1;have S:=of 2;have q3:=of 3;have K:w.heap.size≠w1.heap.size:=by omega
 simp only [kV];go_wp2
 obtain ⟨⟨J,k1,I,O⟩,M⟩:=step_end r C z a d D f x.1 _ rfl;exact bodyPost_ret (v:=FD (f,x.1)) (by simp [results,Tryz.results95,go_sem,J,k1,I,O,FD]) rfl (by rw [H];exact ⟨rfl,M⟩)
abbrev MS:=List UInt8 × bW
def qI (x:MS):List Value:=[.string ⟨x.1.toArray⟩,.int .i64 x.2.1,.int .i64 x.2.2.1,.string ⟨x.2.2.2.toArray⟩]
theorem qc:∀ x,(qI x).length=4:=fun _=>rfl
theorem sU:∀ x,∀ u∈qI x,u.oneCell'=true:=fun x u hu=>by
 simp only [qI,List.mem_cons,List.mem_nil_iff,or_false] at hu;rcases hu with rfl | rfl | rfl | rfl <;> rfl
theorem Ae:(Tryz.prog.info? 124).map (fun i=>(i.zero,i.size,i.bytes))=some (some (.agg #[.string ByteArray.empty,.int .i64 0,.int .i64 0,.string ByteArray.empty]),4,48):=by kernel_rfl
def eP (B:Nat) (w:World) (v:Value) (xs:List MS):Prop:=w.ownsRow B 124 4 v xs.length (xs.flatMap qI)
theorem iM (B:Nat) (w:World):eP B w (.slice none 0 0) []:=World.ownsRow_nil w B _ 4
def EQ (B:Nat) (w:World) (v:Value) (xs:List MS) (H:Nat) (g cap:Nat) (w':World):Prop:=
 eP B w' (.slice (some ⟨g,0,none⟩) xs.length cap) xs/\w.grownBy w' v.ownBlock/\(v.ownBlock=some g ∨ g=H)/\g < w'.heap.size
theorem xZ {B:Nat} {w w':World} {v:Value} {xs:List MS} {y:MS} {H g cap:Nat} (m1:w'.ownsRow B 124 4 (.slice (some ⟨g,0,none⟩) (xs.length+1) cap) (xs ++ [y]).length ((xs ++ [y]).flatMap qI)) (m2:w.grownBy w' v.ownBlock) (m3:v.ownBlock=some g ∨ g=H) (m4:g < w'.heap.size):EQ B w v (xs ++ [y]) H g cap w':=by
 refine ⟨?_,m2,m3,m4⟩;unfold eP;rw [show (xs ++ [y]).length=xs.length+1 by simp] at m1 ⊢;exact m1
def aO (v:Value) (d:Bool) (ty nm:List UInt8) (k:bW):Obj:=.cells #[v,.bool d,.string ⟨ty.toArray⟩,.string ⟨nm.toArray⟩,.int .i64 k.1,.int .i64 k.2.1,.string ⟨k.2.2.toArray⟩] 93 (0,0)
theorem ag {W:World} {r:Nat} {v:Value} {d:Bool} {ty nm:List UInt8} {k:bW} (h:W.heap[r]?=some (aO v d ty nm k)):W.cell? ⟨r,0,none⟩=some v/\W.cell? ⟨r,1,none⟩=some (.bool d)/\W.cell? ⟨r,2,none⟩=some (.string ⟨ty.toArray⟩)/\W.cell? ⟨r,3,none⟩=some (.string ⟨nm.toArray⟩)/\W.cell? ⟨r,4,none⟩=some (.int .i64 k.1)/\W.cell? ⟨r,5,none⟩=some (.int .i64 k.2.1)/\W.cell? ⟨r,6,none⟩=some (.string ⟨k.2.2.toArray⟩)/\(∀ o,W.frozen? ⟨r,o,none⟩=false)/\r < W.heap.size:=by
 unfold aO at h;refine ⟨by unfold World.cell?;simp [h],by unfold World.cell?;simp [h],by unfold World.cell?;simp [h],by unfold World.cell?;simp [h],by unfold World.cell?;simp [h],by unfold World.cell?;simp [h],by unfold World.cell?;simp [h],fun o=>by unfold World.frozen?;simp [h],lt_of_block h⟩
structure Ps (w:World) (W:World) (l:List UInt8) (bad:Bool) (v:Value) (xs:List MS) (d:Bool) (ty nm:List UInt8) (k:bW):Prop where
 rd:Rd (w.heap.size+1) W ⟨l.toArray⟩ bad
 ad:W.heap[w.heap.size+1+1]?=some (aO v d ty nm k)
 re:W.heap[w.heap.size]?=some (aO (.slice none 0 0) false [] [] (0,0,[]))
 own:eP (w.heap.size+3) W v xs
 bel:Below w.heap.size w W
 sz:w.heap.size+3<=W.heap.size
theorem Ps.grown {w W W':World} {l l':List UInt8} {bad bad':Bool} {v:Value} {xs:List MS} {d:Bool} {ty nm:List UInt8} {k:bW} (h:Ps w W l bad v xs d ty nm k) (hg:W.grownBy W' (some (w.heap.size+1))) (hr:Rd (w.heap.size+1) W' ⟨l'.toArray⟩ bad'):Ps w W' l' bad' v xs d ty nm k:=by
 refine ⟨hr,bH h.ad hg (by omega),bH h.re hg (by omega),dw h.own hg (fun g a e=>?_),h.bel.grown hg h.bel.size (fun k b=>by cases b;omega),Nat.le_trans h.sz hg.size⟩;rcases h.own.2 with ⟨rfl,_⟩ | ⟨g2,cap,cur,rfl,hb,_⟩
 . simp [Value.ownBlock] at a
 . simp [Value.ownBlock] at a
   simp at e;omega
theorem Ps.below {w W W':World} {l:List UInt8} {bad:Bool} {v:Value} {xs:List MS} {d:Bool} {ty nm:List UInt8} {k:bW} (h:Ps w W l bad v xs d ty nm k) (hb:Below W.heap.size W W'):Ps w W' l bad v xs d ty nm k:=
 h.grown (grown_of hb _) (h.rd.kept hb)
theorem qp {w W:World} {v:Value} {xs:List MS} (h:eP (w.heap.size+3) W v xs):∀ g,v.ownBlock=some g->w.heap.size+3<=g/\g < W.heap.size:=by
 intro g a;rcases h.2 with ⟨rfl,_⟩ | ⟨g2,cap,cur,rfl,hb,h2,_⟩
 . simp [Value.ownBlock] at a
 . simp [Value.ownBlock] at a
   subst a;exact ⟨hb,lt_of_block h2⟩
theorem Ps.put {w W:World} {l:List UInt8} {bad:Bool} {v v':Value} {xs xs':List MS} {d d':Bool} {ty nm ty' nm':List UInt8} {k k':bW} (h:Ps w W l bad v xs d ty nm k) (i:Nat) (u:Value) (e:(W.setCell ⟨w.heap.size+1+1,i,none⟩ u).heap[w.heap.size+1+1]?=some (aO v' d' ty' nm' k')) (ho:eP (w.heap.size+3) W v' xs') :
  Ps w (W.setCell ⟨w.heap.size+1+1,i,none⟩ u) l bad v' xs' d' ty' nm' k':=by
 have c:∀ j,j≠w.heap.size+1+1->(W.setCell ⟨w.heap.size+1+1,i,none⟩ u).heap[j]?=W.heap[j]?:=fun j f=>Below.heap_setCell _ _ _ _ f;have a:=aF W ⟨w.heap.size+1+1,i,none⟩ u;refine ⟨Dt h.rd a (by simp),e,(c _ (by omega)).trans h.re,dw ho a (fun g b e=>?_),h.bel.grown a h.bel.size (fun k m=>by cases m;show w.heap.size<=w.heap.size+1+1;omega),Nat.le_trans h.sz a.size⟩;have:=qp ho g b;simp at e;omega
theorem Ps.app {w W W1 W2:World} {l:List UInt8} {bad:Bool} {v:Value} {xs:List MS} {d:Bool} {ty nm:List UInt8} {k:bW} (h:Ps w W l bad v xs d ty nm k) (hb:Below W.heap.size W W1) {y:MS} {H g cap:Nat} (hm:EQ (w.heap.size+3) W1 v (xs ++ [y]) H g cap W2) :
  (W2.cell? ⟨w.heap.size+1+1,0,none⟩=some v/\W2.frozen? ⟨w.heap.size+1+1,0,none⟩=false)/\Ps w (W2.setCell ⟨w.heap.size+1+1,0,none⟩ (.slice (some ⟨g,0,none⟩) (xs ++ [y]).length cap)) l bad (.slice (some ⟨g,0,none⟩) (xs ++ [y]).length cap) (xs ++ [y]) d ty nm k:=by
 have a:=h.below hb;have q:=qp a.own;have n:=hm.2.1;have c:∀ j,j < w.heap.size+3->W2.heap[j]?=W1.heap[j]?:=fun j t=>n.block j (Nat.lt_of_lt_of_le t a.sz) (fun e=>by have:=(q j e.symm).1;omega);have i:=(c _ (by omega)).trans a.ad;obtain ⟨u,_,_,_,_,_,_,s,_⟩:=ag i;have A:Ps w W2 l bad (.slice (some ⟨g,0,none⟩) (xs ++ [y]).length cap) (xs ++ [y]) d ty nm k->True:=fun _=>trivial;refine ⟨⟨u,s 0⟩,?_⟩;have p:Rd (w.heap.size+1) W2 ⟨l.toArray⟩ bad:=(c _ (by omega)).trans a.rd;have r:=(c _ (by omega)).trans a.re;have b:=aF W2 ⟨w.heap.size+1+1,0,none⟩ (.slice (some ⟨g,0,none⟩) (xs ++ [y]).length cap);have f:Below w.heap.size w W2:=a.bel.grown n a.bel.size (fun k m=>by have:=(q k m).1;omega);refine ⟨Dt p b (by simp),?_,bH r b (by simp only;omega),dw hm.1 b (fun z o e=>?_),f.grown b f.size (fun k m=>by cases m;show w.heap.size<=w.heap.size+1+1;omega),Nat.le_trans (Nat.le_trans a.sz n.size) b.size⟩
 . unfold World.setCell aO at *
   simp only [Array.getElem?_modify,if_true,i,Option.map_some];rfl
 . have:=(qp hm.1 z o).1
   simp at e;omega
theorem Ps.p1 {w W:World} {l:List UInt8} {bad:Bool} {v:Value} {xs:List MS} {d:Bool} {ty nm:List UInt8} {k:bW} (h:Ps w W l bad v xs d ty nm k) (d2:Bool):Ps w (W.setCell ⟨w.heap.size+1+1,1,none⟩ (.bool d2)) l bad v xs d2 ty nm k:=by
 refine h.put 1 (.bool d2) ?_ h.own;have a:=h.ad;unfold World.setCell aO at *;simp only [Array.getElem?_modify,if_true,a,Option.map_some];rfl
theorem Ps.p2 {w W:World} {l:List UInt8} {bad:Bool} {v:Value} {xs:List MS} {d:Bool} {ty nm:List UInt8} {k:bW} (h:Ps w W l bad v xs d ty nm k) (s2:List UInt8):Ps w (W.setCell ⟨w.heap.size+1+1,2,none⟩ (.string ⟨s2.toArray⟩)) l bad v xs d s2 nm k:=by
 refine h.put 2 (.string ⟨s2.toArray⟩) ?_ h.own;have a:=h.ad;unfold World.setCell aO at *;simp only [Array.getElem?_modify,if_true,a,Option.map_some];rfl
theorem Ps.p3 {w W:World} {l:List UInt8} {bad:Bool} {v:Value} {xs:List MS} {d:Bool} {ty nm:List UInt8} {k:bW} (h:Ps w W l bad v xs d ty nm k) (s2:List UInt8):Ps w (W.setCell ⟨w.heap.size+1+1,3,none⟩ (.string ⟨s2.toArray⟩)) l bad v xs d ty s2 k:=by
 refine h.put 3 (.string ⟨s2.toArray⟩) ?_ h.own;have a:=h.ad;unfold World.setCell aO at *;simp only [Array.getElem?_modify,if_true,a,Option.map_some];rfl
theorem Ps.p4 {w W:World} {l:List UInt8} {bad:Bool} {v:Value} {xs:List MS} {d:Bool} {ty nm:List UInt8} {k:bW} (h:Ps w W l bad v xs d ty nm k) (n2:Int):Ps w (W.setCell ⟨w.heap.size+1+1,4,none⟩ (.int .i64 n2)) l bad v xs d ty nm (n2,k.2.1,k.2.2):=by
 refine h.put 4 (.int .i64 n2) ?_ h.own;have a:=h.ad;unfold World.setCell aO at *;simp only [Array.getElem?_modify,if_true,a,Option.map_some];rfl
theorem Ps.p5 {w W:World} {l:List UInt8} {bad:Bool} {v:Value} {xs:List MS} {d:Bool} {ty nm:List UInt8} {k:bW} (h:Ps w W l bad v xs d ty nm k) (n2:Int):Ps w (W.setCell ⟨w.heap.size+1+1,5,none⟩ (.int .i64 n2)) l bad v xs d ty nm (k.1,n2,k.2.2):=by
 refine h.put 5 (.int .i64 n2) ?_ h.own;have a:=h.ad;unfold World.setCell aO at *;simp only [Array.getElem?_modify,if_true,a,Option.map_some];rfl
theorem Ps.p6 {w W:World} {l:List UInt8} {bad:Bool} {v:Value} {xs:List MS} {d:Bool} {ty nm:List UInt8} {k:bW} (h:Ps w W l bad v xs d ty nm k) (s2:List UInt8):Ps w (W.setCell ⟨w.heap.size+1+1,6,none⟩ (.string ⟨s2.toArray⟩)) l bad v xs d ty nm (k.1,k.2.1,s2):=by
 refine h.put 6 (.string ⟨s2.toArray⟩) ?_ h.own;have a:=h.ad;unfold World.setCell aO at *;simp only [Array.getElem?_modify,if_true,a,Option.map_some];rfl
theorem Ps.fin {w W:World} {l:List UInt8} {bad:Bool} {v:Value} {xs:List MS} {d:Bool} {ty nm:List UInt8} {k:bW} (h:Ps w W l bad v xs d ty nm k) (v2:Value) (d2:Bool) (ty2 nm2:List UInt8) (k2:bW) (W':World)
  (e:W'=((((((W.setCell ⟨w.heap.size,0,none⟩ v2).setCell ⟨w.heap.size,1,none⟩ (.bool d2)).setCell ⟨w.heap.size,2,none⟩ (.string ⟨ty2.toArray⟩)).setCell ⟨w.heap.size,3,none⟩ (.string ⟨nm2.toArray⟩)).setCell ⟨w.heap.size,4,none⟩ (.int .i64 k2.1)).setCell ⟨w.heap.size,5,none⟩ (.int .i64 k2.2.1)).setCell ⟨w.heap.size,6,none⟩ (.string ⟨k2.2.2.toArray⟩)) :
  W'.heap[w.heap.size]?=some (aO v2 d2 ty2 nm2 k2)/\eP (w.heap.size+3) W' v xs/\Below w.heap.size w W':=by
 subst e;have b:=h.re;have c:=aG (aG (aG (aG (aG (aG (aF W ⟨w.heap.size,0,none⟩ v2) (aF _ ⟨w.heap.size,1,none⟩ (.bool d2))) (aF _ ⟨w.heap.size,2,none⟩ (.string ⟨ty2.toArray⟩))) (aF _ ⟨w.heap.size,3,none⟩ (.string ⟨nm2.toArray⟩))) (aF _ ⟨w.heap.size,4,none⟩ (.int .i64 k2.1))) (aF _ ⟨w.heap.size,5,none⟩ (.int .i64 k2.2.1))) (aF _ ⟨w.heap.size,6,none⟩ (.string ⟨k2.2.2.toArray⟩));refine ⟨?_,dw h.own c (fun g a e=>?_),h.bel.grown c h.bel.size (fun k f=>by cases f;exact Nat.le_refl _)⟩
 . unfold World.setCell aO at *
   simp only [Array.getElem?_modify,if_true,b,Option.map_some];rfl
 . have:=(qp h.own g a).1
   simp at e;omega
theorem Ps.start (w:World) (s:ByteArray):Ps w (((w.alloc (aO (.slice none 0 0) false [] [] (0,0,[]))).alloc (.cells #[.string s,.bool false] 122)).alloc (aO (.slice none 0 0) false [] [] (0,0,[]))) s.data.toList false (.slice none 0 0) [] false [] [] (0,0,[]):=by
 have d:Below w.heap.size w (w.alloc (aO (.slice none 0 0) false [] [] (0,0,[]))):=(Below.refl _ _).alloc (Nat.le_refl _) _;have f:=bM w (aO (.slice none 0 0) false [] [] (0,0,[]));have k:(w.alloc (aO (.slice none 0 0) false [] [] (0,0,[]))).heap.size=w.heap.size+1:=by simp [World.size_alloc]
 generalize w.alloc (aO (.slice none 0 0) false [] [] (0,0,[]))=w1 at *;have b:Below w1.heap.size w1 (w1.alloc (.cells #[.string s,.bool false] 122)):=(Below.refl _ _).alloc (Nat.le_refl _) _;have i:=bM w1 (.cells #[.string s,.bool false] 122);have m:(w1.alloc (.cells #[.string s,.bool false] 122)).heap.size=w1.heap.size+1:=by simp [World.size_alloc]
 have g:=(b.block _ (lt_of_block f)).trans f;generalize w1.alloc (.cells #[.string s,.bool false] 122)=w2 at *;have a:Below w2.heap.size w2 (w2.alloc (aO (.slice none 0 0) false [] [] (0,0,[]))):=(Below.refl _ _).alloc (Nat.le_refl _) _;have j:=bM w2 (aO (.slice none 0 0) false [] [] (0,0,[]));have n:(w2.alloc (aO (.slice none 0 0) false [] [] (0,0,[]))).heap.size=w2.heap.size+1:=by simp [World.size_alloc]
 have l:=(a.block _ (lt_of_block g)).trans g;have c:=(a.block _ (lt_of_block i)).trans i;generalize w2.alloc (aO (.slice none 0 0) false [] [] (0,0,[]))=w3 at *;rw [m,k] at j;rw [k] at c;refine ⟨?_,j,l,iM _ _,(d.trans (b.mono (by omega))).trans (a.mono (by omega)),by omega⟩;unfold Rd;simpa using c
def dN:List UInt8:=[109,111,100,117,108,101,46]
def fO:List UInt8:=[100,97,116,97,46]
def fA:Nat->List UInt8->Bool->List MS × List UInt8 × Bool
 | 0,l,bad=>([],l,bad)
 | n+1,l,bad=>if bad=true then ([],l,true) else if Lib.hasPrefix l dN=false then ([],Lib.trimPrefix l dN,false)
   else ((dK (Lib.trimPrefix l dN) false).1 :: (fA n (eu [46] (dK (Lib.trimPrefix l dN) false).2.1 (dK (Lib.trimPrefix l dN) false).2.2).1 (eu [46] (dK (Lib.trimPrefix l dN) false).2.1 (dK (Lib.trimPrefix l dN) false).2.2).2).1,
    (fA n (eu [46] (dK (Lib.trimPrefix l dN) false).2.1 (dK (Lib.trimPrefix l dN) false).2.2).1 (eu [46] (dK (Lib.trimPrefix l dN) false).2.1 (dK (Lib.trimPrefix l dN) false).2.2).2).2)
theorem PH {l p:List UInt8} (h:Lib.hasPrefix l p=true) (hp:1<=p.length) (hl:p.length<=l.length):(Lib.trimPrefix l p).length < l.length:=by
 unfold Lib.trimPrefix;rw [if_pos h,List.length_drop];omega
theorem En (l:List UInt8) (bad:Bool):(lL l bad).2.1.length<=l.length:=by
 unfold lL;split
 . simp
 . split
   . exact jB _ _
   . have:=jB l [91]
     generalize Lib.trimPrefix l [91]=t at this ⊢;simp only;split
     . split
       . simpa using this
       . split
         . simpa using this
         . simp only [eu]
           refine Nat.le_trans (jB _ _) ?_;rw [List.length_drop];omega
     . simp only [eu]
       refine Nat.le_trans (jB _ _) ?_;rw [List.length_drop];omega
theorem zi (l:List UInt8) (bad:Bool):(dK l bad).2.1.length<=l.length:=by
 unfold dK;refine Nat.le_trans (En _ _) ?_;rw [List.length_drop];omega
theorem MH {l p:List UInt8} (h:Lib.hasPrefix l p=true):p.length<=l.length:=by
 rw [<-Lib.hasPrefix_of_take] at h;simp only [Bool.and_eq_true,decide_eq_true_eq] at h;exact h.1
structure TR where
 d:Bool
 ty:List UInt8
 nm:List UInt8
 k:bW
 l:List UInt8
 bad:Bool
def Aj (l:List UInt8) (bad:Bool):TR:=
 let l1:=Lib.trimPrefix l fO;let ty:=l1.take (bV l1);let y:=eu [46] (l1.drop (bV l1)) (bad || !eH ty);let nm:=y.1.take (bV y.1);let z:=lL (y.1.drop (bV y.1)) (y.2 || !eH nm)
 ⟨Lib.hasPrefix l fO,ty,nm,z.1,z.2.1,z.2.2⟩
theorem zB (n:Nat) (l:List UInt8):fA (n+1) l true=([],l,true):=by unfold fA;rw [if_pos rfl]
theorem FB (n:Nat) (l:List UInt8) (h:Lib.hasPrefix l dN=false):fA (n+1) l false=([],Lib.trimPrefix l dN,false):=by unfold fA;rw [if_neg (by simp),if_pos h]
theorem zW (n:Nat) (l:List UInt8) (h:Lib.hasPrefix l dN=true):fA (n+1) l false=((dK (Lib.trimPrefix l dN) false).1 :: (fA n (eu [46] (dK (Lib.trimPrefix l dN) false).2.1 (dK (Lib.trimPrefix l dN) false).2.2).1 (eu [46] (dK (Lib.trimPrefix l dN) false).2.1 (dK (Lib.trimPrefix l dN) false).2.2).2).1,
  (fA n (eu [46] (dK (Lib.trimPrefix l dN) false).2.1 (dK (Lib.trimPrefix l dN) false).2.2).1 (eu [46] (dK (Lib.trimPrefix l dN) false).2.1 (dK (Lib.trimPrefix l dN) false).2.2).2).2):=by
 conv=>lhs;unfold fA
 rw [if_neg (by simp),if_neg (by rw [h];simp)]
def QM (w:World) (a:Addr):Value:=(w.cell? a).getD undef
theorem KA {W:World} {a:Addr} {v:Value} (h:W.cell? a=some v):QM W a=v:=by unfold QM;rw [h];rfl
theorem jv (l:List UInt8):(⟨l.toArray⟩:ByteArray).size=l.length:=by show l.toArray.size=_;simp
def uz (ty:List UInt8):Bool:=eH ty && !nN ty
def nO (xs:List MS) (t:TR):Int:=if t.bad=true ∨ t.l≠[] ∨ uz t.ty=false then 2 else if 16 < xs.length then 4 else 0
theorem QJ {xs:List MS} {d:Bool} {ty nm:List UInt8} {k:bW} (hk:uz ty=true) (hx:decide ((16:Int) < (xs.length:Int))=true):nO xs ⟨d,ty,nm,k,[],false⟩=4:=by
 have:=of_decide_eq_true hx;unfold nO;rw [if_neg (by simp [hk]),if_pos (by omega)]
theorem QW {xs:List MS} {d:Bool} {ty nm:List UInt8} {k:bW} (hk:uz ty=true) (hx:decide ((16:Int) < (xs.length:Int))=false):nO xs ⟨d,ty,nm,k,[],false⟩=0:=by
 have:=of_decide_eq_false hx;unfold nO;rw [if_neg (by simp [hk]),if_neg (by omega)]
def Ux (v:Value) (t:TR):Value:=.agg #[v,.bool t.d,.string ⟨t.ty.toArray⟩,.string ⟨t.nm.toArray⟩,.int .i64 t.k.1,.int .i64 t.k.2.1,.string ⟨t.k.2.2.toArray⟩]
def ad0:Value:=.agg #[.slice none 0 0,.bool false,.string ⟨#[]⟩,.string ⟨#[]⟩,.int .i64 0,.int .i64 0,.string ⟨#[]⟩]
def uG (w:World) (X:List MS × List UInt8 × Bool) (e:Ending) (w':World):Prop:=
 (if nO X.1 (Aj X.2.1 X.2.2)=0 then ∃ v,e=.returned (.tuple #[Ux v (Aj X.2.1 X.2.2),.int .i64 0])/\eP (w.heap.size+3) w' v X.1 else e=.returned (.tuple #[ad0,.int .i64 (nO X.1 (Aj X.2.1 X.2.2))]))/\Below w.heap.size w w'
theorem MC (w:World) (hT:WT w) (l0:List UInt8) (b0:Bool) (hl:l0.length<=2000000):∃ (d:Bool) (l1 ty l2:List UInt8) (b2:Bool) (l3:List UInt8) (b3:Bool) (nm l4:List UInt8) (b4:Bool) (k:bW) (l5:List UInt8) (b5:Bool),Aj l0 b0=⟨d,ty,nm,k,l5,b5⟩/\ty.length<=2000000/\l5.length<=2000000 /\
  (∀ W,Rd (w.heap.size+1) W ⟨l0.toArray⟩ b0->Calls Tryz.prog 94 #[.pointer (some ⟨w.heap.size+1,0,none⟩),.string ⟨#[100,97,116,97,46]⟩] W fun e w'=>e=.returned (.bool d)/\Rd (w.heap.size+1) w' ⟨l1.toArray⟩ b0/\W.grownBy w' (some (w.heap.size+1))) /\
  (∀ W,Rd (w.heap.size+1) W ⟨l1.toArray⟩ b0->Calls Tryz.prog 97 #[.pointer (some ⟨w.heap.size+1,0,none⟩)] W fun e w'=>e=.returned (.string ⟨ty.toArray⟩)/\Rd (w.heap.size+1) w' ⟨l2.toArray⟩ b2/\W.grownBy w' (some (w.heap.size+1))) /\
  (∀ W,Rd (w.heap.size+1) W ⟨l2.toArray⟩ b2->Calls Tryz.prog 96 #[.pointer (some ⟨w.heap.size+1,0,none⟩),.string ⟨#[46]⟩] W fun e w'=>e=.returned (.tuple #[])/\Rd (w.heap.size+1) w' ⟨l3.toArray⟩ b3/\W.grownBy w' (some (w.heap.size+1))) /\
  (∀ W,Rd (w.heap.size+1) W ⟨l3.toArray⟩ b3->Calls Tryz.prog 97 #[.pointer (some ⟨w.heap.size+1,0,none⟩)] W fun e w'=>e=.returned (.string ⟨nm.toArray⟩)/\Rd (w.heap.size+1) w' ⟨l4.toArray⟩ b4/\W.grownBy w' (some (w.heap.size+1))) /\
  (∀ W,Below w.heap.size w W->Rd (w.heap.size+1) W ⟨l4.toArray⟩ b4->Calls Tryz.prog 98 #[.pointer (some ⟨w.heap.size+1,0,none⟩)] W fun e w'=>e=.returned (kV k)/\Rd (w.heap.size+1) w' ⟨l5.toArray⟩ b5/\W.grownBy w' (some (w.heap.size+1))):=by
 have f:(Lib.trimPrefix l0 fO).length<=2000000:=Nat.le_trans (jB _ _) hl
 have i:∀ (l:List UInt8) (b:Bool) (h:l.length<=2000000) (W:World),Rd (w.heap.size+1) W ⟨l.toArray⟩ b->Calls Tryz.prog 97 #[.pointer (some ⟨w.heap.size+1,0,none⟩)] W fun e w'=>e=.returned (.string ⟨(l.take (bV l)).toArray⟩)/\Rd (w.heap.size+1) w' ⟨(l.drop (bV l)).toArray⟩ (b || !eH (l.take (bV l)))/\W.grownBy w' (some (w.heap.size+1)):=by
  intro l b h W c;have a:=Fq ⟨l.toArray⟩ (w.heap.size+1) b W (by rw [jv];exact h) c;rw [show eH (yT ⟨l.toArray⟩).data.toList=eH (l.take (bV l)) by rw [uU],DD,uO] at a;exact a
 generalize q:Lib.trimPrefix l0 fO=l1 at f;have p:(l1.drop (bV l1)).length<=2000000:=by rw [List.length_drop];omega
 have j:(l1.take (bV l1)).length<=2000000:=by rw [List.length_take];omega
 have s:=jB (l1.drop (bV l1)) [46];generalize o:eu [46] (l1.drop (bV l1)) (b0 || !eH (l1.take (bV l1)))=y;have m:y.1.length<=2000000:=by rw [<-o];exact Nat.le_trans s p
 have g:(y.1.drop (bV y.1)).length<=2000000:=by rw [List.length_drop];omega
 generalize r:lL (y.1.drop (bV y.1)) (y.2 || !eH (y.1.take (bV y.1)))=z;have n:z.2.1.length<=2000000:=by rw [<-r];exact Nat.le_trans (En _ _) g
 refine ⟨Lib.hasPrefix l0 fO,l1,l1.take (bV l1),l1.drop (bV l1),b0 || !eH (l1.take (bV l1)),y.1,y.2,y.1.take (bV y.1),y.1.drop (bV y.1),y.2 || !eH (y.1.take (bV y.1)),z.1,z.2.1,z.2.2,?_,j,n,?_,?_,?_,?_,?_⟩
 . unfold Aj;simp only [q,o,r]
 . intro W c
   have a:=mJ ⟨#[100,97,116,97,46]⟩ ⟨l0.toArray⟩ (w.heap.size+1) b0 W c;rw [show lh (⟨#[100,97,116,97,46]⟩:ByteArray).data.toList ⟨l0.toArray⟩=⟨l1.toArray⟩ from by rw [<-q];rfl] at a;exact a
 . exact i l1 b0 f
 . intro W c
   have a:=tN ⟨#[46]⟩ ⟨(l1.drop (bV l1)).toArray⟩ (w.heap.size+1) _ W c;rw [show lh (⟨#[46]⟩:ByteArray).data.toList ⟨(l1.drop (bV l1)).toArray⟩=⟨y.1.toArray⟩ from by rw [<-o];rfl,show (b0 || !eH (l1.take (bV l1)) || !rf (⟨#[46]⟩:ByteArray).data.toList ⟨(l1.drop (bV l1)).toArray⟩)=y.2 from by rw [<-o];rfl] at a;exact a
 . exact i y.1 y.2 m
 . intro W t c
   have a:=wE ⟨(y.1.drop (bV y.1)).toArray⟩ (w.heap.size+1) _ W w hT t (by omega) (by rw [jv];exact g) c;rw [show lL (⟨(y.1.drop (bV y.1)).toArray⟩:ByteArray).data.toList (y.2 || !eH (y.1.take (bV y.1)))=z from r] at a;exact a
set_option maxHeartbeats 4000000 in
theorem parse_any (s:ByteArray) (w:World) (hT:WT w) (hs:s.size<=2000000):Calls Tryz.prog 52 #[.string s] w fun e w'=>uG w (fA (s.size+1) s.data.toList false) e w':=by
 have HS:=hid (Ps.start w s);obtain ⟨X,hX⟩:∃ X,fA (s.size+1) s.data.toList false=X:=⟨_,rfl⟩;have HX:=hid hX;rw [hX];clear hX;have hl:=aj s;unfold aO at HS;have HB:=hid (Below.refl w.heap.size w);have a7:=hid hT;clear hT;go_enter Tryz.func52,Tryz.ntmps52;go_wp2
 go_loopg [] (s.size+1) (fun gg wr=>∃ (l:List UInt8) (ac:Bool) (v:Value) (q:List MS),l.length < gg/\l.length<=s.size/\q.length+l.length<=s.size/\Hid (Ps w wr l ac v q false [] [] (0,0,[]))/\Hid ((q ++ (fA gg l ac).1,(fA gg l ac).2)=X))
 case atStart=>exact ⟨s.data.toList,false,.slice none 0 0,[],by omega,by omega,by rw [List.length_nil];omega,HS,hid (by rw [<-HX.out];rfl)⟩
 case round =>
  clear HS HX HB;obtain ⟨l,ac,v,q,h1,h2,h3,HP,HM⟩:=hrel;obtain ⟨n,rfl⟩:∃ n,gk=n+1:=⟨gk - 1,by omega⟩;obtain ⟨c0,c1,c2,c3⟩:=HP.out.rd.cells;cases ac
  case true =>
   have I:=hid (show X=(q,l,true) by rw [<-HM.out,zB];simp);clear HM;have af:l.length<=2000000:=by omega
   clear h1 h2 h3 hl;obtain ⟨d,l1,r,l2,b2,l3,b3,nm,l4,b4,k,K,J,p,ap,L,P,Q,S,R,u⟩:=MC w a7.out l true af;obtain ⟨rv,cv,hv,_,_⟩:=dJ HP.out.own;subst hv;replace p:=hid p;replace P:=hid P;replace Q:=hid Q;replace S:=hid S;replace R:=hid R;replace u:=hid u;have aM:=hid (And.intro ap L);clear ap L af;go_wp2_with (go_at_call 94;have f:=P.out _ HP.out.rd;refine Calls.mono f ?_;clear f;rintro e w7 ⟨rfl,c,i⟩;have P7:=hid (HP.out.grown i c);clear c i;have O:=(ag P7.out.ad).2.1;have T:=(ag P7.out.ad).2.2.2.2.2.2.2.1 1)
   have P8:=hid (P7.out.p1 d);go_wp2_with (go_at_call 97;have f:=Q.out _ P8.out.rd;refine Calls.mono f ?_;clear f;rintro e w9 ⟨rfl,c,i⟩;have P9:=hid (P8.out.grown i c);clear c i;have M:=(ag P9.out.ad).2.2.1;have N:=(ag P9.out.ad).2.2.2.2.2.2.2.1 2)
   have ao:=hid (P9.out.p2 r);go_wp2_with (go_at_call 96;have f:=S.out _ ao.out.rd;refine Calls.mono f ?_;clear f;rintro e w11 ⟨rfl,c,i⟩;have al:=hid (ao.out.grown i c);clear c i)
   go_wp2_with (go_at_call 97;have f:=R.out _ al.out.rd;refine Calls.mono f ?_;clear f;rintro e w12 ⟨rfl,c,i⟩;have U:=hid (al.out.grown i c);clear c i;have Y:=(ag U.out.ad).2.2.2.1;have f3:=(ag U.out.ad).2.2.2.2.2.2.2.1 3)
   have j:=hid (U.out.p3 nm);have A:=hid (fun (W:World)=>uX ⟨r.toArray⟩ W (by rw [jv];exact aM.out.1));rw [show (eH (⟨r.toArray⟩:ByteArray).data.toList && !nN (⟨r.toArray⟩:ByteArray).data.toList)=uz r from rfl] at A;have an:=hid (show nO q (Aj l true)=_ from rfl);rw [p.out] at an
   have aq:(J=true) ∨ (J=false/\(K == [])=false) ∨ (J=false/\K=[]/\uz r=false) ∨ (J=false/\K=[]/\uz r=true/\decide ((16:Int) < (q.length:Int))=true) ∨ (J=false/\K=[]/\uz r=true/\decide ((16:Int) < (q.length:Int))=false):=by
    cases J <;> cases K <;> cases uz r <;> cases decide ((16:Int) < (q.length:Int)) <;> simp
   clear an;rcases aq with rfl | ⟨rfl,L⟩ | ⟨rfl,rfl,hk⟩ | ⟨rfl,rfl,hk,hx⟩ | ⟨rfl,rfl,hk,hx⟩
   . go_wp2_with (go_at_call 98;have f:=u.out _ j.out.bel j.out.rd;refine Calls.mono f ?_;clear f;rintro e w14 ⟨rfl,c,i⟩;have a:=hid (j.out.grown i c);clear c i;have a0:=(ag a.out.ad).1;have f0:=(ag a.out.ad).2.2.2.2.2.2.2.1 0;have O:=(ag a.out.ad).2.1;have T:=(ag a.out.ad).2.2.2.2.2.2.2.1 1;have M:=(ag a.out.ad).2.2.1;have N:=(ag a.out.ad).2.2.2.2.2.2.2.1 2;have a4:=(ag a.out.ad).2.2.2.2.1;have f4:=(ag a.out.ad).2.2.2.2.2.2.2.1 4;have a5:=(ag a.out.ad).2.2.2.2.2.1;have Z:=(ag a.out.ad).2.2.2.2.2.2.2.1 5;have a6:=(ag a.out.ad).2.2.2.2.2.2.1;have f6:=(ag a.out.ad).2.2.2.2.2.2.2.1 6;have r0:=a.out.rd.cells.1;have r1:=a.out.rd.cells.2.1;obtain ⟨e0,e1,e2,e3,e4,e5,e6,b,_⟩:=ag a.out.re;have g0:=b 0;have g1:=b 1;have g2:=b 2;have g3:=b 3;have g4:=b 4;have g5:=b 5;have g6:=b 6;have Y:=(ag a.out.ad).2.2.2.1;simp only [kV])
     have o:=hid (((a.out.p4 k.1).p5 k.2.1).p6 k.2.2);obtain ⟨D,V,m⟩:=o.out.fin (.slice none 0 0) false [] [] (0,0,[]) _ rfl;obtain ⟨H,k1,C,E,G,B,F,_,_⟩:=ag D;exact bodyPost_ret (v:=.tuple #[ad0,.int .i64 2]) (by simp [results,Tryz.results52,go_sem,H,k1,C,E,G,B,F,ad0]) rfl (by rw [I.out];unfold uG;simp only;rw [p.out];exact ⟨by simp_all [nO],m⟩)
   . go_wp2_with (go_at_call 98;have f:=u.out _ j.out.bel j.out.rd;refine Calls.mono f ?_;clear f;rintro e w14 ⟨rfl,c,i⟩;have a:=hid (j.out.grown i c);clear c i;have a0:=(ag a.out.ad).1;have f0:=(ag a.out.ad).2.2.2.2.2.2.2.1 0;have O:=(ag a.out.ad).2.1;have T:=(ag a.out.ad).2.2.2.2.2.2.2.1 1;have M:=(ag a.out.ad).2.2.1;have N:=(ag a.out.ad).2.2.2.2.2.2.2.1 2;have a4:=(ag a.out.ad).2.2.2.2.1;have f4:=(ag a.out.ad).2.2.2.2.2.2.2.1 4;have a5:=(ag a.out.ad).2.2.2.2.2.1;have Z:=(ag a.out.ad).2.2.2.2.2.2.2.1 5;have a6:=(ag a.out.ad).2.2.2.2.2.2.1;have f6:=(ag a.out.ad).2.2.2.2.2.2.2.1 6;have r0:=a.out.rd.cells.1;have r1:=a.out.rd.cells.2.1;obtain ⟨e0,e1,e2,e3,e4,e5,e6,b,_⟩:=ag a.out.re;have g0:=b 0;have g1:=b 1;have g2:=b 2;have g3:=b 3;have g4:=b 4;have g5:=b 5;have g6:=b 6;have Y:=(ag a.out.ad).2.2.2.1;simp only [kV])
     have o:=hid (((a.out.p4 k.1).p5 k.2.1).p6 k.2.2);obtain ⟨D,V,m⟩:=o.out.fin (.slice none 0 0) false [] [] (0,0,[]) _ rfl;obtain ⟨H,k1,C,E,G,B,F,_,_⟩:=ag D;exact bodyPost_ret (v:=.tuple #[ad0,.int .i64 2]) (by simp [results,Tryz.results52,go_sem,H,k1,C,E,G,B,F,ad0]) rfl (by rw [I.out];unfold uG;simp only;rw [p.out];exact ⟨by simp_all [nO],m⟩)
   . rw [hk] at A
     go_wp2_with (first | (go_at_call 98;have f:=u.out _ j.out.bel j.out.rd;refine Calls.mono f ?_;clear f;rintro e w14 ⟨rfl,c,i⟩;have a:=hid (j.out.grown i c);clear c i;have a0:=(ag a.out.ad).1;have f0:=(ag a.out.ad).2.2.2.2.2.2.2.1 0;have O:=(ag a.out.ad).2.1;have T:=(ag a.out.ad).2.2.2.2.2.2.2.1 1;have M:=(ag a.out.ad).2.2.1;have N:=(ag a.out.ad).2.2.2.2.2.2.2.1 2;have a4:=(ag a.out.ad).2.2.2.2.1;have f4:=(ag a.out.ad).2.2.2.2.2.2.2.1 4;have a5:=(ag a.out.ad).2.2.2.2.2.1;have Z:=(ag a.out.ad).2.2.2.2.2.2.2.1 5;have a6:=(ag a.out.ad).2.2.2.2.2.2.1;have f6:=(ag a.out.ad).2.2.2.2.2.2.2.1 6;have r0:=a.out.rd.cells.1;have r1:=a.out.rd.cells.2.1;obtain ⟨e0,e1,e2,e3,e4,e5,e6,b,_⟩:=ag a.out.re;have g0:=b 0;have g1:=b 1;have g2:=b 2;have g3:=b 3;have g4:=b 4;have g5:=b 5;have g6:=b 6;have Y:=(ag a.out.ad).2.2.2.1;simp only [kV]) | (go_at_call 99;refine (A.out _).mono ?_;rintro e wk ⟨rfl,rfl⟩))
     have o:=hid (((a.out.p4 k.1).p5 k.2.1).p6 k.2.2);obtain ⟨D,V,m⟩:=o.out.fin (.slice none 0 0) false [] [] (0,0,[]) _ rfl;obtain ⟨H,k1,C,E,G,B,F,_,_⟩:=ag D;exact bodyPost_ret (v:=.tuple #[ad0,.int .i64 2]) (by simp [results,Tryz.results52,go_sem,H,k1,C,E,G,B,F,ad0]) rfl (by rw [I.out];unfold uG;simp only;rw [p.out];exact ⟨by simp_all [nO],m⟩)
   . rw [hk] at A
     go_wp2_with (first | (go_at_call 98;have f:=u.out _ j.out.bel j.out.rd;refine Calls.mono f ?_;clear f;rintro e w14 ⟨rfl,c,i⟩;have a:=hid (j.out.grown i c);clear c i;have a0:=(ag a.out.ad).1;have f0:=(ag a.out.ad).2.2.2.2.2.2.2.1 0;have O:=(ag a.out.ad).2.1;have T:=(ag a.out.ad).2.2.2.2.2.2.2.1 1;have M:=(ag a.out.ad).2.2.1;have N:=(ag a.out.ad).2.2.2.2.2.2.2.1 2;have a4:=(ag a.out.ad).2.2.2.2.1;have f4:=(ag a.out.ad).2.2.2.2.2.2.2.1 4;have a5:=(ag a.out.ad).2.2.2.2.2.1;have Z:=(ag a.out.ad).2.2.2.2.2.2.2.1 5;have a6:=(ag a.out.ad).2.2.2.2.2.2.1;have f6:=(ag a.out.ad).2.2.2.2.2.2.2.1 6;have r0:=a.out.rd.cells.1;have r1:=a.out.rd.cells.2.1;obtain ⟨e0,e1,e2,e3,e4,e5,e6,b,_⟩:=ag a.out.re;have g0:=b 0;have g1:=b 1;have g2:=b 2;have g3:=b 3;have g4:=b 4;have g5:=b 5;have g6:=b 6;have Y:=(ag a.out.ad).2.2.2.1;simp only [kV]) | (go_at_call 99;refine (A.out _).mono ?_;rintro e wk ⟨rfl,rfl⟩))
     have o:=hid (((a.out.p4 k.1).p5 k.2.1).p6 k.2.2);obtain ⟨D,V,m⟩:=o.out.fin (.slice none 0 0) false [] [] (0,0,[]) _ rfl;obtain ⟨H,k1,C,E,G,B,F,_,_⟩:=ag D;exact bodyPost_ret (v:=.tuple #[ad0,.int .i64 4]) (by simp [results,Tryz.results52,go_sem,H,k1,C,E,G,B,F,ad0]) rfl (by rw [I.out];unfold uG;simp only;rw [p.out];exact ⟨by rw [QJ hk hx];rfl,m⟩)
   . rw [hk] at A
     go_wp2_with (first | (go_at_call 98;have f:=u.out _ j.out.bel j.out.rd;refine Calls.mono f ?_;clear f;rintro e w14 ⟨rfl,c,i⟩;have a:=hid (j.out.grown i c);clear c i;have a0:=(ag a.out.ad).1;have f0:=(ag a.out.ad).2.2.2.2.2.2.2.1 0;have O:=(ag a.out.ad).2.1;have T:=(ag a.out.ad).2.2.2.2.2.2.2.1 1;have M:=(ag a.out.ad).2.2.1;have N:=(ag a.out.ad).2.2.2.2.2.2.2.1 2;have a4:=(ag a.out.ad).2.2.2.2.1;have f4:=(ag a.out.ad).2.2.2.2.2.2.2.1 4;have a5:=(ag a.out.ad).2.2.2.2.2.1;have Z:=(ag a.out.ad).2.2.2.2.2.2.2.1 5;have a6:=(ag a.out.ad).2.2.2.2.2.2.1;have f6:=(ag a.out.ad).2.2.2.2.2.2.2.1 6;have r0:=a.out.rd.cells.1;have r1:=a.out.rd.cells.2.1;obtain ⟨e0,e1,e2,e3,e4,e5,e6,b,_⟩:=ag a.out.re;have g0:=b 0;have g1:=b 1;have g2:=b 2;have g3:=b 3;have g4:=b 4;have g5:=b 5;have g6:=b 6;have Y:=(ag a.out.ad).2.2.2.1;simp only [kV]) | (go_at_call 99;refine (A.out _).mono ?_;rintro e wk ⟨rfl,rfl⟩))
     have o:=hid (((a.out.p4 k.1).p5 k.2.1).p6 k.2.2);obtain ⟨D,V,m⟩:=o.out.fin (.slice rv q.length cv) d r nm k _ rfl;obtain ⟨H,k1,C,E,G,B,F,_,_⟩:=ag D;exact bodyPost_ret (v:=.tuple #[Ux (.slice rv q.length cv) ⟨d,r,nm,k,[],false⟩,.int .i64 0]) (by simp [results,Tryz.results52,go_sem,H,k1,C,E,G,B,F,Ux]) rfl (by rw [I.out];unfold uG;simp only;rw [p.out];exact ⟨by rw [if_pos (QW hk hx)];exact ⟨_,rfl,V⟩,m⟩)
  cases hp:Lib.hasPrefix l dN
  case false =>
   have I:=hid (show X=(q,Lib.trimPrefix l dN,false) by rw [<-HM.out,FB n l hp];simp);have HA:=hid (mJ ⟨#[109,111,100,117,108,101,46]⟩ ⟨l.toArray⟩ (w.heap.size+1) false wr HP.out.rd);have am:=hid (fun (W:World) (i:wr.grownBy W (some (w.heap.size+1))) (c:Rd (w.heap.size+1) W ⟨(Lib.trimPrefix l dN).toArray⟩ false)=>HP.out.grown i c);rw [show rf (⟨#[109,111,100,117,108,101,46]⟩:ByteArray).data.toList ⟨l.toArray⟩=false from hp] at HA;change Hid (Calls _ _ _ _ fun e w'=>e=_/\Rd _ w' ⟨(Lib.trimPrefix l dN).toArray⟩ false/\_) at HA;clear HM hp;go_wp2_with (go_at_call 94;have f:=HA.out;clear HA;refine Calls.mono f ?_;clear f;rintro e w1 ⟨rfl,c,i⟩;have aa:=hid (am.out _ i c);clear c i am)
   have af:(Lib.trimPrefix l dN).length<=2000000:=by have:=jB l dN;omega
   clear h1 h2 h3 hl c0 c1 c2 c3;generalize Lib.trimPrefix l dN=l at *;obtain ⟨d,l1,r,l2,b2,l3,b3,nm,l4,b4,k,K,J,p,ap,L,P,Q,S,R,u⟩:=MC w a7.out l false af;obtain ⟨rv,cv,hv,_,_⟩:=dJ aa.out.own;subst hv;replace p:=hid p;replace P:=hid P;replace Q:=hid Q;replace S:=hid S;replace R:=hid R;replace u:=hid u;have aM:=hid (And.intro ap L);clear ap L af;go_wp2_with (go_at_call 94;have f:=P.out _ aa.out.rd;refine Calls.mono f ?_;clear f;rintro e w7 ⟨rfl,c,i⟩;have P7:=hid (aa.out.grown i c);clear c i;have O:=(ag P7.out.ad).2.1;have T:=(ag P7.out.ad).2.2.2.2.2.2.2.1 1)
   have P8:=hid (P7.out.p1 d);go_wp2_with (go_at_call 97;have f:=Q.out _ P8.out.rd;refine Calls.mono f ?_;clear f;rintro e w9 ⟨rfl,c,i⟩;have P9:=hid (P8.out.grown i c);clear c i;have M:=(ag P9.out.ad).2.2.1;have N:=(ag P9.out.ad).2.2.2.2.2.2.2.1 2)
   have ao:=hid (P9.out.p2 r);go_wp2_with (go_at_call 96;have f:=S.out _ ao.out.rd;refine Calls.mono f ?_;clear f;rintro e w11 ⟨rfl,c,i⟩;have al:=hid (ao.out.grown i c);clear c i)
   go_wp2_with (go_at_call 97;have f:=R.out _ al.out.rd;refine Calls.mono f ?_;clear f;rintro e w12 ⟨rfl,c,i⟩;have U:=hid (al.out.grown i c);clear c i;have Y:=(ag U.out.ad).2.2.2.1;have f3:=(ag U.out.ad).2.2.2.2.2.2.2.1 3)
   have j:=hid (U.out.p3 nm);have A:=hid (fun (W:World)=>uX ⟨r.toArray⟩ W (by rw [jv];exact aM.out.1));rw [show (eH (⟨r.toArray⟩:ByteArray).data.toList && !nN (⟨r.toArray⟩:ByteArray).data.toList)=uz r from rfl] at A;have an:=hid (show nO q (Aj l false)=_ from rfl);rw [p.out] at an
   have aq:(J=true) ∨ (J=false/\(K == [])=false) ∨ (J=false/\K=[]/\uz r=false) ∨ (J=false/\K=[]/\uz r=true/\decide ((16:Int) < (q.length:Int))=true) ∨ (J=false/\K=[]/\uz r=true/\decide ((16:Int) < (q.length:Int))=false):=by
    cases J <;> cases K <;> cases uz r <;> cases decide ((16:Int) < (q.length:Int)) <;> simp
   clear an;rcases aq with rfl | ⟨rfl,L⟩ | ⟨rfl,rfl,hk⟩ | ⟨rfl,rfl,hk,hx⟩ | ⟨rfl,rfl,hk,hx⟩
   . go_wp2_with (go_at_call 98;have f:=u.out _ j.out.bel j.out.rd;refine Calls.mono f ?_;clear f;rintro e w14 ⟨rfl,c,i⟩;have a:=hid (j.out.grown i c);clear c i;have a0:=(ag a.out.ad).1;have f0:=(ag a.out.ad).2.2.2.2.2.2.2.1 0;have O:=(ag a.out.ad).2.1;have T:=(ag a.out.ad).2.2.2.2.2.2.2.1 1;have M:=(ag a.out.ad).2.2.1;have N:=(ag a.out.ad).2.2.2.2.2.2.2.1 2;have a4:=(ag a.out.ad).2.2.2.2.1;have f4:=(ag a.out.ad).2.2.2.2.2.2.2.1 4;have a5:=(ag a.out.ad).2.2.2.2.2.1;have Z:=(ag a.out.ad).2.2.2.2.2.2.2.1 5;have a6:=(ag a.out.ad).2.2.2.2.2.2.1;have f6:=(ag a.out.ad).2.2.2.2.2.2.2.1 6;have r0:=a.out.rd.cells.1;have r1:=a.out.rd.cells.2.1;obtain ⟨e0,e1,e2,e3,e4,e5,e6,b,_⟩:=ag a.out.re;have g0:=b 0;have g1:=b 1;have g2:=b 2;have g3:=b 3;have g4:=b 4;have g5:=b 5;have g6:=b 6;have Y:=(ag a.out.ad).2.2.2.1;simp only [kV])
     have o:=hid (((a.out.p4 k.1).p5 k.2.1).p6 k.2.2);obtain ⟨D,V,m⟩:=o.out.fin (.slice none 0 0) false [] [] (0,0,[]) _ rfl;obtain ⟨H,k1,C,E,G,B,F,_,_⟩:=ag D;exact bodyPost_ret (v:=.tuple #[ad0,.int .i64 2]) (by simp [results,Tryz.results52,go_sem,H,k1,C,E,G,B,F,ad0]) rfl (by rw [I.out];unfold uG;simp only;rw [p.out];exact ⟨by simp_all [nO],m⟩)
   . go_wp2_with (go_at_call 98;have f:=u.out _ j.out.bel j.out.rd;refine Calls.mono f ?_;clear f;rintro e w14 ⟨rfl,c,i⟩;have a:=hid (j.out.grown i c);clear c i;have a0:=(ag a.out.ad).1;have f0:=(ag a.out.ad).2.2.2.2.2.2.2.1 0;have O:=(ag a.out.ad).2.1;have T:=(ag a.out.ad).2.2.2.2.2.2.2.1 1;have M:=(ag a.out.ad).2.2.1;have N:=(ag a.out.ad).2.2.2.2.2.2.2.1 2;have a4:=(ag a.out.ad).2.2.2.2.1;have f4:=(ag a.out.ad).2.2.2.2.2.2.2.1 4;have a5:=(ag a.out.ad).2.2.2.2.2.1;have Z:=(ag a.out.ad).2.2.2.2.2.2.2.1 5;have a6:=(ag a.out.ad).2.2.2.2.2.2.1;have f6:=(ag a.out.ad).2.2.2.2.2.2.2.1 6;have r0:=a.out.rd.cells.1;have r1:=a.out.rd.cells.2.1;obtain ⟨e0,e1,e2,e3,e4,e5,e6,b,_⟩:=ag a.out.re;have g0:=b 0;have g1:=b 1;have g2:=b 2;have g3:=b 3;have g4:=b 4;have g5:=b 5;have g6:=b 6;have Y:=(ag a.out.ad).2.2.2.1;simp only [kV])
     have o:=hid (((a.out.p4 k.1).p5 k.2.1).p6 k.2.2);obtain ⟨D,V,m⟩:=o.out.fin (.slice none 0 0) false [] [] (0,0,[]) _ rfl;obtain ⟨H,k1,C,E,G,B,F,_,_⟩:=ag D;exact bodyPost_ret (v:=.tuple #[ad0,.int .i64 2]) (by simp [results,Tryz.results52,go_sem,H,k1,C,E,G,B,F,ad0]) rfl (by rw [I.out];unfold uG;simp only;rw [p.out];exact ⟨by simp_all [nO],m⟩)
   . rw [hk] at A
     go_wp2_with (first | (go_at_call 98;have f:=u.out _ j.out.bel j.out.rd;refine Calls.mono f ?_;clear f;rintro e w14 ⟨rfl,c,i⟩;have a:=hid (j.out.grown i c);clear c i;have a0:=(ag a.out.ad).1;have f0:=(ag a.out.ad).2.2.2.2.2.2.2.1 0;have O:=(ag a.out.ad).2.1;have T:=(ag a.out.ad).2.2.2.2.2.2.2.1 1;have M:=(ag a.out.ad).2.2.1;have N:=(ag a.out.ad).2.2.2.2.2.2.2.1 2;have a4:=(ag a.out.ad).2.2.2.2.1;have f4:=(ag a.out.ad).2.2.2.2.2.2.2.1 4;have a5:=(ag a.out.ad).2.2.2.2.2.1;have Z:=(ag a.out.ad).2.2.2.2.2.2.2.1 5;have a6:=(ag a.out.ad).2.2.2.2.2.2.1;have f6:=(ag a.out.ad).2.2.2.2.2.2.2.1 6;have r0:=a.out.rd.cells.1;have r1:=a.out.rd.cells.2.1;obtain ⟨e0,e1,e2,e3,e4,e5,e6,b,_⟩:=ag a.out.re;have g0:=b 0;have g1:=b 1;have g2:=b 2;have g3:=b 3;have g4:=b 4;have g5:=b 5;have g6:=b 6;have Y:=(ag a.out.ad).2.2.2.1;simp only [kV]) | (go_at_call 99;refine (A.out _).mono ?_;rintro e wk ⟨rfl,rfl⟩))
     have o:=hid (((a.out.p4 k.1).p5 k.2.1).p6 k.2.2);obtain ⟨D,V,m⟩:=o.out.fin (.slice none 0 0) false [] [] (0,0,[]) _ rfl;obtain ⟨H,k1,C,E,G,B,F,_,_⟩:=ag D;exact bodyPost_ret (v:=.tuple #[ad0,.int .i64 2]) (by simp [results,Tryz.results52,go_sem,H,k1,C,E,G,B,F,ad0]) rfl (by rw [I.out];unfold uG;simp only;rw [p.out];exact ⟨by simp_all [nO],m⟩)
   . rw [hk] at A
     go_wp2_with (first | (go_at_call 98;have f:=u.out _ j.out.bel j.out.rd;refine Calls.mono f ?_;clear f;rintro e w14 ⟨rfl,c,i⟩;have a:=hid (j.out.grown i c);clear c i;have a0:=(ag a.out.ad).1;have f0:=(ag a.out.ad).2.2.2.2.2.2.2.1 0;have O:=(ag a.out.ad).2.1;have T:=(ag a.out.ad).2.2.2.2.2.2.2.1 1;have M:=(ag a.out.ad).2.2.1;have N:=(ag a.out.ad).2.2.2.2.2.2.2.1 2;have a4:=(ag a.out.ad).2.2.2.2.1;have f4:=(ag a.out.ad).2.2.2.2.2.2.2.1 4;have a5:=(ag a.out.ad).2.2.2.2.2.1;have Z:=(ag a.out.ad).2.2.2.2.2.2.2.1 5;have a6:=(ag a.out.ad).2.2.2.2.2.2.1;have f6:=(ag a.out.ad).2.2.2.2.2.2.2.1 6;have r0:=a.out.rd.cells.1;have r1:=a.out.rd.cells.2.1;obtain ⟨e0,e1,e2,e3,e4,e5,e6,b,_⟩:=ag a.out.re;have g0:=b 0;have g1:=b 1;have g2:=b 2;have g3:=b 3;have g4:=b 4;have g5:=b 5;have g6:=b 6;have Y:=(ag a.out.ad).2.2.2.1;simp only [kV]) | (go_at_call 99;refine (A.out _).mono ?_;rintro e wk ⟨rfl,rfl⟩))
     have o:=hid (((a.out.p4 k.1).p5 k.2.1).p6 k.2.2);obtain ⟨D,V,m⟩:=o.out.fin (.slice none 0 0) false [] [] (0,0,[]) _ rfl;obtain ⟨H,k1,C,E,G,B,F,_,_⟩:=ag D;exact bodyPost_ret (v:=.tuple #[ad0,.int .i64 4]) (by simp [results,Tryz.results52,go_sem,H,k1,C,E,G,B,F,ad0]) rfl (by rw [I.out];unfold uG;simp only;rw [p.out];exact ⟨by rw [QJ hk hx];rfl,m⟩)
   . rw [hk] at A
     go_wp2_with (first | (go_at_call 98;have f:=u.out _ j.out.bel j.out.rd;refine Calls.mono f ?_;clear f;rintro e w14 ⟨rfl,c,i⟩;have a:=hid (j.out.grown i c);clear c i;have a0:=(ag a.out.ad).1;have f0:=(ag a.out.ad).2.2.2.2.2.2.2.1 0;have O:=(ag a.out.ad).2.1;have T:=(ag a.out.ad).2.2.2.2.2.2.2.1 1;have M:=(ag a.out.ad).2.2.1;have N:=(ag a.out.ad).2.2.2.2.2.2.2.1 2;have a4:=(ag a.out.ad).2.2.2.2.1;have f4:=(ag a.out.ad).2.2.2.2.2.2.2.1 4;have a5:=(ag a.out.ad).2.2.2.2.2.1;have Z:=(ag a.out.ad).2.2.2.2.2.2.2.1 5;have a6:=(ag a.out.ad).2.2.2.2.2.2.1;have f6:=(ag a.out.ad).2.2.2.2.2.2.2.1 6;have r0:=a.out.rd.cells.1;have r1:=a.out.rd.cells.2.1;obtain ⟨e0,e1,e2,e3,e4,e5,e6,b,_⟩:=ag a.out.re;have g0:=b 0;have g1:=b 1;have g2:=b 2;have g3:=b 3;have g4:=b 4;have g5:=b 5;have g6:=b 6;have Y:=(ag a.out.ad).2.2.2.1;simp only [kV]) | (go_at_call 99;refine (A.out _).mono ?_;rintro e wk ⟨rfl,rfl⟩))
     have o:=hid (((a.out.p4 k.1).p5 k.2.1).p6 k.2.2);obtain ⟨D,V,m⟩:=o.out.fin (.slice rv q.length cv) d r nm k _ rfl;obtain ⟨H,k1,C,E,G,B,F,_,_⟩:=ag D;exact bodyPost_ret (v:=.tuple #[Ux (.slice rv q.length cv) ⟨d,r,nm,k,[],false⟩,.int .i64 0]) (by simp [results,Tryz.results52,go_sem,H,k1,C,E,G,B,F,Ux]) rfl (by rw [I.out];unfold uG;simp only;rw [p.out];exact ⟨by rw [if_pos (QW hk hx)];exact ⟨_,rfl,V⟩,m⟩)
  have bg:=MH hp;have bj:=PH hp (by decide) bg;have HA:=hid (mJ ⟨#[109,111,100,117,108,101,46]⟩ ⟨l.toArray⟩ (w.heap.size+1) false wr HP.out.rd);rw [show rf (⟨#[109,111,100,117,108,101,46]⟩:ByteArray).data.toList ⟨l.toArray⟩=true from hp] at HA;rw [zW n l hp] at HM;have am:=hid (fun (W:World) (i:wr.grownBy W (some (w.heap.size+1))) (c:Rd (w.heap.size+1) W ⟨(Lib.trimPrefix l dN).toArray⟩ false)=>HP.out.grown i c);change Hid (Calls _ _ _ _ fun e w'=>e=_/\Rd _ w' ⟨(Lib.trimPrefix l dN).toArray⟩ false/\_) at HA;clear hp;generalize Lib.trimPrefix l dN=t at *;have be:=zi t false;have av:=hid (fun (W:World) (hB:Below w.heap.size w W) (c:Rd (w.heap.size+1) W ⟨t.toArray⟩ false)=>KE ⟨t.toArray⟩ (w.heap.size+1) false W w a7.out hB (by omega) (by rw [jv];omega) c);change Hid (∀ (W:World) (hB:Below w.heap.size w W) (c:Rd (w.heap.size+1) W ⟨t.toArray⟩ false),Calls _ _ _ W fun e w'=>e=.returned (FD (dK t false).1)/\Rd _ w' ⟨(dK t false).2.1.toArray⟩ (dK t false).2.2/\_) at av;generalize dK t false=x at *;obtain ⟨y,l2,b2⟩:=x;simp only at av HM be;have aR:=hid (fun (W:World) (c:Rd (w.heap.size+1) W ⟨l2.toArray⟩ b2)=>tN ⟨#[46]⟩ ⟨l2.toArray⟩ (w.heap.size+1) b2 W c);change Hid (∀ (W:World) (c:Rd (w.heap.size+1) W ⟨l2.toArray⟩ b2),Calls _ _ _ W fun e w'=>e=.returned (.tuple #[])/\Rd _ w' ⟨(eu [46] l2 b2).1.toArray⟩ (eu [46] l2 b2).2/\_) at aR;have bb:(eu [46] l2 b2).1.length<=l2.length:=jB _ _;generalize eu [46] l2 b2=z at *;obtain ⟨l3,b3⟩:=z;simp only at aR HM bb;have aw:=hid (show l3.length < n/\l3.length<=s.size/\q.length+1+l3.length<=s.size/\q.length+1<=2000000 by omega);clear h1 h2 h3 bj be bb hl hs bg;go_wp2_with (go_at_call 94;have f:=HA.out;clear HA;refine Calls.mono f ?_;clear f;rintro e w1 ⟨rfl,c,i⟩;have aa:=hid (am.out _ i c);clear c i am)
  clear c0 c1 c2 c3;have q0:=(ag aa.out.ad).1;have ba:Below w1.heap.size w1 w1.drew:=(Below.refl _ _).drew;have aE:=hid (aa.out.below ba);have bl:=(ag aE.out.ad).1;have qd:=KA bl;have aL:=hid (av.out w1.drew aE.out.bel aE.out.rd);clear av ba
  go_region_law
   ((first
     | (go_simp
        go_at_call 95;have f:=aL.out;clear aL;refine Calls.mono f ?_;clear f;rintro e w4 ⟨rfl,bc,bf⟩;have ab:=hid (aE.out.grown bf bc);clear bc bf;have q4:=(ag ab.out.ad).1;have aD:=hid (show Below w4.heap.size w4 (w4.alloc (.cells #[.string ⟨y.1.toArray⟩,.int .i64 y.2.1,.int .i64 y.2.2.1,.string ⟨y.2.2.2.toArray⟩] 124)) from (Below.refl _ _).alloc (Nat.le_refl _) _);have bm:=hid (bM w4 (.cells #[.string ⟨y.1.toArray⟩,.int .i64 y.2.1,.int .i64 y.2.2.1,.string ⟨y.2.2.2.toArray⟩] 124));have bk:=hid (ab.out.below aD.out).own;have bq:=(ag (ab.out.below aD.out).ad).1;have bo:=hid (Nat.le_trans ab.out.sz aD.out.size);simp only [FD])
     | (have hq:=ab.out
        clear hq;refine kK qI qc sU Tryz.underlying88 Ae rfl (by omega) (by omega) (by rfl) _ _ (by rfl) (w.heap.size+3) v q (by rfl) bk.out w4.heap.size 1 y (by rfl) (fr:=(0,0)) (by exact bm.out) aw.out.2.2.2 bo.out (w4.heap.size+1) (by simp) ?_;intro g bp w5 m1 m2 m3 m4;have ar:=hid (ab.out.app aD.out (xZ m1 m2 m3 m4));rw [show (q ++ [y]).length=q.length+1 by simp] at ar;obtain ⟨⟨q5,Z⟩,bd⟩:=ar.out;have q7:=(ag bd.ad).1;clear bd;clear m1 m2 m3 m4)))
  all_goals go_wp2_with (go_at_call 96;have f:=aR.out _ ar.out.2.rd;refine Calls.mono f ?_;clear f;rintro e w6 ⟨rfl,a9,bh⟩;have a8:=hid (ar.out.2.grown bh a9);clear a9 bh)
  all_goals go_roundg n
  all_goals first
   | (case measure=>omega)
   | exact ⟨l3,b3,_,q ++ [y],aw.out.1,aw.out.2.1,by have:=aw.out.2.2.1;simp only [List.length_append,List.length_singleton];omega,by first | exact a8 | (simp only [List.length_append,List.length_singleton];exact a8),hid (by rw [<-HM.out];simp)⟩
   | omega
   | skip
theorem wG {a b:List UInt8} {i:Nat} (h:i < a.length):(a ++ b).getD i 0=a.getD i 0:=by
 rw [List.getD_eq_getElem?_getD,List.getD_eq_getElem?_getD,List.getElem?_append_left h]
theorem Hu {n n' b0 b1 b2 b3 c1 c2 c3:Nat} (hn:n<=n') (h1:1 < n->c1=b1) (h2:2 < n->c2=b2) (h3:3 < n->c3=b3) (h:iF n b0 b1 b2 b3≠0):iF n' b0 c1 c2 c3=iF n b0 b1 b2 b3:=by
 unfold iF at h ⊢
 by_cases c:b0 < 128
 . rw [if_pos c,if_pos c]
 rw [if_neg c] at h ⊢;rw [if_neg c]
 by_cases d:194<=b0/\b0<=223/\1 < n/\128<=b1/\b1<=191
 . have:=h1 d.2.2.1
   rw [if_pos d,if_pos (by omega)]
 rw [if_neg d] at h ⊢
 by_cases b:224<=b0/\b0<=239/\1 < n/\(if b0=224 then 160 else 128)<=b1/\b1<=(if b0=237 then 159 else 191)/\2 < n/\128<=b2/\b2<=191
 . have k1:=h1 b.2.2.1
   have f:=h2 b.2.2.2.2.2.1;subst k1 f;rw [if_pos b,if_neg (by omega),if_pos ⟨b.1,b.2.1,by omega,b.2.2.2.1,b.2.2.2.2.1,by omega,b.2.2.2.2.2.2⟩]
 rw [if_neg b] at h ⊢
 by_cases a:240<=b0/\b0<=244/\1 < n/\(if b0=240 then 144 else 128)<=b1/\b1<=(if b0=244 then 143 else 191)/\2 < n/\128<=b2/\b2<=191/\3 < n/\128<=b3/\b3<=191
 . have k1:=h1 a.2.2.1
   have f:=h2 a.2.2.2.2.2.1;have g:=h3 a.2.2.2.2.2.2.2.2.1;subst k1 f g;rw [if_pos a,if_neg (by omega),if_neg (by omega),if_pos ⟨a.1,a.2.1,by omega,a.2.2.2.1,a.2.2.2.2.1,by omega,a.2.2.2.2.2.2.1,a.2.2.2.2.2.2.2.1,by omega,a.2.2.2.2.2.2.2.2.2⟩]
 . rw [if_neg a] at h
   exact absurd rfl h
theorem QZ {a:List UInt8} (b:List UInt8) (hne:a≠[]) (h:bU a≠0):bU (a ++ b)=bU a:=by
 have d:0 < a.length:=List.length_pos_iff.2 hne;unfold bU at h ⊢;rw [wG d];exact Hu (by simp) (fun c=>by rw [wG c]) (fun c=>by rw [wG c]) (fun c=>by rw [wG c]) h
theorem Hw {a:List UInt8} (hne:a≠[]):bU a<=a.length:=by
 have g:0 < a.length:=List.length_pos_iff.2 hne;unfold bU;generalize a.length=n at *;generalize (a.getD 0 0).toNat=b0;generalize (a.getD 1 0).toNat=b1;generalize (a.getD 2 0).toNat=b2;generalize (a.getD 3 0).toNat=b3;unfold iF
 by_cases f:b0 < 128
 . rw [if_pos f];omega
 rw [if_neg f]
 by_cases d:194<=b0/\b0<=223/\1 < n/\128<=b1/\b1<=191
 . rw [if_pos d];omega
 rw [if_neg d]
 by_cases c:224<=b0/\b0<=239/\1 < n/\(if b0=224 then 160 else 128)<=b1/\b1<=(if b0=237 then 159 else 191)/\2 < n/\128<=b2/\b2<=191
 . rw [if_pos c];have:=c.2.2.2.2.2.1;omega
 rw [if_neg c]
 by_cases b:240<=b0/\b0<=244/\1 < n/\(if b0=240 then 144 else 128)<=b1/\b1<=(if b0=244 then 143 else 191)/\2 < n/\128<=b2/\b2<=191/\3 < n/\128<=b3/\b3<=191
 . rw [if_pos b];have:=b.2.2.2.2.2.2.2.2.1;omega
 . rw [if_neg b];omega
theorem yw:∀ (n:Nat) (a b:List UInt8),a.length<=n->validD a=true->validD (a ++ b)=validD b
 | 0,a,b,h,_=>by rw [List.length_eq_zero_iff.1 (Nat.le_zero.1 h)];rfl
 | n+1,a,b,h,hv=>by
   by_cases hne:a=[]
   . rw [hne];rfl
   have hv2:=hv;rw [lT a hne] at hv2
   by_cases h0:bU a=0
   . rw [if_pos h0] at hv2;cases hv2
   rw [if_neg h0] at hv2;have hle:=Hw hne;rw [lT (a ++ b) (by simp [hne]),QZ b hne h0,if_neg h0,List.drop_append_of_le_length hle];exact yw n _ b (by rw [List.length_drop];omega) hv2
theorem D6 {a b:List UInt8} (h:validD a=true) (h2:validD b=true):validD (a ++ b)=true:=by rw [yw a.length a b (Nat.le_refl _) h];exact h2
theorem yL {p:List UInt8} (hne:p≠[]) (h:bU p=p.length):validD p=true:=by
 have a:0 < p.length:=List.length_pos_iff.2 hne;rw [lT p hne,if_neg (by omega),h,List.drop_length];exact validD_nil
theorem Oi {x:Int} (h0:0<=x) (h1:x < 256):(x.toNat.toUInt8).toNat=x.toNat:=by
 rw [Nat.toUInt8_eq,UInt8.toNat_ofNat'];omega
theorem Lu (r:Int):bU (Lib.encodeRune r)=(Lib.encodeRune r).length/\Lib.encodeRune r≠[]:=by
 have a:=Lib.encodeRuneZ_byte r;have l:(0:UInt8).toNat=0:=rfl;unfold Lib.encodeRune
 by_cases i:r < 0 ∨ (55296<=r/\r<=57343) ∨ 1114111 < r
 . rw [Lib.encodeRuneZ_bad i];exact ⟨by decide,by simp⟩
 by_cases j:r<=127
 . rw [Lib.encodeRuneZ_one (by omega) j] at a ⊢
   have b:=Oi (a r (by simp)).1 (a r (by simp)).2;refine ⟨?_,by simp⟩;simp only [List.map_cons,List.map_nil,bU,List.length_cons,List.length_nil,List.getD_cons_zero,b];unfold iF;rw [if_pos (by omega)]
 by_cases f:r<=2047
 . rw [Lib.encodeRuneZ_two (by omega) f] at a ⊢
   have b:=Oi (a (192+r / 64) (by simp)).1 (a _ (by simp)).2;have c:=Oi (a (128+r % 64) (by simp)).1 (a _ (by simp)).2;refine ⟨?_,by simp⟩;simp only [List.map_cons,List.map_nil,bU,List.length_cons,List.length_nil,List.getD_cons_zero,List.getD_cons_succ,b,c];unfold iF;rw [if_neg (by omega),if_pos (by omega)]
 by_cases k:r<=65535
 . rw [Lib.encodeRuneZ_three (by omega)] at a ⊢
   have b:=Oi (a (224+r / 4096) (by simp)).1 (a _ (by simp)).2;have c:=Oi (a (128+r / 64 % 64) (by simp)).1 (a _ (by simp)).2;have d:=Oi (a (128+r % 64) (by simp)).1 (a _ (by simp)).2;refine ⟨?_,by simp⟩;simp only [List.map_cons,List.map_nil,bU,List.length_cons,List.length_nil,List.getD_cons_zero,List.getD_cons_succ,b,c,d];unfold iF;rw [if_neg (by omega),if_neg (by omega),if_pos ⟨by omega,by omega,by omega,by split <;> omega,by split <;> omega,by omega,by omega,by omega⟩]
 . rw [Lib.encodeRuneZ_four (by omega) (by omega)] at a ⊢
   have b:=Oi (a (240+r / 262144) (by simp)).1 (a _ (by simp)).2;have c:=Oi (a (128+r / 4096 % 64) (by simp)).1 (a _ (by simp)).2;have d:=Oi (a (128+r / 64 % 64) (by simp)).1 (a _ (by simp)).2;have g:=Oi (a (128+r % 64) (by simp)).1 (a _ (by simp)).2;refine ⟨?_,by simp⟩;simp only [List.map_cons,List.map_nil,bU,List.length_cons,List.length_nil,List.getD_cons_zero,List.getD_cons_succ,b,c,d,g];unfold iF;rw [if_neg (by omega),if_neg (by omega),if_neg (by omega),if_pos ⟨by omega,by omega,by omega,by split <;> omega,by split <;> omega,by omega,by omega,by omega,by omega,by omega,by omega⟩]
theorem GK (r:Int):validD (Lib.encodeRune r)=true:=yL (Lu r).2 (Lu r).1
theorem Qv {l:List UInt8} (hne:l≠[]) (h:bU l≠0):bU (l.take (bU l))=bU l:=by
 have A:0 < l.length:=List.length_pos_iff.2 hne;have z:=Hw hne
 have g:∀ i,i < bU l->(l.take (bU l)).getD i 0=l.getD i 0:=fun i u=>by
  rw [List.getD_eq_getElem?_getD,List.getD_eq_getElem?_getD,List.getElem?_take,if_pos u]
 have m:(l.take (bU l)).length=bU l:=by rw [List.length_take];omega
 have s:=g 0 (by omega);generalize a:bU l=D at *;unfold bU at a ⊢;rw [m,s];generalize l.length=n at *;have k:1 < D->(l.take D).getD 1 0=l.getD 1 0:=fun h=>g 1 h;have t:2 < D->(l.take D).getD 2 0=l.getD 2 0:=fun h=>g 2 h;have v:3 < D->(l.take D).getD 3 0=l.getD 3 0:=fun h=>g 3 h;generalize (l.take D).getD 1 0=B at *;generalize (l.take D).getD 2 0=C at *;generalize (l.take D).getD 3 0=E at *;clear g;generalize l.getD 0 0=b at *;generalize l.getD 1 0=f at *;generalize l.getD 2 0=j at *;generalize l.getD 3 0=r at *;clear s;unfold iF at a ⊢
 by_cases p:b.toNat < 128
 . rw [if_pos p] at a ⊢;omega
 rw [if_neg p] at a ⊢
 by_cases q:194<=b.toNat/\b.toNat<=223/\1 < n/\128<=f.toNat/\f.toNat<=191
 . rw [if_pos q] at a
   have k1:=k (by omega);subst k1;rw [if_pos (by omega)];exact a
 rw [if_neg q] at a
 by_cases d:224<=b.toNat/\b.toNat<=239/\1 < n/\(if b.toNat=224 then 160 else 128)<=f.toNat/\f.toNat<=(if b.toNat=237 then 159 else 191)/\2 < n/\128<=j.toNat/\j.toNat<=191
 . rw [if_pos d] at a
   have k1:=k (by omega);have o:=t (by omega);subst k1 o;rw [if_neg (by omega),if_pos ⟨d.1,d.2.1,by omega,d.2.2.2.1,d.2.2.2.2.1,by omega,d.2.2.2.2.2.2⟩];exact a
 rw [if_neg d] at a
 by_cases c:240<=b.toNat/\b.toNat<=244/\1 < n/\(if b.toNat=240 then 144 else 128)<=f.toNat/\f.toNat<=(if b.toNat=244 then 143 else 191)/\2 < n/\128<=j.toNat/\j.toNat<=191/\3 < n/\128<=r.toNat/\r.toNat<=191
 . rw [if_pos c] at a
   have k1:=k (by omega);have o:=t (by omega);have y:=v (by omega);subst k1 o y;rw [if_neg (by omega),if_neg (by omega),if_pos ⟨c.1,c.2.1,by omega,c.2.2.2.1,c.2.2.2.2.1,by omega,c.2.2.2.2.2.2.1,c.2.2.2.2.2.2.2.1,by omega,c.2.2.2.2.2.2.2.2.2⟩];exact a
 . rw [if_neg c] at a;omega
theorem Ey {l:List UInt8} (hne:l≠[]) (h:bU l≠0):validD (l.take (bU l))=true:=by
 have b:0 < l.length:=List.length_pos_iff.2 hne;have a:=Hw hne;refine yL (fun e=>?_) ?_
 . have:=congrArg List.length e
   rw [List.length_take,List.length_nil] at this;omega
 . rw [Qv hne h,List.length_take];omega
theorem SV {l:List UInt8} (hne:l≠[]) (h:(gW l).1=0):validD (gW l).2.1=true:=by
 unfold gW at *
 by_cases a:(l.getD 0 0).toNat=92
 . rw [if_pos a] at h ⊢
   by_cases c:(gV l.tail).1≠0
   . rw [if_pos c] at h;exact absurd h c
   . rw [if_neg c];exact GK _
 . rw [if_neg a] at h ⊢
   by_cases b:bU l=0 ∨ (l.getD 0 0).toNat < 32 ∨ (l.getD 0 0).toNat=127
   . rw [if_pos b] at h;cases h
   . rw [if_neg b];exact Ey hne (fun e=>b (Or.inl e))
theorem yP:∀ (n:Nat) (l out:List UInt8),l.length<=n->validD out=true->(iQ l out).1=0->validD (iQ l out).2.1=true/\(iQ l out).2.1.length<=4096
 | n,[],out,_,_,h=>by rw [rY] at h;cases h
 | 0,c :: r,out,hl,_,_=>by simp at hl
 | n+1,c :: r,out,hl,hv,h=>by
   by_cases hc:c.toNat=34
   . rw [rF c r out hc] at h ⊢
     by_cases h4:4096 < out.length
     . rw [if_pos h4] at h;cases h
     . rw [if_neg h4];exact ⟨hv,Nat.le_of_not_lt h4⟩
   . by_cases h1:(gW (c :: r)).1≠0
     . rw [wM c r out hc h1] at h;exact absurd h h1
     . have h0:(gW (c :: r)).1=0:=Classical.not_not.1 h1
       rw [iQ,if_neg hc,if_neg h1] at h ⊢;exact yP n _ _ (by rw [List.length_drop];rw [List.length_cons] at hl;omega) (D6 hv (SV (by simp) h0)) h
theorem GU {l:List UInt8} (h:(bz l).1=0):validD (bz l).2.1=true/\(bz l).2.1.length<=4096:=by
 unfold bz at *
 by_cases c:l.length=0
 . rw [if_pos c] at h;cases h
 rw [if_neg c] at h ⊢
 by_cases b:(l.getD 0 0).toNat≠34
 . rw [if_pos b] at h;cases h
 rw [if_neg b] at h ⊢
 by_cases a:(iQ l.tail []).1≠0
 . rw [if_pos a] at h;exact absurd h a
 . rw [if_neg a];exact yP l.length _ _ (by rw [List.length_tail];omega) validD_nil (Classical.not_not.1 a)
theorem Qu {a b:UInt8} (h:a.toNat=b.toNat):a=b:=UInt8.toNat_inj.1 h
theorem jL {c:UInt8} {l:List UInt8} : Lib.hasPrefix l [c]=true ↔ ∃ t,l=c :: t:=by
 cases l with
 | nil=>simp [Lib.hasPrefix]
 | cons x t =>
   simp [Lib.hasPrefix];exact eq_comm
theorem tX (c:UInt8) (t:List UInt8):Lib.trimPrefix (c :: t) [c]=t:=by
 unfold Lib.trimPrefix;rw [if_pos (jL.2 ⟨t,rfl⟩)];rfl
theorem Bh {l p:List UInt8} (h:Lib.hasPrefix l p=false):Lib.trimPrefix l p=l:=by
 unfold Lib.trimPrefix;rw [if_neg (by rw [h];simp)]
theorem Eu {l p:List UInt8} (h:Lib.hasPrefix l p=true):Lib.trimPrefix l p=l.drop p.length:=by
 unfold Lib.trimPrefix;rw [if_pos h]
def mg (l:List UInt8):List UInt8:=l.takeWhile fun c=>vP c.toNat
def iV (l:List UInt8):List UInt8:=l.dropWhile fun c=>vP c.toNat
def pK (l:List UInt8):List UInt8:=l.takeWhile fun c=>jX c.toNat
def dX (l:List UInt8):bW × List UInt8 × Bool:=
 if (l.getD 0 0).toNat≠91 then ((0,0,[]),l,true)
 else if (l.getD 1 0).toNat=34 then
  (if (bz l.tail).1≠0 ∨ (l.getD ((bz l.tail).2.2+1) 0).toNat≠93 ∨ quo (bz l.tail).2.1≠l.tail.take (bz l.tail).2.2 then ((0,0,[]),[],false)
   else ((2,0,(bz l.tail).2.1),l.drop ((bz l.tail).2.2+2),true))
 else
  (if (gp (pK l.tail)).2≠0 ∨ (l.getD ((pK l.tail).length+1) 0).toNat≠93 then ((0,0,[]),[],false)
   else ((1,(gp (pK l.tail)).1,[]),l.drop ((pK l.tail).length+2),true))
theorem KI {α:Type} {p:α->Bool} : ∀ {a:List α} {c:α} {r:List α},(∀ x∈a,p x=true)->p c=false->(a ++ c :: r).takeWhile p=a
 | [],c,r,_,hc=>by rw [List.nil_append,List.takeWhile_cons,hc];rfl
 | x :: a,c,r,h,hc=>by rw [List.cons_append,List.takeWhile_cons,h x (by simp),if_pos rfl,KI (fun y hy=>h y (by simp [hy])) hc]
theorem KF {α:Type} {p:α->Bool} : ∀ {a:List α},∀ x∈a.takeWhile p,p x=true
 | [],x,h=>by simp at h
 | y :: a,x,h=>by
   rw [List.takeWhile_cons] at h;cases hy:p y with
   | false=>rw [hy] at h;simp at h
   | true =>
     rw [hy,if_pos rfl] at h;rcases List.mem_cons.1 h with rfl | h
     . exact hy
     . exact KF x h
theorem Lp {α:Type} {p:α->Bool} : ∀ {a:List α},(∀ x∈a,p x=true)->a.dropWhile p=[]
 | [],_=>rfl
 | y :: a,h=>by rw [List.dropWhile_cons,h y (by simp),if_pos rfl,Lp (fun x hx=>h x (by simp [hx]))]
theorem LV:∀ {a:List UInt8} {c:UInt8} {r:List UInt8},(∀ x∈a,x≠c)->Lib.indexByte (a ++ c :: r) c=(a.length:Nat)
 | [],c,r,_=>by simp [Lib.indexByte]
 | x :: a,c,r,h=>by
   rw [List.cons_append,Lib.indexByte,LV (fun y hy=>h y (by simp [hy]))];have hx:(x == c)=false:=by simpa using h x (by simp)
   rw [hx];have:¬ ((a.length:Int) == -1)=true:=by intro e;have:=eq_of_beq e;omega
   rw [if_neg (by simp),if_neg this];simp
theorem KW {l:List UInt8} (h:jS l=true) (h2:(l == [48])=false):1<=eY l:=by
 obtain ⟨d,b,a⟩:=jg h;cases l with
 | nil=>exact absurd rfl b
 | cons c r =>
   have j:=AY r (10 * 0+(c.toNat - 48));have i:=(jV c.toNat).1 (by rw [List.all_cons,Bool.and_eq_true] at d;exact d.1);have g:eY (c :: r)=r.foldl (fun n c=>10 * n+(c.toNat - 48)) (10 * 0+(c.toNat - 48)):=by unfold eY;rw [lq]
   rw [g];rcases a with a | a
   . have:c.toNat≠48:=by simpa using a
     omega
   . have f:r=[]:=List.length_eq_zero_iff.1 (by simpa using a)
     subst f
     have:c.toNat≠48:=fun e=>by
      have:c=48:=Qu e;subst this;simp at h2
     omega
theorem OV {x:List UInt8} (h:(gp x).2=0) (h0:¬ (gp x).1 < 0):∀ c∈x,jX c.toNat=true:=by
 unfold gp at *;cases a:mY x with
 | false=>rw [a,if_pos rfl] at h;cases h
 | true =>
   rw [a,if_neg (by simp)] at h h0;have g:=Eb a
   by_cases b:(x.getD 0 0).toNat=45
   . exfalso
     have j:AO x < 0:=by
      unfold mY at a;rw [if_pos b,Bool.and_eq_true] at a;have:=KW a.1 (by simpa using a.2);unfold AO qG;rw [if_pos b,if_pos b];omega
     by_cases d:16 < (qG x).length
     . rw [if_pos d] at h;cases h
     rw [if_neg d] at h h0
     by_cases f:-9007199254740992<=AO x/\AO x<=9007199254740992
     . rw [if_pos f] at h0;exact h0 j
     . rw [if_neg f] at h;cases h
   . have k:qG x=x:=by unfold qG;rw [if_neg b]
     rw [k] at g;exact fun c i=>List.all_eq_true.1 (jg g).1 c i
theorem SL {x:List UInt8} (h:∀ c∈x,jX c.toNat=true) (h2:(gp x).2=0):¬ (gp x).1 < 0:=by
 unfold gp at *;cases d:mY x with
 | false=>rw [if_pos rfl];decide
 | true =>
   rw [d,if_neg (by simp)] at h2;rw [if_neg (by simp)]
   by_cases a:16 < (qG x).length
   . rw [if_pos a];decide
   rw [if_neg a]
   by_cases b:-9007199254740992<=AO x/\AO x<=9007199254740992
   . rw [if_pos b]
     have f:(x.getD 0 0).toNat≠45:=by
      cases x with
      | nil=>decide
      | cons c r=>have:=(jV c.toNat).1 (h c (by simp));simp;omega
     unfold AO;rw [if_neg f];simp only;omega
   . rw [if_neg b];decide
theorem Ie {t:List UInt8} {n:Nat} (h:(t.getD n 0).toNat=93):∃ r,t.drop n=93 :: r/\n < t.length:=by
 by_cases a:n < t.length
 . refine ⟨t.drop (n+1),?_,a⟩
   rw [List.drop_eq_getElem_cons a]
   congr 1
   rw [List.getD_eq_getElem?_getD,List.getElem?_eq_getElem a] at h;exact Qu h
 . rw [List.getD_eq_getElem?_getD,List.getElem?_eq_none (by omega)] at h
   cases h
theorem qi {t r:List UInt8} {n:Nat} (h:t.drop n=93 :: r):(t.getD n 0).toNat=93/\t.drop (n+1)=r/\t=t.take n ++ 93 :: r:=by
 have a:t[n]?=some 93:=by
  have:=congrArg (fun l=>l[0]?) h;simpa using this
 refine ⟨by rw [List.getD_eq_getElem?_getD,a];rfl,?_,?_⟩
 . rw [<-List.tail_drop,h];rfl
 . rw [<-h,List.take_append_drop]
theorem H8 {l:List UInt8} (r:List UInt8) (bad:Bool) (h:l=93 :: r):eu [93] l bad=(r,bad):=by
 subst h;unfold eu;rw [tX,jL.2 ⟨r,rfl⟩];simp
theorem Nk {p l:List UInt8} (h:(eu p l false).2=false):Lib.hasPrefix l p=true:=by
 unfold eu at h;simpa using h
theorem sW {l:List UInt8} (h:(l.getD 0 0).toNat≠91):lL l false=((0,0,[]),l,false)/\dX l=((0,0,[]),l,true):=by
 have a:Lib.hasPrefix l [91]=false:=by
  cases a:Lib.hasPrefix l [91] with
  | false=>rfl
  | true =>
    obtain ⟨t,rfl⟩:=jL.1 a;exact absurd rfl h
 refine ⟨?_,by unfold dX;rw [if_pos h]⟩;unfold lL;rw [if_neg (by simp),if_pos a,Bh a]
theorem wK {l:List UInt8} (h:(dX l).2.2=true):lL l false=((dX l).1,(dX l).2.1,false):=by
 by_cases f:(l.getD 0 0).toNat≠91
 . rw [(sW f).1,(sW f).2]
 obtain ⟨t,rfl⟩:∃ t,l=91 :: t:=by
  cases l with
  | nil=>exact absurd (by decide) f
  | cons c t=>exact ⟨t,by rw [Qu (a:=c) (b:=91) (Classical.not_not.1 f)]⟩
 unfold dX at *;rw [if_neg f] at h ⊢;unfold lL;rw [if_neg (by simp),if_neg (by rw [jL.2 ⟨t,rfl⟩];simp),tX];simp only [List.tail_cons,List.getD_cons_succ] at h ⊢
 by_cases g:(t.getD 0 0).toNat=34
 . obtain ⟨u,rfl⟩:∃ u,t=34 :: u:=by
    cases t with
    | nil=>cases g
    | cons c u=>exact ⟨u,by rw [Qu (a:=c) (b:=34) g]⟩
   rw [if_pos g] at h ⊢;rw [if_pos (jL.2 ⟨u,rfl⟩)];generalize (34 :: u:List UInt8)=t at *;generalize bz t=x at *
   by_cases d:x.1≠0 ∨ (t.getD x.2.2 0).toNat≠93 ∨ quo x.2.1≠t.take x.2.2
   . rw [if_pos d] at h;cases h
   rw [if_neg d];rw [if_neg (fun e=>d (Or.inl e)),if_neg (fun e=>d (Or.inr (Or.inr e)))];obtain ⟨r,i,_⟩:=Ie (Classical.not_not.1 fun e=>d (Or.inr (Or.inl e)));rw [H8 r _ i,show (91 :: t).drop (x.2.2+2)=t.drop (x.2.2+1) from rfl,(qi i).2.1]
 . have k:Lib.hasPrefix t [34]=false:=by
    cases k:Lib.hasPrefix t [34] with
    | false=>rfl
    | true =>
      obtain ⟨u,rfl⟩:=jL.1 k;exact absurd rfl g
   rw [if_neg g] at h ⊢;rw [if_neg (by rw [k];simp)]
   by_cases d:(gp (pK t)).2≠0 ∨ (t.getD (pK t).length 0).toNat≠93
   . rw [if_pos d] at h;cases h
   rw [if_neg d];obtain ⟨r,i,_⟩:=Ie (Classical.not_not.1 fun e=>d (Or.inr e));have o:∀ c∈pK t,jX c.toNat=true:=fun c s=>KF (p:=fun c:UInt8=>jX c.toNat) c s
   have j:t.take (pK t).length=pK t:=by
    have:=List.takeWhile_prefix (l:=t) (fun c=>jX c.toNat);exact (List.prefix_iff_eq_take.1 this).symm
   have n:=(qi i).2.2;rw [j] at n
   have v:lU t=(pK t).length:=by
    unfold lU;have:=LV (a:=pK t) (c:=93) (r:=r) (fun x q e=>by have:=o x q;rw [e] at this;revert this;decide);rw [<-n] at this;rw [this];omega
   have m:=Classical.not_not.1 fun e=>d (Or.inl e);rw [v,j,H8 r _ i,show (91 :: t).drop ((pK t).length+2)=t.drop ((pK t).length+1) from rfl,(qi i).2.1];rw [decide_eq_false (fun e=>e m),decide_eq_false (SL o m)];rfl
theorem D5 {l:List UInt8} (h:(lL l false).2.2=false):(dX l).2.2=true:=by
 by_cases f:(l.getD 0 0).toNat≠91
 . rw [(sW f).2]
 obtain ⟨t,rfl⟩:∃ t,l=91 :: t:=by
  cases l with
  | nil=>exact absurd (by decide) f
  | cons c t=>exact ⟨t,by rw [Qu (a:=c) (b:=91) (Classical.not_not.1 f)]⟩
 unfold lL at h;rw [if_neg (by simp),if_neg (by rw [jL.2 ⟨t,rfl⟩];simp),tX] at h;unfold dX;rw [if_neg f];simp only [List.tail_cons,List.getD_cons_succ] at h ⊢
 by_cases d:(t.getD 0 0).toNat=34
 . obtain ⟨u,rfl⟩:∃ u,t=34 :: u:=by
    cases t with
    | nil=>cases d
    | cons c u=>exact ⟨u,by rw [Qu (a:=c) (b:=34) d]⟩
   rw [if_pos d];rw [if_pos (jL.2 ⟨u,rfl⟩)] at h;generalize (34 :: u:List UInt8)=t at *;generalize bz t=x at *
   by_cases g:x.1≠0
   . rw [if_pos g] at h;cases h
   rw [if_neg g] at h
   by_cases i:quo x.2.1≠t.take x.2.2
   . rw [if_pos i] at h;cases h
   rw [if_neg i] at h;obtain ⟨r,j⟩:=jL.1 (Nk h);rw [if_neg (by rintro (e | e | e);exact g e;exact e (qi j).1;exact i e)]
 . have k:Lib.hasPrefix t [34]=false:=by
    cases k:Lib.hasPrefix t [34] with
    | false=>rfl
    | true =>
      obtain ⟨u,rfl⟩:=jL.1 k;exact absurd rfl d
   rw [if_neg d];rw [if_neg (by rw [k];simp)] at h;unfold eu at h;simp only [Bool.or_eq_false_iff,decide_eq_false_iff_not,Classical.not_not,Bool.not_eq_false'] at h;obtain ⟨⟨g,i⟩,o⟩:=h;obtain ⟨r,j⟩:=jL.1 o;have q:=OV g i;have n:=(qi j).2.2
   have s:pK t=t.take (lU t):=by
    have:=KI (p:=fun c:UInt8=>jX c.toNat) (c:=93) (r:=r) q (by decide);rw [<-n] at this;exact this
   have m:(t.take (lU t)).length=lU t:=by rw [List.length_take];have:=Ik t;omega
   rw [s,m,if_neg (by rintro (e | e);exact e g;exact e (qi j).1)]
theorem EK {l:List UInt8} (h:(lL l false).2.2=false):(dX l).2.2=true/\lL l false=((dX l).1,(dX l).2.1,false):=⟨D5 h,wK (D5 h)⟩
theorem lG:∀ (l:List UInt8),(mg l=l.take (bV l)/\iV l=l.drop (bV l)) ∨ (eH (l.take (bV l))=false/\∃ c r,iV l=c :: r/\c.toNat≠46/\c.toNat≠91)
 | []=>Or.inl ⟨rfl,rfl⟩
 | c :: l=>by
   have hall:∀ {x:List UInt8},eH x=true->∀ y∈x,vP y.toNat=true:=fun h y hy=>by
    unfold eH at h;simp only [Bool.and_eq_true,List.all_eq_true] at h;exact h.2 y hy
   cases hx:[46,91].contains c with
   | true =>
     have hd:bV (c :: l)=0:=by unfold bV;rw [List.takeWhile_cons,hx];rfl
     have hw:vP c.toNat=false:=by
      have:c=46 ∨ c=91:=by simpa using hx
      rcases this with rfl | rfl <;> decide
     left;rw [hd];unfold mg iV;rw [List.takeWhile_cons,List.dropWhile_cons,hw];exact ⟨rfl,rfl⟩
   | false =>
     have hd:bV (c :: l)=bV l+1:=by unfold bV;rw [List.takeWhile_cons,hx];rfl
     have m:c.toNat≠46/\c.toNat≠91:=by
      constructor
      . intro e;rw [Qu (a:=c) (b:=46) e] at hx;revert hx;decide
      . intro e;rw [Qu (a:=c) (b:=91) e] at hx;revert hx;decide
     cases hw:vP c.toNat with
     | false =>
       right;refine ⟨?_,c,l,by unfold iV;rw [List.dropWhile_cons,hw];rfl,m⟩;cases j:eH ((c :: l).take (bV (c :: l))) with
       | false=>rfl
       | true =>
         have:=hall j c (by rw [hd];simp);rw [hw] at this;cases this
     | true =>
       rcases lG l with ⟨h1,h2⟩ | ⟨h1,y,r,h2,h3⟩
       . left
         rw [hd];unfold mg iV at *;rw [List.takeWhile_cons,List.dropWhile_cons,hw,if_pos rfl,if_pos rfl,h1,h2];exact ⟨rfl,rfl⟩
       . right
         refine ⟨?_,y,r,by unfold iV at *;rw [List.dropWhile_cons,hw,if_pos rfl,h2],h3⟩;cases j:eH ((c :: l).take (bV (c :: l))) with
         | false=>rfl
         | true =>
           exfalso;have f:=hall j;rw [hd] at f;have n:∀ z∈l.take (bV l),vP z.toNat=true:=fun z i=>f z (by simp [i]);have s:mg l=mg (l.take (bV l) ++ l.drop (bV l)):=by rw [List.take_append_drop]
           have q:iV l=iV (l.take (bV l) ++ l.drop (bV l)):=by rw [List.take_append_drop]
           have o:iV (l.take (bV l) ++ l.drop (bV l))=iV (l.drop (bV l)):=by
            unfold iV;rw [List.dropWhile_append];have:(l.take (bV l)).dropWhile (fun c=>vP c.toNat)=[]:=Lp n;rw [this];rfl
           rw [q,o] at h2;have p:=(qZ l).2;cases d:l.drop (bV l) with
           | nil=>rw [d] at h2;cases h2
           | cons z zs =>
             have i:l[bV l]?=some z:=by
              have:=congrArg (fun l=>l[0]?) d;simpa using this
             have g:=p z i;rw [d] at h2
             have k:vP z.toNat=false:=by
              have:z=46 ∨ z=91:=by simpa using g
              rcases this with rfl | rfl <;> decide
             unfold iV at h2;rw [List.dropWhile_cons,k] at h2;have:z=y:=by simpa using (List.cons.inj (by simpa using h2)).1
             subst this;have:z=46 ∨ z=91:=by simpa using g
             rcases this with rfl | rfl
             . exact h3.1 rfl
             . exact h3.2 rfl
theorem qy (l:List UInt8):lL l true=((0,0,[]),l,true):=by unfold lL;rw [if_pos rfl]
def jh (l:List UInt8):MS × List UInt8 × Bool:=((mg l,(dX (iV l)).1),(dX (iV l)).2.1,(dX (iV l)).2.2 && eH (mg l))
theorem Iu {l:List UInt8} (h:(dK l false).2.2=false):(jh l).2.2=true/\dK l false=((jh l).1,(jh l).2.1,false):=by
 unfold dK at *;cases a:eH (l.take (bV l)) with
 | false=>rw [a] at h;simp only [Bool.not_false,Bool.or_true] at h;rw [qy] at h;cases h
 | true =>
   rw [a] at h;simp only [Bool.not_true,Bool.or_false] at h ⊢;obtain ⟨k1,b⟩:=EK h;rcases lG l with ⟨e1,e2⟩ | ⟨e1,_⟩
   . unfold jh
     rw [e1,e2,k1,a,b];exact ⟨rfl,rfl⟩
   . rw [a] at e1;cases e1
theorem Ir {l:List UInt8} (h:(jh l).2.2=true) (h2:(jh l).2.1=[] ∨ ((jh l).2.1.getD 0 0).toNat=46):dK l false=((jh l).1,(jh l).2.1,false):=by
 rcases lG l with ⟨e1,e2⟩ | ⟨e1,c,r,e2,e3,e4⟩
 . unfold jh at h
   rw [e1,e2] at h;simp only [Bool.and_eq_true] at h;unfold dK jh;rw [h.2,e1,e2];simp only [Bool.not_true,Bool.or_false];rw [wK h.1]
 . exfalso
   unfold jh at h2;rw [e2,(sW (l:=c :: r) e4).2] at h2;rcases h2 with h2 | h2
   . cases h2
   . exact e3 h2
def iI:Nat->List UInt8->Option (List MS × Option (List UInt8))
 | 0,_=>none
 | n+1,l=>if Lib.hasPrefix l dN=false then some ([],some l)
   else if (jh (l.drop 7)).2.2=false then none
   else if (jh (l.drop 7)).2.1=[] then some ([(jh (l.drop 7)).1],none)
   else if ((jh (l.drop 7)).2.1.getD 0 0).toNat≠46 then none
   else (iI n (jh (l.drop 7)).2.1.tail).map fun x=>((jh (l.drop 7)).1 :: x.1,x.2)
def BZ (l:List UInt8):Option (Bool × List UInt8 × List UInt8 × bW):=
 if eH (mg (Lib.trimPrefix l fO))=false ∨ nN (mg (Lib.trimPrefix l fO))=true ∨ ((iV (Lib.trimPrefix l fO)).getD 0 0).toNat≠46 then none
 else if eH (mg (iV (Lib.trimPrefix l fO)).tail)=false ∨ (dX (iV (iV (Lib.trimPrefix l fO)).tail)).2.2=false ∨ (dX (iV (iV (Lib.trimPrefix l fO)).tail)).2.1≠[] then none
 else some (Lib.hasPrefix l fO,mg (Lib.trimPrefix l fO),mg (iV (Lib.trimPrefix l fO)).tail,(dX (iV (iV (Lib.trimPrefix l fO)).tail)).1)
def RN (t:TR):Prop:=t.bad=true ∨ t.l≠[] ∨ uz t.ty=false
theorem QA (l:List UInt8):(Aj l true).bad=true:=by
 unfold Aj;simp only [Bool.true_or,eu];rw [qy]
theorem Sj {t:TR} (h:¬ RN t):t.bad=false/\t.l=[]/\uz t.ty=true:=by
 unfold RN at h;refine ⟨?_,?_,?_⟩
 . cases a:t.bad with
   | false=>rfl
   | true=>exact absurd (Or.inl a) h
 . exact Classical.not_not.1 fun e=>h (Or.inr (Or.inl e))
 . cases a:uz t.ty with
   | true=>rfl
   | false=>exact absurd (Or.inr (Or.inr a)) h
theorem Bg {l:List UInt8} (h:(l.getD 0 0).toNat=46):eu [46] l false=(l.tail,false)/\l≠[]:=by
 cases l with
 | nil=>cases h
 | cons c t =>
   rw [show c=46 from Qu h];unfold eu;rw [tX,jL.2 ⟨t,rfl⟩];exact ⟨rfl,by simp⟩
theorem Ep {l:List UInt8} (b:Bool) (h:(l.getD 0 0).toNat≠46):(eu [46] l b).2=true:=by
 unfold eu;cases a:Lib.hasPrefix l [46] with
 | false=>simp
 | true =>
   obtain ⟨t,rfl⟩:=jL.1 a;exact absurd rfl h
theorem Qs {l:List UInt8} {d:Bool} {ty nm:List UInt8} {k:bW} (h:BZ l=some (d,ty,nm,k)):Aj l false=⟨d,ty,nm,k,[],false⟩/\uz ty=true:=by
 unfold BZ at h;unfold Aj;generalize Lib.trimPrefix l fO=a at *
 by_cases g:eH (mg a)=false ∨ nN (mg a)=true ∨ ((iV a).getD 0 0).toNat≠46
 . rw [if_pos g] at h;cases h
 rw [if_neg g] at h;have n:eH (mg a)=true:=by cases f:eH (mg a) with | true=>rfl | false=>exact absurd (Or.inl f) g
 have p:nN (mg a)=false:=by cases f:nN (mg a) with | false=>rfl | true=>exact absurd (Or.inr (Or.inl f)) g
 have j:((iV a).getD 0 0).toNat=46:=Classical.not_not.1 fun e=>g (Or.inr (Or.inr e));rcases lG a with ⟨e1,e2⟩ | ⟨e1,c,r,e2,e3,e4⟩
 case inr=>rw [e2] at j;exact absurd j e3
 simp only [Bool.false_or];rw [<-e1,<-e2];simp only [n,Bool.not_true,Bool.or_false];rw [(Bg j).1];generalize (iV a).tail=b at *
 by_cases i:eH (mg b)=false ∨ (dX (iV b)).2.2=false ∨ (dX (iV b)).2.1≠[]
 . rw [if_pos i] at h;cases h
 rw [if_neg i] at h;have o:eH (mg b)=true:=by cases f:eH (mg b) with | true=>rfl | false=>exact absurd (Or.inl f) i
 have q:(dX (iV b)).2.2=true:=by cases f:(dX (iV b)).2.2 with | true=>rfl | false=>exact absurd (Or.inr (Or.inl f)) i
 have m:(dX (iV b)).2.1=[]:=Classical.not_not.1 fun e=>i (Or.inr (Or.inr e));rcases lG b with ⟨f1,f2⟩ | ⟨f1,c,r,f2,f3,f4⟩
 case inr=>rw [f2,(sW (l:=c :: r) f4).2] at m;cases m
 simp only [Bool.false_or];rw [<-f1,<-f2];simp only [o,Bool.not_true,Bool.or_false];rw [wK q,m];cases h;exact ⟨rfl,by unfold uz;rw [n,p];rfl⟩
theorem Qw {l:List UInt8} (h:BZ l=none):RN (Aj l false):=by
 refine Classical.not_not.1 fun j=>?_;obtain ⟨a,b,c⟩:=Sj j;clear j;unfold BZ at h;unfold Aj at a b c;generalize Lib.trimPrefix l fO=f at *;simp only [Bool.false_or] at a b c;unfold uz at c;rw [Bool.and_eq_true] at c;rcases lG f with ⟨e1,e2⟩ | ⟨e1,_⟩
 case inr=>rw [e1] at c;cases c.1
 rw [<-e1,<-e2] at a b;rw [<-e1] at c;rw [c.1] at a b;simp only [Bool.not_true] at a b
 by_cases g:((iV f).getD 0 0).toNat=46
 . rw [(Bg g).1] at a b
   rw [if_neg (by rintro (e | e | e);rw [c.1] at e;cases e;rw [e] at c;cases c.2;exact e g)] at h;generalize (iV f).tail=i at *;simp only [Bool.false_or] at a b;cases d:eH (i.take (bV i)) with
   | false=>rw [d] at a;simp only [Bool.not_false] at a;rw [qy] at a;cases a
   | true =>
     rw [d] at a b;simp only [Bool.not_true] at a b;rcases lG i with ⟨f1,f2⟩ | ⟨f1,_⟩
     case inr=>rw [d] at f1;cases f1
     rw [<-f2] at a b;rw [<-f1] at d;obtain ⟨k1,k⟩:=EK a;rw [k] at b;rw [if_neg (by rintro (e | e | e);rw [d] at e;cases e;rw [k1] at e;cases e;exact e b)] at h;cases h
 . rw [Ep _ g] at a
   simp only [Bool.true_or] at a;rw [qy] at a;cases a
theorem rO (n:Nat) (l:List UInt8):fA n l true=([],l,true):=by
 cases n with
 | zero=>rfl
 | succ n=>exact zB n l
def OM (X:List MS × List UInt8 × Bool):Prop:=RN (Aj X.2.1 X.2.2)
theorem A7 {X:List MS × List UInt8 × Bool} (h:X.2.2=true):OM X:=by
 unfold OM RN;rw [h];exact Or.inl (QA _)
theorem BP:∀ (n:Nat) (l:List UInt8),l.length < n->match iI n l with
  | none=>OM (fA n l false)
  | some (xs,none)=>OM (fA n l false)
  | some (xs,some r)=>fA n l false=(xs,r,false)
 | 0,l,h=>by omega
 | n+1,l,h=>by
   unfold iI;cases hp:Lib.hasPrefix l dN with
   | false =>
     rw [if_pos rfl];simp only;rw [FB n l hp,Bh hp]
   | true =>
     rw [if_neg (by simp),zW n l hp,Eu hp,show dN.length=7 from rfl];have hlen:=MH hp;have hl7:(l.drop 7).length < n:=by rw [List.length_drop];rw [show dN.length=7 from rfl] at hlen;omega
     generalize l.drop 7=t at *;cases ho:(jh t).2.2 with
     | false =>
       rw [if_pos rfl];simp only
       have hb:(dK t false).2.2=true:=by
        cases hb:(dK t false).2.2 with
        | true=>rfl
        | false=>have:=(Iu hb).1;rw [ho] at this;cases this
       refine A7 ?_;rw [hb,show eu [46] (dK t false).2.1 true=(Lib.trimPrefix (dK t false).2.1 [46],true) by unfold eu;simp];simp only;rw [rO]
     | true =>
       rw [if_neg (by simp)]
       by_cases d:(jh t).2.1=[]
       . rw [if_pos d]
         simp only;rw [Ir ho (Or.inl d),d];refine A7 ?_;simp only;rw [show eu [46] [] false=([],true) from rfl];simp only;rw [rO]
       rw [if_neg d]
       by_cases a:((jh t).2.1.getD 0 0).toNat≠46
       . rw [if_pos a]
         simp only;refine A7 ?_
         have k:(eu [46] (dK t false).2.1 (dK t false).2.2).2=true:=by
          cases hb:(dK t false).2.2 with
          | true=>unfold eu;simp
          | false=>rw [(Iu hb).2];exact Ep _ a
         generalize eu [46] (dK t false).2.1 (dK t false).2.2=z at *;rw [k];simp only;rw [rO]
       . rw [if_neg a]
         have c:=Classical.not_not.1 a;have g:=Ir ho (Or.inr c);have f:=zi t false;rw [g] at f;simp only at f;rw [g];simp only;rw [(Bg c).1];simp only;have i:(jh t).2.1.tail.length < n:=by rw [List.length_tail];omega
         have b:=BP n (jh t).2.1.tail i;cases j:iI n (jh t).2.1.tail with
         | none =>
           rw [j] at b;exact b
         | some x =>
           obtain ⟨xs,o⟩:=x;rw [j] at b;cases o with
           | none=>exact b
           | some r =>
             simp only [Option.map_some] at b ⊢;rw [b]
def rP (l:List UInt8):Option (List MS × Option (Bool × List UInt8 × List UInt8 × bW)):=
 match iI (l.length+1) l with
 | none=>none
 | some (xs,none)=>some (xs,none)
 | some (xs,some r)=>(BZ r).map fun t=>(xs,some t)
def jF (l:List UInt8):Int:=match rP l with
 | some (xs,some _)=>if 16 < xs.length then 4 else 0
 | _=>2
theorem par_none {l:List UInt8} (h:∀ xs t,rP l≠some (xs,some t)):jF l=2/\nO (fA (l.length+1) l false).1 (Aj (fA (l.length+1) l false).2.1 (fA (l.length+1) l false).2.2)=2:=by
 have a:=BP (l.length+1) l (Nat.lt_succ_self _);constructor
 . unfold jF
   cases f:rP l with
   | none=>rfl
   | some x =>
     obtain ⟨xs,o⟩:=x;cases o with
     | none=>rfl
     | some t=>exact absurd f (h xs t)
 . have d:RN (Aj (fA (l.length+1) l false).2.1 (fA (l.length+1) l false).2.2):=by
    unfold rP at h;cases b:iI (l.length+1) l with
    | none=>rw [b] at a;exact a
    | some x =>
      obtain ⟨xs,o⟩:=x;rw [b] at a h;cases o with
      | none=>exact a
      | some r =>
        simp only at a h;rw [a];cases c:BZ r with
        | none=>exact Qw c
        | some t=>rw [c] at h;exact absurd rfl (h xs t)
   unfold nO;unfold RN at d;rw [if_pos d]
theorem xm {l:List UInt8} {xs:List MS} {d:Bool} {ty nm:List UInt8} {k:bW} (h:rP l=some (xs,some (d,ty,nm,k))) :
  jF l=(if 16 < xs.length then 4 else 0)/\(fA (l.length+1) l false).1=xs/\Aj (fA (l.length+1) l false).2.1 (fA (l.length+1) l false).2.2=⟨d,ty,nm,k,[],false⟩/\uz ty=true/\nO (fA (l.length+1) l false).1 (Aj (fA (l.length+1) l false).2.1 (fA (l.length+1) l false).2.2)=jF l:=by
 have a:=BP (l.length+1) l (Nat.lt_succ_self _);have g:jF l=(if 16 < xs.length then 4 else 0):=by unfold jF;rw [h]
 unfold rP at h;cases c:iI (l.length+1) l with
 | none=>rw [c] at h;cases h
 | some x =>
   obtain ⟨j,o⟩:=x;rw [c] at h a;cases o with
   | none=>cases h
   | some r =>
     simp only at h a;cases b:BZ r with
     | none=>rw [b] at h;cases h
     | some t =>
       rw [b] at h;cases h;obtain ⟨f,i⟩:=Qs b;refine ⟨g,by rw [a],by rw [a];exact f,i,?_⟩;rw [g,a];simp only;rw [f];unfold nO;rw [if_neg (by simp [i])]
theorem RU (l:List UInt8):nO (fA (l.length+1) l false).1 (Aj (fA (l.length+1) l false).2.1 (fA (l.length+1) l false).2.2)=jF l:=by
 by_cases h:∃ a t,rP l=some (a,some t)
 . obtain ⟨a,⟨d,g,f,k⟩,h⟩:=h
   exact (xm h).2.2.2.2
 . obtain ⟨b,c⟩:=par_none (l:=l) (fun a t e=>h ⟨a,t,e⟩)
   rw [b,c]
def Jp:Go.Shelf.Ren:=⟨fun | 41=>208 | n=>n,fun | 22=>88 | 23=>124 | 4=>4 | n=>n,fun | n=>n⟩
theorem laysC:Go.Proofs.SlLaysE0.n41 Tryz.prog Jp:={
 mixed:=by kernel_rfl
 f41:=⟨Tryz.f208.name,by decide,Tryz.func208.trans (congrArg some (by kernel_rfl))⟩
 t4:=Tryz.underlying4
 a4:=Tryz.isAgg4
 z4:=Tryz.sizeOf4
 v4:=Tryz.zeroValue4
 t22:=Tryz.underlying88
 a22:=Tryz.isAgg88
 z22:=Tryz.sizeOf88
 v22:=Tryz.zeroValue88 }
theorem P6 (B:Nat) (v:Value) (xs:List MS) (w:World) (h:eP B w v xs) (hn:xs.length<=2000000):Calls Tryz.prog 208 #[v] w fun e w' =>
  ∃ v',e=.returned v'/\eP w.heap.size w' v' xs/\Below w.heap.size w w':=by
 rcases h.2 with ⟨rfl,h0⟩ | ⟨g,cap,cur,rfl,hb,hg,hnc,hc,hs,ht⟩
 . have:xs=[]:=List.eq_nil_of_length_eq_zero h0
   subst this;exact (AnyE.slices_Clone_nil laysC 0 0 w).mono fun e w' ⟨he,hw⟩=>⟨_,he,iM _ _,by rw [hw];exact Below.refl _ _⟩
 . obtain ⟨k,l,i,c,f⟩:=info_parts Ae
   refine (AnyE.slices_Clone laysC k _ 4 48 l i c f rfl (by decide) Tryz.sizeOf124 g 0 xs.length cap (xs.flatMap qI) w (iH qI 4 qc xs) (by unfold maxLen;omega) (by omega) (fun j u b=>?_) (fun u b=>?_)).mono fun e w' ⟨v',he,ho,_,hb⟩=>⟨v',he,ho,hb⟩
   . have a:=b
     rw [<-ht,List.getElem?_take] at a;split at a
     . unfold World.cell?
       simp only [hg,Nat.zero_add];simpa using a
     . cases a
   . obtain ⟨y,_,d⟩:=List.mem_flatMap.1 b
     exact sU y u d
def ku (x:MS):MS:=(x.1,(0,0,[]))
theorem wU {B sz g n cap:Nat} {e:TypeId} {w:World} {xs:List Value} (h:w.ownsRow B e sz (.slice (some ⟨g,0,none⟩) n cap) n xs) (i:Nat) (u:Value):(w.setCell ⟨g,i,none⟩ u).ownsRow B e sz (.slice (some ⟨g,0,none⟩) n cap) n (xs.set i u):=by
 refine ⟨by rw [List.length_set];exact h.1,?_⟩;rcases h.2 with ⟨he,_⟩ | ⟨g2,cap2,cur,he,hb,hg,hn,hc,hs,ht⟩
 . cases he
 . cases he
   refine .inr ⟨g,cap,cur.setIfInBounds i u,rfl,hb,?_,hn,hc,by rw [Array.size_setIfInBounds];exact hs,?_⟩
   . unfold World.setCell
     simp only [Array.getElem?_modify,if_true,hg,Option.map_some];rfl
   . rw [Array.toList_setIfInBounds,List.take_set,ht]
theorem xB (x:MS) (r:List Value) (i:Nat) (u:Value):(qI x ++ r).set (i+4) u=qI x ++ r.set i u:=rfl
theorem zZ:∀ (xs:List MS) (k:Nat) (hk:k < xs.length),(((xs.flatMap qI).set (k * 4+1) (.int .i64 0)).set (k * 4+2) (.int .i64 0)).set (k * 4+3) (.string ⟨#[]⟩)=(xs.set k (ku xs[k])).flatMap qI
 | [],k,hk=>by simp at hk
 | x :: xs,0,_=>rfl
 | x :: xs,k+1,hk=>by
   have IH:=zZ xs k (by simpa using hk);rw [List.set_cons_succ,List.flatMap_cons,List.flatMap_cons];rw [show (k+1) * 4+1=(k * 4+1)+4 by omega,show (k+1) * 4+2=(k * 4+2)+4 by omega,show (k+1) * 4+3=(k * 4+3)+4 by omega,xB,xB,xB,IH];rfl
def aV (v:Value) (d:Bool) (ty nm:List UInt8) (k:bW):Value:=.agg #[v,.bool d,.string ⟨ty.toArray⟩,.string ⟨nm.toArray⟩,.int .i64 k.1,.int .i64 k.2.1,.string ⟨k.2.2.toArray⟩]
def mix (k:Nat) (xs:List MS):List MS:=(xs.take k).map ku ++ xs.drop k
theorem sV (k:Nat) (xs:List MS):(mix k xs).length=xs.length:=by
 unfold mix;rw [List.length_append,List.length_map,List.length_take,List.length_drop];omega
theorem Qy {k:Nat} {xs:List MS} (hk:k < xs.length):(mix k xs)[k]'(by rw [sV];exact hk)=xs[k]:=by
 have h:(mix k xs)[k]?=xs[k]?:=by
  unfold mix;rw [List.getElem?_append_right (by rw [List.length_map,List.length_take];omega),List.getElem?_drop,List.length_map,List.length_take]
  congr 1;omega
 rw [List.getElem?_eq_getElem hk,List.getElem?_eq_getElem (by rw [sV];exact hk)] at h;exact Option.some.inj h
theorem Qr {k:Nat} {xs:List MS} (hk:k < xs.length):(mix k xs).set k (ku xs[k])=mix (k+1) xs:=by
 unfold mix;rw [List.set_append_right _ _ (by rw [List.length_map,List.length_take];omega),List.drop_eq_getElem_cons hk,List.length_map,List.length_take,show k - min k xs.length=0 by omega,List.set_cons_zero,List.take_succ_eq_append_getElem hk,List.map_append];simp
structure Sp (w W:World) (v:Value) (xs:List MS) (d:Bool) (ty nm:List UInt8):Prop where
 ad:W.heap[w.heap.size+1+1]?=some (aO v d ty nm (0,0,[]))
 re:W.heap[w.heap.size+1]?=some (aO (.slice none 0 0) false [] [] (0,0,[]))
 own:eP (w.heap.size+3) W v xs
 bel:Below w.heap.size w W
theorem Sp.step {w W:World} {v:Value} {xs:List MS} {d:Bool} {ty nm:List UInt8} {k:Nat} (h:Sp w W v (mix k xs) d ty nm) (hk:k < xs.length):∃ g cap,v=.slice (some ⟨g,0,none⟩) xs.length cap/\xs.length<=cap/\cap<=9223372036854775807 /\
  (∀ o,W.frozen? ⟨g,o,none⟩=false)/\(∀ j,j < 4->∃ u,W.cell? ⟨g,k * 4+j,none⟩=some u) /\
  Sp w (((W.setCell ⟨g,k * 4+1,none⟩ (.int .i64 0)).setCell ⟨g,k * 4+2,none⟩ (.int .i64 0)).setCell ⟨g,k * 4+3,none⟩ (.string ⟨#[]⟩)) v (mix (k+1) xs) d ty nm:=by
 have b:=h.own;unfold eP at b;rw [sV] at b;have l:=b.lt;rcases b.2 with ⟨rfl,h0⟩ | ⟨g,cap,cur,rfl,hb,hg,hn,hc,hs,ht⟩
 . omega
 unfold maxLen at hc;refine ⟨g,cap,rfl,hn,hc,fun o=>by unfold World.frozen?;simp [hg],fun j f=>⟨cur[k * 4+j]'(by omega),by unfold World.cell?;simp only [hg];exact Array.getElem?_eq_getElem _⟩,?_⟩;have a:∀ (X:World) (i j:Nat) (u:Value),j < w.heap.size+3->(X.setCell ⟨g,i,none⟩ u).heap[j]?=X.heap[j]?:=fun X i j u f=>Below.heap_setCell _ _ _ _ (by simp only;omega);refine ⟨?_,?_,?_,?_⟩
 . rw [a _ _ _ _ (by omega),a _ _ _ _ (by omega),a _ _ _ _ (by omega)];exact h.ad
 . rw [a _ _ _ _ (by omega),a _ _ _ _ (by omega),a _ _ _ _ (by omega)];exact h.re
 . have c:=wU (wU (wU b (k * 4+1) (.int .i64 0)) (k * 4+2) (.int .i64 0)) (k * 4+3) (.string ⟨#[]⟩)
   rw [zZ (mix k xs) k (by rw [sV];exact hk),Qy hk,Qr hk] at c;unfold eP;rw [sV];exact c
 . exact (((h.bel.setCell (show w.heap.size<=g by omega) _).setCell (show w.heap.size<=g by omega) _).setCell (show w.heap.size<=g by omega) _)
def Su (w:World) (xs:List MS) (d:Bool) (ty nm:List UInt8) (e:Ending) (w':World):Prop:=∃ v',e=.returned (aV v' d ty nm (0,0,[]))/\eP w.heap.size w' v' (xs.map ku)/\Below w.heap.size w w'
theorem NJ (xs:List MS):mix 0 xs=xs:=by simp [mix]
theorem Qo (xs:List MS):mix xs.length xs=xs.map ku:=by simp [mix]
theorem Sp.start {w w1:World} {o:Obj} {u v':Value} {xs:List MS} {d:Bool} {ty nm:List UInt8} (hb:Below ((((w.alloc o).alloc (aO (.slice none 0 0) false [] [] (0,0,[]))).alloc (aO u d ty nm (0,0,[]))).heap.size) (((w.alloc o).alloc (aO (.slice none 0 0) false [] [] (0,0,[]))).alloc (aO u d ty nm (0,0,[]))) w1) (ho:eP (((w.alloc o).alloc (aO (.slice none 0 0) false [] [] (0,0,[]))).alloc (aO u d ty nm (0,0,[]))).heap.size w1 v' xs) :
  (w1.cell? ⟨w.heap.size+1+1,0,none⟩=some u/\w1.frozen? ⟨w.heap.size+1+1,0,none⟩=false)/\Sp w (w1.setCell ⟨w.heap.size+1+1,0,none⟩ v') v' (mix 0 xs) d ty nm:=by
 have k:Below w.heap.size w (((w.alloc o).alloc (aO (.slice none 0 0) false [] [] (0,0,[]))).alloc (aO u d ty nm (0,0,[]))):=(((Below.refl _ _).alloc (Nat.le_refl _) _).alloc (by simp) _).alloc (by simp;omega) _;have i:((((w.alloc o).alloc (aO (.slice none 0 0) false [] [] (0,0,[]))).alloc (aO u d ty nm (0,0,[]))).heap.size)=w.heap.size+3:=by simp
 have m:((((w.alloc o).alloc (aO (.slice none 0 0) false [] [] (0,0,[]))).alloc (aO u d ty nm (0,0,[]))).heap)[w.heap.size+1+1]?=some (aO u d ty nm (0,0,[])):=by
  have:=bM ((w.alloc o).alloc (aO (.slice none 0 0) false [] [] (0,0,[]))) (aO u d ty nm (0,0,[]));simpa using this
 have l:((((w.alloc o).alloc (aO (.slice none 0 0) false [] [] (0,0,[]))).alloc (aO u d ty nm (0,0,[]))).heap)[w.heap.size+1]?=some (aO (.slice none 0 0) false [] [] (0,0,[])):=by
  have c:=bM (w.alloc o) (aO (.slice none 0 0) false [] [] (0,0,[]));have a:Below ((w.alloc o).alloc (aO (.slice none 0 0) false [] [] (0,0,[]))).heap.size ((w.alloc o).alloc (aO (.slice none 0 0) false [] [] (0,0,[]))) (((w.alloc o).alloc (aO (.slice none 0 0) false [] [] (0,0,[]))).alloc (aO u d ty nm (0,0,[]))):=(Below.refl _ _).alloc (Nat.le_refl _) _;have:=(a.block _ (lt_of_block c)).trans c;simpa using this
 rw [i] at hb ho;generalize ((w.alloc o).alloc (aO (.slice none 0 0) false [] [] (0,0,[]))).alloc (aO u d ty nm (0,0,[]))=p at *;have b:=(hb.block _ (by omega)).trans m;have k1:=(hb.block _ (by omega)).trans l;obtain ⟨n,_,_,_,_,_,_,j,_⟩:=ag b;refine ⟨⟨n,j 0⟩,?_,?_,?_,?_⟩
 . unfold World.setCell aO at *
   simp only [Array.getElem?_modify,if_true,b,Option.map_some];rfl
 . rw [Below.heap_setCell _ _ _ _ (by simp only;omega)];exact k1
 . rw [NJ]
   refine dw ho (aF w1 ⟨w.heap.size+1+1,0,none⟩ v') (fun g f e=>?_);have:=(ho.lt g f).1;simp at e;omega
 . exact (k.trans (hb.mono (by omega))).setCell (show w.heap.size<=w.heap.size+1+1 by omega) _
theorem AU {w:World} {B B' sz n:Nat} {e:TypeId} {v:Value} {xs:List Value} (h:w.ownsRow B e sz v n xs) (hb:B'<=B):w.ownsRow B' e sz v n xs:=⟨h.1,h.2.imp id fun ⟨g,cap,cur,e,hb2,r⟩=>⟨g,cap,cur,e,by omega,r⟩⟩
theorem La {W:World} {b:Nat} {v0:Value} {d0:Bool} {ty0 nm0:List UInt8} {k0:bW} (hre:W.heap[b]?=some (aO v0 d0 ty0 nm0 k0)) (v2:Value) (d2:Bool) (ty2 nm2:List UInt8) (k2:bW) (W':World)
  (e:W'=((((((W.setCell ⟨b,0,none⟩ v2).setCell ⟨b,1,none⟩ (.bool d2)).setCell ⟨b,2,none⟩ (.string ⟨ty2.toArray⟩)).setCell ⟨b,3,none⟩ (.string ⟨nm2.toArray⟩)).setCell ⟨b,4,none⟩ (.int .i64 k2.1)).setCell ⟨b,5,none⟩ (.int .i64 k2.2.1)).setCell ⟨b,6,none⟩ (.string ⟨k2.2.2.toArray⟩)):W'.heap[b]?=some (aO v2 d2 ty2 nm2 k2)/\W.grownBy W' (some b):=by
 subst e;refine ⟨?_,aG (aG (aG (aG (aG (aG (aF W ⟨b,0,none⟩ v2) (aF _ ⟨b,1,none⟩ (.bool d2))) (aF _ ⟨b,2,none⟩ (.string ⟨ty2.toArray⟩))) (aF _ ⟨b,3,none⟩ (.string ⟨nm2.toArray⟩))) (aF _ ⟨b,4,none⟩ (.int .i64 k2.1))) (aF _ ⟨b,5,none⟩ (.int .i64 k2.2.1))) (aF _ ⟨b,6,none⟩ (.string ⟨k2.2.2.toArray⟩))⟩;unfold World.setCell aO at *;simp only [Array.getElem?_modify,if_true,hre,Option.map_some];rfl
theorem Sp.fin {w W W':World} {v:Value} {xs:List MS} {d:Bool} {ty nm:List UInt8} (h:Sp w W v xs d ty nm) (e:W'=((((((W.setCell ⟨w.heap.size+1,0,none⟩ v).setCell ⟨w.heap.size+1,1,none⟩ (.bool d)).setCell ⟨w.heap.size+1,2,none⟩ (.string ⟨ty.toArray⟩)).setCell ⟨w.heap.size+1,3,none⟩ (.string ⟨nm.toArray⟩)).setCell ⟨w.heap.size+1,4,none⟩ (.int .i64 0)).setCell ⟨w.heap.size+1,5,none⟩ (.int .i64 0)).setCell ⟨w.heap.size+1,6,none⟩ (.string ⟨#[]⟩)) :
  W'.heap[w.heap.size+1]?=some (aO v d ty nm (0,0,[]))/\eP w.heap.size W' v xs/\Below w.heap.size w W':=by
 obtain ⟨c,b⟩:=La h.re v d ty nm (0,0,[]) W' e;refine ⟨c,AU (dw h.own b (fun g a e=>?_)) (by omega),h.bel.grown b h.bel.size (fun k f=>by cases f;omega)⟩;have:=(h.own.lt g a).1;simp at e;omega
set_option maxHeartbeats 4000000 in
theorem GY (B:Nat) (v:Value) (xs:List MS) (d:Bool) (ty nm:List UInt8) (k:bW) (w:World) (h:eP B w v xs) (hn:xs.length<=2000000):Calls Tryz.prog 168 #[aV v d ty nm k] w (Su w xs d ty nm):=by
 obtain ⟨r,c,rfl,_,_⟩:=dJ h;have m:=hid (fun (W:World) (hW:Below w.heap.size w W)=>P6 B (.slice r xs.length c) xs W (dw h (grown_below hW) (fun _ _ e=>by cases e)) hn);clear h;unfold aV;go_enter Tryz.func168,Tryz.ntmps168;go_wp2_with fail
 refine Calls.mono (m.out _ (by exact (((Below.refl _ _).alloc (Nat.le_refl _) _).alloc (by simp) _).alloc (by simp;omega) _)) ?_;clear m;rintro e w1 ⟨v',rfl,f,j⟩;obtain ⟨y,p,rfl,L,K⟩:=dJ f;obtain ⟨⟨I,A⟩,q⟩:=Sp.start j f;have a:=hid q;clear q j f;go_wp2
 go_loopw [15] (fun t wr=>∃ k:Nat,k<=xs.length/\t=.int .i64 k/\Hid (Sp w wr (.slice y (xs.length) p) (mix k xs) d ty nm)) (fun t _=>xs.length - (RowKit.intOf t).toNat)
 case atStart=>exact ⟨0,Nat.zero_le _,rfl,a⟩
 case round =>
  clear a I A;obtain ⟨k,S,rfl,a⟩:=hrel;obtain ⟨a0,_,_,_,_,_,_,s,_⟩:=ag a.out.ad;have f0:=s 0;clear s
  by_cases z:k < xs.length
  . obtain ⟨g,M,D,h1,h2,l,i,o⟩:=a.out.step z
    cases D;obtain ⟨u1,q1⟩:=i 1 (by omega);obtain ⟨u2,P⟩:=i 2 (by omega);obtain ⟨u3,q3⟩:=i 3 (by omega);have p1:=l (k * 4+1);have p2:=l (k * 4+2);have p3:=l (k * 4+3);have u:=hid o;clear o l i;go_wp2
    go_roundw
    case rel=>exact ⟨k+1,by omega,by go_num,u⟩
    case measure=>simp [RowKit.intOf];omega
  . obtain ⟨_,Z,a2,a3,a4,X,Y,_,_⟩:=ag a.out.ad
    obtain ⟨N,R,V,e3,e4,e5,Q,b,_⟩:=ag a.out.re;have g0:=b 0;have T:=b 1;have g2:=b 2;have U:=b 3;have g4:=b 4;have O:=b 5;have g6:=b 6;obtain rfl:k=xs.length:=by omega
    go_wp2
    obtain ⟨j,f,n⟩:=a.out.fin rfl;obtain ⟨H,k1,E,J,F,C,G,_,_⟩:=ag j;rw [Qo] at f;exact bodyPost_ret (v:=aV (.slice y xs.length p) d ty nm (0,0,[])) (by simp [results,Tryz.results168,go_sem,H,k1,E,J,F,C,G,aV]) rfl ⟨_,rfl,f,n⟩
def Jn:Value:=.agg #[.int .i64 0,.int .i64 0,.string ⟨#[]⟩]
theorem KC (w:World):Calls Tryz.prog 234 #[Jn] w fun e w'=>e=.returned (.bool true)/\Below w.heap.size w w':=by
 unfold Jn;go_enter Tryz.func234,Tryz.ntmps234;go_wp2
 go_ret
 exact ⟨rfl,(Below.refl _ _).alloc (Nat.le_refl _) _⟩
theorem UJ (w:World):Calls Tryz.prog 207 #[Jn] w fun e w'=>e=.returned (.string ⟨#[]⟩)/\Below w.heap.size w w':=by
 have b:=hid (fun W=>KC W);unfold Jn at *;go_enter Tryz.func207,Tryz.ntmps207;go_wp2_with (go_at_call 234;refine (b.out _).mono ?_;rintro e w1 ⟨rfl,a⟩;obtain ⟨c,d⟩:=GX a)
 go_ret
 exact ⟨rfl,((Below.refl _ _).alloc (Nat.le_refl _) _).trans (a.mono (by simp))⟩
def Jv (_:World) (cs:List Value) (x:MS):Prop:=cs=qI x
theorem kG:Hr Jv:=fun _ _ _ _ _ h=>h
theorem eP.sl {B:Nat} {w:World} {v:Value} {xs:List MS} (h:eP B w v xs):Sl Jv 4 w v xs:=jM qI qc h
theorem DW {w:World} {r:Option Addr} {n c:Nat} {xs:List MS} (h:Sl Jv 4 w (.slice r n c) xs) (i:Nat) (hi:i < xs.length) :
  ∃ b off,r=some ⟨b,off,none⟩/\b < w.heap.size/\w.cell? ⟨b,off+i * 4,none⟩=some (.string ⟨(xs[i]).1.toArray⟩)/\w.cell? ⟨b,off+i * 4+1,none⟩=some (.int .i64 (xs[i]).2.1)/\w.cell? ⟨b,off+i * 4+2,none⟩=some (.int .i64 (xs[i]).2.2.1)/\w.cell? ⟨b,off+i * 4+3,none⟩=some (.string ⟨(xs[i]).2.2.2.toArray⟩):=by
 obtain ⟨m,l,e,o,p,j⟩:=h;simp at e;obtain ⟨rfl,rfl,rfl⟩:=e;obtain ⟨b,off,k,g,q,a,d⟩:=j i hi;unfold Jv at d;subst d;have f:=a 0 _ rfl;exact ⟨b,off,g,World.block_lt_of_cell? w _ f,f,a 1 _ rfl,a 2 _ rfl,a 3 _ rfl⟩
def Bare (xs:List MS):Prop:=xs.length<=16/\∀ x∈xs,eH x.1=true/\x.2=(0,0,[])
theorem oC {l:List UInt8} (h:eH l=true):l.length<=64:=by
 unfold eH at h;simp only [Bool.and_eq_true,decide_eq_true_eq] at h;exact h.1.1.2
theorem NR {l:List UInt8} (h:eH l=true) (w:World):Calls Tryz.prog 83 #[.string ⟨l.toArray⟩] w fun e w'=>e=.returned (.bool true)/\w=w':=by
 have a:=oH ⟨l.toArray⟩ w (by rw [jv];have:=oC h;omega);rw [show eH (⟨l.toArray⟩:ByteArray).data.toList=true from h] at a;exact a
theorem Q7 {l:List UInt8} (h:uz l=true) (w:World):Calls Tryz.prog 99 #[.string ⟨l.toArray⟩] w fun e w'=>e=.returned (.bool true)/\w=w':=by
 have a:(eH l && !nN l)=true:=h;have b:=uX ⟨l.toArray⟩ w (by rw [jv];rw [Bool.and_eq_true] at a;have:=oC a.1;omega);rw [show (eH (⟨l.toArray⟩:ByteArray).data.toList && !nN (⟨l.toArray⟩:ByteArray).data.toList)=true from a] at b;exact b
set_option maxHeartbeats 4000000 in
theorem SN (r:Option Addr) (c:Nat) (xs:List MS) (d:Bool) (ty nm:List UInt8) (w:World) (h:Sl Jv 4 w (.slice r xs.length c) xs) (hx:Bare xs) (hty:uz ty=true) (hnm:eH nm=true) :
  Calls Tryz.prog 206 #[aV (.slice r xs.length c) d ty nm (0,0,[])] w fun e w'=>e=.returned (.int .i64 0)/\Below w.heap.size w w':=by
 obtain ⟨_,Q,S⟩:=bi h;have N:=hx.1;have C:=hid (fun (W:World) (hW:Below w.heap.size w W)=>DW (h.below kG hW));have L:=hid hx.2;have u:=hid (fun W=>KC W);have K:=hid (fun W=>Q7 hty W);have I:=hid (fun W=>NR hnm W);have o:=hid (show Below w.heap.size w (w.alloc (.cells #[.slice r xs.length c,.bool d,.string ⟨ty.toArray⟩,.string ⟨nm.toArray⟩,.int .i64 0,.int .i64 0,.string ⟨#[]⟩] 93)) from (Below.refl _ _).alloc (Nat.le_refl _) _);clear h hx hty hnm;unfold aV;unfold Jn at u;go_enter Tryz.func206,Tryz.ntmps206;go_wp2
 have z:(w.alloc (.cells #[.slice r xs.length c,.bool d,.string ⟨ty.toArray⟩,.string ⟨nm.toArray⟩,.int .i64 0,.int .i64 0,.string ⟨#[]⟩] 93)).heap.size=w.heap.size+1:=by simp
 obtain ⟨J,D,j,i,g,l,m,_⟩:=ag (v:=.slice r xs.length c) (d:=d) (ty:=ty) (nm:=nm) (k:=(0,0,[])) (bM w (.cells #[.slice r xs.length c,.bool d,.string ⟨ty.toArray⟩,.string ⟨nm.toArray⟩,.int .i64 0,.int .i64 0,.string ⟨#[]⟩] 93));have H:=hid (And.intro j (And.intro i (And.intro g (And.intro l m))));clear J D j i g l m;generalize w.alloc (.cells #[.slice r xs.length c,.bool d,.string ⟨ty.toArray⟩,.string ⟨nm.toArray⟩,.int .i64 0,.int .i64 0,.string ⟨#[]⟩] 93)=B at *;have q:=hid z;clear z;go_loopw [12] (fun t wr=>∃ k:Nat,k<=xs.length/\t=.int .i64 k/\Hid (Below B.heap.size B wr)) (fun t _=>xs.length - (RowKit.intOf t).toNat)
 case atStart=>exact ⟨0,Nat.zero_le _,rfl,hid (Below.refl _ _)⟩
 case round =>
  obtain ⟨k,R,rfl,a⟩:=hrel
  by_cases p:k < xs.length
  . obtain ⟨b,O,rfl,V,X,E,M,F⟩:=C.out wr (o.out.trans (a.out.mono (by rw [q.out];omega))) k p
    obtain ⟨y,A⟩:=L.out xs[k] (List.getElem_mem p);rw [A] at E M F;have G:=hid (fun W=>NR y W);clear y A;generalize xs[k].1=s at *
    go_wp2_with (first
     | (go_at_call 83;refine (G.out _).mono ?_;rintro e w3 ⟨rfl,rfl⟩)
     | (go_at_call 234;refine (u.out _).mono ?_;rintro e w4 ⟨rfl,f⟩;have n:=hid f;clear f))
    go_roundw
    case rel=>exact ⟨k+1,by omega,by go_num,hid (a.out.trans ((((Below.refl _ _).alloc (Nat.le_refl _) _).trans (n.out.mono (by simp))).mono a.out.size))⟩
    case measure=>simp [RowKit.intOf];omega
  . obtain ⟨j,i,g,l,m⟩:=H.out
    have P:=az a.out j;have Y:=az a.out i;have T:=az a.out g;have U:=az a.out l;have Z:=az a.out m;clear j i g l m
    go_wp2_with (first
     | (go_at_call 99;refine (K.out _).mono ?_;rintro e w3 ⟨rfl,rfl⟩)
     | (go_at_call 83;refine (I.out _).mono ?_;rintro e w3 ⟨rfl,rfl⟩)
     | (go_at_call 234;refine (u.out _).mono ?_;rintro e w4 ⟨rfl,f⟩;have n:=hid f;clear f))
    go_ret
    exact ⟨rfl,(o.out.trans (a.out.mono (by rw [q.out];omega))).trans (n.out.mono (by have:=a.out.size;have:=q.out;omega))⟩
def mQ (x:MS):List UInt8:=dN ++ x.1 ++ [46]
def Bz (xs:List MS) (d:Bool) (ty nm:List UInt8):List UInt8:=xs.flatMap mQ ++ (if d=true then fO else []) ++ (ty ++ [46] ++ nm)
theorem AB {xs:List MS} (h:∀ x∈xs,eH x.1=true):(xs.flatMap mQ).length<=xs.length * 72:=by
 induction xs with
 | nil=>simp
 | cons x xs ih =>
   have c:=oC (h x (by simp));have b:=ih (fun y a=>h y (by simp [a]));rw [List.flatMap_cons,List.length_append,List.length_cons];have:(mQ x).length<=72:=by unfold mQ dN;simp;omega
   omega
theorem OE (s:List UInt8) (h:s.length<=64) (W:World):(Op.stringOp .add ⟨#[109,111,100,117,108,101,46]⟩ ⟨s.toArray⟩).run Tryz.prog W=.ok (.string ⟨(dN ++ s).toArray⟩) W:=dS W dN s (by unfold dN;simp;omega)
theorem Ip (p:List UInt8) (h:p.length<=1200000) (W:World):(Op.stringOp .add ⟨p.toArray⟩ ⟨#[]⟩).run Tryz.prog W=.ok (.string ⟨p.toArray⟩) W:=by
 have:=dS W p [] (by simp;omega);rw [List.append_nil] at this;exact this
theorem I8 (p:List UInt8) (h:p.length<=1200000) (W:World):(Op.stringOp .add ⟨p.toArray⟩ ⟨#[46]⟩).run Tryz.prog W=.ok (.string ⟨(p ++ [46]).toArray⟩) W:=dS W p [46] (by simp;omega)
set_option maxHeartbeats 8000000 in
theorem OO (r:Option Addr) (c:Nat) (xs:List MS) (d:Bool) (ty nm:List UInt8) (w:World) (h:Sl Jv 4 w (.slice r xs.length c) xs) (hx:Bare xs) (hty:uz ty=true) (hnm:eH nm=true) :
  Calls Tryz.prog 167 #[aV (.slice r xs.length c) d ty nm (0,0,[])] w fun e w'=>e=.returned (.string ⟨(Bz xs d ty nm).toArray⟩)/\Below w.heap.size w w':=by
 obtain ⟨_,hl,hm⟩:=bi h;have a6:=hx.1;have HE:=hid (fun (W:World) (hW:Below w.heap.size w W)=>DW (h.below kG hW));have HX:=hid hx.2;have HC:=hid (fun (W:World) (hW:Below w.heap.size w W)=>SN r c xs d ty nm W (h.below kG hW) hx hty hnm);have HF:=hid (fun W=>UJ W)
 have T:ty.length<=64:=by
  have h1:(eH ty && !nN ty)=true:=hty;rw [Bool.and_eq_true] at h1;exact oC h1.1
 have ab:=oC hnm;have HP:=hid (fun k=>AB (xs:=xs.take k) (fun x aL=>(hx.2 x (List.mem_of_mem_take aL)).1));have af:=hid (show Below w.heap.size w (w.alloc (.cells #[.slice r xs.length c,.bool d,.string ⟨ty.toArray⟩,.string ⟨nm.toArray⟩,.int .i64 0,.int .i64 0,.string ⟨#[]⟩] 93)) from (Below.refl _ _).alloc (Nat.le_refl _) _)
 have HZ:=hid (fun (W:World) (z:Below (w.alloc (.cells #[.slice r xs.length c,.bool d,.string ⟨ty.toArray⟩,.string ⟨nm.toArray⟩,.int .i64 0,.int .i64 0,.string ⟨#[]⟩] 93)).heap.size (w.alloc (.cells #[.slice r xs.length c,.bool d,.string ⟨ty.toArray⟩,.string ⟨nm.toArray⟩,.int .i64 0,.int .i64 0,.string ⟨#[]⟩] 93)) W)=>show (W.cell? ⟨w.heap.size,0,none⟩=some (.slice r xs.length c)/\W.cell? ⟨w.heap.size,1,none⟩=some (.bool d)/\W.cell? ⟨w.heap.size,2,none⟩=some (.string ⟨ty.toArray⟩)/\W.cell? ⟨w.heap.size,3,none⟩=some (.string ⟨nm.toArray⟩)/\W.cell? ⟨w.heap.size,4,none⟩=some (.int .i64 0)/\W.cell? ⟨w.heap.size,5,none⟩=some (.int .i64 0)/\W.cell? ⟨w.heap.size,6,none⟩=some (.string ⟨#[]⟩))/\w.heap.size < W.heap.size from by
  obtain ⟨z0,z1,z2,z3,z4,z5,z6,_⟩:=ag (v:=.slice r xs.length c) (d:=d) (ty:=ty) (nm:=nm) (k:=(0,0,[])) (bM w (.cells #[.slice r xs.length c,.bool d,.string ⟨ty.toArray⟩,.string ⟨nm.toArray⟩,.int .i64 0,.int .i64 0,.string ⟨#[]⟩] 93));exact ⟨⟨az z z0,az z z1,az z z2,az z z3,az z z4,az z z5,az z z6⟩,by have:=z.size;simp at this;omega⟩)
 clear h hx hty hnm;unfold aV at *;unfold Jn at HF;go_enter Tryz.func167,Tryz.ntmps167;go_wp2_with (go_at_call 206;refine (HC.out _ af.out).mono ?_;rintro e w1 ⟨rfl,U⟩;have G:=hid (af.out.trans (U.mono af.out.size));obtain ⟨⟨q0,Z,X,q3,q4,V,q6⟩,aq⟩:=HZ.out _ U;clear U HZ)
 have al:=hid (FQ w1 w1.heap.size (Nat.le_refl _));have ap:=hid (show Below w1.heap.size w1 (w1.alloc (.cells #[.pointer none,.slice none 0 0] 205)) from (Below.refl _ _).alloc (Nat.le_refl _) _);have HQ:=hid (And.intro Z (And.intro X (And.intro q3 (And.intro q4 (And.intro V q6)))));clear q0 Z X q3 q4 V q6;generalize w1.alloc (.cells #[.pointer none,.slice none 0 0] 205)=wA at *;go_loopw [12] (fun t wr=>∃ k:Nat,k<=xs.length/\t=.int .i64 k/\Hid (BL w1.heap.size w1.heap.size ((xs.take k).flatMap mQ) wr)/\Hid (Below w1.heap.size w1 wr)) (fun t _=>xs.length - (RowKit.intOf t).toNat)
 case atStart=>exact ⟨0,Nat.zero_le _,rfl,hid (by simpa using al.out),ap⟩
 case round =>
  clear al ap;obtain ⟨k,hk,rfl,HL,j⟩:=hrel
  by_cases O:k < xs.length
  . obtain ⟨b,a7,rfl,z,g0,g1,g2,g3⟩:=HE.out wr (G.out.trans (j.out.mono G.out.size)) k O
    have aR:=hid (show (xs.take (k+1)).flatMap mQ=(xs.take k).flatMap mQ ++ (dN ++ xs[k].1 ++ [46]) by rw [List.take_succ_eq_append_getElem O,List.flatMap_append];simp [mQ]);have hp:=HP.out k;obtain ⟨j1,j2⟩:=HX.out xs[k] (List.getElem_mem O);have hs:=oC j1;rw [j2] at g1 g2 g3;clear j1 j2;generalize xs[k].1=s at *;have I:=hid (show ((xs.take k).flatMap mQ).length<=1000000000 by rw [List.length_take] at hp;omega);clear hp;have a4:=OE s hs;have aE:(dN ++ s).length<=100:=by unfold dN;simp;omega
    generalize av:dN ++ s=p1 at *;have a2:=Ip p1 (by omega);have a5:=I8 p1 (by omega);have ar:(p1 ++ [46]).length<=101:=by rw [List.length_append];simp;omega
    generalize p1 ++ [46]=p2 at *;have R:=hid (show (⟨p2.toArray⟩:ByteArray).size<=1000000000 by rw [jv];omega);clear av aE ar hs hl hm T ab;have S:=hid (show Below wr.heap.size wr ((wr.alloc (.cells #[.string ⟨s.toArray⟩,.int .i64 0,.int .i64 0,.string ⟨#[]⟩] 124)).drew) from um _ _);have M:=hid (mi HL.out S.out);go_wp2_with fail
    go_region_law
     (first
     | (go_simp
        go_at_call 207;refine (HF.out _).mono ?_;rintro e w3 ⟨rfl,f⟩;obtain ⟨a9,a8⟩:=GX f;have N:=hid (mi M.out f);have m:=hid (S.out.trans (f.mono S.out.size));clear f)
     | (go_simp
        go_at_call 185;refine (og w1.heap.size w1.heap.size _ _ _ N.out I.out R.out (Nat.le_trans j.out.size m.out.size)).mono ?_;rintro e w4 ⟨rfl,n,g⟩;have K:=hid n;have C:=hid g;clear g n))
    all_goals go_wp2
    all_goals go_roundw
    all_goals first
     | (case measure=>simp [RowKit.intOf];omega)
     | exact ⟨k+1,by omega,by go_num,hid (by rw [aR.out];exact K.out),hid (j.out.trans ((m.out.mono j.out.size).trans C.out))⟩
     | skip
  . obtain rfl:k=xs.length:=by omega
    rw [List.take_length] at HL;have hp:=HP.out xs.length;rw [List.take_length] at hp;have a0:=I8 ty (by omega);have a1:=fun W=>dS W (ty ++ [46]) nm (by rw [List.length_append];simp;omega);have aM:(ty ++ [46] ++ nm).length<=129:=by rw [List.length_append,List.length_append];simp;omega
    have a3:=Ip (ty ++ [46] ++ nm) (by omega);have ao:=hid (show Bz xs d ty nm=xs.flatMap mQ ++ (if d=true then fO else []) ++ (ty ++ [46] ++ nm) from rfl);generalize xs.flatMap mQ=P at *;generalize ty ++ [46] ++ nm=p2 at *;generalize ty ++ [46]=p1 at *;have R:=hid (show (⟨p2.toArray⟩:ByteArray).size<=1000000000 by rw [jv];omega);have I:=hid (show P.length<=2000 by omega);clear aM hp T ab hl hm O;obtain ⟨Z,X,q3,q4,V,q6⟩:=HQ.out;have bg:∀ (o:Nat) (v:Value) (A B:World),Below w1.heap.size A B->A.cell? ⟨w.heap.size,o,none⟩=some v->B.cell? ⟨w.heap.size,o,none⟩=some v:=fun _ _ _ _ z h=>(z.cell (p:=⟨w.heap.size,_,none⟩) aq).trans h;have a:=hid bg;clear bg;have r1:=a.out _ _ _ _ j.out Z;have r2:=a.out _ _ _ _ j.out X;have r3:=a.out _ _ _ _ j.out q3;have r4:=a.out _ _ _ _ j.out q4;have r5:=a.out _ _ _ _ j.out V;have r6:=a.out _ _ _ _ j.out q6;clear Z X q3 q4 V q6 HQ;have am:=hid (fun (l:List UInt8) (W:World) (h:BL w1.heap.size w1.heap.size l W) (hW:w1.heap.size<=W.heap.size)=>Tryz.Builder_String_any w1.heap.size w1.heap.size l W h hW);cases d
    case false =>
     have Y:=hid (show P.length<=1000000000 by have:=I.out;omega);go_wp2_with fail
     have i:=hid (show Below wr.heap.size wr wr.drew from (Below.refl _ _).drew);have M:=hid (mi HL.out i.out);have H:=hid (show wr.drew.cell? ⟨w.heap.size,2,none⟩=some (.string ⟨ty.toArray⟩)/\wr.drew.cell? ⟨w.heap.size,3,none⟩=some (.string ⟨nm.toArray⟩)/\wr.drew.cell? ⟨w.heap.size,4,none⟩=some (.int .i64 0)/\wr.drew.cell? ⟨w.heap.size,5,none⟩=some (.int .i64 0)/\wr.drew.cell? ⟨w.heap.size,6,none⟩=some (.string ⟨#[]⟩) from ⟨az i.out r2,az i.out r3,az i.out r4,az i.out r5,az i.out r6⟩);clear r1 r2 r3 r4 r5 r6
     go_region_held3 (fun w'=>w'.cell? ⟨w.heap.size,2,none⟩=some (.string ⟨ty.toArray⟩)/\w'.cell? ⟨w.heap.size,3,none⟩=some (.string ⟨nm.toArray⟩)/\w'.cell? ⟨w.heap.size,4,none⟩=some (.int .i64 0)/\w'.cell? ⟨w.heap.size,5,none⟩=some (.int .i64 0)/\w'.cell? ⟨w.heap.size,6,none⟩=some (.string ⟨#[]⟩)) (first | exact H.out | exact J.out | exact aa.out)
      ((first
        | (go_at_call 207
           refine (HF.out _).mono ?_;rintro e w3 ⟨rfl,f⟩;have N:=hid (mi M.out f);have m:=hid (i.out.trans (f.mono i.out.size));obtain ⟨u,y,F,E,D⟩:=H.out;have J:=hid (And.intro (az f u) (And.intro (az f y) (And.intro (az f F) (And.intro (az f E) (az f D)))));clear f u y F E D)
        | (go_at_call 185
           refine (og w1.heap.size w1.heap.size _ _ _ N.out Y.out R.out (Nat.le_trans j.out.size m.out.size)).mono ?_;rintro e w4 ⟨rfl,n,g⟩;have K:=hid n;have C:=hid g;obtain ⟨u,y,F,E,D⟩:=J.out;have aa:=hid (And.intro (a.out _ _ _ _ g u) (And.intro (a.out _ _ _ _ g y) (And.intro (a.out _ _ _ _ g F) (And.intro (a.out _ _ _ _ g E) (a.out _ _ _ _ g D)))));clear g n u y F E D)))
     go_wp2_with (go_at_call 183;refine (am.out _ _ K.out (Nat.le_trans (Nat.le_trans j.out.size m.out.size) C.out.size)).mono ?_;rintro e w5 ⟨rfl,L⟩;have ad:=hid L;clear L)
     go_ret
     have ac:=j.out.trans ((m.out.mono j.out.size).trans C.out);exact ⟨oD (by rw [ao.out];simp),G.out.trans ((ac.trans ad.out).mono G.out.size)⟩
    case true =>
     have Y:=hid (show P.length<=1000000000 by have:=I.out;omega);have aw:=hid (show (P ++ fO).length<=1000000000 by have:=I.out;rw [List.length_append];unfold fO;simp;omega);go_wp2_with (go_at_call 185;refine (og w1.heap.size w1.heap.size P ⟨#[100,97,116,97,46]⟩ _ HL.out Y.out (by show 5<=1000000000;omega) j.out.size).mono ?_;rintro e w2 ⟨rfl,an,q⟩;have aD:=hid (show BL w1.heap.size w1.heap.size (P ++ fO) w2 from an);have Q:=hid (j.out.trans q);have t1:=a.out _ _ _ _ q r1;have t2:=a.out _ _ _ _ q r2;have t3:=a.out _ _ _ _ q r3;have t4:=a.out _ _ _ _ q r4;have t5:=a.out _ _ _ _ q r5;have t6:=a.out _ _ _ _ q r6;clear q an r1 r2 r3 r4 r5 r6)
     have i:=hid (show Below w2.heap.size w2 w2.drew from (Below.refl _ _).drew);have M:=hid (mi aD.out i.out);have H:=hid (show w2.drew.cell? ⟨w.heap.size,2,none⟩=some (.string ⟨ty.toArray⟩)/\w2.drew.cell? ⟨w.heap.size,3,none⟩=some (.string ⟨nm.toArray⟩)/\w2.drew.cell? ⟨w.heap.size,4,none⟩=some (.int .i64 0)/\w2.drew.cell? ⟨w.heap.size,5,none⟩=some (.int .i64 0)/\w2.drew.cell? ⟨w.heap.size,6,none⟩=some (.string ⟨#[]⟩) from ⟨az i.out t2,az i.out t3,az i.out t4,az i.out t5,az i.out t6⟩);clear t1 t2 t3 t4 t5 t6
     go_region_held3 (fun w'=>w'.cell? ⟨w.heap.size,2,none⟩=some (.string ⟨ty.toArray⟩)/\w'.cell? ⟨w.heap.size,3,none⟩=some (.string ⟨nm.toArray⟩)/\w'.cell? ⟨w.heap.size,4,none⟩=some (.int .i64 0)/\w'.cell? ⟨w.heap.size,5,none⟩=some (.int .i64 0)/\w'.cell? ⟨w.heap.size,6,none⟩=some (.string ⟨#[]⟩)) (first | exact H.out | exact J.out | exact aa.out)
      ((first
        | (go_at_call 207
           refine (HF.out _).mono ?_;rintro e w3 ⟨rfl,f⟩;have N:=hid (mi M.out f);have m:=hid (i.out.trans (f.mono i.out.size));obtain ⟨u,y,F,E,D⟩:=H.out;have J:=hid (And.intro (az f u) (And.intro (az f y) (And.intro (az f F) (And.intro (az f E) (az f D)))));clear f u y F E D)
        | (go_at_call 185
           refine (og w1.heap.size w1.heap.size _ _ _ N.out aw.out R.out (Nat.le_trans Q.out.size m.out.size)).mono ?_;rintro e w4 ⟨rfl,n,g⟩;have K:=hid n;have C:=hid g;obtain ⟨u,y,F,E,D⟩:=J.out;have aa:=hid (And.intro (a.out _ _ _ _ g u) (And.intro (a.out _ _ _ _ g y) (And.intro (a.out _ _ _ _ g F) (And.intro (a.out _ _ _ _ g E) (a.out _ _ _ _ g D)))));clear g n u y F E D)))
     go_wp2_with (go_at_call 183;refine (am.out _ _ K.out (Nat.le_trans (Nat.le_trans Q.out.size m.out.size) C.out.size)).mono ?_;rintro e w5 ⟨rfl,L⟩;have ad:=hid L;clear L)
     go_ret
     have ac:=Q.out.trans ((m.out.mono Q.out.size).trans C.out);exact ⟨oD (by rw [ao.out];simp),G.out.trans ((ac.trans ad.out).mono G.out.size)⟩
theorem II:∀ (n:Nat) (l:List UInt8) (xs:List MS) (o:Option (List UInt8)),iI n l=some (xs,o)->∀ x∈xs,eH x.1=true
 | 0,l,xs,o,h=>by cases h
 | n+1,l,xs,o,h=>by
   unfold iI at h
   by_cases h1:Lib.hasPrefix l dN=false
   . rw [if_pos h1] at h;cases h;simp
   rw [if_neg h1] at h
   by_cases h2:(jh (l.drop 7)).2.2=false
   . rw [if_pos h2] at h;cases h
   rw [if_neg h2] at h
   have hi:eH (jh (l.drop 7)).1.1=true:=by
    cases a:(jh (l.drop 7)).2.2 with
    | false=>exact absurd a h2
    | true =>
      unfold jh at a ⊢;simp only [Bool.and_eq_true] at a;exact a.2
   by_cases d:(jh (l.drop 7)).2.1=[]
   . rw [if_pos d] at h
     cases h;intro x a;rw [List.mem_singleton] at a;rw [a];exact hi
   rw [if_neg d] at h
   by_cases c:((jh (l.drop 7)).2.1.getD 0 0).toNat≠46
   . rw [if_pos c] at h;cases h
   rw [if_neg c] at h;cases b:iI n (jh (l.drop 7)).2.1.tail with
   | none=>rw [b] at h;cases h
   | some y =>
     obtain ⟨f,g⟩:=y;rw [b] at h;cases h;intro x a;rcases List.mem_cons.1 a with rfl | a
     . exact hi
     . exact II n _ f _ b x a
theorem UF {l:List UInt8} {d:Bool} {ty nm:List UInt8} {k:bW} (h:BZ l=some (d,ty,nm,k)):eH nm=true:=by
 unfold BZ at h
 by_cases b:eH (mg (Lib.trimPrefix l fO))=false ∨ nN (mg (Lib.trimPrefix l fO))=true ∨ ((iV (Lib.trimPrefix l fO)).getD 0 0).toNat≠46
 . rw [if_pos b] at h;cases h
 rw [if_neg b] at h
 by_cases a:eH (mg (iV (Lib.trimPrefix l fO)).tail)=false ∨ (dX (iV (iV (Lib.trimPrefix l fO)).tail)).2.2=false ∨ (dX (iV (iV (Lib.trimPrefix l fO)).tail)).2.1≠[]
 . rw [if_pos a] at h;cases h
 rw [if_neg a] at h;cases h;cases c:eH (mg (iV (Lib.trimPrefix l fO)).tail) with
 | true=>rfl
 | false=>exact absurd (Or.inl c) a
structure yK (l:List UInt8) (xs:List MS) (d:Bool) (ty nm:List UInt8) (k:bW):Prop where
 pr:rP l=some (xs,some (d,ty,nm,k))
 len:xs.length<=16
 ids:∀ x∈xs,eH x.1=true
 nm:eH nm=true
 ty:uz ty=true
theorem wu {l:List UInt8} (h:jF l=0):∃ xs d ty nm k,yK l xs d ty nm k:=by
 have j:=h;unfold jF at h;cases a:rP l with
 | none=>rw [a] at h;cases h
 | some x =>
   obtain ⟨xs,o⟩:=x;rw [a] at h;cases o with
   | none=>cases h
   | some t =>
     obtain ⟨d,ty,nm,k⟩:=t;simp only at h
     have g:xs.length<=16:=by
      by_cases f:16 < xs.length
      . rw [if_pos f] at h;cases h
      . omega
     refine ⟨xs,d,ty,nm,k,a,g,?_,?_,(xm a).2.2.2.1⟩
     . unfold rP at a
       cases c:iI (l.length+1) l with
       | none=>rw [c] at a;cases a
       | some y =>
         obtain ⟨i,o⟩:=y;rw [c] at a;cases o with
         | none=>cases a
         | some r =>
           simp only at a;cases b:BZ r with
           | none=>rw [b] at a;cases a
           | some t =>
             rw [b] at a;cases a;exact II _ _ _ _ c
     . unfold rP at a
       cases c:iI (l.length+1) l with
       | none=>rw [c] at a;cases a
       | some y =>
         obtain ⟨i,o⟩:=y;rw [c] at a;cases o with
         | none=>cases a
         | some r =>
           simp only at a;cases b:BZ r with
           | none=>rw [b] at a;cases a
           | some t =>
             rw [b] at a;cases a;exact UF b
def qJ (l:List UInt8):List UInt8:=if jF l=0 then (match rP l with | some (xs,some (d,ty,nm,_))=>Bz (xs.map ku) d ty nm | _=>[]) else []
theorem IE {l:List UInt8} {xs:List MS} {d:Bool} {ty nm:List UInt8} {k:bW} (h:yK l xs d ty nm k) (h0:jF l=0):qJ l=Bz (xs.map ku) d ty nm:=by unfold qJ;rw [if_pos h0,h.pr]
theorem yK.bare {l:List UInt8} {xs:List MS} {d:Bool} {ty nm:List UInt8} {k:bW} (h:yK l xs d ty nm k):Bare (xs.map ku):=by
 refine ⟨by rw [List.length_map];exact h.len,fun x b=>?_⟩;obtain ⟨y,a,rfl⟩:=List.mem_map.1 b;exact ⟨h.ids y a,rfl⟩
def UC (w:World) (xs:List MS) (d:Bool) (ty nm:List UInt8) (k:bW) (e:Ending) (w':World):Prop:=∃ v,e=.returned (.tuple #[aV v d ty nm k,.int .i64 0])/\eP (w.heap.size+3) w' v xs/\Below w.heap.size w w'
theorem xu (s:ByteArray) (w:World) (hT:WT w) (hs:s.size<=2000000) {xs:List MS} {d:Bool} {ty nm:List UInt8} {k:bW} (h:yK s.data.toList xs d ty nm k) (h0:jF s.data.toList=0):Calls Tryz.prog 52 #[.string s] w (UC w xs d ty nm k):=by
 refine (parse_any s w hT hs).mono fun e g a=>?_;unfold uG at a;rw [<-aj] at a;obtain ⟨_,p1,p2,_,p3⟩:=xm h.pr;rw [p3,h0,if_pos rfl,p1,p2] at a;obtain ⟨⟨v,c,f⟩,b⟩:=a;exact ⟨v,c,f,b⟩
theorem wW (s:ByteArray) (w:World) (hT:WT w) (hs:s.size<=2000000) (h0:jF s.data.toList≠0):Calls Tryz.prog 52 #[.string s] w fun e w'=>e=.returned (.tuple #[ad0,.int .i64 (jF s.data.toList)])/\Below w.heap.size w w':=by
 refine (parse_any s w hT hs).mono fun e w' a=>?_;unfold uG at a;rw [<-aj,RU,if_neg h0] at a;exact a
set_option maxHeartbeats 4000000 in
theorem Fh (s:ByteArray) (w:World) (hT:WT w) (hs:s.size<=2000000):Calls Tryz.prog 125 #[.string s] w fun e w'=>e=.returned (.tuple #[.string ⟨(qJ s.data.toList).toArray⟩,.int .i64 (jF s.data.toList)])/\Below w.heap.size w w':=by
 by_cases a:jF s.data.toList=0
 . obtain ⟨i,d,ty,nm,k,g⟩:=wu a
   have m:=hid (xu s w hT hs g a);have q:=g.bare;rw [IE g a,a];have u:=hid (fun (B:Nat) (v:Value) (W:World) (h:eP B W v i)=>show Calls Tryz.prog 168 #[aV v d ty nm k] W (fun e w'=>∃ C,e=.returned (aV C d ty nm (0,0,[]))/\eP W.heap.size w' C (i.map ku)/\Below W.heap.size W w') from GY B v i d ty nm k W h (by have:=g.len;omega));have D:=hid (fun (r:Option Addr) (c:Nat) (W:World) (h:Sl Jv 4 W (.slice r (i.map ku).length c) (i.map ku))=>OO r c (i.map ku) d ty nm W h q g.ty g.nm);clear hT hs g q a;generalize i.map ku=I at *;go_enter Tryz.func125,Tryz.ntmps125;unfold aV at *
   go_wp2_with (first
    | (go_at_call 52
       refine m.out.mono ?_;rintro e w1 ⟨G,rfl,j,b⟩;obtain ⟨K,J,rfl,_,_⟩:=dJ j;have y:=hid j;have f:=hid b;clear j b;unfold aV)
    | (go_at_call 168
       refine (u.out (w.heap.size+3) _ _ (by exact dw y.out (grown_below ((Below.refl _ _).alloc (Nat.le_refl _) _)) (fun _ _ e=>by cases e))).mono ?_;rintro e w2 ⟨H,rfl,l,n⟩;obtain ⟨L,F,rfl,_,_⟩:=dJ l;have z:=hid (eP.sl l);have A:=hid n;clear l n)
    | (go_at_call 167
       refine (D.out _ _ _ z.out).mono ?_;rintro e w3 ⟨rfl,p⟩;have t:=hid p;clear p))
   go_ret2
   have o:=f.out.trans ((((Below.refl _ _).alloc (Nat.le_refl _) _).trans (A.out.mono (by simp))).mono f.out.size);exact ⟨rfl,o.trans (t.out.mono o.size)⟩
 . have m:=hid (wW s w hT hs a)
   rw [show qJ s.data.toList=[] by unfold qJ;rw [if_neg a]];have M:(jF s.data.toList != 0)=true:=by simp [a]
   clear a hT hs;generalize jF s.data.toList=E at *;unfold ad0 at m;go_enter Tryz.func125,Tryz.ntmps125;go_wp2_with (go_at_call 52;refine m.out.mono ?_;rintro e w1 ⟨rfl,b⟩;have f:=hid b;clear b)
   go_ret2
   exact ⟨rfl,f.out.trans (((Below.refl _ _).alloc (Nat.le_refl _) _).mono f.out.size)⟩
end Go.Proofs.YtomhbcfjhgecbaaGreatDoor.Adr
