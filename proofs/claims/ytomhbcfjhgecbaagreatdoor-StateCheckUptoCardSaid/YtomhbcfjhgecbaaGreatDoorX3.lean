import Derived.Test.YtomhbcfjhgecbaaGreatDoorX2
import Derived.Lib.QuietBelow
import Derived.BigQuiet
import Derived.Test.YtomhbcfjhgecbaaGreatDoorX1
import Derived.Deep.RegionHeld3
import Derived.Deep.RegionLaw
import Derived.Lib.RuneBytes
import Derived.Lib.MapLaws
import Derived.Laws.StructEq
set_option linter.unusedVariables false
set_option linter.unusedSimpArgs false
namespace Go.Proofs.YtomhbcfjhgecbaaGreatDoor.Adr
open Go.RowKit Go.Sort Go.Lib Go.Maps
open Go.Lib (hid)
def kO (k n:Int) (t:List UInt8):Obj:=.cells #[.int .i64 k,.int .i64 n,.string ⟨t.toArray⟩] 91 (0,0)
theorem ko_cells {W:World} {r:Nat} {k n:Int} {t:List UInt8} (h:W.heap[r]?=some (kO k n t)):W.cell? ⟨r,0,none⟩=some (.int .i64 k)/\W.cell? ⟨r,1,none⟩=some (.int .i64 n)/\W.cell? ⟨r,2,none⟩=some (.string ⟨t.toArray⟩)/\(∀ o,W.frozen? ⟨r,o,none⟩=false)/\r < W.heap.size:=by
 unfold kO at h;refine ⟨by unfold World.cell?;simp [h],by unfold World.cell?;simp [h],by unfold World.cell?;simp [h],fun o=>by unfold World.frozen?;simp [h],lt_of_block h⟩
theorem ko_kept {W W':World} {r b:Nat} {o:Obj} (h:W.heap[r]?=some o) (hg:W.grownBy W' (some b)) (hne:r≠b):W'.heap[r]?=some o:=(hg.block r (lt_of_block h) (by simpa using hne)).trans h
theorem ko_new (w:World) (o:Obj):(w.alloc o).heap[w.heap.size]?=some o:=by
 show (w.heap.push o)[w.heap.size]?=_;simp
theorem ko_set {W:World} {r:Nat} {k n:Int} {t:List UInt8} (h:W.heap[r]?=some (kO k n t)) (k' n':Int) (t':List UInt8):(((W.setCell ⟨r,0,none⟩ (.int .i64 k')).setCell ⟨r,1,none⟩ (.int .i64 n')).setCell ⟨r,2,none⟩ (.string ⟨t'.toArray⟩)).heap[r]?=some (kO k' n' t'):=by
 unfold World.setCell kO at *;simp only [Array.getElem?_modify,if_true,h,Option.map_some];rfl
theorem ko_rd {W:World} {r b:Nat} {s:ByteArray} {bad:Bool} (h:Rd b W s bad) (hne:r≠b) (i:Nat) (v:Value):Rd b (W.setCell ⟨r,i,none⟩ v) s bad:=by
 unfold Rd at *;rw [<-h];exact Below.heap_setCell _ _ _ _ (fun e=>hne e.symm)
theorem rd_alloc {W:World} {b:Nat} {s:ByteArray} {bad:Bool} (h:Rd b W s bad) (o:Obj):Rd b (W.alloc o) s bad:=h.kept ((Below.refl _ _).alloc (Nat.le_refl _) _)
theorem rd_grown {W W':World} {b r:Nat} {s:ByteArray} {bad:Bool} (h:Rd b W s bad) (hg:W.grownBy W' (some r)) (hne:b≠r):Rd b W' s bad:=ko_kept h hg hne
theorem grown_setO {w W:World} {row:Option Nat} (h:w.grownBy W row) (a:Addr) (u:Value) (hle:w.heap.size<=a.block):w.grownBy (W.setCell a u) row:=
 ⟨h.os,h.tape,h.output,by simp [World.setCell];exact h.size,fun k hk hne=>(Below.heap_setCell _ _ _ _ (fun e=>by subst e;omega)).trans (h.block k hk hne)⟩
theorem key_end {w W:World} {r b:Nat} {s:ByteArray} {bad:Bool} {k n:Int} {t:List UInt8} (h:W.heap[r]?=some (kO k n t)) (hr:Rd b W s bad) (hg:w.grownBy W (some b)) (hne:r≠b) (hle:w.heap.size<=r) (k' n':Int) (t':ByteArray) (W':World) (e:W'=((W.setCell ⟨r,0,none⟩ (.int .i64 k')).setCell ⟨r,1,none⟩ (.int .i64 n')).setCell ⟨r,2,none⟩ (.string t')) :
  (W'.cell? ⟨r,0,none⟩=some (.int .i64 k')/\W'.cell? ⟨r,1,none⟩=some (.int .i64 n')/\W'.cell? ⟨r,2,none⟩=some (.string t'))/\Rd b W' s bad/\w.grownBy W' (some b):=by
 have e2:(⟨t'.data.toList.toArray⟩:ByteArray)=t':=by simp
 subst e;have h2:=ko_cells (ko_set h k' n' t'.data.toList);rw [e2] at h2;exact ⟨⟨h2.1,h2.2.1,h2.2.2.1⟩,ko_rd (ko_rd (ko_rd hr hne _ _) hne _ _) hne _ _,grown_setO (grown_setO (grown_setO hg _ _ hle) _ _ hle) _ _ hle⟩
theorem key_mid {w w1:World} {b:Nat} {s:ByteArray} {bad:Bool} (h0:w.grownBy (w.alloc (kO 0 0 [])) (some b)) (hg:(w.alloc (kO 0 0 [])).grownBy w1 (some b)) (hr:Rd b w1 s bad) (ho:(w.alloc (kO 0 0 [])).heap[w.heap.size]?=some (kO 0 0 [])) (hne:w.heap.size≠b) :
  w.grownBy (w1.alloc (kO 0 0 [])) (some b)/\Rd b (w1.alloc (kO 0 0 [])) s bad/\(w1.alloc (kO 0 0 [])).heap[w.heap.size]?=some (kO 0 0 [])/\(w1.alloc (kO 0 0 [])).heap[w1.heap.size]?=some (kO 0 0 []):=by
 have hb:Below w1.heap.size w1 (w1.alloc (kO 0 0 [])):=(Below.refl _ _).alloc (Nat.le_refl _) _;have h1:=ko_kept ho hg hne;exact ⟨grown_trans (grown_trans h0 hg) (grown_of hb _),rd_alloc hr _,(hb.block _ (lt_of_block h1)).trans h1,ko_new _ _⟩
theorem unqL_ok:∀ (n:Nat) (l out:List UInt8),l.length<=n->(unqL l out).1=0->(unqL l out).2.1.length<=4096/\(unqL l out).2.2.length<=l.length
 | n,[],out,_,h=>by rw [unqL_nil] at h;exact absurd h (by simp)
 | 0,c :: r,out,hn,h=>by simp at hn
 | n+1,c :: r,out,hn,h=>by
   rw [unqL] at h ⊢
   by_cases hq:c.toNat=34
   . rw [if_pos hq] at h ⊢
     by_cases h4:4096 < out.length
     . rw [if_pos h4] at h;exact absurd h (by simp)
     . rw [if_neg h4];exact ⟨by show out.length<=4096;omega,by simp⟩
   . rw [if_neg hq] at h ⊢
     by_cases h1:(oneS (c :: r)).1≠0
     . rw [if_pos h1] at h;exact absurd h h1
     . rw [if_neg h1] at h ⊢
       have hl:(r.drop ((oneS (c :: r)).2.2 - 1)).length<=r.length:=by rw [List.length_drop];omega
       obtain ⟨a,b⟩:=unqL_ok n _ _ (by simp at hn;omega) h;exact ⟨a,by simp;omega⟩
theorem unqS_ok (l:List UInt8):(unqS l).2.1.length<=4096/\(unqS l).2.2<=l.length:=by
 unfold unqS;split
 . simp
 . split
   . simp
   . split
     . simp
     . have:=unqL_ok _ l.tail [] (Nat.le_refl _) (by simp_all)
       exact ⟨this.1,by simp⟩
set_option maxHeartbeats 4000000 in
theorem key_bad (s:ByteArray) (b:Nat) (w:World) (h:Rd b w s true):Calls Tryz.prog 98 #[.pointer (some ⟨b,0,none⟩)] w fun e w' =>
  e=.returned (.agg #[.int .i64 0,.int .i64 0,.string ⟨#[]⟩])/\Rd b w' s true/\w.grownBy w' (some b):=by
 obtain ⟨c0,c1,c2,c3⟩:=h.cells;have HE:=hid (⟨rd_alloc h (kO 0 0 []),grown_of ((Below.refl _ _).alloc (Nat.le_refl _) _) (some b)⟩:Rd b (w.alloc (kO 0 0 [])) s true/\w.grownBy (w.alloc (kO 0 0 [])) (some b));clear h;go_enter Tryz.func98,Tryz.ntmps98;go_wp2
 obtain ⟨d0,d1,d2,d3,d4⟩:=ko_cells (W:=w.alloc (kO 0 0 [])) (r:=w.heap.size) (k:=0) (n:=0) (t:=[]) (ko_new w _);unfold kO at d0 d1 d2 HE;exact bodyPost_ret (v:=.agg #[.int .i64 0,.int .i64 0,.string ⟨#[]⟩]) (by simp [results,Tryz.results98,go_sem,d0,d1,d2]) rfl ⟨rfl,HE.out⟩
theorem key_no (s:ByteArray) (b:Nat) (w:World) (h:Rd b w s false) (hp:hasP [91] s=false):Calls Tryz.prog 98 #[.pointer (some ⟨b,0,none⟩)] w fun e w' =>
  e=.returned (.agg #[.int .i64 0,.int .i64 0,.string ⟨#[]⟩])/\Rd b w' (cutS [91] s) false/\w.grownBy w' (some b):=by
 have HA:=hid (fun (W:World) (hW:Rd b W s false)=>has_any ⟨#[91]⟩ s b false W hW);have HR:=hid (rd_alloc h (kO 0 0 []));have HG:=hid (grown_of ((Below.refl w.heap.size w).alloc (Nat.le_refl _) (kO 0 0 [])) (some b));have HO:=hid (show (w.alloc (kO 0 0 [])).heap[w.heap.size]?=some (kO 0 0 []) from ko_new w _);obtain ⟨c0,c1,c2,c3⟩:=h.cells;have hne:w.heap.size≠b:=by omega
 clear h;unfold kO at HR HG;go_enter Tryz.func98,Tryz.ntmps98;go_wp2_with (go_at_call 94;refine (HA.out _ HR.out).mono ?_;rintro e w1 ⟨rfl,hr,hg⟩;rw [hp];obtain ⟨d0,d1,d2,d3,d4⟩:=ko_cells (ko_kept HO.out hg hne);have f0:=d3 0;have f1:=d3 1;have f2:=d3 2)
 obtain ⟨⟨k0,k1,k2⟩,hE⟩:=key_end (ko_kept HO.out hg hne) hr (grown_trans HG.out hg) hne (Nat.le_refl _) 0 0 ⟨#[]⟩ _ rfl;exact bodyPost_ret (v:=.agg #[.int .i64 0,.int .i64 0,.string ⟨#[]⟩]) (by simp [results,Tryz.results98,go_sem,k0,k1,k2]) rfl ⟨rfl,hE⟩
set_option maxHeartbeats 4000000 in
theorem key_se (s s1:ByteArray) (b:Nat) (w w0:World) (hT:WT w0) (hB:Below w0.heap.size w0 w) (hb0:w0.heap.size<=b) (hs:s1.size<=2000000) (h:Rd b w s false) (hp:hasP [91] s=true) (e1:cutS [91] s=s1) (hq:Lib.hasPrefix s1.data.toList [34]=true) (he:(unqS s1.data.toList).1≠0):Calls Tryz.prog 98 #[.pointer (some ⟨b,0,none⟩)] w fun e w' =>
  e=.returned (.agg #[.int .i64 0,.int .i64 0,.string ⟨#[]⟩])/\Rd b w' s1 true/\w.grownBy w' (some b):=by
 have HA:=hid (fun (W:World) (hW:Rd b W s false)=>has_any ⟨#[91]⟩ s b false W hW);rw [show cutS (⟨#[91]⟩:ByteArray).data.toList s=s1 from e1] at HA;have HR:=hid (rd_alloc h (kO 0 0 []));have HG:=hid (grown_of ((Below.refl w.heap.size w).alloc (Nat.le_refl _) (kO 0 0 [])) (some b));have HO:=hid (show (w.alloc (kO 0 0 [])).heap[w.heap.size]?=some (kO 0 0 []) from ko_new w _);have HH:=hid (fun (W:World)=>Tryz.strings_HasPrefix s1 ⟨#[34]⟩ W);have HU:=hid (fun (W:World) (hW:WT W)=>punq_any s1 W hW hs);generalize unqS s1.data.toList=x at HU he;obtain ⟨c0,c1,c2,c3⟩:=h.cells;have hne:w.heap.size≠b:=by omega
 have hge:w0.heap.size<=w.heap.size:=hB.size;have HW:=hid (fun (W:World) (hg:w.grownBy W (some b))=>hB.grown hg hge (fun k hk=>by cases hk;exact hb0));clear h;unfold kO at HR HG;have g0:decide (x.1=0)=false:=decide_eq_false he;go_enter Tryz.func98,Tryz.ntmps98;go_wp2_with (go_at_call 94;refine (HA.out _ HR.out).mono ?_;rintro e w1 ⟨rfl,hr,hg⟩;rw [hp];obtain ⟨d0,d1,d2,d3⟩:=hr.cells;have hne1:w1.heap.size≠b:=by omega)
 obtain ⟨HY,HR2,HO2,HV2⟩:=key_mid (HG.out) hg hr HO.out hne;unfold kO at HY HR2 HO2 HV2;go_at_call 133;refine (HH.out _).mono ?_;rintro e w2 ⟨rfl,rfl⟩;rw [show Lib.hasPrefix s1.data.toList (⟨#[34]⟩:ByteArray).data.toList=true from hq];go_wp2_with (go_at_call 134;refine (HU.out _ (hT.below (HW.out _ HY))).mono ?_;rintro e w3 ⟨rfl,hb3⟩;simp only [UqR])
 have HR3:=HR2.kept hb3;have HO3:=(hb3.block _ (lt_of_block HO2)).trans HO2;have HV3:=(hb3.block _ (lt_of_block HV2)).trans HV2;have HG3:=grown_trans HY (grown_of hb3 (some b));obtain ⟨d0,d1,d2,d3⟩:=HR3.cells;have f1:=d2 1;go_quiet (fail)
 have hb4:=bel_drewN (Below.refl w3.heap.size w3) nq;generalize w3.drewN nq=w4 at *;have HR4:=HR3.kept hb4;have HO4:=(hb4.block _ (lt_of_block HO3)).trans HO3;have HV4:=(hb4.block _ (lt_of_block HV3)).trans HV3;have HG4:=grown_trans HG3 (grown_of hb4 (some b));clear d0 d1 d2 d3 f1;obtain ⟨d0,d1,d2,d3⟩:=HR4.cells;have f1:=d2 1;have HRb:=HR4.set1 true;have HOb:=ko_kept HO4 (grown_setC w4 ⟨b,1,none⟩ (.bool true)) hne;have HVb:=ko_kept HV4 (grown_setC w4 ⟨b,1,none⟩ (.bool true)) hne1;have HGb:=grown_trans HG4 (grown_setC w4 ⟨b,1,none⟩ (.bool true));obtain ⟨v0,v1,v2,v3,v4⟩:=ko_cells (k:=0) (n:=0) (t:=[]) HVb;obtain ⟨o0,o1,o2,o3,o4⟩:=ko_cells (k:=0) (n:=0) (t:=[]) HOb;have q0:=o3 0;have q1:=o3 1;have q2:=o3 2;go_wp2
 obtain ⟨⟨k0,k1,k2⟩,hE⟩:=key_end (k:=0) (n:=0) (t:=[]) HOb HRb HGb hne (Nat.le_refl _) 0 0 ⟨#[]⟩ _ rfl;exact bodyPost_ret (v:=.agg #[.int .i64 0,.int .i64 0,.string ⟨#[]⟩]) (by simp [results,Tryz.results98,go_sem,k0,k1,k2]) rfl ⟨rfl,hE⟩
set_option maxHeartbeats 4000000 in
theorem key_sq (s s1:ByteArray) (b:Nat) (w w0:World) (hT:WT w0) (hB:Below w0.heap.size w0 w) (hb0:w0.heap.size<=b) (hs:s1.size<=2000000) (h:Rd b w s false) (hp:hasP [91] s=true) (e1:cutS [91] s=s1) (hq:Lib.hasPrefix s1.data.toList [34]=true) (he:(unqS s1.data.toList).1=0) (hv:quo (unqS s1.data.toList).2.1≠s1.data.toList.take (unqS s1.data.toList).2.2):Calls Tryz.prog 98 #[.pointer (some ⟨b,0,none⟩)] w fun e w' =>
  e=.returned (.agg #[.int .i64 0,.int .i64 0,.string ⟨#[]⟩])/\Rd b w' s1 true/\w.grownBy w' (some b):=by
 have HA:=hid (fun (W:World) (hW:Rd b W s false)=>has_any ⟨#[91]⟩ s b false W hW);rw [show cutS (⟨#[91]⟩:ByteArray).data.toList s=s1 from e1] at HA;have HR:=hid (rd_alloc h (kO 0 0 []));have HG:=hid (grown_of ((Below.refl w.heap.size w).alloc (Nat.le_refl _) (kO 0 0 [])) (some b));have HO:=hid (show (w.alloc (kO 0 0 [])).heap[w.heap.size]?=some (kO 0 0 []) from ko_new w _);have HH:=hid (fun (W:World)=>Tryz.strings_HasPrefix s1 ⟨#[34]⟩ W);have HU:=hid (fun (W:World) (hW:WT W)=>punq_any s1 W hW hs);have hx:=unqS_ok s1.data.toList;rw [size_list] at hx;generalize unqS s1.data.toList=x at HU he hx hv;obtain ⟨x1,x2,n⟩:=x;obtain rfl:x1=0:=he;have HQ:=hid (fun (W:World) (hW:WT W)=>pquote_any ⟨x2.toArray⟩ W hW (by rw [ba_size];have:=hx.1;simp only at this;omega));have hn:(n:Int)<=s1.size:=by have:=hx.2;simp only at this;omega
 have ht:(s1.extract 0 n).toList=s1.data.toList.take n:=by
  have:=Lib.extract_data s1 0 n;rw [ByteArray.toList_eq,this];simp
 have hbv:(quo x2 == (s1.extract 0 n).toList)=false:=by rw [ht];simpa using hv
 clear hx hv ht;obtain ⟨c0,c1,c2,c3⟩:=h.cells;have hne:w.heap.size≠b:=by omega
 have hge:w0.heap.size<=w.heap.size:=hB.size;have HW:=hid (fun (W:World) (hg:w.grownBy W (some b))=>hB.grown hg hge (fun k hk=>by cases hk;exact hb0));clear h;unfold kO at HR HG;go_enter Tryz.func98,Tryz.ntmps98;go_wp2_with (go_at_call 94;refine (HA.out _ HR.out).mono ?_;rintro e w1 ⟨rfl,hr,hg⟩;rw [hp];obtain ⟨d0,d1,d2,d3⟩:=hr.cells;have hne1:w1.heap.size≠b:=by omega)
 obtain ⟨HY,HR2,HO2,HV2⟩:=key_mid (HG.out) hg hr HO.out hne;unfold kO at HY HR2 HO2 HV2;go_at_call 133;refine (HH.out _).mono ?_;rintro e w2 ⟨rfl,rfl⟩;rw [show Lib.hasPrefix s1.data.toList (⟨#[34]⟩:ByteArray).data.toList=true from hq];go_wp2_with (go_at_call 134;refine (HU.out _ (hT.below (HW.out _ HY))).mono ?_;rintro e w3 ⟨rfl,hb3⟩;simp only [UqR])
 have HR3:=HR2.kept hb3;have HO3:=(hb3.block _ (lt_of_block HO2)).trans HO2;have HV3:=(hb3.block _ (lt_of_block HV2)).trans HV2;have HG3:=grown_trans HY (grown_of hb3 (some b));obtain ⟨d0,d1,d2,d3⟩:=HR3.cells;have f1:=d2 1;have dr:=fun d os=>cell_regrown d0 d os;have HQR:=hid (fun d os=>Calls.regrown_of (HQ.out _ (hT.below (HW.out _ (grown_trans HG3 (grown_of (below_regrown w3 d os) (some b)))))));refine wp_region_quiet_below (by kernel_rfl) (by kernel_rfl) ?_
 repeat (go_big_quiet_step (exact HQR.out _ _))
 refine wpQuiet_nil ?_;intro _ hw';obtain ⟨⟨dq,osq⟩,hw''⟩:=hw';subst hw'';simp only [hbv,Bool.not_false,Bool.not_true];have hb4:=below_regrown w3 dq osq;clear dr HQR;generalize grow (redrawn w3 dq) osq=w4 at *;have HR4:=HR3.kept hb4;have HO4:=(hb4.block _ (lt_of_block HO3)).trans HO3;have HV4:=(hb4.block _ (lt_of_block HV3)).trans HV3;have HG4:=grown_trans HG3 (grown_of hb4 (some b));clear d0 d1 d2 d3 f1;obtain ⟨d0,d1,d2,d3⟩:=HR4.cells;have f1:=d2 1;have HRb:=HR4.set1 true;have HOb:=ko_kept HO4 (grown_setC w4 ⟨b,1,none⟩ (.bool true)) hne;have HVb:=ko_kept HV4 (grown_setC w4 ⟨b,1,none⟩ (.bool true)) hne1;have HGb:=grown_trans HG4 (grown_setC w4 ⟨b,1,none⟩ (.bool true));obtain ⟨v0,v1,v2,v3,v4⟩:=ko_cells (k:=0) (n:=0) (t:=[]) HVb;obtain ⟨o0,o1,o2,o3,o4⟩:=ko_cells (k:=0) (n:=0) (t:=[]) HOb;have q0:=o3 0;have q1:=o3 1;have q2:=o3 2;go_wp2
 obtain ⟨⟨k0,k1,k2⟩,hE⟩:=key_end (k:=0) (n:=0) (t:=[]) HOb HRb HGb hne (Nat.le_refl _) 0 0 ⟨#[]⟩ _ rfl;exact bodyPost_ret (v:=.agg #[.int .i64 0,.int .i64 0,.string ⟨#[]⟩]) (by simp [results,Tryz.results98,go_sem,k0,k1,k2]) rfl ⟨rfl,hE⟩
theorem key_put {w w1 w4:World} {b:Nat} {s:ByteArray} {bad:Bool} (HR4:Rd b w4 s bad) (HO4:w4.heap[w.heap.size]?=some (kO 0 0 [])) (HV4:w4.heap[w1.heap.size]?=some (kO 0 0 [])) (HG4:w.grownBy w4 (some b)) (hne:w.heap.size≠b) (hne1:w1.heap.size≠b) (hlt:w.heap.size < w1.heap.size) (k n:Int) (x t:List UInt8) (s2:ByteArray) (W:World)
  (e:W=(((w4.setCell ⟨w1.heap.size,0,none⟩ (.int .i64 k)).setCell ⟨w1.heap.size,1,none⟩ (.int .i64 n)).setCell ⟨w1.heap.size,2,none⟩ (.string ⟨x.toArray⟩)).setCell ⟨b,0,none⟩ (.string s2)) :
  Rd b W s2 bad/\W.heap[w.heap.size]?=some (kO 0 0 [])/\W.heap[w1.heap.size]?=some (kO k n x)/\w.grownBy W (some b):=by
 subst e;have h1:∀ (X:World) (i:Nat) (v:Value),(X.setCell ⟨w1.heap.size,i,none⟩ v).heap[w.heap.size]?=X.heap[w.heap.size]?:=fun X i v=>Below.heap_setCell _ _ _ _ (fun e=>by simp only at e;omega);have hw:=HG4.size;refine ⟨(ko_rd (ko_rd (ko_rd HR4 hne1 _ _) hne1 _ _) hne1 _ _).set0 s2,?_,?_,?_⟩
 . exact ko_kept (((h1 _ _ _).trans ((h1 _ _ _).trans (h1 _ _ _))).trans HO4) (grown_setC _ ⟨b,0,none⟩ _) hne
 . exact ko_kept (ko_set HV4 k n x) (grown_setC _ ⟨b,0,none⟩ _) hne1
 . exact grown_trans (grown_setO (grown_setO (grown_setO HG4 _ _ (Nat.le_of_lt hlt)) _ _ (Nat.le_of_lt hlt)) _ _ (Nat.le_of_lt hlt)) (grown_setC _ ⟨b,0,none⟩ _)
set_option maxHeartbeats 4000000 in
theorem key_so (s s1:ByteArray) (b:Nat) (w w0:World) (hT:WT w0) (hB:Below w0.heap.size w0 w) (hb0:w0.heap.size<=b) (hs:s1.size<=2000000) (h:Rd b w s false) (hp:hasP [91] s=true) (e1:cutS [91] s=s1) (hq:Lib.hasPrefix s1.data.toList [34]=true) (he:(unqS s1.data.toList).1=0) (hv:quo (unqS s1.data.toList).2.1=s1.data.toList.take (unqS s1.data.toList).2.2):Calls Tryz.prog 98 #[.pointer (some ⟨b,0,none⟩)] w fun e w' =>
  e=.returned (.agg #[.int .i64 2,.int .i64 0,.string ⟨(unqS s1.data.toList).2.1.toArray⟩])/\Rd b w' (cutS [93] (s1.extract (unqS s1.data.toList).2.2 s1.size)) (false || !hasP [93] (s1.extract (unqS s1.data.toList).2.2 s1.size))/\w.grownBy w' (some b):=by
 have HA:=hid (fun (W:World) (hW:Rd b W s false)=>has_any ⟨#[91]⟩ s b false W hW);rw [show cutS (⟨#[91]⟩:ByteArray).data.toList s=s1 from e1] at HA;have HR:=hid (rd_alloc h (kO 0 0 []));have HG:=hid (grown_of ((Below.refl w.heap.size w).alloc (Nat.le_refl _) (kO 0 0 [])) (some b));have HO:=hid (show (w.alloc (kO 0 0 [])).heap[w.heap.size]?=some (kO 0 0 []) from ko_new w _);have HH:=hid (fun (W:World)=>Tryz.strings_HasPrefix s1 ⟨#[34]⟩ W);have HU:=hid (fun (W:World) (hW:WT W)=>punq_any s1 W hW hs);have hx:=unqS_ok s1.data.toList;rw [size_list] at hx;generalize unqS s1.data.toList=x at HU he hx hv ⊢;obtain ⟨x1,x2,n⟩:=x;obtain rfl:x1=0:=he;have HQ:=hid (fun (W:World) (hW:WT W)=>pquote_any ⟨x2.toArray⟩ W hW (by rw [ba_size];have:=hx.1;simp only at this;omega));have hn:(n:Int)<=s1.size:=by have:=hx.2;simp only at this;omega
 have ht:(s1.extract 0 n).toList=s1.data.toList.take n:=by
  have:=Lib.extract_data s1 0 n;rw [ByteArray.toList_eq,this];simp
 have hbv:(quo x2 == (s1.extract 0 n).toList)=true:=by rw [ht];simpa using hv
 clear hx hv ht;have HS:=hid (fun (W:World) (hW:Rd b W (s1.extract n s1.size) false)=>skip_any ⟨#[93]⟩ (s1.extract n s1.size) b false W hW);rw [show (⟨#[93]⟩:ByteArray).data.toList=[93] from rfl] at HS;obtain ⟨c0,c1,c2,c3⟩:=h.cells;have hne:w.heap.size≠b:=by omega
 have hge:w0.heap.size<=w.heap.size:=hB.size;have HW:=hid (fun (W:World) (hg:w.grownBy W (some b))=>hB.grown hg hge (fun k hk=>by cases hk;exact hb0));clear h;unfold kO at HR HG;go_enter Tryz.func98,Tryz.ntmps98;go_wp2_with (go_at_call 94;refine (HA.out _ HR.out).mono ?_;rintro e w1 ⟨rfl,hr,hg⟩;rw [hp];obtain ⟨d0,d1,d2,d3⟩:=hr.cells;have hne1:w1.heap.size≠b:=by omega)
 obtain ⟨HY,HR2,HO2,HV2⟩:=key_mid (HG.out) hg hr HO.out hne;unfold kO at HY HR2 HO2 HV2;go_at_call 133;refine (HH.out _).mono ?_;rintro e w2 ⟨rfl,rfl⟩;rw [show Lib.hasPrefix s1.data.toList (⟨#[34]⟩:ByteArray).data.toList=true from hq];go_wp2_with (go_at_call 134;refine (HU.out _ (hT.below (HW.out _ HY))).mono ?_;rintro e w3 ⟨rfl,hb3⟩;simp only [UqR])
 have HR3:=HR2.kept hb3;have HO3:=(hb3.block _ (lt_of_block HO2)).trans HO2;have HV3:=(hb3.block _ (lt_of_block HV2)).trans HV2;have HG3:=grown_trans HY (grown_of hb3 (some b));obtain ⟨d0,d1,d2,d3⟩:=HR3.cells;have f1:=d2 1;have dr:=fun d os=>cell_regrown d0 d os;have HQR:=hid (fun d os=>Calls.regrown_of (HQ.out _ (hT.below (HW.out _ (grown_trans HG3 (grown_of (below_regrown w3 d os) (some b)))))));refine wp_region_quiet_below (by kernel_rfl) (by kernel_rfl) ?_
 repeat (go_big_quiet_step (exact HQR.out _ _))
 refine wpQuiet_nil ?_;intro _ hw';obtain ⟨⟨dq,osq⟩,hw''⟩:=hw';subst hw'';simp only [hbv,Bool.not_false,Bool.not_true];have hb4:=below_regrown w3 dq osq;clear dr HQR;generalize grow (redrawn w3 dq) osq=w4 at *;have HR4:=HR3.kept hb4;have HO4:=(hb4.block _ (lt_of_block HO3)).trans HO3;have HV4:=(hb4.block _ (lt_of_block HV3)).trans HV3;have HG4:=grown_trans HG3 (grown_of hb4 (some b));clear d0 d1 d2 d3 f1;obtain ⟨d0,d1,d2,d3⟩:=HR4.cells;have f1:=d2 1;have f0:=d2 0;have hlt:w.heap.size < w1.heap.size:=by have:=hg.size;simp [World.size_alloc] at this;omega
 obtain ⟨v0,v1,v2,v3,v4⟩:=ko_cells (k:=0) (n:=0) (t:=[]) HV4;have p0:=v3 0;have p1:=v3 1;have p2:=v3 2;go_wp2_with (go_at_call 96;obtain ⟨HR6,HO6,HV6,HG6⟩:=key_put HR4 HO4 HV4 HG4 hne hne1 hlt 2 0 x2 [] (s1.extract n s1.size) _ rfl;refine (HS.out _ HR6).mono ?_;rintro e w7 ⟨rfl,hr7,hg7⟩;obtain ⟨v0,v1,v2,v3,v4⟩:=ko_cells (ko_kept HV6 hg7 hne1);have HO7:=ko_kept HO6 hg7 hne;obtain ⟨o0,o1,o2,o3,o4⟩:=ko_cells (k:=0) (n:=0) (t:=[]) HO7;have HG7:=grown_trans HG6 hg7;have q0:=o3 0;have q1:=o3 1;have q2:=o3 2)
 obtain ⟨⟨k0,k1,k2⟩,hE⟩:=key_end (k:=0) (n:=0) (t:=[]) HO7 hr7 HG7 hne (Nat.le_refl _) 2 0 ⟨x2.toArray⟩ _ rfl;exact bodyPost_ret (v:=.agg #[.int .i64 2,.int .i64 0,.string ⟨x2.toArray⟩]) (by simp [results,Tryz.results98,go_sem,k0,k1,k2]) rfl ⟨rfl,hE⟩
def nmAt (l:List UInt8):Nat:=(max (Lib.indexByte l 93) 0).toNat
theorem nmAt_le (l:List UInt8):nmAt l<=l.length:=by
 have hg:=Lib.indexByte_ge l 93;unfold nmAt
 by_cases h:Lib.indexByte l 93 < 0
 . omega
 . have hk:Lib.indexByte l 93=((Lib.indexByte l 93).toNat:Int):=by omega
   have:=(List.getElem?_eq_some_iff.mp (Lib.indexByte_some hk).1).1;omega
set_option maxHeartbeats 4000000 in
theorem key_nu (s s1:ByteArray) (b:Nat) (w w0:World) (hT:WT w0) (hB:Below w0.heap.size w0 w) (hb0:w0.heap.size<=b) (hs:s1.size<=2000000) (h:Rd b w s false) (hp:hasP [91] s=true) (e1:cutS [91] s=s1) (v:Bool) (hq:Lib.hasPrefix s1.data.toList [34]=false) (hv:(decide ((numS (s1.data.toList.take (nmAt s1.data.toList))).2≠0) || decide ((numS (s1.data.toList.take (nmAt s1.data.toList))).1 < 0))=v):Calls Tryz.prog 98 #[.pointer (some ⟨b,0,none⟩)] w fun e w' =>
  e=.returned (.agg #[.int .i64 1,.int .i64 (numS (s1.data.toList.take (nmAt s1.data.toList))).1,.string ⟨#[]⟩])/\Rd b w' (cutS [93] (s1.extract (nmAt s1.data.toList) s1.size)) (v || !hasP [93] (s1.extract (nmAt s1.data.toList) s1.size))/\w.grownBy w' (some b):=by
 have HA:=hid (fun (W:World) (hW:Rd b W s false)=>has_any ⟨#[91]⟩ s b false W hW);rw [show cutS (⟨#[91]⟩:ByteArray).data.toList s=s1 from e1] at HA;have HR:=hid (rd_alloc h (kO 0 0 []));have HG:=hid (grown_of ((Below.refl w.heap.size w).alloc (Nat.le_refl _) (kO 0 0 [])) (some b));have HO:=hid (show (w.alloc (kO 0 0 [])).heap[w.heap.size]?=some (kO 0 0 []) from ko_new w _);have HH:=hid (fun (W:World)=>Tryz.strings_HasPrefix s1 ⟨#[34]⟩ W);have HI:=hid (fun (W:World)=>Tryz.strings_IndexByte s1 93 W)
 have hz:∃ z:Int,∃ m:Nat,Lib.indexByte s1.data.toList 93=z/\nmAt s1.data.toList=m/\(z=(m:Int) ∨ (z = -1/\m=0))/\m<=s1.size:=by
  have hg:=Lib.indexByte_ge s1.data.toList 93;refine ⟨_,_,rfl,rfl,?_,?_⟩
  . unfold nmAt;omega
  . rw [<-size_list];exact nmAt_le _
 obtain ⟨z,m,hz1,hz2,hz3,hm⟩:=hz;rw [show (93:Int).toNat.toUInt8=93 from rfl,hz1] at HI;rw [hz2] at hv ⊢
 have ht:(s1.extract 0 m).data.toList=s1.data.toList.take m:=by
  have:=Lib.extract_data s1 0 m;rw [this];simp
 have HN:=hid (fun (W:World) (hW:WT W)=>pnum_any (s1.extract 0 m) W hW (by rw [<-size_list,ht,List.length_take,size_list];omega));rw [ht] at HN;have hm2:(m:Int)<=s1.size:=by omega
 generalize numS (s1.data.toList.take m)=x at HN hv ⊢;obtain ⟨num,er⟩:=x;have HS:=hid (fun (W:World) (hW:Rd b W (s1.extract m s1.size) v)=>skip_any ⟨#[93]⟩ (s1.extract m s1.size) b v W hW);rw [show (⟨#[93]⟩:ByteArray).data.toList=[93] from rfl] at HS;simp only at hv;clear hz1 hz2 ht hm
 have hv3:(((er != 0)=true/\(er == 0)=false/\decide (er=0)=false)/\v=true) ∨ (er=0/\v=decide (num < 0)):=by
  subst hv
  by_cases h1:er=0 <;> simp [h1]
 clear hv;obtain ⟨c0,c1,c2,c3⟩:=h.cells;have hne:w.heap.size≠b:=by omega
 have hge:w0.heap.size<=w.heap.size:=hB.size;have HW:=hid (fun (W:World) (hg:w.grownBy W (some b))=>hB.grown hg hge (fun k hk=>by cases hk;exact hb0));clear h;unfold kO at HR HG;rcases hz3 with rfl | ⟨rfl,rfl⟩ <;> rcases hv3 with ⟨⟨g1,g2,g3⟩,rfl⟩ | ⟨rfl,rfl⟩
 . go_enter Tryz.func98,Tryz.ntmps98
   go_wp2_with (go_at_call 94;refine (HA.out _ HR.out).mono ?_;rintro e w1 ⟨rfl,hr,hg⟩;rw [hp];obtain ⟨d0,d1,d2,d3⟩:=hr.cells;have hne1:w1.heap.size≠b:=by omega)
   obtain ⟨HY,HR2,HO2,HV2⟩:=key_mid (HG.out) hg hr HO.out hne;unfold kO at HY HR2 HO2 HV2;go_at_call 133;refine (HH.out _).mono ?_;rintro e w2 ⟨rfl,rfl⟩;rw [show Lib.hasPrefix s1.data.toList (⟨#[34]⟩:ByteArray).data.toList=false from hq];go_wp2_with (go_at_call 136;refine (HI.out _).mono ?_;rintro e wq ⟨rfl,rfl⟩)
   go_wp2_with (go_at_call 120;refine (HN.out _ (hT.below (HW.out _ HY))).mono ?_;rintro e w4 ⟨rfl,hb4⟩;simp only [NmR];have HR4:=HR2.kept hb4;have HO4:=(hb4.block _ (lt_of_block HO2)).trans HO2;have HV4:=(hb4.block _ (lt_of_block HV2)).trans HV2;have HG4:=grown_trans HY (grown_of hb4 (some b));obtain ⟨d0,d1,d2,d3⟩:=HR4.cells;have f1:=d2 1;have f0:=d2 0;have hlt:w.heap.size < w1.heap.size:=(by have:=hg.size;simp [World.size_alloc] at this;omega);obtain ⟨v0,v1,v2,v3,v4⟩:=ko_cells (k:=0) (n:=0) (t:=[]) HV4;have p0:=v3 0;have p1:=v3 1;have p2:=v3 2)
   go_at_call 96;obtain ⟨HR6,HO6,HV6,HG6⟩:=key_put (HR4.set1 _) (ko_kept HO4 (grown_setC w4 ⟨b,1,none⟩ (.bool _)) hne) (ko_kept HV4 (grown_setC w4 ⟨b,1,none⟩ (.bool _)) hne1) (grown_trans HG4 (grown_setC w4 ⟨b,1,none⟩ (.bool _))) hne hne1 hlt 1 num [] [] _ _ rfl;refine (HS.out _ HR6).mono ?_;rintro e w7 ⟨rfl,hr7,hg7⟩;obtain ⟨v0,v1,v2,v3,v4⟩:=ko_cells (ko_kept HV6 hg7 hne1);have HO7:=ko_kept HO6 hg7 hne;obtain ⟨o0,o1,o2,o3,o4⟩:=ko_cells (k:=0) (n:=0) (t:=[]) HO7;have HG7:=grown_trans HG6 hg7;have q0:=o3 0;have q1:=o3 1;have q2:=o3 2;go_wp2
   obtain ⟨⟨k0,k1,k2⟩,hE⟩:=key_end (k:=0) (n:=0) (t:=[]) HO7 hr7 HG7 hne (Nat.le_refl _) 1 num ⟨#[]⟩ _ rfl;exact bodyPost_ret (v:=.agg #[.int .i64 1,.int .i64 num,.string ⟨#[]⟩]) (by simp [results,Tryz.results98,go_sem,k0,k1,k2]) rfl ⟨rfl,hE⟩
 . go_enter Tryz.func98,Tryz.ntmps98
   go_wp2_with (go_at_call 94;refine (HA.out _ HR.out).mono ?_;rintro e w1 ⟨rfl,hr,hg⟩;rw [hp];obtain ⟨d0,d1,d2,d3⟩:=hr.cells;have hne1:w1.heap.size≠b:=by omega)
   obtain ⟨HY,HR2,HO2,HV2⟩:=key_mid (HG.out) hg hr HO.out hne;unfold kO at HY HR2 HO2 HV2;go_at_call 133;refine (HH.out _).mono ?_;rintro e w2 ⟨rfl,rfl⟩;rw [show Lib.hasPrefix s1.data.toList (⟨#[34]⟩:ByteArray).data.toList=false from hq];go_wp2_with (go_at_call 136;refine (HI.out _).mono ?_;rintro e wq ⟨rfl,rfl⟩)
   go_wp2_with (go_at_call 120;refine (HN.out _ (hT.below (HW.out _ HY))).mono ?_;rintro e w4 ⟨rfl,hb4⟩;simp only [NmR];have HR4:=HR2.kept hb4;have HO4:=(hb4.block _ (lt_of_block HO2)).trans HO2;have HV4:=(hb4.block _ (lt_of_block HV2)).trans HV2;have HG4:=grown_trans HY (grown_of hb4 (some b));obtain ⟨d0,d1,d2,d3⟩:=HR4.cells;have f1:=d2 1;have f0:=d2 0;have hlt:w.heap.size < w1.heap.size:=(by have:=hg.size;simp [World.size_alloc] at this;omega);obtain ⟨v0,v1,v2,v3,v4⟩:=ko_cells (k:=0) (n:=0) (t:=[]) HV4;have p0:=v3 0;have p1:=v3 1;have p2:=v3 2)
   go_at_call 96;obtain ⟨HR6,HO6,HV6,HG6⟩:=key_put (HR4.set1 _) (ko_kept HO4 (grown_setC w4 ⟨b,1,none⟩ (.bool _)) hne) (ko_kept HV4 (grown_setC w4 ⟨b,1,none⟩ (.bool _)) hne1) (grown_trans HG4 (grown_setC w4 ⟨b,1,none⟩ (.bool _))) hne hne1 hlt 1 num [] [] _ _ rfl;refine (HS.out _ HR6).mono ?_;rintro e w7 ⟨rfl,hr7,hg7⟩;obtain ⟨v0,v1,v2,v3,v4⟩:=ko_cells (ko_kept HV6 hg7 hne1);have HO7:=ko_kept HO6 hg7 hne;obtain ⟨o0,o1,o2,o3,o4⟩:=ko_cells (k:=0) (n:=0) (t:=[]) HO7;have HG7:=grown_trans HG6 hg7;have q0:=o3 0;have q1:=o3 1;have q2:=o3 2;go_wp2
   obtain ⟨⟨k0,k1,k2⟩,hE⟩:=key_end (k:=0) (n:=0) (t:=[]) HO7 hr7 HG7 hne (Nat.le_refl _) 1 num ⟨#[]⟩ _ rfl;exact bodyPost_ret (v:=.agg #[.int .i64 1,.int .i64 num,.string ⟨#[]⟩]) (by simp [results,Tryz.results98,go_sem,k0,k1,k2]) rfl ⟨rfl,hE⟩
 . go_enter Tryz.func98,Tryz.ntmps98
   go_wp2_with (go_at_call 94;refine (HA.out _ HR.out).mono ?_;rintro e w1 ⟨rfl,hr,hg⟩;rw [hp];obtain ⟨d0,d1,d2,d3⟩:=hr.cells;have hne1:w1.heap.size≠b:=by omega)
   obtain ⟨HY,HR2,HO2,HV2⟩:=key_mid (HG.out) hg hr HO.out hne;unfold kO at HY HR2 HO2 HV2;go_at_call 133;refine (HH.out _).mono ?_;rintro e w2 ⟨rfl,rfl⟩;rw [show Lib.hasPrefix s1.data.toList (⟨#[34]⟩:ByteArray).data.toList=false from hq];go_wp2_with (go_at_call 136;refine (HI.out _).mono ?_;rintro e wq ⟨rfl,rfl⟩)
   go_wp2_with (go_at_call 120;refine (HN.out _ (hT.below (HW.out _ HY))).mono ?_;rintro e w4 ⟨rfl,hb4⟩;simp only [NmR];have HR4:=HR2.kept hb4;have HO4:=(hb4.block _ (lt_of_block HO2)).trans HO2;have HV4:=(hb4.block _ (lt_of_block HV2)).trans HV2;have HG4:=grown_trans HY (grown_of hb4 (some b));obtain ⟨d0,d1,d2,d3⟩:=HR4.cells;have f1:=d2 1;have f0:=d2 0;have hlt:w.heap.size < w1.heap.size:=(by have:=hg.size;simp [World.size_alloc] at this;omega);obtain ⟨v0,v1,v2,v3,v4⟩:=ko_cells (k:=0) (n:=0) (t:=[]) HV4;have p0:=v3 0;have p1:=v3 1;have p2:=v3 2)
   go_at_call 96;obtain ⟨HR6,HO6,HV6,HG6⟩:=key_put (HR4.set1 _) (ko_kept HO4 (grown_setC w4 ⟨b,1,none⟩ (.bool _)) hne) (ko_kept HV4 (grown_setC w4 ⟨b,1,none⟩ (.bool _)) hne1) (grown_trans HG4 (grown_setC w4 ⟨b,1,none⟩ (.bool _))) hne hne1 hlt 1 num [] [] _ _ rfl;refine (HS.out _ HR6).mono ?_;rintro e w7 ⟨rfl,hr7,hg7⟩;obtain ⟨v0,v1,v2,v3,v4⟩:=ko_cells (ko_kept HV6 hg7 hne1);have HO7:=ko_kept HO6 hg7 hne;obtain ⟨o0,o1,o2,o3,o4⟩:=ko_cells (k:=0) (n:=0) (t:=[]) HO7;have HG7:=grown_trans HG6 hg7;have q0:=o3 0;have q1:=o3 1;have q2:=o3 2;go_wp2
   obtain ⟨⟨k0,k1,k2⟩,hE⟩:=key_end (k:=0) (n:=0) (t:=[]) HO7 hr7 HG7 hne (Nat.le_refl _) 1 num ⟨#[]⟩ _ rfl;exact bodyPost_ret (v:=.agg #[.int .i64 1,.int .i64 num,.string ⟨#[]⟩]) (by simp [results,Tryz.results98,go_sem,k0,k1,k2]) rfl ⟨rfl,hE⟩
 . go_enter Tryz.func98,Tryz.ntmps98
   go_wp2_with (go_at_call 94;refine (HA.out _ HR.out).mono ?_;rintro e w1 ⟨rfl,hr,hg⟩;rw [hp];obtain ⟨d0,d1,d2,d3⟩:=hr.cells;have hne1:w1.heap.size≠b:=by omega)
   obtain ⟨HY,HR2,HO2,HV2⟩:=key_mid (HG.out) hg hr HO.out hne;unfold kO at HY HR2 HO2 HV2;go_at_call 133;refine (HH.out _).mono ?_;rintro e w2 ⟨rfl,rfl⟩;rw [show Lib.hasPrefix s1.data.toList (⟨#[34]⟩:ByteArray).data.toList=false from hq];go_wp2_with (go_at_call 136;refine (HI.out _).mono ?_;rintro e wq ⟨rfl,rfl⟩)
   go_wp2_with (go_at_call 120;refine (HN.out _ (hT.below (HW.out _ HY))).mono ?_;rintro e w4 ⟨rfl,hb4⟩;simp only [NmR];have HR4:=HR2.kept hb4;have HO4:=(hb4.block _ (lt_of_block HO2)).trans HO2;have HV4:=(hb4.block _ (lt_of_block HV2)).trans HV2;have HG4:=grown_trans HY (grown_of hb4 (some b));obtain ⟨d0,d1,d2,d3⟩:=HR4.cells;have f1:=d2 1;have f0:=d2 0;have hlt:w.heap.size < w1.heap.size:=(by have:=hg.size;simp [World.size_alloc] at this;omega);obtain ⟨v0,v1,v2,v3,v4⟩:=ko_cells (k:=0) (n:=0) (t:=[]) HV4;have p0:=v3 0;have p1:=v3 1;have p2:=v3 2)
   go_at_call 96;obtain ⟨HR6,HO6,HV6,HG6⟩:=key_put (HR4.set1 _) (ko_kept HO4 (grown_setC w4 ⟨b,1,none⟩ (.bool _)) hne) (ko_kept HV4 (grown_setC w4 ⟨b,1,none⟩ (.bool _)) hne1) (grown_trans HG4 (grown_setC w4 ⟨b,1,none⟩ (.bool _))) hne hne1 hlt 1 num [] [] _ _ rfl;refine (HS.out _ HR6).mono ?_;rintro e w7 ⟨rfl,hr7,hg7⟩;obtain ⟨v0,v1,v2,v3,v4⟩:=ko_cells (ko_kept HV6 hg7 hne1);have HO7:=ko_kept HO6 hg7 hne;obtain ⟨o0,o1,o2,o3,o4⟩:=ko_cells (k:=0) (n:=0) (t:=[]) HO7;have HG7:=grown_trans HG6 hg7;have q0:=o3 0;have q1:=o3 1;have q2:=o3 2;go_wp2
   obtain ⟨⟨k0,k1,k2⟩,hE⟩:=key_end (k:=0) (n:=0) (t:=[]) HO7 hr7 HG7 hne (Nat.le_refl _) 1 num ⟨#[]⟩ _ rfl;exact bodyPost_ret (v:=.agg #[.int .i64 1,.int .i64 num,.string ⟨#[]⟩]) (by simp [results,Tryz.results98,go_sem,k0,k1,k2]) rfl ⟨rfl,hE⟩
abbrev KeyT:=Int × Int × List UInt8
def kV (k:KeyT):Value:=.agg #[.int .i64 k.1,.int .i64 k.2.1,.string ⟨k.2.2.toArray⟩]
def skipP (p l:List UInt8) (bad:Bool):List UInt8 × Bool:=(Lib.trimPrefix l p,bad || !Lib.hasPrefix l p)
def keyP (l:List UInt8) (bad:Bool):KeyT × List UInt8 × Bool:=
 if bad=true then ((0,0,[]),l,true)
 else if Lib.hasPrefix l [91]=false then ((0,0,[]),Lib.trimPrefix l [91],false)
 else
  let t:=Lib.trimPrefix l [91]
  if Lib.hasPrefix t [34]=true then
   (if (unqS t).1≠0 then ((0,0,[]),t,true)
   else if quo (unqS t).2.1≠t.take (unqS t).2.2 then ((0,0,[]),t,true)
   else ((2,0,(unqS t).2.1),skipP [93] (t.drop (unqS t).2.2) false))
  else ((1,(numS (t.take (nmAt t))).1,[]),skipP [93] (t.drop (nmAt t)) (decide ((numS (t.take (nmAt t))).2≠0) || decide ((numS (t.take (nmAt t))).1 < 0)))
theorem trim_len (l p:List UInt8):(Lib.trimPrefix l p).length<=l.length:=by unfold Lib.trimPrefix;split <;> simp
theorem cut_size (p:List UInt8) (s:ByteArray):(cutS p s).size<=s.size:=by
 rw [<-size_list,<-size_list s];exact trim_len _ _
theorem ext_arr (s:ByteArray) (n:Nat):s.extract n s.size=⟨(s.data.toList.drop n).toArray⟩:=by
 apply ByteArray.ext;apply Array.toList_inj.mp;rw [extract_list]
theorem key_any (s:ByteArray) (b:Nat) (bad:Bool) (w w0:World) (hT:WT w0) (hB:Below w0.heap.size w0 w) (hb0:w0.heap.size<=b) (hs:s.size<=2000000) (h:Rd b w s bad):Calls Tryz.prog 98 #[.pointer (some ⟨b,0,none⟩)] w fun e w' =>
  e=.returned (kV (keyP s.data.toList bad).1)/\Rd b w' ⟨(keyP s.data.toList bad).2.1.toArray⟩ (keyP s.data.toList bad).2.2/\w.grownBy w' (some b):=by
 cases bad
 case true =>
  refine (key_bad s b w h).mono ?_;rintro e w' ⟨rfl,h1,h2⟩;exact ⟨rfl,h1,h2⟩
 have hK:keyP s.data.toList false=if Lib.hasPrefix s.data.toList [91]=false then ((0,0,[]),Lib.trimPrefix s.data.toList [91],false)
  else
  let t:=Lib.trimPrefix s.data.toList [91]
  if Lib.hasPrefix t [34]=true then
   (if (unqS t).1≠0 then ((0,0,[]),t,true)
   else if quo (unqS t).2.1≠t.take (unqS t).2.2 then ((0,0,[]),t,true)
   else ((2,0,(unqS t).2.1),skipP [93] (t.drop (unqS t).2.2) false))
  else ((1,(numS (t.take (nmAt t))).1,[]),skipP [93] (t.drop (nmAt t)) (decide ((numS (t.take (nmAt t))).2≠0) || decide ((numS (t.take (nmAt t))).1 < 0))):=by
  unfold keyP;rw [if_neg (by simp)]
 cases hp:Lib.hasPrefix s.data.toList [91]
 . rw [hK,if_pos hp]
   refine (key_no s b w h hp).mono ?_;rintro e w' ⟨rfl,h1,h2⟩;exact ⟨rfl,h1,h2⟩
 rw [hK,if_neg (by rw [hp];simp)];have hz:(cutS [91] s).size<=2000000:=Nat.le_trans (cut_size _ _) hs;have ht:(cutS [91] s).data.toList=Lib.trimPrefix s.data.toList [91]:=rfl;simp only;rw [<-ht];generalize hs1:cutS [91] s=s1 at hz ⊢;cases hq:Lib.hasPrefix s1.data.toList [34]
 case false =>
  rw [if_neg (by simp)];refine (key_nu s s1 b w w0 hT hB hb0 hz h hp hs1 _ hq rfl).mono ?_;rintro e w' ⟨rfl,h1,h2⟩;rw [ext_arr] at h1;exact ⟨rfl,h1,h2⟩
 rw [if_pos rfl]
 by_cases he:(unqS s1.data.toList).1=0
 case neg =>
  rw [if_pos he];refine (key_se s s1 b w w0 hT hB hb0 hz h hp hs1 hq he).mono ?_;rintro e w' ⟨rfl,h1,h2⟩;exact ⟨rfl,h1,h2⟩
 rw [if_neg (by simpa using he)]
 by_cases hv:quo (unqS s1.data.toList).2.1=s1.data.toList.take (unqS s1.data.toList).2.2
 case neg =>
  rw [if_pos hv];refine (key_sq s s1 b w w0 hT hB hb0 hz h hp hs1 hq he hv).mono ?_;rintro e w' ⟨rfl,h1,h2⟩;exact ⟨rfl,h1,h2⟩
 rw [if_neg (by simpa using hv)];refine (key_so s s1 b w w0 hT hB hb0 hz h hp hs1 hq he hv).mono ?_;rintro e w' ⟨rfl,h1,h2⟩;rw [ext_arr] at h1;exact ⟨rfl,h1,h2⟩
theorem wrdR_list (s:ByteArray):wrdR s=⟨(s.data.toList.drop (dotN s.data.toList)).toArray⟩:=ext_arr _ _
theorem wrdS_list (s:ByteArray):(wrdS s).data.toList=s.data.toList.take (dotN s.data.toList):=by
 have:=Lib.extract_data s 0 (dotN s.data.toList);unfold wrdS;rw [this];simp
theorem wrdS_arr (s:ByteArray):wrdS s=⟨(s.data.toList.take (dotN s.data.toList)).toArray⟩:=by
 apply ByteArray.ext;apply Array.toList_inj.mp;rw [wrdS_list]
def stepP (l:List UInt8) (bad:Bool):(List UInt8 × KeyT) × List UInt8 × Bool:=
 ((l.take (dotN l),(keyP (l.drop (dotN l)) (bad || !idB (l.take (dotN l)))).1),(keyP (l.drop (dotN l)) (bad || !idB (l.take (dotN l)))).2)
def stV (x:List UInt8 × KeyT):Value:=.agg #[.string ⟨x.1.toArray⟩,.int .i64 x.2.1,.int .i64 x.2.2.1,.string ⟨x.2.2.2.toArray⟩]
def sO (n:List UInt8) (k m:Int) (t:List UInt8):Obj:=.cells #[.string ⟨n.toArray⟩,.int .i64 k,.int .i64 m,.string ⟨t.toArray⟩] 124 (0,0)
theorem so_cells {W:World} {r:Nat} {n t:List UInt8} {k m:Int} (h:W.heap[r]?=some (sO n k m t)):W.cell? ⟨r,0,none⟩=some (.string ⟨n.toArray⟩)/\W.cell? ⟨r,1,none⟩=some (.int .i64 k)/\W.cell? ⟨r,2,none⟩=some (.int .i64 m)/\W.cell? ⟨r,3,none⟩=some (.string ⟨t.toArray⟩)/\(∀ o,W.frozen? ⟨r,o,none⟩=false)/\r < W.heap.size:=by
 unfold sO at h;refine ⟨by unfold World.cell?;simp [h],by unfold World.cell?;simp [h],by unfold World.cell?;simp [h],by unfold World.cell?;simp [h],fun o=>by unfold World.frozen?;simp [h],lt_of_block h⟩
theorem step_mid {w w1:World} {b:Nat} {s:ByteArray} {bad:Bool} (h0:w.grownBy (w.alloc (sO [] 0 0 [])) (some b)) (hg:(w.alloc (sO [] 0 0 [])).grownBy w1 (some b)) (hr:Rd b w1 s bad) (ho:(w.alloc (sO [] 0 0 [])).heap[w.heap.size]?=some (sO [] 0 0 [])) (hne:w.heap.size≠b) (nm:List UInt8) :
  w.grownBy (w1.alloc (sO nm 0 0 [])) (some b)/\Rd b (w1.alloc (sO nm 0 0 [])) s bad/\(w1.alloc (sO nm 0 0 [])).heap[w.heap.size]?=some (sO [] 0 0 [])/\(w1.alloc (sO nm 0 0 [])).heap[w1.heap.size]?=some (sO nm 0 0 []):=by
 have hb:Below w1.heap.size w1 (w1.alloc (sO nm 0 0 [])):=(Below.refl _ _).alloc (Nat.le_refl _) _;have h1:=ko_kept ho hg hne;exact ⟨grown_trans (grown_trans h0 hg) (grown_of hb _),rd_alloc hr _,(hb.block _ (lt_of_block h1)).trans h1,ko_new _ _⟩
theorem step_end {w w1 w4:World} {b:Nat} {s:ByteArray} {bad:Bool} (HO4:w4.heap[w.heap.size]?=some (sO [] 0 0 [])) (HR4:Rd b w4 s bad) (HG4:w.grownBy w4 (some b)) (hne:w.heap.size≠b) (hne1:w1.heap.size≠b) (hlt:w.heap.size < w1.heap.size) (nm:List UInt8) (x:KeyT) (W:World)
  (e:W=((((((w4.setCell ⟨w1.heap.size,1,none⟩ (.int .i64 x.1)).setCell ⟨w1.heap.size,2,none⟩ (.int .i64 x.2.1)).setCell ⟨w1.heap.size,3,none⟩ (.string ⟨x.2.2.toArray⟩)).setCell ⟨w.heap.size,0,none⟩ (.string ⟨nm.toArray⟩)).setCell ⟨w.heap.size,1,none⟩ (.int .i64 x.1)).setCell ⟨w.heap.size,2,none⟩ (.int .i64 x.2.1)).setCell ⟨w.heap.size,3,none⟩ (.string ⟨x.2.2.toArray⟩)) :
  (W.cell? ⟨w.heap.size,0,none⟩=some (.string ⟨nm.toArray⟩)/\W.cell? ⟨w.heap.size,1,none⟩=some (.int .i64 x.1)/\W.cell? ⟨w.heap.size,2,none⟩=some (.int .i64 x.2.1)/\W.cell? ⟨w.heap.size,3,none⟩=some (.string ⟨x.2.2.toArray⟩))/\Rd b W s bad/\w.grownBy W (some b):=by
 have h1:∀ (X:World) (i:Nat) (v:Value),(X.setCell ⟨w1.heap.size,i,none⟩ v).heap[w.heap.size]?=X.heap[w.heap.size]?:=fun X i v=>Below.heap_setCell _ _ _ _ (fun e=>by simp only at e;omega)
 have h2:W.heap[w.heap.size]?=some (sO nm x.1 x.2.1 x.2.2):=by
  have h3:=(h1 _ 3 (.string ⟨x.2.2.toArray⟩)).trans ((h1 _ 2 (.int .i64 x.2.1)).trans (h1 w4 1 (.int .i64 x.1)));rw [HO4] at h3;subst e;generalize ((w4.setCell ⟨w1.heap.size,1,none⟩ (.int .i64 x.1)).setCell ⟨w1.heap.size,2,none⟩ (.int .i64 x.2.1)).setCell ⟨w1.heap.size,3,none⟩ (.string ⟨x.2.2.toArray⟩)=Y at h3;unfold World.setCell sO at *;simp only [Array.getElem?_modify,if_true,h3,Option.map_some];rfl
 obtain ⟨k0,k1,k2,k3,_⟩:=so_cells h2;refine ⟨⟨k0,k1,k2,k3⟩,?_⟩;subst e;have hl:=Nat.le_of_lt hlt
 exact ⟨ko_rd (ko_rd (ko_rd (ko_rd (ko_rd (ko_rd (ko_rd HR4 hne1 _ _) hne1 _ _) hne1 _ _) hne _ _) hne _ _) hne _ _) hne _ _,
  grown_setO (grown_setO (grown_setO (grown_setO (grown_setO (grown_setO (grown_setO HG4 _ _ hl) _ _ hl) _ _ hl) _ _ (Nat.le_refl _)) _ _ (Nat.le_refl _)) _ _ (Nat.le_refl _)) _ _ (Nat.le_refl _)⟩
set_option maxHeartbeats 4000000 in
theorem step_any (s:ByteArray) (b:Nat) (bad:Bool) (w w0:World) (hT:WT w0) (hB:Below w0.heap.size w0 w) (hb0:w0.heap.size<=b) (hs:s.size<=2000000) (h:Rd b w s bad):Calls Tryz.prog 95 #[.pointer (some ⟨b,0,none⟩)] w fun e w' =>
  e=.returned (stV (stepP s.data.toList bad).1)/\Rd b w' ⟨(stepP s.data.toList bad).2.1.toArray⟩ (stepP s.data.toList bad).2.2/\w.grownBy w' (some b):=by
 have HWD:=hid (fun (W:World) (hW:Rd b W s bad)=>word_any s b bad W hs hW)
 have hz:(wrdR s).size<=2000000:=by
  rw [<-size_list,wrdR_list,List.length_drop,size_list];omega
 have HKY:=hid (fun (W:World) (v:Bool) (hg:w.grownBy W (some b)) (hW:Rd b W (wrdR s) v)=>key_any (wrdR s) b v W w0 hT (hB.grown hg hB.size (fun k hk=>by cases hk;exact hb0)) hb0 hz hW);rw [show (wrdR s).data.toList=s.data.toList.drop (dotN s.data.toList) by rw [wrdR_list]] at HKY;rw [show idB (wrdS s).data.toList=idB (s.data.toList.take (dotN s.data.toList)) by rw [wrdS_list],wrdS_arr] at HWD;unfold stepP;have HR:=hid (rd_alloc h (sO [] 0 0 []));have HG:=hid (grown_of ((Below.refl w.heap.size w).alloc (Nat.le_refl _) (sO [] 0 0 [])) (some b));have HO:=hid (show (w.alloc (sO [] 0 0 [])).heap[w.heap.size]?=some (sO [] 0 0 []) from ko_new w _);obtain ⟨c0,c1,c2,c3⟩:=h.cells;have hne:w.heap.size≠b:=by omega
 clear h hz hs;unfold sO at HR HG;generalize s.data.toList.take (dotN s.data.toList)=nm at *;generalize s.data.toList.drop (dotN s.data.toList)=rs at *;go_enter Tryz.func95,Tryz.ntmps95;go_wp2_with (go_at_call 97;refine (HWD.out _ HR.out).mono ?_;rintro e w1 ⟨rfl,hr,hg⟩)
 obtain ⟨HY,HR2,HO2,HV2⟩:=step_mid HG.out hg hr HO.out hne nm;have hlt:w.heap.size < w1.heap.size:=by have:=hg.size;simp [World.size_alloc] at this;omega
 have hne1:w1.heap.size≠b:=by omega
 unfold sO at HY HR2 HO2 HV2;refine (HKY.out _ _ HY HR2).mono ?_;generalize hx:keyP rs (bad || !idB nm)=x;rintro e w4 ⟨rfl,HR4,hg4⟩;have HO4:=ko_kept HO2 hg4 hne;have HV4:=ko_kept HV2 hg4 hne1;have HG4:=grown_trans HY hg4;obtain ⟨v0,v1,v2,v3,vf,v4⟩:=so_cells (n:=nm) (k:=0) (m:=0) (t:=[]) HV4;obtain ⟨o0,o1,o2,o3,of,o4⟩:=so_cells (n:=[]) (k:=0) (m:=0) (t:=[]) HO4;have p0:=vf 0;have p1:=vf 1;have p2:=vf 2;have p3:=vf 3;have q0:=of 0;have q1:=of 1;have q2:=of 2;have q3:=of 3;have hne2:w.heap.size≠w1.heap.size:=by omega
 simp only [kV];go_wp2
 obtain ⟨⟨k0,k1,k2,k3⟩,hE⟩:=step_end HO4 HR4 HG4 hne hne1 hlt nm x.1 _ rfl;exact bodyPost_ret (v:=stV (nm,x.1)) (by simp [results,Tryz.results95,go_sem,k0,k1,k2,k3,stV]) rfl (by rw [hx];exact ⟨rfl,hE⟩)
abbrev MS:=List UInt8 × KeyT
def encM (x:MS):List Value:=[.string ⟨x.1.toArray⟩,.int .i64 x.2.1,.int .i64 x.2.2.1,.string ⟨x.2.2.2.toArray⟩]
theorem encM_len:∀ x,(encM x).length=4:=fun _=>rfl
theorem encM_one:∀ x,∀ u∈encM x,u.oneCell'=true:=fun x u hu=>by
 simp only [encM,List.mem_cons,List.mem_nil_iff,or_false] at hu;rcases hu with rfl | rfl | rfl | rfl <;> rfl
theorem msinfo:(Tryz.prog.info? 124).map (fun i=>(i.zero,i.size,i.bytes))=some (some (.agg #[.string ByteArray.empty,.int .i64 0,.int .i64 0,.string ByteArray.empty]),4,48):=by kernel_rfl
def OwnM (B:Nat) (w:World) (v:Value) (xs:List MS):Prop:=w.ownsRow B 124 4 v xs.length (xs.flatMap encM)
theorem ownM_nil (B:Nat) (w:World):OwnM B w (.slice none 0 0) []:=World.ownsRow_nil w B _ 4
def MoreM (B:Nat) (w:World) (v:Value) (xs:List MS) (H:Nat) (g cap:Nat) (w':World):Prop:=
 OwnM B w' (.slice (some ⟨g,0,none⟩) xs.length cap) xs/\w.grownBy w' v.ownBlock/\(v.ownBlock=some g ∨ g=H)/\g < w'.heap.size
theorem morem_of {B:Nat} {w w':World} {v:Value} {xs:List MS} {y:MS} {H g cap:Nat} (m1:w'.ownsRow B 124 4 (.slice (some ⟨g,0,none⟩) (xs.length+1) cap) (xs ++ [y]).length ((xs ++ [y]).flatMap encM)) (m2:w.grownBy w' v.ownBlock) (m3:v.ownBlock=some g ∨ g=H) (m4:g < w'.heap.size):MoreM B w v (xs ++ [y]) H g cap w':=by
 refine ⟨?_,m2,m3,m4⟩;unfold OwnM;rw [show (xs ++ [y]).length=xs.length+1 by simp] at m1 ⊢;exact m1
def aO (v:Value) (d:Bool) (ty nm:List UInt8) (k:KeyT):Obj:=.cells #[v,.bool d,.string ⟨ty.toArray⟩,.string ⟨nm.toArray⟩,.int .i64 k.1,.int .i64 k.2.1,.string ⟨k.2.2.toArray⟩] 93 (0,0)
theorem ao_cells {W:World} {r:Nat} {v:Value} {d:Bool} {ty nm:List UInt8} {k:KeyT} (h:W.heap[r]?=some (aO v d ty nm k)):W.cell? ⟨r,0,none⟩=some v/\W.cell? ⟨r,1,none⟩=some (.bool d)/\W.cell? ⟨r,2,none⟩=some (.string ⟨ty.toArray⟩)/\W.cell? ⟨r,3,none⟩=some (.string ⟨nm.toArray⟩)/\W.cell? ⟨r,4,none⟩=some (.int .i64 k.1)/\W.cell? ⟨r,5,none⟩=some (.int .i64 k.2.1)/\W.cell? ⟨r,6,none⟩=some (.string ⟨k.2.2.toArray⟩)/\(∀ o,W.frozen? ⟨r,o,none⟩=false)/\r < W.heap.size:=by
 unfold aO at h;refine ⟨by unfold World.cell?;simp [h],by unfold World.cell?;simp [h],by unfold World.cell?;simp [h],by unfold World.cell?;simp [h],by unfold World.cell?;simp [h],by unfold World.cell?;simp [h],by unfold World.cell?;simp [h],fun o=>by unfold World.frozen?;simp [h],lt_of_block h⟩
structure Ps (w:World) (W:World) (l:List UInt8) (bad:Bool) (v:Value) (xs:List MS) (d:Bool) (ty nm:List UInt8) (k:KeyT):Prop where
 rd:Rd (w.heap.size+1) W ⟨l.toArray⟩ bad
 ad:W.heap[w.heap.size+1+1]?=some (aO v d ty nm k)
 re:W.heap[w.heap.size]?=some (aO (.slice none 0 0) false [] [] (0,0,[]))
 own:OwnM (w.heap.size+3) W v xs
 bel:Below w.heap.size w W
 sz:w.heap.size+3<=W.heap.size
theorem Ps.grown {w W W':World} {l l':List UInt8} {bad bad':Bool} {v:Value} {xs:List MS} {d:Bool} {ty nm:List UInt8} {k:KeyT} (h:Ps w W l bad v xs d ty nm k) (hg:W.grownBy W' (some (w.heap.size+1))) (hr:Rd (w.heap.size+1) W' ⟨l'.toArray⟩ bad'):Ps w W' l' bad' v xs d ty nm k:=by
 refine ⟨hr,ko_kept h.ad hg (by omega),ko_kept h.re hg (by omega),kept_off h.own hg (fun g hg2 e=>?_),h.bel.grown hg h.bel.size (fun k hk=>by cases hk;omega),Nat.le_trans h.sz hg.size⟩;rcases h.own.2 with ⟨rfl,_⟩ | ⟨g2,cap,cur,rfl,hb,_⟩
 . simp [Value.ownBlock] at hg2
 . simp [Value.ownBlock] at hg2
   simp at e;omega
theorem Ps.below {w W W':World} {l:List UInt8} {bad:Bool} {v:Value} {xs:List MS} {d:Bool} {ty nm:List UInt8} {k:KeyT} (h:Ps w W l bad v xs d ty nm k) (hb:Below W.heap.size W W'):Ps w W' l bad v xs d ty nm k:=
 h.grown (grown_of hb _) (h.rd.kept hb)
theorem own_far {w W:World} {v:Value} {xs:List MS} (h:OwnM (w.heap.size+3) W v xs):∀ g,v.ownBlock=some g->w.heap.size+3<=g/\g < W.heap.size:=by
 intro g hg;rcases h.2 with ⟨rfl,_⟩ | ⟨g2,cap,cur,rfl,hb,h2,_⟩
 . simp [Value.ownBlock] at hg
 . simp [Value.ownBlock] at hg
   subst hg;exact ⟨hb,lt_of_block h2⟩
theorem Ps.put {w W:World} {l:List UInt8} {bad:Bool} {v v':Value} {xs xs':List MS} {d d':Bool} {ty nm ty' nm':List UInt8} {k k':KeyT} (h:Ps w W l bad v xs d ty nm k) (i:Nat) (u:Value) (e:(W.setCell ⟨w.heap.size+1+1,i,none⟩ u).heap[w.heap.size+1+1]?=some (aO v' d' ty' nm' k')) (ho:OwnM (w.heap.size+3) W v' xs') :
  Ps w (W.setCell ⟨w.heap.size+1+1,i,none⟩ u) l bad v' xs' d' ty' nm' k':=by
 have hne:∀ j,j≠w.heap.size+1+1->(W.setCell ⟨w.heap.size+1+1,i,none⟩ u).heap[j]?=W.heap[j]?:=fun j hj=>Below.heap_setCell _ _ _ _ hj;have hg:=grown_setC W ⟨w.heap.size+1+1,i,none⟩ u;refine ⟨rd_grown h.rd hg (by simp),e,(hne _ (by omega)).trans h.re,kept_off ho hg (fun g hg2 e=>?_),h.bel.grown hg h.bel.size (fun k hk=>by cases hk;show w.heap.size<=w.heap.size+1+1;omega),Nat.le_trans h.sz hg.size⟩;have:=own_far ho g hg2;simp at e;omega
theorem Ps.app {w W W1 W2:World} {l:List UInt8} {bad:Bool} {v:Value} {xs:List MS} {d:Bool} {ty nm:List UInt8} {k:KeyT} (h:Ps w W l bad v xs d ty nm k) (hb:Below W.heap.size W W1) {y:MS} {H g cap:Nat} (hm:MoreM (w.heap.size+3) W1 v (xs ++ [y]) H g cap W2) :
  (W2.cell? ⟨w.heap.size+1+1,0,none⟩=some v/\W2.frozen? ⟨w.heap.size+1+1,0,none⟩=false)/\Ps w (W2.setCell ⟨w.heap.size+1+1,0,none⟩ (.slice (some ⟨g,0,none⟩) (xs ++ [y]).length cap)) l bad (.slice (some ⟨g,0,none⟩) (xs ++ [y]).length cap) (xs ++ [y]) d ty nm k:=by
 have h1:=h.below hb;have hf:=own_far h1.own;have hg:=hm.2.1;have hne:∀ j,j < w.heap.size+3->W2.heap[j]?=W1.heap[j]?:=fun j hj=>hg.block j (Nat.lt_of_lt_of_le hj h1.sz) (fun e=>by have:=(hf j e.symm).1;omega);have had:=(hne _ (by omega)).trans h1.ad;obtain ⟨c0,_,_,_,_,_,_,cf,_⟩:=ao_cells had;have hp2:Ps w W2 l bad (.slice (some ⟨g,0,none⟩) (xs ++ [y]).length cap) (xs ++ [y]) d ty nm k->True:=fun _=>trivial;refine ⟨⟨c0,cf 0⟩,?_⟩;have hrd:Rd (w.heap.size+1) W2 ⟨l.toArray⟩ bad:=(hne _ (by omega)).trans h1.rd;have hre:=(hne _ (by omega)).trans h1.re;have hgs:=grown_setC W2 ⟨w.heap.size+1+1,0,none⟩ (.slice (some ⟨g,0,none⟩) (xs ++ [y]).length cap);have hbel:Below w.heap.size w W2:=h1.bel.grown hg h1.bel.size (fun k hk=>by have:=(hf k hk).1;omega);refine ⟨rd_grown hrd hgs (by simp),?_,ko_kept hre hgs (by simp only;omega),kept_off hm.1 hgs (fun g2 hg2 e=>?_),hbel.grown hgs hbel.size (fun k hk=>by cases hk;show w.heap.size<=w.heap.size+1+1;omega),Nat.le_trans (Nat.le_trans h1.sz hg.size) hgs.size⟩
 . unfold World.setCell aO at *
   simp only [Array.getElem?_modify,if_true,had,Option.map_some];rfl
 . have:=(own_far hm.1 g2 hg2).1
   simp at e;omega
theorem Ps.p1 {w W:World} {l:List UInt8} {bad:Bool} {v:Value} {xs:List MS} {d:Bool} {ty nm:List UInt8} {k:KeyT} (h:Ps w W l bad v xs d ty nm k) (d2:Bool):Ps w (W.setCell ⟨w.heap.size+1+1,1,none⟩ (.bool d2)) l bad v xs d2 ty nm k:=by
 refine h.put 1 (.bool d2) ?_ h.own;have had:=h.ad;unfold World.setCell aO at *;simp only [Array.getElem?_modify,if_true,had,Option.map_some];rfl
theorem Ps.p2 {w W:World} {l:List UInt8} {bad:Bool} {v:Value} {xs:List MS} {d:Bool} {ty nm:List UInt8} {k:KeyT} (h:Ps w W l bad v xs d ty nm k) (s2:List UInt8):Ps w (W.setCell ⟨w.heap.size+1+1,2,none⟩ (.string ⟨s2.toArray⟩)) l bad v xs d s2 nm k:=by
 refine h.put 2 (.string ⟨s2.toArray⟩) ?_ h.own;have had:=h.ad;unfold World.setCell aO at *;simp only [Array.getElem?_modify,if_true,had,Option.map_some];rfl
theorem Ps.p3 {w W:World} {l:List UInt8} {bad:Bool} {v:Value} {xs:List MS} {d:Bool} {ty nm:List UInt8} {k:KeyT} (h:Ps w W l bad v xs d ty nm k) (s2:List UInt8):Ps w (W.setCell ⟨w.heap.size+1+1,3,none⟩ (.string ⟨s2.toArray⟩)) l bad v xs d ty s2 k:=by
 refine h.put 3 (.string ⟨s2.toArray⟩) ?_ h.own;have had:=h.ad;unfold World.setCell aO at *;simp only [Array.getElem?_modify,if_true,had,Option.map_some];rfl
theorem Ps.p4 {w W:World} {l:List UInt8} {bad:Bool} {v:Value} {xs:List MS} {d:Bool} {ty nm:List UInt8} {k:KeyT} (h:Ps w W l bad v xs d ty nm k) (n2:Int):Ps w (W.setCell ⟨w.heap.size+1+1,4,none⟩ (.int .i64 n2)) l bad v xs d ty nm (n2,k.2.1,k.2.2):=by
 refine h.put 4 (.int .i64 n2) ?_ h.own;have had:=h.ad;unfold World.setCell aO at *;simp only [Array.getElem?_modify,if_true,had,Option.map_some];rfl
theorem Ps.p5 {w W:World} {l:List UInt8} {bad:Bool} {v:Value} {xs:List MS} {d:Bool} {ty nm:List UInt8} {k:KeyT} (h:Ps w W l bad v xs d ty nm k) (n2:Int):Ps w (W.setCell ⟨w.heap.size+1+1,5,none⟩ (.int .i64 n2)) l bad v xs d ty nm (k.1,n2,k.2.2):=by
 refine h.put 5 (.int .i64 n2) ?_ h.own;have had:=h.ad;unfold World.setCell aO at *;simp only [Array.getElem?_modify,if_true,had,Option.map_some];rfl
theorem Ps.p6 {w W:World} {l:List UInt8} {bad:Bool} {v:Value} {xs:List MS} {d:Bool} {ty nm:List UInt8} {k:KeyT} (h:Ps w W l bad v xs d ty nm k) (s2:List UInt8):Ps w (W.setCell ⟨w.heap.size+1+1,6,none⟩ (.string ⟨s2.toArray⟩)) l bad v xs d ty nm (k.1,k.2.1,s2):=by
 refine h.put 6 (.string ⟨s2.toArray⟩) ?_ h.own;have had:=h.ad;unfold World.setCell aO at *;simp only [Array.getElem?_modify,if_true,had,Option.map_some];rfl
theorem Ps.fin {w W:World} {l:List UInt8} {bad:Bool} {v:Value} {xs:List MS} {d:Bool} {ty nm:List UInt8} {k:KeyT} (h:Ps w W l bad v xs d ty nm k) (v2:Value) (d2:Bool) (ty2 nm2:List UInt8) (k2:KeyT) (W':World)
  (e:W'=((((((W.setCell ⟨w.heap.size,0,none⟩ v2).setCell ⟨w.heap.size,1,none⟩ (.bool d2)).setCell ⟨w.heap.size,2,none⟩ (.string ⟨ty2.toArray⟩)).setCell ⟨w.heap.size,3,none⟩ (.string ⟨nm2.toArray⟩)).setCell ⟨w.heap.size,4,none⟩ (.int .i64 k2.1)).setCell ⟨w.heap.size,5,none⟩ (.int .i64 k2.2.1)).setCell ⟨w.heap.size,6,none⟩ (.string ⟨k2.2.2.toArray⟩)) :
  W'.heap[w.heap.size]?=some (aO v2 d2 ty2 nm2 k2)/\OwnM (w.heap.size+3) W' v xs/\Below w.heap.size w W':=by
 subst e;have hre:=h.re;have hg:=grown_trans (grown_trans (grown_trans (grown_trans (grown_trans (grown_trans (grown_setC W ⟨w.heap.size,0,none⟩ v2) (grown_setC _ ⟨w.heap.size,1,none⟩ (.bool d2))) (grown_setC _ ⟨w.heap.size,2,none⟩ (.string ⟨ty2.toArray⟩))) (grown_setC _ ⟨w.heap.size,3,none⟩ (.string ⟨nm2.toArray⟩))) (grown_setC _ ⟨w.heap.size,4,none⟩ (.int .i64 k2.1))) (grown_setC _ ⟨w.heap.size,5,none⟩ (.int .i64 k2.2.1))) (grown_setC _ ⟨w.heap.size,6,none⟩ (.string ⟨k2.2.2.toArray⟩));refine ⟨?_,kept_off h.own hg (fun g hg2 e=>?_),h.bel.grown hg h.bel.size (fun k hk=>by cases hk;exact Nat.le_refl _)⟩
 . unfold World.setCell aO at *
   simp only [Array.getElem?_modify,if_true,hre,Option.map_some];rfl
 . have:=(own_far h.own g hg2).1
   simp at e;omega
theorem Ps.start (w:World) (s:ByteArray):Ps w (((w.alloc (aO (.slice none 0 0) false [] [] (0,0,[]))).alloc (.cells #[.string s,.bool false] 122)).alloc (aO (.slice none 0 0) false [] [] (0,0,[]))) s.data.toList false (.slice none 0 0) [] false [] [] (0,0,[]):=by
 have hb1:Below w.heap.size w (w.alloc (aO (.slice none 0 0) false [] [] (0,0,[]))):=(Below.refl _ _).alloc (Nat.le_refl _) _;have n1:=ko_new w (aO (.slice none 0 0) false [] [] (0,0,[]));have s1:(w.alloc (aO (.slice none 0 0) false [] [] (0,0,[]))).heap.size=w.heap.size+1:=by simp [World.size_alloc]
 generalize w.alloc (aO (.slice none 0 0) false [] [] (0,0,[]))=w1 at *;have hb2:Below w1.heap.size w1 (w1.alloc (.cells #[.string s,.bool false] 122)):=(Below.refl _ _).alloc (Nat.le_refl _) _;have n2:=ko_new w1 (.cells #[.string s,.bool false] 122);have s2:(w1.alloc (.cells #[.string s,.bool false] 122)).heap.size=w1.heap.size+1:=by simp [World.size_alloc]
 have m1:=(hb2.block _ (lt_of_block n1)).trans n1;generalize w1.alloc (.cells #[.string s,.bool false] 122)=w2 at *;have hb3:Below w2.heap.size w2 (w2.alloc (aO (.slice none 0 0) false [] [] (0,0,[]))):=(Below.refl _ _).alloc (Nat.le_refl _) _;have n3:=ko_new w2 (aO (.slice none 0 0) false [] [] (0,0,[]));have s3:(w2.alloc (aO (.slice none 0 0) false [] [] (0,0,[]))).heap.size=w2.heap.size+1:=by simp [World.size_alloc]
 have m2:=(hb3.block _ (lt_of_block m1)).trans m1;have m3:=(hb3.block _ (lt_of_block n2)).trans n2;generalize w2.alloc (aO (.slice none 0 0) false [] [] (0,0,[]))=w3 at *;rw [s2,s1] at n3;rw [s1] at m3;refine ⟨?_,n3,m2,ownM_nil _ _,(hb1.trans (hb2.mono (by omega))).trans (hb3.mono (by omega)),by omega⟩;unfold Rd;simpa using m3
def MODP:List UInt8:=[109,111,100,117,108,101,46]
def DATP:List UInt8:=[100,97,116,97,46]
def modsP:Nat->List UInt8->Bool->List MS × List UInt8 × Bool
 | 0,l,bad=>([],l,bad)
 | n+1,l,bad=>if bad=true then ([],l,true) else if Lib.hasPrefix l MODP=false then ([],Lib.trimPrefix l MODP,false)
   else ((stepP (Lib.trimPrefix l MODP) false).1 :: (modsP n (skipP [46] (stepP (Lib.trimPrefix l MODP) false).2.1 (stepP (Lib.trimPrefix l MODP) false).2.2).1 (skipP [46] (stepP (Lib.trimPrefix l MODP) false).2.1 (stepP (Lib.trimPrefix l MODP) false).2.2).2).1,
    (modsP n (skipP [46] (stepP (Lib.trimPrefix l MODP) false).2.1 (stepP (Lib.trimPrefix l MODP) false).2.2).1 (skipP [46] (stepP (Lib.trimPrefix l MODP) false).2.1 (stepP (Lib.trimPrefix l MODP) false).2.2).2).2)
theorem trim_lt {l p:List UInt8} (h:Lib.hasPrefix l p=true) (hp:1<=p.length) (hl:p.length<=l.length):(Lib.trimPrefix l p).length < l.length:=by
 unfold Lib.trimPrefix;rw [if_pos h,List.length_drop];omega
theorem keyP_len (l:List UInt8) (bad:Bool):(keyP l bad).2.1.length<=l.length:=by
 unfold keyP;split
 . simp
 . split
   . exact trim_len _ _
   . have:=trim_len l [91]
     generalize Lib.trimPrefix l [91]=t at this ⊢;simp only;split
     . split
       . simpa using this
       . split
         . simpa using this
         . simp only [skipP]
           refine Nat.le_trans (trim_len _ _) ?_;rw [List.length_drop];omega
     . simp only [skipP]
       refine Nat.le_trans (trim_len _ _) ?_;rw [List.length_drop];omega
theorem stepP_len (l:List UInt8) (bad:Bool):(stepP l bad).2.1.length<=l.length:=by
 unfold stepP;refine Nat.le_trans (keyP_len _ _) ?_;rw [List.length_drop];omega
theorem hp_len {l p:List UInt8} (h:Lib.hasPrefix l p=true):p.length<=l.length:=by
 rw [<-Lib.hasPrefix_of_take] at h;simp only [Bool.and_eq_true,decide_eq_true_eq] at h;exact h.1
structure TlT where
 d:Bool
 ty:List UInt8
 nm:List UInt8
 k:KeyT
 l:List UInt8
 bad:Bool
def tlP (l:List UInt8) (bad:Bool):TlT:=
 let l1:=Lib.trimPrefix l DATP;let ty:=l1.take (dotN l1);let y:=skipP [46] (l1.drop (dotN l1)) (bad || !idB ty);let nm:=y.1.take (dotN y.1);let z:=keyP (y.1.drop (dotN y.1)) (y.2 || !idB nm)
 ⟨Lib.hasPrefix l DATP,ty,nm,z.1,z.2.1,z.2.2⟩
theorem modsP_bad (n:Nat) (l:List UInt8):modsP (n+1) l true=([],l,true):=by unfold modsP;rw [if_pos rfl]
theorem modsP_no (n:Nat) (l:List UInt8) (h:Lib.hasPrefix l MODP=false):modsP (n+1) l false=([],Lib.trimPrefix l MODP,false):=by unfold modsP;rw [if_neg (by simp),if_pos h]
theorem modsP_yes (n:Nat) (l:List UInt8) (h:Lib.hasPrefix l MODP=true):modsP (n+1) l false=((stepP (Lib.trimPrefix l MODP) false).1 :: (modsP n (skipP [46] (stepP (Lib.trimPrefix l MODP) false).2.1 (stepP (Lib.trimPrefix l MODP) false).2.2).1 (skipP [46] (stepP (Lib.trimPrefix l MODP) false).2.1 (stepP (Lib.trimPrefix l MODP) false).2.2).2).1,
  (modsP n (skipP [46] (stepP (Lib.trimPrefix l MODP) false).2.1 (stepP (Lib.trimPrefix l MODP) false).2.2).1 (skipP [46] (stepP (Lib.trimPrefix l MODP) false).2.1 (stepP (Lib.trimPrefix l MODP) false).2.2).2).2):=by
 conv=>lhs;unfold modsP
 rw [if_neg (by simp),if_neg (by rw [h];simp)]
def cellD (w:World) (a:Addr):Value:=(w.cell? a).getD undef
theorem cellD_eq {W:World} {a:Addr} {v:Value} (h:W.cell? a=some v):cellD W a=v:=by unfold cellD;rw [h];rfl
theorem arr_size (l:List UInt8):(⟨l.toArray⟩:ByteArray).size=l.length:=by show l.toArray.size=_;simp
def kdB (ty:List UInt8):Bool:=idB ty && !rsv ty
def parE (xs:List MS) (t:TlT):Int:=if t.bad=true ∨ t.l≠[] ∨ kdB t.ty=false then 2 else if 16 < xs.length then 4 else 0
theorem parE4 {xs:List MS} {d:Bool} {ty nm:List UInt8} {k:KeyT} (hk:kdB ty=true) (hx:decide ((16:Int) < (xs.length:Int))=true):parE xs ⟨d,ty,nm,k,[],false⟩=4:=by
 have:=of_decide_eq_true hx;unfold parE;rw [if_neg (by simp [hk]),if_pos (by omega)]
theorem parE0 {xs:List MS} {d:Bool} {ty nm:List UInt8} {k:KeyT} (hk:kdB ty=true) (hx:decide ((16:Int) < (xs.length:Int))=false):parE xs ⟨d,ty,nm,k,[],false⟩=0:=by
 have:=of_decide_eq_false hx;unfold parE;rw [if_neg (by simp [hk]),if_neg (by omega)]
def adV (v:Value) (t:TlT):Value:=.agg #[v,.bool t.d,.string ⟨t.ty.toArray⟩,.string ⟨t.nm.toArray⟩,.int .i64 t.k.1,.int .i64 t.k.2.1,.string ⟨t.k.2.2.toArray⟩]
def ad0:Value:=.agg #[.slice none 0 0,.bool false,.string ⟨#[]⟩,.string ⟨#[]⟩,.int .i64 0,.int .i64 0,.string ⟨#[]⟩]
def ParR (w:World) (X:List MS × List UInt8 × Bool) (e:Ending) (w':World):Prop:=
 (if parE X.1 (tlP X.2.1 X.2.2)=0 then ∃ v,e=.returned (.tuple #[adV v (tlP X.2.1 X.2.2),.int .i64 0])/\OwnM (w.heap.size+3) w' v X.1 else e=.returned (.tuple #[ad0,.int .i64 (parE X.1 (tlP X.2.1 X.2.2))]))/\Below w.heap.size w w'
theorem tl_con (w:World) (hT:WT w) (l0:List UInt8) (b0:Bool) (hl:l0.length<=2000000):∃ (d:Bool) (l1 ty l2:List UInt8) (b2:Bool) (l3:List UInt8) (b3:Bool) (nm l4:List UInt8) (b4:Bool) (k:KeyT) (l5:List UInt8) (b5:Bool),tlP l0 b0=⟨d,ty,nm,k,l5,b5⟩/\ty.length<=2000000/\l5.length<=2000000 /\
  (∀ W,Rd (w.heap.size+1) W ⟨l0.toArray⟩ b0->Calls Tryz.prog 94 #[.pointer (some ⟨w.heap.size+1,0,none⟩),.string ⟨#[100,97,116,97,46]⟩] W fun e w'=>e=.returned (.bool d)/\Rd (w.heap.size+1) w' ⟨l1.toArray⟩ b0/\W.grownBy w' (some (w.heap.size+1))) /\
  (∀ W,Rd (w.heap.size+1) W ⟨l1.toArray⟩ b0->Calls Tryz.prog 97 #[.pointer (some ⟨w.heap.size+1,0,none⟩)] W fun e w'=>e=.returned (.string ⟨ty.toArray⟩)/\Rd (w.heap.size+1) w' ⟨l2.toArray⟩ b2/\W.grownBy w' (some (w.heap.size+1))) /\
  (∀ W,Rd (w.heap.size+1) W ⟨l2.toArray⟩ b2->Calls Tryz.prog 96 #[.pointer (some ⟨w.heap.size+1,0,none⟩),.string ⟨#[46]⟩] W fun e w'=>e=.returned (.tuple #[])/\Rd (w.heap.size+1) w' ⟨l3.toArray⟩ b3/\W.grownBy w' (some (w.heap.size+1))) /\
  (∀ W,Rd (w.heap.size+1) W ⟨l3.toArray⟩ b3->Calls Tryz.prog 97 #[.pointer (some ⟨w.heap.size+1,0,none⟩)] W fun e w'=>e=.returned (.string ⟨nm.toArray⟩)/\Rd (w.heap.size+1) w' ⟨l4.toArray⟩ b4/\W.grownBy w' (some (w.heap.size+1))) /\
  (∀ W,Below w.heap.size w W->Rd (w.heap.size+1) W ⟨l4.toArray⟩ b4->Calls Tryz.prog 98 #[.pointer (some ⟨w.heap.size+1,0,none⟩)] W fun e w'=>e=.returned (kV k)/\Rd (w.heap.size+1) w' ⟨l5.toArray⟩ b5/\W.grownBy w' (some (w.heap.size+1))):=by
 have hlen1:(Lib.trimPrefix l0 DATP).length<=2000000:=Nat.le_trans (trim_len _ _) hl
 have word:∀ (l:List UInt8) (b:Bool) (h:l.length<=2000000) (W:World),Rd (w.heap.size+1) W ⟨l.toArray⟩ b->Calls Tryz.prog 97 #[.pointer (some ⟨w.heap.size+1,0,none⟩)] W fun e w'=>e=.returned (.string ⟨(l.take (dotN l)).toArray⟩)/\Rd (w.heap.size+1) w' ⟨(l.drop (dotN l)).toArray⟩ (b || !idB (l.take (dotN l)))/\W.grownBy w' (some (w.heap.size+1)):=by
  intro l b h W hW;have h2:=word_any ⟨l.toArray⟩ (w.heap.size+1) b W (by rw [arr_size];exact h) hW;rw [show idB (wrdS ⟨l.toArray⟩).data.toList=idB (l.take (dotN l)) by rw [wrdS_list],wrdS_arr,wrdR_list] at h2;exact h2
 generalize hl1:Lib.trimPrefix l0 DATP=l1 at hlen1;have hlen2:(l1.drop (dotN l1)).length<=2000000:=by rw [List.length_drop];omega
 have hlen2':(l1.take (dotN l1)).length<=2000000:=by rw [List.length_take];omega
 have hsk:=trim_len (l1.drop (dotN l1)) [46];generalize hy:skipP [46] (l1.drop (dotN l1)) (b0 || !idB (l1.take (dotN l1)))=y;have hlen3:y.1.length<=2000000:=by rw [<-hy];exact Nat.le_trans hsk hlen2
 have hlen4:(y.1.drop (dotN y.1)).length<=2000000:=by rw [List.length_drop];omega
 generalize hz:keyP (y.1.drop (dotN y.1)) (y.2 || !idB (y.1.take (dotN y.1)))=z;have hlen5:z.2.1.length<=2000000:=by rw [<-hz];exact Nat.le_trans (keyP_len _ _) hlen4
 refine ⟨Lib.hasPrefix l0 DATP,l1,l1.take (dotN l1),l1.drop (dotN l1),b0 || !idB (l1.take (dotN l1)),y.1,y.2,y.1.take (dotN y.1),y.1.drop (dotN y.1),y.2 || !idB (y.1.take (dotN y.1)),z.1,z.2.1,z.2.2,?_,hlen2',hlen5,?_,?_,?_,?_,?_⟩
 . unfold tlP;simp only [hl1,hy,hz]
 . intro W hW
   have h2:=has_any ⟨#[100,97,116,97,46]⟩ ⟨l0.toArray⟩ (w.heap.size+1) b0 W hW;rw [show cutS (⟨#[100,97,116,97,46]⟩:ByteArray).data.toList ⟨l0.toArray⟩=⟨l1.toArray⟩ from by rw [<-hl1];rfl] at h2;exact h2
 . exact word l1 b0 hlen1
 . intro W hW
   have h2:=skip_any ⟨#[46]⟩ ⟨(l1.drop (dotN l1)).toArray⟩ (w.heap.size+1) _ W hW;rw [show cutS (⟨#[46]⟩:ByteArray).data.toList ⟨(l1.drop (dotN l1)).toArray⟩=⟨y.1.toArray⟩ from by rw [<-hy];rfl,show (b0 || !idB (l1.take (dotN l1)) || !hasP (⟨#[46]⟩:ByteArray).data.toList ⟨(l1.drop (dotN l1)).toArray⟩)=y.2 from by rw [<-hy];rfl] at h2;exact h2
 . exact word y.1 y.2 hlen3
 . intro W hB hW
   have h2:=key_any ⟨(y.1.drop (dotN y.1)).toArray⟩ (w.heap.size+1) _ W w hT hB (by omega) (by rw [arr_size];exact hlen4) hW;rw [show keyP (⟨(y.1.drop (dotN y.1)).toArray⟩:ByteArray).data.toList (y.2 || !idB (y.1.take (dotN y.1)))=z from hz] at h2;exact h2
set_option maxHeartbeats 4000000 in
theorem parse_any (s:ByteArray) (w:World) (hT:WT w) (hs:s.size<=2000000):Calls Tryz.prog 52 #[.string s] w fun e w'=>ParR w (modsP (s.size+1) s.data.toList false) e w':=by
 have HS:=hid (Ps.start w s);obtain ⟨X,hX⟩:∃ X,modsP (s.size+1) s.data.toList false=X:=⟨_,rfl⟩;have HX:=hid hX;rw [hX];clear hX;have hl:=size_list s;unfold aO at HS;have HB:=hid (Below.refl w.heap.size w);have HTT:=hid hT;clear hT;go_enter Tryz.func52,Tryz.ntmps52;go_wp2
 go_loopg [] (s.size+1) (fun gg wr=>∃ (l:List UInt8) (bad:Bool) (v:Value) (xs:List MS),l.length < gg/\l.length<=s.size/\xs.length+l.length<=s.size/\Hid (Ps w wr l bad v xs false [] [] (0,0,[]))/\Hid ((xs ++ (modsP gg l bad).1,(modsP gg l bad).2)=X))
 case atStart=>exact ⟨s.data.toList,false,.slice none 0 0,[],by omega,by omega,by rw [List.length_nil];omega,HS,hid (by rw [<-HX.out];rfl)⟩
 case round =>
  clear HS HX HB;obtain ⟨l,bad,v,xs,h1,h2,h3,HP,HM⟩:=hrel;obtain ⟨n,rfl⟩:∃ n,gk=n+1:=⟨gk - 1,by omega⟩;obtain ⟨c0,c1,c2,c3⟩:=HP.out.rd.cells;cases bad
  case true =>
   have HXE:=hid (show X=(xs,l,true) by rw [<-HM.out,modsP_bad];simp);clear HM;have hl0:l.length<=2000000:=by omega
   clear h1 h2 h3 hl;obtain ⟨d,l1,ty,l2,b2,l3,b3,nm,l4,b4,k,l5,b5,HTL,hty,hl5,HC1,HC2,HC3,HC4,HC5⟩:=tl_con w HTT.out l true hl0;obtain ⟨rv,cv,hv,_,_⟩:=own_form HP.out.own;subst hv;replace HTL:=hid HTL;replace HC1:=hid HC1;replace HC2:=hid HC2;replace HC3:=hid HC3;replace HC4:=hid HC4;replace HC5:=hid HC5;have HLL:=hid (And.intro hty hl5);clear hty hl5 hl0;go_wp2_with (go_at_call 94;have hh:=HC1.out _ HP.out.rd;refine Calls.mono hh ?_;clear hh;rintro e w7 ⟨rfl,hr,hg⟩;have P7:=hid (HP.out.grown hg hr);clear hr hg;have a1:=(ao_cells P7.out.ad).2.1;have f1:=(ao_cells P7.out.ad).2.2.2.2.2.2.2.1 1)
   have P8:=hid (P7.out.p1 d);go_wp2_with (go_at_call 97;have hh:=HC2.out _ P8.out.rd;refine Calls.mono hh ?_;clear hh;rintro e w9 ⟨rfl,hr,hg⟩;have P9:=hid (P8.out.grown hg hr);clear hr hg;have a2:=(ao_cells P9.out.ad).2.2.1;have f2:=(ao_cells P9.out.ad).2.2.2.2.2.2.2.1 2)
   have P10:=hid (P9.out.p2 ty);go_wp2_with (go_at_call 96;have hh:=HC3.out _ P10.out.rd;refine Calls.mono hh ?_;clear hh;rintro e w11 ⟨rfl,hr,hg⟩;have P11:=hid (P10.out.grown hg hr);clear hr hg)
   go_wp2_with (go_at_call 97;have hh:=HC4.out _ P11.out.rd;refine Calls.mono hh ?_;clear hh;rintro e w12 ⟨rfl,hr,hg⟩;have P12:=hid (P11.out.grown hg hr);clear hr hg;have a3:=(ao_cells P12.out.ad).2.2.2.1;have f3:=(ao_cells P12.out.ad).2.2.2.2.2.2.2.1 3)
   have P13:=hid (P12.out.p3 nm);have HKD:=hid (fun (W:World)=>pkind_any ⟨ty.toArray⟩ W (by rw [arr_size];exact HLL.out.1));rw [show (idB (⟨ty.toArray⟩:ByteArray).data.toList && !rsv (⟨ty.toArray⟩:ByteArray).data.toList)=kdB ty from rfl] at HKD;have HPE:=hid (show parE xs (tlP l true)=_ from rfl);rw [HTL.out] at HPE
   have hfin:(b5=true) ∨ (b5=false/\(l5 == [])=false) ∨ (b5=false/\l5=[]/\kdB ty=false) ∨ (b5=false/\l5=[]/\kdB ty=true/\decide ((16:Int) < (xs.length:Int))=true) ∨ (b5=false/\l5=[]/\kdB ty=true/\decide ((16:Int) < (xs.length:Int))=false):=by
    cases b5 <;> cases l5 <;> cases kdB ty <;> cases decide ((16:Int) < (xs.length:Int)) <;> simp
   clear HPE;rcases hfin with rfl | ⟨rfl,hl5⟩ | ⟨rfl,rfl,hk⟩ | ⟨rfl,rfl,hk,hx⟩ | ⟨rfl,rfl,hk,hx⟩
   . go_wp2_with (go_at_call 98;have hh:=HC5.out _ P13.out.bel P13.out.rd;refine Calls.mono hh ?_;clear hh;rintro e w14 ⟨rfl,hr,hg⟩;have P14:=hid (P13.out.grown hg hr);clear hr hg;have a0:=(ao_cells P14.out.ad).1;have f0:=(ao_cells P14.out.ad).2.2.2.2.2.2.2.1 0;have a1:=(ao_cells P14.out.ad).2.1;have f1:=(ao_cells P14.out.ad).2.2.2.2.2.2.2.1 1;have a2:=(ao_cells P14.out.ad).2.2.1;have f2:=(ao_cells P14.out.ad).2.2.2.2.2.2.2.1 2;have a4:=(ao_cells P14.out.ad).2.2.2.2.1;have f4:=(ao_cells P14.out.ad).2.2.2.2.2.2.2.1 4;have a5:=(ao_cells P14.out.ad).2.2.2.2.2.1;have f5:=(ao_cells P14.out.ad).2.2.2.2.2.2.2.1 5;have a6:=(ao_cells P14.out.ad).2.2.2.2.2.2.1;have f6:=(ao_cells P14.out.ad).2.2.2.2.2.2.2.1 6;have r0:=P14.out.rd.cells.1;have r1:=P14.out.rd.cells.2.1;obtain ⟨e0,e1,e2,e3,e4,e5,e6,ef,_⟩:=ao_cells P14.out.re;have g0:=ef 0;have g1:=ef 1;have g2:=ef 2;have g3:=ef 3;have g4:=ef 4;have g5:=ef 5;have g6:=ef 6;have a3:=(ao_cells P14.out.ad).2.2.2.1;simp only [kV])
     have P15:=hid (((P14.out.p4 k.1).p5 k.2.1).p6 k.2.2);obtain ⟨hb,ho,hbel⟩:=P15.out.fin (.slice none 0 0) false [] [] (0,0,[]) _ rfl;obtain ⟨k0,k1,k2,k3,k4,k5,k6,_,_⟩:=ao_cells hb;exact bodyPost_ret (v:=.tuple #[ad0,.int .i64 2]) (by simp [results,Tryz.results52,go_sem,k0,k1,k2,k3,k4,k5,k6,ad0]) rfl (by rw [HXE.out];unfold ParR;simp only;rw [HTL.out];exact ⟨by simp_all [parE],hbel⟩)
   . go_wp2_with (go_at_call 98;have hh:=HC5.out _ P13.out.bel P13.out.rd;refine Calls.mono hh ?_;clear hh;rintro e w14 ⟨rfl,hr,hg⟩;have P14:=hid (P13.out.grown hg hr);clear hr hg;have a0:=(ao_cells P14.out.ad).1;have f0:=(ao_cells P14.out.ad).2.2.2.2.2.2.2.1 0;have a1:=(ao_cells P14.out.ad).2.1;have f1:=(ao_cells P14.out.ad).2.2.2.2.2.2.2.1 1;have a2:=(ao_cells P14.out.ad).2.2.1;have f2:=(ao_cells P14.out.ad).2.2.2.2.2.2.2.1 2;have a4:=(ao_cells P14.out.ad).2.2.2.2.1;have f4:=(ao_cells P14.out.ad).2.2.2.2.2.2.2.1 4;have a5:=(ao_cells P14.out.ad).2.2.2.2.2.1;have f5:=(ao_cells P14.out.ad).2.2.2.2.2.2.2.1 5;have a6:=(ao_cells P14.out.ad).2.2.2.2.2.2.1;have f6:=(ao_cells P14.out.ad).2.2.2.2.2.2.2.1 6;have r0:=P14.out.rd.cells.1;have r1:=P14.out.rd.cells.2.1;obtain ⟨e0,e1,e2,e3,e4,e5,e6,ef,_⟩:=ao_cells P14.out.re;have g0:=ef 0;have g1:=ef 1;have g2:=ef 2;have g3:=ef 3;have g4:=ef 4;have g5:=ef 5;have g6:=ef 6;have a3:=(ao_cells P14.out.ad).2.2.2.1;simp only [kV])
     have P15:=hid (((P14.out.p4 k.1).p5 k.2.1).p6 k.2.2);obtain ⟨hb,ho,hbel⟩:=P15.out.fin (.slice none 0 0) false [] [] (0,0,[]) _ rfl;obtain ⟨k0,k1,k2,k3,k4,k5,k6,_,_⟩:=ao_cells hb;exact bodyPost_ret (v:=.tuple #[ad0,.int .i64 2]) (by simp [results,Tryz.results52,go_sem,k0,k1,k2,k3,k4,k5,k6,ad0]) rfl (by rw [HXE.out];unfold ParR;simp only;rw [HTL.out];exact ⟨by simp_all [parE],hbel⟩)
   . rw [hk] at HKD
     go_wp2_with (first | (go_at_call 98;have hh:=HC5.out _ P13.out.bel P13.out.rd;refine Calls.mono hh ?_;clear hh;rintro e w14 ⟨rfl,hr,hg⟩;have P14:=hid (P13.out.grown hg hr);clear hr hg;have a0:=(ao_cells P14.out.ad).1;have f0:=(ao_cells P14.out.ad).2.2.2.2.2.2.2.1 0;have a1:=(ao_cells P14.out.ad).2.1;have f1:=(ao_cells P14.out.ad).2.2.2.2.2.2.2.1 1;have a2:=(ao_cells P14.out.ad).2.2.1;have f2:=(ao_cells P14.out.ad).2.2.2.2.2.2.2.1 2;have a4:=(ao_cells P14.out.ad).2.2.2.2.1;have f4:=(ao_cells P14.out.ad).2.2.2.2.2.2.2.1 4;have a5:=(ao_cells P14.out.ad).2.2.2.2.2.1;have f5:=(ao_cells P14.out.ad).2.2.2.2.2.2.2.1 5;have a6:=(ao_cells P14.out.ad).2.2.2.2.2.2.1;have f6:=(ao_cells P14.out.ad).2.2.2.2.2.2.2.1 6;have r0:=P14.out.rd.cells.1;have r1:=P14.out.rd.cells.2.1;obtain ⟨e0,e1,e2,e3,e4,e5,e6,ef,_⟩:=ao_cells P14.out.re;have g0:=ef 0;have g1:=ef 1;have g2:=ef 2;have g3:=ef 3;have g4:=ef 4;have g5:=ef 5;have g6:=ef 6;have a3:=(ao_cells P14.out.ad).2.2.2.1;simp only [kV]) | (go_at_call 99;refine (HKD.out _).mono ?_;rintro e wk ⟨rfl,rfl⟩))
     have P15:=hid (((P14.out.p4 k.1).p5 k.2.1).p6 k.2.2);obtain ⟨hb,ho,hbel⟩:=P15.out.fin (.slice none 0 0) false [] [] (0,0,[]) _ rfl;obtain ⟨k0,k1,k2,k3,k4,k5,k6,_,_⟩:=ao_cells hb;exact bodyPost_ret (v:=.tuple #[ad0,.int .i64 2]) (by simp [results,Tryz.results52,go_sem,k0,k1,k2,k3,k4,k5,k6,ad0]) rfl (by rw [HXE.out];unfold ParR;simp only;rw [HTL.out];exact ⟨by simp_all [parE],hbel⟩)
   . rw [hk] at HKD
     go_wp2_with (first | (go_at_call 98;have hh:=HC5.out _ P13.out.bel P13.out.rd;refine Calls.mono hh ?_;clear hh;rintro e w14 ⟨rfl,hr,hg⟩;have P14:=hid (P13.out.grown hg hr);clear hr hg;have a0:=(ao_cells P14.out.ad).1;have f0:=(ao_cells P14.out.ad).2.2.2.2.2.2.2.1 0;have a1:=(ao_cells P14.out.ad).2.1;have f1:=(ao_cells P14.out.ad).2.2.2.2.2.2.2.1 1;have a2:=(ao_cells P14.out.ad).2.2.1;have f2:=(ao_cells P14.out.ad).2.2.2.2.2.2.2.1 2;have a4:=(ao_cells P14.out.ad).2.2.2.2.1;have f4:=(ao_cells P14.out.ad).2.2.2.2.2.2.2.1 4;have a5:=(ao_cells P14.out.ad).2.2.2.2.2.1;have f5:=(ao_cells P14.out.ad).2.2.2.2.2.2.2.1 5;have a6:=(ao_cells P14.out.ad).2.2.2.2.2.2.1;have f6:=(ao_cells P14.out.ad).2.2.2.2.2.2.2.1 6;have r0:=P14.out.rd.cells.1;have r1:=P14.out.rd.cells.2.1;obtain ⟨e0,e1,e2,e3,e4,e5,e6,ef,_⟩:=ao_cells P14.out.re;have g0:=ef 0;have g1:=ef 1;have g2:=ef 2;have g3:=ef 3;have g4:=ef 4;have g5:=ef 5;have g6:=ef 6;have a3:=(ao_cells P14.out.ad).2.2.2.1;simp only [kV]) | (go_at_call 99;refine (HKD.out _).mono ?_;rintro e wk ⟨rfl,rfl⟩))
     have P15:=hid (((P14.out.p4 k.1).p5 k.2.1).p6 k.2.2);obtain ⟨hb,ho,hbel⟩:=P15.out.fin (.slice none 0 0) false [] [] (0,0,[]) _ rfl;obtain ⟨k0,k1,k2,k3,k4,k5,k6,_,_⟩:=ao_cells hb;exact bodyPost_ret (v:=.tuple #[ad0,.int .i64 4]) (by simp [results,Tryz.results52,go_sem,k0,k1,k2,k3,k4,k5,k6,ad0]) rfl (by rw [HXE.out];unfold ParR;simp only;rw [HTL.out];exact ⟨by rw [parE4 hk hx];rfl,hbel⟩)
   . rw [hk] at HKD
     go_wp2_with (first | (go_at_call 98;have hh:=HC5.out _ P13.out.bel P13.out.rd;refine Calls.mono hh ?_;clear hh;rintro e w14 ⟨rfl,hr,hg⟩;have P14:=hid (P13.out.grown hg hr);clear hr hg;have a0:=(ao_cells P14.out.ad).1;have f0:=(ao_cells P14.out.ad).2.2.2.2.2.2.2.1 0;have a1:=(ao_cells P14.out.ad).2.1;have f1:=(ao_cells P14.out.ad).2.2.2.2.2.2.2.1 1;have a2:=(ao_cells P14.out.ad).2.2.1;have f2:=(ao_cells P14.out.ad).2.2.2.2.2.2.2.1 2;have a4:=(ao_cells P14.out.ad).2.2.2.2.1;have f4:=(ao_cells P14.out.ad).2.2.2.2.2.2.2.1 4;have a5:=(ao_cells P14.out.ad).2.2.2.2.2.1;have f5:=(ao_cells P14.out.ad).2.2.2.2.2.2.2.1 5;have a6:=(ao_cells P14.out.ad).2.2.2.2.2.2.1;have f6:=(ao_cells P14.out.ad).2.2.2.2.2.2.2.1 6;have r0:=P14.out.rd.cells.1;have r1:=P14.out.rd.cells.2.1;obtain ⟨e0,e1,e2,e3,e4,e5,e6,ef,_⟩:=ao_cells P14.out.re;have g0:=ef 0;have g1:=ef 1;have g2:=ef 2;have g3:=ef 3;have g4:=ef 4;have g5:=ef 5;have g6:=ef 6;have a3:=(ao_cells P14.out.ad).2.2.2.1;simp only [kV]) | (go_at_call 99;refine (HKD.out _).mono ?_;rintro e wk ⟨rfl,rfl⟩))
     have P15:=hid (((P14.out.p4 k.1).p5 k.2.1).p6 k.2.2);obtain ⟨hb,ho,hbel⟩:=P15.out.fin (.slice rv xs.length cv) d ty nm k _ rfl;obtain ⟨k0,k1,k2,k3,k4,k5,k6,_,_⟩:=ao_cells hb;exact bodyPost_ret (v:=.tuple #[adV (.slice rv xs.length cv) ⟨d,ty,nm,k,[],false⟩,.int .i64 0]) (by simp [results,Tryz.results52,go_sem,k0,k1,k2,k3,k4,k5,k6,adV]) rfl (by rw [HXE.out];unfold ParR;simp only;rw [HTL.out];exact ⟨by rw [if_pos (parE0 hk hx)];exact ⟨_,rfl,ho⟩,hbel⟩)
  cases hp:Lib.hasPrefix l MODP
  case false =>
   have HXE:=hid (show X=(xs,Lib.trimPrefix l MODP,false) by rw [<-HM.out,modsP_no n l hp];simp);have HA:=hid (has_any ⟨#[109,111,100,117,108,101,46]⟩ ⟨l.toArray⟩ (w.heap.size+1) false wr HP.out.rd);have HP1:=hid (fun (W:World) (hg:wr.grownBy W (some (w.heap.size+1))) (hr:Rd (w.heap.size+1) W ⟨(Lib.trimPrefix l MODP).toArray⟩ false)=>HP.out.grown hg hr);rw [show hasP (⟨#[109,111,100,117,108,101,46]⟩:ByteArray).data.toList ⟨l.toArray⟩=false from hp] at HA;change Hid (Calls _ _ _ _ fun e w'=>e=_/\Rd _ w' ⟨(Lib.trimPrefix l MODP).toArray⟩ false/\_) at HA;clear HM hp;go_wp2_with (go_at_call 94;have hh:=HA.out;clear HA;refine Calls.mono hh ?_;clear hh;rintro e w1 ⟨rfl,hr,hg⟩;have HP2:=hid (HP1.out _ hg hr);clear hr hg HP1)
   have hl0:(Lib.trimPrefix l MODP).length<=2000000:=by have:=trim_len l MODP;omega
   clear h1 h2 h3 hl c0 c1 c2 c3;generalize Lib.trimPrefix l MODP=l at *;obtain ⟨d,l1,ty,l2,b2,l3,b3,nm,l4,b4,k,l5,b5,HTL,hty,hl5,HC1,HC2,HC3,HC4,HC5⟩:=tl_con w HTT.out l false hl0;obtain ⟨rv,cv,hv,_,_⟩:=own_form HP2.out.own;subst hv;replace HTL:=hid HTL;replace HC1:=hid HC1;replace HC2:=hid HC2;replace HC3:=hid HC3;replace HC4:=hid HC4;replace HC5:=hid HC5;have HLL:=hid (And.intro hty hl5);clear hty hl5 hl0;go_wp2_with (go_at_call 94;have hh:=HC1.out _ HP2.out.rd;refine Calls.mono hh ?_;clear hh;rintro e w7 ⟨rfl,hr,hg⟩;have P7:=hid (HP2.out.grown hg hr);clear hr hg;have a1:=(ao_cells P7.out.ad).2.1;have f1:=(ao_cells P7.out.ad).2.2.2.2.2.2.2.1 1)
   have P8:=hid (P7.out.p1 d);go_wp2_with (go_at_call 97;have hh:=HC2.out _ P8.out.rd;refine Calls.mono hh ?_;clear hh;rintro e w9 ⟨rfl,hr,hg⟩;have P9:=hid (P8.out.grown hg hr);clear hr hg;have a2:=(ao_cells P9.out.ad).2.2.1;have f2:=(ao_cells P9.out.ad).2.2.2.2.2.2.2.1 2)
   have P10:=hid (P9.out.p2 ty);go_wp2_with (go_at_call 96;have hh:=HC3.out _ P10.out.rd;refine Calls.mono hh ?_;clear hh;rintro e w11 ⟨rfl,hr,hg⟩;have P11:=hid (P10.out.grown hg hr);clear hr hg)
   go_wp2_with (go_at_call 97;have hh:=HC4.out _ P11.out.rd;refine Calls.mono hh ?_;clear hh;rintro e w12 ⟨rfl,hr,hg⟩;have P12:=hid (P11.out.grown hg hr);clear hr hg;have a3:=(ao_cells P12.out.ad).2.2.2.1;have f3:=(ao_cells P12.out.ad).2.2.2.2.2.2.2.1 3)
   have P13:=hid (P12.out.p3 nm);have HKD:=hid (fun (W:World)=>pkind_any ⟨ty.toArray⟩ W (by rw [arr_size];exact HLL.out.1));rw [show (idB (⟨ty.toArray⟩:ByteArray).data.toList && !rsv (⟨ty.toArray⟩:ByteArray).data.toList)=kdB ty from rfl] at HKD;have HPE:=hid (show parE xs (tlP l false)=_ from rfl);rw [HTL.out] at HPE
   have hfin:(b5=true) ∨ (b5=false/\(l5 == [])=false) ∨ (b5=false/\l5=[]/\kdB ty=false) ∨ (b5=false/\l5=[]/\kdB ty=true/\decide ((16:Int) < (xs.length:Int))=true) ∨ (b5=false/\l5=[]/\kdB ty=true/\decide ((16:Int) < (xs.length:Int))=false):=by
    cases b5 <;> cases l5 <;> cases kdB ty <;> cases decide ((16:Int) < (xs.length:Int)) <;> simp
   clear HPE;rcases hfin with rfl | ⟨rfl,hl5⟩ | ⟨rfl,rfl,hk⟩ | ⟨rfl,rfl,hk,hx⟩ | ⟨rfl,rfl,hk,hx⟩
   . go_wp2_with (go_at_call 98;have hh:=HC5.out _ P13.out.bel P13.out.rd;refine Calls.mono hh ?_;clear hh;rintro e w14 ⟨rfl,hr,hg⟩;have P14:=hid (P13.out.grown hg hr);clear hr hg;have a0:=(ao_cells P14.out.ad).1;have f0:=(ao_cells P14.out.ad).2.2.2.2.2.2.2.1 0;have a1:=(ao_cells P14.out.ad).2.1;have f1:=(ao_cells P14.out.ad).2.2.2.2.2.2.2.1 1;have a2:=(ao_cells P14.out.ad).2.2.1;have f2:=(ao_cells P14.out.ad).2.2.2.2.2.2.2.1 2;have a4:=(ao_cells P14.out.ad).2.2.2.2.1;have f4:=(ao_cells P14.out.ad).2.2.2.2.2.2.2.1 4;have a5:=(ao_cells P14.out.ad).2.2.2.2.2.1;have f5:=(ao_cells P14.out.ad).2.2.2.2.2.2.2.1 5;have a6:=(ao_cells P14.out.ad).2.2.2.2.2.2.1;have f6:=(ao_cells P14.out.ad).2.2.2.2.2.2.2.1 6;have r0:=P14.out.rd.cells.1;have r1:=P14.out.rd.cells.2.1;obtain ⟨e0,e1,e2,e3,e4,e5,e6,ef,_⟩:=ao_cells P14.out.re;have g0:=ef 0;have g1:=ef 1;have g2:=ef 2;have g3:=ef 3;have g4:=ef 4;have g5:=ef 5;have g6:=ef 6;have a3:=(ao_cells P14.out.ad).2.2.2.1;simp only [kV])
     have P15:=hid (((P14.out.p4 k.1).p5 k.2.1).p6 k.2.2);obtain ⟨hb,ho,hbel⟩:=P15.out.fin (.slice none 0 0) false [] [] (0,0,[]) _ rfl;obtain ⟨k0,k1,k2,k3,k4,k5,k6,_,_⟩:=ao_cells hb;exact bodyPost_ret (v:=.tuple #[ad0,.int .i64 2]) (by simp [results,Tryz.results52,go_sem,k0,k1,k2,k3,k4,k5,k6,ad0]) rfl (by rw [HXE.out];unfold ParR;simp only;rw [HTL.out];exact ⟨by simp_all [parE],hbel⟩)
   . go_wp2_with (go_at_call 98;have hh:=HC5.out _ P13.out.bel P13.out.rd;refine Calls.mono hh ?_;clear hh;rintro e w14 ⟨rfl,hr,hg⟩;have P14:=hid (P13.out.grown hg hr);clear hr hg;have a0:=(ao_cells P14.out.ad).1;have f0:=(ao_cells P14.out.ad).2.2.2.2.2.2.2.1 0;have a1:=(ao_cells P14.out.ad).2.1;have f1:=(ao_cells P14.out.ad).2.2.2.2.2.2.2.1 1;have a2:=(ao_cells P14.out.ad).2.2.1;have f2:=(ao_cells P14.out.ad).2.2.2.2.2.2.2.1 2;have a4:=(ao_cells P14.out.ad).2.2.2.2.1;have f4:=(ao_cells P14.out.ad).2.2.2.2.2.2.2.1 4;have a5:=(ao_cells P14.out.ad).2.2.2.2.2.1;have f5:=(ao_cells P14.out.ad).2.2.2.2.2.2.2.1 5;have a6:=(ao_cells P14.out.ad).2.2.2.2.2.2.1;have f6:=(ao_cells P14.out.ad).2.2.2.2.2.2.2.1 6;have r0:=P14.out.rd.cells.1;have r1:=P14.out.rd.cells.2.1;obtain ⟨e0,e1,e2,e3,e4,e5,e6,ef,_⟩:=ao_cells P14.out.re;have g0:=ef 0;have g1:=ef 1;have g2:=ef 2;have g3:=ef 3;have g4:=ef 4;have g5:=ef 5;have g6:=ef 6;have a3:=(ao_cells P14.out.ad).2.2.2.1;simp only [kV])
     have P15:=hid (((P14.out.p4 k.1).p5 k.2.1).p6 k.2.2);obtain ⟨hb,ho,hbel⟩:=P15.out.fin (.slice none 0 0) false [] [] (0,0,[]) _ rfl;obtain ⟨k0,k1,k2,k3,k4,k5,k6,_,_⟩:=ao_cells hb;exact bodyPost_ret (v:=.tuple #[ad0,.int .i64 2]) (by simp [results,Tryz.results52,go_sem,k0,k1,k2,k3,k4,k5,k6,ad0]) rfl (by rw [HXE.out];unfold ParR;simp only;rw [HTL.out];exact ⟨by simp_all [parE],hbel⟩)
   . rw [hk] at HKD
     go_wp2_with (first | (go_at_call 98;have hh:=HC5.out _ P13.out.bel P13.out.rd;refine Calls.mono hh ?_;clear hh;rintro e w14 ⟨rfl,hr,hg⟩;have P14:=hid (P13.out.grown hg hr);clear hr hg;have a0:=(ao_cells P14.out.ad).1;have f0:=(ao_cells P14.out.ad).2.2.2.2.2.2.2.1 0;have a1:=(ao_cells P14.out.ad).2.1;have f1:=(ao_cells P14.out.ad).2.2.2.2.2.2.2.1 1;have a2:=(ao_cells P14.out.ad).2.2.1;have f2:=(ao_cells P14.out.ad).2.2.2.2.2.2.2.1 2;have a4:=(ao_cells P14.out.ad).2.2.2.2.1;have f4:=(ao_cells P14.out.ad).2.2.2.2.2.2.2.1 4;have a5:=(ao_cells P14.out.ad).2.2.2.2.2.1;have f5:=(ao_cells P14.out.ad).2.2.2.2.2.2.2.1 5;have a6:=(ao_cells P14.out.ad).2.2.2.2.2.2.1;have f6:=(ao_cells P14.out.ad).2.2.2.2.2.2.2.1 6;have r0:=P14.out.rd.cells.1;have r1:=P14.out.rd.cells.2.1;obtain ⟨e0,e1,e2,e3,e4,e5,e6,ef,_⟩:=ao_cells P14.out.re;have g0:=ef 0;have g1:=ef 1;have g2:=ef 2;have g3:=ef 3;have g4:=ef 4;have g5:=ef 5;have g6:=ef 6;have a3:=(ao_cells P14.out.ad).2.2.2.1;simp only [kV]) | (go_at_call 99;refine (HKD.out _).mono ?_;rintro e wk ⟨rfl,rfl⟩))
     have P15:=hid (((P14.out.p4 k.1).p5 k.2.1).p6 k.2.2);obtain ⟨hb,ho,hbel⟩:=P15.out.fin (.slice none 0 0) false [] [] (0,0,[]) _ rfl;obtain ⟨k0,k1,k2,k3,k4,k5,k6,_,_⟩:=ao_cells hb;exact bodyPost_ret (v:=.tuple #[ad0,.int .i64 2]) (by simp [results,Tryz.results52,go_sem,k0,k1,k2,k3,k4,k5,k6,ad0]) rfl (by rw [HXE.out];unfold ParR;simp only;rw [HTL.out];exact ⟨by simp_all [parE],hbel⟩)
   . rw [hk] at HKD
     go_wp2_with (first | (go_at_call 98;have hh:=HC5.out _ P13.out.bel P13.out.rd;refine Calls.mono hh ?_;clear hh;rintro e w14 ⟨rfl,hr,hg⟩;have P14:=hid (P13.out.grown hg hr);clear hr hg;have a0:=(ao_cells P14.out.ad).1;have f0:=(ao_cells P14.out.ad).2.2.2.2.2.2.2.1 0;have a1:=(ao_cells P14.out.ad).2.1;have f1:=(ao_cells P14.out.ad).2.2.2.2.2.2.2.1 1;have a2:=(ao_cells P14.out.ad).2.2.1;have f2:=(ao_cells P14.out.ad).2.2.2.2.2.2.2.1 2;have a4:=(ao_cells P14.out.ad).2.2.2.2.1;have f4:=(ao_cells P14.out.ad).2.2.2.2.2.2.2.1 4;have a5:=(ao_cells P14.out.ad).2.2.2.2.2.1;have f5:=(ao_cells P14.out.ad).2.2.2.2.2.2.2.1 5;have a6:=(ao_cells P14.out.ad).2.2.2.2.2.2.1;have f6:=(ao_cells P14.out.ad).2.2.2.2.2.2.2.1 6;have r0:=P14.out.rd.cells.1;have r1:=P14.out.rd.cells.2.1;obtain ⟨e0,e1,e2,e3,e4,e5,e6,ef,_⟩:=ao_cells P14.out.re;have g0:=ef 0;have g1:=ef 1;have g2:=ef 2;have g3:=ef 3;have g4:=ef 4;have g5:=ef 5;have g6:=ef 6;have a3:=(ao_cells P14.out.ad).2.2.2.1;simp only [kV]) | (go_at_call 99;refine (HKD.out _).mono ?_;rintro e wk ⟨rfl,rfl⟩))
     have P15:=hid (((P14.out.p4 k.1).p5 k.2.1).p6 k.2.2);obtain ⟨hb,ho,hbel⟩:=P15.out.fin (.slice none 0 0) false [] [] (0,0,[]) _ rfl;obtain ⟨k0,k1,k2,k3,k4,k5,k6,_,_⟩:=ao_cells hb;exact bodyPost_ret (v:=.tuple #[ad0,.int .i64 4]) (by simp [results,Tryz.results52,go_sem,k0,k1,k2,k3,k4,k5,k6,ad0]) rfl (by rw [HXE.out];unfold ParR;simp only;rw [HTL.out];exact ⟨by rw [parE4 hk hx];rfl,hbel⟩)
   . rw [hk] at HKD
     go_wp2_with (first | (go_at_call 98;have hh:=HC5.out _ P13.out.bel P13.out.rd;refine Calls.mono hh ?_;clear hh;rintro e w14 ⟨rfl,hr,hg⟩;have P14:=hid (P13.out.grown hg hr);clear hr hg;have a0:=(ao_cells P14.out.ad).1;have f0:=(ao_cells P14.out.ad).2.2.2.2.2.2.2.1 0;have a1:=(ao_cells P14.out.ad).2.1;have f1:=(ao_cells P14.out.ad).2.2.2.2.2.2.2.1 1;have a2:=(ao_cells P14.out.ad).2.2.1;have f2:=(ao_cells P14.out.ad).2.2.2.2.2.2.2.1 2;have a4:=(ao_cells P14.out.ad).2.2.2.2.1;have f4:=(ao_cells P14.out.ad).2.2.2.2.2.2.2.1 4;have a5:=(ao_cells P14.out.ad).2.2.2.2.2.1;have f5:=(ao_cells P14.out.ad).2.2.2.2.2.2.2.1 5;have a6:=(ao_cells P14.out.ad).2.2.2.2.2.2.1;have f6:=(ao_cells P14.out.ad).2.2.2.2.2.2.2.1 6;have r0:=P14.out.rd.cells.1;have r1:=P14.out.rd.cells.2.1;obtain ⟨e0,e1,e2,e3,e4,e5,e6,ef,_⟩:=ao_cells P14.out.re;have g0:=ef 0;have g1:=ef 1;have g2:=ef 2;have g3:=ef 3;have g4:=ef 4;have g5:=ef 5;have g6:=ef 6;have a3:=(ao_cells P14.out.ad).2.2.2.1;simp only [kV]) | (go_at_call 99;refine (HKD.out _).mono ?_;rintro e wk ⟨rfl,rfl⟩))
     have P15:=hid (((P14.out.p4 k.1).p5 k.2.1).p6 k.2.2);obtain ⟨hb,ho,hbel⟩:=P15.out.fin (.slice rv xs.length cv) d ty nm k _ rfl;obtain ⟨k0,k1,k2,k3,k4,k5,k6,_,_⟩:=ao_cells hb;exact bodyPost_ret (v:=.tuple #[adV (.slice rv xs.length cv) ⟨d,ty,nm,k,[],false⟩,.int .i64 0]) (by simp [results,Tryz.results52,go_sem,k0,k1,k2,k3,k4,k5,k6,adV]) rfl (by rw [HXE.out];unfold ParR;simp only;rw [HTL.out];exact ⟨by rw [if_pos (parE0 hk hx)];exact ⟨_,rfl,ho⟩,hbel⟩)
  have hl7:=hp_len hp;have hlt:=trim_lt hp (by decide) hl7;have HA:=hid (has_any ⟨#[109,111,100,117,108,101,46]⟩ ⟨l.toArray⟩ (w.heap.size+1) false wr HP.out.rd);rw [show hasP (⟨#[109,111,100,117,108,101,46]⟩:ByteArray).data.toList ⟨l.toArray⟩=true from hp] at HA;rw [modsP_yes n l hp] at HM;have HP1:=hid (fun (W:World) (hg:wr.grownBy W (some (w.heap.size+1))) (hr:Rd (w.heap.size+1) W ⟨(Lib.trimPrefix l MODP).toArray⟩ false)=>HP.out.grown hg hr);change Hid (Calls _ _ _ _ fun e w'=>e=_/\Rd _ w' ⟨(Lib.trimPrefix l MODP).toArray⟩ false/\_) at HA;clear hp;generalize Lib.trimPrefix l MODP=t at *;have hst:=stepP_len t false;have HST:=hid (fun (W:World) (hB:Below w.heap.size w W) (hr:Rd (w.heap.size+1) W ⟨t.toArray⟩ false)=>step_any ⟨t.toArray⟩ (w.heap.size+1) false W w HTT.out hB (by omega) (by rw [arr_size];omega) hr);change Hid (∀ (W:World) (hB:Below w.heap.size w W) (hr:Rd (w.heap.size+1) W ⟨t.toArray⟩ false),Calls _ _ _ W fun e w'=>e=.returned (stV (stepP t false).1)/\Rd _ w' ⟨(stepP t false).2.1.toArray⟩ (stepP t false).2.2/\_) at HST;generalize stepP t false=x at *;obtain ⟨y,l2,b2⟩:=x;simp only at HST HM hst;have HSK:=hid (fun (W:World) (hr:Rd (w.heap.size+1) W ⟨l2.toArray⟩ b2)=>skip_any ⟨#[46]⟩ ⟨l2.toArray⟩ (w.heap.size+1) b2 W hr);change Hid (∀ (W:World) (hr:Rd (w.heap.size+1) W ⟨l2.toArray⟩ b2),Calls _ _ _ W fun e w'=>e=.returned (.tuple #[])/\Rd _ w' ⟨(skipP [46] l2 b2).1.toArray⟩ (skipP [46] l2 b2).2/\_) at HSK;have hsk:(skipP [46] l2 b2).1.length<=l2.length:=trim_len _ _;generalize skipP [46] l2 b2=z at *;obtain ⟨l3,b3⟩:=z;simp only at HSK HM hsk;have HNN:=hid (show l3.length < n/\l3.length<=s.size/\xs.length+1+l3.length<=s.size/\xs.length+1<=2000000 by omega);clear h1 h2 h3 hlt hst hsk hl hs hl7;go_wp2_with (go_at_call 94;have hh:=HA.out;clear HA;refine Calls.mono hh ?_;clear hh;rintro e w1 ⟨rfl,hr,hg⟩;have HP2:=hid (HP1.out _ hg hr);clear hr hg HP1)
  clear c0 c1 c2 c3;have q0:=(ao_cells HP2.out.ad).1;have hbd:Below w1.heap.size w1 w1.drew:=(Below.refl _ _).drew;have HP3:=hid (HP2.out.below hbd);have q0d:=(ao_cells HP3.out.ad).1;have qd:=cellD_eq q0d;have HST2:=hid (HST.out w1.drew HP3.out.bel HP3.out.rd);clear HST hbd
  go_region_law
   ((first
     | (go_simp
        go_at_call 95;have hh:=HST2.out;clear HST2;refine Calls.mono hh ?_;clear hh;rintro e w4 ⟨rfl,hr4,hg4⟩;have HP4:=hid (HP3.out.grown hg4 hr4);clear hr4 hg4;have q4:=(ao_cells HP4.out.ad).1;have HW1:=hid (show Below w4.heap.size w4 (w4.alloc (.cells #[.string ⟨y.1.toArray⟩,.int .i64 y.2.1,.int .i64 y.2.2.1,.string ⟨y.2.2.2.toArray⟩] 124)) from (Below.refl _ _).alloc (Nat.le_refl _) _);have HNW:=hid (ko_new w4 (.cells #[.string ⟨y.1.toArray⟩,.int .i64 y.2.1,.int .i64 y.2.2.1,.string ⟨y.2.2.2.toArray⟩] 124));have HOW:=hid (HP4.out.below HW1.out).own;have q4a:=(ao_cells (HP4.out.below HW1.out).ad).1;have HSZ:=hid (Nat.le_trans HP4.out.sz HW1.out.size);simp only [stV])
     | (have hq:=HP4.out
        clear hq;refine step_append_row encM encM_len encM_one Tryz.underlying88 msinfo rfl (by omega) (by omega) (by rfl) _ _ (by rfl) (w.heap.size+3) v xs (by rfl) HOW.out w4.heap.size 1 y (by rfl) (fr:=(0,0)) (by exact HNW.out) HNN.out.2.2.2 HSZ.out (w4.heap.size+1) (by simp) ?_;intro g cap w5 m1 m2 m3 m4;have HP5:=hid (HP4.out.app HW1.out (morem_of m1 m2 m3 m4));rw [show (xs ++ [y]).length=xs.length+1 by simp] at HP5;obtain ⟨⟨q5,f5⟩,hp5⟩:=HP5.out;have q7:=(ao_cells hp5.ad).1;clear hp5;clear m1 m2 m3 m4)))
  all_goals go_wp2_with (go_at_call 96;have hh:=HSK.out _ HP5.out.2.rd;refine Calls.mono hh ?_;clear hh;rintro e w6 ⟨rfl,hr6,hg6⟩;have HP6:=hid (HP5.out.2.grown hg6 hr6);clear hr6 hg6)
  all_goals go_roundg n
  all_goals first
   | (case measure=>omega)
   | exact ⟨l3,b3,_,xs ++ [y],HNN.out.1,HNN.out.2.1,by have:=HNN.out.2.2.1;simp only [List.length_append,List.length_singleton];omega,by first | exact HP6 | (simp only [List.length_append,List.length_singleton];exact HP6),hid (by rw [<-HM.out];simp)⟩
   | omega
   | skip
theorem uv_getD {a b:List UInt8} {i:Nat} (h:i < a.length):(a ++ b).getD i 0=a.getD i 0:=by
 rw [List.getD_eq_getElem?_getD,List.getD_eq_getElem?_getD,List.getElem?_append_left h]
theorem decRN_more {n n' b0 b1 b2 b3 c1 c2 c3:Nat} (hn:n<=n') (h1:1 < n->c1=b1) (h2:2 < n->c2=b2) (h3:3 < n->c3=b3) (h:decRN n b0 b1 b2 b3≠0):decRN n' b0 c1 c2 c3=decRN n b0 b1 b2 b3:=by
 unfold decRN at h ⊢
 by_cases e1:b0 < 128
 . rw [if_pos e1,if_pos e1]
 rw [if_neg e1] at h ⊢;rw [if_neg e1]
 by_cases e2:194<=b0/\b0<=223/\1 < n/\128<=b1/\b1<=191
 . have:=h1 e2.2.2.1
   rw [if_pos e2,if_pos (by omega)]
 rw [if_neg e2] at h ⊢
 by_cases e3:224<=b0/\b0<=239/\1 < n/\(if b0=224 then 160 else 128)<=b1/\b1<=(if b0=237 then 159 else 191)/\2 < n/\128<=b2/\b2<=191
 . have k1:=h1 e3.2.2.1
   have k2:=h2 e3.2.2.2.2.2.1;subst k1 k2;rw [if_pos e3,if_neg (by omega),if_pos ⟨e3.1,e3.2.1,by omega,e3.2.2.2.1,e3.2.2.2.2.1,by omega,e3.2.2.2.2.2.2⟩]
 rw [if_neg e3] at h ⊢
 by_cases e4:240<=b0/\b0<=244/\1 < n/\(if b0=240 then 144 else 128)<=b1/\b1<=(if b0=244 then 143 else 191)/\2 < n/\128<=b2/\b2<=191/\3 < n/\128<=b3/\b3<=191
 . have k1:=h1 e4.2.2.1
   have k2:=h2 e4.2.2.2.2.2.1;have k3:=h3 e4.2.2.2.2.2.2.2.2.1;subst k1 k2 k3;rw [if_pos e4,if_neg (by omega),if_neg (by omega),if_pos ⟨e4.1,e4.2.1,by omega,e4.2.2.2.1,e4.2.2.2.2.1,by omega,e4.2.2.2.2.2.2.1,e4.2.2.2.2.2.2.2.1,by omega,e4.2.2.2.2.2.2.2.2.2⟩]
 . rw [if_neg e4] at h
   exact absurd rfl h
theorem uv_app {a:List UInt8} (b:List UInt8) (hne:a≠[]) (h:decR a≠0):decR (a ++ b)=decR a:=by
 have hl:0 < a.length:=List.length_pos_iff.2 hne;unfold decR at h ⊢;rw [uv_getD hl];exact decRN_more (by simp) (fun h1=>by rw [uv_getD h1]) (fun h1=>by rw [uv_getD h1]) (fun h1=>by rw [uv_getD h1]) h
theorem uv_le {a:List UInt8} (hne:a≠[]):decR a<=a.length:=by
 have hl:0 < a.length:=List.length_pos_iff.2 hne;unfold decR;generalize a.length=n at *;generalize (a.getD 0 0).toNat=b0;generalize (a.getD 1 0).toNat=b1;generalize (a.getD 2 0).toNat=b2;generalize (a.getD 3 0).toNat=b3;unfold decRN
 by_cases e1:b0 < 128
 . rw [if_pos e1];omega
 rw [if_neg e1]
 by_cases e2:194<=b0/\b0<=223/\1 < n/\128<=b1/\b1<=191
 . rw [if_pos e2];omega
 rw [if_neg e2]
 by_cases e3:224<=b0/\b0<=239/\1 < n/\(if b0=224 then 160 else 128)<=b1/\b1<=(if b0=237 then 159 else 191)/\2 < n/\128<=b2/\b2<=191
 . rw [if_pos e3];have:=e3.2.2.2.2.2.1;omega
 rw [if_neg e3]
 by_cases e4:240<=b0/\b0<=244/\1 < n/\(if b0=240 then 144 else 128)<=b1/\b1<=(if b0=244 then 143 else 191)/\2 < n/\128<=b2/\b2<=191/\3 < n/\128<=b3/\b3<=191
 . rw [if_pos e4];have:=e4.2.2.2.2.2.2.2.2.1;omega
 . rw [if_neg e4];omega
theorem validD_app:∀ (n:Nat) (a b:List UInt8),a.length<=n->validD a=true->validD (a ++ b)=validD b
 | 0,a,b,h,_=>by rw [List.length_eq_zero_iff.1 (Nat.le_zero.1 h)];rfl
 | n+1,a,b,h,hv=>by
   by_cases hne:a=[]
   . rw [hne];rfl
   have hv2:=hv;rw [validD_ref a hne] at hv2
   by_cases h0:decR a=0
   . rw [if_pos h0] at hv2;cases hv2
   rw [if_neg h0] at hv2;have hle:=uv_le hne;rw [validD_ref (a ++ b) (by simp [hne]),uv_app b hne h0,if_neg h0,List.drop_append_of_le_length hle];exact validD_app n _ b (by rw [List.length_drop];omega) hv2
theorem validD_both {a b:List UInt8} (h:validD a=true) (h2:validD b=true):validD (a ++ b)=true:=by rw [validD_app a.length a b (Nat.le_refl _) h];exact h2
theorem validD_one {p:List UInt8} (hne:p≠[]) (h:decR p=p.length):validD p=true:=by
 have hl:0 < p.length:=List.length_pos_iff.2 hne;rw [validD_ref p hne,if_neg (by omega),h,List.drop_length];exact validD_nil
theorem u8n {x:Int} (h0:0<=x) (h1:x < 256):(x.toNat.toUInt8).toNat=x.toNat:=by
 rw [Nat.toUInt8_eq,UInt8.toNat_ofNat'];omega
theorem uv_enc (r:Int):decR (Lib.encodeRune r)=(Lib.encodeRune r).length/\Lib.encodeRune r≠[]:=by
 have hb:=Lib.encodeRuneZ_byte r;have hz:(0:UInt8).toNat=0:=rfl;unfold Lib.encodeRune
 by_cases h1:r < 0 ∨ (55296<=r/\r<=57343) ∨ 1114111 < r
 . rw [Lib.encodeRuneZ_bad h1];exact ⟨by decide,by simp⟩
 by_cases h2:r<=127
 . rw [Lib.encodeRuneZ_one (by omega) h2] at hb ⊢
   have e0:=u8n (hb r (by simp)).1 (hb r (by simp)).2;refine ⟨?_,by simp⟩;simp only [List.map_cons,List.map_nil,decR,List.length_cons,List.length_nil,List.getD_cons_zero,e0];unfold decRN;rw [if_pos (by omega)]
 by_cases h3:r<=2047
 . rw [Lib.encodeRuneZ_two (by omega) h3] at hb ⊢
   have e0:=u8n (hb (192+r / 64) (by simp)).1 (hb _ (by simp)).2;have e1:=u8n (hb (128+r % 64) (by simp)).1 (hb _ (by simp)).2;refine ⟨?_,by simp⟩;simp only [List.map_cons,List.map_nil,decR,List.length_cons,List.length_nil,List.getD_cons_zero,List.getD_cons_succ,e0,e1];unfold decRN;rw [if_neg (by omega),if_pos (by omega)]
 by_cases h4:r<=65535
 . rw [Lib.encodeRuneZ_three (by omega)] at hb ⊢
   have e0:=u8n (hb (224+r / 4096) (by simp)).1 (hb _ (by simp)).2;have e1:=u8n (hb (128+r / 64 % 64) (by simp)).1 (hb _ (by simp)).2;have e2:=u8n (hb (128+r % 64) (by simp)).1 (hb _ (by simp)).2;refine ⟨?_,by simp⟩;simp only [List.map_cons,List.map_nil,decR,List.length_cons,List.length_nil,List.getD_cons_zero,List.getD_cons_succ,e0,e1,e2];unfold decRN;rw [if_neg (by omega),if_neg (by omega),if_pos ⟨by omega,by omega,by omega,by split <;> omega,by split <;> omega,by omega,by omega,by omega⟩]
 . rw [Lib.encodeRuneZ_four (by omega) (by omega)] at hb ⊢
   have e0:=u8n (hb (240+r / 262144) (by simp)).1 (hb _ (by simp)).2;have e1:=u8n (hb (128+r / 4096 % 64) (by simp)).1 (hb _ (by simp)).2;have e2:=u8n (hb (128+r / 64 % 64) (by simp)).1 (hb _ (by simp)).2;have e3:=u8n (hb (128+r % 64) (by simp)).1 (hb _ (by simp)).2;refine ⟨?_,by simp⟩;simp only [List.map_cons,List.map_nil,decR,List.length_cons,List.length_nil,List.getD_cons_zero,List.getD_cons_succ,e0,e1,e2,e3];unfold decRN;rw [if_neg (by omega),if_neg (by omega),if_neg (by omega),if_pos ⟨by omega,by omega,by omega,by split <;> omega,by split <;> omega,by omega,by omega,by omega,by omega,by omega,by omega⟩]
theorem validD_enc (r:Int):validD (Lib.encodeRune r)=true:=validD_one (uv_enc r).2 (uv_enc r).1
theorem uv_take {l:List UInt8} (hne:l≠[]) (h:decR l≠0):decR (l.take (decR l))=decR l:=by
 have hl:0 < l.length:=List.length_pos_iff.2 hne;have hle:=uv_le hne
 have g:∀ i,i < decR l->(l.take (decR l)).getD i 0=l.getD i 0:=fun i hi=>by
  rw [List.getD_eq_getElem?_getD,List.getD_eq_getElem?_getD,List.getElem?_take,if_pos hi]
 have hlen:(l.take (decR l)).length=decR l:=by rw [List.length_take];omega
 have hb:=g 0 (by omega);generalize hD:decR l=D at *;unfold decR at hD ⊢;rw [hlen,hb];generalize l.length=n at *;have g1:1 < D->(l.take D).getD 1 0=l.getD 1 0:=fun h=>g 1 h;have g2:2 < D->(l.take D).getD 2 0=l.getD 2 0:=fun h=>g 2 h;have g3:3 < D->(l.take D).getD 3 0=l.getD 3 0:=fun h=>g 3 h;generalize (l.take D).getD 1 0=x1 at *;generalize (l.take D).getD 2 0=x2 at *;generalize (l.take D).getD 3 0=x3 at *;clear g;generalize l.getD 0 0=b0 at *;generalize l.getD 1 0=b1 at *;generalize l.getD 2 0=b2 at *;generalize l.getD 3 0=b3 at *;clear hb;unfold decRN at hD ⊢
 by_cases e1:b0.toNat < 128
 . rw [if_pos e1] at hD ⊢;omega
 rw [if_neg e1] at hD ⊢
 by_cases e2:194<=b0.toNat/\b0.toNat<=223/\1 < n/\128<=b1.toNat/\b1.toNat<=191
 . rw [if_pos e2] at hD
   have k1:=g1 (by omega);subst k1;rw [if_pos (by omega)];exact hD
 rw [if_neg e2] at hD
 by_cases e3:224<=b0.toNat/\b0.toNat<=239/\1 < n/\(if b0.toNat=224 then 160 else 128)<=b1.toNat/\b1.toNat<=(if b0.toNat=237 then 159 else 191)/\2 < n/\128<=b2.toNat/\b2.toNat<=191
 . rw [if_pos e3] at hD
   have k1:=g1 (by omega);have k2:=g2 (by omega);subst k1 k2;rw [if_neg (by omega),if_pos ⟨e3.1,e3.2.1,by omega,e3.2.2.2.1,e3.2.2.2.2.1,by omega,e3.2.2.2.2.2.2⟩];exact hD
 rw [if_neg e3] at hD
 by_cases e4:240<=b0.toNat/\b0.toNat<=244/\1 < n/\(if b0.toNat=240 then 144 else 128)<=b1.toNat/\b1.toNat<=(if b0.toNat=244 then 143 else 191)/\2 < n/\128<=b2.toNat/\b2.toNat<=191/\3 < n/\128<=b3.toNat/\b3.toNat<=191
 . rw [if_pos e4] at hD
   have k1:=g1 (by omega);have k2:=g2 (by omega);have k3:=g3 (by omega);subst k1 k2 k3;rw [if_neg (by omega),if_neg (by omega),if_pos ⟨e4.1,e4.2.1,by omega,e4.2.2.2.1,e4.2.2.2.2.1,by omega,e4.2.2.2.2.2.2.1,e4.2.2.2.2.2.2.2.1,by omega,e4.2.2.2.2.2.2.2.2.2⟩];exact hD
 . rw [if_neg e4] at hD;omega
theorem validD_take {l:List UInt8} (hne:l≠[]) (h:decR l≠0):validD (l.take (decR l))=true:=by
 have hl:0 < l.length:=List.length_pos_iff.2 hne;have hle:=uv_le hne;refine validD_one (fun e=>?_) ?_
 . have:=congrArg List.length e
   rw [List.length_take,List.length_nil] at this;omega
 . rw [uv_take hne h,List.length_take];omega
theorem one_ok {l:List UInt8} (hne:l≠[]) (h:(oneS l).1=0):validD (oneS l).2.1=true:=by
 unfold oneS at *
 by_cases h92:(l.getD 0 0).toNat=92
 . rw [if_pos h92] at h ⊢
   by_cases he:(escS l.tail).1≠0
   . rw [if_pos he] at h;exact absurd h he
   . rw [if_neg he];exact validD_enc _
 . rw [if_neg h92] at h ⊢
   by_cases hd:decR l=0 ∨ (l.getD 0 0).toNat < 32 ∨ (l.getD 0 0).toNat=127
   . rw [if_pos hd] at h;cases h
   . rw [if_neg hd];exact validD_take hne (fun e=>hd (Or.inl e))
theorem unqL_valid:∀ (n:Nat) (l out:List UInt8),l.length<=n->validD out=true->(unqL l out).1=0->validD (unqL l out).2.1=true/\(unqL l out).2.1.length<=4096
 | n,[],out,_,_,h=>by rw [unqL_nil] at h;cases h
 | 0,c :: r,out,hl,_,_=>by simp at hl
 | n+1,c :: r,out,hl,hv,h=>by
   by_cases hc:c.toNat=34
   . rw [unqL_quote c r out hc] at h ⊢
     by_cases h4:4096 < out.length
     . rw [if_pos h4] at h;cases h
     . rw [if_neg h4];exact ⟨hv,Nat.le_of_not_lt h4⟩
   . by_cases h1:(oneS (c :: r)).1≠0
     . rw [unqL_bad c r out hc h1] at h;exact absurd h h1
     . have h0:(oneS (c :: r)).1=0:=Classical.not_not.1 h1
       rw [unqL,if_neg hc,if_neg h1] at h ⊢;exact unqL_valid n _ _ (by rw [List.length_drop];rw [List.length_cons] at hl;omega) (validD_both hv (one_ok (by simp) h0)) h
theorem unqS_valid {l:List UInt8} (h:(unqS l).1=0):validD (unqS l).2.1=true/\(unqS l).2.1.length<=4096:=by
 unfold unqS at *
 by_cases h0:l.length=0
 . rw [if_pos h0] at h;cases h
 rw [if_neg h0] at h ⊢
 by_cases h1:(l.getD 0 0).toNat≠34
 . rw [if_pos h1] at h;cases h
 rw [if_neg h1] at h ⊢
 by_cases h2:(unqL l.tail []).1≠0
 . rw [if_pos h2] at h;exact absurd h h2
 . rw [if_neg h2];exact unqL_valid l.length _ _ (by rw [List.length_tail];omega) validD_nil (Classical.not_not.1 h2)
theorem un8 {a b:UInt8} (h:a.toNat=b.toNat):a=b:=UInt8.toNat_inj.1 h
theorem hp_one {c:UInt8} {l:List UInt8} : Lib.hasPrefix l [c]=true ↔ ∃ t,l=c :: t:=by
 cases l with
 | nil=>simp [Lib.hasPrefix]
 | cons x t =>
   simp [Lib.hasPrefix];exact eq_comm
theorem trim_one (c:UInt8) (t:List UInt8):Lib.trimPrefix (c :: t) [c]=t:=by
 unfold Lib.trimPrefix;rw [if_pos (hp_one.2 ⟨t,rfl⟩)];rfl
theorem trim_no {l p:List UInt8} (h:Lib.hasPrefix l p=false):Lib.trimPrefix l p=l:=by
 unfold Lib.trimPrefix;rw [if_neg (by rw [h];simp)]
theorem trim_yes {l p:List UInt8} (h:Lib.hasPrefix l p=true):Lib.trimPrefix l p=l.drop p.length:=by
 unfold Lib.trimPrefix;rw [if_pos h]
def wdL (l:List UInt8):List UInt8:=l.takeWhile fun c=>wrd c.toNat
def wdD (l:List UInt8):List UInt8:=l.dropWhile fun c=>wrd c.toNat
def dgL (l:List UInt8):List UInt8:=l.takeWhile fun c=>dig c.toNat
def keyR (l:List UInt8):KeyT × List UInt8 × Bool:=
 if (l.getD 0 0).toNat≠91 then ((0,0,[]),l,true)
 else if (l.getD 1 0).toNat=34 then
  (if (unqS l.tail).1≠0 ∨ (l.getD ((unqS l.tail).2.2+1) 0).toNat≠93 ∨ quo (unqS l.tail).2.1≠l.tail.take (unqS l.tail).2.2 then ((0,0,[]),[],false)
   else ((2,0,(unqS l.tail).2.1),l.drop ((unqS l.tail).2.2+2),true))
 else
  (if (numS (dgL l.tail)).2≠0 ∨ (l.getD ((dgL l.tail).length+1) 0).toNat≠93 then ((0,0,[]),[],false)
   else ((1,(numS (dgL l.tail)).1,[]),l.drop ((dgL l.tail).length+2),true))
theorem tw_app {α:Type} {p:α->Bool} : ∀ {a:List α} {c:α} {r:List α},(∀ x∈a,p x=true)->p c=false->(a ++ c :: r).takeWhile p=a
 | [],c,r,_,hc=>by rw [List.nil_append,List.takeWhile_cons,hc];rfl
 | x :: a,c,r,h,hc=>by rw [List.cons_append,List.takeWhile_cons,h x (by simp),if_pos rfl,tw_app (fun y hy=>h y (by simp [hy])) hc]
theorem tw_all {α:Type} {p:α->Bool} : ∀ {a:List α},∀ x∈a.takeWhile p,p x=true
 | [],x,h=>by simp at h
 | y :: a,x,h=>by
   rw [List.takeWhile_cons] at h;cases hy:p y with
   | false=>rw [hy] at h;simp at h
   | true =>
     rw [hy,if_pos rfl] at h;rcases List.mem_cons.1 h with rfl | h
     . exact hy
     . exact tw_all x h
theorem dw_all {α:Type} {p:α->Bool} : ∀ {a:List α},(∀ x∈a,p x=true)->a.dropWhile p=[]
 | [],_=>rfl
 | y :: a,h=>by rw [List.dropWhile_cons,h y (by simp),if_pos rfl,dw_all (fun x hx=>h x (by simp [hx]))]
theorem ib_app:∀ {a:List UInt8} {c:UInt8} {r:List UInt8},(∀ x∈a,x≠c)->Lib.indexByte (a ++ c :: r) c=(a.length:Nat)
 | [],c,r,_=>by simp [Lib.indexByte]
 | x :: a,c,r,h=>by
   rw [List.cons_append,Lib.indexByte,ib_app (fun y hy=>h y (by simp [hy]))];have hx:(x == c)=false:=by simpa using h x (by simp)
   rw [hx];have:¬ ((a.length:Int) == -1)=true:=by intro e;have:=eq_of_beq e;omega
   rw [if_neg (by simp),if_neg this];simp
theorem valL_pos {l:List UInt8} (h:digB l=true) (h2:(l == [48])=false):1<=valL l:=by
 obtain ⟨h1,hne,h3⟩:=digB_parts h;cases l with
 | nil=>exact absurd rfl hne
 | cons c r =>
   have hg:=fold_ge r (10 * 0+(c.toNat - 48));have hc:=(dig_iff c.toNat).1 (by rw [List.all_cons,Bool.and_eq_true] at h1;exact h1.1);have hv:valL (c :: r)=r.foldl (fun n c=>10 * n+(c.toNat - 48)) (10 * 0+(c.toNat - 48)):=by unfold valL;rw [fold_cons]
   rw [hv];rcases h3 with h3 | h3
   . have:c.toNat≠48:=by simpa using h3
     omega
   . have hr:r=[]:=List.length_eq_zero_iff.1 (by simpa using h3)
     subst hr
     have:c.toNat≠48:=fun e=>by
      have:c=48:=un8 e;subst this;simp at h2
     omega
theorem num_dig {x:List UInt8} (h:(numS x).2=0) (h0:¬ (numS x).1 < 0):∀ c∈x,dig c.toNat=true:=by
 unfold numS at *;cases hc:canS x with
 | false=>rw [hc,if_pos rfl] at h;cases h
 | true =>
   rw [hc,if_neg (by simp)] at h h0;have hd:=canS_dig hc
   by_cases hn:(x.getD 0 0).toNat=45
   . exfalso
     have hlt:svS x < 0:=by
      unfold canS at hc;rw [if_pos hn,Bool.and_eq_true] at hc;have:=valL_pos hc.1 (by simpa using hc.2);unfold svS tlS;rw [if_pos hn,if_pos hn];omega
     by_cases h16:16 < (tlS x).length
     . rw [if_pos h16] at h;cases h
     rw [if_neg h16] at h h0
     by_cases hr:-9007199254740992<=svS x/\svS x<=9007199254740992
     . rw [if_pos hr] at h0;exact h0 hlt
     . rw [if_neg hr] at h;cases h
   . have ht:tlS x=x:=by unfold tlS;rw [if_neg hn]
     rw [ht] at hd;exact fun c hc2=>List.all_eq_true.1 (digB_parts hd).1 c hc2
theorem num_nn {x:List UInt8} (h:∀ c∈x,dig c.toNat=true) (h2:(numS x).2=0):¬ (numS x).1 < 0:=by
 unfold numS at *;cases hc:canS x with
 | false=>rw [if_pos rfl];decide
 | true =>
   rw [hc,if_neg (by simp)] at h2;rw [if_neg (by simp)]
   by_cases h16:16 < (tlS x).length
   . rw [if_pos h16];decide
   rw [if_neg h16]
   by_cases hr:-9007199254740992<=svS x/\svS x<=9007199254740992
   . rw [if_pos hr]
     have hn:(x.getD 0 0).toNat≠45:=by
      cases x with
      | nil=>decide
      | cons c r=>have:=(dig_iff c.toNat).1 (h c (by simp));simp;omega
     unfold svS;rw [if_neg hn];simp only;omega
   . rw [if_neg hr];decide
theorem getD_93 {t:List UInt8} {n:Nat} (h:(t.getD n 0).toNat=93):∃ r,t.drop n=93 :: r/\n < t.length:=by
 by_cases hn:n < t.length
 . refine ⟨t.drop (n+1),?_,hn⟩
   rw [List.drop_eq_getElem_cons hn]
   congr 1
   rw [List.getD_eq_getElem?_getD,List.getElem?_eq_getElem hn] at h;exact un8 h
 . rw [List.getD_eq_getElem?_getD,List.getElem?_eq_none (by omega)] at h
   cases h
theorem drop_93 {t r:List UInt8} {n:Nat} (h:t.drop n=93 :: r):(t.getD n 0).toNat=93/\t.drop (n+1)=r/\t=t.take n ++ 93 :: r:=by
 have hg:t[n]?=some 93:=by
  have:=congrArg (fun l=>l[0]?) h;simpa using this
 refine ⟨by rw [List.getD_eq_getElem?_getD,hg];rfl,?_,?_⟩
 . rw [<-List.tail_drop,h];rfl
 . rw [<-h,List.take_append_drop]
theorem skip_93 {l:List UInt8} (r:List UInt8) (bad:Bool) (h:l=93 :: r):skipP [93] l bad=(r,bad):=by
 subst h;unfold skipP;rw [trim_one,hp_one.2 ⟨r,rfl⟩];simp
theorem skip_bad {p l:List UInt8} (h:(skipP p l false).2=false):Lib.hasPrefix l p=true:=by
 unfold skipP at h;simpa using h
theorem key_no2 {l:List UInt8} (h:(l.getD 0 0).toNat≠91):keyP l false=((0,0,[]),l,false)/\keyR l=((0,0,[]),l,true):=by
 have hp:Lib.hasPrefix l [91]=false:=by
  cases hp:Lib.hasPrefix l [91] with
  | false=>rfl
  | true =>
    obtain ⟨t,rfl⟩:=hp_one.1 hp;exact absurd rfl h
 refine ⟨?_,by unfold keyR;rw [if_pos h]⟩;unfold keyP;rw [if_neg (by simp),if_pos hp,trim_no hp]
theorem key_good {l:List UInt8} (h:(keyR l).2.2=true):keyP l false=((keyR l).1,(keyR l).2.1,false):=by
 by_cases h91:(l.getD 0 0).toNat≠91
 . rw [(key_no2 h91).1,(key_no2 h91).2]
 obtain ⟨t,rfl⟩:∃ t,l=91 :: t:=by
  cases l with
  | nil=>exact absurd (by decide) h91
  | cons c t=>exact ⟨t,by rw [un8 (a:=c) (b:=91) (Classical.not_not.1 h91)]⟩
 unfold keyR at *;rw [if_neg h91] at h ⊢;unfold keyP;rw [if_neg (by simp),if_neg (by rw [hp_one.2 ⟨t,rfl⟩];simp),trim_one];simp only [List.tail_cons,List.getD_cons_succ] at h ⊢
 by_cases h34:(t.getD 0 0).toNat=34
 . obtain ⟨u,rfl⟩:∃ u,t=34 :: u:=by
    cases t with
    | nil=>cases h34
    | cons c u=>exact ⟨u,by rw [un8 (a:=c) (b:=34) h34]⟩
   rw [if_pos h34] at h ⊢;rw [if_pos (hp_one.2 ⟨u,rfl⟩)];generalize (34 :: u:List UInt8)=t at *;generalize unqS t=x at *
   by_cases hb:x.1≠0 ∨ (t.getD x.2.2 0).toNat≠93 ∨ quo x.2.1≠t.take x.2.2
   . rw [if_pos hb] at h;cases h
   rw [if_neg hb];rw [if_neg (fun e=>hb (Or.inl e)),if_neg (fun e=>hb (Or.inr (Or.inr e)))];obtain ⟨r,hr,_⟩:=getD_93 (Classical.not_not.1 fun e=>hb (Or.inr (Or.inl e)));rw [skip_93 r _ hr,show (91 :: t).drop (x.2.2+2)=t.drop (x.2.2+1) from rfl,(drop_93 hr).2.1]
 . have hq:Lib.hasPrefix t [34]=false:=by
    cases hq:Lib.hasPrefix t [34] with
    | false=>rfl
    | true =>
      obtain ⟨u,rfl⟩:=hp_one.1 hq;exact absurd rfl h34
   rw [if_neg h34] at h ⊢;rw [if_neg (by rw [hq];simp)]
   by_cases hb:(numS (dgL t)).2≠0 ∨ (t.getD (dgL t).length 0).toNat≠93
   . rw [if_pos hb] at h;cases h
   rw [if_neg hb];obtain ⟨r,hr,_⟩:=getD_93 (Classical.not_not.1 fun e=>hb (Or.inr e));have hd:∀ c∈dgL t,dig c.toNat=true:=fun c hc=>tw_all (p:=fun c:UInt8=>dig c.toNat) c hc
   have htk:t.take (dgL t).length=dgL t:=by
    have:=List.takeWhile_prefix (l:=t) (fun c=>dig c.toNat);exact (List.prefix_iff_eq_take.1 this).symm
   have h3:=(drop_93 hr).2.2;rw [htk] at h3
   have hn:nmAt t=(dgL t).length:=by
    unfold nmAt;have:=ib_app (a:=dgL t) (c:=93) (r:=r) (fun x hx e=>by have:=hd x hx;rw [e] at this;revert this;decide);rw [<-h3] at this;rw [this];omega
   have hv:=Classical.not_not.1 fun e=>hb (Or.inl e);rw [hn,htk,skip_93 r _ hr,show (91 :: t).drop ((dgL t).length+2)=t.drop ((dgL t).length+1) from rfl,(drop_93 hr).2.1];rw [decide_eq_false (fun e=>e hv),decide_eq_false (num_nn hd hv)];rfl
theorem key_back {l:List UInt8} (h:(keyP l false).2.2=false):(keyR l).2.2=true:=by
 by_cases h91:(l.getD 0 0).toNat≠91
 . rw [(key_no2 h91).2]
 obtain ⟨t,rfl⟩:∃ t,l=91 :: t:=by
  cases l with
  | nil=>exact absurd (by decide) h91
  | cons c t=>exact ⟨t,by rw [un8 (a:=c) (b:=91) (Classical.not_not.1 h91)]⟩
 unfold keyP at h;rw [if_neg (by simp),if_neg (by rw [hp_one.2 ⟨t,rfl⟩];simp),trim_one] at h;unfold keyR;rw [if_neg h91];simp only [List.tail_cons,List.getD_cons_succ] at h ⊢
 by_cases h34:(t.getD 0 0).toNat=34
 . obtain ⟨u,rfl⟩:∃ u,t=34 :: u:=by
    cases t with
    | nil=>cases h34
    | cons c u=>exact ⟨u,by rw [un8 (a:=c) (b:=34) h34]⟩
   rw [if_pos h34];rw [if_pos (hp_one.2 ⟨u,rfl⟩)] at h;generalize (34 :: u:List UInt8)=t at *;generalize unqS t=x at *
   by_cases h1:x.1≠0
   . rw [if_pos h1] at h;cases h
   rw [if_neg h1] at h
   by_cases h2:quo x.2.1≠t.take x.2.2
   . rw [if_pos h2] at h;cases h
   rw [if_neg h2] at h;obtain ⟨r,hr⟩:=hp_one.1 (skip_bad h);rw [if_neg (by rintro (e | e | e);exact h1 e;exact e (drop_93 hr).1;exact h2 e)]
 . have hq:Lib.hasPrefix t [34]=false:=by
    cases hq:Lib.hasPrefix t [34] with
    | false=>rfl
    | true =>
      obtain ⟨u,rfl⟩:=hp_one.1 hq;exact absurd rfl h34
   rw [if_neg h34];rw [if_neg (by rw [hq];simp)] at h;unfold skipP at h;simp only [Bool.or_eq_false_iff,decide_eq_false_iff_not,Classical.not_not,Bool.not_eq_false'] at h;obtain ⟨⟨h1,h2⟩,h3⟩:=h;obtain ⟨r,hr⟩:=hp_one.1 h3;have hd:=num_dig h1 h2;have ht:=(drop_93 hr).2.2
   have hg:dgL t=t.take (nmAt t):=by
    have:=tw_app (p:=fun c:UInt8=>dig c.toNat) (c:=93) (r:=r) hd (by decide);rw [<-ht] at this;exact this
   have hlen:(t.take (nmAt t)).length=nmAt t:=by rw [List.length_take];have:=nmAt_le t;omega
   rw [hg,hlen,if_neg (by rintro (e | e);exact e h1;exact e (drop_93 hr).1)]
theorem key_same {l:List UInt8} (h:(keyP l false).2.2=false):(keyR l).2.2=true/\keyP l false=((keyR l).1,(keyR l).2.1,false):=⟨key_back h,key_good (key_back h)⟩
theorem wd_cases:∀ (l:List UInt8),(wdL l=l.take (dotN l)/\wdD l=l.drop (dotN l)) ∨ (idB (l.take (dotN l))=false/\∃ c r,wdD l=c :: r/\c.toNat≠46/\c.toNat≠91)
 | []=>Or.inl ⟨rfl,rfl⟩
 | c :: l=>by
   have hall:∀ {x:List UInt8},idB x=true->∀ y∈x,wrd y.toNat=true:=fun h y hy=>by
    unfold idB at h;simp only [Bool.and_eq_true,List.all_eq_true] at h;exact h.2 y hy
   cases hx:[46,91].contains c with
   | true =>
     have hd:dotN (c :: l)=0:=by unfold dotN;rw [List.takeWhile_cons,hx];rfl
     have hw:wrd c.toNat=false:=by
      have:c=46 ∨ c=91:=by simpa using hx
      rcases this with rfl | rfl <;> decide
     left;rw [hd];unfold wdL wdD;rw [List.takeWhile_cons,List.dropWhile_cons,hw];exact ⟨rfl,rfl⟩
   | false =>
     have hd:dotN (c :: l)=dotN l+1:=by unfold dotN;rw [List.takeWhile_cons,hx];rfl
     have hc:c.toNat≠46/\c.toNat≠91:=by
      constructor
      . intro e;rw [un8 (a:=c) (b:=46) e] at hx;revert hx;decide
      . intro e;rw [un8 (a:=c) (b:=91) e] at hx;revert hx;decide
     cases hw:wrd c.toNat with
     | false =>
       right;refine ⟨?_,c,l,by unfold wdD;rw [List.dropWhile_cons,hw];rfl,hc⟩;cases hi:idB ((c :: l).take (dotN (c :: l))) with
       | false=>rfl
       | true =>
         have:=hall hi c (by rw [hd];simp);rw [hw] at this;cases this
     | true =>
       rcases wd_cases l with ⟨h1,h2⟩ | ⟨h1,y,r,h2,h3⟩
       . left
         rw [hd];unfold wdL wdD at *;rw [List.takeWhile_cons,List.dropWhile_cons,hw,if_pos rfl,if_pos rfl,h1,h2];exact ⟨rfl,rfl⟩
       . right
         refine ⟨?_,y,r,by unfold wdD at *;rw [List.dropWhile_cons,hw,if_pos rfl,h2],h3⟩;cases hi:idB ((c :: l).take (dotN (c :: l))) with
         | false=>rfl
         | true =>
           exfalso;have hi2:=hall hi;rw [hd] at hi2;have h5:∀ z∈l.take (dotN l),wrd z.toNat=true:=fun z hz=>hi2 z (by simp [hz]);have h6:wdL l=wdL (l.take (dotN l) ++ l.drop (dotN l)):=by rw [List.take_append_drop]
           have h7:wdD l=wdD (l.take (dotN l) ++ l.drop (dotN l)):=by rw [List.take_append_drop]
           have h8:wdD (l.take (dotN l) ++ l.drop (dotN l))=wdD (l.drop (dotN l)):=by
            unfold wdD;rw [List.dropWhile_append];have:(l.take (dotN l)).dropWhile (fun c=>wrd c.toNat)=[]:=dw_all h5;rw [this];rfl
           rw [h7,h8] at h2;have hq:=(dotN_noany l).2;cases hdr:l.drop (dotN l) with
           | nil=>rw [hdr] at h2;cases h2
           | cons z zs =>
             have hz:l[dotN l]?=some z:=by
              have:=congrArg (fun l=>l[0]?) hdr;simpa using this
             have hz2:=hq z hz;rw [hdr] at h2
             have hzw:wrd z.toNat=false:=by
              have:z=46 ∨ z=91:=by simpa using hz2
              rcases this with rfl | rfl <;> decide
             unfold wdD at h2;rw [List.dropWhile_cons,hzw] at h2;have:z=y:=by simpa using (List.cons.inj (by simpa using h2)).1
             subst this;have:z=46 ∨ z=91:=by simpa using hz2
             rcases this with rfl | rfl
             . exact h3.1 rfl
             . exact h3.2 rfl
theorem keyP_true (l:List UInt8):keyP l true=((0,0,[]),l,true):=by unfold keyP;rw [if_pos rfl]
def stR (l:List UInt8):MS × List UInt8 × Bool:=((wdL l,(keyR (wdD l)).1),(keyR (wdD l)).2.1,(keyR (wdD l)).2.2 && idB (wdL l))
theorem st_back {l:List UInt8} (h:(stepP l false).2.2=false):(stR l).2.2=true/\stepP l false=((stR l).1,(stR l).2.1,false):=by
 unfold stepP at *;cases hi:idB (l.take (dotN l)) with
 | false=>rw [hi] at h;simp only [Bool.not_false,Bool.or_true] at h;rw [keyP_true] at h;cases h
 | true =>
   rw [hi] at h;simp only [Bool.not_true,Bool.or_false] at h ⊢;obtain ⟨k1,k2⟩:=key_same h;rcases wd_cases l with ⟨e1,e2⟩ | ⟨e1,_⟩
   . unfold stR
     rw [e1,e2,k1,hi,k2];exact ⟨rfl,rfl⟩
   . rw [hi] at e1;cases e1
theorem st_good {l:List UInt8} (h:(stR l).2.2=true) (h2:(stR l).2.1=[] ∨ ((stR l).2.1.getD 0 0).toNat=46):stepP l false=((stR l).1,(stR l).2.1,false):=by
 rcases wd_cases l with ⟨e1,e2⟩ | ⟨e1,c,r,e2,e3,e4⟩
 . unfold stR at h
   rw [e1,e2] at h;simp only [Bool.and_eq_true] at h;unfold stepP stR;rw [h.2,e1,e2];simp only [Bool.not_true,Bool.or_false];rw [key_good h.1]
 . exfalso
   unfold stR at h2;rw [e2,(key_no2 (l:=c :: r) e4).2] at h2;rcases h2 with h2 | h2
   . cases h2
   . exact e3 h2
def modsR:Nat->List UInt8->Option (List MS × Option (List UInt8))
 | 0,_=>none
 | n+1,l=>if Lib.hasPrefix l MODP=false then some ([],some l)
   else if (stR (l.drop 7)).2.2=false then none
   else if (stR (l.drop 7)).2.1=[] then some ([(stR (l.drop 7)).1],none)
   else if ((stR (l.drop 7)).2.1.getD 0 0).toNat≠46 then none
   else (modsR n (stR (l.drop 7)).2.1.tail).map fun x=>((stR (l.drop 7)).1 :: x.1,x.2)
def tlR (l:List UInt8):Option (Bool × List UInt8 × List UInt8 × KeyT):=
 if idB (wdL (Lib.trimPrefix l DATP))=false ∨ rsv (wdL (Lib.trimPrefix l DATP))=true ∨ ((wdD (Lib.trimPrefix l DATP)).getD 0 0).toNat≠46 then none
 else if idB (wdL (wdD (Lib.trimPrefix l DATP)).tail)=false ∨ (keyR (wdD (wdD (Lib.trimPrefix l DATP)).tail)).2.2=false ∨ (keyR (wdD (wdD (Lib.trimPrefix l DATP)).tail)).2.1≠[] then none
 else some (Lib.hasPrefix l DATP,wdL (Lib.trimPrefix l DATP),wdL (wdD (Lib.trimPrefix l DATP)).tail,(keyR (wdD (wdD (Lib.trimPrefix l DATP)).tail)).1)
def Syn (t:TlT):Prop:=t.bad=true ∨ t.l≠[] ∨ kdB t.ty=false
theorem tlP_bad (l:List UInt8):(tlP l true).bad=true:=by
 unfold tlP;simp only [Bool.true_or,skipP];rw [keyP_true]
theorem syn_or {t:TlT} (h:¬ Syn t):t.bad=false/\t.l=[]/\kdB t.ty=true:=by
 unfold Syn at h;refine ⟨?_,?_,?_⟩
 . cases hb:t.bad with
   | false=>rfl
   | true=>exact absurd (Or.inl hb) h
 . exact Classical.not_not.1 fun e=>h (Or.inr (Or.inl e))
 . cases hb:kdB t.ty with
   | true=>rfl
   | false=>exact absurd (Or.inr (Or.inr hb)) h
theorem skip_46 {l:List UInt8} (h:(l.getD 0 0).toNat=46):skipP [46] l false=(l.tail,false)/\l≠[]:=by
 cases l with
 | nil=>cases h
 | cons c t =>
   rw [show c=46 from un8 h];unfold skipP;rw [trim_one,hp_one.2 ⟨t,rfl⟩];exact ⟨rfl,by simp⟩
theorem skip_46n {l:List UInt8} (b:Bool) (h:(l.getD 0 0).toNat≠46):(skipP [46] l b).2=true:=by
 unfold skipP;cases hp:Lib.hasPrefix l [46] with
 | false=>simp
 | true =>
   obtain ⟨t,rfl⟩:=hp_one.1 hp;exact absurd rfl h
theorem tl_some {l:List UInt8} {d:Bool} {ty nm:List UInt8} {k:KeyT} (h:tlR l=some (d,ty,nm,k)):tlP l false=⟨d,ty,nm,k,[],false⟩/\kdB ty=true:=by
 unfold tlR at h;unfold tlP;generalize Lib.trimPrefix l DATP=l1 at *
 by_cases h1:idB (wdL l1)=false ∨ rsv (wdL l1)=true ∨ ((wdD l1).getD 0 0).toNat≠46
 . rw [if_pos h1] at h;cases h
 rw [if_neg h1] at h;have i1:idB (wdL l1)=true:=by cases hx:idB (wdL l1) with | true=>rfl | false=>exact absurd (Or.inl hx) h1
 have i2:rsv (wdL l1)=false:=by cases hx:rsv (wdL l1) with | false=>rfl | true=>exact absurd (Or.inr (Or.inl hx)) h1
 have i3:((wdD l1).getD 0 0).toNat=46:=Classical.not_not.1 fun e=>h1 (Or.inr (Or.inr e));rcases wd_cases l1 with ⟨e1,e2⟩ | ⟨e1,c,r,e2,e3,e4⟩
 case inr=>rw [e2] at i3;exact absurd i3 e3
 simp only [Bool.false_or];rw [<-e1,<-e2];simp only [i1,Bool.not_true,Bool.or_false];rw [(skip_46 i3).1];generalize (wdD l1).tail=l2 at *
 by_cases h2:idB (wdL l2)=false ∨ (keyR (wdD l2)).2.2=false ∨ (keyR (wdD l2)).2.1≠[]
 . rw [if_pos h2] at h;cases h
 rw [if_neg h2] at h;have j1:idB (wdL l2)=true:=by cases hx:idB (wdL l2) with | true=>rfl | false=>exact absurd (Or.inl hx) h2
 have j2:(keyR (wdD l2)).2.2=true:=by cases hx:(keyR (wdD l2)).2.2 with | true=>rfl | false=>exact absurd (Or.inr (Or.inl hx)) h2
 have j3:(keyR (wdD l2)).2.1=[]:=Classical.not_not.1 fun e=>h2 (Or.inr (Or.inr e));rcases wd_cases l2 with ⟨f1,f2⟩ | ⟨f1,c,r,f2,f3,f4⟩
 case inr=>rw [f2,(key_no2 (l:=c :: r) f4).2] at j3;cases j3
 simp only [Bool.false_or];rw [<-f1,<-f2];simp only [j1,Bool.not_true,Bool.or_false];rw [key_good j2,j3];cases h;exact ⟨rfl,by unfold kdB;rw [i1,i2];rfl⟩
theorem tl_none {l:List UInt8} (h:tlR l=none):Syn (tlP l false):=by
 refine Classical.not_not.1 fun hs=>?_;obtain ⟨s1,s2,s3⟩:=syn_or hs;clear hs;unfold tlR at h;unfold tlP at s1 s2 s3;generalize Lib.trimPrefix l DATP=l1 at *;simp only [Bool.false_or] at s1 s2 s3;unfold kdB at s3;rw [Bool.and_eq_true] at s3;rcases wd_cases l1 with ⟨e1,e2⟩ | ⟨e1,_⟩
 case inr=>rw [e1] at s3;cases s3.1
 rw [<-e1,<-e2] at s1 s2;rw [<-e1] at s3;rw [s3.1] at s1 s2;simp only [Bool.not_true] at s1 s2
 by_cases i3:((wdD l1).getD 0 0).toNat=46
 . rw [(skip_46 i3).1] at s1 s2
   rw [if_neg (by rintro (e | e | e);rw [s3.1] at e;cases e;rw [e] at s3;cases s3.2;exact e i3)] at h;generalize (wdD l1).tail=l2 at *;simp only [Bool.false_or] at s1 s2;cases j1:idB (l2.take (dotN l2)) with
   | false=>rw [j1] at s1;simp only [Bool.not_false] at s1;rw [keyP_true] at s1;cases s1
   | true =>
     rw [j1] at s1 s2;simp only [Bool.not_true] at s1 s2;rcases wd_cases l2 with ⟨f1,f2⟩ | ⟨f1,_⟩
     case inr=>rw [j1] at f1;cases f1
     rw [<-f2] at s1 s2;rw [<-f1] at j1;obtain ⟨k1,k2⟩:=key_same s1;rw [k2] at s2;rw [if_neg (by rintro (e | e | e);rw [j1] at e;cases e;rw [k1] at e;cases e;exact e s2)] at h;cases h
 . rw [skip_46n _ i3] at s1
   simp only [Bool.true_or] at s1;rw [keyP_true] at s1;cases s1
theorem modsP_true (n:Nat) (l:List UInt8):modsP n l true=([],l,true):=by
 cases n with
 | zero=>rfl
 | succ n=>exact modsP_bad n l
def allS (X:List MS × List UInt8 × Bool):Prop:=Syn (tlP X.2.1 X.2.2)
theorem all_bad {X:List MS × List UInt8 × Bool} (h:X.2.2=true):allS X:=by
 unfold allS Syn;rw [h];exact Or.inl (tlP_bad _)
theorem mods_eq:∀ (n:Nat) (l:List UInt8),l.length < n->match modsR n l with
  | none=>allS (modsP n l false)
  | some (xs,none)=>allS (modsP n l false)
  | some (xs,some r)=>modsP n l false=(xs,r,false)
 | 0,l,h=>by omega
 | n+1,l,h=>by
   unfold modsR;cases hp:Lib.hasPrefix l MODP with
   | false =>
     rw [if_pos rfl];simp only;rw [modsP_no n l hp,trim_no hp]
   | true =>
     rw [if_neg (by simp),modsP_yes n l hp,trim_yes hp,show MODP.length=7 from rfl];have hlen:=hp_len hp;have hl7:(l.drop 7).length < n:=by rw [List.length_drop];rw [show MODP.length=7 from rfl] at hlen;omega
     generalize l.drop 7=t at *;cases ho:(stR t).2.2 with
     | false =>
       rw [if_pos rfl];simp only
       have hb:(stepP t false).2.2=true:=by
        cases hb:(stepP t false).2.2 with
        | true=>rfl
        | false=>have:=(st_back hb).1;rw [ho] at this;cases this
       refine all_bad ?_;rw [hb,show skipP [46] (stepP t false).2.1 true=(Lib.trimPrefix (stepP t false).2.1 [46],true) by unfold skipP;simp];simp only;rw [modsP_true]
     | true =>
       rw [if_neg (by simp)]
       by_cases h0:(stR t).2.1=[]
       . rw [if_pos h0]
         simp only;rw [st_good ho (Or.inl h0),h0];refine all_bad ?_;simp only;rw [show skipP [46] [] false=([],true) from rfl];simp only;rw [modsP_true]
       rw [if_neg h0]
       by_cases h46:((stR t).2.1.getD 0 0).toNat≠46
       . rw [if_pos h46]
         simp only;refine all_bad ?_
         have hz:(skipP [46] (stepP t false).2.1 (stepP t false).2.2).2=true:=by
          cases hb:(stepP t false).2.2 with
          | true=>unfold skipP;simp
          | false=>rw [(st_back hb).2];exact skip_46n _ h46
         generalize skipP [46] (stepP t false).2.1 (stepP t false).2.2=z at *;rw [hz];simp only;rw [modsP_true]
       . rw [if_neg h46]
         have h46':=Classical.not_not.1 h46;have hgd:=st_good ho (Or.inr h46');have hsl:=stepP_len t false;rw [hgd] at hsl;simp only at hsl;rw [hgd];simp only;rw [(skip_46 h46').1];simp only;have hlt:(stR t).2.1.tail.length < n:=by rw [List.length_tail];omega
         have IH:=mods_eq n (stR t).2.1.tail hlt;cases hm:modsR n (stR t).2.1.tail with
         | none =>
           rw [hm] at IH;exact IH
         | some x =>
           obtain ⟨xs,o⟩:=x;rw [hm] at IH;cases o with
           | none=>exact IH
           | some r =>
             simp only [Option.map_some] at IH ⊢;rw [IH]
def prR (l:List UInt8):Option (List MS × Option (Bool × List UInt8 × List UInt8 × KeyT)):=
 match modsR (l.length+1) l with
 | none=>none
 | some (xs,none)=>some (xs,none)
 | some (xs,some r)=>(tlR r).map fun t=>(xs,some t)
def prE (l:List UInt8):Int:=match prR l with
 | some (xs,some _)=>if 16 < xs.length then 4 else 0
 | _=>2
theorem par_none {l:List UInt8} (h:∀ xs t,prR l≠some (xs,some t)):prE l=2/\parE (modsP (l.length+1) l false).1 (tlP (modsP (l.length+1) l false).2.1 (modsP (l.length+1) l false).2.2)=2:=by
 have hm:=mods_eq (l.length+1) l (Nat.lt_succ_self _);constructor
 . unfold prE
   cases hp:prR l with
   | none=>rfl
   | some x =>
     obtain ⟨xs,o⟩:=x;cases o with
     | none=>rfl
     | some t=>exact absurd hp (h xs t)
 . have hS:Syn (tlP (modsP (l.length+1) l false).2.1 (modsP (l.length+1) l false).2.2):=by
    unfold prR at h;cases hr:modsR (l.length+1) l with
    | none=>rw [hr] at hm;exact hm
    | some x =>
      obtain ⟨xs,o⟩:=x;rw [hr] at hm h;cases o with
      | none=>exact hm
      | some r =>
        simp only at hm h;rw [hm];cases ht:tlR r with
        | none=>exact tl_none ht
        | some t=>rw [ht] at h;exact absurd rfl (h xs t)
   unfold parE;unfold Syn at hS;rw [if_pos hS]
theorem par_some {l:List UInt8} {xs:List MS} {d:Bool} {ty nm:List UInt8} {k:KeyT} (h:prR l=some (xs,some (d,ty,nm,k))) :
  prE l=(if 16 < xs.length then 4 else 0)/\(modsP (l.length+1) l false).1=xs/\tlP (modsP (l.length+1) l false).2.1 (modsP (l.length+1) l false).2.2=⟨d,ty,nm,k,[],false⟩/\kdB ty=true/\parE (modsP (l.length+1) l false).1 (tlP (modsP (l.length+1) l false).2.1 (modsP (l.length+1) l false).2.2)=prE l:=by
 have hm:=mods_eq (l.length+1) l (Nat.lt_succ_self _);have hE:prE l=(if 16 < xs.length then 4 else 0):=by unfold prE;rw [h]
 unfold prR at h;cases hr:modsR (l.length+1) l with
 | none=>rw [hr] at h;cases h
 | some x =>
   obtain ⟨ys,o⟩:=x;rw [hr] at h hm;cases o with
   | none=>cases h
   | some r =>
     simp only at h hm;cases ht:tlR r with
     | none=>rw [ht] at h;cases h
     | some t =>
       rw [ht] at h;cases h;obtain ⟨h1,h2⟩:=tl_some ht;refine ⟨hE,by rw [hm],by rw [hm];exact h1,h2,?_⟩;rw [hE,hm];simp only;rw [h1];unfold parE;rw [if_neg (by simp [h2])]
theorem par_eq (l:List UInt8):parE (modsP (l.length+1) l false).1 (tlP (modsP (l.length+1) l false).2.1 (modsP (l.length+1) l false).2.2)=prE l:=by
 by_cases h:∃ xs t,prR l=some (xs,some t)
 . obtain ⟨xs,⟨d,ty,nm,k⟩,h⟩:=h
   exact (par_some h).2.2.2.2
 . obtain ⟨h1,h2⟩:=par_none (l:=l) (fun xs t e=>h ⟨xs,t,e⟩)
   rw [h1,h2]
def laysC_ren:Go.Shelf.Ren:=⟨fun | 41=>208 | n=>n,fun | 22=>88 | 23=>124 | 4=>4 | n=>n,fun | n=>n⟩
theorem laysC:Go.Proofs.SlLaysE0.n41 Tryz.prog laysC_ren:={
 mixed:=by kernel_rfl
 f41:=⟨Tryz.f208.name,by decide,Tryz.func208.trans (congrArg some (by kernel_rfl))⟩
 t4:=Tryz.underlying4
 a4:=Tryz.isAgg4
 z4:=Tryz.sizeOf4
 v4:=Tryz.zeroValue4
 t22:=Tryz.underlying88
 a22:=Tryz.isAgg88
 z22:=Tryz.sizeOf88
 v22:=Tryz.zeroValue88 }
theorem clone_m (B:Nat) (v:Value) (xs:List MS) (w:World) (h:OwnM B w v xs) (hn:xs.length<=2000000):Calls Tryz.prog 208 #[v] w fun e w' =>
  ∃ v',e=.returned v'/\OwnM w.heap.size w' v' xs/\Below w.heap.size w w':=by
 rcases h.2 with ⟨rfl,h0⟩ | ⟨g,cap,cur,rfl,hb,hg,hnc,hc,hs,ht⟩
 . have:xs=[]:=List.eq_nil_of_length_eq_zero h0
   subst this;exact (AnyE.slices_Clone_nil laysC 0 0 w).mono fun e w' ⟨he,hw⟩=>⟨_,he,ownM_nil _ _,by rw [hw];exact Below.refl _ _⟩
 . obtain ⟨i0,hi,hz0,hz1,hz2⟩:=info_parts msinfo
   refine (AnyE.slices_Clone laysC i0 _ 4 48 hi hz0 hz1 hz2 rfl (by decide) Tryz.sizeOf124 g 0 xs.length cap (xs.flatMap encM) w (flat_len encM 4 encM_len xs) (by unfold maxLen;omega) (by omega) (fun j u hu=>?_) (fun u hu=>?_)).mono fun e w' ⟨v',he,ho,_,hb⟩=>⟨v',he,ho,hb⟩
   . have h1:=hu
     rw [<-ht,List.getElem?_take] at h1;split at h1
     . unfold World.cell?
       simp only [hg,Nat.zero_add];simpa using h1
     . cases h1
   . obtain ⟨y,_,hy2⟩:=List.mem_flatMap.1 hu
     exact encM_one y u hy2
def barM (x:MS):MS:=(x.1,(0,0,[]))
theorem own_setc {B sz g n cap:Nat} {e:TypeId} {w:World} {xs:List Value} (h:w.ownsRow B e sz (.slice (some ⟨g,0,none⟩) n cap) n xs) (i:Nat) (u:Value):(w.setCell ⟨g,i,none⟩ u).ownsRow B e sz (.slice (some ⟨g,0,none⟩) n cap) n (xs.set i u):=by
 refine ⟨by rw [List.length_set];exact h.1,?_⟩;rcases h.2 with ⟨he,_⟩ | ⟨g2,cap2,cur,he,hb,hg,hn,hc,hs,ht⟩
 . cases he
 . cases he
   refine .inr ⟨g,cap,cur.setIfInBounds i u,rfl,hb,?_,hn,hc,by rw [Array.size_setIfInBounds];exact hs,?_⟩
   . unfold World.setCell
     simp only [Array.getElem?_modify,if_true,hg,Option.map_some];rfl
   . rw [Array.toList_setIfInBounds,List.take_set,ht]
theorem set_app4 (x:MS) (r:List Value) (i:Nat) (u:Value):(encM x ++ r).set (i+4) u=encM x ++ r.set i u:=rfl
theorem flat_bare:∀ (xs:List MS) (k:Nat) (hk:k < xs.length),(((xs.flatMap encM).set (k * 4+1) (.int .i64 0)).set (k * 4+2) (.int .i64 0)).set (k * 4+3) (.string ⟨#[]⟩)=(xs.set k (barM xs[k])).flatMap encM
 | [],k,hk=>by simp at hk
 | x :: xs,0,_=>rfl
 | x :: xs,k+1,hk=>by
   have IH:=flat_bare xs k (by simpa using hk);rw [List.set_cons_succ,List.flatMap_cons,List.flatMap_cons];rw [show (k+1) * 4+1=(k * 4+1)+4 by omega,show (k+1) * 4+2=(k * 4+2)+4 by omega,show (k+1) * 4+3=(k * 4+3)+4 by omega,set_app4,set_app4,set_app4,IH];rfl
def aV (v:Value) (d:Bool) (ty nm:List UInt8) (k:KeyT):Value:=.agg #[v,.bool d,.string ⟨ty.toArray⟩,.string ⟨nm.toArray⟩,.int .i64 k.1,.int .i64 k.2.1,.string ⟨k.2.2.toArray⟩]
def mix (k:Nat) (xs:List MS):List MS:=(xs.take k).map barM ++ xs.drop k
theorem mix_len (k:Nat) (xs:List MS):(mix k xs).length=xs.length:=by
 unfold mix;rw [List.length_append,List.length_map,List.length_take,List.length_drop];omega
theorem mix_get {k:Nat} {xs:List MS} (hk:k < xs.length):(mix k xs)[k]'(by rw [mix_len];exact hk)=xs[k]:=by
 have h:(mix k xs)[k]?=xs[k]?:=by
  unfold mix;rw [List.getElem?_append_right (by rw [List.length_map,List.length_take];omega),List.getElem?_drop,List.length_map,List.length_take]
  congr 1;omega
 rw [List.getElem?_eq_getElem hk,List.getElem?_eq_getElem (by rw [mix_len];exact hk)] at h;exact Option.some.inj h
theorem mix_set {k:Nat} {xs:List MS} (hk:k < xs.length):(mix k xs).set k (barM xs[k])=mix (k+1) xs:=by
 unfold mix;rw [List.set_append_right _ _ (by rw [List.length_map,List.length_take];omega),List.drop_eq_getElem_cons hk,List.length_map,List.length_take,show k - min k xs.length=0 by omega,List.set_cons_zero,List.take_succ_eq_append_getElem hk,List.map_append];simp
structure Sp (w W:World) (v:Value) (xs:List MS) (d:Bool) (ty nm:List UInt8):Prop where
 ad:W.heap[w.heap.size+1+1]?=some (aO v d ty nm (0,0,[]))
 re:W.heap[w.heap.size+1]?=some (aO (.slice none 0 0) false [] [] (0,0,[]))
 own:OwnM (w.heap.size+3) W v xs
 bel:Below w.heap.size w W
theorem Sp.step {w W:World} {v:Value} {xs:List MS} {d:Bool} {ty nm:List UInt8} {k:Nat} (h:Sp w W v (mix k xs) d ty nm) (hk:k < xs.length):∃ g cap,v=.slice (some ⟨g,0,none⟩) xs.length cap/\xs.length<=cap/\cap<=9223372036854775807 /\
  (∀ o,W.frozen? ⟨g,o,none⟩=false)/\(∀ j,j < 4->∃ u,W.cell? ⟨g,k * 4+j,none⟩=some u) /\
  Sp w (((W.setCell ⟨g,k * 4+1,none⟩ (.int .i64 0)).setCell ⟨g,k * 4+2,none⟩ (.int .i64 0)).setCell ⟨g,k * 4+3,none⟩ (.string ⟨#[]⟩)) v (mix (k+1) xs) d ty nm:=by
 have ho:=h.own;unfold OwnM at ho;rw [mix_len] at ho;have hlt:=ho.lt;rcases ho.2 with ⟨rfl,h0⟩ | ⟨g,cap,cur,rfl,hb,hg,hn,hc,hs,ht⟩
 . omega
 unfold maxLen at hc;refine ⟨g,cap,rfl,hn,hc,fun o=>by unfold World.frozen?;simp [hg],fun j hj=>⟨cur[k * 4+j]'(by omega),by unfold World.cell?;simp only [hg];exact Array.getElem?_eq_getElem _⟩,?_⟩;have hne:∀ (X:World) (i j:Nat) (u:Value),j < w.heap.size+3->(X.setCell ⟨g,i,none⟩ u).heap[j]?=X.heap[j]?:=fun X i j u hj=>Below.heap_setCell _ _ _ _ (by simp only;omega);refine ⟨?_,?_,?_,?_⟩
 . rw [hne _ _ _ _ (by omega),hne _ _ _ _ (by omega),hne _ _ _ _ (by omega)];exact h.ad
 . rw [hne _ _ _ _ (by omega),hne _ _ _ _ (by omega),hne _ _ _ _ (by omega)];exact h.re
 . have hs3:=own_setc (own_setc (own_setc ho (k * 4+1) (.int .i64 0)) (k * 4+2) (.int .i64 0)) (k * 4+3) (.string ⟨#[]⟩)
   rw [flat_bare (mix k xs) k (by rw [mix_len];exact hk),mix_get hk,mix_set hk] at hs3;unfold OwnM;rw [mix_len];exact hs3
 . exact (((h.bel.setCell (show w.heap.size<=g by omega) _).setCell (show w.heap.size<=g by omega) _).setCell (show w.heap.size<=g by omega) _)
def StaR (w:World) (xs:List MS) (d:Bool) (ty nm:List UInt8) (e:Ending) (w':World):Prop:=∃ v',e=.returned (aV v' d ty nm (0,0,[]))/\OwnM w.heap.size w' v' (xs.map barM)/\Below w.heap.size w w'
theorem mix_zero (xs:List MS):mix 0 xs=xs:=by simp [mix]
theorem mix_all (xs:List MS):mix xs.length xs=xs.map barM:=by simp [mix]
theorem Sp.start {w w1:World} {o:Obj} {u v':Value} {xs:List MS} {d:Bool} {ty nm:List UInt8} (hb:Below ((((w.alloc o).alloc (aO (.slice none 0 0) false [] [] (0,0,[]))).alloc (aO u d ty nm (0,0,[]))).heap.size) (((w.alloc o).alloc (aO (.slice none 0 0) false [] [] (0,0,[]))).alloc (aO u d ty nm (0,0,[]))) w1) (ho:OwnM (((w.alloc o).alloc (aO (.slice none 0 0) false [] [] (0,0,[]))).alloc (aO u d ty nm (0,0,[]))).heap.size w1 v' xs) :
  (w1.cell? ⟨w.heap.size+1+1,0,none⟩=some u/\w1.frozen? ⟨w.heap.size+1+1,0,none⟩=false)/\Sp w (w1.setCell ⟨w.heap.size+1+1,0,none⟩ v') v' (mix 0 xs) d ty nm:=by
 have hW:Below w.heap.size w (((w.alloc o).alloc (aO (.slice none 0 0) false [] [] (0,0,[]))).alloc (aO u d ty nm (0,0,[]))):=(((Below.refl _ _).alloc (Nat.le_refl _) _).alloc (by simp) _).alloc (by simp;omega) _;have hz:((((w.alloc o).alloc (aO (.slice none 0 0) false [] [] (0,0,[]))).alloc (aO u d ty nm (0,0,[]))).heap.size)=w.heap.size+3:=by simp
 have h2:((((w.alloc o).alloc (aO (.slice none 0 0) false [] [] (0,0,[]))).alloc (aO u d ty nm (0,0,[]))).heap)[w.heap.size+1+1]?=some (aO u d ty nm (0,0,[])):=by
  have:=ko_new ((w.alloc o).alloc (aO (.slice none 0 0) false [] [] (0,0,[]))) (aO u d ty nm (0,0,[]));simpa using this
 have h1:((((w.alloc o).alloc (aO (.slice none 0 0) false [] [] (0,0,[]))).alloc (aO u d ty nm (0,0,[]))).heap)[w.heap.size+1]?=some (aO (.slice none 0 0) false [] [] (0,0,[])):=by
  have hk:=ko_new (w.alloc o) (aO (.slice none 0 0) false [] [] (0,0,[]));have hbb:Below ((w.alloc o).alloc (aO (.slice none 0 0) false [] [] (0,0,[]))).heap.size ((w.alloc o).alloc (aO (.slice none 0 0) false [] [] (0,0,[]))) (((w.alloc o).alloc (aO (.slice none 0 0) false [] [] (0,0,[]))).alloc (aO u d ty nm (0,0,[]))):=(Below.refl _ _).alloc (Nat.le_refl _) _;have:=(hbb.block _ (lt_of_block hk)).trans hk;simpa using this
 rw [hz] at hb ho;generalize ((w.alloc o).alloc (aO (.slice none 0 0) false [] [] (0,0,[]))).alloc (aO u d ty nm (0,0,[]))=W3 at *;have k2:=(hb.block _ (by omega)).trans h2;have k1:=(hb.block _ (by omega)).trans h1;obtain ⟨c0,_,_,_,_,_,_,cf,_⟩:=ao_cells k2;refine ⟨⟨c0,cf 0⟩,?_,?_,?_,?_⟩
 . unfold World.setCell aO at *
   simp only [Array.getElem?_modify,if_true,k2,Option.map_some];rfl
 . rw [Below.heap_setCell _ _ _ _ (by simp only;omega)];exact k1
 . rw [mix_zero]
   refine kept_off ho (grown_setC w1 ⟨w.heap.size+1+1,0,none⟩ v') (fun g hg e=>?_);have:=(ho.lt g hg).1;simp at e;omega
 . exact (hW.trans (hb.mono (by omega))).setCell (show w.heap.size<=w.heap.size+1+1 by omega) _
theorem row_le {w:World} {B B' sz n:Nat} {e:TypeId} {v:Value} {xs:List Value} (h:w.ownsRow B e sz v n xs) (hb:B'<=B):w.ownsRow B' e sz v n xs:=⟨h.1,h.2.imp id fun ⟨g,cap,cur,e,hb2,r⟩=>⟨g,cap,cur,e,by omega,r⟩⟩
theorem ao_fin {W:World} {b:Nat} {v0:Value} {d0:Bool} {ty0 nm0:List UInt8} {k0:KeyT} (hre:W.heap[b]?=some (aO v0 d0 ty0 nm0 k0)) (v2:Value) (d2:Bool) (ty2 nm2:List UInt8) (k2:KeyT) (W':World)
  (e:W'=((((((W.setCell ⟨b,0,none⟩ v2).setCell ⟨b,1,none⟩ (.bool d2)).setCell ⟨b,2,none⟩ (.string ⟨ty2.toArray⟩)).setCell ⟨b,3,none⟩ (.string ⟨nm2.toArray⟩)).setCell ⟨b,4,none⟩ (.int .i64 k2.1)).setCell ⟨b,5,none⟩ (.int .i64 k2.2.1)).setCell ⟨b,6,none⟩ (.string ⟨k2.2.2.toArray⟩)):W'.heap[b]?=some (aO v2 d2 ty2 nm2 k2)/\W.grownBy W' (some b):=by
 subst e;refine ⟨?_,grown_trans (grown_trans (grown_trans (grown_trans (grown_trans (grown_trans (grown_setC W ⟨b,0,none⟩ v2) (grown_setC _ ⟨b,1,none⟩ (.bool d2))) (grown_setC _ ⟨b,2,none⟩ (.string ⟨ty2.toArray⟩))) (grown_setC _ ⟨b,3,none⟩ (.string ⟨nm2.toArray⟩))) (grown_setC _ ⟨b,4,none⟩ (.int .i64 k2.1))) (grown_setC _ ⟨b,5,none⟩ (.int .i64 k2.2.1))) (grown_setC _ ⟨b,6,none⟩ (.string ⟨k2.2.2.toArray⟩))⟩;unfold World.setCell aO at *;simp only [Array.getElem?_modify,if_true,hre,Option.map_some];rfl
theorem Sp.fin {w W W':World} {v:Value} {xs:List MS} {d:Bool} {ty nm:List UInt8} (h:Sp w W v xs d ty nm) (e:W'=((((((W.setCell ⟨w.heap.size+1,0,none⟩ v).setCell ⟨w.heap.size+1,1,none⟩ (.bool d)).setCell ⟨w.heap.size+1,2,none⟩ (.string ⟨ty.toArray⟩)).setCell ⟨w.heap.size+1,3,none⟩ (.string ⟨nm.toArray⟩)).setCell ⟨w.heap.size+1,4,none⟩ (.int .i64 0)).setCell ⟨w.heap.size+1,5,none⟩ (.int .i64 0)).setCell ⟨w.heap.size+1,6,none⟩ (.string ⟨#[]⟩)) :
  W'.heap[w.heap.size+1]?=some (aO v d ty nm (0,0,[]))/\OwnM w.heap.size W' v xs/\Below w.heap.size w W':=by
 obtain ⟨h1,hg⟩:=ao_fin h.re v d ty nm (0,0,[]) W' e;refine ⟨h1,row_le (kept_off h.own hg (fun g hg2 e=>?_)) (by omega),h.bel.grown hg h.bel.size (fun k hk=>by cases hk;omega)⟩;have:=(h.own.lt g hg2).1;simp at e;omega
set_option maxHeartbeats 4000000 in
theorem static_any (B:Nat) (v:Value) (xs:List MS) (d:Bool) (ty nm:List UInt8) (k:KeyT) (w:World) (h:OwnM B w v xs) (hn:xs.length<=2000000):Calls Tryz.prog 168 #[aV v d ty nm k] w (StaR w xs d ty nm):=by
 obtain ⟨r,c,rfl,_,_⟩:=own_form h;have HCL:=hid (fun (W:World) (hW:Below w.heap.size w W)=>clone_m B (.slice r xs.length c) xs W (kept_off h (grown_below hW) (fun _ _ e=>by cases e)) hn);clear h;unfold aV;go_enter Tryz.func168,Tryz.ntmps168;go_wp2_with fail
 refine Calls.mono (HCL.out _ (by exact (((Below.refl _ _).alloc (Nat.le_refl _) _).alloc (by simp) _).alloc (by simp;omega) _)) ?_;clear HCL;rintro e w1 ⟨v',rfl,ho,hb⟩;obtain ⟨r2,c2,rfl,hc1,hc2⟩:=own_form ho;obtain ⟨⟨s0,s1⟩,hP⟩:=Sp.start hb ho;have HP:=hid hP;clear hP hb ho;go_wp2
 go_loopw [15] (fun t wr=>∃ k:Nat,k<=xs.length/\t=.int .i64 k/\Hid (Sp w wr (.slice r2 (xs.length) c2) (mix k xs) d ty nm)) (fun t _=>xs.length - (RowKit.intOf t).toNat)
 case atStart=>exact ⟨0,Nat.zero_le _,rfl,HP⟩
 case round =>
  clear HP s0 s1;obtain ⟨k,hk,rfl,HP⟩:=hrel;obtain ⟨a0,_,_,_,_,_,_,af,_⟩:=ao_cells HP.out.ad;have f0:=af 0;clear af
  by_cases hlt:k < xs.length
  . obtain ⟨g,cap,hv,h1,h2,h3,h4,h5⟩:=HP.out.step hlt
    cases hv;obtain ⟨u1,q1⟩:=h4 1 (by omega);obtain ⟨u2,q2⟩:=h4 2 (by omega);obtain ⟨u3,q3⟩:=h4 3 (by omega);have p1:=h3 (k * 4+1);have p2:=h3 (k * 4+2);have p3:=h3 (k * 4+3);have HP5:=hid h5;clear h5 h3 h4;go_wp2
    go_roundw
    case rel=>exact ⟨k+1,by omega,by go_num,HP5⟩
    case measure=>simp [RowKit.intOf];omega
  . obtain ⟨_,a1,a2,a3,a4,a5,a6,_,_⟩:=ao_cells HP.out.ad
    obtain ⟨e0,e1,e2,e3,e4,e5,e6,ef,_⟩:=ao_cells HP.out.re;have g0:=ef 0;have g1:=ef 1;have g2:=ef 2;have g3:=ef 3;have g4:=ef 4;have g5:=ef 5;have g6:=ef 6;obtain rfl:k=xs.length:=by omega
    go_wp2
    obtain ⟨hb,ho,hbel⟩:=HP.out.fin rfl;obtain ⟨k0,k1,k2,k3,k4,k5,k6,_,_⟩:=ao_cells hb;rw [mix_all] at ho;exact bodyPost_ret (v:=aV (.slice r2 xs.length c2) d ty nm (0,0,[])) (by simp [results,Tryz.results168,go_sem,k0,k1,k2,k3,k4,k5,k6,aV]) rfl ⟨_,rfl,ho,hbel⟩
def k0V:Value:=.agg #[.int .i64 0,.int .i64 0,.string ⟨#[]⟩]
theorem valid0 (w:World):Calls Tryz.prog 234 #[k0V] w fun e w'=>e=.returned (.bool true)/\Below w.heap.size w w':=by
 unfold k0V;go_enter Tryz.func234,Tryz.ntmps234;go_wp2
 go_ret
 exact ⟨rfl,(Below.refl _ _).alloc (Nat.le_refl _) _⟩
theorem fkey0 (w:World):Calls Tryz.prog 207 #[k0V] w fun e w'=>e=.returned (.string ⟨#[]⟩)/\Below w.heap.size w w':=by
 have HV:=hid (fun W=>valid0 W);unfold k0V at *;go_enter Tryz.func207,Tryz.ntmps207;go_wp2_with (go_at_call 234;refine (HV.out _).mono ?_;rintro e w1 ⟨rfl,hb⟩;obtain ⟨hc,hf⟩:=bcellB hb)
 go_ret
 exact ⟨rfl,((Below.refl _ _).alloc (Nat.le_refl _) _).trans (hb.mono (by simp))⟩
def MsR (_:World) (cs:List Value) (x:MS):Prop:=cs=encM x
theorem msR_mono:Mono MsR:=fun _ _ _ _ _ h=>h
theorem OwnM.sl {B:Nat} {w:World} {v:Value} {xs:List MS} (h:OwnM B w v xs):Sl MsR 4 w v xs:=sl_of_own encM encM_len h
theorem ms_at {w:World} {r:Option Addr} {n c:Nat} {xs:List MS} (h:Sl MsR 4 w (.slice r n c) xs) (i:Nat) (hi:i < xs.length) :
  ∃ b off,r=some ⟨b,off,none⟩/\b < w.heap.size/\w.cell? ⟨b,off+i * 4,none⟩=some (.string ⟨(xs[i]).1.toArray⟩)/\w.cell? ⟨b,off+i * 4+1,none⟩=some (.int .i64 (xs[i]).2.1)/\w.cell? ⟨b,off+i * 4+2,none⟩=some (.int .i64 (xs[i]).2.2.1)/\w.cell? ⟨b,off+i * 4+3,none⟩=some (.string ⟨(xs[i]).2.2.2.toArray⟩):=by
 obtain ⟨r',c',e,h1,h2,he⟩:=h;simp at e;obtain ⟨rfl,rfl,rfl⟩:=e;obtain ⟨b,off,cs,hr,hs,hc,hv⟩:=he i hi;unfold MsR at hv;subst hv;have g0:=hc 0 _ rfl;exact ⟨b,off,hr,World.block_lt_of_cell? w _ g0,g0,hc 1 _ rfl,hc 2 _ rfl,hc 3 _ rfl⟩
def Bare (xs:List MS):Prop:=xs.length<=16/\∀ x∈xs,idB x.1=true/\x.2=(0,0,[])
theorem id_len {l:List UInt8} (h:idB l=true):l.length<=64:=by
 unfold idB at h;simp only [Bool.and_eq_true,decide_eq_true_eq] at h;exact h.1.1.2
theorem id_yes {l:List UInt8} (h:idB l=true) (w:World):Calls Tryz.prog 83 #[.string ⟨l.toArray⟩] w fun e w'=>e=.returned (.bool true)/\w=w':=by
 have h2:=pident_any ⟨l.toArray⟩ w (by rw [arr_size];have:=id_len h;omega);rw [show idB (⟨l.toArray⟩:ByteArray).data.toList=true from h] at h2;exact h2
theorem kd_yes {l:List UInt8} (h:kdB l=true) (w:World):Calls Tryz.prog 99 #[.string ⟨l.toArray⟩] w fun e w'=>e=.returned (.bool true)/\w=w':=by
 have h1:(idB l && !rsv l)=true:=h;have h2:=pkind_any ⟨l.toArray⟩ w (by rw [arr_size];rw [Bool.and_eq_true] at h1;have:=id_len h1.1;omega);rw [show (idB (⟨l.toArray⟩:ByteArray).data.toList && !rsv (⟨l.toArray⟩:ByteArray).data.toList)=true from h1] at h2;exact h2
set_option maxHeartbeats 4000000 in
theorem check0 (r:Option Addr) (c:Nat) (xs:List MS) (d:Bool) (ty nm:List UInt8) (w:World) (h:Sl MsR 4 w (.slice r xs.length c) xs) (hx:Bare xs) (hty:kdB ty=true) (hnm:idB nm=true) :
  Calls Tryz.prog 206 #[aV (.slice r xs.length c) d ty nm (0,0,[])] w fun e w'=>e=.returned (.int .i64 0)/\Below w.heap.size w w':=by
 obtain ⟨_,hl,hm⟩:=sl_len h;have h16:=hx.1;have HE:=hid (fun (W:World) (hW:Below w.heap.size w W)=>ms_at (h.below msR_mono hW));have HX:=hid hx.2;have HV:=hid (fun W=>valid0 W);have HK:=hid (fun W=>kd_yes hty W);have HN:=hid (fun W=>id_yes hnm W);have HB0:=hid (show Below w.heap.size w (w.alloc (.cells #[.slice r xs.length c,.bool d,.string ⟨ty.toArray⟩,.string ⟨nm.toArray⟩,.int .i64 0,.int .i64 0,.string ⟨#[]⟩] 93)) from (Below.refl _ _).alloc (Nat.le_refl _) _);clear h hx hty hnm;unfold aV;unfold k0V at HV;go_enter Tryz.func206,Tryz.ntmps206;go_wp2
 have hz:(w.alloc (.cells #[.slice r xs.length c,.bool d,.string ⟨ty.toArray⟩,.string ⟨nm.toArray⟩,.int .i64 0,.int .i64 0,.string ⟨#[]⟩] 93)).heap.size=w.heap.size+1:=by simp
 obtain ⟨z0,z1,z2,z3,z4,z5,z6,_⟩:=ao_cells (v:=.slice r xs.length c) (d:=d) (ty:=ty) (nm:=nm) (k:=(0,0,[])) (ko_new w (.cells #[.slice r xs.length c,.bool d,.string ⟨ty.toArray⟩,.string ⟨nm.toArray⟩,.int .i64 0,.int .i64 0,.string ⟨#[]⟩] 93));have HZ:=hid (And.intro z2 (And.intro z3 (And.intro z4 (And.intro z5 z6))));clear z0 z1 z2 z3 z4 z5 z6;generalize w.alloc (.cells #[.slice r xs.length c,.bool d,.string ⟨ty.toArray⟩,.string ⟨nm.toArray⟩,.int .i64 0,.int .i64 0,.string ⟨#[]⟩] 93)=W0 at *;have HS:=hid hz;clear hz;go_loopw [12] (fun t wr=>∃ k:Nat,k<=xs.length/\t=.int .i64 k/\Hid (Below W0.heap.size W0 wr)) (fun t _=>xs.length - (RowKit.intOf t).toNat)
 case atStart=>exact ⟨0,Nat.zero_le _,rfl,hid (Below.refl _ _)⟩
 case round =>
  obtain ⟨k,hk,rfl,HW⟩:=hrel
  by_cases hlt:k < xs.length
  . obtain ⟨b,off,rfl,hb,g0,g1,g2,g3⟩:=HE.out wr (HB0.out.trans (HW.out.mono (by rw [HS.out];omega))) k hlt
    obtain ⟨j1,j2⟩:=HX.out xs[k] (List.getElem_mem hlt);rw [j2] at g1 g2 g3;have HI:=hid (fun W=>id_yes j1 W);clear j1 j2;generalize xs[k].1=s at *
    go_wp2_with (first
     | (go_at_call 83;refine (HI.out _).mono ?_;rintro e w3 ⟨rfl,rfl⟩)
     | (go_at_call 234;refine (HV.out _).mono ?_;rintro e w4 ⟨rfl,hb4⟩;have HB4:=hid hb4;clear hb4))
    go_roundw
    case rel=>exact ⟨k+1,by omega,by go_num,hid (HW.out.trans ((((Below.refl _ _).alloc (Nat.le_refl _) _).trans (HB4.out.mono (by simp))).mono HW.out.size))⟩
    case measure=>simp [RowKit.intOf];omega
  . obtain ⟨z2,z3,z4,z5,z6⟩:=HZ.out
    have q2:=bget HW.out z2;have q3:=bget HW.out z3;have q4:=bget HW.out z4;have q5:=bget HW.out z5;have q6:=bget HW.out z6;clear z2 z3 z4 z5 z6
    go_wp2_with (first
     | (go_at_call 99;refine (HK.out _).mono ?_;rintro e w3 ⟨rfl,rfl⟩)
     | (go_at_call 83;refine (HN.out _).mono ?_;rintro e w3 ⟨rfl,rfl⟩)
     | (go_at_call 234;refine (HV.out _).mono ?_;rintro e w4 ⟨rfl,hb4⟩;have HB4:=hid hb4;clear hb4))
    go_ret
    exact ⟨rfl,(HB0.out.trans (HW.out.mono (by rw [HS.out];omega))).trans (HB4.out.mono (by have:=HW.out.size;have:=HS.out;omega))⟩
def stpB (x:MS):List UInt8:=MODP ++ x.1 ++ [46]
def fmtB (xs:List MS) (d:Bool) (ty nm:List UInt8):List UInt8:=xs.flatMap stpB ++ (if d=true then DATP else []) ++ (ty ++ [46] ++ nm)
theorem pre_len {xs:List MS} (h:∀ x∈xs,idB x.1=true):(xs.flatMap stpB).length<=xs.length * 72:=by
 induction xs with
 | nil=>simp
 | cons x xs ih =>
   have h1:=id_len (h x (by simp));have h2:=ih (fun y hy=>h y (by simp [hy]));rw [List.flatMap_cons,List.length_append,List.length_cons];have:(stpB x).length<=72:=by unfold stpB MODP;simp;omega
   omega
theorem cat_mod (s:List UInt8) (h:s.length<=64) (W:World):(Op.stringOp .add ⟨#[109,111,100,117,108,101,46]⟩ ⟨s.toArray⟩).run Tryz.prog W=.ok (.string ⟨(MODP ++ s).toArray⟩) W:=cat_run W MODP s (by unfold MODP;simp;omega)
theorem cat_nil (p:List UInt8) (h:p.length<=1200000) (W:World):(Op.stringOp .add ⟨p.toArray⟩ ⟨#[]⟩).run Tryz.prog W=.ok (.string ⟨p.toArray⟩) W:=by
 have:=cat_run W p [] (by simp;omega);rw [List.append_nil] at this;exact this
theorem cat_dot (p:List UInt8) (h:p.length<=1200000) (W:World):(Op.stringOp .add ⟨p.toArray⟩ ⟨#[46]⟩).run Tryz.prog W=.ok (.string ⟨(p ++ [46]).toArray⟩) W:=cat_run W p [46] (by simp;omega)
set_option maxHeartbeats 8000000 in
theorem format0 (r:Option Addr) (c:Nat) (xs:List MS) (d:Bool) (ty nm:List UInt8) (w:World) (h:Sl MsR 4 w (.slice r xs.length c) xs) (hx:Bare xs) (hty:kdB ty=true) (hnm:idB nm=true) :
  Calls Tryz.prog 167 #[aV (.slice r xs.length c) d ty nm (0,0,[])] w fun e w'=>e=.returned (.string ⟨(fmtB xs d ty nm).toArray⟩)/\Below w.heap.size w w':=by
 obtain ⟨_,hl,hm⟩:=sl_len h;have h16:=hx.1;have HE:=hid (fun (W:World) (hW:Below w.heap.size w W)=>ms_at (h.below msR_mono hW));have HX:=hid hx.2;have HC:=hid (fun (W:World) (hW:Below w.heap.size w W)=>check0 r c xs d ty nm W (h.below msR_mono hW) hx hty hnm);have HF:=hid (fun W=>fkey0 W)
 have hty2:ty.length<=64:=by
  have h1:(idB ty && !rsv ty)=true:=hty;rw [Bool.and_eq_true] at h1;exact id_len h1.1
 have hnm2:=id_len hnm;have HP:=hid (fun k=>pre_len (xs:=xs.take k) (fun x hx2=>(hx.2 x (List.mem_of_mem_take hx2)).1));have HB0:=hid (show Below w.heap.size w (w.alloc (.cells #[.slice r xs.length c,.bool d,.string ⟨ty.toArray⟩,.string ⟨nm.toArray⟩,.int .i64 0,.int .i64 0,.string ⟨#[]⟩] 93)) from (Below.refl _ _).alloc (Nat.le_refl _) _)
 have HZ:=hid (fun (W:World) (hb:Below (w.alloc (.cells #[.slice r xs.length c,.bool d,.string ⟨ty.toArray⟩,.string ⟨nm.toArray⟩,.int .i64 0,.int .i64 0,.string ⟨#[]⟩] 93)).heap.size (w.alloc (.cells #[.slice r xs.length c,.bool d,.string ⟨ty.toArray⟩,.string ⟨nm.toArray⟩,.int .i64 0,.int .i64 0,.string ⟨#[]⟩] 93)) W)=>show (W.cell? ⟨w.heap.size,0,none⟩=some (.slice r xs.length c)/\W.cell? ⟨w.heap.size,1,none⟩=some (.bool d)/\W.cell? ⟨w.heap.size,2,none⟩=some (.string ⟨ty.toArray⟩)/\W.cell? ⟨w.heap.size,3,none⟩=some (.string ⟨nm.toArray⟩)/\W.cell? ⟨w.heap.size,4,none⟩=some (.int .i64 0)/\W.cell? ⟨w.heap.size,5,none⟩=some (.int .i64 0)/\W.cell? ⟨w.heap.size,6,none⟩=some (.string ⟨#[]⟩))/\w.heap.size < W.heap.size from by
  obtain ⟨z0,z1,z2,z3,z4,z5,z6,_⟩:=ao_cells (v:=.slice r xs.length c) (d:=d) (ty:=ty) (nm:=nm) (k:=(0,0,[])) (ko_new w (.cells #[.slice r xs.length c,.bool d,.string ⟨ty.toArray⟩,.string ⟨nm.toArray⟩,.int .i64 0,.int .i64 0,.string ⟨#[]⟩] 93));exact ⟨⟨bget hb z0,bget hb z1,bget hb z2,bget hb z3,bget hb z4,bget hb z5,bget hb z6⟩,by have:=hb.size;simp at this;omega⟩)
 clear h hx hty hnm;unfold aV at *;unfold k0V at HF;go_enter Tryz.func167,Tryz.ntmps167;go_wp2_with (go_at_call 206;refine (HC.out _ HB0.out).mono ?_;rintro e w1 ⟨rfl,hb1⟩;have HB1:=hid (HB0.out.trans (hb1.mono HB0.out.size));obtain ⟨⟨q0,q1,q2,q3,q4,q5,q6⟩,hlt1⟩:=HZ.out _ hb1;clear hb1 HZ)
 have HBN:=hid (bl_new w1 w1.heap.size (Nat.le_refl _));have HBA:=hid (show Below w1.heap.size w1 (w1.alloc (.cells #[.pointer none,.slice none 0 0] 205)) from (Below.refl _ _).alloc (Nat.le_refl _) _);have HQ:=hid (And.intro q1 (And.intro q2 (And.intro q3 (And.intro q4 (And.intro q5 q6)))));clear q0 q1 q2 q3 q4 q5 q6;generalize w1.alloc (.cells #[.pointer none,.slice none 0 0] 205)=wA at *;go_loopw [12] (fun t wr=>∃ k:Nat,k<=xs.length/\t=.int .i64 k/\Hid (BL w1.heap.size w1.heap.size ((xs.take k).flatMap stpB) wr)/\Hid (Below w1.heap.size w1 wr)) (fun t _=>xs.length - (RowKit.intOf t).toNat)
 case atStart=>exact ⟨0,Nat.zero_le _,rfl,hid (by simpa using HBN.out),HBA⟩
 case round =>
  clear HBN HBA;obtain ⟨k,hk,rfl,HL,HW⟩:=hrel
  by_cases hlt:k < xs.length
  . obtain ⟨b,off,rfl,hb,g0,g1,g2,g3⟩:=HE.out wr (HB1.out.trans (HW.out.mono HB1.out.size)) k hlt
    have HTK:=hid (show (xs.take (k+1)).flatMap stpB=(xs.take k).flatMap stpB ++ (MODP ++ xs[k].1 ++ [46]) by rw [List.take_succ_eq_append_getElem hlt,List.flatMap_append];simp [stpB]);have hp:=HP.out k;obtain ⟨j1,j2⟩:=HX.out xs[k] (List.getElem_mem hlt);have hs:=id_len j1;rw [j2] at g1 g2 g3;clear j1 j2;generalize xs[k].1=s at *;have HPL:=hid (show ((xs.take k).flatMap stpB).length<=1000000000 by rw [List.length_take] at hp;omega);clear hp;have hm1:=cat_mod s hs;have hp1:(MODP ++ s).length<=100:=by unfold MODP;simp;omega
    generalize hpe:MODP ++ s=p1 at *;have hn1:=cat_nil p1 (by omega);have hd1:=cat_dot p1 (by omega);have hp2:(p1 ++ [46]).length<=101:=by rw [List.length_append];simp;omega
    generalize p1 ++ [46]=p2 at *;have HP2:=hid (show (⟨p2.toArray⟩:ByteArray).size<=1000000000 by rw [arr_size];omega);clear hpe hp1 hp2 hs hl hm hty2 hnm2;have HBS:=hid (show Below wr.heap.size wr ((wr.alloc (.cells #[.string ⟨s.toArray⟩,.int .i64 0,.int .i64 0,.string ⟨#[]⟩] 124)).drew) from below_alloc_drew _ _);have HLD:=hid (bl_kept HL.out HBS.out);go_wp2_with fail
    go_region_law
     (first
     | (go_simp
        go_at_call 207;refine (HF.out _).mono ?_;rintro e w3 ⟨rfl,hb3⟩;obtain ⟨hc3,hf3⟩:=bcellB hb3;have HL3:=hid (bl_kept HLD.out hb3);have HB3:=hid (HBS.out.trans (hb3.mono HBS.out.size));clear hb3)
     | (go_simp
        go_at_call 185;refine (bstr_b w1.heap.size w1.heap.size _ _ _ HL3.out HPL.out HP2.out (Nat.le_trans HW.out.size HB3.out.size)).mono ?_;rintro e w4 ⟨rfl,hl4,hb4⟩;have HL4:=hid hl4;have HB4:=hid hb4;clear hb4 hl4))
    all_goals go_wp2
    all_goals go_roundw
    all_goals first
     | (case measure=>simp [RowKit.intOf];omega)
     | exact ⟨k+1,by omega,by go_num,hid (by rw [HTK.out];exact HL4.out),hid (HW.out.trans ((HB3.out.mono HW.out.size).trans HB4.out))⟩
     | skip
  . obtain rfl:k=xs.length:=by omega
    rw [List.take_length] at HL;have hp:=HP.out xs.length;rw [List.take_length] at hp;have hdt:=cat_dot ty (by omega);have hdn:=fun W=>cat_run W (ty ++ [46]) nm (by rw [List.length_append];simp;omega);have hl1:(ty ++ [46] ++ nm).length<=129:=by rw [List.length_append,List.length_append];simp;omega
    have hnn:=cat_nil (ty ++ [46] ++ nm) (by omega);have HFM:=hid (show fmtB xs d ty nm=xs.flatMap stpB ++ (if d=true then DATP else []) ++ (ty ++ [46] ++ nm) from rfl);generalize xs.flatMap stpB=P at *;generalize ty ++ [46] ++ nm=p2 at *;generalize ty ++ [46]=p1 at *;have HP2:=hid (show (⟨p2.toArray⟩:ByteArray).size<=1000000000 by rw [arr_size];omega);have HPL:=hid (show P.length<=2000 by omega);clear hl1 hp hty2 hnm2 hl hm hlt;obtain ⟨q1,q2,q3,q4,q5,q6⟩:=HQ.out;have bg:∀ (o:Nat) (v:Value) (A B:World),Below w1.heap.size A B->A.cell? ⟨w.heap.size,o,none⟩=some v->B.cell? ⟨w.heap.size,o,none⟩=some v:=fun _ _ _ _ hb h=>(hb.cell (p:=⟨w.heap.size,_,none⟩) hlt1).trans h;have HBG:=hid bg;clear bg;have r1:=HBG.out _ _ _ _ HW.out q1;have r2:=HBG.out _ _ _ _ HW.out q2;have r3:=HBG.out _ _ _ _ HW.out q3;have r4:=HBG.out _ _ _ _ HW.out q4;have r5:=HBG.out _ _ _ _ HW.out q5;have r6:=HBG.out _ _ _ _ HW.out q6;clear q1 q2 q3 q4 q5 q6 HQ;have HST:=hid (fun (l:List UInt8) (W:World) (h:BL w1.heap.size w1.heap.size l W) (hW:w1.heap.size<=W.heap.size)=>Tryz.Builder_String_any w1.heap.size w1.heap.size l W h hW);cases d
    case false =>
     have HPF:=hid (show P.length<=1000000000 by have:=HPL.out;omega);go_wp2_with fail
     have HD:=hid (show Below wr.heap.size wr wr.drew from (Below.refl _ _).drew);have HLD:=hid (bl_kept HL.out HD.out);have HS0:=hid (show wr.drew.cell? ⟨w.heap.size,2,none⟩=some (.string ⟨ty.toArray⟩)/\wr.drew.cell? ⟨w.heap.size,3,none⟩=some (.string ⟨nm.toArray⟩)/\wr.drew.cell? ⟨w.heap.size,4,none⟩=some (.int .i64 0)/\wr.drew.cell? ⟨w.heap.size,5,none⟩=some (.int .i64 0)/\wr.drew.cell? ⟨w.heap.size,6,none⟩=some (.string ⟨#[]⟩) from ⟨bget HD.out r2,bget HD.out r3,bget HD.out r4,bget HD.out r5,bget HD.out r6⟩);clear r1 r2 r3 r4 r5 r6
     go_region_held3 (fun w'=>w'.cell? ⟨w.heap.size,2,none⟩=some (.string ⟨ty.toArray⟩)/\w'.cell? ⟨w.heap.size,3,none⟩=some (.string ⟨nm.toArray⟩)/\w'.cell? ⟨w.heap.size,4,none⟩=some (.int .i64 0)/\w'.cell? ⟨w.heap.size,5,none⟩=some (.int .i64 0)/\w'.cell? ⟨w.heap.size,6,none⟩=some (.string ⟨#[]⟩)) (first | exact HS0.out | exact HS3.out | exact HS4.out)
      ((first
        | (go_at_call 207
           refine (HF.out _).mono ?_;rintro e w3 ⟨rfl,hb3⟩;have HL3:=hid (bl_kept HLD.out hb3);have HB3:=hid (HD.out.trans (hb3.mono HD.out.size));obtain ⟨s2,s3,s4,s5,s6⟩:=HS0.out;have HS3:=hid (And.intro (bget hb3 s2) (And.intro (bget hb3 s3) (And.intro (bget hb3 s4) (And.intro (bget hb3 s5) (bget hb3 s6)))));clear hb3 s2 s3 s4 s5 s6)
        | (go_at_call 185
           refine (bstr_b w1.heap.size w1.heap.size _ _ _ HL3.out HPF.out HP2.out (Nat.le_trans HW.out.size HB3.out.size)).mono ?_;rintro e w4 ⟨rfl,hl4,hb4⟩;have HL4:=hid hl4;have HB4:=hid hb4;obtain ⟨s2,s3,s4,s5,s6⟩:=HS3.out;have HS4:=hid (And.intro (HBG.out _ _ _ _ hb4 s2) (And.intro (HBG.out _ _ _ _ hb4 s3) (And.intro (HBG.out _ _ _ _ hb4 s4) (And.intro (HBG.out _ _ _ _ hb4 s5) (HBG.out _ _ _ _ hb4 s6)))));clear hb4 hl4 s2 s3 s4 s5 s6)))
     go_wp2_with (go_at_call 183;refine (HST.out _ _ HL4.out (Nat.le_trans (Nat.le_trans HW.out.size HB3.out.size) HB4.out.size)).mono ?_;rintro e w5 ⟨rfl,hb5⟩;have HB5:=hid hb5;clear hb5)
     go_ret
     have HBB:=HW.out.trans ((HB3.out.mono HW.out.size).trans HB4.out);exact ⟨ret_str (by rw [HFM.out];simp),HB1.out.trans ((HBB.trans HB5.out).mono HB1.out.size)⟩
    case true =>
     have HPF:=hid (show P.length<=1000000000 by have:=HPL.out;omega);have HPG:=hid (show (P ++ DATP).length<=1000000000 by have:=HPL.out;rw [List.length_append];unfold DATP;simp;omega);go_wp2_with (go_at_call 185;refine (bstr_b w1.heap.size w1.heap.size P ⟨#[100,97,116,97,46]⟩ _ HL.out HPF.out (by show 5<=1000000000;omega) HW.out.size).mono ?_;rintro e w2 ⟨rfl,hl2,hb2⟩;have HL2:=hid (show BL w1.heap.size w1.heap.size (P ++ DATP) w2 from hl2);have HW2:=hid (HW.out.trans hb2);have t1:=HBG.out _ _ _ _ hb2 r1;have t2:=HBG.out _ _ _ _ hb2 r2;have t3:=HBG.out _ _ _ _ hb2 r3;have t4:=HBG.out _ _ _ _ hb2 r4;have t5:=HBG.out _ _ _ _ hb2 r5;have t6:=HBG.out _ _ _ _ hb2 r6;clear hb2 hl2 r1 r2 r3 r4 r5 r6)
     have HD:=hid (show Below w2.heap.size w2 w2.drew from (Below.refl _ _).drew);have HLD:=hid (bl_kept HL2.out HD.out);have HS0:=hid (show w2.drew.cell? ⟨w.heap.size,2,none⟩=some (.string ⟨ty.toArray⟩)/\w2.drew.cell? ⟨w.heap.size,3,none⟩=some (.string ⟨nm.toArray⟩)/\w2.drew.cell? ⟨w.heap.size,4,none⟩=some (.int .i64 0)/\w2.drew.cell? ⟨w.heap.size,5,none⟩=some (.int .i64 0)/\w2.drew.cell? ⟨w.heap.size,6,none⟩=some (.string ⟨#[]⟩) from ⟨bget HD.out t2,bget HD.out t3,bget HD.out t4,bget HD.out t5,bget HD.out t6⟩);clear t1 t2 t3 t4 t5 t6
     go_region_held3 (fun w'=>w'.cell? ⟨w.heap.size,2,none⟩=some (.string ⟨ty.toArray⟩)/\w'.cell? ⟨w.heap.size,3,none⟩=some (.string ⟨nm.toArray⟩)/\w'.cell? ⟨w.heap.size,4,none⟩=some (.int .i64 0)/\w'.cell? ⟨w.heap.size,5,none⟩=some (.int .i64 0)/\w'.cell? ⟨w.heap.size,6,none⟩=some (.string ⟨#[]⟩)) (first | exact HS0.out | exact HS3.out | exact HS4.out)
      ((first
        | (go_at_call 207
           refine (HF.out _).mono ?_;rintro e w3 ⟨rfl,hb3⟩;have HL3:=hid (bl_kept HLD.out hb3);have HB3:=hid (HD.out.trans (hb3.mono HD.out.size));obtain ⟨s2,s3,s4,s5,s6⟩:=HS0.out;have HS3:=hid (And.intro (bget hb3 s2) (And.intro (bget hb3 s3) (And.intro (bget hb3 s4) (And.intro (bget hb3 s5) (bget hb3 s6)))));clear hb3 s2 s3 s4 s5 s6)
        | (go_at_call 185
           refine (bstr_b w1.heap.size w1.heap.size _ _ _ HL3.out HPG.out HP2.out (Nat.le_trans HW2.out.size HB3.out.size)).mono ?_;rintro e w4 ⟨rfl,hl4,hb4⟩;have HL4:=hid hl4;have HB4:=hid hb4;obtain ⟨s2,s3,s4,s5,s6⟩:=HS3.out;have HS4:=hid (And.intro (HBG.out _ _ _ _ hb4 s2) (And.intro (HBG.out _ _ _ _ hb4 s3) (And.intro (HBG.out _ _ _ _ hb4 s4) (And.intro (HBG.out _ _ _ _ hb4 s5) (HBG.out _ _ _ _ hb4 s6)))));clear hb4 hl4 s2 s3 s4 s5 s6)))
     go_wp2_with (go_at_call 183;refine (HST.out _ _ HL4.out (Nat.le_trans (Nat.le_trans HW2.out.size HB3.out.size) HB4.out.size)).mono ?_;rintro e w5 ⟨rfl,hb5⟩;have HB5:=hid hb5;clear hb5)
     go_ret
     have HBB:=HW2.out.trans ((HB3.out.mono HW2.out.size).trans HB4.out);exact ⟨ret_str (by rw [HFM.out];simp),HB1.out.trans ((HBB.trans HB5.out).mono HB1.out.size)⟩
theorem mods_id:∀ (n:Nat) (l:List UInt8) (xs:List MS) (o:Option (List UInt8)),modsR n l=some (xs,o)->∀ x∈xs,idB x.1=true
 | 0,l,xs,o,h=>by cases h
 | n+1,l,xs,o,h=>by
   unfold modsR at h
   by_cases h1:Lib.hasPrefix l MODP=false
   . rw [if_pos h1] at h;cases h;simp
   rw [if_neg h1] at h
   by_cases h2:(stR (l.drop 7)).2.2=false
   . rw [if_pos h2] at h;cases h
   rw [if_neg h2] at h
   have hi:idB (stR (l.drop 7)).1.1=true:=by
    cases hx:(stR (l.drop 7)).2.2 with
    | false=>exact absurd hx h2
    | true =>
      unfold stR at hx ⊢;simp only [Bool.and_eq_true] at hx;exact hx.2
   by_cases h3:(stR (l.drop 7)).2.1=[]
   . rw [if_pos h3] at h
     cases h;intro x hx;rw [List.mem_singleton] at hx;rw [hx];exact hi
   rw [if_neg h3] at h
   by_cases h4:((stR (l.drop 7)).2.1.getD 0 0).toNat≠46
   . rw [if_pos h4] at h;cases h
   rw [if_neg h4] at h;cases hm:modsR n (stR (l.drop 7)).2.1.tail with
   | none=>rw [hm] at h;cases h
   | some y =>
     obtain ⟨ys,o2⟩:=y;rw [hm] at h;cases h;intro x hx;rcases List.mem_cons.1 hx with rfl | hx
     . exact hi
     . exact mods_id n _ ys _ hm x hx
theorem tl_id {l:List UInt8} {d:Bool} {ty nm:List UInt8} {k:KeyT} (h:tlR l=some (d,ty,nm,k)):idB nm=true:=by
 unfold tlR at h
 by_cases h1:idB (wdL (Lib.trimPrefix l DATP))=false ∨ rsv (wdL (Lib.trimPrefix l DATP))=true ∨ ((wdD (Lib.trimPrefix l DATP)).getD 0 0).toNat≠46
 . rw [if_pos h1] at h;cases h
 rw [if_neg h1] at h
 by_cases h2:idB (wdL (wdD (Lib.trimPrefix l DATP)).tail)=false ∨ (keyR (wdD (wdD (Lib.trimPrefix l DATP)).tail)).2.2=false ∨ (keyR (wdD (wdD (Lib.trimPrefix l DATP)).tail)).2.1≠[]
 . rw [if_pos h2] at h;cases h
 rw [if_neg h2] at h;cases h;cases hx:idB (wdL (wdD (Lib.trimPrefix l DATP)).tail) with
 | true=>rfl
 | false=>exact absurd (Or.inl hx) h2
structure Addr0 (l:List UInt8) (xs:List MS) (d:Bool) (ty nm:List UInt8) (k:KeyT):Prop where
 pr:prR l=some (xs,some (d,ty,nm,k))
 len:xs.length<=16
 ids:∀ x∈xs,idB x.1=true
 nm:idB nm=true
 ty:kdB ty=true
theorem addr_of {l:List UInt8} (h:prE l=0):∃ xs d ty nm k,Addr0 l xs d ty nm k:=by
 have h2:=h;unfold prE at h;cases hp:prR l with
 | none=>rw [hp] at h;cases h
 | some x =>
   obtain ⟨xs,o⟩:=x;rw [hp] at h;cases o with
   | none=>cases h
   | some t =>
     obtain ⟨d,ty,nm,k⟩:=t;simp only at h
     have hl:xs.length<=16:=by
      by_cases hx:16 < xs.length
      . rw [if_pos hx] at h;cases h
      . omega
     refine ⟨xs,d,ty,nm,k,hp,hl,?_,?_,(par_some hp).2.2.2.1⟩
     . unfold prR at hp
       cases hm:modsR (l.length+1) l with
       | none=>rw [hm] at hp;cases hp
       | some y =>
         obtain ⟨ys,o⟩:=y;rw [hm] at hp;cases o with
         | none=>cases hp
         | some r =>
           simp only at hp;cases ht:tlR r with
           | none=>rw [ht] at hp;cases hp
           | some t =>
             rw [ht] at hp;cases hp;exact mods_id _ _ _ _ hm
     . unfold prR at hp
       cases hm:modsR (l.length+1) l with
       | none=>rw [hm] at hp;cases hp
       | some y =>
         obtain ⟨ys,o⟩:=y;rw [hm] at hp;cases o with
         | none=>cases hp
         | some r =>
           simp only at hp;cases ht:tlR r with
           | none=>rw [ht] at hp;cases hp
           | some t =>
             rw [ht] at hp;cases hp;exact tl_id ht
def stcB (l:List UInt8):List UInt8:=if prE l=0 then (match prR l with | some (xs,some (d,ty,nm,_))=>fmtB (xs.map barM) d ty nm | _=>[]) else []
theorem stcB_ok {l:List UInt8} {xs:List MS} {d:Bool} {ty nm:List UInt8} {k:KeyT} (h:Addr0 l xs d ty nm k) (h0:prE l=0):stcB l=fmtB (xs.map barM) d ty nm:=by unfold stcB;rw [if_pos h0,h.pr]
theorem Addr0.bare {l:List UInt8} {xs:List MS} {d:Bool} {ty nm:List UInt8} {k:KeyT} (h:Addr0 l xs d ty nm k):Bare (xs.map barM):=by
 refine ⟨by rw [List.length_map];exact h.len,fun x hx=>?_⟩;obtain ⟨y,hy,rfl⟩:=List.mem_map.1 hx;exact ⟨h.ids y hy,rfl⟩
def PaOk (w:World) (xs:List MS) (d:Bool) (ty nm:List UInt8) (k:KeyT) (e:Ending) (w':World):Prop:=∃ v,e=.returned (.tuple #[aV v d ty nm k,.int .i64 0])/\OwnM (w.heap.size+3) w' v xs/\Below w.heap.size w w'
theorem parse_ok (s:ByteArray) (w:World) (hT:WT w) (hs:s.size<=2000000) {xs:List MS} {d:Bool} {ty nm:List UInt8} {k:KeyT} (h:Addr0 s.data.toList xs d ty nm k) (h0:prE s.data.toList=0):Calls Tryz.prog 52 #[.string s] w (PaOk w xs d ty nm k):=by
 refine (parse_any s w hT hs).mono fun e w' hP=>?_;unfold ParR at hP;rw [<-size_list] at hP;obtain ⟨_,p1,p2,_,p3⟩:=par_some h.pr;rw [p3,h0,if_pos rfl,p1,p2] at hP;obtain ⟨⟨v,h1,h2⟩,h3⟩:=hP;exact ⟨v,h1,h2,h3⟩
theorem parse_no (s:ByteArray) (w:World) (hT:WT w) (hs:s.size<=2000000) (h0:prE s.data.toList≠0):Calls Tryz.prog 52 #[.string s] w fun e w'=>e=.returned (.tuple #[ad0,.int .i64 (prE s.data.toList)])/\Below w.heap.size w w':=by
 refine (parse_any s w hT hs).mono fun e w' hP=>?_;unfold ParR at hP;rw [<-size_list,par_eq,if_neg h0] at hP;exact hP
set_option maxHeartbeats 4000000 in
theorem pstatic_any (s:ByteArray) (w:World) (hT:WT w) (hs:s.size<=2000000):Calls Tryz.prog 125 #[.string s] w fun e w'=>e=.returned (.tuple #[.string ⟨(stcB s.data.toList).toArray⟩,.int .i64 (prE s.data.toList)])/\Below w.heap.size w w':=by
 by_cases h0:prE s.data.toList=0
 . obtain ⟨xs,d,ty,nm,k,hA⟩:=addr_of h0
   have HC:=hid (parse_ok s w hT hs hA h0);have hB:=hA.bare;rw [stcB_ok hA h0,h0];have HST:=hid (fun (B:Nat) (v:Value) (W:World) (h:OwnM B W v xs)=>show Calls Tryz.prog 168 #[aV v d ty nm k] W (fun e w'=>∃ v',e=.returned (aV v' d ty nm (0,0,[]))/\OwnM W.heap.size w' v' (xs.map barM)/\Below W.heap.size W w') from static_any B v xs d ty nm k W h (by have:=hA.len;omega));have HF:=hid (fun (r:Option Addr) (c:Nat) (W:World) (h:Sl MsR 4 W (.slice r (xs.map barM).length c) (xs.map barM))=>format0 r c (xs.map barM) d ty nm W h hB hA.ty hA.nm);clear hT hs hA hB h0;generalize xs.map barM=ys at *;go_enter Tryz.func125,Tryz.ntmps125;unfold aV at *
   go_wp2_with (first
    | (go_at_call 52
       refine HC.out.mono ?_;rintro e w1 ⟨v1,rfl,ho1,hb1⟩;obtain ⟨r1,c1,rfl,_,_⟩:=own_form ho1;have HO1:=hid ho1;have HB1:=hid hb1;clear ho1 hb1;unfold aV)
    | (go_at_call 168
       refine (HST.out (w.heap.size+3) _ _ (by exact kept_off HO1.out (grown_below ((Below.refl _ _).alloc (Nat.le_refl _) _)) (fun _ _ e=>by cases e))).mono ?_;rintro e w2 ⟨v2,rfl,ho2,hb2⟩;obtain ⟨r2,c2,rfl,_,_⟩:=own_form ho2;have HO2:=hid (OwnM.sl ho2);have HB2:=hid hb2;clear ho2 hb2)
    | (go_at_call 167
       refine (HF.out _ _ _ HO2.out).mono ?_;rintro e w3 ⟨rfl,hb3⟩;have HB3:=hid hb3;clear hb3))
   go_ret2
   have h12:=HB1.out.trans ((((Below.refl _ _).alloc (Nat.le_refl _) _).trans (HB2.out.mono (by simp))).mono HB1.out.size);exact ⟨rfl,h12.trans (HB3.out.mono h12.size)⟩
 . have HC:=hid (parse_no s w hT hs h0)
   rw [show stcB s.data.toList=[] by unfold stcB;rw [if_neg h0]];have hn:(prE s.data.toList != 0)=true:=by simp [h0]
   clear h0 hT hs;generalize prE s.data.toList=E at *;unfold ad0 at HC;go_enter Tryz.func125,Tryz.ntmps125;go_wp2_with (go_at_call 52;refine HC.out.mono ?_;rintro e w1 ⟨rfl,hb1⟩;have HB1:=hid hb1;clear hb1)
   go_ret2
   exact ⟨rfl,HB1.out.trans (((Below.refl _ _).alloc (Nat.le_refl _) _).mono HB1.out.size)⟩
end Go.Proofs.YtomhbcfjhgecbaaGreatDoor.Adr
