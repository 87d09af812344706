import Derived.Test.YtomhbcfjhgecbaaGreatDoorX4
import Derived.Shelf.Spec.SlicesInsert
import Derived.Lib.AppendZerosOnto
import Derived.Laws.OwnMore
import Derived.Deep.RegionLaw
import Derived.Shelf.SlicesE.Delete
import Derived.Test.YtomhbcfjhgecbaaGreatDoorX1
import Derived.Test.YtomhbcfjhgecbaaGreatDoorX3
import Derived.Lib.ItoaNum
import Derived.Shelf.GgClosure.Gives
import Derived.Shelf.SlicesQ.Load
set_option linter.unusedVariables false
set_option linter.unusedSimpArgs false
namespace Go.Proofs.YtomhbcfjhgecbaaGreatDoor
open Go.RowKit Go.Sort Go.Lib
open Go.Lib (hid)
theorem run_copy_k {P:Program} (k:Nat) (w:World) (dT sT ty elem:TypeId) (b o dLen dCap:Nat) (a:Addr) (sLen sCap m:Nat) (cs:List Value)
  (hu:P.underlying dT=some (.slice elem)) (hs:(P.info? elem).map (·.size)=some k) (hm:Nat.min sLen dLen=m) (hn:cs.length=m * k)
  (hsrc:∀ j v,cs[j]?=some v->w.cell? (a.add j)=some v) (hc:∀ j,j < cs.length->(w.cell? ⟨b,o+j,none⟩).isSome=true) (hf:∀ j,j < cs.length->w.frozen? ⟨b,o+j,none⟩=false) (h1:∀ v∈cs,v.oneCell'=true) :
  (Builtin.copy_ #[dT,sT] ty #[.slice (some ⟨b,o,none⟩) dLen dCap,.slice (some a) sLen sCap]).run P w=.ok (goInt m) (w.setCells b o cs):=by
 have hl:=run_loadCells_list (P:=P) w a cs hsrc;have hst:=run_storeCells_cells (P:=P) b o cs 0 w (by simpa using hc) (by simpa using hf) h1;cases hq:P.info? elem with
 | none=>simp [hq] at hs
 | some i =>
   have hi:i.size=k:=by simpa [hq] using hs
   rw [hn] at hl;simp [Builtin.copy_,run_underlying hu,Builtin.lenOf,Builtin.firstCells,sizeOf,typeInfo,hq,hi,hm,hl,hst]
def spl (X:List Value) (o:Nat) (vs:List Value):List Value:=X.take o ++ vs ++ X.drop (o+vs.length)
theorem spl_len {X vs:List Value} {o:Nat} (h:o+vs.length<=X.length):(spl X o vs).length=X.length:=by
 unfold spl;simp;omega
theorem heap_setCell_at {w:World} {g o:Nat} {v:Value} {cur:Array Value} {e:TypeId} {fr:Nat × Nat} (h:w.heap[g]?=some (.cells cur e fr)):(w.setCell ⟨g,o,none⟩ v).heap[g]?=some (.cells (cur.setIfInBounds o v) e fr):=by
 simp only [World.setCell,Array.getElem?_modify,h];simp
theorem spl_cons (X:List Value) (o:Nat) (v:Value) (vs:List Value) (h:o < X.length):spl (X.set o v) (o+1) vs=spl X o (v :: vs):=by
 unfold spl
 have e1:(X.set o v).take (o+1)=X.take o ++ [v]:=by
  rw [List.take_succ_eq_append_getElem (by simpa using h),List.take_set_of_le (Nat.le_refl _)];simp
 have e2:(X.set o v).drop (o+1+vs.length)=X.drop (o+1+vs.length):=by rw [List.drop_set_of_lt (by omega)]
 rw [e1,e2,List.length_cons];have e3:o+1+vs.length=o+(vs.length+1):=by omega
 rw [e3];simp
theorem heap_setCells_at (g:Nat) {e:TypeId} {fr:Nat × Nat} : ∀ (vs:List Value) (o:Nat) (w:World) (cur:Array Value),w.heap[g]?=some (.cells cur e fr)->o+vs.length<=cur.size->(w.setCells g o vs).heap[g]?=some (.cells (spl cur.toList o vs).toArray e fr)
 | [],o,w,cur,h,_=>by
   rw [World.setCells,h];simp [spl]
 | v :: vs,o,w,cur,h,hl=>by
   rw [World.setCells];simp only [List.length_cons] at hl;rw [heap_setCells_at g vs (o+1) _ (cur.setIfInBounds o v) (heap_setCell_at h) (by simp;omega)];rw [Array.toList_setIfInBounds,spl_cons _ _ _ _ (by simpa using (show o < cur.size by omega))]
theorem heap_setCells_ne (g:Nat) {b:Nat} : ∀ (vs:List Value) (o:Nat) (w:World),b≠g->(w.setCells g o vs).heap[b]?=w.heap[b]?
 | [],_,_,_=>rfl
 | v :: vs,o,w,h=>by rw [World.setCells,heap_setCells_ne g vs (o+1) _ h,Below.heap_setCell _ _ _ _ h]
theorem size_setCells' (g:Nat):∀ (vs:List Value) (o:Nat) (w:World),(w.setCells g o vs).heap.size=w.heap.size
 | [],_,_=>rfl
 | v :: vs,o,w=>by rw [World.setCells,size_setCells' g vs (o+1) _];simp [World.setCell]
theorem same_setCells (g:Nat):∀ (vs:List Value) (o:Nat) (w:World),(w.setCells g o vs).os=w.os/\(w.setCells g o vs).tape=w.tape/\(w.setCells g o vs).output=w.output
 | [],_,_=>⟨rfl,rfl,rfl⟩
 | v :: vs,o,w=>by rw [World.setCells];exact same_setCells g vs (o+1) _
theorem spl_mid (A M R Y:List Value) (h:M.length=Y.length):spl (A ++ (M ++ R)) A.length Y=A ++ (Y ++ R):=by
 unfold spl;rw [List.take_left',List.drop_append,List.append_assoc]
 . simp only [<-h,Nat.add_sub_cancel_left]
   rw [List.drop_eq_nil_of_le (by omega),List.nil_append,List.drop_left'];rfl
 . rfl
theorem parts4 (X:List Value) (p s d:Nat) (h:p+s+d<=X.length):∃ A M1 M2 R,X=A ++ (M1 ++ (M2 ++ R))/\A.length=p/\M1.length=s/\M2.length=d/\A=X.take p:=
 ⟨X.take p,(X.drop p).take s,((X.drop p).drop s).take d,((X.drop p).drop s).drop d,by rw [List.take_append_drop,List.take_append_drop,List.take_append_drop],by simp;omega,by simp;omega,by simp;omega,rfl⟩
theorem spl_YD (X Y D:List Value) (p s d:Nat) (h:p+s+d<=X.length) (hY:Y.length=s) (hD:D.length=d):∃ R,spl (spl X p Y) (p+s) D=X.take p ++ Y ++ D ++ R:=by
 obtain ⟨A,M1,M2,R,rfl,h1,h2,h3,hA⟩:=parts4 X p s d h;refine ⟨R,?_⟩;rw [<-hA,<-h1,spl_mid A M1 (M2 ++ R) Y (by omega)];have e:A ++ (Y ++ (M2 ++ R))=(A ++ Y) ++ (M2 ++ R):=by simp
 have e2:A.length+s=(A ++ Y).length:=by simp;omega
 rw [e,e2,spl_mid (A ++ Y) M2 R D (by omega)];simp
theorem spl_DY (X Y D:List Value) (p s d:Nat) (h:p+s+d<=X.length) (hY:Y.length=s) (hD:D.length=d):∃ R,spl (spl X (p+s) D) p Y=X.take p ++ Y ++ D ++ R:=by
 obtain ⟨A,M1,M2,R,rfl,h1,h2,h3,hA⟩:=parts4 X p s d h;refine ⟨R,?_⟩;rw [<-hA];have e:A ++ (M1 ++ (M2 ++ R))=(A ++ M1) ++ (M2 ++ R):=by simp
 have e2:p+s=(A ++ M1).length:=by simp;omega
 rw [e,e2,spl_mid (A ++ M1) M2 R D (by omega)];have e3:(A ++ M1) ++ (D ++ R)=A ++ (M1 ++ (D ++ R)):=by simp
 rw [e3,<-h1,spl_mid A M1 (D ++ R) Y (by omega)];simp
theorem insert_flat {α:Type} (enc:α->List Value) {sz:Nat} (hsz:∀ x,(enc x).length=sz) (ys:List α) (y:α) (i:Nat) (hi:i<=ys.length):(ys.insertIdx i y).flatMap enc=(ys.flatMap enc).take (i * sz) ++ enc y ++ (ys.flatMap enc).drop (i * sz):=by
 have e:ys.insertIdx i y=ys.take i ++ y :: ys.drop i:=by
  induction ys generalizing i with
  | nil =>
    have h0:i=0:=by simpa using hi
    subst h0;rfl
  | cons a l ih =>
    cases i with
    | zero=>rfl
    | succ i=>simp [ih i (by simpa using hi)]
 have hl:((ys.take i).flatMap enc).length=i * sz:=by rw [flat_len enc sz hsz];simp [Nat.min_eq_left hi]
 have e2:ys.flatMap enc=(ys.take i).flatMap enc ++ (ys.drop i).flatMap enc:=by rw [<-List.flatMap_append,List.take_append_drop]
 rw [e,e2,List.flatMap_append,List.flatMap_cons,<-hl,List.take_left',List.drop_left']
 . simp
 . rfl
 . rfl
def InsR {α:Type} (enc:α->List Value) (E:TypeId) (sz B:Nat) (ys:List α) (y:α) (i:Nat) (v:Value) (w:World) (e:Ending) (w':World):Prop:=
 ∃ g cap,e=.returned (.slice (some ⟨g,0,none⟩) (ys.length+1) cap)/\w'.ownsRow B E sz (.slice (some ⟨g,0,none⟩) (ys.length+1) cap) (ys.insertIdx i y).length ((ys.insertIdx i y).flatMap enc)/\w.grownBy w' v.ownBlock/\(v.ownBlock=some g ∨ g=w.heap.size)
theorem insert_len {α:Type} (ys:List α) (y:α) (i:Nat) (hi:i<=ys.length):(ys.insertIdx i y).length=ys.length+1:=by rw [List.length_insertIdx];simp [hi]
theorem insert_end {α:Type} (ys:List α) (y:α):ys.insertIdx ys.length y=ys ++ [y]:=by
 induction ys with
 | nil=>rfl
 | cons a l ih=>simp [ih]
theorem heap_setCells_congr (g:Nat):∀ (vs:List Value) (o:Nat) (W W':World),W.heap=W'.heap->(W.setCells g o vs).heap=(W'.setCells g o vs).heap
 | [],_,_,_,h=>h
 | v :: vs,o,W,W',h=>by
   rw [World.setCells,World.setCells];exact heap_setCells_congr g vs (o+1) _ _ (by simp [World.setCell,h])
theorem shape_of {w:World} {b:Nat} {C:Array Value} {E:TypeId} {fr:Nat × Nat} (h:w.heap[b]?=some (.cells C E fr)):w.shape? b=some (E,C.size):=by unfold World.shape?;rw [h]
theorem cell_of {w:World} {b:Nat} {C:Array Value} {E:TypeId} {fr:Nat × Nat} (h:w.heap[b]?=some (.cells C E fr)) (o:Nat):w.cell? ⟨b,o,none⟩=C[o]?:=by unfold World.cell?;simp [h]
theorem own_of {w:World} {g n cap sz B:Nat} {E:TypeId} {X xs:List Value} (h:w.heap[g]?=some (.cells X.toArray E (0,0))) (hB:B<=g) (hn:n<=cap) (hc:cap<=maxLen) (hX:X.length=cap * sz) (hl:xs.length=n * sz) (ht:X.take (n * sz)=xs):w.ownsRow B E sz (.slice (some ⟨g,0,none⟩) n cap) n xs:=
 ⟨hl,Or.inr ⟨g,cap,X.toArray,rfl,hB,h,hn,hc,by simpa using hX,by simpa using ht⟩⟩
set_option maxHeartbeats 4000000 in
set_option maxRecDepth 100000 in
theorem ins_in (B:Nat) (ys:List Inp) (y:Inp) (i:Nat) (v:Value) (vb:Nat) (w:World) (hi:i<=ys.length) (hown:w.ownsRow B 41 13 v ys.length (ys.flatMap inE)) (hy:w.heap[vb]?=some (.cells (inE y).toArray 41 (0,0))) (hvb:v.ownBlock≠some vb) (hn:ys.length+1<=1000000) (hB:B<=w.heap.size) :
  Calls Tryz.prog 64 #[v,.int .i64 (i:Nat),.slice (some ⟨vb,0,none⟩) 1 1] w (InsR inE 41 13 B ys y i v w):=by
 by_cases hin:i=ys.length
 . subst hin
   have HO:=hid hown;obtain ⟨r,c,rfl,hnc,hcm⟩:=own_form hown;unfold maxLen at hcm;have hy':w.heap[vb]?=some (.cells (([y]:List Inp).flatMap inE).toArray 41 (0,0)):=by simpa using hy
   have HY:=hid hy';have HN:=hid hn;obtain ⟨ob,hob⟩:∃ ob,∀ n k,(Value.slice r n k).ownBlock=ob:=⟨(Value.slice r 0 0).ownBlock,fun n k=>by cases r <;> rfl⟩;have HOB:=hid hob;clear hown hy hy' hvb hi hob;go_enter Tryz.func64,Tryz.ntmps64;go_wp2_with (at_builtin;refine wpList_append_rows inE inE_len inE_one Tryz.underlying22 ininfo rfl (by omega) (by omega) rfl (.tmp 23) (.tmp 24) rfl B _ ys rfl HO.out vb 1 1 [y] rfl (by omega) rfl HY.out (by have:=HN.out;omega) hB ?_;intro g cap w' ho hg hat hlt)
   all_goals
    have HO2:=hid ho;have HG2:=hid (show w.grownBy w' ob from by rw [<-HOB.out ys.length c];exact hg);have HA2:=hid (show ob=some g ∨ g=w.heap.size from by rw [<-HOB.out ys.length c];exact hat);clear ho hg hat hlt;go_wp2
    go_ret
    exact ⟨g,cap,rfl,by rw [insert_end];exact HO2.out,by rw [HOB.out];exact HG2.out,by rw [HOB.out];exact HA2.out⟩
 have hlt:i < ys.length:=by omega
 have HP:=hid (show ∀ g cap w',w'.ownsRow B 41 13 (.slice (some ⟨g,0,none⟩) (ys.length+1) cap) (ys.insertIdx i y).length ((ys.insertIdx i y).flatMap inE)->w.grownBy w' v.ownBlock->(v.ownBlock=some g ∨ g=w.heap.size)->InsR inE 41 13 B ys y i v w (.returned (.slice (some ⟨g,0,none⟩) (ys.length+1) cap)) w' from fun g cap w' h1 h2 h3=>⟨g,cap,rfl,h1,h2,h3⟩);rw [insert_flat inE inE_len ys y i hi,insert_len ys y i hi] at HP;obtain ⟨hfl,hr⟩:=hown
 have hone:∀ u∈ys.flatMap inE,u.oneCell'=true:=fun u hu=>by
  obtain ⟨x,_,hx⟩:=List.mem_flatMap.1 hu;exact inE_one x u hx
 have hyl:=inE_len y;have hyo:=inE_one y;generalize hYS:ys.flatMap inE=fl at *;clear hYS;generalize inE y=ey at *;generalize ys.length=n at *;rcases hr with ⟨_,h0⟩ | ⟨g0,cap,cur,rfl,hg0,hh,hnc,hcm,hcs,htk⟩
 . omega
 have hne:g0≠vb:=fun e=>hvb (by simp [Value.ownBlock,e]);have hgl:g0 < w.heap.size:=lt_of_blk hh;have hvl:vb < w.heap.size:=lt_of_blk hy;unfold maxLen at hcm
 have hcell:∀ (j:Nat) (u:Value),fl[j]?=some u->w.cell? ⟨g0,j,none⟩=some u:=fun j u hj=>by
  have hj':j < n * 13:=by have:=(List.getElem?_eq_some_iff.1 hj).1;omega
  rw [cell_of hh,<-hj,<-htk,List.getElem?_take,if_pos hj',Array.getElem?_toList]
 have hvc:∀ (j:Nat) (u:Value),ey[j]?=some u->w.cell? ⟨vb,j,none⟩=some u:=fun j u hj=>by
  rw [cell_of hy];simpa using hj
 have hsz:(Tryz.prog.info? 41).map (·.size)=some 13:=by
  obtain ⟨i0,h0,_,h1,_⟩:=info_parts ininfo;rw [h0];simp [h1]
 have hdl:(fl.drop (i * 13)).length=(n - i) * 13:=by rw [List.length_drop,hfl];omega
 have htl:(fl.take (i * 13)).length=i * 13:=by rw [List.length_take,hfl];omega
 have hdo:∀ u∈fl.drop (i * 13),u.oneCell'=true:=fun u hu=>hone u (List.mem_of_mem_drop hu);have hadd:∀ b o j:Nat,(⟨b,o,none⟩:Addr).add j=⟨b,o+j,none⟩:=fun b o j=>by unfold Addr.add;by_cases h:j=0 <;> simp [h]
 have hz2:¬ ((i:Int)=(n:Int)):=by omega
 have hw1:IntKind.i64.wrap ((i:Int)+1)=(i:Int)+1:=by rw [IntKind.wrap_i64];omega
 have htn:((i:Int)+1).toNat=i+1:=by omega
 have hi0:(0:Int)<=(i:Int)+1:=by omega
 have hi3:(i:Int)<=(n:Int):=by omega
 by_cases hroom:cap < n+1
 ·
  obtain ⟨i0,hinf,hz0,hzs,hzb⟩:=info_parts ininfo;have hz3:(cap:Int) < (n:Int)+1:=by omega
  have hkk:(n:Int)+1 - (i:Int)=((n+1 - i:Nat):Int):=by omega
  have hik:i+(n+1 - i)=n+1:=by omega
  have hold:(Builtin.firstCells i0.size i (.slice (some ⟨g0,0,none⟩) i cap)).run Tryz.prog w.drew=.ok (fl.take (i * 13)).toArray w.drew:=by
   rw [hzs]
   exact run_firstCells_some w.drew 13 i ⟨g0,0,none⟩ i cap (fl.take (i * 13)) htl (fun j u hj=>by
    rw [hadd,Nat.zero_add];rw [List.getElem?_take] at hj;split at hj
    . exact hcell j u hj
    . cases hj)
  have hrz:∀ ty,(Builtin.append_ #[22,3] ty #[.slice (some ⟨g0,0,none⟩) i cap,.int .i64 ((n:Int)+1 - (i:Int))]).run Tryz.prog w =
    .ok (.slice (some ⟨w.heap.size,0,none⟩) (n+1) (grownCap w (n+1) cap 41)) (w.drew.alloc (.cells ((fl.take (i * 13)).toArray ++ Builtin.zeroCells (.agg #[.string ByteArray.empty,.string ByteArray.empty,.string ByteArray.empty,.string ByteArray.empty,.int .i64 0,.int .i64 0,.string ByteArray.empty,.slice none 0 0,.slice none 0 0,.int .i64 0,.bool false,.bool false,.slice none 0 0]:Value).cells (n+1 - i) ++ Builtin.zeroCells (.agg #[.string ByteArray.empty,.string ByteArray.empty,.string ByteArray.empty,.string ByteArray.empty,.int .i64 0,.int .i64 0,.string ByteArray.empty,.slice none 0 0,.slice none 0 0,.int .i64 0,.bool false,.bool false,.slice none 0 0]:Value).cells (grownCap w (n+1) cap 41 - (n+1))) 41)):=fun ty=>by
   have h:=Lib.run_append_grow_zeros w 22 3 ty 41 i0 _ .i64 .i64 Tryz.underlying22 Tryz.underlying3 hinf hz0 (some ⟨g0,0,none⟩) i cap (fl.take (i * 13)) hold (n+1 - i) (by omega) (by omega) (by omega) (by omega) (by rw [hzb];omega) (by rw [hzb,hik];exact growslice_fits hroom (by omega));rw [hik] at h;rw [hkk];exact h
  have hGn:n+1<=grownCap w (n+1) cap 41:=grownCap_ge w _ _ _
  have hG63:grownCap w (n+1) cap 41<=9223372036854775807:=by
   have:=grownCap_le_maxLen w (n+1) cap 41 (by unfold maxLen;omega);unfold maxLen at this;omega
  generalize hG:grownCap w (n+1) cap 41=G at *;clear hG;obtain ⟨ROW,hROW⟩:∃ ROW:Array Value,ROW=(fl.take (i * 13)).toArray ++ Builtin.zeroCells (.agg #[.string ByteArray.empty,.string ByteArray.empty,.string ByteArray.empty,.string ByteArray.empty,.int .i64 0,.int .i64 0,.string ByteArray.empty,.slice none 0 0,.slice none 0 0,.int .i64 0,.bool false,.bool false,.slice none 0 0]:Value).cells (n+1 - i) ++ Builtin.zeroCells (.agg #[.string ByteArray.empty,.string ByteArray.empty,.string ByteArray.empty,.string ByteArray.empty,.int .i64 0,.int .i64 0,.string ByteArray.empty,.slice none 0 0,.slice none 0 0,.int .i64 0,.bool false,.bool false,.slice none 0 0]:Value).cells (G - (n+1)):=⟨_,rfl⟩;rw [<-hROW] at hrz
  have hRl:ROW.size=G * 13:=by
   rw [hROW];simp only [Array.size_append,List.size_toArray,htl,Builtin.zeroCells];simp [Value.cells];omega
  have hRt:ROW.toList.take (i * 13)=fl.take (i * 13):=by
   rw [hROW];simp only [Array.toList_append,List.append_assoc];rw [List.take_append_of_le_length (by simp [htl] <;> omega),List.take_of_length_le (by simp [htl] <;> omega)]
  clear hROW
  have HW:∀ W:World,W.heap=(w.alloc (.cells ROW 41)).heap->∀ ty dc,(Builtin.copy_ #[22,22] ty #[.slice (some ⟨w.heap.size,i * 13,none⟩) (n+1 - i) dc,.slice (some ⟨vb,0,none⟩) 1 1]).run Tryz.prog W=.ok (goInt 1) (W.setCells w.heap.size (i * 13) ey):=fun W hW ty dc=>by
   have hN:W.heap[w.heap.size]?=some (.cells ROW 41 (0,0)):=by rw [hW];exact heap_alloc_new w _
   have hV:W.heap[vb]?=some (.cells ey.toArray 41 (0,0)):=by rw [hW,Below.heap_alloc _ _ _ hvl];exact hy
   exact run_copy_k 13 W _ _ ty 41 w.heap.size (i * 13) (n+1 - i) dc ⟨vb,0,none⟩ 1 1 1 ey Tryz.underlying22 hsz (by simp only [Nat.min_def];split <;> omega) (by rw [hyl])
    (fun j u hj=>by rw [hadd,Nat.zero_add,cell_of hV];simpa using hj)
    (fun j hj=>by rw [cell_of hN,Array.getElem?_eq_getElem (by omega)];rfl) (fun j _=>frozen_of hN _) hyo
  have HW2:∀ W:World,W.heap=((w.alloc (.cells ROW 41)).setCells w.heap.size (i * 13) ey).heap->∀ ty dc sc,(Builtin.copy_ #[22,22] ty #[.slice (some ⟨w.heap.size,(i+1) * 13,none⟩) (n+1 - (i+1)) dc,.slice (some ⟨g0,i * 13,none⟩) (n - i) sc]).run Tryz.prog W=.ok (goInt (n - i:Nat)) (W.setCells w.heap.size ((i+1) * 13) (fl.drop (i * 13))):=fun W hW ty dc sc=>by
   have hN:W.heap[w.heap.size]?=some (.cells (spl ROW.toList (i * 13) ey).toArray 41 (0,0)):=by rw [hW];exact heap_setCells_at _ ey _ _ _ (heap_alloc_new w _) (by omega)
   have hG:W.heap[g0]?=some (.cells cur 41 (0,0)):=by rw [hW,heap_setCells_ne _ _ _ _ (show g0≠w.heap.size by omega),Below.heap_alloc _ _ _ hgl];exact hh
   have hl:=spl_len (X:=ROW.toList) (vs:=ey) (o:=i * 13) (by simp;omega)
   exact run_copy_k 13 W _ _ ty 41 w.heap.size ((i+1) * 13) (n+1 - (i+1)) dc ⟨g0,i * 13,none⟩ (n - i) sc (n - i) (fl.drop (i * 13)) Tryz.underlying22 hsz (by simp only [Nat.min_def];split <;> omega) hdl
    (fun j u hj=>by
     rw [hadd,cell_of hG];have:=hcell (i * 13+j) u (by rwa [List.getElem?_drop] at hj)
     rwa [cell_of hh] at this)
    (fun j hj=>by rw [cell_of hN,Array.getElem?_eq_getElem (by simp at hl ⊢;omega)];rfl) (fun j _=>frozen_of hN _) hdo
  have HROW:∃ R,(spl (spl ROW.toList (i * 13) ey) ((i+1) * 13) (fl.drop (i * 13)))=fl.take (i * 13) ++ ey ++ fl.drop (i * 13) ++ R:=by
   obtain ⟨R,hR⟩:=spl_YD ROW.toList ey (fl.drop (i * 13)) (i * 13) 13 ((n - i) * 13) (by simp;omega) hyl hdl;exact ⟨R,by rw [show (i+1) * 13=i * 13+13 by omega,hR,hRt]⟩
  have HFB:=hid (show ∀ W:World,W.heap=(((w.alloc (.cells ROW 41)).setCells w.heap.size (i * 13) ey).setCells w.heap.size ((i+1) * 13) (fl.drop (i * 13))).heap->W.os=w.os->W.tape=w.tape->W.output=w.output->InsR inE 41 13 B ys y i (.slice (some ⟨g0,0,none⟩) n cap) w (.returned (.slice (some ⟨w.heap.size,0,none⟩) (n+1) G)) W from fun W hW e1 e2 e3=>by
   obtain ⟨R,hR⟩:=HROW;have hl1:=spl_len (X:=ROW.toList) (vs:=ey) (o:=i * 13) (by simp;omega);have hl2:=spl_len (X:=spl ROW.toList (i * 13) ey) (vs:=fl.drop (i * 13)) (o:=(i+1) * 13) (by rw [hl1,hdl];simp;omega)
   have hN:W.heap[w.heap.size]?=some (.cells (spl (spl ROW.toList (i * 13) ey) ((i+1) * 13) (fl.drop (i * 13))).toArray 41 (0,0)):=by
    rw [hW];have h1:=heap_setCells_at w.heap.size ey (i * 13) (w.alloc (.cells ROW 41)) ROW (heap_alloc_new w _) (by omega);have h2:=heap_setCells_at w.heap.size (fl.drop (i * 13)) ((i+1) * 13) _ _ h1 (by simp only [List.size_toArray];rw [hl1,hdl];simp;omega);simpa using h2
   refine HP.out w.heap.size G W (own_of hN hB hGn (by unfold maxLen;omega) (by rw [hl2,hl1];simpa using hRl) (by simp only [List.length_append,htl,hdl,hyl];omega) ?_) ⟨e1,e2,e3,?_,fun b hb hrow=>?_⟩ (Or.inr rfl)
   . rw [hR,List.take_left' (by simp only [List.length_append,htl,hdl,hyl];omega)]
   . rw [hW,size_setCells',size_setCells'];simp
   . rw [hW,heap_setCells_ne _ _ _ _ (show b≠w.heap.size by omega),heap_setCells_ne _ _ _ _ (show b≠w.heap.size by omega),Below.heap_alloc _ _ _ hb])
  have hGi:¬ (G=i):=by omega
  have hGim:¬ (G=i+1):=by omega
  have hci:¬ (cap=i):=by omega
  obtain ⟨W1,hW1⟩:∃ W1,W1=((w.alloc (.cells ROW 41)).drew).setCells w.heap.size (i * 13) ey:=⟨_,rfl⟩;have hS1:=same_setCells w.heap.size ey (i * 13) ((w.alloc (.cells ROW 41)).drew);have HC1:=HW ((w.alloc (.cells ROW 41)).drew) rfl;rw [<-hW1] at hS1 HC1;have hH1:W1.heap=((w.alloc (.cells ROW 41)).setCells w.heap.size (i * 13) ey).heap:=by rw [hW1];exact heap_setCells_congr _ _ _ _ _ rfl
  have HC2:=HW2 W1.drew hH1;obtain ⟨W2,hW2⟩:∃ W2,W2=(W1.drew).setCells w.heap.size ((i+1) * 13) (fl.drop (i * 13)):=⟨_,rfl⟩;have hS2:=same_setCells w.heap.size (fl.drop (i * 13)) ((i+1) * 13) W1.drew;rw [<-hW2] at hS2 HC2;have HFIN:=hid (HFB.out W2 (by rw [hW2];exact heap_setCells_congr _ _ _ _ _ hH1) (hS2.1.trans hS1.1) (hS2.2.1.trans hS1.2.1) (hS2.2.2.trans hS1.2.2));have HC1h:=hid HC1;have HC2h:=hid HC2;have HRZ:=hid hrz;clear HW HW2 hrz HROW hcell hvc hone hyo hdo hadd hRl hRt htl hdl hfl hyl hcs htk hh hy hinf hz0 hzs hzb hold hkk hik hsz hvb hB hg0 HP hS1 hS2 HC1 HC2 hW1 hW2 hH1 HFB;go_enter Tryz.func64,Tryz.ntmps64
  go_wp2_with (first
   | (at_builtin;refine Lib.wpList_append_run _ rfl _ _ _ _ rfl _ _ rfl rfl _ _ (HRZ.out _) ?_)
   | (at_builtin;refine wpList_copy_runI _ rfl _ _ 22 22 rfl _ _ rfl rfl (HC1h.out _ _) ?_)
   | (simp only [HC1h.out,Result.andThen]))
  go_region_law (refine step_copy_runI rfl _ _ 22 22 rfl (.slice (some ⟨w.heap.size,(i+1) * 13,none⟩) (n+1 - (i+1)) (G - (i+1))) (.slice (some ⟨g0,i * 13,none⟩) (n - i) (cap - i)) (by simp [Act.eval,Act.put]) (by simp [Act.eval,Act.put]) (HC2h.out 3 (G - (i+1)) (cap - i)) ?_)
  all_goals
   go_wp2
   go_ret
   exact HFIN.out
 ·
  have hov:∀ lb cb,(callFunc 112 #[.slice (some ⟨vb,0,none⟩) 1 1,.slice (some ⟨g0,(i+1) * 13,none⟩) lb cb]).run Tryz.prog w=.ok (.value (.bool false)) w:=fun lb cb=>by
   rw [run_callFunc_extern Tryz.func112 (by kernel_rfl) (by kernel_rfl) (by kernel_rfl) (e:=Extern.SlicesOverlaps.overlaps #[22,22] #[4]) (by kernel_rfl),
    Lib.run_overlaps_apart w 22 4 41 Tryz.underlying22 13 Tryz.sizeOf41 ⟨vb,0,none⟩ ⟨g0,(i+1) * 13,none⟩ 1 1 lb cb (fun e=>hne e.symm) 41 41 _ _ (shape_of hy) (shape_of hh) (by rw [hcs];omega) (frozen_of hy _) (frozen_of hy _)]
   rfl
  have hct:cur.toList.take (i * 13)=fl.take (i * 13):=by rw [<-htk,List.take_take];congr 1;omega
  have HC1:∀ ty dc sc,(Builtin.copy_ #[22,22] ty #[.slice (some ⟨g0,(i+1) * 13,none⟩) (n+1 - (i+1)) dc,.slice (some ⟨g0,i * 13,none⟩) (n+1 - i) sc]).run Tryz.prog w.drew=.ok (goInt (n - i:Nat)) ((w.drew).setCells g0 ((i+1) * 13) (fl.drop (i * 13))):=fun ty dc sc=>by
   have hN:w.drew.heap[g0]?=some (.cells cur 41 (0,0)):=hh
   exact run_copy_k 13 w.drew _ _ ty 41 g0 ((i+1) * 13) (n+1 - (i+1)) dc ⟨g0,i * 13,none⟩ (n+1 - i) sc (n - i) (fl.drop (i * 13)) Tryz.underlying22 hsz (by simp only [Nat.min_def];split <;> omega) hdl
    (fun j u hj=>by
     rw [hadd];exact hcell (i * 13+j) u (by rwa [List.getElem?_drop] at hj))
    (fun j hj=>by rw [cell_of hN,Array.getElem?_eq_getElem (by omega)];rfl) (fun j _=>frozen_of hN _) hdo
  obtain ⟨W1,hW1⟩:∃ W1,W1=(w.drew).setCells g0 ((i+1) * 13) (fl.drop (i * 13)):=⟨_,rfl⟩;have hS1:=same_setCells g0 (fl.drop (i * 13)) ((i+1) * 13) w.drew;have hl1:=spl_len (X:=cur.toList) (vs:=fl.drop (i * 13)) (o:=(i+1) * 13) (by rw [hdl];simp;omega);have hN1:W1.heap[g0]?=some (.cells (spl cur.toList ((i+1) * 13) (fl.drop (i * 13))).toArray 41 (0,0)):=by rw [hW1];exact heap_setCells_at _ _ _ _ _ hh (by rw [hdl];omega)
  have hO1:∀ b,b≠g0->W1.heap[b]?=w.heap[b]?:=fun b hb=>by rw [hW1,heap_setCells_ne _ _ _ _ hb];rfl
  have hZ1:W1.heap.size=w.heap.size:=by rw [hW1,size_setCells'];rfl
  rw [<-hW1] at hS1 HC1
  have HC2:∀ W:World,W.heap=W1.heap->∀ ty dc,(Builtin.copy_ #[22,22] ty #[.slice (some ⟨g0,i * 13,none⟩) (n+1 - i) dc,.slice (some ⟨vb,0,none⟩) 1 1]).run Tryz.prog W=.ok (goInt 1) (W.setCells g0 (i * 13) ey):=fun W hW ty dc=>by
   have hN:W.heap[g0]?=some (.cells (spl cur.toList ((i+1) * 13) (fl.drop (i * 13))).toArray 41 (0,0)):=by rw [hW];exact hN1
   have hV:W.heap[vb]?=some (.cells ey.toArray 41 (0,0)):=by rw [hW,hO1 vb (fun e=>hne e.symm)];exact hy
   exact run_copy_k 13 W _ _ ty 41 g0 (i * 13) (n+1 - i) dc ⟨vb,0,none⟩ 1 1 1 ey Tryz.underlying22 hsz (by simp only [Nat.min_def];split <;> omega) (by rw [hyl])
    (fun j u hj=>by rw [hadd,Nat.zero_add,cell_of hV];simpa using hj)
    (fun j hj=>by rw [cell_of hN,Array.getElem?_eq_getElem (by simp at hl1 ⊢;omega)];rfl) (fun j _=>frozen_of hN _) hyo
  have HFC:∀ W:World,W.heap=W1.heap->W.os=w.os->W.tape=w.tape->W.output=w.output->InsR inE 41 13 B ys y i (.slice (some ⟨g0,0,none⟩) n cap) w (.returned (.slice (some ⟨g0,0,none⟩) (n+1) cap)) (W.setCells g0 (i * 13) ey):=fun W hW e1 e2 e3=>by
   obtain ⟨R,hR⟩:=spl_DY cur.toList ey (fl.drop (i * 13)) (i * 13) 13 ((n - i) * 13) (by simp;omega) hyl hdl;rw [show i * 13+13=(i+1) * 13 by omega,hct] at hR;have hS:=same_setCells g0 ey (i * 13) W;have hN:W.heap[g0]?=some (.cells (spl cur.toList ((i+1) * 13) (fl.drop (i * 13))).toArray 41 (0,0)):=by rw [hW];exact hN1
   have hN2:=heap_setCells_at g0 ey (i * 13) W _ hN (by simp only [List.size_toArray];rw [hl1,hyl];simp;omega);have hl2:=spl_len (X:=spl cur.toList ((i+1) * 13) (fl.drop (i * 13))) (vs:=ey) (o:=i * 13) (by rw [hl1,hyl];simp;omega);refine HP.out g0 cap _ (own_of (X:=spl (spl cur.toList ((i+1) * 13) (fl.drop (i * 13))) (i * 13) ey) (by simpa using hN2) hg0 (by omega) (by unfold maxLen;omega) (by rw [hl2,hl1];simpa using hcs) (by simp only [List.length_append,htl,hdl,hyl];omega) ?_) ⟨hS.1.trans e1,hS.2.1.trans e2,hS.2.2.trans e3,?_,fun b hb hrow=>?_⟩ (Or.inl rfl)
   . rw [hR,List.take_left' (by simp only [List.length_append,htl,hdl,hyl];omega)]
   . rw [size_setCells',hW,hZ1];exact Nat.le_refl _
   . have hbg:b≠g0:=fun e=>by subst e;first | exact hrow rfl | exact absurd hrow (by simp [Value.ownBlock])
     rw [heap_setCells_ne _ _ _ _ hbg,hW,hO1 b hbg]
  have HFh:=hid (fun W h=>HFC W h);have HFIN:=hid (HFC W1 rfl hS1.1 hS1.2.1 hS1.2.2);have HFIN2:=hid (HFC W1.drew rfl hS1.1 hS1.2.1 hS1.2.2);have HC1h:=hid HC1;have HC2h:=hid (HC2 W1 rfl);have HC2d:=hid (HC2 W1.drew rfl);have hcap:¬ ((cap:Int) < (n:Int)+1):=by omega
  have hci:¬ (cap=i):=by omega
  have hcim:¬ (cap=i+1):=by omega
  have hrm:n+1<=cap:=by omega
  have hb3:(i:Int)<=(n:Int)+1:=by omega
  clear HC1 HC2 HFC hcell hvc hone hyo hdo hadd htl hdl hfl hyl hcs htk hh hy hsz hvb hB hg0 HP hS1 hW1 hN1 hO1 hZ1 hl1 hct HFh;go_enter Tryz.func64,Tryz.ntmps64
  go_wp2_with (first
   | (simp only [hov])
   | (simp only [HC2h.out,Result.andThen])
   | (simp only [HC2d.out,Result.andThen]))
  have mixed:Tryz.prog.follows Departure.mixedOrders=true:=by kernel_rfl
  go_region_law_o (refine step_copy_runI rfl _ _ 22 22 rfl (.slice (some ⟨g0,(i+1) * 13,none⟩) (n+1 - (i+1)) (cap - (i+1))) (.slice (some ⟨g0,i * 13,none⟩) (n+1 - i) (cap - i)) (by simp [Act.eval,Act.put]) (by simp [Act.eval,Act.put]) (HC1h.out 3 (cap - (i+1)) (cap - i)) ?_)
  all_goals
   go_wp2_with (first
    | (at_builtin;refine wpList_copy_runI _ rfl _ _ 22 22 rfl _ _ rfl rfl (HC2h.out _ _) ?_)
    | (simp only [HC2h.out,Result.andThen])
    | (simp only [HC2d.out,Result.andThen]))
   go_ret
   first | exact HFIN.out | exact HFIN2.out
end Go.Proofs.YtomhbcfjhgecbaaGreatDoor
namespace Go.Proofs.YtomhbcfjhgecbaaGreatDoor
open Go.RowKit Go.Sort Go.Lib
open Go.Lib (hid)
theorem run_clear_k {P:Program} (w:World) (t e ty:TypeId) (z:Value) (L:List Value) (ht:P.underlying t=some (.slice e)) (hv:∀ w,(zeroValue e).run P w=.ok z w) (hL:(Builtin.zeroCells z.cells 1).toList=L) (h1:∀ v∈L,v.oneCell'=true) (b o n c:Nat) (hn:n=1)
  (hc:∀ j,j < L.length->(w.cell? ⟨b,o+j,none⟩).isSome=true) (hf:∀ j,j < L.length->w.frozen? ⟨b,o+j,none⟩=false) :
  (Builtin.clear_ #[t] ty #[.slice (some ⟨b,o,none⟩) n c]).run P w=.ok (.tuple #[]) (w.setCells b o L):=by
 subst hn;have hst:=run_storeCells_cells (P:=P) b o L 0 w (by simpa using hc) (by simpa using hf) h1;simp only [Nat.add_zero] at hst;simp [Builtin.clear_,run_underlying ht,hv,hL,hst]
def DelR {α:Type} (enc:α->List Value) (E:TypeId) (sz B:Nat) (ys:List α) (i:Nat) (v:Value) (w:World) (e:Ending) (w':World):Prop:=
 ∃ g cap,e=.returned (.slice (some ⟨g,0,none⟩) (ys.length - 1) cap)/\w'.ownsRow B E sz (.slice (some ⟨g,0,none⟩) (ys.length - 1) cap) (ys.eraseIdx i).length ((ys.eraseIdx i).flatMap enc)/\w.grownBy w' v.ownBlock/\v.ownBlock=some g
theorem erase_flat {α:Type} (enc:α->List Value) {sz:Nat} (hsz:∀ x,(enc x).length=sz):∀ (ys:List α) (i:Nat),i < ys.length->(ys.eraseIdx i).flatMap enc=(ys.flatMap enc).take (i * sz) ++ (ys.flatMap enc).drop ((i+1) * sz)
 | [],i,h=>by cases h
 | y :: ys,0,_=>by
   rw [List.eraseIdx_cons_zero,List.flatMap_cons,Nat.zero_mul,List.take_zero,List.nil_append,Nat.zero_add,Nat.one_mul,<-hsz y,List.drop_left'];rfl
 | y :: ys,i+1,h=>by
   have e1:(i+1) * sz=(enc y).length+i * sz:=by rw [hsz,Nat.add_mul,Nat.one_mul];omega
   have e2:(i+1+1) * sz=(enc y).length+(i+1) * sz:=by rw [hsz,Nat.add_mul (i+1),Nat.one_mul];omega
   rw [List.eraseIdx_cons_succ,List.flatMap_cons,List.flatMap_cons,erase_flat enc hsz ys i (by simpa using h),e2,e1,List.take_length_add_append,List.drop_length_add_append,List.append_assoc]
theorem del_take (X news L fl:List Value) (P M N:Nat) (hM:news.length=M) (hX:P+M<=X.length) (hfl:X.take N=fl) (hPN:P<=N):(spl (spl X P news) (P+M) L).take (P+M)=fl.take P ++ news:=by
 have h1:(X.take P ++ news).length=P+M:=by simp;omega
 have hY:(spl X P news).take (P+M)=X.take P ++ news:=by
  unfold spl;rw [List.take_append_of_le_length (by rw [h1];exact Nat.le_refl _),List.take_of_length_le (by rw [h1];exact Nat.le_refl _)]
 have hl:(spl X P news).length=X.length:=spl_len (by omega)
 have hZ:(spl (spl X P news) (P+M) L).take (P+M)=(spl X P news).take (P+M):=by
  conv=>lhs;unfold spl
  rw [List.append_assoc,List.take_append_of_le_length (by rw [List.length_take];unfold spl at hl;omega),List.take_take,Nat.min_self];rfl
 rw [hZ,hY,<-hfl,List.take_take,Nat.min_eq_left hPN]
set_option maxHeartbeats 4000000 in
set_option maxRecDepth 100000 in
theorem del_in (B:Nat) (ys:List Inp) (i j:Nat) (hj:j=i+1) (v:Value) (w:World) (hi:i < ys.length) (hown:w.ownsRow B 41 13 v ys.length (ys.flatMap inE)) :
  Calls Tryz.prog 65 #[v,.int .i64 (i:Nat),.int .i64 (j:Nat)] w (DelR inE 41 13 B ys i v w):=by
 have HP:=hid (show ∀ g cap w',w'.ownsRow B 41 13 (.slice (some ⟨g,0,none⟩) (ys.length - 1) cap) (ys.eraseIdx i).length ((ys.eraseIdx i).flatMap inE)->w.grownBy w' v.ownBlock->v.ownBlock=some g->DelR inE 41 13 B ys i v w (.returned (.slice (some ⟨g,0,none⟩) (ys.length - 1) cap)) w' from fun g cap w' h1 h2 h3=>⟨g,cap,rfl,h1,h2,h3⟩);rw [erase_flat inE inE_len ys i hi,List.length_eraseIdx,if_pos hi,<-hj] at HP;obtain ⟨hfl,hr⟩:=hown
 have hone:∀ u∈ys.flatMap inE,u.oneCell'=true:=fun u hu=>by
  obtain ⟨x,_,hx⟩:=List.mem_flatMap.1 hu;exact inE_one x u hx
 generalize hYS:ys.flatMap inE=fl at *;clear hYS;generalize hQ:DelR inE 41 13 B ys i v w=Q at *;clear hQ;generalize ys.length=n at *;rcases hr with ⟨_,h0⟩ | ⟨g0,cap,cur,rfl,hg0,hh,hnc,hcm,hcs,htk⟩
 . omega
 obtain ⟨i0,hi0,hz0,hz1,hz2⟩:=info_parts ininfo;have hgl:g0 < w.heap.size:=lt_of_blk hh;unfold maxLen at hcm;have hcur:n * 13<=cur.size:=by rw [hcs];exact Nat.mul_le_mul_right _ hnc
 have hcell:∀ (k:Nat) (u:Value),fl[k]?=some u->w.cell? ⟨g0,k,none⟩=some u:=fun k u hk=>by
  have hk':k < n * 13:=by have:=(List.getElem?_eq_some_iff.1 hk).1;omega
  rw [cell_of hh,<-hk,<-htk,List.getElem?_take,if_pos hk',Array.getElem?_toList]
 have hthere:∀ k,k < n * 13->(w.cell? ⟨g0,k,none⟩).isSome=true/\w.frozen? ⟨g0,k,none⟩=false:=fun k hk=>⟨by rw [cell_of hh,Array.getElem?_eq_getElem (by omega)];rfl,frozen_of hh k⟩;have hlt:i < j:=by omega
 have hjn:j<=n:=by omega
 have hm1:j * 13<=n * 13:=Nat.mul_le_mul_right _ hjn;have hm2:j * 13=i * 13+13:=by rw [hj,Nat.add_mul,Nat.one_mul]
 have hm3:(n - j) * 13=n * 13 - j * 13:=Nat.sub_mul _ _ _;have hm4:(n - 1) * 13=n * 13 - 13:=by rw [Nat.sub_mul,Nat.one_mul]
 obtain ⟨news,hnews⟩:∃ news,news=fl.drop (j * 13):=⟨_,rfl⟩;have hlen:news.length=(n - j) * 13:=by rw [hnews,List.length_drop,hfl,hm3]
 obtain ⟨A,hA,hsrc⟩:∃ A:Addr,(if cap=j then some (⟨g0,0,none⟩:Addr) else some ⟨g0,j * 13,none⟩)=some A/\Hid (∀ t u,news[t]?=some u->w.drew.cell? (A.add t)=some u):=by
  by_cases h:cap=j
  . refine ⟨⟨g0,0,none⟩,by simp [h],hid fun t u hu=>?_⟩
    have h0:news.length=0:=by rw [hlen,show n - j=0 by omega,Nat.zero_mul]
    rw [List.length_eq_zero_iff.1 h0] at hu;simp at hu
  . refine ⟨⟨g0,j * 13,none⟩,by simp [h],hid fun t u hu=>?_⟩
    rw [hnews,List.getElem?_drop] at hu;rw [Addr.add_lit];exact hcell _ _ hu
 have s1:=hid hlen;have s2:=hid (show ∀ u∈news,u.oneCell'=true from fun u hu=>hone u (List.mem_of_mem_drop (hnews ▸ hu)));have s3:=hid (show ∀ t,t < news.length->(w.drew.cell? ⟨g0,0+i * 13+t,none⟩).isSome=true/\w.drew.frozen? ⟨g0,0+i * 13+t,none⟩=false from fun t ht=>hthere _ (by rw [hlen,hm3] at ht;omega));obtain ⟨W1,hW1⟩:∃ W1,W1=w.drew.setCells g0 (0+i * 13) news:=⟨_,rfl⟩
 have hb1:W1.heap[g0]?=some (.cells (spl cur.toList (i * 13) news).toArray 41 (0,0)):=by
  rw [hW1,Nat.zero_add];exact heap_setCells_at g0 news (i * 13) w.drew cur hh (by rw [hlen,hm3];omega)
 have ho1:∀ b,b≠g0->W1.heap[b]?=w.heap[b]?:=fun b hb=>by
  rw [hW1];exact heap_setCells_ne g0 news _ w.drew hb
 have hs1:W1.heap.size=w.heap.size:=by
  rw [hW1];exact size_setCells' g0 news _ w.drew
 have hsp:(spl cur.toList (i * 13) news).length=cur.size:=by
  rw [spl_len (by rw [hlen,hm3,Array.length_toList];omega),Array.length_toList]
 obtain ⟨L,hL⟩:∃ L,(Builtin.zeroCells (.agg #[.string ByteArray.empty,.string ByteArray.empty,.string ByteArray.empty,.string ByteArray.empty,.int .i64 0,.int .i64 0,.string ByteArray.empty,.slice none 0 0,.slice none 0 0,.int .i64 0,.bool false,.bool false,.slice none 0 0]:Value).cells 1).toList=L:=⟨_,rfl⟩;have hLl:L.length=13:=by rw [<-hL];kernel_rfl
 have hL1:∀ u∈L,u.oneCell'=true:=by rw [<-hL];decide +kernel
 have hlast:(i+(n - j)) * 13=n * 13 - 13:=by rw [<-hm4,show i+(n - j)=n - 1 by omega]
 have hcl:∀ ty c,(Builtin.clear_ #[22] ty #[.slice (some ⟨g0,(i+(n - j)) * 13,none⟩) (n - (i+(n - j))) c]).run Tryz.prog W1=.ok (.tuple #[]) (W1.setCells g0 ((i+(n - j)) * 13) L):=fun ty c =>
  run_clear_k W1 22 41 ty (.agg #[.string ByteArray.empty,.string ByteArray.empty,.string ByteArray.empty,.string ByteArray.empty,.int .i64 0,.int .i64 0,.string ByteArray.empty,.slice none 0 0,.slice none 0 0,.int .i64 0,.bool false,.bool false,.slice none 0 0]) L Tryz.underlying22 (fun w=>by first | (go_simp;done) | (go_simp;rfl)) hL hL1 g0 _ _ c (by omega) (fun k hk=>by
   rw [cell_of hb1,List.getElem?_toArray,List.getElem?_eq_getElem (by rw [hsp,hlast];omega)];rfl) (fun k hk=>frozen_of hb1 _)
 have hW:=hid hW1;have hic:i<=cap:=by omega
 have hjc:j<=cap:=by omega
 have hin:i+(n - j)<=n:=by omega
 have HF:=hid (show Q (.returned (.slice (some ⟨g0,0,none⟩) (i+(n - j)) cap)) (W1.setCells g0 ((i+(n - j)) * 13) L) from by
  have hq:=HP.out g0 cap (W1.setCells g0 ((i+(n - j)) * 13) L) ?_ ?_ rfl
  . rw [show i+(n - j)=n - 1 by omega] at *
    exact hq
  . have hX:=heap_setCells_at g0 L ((i+(n - j)) * 13) W1 _ hb1 (by simp only [List.size_toArray];rw [hsp,hlast,hLl];omega)
    refine own_of (X:=spl (spl cur.toList (i * 13) news) ((i+(n - j)) * 13) L) (by simpa using hX) hg0 (by omega) (by unfold maxLen;exact hcm) (by rw [spl_len (by rw [hsp,hlast,hLl];omega),hsp,hcs]) (by simp only [List.length_append,List.length_take,List.length_drop,hfl,hm4];omega) ?_;rw [hnews,<-del_take cur.toList (fl.drop (j * 13)) L fl (i * 13) ((n - j) * 13) (n * 13) (hnews ▸ hlen) (by rw [hm3,Array.length_toList];omega) htk (by omega)];rw [show (n - 1) * 13=i * 13+(n - j) * 13 by omega,show (i+(n - j)) * 13=i * 13+(n - j) * 13 by omega]
  . have q1:=same_setCells g0 news (0+i * 13) w.drew
    have q2:=same_setCells g0 L ((i+(n - j)) * 13) W1;rw [<-hW1] at q1;refine ⟨q2.1.trans q1.1,q2.2.1.trans q1.2.1,q2.2.2.trans q1.2.2,?_,fun b hb hrow=>?_⟩
    . rw [size_setCells',hs1];exact Nat.le_refl _
    . have hbg:b≠g0:=fun e=>by subst e;first | exact hrow rfl | exact absurd hrow (by simp [Value.ownBlock])
      rw [heap_setCells_ne _ _ _ _ hbg,ho1 b hbg])
 clear hb1 ho1 hs1 hsp hLl hL1 hL hlast hm1 hm2 hm3 hm4 hcell hthere hcur hone hnews hlen htk hcs hh HP hW1 hfl hj;go_enter Tryz.func65,Tryz.ntmps65;go_wp2_with fail
 have mixed:Tryz.prog.follows Departure.mixedOrders=true:=by kernel_rfl
 go_region_law_o (refine step_append_room rfl (.tmp 22) (.tmp 25) 22 rfl 41 i0 13 Tryz.underlying22 hi0 hz1 g0 0 i cap (by simp [Act.eval,Act.put]) A (n - j) (cap - j) news (by simp [Act.eval,Act.put]) s1.out hsrc.out s2.out (by omega) s3.out ?_;rw [<-hW.out])
 go_wp2
 exact HF.out
end Go.Proofs.YtomhbcfjhgecbaaGreatDoor
namespace Go.Proofs.YtomhbcfjhgecbaaGreatDoor
open Go.RowKit Go.Sort Go.Lib
theorem cmpS_neg {a b:ByteArray} : cmpS a b < 0 ↔ a.data.toList < b.data.toList:=by
 unfold cmpS;constructor
 . intro h
   split at h
   . assumption
   . split at h <;> omega
 . intro h
   rw [if_pos h];omega
theorem cmpP_lt {a b:ByteArray × ByteArray} : cmpP a b < 0 ↔ a.1.data.toList < b.1.data.toList ∨ (a.1=b.1/\a.2.data.toList < b.2.data.toList):=by
 unfold cmpP fstNZ fstNZ fstNZ
 by_cases h1:cmpS a.1 b.1=0
 . rw [if_neg (by simp [h1])]
   have e:=cmpS_zero.1 h1;rw [e];constructor
   . intro h
     by_cases h2:cmpS a.2 b.2=0
     . rw [if_neg (by simp [h2])] at h;omega
     . rw [if_pos h2] at h;exact Or.inr ⟨rfl,cmpS_neg.1 h⟩
   . rintro (h | ⟨_,h⟩)
     . exact absurd h (List.lt_irrefl _)
     . have:=cmpS_neg.2 h
       rw [if_pos (by omega)];exact this
 . rw [if_pos h1,cmpS_neg]
   exact ⟨Or.inl,fun h=>h.resolve_right fun e=>h1 (cmpS_zero.2 e.1)⟩
theorem cmpP_trans {a b c:ByteArray × ByteArray} (h1:cmpP a b < 0) (h2:cmpP b c < 0):cmpP a c < 0:=by
 rw [cmpP_lt] at *;rcases h1 with h1 | ⟨e1,h1⟩
 . rcases h2 with h2 | ⟨e2,h2⟩
   . exact Or.inl (List.lt_trans h1 h2)
   . rw [<-e2];exact Or.inl h1
 . rcases h2 with h2 | ⟨e2,h2⟩
   . rw [e1];exact Or.inl h2
   . exact Or.inr ⟨e1.trans e2,List.lt_trans h1 h2⟩
def AscP (xs:List Ins):Prop:=xs.Pairwise fun a b=>cmpP (plOf a) (plOf b) < 0
theorem ascP_at {xs:List Ins} (h:AscP xs) {i j:Nat} (hi:i < xs.length) (hj:j < xs.length) (hij:i < j):cmpP (plOf xs[i]) (plOf xs[j]) < 0:=List.pairwise_iff_getElem.1 h i j hi hj hij
def lowP (xs:List Ins) (q:ByteArray × ByteArray):Nat:=(xs.takeWhile fun x=>decide (cmpP (plOf x) q < 0)).length
def fndP (xs:List Ins) (q:ByteArray × ByteArray):Bool:=xs.any fun x=>decide (plOf x=q)
theorem fndP_iff {xs:List Ins} {q:ByteArray × ByteArray} : fndP xs q=true ↔ ∃ x∈xs,plOf x=q:=by unfold fndP;simp
theorem takeW_len {α:Type} {p:α->Bool} : ∀ {l:List α} {k:Nat},k<=l.length->(∀ j (hj:j < l.length),j < k->p l[j]=true)->(∀ h:k < l.length,p l[k]=false)->(l.takeWhile p).length=k
 | [],k,hk,_,_=>by simp at hk;subst hk;rfl
 | x :: l,0,_,_,h2=>by
   have:=h2 (by simp);simp only [List.getElem_cons_zero] at this;rw [List.takeWhile_cons,this];rfl
 | x :: l,k+1,hk,h1,h2=>by
   have h0:=h1 0 (by simp) (by omega);simp only [List.getElem_cons_zero] at h0;rw [List.takeWhile_cons,h0];simp only [if_true,List.length_cons];rw [takeW_len (l:=l) (k:=k) (by simpa using hk) (fun j hj hjk=>by have:=h1 (j+1) (by simpa using hj) (by omega);simpa using this) (fun h=>by have:=h2 (by simpa using h);simpa using this)]
theorem lowP_of {xs:List Ins} {q:ByteArray × ByteArray} {k:Nat} (hk:k<=xs.length) (h1:∀ j (hj:j < xs.length),j < k->cmpP (plOf xs[j]) q < 0) (h2:∀ h:k < xs.length,¬ cmpP (plOf xs[k]) q < 0):lowP xs q=k:=
 takeW_len hk (fun j hj hjk=>decide_eq_true (h1 j hj hjk)) (fun h=>decide_eq_false (h2 h))
theorem fndP_of {xs:List Ins} {q:ByteArray × ByteArray} {k:Nat} (hs:AscP xs) (h1:∀ j (hj:j < xs.length),j < k->cmpP (plOf xs[j]) q < 0) (h2:∀ h:k < xs.length,¬ cmpP (plOf xs[k]) q < 0) :
  fndP xs q=true ↔ ∃ h:k < xs.length,cmpP (plOf xs[k]) q=0:=by
 rw [fndP_iff];constructor
 . rintro ⟨x,hx,e⟩
   obtain ⟨j,hj,rfl⟩:=List.mem_iff_getElem.1 hx;have h0:cmpP (plOf xs[j]) q=0:=cmpP_zero.2 e;rcases Nat.lt_trichotomy j k with h | h | h
   . have:=h1 j hj h;omega
   . subst h;exact ⟨hj,h0⟩
   . have hk:k < xs.length:=by omega
     have h3:=ascP_at hs hk hj h;rw [e] at h3;exact absurd h3 (h2 hk)
 . rintro ⟨h,e⟩
   exact ⟨_,List.getElem_mem h,cmpP_zero.1 e⟩
end Go.Proofs.YtomhbcfjhgecbaaGreatDoor
namespace Go.Proofs.YtomhbcfjhgecbaaGreatDoor
open Go.RowKit Go.Sort Go.Lib
open Go.Lib (hid)
attribute [local go_sem] Stp.frUpon
attribute [local go_sem ↓] ldI_eq
attribute [local go_sem] ldI_run
attribute [local go_sem ↓] stI_eq
attribute [local go_sem] stI_run thereI_drew thereI_new put13_drew put13_new liesI_new rd13_new liesI_drew rd13_drew
set_option maxRecDepth 100000 in
set_option maxHeartbeats 16000000 in
theorem bsf_any (r:Option Addr) (c:Nat) (xs:List Ins) (q:ByteArray × ByteArray) (fb:Nat) (w:World) (hS:Sl InR 13 w (.slice r xs.length c) xs) (hA:AscP xs) (hf:w.cell? ⟨fb,0,none⟩=some (.func (.func 34) #[] #[])) (hn:xs.length<=1000000) :
  Calls Tryz.prog 89 #[.slice r xs.length c,.agg #[.string q.1,.string q.2],.func (.func 90) #[] #[.pointer (some ⟨fb,0,none⟩)]] w fun e w'=>e=.returned (.tuple #[.int .i64 (lowP xs q:Nat),.bool (fndP xs q)])/\Below w.heap.size w w':=by
 obtain ⟨q1,q2⟩:=q;have HCH:=hid (fun (W:World) (hW:Below w.heap.size w W)=>in_at (hS.below inR_mono hW));have HCP:=hid (fun (x:Ins) (p:Pt) (W:World) (hW:Below w.heap.size w W)=>search1_any x p (q1,q2) fb W (bget hW hf));obtain ⟨_,hl,hm⟩:=sl_len hS;have HB0:=hid (show Below w.heap.size w (w.alloc (.cells #[.string q1,.string q2] 70)) from (Below.refl _ _).alloc (Nat.le_refl _) _);have HZ0:=hid (show (w.alloc (.cells #[.string q1,.string q2] 70)).cell? ⟨w.heap.size,0,none⟩=some (.string q1)/\(w.alloc (.cells #[.string q1,.string q2] 70)).cell? ⟨w.heap.size,1,none⟩=some (.string q2) from ⟨cell_at rfl rfl,cell_at rfl rfl⟩);have HLW:=hid (fun k hk h1 h2=>lowP_of (xs:=xs) (q:=(q1,q2)) (k:=k) hk h1 h2);have HFD:=hid (fun k h1 h2=>fndP_of (xs:=xs) (q:=(q1,q2)) (k:=k) hA h1 h2);have HAS:=hid (fun i j hi hj hij=>ascP_at (xs:=xs) hA (i:=i) (j:=j) hi hj hij);have HTR:=hid (fun a b=>cmpP_trans (a:=a) (b:=b) (c:=(q1,q2)));clear hS hf hA;simp only at HCP ⊢;go_enter Tryz.func89,Tryz.ntmps89;go_wp2
 generalize w.alloc (.cells #[.string q1,.string q2] 70)=W0 at *;go_loopg [9,10] xs.length (fun gg s9 s10 wr=>∃ i j:Nat,i<=j/\j<=xs.length/\j - i<=gg/\s9=.int .i64 i/\s10=.int .i64 j/\Hid (Below W0.heap.size W0 wr)/\Hid (∀ k (hk:k < xs.length),k < i->cmpP (plOf xs[k]) (q1,q2) < 0)/\Hid (∀ k (hk:k < xs.length),j<=k->¬ cmpP (plOf xs[k]) (q1,q2) < 0))
 case atStart=>exact ⟨0,xs.length,by omega,by omega,by omega,rfl,rfl,hid (Below.refl _ _),hid (fun k hk h=>absurd h (by omega)),hid (fun k hk h=>absurd h (by omega))⟩
 case round =>
  obtain ⟨i,j,hij,hj,hgg,rfl,rfl,HB,HI,HJ⟩:=hrel;have HBW:=hid (HB0.out.trans (HB.out.mono HB0.out.size))
  by_cases hlt:i < j
  . have hw:IntKind.i64.wrap ((i:Int)+(j:Int))=(i:Int)+(j:Int):=IntWalk.i64_in _ (by omega)
    obtain ⟨h,hh⟩:∃ h:Nat,h=(i+j) / 2:=⟨_,rfl⟩;have hh2:((i:Int)+(j:Int)) / 2=(h:Int):=by omega
    have hhl:h < xs.length:=by omega
    have h0:(0:Int)<=(h:Int):=by omega
    have h1:(h:Int) < (xs.length:Int):=by omega
    have HHI:=hid (show i<=h/\h < j by omega);clear hh;obtain ⟨cb,coff,p,rfl,hcb,hcell,hx⟩:=HCH.out wr HBW.out h hhl;obtain ⟨l1,l2⟩:=liesI_of (cellsI xs[h] p) hcell;have HLX:=hid (fun (W:World) (hW:Below wr.heap.size wr W)=>show LiesI W cb (coff+h * 13)/\rd13 W cb (coff+h * 13)=insA xs[h] p from ⟨(l1.below hW).1,((l1.below hW).2).trans l2⟩);have HCL:=hid (fun (W:World) (hW:Below wr.heap.size wr W)=>HCP.out xs[h] p W (HBW.out.trans (hW.mono HBW.out.size)));have z0:=bget HB.out HZ0.out.1;have z1:=bget HB.out HZ0.out.2;have c0:=fun d os=>cell_regrown z0 d os;have c1:=fun d os=>cell_regrown z1 d os;clear hcell hx l1 l2
    have HUP:=hid (fun (hc:cmpP (plOf xs[h]) (q1,q2) < 0)=>show ∀ k (hk:k < xs.length),k < h+1->cmpP (plOf xs[k]) (q1,q2) < 0 from fun k hk hkh=>by
     by_cases e:k=h
     . subst e;exact hc
     . exact HTR.out _ _ (HAS.out k h hk hhl (by omega)) hc)
    have HDN:=hid (fun (hc:¬ cmpP (plOf xs[h]) (q1,q2) < 0)=>show ∀ k (hk:k < xs.length),h<=k->¬ cmpP (plOf xs[k]) (q1,q2) < 0 from fun k hk hkh=>by
     by_cases e:k=h
     . subst e;exact hc
     . exact fun hc2=>hc (HTR.out _ _ (HAS.out h k hhl hk (by omega)) hc2))
    generalize cmpP (plOf xs[h]) (q1,q2)=V at *;generalize insA xs[h] p=X at *;go_wp2_with fail
    refine Stp.wp_region_fresh (fun k=>match k with | 4=>some (Stp.sVal (.agg X)) | 6=>some (Stp.sVal (.int .i64 V)) | _=>none) (by kernel_rfl) (by kernel_rfl) ?_
    iterate 4 (refine Stp.wq ?_;intro K hK;go_big_quiet_op;go_big_quiet_on)
    refine Stp.wpF_told (Stp.sVal (.agg X)) (by kernel_rfl) rfl ⟨_,rfl⟩ Stp.stTrue (fun w4 hw4 hE4=>?_) ?_
    . have hb4:=Stp.grw_below hw4
      obtain ⟨l1,l2⟩:=HLX.out w4 hb4;clear hw4 hE4 hb4;go_simp
      exact ⟨Stp.Lat.refl _,rfl,trivial⟩
    rintro _ rfl
    (refine Stp.wpF_put ?_;intro K hK;go_simp;refine hK _ ?_;clear hK K)
    (refine Stp.wq ?_;intro K hK;go_big_quiet_op;go_big_quiet_on)
    refine Stp.wpF_told (Stp.sVal (.int .i64 V)) (by kernel_rfl) rfl ⟨_,rfl⟩ Stp.stTrue (fun w4 hw4 hE4=>?_) ?_
    . have hb4:=Stp.grw_below hw4
      have hh:=HCL.out w4 hb4;clear hw4 hE4 hb4;go_simp
      go_at_call 90;refine Calls.mono hh ?_;rintro e w5 ⟨rfl,hb5⟩;exact ⟨_,rfl,hb5,rfl,trivial⟩
    rintro _ rfl
    (refine Stp.wpF_put ?_;intro K hK;go_simp;refine hK _ ?_;clear hK K)
    (refine Stp.wq ?_;intro K hK;go_big_quiet_op;go_big_quiet_on)
    refine Stp.wpF_nil ?_;intro w6 hw6 hE6;have hb6:=Stp.grw_below hw6;clear hw6 hE6;have HB6:=hid (HB.out.trans (hb6.mono HB.out.size));clear hb6
    by_cases hv:V < 0
    . have HUP2:=hid (HUP.out hv)
      go_wp2
      go_roundg (j - (h+1))
      case measure=>have:=HHI.out;omega
      case rel=>exact ⟨h+1,j,by have:=HHI.out;omega,by omega,by omega,by go_num,rfl,HB6,HUP2,HJ⟩
    . have HDN2:=hid (HDN.out (by omega))
      go_wp2
      go_roundg (h - i)
      case measure=>have:=HHI.out;omega
      case rel=>exact ⟨i,h,by have:=HHI.out;omega,by omega,by omega,rfl,rfl,HB6,HI,HDN2⟩
  . obtain rfl:i=j:=by omega
    have HL:=hid (HLW.out i hj HI.out (fun h=>by have:=HJ.out i h (Nat.le_refl _);omega));have HF:=hid (HFD.out i HI.out (fun h=>by have:=HJ.out i h (Nat.le_refl _);omega))
    by_cases hil:i < xs.length
    . have h0:(0:Int)<=(i:Int):=by omega
      have h1:(i:Int) < (xs.length:Int):=by omega
      obtain ⟨cb,coff,p,rfl,hcb,hcell,hx⟩:=HCH.out wr HBW.out i hil;obtain ⟨l1,l2⟩:=liesI_of (cellsI xs[i] p) hcell;have HLX:=hid (fun (W:World) (hW:Below wr.heap.size wr W)=>show LiesI W cb (coff+i * 13)/\rd13 W cb (coff+i * 13)=insA xs[i] p from ⟨(l1.below hW).1,((l1.below hW).2).trans l2⟩);have HCL:=hid (fun (W:World) (hW:Below wr.heap.size wr W)=>HCP.out xs[i] p W (HBW.out.trans (hW.mono HBW.out.size)));have z0:=bget HB.out HZ0.out.1;have z1:=bget HB.out HZ0.out.2;have c0:=fun d os=>cell_regrown z0 d os;have c1:=fun d os=>cell_regrown z1 d os;clear hcell hx l1 l2;have HF2:=hid (show fndP xs (q1,q2)=true ↔ cmpP (plOf xs[i]) (q1,q2)=0 from ⟨fun h=>(HF.out.1 h).2,fun h=>HF.out.2 ⟨hil,h⟩⟩);clear HF;generalize cmpP (plOf xs[i]) (q1,q2)=V at *;generalize insA xs[i] p=X at *
      by_cases hv:V=0
      . subst hv
        have HF3:=hid (HF2.out.2 rfl);go_wp2_with fail
        refine Stp.wp_region_fresh (fun k=>match k with | 9=>some (Stp.sVal (.agg X)) | 11=>some (Stp.sVal (.int .i64 0)) | _=>none) (by kernel_rfl) (by kernel_rfl) ?_
        iterate 9 (refine Stp.wq ?_;intro K hK;go_big_quiet_op;go_big_quiet_on)
        refine Stp.wpF_told (Stp.sVal (.agg X)) (by kernel_rfl) rfl ⟨_,rfl⟩ Stp.stTrue (fun w4 hw4 hE4=>?_) ?_
        . have hb4:=Stp.grw_below hw4
          obtain ⟨l1,l2⟩:=HLX.out w4 hb4;clear hw4 hE4 hb4;go_simp
          exact ⟨Stp.Lat.refl _,rfl,trivial⟩
        rintro _ rfl
        (refine Stp.wpF_put ?_;intro K hK;go_simp;refine hK _ ?_;clear hK K)
        (refine Stp.wq ?_;intro K hK;go_big_quiet_op;go_big_quiet_on)
        refine Stp.wpF_told (Stp.sVal (.int .i64 0)) (by kernel_rfl) rfl ⟨_,rfl⟩ Stp.stTrue (fun w4 hw4 hE4=>?_) ?_
        . have hb4:=Stp.grw_below hw4
          have hh:=HCL.out w4 hb4;clear hw4 hE4 hb4;go_simp
          go_at_call 90;refine Calls.mono hh ?_;rintro e w5 ⟨rfl,hb5⟩;exact ⟨_,rfl,hb5,rfl,trivial⟩
        rintro _ rfl
        (refine Stp.wpF_put ?_;intro K hK;go_simp;refine hK _ ?_;clear hK K)
        iterate 4 (refine Stp.wq ?_;intro K hK;go_big_quiet_op;go_big_quiet_on)
        refine Stp.wpF_nil ?_;intro w6 hw6 hE6;have hb6:=Stp.grw_below hw6;clear hw6 hE6;have HB6:=hid (HB.out.trans (hb6.mono HB.out.size));clear hb6;go_wp2
        go_ret2
        exact ⟨by rw [HL.out,HF3.out];rfl,HB0.out.trans (HB6.out.mono HB0.out.size)⟩
      . have HF3:=hid (show fndP xs (q1,q2)=false from by
         cases h:fndP xs (q1,q2) with
         | false=>rfl
         | true=>exact absurd (HF2.out.1 h) hv)
        have e1:(V == 0)=false:=by simpa using hv
        clear hv;go_wp2_with fail
        refine Stp.wp_region_fresh (fun k=>match k with | 9=>some (Stp.sVal (.agg X)) | 11=>some (Stp.sVal (.int .i64 V)) | _=>none) (by kernel_rfl) (by kernel_rfl) ?_
        iterate 9 (refine Stp.wq ?_;intro K hK;go_big_quiet_op;go_big_quiet_on)
        refine Stp.wpF_told (Stp.sVal (.agg X)) (by kernel_rfl) rfl ⟨_,rfl⟩ Stp.stTrue (fun w4 hw4 hE4=>?_) ?_
        . have hb4:=Stp.grw_below hw4
          obtain ⟨l1,l2⟩:=HLX.out w4 hb4;clear hw4 hE4 hb4;go_simp
          exact ⟨Stp.Lat.refl _,rfl,trivial⟩
        rintro _ rfl
        (refine Stp.wpF_put ?_;intro K hK;go_simp;refine hK _ ?_;clear hK K)
        (refine Stp.wq ?_;intro K hK;go_big_quiet_op;go_big_quiet_on)
        refine Stp.wpF_told (Stp.sVal (.int .i64 V)) (by kernel_rfl) rfl ⟨_,rfl⟩ Stp.stTrue (fun w4 hw4 hE4=>?_) ?_
        . have hb4:=Stp.grw_below hw4
          have hh:=HCL.out w4 hb4;clear hw4 hE4 hb4;go_simp
          go_at_call 90;refine Calls.mono hh ?_;rintro e w5 ⟨rfl,hb5⟩;exact ⟨_,rfl,hb5,rfl,trivial⟩
        rintro _ rfl
        (refine Stp.wpF_put ?_;intro K hK;go_simp;refine hK _ ?_;clear hK K)
        iterate 4 (refine Stp.wq ?_;intro K hK;go_big_quiet_op;go_big_quiet_on)
        refine Stp.wpF_nil ?_;intro w6 hw6 hE6;have hb6:=Stp.grw_below hw6;clear hw6 hE6;have HB6:=hid (HB.out.trans (hb6.mono HB.out.size));clear hb6;go_wp2
        go_ret2
        exact ⟨by rw [HL.out,HF3.out];rfl,HB0.out.trans (HB6.out.mono HB0.out.size)⟩
    . have HF3:=hid (show fndP xs (q1,q2)=false from by
       cases h:fndP xs (q1,q2) with
       | false=>rfl
       | true=>exact absurd (HF.out.1 h).1 hil)
      have h1:decide ((i:Int) < (xs.length:Int))=false:=by simp;omega
      have h2:decide (i < xs.length)=false:=by simp;omega
      clear HF;go_wp2_with fail
      refine Stp.wp_region_fresh (fun _=>none) (by kernel_rfl) (by kernel_rfl) ?_
      iterate 5 (refine Stp.wq ?_;intro K hK;go_big_quiet_op;go_big_quiet_on)
      iterate 8 (refine Stp.wpF_skip (by kernel_rfl) ?_)
      (refine Stp.wpF_put ?_;intro K hK;go_simp;refine hK _ ?_;clear hK K)
      iterate 3 (refine Stp.wq ?_;intro K hK;go_big_quiet_op;go_big_quiet_on)
      refine Stp.wpF_nil ?_;intro w6 hw6 hE6;have hb6:=Stp.grw_below hw6;clear hw6 hE6;have HB6:=hid (HB.out.trans (hb6.mono HB.out.size));clear hb6;go_wp2
      go_ret2
      exact ⟨by rw [HL.out,HF3.out];rfl,HB0.out.trans (HB6.out.mono HB0.out.size)⟩
theorem run_store_func {P:Program} {w:World} {a:Addr} {m:Mode} (f:Fn) (x y:Array Value):(store a (.func f x y) m).run P w=stored P w a (.func f x y) m:=run_store P w a _ m rfl
attribute [local go_sem] run_store_func
set_option maxHeartbeats 4000000 in
theorem search_any (r:Option Addr) (c:Nat) (xs:List Ins) (q:ByteArray × ByteArray) (w:World) (hS:Sl InR 13 w (.slice r xs.length c) xs) (hA:AscP xs) (hn:xs.length<=1000000) :
  Calls Tryz.prog 48 #[.slice r xs.length c,.agg #[.string q.1,.string q.2]] w fun e w'=>e=.returned (.tuple #[.int .i64 (lowP xs q:Nat),.bool (fndP xs q)])/\Below w.heap.size w w':=by
 have HBF:=hid (fun (fb:Nat) (W:World) (hW:Below w.heap.size w W) (hf:W.cell? ⟨fb,0,none⟩=some (.func (.func 34) #[] #[]))=>bsf_any r c xs q fb W (hS.below inR_mono hW) hA hf hn);obtain ⟨q1,q2⟩:=q;clear hS hA;simp only at HBF ⊢;have HB0:=hid (show Below w.heap.size w ((w.alloc (.cells #[.string q1,.string q2] 70)).alloc (.cells #[.func (.func 34) #[] #[]] 115)) from ((Below.refl _ _).alloc (Nat.le_refl _) _).alloc (by simp) _);have HF0:=hid (show ((w.alloc (.cells #[.string q1,.string q2] 70)).alloc (.cells #[.func (.func 34) #[] #[]] 115)).cell? ⟨w.heap.size+1,0,none⟩=some (.func (.func 34) #[] #[]) from cell_at (by simp) rfl);go_enter Tryz.func48,Tryz.ntmps48;go_wp2_with (go_at_call 89;refine (HBF.out _ _ HB0.out HF0.out).mono ?_;rintro e w5 ⟨rfl,hb5⟩;have HB5:=hid (HB0.out.trans (hb5.mono HB0.out.size));clear hb5)
 go_ret2
 exact ⟨rfl,HB5.out⟩
end Go.Proofs.YtomhbcfjhgecbaaGreatDoor
namespace Go.Proofs.YtomhbcfjhgecbaaGreatDoor.Osg
structure OrdK {κ:Type} (lt:κ->κ->Prop):Prop where
 irr:∀ a,¬ lt a a
 tr:∀ {a b c},lt a b->lt b c->lt a c
 tri:∀ a b,lt a b ∨ a=b ∨ lt b a
variable {α κ:Type} {lt:κ->κ->Prop} {k:α->κ}
theorem OrdK.asym {κ:Type} {lt:κ->κ->Prop} (h:OrdK lt) {a b:κ} (h1:lt a b):¬ lt b a:=fun h2=>h.irr _ (h.tr h1 h2)
theorem OrdK.ne {κ:Type} {lt:κ->κ->Prop} (h:OrdK lt) {a b:κ} (h1:lt a b):a≠b:=fun e=>h.irr b (e ▸ h1)
def ltG (lt:κ->κ->Prop) [DecidableRel lt] (k:α->κ) (xs:List α) (q:κ):List α:=xs.filter fun y=>decide (lt (k y) q)
def gtG (lt:κ->κ->Prop) [DecidableRel lt] (k:α->κ) (xs:List α) (q:κ):List α:=xs.filter fun y=>decide (lt q (k y))
def rmG [DecidableEq κ] (k:α->κ) (xs:List α) (q:κ):List α:=xs.filter fun y=>decide (k y≠q)
def putG (lt:κ->κ->Prop) [DecidableRel lt] (k:α->κ) (xs:List α) (x:α):List α:=ltG lt k xs (k x) ++ x :: gtG lt k xs (k x)
def AscG (lt:κ->κ->Prop) (k:α->κ) (xs:List α):Prop:=xs.Pairwise fun a b=>lt (k a) (k b)
def fnG [DecidableEq κ] (k:α->κ) (xs:List α) (q:κ):Option α:=xs.find? fun y=>decide (k y=q)
theorem filter_none {p:α->Bool} {l:List α} (h:∀ x∈l,p x=false):l.filter p=[]:=List.filter_eq_nil_iff.2 fun x hx=>by rw [h x hx];decide
theorem filter_all {p:α->Bool} {l:List α} (h:∀ x∈l,p x=true):l.filter p=l:=List.filter_eq_self.2 h
theorem splitG [DecidableRel lt] [DecidableEq κ] (ho:OrdK lt) {xs:List α} (h:AscG lt k xs) (q:κ) :
  (fnG k xs q=none/\xs=ltG lt k xs q ++ gtG lt k xs q) ∨ ∃ y,fnG k xs q=some y/\k y=q/\xs=ltG lt k xs q ++ y :: gtG lt k xs q:=by
 induction xs with
 | nil=>exact .inl ⟨rfl,rfl⟩
 | cons a t ih =>
   obtain ⟨h1,h2⟩:=List.pairwise_cons.1 h;rcases ho.tri (k a) q with hl | he | hg
   . have e1:ltG lt k (a :: t) q=a :: ltG lt k t q:=by unfold ltG;rw [List.filter_cons];simp [hl]
     have e2:gtG lt k (a :: t) q=gtG lt k t q:=by unfold gtG;rw [List.filter_cons];simp [ho.asym hl]
     have e3:fnG k (a :: t) q=fnG k t q:=by unfold fnG;rw [List.find?_cons];simp [ho.ne hl]
     rw [e1,e2,e3];rcases ih h2 with ⟨i1,i2⟩ | ⟨y,i1,i2,i3⟩
     . exact .inl ⟨i1,by rw [List.cons_append,<-i2]⟩
     . exact .inr ⟨y,i1,i2,by rw [List.cons_append,<-i3]⟩
   . subst he
     have e1:ltG lt k (a :: t) (k a)=[]:=filter_none fun x hx=>by
      rcases List.mem_cons.1 hx with rfl | hx
      . exact decide_eq_false (ho.irr _)
      . exact decide_eq_false (ho.asym (h1 x hx))
     have e2:gtG lt k (a :: t) (k a)=t:=by
      unfold gtG;rw [List.filter_cons,if_neg (by simpa using ho.irr (k a))];exact filter_all fun x hx=>decide_eq_true (h1 x hx)
     exact .inr ⟨a,by unfold fnG;rw [List.find?_cons];simp,rfl,by rw [e1,e2];rfl⟩
   . have hh:∀ x∈a :: t,lt q (k x):=fun x hx=>by
      rcases List.mem_cons.1 hx with rfl | hx
      . exact hg
      . exact ho.tr hg (h1 x hx)
     have e1:ltG lt k (a :: t) q=[]:=filter_none fun x hx=>decide_eq_false (ho.asym (hh x hx));have e2:gtG lt k (a :: t) q=a :: t:=filter_all fun x hx=>decide_eq_true (hh x hx);exact .inl ⟨by unfold fnG;rw [List.find?_eq_none];exact fun x hx=>by simpa using (ho.ne (hh x hx)).symm,by rw [e1,e2];rfl⟩
theorem rmG_eq [DecidableRel lt] [DecidableEq κ] (ho:OrdK lt) {xs:List α} (h:AscG lt k xs) (q:κ):rmG k xs q=ltG lt k xs q ++ gtG lt k xs q:=by
 have h1:∀ x∈ltG lt k xs q,decide (k x≠q)=true:=fun x hx=>by
  have:=(List.mem_filter.1 hx).2;exact decide_eq_true (ho.ne (of_decide_eq_true this))
 have h2:∀ x∈gtG lt k xs q,decide (k x≠q)=true:=fun x hx=>by
  have:=(List.mem_filter.1 hx).2;exact decide_eq_true (ho.ne (of_decide_eq_true this)).symm
 unfold rmG;rcases splitG ho h q with ⟨_,e⟩ | ⟨y,_,ey,e⟩
 . generalize ltG lt k xs q=L at *
   generalize gtG lt k xs q=G at *;rw [e,List.filter_append,filter_all h1,filter_all h2]
 . generalize ltG lt k xs q=L at *
   generalize gtG lt k xs q=G at *;rw [e,List.filter_append,List.filter_cons,filter_all h1,filter_all h2,if_neg (by simp [ey])]
theorem ascG_sub {xs ys:List α} (h:AscG lt k xs) (hs:ys.Sublist xs):AscG lt k ys:=List.Pairwise.sublist hs h
theorem ascG_rm [DecidableEq κ] {xs:List α} (h:AscG lt k xs) (q:κ):AscG lt k (rmG k xs q):=ascG_sub h List.filter_sublist
theorem ascG_put [DecidableRel lt] (ho:OrdK lt) {xs:List α} (h:AscG lt k xs) (x:α):AscG lt k (putG lt k xs x):=by
 have h1:∀ a∈ltG lt k xs (k x),lt (k a) (k x):=fun a ha=>of_decide_eq_true (List.mem_filter.1 ha).2;have h2:∀ a∈gtG lt k xs (k x),lt (k x) (k a):=fun a ha=>of_decide_eq_true (List.mem_filter.1 ha).2;refine List.pairwise_append.2 ⟨ascG_sub h List.filter_sublist,List.pairwise_cons.2 ⟨h2,ascG_sub h List.filter_sublist⟩,fun a ha b hb=>?_⟩;rcases List.mem_cons.1 hb with rfl | hb
 . exact h1 a ha
 . exact ho.tr (h1 a ha) (h2 b hb)
theorem takeW_split {p:α->Bool} : ∀ {l r:List α},(∀ x∈l,p x=true)->(∀ x,r.head?=some x->p x=false)->(l ++ r).takeWhile p=l/\(l ++ r).dropWhile p=r
 | [],[],_,_=>⟨rfl,rfl⟩
 | [],y :: r,_,h2=>by
   have:=h2 y rfl;exact ⟨by rw [List.nil_append,List.takeWhile_cons,this];rfl,by rw [List.nil_append,List.dropWhile_cons,this];rfl⟩
 | x :: l,r,h1,h2=>by
   have h0:=h1 x (List.mem_cons_self ..);obtain ⟨i1,i2⟩:=takeW_split (l:=l) (r:=r) (fun y hy=>h1 y (List.mem_cons_of_mem _ hy)) h2;exact ⟨by rw [List.cons_append,List.takeWhile_cons,h0,if_pos rfl,i1],by rw [List.cons_append,List.dropWhile_cons,h0,if_pos rfl,i2]⟩
theorem lowG [DecidableRel lt] [DecidableEq κ] (ho:OrdK lt) {xs:List α} (h:AscG lt k xs) (q:κ):(xs.takeWhile fun x=>decide (lt (k x) q)).length=(ltG lt k xs q).length:=by
 have h1:∀ x∈ltG lt k xs q,decide (lt (k x) q)=true:=fun a ha=>(List.mem_filter.1 ha).2;have h2:∀ a∈gtG lt k xs q,lt q (k a):=fun a ha=>of_decide_eq_true (List.mem_filter.1 ha).2;rcases splitG ho h q with ⟨_,e⟩ | ⟨y,_,ey,e⟩
 . generalize ltG lt k xs q=L at *
   generalize gtG lt k xs q=G at *;rw [e,(takeW_split h1 fun x hx=>decide_eq_false (ho.asym (h2 x (List.mem_of_mem_head? hx)))).1]
 . generalize ltG lt k xs q=L at *
   generalize gtG lt k xs q=G at *
   rw [e,(takeW_split h1 fun x hx=>by
    simp only [List.head?_cons,Option.some.injEq] at hx;subst hx;exact decide_eq_false (by rw [ey];exact ho.irr _)).1]
theorem set_putG [DecidableRel lt] [DecidableEq κ] (ho:OrdK lt) {xs:List α} (h:AscG lt k xs) {x y:α} (hf:fnG k xs (k x)=some y):xs.set (ltG lt k xs (k x)).length x=putG lt k xs x:=by
 unfold putG;rcases splitG ho h (k x) with ⟨e0,_⟩ | ⟨z,e0,_,e⟩
 . rw [hf] at e0;cases e0
 . generalize ltG lt k xs (k x)=L at *
   generalize gtG lt k xs (k x)=G at *;rw [e];simp
theorem ins_putG [DecidableRel lt] [DecidableEq κ] (ho:OrdK lt) {xs:List α} (h:AscG lt k xs) {x:α} (hf:fnG k xs (k x)=none):xs.take (ltG lt k xs (k x)).length ++ x :: xs.drop (ltG lt k xs (k x)).length=putG lt k xs x:=by
 unfold putG;rcases splitG ho h (k x) with ⟨_,e⟩ | ⟨z,e0,_⟩
 . generalize ltG lt k xs (k x)=L at *
   generalize gtG lt k xs (k x)=G at *;rw [e];simp
 . rw [hf] at e0;cases e0
theorem del_rmG [DecidableRel lt] [DecidableEq κ] (ho:OrdK lt) {xs:List α} (h:AscG lt k xs) {q:κ} {y:α} (hf:fnG k xs q=some y):xs.take (ltG lt k xs q).length ++ xs.drop ((ltG lt k xs q).length+1)=rmG k xs q:=by
 rw [rmG_eq ho h];rcases splitG ho h q with ⟨e0,_⟩ | ⟨z,e0,_,e⟩
 . rw [hf] at e0;cases e0
 . generalize ltG lt k xs q=L at *
   generalize gtG lt k xs q=G at *;rw [e];simp
theorem rm_none [DecidableEq κ] {xs:List α} {q:κ} (hf:fnG k xs q=none):rmG k xs q=xs:=filter_all fun x hx=>by
 have:=List.find?_eq_none.1 hf x hx;simpa using this
theorem at_fnG [DecidableRel lt] [DecidableEq κ] (ho:OrdK lt) {xs:List α} (h:AscG lt k xs) {q:κ} {y:α} (hf:fnG k xs q=some y):xs[(ltG lt k xs q).length]?=some y:=by
 rcases splitG ho h q with ⟨e0,_⟩ | ⟨z,e0,_,e⟩
 . rw [hf] at e0;cases e0
 . rw [hf] at e0
   cases e0;generalize ltG lt k xs q=L at *;generalize gtG lt k xs q=G at *;rw [e];simp
theorem fnG_mem [DecidableEq κ] {xs:List α} {q:κ} {y:α} (h:fnG k xs q=some y):y∈xs/\k y=q:=⟨List.mem_of_find?_eq_some h,by simpa using List.find?_some h⟩
theorem mem_putG [DecidableRel lt] {xs:List α} {x y:α} (ho:OrdK lt):y∈putG lt k xs x ↔ y=x ∨ (y∈xs/\k y≠k x):=by
 unfold putG ltG gtG;rw [List.mem_append,List.mem_cons,List.mem_filter,List.mem_filter];simp only [decide_eq_true_eq];constructor
 . rintro (⟨h1,h2⟩ | rfl | ⟨h1,h2⟩)
   . exact .inr ⟨h1,ho.ne h2⟩
   . exact .inl rfl
   . exact .inr ⟨h1,(ho.ne h2).symm⟩
 . rintro (rfl | ⟨h1,h2⟩)
   . exact .inr (.inl rfl)
   . rcases ho.tri (k y) (k x) with h | h | h
     . exact .inl ⟨h1,h⟩
     . exact absurd h h2
     . exact .inr (.inr ⟨h1,h⟩)
theorem ascG_ext (ho:OrdK lt):∀ {xs ys:List α},AscG lt k xs->AscG lt k ys->(∀ a,a∈xs ↔ a∈ys)->xs=ys
 | [],[],_,_,_=>rfl
 | [],y :: ys,_,_,h=>by have:=(h y).2 (List.mem_cons_self ..);cases this
 | x :: xs,[],_,_,h=>by have:=(h x).1 (List.mem_cons_self ..);cases this
 | x :: xs,y :: ys,h1,h2,h=>by
   obtain ⟨a1,a2⟩:=List.pairwise_cons.1 h1;obtain ⟨b1,b2⟩:=List.pairwise_cons.1 h2
   have e:x=y:=by
    rcases List.mem_cons.1 ((h x).1 (List.mem_cons_self ..)) with e | h3
    . exact e
    . rcases List.mem_cons.1 ((h y).2 (List.mem_cons_self ..)) with e | h4
      . exact e.symm
      . exact absurd (b1 x h3) (ho.asym (a1 y h4))
   subst e;rw [ascG_ext ho a2 b2 fun a=>?_];constructor
   . intro ha
     rcases List.mem_cons.1 ((h a).1 (List.mem_cons_of_mem _ ha)) with rfl | hb
     . exact absurd (a1 a ha) (ho.irr _)
     . exact hb
   . intro ha
     rcases List.mem_cons.1 ((h a).2 (List.mem_cons_of_mem _ ha)) with rfl | hb
     . exact absurd (b1 a ha) (ho.irr _)
     . exact hb
end Go.Proofs.YtomhbcfjhgecbaaGreatDoor.Osg
namespace Go.Proofs.YtomhbcfjhgecbaaGreatDoor
open Go.RowKit Go.Sort Go.Lib
open Adr (valL valL_snoc)
abbrev Plc:=ByteArray × ByteArray
abbrev ltP (a b:Plc):Prop:=cmpP a b < 0
abbrev ltT (a b:ByteArray):Prop:=cmpS a b < 0
theorem cmpP_anti (a b:Plc):cmpP b a = -cmpP a b:=by
 have h1:=cmpS_anti a.1 b.1;have h2:=cmpS_anti a.2 b.2;unfold cmpP fstNZ fstNZ fstNZ;rw [h1,h2]
 by_cases e1:cmpS a.1 b.1=0 <;> by_cases e2:cmpS a.2 b.2=0 <;> simp [e1,e2]
theorem ordP:Osg.OrdK ltP where
 irr a h:=by have:=cmpP_zero.2 (rfl:a=a);unfold ltP at h;omega
 tr h1 h2:=cmpP_trans h1 h2
 tri a b:=by
  have h:=cmpP_anti a b;unfold ltP
  by_cases e:cmpP a b=0
  . exact .inr (.inl (cmpP_zero.1 e))
  . by_cases l:cmpP a b < 0
    . exact .inl l
    . exact .inr (.inr (by omega))
theorem ordT:Osg.OrdK ltT where
 irr a h:=by have:=cmpS_self a;unfold ltT at h;omega
 tr h1 h2:=by unfold ltT at *;rw [cmpS_neg] at *;exact List.lt_trans h1 h2
 tri a b:=by
  have h:=cmpS_anti a b;unfold ltT
  by_cases e:cmpS a b=0
  . exact .inr (.inl (cmpS_zero.1 e))
  . by_cases l:cmpS a b < 0
    . exact .inl l
    . exact .inr (.inr (by omega))
theorem lowP_eq {xs:List Ins} (h:AscP xs) (q:Plc):lowP xs q=(Osg.ltG ltP plOf xs q).length:=Osg.lowG ordP h q
def fnI (xs:List Ins) (q:Plc):Option Ins:=Osg.fnG plOf xs q
theorem fndP_eq (xs:List Ins) (q:Plc):fndP xs q=(fnI xs q).isSome:=by
 unfold fndP fnI Osg.fnG;rw [List.isSome_find?]
def putI (xs:List Ins) (x:Ins):List Ins:=Osg.putG ltP plOf xs x
def rmI (xs:List Ins) (q:Plc):List Ins:=Osg.rmG plOf xs q
theorem lowP_lt {xs:List Ins} (h:AscP xs) {q:Plc} {y:Ins} (hf:fnI xs q=some y):∃ hl:lowP xs q < xs.length,xs[lowP xs q]=y:=by
 have:=Osg.at_fnG ordP h hf;rw [<-lowP_eq h] at this;obtain ⟨a,b⟩:=List.getElem?_eq_some_iff.1 this;exact ⟨a,b⟩
theorem lowP_le (xs:List Ins) (q:Plc):lowP xs q<=xs.length:=by
 unfold lowP;exact (List.takeWhile_sublist _).length_le
theorem set_putI {xs:List Ins} (h:AscP xs) {x y:Ins} (hf:fnI xs (plOf x)=some y):xs.set (lowP xs (plOf x)) x=putI xs x:=by
 rw [lowP_eq h];exact Osg.set_putG ordP h hf
theorem ins_putI {xs:List Ins} (h:AscP xs) {x:Ins} (hf:fnI xs (plOf x)=none):xs.take (lowP xs (plOf x)) ++ x :: xs.drop (lowP xs (plOf x))=putI xs x:=by
 rw [lowP_eq h];exact Osg.ins_putG ordP h hf
theorem del_rmI {xs:List Ins} (h:AscP xs) {q:Plc} {y:Ins} (hf:fnI xs q=some y):xs.take (lowP xs q) ++ xs.drop (lowP xs q+1)=rmI xs q:=by
 rw [lowP_eq h];exact Osg.del_rmG ordP h hf
theorem rmI_none {xs:List Ins} {q:Plc} (hf:fnI xs q=none):rmI xs q=xs:=Osg.rm_none hf
def kyB (n:Nat):ByteArray:=⟨(Lib.decDigits n).toArray⟩
def depN (xs:List Ins) (ad:ByteArray):Nat->Nat->Nat
 | 0,n=>n
 | f+1,n=>if fndP xs (ad,kyB n) then depN xs ad f (n+1) else n
theorem dec_val:∀ u:Nat,valL (Lib.decDigits u)=u:=by
 intro u
 induction u using Nat.strongRecOn with
 | ind u ih =>
   rw [Lib.decDigits]
   by_cases h:u < 10
   . rw [dif_pos h]
     unfold valL;simp only [List.foldl_cons,List.foldl_nil];rw [UInt8.toNat_ofNat_of_lt' (by show 48+u < 256;omega)];omega
   . rw [dif_neg h,valL_snoc,ih (u / 10) (by omega),UInt8.toNat_ofNat_of_lt' (by show 48+u % 10 < 256;omega)]
     omega
theorem dec_inj {i j:Nat} (h:kyB i=kyB j):i=j:=by
 have h2:Lib.decDigits i=Lib.decDigits j:=by
  have:=congrArg (fun b:ByteArray=>b.data.toList) h;simpa [kyB] using this
 rw [<-dec_val i,h2,dec_val]
theorem nodup_le {α:Type} [DecidableEq α]:∀ {a b:List α},a.Nodup->(∀ x∈a,x∈b)->a.length<=b.length
 | [],_,_,_=>Nat.zero_le _
 | x :: a,b,h,hs=>by
   obtain ⟨h1,h2⟩:=List.nodup_cons.1 h;have hx:=hs x (List.mem_cons_self ..);have:=nodup_le (a:=a) (b:=b.erase x) h2 fun y hy=>(List.mem_erase_of_ne (fun e=>h1 (by rw [<-e];exact hy))).2 (hs y (List.mem_cons_of_mem _ hy));rw [List.length_erase_of_mem hx] at this;have hp:=List.length_pos_of_mem hx;simp only [List.length_cons];omega
theorem dep_few {xs:List Ins} {ad:ByteArray} {n:Nat} (h:∀ j,1<=j->j < n->fndP xs (ad,kyB j)=true):n<=xs.length+1:=by
 have h1:((List.range (n - 1)).map fun j=>((ad,kyB (j+1)):Plc)).Nodup:=by
  refine List.Pairwise.map _ (fun a b hab=>hab) ?_;refine List.Pairwise.imp_of_mem (l:=List.range (n - 1)) (R:=fun a b=>a≠b) ?_ List.nodup_range;intro a b ha hb hab e;have ha:=List.mem_range.1 ha;have hb:=List.mem_range.1 hb;have:=dec_inj (congrArg Prod.snd e);omega
 have h2:=nodup_le h1 (b:=xs.map plOf) fun q hq=>by
  obtain ⟨j,hj,rfl⟩:=List.mem_map.1 hq;have hj:=List.mem_range.1 hj;obtain ⟨x,hx,e⟩:=fndP_iff.1 (h (j+1) (by omega) (by omega));exact List.mem_map.2 ⟨x,hx,e⟩
 simp only [List.length_map,List.length_range] at h2;omega
theorem depN_spec (xs:List Ins) (ad:ByteArray):∀ (f n:Nat),n+f=1+(xs.length+1)->1<=n->(∀ j,1<=j->j < n->fndP xs (ad,kyB j)=true)->fndP xs (ad,kyB (depN xs ad f n))=false/\n<=depN xs ad f n/\depN xs ad f n<=xs.length+1/\∀ j,1<=j->j < depN xs ad f n->fndP xs (ad,kyB j)=true
 | 0,n,he,h1,h=>by have:=dep_few (n:=n) h;omega
 | f+1,n,he,h1,h=>by
   unfold depN;cases hf:fndP xs (ad,kyB n) with
   | true =>
     rw [if_pos rfl]
     obtain ⟨a1,a2,a3,a4⟩:=depN_spec xs ad f (n+1) (by omega) (by omega) fun j hj hjn=>by
      by_cases e:j=n
      . subst e;exact hf
      . exact h j hj (by omega)
     exact ⟨a1,by omega,a3,a4⟩
   | false =>
     rw [if_neg (by decide)];exact ⟨hf,Nat.le_refl _,by omega,h⟩
def depK (xs:List Ins) (ad:ByteArray):Nat:=depN xs ad (xs.length+1) 1
theorem depK_spec (xs:List Ins) (ad:ByteArray):fndP xs (ad,kyB (depK xs ad))=false/\1<=depK xs ad/\depK xs ad<=xs.length+1/\∀ j,1<=j->j < depK xs ad->fndP xs (ad,kyB j)=true:=
 depN_spec xs ad _ 1 (by omega) (by omega) fun j h1 h2=>by omega
def deI (x:Ins) (n:Nat):Ins:={ x with de:=kyB n }
def depI (xs:List Ins) (ad:ByteArray):Option (List Ins × ByteArray):=match fnI xs (ad,ByteArray.empty) with
 | none=>none
 | some x=>some (putI (rmI xs (ad,ByteArray.empty)) (deI x (depK xs ad)),kyB (depK xs ad))
def recB (s:Sta) (ad:ByteArray):Bool:=s.ins.any (fun x=>decide (x.ad=ad)) || s.pen.any (fun p=>decide (p.ad=ad))
def reA (a b:ByteArray) (x:Ins):Ins:=if x.ad=a then { x with ad:=b } else x
def reT (a b:ByteArray) (p:Pnd):Pnd:=if p.ad=a then { p with ad:=b } else p
def reI (xs:List Ins) (a b:ByteArray):List Ins:=xs.foldl (fun ys x=>if x.ad=a then putI (rmI ys (a,x.de)) { x with ad:=b } else ys) xs
def reS (s:Sta) (a b:ByteArray):Sta:={ s with ins:=reI s.ins a b,pen:=s.pen.map (reT a b) }
theorem reI_fold (a b:ByteArray) (hab:a≠b):∀ (xs ys:List Ins),AscP ys->(∀ x∈xs,x.ad=a->x∈ys)->AscP xs ->
  AscP (xs.foldl (fun ys x=>if x.ad=a then putI (rmI ys (a,x.de)) { x with ad:=b } else ys) ys) /\
  ∀ z,z∈xs.foldl (fun ys x=>if x.ad=a then putI (rmI ys (a,x.de)) { x with ad:=b } else ys) ys ↔
   (∃ x∈xs,x.ad=a/\z={ x with ad:=b }) ∨ (z∈ys/\(∀ x∈xs,x.ad=a->plOf z≠(a,x.de)/\plOf z≠(b,x.de)))
 | [],ys,hy,_,_=>⟨hy,fun z=>by simp⟩
 | x :: xs,ys,hy,hm,hx=>by
   obtain ⟨hx1,hx2⟩:=List.pairwise_cons.1 hx;rw [List.foldl_cons]
   by_cases e:x.ad=a
   . rw [if_pos e]
     have hne:∀ x'∈xs,x'.ad=a->x'.de≠x.de:=fun x' h' e' ed=>by
      have:=hx1 x' h';rw [show plOf x'=plOf x by unfold plOf;rw [e,e',ed],cmpP_zero.2 rfl] at this;omega
     obtain ⟨i1,i2⟩:=reI_fold a b hab xs (putI (rmI ys (a,x.de)) { x with ad:=b }) (Osg.ascG_put ordP (Osg.ascG_rm (show Osg.AscG ltP plOf ys from hy) _) _) (fun x' h' e'=>by
      refine (Osg.mem_putG ordP).2 (.inr ⟨List.mem_filter.2 ⟨hm x' (List.mem_cons_of_mem _ h') e',?_⟩,?_⟩)
      . refine decide_eq_true fun h=>hne x' h' e' ?_
        exact congrArg Prod.snd h
      . intro h
        exact hab (e'.symm.trans (congrArg Prod.fst h))) hx2
     refine ⟨i1,fun z=>?_⟩;rw [i2 z];unfold putI rmI;rw [Osg.mem_putG ordP];unfold Osg.rmG;rw [List.mem_filter];constructor
     . rintro (⟨x',h',e',rfl⟩ | ⟨rfl | ⟨⟨h1,h2⟩,h3⟩,h4⟩)
       . exact .inl ⟨x',List.mem_cons_of_mem _ h',e',rfl⟩
       . exact .inl ⟨x,List.mem_cons_self ..,e,rfl⟩
       . refine .inr ⟨h1,fun x' h' e'=>?_⟩
         rcases List.mem_cons.1 h' with rfl | h'
         . exact ⟨of_decide_eq_true h2,h3⟩
         . exact h4 x' h' e'
     . rintro (⟨x',h',e',rfl⟩ | ⟨h1,h2⟩)
       . rcases List.mem_cons.1 h' with rfl | h'
         . refine .inr ⟨.inl rfl,fun x'' h'' e''=>⟨fun h=>hab (congrArg Prod.fst h).symm,fun h=>hne x'' h'' e'' (congrArg Prod.snd h).symm⟩⟩
         . exact .inl ⟨x',h',e',rfl⟩
       . have h3:=h2 x (List.mem_cons_self ..) e
         exact .inr ⟨.inr ⟨⟨h1,decide_eq_true h3.1⟩,h3.2⟩,fun x' h' e'=>h2 x' (List.mem_cons_of_mem _ h') e'⟩
   . rw [if_neg e]
     obtain ⟨i1,i2⟩:=reI_fold a b hab xs ys hy (fun x' h' e'=>hm x' (List.mem_cons_of_mem _ h') e') hx2;refine ⟨i1,fun z=>?_⟩;rw [i2 z];constructor
     . rintro (⟨x',h',e',rfl⟩ | ⟨h1,h2⟩)
       . exact .inl ⟨x',List.mem_cons_of_mem _ h',e',rfl⟩
       . refine .inr ⟨h1,fun x' h' e'=>?_⟩
         rcases List.mem_cons.1 h' with rfl | h'
         . exact absurd e' e
         . exact h2 x' h' e'
     . rintro (⟨x',h',e',rfl⟩ | ⟨h1,h2⟩)
       . rcases List.mem_cons.1 h' with rfl | h'
         . exact absurd e' e
         . exact .inl ⟨x',h',e',rfl⟩
       . exact .inr ⟨h1,fun x' h' e'=>h2 x' (List.mem_cons_of_mem _ h') e'⟩
theorem reI_spec {xs:List Ins} (h:AscP xs) {a b:ByteArray} (hab:a≠b) (hb:∀ x∈xs,x.ad≠b):AscP (reI xs a b)/\∀ z,z∈reI xs a b ↔ z∈xs.map (reA a b):=by
 obtain ⟨i1,i2⟩:=reI_fold a b hab xs xs h (fun x hx _=>hx) h;refine ⟨i1,fun z=>(i2 z).trans ?_⟩;rw [List.mem_map];constructor
 . rintro (⟨x,h',e',rfl⟩ | ⟨h1,h2⟩)
   . exact ⟨x,h',by unfold reA;rw [if_pos e']⟩
   . refine ⟨z,h1,?_⟩
     unfold reA;rw [if_neg];intro e;have:=(h2 z h1 e).1;apply this;unfold plOf;rw [e]
 . rintro ⟨x,hx,rfl⟩
   unfold reA
   by_cases e:x.ad=a
   . rw [if_pos e]
     exact .inl ⟨x,hx,e,rfl⟩
   . rw [if_neg e]
     refine .inr ⟨hx,fun x' h' e'=>⟨fun h=>e (congrArg Prod.fst h),fun h=>hb x hx (congrArg Prod.fst h)⟩⟩
theorem reA_pl {a b:ByteArray} {x y:Ins} (hx:x.ad≠b) (hy:y.ad≠b) (h:plOf (reA a b x)=plOf (reA a b y)):plOf x=plOf y:=by
 unfold reA plOf at *
 by_cases e1:x.ad=a <;> by_cases e2:y.ad=a
 . rw [if_pos e1,if_pos e2] at h
   have h2:x.de=y.de:=congrArg Prod.snd h;exact Prod.ext (e1.trans e2.symm) h2
 . rw [if_pos e1,if_neg e2] at h
   exact absurd (congrArg Prod.fst h).symm hy
 . rw [if_neg e1,if_pos e2] at h
   exact absurd (congrArg Prod.fst h) hx
 . rw [if_neg e1,if_neg e2] at h
   exact h
theorem sort_reI {xs ys:List Ins} (h:AscP xs) {a b:ByteArray} (hab:a≠b) (hb:∀ x∈xs,x.ad≠b) (hp:ys.Perm (xs.map (reA a b))) (hs:ys.Pairwise fun u v=>¬ cmpP (plOf v) (plOf u) < 0):ys=reI xs a b:=by
 obtain ⟨i1,i2⟩:=reI_spec h hab hb
 have hn:(xs.map (reA a b)).Pairwise fun u v=>plOf u≠plOf v:=by
  refine List.pairwise_map.2 ((List.Pairwise.and_mem.1 h).imp ?_);rintro u v ⟨hu,hv,hl⟩ e;have:=reA_pl (hb u hu) (hb v hv) e;rw [this,cmpP_zero.2 rfl] at hl;omega
 have hn2:ys.Pairwise fun u v=>plOf u≠plOf v:=(hp.pairwise_iff fun h=>Ne.symm h).2 hn;refine Osg.ascG_ext (k:=plOf) ordP ((hs.and hn2).imp ?_) i1 fun z=>(hp.mem_iff).trans (i2 z).symm;rintro u v ⟨h1,h2⟩;have h3:=cmpP_anti (plOf u) (plOf v);have h4:cmpP (plOf u) (plOf v)≠0:=fun e=>h2 (cmpP_zero.1 e);omega
theorem recB_no {s:Sta} {b:ByteArray} (h:recB s b=false):(∀ x∈s.ins,x.ad≠b)/\∀ p∈s.pen,p.ad≠b:=by
 unfold recB at h;rw [Bool.or_eq_false_iff,List.any_eq_false,List.any_eq_false] at h;exact ⟨fun x hx=>by simpa using h.1 x hx,fun x hx=>by simpa using h.2 x hx⟩
def adStep (out:List ByteArray) (x:Ins):List ByteArray:=if out.getLast?=some x.ad then out else out ++ [x.ad]
def adsI (xs:List Ins):List ByteArray:=xs.foldl adStep []
theorem adsI_snoc (xs:List Ins) (x:Ins):adsI (xs ++ [x])=adStep (adsI xs) x:=by unfold adsI;rw [List.foldl_append];rfl
theorem adsI_take {xs:List Ins} {k:Nat} (h:k < xs.length):adsI (xs.take (k+1))=adStep (adsI (xs.take k)) xs[k]:=by rw [List.take_succ_eq_append_getElem h,adsI_snoc]
theorem adsI_len (xs:List Ins):(adsI xs).length<=xs.length:=by
 unfold adsI
 have:∀ (xs:List Ins) (out:List ByteArray),(xs.foldl adStep out).length<=out.length+xs.length:=by
  intro xs
  induction xs with
  | nil=>intro out;simp
  | cons x xs ih =>
    intro out;rw [List.foldl_cons];have:=ih (adStep out x);have h2:(adStep out x).length<=out.length+1:=by unfold adStep;split <;> simp
    simp only [List.length_cons];omega
 have:=this xs [];simpa using this
theorem ads_fold:∀ (xs:List Ins) (out:List ByteArray),AscP xs->out.Pairwise (fun a b=>ltT a b)->(∀ a∈out,∀ x∈xs,a=x.ad ∨ ltT a x.ad) ->
  (xs.foldl adStep out).Pairwise (fun a b=>ltT a b)/\(∀ a,a∈xs.foldl adStep out ↔ a∈out ∨ ∃ x∈xs,x.ad=a)
 | [],out,_,h,_=>⟨h,fun a=>by simp⟩
 | x :: xs,out,hx,h,hl=>by
   obtain ⟨hx1,hx2⟩:=List.pairwise_cons.1 hx
   have hle:∀ y∈xs,x.ad=y.ad ∨ ltT x.ad y.ad:=fun y hy=>by
    rcases cmpP_lt.1 (hx1 y hy) with h1 | ⟨h1,_⟩
    . exact .inr (cmpS_neg.2 h1)
    . exact .inl h1
   rw [List.foldl_cons]
   by_cases e:out.getLast?=some x.ad
   . have es:adStep out x=out:=by unfold adStep;rw [if_pos e]
     rw [es];obtain ⟨i1,i2⟩:=ads_fold xs out hx2 h fun a ha y hy=>hl a ha y (List.mem_cons_of_mem _ hy);refine ⟨i1,fun a=>(i2 a).trans ?_⟩;constructor
     . rintro (h | ⟨y,hy,rfl⟩)
       . exact .inl h
       . exact .inr ⟨y,List.mem_cons_of_mem _ hy,rfl⟩
     . rintro (h | ⟨y,hy,rfl⟩)
       . exact .inl h
       . rcases List.mem_cons.1 hy with rfl | hy
         . exact .inl (List.mem_of_getLast? e)
         . exact .inr ⟨y,hy,rfl⟩
   . have es:adStep out x=out ++ [x.ad]:=by unfold adStep;rw [if_neg e]
     have hlt:∀ a∈out,ltT a x.ad:=fun a ha=>by
      rcases hl a ha x (List.mem_cons_self ..) with h1 | h1
      . exfalso
        subst h1
        obtain ⟨z,hz⟩:∃ z,out.getLast?=some z:=by
         cases hg:out.getLast? with
         | some z=>exact ⟨z,rfl⟩
         | none=>rw [List.getLast?_eq_none_iff.1 hg] at ha;cases ha
        have hzm:=List.mem_of_getLast? hz
        have hzl:z=x.ad ∨ ltT x.ad z:=by
         obtain ⟨l,rfl⟩:=List.getLast?_eq_some_iff.1 hz;rcases List.mem_append.1 ha with h2 | h2
         . exact .inr ((List.pairwise_append.1 h).2.2 _ h2 z (by simp))
         . simp at h2;exact .inl h2.symm
        rcases hl z hzm x (List.mem_cons_self ..) with h2 | h2
        . exact e (by rw [hz,h2])
        . rcases hzl with h3 | h3
          . exact e (by rw [hz,h3])
          . exact ordT.asym h2 h3
      . exact h1
     rw [es]
     obtain ⟨i1,i2⟩:=ads_fold xs (out ++ [x.ad]) hx2 (List.pairwise_append.2 ⟨h,by simp,fun a ha b hb=>by simp at hb;subst hb;exact hlt a ha⟩) (fun a ha y hy=>by
      rcases List.mem_append.1 ha with ha | ha
      . exact hl a ha y (List.mem_cons_of_mem _ hy)
      . simp at ha;subst ha;exact hle y hy)
     refine ⟨i1,fun a=>(i2 a).trans ?_⟩;rw [List.mem_append,List.mem_singleton];constructor
     . rintro ((h | rfl) | ⟨y,hy,rfl⟩)
       . exact .inl h
       . exact .inr ⟨x,List.mem_cons_self ..,rfl⟩
       . exact .inr ⟨y,List.mem_cons_of_mem _ hy,rfl⟩
     . rintro (h | ⟨y,hy,rfl⟩)
       . exact .inl (.inl h)
       . rcases List.mem_cons.1 hy with rfl | hy
         . exact .inl (.inr rfl)
         . exact .inr ⟨y,hy,rfl⟩
theorem adsI_spec {xs:List Ins} (h:AscP xs):(adsI xs).Pairwise (fun a b=>ltT a b)/\∀ a,a∈adsI xs ↔ ∃ x∈xs,x.ad=a:=by
 obtain ⟨i1,i2⟩:=ads_fold xs [] h List.Pairwise.nil (fun a ha=>by cases ha);exact ⟨i1,fun a=>(i2 a).trans (by simp)⟩
def cntA (xs:List Ins) (a:ByteArray):Nat:=xs.countP fun x=>decide (x.ad=a)
theorem sum_one {a:ByteArray} : ∀ {l:List ByteArray},l.Nodup->a∈l->(l.map fun b=>if a=b then 1 else 0).sum=1
 | b :: l,h,hm=>by
   obtain ⟨h1,h2⟩:=List.nodup_cons.1 h;rw [List.map_cons,List.sum_cons]
   by_cases e:a=b
   . subst e
     rw [if_pos rfl];have:(l.map fun b=>if a=b then 1 else 0)=l.map fun _=>0:=List.map_congr_left fun c hc=>by rw [if_neg];intro e;subst e;exact h1 hc
     rw [this]
     have:∀ l:List ByteArray,(l.map fun _=>0).sum=0:=fun l=>by induction l with
      | nil=>rfl
      | cons c l ih=>rw [List.map_cons,List.sum_cons,ih]
     rw [this]
   . rw [if_neg e,sum_one h2 ((List.mem_cons.1 hm).resolve_left e)]
theorem sum_add {α:Type} (f g:α->Nat):∀ l:List α,(l.map fun a=>f a+g a).sum=(l.map f).sum+(l.map g).sum
 | []=>rfl
 | a :: l=>by simp only [List.map_cons,List.sum_cons,sum_add f g l];omega
theorem sum_cover {l:List ByteArray} (hn:l.Nodup):∀ xs:List Ins,(∀ x∈xs,x.ad∈l)->(l.map (cntA xs)).sum=xs.length
 | [],_=>by
   have:∀ l:List ByteArray,(l.map (cntA [])).sum=0:=fun l=>by induction l with
    | nil=>rfl
    | cons c l ih=>rw [List.map_cons,List.sum_cons,ih];rfl
   rw [this];rfl
 | x :: xs,h=>by
   have e:cntA (x :: xs)=fun a=>cntA xs a+(if x.ad=a then 1 else 0):=by
    funext a;unfold cntA;rw [List.countP_cons]
    by_cases e:x.ad=a <;> simp [e]
   rw [e,sum_add,sum_cover hn xs (fun y hy=>h y (List.mem_cons_of_mem _ hy)),sum_one hn (h x (List.mem_cons_self ..)),List.length_cons]
theorem adsI_found {xs:List Ins} (h:AscP xs):((adsI xs).map (cntA xs)).sum=xs.length:=by
 obtain ⟨i1,i2⟩:=adsI_spec h;exact sum_cover (i1.imp fun h=>ordT.ne h) xs fun x hx=>(i2 _).2 ⟨x,hx,rfl⟩
theorem fnI_none {xs:List Ins} {q:Plc} : fnI xs q=none ↔ fndP xs q=false:=by
 rw [fndP_eq];cases fnI xs q <;> simp
end Go.Proofs.YtomhbcfjhgecbaaGreatDoor
namespace Go.Proofs.YtomhbcfjhgecbaaGreatDoor
open Go.RowKit Go.Sort Go.Lib
open Go.Lib (hid)
theorem RowG.more {α:Type} {enc:α->List Value} {P:World->α->Prop} {sz:Nat} {T:TypeId} {B:Nat} {wr w1 w2 w3 w4:World} {v:Value} {ys zs:List α} {g n cap:Nat} (hP:StayP P) (h:RowG enc P sz T B wr v ys) (hB:B<=wr.heap.size) (h1:Below wr.heap.size wr w1) (h2:Below w1.heap.size w1 w2)
  (hz:∀ z∈zs,z∈ys ∨ P (mask (fromB w1.heap.size) w2) z) (h3:Below w2.heap.size w2 w3) (hown:w4.ownsRow B T sz (.slice (some ⟨g,0,none⟩) n cap) zs.length (zs.flatMap enc)) (hg:w3.grownBy w4 v.ownBlock) (hat:v.ownBlock=some g ∨ g=w3.heap.size) :
  RowG enc P sz T B w4 (.slice (some ⟨g,0,none⟩) n cap) zs:=by
 have s1:=h1.size;have s2:=h2.size;have s3:=h3.size;refine ⟨hown,fun y hy=>?_⟩;rcases hz y hy with hy | hx
 . refine hP _ _ y (stays_keep fun b hk hb=>?_) (h.ok y hy)
   have hk:=keepB_out hk;refine ⟨?_,?_⟩
   . refine keepB_mk hk.1 (fun e=>?_)
     have e:g=b:=by simpa [Value.ownBlock] using e
     subst e;rcases hat with e | e
     . exact hk.2 e
     . omega
   . rw [hg.block b (by omega) (fun e=>hk.2 e.symm),h3.block b (by omega),h2.block b (by omega),h1.block b hb]
 . refine hP _ _ y (stays_keep fun b hk hb=>?_) hx
   simp only [fromB,decide_eq_true_eq] at hk;have hne:∀ g',v.ownBlock=some g'->g'≠b:=fun g' e=>by have:=(own_lt h.own e).2;omega
   refine ⟨?_,?_⟩
   . refine keepB_mk (by omega) (fun e=>?_)
     have e:g=b:=by simpa [Value.ownBlock] using e
     subst e;rcases hat with e | e
     . exact hne _ e rfl
     . omega
   . rw [hg.block b (by omega) (fun e=>hne b e.symm rfl),h3.block b hb]
def NoB {α:Type} (bo:Nat) (P:World->α->Prop):World->α->Prop:=fun w y=>P (mask (fun b=>decide (b≠bo)) w) y
theorem stays_mm {K:Nat->Bool} {w w':World} (h:Stays w w'):Stays (mask K w) (mask K w'):=fun b o v hc=>by
 obtain ⟨h1,h2⟩:=mask_cell hc;exact mask_cell_mk h1 (h _ _ _ h2)
theorem stay_no {α:Type} {bo:Nat} {P:World->α->Prop} (hP:StayP P):StayP (NoB bo P):=fun w w' y hs h=>hP _ _ y (stays_mm hs) h
theorem RowG.no {α:Type} {enc:α->List Value} {P:World->α->Prop} {sz:Nat} {T:TypeId} {B bo:Nat} {w w':World} {v:Value} {ys:List α} (hP:StayP P) (h:RowG enc P sz T B w v ys) (hk:∀ b,B<=b->b < w.heap.size->w'.heap[b]?=w.heap[b]?) (hbo:w.heap.size<=bo):RowG enc (NoB bo P) sz T B w' v ys:=
 ⟨own_keep h.own fun g hg=>hk g (own_lt h.own hg).1 (own_lt h.own hg).2,fun y hy=>hP _ _ y (fun b o u hc=>by
  obtain ⟨h1,h2⟩:=mask_cell hc;have hlt:b < w.heap.size:=World.block_lt_of_cell? w _ h2;have h3:=keepB_out h1;have h4:w'.cell? ⟨b,o,none⟩=some u:=(World.cell?_of_block (a:=⟨b,o,none⟩) (hk b h3.1 hlt)).trans h2;exact mask_cell_mk (decide_eq_true (by omega)) (mask_cell_mk h1 h4)) (h.ok y hy)⟩
theorem RowG.store {α:Type} {enc:α->List Value} {P:World->α->Prop} {sz:Nat} {T:TypeId} {B bo:Nat} {w w':World} {v:Value} {ys:List α} (hP:StayP P) (h:RowG enc (NoB bo P) sz T B w v ys) (hg:v.ownBlock≠some bo) (hk:∀ b,b≠bo->w'.heap[b]?=w.heap[b]?):RowG enc P sz T B w' v ys:=
 ⟨own_keep h.own fun g hg'=>hk g (fun e=>hg (e ▸ hg')),fun y hy=>hP _ _ y (fun b o u hc=>by
  obtain ⟨h1,h2⟩:=mask_cell hc;obtain ⟨h3,h4⟩:=mask_cell h2;exact mask_cell_mk h3 ((World.cell?_of_block (a:=⟨b,o,none⟩) (hk b (of_decide_eq_true h1))).trans h4)) (h.ok y hy)⟩
theorem StaO.change {B B2:Nat} {w w':World} {s:Sta} {p:Sp} {is is':List Inp} {r:Option Addr} {c:Nat} {l:List Ins} (h:StaO B B2 w s p is) (hk:∀ b,b < B2->B<=b->w'.heap[b]?=w.heap[b]?) (hr:RowG inE InQ 13 41 B2 w' (.slice r is'.length c) is') (hm:is'.map (·.x)=l) (hs:B2<=w'.heap.size) :
  StaO B B2 w' { s with ins:=l } ⟨r,c,p.rp,p.cp,p.ro,p.co⟩ is':=
 ⟨hr,hm,own_keep h.pen fun g hg=>hk g (h.penl g hg) (own_lt h.pen hg).1,h.penl,h.penb,by
  have hst:Stays (mask (ltM B B2 (.slice p.rp s.pen.length p.cp)) w) (mask (ltM B B2 (.slice p.rp s.pen.length p.cp)) w'):=stays_keep fun b hb hl=>⟨hb,hk b (ltM_out hb).1 (ltM_out hb).2.2⟩;exact sl_stays hst (fun _ _=>soR_stays hst) h.out,h.ser,h.lin,h.le,hs⟩
theorem StaO.stapW {B0 B B2:Nat} {w:World} {s:Sta} {p:Sp} {is:List Inp} (h:StaO B B2 w s p is) (hB:B0<=B):StaP (mask (fromB B0) w) s p:=by
 have hle:=h.le;refine ⟨?_,?_,?_,h.ser,h.lin⟩
 . have h1:=RowG.sl (R:=InR) (f:=fun y:Inp=>y.x) inQ_stays inE_len (fun w y h=>inq_r h) h.ins
   rw [h.insx,h.insl] at h1;have hst:Stays (mask (fromB B2) w) (mask (fromB B0) w):=stays_wider fun b hb=>by simp only [fromB,decide_eq_true_eq] at hb ⊢;omega
   exact sl_stays hst (fun _ _=>inR_stays hst) h1
 . have:=own_sl (R:=PdR) (f:=id) pdE_len (fun y hy=>⟨rfl,h.penb y hy⟩) (own_mask (K:=fromB B0) h.pen fun g hg=>by
    have:=own_lt h.pen hg;simp only [fromB,decide_eq_true_eq];omega)
   rwa [List.map_id] at this
 . have hst:Stays (mask (ltM B B2 (.slice p.rp s.pen.length p.cp)) w) (mask (fromB B0) w):=stays_wider fun b hb=>by
    have:=ltM_out hb;simp only [fromB,decide_eq_true_eq];omega
   exact sl_stays hst (fun _ _=>soR_stays hst) h.out
theorem map_insertIdx {α β:Type} (f:α->β) (y:α):∀ (l:List α) (i:Nat),i<=l.length->(l.insertIdx i y).map f=(l.map f).take i ++ f y :: (l.map f).drop i
 | l,0,_=>by simp
 | [],i+1,h=>by cases h
 | a :: l,i+1,h=>by simp [map_insertIdx f y l i (by simpa using h)]
theorem map_eraseIdx {α β:Type} (f:α->β):∀ (l:List α) (i:Nat),i < l.length->(l.eraseIdx i).map f=(l.map f).take i ++ (l.map f).drop (i+1)
 | [],i,h=>by cases h
 | a :: l,0,_=>by simp
 | a :: l,i+1,h=>by simp [map_eraseIdx f l i (by simpa using h)]
theorem mem_insertIdx' {α:Type} {y z:α} {l:List α} {i:Nat} (h:z∈l.insertIdx i y):z=y ∨ z∈l:=by
 by_cases hi:i<=l.length
 . exact (List.mem_insertIdx hi).1 h
 . rw [List.insertIdx_of_length_lt (by omega)] at h;exact .inr h
namespace Stp
theorem wp_region_tail_5_2 {P:Program} {id:Nat} {Q:Exit->Act->World->Prop} {a:Act} {w:World} {x0 x1 x2 x3 x4 x5 x6:Oper} (sp:Nat->Option Spc) (hm:P.follows .mixedOrders=true) (hB:Region.lexB .any [x0,x1,x2,x3,x4].toArray=true) (hL:tailB [x0,x1,x2,x3,x4] [x5,x6]=true)
  (h:wpF P .any [x0,x1,x2,x3,x4].toArray (fun w'=>∃ p:Regrown,w'=grow (redrawn w p.d) p.os) sp (fun E a'=>∀ w',Grw w w'->(∀ j,E j w')->seqW P Q [x5,x6] a' w') [x0,x1,x2,x3,x4] 0 (fun _ _=>True) a):(Code.region id [x0,x1,x2,x3,x4,x5,x6].toArray true).wp P Q a w:=
 wp_region_tail (l:=[x0,x1,x2,x3,x4]) (s:=[x5,x6]) sp rfl hm hB hL h
theorem wp_region_tail_6_3 {P:Program} {id:Nat} {Q:Exit->Act->World->Prop} {a:Act} {w:World} {x0 x1 x2 x3 x4 x5 x6 x7 x8:Oper} (sp:Nat->Option Spc) (hm:P.follows .mixedOrders=true) (hB:Region.lexB .any [x0,x1,x2,x3,x4,x5].toArray=true) (hL:tailB [x0,x1,x2,x3,x4,x5] [x6,x7,x8]=true)
  (h:wpF P .any [x0,x1,x2,x3,x4,x5].toArray (fun w'=>∃ p:Regrown,w'=grow (redrawn w p.d) p.os) sp (fun E a'=>∀ w',Grw w w'->(∀ j,E j w')->seqW P Q [x6,x7,x8] a' w') [x0,x1,x2,x3,x4,x5] 0 (fun _ _=>True) a):(Code.region id [x0,x1,x2,x3,x4,x5,x6,x7,x8].toArray true).wp P Q a w:=
 wp_region_tail (l:=[x0,x1,x2,x3,x4,x5]) (s:=[x6,x7,x8]) sp rfl hm hB hL h
end Stp
theorem two_new' (w:World) (A B:Obj):∃ W0:World,W0=(w.alloc A).alloc B/\Below w.heap.size w W0/\W0.heap.size=w.heap.size+2/\W0.heap[w.heap.size]?=some A/\W0.heap[w.heap.size+1]?=some B:=by
 have z1:(w.alloc A).heap.size=w.heap.size+1:=by simp
 obtain ⟨a1,a2⟩:=MapKept.heap_alloc w A;obtain ⟨b1,b2⟩:=MapKept.heap_alloc (w.alloc A) B;rw [z1] at b1;exact ⟨_,rfl,((Below.refl _ _).alloc (Nat.le_refl _) _).alloc (by simp) _,by simp,(b2 _ (by omega)).trans a1,b1⟩
theorem three_new (w:World) (A B C:Obj):∃ W0:World,W0=((w.alloc A).alloc B).alloc C/\Below w.heap.size w W0/\W0.heap.size=w.heap.size+3/\W0.heap[w.heap.size]?=some A/\W0.heap[w.heap.size+1]?=some B/\W0.heap[w.heap.size+1+1]?=some C:=by
 have z1:(w.alloc A).heap.size=w.heap.size+1:=by simp
 have z2:((w.alloc A).alloc B).heap.size=w.heap.size+1+1:=by simp
 obtain ⟨a1,a2⟩:=MapKept.heap_alloc w A;obtain ⟨b1,b2⟩:=MapKept.heap_alloc (w.alloc A) B;obtain ⟨c1,c2⟩:=MapKept.heap_alloc ((w.alloc A).alloc B) C;rw [z1] at b1;rw [z2] at c1;exact ⟨_,rfl,(((Below.refl _ _).alloc (Nat.le_refl _) _).alloc (by simp) _).alloc (by simp;omega) _,by simp,(c2 _ (by omega)).trans ((b2 _ (by omega)).trans a1),(c2 _ (by omega)).trans b1,c1⟩
open Stp (wp_region_fresh Spc Stb sVal stTrue sAgI stAgI sRwI stRwI Lat Bef grw_below wpF_quiet wq grw_ex wpF_told wpF_put wpF_nil wpF_skip noEnter_op)
attribute [local go_sem] Stp.frUpon
attribute [local go_sem ↓] ldI_eq
attribute [local go_sem] ldI_run
attribute [local go_sem ↓] stI_eq
attribute [local go_sem] stI_run thereI_drew thereI_new put13_drew put13_new liesI_new rd13_new liesI_drew rd13_drew
set_option maxRecDepth 100000 in
set_option maxHeartbeats 8000000 in
theorem put_sta (s:Sta) (p:Sp) (x:Ins) (q:Pt) (w:World) (h:StaP w s p) (hf:StaF s) (hx:InsP w x q) (hxf:InsF x) (ha:AscP s.ins) (hn:s.ins.length+1<=1000000) :
  Calls Tryz.prog 21 #[.agg (staA s p),.agg (insA x q)] w fun e w'=>∃ p',e=.returned (.agg (staA { s with ins:=putI s.ins x } p'))/\StaP (mask (fromB w.heap.size) w') { s with ins:=putI s.ins x } p'/\Below w.heap.size w w':=by
 obtain ⟨ri,ci,rp,cp,ro,co⟩:=p;have HCL:=hid (fun (W:World) (hW:Below w.heap.size w W)=>clone_sta s ⟨ri,ci,rp,cp,ro,co⟩ W (staP_below hW h) hf);have HRC:=hid (fun (W:World) (hW:Below w.heap.size w W)=>record_any x q W (insP_below hW hx) hxf);have HAS:=hid ha;have HFI:=hid hf.i;clear h hf hx hxf ha;unfold staA at *;dsimp only at HCL;have HXE:=hid (show insA x q=#[.string x.ad,.string x.de,.string x.id,.string x.ty,.int .i64 x.at_.kind,.int .i64 x.at_.num,.string x.at_.str,.slice q.r x.at_.items.length q.c,.slice q.rk x.at_.keys.length q.ck,.int .i64 x.ver,.bool x.ta,.bool x.cf,.slice q.dr x.dp.length q.dc] from rfl);have HXC:=hid (cellsI x q);rw [HXE.out] at HXC ⊢;go_enter Tryz.func21,Tryz.ntmps21;go_upto_region 1 with (fail)
 obtain ⟨W0,hW0,hb0,hz0,hc0,hc1,hc2⟩:=three_new w (.cells #[.string s.lin,.int .i64 s.ser,.slice ri s.ins.length ci,.slice rp s.pen.length cp,.slice ro s.out.length co] 26) (.cells #[.string x.ad,.string x.de,.string x.id,.string x.ty,.int .i64 x.at_.kind,.int .i64 x.at_.num,.string x.at_.str,.slice q.r x.at_.items.length q.c,.slice q.rk x.at_.keys.length q.ck,.int .i64 x.ver,.bool x.ta,.bool x.cf,.slice q.dr x.dp.length q.dc] 41) (.cells #[.string { data:=#[] },.int .i64 0,.slice none 0 0,.slice none 0 0,.slice none 0 0] 26);rw [<-hW0];have HB0:=hid hb0;have HZ0:=hid hz0;have HC1:=hid hc1;have HC2:=hid hc2;have t0:=cellv hc0 0 rfl;have t1:=cellv hc0 1 rfl;have t2:=cellv hc0 2 rfl;have t3:=cellv hc0 3 rfl;have t4:=cellv hc0 4 rfl;clear hW0 hb0 hz0 hc0 hc1 hc2
 go_wp2_with (go_at_call 54
              refine (HCL.out _ HB0.out).mono ?_;rintro e w2 ⟨p2,is,B2,rfl,ho2,hb2⟩;obtain ⟨ri2,ci2,rp2,cp2,ro2,co2⟩:=p2;have HO2:=hid ho2;have HB2:=hid hb2;clear ho2 hb2)
 have HO2b:=hid (HO2.out);have HB3:=hid (show Below w2.heap.size w2 (w2.alloc (.cells #[.string s.lin,.int .i64 s.ser,.slice ri2 s.ins.length ci2,.slice rp2 s.pen.length cp2,.slice ro2 s.out.length co2] 26)) from (Below.refl _ _).alloc (Nat.le_refl _) _);have HBO:=hid (MapKept.heap_alloc w2 (.cells #[.string s.lin,.int .i64 s.ser,.slice ri2 s.ins.length ci2,.slice rp2 s.pen.length cp2,.slice ro2 s.out.length co2] 26)).1;have HZ3:=hid (show (w2.alloc (.cells #[.string s.lin,.int .i64 s.ser,.slice ri2 s.ins.length ci2,.slice rp2 s.pen.length cp2,.slice ro2 s.out.length co2] 26)).heap.size=w2.heap.size+1 by simp);generalize w2.alloc (.cells #[.string s.lin,.int .i64 s.ser,.slice ri2 s.ins.length ci2,.slice rp2 s.pen.length cp2,.slice ro2 s.out.length co2] 26)=W3 at *;have HBW3:=hid (HB2.out.trans (HB3.out.mono HB2.out.size));have HLA:=hid (fun (W:World) (hW:Below W0.heap.size W0 W)=>show LiesI W (w.heap.size+1) 0/\rd13 W (w.heap.size+1) 0=#[.string x.ad,.string x.de,.string x.id,.string x.ty,.int .i64 x.at_.kind,.int .i64 x.at_.num,.string x.at_.str,.slice q.r x.at_.items.length q.c,.slice q.rk x.at_.keys.length q.ck,.int .i64 x.ver,.bool x.ta,.bool x.cf,.slice q.dr x.dp.length q.dc] from liesI_blk ((hW.block _ (by have:=HZ0.out;omega)).trans HC1.out) HXC.out);have HPL:=hid (fun (W:World)=>show Calls Tryz.prog 33 #[.agg #[.string x.ad,.string x.de,.string x.id,.string x.ty,.int .i64 x.at_.kind,.int .i64 x.at_.num,.string x.at_.str,.slice q.r x.at_.items.length q.c,.slice q.rk x.at_.keys.length q.ck,.int .i64 x.ver,.bool x.ta,.bool x.cf,.slice q.dr x.dp.length q.dc]] W fun e w'=>e=.returned (.agg #[.string x.ad,.string x.de])/\Below W.heap.size W w' from placeOf_any x q W);have HSI:=hid (HO2.out.stap.1);have HSE:=hid (fun (W:World) (hW:Below w2.heap.size w2 W)=>search_any ri2 ci2 s.ins (plOf x) W (HSI.out.below inR_mono hW) HAS.out HFI.out);obtain ⟨L,hL⟩:∃ L,lowP s.ins (plOf x)=L:=⟨_,rfl⟩;obtain ⟨F,hF⟩:∃ F,fndP s.ins (plOf x)=F:=⟨_,rfl⟩;rw [hL,hF] at HSE;unfold plOf at HSE;dsimp only at HSE;have HL:=hid hL;have HFF:=hid hF;have u2:=cellv HBO.out 2 rfl;have k1:=fun d os=>cell_regrown u2 d os;clear hL hF t0 t1 t2 t3 t4;refine wp_region_fresh (fun k=>match k with | 2=>some (sVal (.agg #[.string x.ad,.string x.de,.string x.id,.string x.ty,.int .i64 x.at_.kind,.int .i64 x.at_.num,.string x.at_.str,.slice q.r x.at_.items.length q.c,.slice q.rk x.at_.keys.length q.ck,.int .i64 x.ver,.bool x.ta,.bool x.cf,.slice q.dr x.dp.length q.dc])) | 3=>some (sVal (.agg #[.string x.ad,.string x.de])) | 4=>some (sVal (.tuple #[.int .i64 (L:Nat),.bool F])) | _=>none) (by kernel_rfl) (by kernel_rfl) ?_
 iterate 2 (refine wq ?_;intro K hK;go_big_quiet_op;go_big_quiet_on)
 refine wpF_told (sVal (.agg #[.string x.ad,.string x.de,.string x.id,.string x.ty,.int .i64 x.at_.kind,.int .i64 x.at_.num,.string x.at_.str,.slice q.r x.at_.items.length q.c,.slice q.rk x.at_.keys.length q.ck,.int .i64 x.ver,.bool x.ta,.bool x.cf,.slice q.dr x.dp.length q.dc])) (by kernel_rfl) rfl ⟨_,rfl⟩ stTrue (fun w4 hw4 hE4=>?_) ?_
 . have hb4:=grw_below hw4
   obtain ⟨l1,l2⟩:=HLA.out w4 (HBW3.out.trans (hb4.mono HBW3.out.size));clear hw4 hE4 hb4;go_simp
   exact ⟨Lat.refl _,rfl,trivial⟩
 rintro _ rfl
 (refine wpF_put ?_;intro K hK;go_simp;refine hK _ ?_;clear hK K)
 refine wpF_told (sVal (.agg #[.string x.ad,.string x.de])) (by kernel_rfl) rfl ⟨_,rfl⟩ stTrue (fun w4 hw4 hE4=>?_) ?_
 . have hb4:=grw_below hw4
   have hh:=HPL.out w4;clear hw4 hE4 hb4;go_simp
   go_at_call 33;refine Calls.mono hh ?_;rintro e w5 ⟨rfl,hb5⟩;exact ⟨_,rfl,hb5,rfl,trivial⟩
 rintro _ rfl
 (refine wpF_put ?_;intro K hK;go_simp;refine hK _ ?_;clear hK K)
 refine wpF_told (sVal (.tuple #[.int .i64 (L:Nat),.bool F])) (by kernel_rfl) rfl ⟨_,rfl⟩ stTrue (fun w4 hw4 hE4=>?_) ?_
 . have hb4:=grw_below hw4
   have hh:=HSE.out w4 (HB3.out.trans (hb4.mono HB3.out.size));clear hw4 hE4 hb4;go_simp
   go_at_call 48;refine Calls.mono hh ?_;rintro e w5 ⟨rfl,hb5⟩;exact ⟨_,rfl,hb5,rfl,trivial⟩
 rintro _ rfl
 (refine wpF_put ?_;intro K hK;go_simp;refine hK _ ?_;clear hK K)
 iterate 5 (refine wq ?_;intro K hK;go_big_quiet_op;go_big_quiet_on)
 refine wpF_nil ?_;intro w6 hw6 hE6;have hb6:=grw_below hw6;clear hw6 hE6;have HB6:=hid hb6;clear hb6;cases F with
 | true =>
   obtain ⟨y,hy⟩:∃ y,fnI s.ins (plOf x)=some y:=by
    have:=HFF.out;rw [fndP_eq] at this;exact Option.isSome_iff_exists.1 this
   obtain ⟨hlt,_⟩:=lowP_lt HAS.out hy;have hset:=set_putI HAS.out hy;rw [HL.out] at hlt hset;have HSET:=hid hset;have hil:=HO2.out.insl
   obtain ⟨g,rfl⟩:∃ g,ri2=some ⟨g,0,none⟩:=by
    rcases HO2.out.ins.own.2 with ⟨e,h0⟩ | ⟨g,cap,cur,e,_⟩
    . simp at e;omega
    . simp at e;exact ⟨g,by rw [e.1]⟩
   have hgo:=own_lt HO2.out.ins.own (g:=g) rfl;have hL0:(0:Int)<=(L:Int):=by omega
   have hL1:(L:Int) < (s.ins.length:Int):=by omega
   have HBW6:=hid (HBW3.out.trans (HB6.out.mono HBW3.out.size));have HB26:=hid (HB3.out.trans (HB6.out.mono HB3.out.size));have HBO6:=hid ((HB6.out.block w2.heap.size (by have:=HZ3.out;omega)).trans HBO.out);have u26:=cellv HBO6.out 2 rfl;have k2:=fun d os=>cell_regrown u26 d os;have HRW:=hid (fun (W:World) (hW:Below w6.heap.size w6 W)=>HRC.out W ((HB0.out.trans (HBW6.out.mono HB0.out.size)).trans (hW.mono (by have:=HB0.out.size;have:=HBW6.out.size;omega))));rw [HXE.out] at HRW;clear k1 u2 hset;go_wp2_with fail
   refine Stp.wp_region_tail_5_2 (fun qq=>match qq with | 3=>some (sVal (.agg #[.string x.ad,.string x.de,.string x.id,.string x.ty,.int .i64 x.at_.kind,.int .i64 x.at_.num,.string x.at_.str,.slice q.r x.at_.items.length q.c,.slice q.rk x.at_.keys.length q.ck,.int .i64 x.ver,.bool x.ta,.bool x.cf,.slice q.dr x.dp.length q.dc])) | 4=>some (sAgI w6.heap.size x) | _=>none) (by kernel_rfl) (by kernel_rfl) (by kernel_rfl) ?_
   iterate 3 (refine wq ?_;intro K hK;go_big_quiet_op;go_big_quiet_on)
   refine wpF_told (sVal (.agg #[.string x.ad,.string x.de,.string x.id,.string x.ty,.int .i64 x.at_.kind,.int .i64 x.at_.num,.string x.at_.str,.slice q.r x.at_.items.length q.c,.slice q.rk x.at_.keys.length q.ck,.int .i64 x.ver,.bool x.ta,.bool x.cf,.slice q.dr x.dp.length q.dc])) (by kernel_rfl) rfl ⟨_,rfl⟩ stTrue (fun w4 hw4 hE4=>?_) ?_
   . have hb4:=grw_below hw4
     obtain ⟨l1,l2⟩:=HLA.out w4 (HBW6.out.trans (hb4.mono HBW6.out.size));clear hw4 hE4 hb4;go_simp
     exact ⟨Lat.refl _,rfl,trivial⟩
   rintro _ rfl
   (refine wpF_put ?_;intro K hK;go_simp;refine hK _ ?_;clear hK K)
   refine wpF_told (sAgI w6.heap.size x) (by kernel_rfl) rfl ⟨_,⟨none,0,none,0,none,0⟩,rfl⟩ (stAgI _ _) (fun w4 hw4 hE4=>?_) ?_
   . have hb4:=grw_below hw4
     have hh:=HRW.out w4 hb4;have hz4:=hb4.size;clear hw4 hE4;go_simp
     go_at_call 50;refine Calls.mono hh ?_;rintro e w5 ⟨p5,rfl,hx5,hb5⟩;exact ⟨_,rfl,hb5,⟨p5,rfl⟩,p5,rfl,inQ_stays _ _ ⟨x,p5⟩ (stays_wider fun b hb=>by simp only [fromB,decide_eq_true_eq] at hb ⊢;omega) hx5⟩
   rintro _ ⟨p5,rfl⟩
   (refine wpF_put ?_;intro K hK;go_simp;refine hK _ ?_;clear hK K)
   refine wpF_nil ?_;intro w7 hw7 hE7;have hb7:=grw_below hw7;have hnb:=hE7 4;clear hw7 hE7;have HB7:=hid hb7;clear hb7;obtain ⟨p5,e5,hi5⟩:=hnb;obtain rfl:=insA_inj e5;have hx5:=cellsI x p5;have hs7:=HB7.out.size;have hR7:RowG inE InQ 13 41 B2 w7 (.slice (some ⟨g,0,none⟩) is.length ci2) is:=HO2.out.ins.below inQ_stays (HB26.out.trans (HB7.out.mono HB26.out.size))
   have ht:ThereI w7 g (L * 13):=by
    rcases hR7.own.2 with ⟨e,_⟩ | ⟨g2,cap,cur,e,_,hg,h1,_,hs,_⟩
    . cases e
    . simp at e
      obtain ⟨rfl,e2,rfl⟩:=e;exact there_blk hg (by rw [hs];omega)
   have hst:=stI_run w7 g (L * 13) _ ht hx5;have hz26:=HB26.out.size;have hR8:=RowG.put (y:=(⟨x,p5⟩:Inp)) (B0:=w6.heap.size) inQ_stays inE_len hR7 rfl (k:=L) (by omega) hi5 (by have:=HO2.out.hi;omega) (by omega);have hk8:∀ b,b≠g->(put13 w7 g (L * 13) (insA x p5)).heap[b]?=w7.heap[b]?:=fun b hb=>setCells_other _ _ _ _ hb;have hz8:(put13 w7 g (L * 13) (insA x p5)).heap.size=w7.heap.size:=setCells_size _ _ _ _;have hB8:Below w.heap.size w (put13 w7 g (L * 13) (insA x p5)):=setCells_below _ _ _ _ ((HB0.out.trans (HBW6.out.mono HB0.out.size)).trans (HB7.out.mono (by have:=HB0.out.size;have:=HBW6.out.size;omega))) (by have:=HO2.out.le;have:=HB0.out.size;omega);have HR8:=hid (show RowG inE InQ 13 41 B2 (put13 w7 g (L * 13) (insA x p5)) (.slice (some ⟨g,0,none⟩) is.length ci2) (is.set L ⟨x,p5⟩) from hR8);generalize put13 w7 g (L * 13) (insA x p5)=W8 at *;have HB8:=hid hB8;have hbo8:=(hk8 w2.heap.size (by omega)).trans ((HB7.out.block _ (by have:=HZ3.out;have:=HB6.out.size;omega)).trans HBO6.out);have hrs8:=(hk8 (w.heap.size+1+1) (by have:=HO2.out.le;have:=HZ0.out;omega)).trans ((HB7.out.block _ (by have:=HBW6.out.size;have:=HZ0.out;omega)).trans ((HBW6.out.block _ (by have:=HZ0.out;omega)).trans HC2.out))
   have HKK:=hid (show ∀ b,b < w2.heap.size->b≠g->W8.heap[b]?=w2.heap[b]? from fun b hb hn=>by
    rw [hk8 b hn,HB7.out.block b (by omega),HB26.out.block b hb])
   clear hR7 hR8 hk8 hB8 ht hi5 e5 hx5;simp only [Stp.seqW];go_simp
   clear hst;have y0:=cellv hrs8 0 rfl;have y1:=cellv hrs8 1 rfl;have y2:=cellv hrs8 2 rfl;have y3:=cellv hrs8 3 rfl;have y4:=cellv hrs8 4 rfl;have yf0:=frozen_of hrs8 0;have yf1:=frozen_of hrs8 1;have yf2:=frozen_of hrs8 2;have yf3:=frozen_of hrs8 3;have yf4:=frozen_of hrs8 4;have v0:=cellv hbo8 0 rfl;have v1:=cellv hbo8 1 rfl;have v2:=cellv hbo8 2 rfl;have v3:=cellv hbo8 3 rfl;have v4:=cellv hbo8 4 rfl;obtain ⟨WE,hWE,e1,e2,e3,e4⟩:=cl_store hrs8 (.string s.lin) (.int .i64 s.ser) (.slice (some ⟨g,0,none⟩) s.ins.length ci2) (.slice rp2 s.pen.length cp2) (.slice ro2 s.out.length co2);go_wp2_with fail
   rw [<-hWE];have g0:=cellv e1 0 rfl;have g1:=cellv e1 1 rfl;have g2:=cellv e1 2 rfl;have g3:=cellv e1 3 rfl;have g4:=cellv e1 4 rfl;have hpl:(putI s.ins x).length=s.ins.length:=by rw [<-HSET.out,List.length_set]
   have hmm:(is.set L (⟨x,p5⟩:Inp)).map (·.x)=putI s.ins x:=by
    rw [List.map_set,HO2.out.insx];exact HSET.out
   have hle:=HO2.out.le;have hhi:=HO2.out.hi;have hz00:=HZ0.out
   have hRE:RowG inE InQ 13 41 B2 WE (.slice (some ⟨g,0,none⟩) (is.set L (⟨x,p5⟩:Inp)).length ci2) (is.set L ⟨x,p5⟩):=by
    rw [List.length_set];exact HR8.out.to inQ_stays (fun b hb _=>e2 b (by omega))
   have hSO:=hid ((StaO.change HO2.out (fun b hb hB=>by rw [e2 b (by omega),HKK.out b (by omega) (by omega)]) hRE hmm (by omega)).stapW (B0:=w.heap.size) (by omega));have hBE:=hid (e4 _ _ HB8.out (by omega));clear hWE e1 e2 e3 e4 hRE hmm;exact bodyPost_ret (v:=.agg (staA { s with ins:=putI s.ins x } ⟨some ⟨g,0,none⟩,ci2,rp2,cp2,ro2,co2⟩)) (by simp [results,Tryz.results21,go_sem,staA,hpl,g0,g1,g2,g3,g4]) rfl ⟨_,rfl,hSO.out,hBE.out⟩
 | false =>
   have hnone:fnI s.ins (plOf x)=none:=fnI_none.2 HFF.out;have hins:=ins_putI HAS.out hnone;have hle2:=lowP_le s.ins (plOf x);rw [HL.out] at hins hle2;have HINS:=hid hins;have hil:=HO2.out.insl;have hgo:∀ g,(Value.slice ri2 is.length ci2).ownBlock=some g->B2<=g/\g < w2.heap.size:=fun g hg=>own_lt HO2.out.ins.own hg;have HGO:=hid hgo;have hL0:(0:Int)<=(L:Int):=by omega
   have hL1:(L:Int)<=(s.ins.length:Int):=by omega
   have HBW6:=hid (HBW3.out.trans (HB6.out.mono HBW3.out.size));have HB26:=hid (HB3.out.trans (HB6.out.mono HB3.out.size));have HBO6:=hid ((HB6.out.block w2.heap.size (by have:=HZ3.out;omega)).trans HBO.out);have u26:=cellv HBO6.out 2 rfl;have k2:=fun d os=>cell_regrown u26 d os;have HRW:=hid (fun (W:World) (hW:Below w6.heap.size w6 W)=>HRC.out W ((HB0.out.trans (HBW6.out.mono HB0.out.size)).trans (hW.mono (by have:=HB0.out.size;have:=HBW6.out.size;omega))));rw [HXE.out] at HRW;clear k1 u2 hins hgo;go_wp2_with fail
   refine Stp.wp_region_tail_6_3 (fun qq=>match qq with | 3=>some (sVal (.agg #[.string x.ad,.string x.de,.string x.id,.string x.ty,.int .i64 x.at_.kind,.int .i64 x.at_.num,.string x.at_.str,.slice q.r x.at_.items.length q.c,.slice q.rk x.at_.keys.length q.ck,.int .i64 x.ver,.bool x.ta,.bool x.cf,.slice q.dr x.dp.length q.dc])) | 4=>some (sAgI w6.heap.size x) | 5=>some (sRwI w6.heap.size x) | _=>none) (by kernel_rfl) (by kernel_rfl) (by kernel_rfl) ?_
   iterate 3 (refine wq ?_;intro K hK;go_big_quiet_op;go_big_quiet_on)
   refine wpF_told (sVal (.agg #[.string x.ad,.string x.de,.string x.id,.string x.ty,.int .i64 x.at_.kind,.int .i64 x.at_.num,.string x.at_.str,.slice q.r x.at_.items.length q.c,.slice q.rk x.at_.keys.length q.ck,.int .i64 x.ver,.bool x.ta,.bool x.cf,.slice q.dr x.dp.length q.dc])) (by kernel_rfl) rfl ⟨_,rfl⟩ stTrue (fun w4 hw4 hE4=>?_) ?_
   . have hb4:=grw_below hw4
     obtain ⟨l1,l2⟩:=HLA.out w4 (HBW6.out.trans (hb4.mono HBW6.out.size));clear hw4 hE4 hb4;go_simp
     exact ⟨Lat.refl _,rfl,trivial⟩
   rintro _ rfl
   (refine wpF_put ?_;intro K hK;go_simp;refine hK _ ?_;clear hK K)
   refine wpF_told (sAgI w6.heap.size x) (by kernel_rfl) rfl ⟨_,⟨none,0,none,0,none,0⟩,rfl⟩ (stAgI _ _) (fun w4 hw4 hE4=>?_) ?_
   . have hb4:=grw_below hw4
     have hh:=HRW.out w4 hb4;have hz4:=hb4.size;clear hw4 hE4;go_simp
     go_at_call 50;refine Calls.mono hh ?_;rintro e w5 ⟨p5,rfl,hx5,hb5⟩;exact ⟨_,rfl,hb5,⟨p5,rfl⟩,p5,rfl,inQ_stays _ _ ⟨x,p5⟩ (stays_wider fun b hb=>by simp only [fromB,decide_eq_true_eq] at hb ⊢;omega) hx5⟩
   rintro _ ⟨p5,rfl⟩
   (refine wpF_put ?_;intro K hK;go_simp;refine hK _ ?_;clear hK K)
   refine wpF_told (sRwI w6.heap.size x) (by kernel_rfl) rfl ⟨_,0,rfl⟩ (stRwI _ _) (fun w4 hw4 hE4=>?_) ?_
   . have hb4:=grw_below hw4
     obtain ⟨p6,e6,h6⟩:=hE4 4 (Bef.one (e:=⟨4,.data⟩) rfl (by simp) rfl rfl);clear hw4 hE4;obtain rfl:=insA_inj e6;unfold insA;go_simp
     exact ⟨(Below.refl _ _).alloc (Nat.le_refl _) _,⟨_,rfl⟩,_,_,rfl,hb4.size,(MapKept.heap_alloc _ _).1,inQ_stays _ _ ⟨x,p5⟩ (stays_below ((Below.refl _ _).alloc (Nat.le_refl _) _)) h6⟩
   rintro _ ⟨nb,rfl⟩
   (refine wpF_put ?_;intro K hK;go_simp;refine hK _ ?_;clear hK K)
   refine wpF_nil ?_;intro w7 hw7 hE7;have hb7:=grw_below hw7;have hnb:=hE7 5;clear hw7 hE7;have HB7:=hid hb7;clear hb7;obtain ⟨nb2,p6,e6,hnl,hn6,hi6⟩:=hnb;simp at e6;subst e6;have hs7:=HB7.out.size;have hz26:=HB26.out.size;have hz3:=HZ3.out;have hz6:=HB6.out.size;have hR6:=HO2.out.ins.no inQ_stays (w':=w6) (bo:=w2.heap.size) (fun b hb hl=>HB26.out.block b hl) (Nat.le_refl _);have hR7:=hR6.below (stay_no inQ_stays) HB7.out;have HIN:=hid (ins_in B2 is ⟨x,p6⟩ L (.slice ri2 is.length ci2) nb w7 (by omega) hR7.own hn6 (fun e=>by have:=HGO.out nb e;omega) (by omega) (by have:=HO2.out.hi;omega));rw [hil] at HIN hR6;have HR6:=hid hR6;have HI6:=hid hi6;have HNL:=hid hnl;have HBO7:=hid ((HB7.out.block _ (by omega)).trans HBO6.out);have HRS7:=hid ((HB7.out.block (w.heap.size+1+1) (by have:=HBW6.out.size;have:=HZ0.out;omega)).trans ((HBW6.out.block _ (by have:=HZ0.out;omega)).trans HC2.out));have hB7:Below w.heap.size w w7:=(HB0.out.trans (HBW6.out.mono HB0.out.size)).trans (HB7.out.mono (by have:=HB0.out.size;have:=HBW6.out.size;omega));have HB7w:=hid hB7;clear hR7 hR6 hi6 hn6 hnl hB7;simp only [Stp.seqW];go_simp
   refine Calls.mono HIN.out ?_;rintro e w8 ⟨g,cap,rfl,m1,m2,m3⟩;have hlen9:(is.insertIdx L (⟨x,p6⟩:Inp)).length=s.ins.length+1:=by rw [insert_len is _ L (by omega),hil]
   have hgo2:∀ q,(Value.slice ri2 s.ins.length ci2).ownBlock=some q->B2<=q/\q < w2.heap.size:=fun q hq=>HGO.out q (by rw [hil];exact hq)
   have hR8:RowG inE (NoB w2.heap.size InQ) 13 41 B2 w8 (.slice (some ⟨g,0,none⟩) (is.length+1) cap) (is.insertIdx L (⟨x,p6⟩:Inp)):=RowG.more (stay_no inQ_stays) HR6.out (by have:=HO2.out.hi;omega) (Below.refl _ _) HB7.out (fun z hz=>by
    rcases mem_insertIdx' hz with rfl | hz
    . refine .inr (inQ_stays _ _ ⟨x,p6⟩ (fun b o u hc=>?_) HI6.out)
      have h1:=(mask_cell hc).1;simp only [fromB,decide_eq_true_eq] at h1;exact mask_cell_mk (decide_eq_true (by omega)) hc
    . exact .inl hz) (Below.refl _ _) m1 m2 m3
   rw [hil] at hR8;have hk8:∀ b,b < w7.heap.size->(∀ q,(Value.slice ri2 s.ins.length ci2).ownBlock=some q->q≠b)->w8.heap[b]?=w7.heap[b]?:=fun b hb hn=>m2.block b hb (fun e=>hn b e.symm rfl);have hbo8:=(hk8 w2.heap.size (by omega) (fun q hq e=>by have:=hgo2 q hq;omega)).trans HBO7.out;have hle:=HO2.out.le;have hz00:=HZ0.out;have hhi:=HO2.out.hi;have hrs8:=(hk8 (w.heap.size+1+1) (by omega) (fun q hq e=>by have:=hgo2 q hq;omega)).trans HRS7.out;have hB8:Below w.heap.size w w8:=HB7w.out.grown m2 (by have:=HB7w.out.size;omega) (fun q hq=>by have:=hgo2 q hq;omega)
   have hg8:g≠w2.heap.size:=fun e=>by
    rcases m3 with h | h
    . have:=hgo2 g h;omega
    . omega
   have hs8:=m2.size
   have HKK:=hid (show ∀ b,b < B2->w8.heap[b]?=w2.heap[b]? from fun b hb=>by
    rw [hk8 b (by omega) (fun q hq e=>by have:=hgo2 q hq;omega),HB7.out.block b (by omega),HB26.out.block b (by omega)])
   have HR8:=hid hR8;have c8:=cellv hbo8 2 rfl;have f8:=frozen_of hbo8 2;clear hR8 m1 m2 m3 hk8 hgo2;rw [hil]
   have hbo9:(w8.setCells w2.heap.size 2 [.slice (some ⟨g,0,none⟩) (s.ins.length+1) cap]).heap[w2.heap.size]?=some (.cells #[.string s.lin,.int .i64 s.ser,.slice (some ⟨g,0,none⟩) (s.ins.length+1) cap,.slice rp2 s.pen.length cp2,.slice ro2 s.out.length co2] 26):=by
    have:=setCells_block [.slice (some ⟨g,0,none⟩) (s.ins.length+1) cap] 26 w8 w2.heap.size 2 _ hbo8 (by simp);simpa using this
   have hk9:∀ b,b≠w2.heap.size->(w8.setCells w2.heap.size 2 [.slice (some ⟨g,0,none⟩) (s.ins.length+1) cap]).heap[b]?=w8.heap[b]?:=fun b hb=>setCells_other _ _ _ _ hb;have hz9:=setCells_size [.slice (some ⟨g,0,none⟩) (s.ins.length+1) cap] w8 w2.heap.size 2;have hB9:=setCells_below [.slice (some ⟨g,0,none⟩) (s.ins.length+1) cap] w8 w2.heap.size 2 hB8 (by omega);have hR9:=HR8.out.store inQ_stays (w':=w8.setCells w2.heap.size 2 [.slice (some ⟨g,0,none⟩) (s.ins.length+1) cap]) (fun e=>by simp [Value.ownBlock] at e;exact hg8 e) hk9;go_simp
   rw [show w8.setCell ⟨w2.heap.size,2,none⟩ (.slice (some ⟨g,0,none⟩) (s.ins.length+1) cap)=w8.setCells w2.heap.size 2 [.slice (some ⟨g,0,none⟩) (s.ins.length+1) cap] from rfl];generalize w8.setCells w2.heap.size 2 [.slice (some ⟨g,0,none⟩) (s.ins.length+1) cap]=W9 at *;have hrs9:=(hk9 (w.heap.size+1+1) (by omega)).trans hrs8;have HR9:=hid hR9;have HK9:=hid hk9;have HB9:=hid hB9;clear hR9 hk9 hB9 hbo8 hrs8 c8 f8 hB8 u26 k2;have y0:=cellv hrs9 0 rfl;have y1:=cellv hrs9 1 rfl;have y2:=cellv hrs9 2 rfl;have y3:=cellv hrs9 3 rfl;have y4:=cellv hrs9 4 rfl;have yf0:=frozen_of hrs9 0;have yf1:=frozen_of hrs9 1;have yf2:=frozen_of hrs9 2;have yf3:=frozen_of hrs9 3;have yf4:=frozen_of hrs9 4;have v0:=cellv hbo9 0 rfl;have v1:=cellv hbo9 1 rfl;have v2:=cellv hbo9 2 rfl;have v3:=cellv hbo9 3 rfl;have v4:=cellv hbo9 4 rfl;obtain ⟨WE,hWE,e1,e2,e3,e4⟩:=cl_store hrs9 (.string s.lin) (.int .i64 s.ser) (.slice (some ⟨g,0,none⟩) (s.ins.length+1) cap) (.slice rp2 s.pen.length cp2) (.slice ro2 s.out.length co2);go_wp2_with fail
   rw [<-hWE];have g0:=cellv e1 0 rfl;have g1:=cellv e1 1 rfl;have g2:=cellv e1 2 rfl;have g3:=cellv e1 3 rfl;have g4:=cellv e1 4 rfl;have hpl:(putI s.ins x).length=s.ins.length+1:=by rw [<-HINS.out];simp;omega
   have hmm:(is.insertIdx L (⟨x,p6⟩:Inp)).map (·.x)=putI s.ins x:=by
    rw [map_insertIdx (fun y:Inp=>y.x) _ is L (by omega),HO2.out.insx];exact HINS.out
   have hRE:RowG inE InQ 13 41 B2 WE (.slice (some ⟨g,0,none⟩) (is.insertIdx L (⟨x,p6⟩:Inp)).length cap) (is.insertIdx L ⟨x,p6⟩):=by
    rw [hlen9];exact HR9.out.to inQ_stays (fun b hb _=>e2 b (by omega))
   have hSO:=hid ((StaO.change HO2.out (fun b hb hB=>by rw [e2 b (by omega),HK9.out b (by omega),HKK.out b hb]) hRE hmm (by omega)).stapW (B0:=w.heap.size) (by omega));have hBE:=hid (e4 _ _ HB9.out (by omega));clear hWE e1 e2 e3 e4 hRE hmm;exact bodyPost_ret (v:=.agg (staA { s with ins:=putI s.ins x } ⟨some ⟨g,0,none⟩,cap,rp2,cp2,ro2,co2⟩)) (by simp [results,Tryz.results21,go_sem,staA,hpl,g0,g1,g2,g3,g4]) rfl ⟨_,rfl,hSO.out,hBE.out⟩
set_option maxRecDepth 100000 in
set_option maxHeartbeats 8000000 in
theorem remove_sta (s:Sta) (p:Sp) (a d:ByteArray) (w:World) (h:StaP w s p) (hf:StaF s) (ha:AscP s.ins) :
  Calls Tryz.prog 23 #[.agg (staA s p),.string a,.string d] w fun e w'=>∃ p',e=.returned (.agg (staA { s with ins:=rmI s.ins (a,d) } p'))/\StaP (mask (fromB w.heap.size) w') { s with ins:=rmI s.ins (a,d) } p'/\Below w.heap.size w w':=by
 obtain ⟨ri,ci,rp,cp,ro,co⟩:=p;have HCL:=hid (fun (W:World) (hW:Below w.heap.size w W)=>clone_sta s ⟨ri,ci,rp,cp,ro,co⟩ W (staP_below hW h) hf);have HAS:=hid ha;have HFI:=hid hf.i;clear h hf ha;unfold staA at *;dsimp only at HCL;go_enter Tryz.func23,Tryz.ntmps23;go_upto_region 1 with (fail)
 obtain ⟨W0,hW0,hb0,hz0,hc0,hc2⟩:=two_new' w (.cells #[.string s.lin,.int .i64 s.ser,.slice ri s.ins.length ci,.slice rp s.pen.length cp,.slice ro s.out.length co] 26) (.cells #[.string { data:=#[] },.int .i64 0,.slice none 0 0,.slice none 0 0,.slice none 0 0] 26);rw [<-hW0];have HB0:=hid hb0;have HZ0:=hid hz0;have HC2:=hid hc2;have t0:=cellv hc0 0 rfl;have t1:=cellv hc0 1 rfl;have t2:=cellv hc0 2 rfl;have t3:=cellv hc0 3 rfl;have t4:=cellv hc0 4 rfl;clear hW0 hb0 hz0 hc0 hc2;obtain ⟨L,hL⟩:∃ L,lowP s.ins (a,d)=L:=⟨_,rfl⟩;obtain ⟨F,hF⟩:∃ F,fndP s.ins (a,d)=F:=⟨_,rfl⟩;have HL:=hid hL;have HFF:=hid hF;clear hL hF;cases F with
 | true =>
   obtain ⟨y,hy⟩:∃ y,fnI s.ins (a,d)=some y:=by
    have:=HFF.out;rw [fndP_eq] at this;exact Option.isSome_iff_exists.1 this
   obtain ⟨hlt,_⟩:=lowP_lt HAS.out hy;have hdel:=del_rmI HAS.out hy;rw [HL.out] at hlt hdel;have HDE:=hid hdel;have hL0:(0:Int)<=(L:Int):=by omega
   have hL1:(L:Int) < (s.ins.length:Int):=by omega
   have hfi:=HFI.out;clear hdel hy
   go_wp2_with (first
    | (go_at_call 54
       refine (HCL.out _ HB0.out).mono ?_;rintro e w2 ⟨p2,is,B2,rfl,ho2,hb2⟩;obtain ⟨ri2,ci2,rp2,cp2,ro2,co2⟩:=p2;have HO2:=hid ho2;have HB2:=hid hb2;have HB3:=hid (show Below w2.heap.size w2 (w2.alloc (.cells #[.string s.lin,.int .i64 s.ser,.slice ri2 s.ins.length ci2,.slice rp2 s.pen.length cp2,.slice ro2 s.out.length co2] 26)) from (Below.refl _ _).alloc (Nat.le_refl _) _);have HBO:=hid (MapKept.heap_alloc w2 (.cells #[.string s.lin,.int .i64 s.ser,.slice ri2 s.ins.length ci2,.slice rp2 s.pen.length cp2,.slice ro2 s.out.length co2] 26)).1;have HIL:=hid (ho2.insl);have HZ3:=hid (show (w2.alloc (.cells #[.string s.lin,.int .i64 s.ser,.slice ri2 s.ins.length ci2,.slice rp2 s.pen.length cp2,.slice ro2 s.out.length co2] 26)).heap.size=w2.heap.size+1 by simp);have u20:=cellv HBO.out 2 rfl;have HSI:=hid (ho2.stap.1);have HSE:=hid (fun (W:World) (hW:Below w2.heap.size w2 W)=>search_any ri2 ci2 s.ins (a,d) W (HSI.out.below inR_mono hW) HAS.out HFI.out);rw [HL.out,HFF.out] at HSE;dsimp only at HSE;clear ho2 hb2 HSI)
    | (go_at_call 48
       refine (HSE.out _ HB3.out).mono ?_;rintro e w6 ⟨rfl,hb6⟩;have HB6:=hid hb6;clear hb6;have HBO6:=hid ((HB6.out.block w2.heap.size (by have:=HZ3.out;omega)).trans HBO.out);have HRS6:=hid ((HB6.out.block (w.heap.size+1) (by have:=HZ3.out;have:=HB2.out.size;have:=HZ0.out;omega)).trans ((HB3.out.block _ (by have:=HB2.out.size;have:=HZ0.out;omega)).trans ((HB2.out.block _ (by have:=HZ0.out;omega)).trans HC2.out)));have HB26:=hid (HB3.out.trans (HB6.out.mono HB3.out.size));have u2:=cellv HBO6.out 2 rfl;have hgo:∀ g,(Value.slice ri2 s.ins.length ci2).ownBlock=some g->B2<=g/\g < w2.heap.size:=fun g hg=>own_lt HO2.out.ins.own (by rw [HIL.out];exact hg);have HGO:=hid hgo;have hR6:=HO2.out.ins.no inQ_stays (w':=w6) (bo:=w2.heap.size) (fun b hb hl=>HB26.out.block b hl) (Nat.le_refl _);have hDL:=del_in B2 is L (L+1) rfl (.slice ri2 is.length ci2) w6 (by have:=HIL.out;omega) hR6.own;rw [show (((L+1:Nat)):Int)=(L:Int)+1 from by omega,HIL.out] at hDL;rw [HIL.out] at hR6;have HDL:=hid hDL;have HR6:=hid hR6;clear hgo hR6 hDL)
    | (go_at_call 65
       refine HDL.out.mono ?_;rintro e w8 ⟨g,cap,rfl,m1,m2,m3⟩;have HM1:=hid m1;have HM2:=hid m2;have HM3:=hid m3;have hbo8:=(m2.block w2.heap.size (by have:=HB6.out.size;have:=HZ3.out;omega) (fun e=>by have:=HGO.out _ e.symm;omega)).trans HBO6.out;have c8:=cellv hbo8 2 rfl;have f8:=frozen_of hbo8 2;have hrs8:=(m2.block (w.heap.size+1) (by have:=HB6.out.size;have:=HZ3.out;have:=HB2.out.size;have:=HZ0.out;omega) (fun e=>by have:=HGO.out _ e.symm;have:=HO2.out.le;have:=HZ0.out;omega)).trans HRS6.out;have y0:=cellv hrs8 0 rfl;have y1:=cellv hrs8 1 rfl;have y2:=cellv hrs8 2 rfl;have y3:=cellv hrs8 3 rfl;have y4:=cellv hrs8 4 rfl;have yf0:=frozen_of hrs8 0;have yf1:=frozen_of hrs8 1;have yf2:=frozen_of hrs8 2;have yf3:=frozen_of hrs8 3;have yf4:=frozen_of hrs8 4;have v0:=cellv hbo8 0 rfl;have v1:=cellv hbo8 1 rfl;have v3:=cellv hbo8 3 rfl;have v4:=cellv hbo8 4 rfl;have hne8:w2.heap.size≠w.heap.size+1:=by have:=HB2.out.size;have:=HZ0.out;omega
       have HBO8:=hid hbo8;have HRS8:=hid hrs8;clear m1 m2 m3 hbo8 hrs8))
   have hz3:=HZ3.out;have hz6:=HB6.out.size;have hz26:=HB26.out.size;have hz2:=HB2.out.size;have hz0:=HZ0.out;have hle:=HO2.out.le;have hhi:=HO2.out.hi;have hil:=HIL.out;have hs8:=HM2.out.size;have hlen9:(is.eraseIdx L).length=s.ins.length - 1:=by rw [List.length_eraseIdx,if_pos (by omega),hil]
   have hg0:=HGO.out g HM3.out;have hR8:RowG inE (NoB w2.heap.size InQ) 13 41 B2 w8 (.slice (some ⟨g,0,none⟩) (is.length - 1) cap) (is.eraseIdx L):=RowG.more (stay_no inQ_stays) HR6.out (by omega) (Below.refl _ _) (Below.refl _ _) (fun z hz=>.inl (List.mem_of_mem_eraseIdx hz)) (Below.refl _ _) HM1.out HM2.out (.inl HM3.out);have hk8:∀ b,b < w6.heap.size->b≠g->w8.heap[b]?=w6.heap[b]?:=fun b hb hn=>HM2.out.block b hb (fun e=>hn (Option.some.inj (e.trans HM3.out)));have hB6:Below w.heap.size w w6:=((HB0.out.trans (HB2.out.mono HB0.out.size)).trans (HB26.out.mono (by have:=HB0.out.size;omega)));have hB8:=hB6.grown HM2.out (by have:=hB6.size;omega) (fun q hq=>by have:=HGO.out q hq;omega);have hk9:∀ b,b≠w2.heap.size->(w8.setCells w2.heap.size 2 [.slice (some ⟨g,0,none⟩) (is.length - 1) cap]).heap[b]?=w8.heap[b]?:=fun b hb=>setCells_other _ _ _ _ hb;have hz9:=setCells_size [.slice (some ⟨g,0,none⟩) (is.length - 1) cap] w8 w2.heap.size 2;have hB9:=setCells_below [.slice (some ⟨g,0,none⟩) (is.length - 1) cap] w8 w2.heap.size 2 hB8 (by omega);have hR9:=hR8.store inQ_stays (w':=w8.setCells w2.heap.size 2 [.slice (some ⟨g,0,none⟩) (is.length - 1) cap]) (fun e=>by simp [Value.ownBlock] at e;omega) hk9;have hrs9:=(hk9 (w.heap.size+1) (by omega)).trans HRS8.out;obtain ⟨WE,hWE,e1,e2,e3,e4⟩:=cl_store hrs9 (.string s.lin) (.int .i64 s.ser) (.slice (some ⟨g,0,none⟩) (is.length - 1) cap) (.slice rp2 s.pen.length cp2) (.slice ro2 s.out.length co2);rw [show w8.setCells w2.heap.size 2 [.slice (some ⟨g,0,none⟩) (is.length - 1) cap]=w8.setCell ⟨w2.heap.size,2,none⟩ (.slice (some ⟨g,0,none⟩) (is.length - 1) cap) from rfl] at hWE;rw [<-hWE];have g0:=cellv e1 0 rfl;have g1:=cellv e1 1 rfl;have g2:=cellv e1 2 rfl;have g3:=cellv e1 3 rfl;have g4:=cellv e1 4 rfl;have hpl:(rmI s.ins (a,d)).length=is.length - 1:=by rw [<-HDE.out,hil];simp;omega
   have hmm:(is.eraseIdx L).map (·.x)=rmI s.ins (a,d):=by
    rw [map_eraseIdx (fun y:Inp=>y.x) is L (by omega),HO2.out.insx];exact HDE.out
   have hRE:RowG inE InQ 13 41 B2 WE (.slice (some ⟨g,0,none⟩) (is.eraseIdx L).length cap) (is.eraseIdx L):=by
    rw [hlen9,<-hil];exact hR9.to inQ_stays (fun b hb _=>e2 b (by omega))
   have hSO:=hid ((StaO.change HO2.out (fun b hb hB=>by rw [e2 b (by omega),hk9 b (by omega),hk8 b (by omega) (by omega),HB26.out.block b (by omega)]) hRE hmm (by omega)).stapW (B0:=w.heap.size) (by omega));have hBE:=hid (e4 _ _ hB9 (by omega));clear hWE e1 e2 e3 e4 hRE hmm hR8 hR9 hk8 hk9 hB8 hB9 hB6 hrs9;exact bodyPost_ret (v:=.agg (staA { s with ins:=rmI s.ins (a,d) } ⟨some ⟨g,0,none⟩,cap,rp2,cp2,ro2,co2⟩)) (by simp [results,Tryz.results23,go_sem,staA,hpl,g0,g1,g2,g3,g4]) rfl ⟨_,rfl,hSO.out,hBE.out⟩
 | false =>
   have hnone:fnI s.ins (a,d)=none:=fnI_none.2 HFF.out;have HRM:=hid (rmI_none hnone);clear hnone
   go_wp2_with (first
    | (go_at_call 54
       refine (HCL.out _ HB0.out).mono ?_;rintro e w2 ⟨p2,is,B2,rfl,ho2,hb2⟩;obtain ⟨ri2,ci2,rp2,cp2,ro2,co2⟩:=p2;have HO2:=hid ho2;have HB2:=hid hb2;have HB3:=hid (show Below w2.heap.size w2 (w2.alloc (.cells #[.string s.lin,.int .i64 s.ser,.slice ri2 s.ins.length ci2,.slice rp2 s.pen.length cp2,.slice ro2 s.out.length co2] 26)) from (Below.refl _ _).alloc (Nat.le_refl _) _);have HBO:=hid (MapKept.heap_alloc w2 (.cells #[.string s.lin,.int .i64 s.ser,.slice ri2 s.ins.length ci2,.slice rp2 s.pen.length cp2,.slice ro2 s.out.length co2] 26)).1;have HIL:=hid (ho2.insl);have HZ3:=hid (show (w2.alloc (.cells #[.string s.lin,.int .i64 s.ser,.slice ri2 s.ins.length ci2,.slice rp2 s.pen.length cp2,.slice ro2 s.out.length co2] 26)).heap.size=w2.heap.size+1 by simp);have u20:=cellv HBO.out 2 rfl;have HSI:=hid (ho2.stap.1);have HSE:=hid (fun (W:World) (hW:Below w2.heap.size w2 W)=>search_any ri2 ci2 s.ins (a,d) W (HSI.out.below inR_mono hW) HAS.out HFI.out);rw [HL.out,HFF.out] at HSE;dsimp only at HSE;clear ho2 hb2 HSI)
    | (go_at_call 48
       refine (HSE.out _ HB3.out).mono ?_;rintro e w6 ⟨rfl,hb6⟩;have HB6:=hid hb6;clear hb6;have HBO6:=hid ((HB6.out.block w2.heap.size (by have:=HZ3.out;omega)).trans HBO.out);have HRS6:=hid ((HB6.out.block (w.heap.size+1) (by have:=HZ3.out;have:=HB2.out.size;have:=HZ0.out;omega)).trans ((HB3.out.block _ (by have:=HB2.out.size;have:=HZ0.out;omega)).trans ((HB2.out.block _ (by have:=HZ0.out;omega)).trans HC2.out)));have HB26:=hid (HB3.out.trans (HB6.out.mono HB3.out.size));have u2:=cellv HBO6.out 2 rfl;have y0:=cellv HRS6.out 0 rfl;have y1:=cellv HRS6.out 1 rfl;have y2:=cellv HRS6.out 2 rfl;have y3:=cellv HRS6.out 3 rfl;have y4:=cellv HRS6.out 4 rfl;have yf0:=frozen_of HRS6.out 0;have yf1:=frozen_of HRS6.out 1;have yf2:=frozen_of HRS6.out 2;have yf3:=frozen_of HRS6.out 3;have yf4:=frozen_of HRS6.out 4;have v0:=cellv HBO6.out 0 rfl;have v1:=cellv HBO6.out 1 rfl;have v3:=cellv HBO6.out 3 rfl;have v4:=cellv HBO6.out 4 rfl))
   have hz3:=HZ3.out;have hz6:=HB6.out.size;have hz26:=HB26.out.size;have hz2:=HB2.out.size;have hz0:=HZ0.out;have hle:=HO2.out.le;have hhi:=HO2.out.hi;obtain ⟨WE,hWE,e1,e2,e3,e4⟩:=cl_store HRS6.out (.string s.lin) (.int .i64 s.ser) (.slice ri2 s.ins.length ci2) (.slice rp2 s.pen.length cp2) (.slice ro2 s.out.length co2);rw [<-hWE];have g0:=cellv e1 0 rfl;have g1:=cellv e1 1 rfl;have g2:=cellv e1 2 rfl;have g3:=cellv e1 3 rfl;have g4:=cellv e1 4 rfl;have hB6:Below w.heap.size w w6:=((HB0.out.trans (HB2.out.mono HB0.out.size)).trans (HB26.out.mono (by have:=HB0.out.size;omega)));have hmm:is.map (·.x)=rmI s.ins (a,d):=HO2.out.insx.trans HRM.out.symm;have hRE:=HO2.out.ins.to inQ_stays (w':=WE) (fun b hb hl=>by rw [e2 b (by omega),HB26.out.block b hl]);have hSO:=hid ((StaO.change HO2.out (fun b hb hB=>by rw [e2 b (by omega),HB26.out.block b (by omega)]) hRE hmm (by omega)).stapW (B0:=w.heap.size) (by omega));have hBE:=hid (e4 _ _ hB6 (by omega));clear hWE e1 e2 e3 e4 hRE hmm hB6;exact bodyPost_ret (v:=.agg (staA { s with ins:=rmI s.ins (a,d) } ⟨ri2,ci2,rp2,cp2,ro2,co2⟩)) (by simp [results,Tryz.results23,go_sem,staA,HRM.out,g0,g1,g2,g3,g4]) rfl ⟨_,rfl,hSO.out,hBE.out⟩
def zeI:Array Value:=#[.string { data:=#[] },.string { data:=#[] },.string { data:=#[] },.string { data:=#[] },.int .i64 0,.int .i64 0,.string { data:=#[] },.slice none 0 0,.slice none 0 0,.int .i64 0,.bool false,.bool false,.slice none 0 0]
def FndR (s:Sta) (q:Plc) (w:World) (e:Ending) (w':World):Prop:=Below w.heap.size w w'/\match fnI s.ins q with
 | none=>e=.returned (.tuple #[.agg zeI,.bool false])
 | some x=>∃ p',e=.returned (.tuple #[.agg (insA x p'),.bool true])/\InsP w' x p'
theorem put13_blk {w:World} {b:Nat} {Z X:Array Value} {T:TypeId} (h:w.heap[b]?=some (.cells Z T)) (hZ:Z.size=13) (hX:Cells13 X):(put13 w b 0 X).heap[b]?=some (.cells X T):=by
 have:=setCells_block X.toList T w b 0 Z h (by rw [Array.length_toList,hX.1,hZ];decide);rw [List.take_zero,List.nil_append,List.drop_of_length_le (by rw [Array.length_toList,Array.length_toList,hX.1,hZ];decide),List.append_nil,Array.toArray_toList] at this;exact this
theorem cellsZ:Cells13 zeI:=⟨rfl,by simp [zeI,Value.oneCell']⟩
set_option maxRecDepth 100000 in
set_option maxHeartbeats 8000000 in
theorem find_sta (s:Sta) (p:Sp) (a d:ByteArray) (w:World) (h:StaP w s p) (hf:StaF s) (ha:AscP s.ins) :
  Calls Tryz.prog 16 #[.agg (staA s p),.string a,.string d] w (FndR s (a,d) w):=by
 obtain ⟨ri,ci,rp,cp,ro,co⟩:=p;have HSE:=hid (fun (W:World) (hW:Below w.heap.size w W)=>search_any ri ci s.ins (a,d) W (h.1.below inR_mono hW) ha hf.i);have HIN:=hid (fun (W:World) (hW:Below w.heap.size w W)=>in_at (h.1.below inR_mono hW));have HAS:=hid ha;have HFX:=hid hf.ix;obtain ⟨L,hL⟩:∃ L,lowP s.ins (a,d)=L:=⟨_,rfl⟩;obtain ⟨F,hF⟩:∃ F,fndP s.ins (a,d)=F:=⟨_,rfl⟩;rw [hL,hF] at HSE;dsimp only at HSE HIN;cases F with
 | false =>
   have hnone:fnI s.ins (a,d)=none:=fnI_none.2 hF;have HQ:=hid (show ∀ w',Below w.heap.size w w'->FndR s (a,d) w (.returned (.tuple #[.agg zeI,.bool false])) w' from fun w' hb=>⟨hb,by rw [hnone]⟩);unfold zeI at HQ;clear hL hF h hf ha hnone HIN;generalize FndR s (a,d) w=Q at *;unfold staA;go_enter Tryz.func16,Tryz.ntmps16;go_upto_region 1 with (fail)
   obtain ⟨W0,hW0,hb0,hz0,hc0,hc2⟩:=two_new' w (.cells #[.string s.lin,.int .i64 s.ser,.slice ri s.ins.length ci,.slice rp s.pen.length cp,.slice ro s.out.length co] 26) (.cells #[.string { data:=#[] },.string { data:=#[] },.string { data:=#[] },.string { data:=#[] },.int .i64 0,.int .i64 0,.string { data:=#[] },.slice none 0 0,.slice none 0 0,.int .i64 0,.bool false,.bool false,.slice none 0 0] 41);rw [<-hW0];have HB0:=hid hb0;have t2:=cellv hc0 2 rfl;have HC2:=hid hc2;have HZ0:=hid hz0;clear hW0 hb0 hz0 hc0 hc2
   go_wp2_with (go_at_call 48
                refine (HSE.out _ HB0.out).mono ?_;rintro e w6 ⟨rfl,hb6⟩;have HB6:=hid hb6;have HC6:=hid ((hb6.block _ (by have:=HZ0.out;omega)).trans HC2.out);have ht6:ThereI w6 (w.heap.size+1) 0:=there_blk HC6.out (by simp);have hst:=stI_run w6 (w.heap.size+1) 0 _ ht6 cellsZ;have hBB:=setCells_below zeI.toList w6 (w.heap.size+1) 0 (HB0.out.trans (hb6.mono HB0.out.size)) (by omega);have HPB:=hid (show (put13 w6 (w.heap.size+1) 0 zeI).heap[w.heap.size+1]?=some (.cells zeI 41) from put13_blk HC6.out rfl cellsZ);have HPL:=hid (show Below w.heap.size w (put13 w6 (w.heap.size+1) 0 zeI) from hBB);generalize put13 w6 (w.heap.size+1) 0 zeI=W8 at *;unfold zeI at hst HPB;clear hb6 hBB ht6)
   have g0:=cellv HPB.out 0 rfl;have g1:=cellv HPB.out 1 rfl;have g2:=cellv HPB.out 2 rfl;have g3:=cellv HPB.out 3 rfl;have g4:=cellv HPB.out 4 rfl;have g5:=cellv HPB.out 5 rfl;have g6:=cellv HPB.out 6 rfl;have g7:=cellv HPB.out 7 rfl;have g8:=cellv HPB.out 8 rfl;have g9:=cellv HPB.out 9 rfl;have g10:=cellv HPB.out 10 rfl;have g11:=cellv HPB.out 11 rfl;have g12:=cellv HPB.out 12 rfl;exact bodyPost_ret (v:=.tuple #[.agg zeI,.bool false]) (by simp [results,Tryz.results16,go_sem,zeI,g0,g1,g2,g3,g4,g5,g6,g7,g8,g9,g10,g11,g12]) rfl (HQ.out _ HPL.out)
 | true =>
   obtain ⟨y,hy⟩:∃ y,fnI s.ins (a,d)=some y:=by
    have:=hF;rw [fndP_eq] at this;exact Option.isSome_iff_exists.1 this
   obtain ⟨hlt,hyy⟩:=lowP_lt ha hy;have HQ:=hid (show ∀ w' p',Below w.heap.size w w'->InsP w' y p'->FndR s (a,d) w (.returned (.tuple #[.agg (insA y p'),.bool true])) w' from fun w' p' hb hi=>⟨hb,by rw [hy];exact ⟨p',rfl,hi⟩⟩);have hlt2:L < s.ins.length:=by rw [<-hL];exact hlt
   have hyL:s.ins[L]'hlt2=y:=by simp only [<-hL];exact hyy
   clear hlt hyy;have hlt:=hlt2;have hL0:(0:Int)<=(L:Int):=by omega
   have hL1:(L:Int) < (s.ins.length:Int):=by omega
   clear hL hF h hf ha hy;generalize FndR s (a,d) w=Q at *;unfold staA;go_enter Tryz.func16,Tryz.ntmps16;go_upto_region 1 with (fail)
   obtain ⟨W0,hW0,hb0,hz0,hc0,hc2⟩:=two_new' w (.cells #[.string s.lin,.int .i64 s.ser,.slice ri s.ins.length ci,.slice rp s.pen.length cp,.slice ro s.out.length co] 26) (.cells #[.string { data:=#[] },.string { data:=#[] },.string { data:=#[] },.string { data:=#[] },.int .i64 0,.int .i64 0,.string { data:=#[] },.slice none 0 0,.slice none 0 0,.int .i64 0,.bool false,.bool false,.slice none 0 0] 41);rw [<-hW0];have HB0:=hid hb0;have t2:=cellv hc0 2 rfl;have HC0:=hid hc0;have HC2:=hid hc2;have HZ0:=hid hz0;obtain ⟨b,off,pt,rfl,hbl,hcell,hP⟩:=HIN.out W0 hb0 L hlt;have hFy:=HFX.out _ (List.getElem_mem hlt);rw [hyL] at hcell hP hFy;have hX:=cellsI y pt;obtain ⟨l1,l2⟩:=liesI_of hX hcell;have HLI:=hid (fun (W:World) (hW:Below W0.heap.size W0 W)=>show LiesI W b (off+L * 13)/\rd13 W b (off+L * 13)=insA y pt from ⟨(l1.below hW).1,(l1.below hW).2.trans l2⟩);have HRC:=hid (fun (W:World) (hW:Below W0.heap.size W0 W)=>record_any y pt W (insP_below hW hP) hFy);clear hW0 hb0 hz0 hc0 hc2 hcell hP l1 l2 hX HIN;generalize hXX:insA y pt=X at *;have HXX:=hid hXX;clear hXX
   go_wp2_with (first
    | (go_at_call 48
       refine (HSE.out _ HB0.out).mono ?_;rintro e w6 ⟨rfl,hb6⟩;have HB6:=hid hb6;obtain ⟨l1,l2⟩:=HLI.out w6 hb6;have t26:=cellv ((hb6.block _ (by have:=HZ0.out;omega)).trans HC0.out) 2 rfl;clear hb6)
    | (go_at_call 50
       refine (HRC.out _ HB6.out).mono ?_;rintro e w7 ⟨p5,rfl,hx5,hb7⟩;have HB7:=hid hb7;have HX5:=hid hx5;have HC7:=hid ((hb7.block _ (by have:=HZ0.out;have:=HB6.out.size;omega)).trans ((HB6.out.block _ (by have:=HZ0.out;omega)).trans HC2.out));have ht7:ThereI w7 (w.heap.size+1) 0:=there_blk HC7.out (by simp);have hcI:=cellsI y p5;have hst:=stI_run w7 (w.heap.size+1) 0 _ ht7 hcI;have hBB:=setCells_below (insA y p5).toList w7 (w.heap.size+1) 0 ((HB0.out.trans (HB6.out.mono HB0.out.size)).trans (hb7.mono (by have:=HB0.out.size;have:=HB6.out.size;omega))) (by omega);have hks:∀ q,q≠w.heap.size+1->(put13 w7 (w.heap.size+1) 0 (insA y p5)).heap[q]?=w7.heap[q]?:=fun q hq=>setCells_other _ _ _ _ hq;have HPB:=hid (show (put13 w7 (w.heap.size+1) 0 (insA y p5)).heap[w.heap.size+1]?=some (.cells (insA y p5) 41) from put13_blk HC7.out rfl hcI);have HPL:=hid (show Below w.heap.size w (put13 w7 (w.heap.size+1) 0 (insA y p5)) from hBB)
       have HPK:=hid (show InsP (put13 w7 (w.heap.size+1) 0 (insA y p5)) y p5 from by
        have hst:Stays (mask (fromB w6.heap.size) w7) (put13 w7 (w.heap.size+1) 0 (insA y p5)):=stays_out fun q hq hl=>hks q (by simp only [fromB,decide_eq_true_eq] at hq;have:=HZ0.out;have:=HB6.out.size;omega);exact inQ_stays _ _ ⟨_,p5⟩ hst hx5)
       clear hb7 hx5 hBB hks hcI ht7;generalize put13 w7 (w.heap.size+1) 0 (insA y p5)=W8 at *;generalize hY5:insA y p5=Y5 at *;have HY5:=hid hY5;clear hY5))
   rw [<-HY5.out] at HPB;have g0:=cellv HPB.out 0 rfl;have g1:=cellv HPB.out 1 rfl;have g2:=cellv HPB.out 2 rfl;have g3:=cellv HPB.out 3 rfl;have g4:=cellv HPB.out 4 rfl;have g5:=cellv HPB.out 5 rfl;have g6:=cellv HPB.out 6 rfl;have g7:=cellv HPB.out 7 rfl;have g8:=cellv HPB.out 8 rfl;have g9:=cellv HPB.out 9 rfl;have g10:=cellv HPB.out 10 rfl;have g11:=cellv HPB.out 11 rfl;have g12:=cellv HPB.out 12 rfl;exact bodyPost_ret (v:=.tuple #[.agg Y5,.bool true]) (by rw [<-HY5.out];simp [results,Tryz.results16,go_sem,insA,g0,g1,g2,g3,g4,g5,g6,g7,g8,g9,g10,g11,g12]) rfl (by rw [<-HY5.out];exact HQ.out _ _ HPL.out HPK.out)
end Go.Proofs.YtomhbcfjhgecbaaGreatDoor
namespace Go.Proofs.YtomhbcfjhgecbaaGreatDoor
open Go.RowKit Go.Sort Go.Lib
open Go.Lib (hid)
attribute [local go_sem] Stp.frUpon
attribute [local go_sem ↓] ldI_eq
attribute [local go_sem] ldI_run
attribute [local go_sem ↓] stI_eq
attribute [local go_sem] stI_run thereI_drew thereI_new put13_drew put13_new liesI_new rd13_new liesI_drew rd13_drew
theorem pnd_at {w:World} {r:Option Addr} {n c:Nat} {xs:List Pnd} (h:Sl PdR 3 w (.slice r n c) xs) (i:Nat) (hi:i < xs.length) :
  ∃ b off,r=some ⟨b,off,none⟩/\b < w.heap.size/\w.cell? ⟨b,off+i * 3,none⟩=some (.string xs[i].ad)/\w.cell? ⟨b,off+i * 3+1,none⟩=some (.string xs[i].ty)/\w.cell? ⟨b,off+i * 3+2,none⟩=some (.string xs[i].tok)/\xs[i].ad.size<=maxLen/\xs[i].ty.size<=maxLen/\xs[i].tok.size<=maxLen:=by
 obtain ⟨r',c',e,h1,h2,he⟩:=h;simp at e;obtain ⟨rfl,rfl,rfl⟩:=e;obtain ⟨b,off,cs,hr,hs,hc,hv,hn⟩:=he i hi;subst hv;have g0:=hc 0 _ rfl;exact ⟨b,off,hr,World.block_lt_of_cell? w _ g0,g0,hc 1 _ rfl,hc 2 _ rfl,hn⟩
set_option maxRecDepth 100000 in
set_option maxHeartbeats 4000000 in
theorem rec1_any (x:Ins) (q:Pt) (a:ByteArray) (bb:Nat) (w:World) (h:w.cell? ⟨bb,0,none⟩=some (.string a)) :
  Calls Tryz.prog 101 #[.agg (insA x q),.pointer (some ⟨bb,0,none⟩)] w fun e w'=>e=.returned (.bool (decide (x.ad=a)))/\Below w.heap.size w w':=by
 have hb:Below w.heap.size w (w.alloc (.cells (insA x q) 41)):=(Below.refl _ _).alloc (Nat.le_refl _) _;have c1:=bget hb h;have HB:=hid hb
 have hE:(x.ad.toList == a.toList)=decide (x.ad=a):=by
  by_cases h:x.ad=a
  . subst h;simp
  . rw [decide_eq_false h];exact str_ne h
 unfold insA at *;clear hb;go_enter Tryz.func101,Tryz.ntmps101;go_wp2_with fail
 go_ret
 exact ⟨by rw [<-hE];rfl,HB.out⟩
set_option maxRecDepth 100000 in
set_option maxHeartbeats 4000000 in
theorem rec2_any (x:Pnd) (a:ByteArray) (bb:Nat) (w:World) (h:w.cell? ⟨bb,0,none⟩=some (.string a)) :
  Calls Tryz.prog 103 #[.agg #[.string x.ad,.string x.ty,.string x.tok],.pointer (some ⟨bb,0,none⟩)] w fun e w'=>e=.returned (.bool (decide (x.ad=a)))/\Below w.heap.size w w':=by
 have hb:Below w.heap.size w (w.alloc (.cells #[.string x.ad,.string x.ty,.string x.tok] 58)):=(Below.refl _ _).alloc (Nat.le_refl _) _;have c1:=bget hb h;have HB:=hid hb
 have hE:(x.ad.toList == a.toList)=decide (x.ad=a):=by
  by_cases h:x.ad=a
  . subst h;simp
  . rw [decide_eq_false h];exact str_ne h
 clear hb;go_enter Tryz.func103,Tryz.ntmps103;go_wp2_with fail
 go_ret
 exact ⟨by rw [<-hE];rfl,HB.out⟩
set_option maxRecDepth 100000 in
set_option maxHeartbeats 4000000 in
theorem index_in (p:Ins->Bool) (g:Nat) (lb:Array Value) (eg:∀ args w,(callFunc g args).run Tryz.prog w=.ok (.enter g args) w) (r:Option Addr) (c:Nat) (xs:List Ins) (w:World)
  (hS:Sl InR 13 w (.slice r xs.length c) xs) (hp:∀ (W:World) (x:Ins) (q:Pt),Below w.heap.size w W->Calls Tryz.prog g (#[.agg (insA x q)] ++ lb) W fun e w'=>e=.returned (.bool (p x))/\Below W.heap.size W w') :
  Calls Tryz.prog 137 #[.slice r xs.length c,.func (.func g) #[] lb] w fun e w'=>(∃ k:Int,e=.returned (.int .i64 k)/\decide (0<=k)=xs.any p)/\Below w.heap.size w w':=by
 obtain ⟨_,hl,hm⟩:=sl_len hS;have HIN:=hid (fun (W:World) (hW:Below w.heap.size w W)=>in_at (hS.below inR_mono hW));have HP:=hid hp;clear hS hp;go_enter Tryz.func137,Tryz.ntmps137;go_wp2
 go_loopg [5,8] xs.length (fun gg _ s8 wr=>∃ kk:Nat,kk<=xs.length/\xs.length - kk<=gg/\s8=.int .i64 kk/\Aside (Below w.heap.size w wr)/\Aside ((xs.take kk).any p=false))
 case atStart=>exact ⟨0,Nat.zero_le _,by omega,rfl,Below.refl _ w,rfl⟩
 case round =>
  obtain ⟨kk,hkk,hg,rfl,BW,A⟩:=hrel
  by_cases hlt:kk < xs.length
  . have hltz:(kk:Int) < (xs.length:Int):=by omega
    obtain ⟨b,off,pt,rfl,hbl,hcell,hP⟩:=HIN.out wr BW.out kk hlt;obtain ⟨l1,l2⟩:=liesI_of (cellsI xs[kk] pt) hcell;have hcall:=HP.out wr (xs[kk]) pt BW.out;clear hcell hP;generalize insA xs[kk] pt=X at *
    have HT:Aside ((xs.take (kk+1)).any p=p (xs[kk])):=by
     show _=_;rw [List.take_succ_eq_append_getElem hlt,List.any_append,A.out];simp
    have HY:Aside (p (xs[kk])=true->xs.any p=true):=fun h=>List.any_eq_true.2 ⟨_,List.getElem_mem hlt,h⟩;generalize xs[kk]=y at *;cases hq:p y with
    | true =>
      rw [hq] at hcall;have HY2:Aside (xs.any p=true):=HY.out hq;clear HY HT hq;go_wp2_with (go_at_fn g;refine hcall.mono ?_;rintro e w' ⟨rfl,hb'⟩)
      go_ret
      exact ⟨⟨kk,rfl,by rw [HY2.out];simp⟩,BW.out.trans (hb'.mono BW.out.size)⟩
    | false =>
      rw [hq] at hcall;have HT2:Aside ((xs.take (kk+1)).any p=false):=HT.out.trans hq;clear HY HT hq;go_wp2_with (go_at_fn g;refine hcall.mono ?_;rintro e w' ⟨rfl,hb'⟩)
      go_roundg (xs.length - (kk+1))
      case measure=>omega
      case rel=>exact ⟨kk+1,by omega,by omega,by go_num,BW.out.trans (hb'.mono BW.out.size),HT2⟩
  . have hltz:¬ (kk:Int) < (xs.length:Int):=by omega
    have hk:kk=xs.length:=by omega
    have HX:Aside (xs.any p=false):=by have:=A.out;rw [hk,List.take_length] at this;exact this
    clear hk A;go_wp2
    go_ret
    exact ⟨⟨-1,rfl,by rw [HX.out];rfl⟩,BW.out⟩
theorem contains_in (p:Ins->Bool) (g:Nat) (lb:Array Value) (eg:∀ args w,(callFunc g args).run Tryz.prog w=.ok (.enter g args) w) (r:Option Addr) (c:Nat) (xs:List Ins) (w:World)
  (hS:Sl InR 13 w (.slice r xs.length c) xs) (hp:∀ (W:World) (x:Ins) (q:Pt),Below w.heap.size w W->Calls Tryz.prog g (#[.agg (insA x q)] ++ lb) W fun e w'=>e=.returned (.bool (p x))/\Below W.heap.size W w') :
  Calls Tryz.prog 100 #[.slice r xs.length c,.func (.func g) #[] lb] w fun e w'=>e=.returned (.bool (xs.any p))/\Below w.heap.size w w':=by
 have hi:=Lib.hid (index_in p g lb eg r c xs w hS hp);clear hS hp;go_enter Tryz.func100,Tryz.ntmps100;go_wp2_with fail
 refine hi.out.mono ?_;rintro e w' ⟨⟨k,rfl,hk⟩,hb⟩;have HK:=Lib.hid hk;clear hk;go_wp2
 go_ret
 exact ⟨by first | exact congrArg (fun b=>Ending.returned (.bool b)) HK.out | (rw [HK.out]),hb⟩
set_option maxRecDepth 100000 in
set_option maxHeartbeats 4000000 in
theorem index_pd (p:Pnd->Bool) (g:Nat) (lb:Array Value) (eg:∀ args w,(callFunc g args).run Tryz.prog w=.ok (.enter g args) w) (r:Option Addr) (c:Nat) (xs:List Pnd) (w:World)
  (hS:Sl PdR 3 w (.slice r xs.length c) xs) (hp:∀ (W:World) (x:Pnd),Below w.heap.size w W->Calls Tryz.prog g (#[.agg #[.string x.ad,.string x.ty,.string x.tok]] ++ lb) W fun e w'=>e=.returned (.bool (p x))/\Below W.heap.size W w') :
  Calls Tryz.prog 138 #[.slice r xs.length c,.func (.func g) #[] lb] w fun e w'=>(∃ k:Int,e=.returned (.int .i64 k)/\decide (0<=k)=xs.any p)/\Below w.heap.size w w':=by
 obtain ⟨_,hl,hm⟩:=sl_len hS;have HIN:=hid (fun (W:World) (hW:Below w.heap.size w W)=>pnd_at (hS.below pdR_mono hW));have HP:=hid hp;clear hS hp;go_enter Tryz.func138,Tryz.ntmps138;go_wp2
 go_loopg [5,8] xs.length (fun gg _ s8 wr=>∃ kk:Nat,kk<=xs.length/\xs.length - kk<=gg/\s8=.int .i64 kk/\Aside (Below w.heap.size w wr)/\Aside ((xs.take kk).any p=false))
 case atStart=>exact ⟨0,Nat.zero_le _,by omega,rfl,Below.refl _ w,rfl⟩
 case round =>
  obtain ⟨kk,hkk,hg,rfl,BW,A⟩:=hrel
  by_cases hlt:kk < xs.length
  . have hltz:(kk:Int) < (xs.length:Int):=by omega
    obtain ⟨b,off,rfl,hbl,g0,g1,g2,_⟩:=HIN.out wr BW.out kk hlt;have hcall:=HP.out wr (xs[kk]) BW.out
    have HT:Aside ((xs.take (kk+1)).any p=p (xs[kk])):=by
     show _=_;rw [List.take_succ_eq_append_getElem hlt,List.any_append,A.out];simp
    have HY:Aside (p (xs[kk])=true->xs.any p=true):=fun h=>List.any_eq_true.2 ⟨_,List.getElem_mem hlt,h⟩;generalize xs[kk]=y at *;cases hq:p y with
    | true =>
      rw [hq] at hcall;have HY2:Aside (xs.any p=true):=HY.out hq;clear HY HT hq;go_wp2_with (go_at_fn g;refine hcall.mono ?_;rintro e w' ⟨rfl,hb'⟩)
      go_ret
      exact ⟨⟨kk,rfl,by rw [HY2.out];simp⟩,BW.out.trans (hb'.mono BW.out.size)⟩
    | false =>
      rw [hq] at hcall;have HT2:Aside ((xs.take (kk+1)).any p=false):=HT.out.trans hq;clear HY HT hq;go_wp2_with (go_at_fn g;refine hcall.mono ?_;rintro e w' ⟨rfl,hb'⟩)
      go_roundg (xs.length - (kk+1))
      case measure=>omega
      case rel=>exact ⟨kk+1,by omega,by omega,by go_num,BW.out.trans (hb'.mono BW.out.size),HT2⟩
  . have hltz:¬ (kk:Int) < (xs.length:Int):=by omega
    have hk:kk=xs.length:=by omega
    have HX:Aside (xs.any p=false):=by have:=A.out;rw [hk,List.take_length] at this;exact this
    clear hk A;go_wp2
    go_ret
    exact ⟨⟨-1,rfl,by rw [HX.out];rfl⟩,BW.out⟩
theorem contains_pd (p:Pnd->Bool) (g:Nat) (lb:Array Value) (eg:∀ args w,(callFunc g args).run Tryz.prog w=.ok (.enter g args) w) (r:Option Addr) (c:Nat) (xs:List Pnd) (w:World)
  (hS:Sl PdR 3 w (.slice r xs.length c) xs) (hp:∀ (W:World) (x:Pnd),Below w.heap.size w W->Calls Tryz.prog g (#[.agg #[.string x.ad,.string x.ty,.string x.tok]] ++ lb) W fun e w'=>e=.returned (.bool (p x))/\Below W.heap.size W w') :
  Calls Tryz.prog 102 #[.slice r xs.length c,.func (.func g) #[] lb] w fun e w'=>e=.returned (.bool (xs.any p))/\Below w.heap.size w w':=by
 have hi:=Lib.hid (index_pd p g lb eg r c xs w hS hp);clear hS hp;go_enter Tryz.func102,Tryz.ntmps102;go_wp2_with fail
 refine hi.out.mono ?_;rintro e w' ⟨⟨k,rfl,hk⟩,hb⟩;have HK:=Lib.hid hk;clear hk;go_wp2
 go_ret
 exact ⟨by first | exact congrArg (fun b=>Ending.returned (.bool b)) HK.out | (rw [HK.out]),hb⟩
set_option maxRecDepth 100000 in
set_option maxHeartbeats 8000000 in
theorem recorded_any (s:Sta) (p:Sp) (a:ByteArray) (w:World) (h:StaP w s p) :
  Calls Tryz.prog 53 #[.agg (staA s p),.string a] w fun e w'=>e=.returned (.bool (recB s a))/\Below w.heap.size w w':=by
 obtain ⟨ri,ci,rp,cp,ro,co⟩:=p;have HI:=hid (fun (W:World) (hW:Below w.heap.size w W)=>(h.1.below inR_mono hW));have HP:=hid (fun (W:World) (hW:Below w.heap.size w W)=>(h.2.1.below pdR_mono hW));obtain ⟨i1,hi1⟩:∃ b,s.ins.any (fun x=>decide (x.ad=a))=b:=⟨_,rfl⟩;obtain ⟨i2,hi2⟩:∃ b,s.pen.any (fun x=>decide (x.ad=a))=b:=⟨_,rfl⟩;have hR:recB s a=(i1 || i2):=by unfold recB;rw [hi1,hi2]
 have HC1:=hid (fun (bb:Nat) (W:World) (hW:Below w.heap.size w W) (hc:W.cell? ⟨bb,0,none⟩=some (.string a))=>contains_in (fun x=>decide (x.ad=a)) 101 #[.pointer (some ⟨bb,0,none⟩)] (by first | (intro args w;rfl) | (intro args w;kernel_rfl)) ri ci s.ins W (HI.out W hW) (fun W2 x q hb=>rec1_any x q a bb W2 (bget hb hc)));have HC2:=hid (fun (bb:Nat) (W:World) (hW:Below w.heap.size w W) (hc:W.cell? ⟨bb,0,none⟩=some (.string a))=>contains_pd (fun x=>decide (x.ad=a)) 103 #[.pointer (some ⟨bb,0,none⟩)] (by first | (intro args w;rfl) | (intro args w;kernel_rfl)) rp cp s.pen W (HP.out W hW) (fun W2 x hb=>rec2_any x a bb W2 (bget hb hc)));rw [hi1] at HC1;rw [hi2] at HC2;rw [hR];clear h hi1 hi2 hR HI HP;unfold staA;dsimp only;obtain ⟨W0,hW0,hb0,hz0,hc0,hc2⟩:=two_new' w (.cells #[.string s.lin,.int .i64 s.ser,.slice ri s.ins.length ci,.slice rp s.pen.length cp,.slice ro s.out.length co] 26) (.cells #[.string a] 9);have HW0:=hid hW0;have HB0:=hid hb0;have t2:=cellv hc0 2 rfl;have t3:=cellv hc0 3 rfl;have HCA:=hid (cellv hc2 0 rfl);clear hb0 hz0 hc0 hc2 hW0;cases i1 with
 | true =>
   go_enter Tryz.func53,Tryz.ntmps53;go_upto_region 1 with (fail)
   rw [<-HW0.out];go_wp2_with (go_at_call 100;refine (HC1.out _ _ HB0.out HCA.out).mono ?_;rintro e w1 ⟨rfl,hb1⟩;have HB1:=hid (HB0.out.trans (hb1.mono HB0.out.size));clear hb1)
   go_ret
   exact ⟨rfl,HB1.out⟩
 | false =>
   go_enter Tryz.func53,Tryz.ntmps53;go_upto_region 1 with (fail)
   rw [<-HW0.out]
   go_wp2_with (first
    | (go_at_call 100;refine (HC1.out _ _ HB0.out HCA.out).mono ?_;rintro e w1 ⟨rfl,hb1⟩;have HB1:=hid (HB0.out.trans (hb1.mono HB0.out.size));have HC0:=hid (bget hb1 HCA.out);have t33:=bget hb1 t3;clear hb1)
    | (go_at_call 102;refine (HC2.out _ _ HB1.out HC0.out).mono ?_;rintro e w2 ⟨rfl,hb2⟩;have HB2:=hid (HB1.out.trans (hb2.mono HB1.out.size));clear hb2))
   go_ret
   exact ⟨rfl,HB2.out⟩
end Go.Proofs.YtomhbcfjhgecbaaGreatDoor
namespace Go.Proofs.YtomhbcfjhgecbaaGreatDoor
open Go.RowKit Go.Sort Go.Lib
open Go.Lib (hid)
attribute [local go_sem] Stp.frUpon
attribute [local go_sem ↓] ldI_eq
attribute [local go_sem] ldI_run
attribute [local go_sem ↓] stI_eq
attribute [local go_sem] stI_run thereI_drew thereI_new put13_drew put13_new liesI_new rd13_new liesI_drew rd13_drew
set_option maxRecDepth 100000 in
set_option maxHeartbeats 8000000 in
theorem adrs_sta (s:Sta) (p:Sp) (w:World) (h:StaP w s p) (hn:s.ins.length<=1000000) :
  Calls Tryz.prog 24 #[.agg (staA s p)] w fun e w'=>∃ v,e=.returned v/\OwnS w.heap.size w' v (adsI s.ins)/\Below w.heap.size w w':=by
 obtain ⟨ri,ci,rp,cp,ro,co⟩:=p;have HIN:=hid (fun (W:World) (hW:Below w.heap.size w W)=>in_at (h.1.below inR_mono hW));obtain ⟨_,hic,him⟩:=sl_len h.1;dsimp only at HIN;obtain ⟨W0,hW0⟩:∃ W0,W0=w.alloc (.cells #[.string s.lin,.int .i64 s.ser,.slice ri s.ins.length ci,.slice rp s.pen.length cp,.slice ro s.out.length co] 26):=⟨_,rfl⟩;have HW0:=hid hW0;have HB0:=hid (show Below w.heap.size w W0 from hW0 ▸ (Below.refl _ _).alloc (Nat.le_refl _) _);have HC0:=hid (show W0.heap[w.heap.size]?=some (.cells #[.string s.lin,.int .i64 s.ser,.slice ri s.ins.length ci,.slice rp s.pen.length cp,.slice ro s.out.length co] 26) from hW0 ▸ (MapKept.heap_alloc w _).1);have HZ0:=hid (show W0.heap.size=w.heap.size+1 by rw [hW0];simp);have t2:W0.cell? ⟨w.heap.size,2,none⟩=some (.slice ri s.ins.length ci):=cellv HC0.out 2 rfl;clear h hW0;unfold staA;go_enter Tryz.func24,Tryz.ntmps24;go_upto_region 2 with (fail)
 rw [<-HW0.out];go_wp2_with fail
 go_loopg [3,9] s.ins.length (fun gg s3 s9 wr=>∃ k:Nat,k<=s.ins.length/\s.ins.length - k<=gg/\s9=.int .i64 k/\Hid (Below w.heap.size w wr)/\Hid (OwnS W0.heap.size wr s3 (adsI (s.ins.take k))))
 case atStart=>exact ⟨0,by omega,by omega,rfl,HB0,hid (by rw [List.take_zero];exact ownS_nil _ _)⟩
 case round =>
  obtain ⟨k,hk,hgg,rfl,HB,HO⟩:=hrel;obtain ⟨r,c,hv3,hl3,hm3⟩:=HO.out.form;subst hv3
  by_cases hlt:k < s.ins.length
  . have hkz:(k:Int) < (s.ins.length:Int):=by omega
    have hk0:(0:Int)<=(k:Int):=by omega
    have HT:=hid (adsI_take hlt);have HLE:=hid (show (adsI (s.ins.take k)).length+1<=2000000 by have:=adsI_len (s.ins.take k);rw [List.length_take] at this;omega);obtain ⟨b,off,pt,rfl,hbl,hcell,hP⟩:=HIN.out wr HB.out k hlt;have hX:=cellsI s.ins[k] pt;have hXX:=hid (show (insA s.ins[k] pt)[0]?=some (.string s.ins[k].ad) from rfl);obtain ⟨l1,l2⟩:=liesI_of hX hcell;have HSZ:=hid hP.2.2.2.1;have hba:Below wr.heap.size wr (wr.alloc (.cells (insA s.ins[k] pt) 41)):=(Below.refl _ _).alloc (Nat.le_refl _) _;have hla:=(MapKept.heap_alloc wr (.cells (insA s.ins[k] pt) 41)).1;have HBA:=hid (HB.out.alloc HB.out.size (.cells (insA s.ins[k] pt) 41));have HOA:=hid (HO.out.below hba);have HZA:=hid (show (wr.alloc (.cells (insA s.ins[k] pt) 41)).heap.size=wr.heap.size+1 by simp);have q0:=cellv hla 0 hXX.out;have HLT:=hid (HO.out.lt);clear hcell hP hla;generalize hIA:insA s.ins[k] pt=X at *;clear hIA;generalize s.ins[k]=y at *;generalize hAL:adsI (s.ins.take k)=A at *;have HOS:=hid (show W0.heap.size<=wr.heap.size+1 by have:=HB.out.size;have:=HZ0.out;omega);clear hAL;rcases List.eq_nil_or_concat A with rfl | ⟨A',z,rfl⟩
    . have HN:=hid (show adStep [] y=[] ++ [y.ad] from rfl)
      rw [HN.out] at HT;simp only [List.length_nil] at HOA;go_upto_region 5 with (fail)
      simp only [List.length_nil];go_quiet (fail)
      have HBD:=hid (bel_drewN HBA.out nq);have HOD:=hid (HOA.out.below (bel_drewN (Below.refl _ _) nq));have HZD:=hid (show ((wr.alloc (.cells X 41)).drewN nq).heap.size=wr.heap.size+1 from HZA.out);have qd:((wr.alloc (.cells X 41)).drewN nq).cell? ⟨wr.heap.size,0,none⟩=some (.string y.ad):=q0;generalize (wr.alloc (.cells X 41)).drewN nq=WD at *;have HO1:=hid (HOD.out.below ((Below.refl _ _).alloc (Nat.le_refl _) (.cells #[.string y.ad] 9)));have HB1:=hid (HBD.out.alloc HBD.out.size (.cells #[.string y.ad] 9));have HL1:=hid (HOD.out.lt);clear q0 l1 l2 hba;go_wp2_with (at_builtin;go_loud (refine app_str rfl _ _ rfl W0.heap.size _ [] rfl HO1.out WD.heap.size 1 y.ad rfl (fr:=(0,0)) (by exact (MapKept.heap_alloc WD _).1) HSZ.out HLE.out (by have:=HOS.out;have:=HZD.out;simp;omega) (WD.heap.size+1) (by simp) ?_);intro g cap w3 hmm3)
      have hb3:=Below.grown HB1.out hmm3.2.1 HB1.out.size (fun g hg=>by have:=HL1.out g hg;have:=HZ0.out;omega);have HB3:=hid hb3;have HO3:=hid hmm3.1;clear hmm3 hb3;go_wp2_with fail
      go_roundg (s.ins.length - (k+1))
      case measure=>omega
      case rel=>exact ⟨k+1,by omega,by omega,by go_num,HB3,hid (by rw [HT.out];simpa using HO3.out)⟩
    . have hlen:(A'.concat z).length=A'.length+1:=by simp
      rw [hlen] at HOA;obtain ⟨b3,o3,hr3,hb3l,hg3,_⟩:=str_at HOA.out.sl A'.length (by simp);subst hr3;rw [show (A'.concat z)[A'.length]'(by simp)=z by simp] at hg3;have e0:(((A'.length:Int)+1) == 0)=false:=by simp;omega
      have i0:(0:Int)<=(A'.length:Int):=by omega
      have i1:(A'.length:Int) < (A'.length:Int)+1:=by omega
      have hw0:wrap64 (A'.length:Int)=(A'.length:Int):=by have:=HLE.out;rw [hlen] at this;unfold wrap64;omega
      by_cases hz:z=y.ad
      . subst hz
        have HN:=hid (show adStep (A'.concat y.ad) y=A'.concat y.ad from by unfold adStep;rw [if_pos (by rw [List.concat_eq_append];simp)]);rw [HN.out] at HT;go_upto_region 5 with (fail)
        rw [hlen];go_quiet (fail)
        go_wp2_with fail
        go_roundg (s.ins.length - (k+1))
        case measure=>omega
        case rel=>exact ⟨k+1,by omega,by omega,by go_num,hid (bel_drewN HBA.out nq),hid (by rw [HT.out];exact HOA.out.below (bel_drewN (Below.refl _ _) nq))⟩
      . have hne:=str_ne' hz
        have hne2:=str_ne hz;have HN:=hid (show adStep (A'.concat z) y=A'.concat z ++ [y.ad] from by unfold adStep;rw [if_neg (by rw [List.concat_eq_append];simpa using hz)]);rw [HN.out] at HT;clear hz;go_upto_region 5 with (fail)
        rw [hlen];go_quiet (fail)
        have HBD:=hid (bel_drewN HBA.out nq);have HOD:=hid (HOA.out.below (bel_drewN (Below.refl _ _) nq));have HZD:=hid (show ((wr.alloc (.cells X 41)).drewN nq).heap.size=wr.heap.size+1 from HZA.out);have qd:((wr.alloc (.cells X 41)).drewN nq).cell? ⟨wr.heap.size,0,none⟩=some (.string y.ad):=q0;generalize (wr.alloc (.cells X 41)).drewN nq=WD at *;have HO1:=hid (HOD.out.below ((Below.refl _ _).alloc (Nat.le_refl _) (.cells #[.string y.ad] 9)));have HB1:=hid (HBD.out.alloc HBD.out.size (.cells #[.string y.ad] 9));have HL1:=hid (HOD.out.lt);clear q0 l1 l2 hba;go_wp2_with (at_builtin;go_loud (refine app_str rfl _ _ rfl W0.heap.size _ (A'.concat z) rfl HO1.out WD.heap.size 1 y.ad rfl (fr:=(0,0)) (by exact (MapKept.heap_alloc WD _).1) HSZ.out HLE.out (by have:=HOS.out;have:=HZD.out;simp;omega) (WD.heap.size+1) (by simp) ?_);intro g cap w3 hmm3)
        have hb3:=Below.grown HB1.out hmm3.2.1 HB1.out.size (fun g hg=>by have:=HL1.out g hg;have:=HZ0.out;omega);have HB3:=hid hb3;have HO3:=hid hmm3.1;clear hmm3 hb3;go_wp2_with fail
        go_roundg (s.ins.length - (k+1))
        case measure=>omega
        case rel=>exact ⟨k+1,by omega,by omega,by go_num,HB3,hid (by rw [HT.out];simpa using HO3.out)⟩
  . obtain rfl:k=s.ins.length:=by omega
    have hO2:=HO.out;rw [List.take_length] at hO2;have HOF:=hid (show OwnS w.heap.size wr (.slice r (adsI (s.ins.take s.ins.length)).length c) (adsI s.ins) from ⟨by rw [List.take_length];exact own_base hO2.1 (by have:=HZ0.out;omega),hO2.2⟩);clear hO2;go_wp2
    go_ret
    exact ⟨_,rfl,HOF.out,HB.out⟩
end Go.Proofs.YtomhbcfjhgecbaaGreatDoor
