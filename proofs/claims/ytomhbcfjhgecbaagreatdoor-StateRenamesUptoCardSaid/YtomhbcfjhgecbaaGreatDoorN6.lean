import Derived.Test.YtomhbcfjhgecbaaGreatDoorN4
import Derived.Shelf.Spec.SlicesInsert
import Derived.Lib.AppendZerosOnto
import Derived.Laws.OwnMore
import Derived.Deep.RegionLaw
import Derived.Shelf.SlicesE.Delete
import Derived.Test.YtomhbcfjhgecbaaGreatDoorN1
import Derived.Test.YtomhbcfjhgecbaaGreatDoorN3
import Derived.Lib.ItoaNum
import Derived.Shelf.GgClosure.Gives
import Derived.Shelf.SlicesQ.Load
set_option linter.unusedVariables false
set_option linter.unusedSimpArgs false
namespace Go.Proofs.YtomhbcfjhgecbaaGreatDoor
open Go.RowKit Go.Sort Go.Lib
open Go.Lib (hid)
theorem oQ {P:Program} (k:Nat) (w:World) (dT sT ty elem:TypeId) (b o dLen dCap:Nat) (a:Addr) (sLen sCap m:Nat) (cs:List Value)
  (hu:P.underlying dT=some (.slice elem)) (hs:(P.info? elem).map (·.size)=some k) (hm:Nat.min sLen dLen=m) (hn:cs.length=m * k)
  (hsrc:∀ j v,cs[j]?=some v->w.cell? (a.add j)=some v) (hc:∀ j,j < cs.length->(w.cell? ⟨b,o+j,none⟩).isSome=true) (hf:∀ j,j < cs.length->w.frozen? ⟨b,o+j,none⟩=false) (h1:∀ v∈cs,v.oneCell'=true) :
  (Builtin.copy_ #[dT,sT] ty #[.slice (some ⟨b,o,none⟩) dLen dCap,.slice (some a) sLen sCap]).run P w=.ok (goInt m) (w.setCells b o cs):=by
 have f:=run_loadCells_list (P:=P) w a cs hsrc;have d:=run_storeCells_cells (P:=P) b o cs 0 w (by simpa using hc) (by simpa using hf) h1;cases c:P.info? elem with
 | none=>simp [c] at hs
 | some i =>
   have g:i.size=k:=by simpa [c] using hs
   rw [hn] at f;simp [Builtin.copy_,run_underlying hu,Builtin.lenOf,Builtin.firstCells,sizeOf,typeInfo,c,g,hm,f,d]
def nU (X:List Value) (o:Nat) (vs:List Value):List Value:=X.take o ++ vs ++ X.drop (o+vs.length)
theorem mO {X vs:List Value} {o:Nat} (h:o+vs.length<=X.length):(nU X o vs).length=X.length:=by
 unfold nU;simp;omega
theorem vO {w:World} {g o:Nat} {v:Value} {cur:Array Value} {e:TypeId} {fr:Nat × Nat} (h:w.heap[g]?=some (.cells cur e fr)):(w.setCell ⟨g,o,none⟩ v).heap[g]?=some (.cells (cur.setIfInBounds o v) e fr):=by
 simp only [World.setCell,Array.getElem?_modify,h];simp
theorem Nz (X:List Value) (o:Nat) (v:Value) (vs:List Value) (h:o < X.length):nU (X.set o v) (o+1) vs=nU X o (v :: vs):=by
 unfold nU
 have b:(X.set o v).take (o+1)=X.take o ++ [v]:=by
  rw [List.take_succ_eq_append_getElem (by simpa using h),List.take_set_of_le (Nat.le_refl _)];simp
 have c:(X.set o v).drop (o+1+vs.length)=X.drop (o+1+vs.length):=by rw [List.drop_set_of_lt (by omega)]
 rw [b,c,List.length_cons];have a:o+1+vs.length=o+(vs.length+1):=by omega
 rw [a];simp
theorem dO (g:Nat) {e:TypeId} {fr:Nat × Nat} : ∀ (vs:List Value) (o:Nat) (w:World) (cur:Array Value),w.heap[g]?=some (.cells cur e fr)->o+vs.length<=cur.size->(w.setCells g o vs).heap[g]?=some (.cells (nU cur.toList o vs).toArray e fr)
 | [],o,w,cur,h,_=>by
   rw [World.setCells,h];simp [nU]
 | v :: vs,o,w,cur,h,hl=>by
   rw [World.setCells];simp only [List.length_cons] at hl;rw [dO g vs (o+1) _ (cur.setIfInBounds o v) (vO h) (by simp;omega)];rw [Array.toList_setIfInBounds,Nz _ _ _ _ (by simpa using (show o < cur.size by omega))]
theorem dP (g:Nat) {b:Nat} : ∀ (vs:List Value) (o:Nat) (w:World),b≠g->(w.setCells g o vs).heap[b]?=w.heap[b]?
 | [],_,_,_=>rfl
 | v :: vs,o,w,h=>by rw [World.setCells,dP g vs (o+1) _ h,Below.heap_setCell _ _ _ _ h]
theorem fH (g:Nat):∀ (vs:List Value) (o:Nat) (w:World),(w.setCells g o vs).heap.size=w.heap.size
 | [],_,_=>rfl
 | v :: vs,o,w=>by rw [World.setCells,fH g vs (o+1) _];simp [World.setCell]
theorem gu (g:Nat):∀ (vs:List Value) (o:Nat) (w:World),(w.setCells g o vs).os=w.os/\(w.setCells g o vs).tape=w.tape/\(w.setCells g o vs).output=w.output
 | [],_,_=>⟨rfl,rfl,rfl⟩
 | v :: vs,o,w=>by rw [World.setCells];exact gu g vs (o+1) _
theorem vY (A M R Y:List Value) (h:M.length=Y.length):nU (A ++ (M ++ R)) A.length Y=A ++ (Y ++ R):=by
 unfold nU;rw [List.take_left',List.drop_append,List.append_assoc]
 . simp only [<-h,Nat.add_sub_cancel_left]
   rw [List.drop_eq_nil_of_le (by omega),List.nil_append,List.drop_left'];rfl
 . rfl
theorem MP (X:List Value) (p s d:Nat) (h:p+s+d<=X.length):∃ A M1 M2 R,X=A ++ (M1 ++ (M2 ++ R))/\A.length=p/\M1.length=s/\M2.length=d/\A=X.take p:=
 ⟨X.take p,(X.drop p).take s,((X.drop p).drop s).take d,((X.drop p).drop s).drop d,by rw [List.take_append_drop,List.take_append_drop,List.take_append_drop],by simp;omega,by simp;omega,by simp;omega,rfl⟩
theorem Q4 (X Y D:List Value) (p s d:Nat) (h:p+s+d<=X.length) (hY:Y.length=s) (hD:D.length=d):∃ R,nU (nU X p Y) (p+s) D=X.take p ++ Y ++ D ++ R:=by
 obtain ⟨A,f,a,R,rfl,g,j,i,c⟩:=MP X p s d h;refine ⟨R,?_⟩;rw [<-c,<-g,vY A f (a ++ R) Y (by omega)];have e:A ++ (Y ++ (a ++ R))=(A ++ Y) ++ (a ++ R):=by simp
 have b:A.length+s=(A ++ Y).length:=by simp;omega
 rw [e,b,vY (A ++ Y) a R D (by omega)];simp
theorem RV (X Y D:List Value) (p s d:Nat) (h:p+s+d<=X.length) (hY:Y.length=s) (hD:D.length=d):∃ R,nU (nU X (p+s) D) p Y=X.take p ++ Y ++ D ++ R:=by
 obtain ⟨A,a,b,R,rfl,i,k,j,f⟩:=MP X p s d h;refine ⟨R,?_⟩;rw [<-f];have e:A ++ (a ++ (b ++ R))=(A ++ a) ++ (b ++ R):=by simp
 have c:p+s=(A ++ a).length:=by simp;omega
 rw [e,c,vY (A ++ a) b R D (by omega)];have g:(A ++ a) ++ (D ++ R)=A ++ (a ++ (D ++ R)):=by simp
 rw [g,<-i,vY A a (D ++ R) Y (by omega)];simp
theorem EP {α:Type} (enc:α->List Value) {sz:Nat} (hsz:∀ x,(enc x).length=sz) (ys:List α) (y:α) (i:Nat) (hi:i<=ys.length):(ys.insertIdx i y).flatMap enc=(ys.flatMap enc).take (i * sz) ++ enc y ++ (ys.flatMap enc).drop (i * sz):=by
 have e:ys.insertIdx i y=ys.take i ++ y :: ys.drop i:=by
  induction ys generalizing i with
  | nil =>
    have c:i=0:=by simpa using hi
    subst c;rfl
  | cons a l ih =>
    cases i with
    | zero=>rfl
    | succ i=>simp [ih i (by simpa using hi)]
 have b:((ys.take i).flatMap enc).length=i * sz:=by rw [iH enc sz hsz];simp [Nat.min_eq_left hi]
 have d:ys.flatMap enc=(ys.take i).flatMap enc ++ (ys.drop i).flatMap enc:=by rw [<-List.flatMap_append,List.take_append_drop]
 rw [e,d,List.flatMap_append,List.flatMap_cons,<-b,List.take_left',List.drop_left']
 . simp
 . rfl
 . rfl
def PN {α:Type} (enc:α->List Value) (E:TypeId) (sz B:Nat) (ys:List α) (y:α) (i:Nat) (v:Value) (w:World) (e:Ending) (w':World):Prop:=
 ∃ g cap,e=.returned (.slice (some ⟨g,0,none⟩) (ys.length+1) cap)/\w'.ownsRow B E sz (.slice (some ⟨g,0,none⟩) (ys.length+1) cap) (ys.insertIdx i y).length ((ys.insertIdx i y).flatMap enc)/\w.grownBy w' v.ownBlock/\(v.ownBlock=some g ∨ g=w.heap.size)
theorem xJ {α:Type} (ys:List α) (y:α) (i:Nat) (hi:i<=ys.length):(ys.insertIdx i y).length=ys.length+1:=by rw [List.length_insertIdx];simp [hi]
theorem FY {α:Type} (ys:List α) (y:α):ys.insertIdx ys.length y=ys ++ [y]:=by
 induction ys with
 | nil=>rfl
 | cons a l ih=>simp [ih]
theorem iU (g:Nat):∀ (vs:List Value) (o:Nat) (W W':World),W.heap=W'.heap->(W.setCells g o vs).heap=(W'.setCells g o vs).heap
 | [],_,_,_,h=>h
 | v :: vs,o,W,W',h=>by
   rw [World.setCells,World.setCells];exact iU g vs (o+1) _ _ (by simp [World.setCell,h])
theorem Fa {w:World} {b:Nat} {C:Array Value} {E:TypeId} {fr:Nat × Nat} (h:w.heap[b]?=some (.cells C E fr)):w.shape? b=some (E,C.size):=by unfold World.shape?;rw [h]
theorem cell_of {w:World} {b:Nat} {C:Array Value} {E:TypeId} {fr:Nat × Nat} (h:w.heap[b]?=some (.cells C E fr)) (o:Nat):w.cell? ⟨b,o,none⟩=C[o]?:=by unfold World.cell?;simp [h]
theorem Hq {w:World} {g n cap sz B:Nat} {E:TypeId} {X xs:List Value} (h:w.heap[g]?=some (.cells X.toArray E (0,0))) (hB:B<=g) (hn:n<=cap) (hc:cap<=maxLen) (hX:X.length=cap * sz) (hl:xs.length=n * sz) (ht:X.take (n * sz)=xs):w.ownsRow B E sz (.slice (some ⟨g,0,none⟩) n cap) n xs:=
 ⟨hl,Or.inr ⟨g,cap,X.toArray,rfl,hB,h,hn,hc,by simpa using hX,by simpa using ht⟩⟩
set_option maxHeartbeats 4000000 in
set_option maxRecDepth 100000 in
theorem Td (B:Nat) (ys:List jW) (y:jW) (i:Nat) (v:Value) (vb:Nat) (w:World) (hi:i<=ys.length) (hown:w.ownsRow B 41 13 v ys.length (ys.flatMap ja)) (hy:w.heap[vb]?=some (.cells (ja y).toArray 41 (0,0))) (hvb:v.ownBlock≠some vb) (hn:ys.length+1<=1000000) (hB:B<=w.heap.size) :
  Calls Tryz.prog 64 #[v,.int .i64 (i:Nat),.slice (some ⟨vb,0,none⟩) 1 1] w (PN ja 41 13 B ys y i v w):=by
 by_cases br:i=ys.length
 . subst br
   have HO:=hid hown;obtain ⟨r,c,rfl,bw,am⟩:=dJ hown;unfold maxLen at am;have a6:w.heap[vb]?=some (.cells (([y]:List jW).flatMap ja).toArray 41 (0,0)):=by simpa using hy
   have HY:=hid a6;have HN:=hid hn;obtain ⟨ob,ba⟩:∃ ob,∀ n k,(Value.slice r n k).ownBlock=ob:=⟨(Value.slice r 0 0).ownBlock,fun n k=>by cases r <;> rfl⟩;have Y:=hid ba;clear hown hy a6 hvb hi ba;go_enter Tryz.func64,Tryz.ntmps64;go_wp2_with (at_builtin;refine je ja iE qh Tryz.underlying22 xA rfl (by omega) (by omega) rfl (.tmp 23) (.tmp 24) rfl B _ ys rfl HO.out vb 1 1 [y] rfl (by omega) rfl HY.out (by have:=HN.out;omega) hB ?_;intro g a w' ho hg aR a3)
   all_goals
    have bk:=hid ho;have bt:=hid (show w.grownBy w' ob from by rw [<-Y.out ys.length c];exact hg);have bh:=hid (show ob=some g ∨ g=w.heap.size from by rw [<-Y.out ys.length c];exact aR);clear ho hg aR a3;go_wp2
    go_ret
    exact ⟨g,a,rfl,by rw [FY];exact bk.out,by rw [Y.out];exact bt.out,by rw [Y.out];exact bh.out⟩
 have a3:i < ys.length:=by omega
 have HP:=hid (show ∀ g a w',w'.ownsRow B 41 13 (.slice (some ⟨g,0,none⟩) (ys.length+1) a) (ys.insertIdx i y).length ((ys.insertIdx i y).flatMap ja)->w.grownBy w' v.ownBlock->(v.ownBlock=some g ∨ g=w.heap.size)->PN ja 41 13 B ys y i v w (.returned (.slice (some ⟨g,0,none⟩) (ys.length+1) a)) w' from fun g a w' h1 h2 h3=>⟨g,a,rfl,h1,h2,h3⟩);rw [EP ja iE ys y i hi,xJ ys y i hi] at HP;obtain ⟨aa,hr⟩:=hown
 have S:∀ u∈ys.flatMap ja,u.oneCell'=true:=fun u hu=>by
  obtain ⟨x,_,hx⟩:=List.mem_flatMap.1 hu;exact qh x u hx
 have t:=iE y;have Z:=qh y;generalize bq:ys.flatMap ja=d at *;clear bq;generalize ja y=l at *;generalize ys.length=n at *;rcases hr with ⟨_,h0⟩ | ⟨g0,a,cur,rfl,hg0,hh,bw,am,hcs,htk⟩
 . omega
 have bb:g0≠vb:=fun e=>hvb (by simp [Value.ownBlock,e]);have bs:g0 < w.heap.size:=fB hh;have bl:vb < w.heap.size:=fB hy;unfold maxLen at am
 have H:∀ (j:Nat) (u:Value),d[j]?=some u->w.cell? ⟨g0,j,none⟩=some u:=fun j u q=>by
  have bv:j < n * 13:=by have:=(List.getElem?_eq_some_iff.1 q).1;omega
  rw [cell_of hh,<-q,<-htk,List.getElem?_take,if_pos bv,Array.getElem?_toList]
 have be:∀ (j:Nat) (u:Value),l[j]?=some u->w.cell? ⟨vb,j,none⟩=some u:=fun j u q=>by
  rw [cell_of hy];simpa using q
 have N:(Tryz.prog.info? 41).map (·.size)=some 13:=by
  obtain ⟨i0,h0,_,h1,_⟩:=info_parts xA;rw [h0];simp [h1]
 have m:(d.drop (i * 13)).length=(n - i) * 13:=by rw [List.length_drop,aa];omega
 have C:(d.take (i * 13)).length=i * 13:=by rw [List.length_take,aa];omega
 have ac:∀ u∈d.drop (i * 13),u.oneCell'=true:=fun u hu=>S u (List.mem_of_mem_drop hu);have E:∀ b o j:Nat,(⟨b,o,none⟩:Addr).add j=⟨b,o+j,none⟩:=fun b o j=>by unfold Addr.add;by_cases h:j=0 <;> simp [h]
 have bR:¬ ((i:Int)=(n:Int)):=by omega
 have b2:IntKind.i64.wrap ((i:Int)+1)=(i:Int)+1:=by rw [IntKind.wrap_i64];omega
 have bS:((i:Int)+1).toNat=i+1:=by omega
 have b3:(0:Int)<=(i:Int)+1:=by omega
 have b0:(i:Int)<=(n:Int):=by omega
 by_cases aL:a < n+1
 ·
  obtain ⟨i0,ad,bd,a2,av⟩:=info_parts xA;have bN:(a:Int) < (n:Int)+1:=by omega
  have bc:(n:Int)+1 - (i:Int)=((n+1 - i:Nat):Int):=by omega
  have aD:i+(n+1 - i)=n+1:=by omega
  have al:(Builtin.firstCells i0.size i (.slice (some ⟨g0,0,none⟩) i a)).run Tryz.prog w.drew=.ok (d.take (i * 13)).toArray w.drew:=by
   rw [a2]
   exact run_firstCells_some w.drew 13 i ⟨g0,0,none⟩ i a (d.take (i * 13)) C (fun j u q=>by
    rw [E,Nat.zero_add];rw [List.getElem?_take] at q;split at q
    . exact H j u q
    . cases q)
  have aE:∀ s,(Builtin.append_ #[22,3] s #[.slice (some ⟨g0,0,none⟩) i a,.int .i64 ((n:Int)+1 - (i:Int))]).run Tryz.prog w =
    .ok (.slice (some ⟨w.heap.size,0,none⟩) (n+1) (grownCap w (n+1) a 41)) (w.drew.alloc (.cells ((d.take (i * 13)).toArray ++ Builtin.zeroCells (.agg #[.string ByteArray.empty,.string ByteArray.empty,.string ByteArray.empty,.string ByteArray.empty,.int .i64 0,.int .i64 0,.string ByteArray.empty,.slice none 0 0,.slice none 0 0,.int .i64 0,.bool false,.bool false,.slice none 0 0]:Value).cells (n+1 - i) ++ Builtin.zeroCells (.agg #[.string ByteArray.empty,.string ByteArray.empty,.string ByteArray.empty,.string ByteArray.empty,.int .i64 0,.int .i64 0,.string ByteArray.empty,.slice none 0 0,.slice none 0 0,.int .i64 0,.bool false,.bool false,.slice none 0 0]:Value).cells (grownCap w (n+1) a 41 - (n+1))) 41)):=fun s=>by
   have h:=Lib.run_append_grow_zeros w 22 3 s 41 i0 _ .i64 .i64 Tryz.underlying22 Tryz.underlying3 ad bd (some ⟨g0,0,none⟩) i a (d.take (i * 13)) al (n+1 - i) (by omega) (by omega) (by omega) (by omega) (by rw [av];omega) (by rw [av,aD];exact growslice_fits aL (by omega));rw [aD] at h;rw [bc];exact h
  have bm:n+1<=grownCap w (n+1) a 41:=grownCap_ge w _ _ _
  have bE:grownCap w (n+1) a 41<=9223372036854775807:=by
   have:=grownCap_le_maxLen w (n+1) a 41 (by unfold maxLen;omega);unfold maxLen at this;omega
  generalize hG:grownCap w (n+1) a 41=G at *;clear hG;obtain ⟨f,O⟩:∃ f:Array Value,f=(d.take (i * 13)).toArray ++ Builtin.zeroCells (.agg #[.string ByteArray.empty,.string ByteArray.empty,.string ByteArray.empty,.string ByteArray.empty,.int .i64 0,.int .i64 0,.string ByteArray.empty,.slice none 0 0,.slice none 0 0,.int .i64 0,.bool false,.bool false,.slice none 0 0]:Value).cells (n+1 - i) ++ Builtin.zeroCells (.agg #[.string ByteArray.empty,.string ByteArray.empty,.string ByteArray.empty,.string ByteArray.empty,.int .i64 0,.int .i64 0,.string ByteArray.empty,.slice none 0 0,.slice none 0 0,.int .i64 0,.bool false,.bool false,.slice none 0 0]:Value).cells (G - (n+1)):=⟨_,rfl⟩;rw [<-O] at aE
  have a4:f.size=G * 13:=by
   rw [O];simp only [Array.size_append,List.size_toArray,C,Builtin.zeroCells];simp [Value.cells];omega
  have a8:f.toList.take (i * 13)=d.take (i * 13):=by
   rw [O];simp only [Array.toList_append,List.append_assoc];rw [List.take_append_of_le_length (by simp [C] <;> omega),List.take_of_length_le (by simp [C] <;> omega)]
  clear O
  have HW:∀ W:World,W.heap=(w.alloc (.cells f 41)).heap->∀ s D,(Builtin.copy_ #[22,22] s #[.slice (some ⟨w.heap.size,i * 13,none⟩) (n+1 - i) D,.slice (some ⟨vb,0,none⟩) 1 1]).run Tryz.prog W=.ok (goInt 1) (W.setCells w.heap.size (i * 13) l):=fun W A s D=>by
   have F:W.heap[w.heap.size]?=some (.cells f 41 (0,0)):=by rw [A];exact heap_alloc_new w _
   have hV:W.heap[vb]?=some (.cells l.toArray 41 (0,0)):=by rw [A,Below.heap_alloc _ _ _ bl];exact hy
   exact oQ 13 W _ _ s 41 w.heap.size (i * 13) (n+1 - i) D ⟨vb,0,none⟩ 1 1 1 l Tryz.underlying22 N (by simp only [Nat.min_def];split <;> omega) (by rw [t])
    (fun j u q=>by rw [E,Nat.zero_add,cell_of hV];simpa using q)
    (fun j q=>by rw [cell_of F,Array.getElem?_eq_getElem (by omega)];rfl) (fun j _=>ak F _) Z
  have a9:∀ W:World,W.heap=((w.alloc (.cells f 41)).setCells w.heap.size (i * 13) l).heap->∀ s D U,(Builtin.copy_ #[22,22] s #[.slice (some ⟨w.heap.size,(i+1) * 13,none⟩) (n+1 - (i+1)) D,.slice (some ⟨g0,i * 13,none⟩) (n - i) U]).run Tryz.prog W=.ok (goInt (n - i:Nat)) (W.setCells w.heap.size ((i+1) * 13) (d.drop (i * 13))):=fun W A s D U=>by
   have F:W.heap[w.heap.size]?=some (.cells (nU f.toList (i * 13) l).toArray 41 (0,0)):=by rw [A];exact dO _ l _ _ _ (heap_alloc_new w _) (by omega)
   have hG:W.heap[g0]?=some (.cells cur 41 (0,0)):=by rw [A,dP _ _ _ _ (show g0≠w.heap.size by omega),Below.heap_alloc _ _ _ bs];exact hh
   have hl:=mO (X:=f.toList) (vs:=l) (o:=i * 13) (by simp;omega)
   exact oQ 13 W _ _ s 41 w.heap.size ((i+1) * 13) (n+1 - (i+1)) D ⟨g0,i * 13,none⟩ (n - i) U (n - i) (d.drop (i * 13)) Tryz.underlying22 N (by simp only [Nat.min_def];split <;> omega) m
    (fun j u q=>by
     rw [E,cell_of hG];have:=H (i * 13+j) u (by rwa [List.getElem?_drop] at q)
     rwa [cell_of hh] at this)
    (fun j q=>by rw [cell_of F,Array.getElem?_eq_getElem (by simp at hl ⊢;omega)];rfl) (fun j _=>ak F _) ac
  have aw:∃ R,(nU (nU f.toList (i * 13) l) ((i+1) * 13) (d.drop (i * 13)))=d.take (i * 13) ++ l ++ d.drop (i * 13) ++ R:=by
   obtain ⟨R,hR⟩:=Q4 f.toList l (d.drop (i * 13)) (i * 13) 13 ((n - i) * 13) (by simp;omega) t m;exact ⟨R,by rw [show (i+1) * 13=i * 13+13 by omega,hR,a8]⟩
  have a1:=hid (show ∀ W:World,W.heap=(((w.alloc (.cells f 41)).setCells w.heap.size (i * 13) l).setCells w.heap.size ((i+1) * 13) (d.drop (i * 13))).heap->W.os=w.os->W.tape=w.tape->W.output=w.output->PN ja 41 13 B ys y i (.slice (some ⟨g0,0,none⟩) n a) w (.returned (.slice (some ⟨w.heap.size,0,none⟩) (n+1) G)) W from fun W A e1 e2 e3=>by
   obtain ⟨R,hR⟩:=aw;have J:=mO (X:=f.toList) (vs:=l) (o:=i * 13) (by simp;omega);have aq:=mO (X:=nU f.toList (i * 13) l) (vs:=d.drop (i * 13)) (o:=(i+1) * 13) (by rw [J,m];simp;omega)
   have F:W.heap[w.heap.size]?=some (.cells (nU (nU f.toList (i * 13) l) ((i+1) * 13) (d.drop (i * 13))).toArray 41 (0,0)):=by
    rw [A];have h1:=dO w.heap.size l (i * 13) (w.alloc (.cells f 41)) f (heap_alloc_new w _) (by omega);have h2:=dO w.heap.size (d.drop (i * 13)) ((i+1) * 13) _ _ h1 (by simp only [List.size_toArray];rw [J,m];simp;omega);simpa using h2
   refine HP.out w.heap.size G W (Hq F hB bm (by unfold maxLen;omega) (by rw [aq,J];simpa using a4) (by simp only [List.length_append,C,m,t];omega) ?_) ⟨e1,e2,e3,?_,fun b hb T=>?_⟩ (Or.inr rfl)
   . rw [hR,List.take_left' (by simp only [List.length_append,C,m,t];omega)]
   . rw [A,fH,fH];simp
   . rw [A,dP _ _ _ _ (show b≠w.heap.size by omega),dP _ _ _ _ (show b≠w.heap.size by omega),Below.heap_alloc _ _ _ hb])
  have bO:¬ (G=i):=by omega
  have bB:¬ (G=i+1):=by omega
  have bo:¬ (a=i):=by omega
  obtain ⟨z,I⟩:∃ z,z=((w.alloc (.cells f 41)).drew).setCells w.heap.size (i * 13) l:=⟨_,rfl⟩;have p:=gu w.heap.size l (i * 13) ((w.alloc (.cells f 41)).drew);have K:=HW ((w.alloc (.cells f 41)).drew) rfl;rw [<-I] at p K;have ap:z.heap=((w.alloc (.cells f 41)).setCells w.heap.size (i * 13) l).heap:=by rw [I];exact iU _ _ _ _ _ rfl
  have L:=a9 z.drew ap;obtain ⟨W2,ar⟩:∃ W2,W2=(z.drew).setCells w.heap.size ((i+1) * 13) (d.drop (i * 13)):=⟨_,rfl⟩;have Q:=gu w.heap.size (d.drop (i * 13)) ((i+1) * 13) z.drew;rw [<-ar] at Q L;have V:=hid (a1.out W2 (by rw [ar];exact iU _ _ _ _ _ ap) (Q.1.trans p.1) (Q.2.1.trans p.2.1) (Q.2.2.trans p.2.2));have P:=hid K;have M:=hid L;have bp:=hid aE;clear HW a9 aE aw H be S Z ac E a4 a8 C m aa t hcs htk hh hy ad bd a2 av al bc aD N hvb hB hg0 HP p Q K L I ar ap a1;go_enter Tryz.func64,Tryz.ntmps64
  go_wp2_with (first
   | (at_builtin;refine Lib.wpList_append_run _ rfl _ _ _ _ rfl _ _ rfl rfl _ _ (bp.out _) ?_)
   | (at_builtin;refine wpList_copy_runI _ rfl _ _ 22 22 rfl _ _ rfl rfl (P.out _ _) ?_)
   | (simp only [P.out,Result.andThen]))
  go_region_law (refine step_copy_runI rfl _ _ 22 22 rfl (.slice (some ⟨w.heap.size,(i+1) * 13,none⟩) (n+1 - (i+1)) (G - (i+1))) (.slice (some ⟨g0,i * 13,none⟩) (n - i) (a - i)) (by simp [Act.eval,Act.put]) (by simp [Act.eval,Act.put]) (M.out 3 (G - (i+1)) (a - i)) ?_)
  all_goals
   go_wp2
   go_ret
   exact V.out
 ·
  have bg:∀ lb cb,(callFunc 112 #[.slice (some ⟨vb,0,none⟩) 1 1,.slice (some ⟨g0,(i+1) * 13,none⟩) lb cb]).run Tryz.prog w=.ok (.value (.bool false)) w:=fun lb cb=>by
   rw [run_callFunc_extern Tryz.func112 (by kernel_rfl) (by kernel_rfl) (by kernel_rfl) (e:=Extern.SlicesOverlaps.overlaps #[22,22] #[4]) (by kernel_rfl),
    Lib.run_overlaps_apart w 22 4 41 Tryz.underlying22 13 Tryz.sizeOf41 ⟨vb,0,none⟩ ⟨g0,(i+1) * 13,none⟩ 1 1 lb cb (fun e=>bb e.symm) 41 41 _ _ (Fa hy) (Fa hh) (by rw [hcs];omega) (ak hy _) (ak hy _)]
   rfl
  have a5:cur.toList.take (i * 13)=d.take (i * 13):=by rw [<-htk,List.take_take];congr 1;omega
  have K:∀ s D U,(Builtin.copy_ #[22,22] s #[.slice (some ⟨g0,(i+1) * 13,none⟩) (n+1 - (i+1)) D,.slice (some ⟨g0,i * 13,none⟩) (n+1 - i) U]).run Tryz.prog w.drew=.ok (goInt (n - i:Nat)) ((w.drew).setCells g0 ((i+1) * 13) (d.drop (i * 13))):=fun s D U=>by
   have F:w.drew.heap[g0]?=some (.cells cur 41 (0,0)):=hh
   exact oQ 13 w.drew _ _ s 41 g0 ((i+1) * 13) (n+1 - (i+1)) D ⟨g0,i * 13,none⟩ (n+1 - i) U (n - i) (d.drop (i * 13)) Tryz.underlying22 N (by simp only [Nat.min_def];split <;> omega) m
    (fun j u q=>by
     rw [E];exact H (i * 13+j) u (by rwa [List.getElem?_drop] at q))
    (fun j q=>by rw [cell_of F,Array.getElem?_eq_getElem (by omega)];rfl) (fun j _=>ak F _) ac
  obtain ⟨z,I⟩:∃ z,z=(w.drew).setCells g0 ((i+1) * 13) (d.drop (i * 13)):=⟨_,rfl⟩;have p:=gu g0 (d.drop (i * 13)) ((i+1) * 13) w.drew;have J:=mO (X:=cur.toList) (vs:=d.drop (i * 13)) (o:=(i+1) * 13) (by rw [m];simp;omega);have af:z.heap[g0]?=some (.cells (nU cur.toList ((i+1) * 13) (d.drop (i * 13))).toArray 41 (0,0)):=by rw [I];exact dO _ _ _ _ _ hh (by rw [m];omega)
  have ao:∀ b,b≠g0->z.heap[b]?=w.heap[b]?:=fun b hb=>by rw [I,dP _ _ _ _ hb];rfl
  have a0:z.heap.size=w.heap.size:=by rw [I,fH];rfl
  rw [<-I] at p K
  have L:∀ W:World,W.heap=z.heap->∀ s D,(Builtin.copy_ #[22,22] s #[.slice (some ⟨g0,i * 13,none⟩) (n+1 - i) D,.slice (some ⟨vb,0,none⟩) 1 1]).run Tryz.prog W=.ok (goInt 1) (W.setCells g0 (i * 13) l):=fun W A s D=>by
   have F:W.heap[g0]?=some (.cells (nU cur.toList ((i+1) * 13) (d.drop (i * 13))).toArray 41 (0,0)):=by rw [A];exact af
   have hV:W.heap[vb]?=some (.cells l.toArray 41 (0,0)):=by rw [A,ao vb (fun e=>bb e.symm)];exact hy
   exact oQ 13 W _ _ s 41 g0 (i * 13) (n+1 - i) D ⟨vb,0,none⟩ 1 1 1 l Tryz.underlying22 N (by simp only [Nat.min_def];split <;> omega) (by rw [t])
    (fun j u q=>by rw [E,Nat.zero_add,cell_of hV];simpa using q)
    (fun j q=>by rw [cell_of F,Array.getElem?_eq_getElem (by simp at J ⊢;omega)];rfl) (fun j _=>ak F _) Z
  have ab:∀ W:World,W.heap=z.heap->W.os=w.os->W.tape=w.tape->W.output=w.output->PN ja 41 13 B ys y i (.slice (some ⟨g0,0,none⟩) n a) w (.returned (.slice (some ⟨g0,0,none⟩) (n+1) a)) (W.setCells g0 (i * 13) l):=fun W A e1 e2 e3=>by
   obtain ⟨R,hR⟩:=RV cur.toList l (d.drop (i * 13)) (i * 13) 13 ((n - i) * 13) (by simp;omega) t m;rw [show i * 13+13=(i+1) * 13 by omega,a5] at hR;have hS:=gu g0 l (i * 13) W;have F:W.heap[g0]?=some (.cells (nU cur.toList ((i+1) * 13) (d.drop (i * 13))).toArray 41 (0,0)):=by rw [A];exact af
   have bf:=dO g0 l (i * 13) W _ F (by simp only [List.size_toArray];rw [J,t];simp;omega);have aq:=mO (X:=nU cur.toList ((i+1) * 13) (d.drop (i * 13))) (vs:=l) (o:=i * 13) (by rw [J,t];simp;omega);refine HP.out g0 a _ (Hq (X:=nU (nU cur.toList ((i+1) * 13) (d.drop (i * 13))) (i * 13) l) (by simpa using bf) hg0 (by omega) (by unfold maxLen;omega) (by rw [aq,J];simpa using hcs) (by simp only [List.length_append,C,m,t];omega) ?_) ⟨hS.1.trans e1,hS.2.1.trans e2,hS.2.2.trans e3,?_,fun b hb T=>?_⟩ (Or.inl rfl)
   . rw [hR,List.take_left' (by simp only [List.length_append,C,m,t];omega)]
   . rw [fH,A,a0];exact Nat.le_refl _
   . have a7:b≠g0:=fun e=>by subst e;first | exact T rfl | exact absurd T (by simp [Value.ownBlock])
     rw [dP _ _ _ _ a7,A,ao b a7]
  have bj:=hid (fun W h=>ab W h);have V:=hid (ab z rfl p.1 p.2.1 p.2.2);have aM:=hid (ab z.drew rfl p.1 p.2.1 p.2.2);have P:=hid K;have M:=hid (L z rfl);have an:=hid (L z.drew rfl);have bA:¬ ((a:Int) < (n:Int)+1):=by omega
  have bo:¬ (a=i):=by omega
  have bL:¬ (a=i+1):=by omega
  have bX:n+1<=a:=by omega
  have b1:(i:Int)<=(n:Int)+1:=by omega
  clear K L ab H be S Z ac E C m aa t hcs htk hh hy N hvb hB hg0 HP p I af ao a0 J a5 bj;go_enter Tryz.func64,Tryz.ntmps64
  go_wp2_with (first
   | (simp only [bg])
   | (simp only [M.out,Result.andThen])
   | (simp only [an.out,Result.andThen]))
  have bx:Tryz.prog.follows Departure.mixedOrders=true:=by kernel_rfl
  go_region_law_o (refine step_copy_runI rfl _ _ 22 22 rfl (.slice (some ⟨g0,(i+1) * 13,none⟩) (n+1 - (i+1)) (a - (i+1))) (.slice (some ⟨g0,i * 13,none⟩) (n+1 - i) (a - i)) (by simp [Act.eval,Act.put]) (by simp [Act.eval,Act.put]) (P.out 3 (a - (i+1)) (a - i)) ?_)
  all_goals
   go_wp2_with (first
    | (at_builtin;refine wpList_copy_runI _ rfl _ _ 22 22 rfl _ _ rfl rfl (M.out _ _) ?_)
    | (simp only [M.out,Result.andThen])
    | (simp only [an.out,Result.andThen]))
   go_ret
   first | exact V.out | exact aM.out
end Go.Proofs.YtomhbcfjhgecbaaGreatDoor
namespace Go.Proofs.YtomhbcfjhgecbaaGreatDoor
open Go.RowKit Go.Sort Go.Lib
open Go.Lib (hid)
theorem EI {P:Program} (w:World) (t e ty:TypeId) (z:Value) (L:List Value) (ht:P.underlying t=some (.slice e)) (hv:∀ w,(zeroValue e).run P w=.ok z w) (hL:(Builtin.zeroCells z.cells 1).toList=L) (h1:∀ v∈L,v.oneCell'=true) (b o n c:Nat) (hn:n=1)
  (hc:∀ j,j < L.length->(w.cell? ⟨b,o+j,none⟩).isSome=true) (hf:∀ j,j < L.length->w.frozen? ⟨b,o+j,none⟩=false) :
  (Builtin.clear_ #[t] ty #[.slice (some ⟨b,o,none⟩) n c]).run P w=.ok (.tuple #[]) (w.setCells b o L):=by
 subst hn;have a:=run_storeCells_cells (P:=P) b o L 0 w (by simpa using hc) (by simpa using hf) h1;simp only [Nat.add_zero] at a;simp [Builtin.clear_,run_underlying ht,hv,hL,a]
def Rn {α:Type} (enc:α->List Value) (E:TypeId) (sz B:Nat) (ys:List α) (i:Nat) (v:Value) (w:World) (e:Ending) (w':World):Prop:=
 ∃ g cap,e=.returned (.slice (some ⟨g,0,none⟩) (ys.length - 1) cap)/\w'.ownsRow B E sz (.slice (some ⟨g,0,none⟩) (ys.length - 1) cap) (ys.eraseIdx i).length ((ys.eraseIdx i).flatMap enc)/\w.grownBy w' v.ownBlock/\v.ownBlock=some g
theorem wL {α:Type} (enc:α->List Value) {sz:Nat} (hsz:∀ x,(enc x).length=sz):∀ (ys:List α) (i:Nat),i < ys.length->(ys.eraseIdx i).flatMap enc=(ys.flatMap enc).take (i * sz) ++ (ys.flatMap enc).drop ((i+1) * sz)
 | [],i,h=>by cases h
 | y :: ys,0,_=>by
   rw [List.eraseIdx_cons_zero,List.flatMap_cons,Nat.zero_mul,List.take_zero,List.nil_append,Nat.zero_add,Nat.one_mul,<-hsz y,List.drop_left'];rfl
 | y :: ys,i+1,h=>by
   have e1:(i+1) * sz=(enc y).length+i * sz:=by rw [hsz,Nat.add_mul,Nat.one_mul];omega
   have e2:(i+1+1) * sz=(enc y).length+(i+1) * sz:=by rw [hsz,Nat.add_mul (i+1),Nat.one_mul];omega
   rw [List.eraseIdx_cons_succ,List.flatMap_cons,List.flatMap_cons,wL enc hsz ys i (by simpa using h),e2,e1,List.take_length_add_append,List.drop_length_add_append,List.append_assoc]
theorem MN (X news L fl:List Value) (P M N:Nat) (hM:news.length=M) (hX:P+M<=X.length) (hfl:X.take N=fl) (hPN:P<=N):(nU (nU X P news) (P+M) L).take (P+M)=fl.take P ++ news:=by
 have a:(X.take P ++ news).length=P+M:=by simp;omega
 have d:(nU X P news).take (P+M)=X.take P ++ news:=by
  unfold nU;rw [List.take_append_of_le_length (by rw [a];exact Nat.le_refl _),List.take_of_length_le (by rw [a];exact Nat.le_refl _)]
 have b:(nU X P news).length=X.length:=mO (by omega)
 have c:(nU (nU X P news) (P+M) L).take (P+M)=(nU X P news).take (P+M):=by
  conv=>lhs;unfold nU
  rw [List.append_assoc,List.take_append_of_le_length (by rw [List.length_take];unfold nU at b;omega),List.take_take,Nat.min_self];rfl
 rw [c,d,<-hfl,List.take_take,Nat.min_eq_left hPN]
set_option maxHeartbeats 4000000 in
set_option maxRecDepth 100000 in
theorem RQ (B:Nat) (ys:List jW) (i j:Nat) (hj:j=i+1) (v:Value) (w:World) (hi:i < ys.length) (hown:w.ownsRow B 41 13 v ys.length (ys.flatMap ja)) :
  Calls Tryz.prog 65 #[v,.int .i64 (i:Nat),.int .i64 (j:Nat)] w (Rn ja 41 13 B ys i v w):=by
 have V:=hid (show ∀ g d J,J.ownsRow B 41 13 (.slice (some ⟨g,0,none⟩) (ys.length - 1) d) (ys.eraseIdx i).length ((ys.eraseIdx i).flatMap ja)->w.grownBy J v.ownBlock->v.ownBlock=some g->Rn ja 41 13 B ys i v w (.returned (.slice (some ⟨g,0,none⟩) (ys.length - 1) d)) J from fun g d J h1 h2 h3=>⟨g,d,rfl,h1,h2,h3⟩);rw [wL ja iE ys i hi,List.length_eraseIdx,if_pos hi,<-hj] at V;obtain ⟨G,hr⟩:=hown
 have D:∀ u∈ys.flatMap ja,u.oneCell'=true:=fun u r=>by
  obtain ⟨x,_,hx⟩:=List.mem_flatMap.1 r;exact qh x u hx
 generalize af:ys.flatMap ja=N at *;clear af;generalize hQ:Rn ja 41 13 B ys i v w=Q at *;clear hQ;generalize ys.length=n at *;rcases hr with ⟨_,h0⟩ | ⟨g0,d,cur,rfl,hg0,hh,hnc,hcm,hcs,htk⟩
 . omega
 obtain ⟨i0,al,aD,Z,ao⟩:=info_parts xA;have aw:g0 < w.heap.size:=fB hh;unfold maxLen at hcm;have U:n * 13<=cur.size:=by rw [hcs];exact Nat.mul_le_mul_right _ hnc
 have z:∀ (k:Nat) (u:Value),N[k]?=some u->w.cell? ⟨g0,k,none⟩=some u:=fun k u I=>by
  have ad:k < n * 13:=by have:=(List.getElem?_eq_some_iff.1 I).1;omega
  rw [cell_of hh,<-I,<-htk,List.getElem?_take,if_pos ad,Array.getElem?_toList]
 have y:∀ k,k < n * 13->(w.cell? ⟨g0,k,none⟩).isSome=true/\w.frozen? ⟨g0,k,none⟩=false:=fun k I=>⟨by rw [cell_of hh,Array.getElem?_eq_getElem (by omega)];rfl,ak hh k⟩;have aq:i < j:=by omega
 have ab:j<=n:=by omega
 have ac:j * 13<=n * 13:=Nat.mul_le_mul_right _ ab;have aa:j * 13=i * 13+13:=by rw [hj,Nat.add_mul,Nat.one_mul]
 have p:(n - j) * 13=n * 13 - j * 13:=Nat.sub_mul _ _ _;have E:(n - 1) * 13=n * 13 - 13:=by rw [Nat.sub_mul,Nat.one_mul]
 obtain ⟨a,f⟩:∃ a,a=N.drop (j * 13):=⟨_,rfl⟩;have l:a.length=(n - j) * 13:=by rw [f,List.length_drop,G,p]
 obtain ⟨A,hA,Y⟩:∃ A:Addr,(if d=j then some (⟨g0,0,none⟩:Addr) else some ⟨g0,j * 13,none⟩)=some A/\Hid (∀ t u,a[t]?=some u->w.drew.cell? (A.add t)=some u):=by
  by_cases h:d=j
  . refine ⟨⟨g0,0,none⟩,by simp [h],hid fun t u r=>?_⟩
    have h0:a.length=0:=by rw [l,show n - j=0 by omega,Nat.zero_mul]
    rw [List.length_eq_zero_iff.1 h0] at r;simp at r
  . refine ⟨⟨g0,j * 13,none⟩,by simp [h],hid fun t u r=>?_⟩
    rw [f,List.getElem?_drop] at r;rw [Addr.add_lit];exact z _ _ r
 have s1:=hid l;have s2:=hid (show ∀ u∈a,u.oneCell'=true from fun u r=>D u (List.mem_of_mem_drop (f ▸ r)));have s3:=hid (show ∀ t,t < a.length->(w.drew.cell? ⟨g0,0+i * 13+t,none⟩).isSome=true/\w.drew.frozen? ⟨g0,0+i * 13+t,none⟩=false from fun t ht=>y _ (by rw [l,p] at ht;omega));obtain ⟨m,q⟩:∃ m,m=w.drew.setCells g0 (0+i * 13) a:=⟨_,rfl⟩
 have C:m.heap[g0]?=some (.cells (nU cur.toList (i * 13) a).toArray 41 (0,0)):=by
  rw [q,Nat.zero_add];exact dO g0 a (i * 13) w.drew cur hh (by rw [l,p];omega)
 have O:∀ b,b≠g0->m.heap[b]?=w.heap[b]?:=fun b hb=>by
  rw [q];exact dP g0 a _ w.drew hb
 have R:m.heap.size=w.heap.size:=by
  rw [q];exact fH g0 a _ w.drew
 have s:(nU cur.toList (i * 13) a).length=cur.size:=by
  rw [mO (by rw [l,p,Array.length_toList];omega),Array.length_toList]
 obtain ⟨L,K⟩:∃ L,(Builtin.zeroCells (.agg #[.string ByteArray.empty,.string ByteArray.empty,.string ByteArray.empty,.string ByteArray.empty,.int .i64 0,.int .i64 0,.string ByteArray.empty,.slice none 0 0,.slice none 0 0,.int .i64 0,.bool false,.bool false,.slice none 0 0]:Value).cells 1).toList=L:=⟨_,rfl⟩;have F:L.length=13:=by rw [<-K];kernel_rfl
 have S:∀ u∈L,u.oneCell'=true:=by rw [<-K];decide +kernel
 have o:(i+(n - j)) * 13=n * 13 - 13:=by rw [<-E,show i+(n - j)=n - 1 by omega]
 have an:∀ T c,(Builtin.clear_ #[22] T #[.slice (some ⟨g0,(i+(n - j)) * 13,none⟩) (n - (i+(n - j))) c]).run Tryz.prog m=.ok (.tuple #[]) (m.setCells g0 ((i+(n - j)) * 13) L):=fun T c =>
  EI m 22 41 T (.agg #[.string ByteArray.empty,.string ByteArray.empty,.string ByteArray.empty,.string ByteArray.empty,.int .i64 0,.int .i64 0,.string ByteArray.empty,.slice none 0 0,.slice none 0 0,.int .i64 0,.bool false,.bool false,.slice none 0 0]) L Tryz.underlying22 (fun w=>by first | (go_simp;done) | (go_simp;rfl)) K S g0 _ _ c (by omega) (fun k I=>by
   rw [cell_of C,List.getElem?_toArray,List.getElem?_eq_getElem (by rw [s,o];omega)];rfl) (fun k I=>ak C _)
 have hW:=hid q;have ap:i<=d:=by omega
 have ar:j<=d:=by omega
 have av:i+(n - j)<=n:=by omega
 have HF:=hid (show Q (.returned (.slice (some ⟨g0,0,none⟩) (i+(n - j)) d)) (m.setCells g0 ((i+(n - j)) * 13) L) from by
  have hq:=V.out g0 d (m.setCells g0 ((i+(n - j)) * 13) L) ?_ ?_ rfl
  . rw [show i+(n - j)=n - 1 by omega] at *
    exact hq
  . have hX:=dO g0 L ((i+(n - j)) * 13) m _ C (by simp only [List.size_toArray];rw [s,o,F];omega)
    refine Hq (X:=nU (nU cur.toList (i * 13) a) ((i+(n - j)) * 13) L) (by simpa using hX) hg0 (by omega) (by unfold maxLen;exact hcm) (by rw [mO (by rw [s,o,F];omega),s,hcs]) (by simp only [List.length_append,List.length_take,List.length_drop,G,E];omega) ?_;rw [f,<-MN cur.toList (N.drop (j * 13)) L N (i * 13) ((n - j) * 13) (n * 13) (f ▸ l) (by rw [p,Array.length_toList];omega) htk (by omega)];rw [show (n - 1) * 13=i * 13+(n - j) * 13 by omega,show (i+(n - j)) * 13=i * 13+(n - j) * 13 by omega]
  . have M:=gu g0 a (0+i * 13) w.drew
    have W:=gu g0 L ((i+(n - j)) * 13) m;rw [<-q] at M;refine ⟨W.1.trans M.1,W.2.1.trans M.2.1,W.2.2.trans M.2.2,?_,fun b hb H=>?_⟩
    . rw [fH,R];exact Nat.le_refl _
    . have P:b≠g0:=fun e=>by subst e;first | exact H rfl | exact absurd H (by simp [Value.ownBlock])
      rw [dP _ _ _ _ P,O b P])
 clear C O R s F S K o ac aa p E z y U D f l htk hcs hh V q G hj;go_enter Tryz.func65,Tryz.ntmps65;go_wp2_with fail
 have am:Tryz.prog.follows Departure.mixedOrders=true:=by kernel_rfl
 go_region_law_o (refine step_append_room rfl (.tmp 22) (.tmp 25) 22 rfl 41 i0 13 Tryz.underlying22 al Z g0 0 i d (by simp [Act.eval,Act.put]) A (n - j) (d - j) a (by simp [Act.eval,Act.put]) s1.out Y.out s2.out (by omega) s3.out ?_;rw [<-hW.out])
 go_wp2
 exact HF.out
end Go.Proofs.YtomhbcfjhgecbaaGreatDoor
namespace Go.Proofs.YtomhbcfjhgecbaaGreatDoor
open Go.RowKit Go.Sort Go.Lib
theorem pg {a b:ByteArray} : dL a b < 0 ↔ a.data.toList < b.data.toList:=by
 unfold dL;constructor
 . intro h
   split at h
   . assumption
   . split at h <;> omega
 . intro h
   rw [if_pos h];omega
theorem OY {a b:ByteArray × ByteArray} : dI a b < 0 ↔ a.1.data.toList < b.1.data.toList ∨ (a.1=b.1/\a.2.data.toList < b.2.data.toList):=by
 unfold dI iG iG iG
 by_cases c:dL a.1 b.1=0
 . rw [if_neg (by simp [c])]
   have e:=fV.1 c;rw [e];constructor
   . intro h
     by_cases d:dL a.2 b.2=0
     . rw [if_neg (by simp [d])] at h;omega
     . rw [if_pos d] at h;exact Or.inr ⟨rfl,pg.1 h⟩
   . rintro (h | ⟨_,h⟩)
     . exact absurd h (List.lt_irrefl _)
     . have:=pg.2 h
       rw [if_pos (by omega)];exact this
 . rw [if_pos c,pg]
   exact ⟨Or.inl,fun h=>h.resolve_right fun e=>c (fV.2 e.1)⟩
theorem xw {a b c:ByteArray × ByteArray} (h1:dI a b < 0) (h2:dI b c < 0):dI a c < 0:=by
 rw [OY] at *;rcases h1 with h1 | ⟨e1,h1⟩
 . rcases h2 with h2 | ⟨e2,h2⟩
   . exact Or.inl (List.lt_trans h1 h2)
   . rw [<-e2];exact Or.inl h1
 . rcases h2 with h2 | ⟨e2,h2⟩
   . rw [e1];exact Or.inl h2
   . exact Or.inr ⟨e1.trans e2,List.lt_trans h1 h2⟩
def fJ (xs:List Ins):Prop:=xs.Pairwise fun a b=>dI (aP a) (aP b) < 0
theorem AC {xs:List Ins} (h:fJ xs) {i j:Nat} (hi:i < xs.length) (hj:j < xs.length) (hij:i < j):dI (aP xs[i]) (aP xs[j]) < 0:=List.pairwise_iff_getElem.1 h i j hi hj hij
def pY (xs:List Ins) (q:ByteArray × ByteArray):Nat:=(xs.takeWhile fun x=>decide (dI (aP x) q < 0)).length
def jK (xs:List Ins) (q:ByteArray × ByteArray):Bool:=xs.any fun x=>decide (aP x=q)
theorem EW {xs:List Ins} {q:ByteArray × ByteArray} : jK xs q=true ↔ ∃ x∈xs,aP x=q:=by unfold jK;simp
theorem zY {α:Type} {p:α->Bool} : ∀ {l:List α} {k:Nat},k<=l.length->(∀ j (hj:j < l.length),j < k->p l[j]=true)->(∀ h:k < l.length,p l[k]=false)->(l.takeWhile p).length=k
 | [],k,hk,_,_=>by simp at hk;subst hk;rfl
 | x :: l,0,_,_,h2=>by
   have:=h2 (by simp);simp only [List.getElem_cons_zero] at this;rw [List.takeWhile_cons,this];rfl
 | x :: l,k+1,hk,h1,h2=>by
   have h0:=h1 0 (by simp) (by omega);simp only [List.getElem_cons_zero] at h0;rw [List.takeWhile_cons,h0];simp only [if_true,List.length_cons];rw [zY (l:=l) (k:=k) (by simpa using hk) (fun j hj hjk=>by have:=h1 (j+1) (by simpa using hj) (by omega);simpa using this) (fun h=>by have:=h2 (by simpa using h);simpa using this)]
theorem Qq {xs:List Ins} {q:ByteArray × ByteArray} {k:Nat} (hk:k<=xs.length) (h1:∀ j (hj:j < xs.length),j < k->dI (aP xs[j]) q < 0) (h2:∀ h:k < xs.length,¬ dI (aP xs[k]) q < 0):pY xs q=k:=
 zY hk (fun j hj hjk=>decide_eq_true (h1 j hj hjk)) (fun h=>decide_eq_false (h2 h))
theorem O4 {xs:List Ins} {q:ByteArray × ByteArray} {k:Nat} (hs:fJ xs) (h1:∀ j (hj:j < xs.length),j < k->dI (aP xs[j]) q < 0) (h2:∀ h:k < xs.length,¬ dI (aP xs[k]) q < 0) :
  jK xs q=true ↔ ∃ h:k < xs.length,dI (aP xs[k]) q=0:=by
 rw [EW];constructor
 . rintro ⟨x,c,e⟩
   obtain ⟨j,hj,rfl⟩:=List.mem_iff_getElem.1 c;have d:dI (aP xs[j]) q=0:=jQ.2 e;rcases Nat.lt_trichotomy j k with h | h | h
   . have:=h1 j hj h;omega
   . subst h;exact ⟨hj,d⟩
   . have b:k < xs.length:=by omega
     have a:=AC hs b hj h;rw [e] at a;exact absurd a (h2 b)
 . rintro ⟨h,e⟩
   exact ⟨_,List.getElem_mem h,jQ.1 e⟩
end Go.Proofs.YtomhbcfjhgecbaaGreatDoor
namespace Go.Proofs.YtomhbcfjhgecbaaGreatDoor
open Go.RowKit Go.Sort Go.Lib
open Go.Lib (hid)
attribute [local go_sem] Stp.di
attribute [local go_sem ↓] fQ
attribute [local go_sem] dV
attribute [local go_sem ↓] fK
attribute [local go_sem] dH bD bG bJ cu bQ dA bI cO
set_option maxRecDepth 100000 in
set_option maxHeartbeats 16000000 in
theorem Pj (r:Option Addr) (c:Nat) (xs:List Ins) (q:ByteArray × ByteArray) (fb:Nat) (w:World) (hS:Sl FI 13 w (.slice r xs.length c) xs) (hA:fJ xs) (hf:w.cell? ⟨fb,0,none⟩=some (.func (.func 34) #[] #[])) (hn:xs.length<=1000000) :
  Calls Tryz.prog 89 #[.slice r xs.length c,.agg #[.string q.1,.string q.2],.func (.func 90) #[] #[.pointer (some ⟨fb,0,none⟩)]] w fun e w'=>e=.returned (.tuple #[.int .i64 (pY xs q:Nat),.bool (jK xs q)])/\Below w.heap.size w w':=by
 obtain ⟨n,m⟩:=q;have aa:=hid (fun (W:World) (hW:Below w.heap.size w W)=>mM (hS.below dB hW));have S:=hid (fun (x:Ins) (p:Pt) (W:World) (hW:Below w.heap.size w W)=>DK x p (n,m) fb W (az hW hf));obtain ⟨_,hl,hm⟩:=bi hS;have z:=hid (show Below w.heap.size w (w.alloc (.cells #[.string n,.string m] 70)) from (Below.refl _ _).alloc (Nat.le_refl _) _);have O:=hid (show (w.alloc (.cells #[.string n,.string m] 70)).cell? ⟨w.heap.size,0,none⟩=some (.string n)/\(w.alloc (.cells #[.string n,.string m] 70)).cell? ⟨w.heap.size,1,none⟩=some (.string m) from ⟨aX rfl rfl,aX rfl rfl⟩);have aw:=hid (fun k B Q Z=>Qq (xs:=xs) (q:=(n,m)) (k:=k) B Q Z);have an:=hid (fun k Q Z=>O4 (xs:=xs) (q:=(n,m)) (k:=k) hA Q Z);have ad:=hid (fun i j hi hj af=>AC (xs:=xs) hA (i:=i) (j:=j) hi hj af);have ac:=hid (fun a b=>xw (a:=a) (b:=b) (c:=(n,m)));clear hS hf hA;simp only at S ⊢;go_enter Tryz.func89,Tryz.ntmps89;go_wp2
 generalize w.alloc (.cells #[.string n,.string m] 70)=W0 at *;go_loopg [9,10] xs.length (fun gg s9 av wr=>∃ i j:Nat,i<=j/\j<=xs.length/\j - i<=gg/\s9=.int .i64 i/\av=.int .i64 j/\Hid (Below W0.heap.size W0 wr)/\Hid (∀ k (B:k < xs.length),k < i->dI (aP xs[k]) (n,m) < 0)/\Hid (∀ k (B:k < xs.length),j<=k->¬ dI (aP xs[k]) (n,m) < 0))
 case atStart=>exact ⟨0,xs.length,by omega,by omega,by omega,rfl,rfl,hid (Below.refl _ _),hid (fun k B h=>absurd h (by omega)),hid (fun k B h=>absurd h (by omega))⟩
 case round =>
  obtain ⟨i,j,af,hj,aM,rfl,rfl,v,HI,HJ⟩:=hrel;have E:=hid (z.out.trans (v.out.mono z.out.size))
  by_cases aL:i < j
  . have hw:IntKind.i64.wrap ((i:Int)+(j:Int))=(i:Int)+(j:Int):=IntWalk.i64_in _ (by omega)
    obtain ⟨h,J⟩:∃ h:Nat,h=(i+j) / 2:=⟨_,rfl⟩;have aE:((i:Int)+(j:Int)) / 2=(h:Int):=by omega
    have U:h < xs.length:=by omega
    have h0:(0:Int)<=(h:Int):=by omega
    have Q:(h:Int) < (xs.length:Int):=by omega
    have M:=hid (show i<=h/\h < j by omega);clear J;obtain ⟨R,A,p,rfl,ar,u,hx⟩:=aa.out wr E.out h U;obtain ⟨D,H⟩:=gU (dD xs[h] p) u;have N:=hid (fun (W:World) (hW:Below wr.heap.size wr W)=>show eG W R (A+h * 13)/\ik W R (A+h * 13)=aH xs[h] p from ⟨(D.below hW).1,((D.below hW).2).trans H⟩);have L:=hid (fun (W:World) (hW:Below wr.heap.size wr W)=>S.out xs[h] p W (E.out.trans (hW.mono E.out.size)));have z0:=az v.out O.out.1;have z1:=az v.out O.out.2;have c0:=fun d I=>cell_regrown z0 d I;have c1:=fun d I=>cell_regrown z1 d I;clear u hx D H
    have ao:=hid (fun (hc:dI (aP xs[h]) (n,m) < 0)=>show ∀ k (B:k < xs.length),k < h+1->dI (aP xs[k]) (n,m) < 0 from fun k B aD=>by
     by_cases e:k=h
     . subst e;exact hc
     . exact ac.out _ _ (ad.out k h B U (by omega)) hc)
    have ap:=hid (fun (hc:¬ dI (aP xs[h]) (n,m) < 0)=>show ∀ k (B:k < xs.length),h<=k->¬ dI (aP xs[k]) (n,m) < 0 from fun k B aD=>by
     by_cases e:k=h
     . subst e;exact hc
     . exact fun aq=>hc (ac.out _ _ (ad.out h k U B (by omega)) aq))
    generalize dI (aP xs[h]) (n,m)=V at *;generalize aH xs[h] p=X at *;go_wp2_with fail
    refine Stp.au (fun k=>match k with | 4=>some (Stp.bT (.agg X)) | 6=>some (Stp.bT (.int .i64 V)) | _=>none) (by kernel_rfl) (by kernel_rfl) ?_
    iterate 4 (refine Stp.wq ?_;intro K f;go_big_quiet_op;go_big_quiet_on)
    refine Stp.aC (Stp.bT (.agg X)) (by kernel_rfl) rfl ⟨_,rfl⟩ Stp.aQ (fun w4 g s=>?_) ?_
    . have l:=Stp.ai g
      obtain ⟨D,H⟩:=N.out w4 l;clear g s l;go_simp
      exact ⟨Stp.kW.refl _,rfl,trivial⟩
    rintro _ rfl
    (refine Stp.ay ?_;intro K f;go_simp;refine f _ ?_;clear f K)
    (refine Stp.wq ?_;intro K f;go_big_quiet_op;go_big_quiet_on)
    refine Stp.aC (Stp.bT (.int .i64 V)) (by kernel_rfl) rfl ⟨_,rfl⟩ Stp.aQ (fun w4 g s=>?_) ?_
    . have l:=Stp.ai g
      have J:=L.out w4 l;clear g s l;go_simp
      go_at_call 90;refine Calls.mono J ?_;rintro e w5 ⟨rfl,F⟩;exact ⟨_,rfl,F,rfl,trivial⟩
    rintro _ rfl
    (refine Stp.ay ?_;intro K f;go_simp;refine f _ ?_;clear f K)
    (refine Stp.wq ?_;intro K f;go_big_quiet_op;go_big_quiet_on)
    refine Stp.aS ?_;intro w6 t C;have o:=Stp.ai t;clear t C;have y:=hid (v.out.trans (o.mono v.out.size));clear o
    by_cases P:V < 0
    . have al:=hid (ao.out P)
      go_wp2
      go_roundg (j - (h+1))
      case measure=>have:=M.out;omega
      case rel=>exact ⟨h+1,j,by have:=M.out;omega,by omega,by omega,by go_num,rfl,y,al,HJ⟩
    . have am:=hid (ap.out (by omega))
      go_wp2
      go_roundg (h - i)
      case measure=>have:=M.out;omega
      case rel=>exact ⟨i,h,by have:=M.out;omega,by omega,by omega,rfl,rfl,y,HI,am⟩
  . obtain rfl:i=j:=by omega
    have HL:=hid (aw.out i hj HI.out (fun h=>by have:=HJ.out i h (Nat.le_refl _);omega));have T:=hid (an.out i HI.out (fun h=>by have:=HJ.out i h (Nat.le_refl _);omega))
    by_cases Y:i < xs.length
    . have h0:(0:Int)<=(i:Int):=by omega
      have Q:(i:Int) < (xs.length:Int):=by omega
      obtain ⟨R,A,p,rfl,ar,u,hx⟩:=aa.out wr E.out i Y;obtain ⟨D,H⟩:=gU (dD xs[i] p) u;have N:=hid (fun (W:World) (hW:Below wr.heap.size wr W)=>show eG W R (A+i * 13)/\ik W R (A+i * 13)=aH xs[i] p from ⟨(D.below hW).1,((D.below hW).2).trans H⟩);have L:=hid (fun (W:World) (hW:Below wr.heap.size wr W)=>S.out xs[i] p W (E.out.trans (hW.mono E.out.size)));have z0:=az v.out O.out.1;have z1:=az v.out O.out.2;have c0:=fun d I=>cell_regrown z0 d I;have c1:=fun d I=>cell_regrown z1 d I;clear u hx D H;have ab:=hid (show jK xs (n,m)=true ↔ dI (aP xs[i]) (n,m)=0 from ⟨fun h=>(T.out.1 h).2,fun h=>T.out.2 ⟨Y,h⟩⟩);clear T;generalize dI (aP xs[i]) (n,m)=V at *;generalize aH xs[i] p=X at *
      by_cases P:V=0
      . subst P
        have G:=hid (ab.out.2 rfl);go_wp2_with fail
        refine Stp.au (fun k=>match k with | 9=>some (Stp.bT (.agg X)) | 11=>some (Stp.bT (.int .i64 0)) | _=>none) (by kernel_rfl) (by kernel_rfl) ?_
        iterate 9 (refine Stp.wq ?_;intro K f;go_big_quiet_op;go_big_quiet_on)
        refine Stp.aC (Stp.bT (.agg X)) (by kernel_rfl) rfl ⟨_,rfl⟩ Stp.aQ (fun w4 g s=>?_) ?_
        . have l:=Stp.ai g
          obtain ⟨D,H⟩:=N.out w4 l;clear g s l;go_simp
          exact ⟨Stp.kW.refl _,rfl,trivial⟩
        rintro _ rfl
        (refine Stp.ay ?_;intro K f;go_simp;refine f _ ?_;clear f K)
        (refine Stp.wq ?_;intro K f;go_big_quiet_op;go_big_quiet_on)
        refine Stp.aC (Stp.bT (.int .i64 0)) (by kernel_rfl) rfl ⟨_,rfl⟩ Stp.aQ (fun w4 g s=>?_) ?_
        . have l:=Stp.ai g
          have J:=L.out w4 l;clear g s l;go_simp
          go_at_call 90;refine Calls.mono J ?_;rintro e w5 ⟨rfl,F⟩;exact ⟨_,rfl,F,rfl,trivial⟩
        rintro _ rfl
        (refine Stp.ay ?_;intro K f;go_simp;refine f _ ?_;clear f K)
        iterate 4 (refine Stp.wq ?_;intro K f;go_big_quiet_op;go_big_quiet_on)
        refine Stp.aS ?_;intro w6 t C;have o:=Stp.ai t;clear t C;have y:=hid (v.out.trans (o.mono v.out.size));clear o;go_wp2
        go_ret2
        exact ⟨by rw [HL.out,G.out];rfl,z.out.trans (y.out.mono z.out.size)⟩
      . have G:=hid (show jK xs (n,m)=false from by
         cases h:jK xs (n,m) with
         | false=>rfl
         | true=>exact absurd (ab.out.1 h) P)
        have e1:(V == 0)=false:=by simpa using P
        clear P;go_wp2_with fail
        refine Stp.au (fun k=>match k with | 9=>some (Stp.bT (.agg X)) | 11=>some (Stp.bT (.int .i64 V)) | _=>none) (by kernel_rfl) (by kernel_rfl) ?_
        iterate 9 (refine Stp.wq ?_;intro K f;go_big_quiet_op;go_big_quiet_on)
        refine Stp.aC (Stp.bT (.agg X)) (by kernel_rfl) rfl ⟨_,rfl⟩ Stp.aQ (fun w4 g s=>?_) ?_
        . have l:=Stp.ai g
          obtain ⟨D,H⟩:=N.out w4 l;clear g s l;go_simp
          exact ⟨Stp.kW.refl _,rfl,trivial⟩
        rintro _ rfl
        (refine Stp.ay ?_;intro K f;go_simp;refine f _ ?_;clear f K)
        (refine Stp.wq ?_;intro K f;go_big_quiet_op;go_big_quiet_on)
        refine Stp.aC (Stp.bT (.int .i64 V)) (by kernel_rfl) rfl ⟨_,rfl⟩ Stp.aQ (fun w4 g s=>?_) ?_
        . have l:=Stp.ai g
          have J:=L.out w4 l;clear g s l;go_simp
          go_at_call 90;refine Calls.mono J ?_;rintro e w5 ⟨rfl,F⟩;exact ⟨_,rfl,F,rfl,trivial⟩
        rintro _ rfl
        (refine Stp.ay ?_;intro K f;go_simp;refine f _ ?_;clear f K)
        iterate 4 (refine Stp.wq ?_;intro K f;go_big_quiet_op;go_big_quiet_on)
        refine Stp.aS ?_;intro w6 t C;have o:=Stp.ai t;clear t C;have y:=hid (v.out.trans (o.mono v.out.size));clear o;go_wp2
        go_ret2
        exact ⟨by rw [HL.out,G.out];rfl,z.out.trans (y.out.mono z.out.size)⟩
    . have G:=hid (show jK xs (n,m)=false from by
       cases h:jK xs (n,m) with
       | false=>rfl
       | true=>exact absurd (T.out.1 h).1 Y)
      have Q:decide ((i:Int) < (xs.length:Int))=false:=by simp;omega
      have Z:decide (i < xs.length)=false:=by simp;omega
      clear T;go_wp2_with fail
      refine Stp.au (fun _=>none) (by kernel_rfl) (by kernel_rfl) ?_
      iterate 5 (refine Stp.wq ?_;intro K f;go_big_quiet_op;go_big_quiet_on)
      iterate 8 (refine Stp.aW (by kernel_rfl) ?_)
      (refine Stp.ay ?_;intro K f;go_simp;refine f _ ?_;clear f K)
      iterate 3 (refine Stp.wq ?_;intro K f;go_big_quiet_op;go_big_quiet_on)
      refine Stp.aS ?_;intro w6 t C;have o:=Stp.ai t;clear t C;have y:=hid (v.out.trans (o.mono v.out.size));clear o;go_wp2
      go_ret2
      exact ⟨by rw [HL.out,G.out];rfl,z.out.trans (y.out.mono z.out.size)⟩
theorem run_store_func {P:Program} {w:World} {a:Addr} {m:Mode} (f:Fn) (x y:Array Value):(store a (.func f x y) m).run P w=stored P w a (.func f x y) m:=run_store P w a _ m rfl
attribute [local go_sem] run_store_func
set_option maxHeartbeats 4000000 in
theorem lN (r:Option Addr) (c:Nat) (xs:List Ins) (q:ByteArray × ByteArray) (w:World) (hS:Sl FI 13 w (.slice r xs.length c) xs) (hA:fJ xs) (hn:xs.length<=1000000) :
  Calls Tryz.prog 48 #[.slice r xs.length c,.agg #[.string q.1,.string q.2]] w fun e w'=>e=.returned (.tuple #[.int .i64 (pY xs q:Nat),.bool (jK xs q)])/\Below w.heap.size w w':=by
 have d:=hid (fun (fb:Nat) (W:World) (hW:Below w.heap.size w W) (hf:W.cell? ⟨fb,0,none⟩=some (.func (.func 34) #[] #[]))=>Pj r c xs q fb W (hS.below dB hW) hA hf hn);obtain ⟨j,i⟩:=q;clear hS hA;simp only at d ⊢;have a:=hid (show Below w.heap.size w ((w.alloc (.cells #[.string j,.string i] 70)).alloc (.cells #[.func (.func 34) #[] #[]] 115)) from ((Below.refl _ _).alloc (Nat.le_refl _) _).alloc (by simp) _);have f:=hid (show ((w.alloc (.cells #[.string j,.string i] 70)).alloc (.cells #[.func (.func 34) #[] #[]] 115)).cell? ⟨w.heap.size+1,0,none⟩=some (.func (.func 34) #[] #[]) from aX (by simp) rfl);go_enter Tryz.func48,Tryz.ntmps48;go_wp2_with (go_at_call 89;refine (d.out _ _ a.out f.out).mono ?_;rintro e w5 ⟨rfl,b⟩;have g:=hid (a.out.trans (b.mono a.out.size));clear b)
 go_ret2
 exact ⟨rfl,g.out⟩
end Go.Proofs.YtomhbcfjhgecbaaGreatDoor
namespace Go.Proofs.YtomhbcfjhgecbaaGreatDoor.Osg
structure pJ {κ:Type} (lt:κ->κ->Prop):Prop where
 irr:∀ a,¬ lt a a
 tr:∀ {a b c},lt a b->lt b c->lt a c
 tri:∀ a b,lt a b ∨ a=b ∨ lt b a
variable {α κ:Type} {lt:κ->κ->Prop} {k:α->κ}
theorem pJ.asym {κ:Type} {lt:κ->κ->Prop} (h:pJ lt) {a b:κ} (h1:lt a b):¬ lt b a:=fun h2=>h.irr _ (h.tr h1 h2)
theorem pJ.ne {κ:Type} {lt:κ->κ->Prop} (h:pJ lt) {a b:κ} (h1:lt a b):a≠b:=fun e=>h.irr b (e ▸ h1)
def qX (lt:κ->κ->Prop) [DecidableRel lt] (k:α->κ) (xs:List α) (q:κ):List α:=xs.filter fun y=>decide (lt (k y) q)
def vW (lt:κ->κ->Prop) [DecidableRel lt] (k:α->κ) (xs:List α) (q:κ):List α:=xs.filter fun y=>decide (lt q (k y))
def Pe [DecidableEq κ] (k:α->κ) (xs:List α) (q:κ):List α:=xs.filter fun y=>decide (k y≠q)
def Bq (lt:κ->κ->Prop) [DecidableRel lt] (k:α->κ) (xs:List α) (x:α):List α:=qX lt k xs (k x) ++ x :: vW lt k xs (k x)
def mZ (lt:κ->κ->Prop) (k:α->κ) (xs:List α):Prop:=xs.Pairwise fun a b=>lt (k a) (k b)
def Ef [DecidableEq κ] (k:α->κ) (xs:List α) (q:κ):Option α:=xs.find? fun y=>decide (k y=q)
theorem vI {p:α->Bool} {l:List α} (h:∀ x∈l,p x=false):l.filter p=[]:=List.filter_eq_nil_iff.2 fun x hx=>by rw [h x hx];decide
theorem filter_all {p:α->Bool} {l:List α} (h:∀ x∈l,p x=true):l.filter p=l:=List.filter_eq_self.2 h
theorem oL [DecidableRel lt] [DecidableEq κ] (ho:pJ lt) {xs:List α} (h:mZ lt k xs) (q:κ) :
  (Ef k xs q=none/\xs=qX lt k xs q ++ vW lt k xs q) ∨ ∃ y,Ef k xs q=some y/\k y=q/\xs=qX lt k xs q ++ y :: vW lt k xs q:=by
 induction xs with
 | nil=>exact .inl ⟨rfl,rfl⟩
 | cons a t ih =>
   obtain ⟨g,j⟩:=List.pairwise_cons.1 h;rcases ho.tri (k a) q with hl | he | hg
   . have d:qX lt k (a :: t) q=a :: qX lt k t q:=by unfold qX;rw [List.filter_cons];simp [hl]
     have c:vW lt k (a :: t) q=vW lt k t q:=by unfold vW;rw [List.filter_cons];simp [ho.asym hl]
     have i:Ef k (a :: t) q=Ef k t q:=by unfold Ef;rw [List.find?_cons];simp [ho.ne hl]
     rw [d,c,i];rcases ih j with ⟨i1,i2⟩ | ⟨y,i1,i2,i3⟩
     . exact .inl ⟨i1,by rw [List.cons_append,<-i2]⟩
     . exact .inr ⟨y,i1,i2,by rw [List.cons_append,<-i3]⟩
   . subst he
     have d:qX lt k (a :: t) (k a)=[]:=vI fun x b=>by
      rcases List.mem_cons.1 b with rfl | b
      . exact decide_eq_false (ho.irr _)
      . exact decide_eq_false (ho.asym (g x b))
     have c:vW lt k (a :: t) (k a)=t:=by
      unfold vW;rw [List.filter_cons,if_neg (by simpa using ho.irr (k a))];exact filter_all fun x b=>decide_eq_true (g x b)
     exact .inr ⟨a,by unfold Ef;rw [List.find?_cons];simp,rfl,by rw [d,c];rfl⟩
   . have f:∀ x∈a :: t,lt q (k x):=fun x b=>by
      rcases List.mem_cons.1 b with rfl | b
      . exact hg
      . exact ho.tr hg (g x b)
     have d:qX lt k (a :: t) q=[]:=vI fun x b=>decide_eq_false (ho.asym (f x b));have c:vW lt k (a :: t) q=a :: t:=filter_all fun x b=>decide_eq_true (f x b);exact .inl ⟨by unfold Ef;rw [List.find?_eq_none];exact fun x b=>by simpa using (ho.ne (f x b)).symm,by rw [d,c];rfl⟩
theorem Ld [DecidableRel lt] [DecidableEq κ] (ho:pJ lt) {xs:List α} (h:mZ lt k xs) (q:κ):Pe k xs q=qX lt k xs q ++ vW lt k xs q:=by
 have b:∀ x∈qX lt k xs q,decide (k x≠q)=true:=fun x a=>by
  have:=(List.mem_filter.1 a).2;exact decide_eq_true (ho.ne (of_decide_eq_true this))
 have c:∀ x∈vW lt k xs q,decide (k x≠q)=true:=fun x a=>by
  have:=(List.mem_filter.1 a).2;exact decide_eq_true (ho.ne (of_decide_eq_true this)).symm
 unfold Pe;rcases oL ho h q with ⟨_,e⟩ | ⟨y,_,ey,e⟩
 . generalize qX lt k xs q=L at *
   generalize vW lt k xs q=G at *;rw [e,List.filter_append,filter_all b,filter_all c]
 . generalize qX lt k xs q=L at *
   generalize vW lt k xs q=G at *;rw [e,List.filter_append,List.filter_cons,filter_all b,filter_all c,if_neg (by simp [ey])]
theorem wZ {xs ys:List α} (h:mZ lt k xs) (hs:ys.Sublist xs):mZ lt k ys:=List.Pairwise.sublist hs h
theorem tu [DecidableEq κ] {xs:List α} (h:mZ lt k xs) (q:κ):mZ lt k (Pe k xs q):=wZ h List.filter_sublist
theorem xO [DecidableRel lt] (ho:pJ lt) {xs:List α} (h:mZ lt k xs) (x:α):mZ lt k (Bq lt k xs x):=by
 have f:∀ a∈qX lt k xs (k x),lt (k a) (k x):=fun a c=>of_decide_eq_true (List.mem_filter.1 c).2;have g:∀ a∈vW lt k xs (k x),lt (k x) (k a):=fun a c=>of_decide_eq_true (List.mem_filter.1 c).2;refine List.pairwise_append.2 ⟨wZ h List.filter_sublist,List.pairwise_cons.2 ⟨g,wZ h List.filter_sublist⟩,fun a c b d=>?_⟩;rcases List.mem_cons.1 d with rfl | d
 . exact f a c
 . exact ho.tr (f a c) (g b d)
theorem pI {p:α->Bool} : ∀ {l r:List α},(∀ x∈l,p x=true)->(∀ x,r.head?=some x->p x=false)->(l ++ r).takeWhile p=l/\(l ++ r).dropWhile p=r
 | [],[],_,_=>⟨rfl,rfl⟩
 | [],y :: r,_,h2=>by
   have:=h2 y rfl;exact ⟨by rw [List.nil_append,List.takeWhile_cons,this];rfl,by rw [List.nil_append,List.dropWhile_cons,this];rfl⟩
 | x :: l,r,h1,h2=>by
   have h0:=h1 x (List.mem_cons_self ..);obtain ⟨i1,i2⟩:=pI (l:=l) (r:=r) (fun y hy=>h1 y (List.mem_cons_of_mem _ hy)) h2;exact ⟨by rw [List.cons_append,List.takeWhile_cons,h0,if_pos rfl,i1],by rw [List.cons_append,List.dropWhile_cons,h0,if_pos rfl,i2]⟩
theorem U0 [DecidableRel lt] [DecidableEq κ] (ho:pJ lt) {xs:List α} (h:mZ lt k xs) (q:κ):(xs.takeWhile fun x=>decide (lt (k x) q)).length=(qX lt k xs q).length:=by
 have d:∀ x∈qX lt k xs q,decide (lt (k x) q)=true:=fun a c=>(List.mem_filter.1 c).2;have f:∀ a∈vW lt k xs q,lt q (k a):=fun a c=>of_decide_eq_true (List.mem_filter.1 c).2;rcases oL ho h q with ⟨_,e⟩ | ⟨y,_,ey,e⟩
 . generalize qX lt k xs q=L at *
   generalize vW lt k xs q=G at *;rw [e,(pI d fun x b=>decide_eq_false (ho.asym (f x (List.mem_of_mem_head? b)))).1]
 . generalize qX lt k xs q=L at *
   generalize vW lt k xs q=G at *
   rw [e,(pI d fun x b=>by
    simp only [List.head?_cons,Option.some.injEq] at b;subst b;exact decide_eq_false (by rw [ey];exact ho.irr _)).1]
theorem NU [DecidableRel lt] [DecidableEq κ] (ho:pJ lt) {xs:List α} (h:mZ lt k xs) {x y:α} (hf:Ef k xs (k x)=some y):xs.set (qX lt k xs (k x)).length x=Bq lt k xs x:=by
 unfold Bq;rcases oL ho h (k x) with ⟨e0,_⟩ | ⟨z,e0,_,e⟩
 . rw [hf] at e0;cases e0
 . generalize qX lt k xs (k x)=L at *
   generalize vW lt k xs (k x)=G at *;rw [e];simp
theorem NE [DecidableRel lt] [DecidableEq κ] (ho:pJ lt) {xs:List α} (h:mZ lt k xs) {x:α} (hf:Ef k xs (k x)=none):xs.take (qX lt k xs (k x)).length ++ x :: xs.drop (qX lt k xs (k x)).length=Bq lt k xs x:=by
 unfold Bq;rcases oL ho h (k x) with ⟨_,e⟩ | ⟨z,e0,_⟩
 . generalize qX lt k xs (k x)=L at *
   generalize vW lt k xs (k x)=G at *;rw [e];simp
 . rw [hf] at e0;cases e0
theorem PU [DecidableRel lt] [DecidableEq κ] (ho:pJ lt) {xs:List α} (h:mZ lt k xs) {q:κ} {y:α} (hf:Ef k xs q=some y):xs.take (qX lt k xs q).length ++ xs.drop ((qX lt k xs q).length+1)=Pe k xs q:=by
 rw [Ld ho h];rcases oL ho h q with ⟨e0,_⟩ | ⟨z,e0,_,e⟩
 . rw [hf] at e0;cases e0
 . generalize qX lt k xs q=L at *
   generalize vW lt k xs q=G at *;rw [e];simp
theorem PQ [DecidableEq κ] {xs:List α} {q:κ} (hf:Ef k xs q=none):Pe k xs q=xs:=filter_all fun x hx=>by
 have:=List.find?_eq_none.1 hf x hx;simpa using this
theorem Tm [DecidableRel lt] [DecidableEq κ] (ho:pJ lt) {xs:List α} (h:mZ lt k xs) {q:κ} {y:α} (hf:Ef k xs q=some y):xs[(qX lt k xs q).length]?=some y:=by
 rcases oL ho h q with ⟨e0,_⟩ | ⟨z,e0,_,e⟩
 . rw [hf] at e0;cases e0
 . rw [hf] at e0
   cases e0;generalize qX lt k xs q=L at *;generalize vW lt k xs q=G at *;rw [e];simp
theorem Ag [DecidableEq κ] {xs:List α} {q:κ} {y:α} (h:Ef k xs q=some y):y∈xs/\k y=q:=⟨List.mem_of_find?_eq_some h,by simpa using List.find?_some h⟩
theorem EM [DecidableRel lt] [DecidableEq κ] (ho:pJ lt) {xs:List α} (h:mZ lt k xs) {y:α} (hy:y∈xs):Ef k xs (k y)=some y:=by
 rcases oL ho h (k y) with ⟨e0,_⟩ | ⟨z,e0,ez,e⟩
 . have:=List.find?_eq_none.1 e0 y hy
   simp at this
 . have:y∈qX lt k xs (k y) ++ z :: vW lt k xs (k y):=e ▸ hy
   rcases List.mem_append.1 this with h1 | h1
   . exact absurd (of_decide_eq_true (List.mem_filter.1 h1).2) (ho.irr _)
   . rcases List.mem_cons.1 h1 with rfl | h1
     . exact e0
     . exact absurd (of_decide_eq_true (List.mem_filter.1 h1).2) (ho.irr _)
theorem yz [DecidableRel lt] {xs:List α} {x y:α} (ho:pJ lt):y∈Bq lt k xs x ↔ y=x ∨ (y∈xs/\k y≠k x):=by
 unfold Bq qX vW;rw [List.mem_append,List.mem_cons,List.mem_filter,List.mem_filter];simp only [decide_eq_true_eq];constructor
 . rintro (⟨a,b⟩ | rfl | ⟨a,b⟩)
   . exact .inr ⟨a,ho.ne b⟩
   . exact .inl rfl
   . exact .inr ⟨a,(ho.ne b).symm⟩
 . rintro (rfl | ⟨a,b⟩)
   . exact .inr (.inl rfl)
   . rcases ho.tri (k y) (k x) with h | h | h
     . exact .inl ⟨a,h⟩
     . exact absurd h b
     . exact .inr (.inr ⟨a,h⟩)
theorem tY (ho:pJ lt):∀ {xs ys:List α},mZ lt k xs->mZ lt k ys->(∀ a,a∈xs ↔ a∈ys)->xs=ys
 | [],[],_,_,_=>rfl
 | [],y :: ys,_,_,h=>by have:=(h y).2 (List.mem_cons_self ..);cases this
 | x :: xs,[],_,_,h=>by have:=(h x).1 (List.mem_cons_self ..);cases this
 | x :: xs,y :: ys,h1,h2,h=>by
   obtain ⟨a1,a2⟩:=List.pairwise_cons.1 h1;obtain ⟨b1,b2⟩:=List.pairwise_cons.1 h2
   have e:x=y:=by
    rcases List.mem_cons.1 ((h x).1 (List.mem_cons_self ..)) with e | h3
    . exact e
    . rcases List.mem_cons.1 ((h y).2 (List.mem_cons_self ..)) with e | h4
      . exact e.symm
      . exact absurd (b1 x h3) (ho.asym (a1 y h4))
   subst e;rw [tY ho a2 b2 fun a=>?_];constructor
   . intro b
     rcases List.mem_cons.1 ((h a).1 (List.mem_cons_of_mem _ b)) with rfl | hb
     . exact absurd (a1 a b) (ho.irr _)
     . exact hb
   . intro b
     rcases List.mem_cons.1 ((h a).2 (List.mem_cons_of_mem _ b)) with rfl | hb
     . exact absurd (b1 a b) (ho.irr _)
     . exact hb
end Go.Proofs.YtomhbcfjhgecbaaGreatDoor.Osg
namespace Go.Proofs.YtomhbcfjhgecbaaGreatDoor
open Go.RowKit Go.Sort Go.Lib
open Adr (eY ul)
abbrev vT:=ByteArray × ByteArray
abbrev CV (a b:vT):Prop:=dI a b < 0
abbrev Tz (a b:ByteArray):Prop:=dL a b < 0
theorem ut (a b:vT):dI b a = -dI a b:=by
 have f:=nH a.1 b.1;have c:=nH a.2 b.2;unfold dI iG iG iG;rw [f,c]
 by_cases d:dL a.1 b.1=0 <;> by_cases g:dL a.2 b.2=0 <;> simp [d,g]
theorem jO:Osg.pJ CV where
 irr a h:=by have:=jQ.2 (rfl:a=a);unfold CV at h;omega
 tr h1 h2:=xw h1 h2
 tri a b:=by
  have h:=ut a b;unfold CV
  by_cases e:dI a b=0
  . exact .inr (.inl (jQ.1 e))
  . by_cases l:dI a b < 0
    . exact .inl l
    . exact .inr (.inr (by omega))
theorem MX:Osg.pJ Tz where
 irr a h:=by have:=nJ a;unfold Tz at h;omega
 tr h1 h2:=by unfold Tz at *;rw [pg] at *;exact List.lt_trans h1 h2
 tri a b:=by
  have h:=nH a b;unfold Tz
  by_cases e:dL a b=0
  . exact .inr (.inl (fV.1 e))
  . by_cases l:dL a b < 0
    . exact .inl l
    . exact .inr (.inr (by omega))
theorem wC {xs:List Ins} (h:fJ xs) (q:vT):pY xs q=(Osg.qX CV aP xs q).length:=Osg.U0 jO h q
def iO (xs:List Ins) (q:vT):Option Ins:=Osg.Ef aP xs q
theorem vZ (xs:List Ins) (q:vT):jK xs q=(iO xs q).isSome:=by
 unfold jK iO Osg.Ef;rw [List.isSome_find?]
def iW (xs:List Ins) (x:Ins):List Ins:=Osg.Bq CV aP xs x
def nS (xs:List Ins) (q:vT):List Ins:=Osg.Pe aP xs q
theorem AV {xs:List Ins} (h:fJ xs) {q:vT} {y:Ins} (hf:iO xs q=some y):∃ hl:pY xs q < xs.length,xs[pY xs q]=y:=by
 have:=Osg.Tm jO h hf;rw [<-wC h] at this;obtain ⟨a,b⟩:=List.getElem?_eq_some_iff.1 this;exact ⟨a,b⟩
theorem Pq (xs:List Ins) (q:vT):pY xs q<=xs.length:=by
 unfold pY;exact (List.takeWhile_sublist _).length_le
theorem Ee {xs:List Ins} (h:fJ xs) {x y:Ins} (hf:iO xs (aP x)=some y):xs.set (pY xs (aP x)) x=iW xs x:=by
 rw [wC h];exact Osg.NU jO h hf
theorem Nh {xs:List Ins} (h:fJ xs) {x:Ins} (hf:iO xs (aP x)=none):xs.take (pY xs (aP x)) ++ x :: xs.drop (pY xs (aP x))=iW xs x:=by
 rw [wC h];exact Osg.NE jO h hf
theorem OI {xs:List Ins} (h:fJ xs) {q:vT} {y:Ins} (hf:iO xs q=some y):xs.take (pY xs q) ++ xs.drop (pY xs q+1)=nS xs q:=by
 rw [wC h];exact Osg.PU jO h hf
theorem EX {xs:List Ins} {q:vT} (hf:iO xs q=none):nS xs q=xs:=Osg.PQ hf
def jo (n:Nat):ByteArray:=⟨(Lib.decDigits n).toArray⟩
def Gn (xs:List Ins) (ad:ByteArray):Nat->Nat->Nat
 | 0,n=>n
 | f+1,n=>if jK xs (ad,jo n) then Gn xs ad f (n+1) else n
theorem Ia:∀ u:Nat,eY (Lib.decDigits u)=u:=by
 intro u
 induction u using Nat.strongRecOn with
 | ind u ih =>
   rw [Lib.decDigits]
   by_cases h:u < 10
   . rw [dif_pos h]
     unfold eY;simp only [List.foldl_cons,List.foldl_nil];rw [UInt8.toNat_ofNat_of_lt' (by show 48+u < 256;omega)];omega
   . rw [dif_neg h,ul,ih (u / 10) (by omega),UInt8.toNat_ofNat_of_lt' (by show 48+u % 10 < 256;omega)]
     omega
theorem Ou {i j:Nat} (h:jo i=jo j):i=j:=by
 have a:Lib.decDigits i=Lib.decDigits j:=by
  have:=congrArg (fun b:ByteArray=>b.data.toList) h;simpa [jo] using this
 rw [<-Ia i,a,Ia]
theorem EH {α:Type} [DecidableEq α]:∀ {a b:List α},a.Nodup->(∀ x∈a,x∈b)->a.length<=b.length
 | [],_,_,_=>Nat.zero_le _
 | x :: a,b,h,hs=>by
   obtain ⟨h1,h2⟩:=List.nodup_cons.1 h;have hx:=hs x (List.mem_cons_self ..);have:=EH (a:=a) (b:=b.erase x) h2 fun y hy=>(List.mem_erase_of_ne (fun e=>h1 (by rw [<-e];exact hy))).2 (hs y (List.mem_cons_of_mem _ hy));rw [List.length_erase_of_mem hx] at this;have hp:=List.length_pos_of_mem hx;simp only [List.length_cons];omega
theorem PD {xs:List Ins} {ad:ByteArray} {n:Nat} (h:∀ j,1<=j->j < n->jK xs (ad,jo j)=true):n<=xs.length+1:=by
 have m:((List.range (n - 1)).map fun j=>((ad,jo (j+1)):vT)).Nodup:=by
  refine List.Pairwise.map _ (fun a b c=>c) ?_;refine List.Pairwise.imp_of_mem (l:=List.range (n - 1)) (R:=fun a b=>a≠b) ?_ List.nodup_range;intro a b f d c e;have f:=List.mem_range.1 f;have d:=List.mem_range.1 d;have:=Ou (congrArg Prod.snd e);omega
 have o:=EH m (b:=xs.map aP) fun q k=>by
  obtain ⟨j,g,rfl⟩:=List.mem_map.1 k;have g:=List.mem_range.1 g;obtain ⟨x,i,e⟩:=EW.1 (h (j+1) (by omega) (by omega));exact List.mem_map.2 ⟨x,i,e⟩
 simp only [List.length_map,List.length_range] at o;omega
theorem zL (xs:List Ins) (ad:ByteArray):∀ (f n:Nat),n+f=1+(xs.length+1)->1<=n->(∀ j,1<=j->j < n->jK xs (ad,jo j)=true)->jK xs (ad,jo (Gn xs ad f n))=false/\n<=Gn xs ad f n/\Gn xs ad f n<=xs.length+1/\∀ j,1<=j->j < Gn xs ad f n->jK xs (ad,jo j)=true
 | 0,n,he,h1,h=>by have:=PD (n:=n) h;omega
 | f+1,n,he,h1,h=>by
   unfold Gn;cases hf:jK xs (ad,jo n) with
   | true =>
     rw [if_pos rfl]
     obtain ⟨a1,a2,a3,a4⟩:=zL xs ad f (n+1) (by omega) (by omega) fun j hj hjn=>by
      by_cases e:j=n
      . subst e;exact hf
      . exact h j hj (by omega)
     exact ⟨a1,by omega,a3,a4⟩
   | false =>
     rw [if_neg (by decide)];exact ⟨hf,Nat.le_refl _,by omega,h⟩
def xI (xs:List Ins) (ad:ByteArray):Nat:=Gn xs ad (xs.length+1) 1
theorem uB (xs:List Ins) (ad:ByteArray):jK xs (ad,jo (xI xs ad))=false/\1<=xI xs ad/\xI xs ad<=xs.length+1/\∀ j,1<=j->j < xI xs ad->jK xs (ad,jo j)=true:=
 zL xs ad _ 1 (by omega) (by omega) fun j h1 h2=>by omega
def uH (x:Ins) (n:Nat):Ins:={ x with de:=jo n }
def vV (xs:List Ins) (ad:ByteArray):Option (List Ins × ByteArray):=match iO xs (ad,ByteArray.empty) with
 | none=>none
 | some x=>some (iW (nS xs (ad,ByteArray.empty)) (uH x (xI xs ad)),jo (xI xs ad))
def mW (s:fU) (ad:ByteArray):Bool:=s.ins.any (fun x=>decide (x.ad=ad)) || s.pen.any (fun p=>decide (p.ad=ad))
def oG (a b:ByteArray) (x:Ins):Ins:=if x.ad=a then { x with ad:=b } else x
def sD (a b:ByteArray) (p:Pnd):Pnd:=if p.ad=a then { p with ad:=b } else p
def JL (xs:List Ins) (a b:ByteArray):List Ins:=xs.foldl (fun ys x=>if x.ad=a then iW (nS ys (a,x.de)) { x with ad:=b } else ys) xs
def Kt (s:fU) (a b:ByteArray):fU:={ s with ins:=JL s.ins a b,pen:=s.pen.map (sD a b) }
theorem yC (a b:ByteArray) (hab:a≠b):∀ (xs ys:List Ins),fJ ys->(∀ x∈xs,x.ad=a->x∈ys)->fJ xs ->
  fJ (xs.foldl (fun ys x=>if x.ad=a then iW (nS ys (a,x.de)) { x with ad:=b } else ys) ys) /\
  ∀ z,z∈xs.foldl (fun ys x=>if x.ad=a then iW (nS ys (a,x.de)) { x with ad:=b } else ys) ys ↔
   (∃ x∈xs,x.ad=a/\z={ x with ad:=b }) ∨ (z∈ys/\(∀ x∈xs,x.ad=a->aP z≠(a,x.de)/\aP z≠(b,x.de)))
 | [],ys,hy,_,_=>⟨hy,fun z=>by simp⟩
 | x :: xs,ys,hy,hm,hx=>by
   obtain ⟨hx1,hx2⟩:=List.pairwise_cons.1 hx;rw [List.foldl_cons]
   by_cases e:x.ad=a
   . rw [if_pos e]
     have hne:∀ x'∈xs,x'.ad=a->x'.de≠x.de:=fun x' h' e' ed=>by
      have:=hx1 x' h';rw [show aP x'=aP x by unfold aP;rw [e,e',ed],jQ.2 rfl] at this;omega
     obtain ⟨i1,i2⟩:=yC a b hab xs (iW (nS ys (a,x.de)) { x with ad:=b }) (Osg.xO jO (Osg.tu (show Osg.mZ CV aP ys from hy) _) _) (fun x' h' e'=>by
      refine (Osg.yz jO).2 (.inr ⟨List.mem_filter.2 ⟨hm x' (List.mem_cons_of_mem _ h') e',?_⟩,?_⟩)
      . refine decide_eq_true fun h=>hne x' h' e' ?_
        exact congrArg Prod.snd h
      . intro h
        exact hab (e'.symm.trans (congrArg Prod.fst h))) hx2
     refine ⟨i1,fun z=>?_⟩;rw [i2 z];unfold iW nS;rw [Osg.yz jO];unfold Osg.Pe;rw [List.mem_filter];constructor
     . rintro (⟨x',h',e',rfl⟩ | ⟨rfl | ⟨⟨h1,h2⟩,h3⟩,h4⟩)
       . exact .inl ⟨x',List.mem_cons_of_mem _ h',e',rfl⟩
       . exact .inl ⟨x,List.mem_cons_self ..,e,rfl⟩
       . refine .inr ⟨h1,fun x' h' e'=>?_⟩
         rcases List.mem_cons.1 h' with rfl | h'
         . exact ⟨of_decide_eq_true h2,h3⟩
         . exact h4 x' h' e'
     . rintro (⟨x',h',e',rfl⟩ | ⟨h1,h2⟩)
       . rcases List.mem_cons.1 h' with rfl | h'
         . refine .inr ⟨.inl rfl,fun x'' h'' e''=>⟨fun h=>hab (congrArg Prod.fst h).symm,fun h=>hne x'' h'' e'' (congrArg Prod.snd h).symm⟩⟩
         . exact .inl ⟨x',h',e',rfl⟩
       . have h3:=h2 x (List.mem_cons_self ..) e
         exact .inr ⟨.inr ⟨⟨h1,decide_eq_true h3.1⟩,h3.2⟩,fun x' h' e'=>h2 x' (List.mem_cons_of_mem _ h') e'⟩
   . rw [if_neg e]
     obtain ⟨i1,i2⟩:=yC a b hab xs ys hy (fun x' h' e'=>hm x' (List.mem_cons_of_mem _ h') e') hx2;refine ⟨i1,fun z=>?_⟩;rw [i2 z];constructor
     . rintro (⟨x',h',e',rfl⟩ | ⟨h1,h2⟩)
       . exact .inl ⟨x',List.mem_cons_of_mem _ h',e',rfl⟩
       . refine .inr ⟨h1,fun x' h' e'=>?_⟩
         rcases List.mem_cons.1 h' with rfl | h'
         . exact absurd e' e
         . exact h2 x' h' e'
     . rintro (⟨x',h',e',rfl⟩ | ⟨h1,h2⟩)
       . rcases List.mem_cons.1 h' with rfl | h'
         . exact absurd e' e
         . exact .inl ⟨x',h',e',rfl⟩
       . exact .inr ⟨h1,fun x' h' e'=>h2 x' (List.mem_cons_of_mem _ h') e'⟩
theorem kz {xs:List Ins} (h:fJ xs) {a b:ByteArray} (hab:a≠b) (hb:∀ x∈xs,x.ad≠b):fJ (JL xs a b)/\∀ z,z∈JL xs a b ↔ z∈xs.map (oG a b):=by
 obtain ⟨j,i⟩:=yC a b hab xs xs h (fun x c _=>c) h;refine ⟨j,fun z=>(i z).trans ?_⟩;rw [List.mem_map];constructor
 . rintro (⟨x,g,d,rfl⟩ | ⟨f,k⟩)
   . exact ⟨x,g,by unfold oG;rw [if_pos d]⟩
   . refine ⟨z,f,?_⟩
     unfold oG;rw [if_neg];intro e;have:=(k z f e).1;apply this;unfold aP;rw [e]
 . rintro ⟨x,c,rfl⟩
   unfold oG
   by_cases e:x.ad=a
   . rw [if_pos e]
     exact .inl ⟨x,c,e,rfl⟩
   . rw [if_neg e]
     refine .inr ⟨c,fun l g d=>⟨fun h=>e (congrArg Prod.fst h),fun h=>hb x c (congrArg Prod.fst h)⟩⟩
theorem Q8 {a b:ByteArray} {x y:Ins} (hx:x.ad≠b) (hy:y.ad≠b) (h:aP (oG a b x)=aP (oG a b y)):aP x=aP y:=by
 unfold oG aP at *
 by_cases c:x.ad=a <;> by_cases d:y.ad=a
 . rw [if_pos c,if_pos d] at h
   have f:x.de=y.de:=congrArg Prod.snd h;exact Prod.ext (c.trans d.symm) f
 . rw [if_pos c,if_neg d] at h
   exact absurd (congrArg Prod.fst h).symm hy
 . rw [if_neg c,if_pos d] at h
   exact absurd (congrArg Prod.fst h) hx
 . rw [if_neg c,if_neg d] at h
   exact h
theorem D7 {xs ys:List Ins} (h:fJ xs) {a b:ByteArray} (hab:a≠b) (hb:∀ x∈xs,x.ad≠b) (hp:ys.Perm (xs.map (oG a b))) (hs:ys.Pairwise fun u v=>¬ dI (aP v) (aP u) < 0):ys=JL xs a b:=by
 obtain ⟨f,d⟩:=kz h hab hb
 have l:(xs.map (oG a b)).Pairwise fun u v=>aP u≠aP v:=by
  refine List.pairwise_map.2 ((List.Pairwise.and_mem.1 h).imp ?_);rintro u v ⟨g,i,j⟩ e;have:=Q8 (hb u g) (hb v i) e;rw [this,jQ.2 rfl] at j;omega
 have c:ys.Pairwise fun u v=>aP u≠aP v:=(hp.pairwise_iff fun h=>Ne.symm h).2 l;refine Osg.tY (k:=aP) jO ((hs.and c).imp ?_) f fun z=>(hp.mem_iff).trans (d z).symm;rintro u v ⟨p,m⟩;have o:=ut (aP u) (aP v);have n:dI (aP u) (aP v)≠0:=fun e=>m (jQ.1 e);omega
theorem Dw {a b:ByteArray} {x:Ins} (hx:x.ad≠b):oG b a (oG a b x)=x:=by
 unfold oG
 by_cases e:x.ad=a
 . rw [if_pos e,if_pos rfl]
   cases x;simp only at e;rw [e]
 . rw [if_neg e,if_neg hx]
theorem Ny {a b:ByteArray} {x:Pnd} (hx:x.ad≠b):sD b a (sD a b x)=x:=by
 unfold sD
 by_cases e:x.ad=a
 . rw [if_pos e,if_pos rfl]
   cases x;simp only at e;rw [e]
 . rw [if_neg e,if_neg hx]
theorem EC {xs:List Ins} (h:fJ xs) {a b:ByteArray} (hab:a≠b) (hb:∀ x∈xs,x.ad≠b):∀ z∈JL xs a b,z.ad≠a:=fun z hz=>by
 obtain ⟨x,hx,rfl⟩:=List.mem_map.1 (((kz h hab hb).2 z).1 hz);unfold oG
 by_cases e:x.ad=a
 . rw [if_pos e];exact hab.symm
 . rw [if_neg e];exact e
theorem Np {xs:List Ins} (h:fJ xs) {a b:ByteArray} (hab:a≠b) (hb:∀ x∈xs,x.ad≠b):JL (JL xs a b) b a=xs:=by
 obtain ⟨j,f⟩:=kz h hab hb;obtain ⟨g,l⟩:=kz j hab.symm (EC h hab hb);refine Osg.tY (k:=aP) jO g h fun z=>(l z).trans ?_;rw [List.mem_map];constructor
 . rintro ⟨y,i,rfl⟩
   obtain ⟨x,d,rfl⟩:=List.mem_map.1 ((f y).1 i);rw [Dw (hb x d)];exact d
 . intro c
   exact ⟨oG a b z,(f _).2 (List.mem_map_of_mem c),Dw (hb z c)⟩
theorem nR {s:fU} {b:ByteArray} (h:mW s b=false):(∀ x∈s.ins,x.ad≠b)/\∀ p∈s.pen,p.ad≠b:=by
 unfold mW at h;rw [Bool.or_eq_false_iff,List.any_eq_false,List.any_eq_false] at h;exact ⟨fun x a=>by simpa using h.1 x a,fun x a=>by simpa using h.2 x a⟩
theorem Oe {s:fU} (h:fJ s.ins) {a b:ByteArray} (hab:a≠b) (hb:mW s b=false):Kt (Kt s a b) b a=s:=by
 obtain ⟨d,c⟩:=nR hb;unfold Kt;simp only [Np h hab d,List.map_map]
 have:s.pen.map (sD b a ∘ sD a b)=s.pen:=by
  conv=>rhs;rw [<-List.map_id s.pen]
  exact List.map_congr_left fun p f=>Ny (c p f)
 rw [this]
def kS (out:List ByteArray) (x:Ins):List ByteArray:=if out.getLast?=some x.ad then out else out ++ [x.ad]
def rC (xs:List Ins):List ByteArray:=xs.foldl kS []
theorem Jw (xs:List Ins) (x:Ins):rC (xs ++ [x])=kS (rC xs) x:=by unfold rC;rw [List.foldl_append];rfl
theorem JG {xs:List Ins} {k:Nat} (h:k < xs.length):rC (xs.take (k+1))=kS (rC (xs.take k)) xs[k]:=by rw [List.take_succ_eq_append_getElem h,Jw]
theorem LC (xs:List Ins):(rC xs).length<=xs.length:=by
 unfold rC
 have:∀ (xs:List Ins) (a:List ByteArray),(xs.foldl kS a).length<=a.length+xs.length:=by
  intro xs
  induction xs with
  | nil=>intro a;simp
  | cons x xs ih =>
    intro a;rw [List.foldl_cons];have:=ih (kS a x);have b:(kS a x).length<=a.length+1:=by unfold kS;split <;> simp
    simp only [List.length_cons];omega
 have:=this xs [];simpa using this
def kR (xs:List Ins) (d:ByteArray):Nat:=xs.countP fun x=>decide (x.id=d)
theorem Ot {xs:List Ins} (h:fJ xs) {q:vT} {y:Ins} (hf:iO xs q=some y):xs.Perm (y :: nS xs q):=by
 have a:=Osg.Ld jO h q;rcases Osg.oL jO h q with ⟨e0,_⟩ | ⟨z,e0,_,e⟩
 . unfold iO at hf;rw [hf] at e0;cases e0
 . unfold iO at hf;rw [hf] at e0;cases e0
   unfold nS;rw [a];generalize Osg.qX CV aP xs q=L at *;generalize Osg.vW CV aP xs q=G at *;rw [e];exact List.perm_middle
theorem Dp {xs:List Ins} (h:fJ xs) {x:Ins} (hf:iO xs (aP x)=none):(iW xs x).Perm (x :: xs):=by
 unfold iW Osg.Bq;rcases Osg.oL jO h (aP x) with ⟨_,e⟩ | ⟨z,e0,_,e⟩
 . generalize Osg.qX CV aP xs (aP x)=L at *
   generalize Osg.vW CV aP xs (aP x)=G at *;rw [e];exact List.perm_middle
 . unfold iO at hf;rw [hf] at e0;cases e0
theorem S9 {xs:List Ins} {q p:vT} (h:iO xs p=none):iO (nS xs q) p=none:=by
 unfold iO Osg.Ef nS Osg.Pe at *;rw [List.find?_eq_none] at *;exact fun x a=>h x (List.mem_filter.1 a).1
theorem tH {xs:List Ins} {q:vT} : iO xs q=none ↔ jK xs q=false:=by
 rw [vZ];cases iO xs q <;> simp
theorem MB {xs ys:List Ins} (h:fJ xs) {ad k:ByteArray} (hd:vV xs ad=some (ys,k)):∃ x,iO xs (ad,ByteArray.empty)=some x/\xs.Perm (x :: nS xs (ad,ByteArray.empty))/\ys.Perm (uH x (xI xs ad) :: nS xs (ad,ByteArray.empty))/\ys=iW (nS xs (ad,ByteArray.empty)) (uH x (xI xs ad))/\k=jo (xI xs ad)/\fJ ys:=by
 unfold vV at hd;cases a:iO xs (ad,ByteArray.empty) with
 | none=>rw [a] at hd;cases hd
 | some x =>
   rw [a] at hd;simp only [Option.some.injEq,Prod.mk.injEq] at hd;obtain ⟨rfl,rfl⟩:=hd;have b:x.ad=ad:=congrArg Prod.fst (Osg.Ag a).2;refine ⟨x,rfl,Ot h a,Dp (Osg.tu (show Osg.mZ CV aP xs from h) _) (S9 ?_),rfl,rfl,Osg.xO jO (Osg.tu (show Osg.mZ CV aP xs from h) _) _⟩;rw [tH];have:=(uB xs ad).1;unfold aP uH;rw [b];exact this
theorem Iw {xs:List Ins} (h:fJ xs) {a b:ByteArray} (hab:a≠b) (hb:∀ x∈xs,x.ad≠b):(JL xs a b).Perm (xs.map (oG a b)):=by
 have g:=List.mergeSort_perm (xs.map (oG a b)) (fun u v=>decide (¬ dI (aP v) (aP u) < 0))
 have i:=List.pairwise_mergeSort (le:=fun u v:Ins=>decide (¬ dI (aP v) (aP u) < 0)) (fun u v w f c=>by
  have f:=of_decide_eq_true f;have c:=of_decide_eq_true c;refine decide_eq_true fun d=>?_;rcases jO.tri (aP v) (aP u) with e | e | e
  . exact f e
  . rw [<-e] at d;exact c d
  . exact c (jO.tr d e)) (fun u v=>by
  rw [Bool.or_eq_true,decide_eq_true_eq,decide_eq_true_eq]
  by_cases e:dI (aP v) (aP u) < 0
  . exact .inr (jO.asym e)
  . exact .inl e) (xs.map (oG a b))
 have:=D7 h hab hb g (i.imp fun h=>of_decide_eq_true h);rw [<-this];exact g
theorem uT {xs ys:List Ins} (h:xs.Perm ys) (d:ByteArray):kR xs d=kR ys d:=h.countP_eq _
theorem Pv (xs:List Ins) (a b d:ByteArray):kR (xs.map (oG a b)) d=kR xs d:=by
 unfold kR;rw [List.countP_map]
 congr 1
 funext x;unfold oG;simp only [Function.comp];split <;> rfl
end Go.Proofs.YtomhbcfjhgecbaaGreatDoor
namespace Go.Proofs.YtomhbcfjhgecbaaGreatDoor
open Go.RowKit Go.Sort Go.Lib
open Go.Lib (hid)
theorem eF.more {α:Type} {enc:α->List Value} {P:World->α->Prop} {sz:Nat} {T:TypeId} {B:Nat} {wr w1 w2 w3 w4:World} {v:Value} {ys zs:List α} {g n cap:Nat} (hP:lF P) (h:eF enc P sz T B wr v ys) (hB:B<=wr.heap.size) (h1:Below wr.heap.size wr w1) (h2:Below w1.heap.size w1 w2)
  (hz:∀ z∈zs,z∈ys ∨ P (mask (bZ w1.heap.size) w2) z) (h3:Below w2.heap.size w2 w3) (hown:w4.ownsRow B T sz (.slice (some ⟨g,0,none⟩) n cap) zs.length (zs.flatMap enc)) (hg:w3.grownBy w4 v.ownBlock) (hat:v.ownBlock=some g ∨ g=w3.heap.size) :
  eF enc P sz T B w4 (.slice (some ⟨g,0,none⟩) n cap) zs:=by
 have l:=h1.size;have k:=h2.size;have j:=h3.size;refine ⟨hown,fun y d=>?_⟩;rcases hz y d with d | hx
 . refine hP _ _ y (bC fun b a f=>?_) (h.ok y d)
   have a:=eQ a;refine ⟨?_,?_⟩
   . refine lM a.1 (fun e=>?_)
     have e:g=b:=by simpa [Value.ownBlock] using e
     subst e;rcases hat with e | e
     . exact a.2 e
     . omega
   . rw [hg.block b (by omega) (fun e=>a.2 e.symm),h3.block b (by omega),h2.block b (by omega),h1.block b f]
 . refine hP _ _ y (bC fun b a f=>?_) hx
   simp only [bZ,decide_eq_true_eq] at a;have c:∀ i,v.ownBlock=some i->i≠b:=fun i e=>by have:=(cZ h.own e).2;omega
   refine ⟨?_,?_⟩
   . refine lM (by omega) (fun e=>?_)
     have e:g=b:=by simpa [Value.ownBlock] using e
     subst e;rcases hat with e | e
     . exact c _ e rfl
     . omega
   . rw [hg.block b (by omega) (fun e=>c b e.symm rfl),h3.block b f]
def Ug {α:Type} (bo:Nat) (P:World->α->Prop):World->α->Prop:=fun w y=>P (mask (fun b=>decide (b≠bo)) w) y
theorem LY {K:Nat->Bool} {w w':World} (h:gB w w'):gB (mask K w) (mask K w'):=fun b o v hc=>by
 obtain ⟨h1,h2⟩:=jk hc;exact gY h1 (h _ _ _ h2)
theorem Cb {α:Type} {bo:Nat} {P:World->α->Prop} (hP:lF P):lF (Ug bo P):=fun w w' y hs h=>hP _ _ y (LY hs) h
theorem eF.no {α:Type} {enc:α->List Value} {P:World->α->Prop} {sz:Nat} {T:TypeId} {B bo:Nat} {w w':World} {v:Value} {ys:List α} (hP:lF P) (h:eF enc P sz T B w v ys) (hk:∀ b,B<=b->b < w.heap.size->w'.heap[b]?=w.heap[b]?) (hbo:w.heap.size<=bo):eF enc (Ug bo P) sz T B w' v ys:=
 ⟨fD h.own fun g hg=>hk g (cZ h.own hg).1 (cZ h.own hg).2,fun y hy=>hP _ _ y (fun b o u hc=>by
  obtain ⟨h1,h2⟩:=jk hc;have hlt:b < w.heap.size:=World.block_lt_of_cell? w _ h2;have h3:=eQ h1;have h4:w'.cell? ⟨b,o,none⟩=some u:=(World.cell?_of_block (a:=⟨b,o,none⟩) (hk b h3.1 hlt)).trans h2;exact gY (decide_eq_true (by omega)) (gY h1 h4)) (h.ok y hy)⟩
theorem eF.store {α:Type} {enc:α->List Value} {P:World->α->Prop} {sz:Nat} {T:TypeId} {B bo:Nat} {w w':World} {v:Value} {ys:List α} (hP:lF P) (h:eF enc (Ug bo P) sz T B w v ys) (hg:v.ownBlock≠some bo) (hk:∀ b,b≠bo->w'.heap[b]?=w.heap[b]?):eF enc P sz T B w' v ys:=
 ⟨fD h.own fun g hg'=>hk g (fun e=>hg (e ▸ hg')),fun y hy=>hP _ _ y (fun b o u hc=>by
  obtain ⟨h1,h2⟩:=jk hc;obtain ⟨h3,h4⟩:=jk h2;exact gY h3 ((World.cell?_of_block (a:=⟨b,o,none⟩) (hk b (of_decide_eq_true h1))).trans h4)) (h.ok y hy)⟩
theorem eX.change {B B2:Nat} {w w':World} {s:fU} {p:Sp} {is is':List jW} {r:Option Addr} {c:Nat} {l:List Ins} (h:eX B B2 w s p is) (hk:∀ b,b < B2->B<=b->w'.heap[b]?=w.heap[b]?) (hr:eF ja Gu 13 41 B2 w' (.slice r is'.length c) is') (hm:is'.map (·.x)=l) (hs:B2<=w'.heap.size) :
  eX B B2 w' { s with ins:=l } ⟨r,c,p.rp,p.cp,p.ro,p.co⟩ is':=
 ⟨hr,hm,fD h.pen fun g hg=>hk g (h.penl g hg) (cZ h.pen hg).1,h.penl,h.penb,by
  have hst:gB (mask (I7 B B2 (.slice p.rp s.pen.length p.cp)) w) (mask (I7 B B2 (.slice p.rp s.pen.length p.cp)) w'):=bC fun b hb hl=>⟨hb,hk b (tC hb).1 (tC hb).2.2⟩;exact gK hst (fun _ _=>ji hst) h.out,h.ser,h.lin,h.le,hs⟩
theorem eX.zJ {B0 B B2:Nat} {w:World} {s:fU} {p:Sp} {is:List jW} (h:eX B B2 w s p is) (hB:B0<=B):dQ (mask (bZ B0) w) s p:=by
 have k:=h.le;refine ⟨?_,?_,?_,h.ser,h.lin⟩
 . have d:=eF.sl (R:=FI) (f:=fun y:jW=>y.x) aT iE (fun w y h=>QH h) h.ins
   rw [h.insx,h.EY] at d;have a:gB (mask (bZ B2) w) (mask (bZ B0) w):=iL fun b c=>by simp only [bZ,decide_eq_true_eq] at c ⊢;omega
   exact gK a (fun _ _=>zO a) d
 . have:=GG (R:=Kr) (f:=id) tZ (fun y i=>⟨rfl,h.penb y i⟩) (o9 (K:=bZ B0) h.pen fun g j=>by
    have:=cZ h.pen j;simp only [bZ,decide_eq_true_eq];omega)
   rwa [List.map_id] at this
 . have a:gB (mask (I7 B B2 (.slice p.rp s.pen.length p.cp)) w) (mask (bZ B0) w):=iL fun b c=>by
    have:=tC c;simp only [bZ,decide_eq_true_eq];omega
   exact gK a (fun _ _=>ji a) h.out
theorem qM {α β:Type} (f:α->β) (y:α):∀ (l:List α) (i:Nat),i<=l.length->(l.insertIdx i y).map f=(l.map f).take i ++ f y :: (l.map f).drop i
 | l,0,_=>by simp
 | [],i+1,h=>by cases h
 | a :: l,i+1,h=>by simp [qM f y l i (by simpa using h)]
theorem map_eraseIdx {α β:Type} (f:α->β):∀ (l:List α) (i:Nat),i < l.length->(l.eraseIdx i).map f=(l.map f).take i ++ (l.map f).drop (i+1)
 | [],i,h=>by cases h
 | a :: l,0,_=>by simp
 | a :: l,i+1,h=>by simp [map_eraseIdx f l i (by simpa using h)]
theorem xG {α:Type} {y z:α} {l:List α} {i:Nat} (h:z∈l.insertIdx i y):z=y ∨ z∈l:=by
 by_cases a:i<=l.length
 . exact (List.mem_insertIdx a).1 h
 . rw [List.insertIdx_of_length_lt (by omega)] at h;exact .inr h
namespace Stp
theorem rD {P:Program} {id:Nat} {Q:Exit->Act->World->Prop} {a:Act} {w:World} {x0 x1 x2 x3 x4 x5 x6:Oper} (sp:Nat->Option mP) (hm:P.follows .mixedOrders=true) (hB:Region.lexB .any [x0,x1,x2,x3,x4].toArray=true) (hL:yO [x0,x1,x2,x3,x4] [x5,x6]=true)
  (h:zV P .any [x0,x1,x2,x3,x4].toArray (fun w'=>∃ p:Regrown,w'=grow (redrawn w p.d) p.os) sp (fun E a'=>∀ w',FH w w'->(∀ j,E j w')->qB P Q [x5,x6] a' w') [x0,x1,x2,x3,x4] 0 (fun _ _=>True) a):(Code.region id [x0,x1,x2,x3,x4,x5,x6].toArray true).wp P Q a w:=
 lQ (l:=[x0,x1,x2,x3,x4]) (s:=[x5,x6]) sp rfl hm hB hL h
theorem rq {P:Program} {id:Nat} {Q:Exit->Act->World->Prop} {a:Act} {w:World} {x0 x1 x2 x3 x4 x5 x6 x7 x8:Oper} (sp:Nat->Option mP) (hm:P.follows .mixedOrders=true) (hB:Region.lexB .any [x0,x1,x2,x3,x4,x5].toArray=true) (hL:yO [x0,x1,x2,x3,x4,x5] [x6,x7,x8]=true)
  (h:zV P .any [x0,x1,x2,x3,x4,x5].toArray (fun w'=>∃ p:Regrown,w'=grow (redrawn w p.d) p.os) sp (fun E a'=>∀ w',FH w w'->(∀ j,E j w')->qB P Q [x6,x7,x8] a' w') [x0,x1,x2,x3,x4,x5] 0 (fun _ _=>True) a):(Code.region id [x0,x1,x2,x3,x4,x5,x6,x7,x8].toArray true).wp P Q a w:=
 lQ (l:=[x0,x1,x2,x3,x4,x5]) (s:=[x6,x7,x8]) sp rfl hm hB hL h
end Stp
theorem iK (w:World) (A B:Obj):∃ W0:World,W0=(w.alloc A).alloc B/\Below w.heap.size w W0/\W0.heap.size=w.heap.size+2/\W0.heap[w.heap.size]?=some A/\W0.heap[w.heap.size+1]?=some B:=by
 have d:(w.alloc A).heap.size=w.heap.size+1:=by simp
 obtain ⟨b,f⟩:=MapKept.heap_alloc w A;obtain ⟨a,c⟩:=MapKept.heap_alloc (w.alloc A) B;rw [d] at a;exact ⟨_,rfl,((Below.refl _ _).alloc (Nat.le_refl _) _).alloc (by simp) _,by simp,(c _ (by omega)).trans b,a⟩
theorem zg (w:World) (A B C:Obj):∃ W0:World,W0=((w.alloc A).alloc B).alloc C/\Below w.heap.size w W0/\W0.heap.size=w.heap.size+3/\W0.heap[w.heap.size]?=some A/\W0.heap[w.heap.size+1]?=some B/\W0.heap[w.heap.size+1+1]?=some C:=by
 have g:(w.alloc A).heap.size=w.heap.size+1:=by simp
 have f:((w.alloc A).alloc B).heap.size=w.heap.size+1+1:=by simp
 obtain ⟨d,j⟩:=MapKept.heap_alloc w A;obtain ⟨a,i⟩:=MapKept.heap_alloc (w.alloc A) B;obtain ⟨b,c⟩:=MapKept.heap_alloc ((w.alloc A).alloc B) C;rw [g] at a;rw [f] at b;exact ⟨_,rfl,(((Below.refl _ _).alloc (Nat.le_refl _) _).alloc (by simp) _).alloc (by simp;omega) _,by simp,(c _ (by omega)).trans ((i _ (by omega)).trans d),(c _ (by omega)).trans a,b⟩
open Stp (wq au mP sF bT aQ yS zD DZ Eg kW qj ai dm gQ aC ay aS aW dG)
attribute [local go_sem] Stp.di
attribute [local go_sem ↓] fQ
attribute [local go_sem] dV
attribute [local go_sem ↓] fK
attribute [local go_sem] dH bD bG bJ cu bQ dA bI cO
set_option maxRecDepth 100000 in
set_option maxHeartbeats 8000000 in
theorem Bj (s:fU) (p:Sp) (x:Ins) (q:Pt) (w:World) (h:dQ w s p) (hf:lI s) (hx:jf w x q) (hxf:BR x) (ha:fJ s.ins) (hn:s.ins.length+1<=1000000) :
  Calls Tryz.prog 21 #[.agg (bK s p),.agg (aH x q)] w fun e w'=>∃ p',e=.returned (.agg (bK { s with ins:=iW s.ins x } p'))/\dQ (mask (bZ w.heap.size) w') { s with ins:=iW s.ins x } p'/\Below w.heap.size w w':=by
 obtain ⟨ri,ci,rp,cp,ro,co⟩:=p;have bp:=hid (fun (W:World) (hW:Below w.heap.size w W)=>uD s ⟨ri,ci,rp,cp,ro,co⟩ W (aI hW h) hf);have bA:=hid (fun (W:World) (hW:Below w.heap.size w W)=>rE x q W (dh hW hx) hxf);have a3:=hid ha;have cA:=hid hf.i;clear h hf hx hxf ha;unfold bK at *;dsimp only at bp;have bg:=hid (show aH x q=#[.string x.ad,.string x.de,.string x.id,.string x.ty,.int .i64 x.at_.kind,.int .i64 x.at_.num,.string x.at_.str,.slice q.r x.at_.items.length q.c,.slice q.rk x.at_.keys.length q.ck,.int .i64 x.ver,.bool x.ta,.bool x.cf,.slice q.dr x.dp.length q.dc] from rfl);have bx:=hid (dD x q);rw [bg.out] at bx ⊢;go_enter Tryz.func21,Tryz.ntmps21;go_upto_region 1 with (fail)
 obtain ⟨W0,bE,bX,b0,am,bS,bv⟩:=zg w (.cells #[.string s.lin,.int .i64 s.ser,.slice ri s.ins.length ci,.slice rp s.pen.length cp,.slice ro s.out.length co] 26) (.cells #[.string x.ad,.string x.de,.string x.id,.string x.ty,.int .i64 x.at_.kind,.int .i64 x.at_.num,.string x.at_.str,.slice q.r x.at_.items.length q.c,.slice q.rk x.at_.keys.length q.ck,.int .i64 x.ver,.bool x.ta,.bool x.cf,.slice q.dr x.dp.length q.dc] 41) (.cells #[.string { data:=#[] },.int .i64 0,.slice none 0 0,.slice none 0 0,.slice none 0 0] 26);rw [<-bE];have E:=hid bX;have X:=hid b0;have cq:=hid bS;have br:=hid bv;have t0:=ae am 0 rfl;have t1:=ae am 1 rfl;have t2:=ae am 2 rfl;have t3:=ae am 3 rfl;have t4:=ae am 4 rfl;clear bE bX b0 am bS bv
 go_wp2_with (go_at_call 54
              refine (bp.out _ E.out).mono ?_;rintro e w2 ⟨p2,I,B2,rfl,bt,bw⟩;obtain ⟨M,C,Q,O,R,N⟩:=p2;have j:=hid bt;have bs:=hid bw;clear bt bw)
 have cE:=hid (j.out);have ab:=hid (show Below w2.heap.size w2 (w2.alloc (.cells #[.string s.lin,.int .i64 s.ser,.slice M s.ins.length C,.slice Q s.pen.length O,.slice R s.out.length N] 26)) from (Below.refl _ _).alloc (Nat.le_refl _) _);have a7:=hid (MapKept.heap_alloc w2 (.cells #[.string s.lin,.int .i64 s.ser,.slice M s.ins.length C,.slice Q s.pen.length O,.slice R s.out.length N] 26)).1;have a1:=hid (show (w2.alloc (.cells #[.string s.lin,.int .i64 s.ser,.slice M s.ins.length C,.slice Q s.pen.length O,.slice R s.out.length N] 26)).heap.size=w2.heap.size+1 by simp);generalize w2.alloc (.cells #[.string s.lin,.int .i64 s.ser,.slice M s.ins.length C,.slice Q s.pen.length O,.slice R s.out.length N] 26)=W3 at *;have S:=hid (bs.out.trans (ab.out.mono bs.out.size));have ba:=hid (fun (W:World) (hW:Below W0.heap.size W0 W)=>show eG W (w.heap.size+1) 0/\ik W (w.heap.size+1) 0=#[.string x.ad,.string x.de,.string x.id,.string x.ty,.int .i64 x.at_.kind,.int .i64 x.at_.num,.string x.at_.str,.slice q.r x.at_.items.length q.c,.slice q.rk x.at_.keys.length q.ck,.int .i64 x.ver,.bool x.ta,.bool x.cf,.slice q.dr x.dp.length q.dc] from dU ((hW.block _ (by have:=X.out;omega)).trans cq.out) bx.out);have cm:=hid (fun (W:World)=>show Calls Tryz.prog 33 #[.agg #[.string x.ad,.string x.de,.string x.id,.string x.ty,.int .i64 x.at_.kind,.int .i64 x.at_.num,.string x.at_.str,.slice q.r x.at_.items.length q.c,.slice q.rk x.at_.keys.length q.ck,.int .i64 x.ver,.bool x.ta,.bool x.cf,.slice q.dr x.dp.length q.dc]] W fun e w'=>e=.returned (.agg #[.string x.ad,.string x.de])/\Below W.heap.size W w' from jm x q W);have cx:=hid (j.out.NW.1);have a0:=hid (fun (W:World) (hW:Below w2.heap.size w2 W)=>lN M C s.ins (aP x) W (cx.out.below dB hW) a3.out cA.out);obtain ⟨L,hL⟩:∃ L,pY s.ins (aP x)=L:=⟨_,rfl⟩;obtain ⟨F,hF⟩:∃ F,jK s.ins (aP x)=F:=⟨_,rfl⟩;rw [hL,hF] at a0;unfold aP at a0;dsimp only at a0;have HL:=hid hL;have bO:=hid hF;have u2:=ae a7.out 2 rfl;have k1:=fun d os=>cell_regrown u2 d os;clear hL hF t0 t1 t2 t3 t4;refine au (fun k=>match k with | 2=>some (bT (.agg #[.string x.ad,.string x.de,.string x.id,.string x.ty,.int .i64 x.at_.kind,.int .i64 x.at_.num,.string x.at_.str,.slice q.r x.at_.items.length q.c,.slice q.rk x.at_.keys.length q.ck,.int .i64 x.ver,.bool x.ta,.bool x.cf,.slice q.dr x.dp.length q.dc])) | 3=>some (bT (.agg #[.string x.ad,.string x.de])) | 4=>some (bT (.tuple #[.int .i64 (L:Nat),.bool F])) | _=>none) (by kernel_rfl) (by kernel_rfl) ?_
 iterate 2 (refine wq ?_;intro K n;go_big_quiet_op;go_big_quiet_on)
 refine aC (bT (.agg #[.string x.ad,.string x.de,.string x.id,.string x.ty,.int .i64 x.at_.kind,.int .i64 x.at_.num,.string x.at_.str,.slice q.r x.at_.items.length q.c,.slice q.rk x.at_.keys.length q.ck,.int .i64 x.ver,.bool x.ta,.bool x.cf,.slice q.dr x.dp.length q.dc])) (by kernel_rfl) rfl ⟨_,rfl⟩ aQ (fun w4 f A=>?_) ?_
 . have l:=ai f
   obtain ⟨l1,l2⟩:=ba.out w4 (S.out.trans (l.mono S.out.size));clear f A l;go_simp
   exact ⟨kW.refl _,rfl,trivial⟩
 rintro _ rfl
 (refine ay ?_;intro K n;go_simp;refine n _ ?_;clear n K)
 refine aC (bT (.agg #[.string x.ad,.string x.de])) (by kernel_rfl) rfl ⟨_,rfl⟩ aQ (fun w4 f A=>?_) ?_
 . have l:=ai f
   have hh:=cm.out w4;clear f A l;go_simp
   go_at_call 33;refine Calls.mono hh ?_;rintro e w5 ⟨rfl,aa⟩;exact ⟨_,rfl,aa,rfl,trivial⟩
 rintro _ rfl
 (refine ay ?_;intro K n;go_simp;refine n _ ?_;clear n K)
 refine aC (bT (.tuple #[.int .i64 (L:Nat),.bool F])) (by kernel_rfl) rfl ⟨_,rfl⟩ aQ (fun w4 f A=>?_) ?_
 . have l:=ai f
   have hh:=a0.out w4 (ab.out.trans (l.mono ab.out.size));clear f A l;go_simp
   go_at_call 48;refine Calls.mono hh ?_;rintro e w5 ⟨rfl,aa⟩;exact ⟨_,rfl,aa,rfl,trivial⟩
 rintro _ rfl
 (refine ay ?_;intro K n;go_simp;refine n _ ?_;clear n K)
 iterate 5 (refine wq ?_;intro K n;go_big_quiet_op;go_big_quiet_on)
 refine aS ?_;intro w6 bL cy;have bl:=ai bL;clear bL cy;have V:=hid bl;clear bl;cases F with
 | true =>
   obtain ⟨y,hy⟩:∃ y,iO s.ins (aP x)=some y:=by
    have:=bO.out;rw [vZ] at this;exact Option.isSome_iff_exists.1 this
   obtain ⟨cg,_⟩:=AV a3.out hy;have aM:=Ee a3.out hy;rw [HL.out] at cg aM;have bf:=hid aM;have al:=j.out.EY
   obtain ⟨g,rfl⟩:∃ g,M=some ⟨g,0,none⟩:=by
    rcases j.out.ins.own.2 with ⟨e,h0⟩ | ⟨g,t,cur,e,_⟩
    . simp at e;omega
    . simp at e;exact ⟨g,by rw [e.1]⟩
   have bb:=cZ j.out.ins.own (g:=g) rfl;have cb:(0:Int)<=(L:Int):=by omega
   have cB:(L:Int) < (s.ins.length:Int):=by omega
   have a:=hid (S.out.trans (V.out.mono S.out.size));have J:=hid (ab.out.trans (V.out.mono ab.out.size));have Z:=hid ((V.out.block w2.heap.size (by have:=a1.out;omega)).trans a7.out);have u26:=ae Z.out 2 rfl;have k2:=fun d os=>cell_regrown u26 d os;have ao:=hid (fun (W:World) (hW:Below w6.heap.size w6 W)=>bA.out W ((E.out.trans (a.out.mono E.out.size)).trans (hW.mono (by have:=E.out.size;have:=a.out.size;omega))));rw [bg.out] at ao;clear k1 u2 aM;go_wp2_with fail
   refine Stp.rD (fun qq=>match qq with | 3=>some (bT (.agg #[.string x.ad,.string x.de,.string x.id,.string x.ty,.int .i64 x.at_.kind,.int .i64 x.at_.num,.string x.at_.str,.slice q.r x.at_.items.length q.c,.slice q.rk x.at_.keys.length q.ck,.int .i64 x.ver,.bool x.ta,.bool x.cf,.slice q.dr x.dp.length q.dc])) | 4=>some (yS w6.heap.size x) | _=>none) (by kernel_rfl) (by kernel_rfl) (by kernel_rfl) ?_
   iterate 3 (refine wq ?_;intro K n;go_big_quiet_op;go_big_quiet_on)
   refine aC (bT (.agg #[.string x.ad,.string x.de,.string x.id,.string x.ty,.int .i64 x.at_.kind,.int .i64 x.at_.num,.string x.at_.str,.slice q.r x.at_.items.length q.c,.slice q.rk x.at_.keys.length q.ck,.int .i64 x.ver,.bool x.ta,.bool x.cf,.slice q.dr x.dp.length q.dc])) (by kernel_rfl) rfl ⟨_,rfl⟩ aQ (fun w4 f A=>?_) ?_
   . have l:=ai f
     obtain ⟨l1,l2⟩:=ba.out w4 (a.out.trans (l.mono a.out.size));clear f A l;go_simp
     exact ⟨kW.refl _,rfl,trivial⟩
   rintro _ rfl
   (refine ay ?_;intro K n;go_simp;refine n _ ?_;clear n K)
   refine aC (yS w6.heap.size x) (by kernel_rfl) rfl ⟨_,⟨none,0,none,0,none,0⟩,rfl⟩ (zD _ _) (fun w4 f A=>?_) ?_
   . have l:=ai f
     have hh:=ao.out w4 l;have ce:=l.size;clear f A;go_simp
     go_at_call 50;refine Calls.mono hh ?_;rintro e w5 ⟨p5,rfl,ac,aa⟩;exact ⟨_,rfl,aa,⟨p5,rfl⟩,p5,rfl,aT _ _ ⟨x,p5⟩ (iL fun b H=>by simp only [bZ,decide_eq_true_eq] at H ⊢;omega) ac⟩
   rintro _ ⟨p5,rfl⟩
   (refine ay ?_;intro K n;go_simp;refine n _ ?_;clear n K)
   refine aS ?_;intro w7 aq aD;have aE:=ai aq;have bd:=aD 4;clear aq aD;have D:=hid aE;clear aE;obtain ⟨p5,e5,bq⟩:=bd;obtain rfl:=xC e5;have ac:=dD x p5;have cD:=D.out.size;have af:eF ja Gu 13 41 B2 w7 (.slice (some ⟨g,0,none⟩) I.length C) I:=j.out.ins.below aT (J.out.trans (D.out.mono J.out.size))
   have ht:nZ w7 g (L * 13):=by
    rcases af.own.2 with ⟨e,_⟩ | ⟨g2,t,cur,e,_,hg,h1,_,hs,_⟩
    . cases e
    . simp at e
      obtain ⟨rfl,e2,rfl⟩:=e;exact lu hg (by rw [hs];omega)
   have cw:=dH w7 g (L * 13) _ ht ac;have b6:=J.out.size;have an:=eF.put (y:=(⟨x,p5⟩:jW)) (B0:=w6.heap.size) aT iE af rfl (k:=L) (by omega) bq (by have:=j.out.hi;omega) (by omega);have P:∀ b,b≠g->(gJ w7 g (L * 13) (aH x p5)).heap[b]?=w7.heap[b]?:=fun b H=>bF _ _ _ _ H;have cF:(gJ w7 g (L * 13) (aH x p5)).heap.size=w7.heap.size:=setCells_size _ _ _ _;have av:Below w.heap.size w (gJ w7 g (L * 13) (aH x p5)):=dn _ _ _ _ ((E.out.trans (a.out.mono E.out.size)).trans (D.out.mono (by have:=E.out.size;have:=a.out.size;omega))) (by have:=j.out.le;have:=E.out.size;omega);have a8:=hid (show eF ja Gu 13 41 B2 (gJ w7 g (L * 13) (aH x p5)) (.slice (some ⟨g,0,none⟩) I.length C) (I.set L ⟨x,p5⟩) from an);generalize gJ w7 g (L * 13) (aH x p5)=W8 at *;have ca:=hid av;have G:=(P w2.heap.size (by omega)).trans ((D.out.block _ (by have:=a1.out;have:=V.out.size;omega)).trans Z.out);have m:=(P (w.heap.size+1+1) (by have:=j.out.le;have:=X.out;omega)).trans ((D.out.block _ (by have:=a.out.size;have:=X.out;omega)).trans ((a.out.block _ (by have:=X.out;omega)).trans br.out))
   have a9:=hid (show ∀ b,b < w2.heap.size->b≠g->W8.heap[b]?=w2.heap[b]? from fun b H hn=>by
    rw [P b hn,D.out.block b (by omega),J.out.block b H])
   clear af an P av ht bq e5 ac;simp only [Stp.qB];go_simp
   clear cw;have y0:=ae m 0 rfl;have y1:=ae m 1 rfl;have y2:=ae m 2 rfl;have y3:=ae m 3 rfl;have y4:=ae m 4 rfl;have cv:=ak m 0;have cs:=ak m 1;have cz:=ak m 2;have cl:=ak m 3;have cd:=ak m 4;have v0:=ae G 0 rfl;have v1:=ae G 1 rfl;have v2:=ae G 2 rfl;have v3:=ae G 3 rfl;have v4:=ae G 4 rfl;obtain ⟨WE,ar,U,e2,e3,e4⟩:=fE m (.string s.lin) (.int .i64 s.ser) (.slice (some ⟨g,0,none⟩) s.ins.length C) (.slice Q s.pen.length O) (.slice R s.out.length N);go_wp2_with fail
   rw [<-ar];have g0:=ae U 0 rfl;have g1:=ae U 1 rfl;have g2:=ae U 2 rfl;have g3:=ae U 3 rfl;have g4:=ae U 4 rfl;have a4:(iW s.ins x).length=s.ins.length:=by rw [<-bf.out,List.length_set]
   have ap:(I.set L (⟨x,p5⟩:jW)).map (·.x)=iW s.ins x:=by
    rw [List.map_set,j.out.insx];exact bf.out
   have cj:=j.out.le;have ct:=j.out.hi;have b5:=X.out
   have aw:eF ja Gu 13 41 B2 WE (.slice (some ⟨g,0,none⟩) (I.set L (⟨x,p5⟩:jW)).length C) (I.set L ⟨x,p5⟩):=by
    rw [List.length_set];exact a8.out.to aT (fun b H _=>e2 b (by omega))
   have be:=hid ((eX.change j.out (fun b H hB=>by rw [e2 b (by omega),a9.out b (by omega) (by omega)]) aw ap (by omega)).zJ (B0:=w.heap.size) (by omega));have a6:=hid (e4 _ _ ca.out (by omega));clear ar U e2 e3 e4 aw ap;exact bodyPost_ret (v:=.agg (bK { s with ins:=iW s.ins x } ⟨some ⟨g,0,none⟩,C,Q,O,R,N⟩)) (by simp [results,Tryz.results21,go_sem,bK,a4,g0,g1,g2,g3,g4]) rfl ⟨_,rfl,be.out,a6.out⟩
 | false =>
   have bj:iO s.ins (aP x)=none:=tH.2 bO.out;have aL:=Nh a3.out bj;have b4:=Pq s.ins (aP x);rw [HL.out] at aL b4;have a5:=hid aL;have al:=j.out.EY;have bb:∀ g,(Value.slice M I.length C).ownBlock=some g->B2<=g/\g < w2.heap.size:=fun g hg=>cZ j.out.ins.own hg;have bR:=hid bb;have cb:(0:Int)<=(L:Int):=by omega
   have cB:(L:Int)<=(s.ins.length:Int):=by omega
   have a:=hid (S.out.trans (V.out.mono S.out.size));have J:=hid (ab.out.trans (V.out.mono ab.out.size));have Z:=hid ((V.out.block w2.heap.size (by have:=a1.out;omega)).trans a7.out);have u26:=ae Z.out 2 rfl;have k2:=fun d os=>cell_regrown u26 d os;have ao:=hid (fun (W:World) (hW:Below w6.heap.size w6 W)=>bA.out W ((E.out.trans (a.out.mono E.out.size)).trans (hW.mono (by have:=E.out.size;have:=a.out.size;omega))));rw [bg.out] at ao;clear k1 u2 aL bb;go_wp2_with fail
   refine Stp.rq (fun qq=>match qq with | 3=>some (bT (.agg #[.string x.ad,.string x.de,.string x.id,.string x.ty,.int .i64 x.at_.kind,.int .i64 x.at_.num,.string x.at_.str,.slice q.r x.at_.items.length q.c,.slice q.rk x.at_.keys.length q.ck,.int .i64 x.ver,.bool x.ta,.bool x.cf,.slice q.dr x.dp.length q.dc])) | 4=>some (yS w6.heap.size x) | 5=>some (DZ w6.heap.size x) | _=>none) (by kernel_rfl) (by kernel_rfl) (by kernel_rfl) ?_
   iterate 3 (refine wq ?_;intro K n;go_big_quiet_op;go_big_quiet_on)
   refine aC (bT (.agg #[.string x.ad,.string x.de,.string x.id,.string x.ty,.int .i64 x.at_.kind,.int .i64 x.at_.num,.string x.at_.str,.slice q.r x.at_.items.length q.c,.slice q.rk x.at_.keys.length q.ck,.int .i64 x.ver,.bool x.ta,.bool x.cf,.slice q.dr x.dp.length q.dc])) (by kernel_rfl) rfl ⟨_,rfl⟩ aQ (fun w4 f A=>?_) ?_
   . have l:=ai f
     obtain ⟨l1,l2⟩:=ba.out w4 (a.out.trans (l.mono a.out.size));clear f A l;go_simp
     exact ⟨kW.refl _,rfl,trivial⟩
   rintro _ rfl
   (refine ay ?_;intro K n;go_simp;refine n _ ?_;clear n K)
   refine aC (yS w6.heap.size x) (by kernel_rfl) rfl ⟨_,⟨none,0,none,0,none,0⟩,rfl⟩ (zD _ _) (fun w4 f A=>?_) ?_
   . have l:=ai f
     have hh:=ao.out w4 l;have ce:=l.size;clear f A;go_simp
     go_at_call 50;refine Calls.mono hh ?_;rintro e w5 ⟨p5,rfl,ac,aa⟩;exact ⟨_,rfl,aa,⟨p5,rfl⟩,p5,rfl,aT _ _ ⟨x,p5⟩ (iL fun b H=>by simp only [bZ,decide_eq_true_eq] at H ⊢;omega) ac⟩
   rintro _ ⟨p5,rfl⟩
   (refine ay ?_;intro K n;go_simp;refine n _ ?_;clear n K)
   refine aC (DZ w6.heap.size x) (by kernel_rfl) rfl ⟨_,0,rfl⟩ (Eg _ _) (fun w4 f A=>?_) ?_
   . have l:=ai f
     obtain ⟨p6,e6,h6⟩:=A 4 (qj.one (e:=⟨4,.data⟩) rfl (by simp) rfl rfl);clear f A;obtain rfl:=xC e6;unfold aH;go_simp
     exact ⟨(Below.refl _ _).alloc (Nat.le_refl _) _,⟨_,rfl⟩,_,_,rfl,l.size,(MapKept.heap_alloc _ _).1,aT _ _ ⟨x,p5⟩ (jZ ((Below.refl _ _).alloc (Nat.le_refl _) _)) h6⟩
   rintro _ ⟨nb,rfl⟩
   (refine ay ?_;intro K n;go_simp;refine n _ ?_;clear n K)
   refine aS ?_;intro w7 aq aD;have aE:=ai aq;have bd:=aD 5;clear aq aD;have D:=hid aE;clear aE;obtain ⟨cK,p6,e6,bk,b2,bN⟩:=bd;simp at e6;subst e6;have cD:=D.out.size;have b6:=J.out.size;have cG:=a1.out;have cI:=V.out.size;have aR:=j.out.ins.no aT (w':=w6) (bo:=w2.heap.size) (fun b H hl=>J.out.block b hl) (Nat.le_refl _);have af:=aR.below (Cb aT) D.out;have bB:=hid (Td B2 I ⟨x,p6⟩ L (.slice M I.length C) nb w7 (by omega) af.own b2 (fun e=>by have:=bR.out nb e;omega) (by omega) (by have:=j.out.hi;omega));rw [al] at bB aR;have cn:=hid aR;have cC:=hid bN;have cL:=hid bk;have b8:=hid ((D.out.block _ (by omega)).trans Z.out);have b7:=hid ((D.out.block (w.heap.size+1+1) (by have:=a.out.size;have:=X.out;omega)).trans ((a.out.block _ (by have:=X.out;omega)).trans br.out));have bm:Below w.heap.size w w7:=(E.out.trans (a.out.mono E.out.size)).trans (D.out.mono (by have:=E.out.size;have:=a.out.size;omega));have bc:=hid bm;clear af aR bN b2 bk bm;simp only [Stp.qB];go_simp
   refine Calls.mono bB.out ?_;rintro e w8 ⟨g,t,rfl,m1,m2,m3⟩;have bh:(I.insertIdx L (⟨x,p6⟩:jW)).length=s.ins.length+1:=by rw [xJ I _ L (by omega),al]
   have T:∀ q,(Value.slice M s.ins.length C).ownBlock=some q->B2<=q/\q < w2.heap.size:=fun q hq=>bR.out q (by rw [al];exact hq)
   have an:eF ja (Ug w2.heap.size Gu) 13 41 B2 w8 (.slice (some ⟨g,0,none⟩) (I.length+1) t) (I.insertIdx L (⟨x,p6⟩:jW)):=eF.more (Cb aT) cn.out (by have:=j.out.hi;omega) (Below.refl _ _) D.out (fun z hz=>by
    rcases xG hz with rfl | hz
    . refine .inr (aT _ _ ⟨x,p6⟩ (fun b o u hc=>?_) cC.out)
      have h1:=(jk hc).1;simp only [bZ,decide_eq_true_eq] at h1;exact gY (decide_eq_true (by omega)) hc
    . exact .inl hz) (Below.refl _ _) m1 m2 m3
   rw [al] at an;have P:∀ b,b < w7.heap.size->(∀ q,(Value.slice M s.ins.length C).ownBlock=some q->q≠b)->w8.heap[b]?=w7.heap[b]?:=fun b H hn=>m2.block b H (fun e=>hn b e.symm rfl);have G:=(P w2.heap.size (by omega) (fun q hq e=>by have:=T q hq;omega)).trans b8.out;have cj:=j.out.le;have b5:=X.out;have ct:=j.out.hi;have m:=(P (w.heap.size+1+1) (by omega) (fun q hq e=>by have:=T q hq;omega)).trans b7.out;have av:Below w.heap.size w w8:=bc.out.grown m2 (by have:=bc.out.size;omega) (fun q hq=>by have:=T q hq;omega)
   have cr:g≠w2.heap.size:=fun e=>by
    rcases m3 with h | h
    . have:=T g h;omega
    . omega
   have cH:=m2.size
   have a9:=hid (show ∀ b,b < B2->w8.heap[b]?=w2.heap[b]? from fun b H=>by
    rw [P b (by omega) (fun q hq e=>by have:=T q hq;omega),D.out.block b (by omega),J.out.block b (by omega)])
   have a8:=hid an;have c8:=ae G 2 rfl;have f8:=ak G 2;clear an m1 m2 m3 P T;rw [al]
   have Y:(w8.setCells w2.heap.size 2 [.slice (some ⟨g,0,none⟩) (s.ins.length+1) t]).heap[w2.heap.size]?=some (.cells #[.string s.lin,.int .i64 s.ser,.slice (some ⟨g,0,none⟩) (s.ins.length+1) t,.slice Q s.pen.length O,.slice R s.out.length N] 26):=by
    have:=fC [.slice (some ⟨g,0,none⟩) (s.ins.length+1) t] 26 w8 w2.heap.size 2 _ G (by simp);simpa using this
   have a2:∀ b,b≠w2.heap.size->(w8.setCells w2.heap.size 2 [.slice (some ⟨g,0,none⟩) (s.ins.length+1) t]).heap[b]?=w8.heap[b]?:=fun b H=>bF _ _ _ _ H;have cJ:=setCells_size [.slice (some ⟨g,0,none⟩) (s.ins.length+1) t] w8 w2.heap.size 2;have b1:=dn [.slice (some ⟨g,0,none⟩) (s.ins.length+1) t] w8 w2.heap.size 2 av (by omega);have b3:=a8.out.store aT (w':=w8.setCells w2.heap.size 2 [.slice (some ⟨g,0,none⟩) (s.ins.length+1) t]) (fun e=>by simp [Value.ownBlock] at e;exact cr e) a2;go_simp
   rw [show w8.setCell ⟨w2.heap.size,2,none⟩ (.slice (some ⟨g,0,none⟩) (s.ins.length+1) t)=w8.setCells w2.heap.size 2 [.slice (some ⟨g,0,none⟩) (s.ins.length+1) t] from rfl];generalize w8.setCells w2.heap.size 2 [.slice (some ⟨g,0,none⟩) (s.ins.length+1) t]=W9 at *;have B:=(a2 (w.heap.size+1+1) (by omega)).trans m;have ch:=hid b3;have b9:=hid a2;have cc:=hid b1;clear b3 a2 b1 G m c8 f8 av u26 k2;have y0:=ae B 0 rfl;have y1:=ae B 1 rfl;have y2:=ae B 2 rfl;have y3:=ae B 3 rfl;have y4:=ae B 4 rfl;have cv:=ak B 0;have cs:=ak B 1;have cz:=ak B 2;have cl:=ak B 3;have cd:=ak B 4;have v0:=ae Y 0 rfl;have v1:=ae Y 1 rfl;have v2:=ae Y 2 rfl;have v3:=ae Y 3 rfl;have v4:=ae Y 4 rfl;obtain ⟨WE,ar,U,e2,e3,e4⟩:=fE B (.string s.lin) (.int .i64 s.ser) (.slice (some ⟨g,0,none⟩) (s.ins.length+1) t) (.slice Q s.pen.length O) (.slice R s.out.length N);go_wp2_with fail
   rw [<-ar];have g0:=ae U 0 rfl;have g1:=ae U 1 rfl;have g2:=ae U 2 rfl;have g3:=ae U 3 rfl;have g4:=ae U 4 rfl;have a4:(iW s.ins x).length=s.ins.length+1:=by rw [<-a5.out];simp;omega
   have ap:(I.insertIdx L (⟨x,p6⟩:jW)).map (·.x)=iW s.ins x:=by
    rw [qM (fun y:jW=>y.x) _ I L (by omega),j.out.insx];exact a5.out
   have aw:eF ja Gu 13 41 B2 WE (.slice (some ⟨g,0,none⟩) (I.insertIdx L (⟨x,p6⟩:jW)).length t) (I.insertIdx L ⟨x,p6⟩):=by
    rw [bh];exact ch.out.to aT (fun b H _=>e2 b (by omega))
   have be:=hid ((eX.change j.out (fun b H hB=>by rw [e2 b (by omega),b9.out b (by omega),a9.out b H]) aw ap (by omega)).zJ (B0:=w.heap.size) (by omega));have a6:=hid (e4 _ _ cc.out (by omega));clear ar U e2 e3 e4 aw ap;exact bodyPost_ret (v:=.agg (bK { s with ins:=iW s.ins x } ⟨some ⟨g,0,none⟩,t,Q,O,R,N⟩)) (by simp [results,Tryz.results21,go_sem,bK,a4,g0,g1,g2,g3,g4]) rfl ⟨_,rfl,be.out,a6.out⟩
set_option maxRecDepth 100000 in
set_option maxHeartbeats 8000000 in
theorem wR (s:fU) (p:Sp) (a d:ByteArray) (w:World) (h:dQ w s p) (hf:lI s) (ha:fJ s.ins) :
  Calls Tryz.prog 23 #[.agg (bK s p),.string a,.string d] w fun e w'=>∃ p',e=.returned (.agg (bK { s with ins:=nS s.ins (a,d) } p'))/\dQ (mask (bZ w.heap.size) w') { s with ins:=nS s.ins (a,d) } p'/\Below w.heap.size w w':=by
 obtain ⟨ri,ci,rp,cp,ro,co⟩:=p;have ar:=hid (fun (W:World) (hW:Below w.heap.size w W)=>uD s ⟨ri,ci,rp,cp,ro,co⟩ W (aI hW h) hf);have am:=hid ha;have aL:=hid hf.i;clear h hf ha;unfold bK at *;dsimp only at ar;go_enter Tryz.func23,Tryz.ntmps23;go_upto_region 1 with (fail)
 obtain ⟨W0,a5,a7,an,R,a3⟩:=iK w (.cells #[.string s.lin,.int .i64 s.ser,.slice ri s.ins.length ci,.slice rp s.pen.length cp,.slice ro s.out.length co] 26) (.cells #[.string { data:=#[] },.int .i64 0,.slice none 0 0,.slice none 0 0,.slice none 0 0] 26);rw [<-a5];have M:=hid a7;have D:=hid an;have a0:=hid a3;have t0:=ae R 0 rfl;have t1:=ae R 1 rfl;have t2:=ae R 2 rfl;have t3:=ae R 3 rfl;have t4:=ae R 4 rfl;clear a5 a7 an R a3;obtain ⟨L,hL⟩:∃ L,pY s.ins (a,d)=L:=⟨_,rfl⟩;obtain ⟨F,hF⟩:∃ F,jK s.ins (a,d)=F:=⟨_,rfl⟩;have HL:=hid hL;have af:=hid hF;clear hL hF;cases F with
 | true =>
   obtain ⟨y,hy⟩:∃ y,iO s.ins (a,d)=some y:=by
    have:=af.out;rw [vZ] at this;exact Option.isSome_iff_exists.1 this
   obtain ⟨bh,_⟩:=AV am.out hy;have aa:=OI am.out hy;rw [HL.out] at bh aa;have ba:=hid aa;have bA:(0:Int)<=(L:Int):=by omega
   have bO:(L:Int) < (s.ins.length:Int):=by omega
   have bN:=aL.out;clear aa hy
   go_wp2_with (first
    | (go_at_call 54
       refine (ar.out _ M.out).mono ?_;rintro e w2 ⟨p2,n,B2,rfl,H,X⟩;obtain ⟨k,j,C,A,E,t⟩:=p2;have l:=hid H;have m:=hid X;have I:=hid (show Below w2.heap.size w2 (w2.alloc (.cells #[.string s.lin,.int .i64 s.ser,.slice k s.ins.length j,.slice C s.pen.length A,.slice E s.out.length t] 26)) from (Below.refl _ _).alloc (Nat.le_refl _) _);have V:=hid (MapKept.heap_alloc w2 (.cells #[.string s.lin,.int .i64 s.ser,.slice k s.ins.length j,.slice C s.pen.length A,.slice E s.out.length t] 26)).1;have P:=hid (H.EY);have J:=hid (show (w2.alloc (.cells #[.string s.lin,.int .i64 s.ser,.slice k s.ins.length j,.slice C s.pen.length A,.slice E s.out.length t] 26)).heap.size=w2.heap.size+1 by simp);have u20:=ae V.out 2 rfl;have Z:=hid (H.NW.1);have N:=hid (fun (W:World) (hW:Below w2.heap.size w2 W)=>lN k j s.ins (a,d) W (Z.out.below dB hW) am.out aL.out);rw [HL.out,af.out] at N;dsimp only at N;clear H X Z)
    | (go_at_call 48
       refine (N.out _ I.out).mono ?_;rintro e w6 ⟨rfl,T⟩;have u:=hid T;clear T;have B:=hid ((u.out.block w2.heap.size (by have:=J.out;omega)).trans V.out);have c:=hid ((u.out.block (w.heap.size+1) (by have:=J.out;have:=m.out.size;have:=D.out;omega)).trans ((I.out.block _ (by have:=m.out.size;have:=D.out;omega)).trans ((m.out.block _ (by have:=D.out;omega)).trans a0.out)));have o:=hid (I.out.trans (u.out.mono I.out.size));have u2:=ae B.out 2 rfl;have a4:∀ g,(Value.slice k s.ins.length j).ownBlock=some g->B2<=g/\g < w2.heap.size:=fun g hg=>cZ l.out.ins.own (by rw [P.out];exact hg);have al:=hid a4;have ac:=l.out.ins.no aT (w':=w6) (bo:=w2.heap.size) (fun b U hl=>o.out.block b hl) (Nat.le_refl _);have aw:=RQ B2 n L (L+1) rfl (.slice k n.length j) w6 (by have:=P.out;omega) ac.own;rw [show (((L+1:Nat)):Int)=(L:Int)+1 from by omega,P.out] at aw;rw [P.out] at ac;have bt:=hid aw;have bl:=hid ac;clear a4 ac aw)
    | (go_at_call 65
       refine bt.out.mono ?_;rintro e w8 ⟨g,G,rfl,m1,m2,m3⟩;have bm:=hid m1;have ab:=hid m2;have aq:=hid m3;have r:=(m2.block w2.heap.size (by have:=u.out.size;have:=J.out;omega) (fun e=>by have:=al.out _ e.symm;omega)).trans B.out;have c8:=ae r 2 rfl;have f8:=ak r 2;have f:=(m2.block (w.heap.size+1) (by have:=u.out.size;have:=J.out;have:=m.out.size;have:=D.out;omega) (fun e=>by have:=al.out _ e.symm;have:=l.out.le;have:=D.out;omega)).trans c.out;have y0:=ae f 0 rfl;have y1:=ae f 1 rfl;have y2:=ae f 2 rfl;have y3:=ae f 3 rfl;have y4:=ae f 4 rfl;have bs:=ak f 0;have bq:=ak f 1;have bv:=ak f 2;have bk:=ak f 3;have bg:=ak f 4;have v0:=ae r 0 rfl;have v1:=ae r 1 rfl;have v3:=ae r 3 rfl;have v4:=ae r 4 rfl;have bw:w2.heap.size≠w.heap.size+1:=by have:=m.out.size;have:=D.out;omega
       have bx:=hid r;have bb:=hid f;clear m1 m2 m3 r f))
   have bd:=J.out;have bp:=u.out.size;have bc:=o.out.size;have bf:=m.out.size;have an:=D.out;have bj:=l.out.le;have br:=l.out.hi;have aD:=P.out;have bB:=ab.out.size;have aM:(n.eraseIdx L).length=s.ins.length - 1:=by rw [List.length_eraseIdx,if_pos (by omega),aD]
   have bE:=al.out g aq.out;have a9:eF ja (Ug w2.heap.size Gu) 13 41 B2 w8 (.slice (some ⟨g,0,none⟩) (n.length - 1) G) (n.eraseIdx L):=eF.more (Cb aT) bl.out (by omega) (Below.refl _ _) (Below.refl _ _) (fun z hz=>.inl (List.mem_of_mem_eraseIdx hz)) (Below.refl _ _) bm.out ab.out (.inl aq.out);have a2:∀ b,b < w6.heap.size->b≠g->w8.heap[b]?=w6.heap[b]?:=fun b U hn=>ab.out.block b U (fun e=>hn (Option.some.inj (e.trans aq.out)));have O:Below w.heap.size w w6:=((M.out.trans (m.out.mono M.out.size)).trans (o.out.mono (by have:=M.out.size;omega)));have a1:=O.grown ab.out (by have:=O.size;omega) (fun q hq=>by have:=al.out q hq;omega);have ad:∀ b,b≠w2.heap.size->(w8.setCells w2.heap.size 2 [.slice (some ⟨g,0,none⟩) (n.length - 1) G]).heap[b]?=w8.heap[b]?:=fun b U=>bF _ _ _ _ U;have bL:=setCells_size [.slice (some ⟨g,0,none⟩) (n.length - 1) G] w8 w2.heap.size 2;have a8:=dn [.slice (some ⟨g,0,none⟩) (n.length - 1) G] w8 w2.heap.size 2 a1 (by omega);have aR:=a9.store aT (w':=w8.setCells w2.heap.size 2 [.slice (some ⟨g,0,none⟩) (n.length - 1) G]) (fun e=>by simp [Value.ownBlock] at e;omega) ad;have ap:=(ad (w.heap.size+1) (by omega)).trans bb.out;obtain ⟨WE,Q,K,e2,e3,e4⟩:=fE ap (.string s.lin) (.int .i64 s.ser) (.slice (some ⟨g,0,none⟩) (n.length - 1) G) (.slice C s.pen.length A) (.slice E s.out.length t);rw [show w8.setCells w2.heap.size 2 [.slice (some ⟨g,0,none⟩) (n.length - 1) G]=w8.setCell ⟨w2.heap.size,2,none⟩ (.slice (some ⟨g,0,none⟩) (n.length - 1) G) from rfl] at Q;rw [<-Q];have g0:=ae K 0 rfl;have g1:=ae K 1 rfl;have g2:=ae K 2 rfl;have g3:=ae K 3 rfl;have g4:=ae K 4 rfl;have be:(nS s.ins (a,d)).length=n.length - 1:=by rw [<-ba.out,aD];simp;omega
   have S:(n.eraseIdx L).map (·.x)=nS s.ins (a,d):=by
    rw [map_eraseIdx (fun y:jW=>y.x) n L (by omega),l.out.insx];exact ba.out
   have Y:eF ja Gu 13 41 B2 WE (.slice (some ⟨g,0,none⟩) (n.eraseIdx L).length G) (n.eraseIdx L):=by
    rw [aM,<-aD];exact aR.to aT (fun b U _=>e2 b (by omega))
   have aE:=hid ((eX.change l.out (fun b U hB=>by rw [e2 b (by omega),ad b (by omega),a2 b (by omega) (by omega),o.out.block b (by omega)]) Y S (by omega)).zJ (B0:=w.heap.size) (by omega));have av:=hid (e4 _ _ a8 (by omega));clear Q K e2 e3 e4 Y S a9 aR a2 ad a1 a8 O ap;exact bodyPost_ret (v:=.agg (bK { s with ins:=nS s.ins (a,d) } ⟨some ⟨g,0,none⟩,G,C,A,E,t⟩)) (by simp [results,Tryz.results23,go_sem,bK,be,g0,g1,g2,g3,g4]) rfl ⟨_,rfl,aE.out,av.out⟩
 | false =>
   have ao:iO s.ins (a,d)=none:=tH.2 af.out;have a6:=hid (EX ao);clear ao
   go_wp2_with (first
    | (go_at_call 54
       refine (ar.out _ M.out).mono ?_;rintro e w2 ⟨p2,n,B2,rfl,H,X⟩;obtain ⟨k,j,C,A,E,t⟩:=p2;have l:=hid H;have m:=hid X;have I:=hid (show Below w2.heap.size w2 (w2.alloc (.cells #[.string s.lin,.int .i64 s.ser,.slice k s.ins.length j,.slice C s.pen.length A,.slice E s.out.length t] 26)) from (Below.refl _ _).alloc (Nat.le_refl _) _);have V:=hid (MapKept.heap_alloc w2 (.cells #[.string s.lin,.int .i64 s.ser,.slice k s.ins.length j,.slice C s.pen.length A,.slice E s.out.length t] 26)).1;have P:=hid (H.EY);have J:=hid (show (w2.alloc (.cells #[.string s.lin,.int .i64 s.ser,.slice k s.ins.length j,.slice C s.pen.length A,.slice E s.out.length t] 26)).heap.size=w2.heap.size+1 by simp);have u20:=ae V.out 2 rfl;have Z:=hid (H.NW.1);have N:=hid (fun (W:World) (hW:Below w2.heap.size w2 W)=>lN k j s.ins (a,d) W (Z.out.below dB hW) am.out aL.out);rw [HL.out,af.out] at N;dsimp only at N;clear H X Z)
    | (go_at_call 48
       refine (N.out _ I.out).mono ?_;rintro e w6 ⟨rfl,T⟩;have u:=hid T;clear T;have B:=hid ((u.out.block w2.heap.size (by have:=J.out;omega)).trans V.out);have c:=hid ((u.out.block (w.heap.size+1) (by have:=J.out;have:=m.out.size;have:=D.out;omega)).trans ((I.out.block _ (by have:=m.out.size;have:=D.out;omega)).trans ((m.out.block _ (by have:=D.out;omega)).trans a0.out)));have o:=hid (I.out.trans (u.out.mono I.out.size));have u2:=ae B.out 2 rfl;have y0:=ae c.out 0 rfl;have y1:=ae c.out 1 rfl;have y2:=ae c.out 2 rfl;have y3:=ae c.out 3 rfl;have y4:=ae c.out 4 rfl;have bs:=ak c.out 0;have bq:=ak c.out 1;have bv:=ak c.out 2;have bk:=ak c.out 3;have bg:=ak c.out 4;have v0:=ae B.out 0 rfl;have v1:=ae B.out 1 rfl;have v3:=ae B.out 3 rfl;have v4:=ae B.out 4 rfl))
   have bd:=J.out;have bp:=u.out.size;have bc:=o.out.size;have bf:=m.out.size;have an:=D.out;have bj:=l.out.le;have br:=l.out.hi;obtain ⟨WE,Q,K,e2,e3,e4⟩:=fE c.out (.string s.lin) (.int .i64 s.ser) (.slice k s.ins.length j) (.slice C s.pen.length A) (.slice E s.out.length t);rw [<-Q];have g0:=ae K 0 rfl;have g1:=ae K 1 rfl;have g2:=ae K 2 rfl;have g3:=ae K 3 rfl;have g4:=ae K 4 rfl;have O:Below w.heap.size w w6:=((M.out.trans (m.out.mono M.out.size)).trans (o.out.mono (by have:=M.out.size;omega)));have S:n.map (·.x)=nS s.ins (a,d):=l.out.insx.trans a6.out.symm;have Y:=l.out.ins.to aT (w':=WE) (fun b U hl=>by rw [e2 b (by omega),o.out.block b hl]);have aE:=hid ((eX.change l.out (fun b U hB=>by rw [e2 b (by omega),o.out.block b (by omega)]) Y S (by omega)).zJ (B0:=w.heap.size) (by omega));have av:=hid (e4 _ _ O (by omega));clear Q K e2 e3 e4 Y S O;exact bodyPost_ret (v:=.agg (bK { s with ins:=nS s.ins (a,d) } ⟨k,j,C,A,E,t⟩)) (by simp [results,Tryz.results23,go_sem,bK,a6.out,g0,g1,g2,g3,g4]) rfl ⟨_,rfl,aE.out,av.out⟩
def Hy:Array Value:=#[.string { data:=#[] },.string { data:=#[] },.string { data:=#[] },.string { data:=#[] },.int .i64 0,.int .i64 0,.string { data:=#[] },.slice none 0 0,.slice none 0 0,.int .i64 0,.bool false,.bool false,.slice none 0 0]
def Je (s:fU) (q:vT) (w:World) (e:Ending) (w':World):Prop:=Below w.heap.size w w'/\match iO s.ins q with
 | none=>e=.returned (.tuple #[.agg Hy,.bool false])
 | some x=>∃ p',e=.returned (.tuple #[.agg (aH x p'),.bool true])/\jf w' x p'
theorem zK {w:World} {b:Nat} {Z X:Array Value} {T:TypeId} (h:w.heap[b]?=some (.cells Z T)) (hZ:Z.size=13) (hX:lm X):(gJ w b 0 X).heap[b]?=some (.cells X T):=by
 have:=fC X.toList T w b 0 Z h (by rw [Array.length_toList,hX.1,hZ];decide);rw [List.take_zero,List.nil_append,List.drop_of_length_le (by rw [Array.length_toList,Array.length_toList,hX.1,hZ];decide),List.append_nil,Array.toArray_toList] at this;exact this
theorem He:lm Hy:=⟨rfl,by simp [Hy,Value.oneCell']⟩
set_option maxRecDepth 100000 in
set_option maxHeartbeats 8000000 in
theorem xy (s:fU) (p:Sp) (a d:ByteArray) (w:World) (h:dQ w s p) (hf:lI s) (ha:fJ s.ins) :
  Calls Tryz.prog 16 #[.agg (bK s p),.string a,.string d] w (Je s (a,d) w):=by
 obtain ⟨ri,ci,rp,cp,ro,co⟩:=p;have B:=hid (fun (W:World) (hW:Below w.heap.size w W)=>lN ri ci s.ins (a,d) W (h.1.below dB hW) ha hf.i);have C:=hid (fun (W:World) (hW:Below w.heap.size w W)=>mM (h.1.below dB hW));have a2:=hid ha;have aw:=hid hf.ix;obtain ⟨L,P⟩:∃ L,pY s.ins (a,d)=L:=⟨_,rfl⟩;obtain ⟨F,O⟩:∃ F,jK s.ins (a,d)=F:=⟨_,rfl⟩;rw [P,O] at B;dsimp only at B C;cases F with
 | false =>
   have E:iO s.ins (a,d)=none:=tH.2 O;have Y:=hid (show ∀ o,Below w.heap.size w o->Je s (a,d) w (.returned (.tuple #[.agg Hy,.bool false])) o from fun o hb=>⟨hb,by rw [E]⟩);unfold Hy at Y;clear P O h hf ha E C;generalize Je s (a,d) w=Q at *;unfold bK;go_enter Tryz.func16,Tryz.ntmps16;go_upto_region 1 with (fail)
   obtain ⟨H,u,m,A,l,t⟩:=iK w (.cells #[.string s.lin,.int .i64 s.ser,.slice ri s.ins.length ci,.slice rp s.pen.length cp,.slice ro s.out.length co] 26) (.cells #[.string { data:=#[] },.string { data:=#[] },.string { data:=#[] },.string { data:=#[] },.int .i64 0,.int .i64 0,.string { data:=#[] },.slice none 0 0,.slice none 0 0,.int .i64 0,.bool false,.bool false,.slice none 0 0] 41);rw [<-u];have g:=hid m;have t2:=ae l 2 rfl;have N:=hid t;have k:=hid A;clear u m A l t
   go_wp2_with (go_at_call 48
                refine (B.out _ g.out).mono ?_;rintro e w6 ⟨rfl,f⟩;have j:=hid f;have aa:=hid ((f.block _ (by have:=k.out;omega)).trans N.out);have af:nZ w6 (w.heap.size+1) 0:=lu aa.out (by simp);have D:=dH w6 (w.heap.size+1) 0 _ af He;have z:=dn Hy.toList w6 (w.heap.size+1) 0 (g.out.trans (f.mono g.out.size)) (by omega);have c:=hid (show (gJ w6 (w.heap.size+1) 0 Hy).heap[w.heap.size+1]?=some (.cells Hy 41) from zK aa.out rfl He);have M:=hid (show Below w.heap.size w (gJ w6 (w.heap.size+1) 0 Hy) from z);generalize gJ w6 (w.heap.size+1) 0 Hy=W8 at *;unfold Hy at D c;clear f z af)
   have g0:=ae c.out 0 rfl;have g1:=ae c.out 1 rfl;have g2:=ae c.out 2 rfl;have g3:=ae c.out 3 rfl;have g4:=ae c.out 4 rfl;have g5:=ae c.out 5 rfl;have g6:=ae c.out 6 rfl;have g7:=ae c.out 7 rfl;have g8:=ae c.out 8 rfl;have g9:=ae c.out 9 rfl;have U:=ae c.out 10 rfl;have S:=ae c.out 11 rfl;have R:=ae c.out 12 rfl;exact bodyPost_ret (v:=.tuple #[.agg Hy,.bool false]) (by simp [results,Tryz.results16,go_sem,Hy,g0,g1,g2,g3,g4,g5,g6,g7,g8,g9,U,S,R]) rfl (Y.out _ M.out)
 | true =>
   obtain ⟨y,hy⟩:∃ y,iO s.ins (a,d)=some y:=by
    have:=O;rw [vZ] at this;exact Option.isSome_iff_exists.1 this
   obtain ⟨r,al⟩:=AV ha hy;have Y:=hid (show ∀ o Z,Below w.heap.size w o->jf o y Z->Je s (a,d) w (.returned (.tuple #[.agg (aH y Z),.bool true])) o from fun o Z hb hi=>⟨hb,by rw [hy];exact ⟨Z,rfl,hi⟩⟩);have T:L < s.ins.length:=by rw [<-P];exact r
   have aq:s.ins[L]'T=y:=by simp only [<-P];exact al
   clear r al;have r:=T;have aL:(0:Int)<=(L:Int):=by omega
   have a4:(L:Int) < (s.ins.length:Int):=by omega
   clear P O h hf ha hy;generalize Je s (a,d) w=Q at *;unfold bK;go_enter Tryz.func16,Tryz.ntmps16;go_upto_region 1 with (fail)
   obtain ⟨H,u,m,A,l,t⟩:=iK w (.cells #[.string s.lin,.int .i64 s.ser,.slice ri s.ins.length ci,.slice rp s.pen.length cp,.slice ro s.out.length co] 26) (.cells #[.string { data:=#[] },.string { data:=#[] },.string { data:=#[] },.string { data:=#[] },.int .i64 0,.int .i64 0,.string { data:=#[] },.slice none 0 0,.slice none 0 0,.int .i64 0,.bool false,.bool false,.slice none 0 0] 41);rw [<-u];have g:=hid m;have t2:=ae l 2 rfl;have ar:=hid l;have N:=hid t;have k:=hid A;obtain ⟨b,ad,V,rfl,a1,n,hP⟩:=C.out H m L r;have am:=aw.out _ (List.getElem_mem r);rw [aq] at n hP am;have hX:=dD y V;obtain ⟨l1,l2⟩:=gU hX n;have aE:=hid (fun (W:World) (hW:Below H.heap.size H W)=>show eG W b (ad+L * 13)/\ik W b (ad+L * 13)=aH y V from ⟨(l1.below hW).1,(l1.below hW).2.trans l2⟩);have aD:=hid (fun (W:World) (hW:Below H.heap.size H W)=>rE y V W (dh hW hP) am);clear u m A l t n hP l1 l2 hX C;generalize an:aH y V=X at *;have a0:=hid an;clear an
   go_wp2_with (first
    | (go_at_call 48
       refine (B.out _ g.out).mono ?_;rintro e w6 ⟨rfl,f⟩;have j:=hid f;obtain ⟨l1,l2⟩:=aE.out w6 f;have aR:=ae ((f.block _ (by have:=k.out;omega)).trans ar.out) 2 rfl;clear f)
    | (go_at_call 50
       refine (aD.out _ j.out).mono ?_;rintro e w7 ⟨p5,rfl,I,G⟩;have a3:=hid G;have aM:=hid I;have ac:=hid ((G.block _ (by have:=k.out;have:=j.out.size;omega)).trans ((j.out.block _ (by have:=k.out;omega)).trans N.out));have ao:nZ w7 (w.heap.size+1) 0:=lu ac.out (by simp);have K:=dD y p5;have D:=dH w7 (w.heap.size+1) 0 _ ao K;have z:=dn (aH y p5).toList w7 (w.heap.size+1) 0 ((g.out.trans (j.out.mono g.out.size)).trans (G.mono (by have:=g.out.size;have:=j.out.size;omega))) (by omega);have ap:∀ q,q≠w.heap.size+1->(gJ w7 (w.heap.size+1) 0 (aH y p5)).heap[q]?=w7.heap[q]?:=fun q hq=>bF _ _ _ _ hq;have c:=hid (show (gJ w7 (w.heap.size+1) 0 (aH y p5)).heap[w.heap.size+1]?=some (.cells (aH y p5) 41) from zK ac.out rfl K);have M:=hid (show Below w.heap.size w (gJ w7 (w.heap.size+1) 0 (aH y p5)) from z)
       have av:=hid (show jf (gJ w7 (w.heap.size+1) 0 (aH y p5)) y p5 from by
        have D:gB (mask (bZ w6.heap.size) w7) (gJ w7 (w.heap.size+1) 0 (aH y p5)):=uu fun q hq hl=>ap q (by simp only [bZ,decide_eq_true_eq] at hq;have:=k.out;have:=j.out.size;omega);exact aT _ _ ⟨_,p5⟩ D I)
       clear G I z ap K ao;generalize gJ w7 (w.heap.size+1) 0 (aH y p5)=W8 at *;generalize ab:aH y p5=Y5 at *;have J:=hid ab;clear ab))
   rw [<-J.out] at c;have g0:=ae c.out 0 rfl;have g1:=ae c.out 1 rfl;have g2:=ae c.out 2 rfl;have g3:=ae c.out 3 rfl;have g4:=ae c.out 4 rfl;have g5:=ae c.out 5 rfl;have g6:=ae c.out 6 rfl;have g7:=ae c.out 7 rfl;have g8:=ae c.out 8 rfl;have g9:=ae c.out 9 rfl;have U:=ae c.out 10 rfl;have S:=ae c.out 11 rfl;have R:=ae c.out 12 rfl;exact bodyPost_ret (v:=.tuple #[.agg Y5,.bool true]) (by rw [<-J.out];simp [results,Tryz.results16,go_sem,aH,g0,g1,g2,g3,g4,g5,g6,g7,g8,g9,U,S,R]) rfl (by rw [<-J.out];exact Y.out _ _ M.out av.out)
end Go.Proofs.YtomhbcfjhgecbaaGreatDoor
namespace Go.Proofs.YtomhbcfjhgecbaaGreatDoor
open Go.RowKit Go.Sort Go.Lib
open Go.Lib (hid)
attribute [local go_sem] Stp.di
attribute [local go_sem ↓] fQ
attribute [local go_sem] dV
attribute [local go_sem ↓] fK
attribute [local go_sem] dH bD bG bJ cu bQ dA bI cO
theorem uY {w:World} {r:Option Addr} {n c:Nat} {xs:List Pnd} (h:Sl Kr 3 w (.slice r n c) xs) (i:Nat) (hi:i < xs.length) :
  ∃ b off,r=some ⟨b,off,none⟩/\b < w.heap.size/\w.cell? ⟨b,off+i * 3,none⟩=some (.string xs[i].ad)/\w.cell? ⟨b,off+i * 3+1,none⟩=some (.string xs[i].ty)/\w.cell? ⟨b,off+i * 3+2,none⟩=some (.string xs[i].tok)/\xs[i].ad.size<=maxLen/\xs[i].ty.size<=maxLen/\xs[i].tok.size<=maxLen:=by
 obtain ⟨o,m,e,p,q,j⟩:=h;simp at e;obtain ⟨rfl,rfl,rfl⟩:=e;obtain ⟨b,off,l,f,s,a,g,k⟩:=j i hi;subst g;have d:=a 0 _ rfl;exact ⟨b,off,f,World.block_lt_of_cell? w _ d,d,a 1 _ rfl,a 2 _ rfl,k⟩
set_option maxRecDepth 100000 in
set_option maxHeartbeats 4000000 in
theorem MG (x:Ins) (q:Pt) (a:ByteArray) (bb:Nat) (w:World) (h:w.cell? ⟨bb,0,none⟩=some (.string a)) :
  Calls Tryz.prog 101 #[.agg (aH x q),.pointer (some ⟨bb,0,none⟩)] w fun e w'=>e=.returned (.bool (decide (x.ad=a)))/\Below w.heap.size w w':=by
 have b:Below w.heap.size w (w.alloc (.cells (aH x q) 41)):=(Below.refl _ _).alloc (Nat.le_refl _) _;have f:=az b h;have c:=hid b
 have d:(x.ad.toList == a.toList)=decide (x.ad=a):=by
  by_cases h:x.ad=a
  . subst h;simp
  . rw [decide_eq_false h];exact fP h
 unfold aH at *;clear b;go_enter Tryz.func101,Tryz.ntmps101;go_wp2_with fail
 go_ret
 exact ⟨by rw [<-d];rfl,c.out⟩
set_option maxRecDepth 100000 in
set_option maxHeartbeats 4000000 in
theorem Md (x:Pnd) (a:ByteArray) (bb:Nat) (w:World) (h:w.cell? ⟨bb,0,none⟩=some (.string a)) :
  Calls Tryz.prog 103 #[.agg #[.string x.ad,.string x.ty,.string x.tok],.pointer (some ⟨bb,0,none⟩)] w fun e w'=>e=.returned (.bool (decide (x.ad=a)))/\Below w.heap.size w w':=by
 have b:Below w.heap.size w (w.alloc (.cells #[.string x.ad,.string x.ty,.string x.tok] 58)):=(Below.refl _ _).alloc (Nat.le_refl _) _;have f:=az b h;have c:=hid b
 have d:(x.ad.toList == a.toList)=decide (x.ad=a):=by
  by_cases h:x.ad=a
  . subst h;simp
  . rw [decide_eq_false h];exact fP h
 clear b;go_enter Tryz.func103,Tryz.ntmps103;go_wp2_with fail
 go_ret
 exact ⟨by rw [<-d];rfl,c.out⟩
set_option maxRecDepth 100000 in
set_option maxHeartbeats 4000000 in
theorem N7 (p:Ins->Bool) (g:Nat) (lb:Array Value) (eg:∀ args w,(callFunc g args).run Tryz.prog w=.ok (.enter g args) w) (r:Option Addr) (c:Nat) (xs:List Ins) (w:World)
  (hS:Sl FI 13 w (.slice r xs.length c) xs) (hp:∀ (W:World) (x:Ins) (q:Pt),Below w.heap.size w W->Calls Tryz.prog g (#[.agg (aH x q)] ++ lb) W fun e w'=>e=.returned (.bool (p x))/\Below W.heap.size W w') :
  Calls Tryz.prog 137 #[.slice r xs.length c,.func (.func g) #[] lb] w fun e w'=>(∃ k:Int,e=.returned (.int .i64 k)/\decide (0<=k)=xs.any p)/\Below w.heap.size w w':=by
 obtain ⟨_,K,L⟩:=bi hS;have v:=hid (fun (W:World) (hW:Below w.heap.size w W)=>mM (hS.below dB hW));have F:=hid hp;clear hS hp;go_enter Tryz.func137,Tryz.ntmps137;go_wp2
 go_loopg [5,8] xs.length (fun D _ E wr=>∃ a:Nat,a<=xs.length/\xs.length - a<=D/\E=.int .i64 a/\Aside (Below w.heap.size w wr)/\Aside ((xs.take a).any p=false))
 case atStart=>exact ⟨0,Nat.zero_le _,by omega,rfl,Below.refl _ w,rfl⟩
 case round =>
  obtain ⟨a,I,M,rfl,f,A⟩:=hrel
  by_cases m:a < xs.length
  . have t:(a:Int) < (xs.length:Int):=by omega
    obtain ⟨b,J,n,rfl,H,i,C⟩:=v.out wr f.out a m;obtain ⟨N,O⟩:=gU (dD xs[a] n) i;have d:=F.out wr (xs[a]) n f.out;clear i C;generalize aH xs[a] n=X at *
    have s:Aside ((xs.take (a+1)).any p=p (xs[a])):=by
     show _=_;rw [List.take_succ_eq_append_getElem m,List.any_append,A.out];simp
    have o:Aside (p (xs[a])=true->xs.any p=true):=fun h=>List.any_eq_true.2 ⟨_,List.getElem_mem m,h⟩;generalize xs[a]=y at *;cases j:p y with
    | true =>
      rw [j] at d;have z:Aside (xs.any p=true):=o.out j;clear o s j;go_wp2_with (go_at_fn g;refine d.mono ?_;rintro e w' ⟨rfl,l⟩)
      go_ret
      exact ⟨⟨a,rfl,by rw [z.out];simp⟩,f.out.trans (l.mono f.out.size)⟩
    | false =>
      rw [j] at d;have B:Aside ((xs.take (a+1)).any p=false):=s.out.trans j;clear o s j;go_wp2_with (go_at_fn g;refine d.mono ?_;rintro e w' ⟨rfl,l⟩)
      go_roundg (xs.length - (a+1))
      case measure=>omega
      case rel=>exact ⟨a+1,by omega,by omega,by go_num,f.out.trans (l.mono f.out.size),B⟩
  . have t:¬ (a:Int) < (xs.length:Int):=by omega
    have u:a=xs.length:=by omega
    have G:Aside (xs.any p=false):=by have:=A.out;rw [u,List.take_length] at this;exact this
    clear u A;go_wp2
    go_ret
    exact ⟨⟨-1,rfl,by rw [G.out];rfl⟩,f.out⟩
theorem CW (p:Ins->Bool) (g:Nat) (lb:Array Value) (eg:∀ args w,(callFunc g args).run Tryz.prog w=.ok (.enter g args) w) (r:Option Addr) (c:Nat) (xs:List Ins) (w:World)
  (hS:Sl FI 13 w (.slice r xs.length c) xs) (hp:∀ (W:World) (x:Ins) (q:Pt),Below w.heap.size w W->Calls Tryz.prog g (#[.agg (aH x q)] ++ lb) W fun e w'=>e=.returned (.bool (p x))/\Below W.heap.size W w') :
  Calls Tryz.prog 100 #[.slice r xs.length c,.func (.func g) #[] lb] w fun e w'=>e=.returned (.bool (xs.any p))/\Below w.heap.size w w':=by
 have i:=Lib.hid (N7 p g lb eg r c xs w hS hp);clear hS hp;go_enter Tryz.func100,Tryz.ntmps100;go_wp2_with fail
 refine i.out.mono ?_;rintro e w' ⟨⟨k,rfl,a⟩,f⟩;have d:=Lib.hid a;clear a;go_wp2
 go_ret
 exact ⟨by first | exact congrArg (fun b=>Ending.returned (.bool b)) d.out | (rw [d.out]),f⟩
set_option maxRecDepth 100000 in
set_option maxHeartbeats 4000000 in
theorem KY (p:Pnd->Bool) (g:Nat) (lb:Array Value) (eg:∀ args w,(callFunc g args).run Tryz.prog w=.ok (.enter g args) w) (r:Option Addr) (c:Nat) (xs:List Pnd) (w:World)
  (hS:Sl Kr 3 w (.slice r xs.length c) xs) (hp:∀ (W:World) (x:Pnd),Below w.heap.size w W->Calls Tryz.prog g (#[.agg #[.string x.ad,.string x.ty,.string x.tok]] ++ lb) W fun e w'=>e=.returned (.bool (p x))/\Below W.heap.size W w') :
  Calls Tryz.prog 138 #[.slice r xs.length c,.func (.func g) #[] lb] w fun e w'=>(∃ k:Int,e=.returned (.int .i64 k)/\decide (0<=k)=xs.any p)/\Below w.heap.size w w':=by
 obtain ⟨_,G,I⟩:=bi hS;have s:=hid (fun (W:World) (hW:Below w.heap.size w W)=>uY (hS.below iY hW));have B:=hid hp;clear hS hp;go_enter Tryz.func138,Tryz.ntmps138;go_wp2
 go_loopg [5,8] xs.length (fun v _ z wr=>∃ a:Nat,a<=xs.length/\xs.length - a<=v/\z=.int .i64 a/\Aside (Below w.heap.size w wr)/\Aside ((xs.take a).any p=false))
 case atStart=>exact ⟨0,Nat.zero_le _,by omega,rfl,Below.refl _ w,rfl⟩
 case round =>
  obtain ⟨a,E,J,rfl,f,A⟩:=hrel
  by_cases l:a < xs.length
  . have o:(a:Int) < (xs.length:Int):=by omega
    obtain ⟨b,F,rfl,D,K,H,L,_⟩:=s.out wr f.out a l;have d:=B.out wr (xs[a]) f.out
    have n:Aside ((xs.take (a+1)).any p=p (xs[a])):=by
     show _=_;rw [List.take_succ_eq_append_getElem l,List.any_append,A.out];simp
    have m:Aside (p (xs[a])=true->xs.any p=true):=fun h=>List.any_eq_true.2 ⟨_,List.getElem_mem l,h⟩;generalize xs[a]=y at *;cases i:p y with
    | true =>
      rw [i] at d;have t:Aside (xs.any p=true):=m.out i;clear m n i;go_wp2_with (go_at_fn g;refine d.mono ?_;rintro e w' ⟨rfl,j⟩)
      go_ret
      exact ⟨⟨a,rfl,by rw [t.out];simp⟩,f.out.trans (j.mono f.out.size)⟩
    | false =>
      rw [i] at d;have u:Aside ((xs.take (a+1)).any p=false):=n.out.trans i;clear m n i;go_wp2_with (go_at_fn g;refine d.mono ?_;rintro e w' ⟨rfl,j⟩)
      go_roundg (xs.length - (a+1))
      case measure=>omega
      case rel=>exact ⟨a+1,by omega,by omega,by go_num,f.out.trans (j.mono f.out.size),u⟩
  . have o:¬ (a:Int) < (xs.length:Int):=by omega
    have q:a=xs.length:=by omega
    have C:Aside (xs.any p=false):=by have:=A.out;rw [q,List.take_length] at this;exact this
    clear q A;go_wp2
    go_ret
    exact ⟨⟨-1,rfl,by rw [C.out];rfl⟩,f.out⟩
theorem ED (p:Pnd->Bool) (g:Nat) (lb:Array Value) (eg:∀ args w,(callFunc g args).run Tryz.prog w=.ok (.enter g args) w) (r:Option Addr) (c:Nat) (xs:List Pnd) (w:World)
  (hS:Sl Kr 3 w (.slice r xs.length c) xs) (hp:∀ (W:World) (x:Pnd),Below w.heap.size w W->Calls Tryz.prog g (#[.agg #[.string x.ad,.string x.ty,.string x.tok]] ++ lb) W fun e w'=>e=.returned (.bool (p x))/\Below W.heap.size W w') :
  Calls Tryz.prog 102 #[.slice r xs.length c,.func (.func g) #[] lb] w fun e w'=>e=.returned (.bool (xs.any p))/\Below w.heap.size w w':=by
 have i:=Lib.hid (KY p g lb eg r c xs w hS hp);clear hS hp;go_enter Tryz.func102,Tryz.ntmps102;go_wp2_with fail
 refine i.out.mono ?_;rintro e w' ⟨⟨k,rfl,a⟩,f⟩;have d:=Lib.hid a;clear a;go_wp2
 go_ret
 exact ⟨by first | exact congrArg (fun b=>Ending.returned (.bool b)) d.out | (rw [d.out]),f⟩
set_option maxRecDepth 100000 in
set_option maxHeartbeats 8000000 in
theorem tK (s:fU) (p:Sp) (a:ByteArray) (w:World) (h:dQ w s p) :
  Calls Tryz.prog 53 #[.agg (bK s p),.string a] w fun e w'=>e=.returned (.bool (mW s a))/\Below w.heap.size w w':=by
 obtain ⟨A,I,E,C,L,O⟩:=p;have B:=hid (fun (W:World) (hW:Below w.heap.size w W)=>(h.1.below dB hW));have G:=hid (fun (W:World) (hW:Below w.heap.size w W)=>(h.2.1.below iY hW));obtain ⟨K,k⟩:∃ b,s.ins.any (fun x=>decide (x.ad=a))=b:=⟨_,rfl⟩;obtain ⟨M,j⟩:∃ b,s.pen.any (fun x=>decide (x.ad=a))=b:=⟨_,rfl⟩;have J:mW s a=(K || M):=by unfold mW;rw [k,j]
 have l:=hid (fun (bb:Nat) (W:World) (hW:Below w.heap.size w W) (hc:W.cell? ⟨bb,0,none⟩=some (.string a))=>CW (fun x=>decide (x.ad=a)) 101 #[.pointer (some ⟨bb,0,none⟩)] (by first | (intro g w;rfl) | (intro g w;kernel_rfl)) A I s.ins W (B.out W hW) (fun y x q z=>MG x q a bb y (az z hc)));have t:=hid (fun (bb:Nat) (W:World) (hW:Below w.heap.size w W) (hc:W.cell? ⟨bb,0,none⟩=some (.string a))=>ED (fun x=>decide (x.ad=a)) 103 #[.pointer (some ⟨bb,0,none⟩)] (by first | (intro g w;rfl) | (intro g w;kernel_rfl)) E C s.pen W (G.out W hW) (fun y x z=>Md x a bb y (az z hc)));rw [k] at l;rw [j] at t;rw [J];clear h k j J B G;unfold bK;dsimp only;obtain ⟨R,v,r,D,i,o⟩:=iK w (.cells #[.string s.lin,.int .i64 s.ser,.slice A s.ins.length I,.slice E s.pen.length C,.slice L s.out.length O] 26) (.cells #[.string a] 9);have u:=hid v;have d:=hid r;have Q:=ae i 2 rfl;have N:=ae i 3 rfl;have m:=hid (ae o 0 rfl);clear r D i o v;cases K with
 | true =>
   go_enter Tryz.func53,Tryz.ntmps53;go_upto_region 1 with (fail)
   rw [<-u.out];go_wp2_with (go_at_call 100;refine (l.out _ _ d.out m.out).mono ?_;rintro e w1 ⟨rfl,c⟩;have f:=hid (d.out.trans (c.mono d.out.size));clear c)
   go_ret
   exact ⟨rfl,f.out⟩
 | false =>
   go_enter Tryz.func53,Tryz.ntmps53;go_upto_region 1 with (fail)
   rw [<-u.out]
   go_wp2_with (first
    | (go_at_call 100;refine (l.out _ _ d.out m.out).mono ?_;rintro e w1 ⟨rfl,c⟩;have f:=hid (d.out.trans (c.mono d.out.size));have H:=hid (az c m.out);have P:=az c N;clear c)
    | (go_at_call 102;refine (t.out _ _ f.out H.out).mono ?_;rintro e w2 ⟨rfl,n⟩;have F:=hid (f.out.trans (n.mono f.out.size));clear n))
   go_ret
   exact ⟨rfl,F.out⟩
end Go.Proofs.YtomhbcfjhgecbaaGreatDoor
namespace Go.Proofs.YtomhbcfjhgecbaaGreatDoor
open Go.RowKit Go.Sort Go.Lib
open Go.Lib (hid)
attribute [local go_sem] Stp.di
attribute [local go_sem ↓] fQ
attribute [local go_sem] dV
attribute [local go_sem ↓] fK
attribute [local go_sem] dH bD bG bJ cu bQ dA bI cO
set_option maxRecDepth 100000 in
set_option maxHeartbeats 8000000 in
theorem MR (s:fU) (p:Sp) (w:World) (h:dQ w s p) (hn:s.ins.length<=1000000) :
  Calls Tryz.prog 24 #[.agg (bK s p)] w fun e w'=>∃ v,e=.returned v/\oW w.heap.size w' v (rC s.ins)/\Below w.heap.size w w':=by
 obtain ⟨ri,ci,rp,cp,ro,co⟩:=p;have U:=hid (fun (W:World) (hW:Below w.heap.size w W)=>mM (h.1.below dB hW));obtain ⟨_,aE,a3⟩:=bi h.1;dsimp only at U;obtain ⟨d,m⟩:∃ d,d=w.alloc (.cells #[.string s.lin,.int .i64 s.ser,.slice ri s.ins.length ci,.slice rp s.pen.length cp,.slice ro s.out.length co] 26):=⟨_,rfl⟩;have am:=hid m;have aq:=hid (show Below w.heap.size w d from m ▸ (Below.refl _ _).alloc (Nat.le_refl _) _);have an:=hid (show d.heap[w.heap.size]?=some (.cells #[.string s.lin,.int .i64 s.ser,.slice ri s.ins.length ci,.slice rp s.pen.length cp,.slice ro s.out.length co] 26) from m ▸ (MapKept.heap_alloc w _).1);have B:=hid (show d.heap.size=w.heap.size+1 by rw [m];simp);have t2:d.cell? ⟨w.heap.size,2,none⟩=some (.slice ri s.ins.length ci):=ae an.out 2 rfl;clear h m;unfold bK;go_enter Tryz.func24,Tryz.ntmps24;go_upto_region 2 with (fail)
 rw [<-am.out];go_wp2_with fail
 go_loopg [3,9] s.ins.length (fun gg s3 s9 wr=>∃ k:Nat,k<=s.ins.length/\s.ins.length - k<=gg/\s9=.int .i64 k/\Hid (Below w.heap.size w wr)/\Hid (oW d.heap.size wr s3 (rC (s.ins.take k))))
 case atStart=>exact ⟨0,by omega,by omega,rfl,aq,hid (by rw [List.take_zero];exact LH _ _)⟩
 case round =>
  obtain ⟨k,hk,aL,rfl,O,Q⟩:=hrel;obtain ⟨r,c,aa,a0,aD⟩:=Q.out.form;subst aa
  by_cases R:k < s.ins.length
  . have a6:(k:Int) < (s.ins.length:Int):=by omega
    have a1:(0:Int)<=(k:Int):=by omega
    have D:=hid (JG R);have E:=hid (show (rC (s.ins.take k)).length+1<=2000000 by have:=LC (s.ins.take k);rw [List.length_take] at this;omega);obtain ⟨b,aM,q,rfl,a5,u,hP⟩:=U.out wr O.out k R;have hX:=dD s.ins[k] q;have ap:=hid (show (aH s.ins[k] q)[0]?=some (.string s.ins[k].ad) from rfl);obtain ⟨l1,l2⟩:=gU hX u;have Y:=hid hP.2.2.2.1;have J:Below wr.heap.size wr (wr.alloc (.cells (aH s.ins[k] q) 41)):=(Below.refl _ _).alloc (Nat.le_refl _) _;have V:=(MapKept.heap_alloc wr (.cells (aH s.ins[k] q) 41)).1;have M:=hid (O.out.alloc O.out.size (.cells (aH s.ins[k] q) 41));have f:=hid (Q.out.below J);have T:=hid (show (wr.alloc (.cells (aH s.ins[k] q) 41)).heap.size=wr.heap.size+1 by simp);have P:=ae V 0 ap.out;have aR:=hid (Q.out.lt);clear u hP V;generalize ar:aH s.ins[k] q=X at *;clear ar;generalize s.ins[k]=y at *;generalize ab:rC (s.ins.take k)=A at *;have S:=hid (show d.heap.size<=wr.heap.size+1 by have:=O.out.size;have:=B.out;omega);clear ab;rcases List.eq_nil_or_concat A with rfl | ⟨A',z,rfl⟩
    . have L:=hid (show kS [] y=[] ++ [y.ad] from rfl)
      rw [L.out] at D;simp only [List.length_nil] at f;go_upto_region 5 with (fail)
      simp only [List.length_nil];go_quiet (fail)
      have j:=hid (bu M.out nq);have n:=hid (f.out.below (bu (Below.refl _ _) nq));have N:=hid (show ((wr.alloc (.cells X 41)).drewN nq).heap.size=wr.heap.size+1 from T.out);have qd:((wr.alloc (.cells X 41)).drewN nq).cell? ⟨wr.heap.size,0,none⟩=some (.string y.ad):=P;generalize (wr.alloc (.cells X 41)).drewN nq=t at *;have F:=hid (n.out.below ((Below.refl _ _).alloc (Nat.le_refl _) (.cells #[.string y.ad] 9)));have l:=hid (j.out.alloc j.out.size (.cells #[.string y.ad] 9));have I:=hid (n.out.lt);clear P l1 l2 J;go_wp2_with (at_builtin;go_loud (refine Ij rfl _ _ rfl d.heap.size _ [] rfl F.out t.heap.size 1 y.ad rfl (fr:=(0,0)) (by exact (MapKept.heap_alloc t _).1) Y.out E.out (by have:=S.out;have:=N.out;simp;omega) (t.heap.size+1) (by simp) ?_);intro g af w3 a)
      have o:=Below.grown l.out a.2.1 l.out.size (fun g Z=>by have:=I.out g Z;have:=B.out;omega);have K:=hid o;have H:=hid a.1;clear a o;go_wp2_with fail
      go_roundg (s.ins.length - (k+1))
      case measure=>omega
      case rel=>exact ⟨k+1,by omega,by omega,by go_num,K,hid (by rw [D.out];simpa using H.out)⟩
    . have i:(A'.concat z).length=A'.length+1:=by simp
      rw [i] at f;obtain ⟨b3,o3,ac,av,ao,_⟩:=iT f.out.sl A'.length (by simp);subst ac;rw [show (A'.concat z)[A'.length]'(by simp)=z by simp] at ao;have e0:(((A'.length:Int)+1) == 0)=false:=by simp;omega
      have i0:(0:Int)<=(A'.length:Int):=by omega
      have i1:(A'.length:Int) < (A'.length:Int)+1:=by omega
      have a4:wrap64 (A'.length:Int)=(A'.length:Int):=by have:=E.out;rw [i] at this;unfold wrap64;omega
      by_cases G:z=y.ad
      . subst G
        have L:=hid (show kS (A'.concat y.ad) y=A'.concat y.ad from by unfold kS;rw [if_pos (by rw [List.concat_eq_append];simp)]);rw [L.out] at D;go_upto_region 5 with (fail)
        rw [i];go_quiet (fail)
        go_wp2_with fail
        go_roundg (s.ins.length - (k+1))
        case measure=>omega
        case rel=>exact ⟨k+1,by omega,by omega,by go_num,hid (bu M.out nq),hid (by rw [D.out];exact f.out.below (bu (Below.refl _ _) nq))⟩
      . have a2:=jU G
        have aw:=fP G;have L:=hid (show kS (A'.concat z) y=A'.concat z ++ [y.ad] from by unfold kS;rw [if_neg (by rw [List.concat_eq_append];simpa using G)]);rw [L.out] at D;clear G;go_upto_region 5 with (fail)
        rw [i];go_quiet (fail)
        have j:=hid (bu M.out nq);have n:=hid (f.out.below (bu (Below.refl _ _) nq));have N:=hid (show ((wr.alloc (.cells X 41)).drewN nq).heap.size=wr.heap.size+1 from T.out);have qd:((wr.alloc (.cells X 41)).drewN nq).cell? ⟨wr.heap.size,0,none⟩=some (.string y.ad):=P;generalize (wr.alloc (.cells X 41)).drewN nq=t at *;have F:=hid (n.out.below ((Below.refl _ _).alloc (Nat.le_refl _) (.cells #[.string y.ad] 9)));have l:=hid (j.out.alloc j.out.size (.cells #[.string y.ad] 9));have I:=hid (n.out.lt);clear P l1 l2 J;go_wp2_with (at_builtin;go_loud (refine Ij rfl _ _ rfl d.heap.size _ (A'.concat z) rfl F.out t.heap.size 1 y.ad rfl (fr:=(0,0)) (by exact (MapKept.heap_alloc t _).1) Y.out E.out (by have:=S.out;have:=N.out;simp;omega) (t.heap.size+1) (by simp) ?_);intro g af w3 a)
        have o:=Below.grown l.out a.2.1 l.out.size (fun g Z=>by have:=I.out g Z;have:=B.out;omega);have K:=hid o;have H:=hid a.1;clear a o;go_wp2_with fail
        go_roundg (s.ins.length - (k+1))
        case measure=>omega
        case rel=>exact ⟨k+1,by omega,by omega,by go_num,K,hid (by rw [D.out];simpa using H.out)⟩
  . obtain rfl:k=s.ins.length:=by omega
    have C:=Q.out;rw [List.take_length] at C;have al:=hid (show oW w.heap.size wr (.slice r (rC (s.ins.take s.ins.length)).length c) (rC s.ins) from ⟨by rw [List.take_length];exact own_base C.1 (by have:=B.out;omega),C.2⟩);clear C;go_wp2
    go_ret
    exact ⟨_,rfl,al.out,O.out⟩
end Go.Proofs.YtomhbcfjhgecbaaGreatDoor
