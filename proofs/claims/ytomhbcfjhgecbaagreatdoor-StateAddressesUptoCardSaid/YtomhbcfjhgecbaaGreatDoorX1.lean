import Derived.Test.YtomhbcfjhgecbaaGreatDoorRows
import Derived.WalkKit
import Derived.WalkSpells
import Derived.BigQuiet
import Derived.Deep.QuietTactic
import Derived.Deep.Slices
import Derived.Deep.LoopGhost
import Derived.Lib.Hide
import Derived.Lib.MinMax
import Derived.Lib.QuietBelow
import Derived.ProofKit
import Derived.OpenShut
import Derived.Outline
import Derived.Maps.Ext
import Derived.Deep.AppendLies
import Derived.OwnWalk
import Derived.Laws.AppendOwnNone
import Derived.ArgAppend
import Derived.Deep.RegionWith
import Derived.Deep.RegionHeld3
import Derived.Shelf.Strings.Builder1
import Derived.Shelf.Small.Utf8
import Derived.Shelf.Small.Bits
import Derived.Shelf.Small.Strs
import Derived.Shelf.Small.Wraps
import Derived.Shelf.Strings.BuilderF
import Derived.Shelf.Strings.BuilderK
import Derived.Shelf.Strings.BuilderRune
import Derived.Shelf.LaysM
import Derived.Shelf.Strconv.ParseIntEmpty
import Derived.Shelf.Strconv.Clone
import Derived.Shelf.Strconv.SyntaxError
import Derived.Shelf.LaysC
import Derived.Shelf.Strconv.ToError
import Derived.Shelf.Strconv.Lower
import Derived.Shelf.Strconv.ParseUint10
import Derived.Shelf.Strconv.ParseUint10Empty
import Derived.Shelf.Strconv.ParseUint10Any
import Derived.Shelf.Strconv.ParseInt10
import Derived.Shelf.Strconv.RangeError
import Derived.Shelf.Strconv.ToErrorRange
import Derived.Shelf.Strconv.ParseUintEmpty
import Derived.Shelf.Strconv.ParseUint10b64
import Derived.Shelf.Strconv.ParseUint10b32
import Derived.Shelf.Strconv.ParseUint10b16
import Derived.Shelf.Strconv.ParseUint10b8
import Derived.Shelf.Strconv.ParseUint10At
import Derived.Shelf.Strconv.ParseInt10At64
import Derived.Shelf.Strconv.ParseInt10At32
import Derived.Shelf.Strconv.ParseInt10At16
import Derived.Shelf.Strconv.ParseInt10At8
import Derived.Shelf.Strconv.ParseInt10All
import Derived.Shelf.Strconv.ParseIntPublic10
import Derived.Shelf.Strconv.ErrVarParseInt
import Derived.Shelf.Strings.Search1
import Derived.Shelf.Strings.Prefix
import Derived.Shelf.Unicode.Decode
import Derived.Shelf.Strings.Runes
import Derived.Shelf.Strings.IndexAny
import Derived.Shelf.Strings.AsciiSet
import Derived.Shelf.Strings.IndexAnyAll
import Derived.Shelf.Unicode.DecodeSlow
import Derived.Shelf.Unicode.DecodeAny
import Derived.Ground.Names2Prog
import Derived.Shelf.Slices.Empties2
import Derived.Ground.SlgnProg
import Derived.Shelf.SlicesE.Clone
import Derived.Shelf.Spec.TrailingZeros
import Derived.Test.YtomhbcfjhgecbaaGreatDoorProg
import Derived.Shelf.Slices.Clone
import Derived.Shelf.Unicode.ValidAny
import Derived.Lib.LaidU8T
import Derived.OneCell
import Derived.Deep.Quiet
set_option linter.unusedVariables false
set_option linter.unusedSimpArgs false
namespace Go.Proofs.YtomhbcfjhgecbaaGreatDoor
open Go.RowKit Go.Sort
theorem bcellB {B:Nat} {W w1:World} (hb:Below B W w1):(∀ b o,b < B->w1.cell? ⟨b,o,none⟩=W.cell? ⟨b,o,none⟩)/\(∀ b o,b < B->w1.frozen? ⟨b,o,none⟩=W.frozen? ⟨b,o,none⟩):=
 ⟨fun b o h=>hb.cell (p:=⟨b,o,none⟩) h,fun b o h=>hb.frozen (p:=⟨b,o,none⟩) h⟩
theorem bget {W w1:World} {a:Addr} {v:Value} (hb:Below W.heap.size W w1) (h:W.cell? a=some v):w1.cell? a=some v:=
 (hb.cell (World.block_lt_of_cell? W a h)).trans h
theorem cells_regrown (W:World):∀ (d:Nat) (os:Array Obj) (b o:Nat),b < W.heap.size->(grow (redrawn W d) os).cell? ⟨b,o,none⟩=W.cell? ⟨b,o,none⟩:=
 fun d os _ _ h=>(bcellB (below_regrown W d os)).1 _ _ h
theorem scell_same {w:World} {a:Addr} {v u:Value} (h:w.cell? a=some u):(w.setCell a v).cell? a=some v:=World.cell?_setCell_same' w a v (by rw [h];rfl)
theorem scell_ne {w:World} {b o o':Nat} {v:Value} (h:o≠o'):(w.setCell ⟨b,o,none⟩ v).cell? ⟨b,o',none⟩=w.cell? ⟨b,o',none⟩:=by
 apply World.cell?_setCell_other;intro e;apply h;injection e
theorem ret_bool {a b:Bool} (h:a=b):Ending.returned (.bool b)=.returned (.bool a):=by rw [h]
theorem ret_int {a b:Int} (h:a=b):Ending.returned (.int .i64 b)=.returned (.int .i64 a):=by rw [h]
def Sl {α:Type} (R:World->List Value->α->Prop) (sz:Nat) (w:World) (v:Value) (xs:List α):Prop:=
 ∃ r cap,v=.slice r xs.length cap/\xs.length<=cap/\cap<=maxLen/\∀ (i:Nat) (h:i < xs.length),∃ b off cs,r=some ⟨b,off,none⟩/\cs.length=sz /\
  (∀ (j:Nat) (u:Value),cs[j]?=some u->w.cell? ⟨b,off+i * sz+j,none⟩=some u)/\R w cs (xs[i])
def Mono {α:Type} (R:World->List Value->α->Prop):Prop:=∀ w w' cs x,Below w.heap.size w w'->R w cs x->R w' cs x
theorem Sl.below {α:Type} {R:World->List Value->α->Prop} {sz:Nat} {w w':World} {v:Value} {xs:List α} (hm:Mono R) (hb:Below w.heap.size w w') (h:Sl R sz w v xs):Sl R sz w' v xs:=by
 obtain ⟨r,cap,hv,hl,hc,he⟩:=h;refine ⟨r,cap,hv,hl,hc,fun i hi=>?_⟩;obtain ⟨b,off,cs,hr,hs,hcell,hR⟩:=he i hi;exact ⟨b,off,cs,hr,hs,fun j u hj=>bget hb (hcell j u hj),hm _ _ _ _ hb hR⟩
def IntR (_:World) (cs:List Value) (n:Int):Prop:=cs[0]?=some (.int .i64 n)/\ -9223372036854775808<=n/\n<=9223372036854775807
def StrR (_:World) (cs:List Value) (s:ByteArray):Prop:=cs[0]?=some (.string s)/\s.size<=maxLen
theorem strR_mono:Mono StrR:=fun _ _ _ _ _ h=>h
theorem list_of {α:Type} (n:Nat) (p:Nat->α->Prop) (h:∀ i,i < n->∃ x,p i x):∃ xs:List α,xs.length=n/\∀ (i:Nat) (hi:i < xs.length),p i (xs[i]):=by
 induction n with
 | zero=>exact ⟨[],rfl,fun i hi=>absurd hi (by simp)⟩
 | succ n ih =>
   obtain ⟨xs,hl,hx⟩:=ih fun i hi=>h i (by omega);obtain ⟨x,hp⟩:=h n (by omega);refine ⟨xs ++ [x],by simp [hl],fun i hi=>?_⟩
   by_cases hin:i < xs.length
   . rw [List.getElem_append_left hin];exact hx i hin
   . have:i=xs.length:=by simp at hi;omega
     subst this;simp only [List.getElem_concat_length];rw [hl];exact hp
theorem cells_list {w:World} {base:Nat} {a:Addr} {n:Nat} {cs:List Value} (h:w.cells? base a n=some cs):cs.length=n/\∀ (j:Nat) (u:Value),cs[j]?=some u->w.cell? (a.add j)=some u:=by
 unfold World.cells? at h;split at h
 case isFalse=>cases h
 have hlen:cs.length=n:=by simpa using mapM_some_length h
 refine ⟨hlen,fun j u hj=>?_⟩;have hjn:j < cs.length:=(List.getElem?_eq_some_iff.1 hj).1;have:=mapM_some_get h j j (by rw [List.getElem?_range (by omega)]);rw [this,hj]
theorem cell_of_field {cs:List Value} {o:Nat} {v:Value} (h:(cs.drop o).take 1=[v]):cs[o]?=some v:=by
 have:((cs.drop o).take 1)[0]?=some v:=by rw [h];rfl
 simpa using this
theorem field_int {H:Type} {enc:TypeId × Value->H} {P:Program} {w:World} {T:TypeId} {k:IntKind} {fuel o:Nat} {cs:List Value} {y:DataW H × List MemPlace}
  (hT:P.underlying T=some (.int k)) (h:DataW.trod enc P w 0 (fun _=>true) true fuel T ((cs.drop o).take 1)=some y):∃ n,cs[o]?=some (.int k n)/\(Lit.int k n).wf=true:=by
 obtain ⟨n,h1,_,h3⟩:=DataW.trod_int hT h;exact ⟨n,cell_of_field h1,h3⟩
theorem field_str {H:Type} {enc:TypeId × Value->H} {P:Program} {w:World} {T:TypeId} {fuel o:Nat} {cs:List Value} {y:DataW H × List MemPlace}
  (hT:P.underlying T=some .string) (h:DataW.trod enc P w 0 (fun _=>true) true fuel T ((cs.drop o).take 1)=some y):∃ s,cs[o]?=some (.string s)/\s.size<=maxLen:=by
 obtain ⟨s,h1,_,h3⟩:=DataW.trod_string hT h;exact ⟨s,cell_of_field h1,h3⟩
theorem field_bool {H:Type} {enc:TypeId × Value->H} {P:Program} {w:World} {T:TypeId} {fuel o:Nat} {cs:List Value} {y:DataW H × List MemPlace}
  (hT:P.underlying T=some .bool) (h:DataW.trod enc P w 0 (fun _=>true) true fuel T ((cs.drop o).take 1)=some y):∃ b,cs[o]?=some (.bool b):=by
 obtain ⟨s,h1,_⟩:=DataW.trod_bool hT h;exact ⟨s,cell_of_field h1⟩
theorem bounds_i64 {n:Int} (h:(Lit.int .i64 n).wf=true):-9223372036854775808<=n/\n<=9223372036854775807:=by
 simpa [Lit.wf,IntKind.min,IntKind.max,IntKind.signed,IntKind.bits] using h
theorem cell_of_slice_field {cs:List Value} {o:Nat} (ho:o < cs.length):(cs.drop o).take 1=[cs[o]]:=by
 apply List.ext_getElem
 . simp;omega
 . intro i h1 h2;simp at h1 h2;simp [h2]
end Go.Proofs.YtomhbcfjhgecbaaGreatDoor
namespace Go.Proofs.YtomhbcfjhgecbaaGreatDoor
open Go.RowKit Go.Sort Go.Lib Go.Maps
theorem sl_len {α:Type} {R:World->List Value->α->Prop} {sz:Nat} {w:World} {r:Option Addr} {n c:Nat} {xs:List α} (h:Sl R sz w (.slice r n c) xs):n=xs.length/\n<=c/\c<=9223372036854775807:=by
 obtain ⟨r',c',e,h1,h2,_⟩:=h;simp at e;obtain ⟨rfl,rfl,rfl⟩:=e;unfold maxLen at h2;exact ⟨rfl,h1,by omega⟩
theorem str_at {w:World} {r:Option Addr} {n c:Nat} {ks:List ByteArray} (h:Sl StrR 1 w (.slice r n c) ks) (i:Nat) (hi:i < ks.length) :
  ∃ b off,r=some ⟨b,off,none⟩/\b < w.heap.size/\w.cell? ⟨b,off+i,none⟩=some (.string ks[i])/\(ks[i]).size<=maxLen:=by
 obtain ⟨r',c',e,h1,h2,he⟩:=h;simp at e;obtain ⟨rfl,rfl,rfl⟩:=e;obtain ⟨b,off,cs,hr,_,hc,hR,hs⟩:=he i hi;have g0:=hc 0 _ hR;simp only [Nat.add_zero,Nat.mul_one] at g0;exact ⟨b,off,hr,World.block_lt_of_cell? w _ g0,g0,hs⟩
theorem ba_extA {a b:ByteArray} (h:a.data.toList=b.data.toList):a=b:=by
 cases a;cases b;simp at h;subst h;rfl
theorem str_ne {x y:ByteArray} (h:x≠y):(x.toList == y.toList)=false:=by
 rw [beq_eq_false_iff_ne];intro e;apply h;rw [ByteArray.toList_eq,ByteArray.toList_eq] at e;exact ba_extA e
theorem str_ne' {x y:ByteArray} (h:x≠y):(x.toList != y.toList)=true:=by rw [bne,str_ne h];rfl
theorem bel_drewN {B:Nat} {a w:World} (h:Below B a w) (n:Nat):Below B a (w.drewN n):=h.trans ⟨rfl,rfl,rfl,Nat.le_refl _,fun _ _=>rfl⟩
end Go.Proofs.YtomhbcfjhgecbaaGreatDoor
namespace Go.Proofs.YtomhbcfjhgecbaaGreatDoor
open Go.RowKit Go.Sort Go.Lib
open Go.Lib (hid)
theorem flat_get {α:Type} (enc:α->List Value) (sz:Nat) (hsz:∀ x,(enc x).length=sz):∀ (xs:List α) (i:Nat) (hi:i < xs.length) (j:Nat),j < sz->(xs.flatMap enc)[i * sz+j]?=(enc (xs[i]))[j]?:=by
 intro xs
 induction xs with
 | nil=>intro i hi;exact absurd hi (by simp)
 | cons x xs ih =>
   intro i hi j hj;rw [List.flatMap_cons];cases i with
   | zero=>rw [List.getElem?_append_left (by rw [hsz];omega)];simp
   | succ i =>
     have e:(i+1) * sz+j=(enc x).length+(i * sz+j):=by rw [hsz,Nat.add_mul];omega
     rw [e,List.getElem?_append_right (by omega),Nat.add_sub_cancel_left];simp only [List.getElem_cons_succ];exact ih i (by simpa using hi) j hj
theorem flat_len {α:Type} (enc:α->List Value) (sz:Nat) (hsz:∀ x,(enc x).length=sz) (xs:List α):(xs.flatMap enc).length=xs.length * sz:=by
 induction xs with
 | nil=>simp
 | cons x xs ih=>rw [List.flatMap_cons,List.length_append,hsz,ih,List.length_cons,Nat.add_mul];omega
theorem sl_of_own {α:Type} (enc:α->List Value) {sz B:Nat} {e:TypeId} (hsz:∀ x,(enc x).length=sz) {w:World} {v:Value} {xs:List α} (h:w.ownsRow B e sz v xs.length (xs.flatMap enc)):Sl (fun _ cs (x:α)=>cs=enc x) sz w v xs:=by
 rcases h.2 with ⟨rfl,h0⟩ | ⟨g,cap,cur,rfl,hb,hg,hn,hc,hs,ht⟩
 . have:xs=[]:=List.eq_nil_of_length_eq_zero h0
   subst this;exact ⟨none,0,rfl,by simp,by simp,fun i hi=>absurd hi (by simp)⟩
 . refine ⟨some ⟨g,0,none⟩,cap,rfl,hn,hc,fun i hi=>⟨g,0,enc xs[i],rfl,hsz _,fun j u hj=>?_,rfl⟩⟩
   have hjs:j < sz:=by have:=(List.getElem?_eq_some_iff.1 hj).1;rwa [hsz] at this
   have h1:=flat_get enc sz hsz xs i hi j hjs
   have hlt:i * sz+j < xs.length * sz:=by
    have:(i+1) * sz<=xs.length * sz:=Nat.mul_le_mul_right _ hi;rw [Nat.add_mul,Nat.one_mul] at this;omega
   rw [<-ht,List.getElem?_take,if_pos hlt,Array.getElem?_toList] at h1;unfold World.cell?;simp only [hg,Nat.zero_add];simp only [Option.isSome_none,Bool.false_eq_true,if_false];rw [h1,hj]
theorem wpList_append_rows {α:Type} (enc:α->List Value) {sz bytes:Nat} {T E:TypeId} {z:Value} {w:World} {ops:Array Oper} {rest:List Oper} {o:Oper} {a:Act} {Q:Exit->Act->World->Prop} (hsz:∀ x,(enc x).length=sz) (hone:∀ x,∀ u∈enc x,u.oneCell'=true)
  (hT:Tryz.prog.underlying T=some (.slice E)) (hinfo:(Tryz.prog.info? E).map (fun i=>(i.zero,i.size,i.bytes))=some (some z,sz,bytes)) (hzs:z.cells.size=sz) (hpos:0 < sz) (hbytes:bytes<=1000)
  (hgd:o.guard=none) (s x:Operand) (ho:o.op=.call { callee:=.builtin .append,args:=#[s,x],argTypes:=#[T,T] })
  (B:Nat) (v:Value) (xs:List α) (hs:a.eval s=v) (hown:w.ownsRow B E sz v xs.length (xs.flatMap enc)) (nb m c:Nat) (ys:List α) (hm:ys.length=m) (hm0:0 < m) (hx:a.eval x=.slice (some ⟨nb,0,none⟩) m c)
  {fr:Nat × Nat} (hy:w.heap[nb]?=some (.cells (ys.flatMap enc).toArray E fr)) (hn:xs.length+m<=2000000) (hbase:B<=w.heap.size)
  (h:∀ g cap w',w'.ownsRow B E sz (.slice (some ⟨g,0,none⟩) (xs.length+m) cap) (xs ++ ys).length ((xs ++ ys).flatMap enc)->w.grownBy w' v.ownBlock->(v.ownBlock=some g ∨ g=w.heap.size)->g < w'.heap.size ->
   wpList Tryz.prog ops Q rest (a.put o.dst (.slice (some ⟨g,0,none⟩) (xs.length+m) cap)) w'):wpList Tryz.prog ops Q (o :: rest) a w:=by
 obtain ⟨i0,hi,hz0,hz1,hz2⟩:=info_parts hinfo;refine wpList_append_lies w hgd s x T ho B E i0 z sz bytes hT hi hz0 hz1 hz2 hzs hpos v xs.length (xs.flatMap enc) hs hown ⟨nb,0,none⟩ m c (ys.flatMap enc) hx (by rw [flat_len enc sz hsz,hm]) ?_ ?_ hm0 (by unfold maxLen;omega) ?_ hbase _ rfl ?_
 . intro j u hj
   exact World.news_of_block hy j u (by simpa using hj)
 . intro u hu
   obtain ⟨y,_,hy2⟩:=List.mem_flatMap.1 hu;exact hone y u hy2
 . have:(xs.length+m) * bytes<=2000000 * 1000:=Nat.mul_le_mul hn hbytes
   omega
 . intro g cap w' h1 h2 h3 h4
   refine h g cap w' ?_ h2 h3 h4;rw [List.flatMap_append,List.length_append,hm];exact h1
theorem step_append_row {α:Type} (encf:α->List Value) {sz bytes:Nat} {T E:TypeId} {z:Value} {w:World} {ops:Array Oper} {o:Oper} {a:Act} {K:Act->World->Prop} {Q:Exit->Act->World->Prop} {F:Prop} (hsz:∀ x,(encf x).length=sz) (hone:∀ x,∀ u∈encf x,u.oneCell'=true)
  (hT:Tryz.prog.underlying T=some (.slice E)) (hinfo:(Tryz.prog.info? E).map (fun i=>(i.zero,i.size,i.bytes))=some (some z,sz,bytes)) (hzs:z.cells.size=sz) (hpos:0 < sz) (hbytes:bytes<=1000)
  (hgd:o.guard=none) (s x:Operand) (ho:o.op=.call { callee:=.builtin .append,args:=#[s,x],argTypes:=#[T,T] })
  (B:Nat) (v:Value) (xs:List α) (hs:a.eval s=v) (hown:w.ownsRow B E sz v xs.length (xs.flatMap encf)) (nb c:Nat) (y:α) (hx:a.eval x=.slice (some ⟨nb,0,none⟩) 1 c)
  {fr:Nat × Nat} (hy:w.heap[nb]?=some (.cells (encf y).toArray E fr)) (hn:xs.length+1<=2000000) (hbase:B<=w.heap.size) (H:Nat) (hH:w.heap.size=H)
  (h:∀ g cap w',w'.ownsRow B E sz (.slice (some ⟨g,0,none⟩) (xs.length+1) cap) (xs ++ [y]).length ((xs ++ [y]).flatMap encf)->w.grownBy w' v.ownBlock->(v.ownBlock=some g ∨ g=H)->g < w'.heap.size->K (a.put o.dst (.slice (some ⟨g,0,none⟩) (xs.length+1) cap)) w') :
  if Region.wanted o (yielded ops a.tmps)=true then Oper.wp Tryz.prog o a w K Q else F:=by
 obtain ⟨i0,hi,hz0,hz1,hz2⟩:=info_parts hinfo;refine step_append_lies w hgd s x T ho B E i0 z sz bytes hT hi hz0 hz1 hz2 hzs hpos v xs.length (xs.flatMap encf) hs hown ⟨nb,0,none⟩ 1 c (encf y) hx (by rw [hsz];omega) ?_ (hone y) (by omega) (by unfold maxLen;omega) ?_ hbase H hH ?_
 . intro j u hj
   exact World.news_of_block hy j u (by simpa using hj)
 . have:(xs.length+1) * bytes<=2000000 * 1000:=Nat.mul_le_mul hn hbytes
   omega
 . intro g cap w' h1 h2 h3 h4
   refine h g cap w' ?_ h2 h3 h4;rw [List.flatMap_append,List.length_append];simpa using h1
def encS (s:ByteArray):List Value:=[.string s]
theorem encS_len:∀ x,(encS x).length=1:=fun _=>rfl
theorem encS_one:∀ x,∀ u∈encS x,u.oneCell'=true:=fun x u hu=>by
 simp only [encS,List.mem_cons,List.mem_nil_iff,or_false] at hu;subst hu;rfl
theorem strinfo:(Tryz.prog.info? 9).map (fun i=>(i.zero,i.size,i.bytes))=some (some (.string ByteArray.empty),1,16):=by kernel_rfl
theorem below_alloc_drew (w:World) (o:Obj):Below w.heap.size w ((w.alloc o).drew):=((Below.refl _ _).alloc (Nat.le_refl _) _).drew
theorem own_form {w:World} {B sz n:Nat} {e:TypeId} {v:Value} {xs:List Value} (h:w.ownsRow B e sz v n xs):∃ r c,v=.slice r n c/\n<=c/\c<=maxLen:=by
 rcases h.2 with ⟨rfl,rfl⟩ | ⟨g,cap,cur,rfl,_,_,h1,h2,_⟩
 . exact ⟨none,0,rfl,by simp,by simp⟩
 . exact ⟨_,cap,rfl,h1,h2⟩
theorem strs_le {w:World} {v:Value} {ks:List ByteArray} (h:Sl StrR 1 w v ks):∀ k∈ks,k.size<=maxLen:=fun k hk=>by
 obtain ⟨i,hi,rfl⟩:=List.mem_iff_getElem.1 hk;obtain ⟨_,_,_,_,_,he⟩:=h;obtain ⟨_,_,_,_,_,_,_,hs⟩:=he i hi;exact hs
theorem cell_at {w:World} {cs:Array Value} {T b o:Nat} {v:Value} (hb:b=w.heap.size) (hv:cs[o]?=some v):(w.alloc (.cells cs T)).cell? ⟨b,o,none⟩=some v:=by
 subst hb;unfold World.cell?;rw [(MapKept.heap_alloc w _).1];simpa using hv
theorem lt_of_block {w:World} {b:Nat} {o:Obj} (h:w.heap[b]?=some o):b < w.heap.size:=(Array.getElem?_eq_some_iff.1 h).1
def OwnS (B:Nat) (w:World) (v:Value) (xs:List ByteArray):Prop:=w.ownsRow B 9 1 v xs.length (xs.flatMap encS)/\∀ x∈xs,x.size<=maxLen
theorem ownS_nil (B:Nat) (w:World):OwnS B w (.slice none 0 0) []:=⟨World.ownsRow_nil w B _ 1,by simp⟩
theorem kept_off {B:Nat} {w w':World} {v:Value} {e:TypeId} {sz n:Nat} {row:Option Nat} {xs:List Value} (h:w.ownsRow B e sz v n xs) (hg:w.grownBy w' row) (hr:∀ g,v.ownBlock=some g->row≠some g):w'.ownsRow B e sz v n xs:=
 h.kept hg (by
  cases hv:v.ownBlock with
  | none=>exact .inl rfl
  | some g=>right;exact fun e=>hr g hv e.symm)
theorem OwnS.kept {B:Nat} {w w':World} {v:Value} {row:Option Nat} {xs:List ByteArray} (h:OwnS B w v xs) (hg:w.grownBy w' row) (hr:∀ g,v.ownBlock=some g->row≠some g):OwnS B w' v xs:=⟨kept_off h.1 hg hr,h.2⟩
theorem grown_below {w w':World} (hb:Below w.heap.size w w'):w.grownBy w' none:=⟨hb.os,hb.tape,hb.output,hb.size,fun k hk _=>hb.block k hk⟩
theorem OwnS.below {B:Nat} {w w':World} {v:Value} {xs:List ByteArray} (h:OwnS B w v xs) (hb:Below w.heap.size w w'):OwnS B w' v xs:=h.kept (grown_below hb) (fun _ _ h=>by cases h)
theorem OwnS.lt {B:Nat} {w:World} {v:Value} {xs:List ByteArray} (h:OwnS B w v xs):∀ g,v.ownBlock=some g->B<=g/\g < w.heap.size:=h.1.lt
theorem OwnS.form {B:Nat} {w:World} {v:Value} {xs:List ByteArray} (h:OwnS B w v xs):∃ r c,v=.slice r xs.length c/\xs.length<=c/\c<=maxLen:=own_form h.1
theorem OwnS.sl {B:Nat} {w:World} {v:Value} {xs:List ByteArray} (h:OwnS B w v xs):Sl StrR 1 w v xs:=by
 obtain ⟨r,c,e,h1,h2,he⟩:=sl_of_own encS encS_len h.1;refine ⟨r,c,e,h1,h2,fun i hi=>?_⟩;obtain ⟨b,off,cs,hr,hs,hc,hx⟩:=he i hi;exact ⟨b,off,cs,hr,hs,hc,by rw [hx];rfl,h.2 _ (List.getElem_mem hi)⟩
def MoreS (B:Nat) (w:World) (v:Value) (xs:List ByteArray) (H:Nat) (g cap:Nat) (w':World):Prop:=
 OwnS B w' (.slice (some ⟨g,0,none⟩) xs.length cap) xs/\w.grownBy w' v.ownBlock/\(v.ownBlock=some g ∨ g=H)/\g < w'.heap.size
section
variable {w:World} {ops:Array Oper} {rest:List Oper} {o:Oper} {a:Act} {Q:Exit->Act->World->Prop}
theorem app_str (hgd:o.guard=none) (s x:Operand) (ho:o.op=.call { callee:=.builtin .append,args:=#[s,x],argTypes:=#[37,37] })
  (B:Nat) (v:Value) (xs:List ByteArray) (hs:a.eval s=v) (hown:OwnS B w v xs) (nb c:Nat) (y:ByteArray) (hx:a.eval x=.slice (some ⟨nb,0,none⟩) 1 c) {fr:Nat × Nat} (hy:w.heap[nb]?=some (.cells #[.string y] 9 fr)) (hys:y.size<=maxLen)
  (hn:xs.length+1<=2000000) (hbase:B<=w.heap.size) (H:Nat) (hH:w.heap.size=H)
  (h:∀ g cap w',MoreS B w v (xs ++ [y]) H g cap w'->wpList Tryz.prog ops Q rest (a.put o.dst (.slice (some ⟨g,0,none⟩) (xs.length+1) cap)) w'):wpList Tryz.prog ops Q (o :: rest) a w:=by
 subst hH;refine wpList_append_rows encS encS_len encS_one Tryz.underlying37 strinfo rfl (by omega) (by omega) hgd s x ho B v xs hs hown.1 nb 1 c [y] rfl (by omega) hx (fr:=fr) hy hn hbase ?_;intro g cap w' h1 h2 h3 h4;refine h g cap w' ⟨⟨?_,?_⟩,h2,h3,h4⟩
 . simpa using h1
 . intro z hz
   rw [List.mem_append] at hz;rcases hz with hz | hz
   . exact hown.2 z hz
   . simp at hz;subst hz;exact hys
end
section
variable {w:World} {ops:Array Oper} {o:Oper} {a:Act} {K:Act->World->Prop} {Q:Exit->Act->World->Prop} {F:Prop}
end
end Go.Proofs.YtomhbcfjhgecbaaGreatDoor
namespace Go.Proofs.YtomhbcfjhgecbaaGreatDoor
inductive Val where
 | mk (kind num:Int) (str:ByteArray) (items:List Val) (keys:List ByteArray)
namespace Val
def kind:Val->Int | .mk k _ _ _ _=>k
def num:Val->Int | .mk _ n _ _ _=>n
def str:Val->ByteArray | .mk _ _ s _ _=>s
def items:Val->List Val | .mk _ _ _ is _=>is
def keys:Val->List ByteArray | .mk _ _ _ _ ks=>ks
theorem size_items:∀ (x y:Val),y∈x.items->SizeOf.sizeOf y < SizeOf.sizeOf x
 | .mk k n s is ks,y,h=>by
   have:=List.sizeOf_lt_of_mem (show y∈is from h);simp;omega
theorem ind {P:Val->Prop} (h:∀ x:Val,(∀ y∈x.items,P y)->P x) (x:Val):P x:=
 h x fun y hy=>have:=size_items x y hy;ind h y
termination_by SizeOf.sizeOf x
end Val
mutual
def nodes:Val->Nat
 | .mk _ _ _ is _=>1+nodesL is
def nodesL:List Val->Nat
 | []=>0
 | x :: xs=>nodes x+nodesL xs
end
mutual
def nkeys:Val->Nat
 | .mk _ _ _ is ks=>ks.length+nkeysL is
def nkeysL:List Val->Nat
 | []=>0
 | x :: xs=>nkeys x+nkeysL xs
end
mutual
def leftV:Val->Int->Int->Int
 | .mk _ _ _ is _,n,l=>if n < 1 ∨ l < 1 then -1 else leftL is (n - 1) (l - 1)
def leftL:List Val->Int->Int->Int
 | [],n,_=>n
 | x :: xs,n,l=>if 0<=n then leftL xs (leftV x n l) l else n
end
mutual
def depth:Val->Nat
 | .mk _ _ _ is _=>1+depthL is
def depthL:List Val->Nat
 | []=>0
 | x :: xs=>max (depth x) (depthL xs)
end
theorem nodes_pos (x:Val):1<=nodes x:=by cases x;unfold nodes;omega
theorem nodes_eq (x:Val):nodes x=1+nodesL x.items:=by cases x;rw [nodes];rfl
theorem nkeys_eq (x:Val):nkeys x=x.keys.length+nkeysL x.items:=by cases x;rw [nkeys];rfl
theorem leftV_eq (x:Val) (n l:Int):leftV x n l=if n < 1 ∨ l < 1 then -1 else leftL x.items (n - 1) (l - 1):=by cases x;rw [leftV];rfl
theorem depth_eq (x:Val):depth x=1+depthL x.items:=by cases x;rw [depth];rfl
theorem nodes_mem {is:List Val} {x:Val} (h:x∈is):nodes x<=nodesL is:=by
 induction is with
 | nil=>cases h
 | cons y ys ih =>
   rw [nodesL];rcases List.mem_cons.1 h with rfl | h
   . omega
   . have:=ih h;omega
theorem nkeysL_append (a b:List Val):nkeysL (a ++ b)=nkeysL a+nkeysL b:=by
 induction a with
 | nil=>simp [nkeysL]
 | cons y ys ih=>simp only [List.cons_append,nkeysL,ih];omega
theorem nodesL_len (is:List Val):is.length<=nodesL is:=by
 induction is with
 | nil=>simp
 | cons y ys ih=>have:=nodes_pos y;simp [nodesL];omega
theorem leftL_neg (is:List Val) (n l:Int) (h:n < 0):leftL is n l=n:=by
 cases is with
 | nil=>rw [leftL]
 | cons x xs=>rw [leftL,if_neg (by omega)]
theorem leftL_append (a b:List Val) (n l:Int):leftL (a ++ b) n l=leftL b (leftL a n l) l:=by
 induction a generalizing n with
 | nil=>rw [List.nil_append,leftL]
 | cons x xs ih =>
   rw [List.cons_append,leftL,leftL]
   by_cases h:0<=n
   . rw [if_pos h,if_pos h,ih]
   . rw [if_neg h,if_neg h,leftL_neg b n l (by omega)]
theorem left_spec (x:Val):∀ n l:Int,(0<=leftV x n l->leftV x n l=n - nodes x/\(depth x:Int)<=l)/\ -1<=leftV x n l:=by
 refine Val.ind (P:=fun x=>∀ n l:Int,(0<=leftV x n l->leftV x n l=n - nodes x/\(depth x:Int)<=l)/\ -1<=leftV x n l) ?_ x;intro x ih n l;rw [leftV_eq,nodes_eq,depth_eq]
 by_cases h:n < 1 ∨ l < 1
 . rw [if_pos h];exact ⟨fun h=>by omega,by omega⟩
 . rw [if_neg h]
   have key:∀ (is:List Val),(∀ y∈is,∀ n l:Int,(0<=leftV y n l->leftV y n l=n - nodes y/\(depth y:Int)<=l)/\ -1<=leftV y n l)->∀ (m l:Int),-1<=m->0<=l ->
       (0<=leftL is m l->leftL is m l=m - nodesL is/\(depthL is:Int)<=l)/\ -1<=leftL is m l:=by
    intro is
    induction is with
    | nil=>intro _ m l hm hl;rw [leftL,nodesL,depthL];exact ⟨fun _=>⟨by simp,by simpa using hl⟩,hm⟩
    | cons y ys ihy =>
      intro hy m l hm hl;rw [leftL,nodesL,depthL]
      by_cases h0:0<=m
      . rw [if_pos h0]
        obtain ⟨h1,h2⟩:=hy y (List.mem_cons_self) m l;obtain ⟨h3,h4⟩:=ihy (fun z hz=>hy z (List.mem_cons_of_mem _ hz)) (leftV y m l) l h2 hl;refine ⟨fun h5=>?_,h4⟩
        have h6:0<=leftV y m l:=by
         apply Decidable.byContradiction;intro hn;rw [leftL_neg ys _ l (by omega)] at h5;omega
        obtain ⟨e1,e2⟩:=h1 h6;obtain ⟨e3,e4⟩:=h3 h5;refine ⟨by rw [e3,e1];omega,by omega⟩
      . rw [if_neg h0]
        exact ⟨fun h=>by omega,hm⟩
   obtain ⟨h1,h2⟩:=key x.items ih (n - 1) (l - 1) (by omega) (by omega);refine ⟨fun h5=>?_,h2⟩;obtain ⟨e1,e2⟩:=h1 h5;exact ⟨by rw [e1];omega,by omega⟩
def smallB (x:Val) (k:Nat):Bool:=decide (0<=leftV x k 40) && decide (nkeys x<=2 * k)
end Go.Proofs.YtomhbcfjhgecbaaGreatDoor
namespace Go.Proofs.YtomhbcfjhgecbaaGreatDoor
open Go.RowKit Go.Sort
inductive VR (w:World):List Value->Val->Prop where
 | mk (k n:Int) (s:ByteArray) (is:List Val) (ks:List ByteArray) (r:Option Addr) (b off c:Nat) (cs:Nat->List Value) (vK:Value)
    (hk:-9223372036854775808<=k/\k<=9223372036854775807) (hn:-9223372036854775808<=n/\n<=9223372036854775807) (hs:s.size<=maxLen)
    (hl:is.length<=c) (hc:c<=maxLen) (hr:is≠[]->r=some ⟨b,off,none⟩) (h5:∀ i,i < is.length->(cs i).length=5)
    (hcell:∀ (i j:Nat) (u:Value),i < is.length->(cs i)[j]?=some u->w.cell? ⟨b,off+i * 5+j,none⟩=some u)
    (hR:∀ (i:Nat) (h:i < is.length),VR w (cs i) is[i]) (hK:Sl StrR 1 w vK ks) (hkl:ks.length<=10000000000000) (hil:is.length<=10000000000000):VR w [.int .i64 k,.int .i64 n,.string s,.slice r is.length c,vK] (.mk k n s is ks)
def i64B (n:Int):Prop:=-9223372036854775808<=n/\n<=9223372036854775807
theorem VR.open' {w:World} {cs:List Value} {x:Val} (h:VR w cs x):∃ r c vK,cs=[.int .i64 x.kind,.int .i64 x.num,.string x.str,.slice r x.items.length c,vK]/\Sl VR 5 w (.slice r x.items.length c) x.items/\Sl StrR 1 w vK x.keys /\
  i64B x.kind/\i64B x.num/\x.str.size<=maxLen/\x.keys.length<=10000000000000/\x.items.length<=10000000000000:=by
 cases h with
 | mk k n s is ks r b off c cs vK hk hn hs hl hc hr h5 hcell hR hK hkl hil =>
   refine ⟨r,c,vK,rfl,⟨r,c,rfl,hl,hc,fun i hi=>⟨b,off,cs i,hr (fun e=>by simp only [Val.items] at hi;rw [e] at hi;simp at hi),h5 i hi,fun j u hj=>hcell i j u hi hj,hR i hi⟩⟩,hK,hk,hn,hs,hkl,hil⟩
theorem VR.make {w:World} {x:Val} {r:Option Addr} {c:Nat} {vK:Value} (hI:Sl VR 5 w (.slice r x.items.length c) x.items) (hK:Sl StrR 1 w vK x.keys) (hk:i64B x.kind) (hn:i64B x.num) (hs:x.str.size<=maxLen) (hkl:x.keys.length<=10000000000000) (hil:x.items.length<=10000000000000) :
  VR w [.int .i64 x.kind,.int .i64 x.num,.string x.str,.slice r x.items.length c,vK] x:=by
 obtain ⟨r',c',hv,hl,hc,he⟩:=hI;simp at hv;obtain ⟨rfl,rfl⟩:=hv;obtain ⟨k,n,s,is,ks⟩:=x;simp only [Val.kind,Val.num,Val.str,Val.items,Val.keys] at *;cases hr:r with
 | none =>
   have h0:is=[]:=by
    cases is with
    | nil=>rfl
    | cons y ys=>obtain ⟨b,off,cs,h1,_⟩:=he 0 (by simp);rw [hr] at h1;cases h1
   subst h0;exact .mk k n s [] ks none 0 0 c (fun _=>[]) vK hk hn hs hl hc (fun h=>absurd rfl h) (fun i h=>absurd h (by simp)) (fun i j u h=>absurd h (by simp)) (fun i h=>absurd h (by simp)) hK hkl hil
 | some a =>
   have hex:∃ cs:Nat->List Value,∀ i (h:i < is.length),∃ b off,some a=some ⟨b,off,none⟩/\(cs i).length=5/\(∀ (j:Nat) (u:Value),(cs i)[j]?=some u->w.cell? ⟨b,off+i * 5+j,none⟩=some u)/\VR w (cs i) is[i]:=by
    have hall:∀ i,∃ cs:List Value,∀ (h:i < is.length),∃ b off,some a=some ⟨b,off,none⟩/\cs.length=5/\(∀ (j:Nat) (u:Value),cs[j]?=some u->w.cell? ⟨b,off+i * 5+j,none⟩=some u)/\VR w cs is[i]:=fun i=>by
     by_cases h:i < is.length
     . obtain ⟨b,off,cs,h1,h2⟩:=he i h
       exact ⟨cs,fun _=>⟨b,off,by rw [<-hr];exact h1,h2⟩⟩
     . exact ⟨[],fun h'=>absurd h' h⟩
    obtain ⟨f,hf⟩:=Classical.skolem.1 hall;exact ⟨f,hf⟩
   obtain ⟨cs,hcs⟩:=hex
   by_cases h0:is=[]
   . subst h0
     exact .mk k n s [] ks (some a) 0 0 c (fun _=>[]) vK hk hn hs hl hc (fun h=>absurd rfl h) (fun i h=>absurd h (by simp)) (fun i j u h=>absurd h (by simp)) (fun i h=>absurd h (by simp)) hK hkl hil
   . have hpos:0 < is.length:=List.length_pos_iff.2 h0
     obtain ⟨b,off,ha,_⟩:=hcs 0 hpos
     have hat:∀ i (h:i < is.length),(cs i).length=5/\(∀ (j:Nat) (u:Value),(cs i)[j]?=some u->w.cell? ⟨b,off+i * 5+j,none⟩=some u)/\VR w (cs i) is[i]:=fun i h=>by
      obtain ⟨b',off',ha',h1⟩:=hcs i h;rw [ha] at ha';simp at ha';obtain ⟨rfl,rfl⟩:=ha';exact h1
     exact .mk k n s is ks (some a) b off c cs vK hk hn hs hl hc (fun _=>ha) (fun i h=>(hat i h).1) (fun i j u h=>(hat i h).2.1 j u) (fun i h=>(hat i h).2.2) hK hkl hil
theorem vr_mono:Mono VR:=by
 intro w w' cs x hb h
 induction h with
 | mk k n s is ks r b off c cs vK hk hn hs hl hc hr h5 hcell hR hK hkl hil ih =>
   exact .mk k n s is ks r b off c cs vK hk hn hs hl hc hr h5 (fun i j u hi hj=>bget hb (hcell i j u hi hj)) (fun i h=>ih i h) (hK.below strR_mono hb) hkl hil
theorem list_fit5 {cs:List Value} {a b c d e:Value} (h:cs.length=5) (h0:cs[0]?=some a) (h1:cs[1]?=some b) (h2:cs[2]?=some c) (h3:cs[3]?=some d) (h4:cs[4]?=some e):cs=[a,b,c,d,e]:=by
 match cs,h with
 | [x,y,z,u,v],_=>simp at h0 h1 h2 h3 h4;subst h0 h1 h2 h3 h4;rfl
end Go.Proofs.YtomhbcfjhgecbaaGreatDoor
namespace Go.Proofs.YtomhbcfjhgecbaaGreatDoor.Blk
open Go.RowKit Go.Sort Go.ChangeShapes Go.WideShapes Go.ChangeAt
def Bk {H:Type} (B:Nat) (d:DataW H):Prop:=Rows.uptoBulk d<=B
theorem one_le {H:Type} (d:DataW H):1<=Rows.uptoBulk d:=by
 cases d with
 | lit l=>cases l <;> simp [Rows.uptoBulk]
 | nil=>simp [Rows.uptoBulk]
 | ptr d=>simp [Rows.uptoBulk]
 | slice elems spare=>simp [Rows.uptoBulk]
 | agg parts=>simp [Rows.uptoBulk]
 | iface t d=>simp [Rows.uptoBulk]
 | map entries=>simp [Rows.uptoBulk]
 | held h=>simp [Rows.uptoBulk]
theorem part_le {H:Type} {d:DataW H} : ∀ {l:List (DataW H)},d∈l->Rows.uptoBulk d<=Rows.uptoBulkAll l
 | x :: r,h=>by
   rw [Rows.uptoBulkAll];rcases List.mem_cons.1 h with rfl | h
   . omega
   . have:=part_le h;omega
theorem length_le {H:Type} : ∀ l:List (DataW H),l.length<=Rows.uptoBulkAll l
 | []=>by simp [Rows.uptoBulkAll]
 | x :: r=>by have:=one_le x;have:=length_le r;simp only [Rows.uptoBulkAll,List.length_cons];omega
theorem Bk.elem {H:Type} {B:Nat} {es rest:List (DataW H)} (h:Bk B (.slice es rest)) {d:DataW H} (hd:d∈es):Bk B d:=by
 have:=part_le hd;simp only [Bk,Rows.uptoBulk] at *;omega
theorem Bk.len {H:Type} {B:Nat} {es rest:List (DataW H)} (h:Bk B (.slice es rest)):es.length<=B:=by
 have:=length_le es;simp only [Bk,Rows.uptoBulk] at *;omega
theorem Bk.part {H:Type} {B:Nat} {ps:List (DataW H)} (h:Bk B (.agg ps)) {d:DataW H} (hd:d∈ps):Bk B d:=by
 have:=part_le hd;simp only [Bk,Rows.uptoBulk] at *;omega
theorem sl_of_trod_b {α H:Type} {enc:TypeId × Value->H} {P:Program} {w:World} {sz:Nat} {T E:TypeId} {fuel:Nat} {v:Value} {x:DataW H × List MemPlace} (R:World->List Value->α->Prop) (B:Nat)
  (hT:P.underlying T=some (.slice E)) (hE:P.cellsOf E=sz) (hsz:0 < sz)
  (hR:∀ fuel',fuel' < fuel->∀ cs y,cs.length=sz->Bk B y.1->DataW.trod enc P w 0 (fun _=>true) true fuel' E cs=some y->∃ z,R w cs z)
  (hw:Bk B x.1) (h:DataW.trod enc P w 0 (fun _=>true) true fuel T [v]=some x):∃ xs,Sl R sz w v xs/\xs.length<=B:=by
 rcases DataW.trod_slice hT h with ⟨hv,_⟩ | ⟨a,len,cap,elems,rest,m,hm,hv,hx,_,hl,hc,hlen,hget,_,_⟩
 . simp at hv;subst hv
   exact ⟨[],⟨none,0,rfl,Nat.le_refl _,by simp,fun i hi=>absurd hi (by simp)⟩,by simp⟩
 . simp at hv;subst hv
   subst hx
   have hel:∀ i,i < len->∃ cs' z,w.cells? 0 (a.add (i * P.cellsOf E)) (P.cellsOf E)=some cs'/\DataW.trod enc P w 0 (fun _=>true) true m E cs'=some z/\Bk B z.1:=fun i hi=>by
    have h1:=hget i hi;rw [List.getElem?_eq_getElem (by omega)] at h1;obtain ⟨cs',e1,e2⟩:=Option.bind_eq_some_iff.1 h1;exact ⟨cs',_,e1,e2,hw.elem (List.mem_map_of_mem (List.getElem_mem _))⟩
   have key:∀ i,i < len->∃ z,∃ cs,cs.length=sz/\(∀ (j:Nat) (u:Value),cs[j]?=some u->w.cell? ⟨a.block,a.off+i * sz+j,none⟩=some u)/\a.spot=none/\R w cs z:=by
    intro i hi
    have h0:a.spot=none:=by
     obtain ⟨cs,_,hcs,_⟩:=hel 0 (by omega);obtain ⟨hlen,hcell⟩:=cells_list hcs;have hne:0 < cs.length:=by omega
     have:=hcell 0 cs[0] (List.getElem?_eq_getElem hne);simp [Addr.add] at this;unfold World.cell? at this;split at this
     . split at this
       . cases this
       . rename_i hsp;simpa using hsp
     . cases this
    obtain ⟨cs,y,hcs,htr,hwt⟩:=hel i (by omega);obtain ⟨hlen,hcell⟩:=cells_list hcs;rw [hE] at hlen;obtain ⟨z,hz⟩:=hR m (by omega) _ _ hlen hwt htr;refine ⟨z,cs,hlen,fun j u hj=>?_,h0,hz⟩;have:=hcell j u hj;rw [hE] at this
    have e:(a.add (i * sz)).add j=⟨a.block,a.off+i * sz+j,none⟩:=by
     obtain ⟨ab,ao,asp⟩:=a;simp at h0;subst h0;unfold Addr.add
     by_cases hi0:i * sz=0 <;> by_cases hj0:j=0 <;> simp [hi0,hj0]
    rw [e] at this;exact this
   obtain ⟨xs,hxl,hxs⟩:=list_of len _ key;have hle:=hw.len;rw [List.length_map,hlen] at hle;refine ⟨xs,⟨some a,cap,by rw [hxl],by omega,hc,fun i hi=>?_⟩,by rw [hxl];exact hle⟩;obtain ⟨cs,h1,h2,h3,h4⟩:=hxs i hi;refine ⟨a.block,a.off,cs,?_,h1,h2,h4⟩;obtain ⟨ab,ao,asp⟩:=a;simp at h3;simp [h3]
theorem struct_b {H:Type} {enc:TypeId × Value->H} {P:Program} {w:World} {T:TypeId} {fs:Array Field} {fuel B:Nat} {cs:List Value} {x:DataW H × List MemPlace}
  (hT:P.underlying T=some (.struct fs)) (hb:Bk B x.1) (h:DataW.trod enc P w 0 (fun _=>true) true fuel T cs=some x) :
  cs.length=P.cellsOf T/\∃ n,fuel=n+1/\∀ (k:Nat) (f:Field),fs[k]?=some f->∃ y,DataW.trod enc P w 0 (fun _=>true) true n f.type ((cs.drop f.offset).take (P.cellsOf f.type))=some y/\Bk B y.1:=by
 obtain ⟨xs,n,rfl,hy,hl,hxl,hf⟩:=DataW.trod_struct hT h;subst hy;refine ⟨hl,n,rfl,fun k f hk=>?_⟩;have hk2:k < xs.length:=by rw [hxl];exact (Array.getElem?_eq_some_iff.1 hk).1
 refine ⟨xs[k],(hf k f hk).trans (List.getElem?_eq_getElem hk2),hb.part (List.mem_map_of_mem (List.getElem_mem hk2))⟩
theorem str_b {H:Type} {enc:TypeId × Value->H} {P:Program} {w:World} {T:TypeId} {fuel B:Nat} {cs:List Value} {x:DataW H × List MemPlace} (hT:P.underlying T=some .string) (hb:Bk B x.1) (h:DataW.trod enc P w 0 (fun _=>true) true fuel T cs=some x) :
  ∃ s:ByteArray,cs=[.string s]/\s.size<=maxLen/\s.size<=B:=by
 obtain ⟨s,h1,h2,h3⟩:=DataW.trod_string hT h;subst h2;refine ⟨s,h1,h3,?_⟩;have:s.data.toList.length=s.size:=by simp
 simp only [Bk,Rows.uptoBulk] at hb;omega
def StB (B:Nat) (w:World) (cs:List Value) (x:ByteArray):Prop:=StrR w cs x/\x.size<=B
theorem stb_of_trod {H:Type} {enc:TypeId × Value->H} {P:Program} {w:World} {T:TypeId} {B:Nat} (hT:P.underlying T=some .string):∀ fuel cs (y:DataW H × List MemPlace),Bk B y.1->DataW.trod enc P w 0 (fun _=>true) true fuel T cs=some y->∃ z,StB B w cs z:=by
 intro fuel cs y hb h;obtain ⟨s,h1,h3,h4⟩:=str_b hT hb h;subst h1;exact ⟨s,⟨rfl,h3⟩,h4⟩
theorem sl_imp {α:Type} {R R':World->List Value->α->Prop} {sz:Nat} {w:World} {v:Value} {xs:List α} (hR:∀ cs x,R w cs x->R' w cs x) (h:Sl R sz w v xs):Sl R' sz w v xs:=by
 obtain ⟨r,c,e,h1,h2,he⟩:=h;refine ⟨r,c,e,h1,h2,fun i hi=>?_⟩;obtain ⟨b,off,cs,hr,hs,hc,hx⟩:=he i hi;exact ⟨b,off,cs,hr,hs,hc,hR _ _ hx⟩
theorem sl_all {α:Type} {R:World->List Value->α->Prop} {p:α->Prop} {sz:Nat} {w:World} {v:Value} {xs:List α} (hR:∀ cs x,R w cs x->p x) (h:Sl R sz w v xs):∀ x∈xs,p x:=by
 obtain ⟨r,c,e,h1,h2,he⟩:=h;intro x hx;obtain ⟨i,hi,rfl⟩:=List.mem_iff_getElem.1 hx;obtain ⟨b,off,cs,hr,hs,hc,hx⟩:=he i hi;exact hR _ _ hx
theorem field_str_b {H:Type} {enc:TypeId × Value->H} {P:Program} {w:World} {T:TypeId} {fuel o B:Nat} {cs:List Value} {y:DataW H × List MemPlace} (hT:P.underlying T=some .string) (hb:Bk B y.1) (h:DataW.trod enc P w 0 (fun _=>true) true fuel T ((cs.drop o).take 1)=some y) :
  ∃ s,cs[o]?=some (.string s)/\s.size<=maxLen/\s.size<=B:=by
 obtain ⟨s,h1,h3,h4⟩:=str_b hT hb h;exact ⟨s,cell_of_field h1,h3,h4⟩
theorem field_strs_b {H:Type} {enc:TypeId × Value->H} {P:Program} {w:World} {T E:TypeId} {fuel o B:Nat} {cs:List Value} {y:DataW H × List MemPlace} (hT:P.underlying T=some (.slice E)) (hE:P.underlying E=some .string) (hc:P.cellsOf E=1) (ho:o < cs.length) (hb:Bk B y.1)
  (h:DataW.trod enc P w 0 (fun _=>true) true fuel T ((cs.drop o).take 1)=some y):∃ v xs,cs[o]?=some v/\Sl StrR 1 w v xs/\xs.length<=B/\∀ x∈xs,x.size<=B:=by
 rw [cell_of_slice_field ho] at h;obtain ⟨xs,h1,h2⟩:=sl_of_trod_b (StB B) B hT hc (by omega) (fun _ _ cs y _ hb h=>stb_of_trod hE _ cs y hb h) hb h;exact ⟨_,xs,List.getElem?_eq_getElem ho,sl_imp (fun _ _ h=>h.1) h1,h2,sl_all (fun _ _ h=>h.2) h1⟩
theorem field_sl_b {α H:Type} {enc:TypeId × Value->H} {P:Program} {w:World} {sz:Nat} {T E:TypeId} {fuel o B:Nat} {cs:List Value} {y:DataW H × List MemPlace} (R:World->List Value->α->Prop) (hT:P.underlying T=some (.slice E)) (hE:P.cellsOf E=sz) (hsz:0 < sz) (ho:o < cs.length)
  (hR:∀ fuel' cs y,cs.length=sz->Bk B y.1->DataW.trod enc P w 0 (fun _=>true) true fuel' E cs=some y->∃ z,R w cs z) (hb:Bk B y.1)
  (h:DataW.trod enc P w 0 (fun _=>true) true fuel T ((cs.drop o).take 1)=some y):∃ v xs,cs[o]?=some v/\Sl R sz w v xs/\xs.length<=B:=by
 rw [cell_of_slice_field ho] at h;obtain ⟨xs,h1,h2⟩:=sl_of_trod_b R B hT hE hsz (fun f _ cs y hl hb h=>hR f cs y hl hb h) hb h;exact ⟨_,xs,List.getElem?_eq_getElem ho,h1,h2⟩
theorem vr_of_trod_b {H:Type} {enc:TypeId × Value->H} {P:Program} {w:World} {T TK TN TS TI TL:TypeId} {fs:Array Field} {B:Nat} (hB:B<=10000000000000) (hT:P.underlying T=some (.struct fs)) (hc5:P.cellsOf T=5)
  (f0:∃ f,fs[0]?=some f/\f.type=TK/\f.offset=0) (f1:∃ f,fs[1]?=some f/\f.type=TN/\f.offset=1) (f2:∃ f,fs[2]?=some f/\f.type=TS/\f.offset=2) (f3:∃ f,fs[3]?=some f/\f.type=TI/\f.offset=3) (f4:∃ f,fs[4]?=some f/\f.type=TL/\f.offset=4)
  (uK:P.underlying TK=some (.int .i64)) (cK:P.cellsOf TK=1) (uN:P.underlying TN=some (.int .i64)) (cN:P.cellsOf TN=1) (uS:P.underlying TS=some .string) (cS:P.cellsOf TS=1)
  (uI:P.underlying TI=some (.slice T)) (cI:P.cellsOf TI=1) (uL:P.underlying TL=some (.slice TS)) (cL:P.cellsOf TL=1) :
  ∀ (fuel:Nat) (cs:List Value) (y:DataW H × List MemPlace),cs.length=5->Bk B y.1->DataW.trod enc P w 0 (fun _=>true) true fuel T cs=some y->∃ x,VR w cs x:=by
 intro fuel
 induction fuel using Nat.strongRecOn with
 | _ fuel ih =>
   intro cs y hl hwt h;obtain ⟨_,n,rfl,hf⟩:=struct_b hT hwt h;obtain ⟨g0,e0,t0,o0⟩:=f0;obtain ⟨g1,e1,t1,o1⟩:=f1;obtain ⟨g2,e2,t2,o2⟩:=f2;obtain ⟨g3,e3,t3,o3⟩:=f3;obtain ⟨g4,e4,t4,o4⟩:=f4;obtain ⟨z0,h0,w0⟩:=hf 0 g0 e0;obtain ⟨z1,h1,w1⟩:=hf 1 g1 e1;obtain ⟨z2,h2,w2⟩:=hf 2 g2 e2;obtain ⟨z3,h3,w3⟩:=hf 3 g3 e3;obtain ⟨z4,h4,w4⟩:=hf 4 g4 e4;rw [t0,o0,cK] at h0;rw [t1,o1,cN] at h1;rw [t2,o2,cS] at h2;rw [t3,o3,cI] at h3;rw [t4,o4,cL] at h4;obtain ⟨a,c0,wa⟩:=field_int uK h0;obtain ⟨b,c1,wb⟩:=field_int uN h1;obtain ⟨s,c2,ws⟩:=field_str uS h2;obtain ⟨vL,ks,c4,hK,hkl,_⟩:=field_strs_b uL uS cS (by omega) w4 h4;rw [cell_of_slice_field (by omega)] at h3;obtain ⟨is,hS,hsl⟩:=sl_of_trod_b VR B uI hc5 (by omega) (fun fuel' hlt cs' y' hl' hw' h'=>ih fuel' (by omega) cs' y' hl' hw' h') w3 h3;obtain ⟨r',c',hv',_⟩:=id hS;have c3:cs[3]?=some (.slice r' is.length c'):=by rw [List.getElem?_eq_getElem (by omega),hv']
   rw [hv'] at hS;have e:=list_fit5 hl c0 c1 c2 c3 c4;refine ⟨.mk a b s is ks,?_⟩;rw [e];exact VR.make (x:=.mk a b s is ks) hS hK (bounds_i64 wa) (bounds_i64 wb) ws (by simp only [Val.keys];omega) (by simp only [Val.items];omega)
end Go.Proofs.YtomhbcfjhgecbaaGreatDoor.Blk
namespace Go.Proofs.YtomhbcfjhgecbaaGreatDoor
open Go.RowKit Go.Sort Go.Lib
open Go.Lib (hid)
def VR5 (w:World) (r:Option Addr) (c:Nat) (rk:Option Addr) (ck:Nat) (x:Val):Prop:=
 VR w [.int .i64 x.kind,.int .i64 x.num,.string x.str,.slice r x.items.length c,.slice rk x.keys.length ck] x
theorem VR.five {w:World} {cs:List Value} {x:Val} (h:VR w cs x):∃ r c rk ck,cs=[.int .i64 x.kind,.int .i64 x.num,.string x.str,.slice r x.items.length c,.slice rk x.keys.length ck]/\VR5 w r c rk ck x:=by
 have h0:=h;obtain ⟨r,c,vK,rfl,_,hK,_⟩:=h.open';obtain ⟨rk,ck,rfl,_⟩:=hK;exact ⟨r,c,rk,ck,rfl,h0⟩
theorem VR5.parts {w:World} {r:Option Addr} {c:Nat} {rk:Option Addr} {ck:Nat} {x:Val} (h:VR5 w r c rk ck x) :
  Sl VR 5 w (.slice r x.items.length c) x.items/\Sl StrR 1 w (.slice rk x.keys.length ck) x.keys/\i64B x.kind/\i64B x.num/\x.str.size<=maxLen/\x.keys.length<=10000000000000/\x.items.length<=10000000000000:=by
 obtain ⟨r',c',vK,e,h1,h2,h3⟩:=VR.open' h;simp only [List.cons.injEq,Value.slice.injEq,and_true,true_and] at e;obtain ⟨⟨rfl,rfl⟩,rfl⟩:=e;exact ⟨h1,h2,h3⟩
theorem VR5.below {w w':World} {r:Option Addr} {c:Nat} {rk:Option Addr} {ck:Nat} {x:Val} (h:VR5 w r c rk ck x) (hb:Below w.heap.size w w'):VR5 w' r c rk ck x:=vr_mono _ _ _ _ hb h
theorem slv_mono {w w':World} {v:Value} {is:List Val} (h:Sl VR 5 w v is) (hb:Below w.heap.size w w'):Sl VR 5 w' v is:=h.below vr_mono hb
theorem val_at {w:World} {r:Option Addr} {n c:Nat} {is:List Val} (h:Sl VR 5 w (.slice r n c) is) (i:Nat) (hi:i < is.length) :
  ∃ b off ri ci rk ck,r=some ⟨b,off,none⟩/\b < w.heap.size/\w.cell? ⟨b,off+i * 5,none⟩=some (.int .i64 (is[i]).kind)/\w.cell? ⟨b,off+i * 5+1,none⟩=some (.int .i64 (is[i]).num)/\w.cell? ⟨b,off+i * 5+2,none⟩=some (.string (is[i]).str) /\
   w.cell? ⟨b,off+i * 5+3,none⟩=some (.slice ri (is[i]).items.length ci)/\w.cell? ⟨b,off+i * 5+4,none⟩=some (.slice rk (is[i]).keys.length ck)/\VR5 w ri ci rk ck is[i]:=by
 obtain ⟨r',c',e,h1,h2,he⟩:=h;simp at e;obtain ⟨rfl,rfl,rfl⟩:=e;obtain ⟨b,off,cs,hr,_,hc,hR⟩:=he i hi;obtain ⟨ri,ci,rk,ck,rfl,h5⟩:=hR.five;have g0:=hc 0 _ rfl;simp only [Nat.add_zero] at g0;exact ⟨b,off,ri,ci,rk,ck,hr,World.block_lt_of_cell? w _ g0,g0,hc 1 _ rfl,hc 2 _ rfl,hc 3 _ rfl,hc 4 _ rfl,h5⟩
theorem nkeysL_snoc {is:List Val} {k:Nat} (h:k < is.length):nkeysL (is.take (k+1))=nkeysL (is.take k)+nkeys is[k]:=by
 rw [List.take_succ_eq_append_getElem h,nkeysL_append];simp [nkeysL]
theorem nkeysL_take_le (is:List Val) (k:Nat):nkeysL (is.take k)<=nkeysL is:=by
 have:=nkeysL_append (is.take k) (is.drop k);rw [List.take_append_drop] at this;omega
theorem vr_nkeys (x:Val):∀ (w:World) (cs:List Value),VR w cs x->nkeys x<=nodes x * 10000000000000:=by
 refine Val.ind (P:=fun x=>∀ (w:World) (cs:List Value),VR w cs x->nkeys x<=nodes x * 10000000000000) ?_ x;intro x ih w cs h;obtain ⟨r,c,rk,ck,rfl,h5⟩:=h.five;obtain ⟨hI,hK,_,_,_,hkl,_⟩:=h5.parts
 have key:∀ is:List Val,(∀ y∈is,nkeys y<=nodes y * 10000000000000)->nkeysL is<=nodesL is * 10000000000000:=by
  intro is
  induction is with
  | nil=>intro _;simp [nkeysL,nodesL]
  | cons y ys ihy =>
    intro h;have h1:=h y List.mem_cons_self;have h2:=ihy fun z hz=>h z (List.mem_cons_of_mem _ hz);rw [nkeysL,nodesL,Nat.add_mul];omega
 have h2:=key x.items fun y hy=>by
  obtain ⟨i,hi,rfl⟩:=List.mem_iff_getElem.1 hy;obtain ⟨_,_,_,_,_,_,_,_,_,_,_,_,_,hv⟩:=val_at hI i hi;exact ih _ hy w _ hv
 rw [nkeys_eq,nodes_eq,Nat.add_mul];omega
set_option maxRecDepth 100000 in
theorem rkeys_any (x:Val):∀ (r:Option Addr) (c:Nat) (rk:Option Addr) (ck:Nat) (w:World),VR5 w r c rk ck x->nkeys x<=10000000000000000 ->
  Calls Tryz.prog 58 #[.agg #[.int .i64 x.kind,.int .i64 x.num,.string x.str,.slice r x.items.length c,.slice rk x.keys.length ck]] w fun e w'=>e=.returned (.int .i64 (nkeys x))/\Below w.heap.size w w':=by
 refine Val.ind (P:=fun x=>∀ (r:Option Addr) (c:Nat) (rk:Option Addr) (ck:Nat) (w:World),VR5 w r c rk ck x->nkeys x<=10000000000000000 ->
  Calls Tryz.prog 58 #[.agg #[.int .i64 x.kind,.int .i64 x.num,.string x.str,.slice r x.items.length c,.slice rk x.keys.length ck]] w fun e w'=>e=.returned (.int .i64 (nkeys x))/\Below w.heap.size w w') ?_ x
 intro x ih r c rk ck w hx hn;obtain ⟨hI,hK,hk,hnu,hs,hkl,hil⟩:=hx.parts;obtain ⟨_,hlc,hcm⟩:=sl_len hI;have HI:=hid hI;have HN:=hid (nkeys_eq x);have HX:=hid (show x.keys.length+nkeysL x.items<=10000000000000000 by have:=nkeys_eq x;omega);have IH:=hid ih;clear ih hI hK hx hk hnu hs hn;generalize x.kind=xk at *;generalize x.num=xn at *;generalize x.str=xs at *;generalize x.keys.length=xkl at *;generalize hnx:nkeys x=nx at *;clear hnx;generalize hxi:x.items=is at *;clear hxi;have B0:=hid (show Below w.heap.size w (w.alloc (.cells #[.int .i64 xk,.int .i64 xn,.string xs,.slice r is.length c,.slice rk xkl ck] 39)) from (Below.refl _ _).alloc (Nat.le_refl _) _);go_enter Tryz.func58,Tryz.ntmps58;go_wp2
 go_loopg [3,4] is.length (fun gg s3 s4 wr=>∃ k:Nat,k<=is.length/\is.length - k<=gg/\s4=.int .i64 k/\s3=.int .i64 ((xkl+nkeysL (is.take k):Nat):Int)/\Aside (Below (w.heap.size+1) (w.alloc (.cells #[.int .i64 xk,.int .i64 xn,.string xs,.slice r is.length c,.slice rk xkl ck] 39)) wr))
 case atStart=>exact ⟨0,Nat.zero_le _,by omega,rfl,rfl,Below.refl _ _⟩
 case round =>
  obtain ⟨k,hk,hg,rfl,rfl,BW⟩:=hrel;have q3:wr.cell? ⟨w.heap.size,3,none⟩=some (.slice r is.length c):=(BW.out.cell (p:=⟨w.heap.size,3,none⟩) (by simp)).trans (cell_at rfl rfl);have BX:=hid (B0.out.trans (BW.out.mono (by simp)))
  by_cases hlt:k < is.length
  . have hltz:(k:Int) < (is.length:Int):=by omega
    obtain ⟨b,off,ri,ci,rk',ck',rfl,hb,g0,g1,g2,g3,g4,h5⟩:=val_at (slv_mono HI.out BX.out) k hlt;have HT:=hid (nkeysL_snoc hlt);have hle:=nkeysL_take_le is (k+1);have hle2:=HT.out;have hle3:=HX.out;have C:=hid (IH.out _ (List.getElem_mem hlt) ri ci rk' ck' wr h5 (by omega));have b1:xkl+nkeysL (is.take k)+nkeys is[k]<=10000000000000000:=by omega
    clear hle hle2 hle3 h5;generalize is[k]=y at *;obtain ⟨yk,yn,ys,yi,yks⟩:=y;simp only [Val.kind,Val.num,Val.str,Val.items,Val.keys] at g0 g1 g2 g3 g4 C;go_wp2_with fail
    refine C.out.mono ?_;rintro e w1 ⟨rfl,hb1⟩;have B1:=hid (BW.out.trans (hb1.mono (by have:=BW.out.size;simpa using this)));clear hb1;go_wp2
    go_roundg (is.length - (k+1))
    case measure=>omega
    case rel=>exact ⟨k+1,by omega,by omega,by go_num,by rw [HT.out];go_num,B1.out⟩
  . have hltz:¬ (k:Int) < (is.length:Int):=by omega
    have hke:k=is.length:=by omega
    have HT:=hid (show xkl+nkeysL (is.take k)=nx by rw [hke,List.take_length,HN.out]);clear hlt hk hke;go_wp2
    go_ret
    exact ⟨ret_int (by have:=HT.out;omega),BX.out⟩
theorem leftL_snoc {is:List Val} {k:Nat} (h:k < is.length) (n l:Int):leftL (is.take (k+1)) n l=if 0<=leftL (is.take k) n l then leftV is[k] (leftL (is.take k) n l) l else leftL (is.take k) n l:=by
 rw [List.take_succ_eq_append_getElem h,leftL_append,leftL];split
 . rw [leftL]
 . rfl
theorem leftL_stop {is:List Val} {k:Nat} {n l:Int} (h:leftL (is.take k) n l < 0):leftL is n l=leftL (is.take k) n l:=by
 rw [<-List.take_append_drop k is,leftL_append,List.take_append_drop,leftL_neg _ _ _ h]
theorem leftL_bd (is:List Val) (n l:Int) (hn:-1<=n):-1<=leftL is n l/\leftL is n l<=n:=by
 induction is generalizing n with
 | nil=>rw [leftL];omega
 | cons x xs ih =>
   rw [leftL];split
   . rename_i h0
     obtain ⟨h1,h2⟩:=left_spec x n l;have h3:=nodes_pos x;have h4:=ih (leftV x n l) h2
     by_cases h5:0<=leftV x n l
     . have:=(h1 h5).1;omega
     . omega
   . omega
set_option maxRecDepth 100000 in
theorem rleft_any (x:Val):∀ (n l:Int) (r:Option Addr) (c:Nat) (rk:Option Addr) (ck:Nat) (w:World),VR5 w r c rk ck x-> -1<=n->n<=1000000-> -1<=l->l<=1000000 ->
  Calls Tryz.prog 57 #[.agg #[.int .i64 x.kind,.int .i64 x.num,.string x.str,.slice r x.items.length c,.slice rk x.keys.length ck],.int .i64 n,.int .i64 l] w fun e w'=>e=.returned (.int .i64 (leftV x n l))/\Below w.heap.size w w':=by
 refine Val.ind (P:=fun x=>∀ (n l:Int) (r:Option Addr) (c:Nat) (rk:Option Addr) (ck:Nat) (w:World),VR5 w r c rk ck x-> -1<=n->n<=1000000-> -1<=l->l<=1000000 ->
  Calls Tryz.prog 57 #[.agg #[.int .i64 x.kind,.int .i64 x.num,.string x.str,.slice r x.items.length c,.slice rk x.keys.length ck],.int .i64 n,.int .i64 l] w fun e w'=>e=.returned (.int .i64 (leftV x n l))/\Below w.heap.size w w') ?_ x
 intro x ih n l r c rk ck w hx hn0 hn1 hl0 hl1;obtain ⟨hI,hK,hk,hnu,hs,hkl,hil⟩:=hx.parts;obtain ⟨_,hlc,hcm⟩:=sl_len hI;have HI:=hid hI;have HN:=hid (leftV_eq x n l);have IH:=hid ih;clear ih hI hK hx hk hnu hs hkl;generalize x.kind=xk at *;generalize x.num=xn at *;generalize x.str=xs at *;generalize x.keys.length=xkl at *;generalize hnx:leftV x n l=nx at *;clear hnx;generalize hxi:x.items=is at *;clear hxi;have B0:=hid (show Below w.heap.size w (w.alloc (.cells #[.int .i64 xk,.int .i64 xn,.string xs,.slice r is.length c,.slice rk xkl ck] 39)) from (Below.refl _ _).alloc (Nat.le_refl _) _)
 by_cases h1:n < 1
 . have HN:=hid (show nx = -1 by rw [HN.out,if_pos (.inl h1)])
   go_enter Tryz.func57,Tryz.ntmps57;go_wp2
   go_ret
   exact ⟨ret_int HN.out,B0.out⟩
 by_cases h2:l < 1
 . have HN:=hid (show nx = -1 by rw [HN.out,if_pos (.inr h2)])
   go_enter Tryz.func57,Tryz.ntmps57;go_wp2
   go_ret
   exact ⟨ret_int HN.out,B0.out⟩
 have HN:=hid (show nx=leftL is (n - 1) (l - 1) by rw [HN.out,if_neg (by omega)]);go_enter Tryz.func57,Tryz.ntmps57;go_wp2
 go_loopg [7,8] is.length (fun gg s7 s8 wr=>∃ k:Nat,k<=is.length/\is.length - k<=gg/\s8=.int .i64 k/\s7=.int .i64 (leftL (is.take k) (n - 1) (l - 1))/\Aside (Below (w.heap.size+1) (w.alloc (.cells #[.int .i64 xk,.int .i64 xn,.string xs,.slice r is.length c,.slice rk xkl ck] 39)) wr))
 case atStart=>exact ⟨0,Nat.zero_le _,by omega,rfl,by rw [List.take_zero,leftL],Below.refl _ _⟩
 case round =>
  obtain ⟨k,hk,hg,rfl,rfl,BW⟩:=hrel;have q3:wr.cell? ⟨w.heap.size,3,none⟩=some (.slice r is.length c):=(BW.out.cell (p:=⟨w.heap.size,3,none⟩) (by simp)).trans (cell_at rfl rfl);have BX:=hid (B0.out.trans (BW.out.mono (by simp)));obtain ⟨c1,c2⟩:=leftL_bd (is.take k) (n - 1) (l - 1) (by omega)
  by_cases hlt:k < is.length
  . have hltz:(k:Int) < (is.length:Int):=by omega
    by_cases h0:0<=leftL (is.take k) (n - 1) (l - 1)
    . obtain ⟨b,off,ri,ci,rk',ck',rfl,hb,g0,g1,g2,g3,g4,h5⟩:=val_at (slv_mono HI.out BX.out) k hlt
      have HT:=hid ((leftL_snoc hlt (n - 1) (l - 1)).trans (if_pos h0));have C:=hid (IH.out _ (List.getElem_mem hlt) (leftL (is.take k) (n - 1) (l - 1)) (l - 1) ri ci rk' ck' wr h5 (by omega) (by omega) (by omega) (by omega));clear h5;generalize is[k]=y at *;generalize leftL (is.take k) (n - 1) (l - 1)=cur at *;obtain ⟨yk,yn,ys,yi,yks⟩:=y;simp only [Val.kind,Val.num,Val.str,Val.items,Val.keys] at g0 g1 g2 g3 g4 C;go_wp2_with fail
      refine C.out.mono ?_;rintro e w1 ⟨rfl,hb1⟩;have B1:=hid (BW.out.trans (hb1.mono (by have:=BW.out.size;simpa using this)));clear hb1;go_wp2
      go_roundg (is.length - (k+1))
      case measure=>omega
      case rel=>exact ⟨k+1,by omega,by omega,by go_num,by rw [HT.out],B1.out⟩
    . have h0':leftL (is.take k) (n - 1) (l - 1) < 0:=by omega
      have HT:=hid (show nx=leftL (is.take k) (n - 1) (l - 1) from HN.out.trans (leftL_stop h0'));generalize leftL (is.take k) (n - 1) (l - 1)=cur at *;go_wp2
      go_ret
      exact ⟨ret_int HT.out,BX.out⟩
  . have hltz:¬ (k:Int) < (is.length:Int):=by omega
    have hke:k=is.length:=by omega
    have HT:=hid (show nx=leftL (is.take k) (n - 1) (l - 1) by rw [hke,List.take_length,HN.out]);generalize leftL (is.take k) (n - 1) (l - 1)=cur at *;clear hlt hk hke;go_wp2
    go_ret
    exact ⟨ret_int HT.out,BX.out⟩
end Go.Proofs.YtomhbcfjhgecbaaGreatDoor
namespace Go.Proofs.YtomhbcfjhgecbaaGreatDoor
open Go.RowKit Go.Sort Go.Lib
open Go.Lib (hid)
def mask (K:Nat->Bool) (w:World):World:={ w with heap:=w.heap.mapIdx fun i o=>if K i then o else .cells #[] 0 (0,0) }
theorem mask_heap {K:Nat->Bool} {w:World} {b:Nat} (h:K b=true):(mask K w).heap[b]?=w.heap[b]?:=by
 unfold mask;simp only [Array.getElem?_mapIdx,h,if_true];cases w.heap[b]? <;> rfl
theorem mask_cell {K:Nat->Bool} {w:World} {b o:Nat} {v:Value} (h:(mask K w).cell? ⟨b,o,none⟩=some v):K b=true/\w.cell? ⟨b,o,none⟩=some v:=by
 cases hk:K b with
 | true=>exact ⟨rfl,(World.cell?_of_block (w:=w) (mask_heap hk)).symm.trans h⟩
 | false =>
   exfalso;unfold World.cell? mask at h;simp only [Array.getElem?_mapIdx,hk] at h;cases hb:w.heap[b]? with
   | none=>rw [hb] at h;simp at h
   | some o=>rw [hb] at h;simp at h
theorem mask_cell_mk {K:Nat->Bool} {w:World} {b o:Nat} {v:Value} (hk:K b=true) (h:w.cell? ⟨b,o,none⟩=some v):(mask K w).cell? ⟨b,o,none⟩=some v:=
 (World.cell?_of_block (w:=w) (mask_heap hk)).trans h
def Stays (w w':World):Prop:=∀ b o v,w.cell? ⟨b,o,none⟩=some v->w'.cell? ⟨b,o,none⟩=some v
theorem sl_stays {α:Type} {R:World->List Value->α->Prop} {sz:Nat} {w w':World} {v:Value} {xs:List α} (h:Stays w w') (hR:∀ cs x,R w cs x->R w' cs x) (hs:Sl R sz w v xs):Sl R sz w' v xs:=by
 obtain ⟨r,cap,hv,hl,hc,he⟩:=hs;refine ⟨r,cap,hv,hl,hc,fun i hi=>?_⟩;obtain ⟨b,off,cs,hr,hsz,hcell,hx⟩:=he i hi;exact ⟨b,off,cs,hr,hsz,fun j u hj=>h _ _ _ (hcell j u hj),hR _ _ hx⟩
theorem vr_stays {w w':World} (hst:Stays w w') {cs:List Value} {x:Val} (h:VR w cs x):VR w' cs x:=by
 induction h with
 | mk k n s is ks r b off c cs vK hk hn hs hl hc hr h5 hcell hR hK hkl hil ih =>
   exact .mk k n s is ks r b off c cs vK hk hn hs hl hc hr h5 (fun i j u hi hj=>hst _ _ _ (hcell i j u hi hj)) (fun i h=>ih i h) (sl_stays hst (fun _ _ h=>h) hK) hkl hil
theorem sls_stays {w w':World} (hst:Stays w w') {v:Value} {ks:List ByteArray} (h:Sl StrR 1 w v ks):Sl StrR 1 w' v ks:=sl_stays hst (fun _ _ h=>h) h
theorem stays_mask (K:Nat->Bool) (w:World):Stays (mask K w) w:=fun b o v h=>(mask_cell h).2
theorem lt_of_cell {w:World} {b o:Nat} {v:Value} (h:w.cell? ⟨b,o,none⟩=some v):b < w.heap.size:=World.block_lt_of_cell? w _ h
theorem stays_keep {K K':Nat->Bool} {w w':World} (h:∀ b,K b=true->b < w.heap.size->K' b=true/\w'.heap[b]?=w.heap[b]?):Stays (mask K w) (mask K' w'):=fun b o v hc=>by
 obtain ⟨hk,hv⟩:=mask_cell hc;obtain ⟨h1,h2⟩:=h b hk (lt_of_cell hv);exact mask_cell_mk h1 ((World.cell?_of_block (w:=w) h2).trans hv)
theorem stays_out {K:Nat->Bool} {w w':World} (h:∀ b,K b=true->b < w.heap.size->w'.heap[b]?=w.heap[b]?):Stays (mask K w) w':=fun b o v hc=>by
 obtain ⟨hk,hv⟩:=mask_cell hc;exact (World.cell?_of_block (w:=w) (h b hk (lt_of_cell hv))).trans hv
def fromB (B:Nat):Nat->Bool:=fun b=>decide (B<=b)
theorem stays_below {K:Nat->Bool} {w w':World} (hb:Below w.heap.size w w'):Stays (mask K w) (mask K w'):=stays_keep fun b hk hlt=>⟨hk,hb.block b hlt⟩
theorem stays_wider {K K':Nat->Bool} {w:World} (h:∀ b,K b=true->K' b=true):Stays (mask K w) (mask K' w):=stays_keep fun b hk _=>⟨h b hk,rfl⟩
def VK (K:Nat->Bool) (w:World) (r:Option Addr) (c:Nat) (rk:Option Addr) (ck:Nat) (x:Val):Prop:=VR5 (mask K w) r c rk ck x
theorem VK.to {K K':Nat->Bool} {w w':World} {r:Option Addr} {c:Nat} {rk:Option Addr} {ck:Nat} {x:Val} (hs:Stays (mask K w) (mask K' w')) (h:VK K w r c rk ck x):VK K' w' r c rk ck x:=vr_stays hs h
end Go.Proofs.YtomhbcfjhgecbaaGreatDoor
namespace Go.Proofs.YtomhbcfjhgecbaaGreatDoor
open Go.RowKit Go.Sort Go.Lib
open Go.Lib (hid)
structure Cv where
 k:Int
 n:Int
 s:ByteArray
 r:Option Addr
 ni:Nat
 c:Nat
 rk:Option Addr
 nk:Nat
 ck:Nat
def Cv.enc (y:Cv):List Value:=[.int .i64 y.k,.int .i64 y.n,.string y.s,.slice y.r y.ni y.c,.slice y.rk y.nk y.ck]
theorem cv_len:∀ y:Cv,y.enc.length=5:=fun _=>rfl
theorem cv_one:∀ y:Cv,∀ u∈y.enc,u.oneCell'=true:=fun y u hu=>by
 simp only [Cv.enc,List.mem_cons,List.mem_nil_iff,or_false] at hu;rcases hu with rfl | rfl | rfl | rfl | rfl <;> rfl
def Cv.of (x:Val) (r:Option Addr) (c:Nat) (rk:Option Addr) (ck:Nat):Cv:=⟨x.kind,x.num,x.str,r,x.items.length,c,rk,x.keys.length,ck⟩
theorem VK.enc {K:Nat->Bool} {w:World} {r:Option Addr} {c:Nat} {rk:Option Addr} {ck:Nat} {x:Val} (h:VK K w r c rk ck x):VR (mask K w) (Cv.of x r c rk ck).enc x:=h
def keepB (B:Nat) (v:Value):Nat->Bool:=fun b=>decide (B<=b) && decide (v.ownBlock≠some b)
structure OwnV (B:Nat) (w:World) (v:Value) (is:List Val):Prop where
 ex:∃ ys:List Cv,ys.length=is.length/\w.ownsRow B 39 5 v ys.length (ys.flatMap Cv.enc)/\∀ (i:Nat) (h:i < ys.length) (h':i < is.length),VR (mask (keepB B v) w) ys[i].enc is[i]
theorem sl_of_rows {w W:World} {v:Value} {B:Nat} {ys:List Cv} {is:List Val} (hl:ys.length=is.length) (h:w.ownsRow B 39 5 v ys.length (ys.flatMap Cv.enc)) (hv:∀ (i:Nat) (h:i < ys.length) (h':i < is.length),VR W ys[i].enc is[i]) (hst:Stays W w):Sl VR 5 w v is:=by
 obtain ⟨r,cap,rfl,h1,h2,he⟩:=sl_of_own Cv.enc cv_len h;refine ⟨r,cap,by rw [hl],by omega,h2,fun i hi=>?_⟩;obtain ⟨b,off,cs,hr,hsz,hcell,hx⟩:=he i (by omega);subst hx;exact ⟨b,off,_,hr,hsz,hcell,vr_stays hst (hv i (by omega) hi)⟩
end Go.Proofs.YtomhbcfjhgecbaaGreatDoor
namespace Go.Proofs
open Go.Shelf
def Tryz.lays170_ren:Go.Shelf.Ren:=⟨fun | 170=>182 | n=>n,fun | 70=>203 | 3=>3 | 0=>0 | 72=>205 | 37=>178 | 5=>5 | n=>n,fun | n=>n⟩
theorem Tryz.lays170:Go.Proofs.Lays.n170 Tryz.prog Tryz.lays170_ren:={
 mixed:=by kernel_rfl
 f170:=Tryz.func182.trans (congrArg some (by kernel_rfl))
 t0:=Tryz.underlying0
 a0:=Tryz.isAgg0
 z0:=Tryz.sizeOf0
 v0:=Tryz.zeroValue0
 t3:=Tryz.underlying3
 a3:=Tryz.isAgg3
 z3:=Tryz.sizeOf3
 v3:=Tryz.zeroValue3
 t37:=Tryz.underlying178
 a37:=Tryz.isAgg178
 z37:=Tryz.sizeOf178
 v37:=Tryz.zeroValue178
 t70:=Tryz.underlying203
 a70:=Tryz.isAgg203
 z70:=Tryz.sizeOf203
 v70:=Tryz.zeroValue203
 t72:=Tryz.underlying205
 a72:=Tryz.isAgg205
 z72:=Tryz.sizeOf205
 v72:=Tryz.zeroValue205 }
def Tryz.lays169_ren:Go.Shelf.Ren:=⟨fun | 169=>183 | n=>n,fun | 70=>203 | 9=>9 | 0=>0 | 72=>205 | 37=>178 | 127=>240 | 3=>3 | 5=>5 | n=>n,fun | n=>n⟩
theorem Tryz.lays169:Go.Proofs.Lays.n169 Tryz.prog Tryz.lays169_ren:={
 mixed:=by kernel_rfl
 f169:=Tryz.func183.trans (congrArg some (by kernel_rfl))
 t0:=Tryz.underlying0
 a0:=Tryz.isAgg0
 z0:=Tryz.sizeOf0
 v0:=Tryz.zeroValue0
 t3:=Tryz.underlying3
 a3:=Tryz.isAgg3
 z3:=Tryz.sizeOf3
 v3:=Tryz.zeroValue3
 t9:=Tryz.underlying9
 a9:=Tryz.isAgg9
 z9:=Tryz.sizeOf9
 v9:=Tryz.zeroValue9
 t37:=Tryz.underlying178
 a37:=Tryz.isAgg178
 z37:=Tryz.sizeOf178
 v37:=Tryz.zeroValue178
 t70:=Tryz.underlying203
 a70:=Tryz.isAgg203
 z70:=Tryz.sizeOf203
 v70:=Tryz.zeroValue203
 t72:=Tryz.underlying205
 a72:=Tryz.isAgg205
 z72:=Tryz.sizeOf205
 v72:=Tryz.zeroValue205
 t127:=Tryz.underlying240
 a127:=Tryz.isAgg240
 z127:=Tryz.sizeOf240
 v127:=Tryz.zeroValue240 }
theorem Tryz.Builder_Extra_169:Builder.Extra Tryz.prog Tryz.lays169_ren:={
 sizeBuilder:=by kernel_rfl
 liesBuilder:=by kernel_rfl
 t5:=Tryz.underlying5
 a5:=Tryz.isAgg5
 z5:=Tryz.sizeOf5
 v5:=Tryz.zeroValue5
 infoByte:=by kernel_rfl
 cellsByte:=by kernel_rfl
 sizeByte:=by kernel_rfl
 neB5:=by decide }
open Go.RowKit in
theorem Tryz.Builder_String_any (B b:Nat) (l:List UInt8) (w:World) (h:Lib.IsBuilder 205 5 B b (Lib.byteCells l) w) (hBw:B<=w.heap.size) :
 Calls Tryz.prog 183 #[.pointer (some ⟨b,0,none⟩)] w fun e w'=>e=.returned (.string ⟨l.toArray⟩)/\Below B w w':=Any.Builder_String_any Tryz.lays169 Tryz.Builder_Extra_169 B b l w h hBw
def Tryz.lays119_ren:Go.Shelf.Ren:=⟨fun | 119=>213 | n=>n,fun | 21=>21 | 4=>4 | n=>n,fun | n=>n⟩
theorem Tryz.lays119:Go.Proofs.Lays.n119 Tryz.prog Tryz.lays119_ren:={
 mixed:=by kernel_rfl
 f119:=Tryz.func213.trans (congrArg some (by kernel_rfl))
 t4:=Tryz.underlying4
 a4:=Tryz.isAgg4
 z4:=Tryz.sizeOf4
 v4:=Tryz.zeroValue4
 t21:=Tryz.underlying21
 a21:=Tryz.isAgg21
 z21:=Tryz.sizeOf21
 v21:=Tryz.zeroValue21 }
theorem Tryz.utf8_ValidRune (r:Int) (w:World) :
 Calls Tryz.prog 213 #[.int .i32 r] w fun e w'=>e=.returned (.bool (Lib.validRune r))/\w'=w:=Any.utf8_ValidRune Tryz.lays119 r w
def Tryz.lays137_ren:Go.Shelf.Ren:=⟨fun | 137=>136 | 217=>187 | 266=>220 | n=>n,fun | 9=>9 | 5=>5 | 3=>3 | n=>n,fun | n=>n⟩
theorem Tryz.lays137:Go.Proofs.Lays.n137 Tryz.prog Tryz.lays137_ren:={
 mixed:=by kernel_rfl
 f137:=Tryz.func136.trans (congrArg some (by kernel_rfl))
 f217:=Tryz.func187.trans (congrArg some (by kernel_rfl))
 f266:=Tryz.func220.trans (congrArg some (by kernel_rfl))
 t3:=Tryz.underlying3
 a3:=Tryz.isAgg3
 z3:=Tryz.sizeOf3
 v3:=Tryz.zeroValue3
 t5:=Tryz.underlying5
 a5:=Tryz.isAgg5
 z5:=Tryz.sizeOf5
 v5:=Tryz.zeroValue5
 t9:=Tryz.underlying9
 a9:=Tryz.isAgg9
 z9:=Tryz.sizeOf9
 v9:=Tryz.zeroValue9 }
open Go.RowKit in
theorem Tryz.strings_IndexByte (s:ByteArray) (c:Int) (w:World) :
 Calls Tryz.prog 136 #[.string s,.int .u8 c] w fun e w'=>e=.returned (.int .i64 (Lib.indexByte s.data.toList c.toNat.toUInt8))/\w'=w:=Any.strings_IndexByte Tryz.lays137 s c w
def Tryz.lays103_ren:Go.Shelf.Ren:=⟨fun | 103=>131 | 210=>173 | 206=>178 | n=>n,fun | 9=>9 | 4=>4 | 24=>102 | 3=>3 | n=>n,fun | n=>n⟩
theorem Tryz.lays103:Go.Proofs.Lays.n103 Tryz.prog Tryz.lays103_ren:={
 mixed:=by kernel_rfl
 f103:=Tryz.func131.trans (congrArg some (by kernel_rfl))
 f206:=Tryz.func178.trans (congrArg some (by kernel_rfl))
 f210:=Tryz.func173.trans (congrArg some (by kernel_rfl))
 t3:=Tryz.underlying3
 a3:=Tryz.isAgg3
 z3:=Tryz.sizeOf3
 v3:=Tryz.zeroValue3
 t4:=Tryz.underlying4
 a4:=Tryz.isAgg4
 z4:=Tryz.sizeOf4
 v4:=Tryz.zeroValue4
 t9:=Tryz.underlying9
 a9:=Tryz.isAgg9
 z9:=Tryz.sizeOf9
 v9:=Tryz.zeroValue9
 t24:=Tryz.underlying102
 a24:=Tryz.isAgg102
 z24:=Tryz.sizeOf102
 v24:=Tryz.zeroValue102 }
open Go.RowKit in
theorem Tryz.strings_CutPrefix (s p:ByteArray) (w:World) :
 Calls Tryz.prog 131 #[.string s,.string p] w fun e w'=>e=.returned (.tuple #[.string ⟨(Lib.trimPrefix s.data.toList p.data.toList).toArray⟩,.bool (Lib.hasPrefix s.data.toList p.data.toList)])/\w'=w:=Any.strings_CutPrefix Tryz.lays103 s p w
open Go.RowKit in
theorem Tryz.Builder_Len_f (B b:Nat) (bs:List Value) (w:World) (h:Lib.IsBuilderF 205 5 B b bs w) :
 Calls Tryz.prog 182 #[.pointer (some ⟨b,0,none⟩)] w fun e w'=>e=.returned (.int .i64 bs.length)/\w'=w:=Any.Builder_Len_f Tryz.lays170 B b bs w h
open Go.RowKit in
theorem Tryz.Builder_String_any_f (B b:Nat) (l:List UInt8) (w:World) (h:Lib.IsBuilderF 205 5 B b (Lib.byteCells l) w) (hBw:B<=w.heap.size) :
 Calls Tryz.prog 183 #[.pointer (some ⟨b,0,none⟩)] w fun e w'=>e=.returned (.string ⟨l.toArray⟩)/\(Lib.IsBuilderF 205 5 B b (Lib.byteCells l) w'/\Below B w w'):=Any.Builder_String_any_f Tryz.lays169 Tryz.Builder_Extra_169 B b l w h hBw
def Tryz.laysC174_ren:Go.Shelf.Ren:=⟨fun | 174=>162 | 247=>204 | 245=>205 | 287=>229 | 279=>230 | 280=>231 | 281=>232 | 282=>233 | 321=>243 | 322=>244 | 316=>245 | 171=>91 | 205=>246 | 243=>129 | 246=>172 | 283=>209 | 284=>210 | 285=>211 | 286=>212 | 129=>149 | 317=>235 | 318=>236 | 319=>237 | 320=>238 | 337=>247 | 338=>248 | n=>n,fun | 9=>9 | 3=>3 | 2=>2 | 75=>188 | 85=>189 | 4=>4 | 167=>246 | 5=>5 | 53=>172 | 175=>247 | 46=>137 | 168=>249 | 37=>178 | 0=>0 | 210=>261 | 21=>21 | 127=>240 | 145=>265 | 143=>263 | 171=>232 | 173=>234 | 212=>253 | 51=>170 | 20=>20 | 213=>254 | 232=>266 | 233=>267 | 80=>127 | n=>n,fun | 15=>4 | 16=>5 | 17=>3 | 18=>6 | 19=>7 | n=>n⟩
theorem Tryz.laysC174:Go.Proofs.LaysC.n174 Tryz.prog Tryz.laysC174_ren:={
 mixed:=by kernel_rfl
 f129:=Tryz.func149.trans (congrArg some (by kernel_rfl))
 f171:=Tryz.func91.trans (congrArg some (by kernel_rfl))
 f174:=Tryz.func162.trans (congrArg some (by kernel_rfl))
 f205:=Tryz.func246.trans (congrArg some (by kernel_rfl))
 f243:=Tryz.func129.trans (congrArg some (by kernel_rfl))
 f245:=Tryz.func205.trans (congrArg some (by kernel_rfl))
 f246:=Tryz.func172.trans (congrArg some (by kernel_rfl))
 f247:=Tryz.func204.trans (congrArg some (by kernel_rfl))
 f279:=Tryz.func230.trans (congrArg some (by kernel_rfl))
 f280:=Tryz.func231.trans (congrArg some (by kernel_rfl))
 f281:=Tryz.func232.trans (congrArg some (by kernel_rfl))
 f282:=Tryz.func233.trans (congrArg some (by kernel_rfl))
 f283:=Tryz.func209.trans (congrArg some (by kernel_rfl))
 f284:=Tryz.func210.trans (congrArg some (by kernel_rfl))
 f285:=Tryz.func211.trans (congrArg some (by kernel_rfl))
 f286:=Tryz.func212.trans (congrArg some (by kernel_rfl))
 f287:=Tryz.func229.trans (congrArg some (by kernel_rfl))
 f316:=Tryz.func245.trans (congrArg some (by kernel_rfl))
 f317:=Tryz.func235.trans (congrArg some (by kernel_rfl))
 f318:=Tryz.func236.trans (congrArg some (by kernel_rfl))
 f319:=Tryz.func237.trans (congrArg some (by kernel_rfl))
 f320:=Tryz.func238.trans (congrArg some (by kernel_rfl))
 f321:=Tryz.func243.trans (congrArg some (by kernel_rfl))
 f322:=Tryz.func244.trans (congrArg some (by kernel_rfl))
 f337:=Tryz.func247.trans (congrArg some (by kernel_rfl))
 f338:=Tryz.func248.trans (congrArg some (by kernel_rfl))
 t0:=Tryz.underlying0
 a0:=Tryz.isAgg0
 z0:=Tryz.sizeOf0
 v0:=Tryz.zeroValue0
 t2:=Tryz.underlying2
 a2:=Tryz.isAgg2
 z2:=Tryz.sizeOf2
 v2:=Tryz.zeroValue2
 t3:=Tryz.underlying3
 a3:=Tryz.isAgg3
 z3:=Tryz.sizeOf3
 v3:=Tryz.zeroValue3
 t4:=Tryz.underlying4
 a4:=Tryz.isAgg4
 z4:=Tryz.sizeOf4
 v4:=Tryz.zeroValue4
 t5:=Tryz.underlying5
 a5:=Tryz.isAgg5
 z5:=Tryz.sizeOf5
 v5:=Tryz.zeroValue5
 t9:=Tryz.underlying9
 a9:=Tryz.isAgg9
 z9:=Tryz.sizeOf9
 v9:=Tryz.zeroValue9
 t20:=Tryz.underlying20
 a20:=Tryz.isAgg20
 z20:=Tryz.sizeOf20
 v20:=Tryz.zeroValue20
 t21:=Tryz.underlying21
 a21:=Tryz.isAgg21
 z21:=Tryz.sizeOf21
 v21:=Tryz.zeroValue21
 t37:=Tryz.underlying178
 a37:=Tryz.isAgg178
 z37:=Tryz.sizeOf178
 v37:=Tryz.zeroValue178
 t46:=Tryz.underlying137
 a46:=Tryz.isAgg137
 z46:=Tryz.sizeOf137
 v46:=Tryz.zeroValue137
 t51:=Tryz.underlying170
 a51:=Tryz.isAgg170
 z51:=Tryz.sizeOf170
 v51:=Tryz.zeroValue170
 t53:=Tryz.underlying172
 a53:=Tryz.isAgg172
 z53:=Tryz.sizeOf172
 v53:=Tryz.zeroValue172
 t75:=Tryz.underlying188
 a75:=Tryz.isAgg188
 z75:=Tryz.sizeOf188
 v75:=Tryz.zeroValue188
 t85:=Tryz.underlying189
 a85:=Tryz.isAgg189
 z85:=Tryz.sizeOf189
 v85:=Tryz.zeroValue189
 t127:=Tryz.underlying240
 a127:=Tryz.isAgg240
 z127:=Tryz.sizeOf240
 v127:=Tryz.zeroValue240
 t143:=Tryz.underlying263
 a143:=Tryz.isAgg263
 z143:=Tryz.sizeOf263
 v143:=Tryz.zeroValue263
 t145:=Tryz.underlying265
 a145:=Tryz.isAgg265
 z145:=Tryz.sizeOf265
 v145:=Tryz.zeroValue265
 t167:=Tryz.underlying246
 a167:=Tryz.isAgg246
 z167:=Tryz.sizeOf246
 v167:=Tryz.zeroValue246
 t168:=Tryz.underlying249
 a168:=Tryz.isAgg249
 z168:=Tryz.sizeOf249
 v168:=Tryz.zeroValue249
 t171:=Tryz.underlying232
 a171:=Tryz.isAgg232
 z171:=Tryz.sizeOf232
 v171:=Tryz.zeroValue232
 t173:=Tryz.underlying234
 a173:=Tryz.isAgg234
 z173:=Tryz.sizeOf234
 v173:=Tryz.zeroValue234
 t175:=Tryz.underlying247
 a175:=Tryz.isAgg247
 z175:=Tryz.sizeOf247
 v175:=Tryz.zeroValue247
 t210:=Tryz.underlying261
 a210:=Tryz.isAgg261
 z210:=Tryz.sizeOf261
 v210:=Tryz.zeroValue261
 t212:=Tryz.underlying253
 a212:=Tryz.isAgg253
 z212:=Tryz.sizeOf253
 v212:=Tryz.zeroValue253
 t213:=Tryz.underlying254
 a213:=Tryz.isAgg254
 z213:=Tryz.sizeOf254
 t232:=Tryz.underlying266
 a232:=Tryz.isAgg266
 z232:=Tryz.sizeOf266
 v232:=Tryz.zeroValue266
 t233:=Tryz.underlying267
 a233:=Tryz.isAgg267
 z233:=Tryz.sizeOf267
 v233:=Tryz.zeroValue267
 g15:=by kernel_rfl
 g16:=by kernel_rfl
 g17:=by kernel_rfl
 g18:=by kernel_rfl
 g19:=by kernel_rfl
 t80:=Tryz.underlying127
 a80:=Tryz.isAgg127
 z80:=Tryz.sizeOf127
 v80:=Tryz.zeroValue127
 i0:=by kernel_rfl
 i2:=by kernel_rfl
 i3:=by kernel_rfl
 i4:=by kernel_rfl
 i5:=by kernel_rfl
 i9:=by kernel_rfl
 i20:=by kernel_rfl
 i21:=by kernel_rfl
 i37:=by kernel_rfl
 i46:=by kernel_rfl
 i51:=by kernel_rfl
 i53:=by kernel_rfl
 i75:=by kernel_rfl
 i80:=by kernel_rfl
 i85:=by kernel_rfl
 i127:=by kernel_rfl
 i143:=by kernel_rfl
 i145:=by kernel_rfl
 i167:=by kernel_rfl
 i168:=by kernel_rfl
 i171:=by kernel_rfl
 i173:=by kernel_rfl
 i175:=by kernel_rfl
 i210:=by kernel_rfl
 i212:=by kernel_rfl
 i232:=by kernel_rfl
 i233:=by kernel_rfl
 m15:=by kernel_rfl
 m16:=by kernel_rfl
 m17:=by kernel_rfl
 m18:=by kernel_rfl
 m19:=by kernel_rfl
 c0:=by kernel_rfl
 c2:=by kernel_rfl
 c3:=by kernel_rfl
 c4:=by kernel_rfl
 c5:=by kernel_rfl
 c9:=by kernel_rfl
 c20:=by kernel_rfl
 c21:=by kernel_rfl
 c37:=by kernel_rfl
 c46:=by kernel_rfl
 c51:=by kernel_rfl
 c53:=by kernel_rfl
 c75:=by kernel_rfl
 c80:=by kernel_rfl
 c85:=by kernel_rfl
 c127:=by kernel_rfl
 c143:=by kernel_rfl
 c145:=by kernel_rfl
 c167:=by kernel_rfl
 c168:=by kernel_rfl
 c171:=by kernel_rfl
 c173:=by kernel_rfl
 c175:=by kernel_rfl
 c210:=by kernel_rfl
 c212:=by kernel_rfl
 c213:=by kernel_rfl
 c232:=by kernel_rfl
 c233:=by kernel_rfl }
open Go.RowKit in
theorem Tryz.strconv_ParseInt_10_at64_ok (s:ByteArray) (hmax:s.size<=9223372036854775806) (v:Int) (h:Lib.parseIntB 64 s.data.toList=.ok v) (w:World) :
 Calls Tryz.prog 162 #[.string s,.int .i64 10,.int .i64 64] w fun e w'=>e=.returned (.tuple #[.int .i64 v,.nilIface])/\(w'=w ∨ ∃ t,w'=Lib.bytesWorld w 5 t):=Any.strconv_ParseInt_10_at64_ok Tryz.laysC174 s hmax v h w
open Go.RowKit in
theorem Tryz.strconv_ParseInt_10_at64_range (s:ByteArray) (hlim:s.size<=281474976710656) (h:Lib.parseIntB 64 s.data.toList=.range) (ev:Value) (w:World) (hv:w.cell? ⟨5,0,none⟩=some ev) (hev:ev=.nilIface ∨ ∃ te pe,ev=.iface te pe) :
 Calls Tryz.prog 162 #[.string s,.int .i64 10,.int .i64 64] w fun e w'=>∃ N,e=.returned (.tuple #[.int .i64 (Lib.intSat 64 s.data.toList),.iface 249 (.pointer (some ⟨N,0,none⟩))])/\w.heap.size<=N/\w'.heap[N]?=some (.cells #[.string ⟨#[80,97,114,115,101,73,110,116]⟩,.string s,ev] 261 (0,0))/\Below w.heap.size w w':=Any.strconv_ParseInt_10_at64_range Tryz.laysC174 s hlim h ev w hv hev
def Tryz.lays99_ren:Go.Shelf.Ren:=⟨fun | 99=>133 | 206=>178 | n=>n,fun | 9=>9 | 4=>4 | 3=>3 | n=>n,fun | n=>n⟩
theorem Tryz.lays99:Go.Proofs.Lays.n99 Tryz.prog Tryz.lays99_ren:={
 mixed:=by kernel_rfl
 f99:=Tryz.func133.trans (congrArg some (by kernel_rfl))
 f206:=Tryz.func178.trans (congrArg some (by kernel_rfl))
 t3:=Tryz.underlying3
 a3:=Tryz.isAgg3
 z3:=Tryz.sizeOf3
 v3:=Tryz.zeroValue3
 t4:=Tryz.underlying4
 a4:=Tryz.isAgg4
 z4:=Tryz.sizeOf4
 v4:=Tryz.zeroValue4
 t9:=Tryz.underlying9
 a9:=Tryz.isAgg9
 z9:=Tryz.sizeOf9
 v9:=Tryz.zeroValue9 }
open Go.RowKit Go.Lib in
theorem Tryz.strings_HasPrefix (s p:ByteArray) (w:World) :
 Calls Tryz.prog 133 #[.string s,.string p] w fun e w'=>e=.returned (.bool (Lib.hasPrefix s.data.toList p.data.toList))/\w'=w:=Any.strings_HasPrefix Tryz.lays99 s p w
def Tryz.lays197_ren:Go.Shelf.Ren:=⟨fun | 197=>179 | 260=>216 | n=>n,fun | 9=>9 | 21=>21 | 3=>3 | 4=>4 | 5=>5 | 105=>206 | 119=>183 | 0=>0 | 46=>137 | 139=>186 | 138=>185 | n=>n,fun | 3=>0 | 4=>1 | n=>n⟩
theorem Tryz.lays197:Go.Proofs.Lays.n197 Tryz.prog Tryz.lays197_ren:={
 mixed:=by kernel_rfl
 f197:=Tryz.func179.trans (congrArg some (by kernel_rfl))
 f260:=Tryz.func216.trans (congrArg some (by kernel_rfl))
 t0:=Tryz.underlying0
 a0:=Tryz.isAgg0
 z0:=Tryz.sizeOf0
 v0:=Tryz.zeroValue0
 t3:=Tryz.underlying3
 a3:=Tryz.isAgg3
 z3:=Tryz.sizeOf3
 v3:=Tryz.zeroValue3
 t4:=Tryz.underlying4
 a4:=Tryz.isAgg4
 z4:=Tryz.sizeOf4
 v4:=Tryz.zeroValue4
 t5:=Tryz.underlying5
 a5:=Tryz.isAgg5
 z5:=Tryz.sizeOf5
 v5:=Tryz.zeroValue5
 t9:=Tryz.underlying9
 a9:=Tryz.isAgg9
 z9:=Tryz.sizeOf9
 v9:=Tryz.zeroValue9
 t21:=Tryz.underlying21
 a21:=Tryz.isAgg21
 z21:=Tryz.sizeOf21
 v21:=Tryz.zeroValue21
 t46:=Tryz.underlying137
 a46:=Tryz.isAgg137
 z46:=Tryz.sizeOf137
 v46:=Tryz.zeroValue137
 t105:=Tryz.underlying206
 a105:=Tryz.isAgg206
 z105:=Tryz.sizeOf206
 v105:=Tryz.zeroValue206
 t119:=Tryz.underlying183
 a119:=Tryz.isAgg183
 z119:=Tryz.sizeOf183
 t138:=Tryz.underlying185
 a138:=Tryz.isAgg185
 z138:=Tryz.sizeOf185
 v138:=Tryz.zeroValue185
 t139:=Tryz.underlying186
 a139:=Tryz.isAgg186
 z139:=Tryz.sizeOf186
 v139:=Tryz.zeroValue186
 g3:=by kernel_rfl
 g4:=by kernel_rfl }
def Tryz.lays152_ren:Go.Shelf.Ren:=⟨fun | 152=>174 | 137=>136 | 119=>213 | 224=>214 | 225=>215 | 217=>187 | 266=>220 | n=>n,fun | 9=>9 | 21=>21 | 3=>3 | 4=>4 | 5=>5 | 0=>0 | 46=>137 | n=>n,fun | n=>n⟩
theorem Tryz.lays152:Go.Proofs.Lays.n152 Tryz.prog Tryz.lays152_ren:={
 mixed:=by kernel_rfl
 f119:=Tryz.func213.trans (congrArg some (by kernel_rfl))
 f137:=Tryz.func136.trans (congrArg some (by kernel_rfl))
 f152:=Tryz.func174.trans (congrArg some (by kernel_rfl))
 f217:=Tryz.func187.trans (congrArg some (by kernel_rfl))
 f224:=Tryz.func214.trans (congrArg some (by kernel_rfl))
 f225:=Tryz.func215.trans (congrArg some (by kernel_rfl))
 f266:=Tryz.func220.trans (congrArg some (by kernel_rfl))
 t0:=Tryz.underlying0
 a0:=Tryz.isAgg0
 z0:=Tryz.sizeOf0
 v0:=Tryz.zeroValue0
 t3:=Tryz.underlying3
 a3:=Tryz.isAgg3
 z3:=Tryz.sizeOf3
 v3:=Tryz.zeroValue3
 t4:=Tryz.underlying4
 a4:=Tryz.isAgg4
 z4:=Tryz.sizeOf4
 v4:=Tryz.zeroValue4
 t5:=Tryz.underlying5
 a5:=Tryz.isAgg5
 z5:=Tryz.sizeOf5
 v5:=Tryz.zeroValue5
 t9:=Tryz.underlying9
 a9:=Tryz.isAgg9
 z9:=Tryz.sizeOf9
 v9:=Tryz.zeroValue9
 t21:=Tryz.underlying21
 a21:=Tryz.isAgg21
 z21:=Tryz.sizeOf21
 v21:=Tryz.zeroValue21
 t46:=Tryz.underlying137
 a46:=Tryz.isAgg137
 z46:=Tryz.sizeOf137
 v46:=Tryz.zeroValue137 }
open Go.RowKit Go.Lib in
theorem Tryz.strings_IndexRune_ascii (s:ByteArray) (r:Int) (w:World) (h0:0<=r) (h1:r < 128) :
 Calls Tryz.prog 174 #[.string s,.int .i32 r] w fun e w'=>e=.returned (.int .i64 (Lib.indexByte s.data.toList r.toNat.toUInt8))/\w'=w:=Any.strings_IndexRune_ascii Tryz.lays152 s r w h0 h1
def Tryz.lays226_ren:Go.Shelf.Ren:=⟨fun | 226=>175 | n=>n,fun | 3=>3 | 4=>4 | n=>n,fun | n=>n⟩
theorem Tryz.lays226:Go.Proofs.Lays.n226 Tryz.prog Tryz.lays226_ren:={
 mixed:=by kernel_rfl
 f226:=Tryz.func175.trans (congrArg some (by kernel_rfl))
 t3:=Tryz.underlying3
 a3:=Tryz.isAgg3
 z3:=Tryz.sizeOf3
 v3:=Tryz.zeroValue3
 t4:=Tryz.underlying4
 a4:=Tryz.isAgg4
 z4:=Tryz.sizeOf4
 v4:=Tryz.zeroValue4 }
open Go.RowKit Go.Lib in
theorem Tryz.strings_shouldUseASCIISet (n:Int) (w:World) :
 Calls Tryz.prog 175 #[.int .i64 n] w fun e w'=>e=.returned (.bool (decide (8 < n)))/\w'=w:=Any.strings_shouldUseASCIISet Tryz.lays226 n w
def Tryz.lays153_ren:Go.Shelf.Ren:=⟨fun | 153=>132 | 152=>174 | 226=>175 | 227=>176 | 228=>177 | 137=>136 | 119=>213 | 224=>214 | 225=>215 | 217=>187 | 266=>220 | n=>n,fun | 9=>9 | 3=>3 | 4=>4 | 5=>5 | 21=>21 | 117=>201 | 116=>200 | 0=>0 | 46=>137 | 124=>238 | n=>n,fun | n=>n⟩
theorem Tryz.lays153:Go.Proofs.Lays.n153 Tryz.prog Tryz.lays153_ren:={
 mixed:=by kernel_rfl
 f119:=Tryz.func213.trans (congrArg some (by kernel_rfl))
 f137:=Tryz.func136.trans (congrArg some (by kernel_rfl))
 f152:=Tryz.func174.trans (congrArg some (by kernel_rfl))
 f153:=Tryz.func132.trans (congrArg some (by kernel_rfl))
 f217:=Tryz.func187.trans (congrArg some (by kernel_rfl))
 f224:=Tryz.func214.trans (congrArg some (by kernel_rfl))
 f225:=Tryz.func215.trans (congrArg some (by kernel_rfl))
 f226:=Tryz.func175.trans (congrArg some (by kernel_rfl))
 f227:=Tryz.func176.trans (congrArg some (by kernel_rfl))
 f228:=Tryz.func177.trans (congrArg some (by kernel_rfl))
 f266:=Tryz.func220.trans (congrArg some (by kernel_rfl))
 t0:=Tryz.underlying0
 a0:=Tryz.isAgg0
 z0:=Tryz.sizeOf0
 v0:=Tryz.zeroValue0
 t3:=Tryz.underlying3
 a3:=Tryz.isAgg3
 z3:=Tryz.sizeOf3
 v3:=Tryz.zeroValue3
 t4:=Tryz.underlying4
 a4:=Tryz.isAgg4
 z4:=Tryz.sizeOf4
 v4:=Tryz.zeroValue4
 t5:=Tryz.underlying5
 a5:=Tryz.isAgg5
 z5:=Tryz.sizeOf5
 v5:=Tryz.zeroValue5
 t9:=Tryz.underlying9
 a9:=Tryz.isAgg9
 z9:=Tryz.sizeOf9
 v9:=Tryz.zeroValue9
 t21:=Tryz.underlying21
 a21:=Tryz.isAgg21
 z21:=Tryz.sizeOf21
 v21:=Tryz.zeroValue21
 t46:=Tryz.underlying137
 a46:=Tryz.isAgg137
 z46:=Tryz.sizeOf137
 v46:=Tryz.zeroValue137
 t116:=Tryz.underlying200
 a116:=Tryz.isAgg200
 z116:=Tryz.sizeOf200
 t117:=Tryz.underlying201
 a117:=Tryz.isAgg201
 z117:=Tryz.sizeOf201
 v117:=Tryz.zeroValue201
 t124:=Tryz.underlying238
 a124:=Tryz.isAgg238
 z124:=Tryz.sizeOf238
 v124:=Tryz.zeroValue238 }
open Go.RowKit Go.Lib in
theorem Tryz.strings_IndexAny_long (hv116:∀ w,(zeroValue 200).run Tryz.prog w=.ok (.agg (Array.replicate 256 (.bool false))) w) (s chars:ByteArray) (w:World) (h2:2<=chars.size) (h8:8 < s.size) (hs:s.size < 4294967281) (hcs:chars.size < 4294967281) (hascii:∀ (j:Nat) b,chars.data.toList[j]?=some b->b.toNat < 128) :
 Calls Tryz.prog 132 #[.string s,.string chars] w fun e w'=>e=.returned (.int .i64 (Lib.indexAny s.data.toList chars.data.toList))/\w'=((w.alloc (.cells (Lib.setCells chars.data.toList) 200)).alloc (.cells (Lib.setCells chars.data.toList) 200)):=Any.strings_IndexAny_long Tryz.lays153 hv116 (by kernel_rfl) s chars w h2 h8 hs hcs hascii
open Go.RowKit Go.Lib in
theorem Tryz.utf8_DecodeRuneInString (s:ByteArray) (w:World) (hT:Lib.Utf8Tabs 0 1 w) :
 Calls Tryz.prog 179 #[.string s] w fun e w'=>e=.returned (.tuple #[.int .i32 (Lib.decodeGo s).1,.int .i64 (Lib.decodeGo s).2])/\Below w.heap.size w w':=Any.utf8_DecodeRuneInString Tryz.lays197 s w hT
def Tryz.lays7n29_ren:Go.Shelf.Ren:=⟨fun | 29=>248 | n=>n,fun | 22=>172 | 3=>3 | 4=>4 | 25=>137 | 54=>267 | 0=>0 | 5=>5 | n=>n,fun | 1=>7 | n=>n⟩
theorem Tryz.lays7n29:Go.Proofs.Lays7.n29 Tryz.prog Tryz.lays7n29_ren:={
 mixed:=by kernel_rfl
 f29:=Tryz.func248.trans (congrArg some (by kernel_rfl))
 t0:=Tryz.underlying0
 a0:=Tryz.isAgg0
 z0:=Tryz.sizeOf0
 v0:=Tryz.zeroValue0
 i0:=by kernel_rfl
 t3:=Tryz.underlying3
 a3:=Tryz.isAgg3
 z3:=Tryz.sizeOf3
 v3:=Tryz.zeroValue3
 i3:=by kernel_rfl
 t4:=Tryz.underlying4
 a4:=Tryz.isAgg4
 z4:=Tryz.sizeOf4
 v4:=Tryz.zeroValue4
 i4:=by kernel_rfl
 t5:=Tryz.underlying5
 a5:=Tryz.isAgg5
 z5:=Tryz.sizeOf5
 v5:=Tryz.zeroValue5
 i5:=by kernel_rfl
 t22:=Tryz.underlying172
 a22:=Tryz.isAgg172
 z22:=Tryz.sizeOf172
 v22:=Tryz.zeroValue172
 i22:=by kernel_rfl
 t25:=Tryz.underlying137
 a25:=Tryz.isAgg137
 z25:=Tryz.sizeOf137
 v25:=Tryz.zeroValue137
 i25:=by kernel_rfl
 t54:=Tryz.underlying267
 a54:=Tryz.isAgg267
 z54:=Tryz.sizeOf267
 g1:=by kernel_rfl }
def Tryz.lays242_ren:Go.Shelf.Ren:=⟨fun | 242=>219 | 278=>240 | n=>n,fun | 37=>178 | 21=>21 | 51=>170 | 4=>4 | 5=>5 | 46=>137 | n=>n,fun | n=>n⟩
theorem Tryz.lays242:Go.Proofs.Lays.n242 Tryz.prog Tryz.lays242_ren:={
 mixed:=by kernel_rfl
 f242:=Tryz.func219.trans (congrArg some (by kernel_rfl))
 f278:=Tryz.func240.trans (congrArg some (by kernel_rfl))
 t4:=Tryz.underlying4
 a4:=Tryz.isAgg4
 z4:=Tryz.sizeOf4
 v4:=Tryz.zeroValue4
 t5:=Tryz.underlying5
 a5:=Tryz.isAgg5
 z5:=Tryz.sizeOf5
 v5:=Tryz.zeroValue5
 t21:=Tryz.underlying21
 a21:=Tryz.isAgg21
 z21:=Tryz.sizeOf21
 v21:=Tryz.zeroValue21
 t37:=Tryz.underlying178
 a37:=Tryz.isAgg178
 z37:=Tryz.sizeOf178
 v37:=Tryz.zeroValue178
 t46:=Tryz.underlying137
 a46:=Tryz.isAgg137
 z46:=Tryz.sizeOf137
 v46:=Tryz.zeroValue137
 t51:=Tryz.underlying170
 a51:=Tryz.isAgg170
 z51:=Tryz.sizeOf170
 v51:=Tryz.zeroValue170 }
end Go.Proofs
namespace Go.Proofs
open Go.Shelf
def Tryz.laysNm216_ren:Go.Shelf.Ren:=⟨fun | 16=>93 | n=>n,fun | 24=>37 | 9=>9 | 4=>4 | n=>n,fun | n=>n⟩
theorem Tryz.laysNm216:Go.Proofs.Lays2.n16 Tryz.prog Tryz.laysNm216_ren:={
 mixed:=by kernel_rfl
 f16:=Tryz.func93.trans (congrArg some (by kernel_rfl))
 t4:=Tryz.underlying4
 a4:=Tryz.isAgg4
 z4:=Tryz.sizeOf4
 v4:=Tryz.zeroValue4
 t9:=Tryz.underlying9
 a9:=Tryz.isAgg9
 z9:=Tryz.sizeOf9
 v9:=Tryz.zeroValue9
 t24:=Tryz.underlying37
 a24:=Tryz.isAgg37
 z24:=Tryz.sizeOf37
 v24:=Tryz.zeroValue37
 i9:=by kernel_rfl }
open Go.RowKit Go.Lib in
theorem Tryz.slices_Clone_string (b off n c:Nat) (zs:List ByteArray) (w:World) (hz:n<=zs.length) (hbig:n * 16<=140737488355328) (hc:∀ j,j < zs.length->w.cell? ⟨b,off+j,none⟩=some (.string (zs.getD j ByteArray.empty))) :
 Calls Tryz.prog 93 #[.slice (some ⟨b,off,none⟩) n c] w fun e w'=>∃ v',e=.returned v'/\w'.ownsRow w.heap.size 9 1 v' n ((zs.take n).map (Value.string))/\v'≠.slice none 0 0/\Below w.heap.size w w':=Any.slices_Clone_string Tryz.laysNm216 b off n c zs w hz hbig hc
open Go.RowKit Go.Lib in
theorem Tryz.slices_Clone_string_nil (n c:Nat) (w:World) :
 Calls Tryz.prog 93 #[.slice none n c] w fun e w'=>e=.returned (.slice none 0 0)/\w'=w:=Any.slices_Clone_string_nil Tryz.laysNm216 n c w
open Go.RowKit Go.Lib in
theorem Tryz.slices_Clone_string_zero (a:Addr) (c:Nat) (w:World) :
 Calls Tryz.prog 93 #[.slice (some a) 0 c] w fun e w'=>∃ v',e=.returned v'/\w'.ownsRow w.heap.size 9 1 v' 0 []/\v'≠.slice none 0 0/\Below w.heap.size w w':=Any.slices_Clone_string_zero Tryz.laysNm216 a c w
def Tryz.lays196_ren:Go.Shelf.Ren:=⟨fun | 196=>119 | 259=>160 | n=>n,fun | 9=>9 | 4=>4 | 3=>3 | 5=>5 | 12=>12 | 119=>183 | 0=>0 | 46=>137 | 139=>186 | 138=>185 | 53=>172 | n=>n,fun | 3=>0 | 4=>1 | n=>n⟩
theorem Tryz.lays196:Go.Proofs.Lays.n196 Tryz.prog Tryz.lays196_ren:={
 mixed:=by kernel_rfl
 f196:=Tryz.func119.trans (congrArg some (by kernel_rfl))
 f259:=Tryz.func160.trans (congrArg some (by kernel_rfl))
 t0:=Tryz.underlying0
 a0:=Tryz.isAgg0
 z0:=Tryz.sizeOf0
 v0:=Tryz.zeroValue0
 t3:=Tryz.underlying3
 a3:=Tryz.isAgg3
 z3:=Tryz.sizeOf3
 v3:=Tryz.zeroValue3
 t4:=Tryz.underlying4
 a4:=Tryz.isAgg4
 z4:=Tryz.sizeOf4
 v4:=Tryz.zeroValue4
 t5:=Tryz.underlying5
 a5:=Tryz.isAgg5
 z5:=Tryz.sizeOf5
 v5:=Tryz.zeroValue5
 t9:=Tryz.underlying9
 a9:=Tryz.isAgg9
 z9:=Tryz.sizeOf9
 v9:=Tryz.zeroValue9
 t12:=Tryz.underlying12
 a12:=Tryz.isAgg12
 z12:=Tryz.sizeOf12
 v12:=Tryz.zeroValue12
 t46:=Tryz.underlying137
 a46:=Tryz.isAgg137
 z46:=Tryz.sizeOf137
 v46:=Tryz.zeroValue137
 t53:=Tryz.underlying172
 a53:=Tryz.isAgg172
 z53:=Tryz.sizeOf172
 v53:=Tryz.zeroValue172
 t119:=Tryz.underlying183
 a119:=Tryz.isAgg183
 z119:=Tryz.sizeOf183
 t138:=Tryz.underlying185
 a138:=Tryz.isAgg185
 z138:=Tryz.sizeOf185
 v138:=Tryz.zeroValue185
 t139:=Tryz.underlying186
 a139:=Tryz.isAgg186
 z139:=Tryz.sizeOf186
 v139:=Tryz.zeroValue186
 g3:=by kernel_rfl
 g4:=by kernel_rfl }
end Go.Proofs
namespace Go.Proofs.YtomhbcfjhgecbaaGreatDoor
open Go.RowKit Go.Sort Go.Lib
open Go.Lib (hid)
def OwnK (B:Nat) (w:World) (v:Value) (ks:List ByteArray):Prop:=w.ownsRow B 9 1 v ks.length (ks.map Value.string)
theorem own_lt {w:World} {B sz n:Nat} {e:TypeId} {v:Value} {xs:List Value} (h:w.ownsRow B e sz v n xs) {g:Nat} (hg:v.ownBlock=some g):B<=g/\g < w.heap.size:=by
 rcases h.2 with ⟨rfl,_⟩ | ⟨g',cap,cur,rfl,hb,hh,_⟩
 . cases hg
 . simp only [Value.ownBlock,Option.some.injEq] at hg
   subst hg;exact ⟨hb,lt_of_block hh⟩
theorem own_keep {w w':World} {B sz n:Nat} {e:TypeId} {v:Value} {xs:List Value} (h:w.ownsRow B e sz v n xs) (hk:∀ g,v.ownBlock=some g->w'.heap[g]?=w.heap[g]?):w'.ownsRow B e sz v n xs:=by
 refine ⟨h.1,?_⟩;rcases h.2 with h0 | ⟨g,cap,cur,rfl,hb,hh,r⟩
 . exact .inl h0
 . exact .inr ⟨g,cap,cur,rfl,hb,(hk g rfl).trans hh,r⟩
theorem own_base {w:World} {B B' sz n:Nat} {e:TypeId} {v:Value} {xs:List Value} (h:w.ownsRow B e sz v n xs) (hB:B'<=B):w.ownsRow B' e sz v n xs:=by
 refine ⟨h.1,?_⟩;rcases h.2 with h0 | ⟨g,cap,cur,rfl,hb,r⟩
 . exact .inl h0
 . exact .inr ⟨g,cap,cur,rfl,Nat.le_trans hB hb,r⟩
theorem ownK_sl {B:Nat} {w:World} {v:Value} {ks:List ByteArray} (h:OwnK B w v ks) (hs:∀ k∈ks,k.size<=maxLen):Sl StrR 1 w v ks:=by
 rcases h.2 with ⟨rfl,h0⟩ | ⟨g,cap,cur,rfl,hb,hg,hn,hc,hsz,ht⟩
 . have:ks=[]:=List.eq_nil_of_length_eq_zero h0
   subst this;exact ⟨none,0,rfl,by simp,by simp,fun i hi=>absurd hi (by simp)⟩
 . refine ⟨some ⟨g,0,none⟩,cap,rfl,hn,hc,fun i hi=>⟨g,0,[.string ks[i]],rfl,rfl,fun j u hj=>?_,rfl,hs _ (List.getElem_mem hi)⟩⟩
   cases j with
   | succ j=>simp at hj
   | zero =>
     simp only [List.getElem?_cons_zero,Option.some.injEq] at hj;subst hj;have h1:(ks.map Value.string)[i]?=some (.string ks[i]):=by simp [hi]
     rw [<-ht,List.getElem?_take,if_pos (by omega),Array.getElem?_toList] at h1;unfold World.cell?;simp only [hg,Nat.zero_add,Nat.mul_one,Nat.add_zero];simpa using h1
theorem clone_any (ks:List ByteArray) (r:Option Addr) (c:Nat) (w:World) (h:Sl StrR 1 w (.slice r ks.length c) ks) (hn:ks.length<=1000000) :
  Calls Tryz.prog 93 #[.slice r ks.length c] w fun e w'=>∃ v',e=.returned v'/\OwnK w.heap.size w' v' ks/\Below w.heap.size w w':=by
 cases r with
 | none =>
   have h0:ks=[]:=by
    cases ks with
    | nil=>rfl
    | cons k ks=>obtain ⟨_,_,hr,_⟩:=str_at h 0 (by simp);cases hr
   subst h0;exact (Tryz.slices_Clone_string_nil 0 c w).mono fun e w' ⟨he,hw⟩=>⟨_,he,⟨by simp,.inl ⟨rfl,rfl⟩⟩,by rw [hw];exact Below.refl _ _⟩
 | some a =>
   by_cases h0:ks=[]
   . subst h0
     exact (Tryz.slices_Clone_string_zero a c w).mono fun e w' ⟨v',he,ho,_,hb⟩=>⟨v',he,ho,hb⟩
   . have hpos:0 < ks.length:=List.length_pos_iff.2 h0
     obtain ⟨b,off,hr,_⟩:=str_at h 0 hpos;obtain rfl:a=⟨b,off,none⟩:=by simpa using hr
     refine (Tryz.slices_Clone_string b off ks.length c ks w (Nat.le_refl _) (by omega) (fun j hj=>?_)).mono fun e w' ⟨v',he,ho,_,hb⟩=>⟨v',he,?_,hb⟩
     . obtain ⟨b',off',hr',_,g0,_⟩:=str_at h j hj
       simp only [Option.some.injEq,Addr.mk.injEq,and_true] at hr';obtain ⟨rfl,rfl⟩:=hr';rw [g0,List.getD_eq_getElem?_getD,List.getElem?_eq_getElem hj];rfl
     . have:=ho
       rw [List.take_length] at this;exact this
theorem keepB_mk {B b:Nat} {v:Value} (h:B<=b) (h':v.ownBlock≠some b):keepB B v b=true:=by
 unfold keepB;rw [Bool.and_eq_true,decide_eq_true_eq,decide_eq_true_eq];exact ⟨h,h'⟩
theorem keepB_out {B b:Nat} {v:Value} (h:keepB B v b=true):B<=b/\v.ownBlock≠some b:=by
 unfold keepB at h;rw [Bool.and_eq_true,decide_eq_true_eq,decide_eq_true_eq] at h;exact h
structure CopX (B M:Nat) (w:World) (r:Option Addr) (c:Nat) (rk:Option Addr) (ck:Nat) (x:Val):Prop where
 le:B<=M
 items:OwnV M w (.slice r x.items.length c) x.items
 keys:OwnK B w (.slice rk x.keys.length ck) x.keys
 lt:∀ g,(Value.slice rk x.keys.length ck).ownBlock=some g->g < M
 bd:i64B x.kind/\i64B x.num/\x.str.size<=maxLen/\x.keys.length<=10000000000000/\x.items.length<=10000000000000/\∀ k∈x.keys,k.size<=maxLen
theorem own_mask {K:Nat->Bool} {w:World} {B sz n:Nat} {e:TypeId} {v:Value} {xs:List Value} (h:w.ownsRow B e sz v n xs) (hk:∀ g,v.ownBlock=some g->K g=true):(mask K w).ownsRow B e sz v n xs:=own_keep h fun g hg=>mask_heap (hk g hg)
theorem CopX.vk {B M:Nat} {w:World} {r:Option Addr} {c:Nat} {rk:Option Addr} {ck:Nat} {x:Val} (h:CopX B M w r c rk ck x):VK (fromB B) w r c rk ck x:=by
 obtain ⟨ys,hl,ho,hv⟩:=h.items.ex
 have hI:Sl VR 5 (mask (fromB B) w) (.slice r x.items.length c) x.items:=sl_of_rows hl (own_mask ho fun g hg=>by
  have:=(own_lt ho hg).1;have:=h.le
  simp only [fromB,decide_eq_true_eq];omega) hv (stays_keep fun b hk _=>⟨by
   have hk:=keepB_out hk;have:=h.le;simp only [fromB,decide_eq_true_eq];omega,rfl⟩)
 have hK:Sl StrR 1 (mask (fromB B) w) (.slice rk x.keys.length ck) x.keys:=ownK_sl (B:=B) (own_mask h.keys fun g hg=>by
  have:=(own_lt h.keys hg).1;simp only [fromB,decide_eq_true_eq];omega) h.bd.2.2.2.2.2
 exact VR.make hI hK h.bd.1 h.bd.2.1 h.bd.2.2.1 h.bd.2.2.2.1 h.bd.2.2.2.2.1
theorem OwnV.to {B:Nat} {w w':World} {v:Value} {is:List Val} (h:OwnV B w v is) (hk:∀ b,B<=b->b < w.heap.size->w'.heap[b]?=w.heap[b]?):OwnV B w' v is:=by
 obtain ⟨ys,hl,ho,hv⟩:=h.ex;refine ⟨ys,hl,own_keep ho fun g hg=>hk g (own_lt ho hg).1 (own_lt ho hg).2,fun i h1 h2=>vr_stays (stays_keep fun b hb hlt=>⟨hb,hk b ?_ hlt⟩) (hv i h1 h2)⟩;exact (keepB_out hb).1
def CopP (w:World) (x:Val) (e:Ending) (w':World):Prop:=∃ r c rk ck M,e=.returned (.agg #[.int .i64 x.kind,.int .i64 x.num,.string x.str,.slice r x.items.length c,.slice rk x.keys.length ck])/\CopX w.heap.size M w' r c rk ck x/\Below w.heap.size w w'
end Go.Proofs.YtomhbcfjhgecbaaGreatDoor
namespace Go.Proofs.YtomhbcfjhgecbaaGreatDoor.Stp
open Go.RowKit Go.Sort
def Lat (w w':World):Prop:=Below w.heap.size w w'
theorem Lat.refl (w:World):Lat w w:=Below.refl _ _
def Stb (R:World->Prop):Prop:=∀ w w',R w->Lat w w'->R w'
structure Spc where
 p:Value->Prop
 R:Value->World->Prop
def frUpon (P:Program) (w:World) (s:Spc):Result Next->Prop
 | .ok (.value u) w'=>Lat w w'/\s.p u/\s.R u w'
 | .ok .skip w'=>Lat w w'/\s.p undef/\s.R undef w'
 | .ok (.enter f args) w'=>w'=w/\Calls P f args w (fun e w''=>∃ u,e=.returned u/\Lat w w''/\s.p u/\s.R u w'')
 | _=>False
inductive Bef (md:Region.Mode) (ops:Array Oper):Nat->Nat->Prop
 | one {j k:Nat} {o:Oper} {e:Edge} : ops[k]?=some o->e∈o.after->Region.binds md e=true->e.on=j->Bef md ops j k
 | two {i j k:Nat} : Bef md ops i j->Bef md ops j k->Bef md ops i k
def updE (E:Nat->World->Prop) (k:Nat) (R:World->Prop):Nat->World->Prop:=fun j=>if j=k then R else E j
theorem updE_comm {E:Nat->World->Prop} {i j:Nat} {A B:World->Prop} (h:i≠j):updE (updE E i A) j B=updE (updE E j B) i A:=by
 funext k;unfold updE
 by_cases h1:k=j
 . subst h1;rw [if_pos rfl,if_neg (fun e=>h e.symm),if_pos rfl]
 . rw [if_neg h1]
   by_cases h2:k=i
   . rw [if_pos h2,if_pos h2]
   . rw [if_neg h2,if_neg h2,if_neg h1]
section
variable {P:Program} {ops:Array Oper} {md:Region.Mode} {C:World->Prop} {sp:Nat->Option Spc}
def pQ (P:Program) (C:World->Prop) (X:Sem Next) (u:Value):Prop:=∀ w,C w->Oper.quietUpon P C w u (X.run P w)
def noEnter (P:Program) (X:Sem Next):Prop:=∀ w f args w',X.run P w≠.ok (.enter f args) w'
def fSpec (P:Program) (md:Region.Mode) (ops:Array Oper) (C:World->Prop) (sp:Nat->Option Spc) (i:Nat) (o:Oper) (E:Nat->World->Prop) (a:Act):Prop:=
 Region.wanted o (yielded ops a.tmps)=true->match sp i with
  | none=>noEnter P (execOp a.eval o)/\∃ u,pQ P C (execOp a.eval o) u
  | some s=>(∃ u,s.p u)/\(∀ v,Stb (s.R v))/\∀ w,C w->(∀ j,Bef md ops j i->E j w)->frUpon P w s ((execOp a.eval o).run P w)
def fOut (P:Program) (ops:Array Oper) (C:World->Prop) (sp:Nat->Option Spc) (i:Nat) (o:Oper) (a:Act) (u:Value):Prop:=
 if Region.wanted o (yielded ops a.tmps)=true then (match sp i with | none=>pQ P C (execOp a.eval o) u | some s=>s.p u) else u=undef
def fFact (ops:Array Oper) (sp:Nat->Option Spc) (i:Nat) (o:Oper) (a:Act) (u:Value):World->Prop:=
 if Region.wanted o (yielded ops a.tmps)=true then (match sp i with | none=>fun _=>True | some s=>s.R u) else fun _=>True
def wpF (P:Program) (md:Region.Mode) (ops:Array Oper) (C:World->Prop) (sp:Nat->Option Spc) (Q:(Nat->World->Prop)->Act->Prop):List Oper->Nat->(Nat->World->Prop)->Act->Prop
 | [],_,E,a=>Q E a
 | o :: rest,k,E,a=>fSpec P md ops C sp k o E a/\∀ u,fOut P ops C sp k o a u->wpF P md ops C sp Q rest (k+1) (updE E k (fFact ops sp k o a u)) (a.put o.dst u)
def wpAnyF (P:Program) (md:Region.Mode) (ops:Array Oper) (C:World->Prop) (sp:Nat->Option Spc) (Q:(Nat->World->Prop)->Act->Prop):Nat->Array Bool->(Nat->World->Prop)->Act->Prop
 | 0,listed,E,a=>Region.ready md ops listed=[]/\Q E a
 | fuel+1,listed,E,a =>
   (Region.ready md ops listed=[]->Q E a) /\
   ∀ i∈Region.ready md ops listed,∀ o,ops[i]?=some o->fSpec P md ops C sp i o E a/\∀ u,fOut P ops C sp i o a u->wpAnyF P md ops C sp Q fuel (listed.setIfInBounds i true) (updE E i (fFact ops sp i o a u)) (a.put o.dst u)
theorem fSpec_put {j:Nat} {o:Oper} {E:Nat->World->Prop} {a:Act} {dst:Option Tmp} {v:Value} (hs:∀ cs b,o.op≠.select cs b) (h:∀ d,dst=some d->d ∉ o.looksAt ops):fSpec P md ops C sp j o E (a.put dst v) ↔ fSpec P md ops C sp j o E a:=by
 unfold fSpec;rw [wanted_put o a dst v h,execOp_put o hs a dst v h]
theorem fOut_put {j:Nat} {o:Oper} {a:Act} {dst:Option Tmp} {v u:Value} (hs:∀ cs b,o.op≠.select cs b) (h:∀ d,dst=some d->d ∉ o.looksAt ops):fOut P ops C sp j o (a.put dst v) u ↔ fOut P ops C sp j o a u:=by
 unfold fOut;rw [wanted_put o a dst v h,execOp_put o hs a dst v h]
theorem fFact_put {j:Nat} {o:Oper} {a:Act} {dst:Option Tmp} {v u:Value} (h:∀ d,dst=some d->d ∉ o.looksAt ops):fFact ops sp j o (a.put dst v) u=fFact ops sp j o a u:=by
 unfold fFact;rw [wanted_put o a dst v h]
theorem fSpec_upd {i j:Nat} {o:Oper} {E:Nat->World->Prop} {a:Act} {A:World->Prop} (h:¬ Bef md ops i j):fSpec P md ops C sp j o (updE E i A) a ↔ fSpec P md ops C sp j o E a:=by
 unfold fSpec
 have key:∀ w,(∀ k,Bef md ops k j->updE E i A k w) ↔ (∀ k,Bef md ops k j->E k w):=fun w=>by
  constructor
  . intro hh k hk
    have:=hh k hk;unfold updE at this
    rwa [if_neg (fun e=>h (by rw [<-e];exact hk))] at this
  . intro hh k hk
    unfold updE;rw [if_neg (fun e=>h (by rw [<-e];exact hk))];exact hh k hk
 cases sp j with
 | none=>exact Iff.rfl
 | some s=>simp only [key]
theorem fOut_ne {i:Nat} {o:Oper} {E:Nat->World->Prop} {a:Act} (h:fSpec P md ops C sp i o E a):∃ u,fOut P ops C sp i o a u:=by
 unfold fOut
 by_cases hw:Region.wanted o (yielded ops a.tmps)=true
 . have h1:=h hw
   simp only [hw,if_true];cases hs:sp i with
   | none=>rw [hs] at h1;exact h1.2
   | some s=>rw [hs] at h1;exact h1.1
 . exact ⟨undef,by rw [if_neg hw]⟩
def Dwn (md:Region.Mode) (ops:Array Oper) (listed:Array Bool):Prop:=∀ j k,Bef md ops j k->listed.getD k false=true->listed.getD j false=true
theorem bef_ready {listed:Array Bool} (hD:Dwn md ops listed) {i:Nat} (hr:i∈Region.ready md ops listed) {j:Nat} (hb:Bef md ops j i):listed.getD j false=true:=by
 induction hb with
 | one h1 h2 h3 h4 =>
   obtain ⟨_,o,ho,hall⟩:=mem_ready.1 hr;rw [ho] at h1;cases h1;subst h4;exact hall _ h2 h3
 | two h1 h2 _ ih2=>exact hD _ _ h1 (ih2 hr)
theorem not_listed {listed:Array Bool} {j:Nat} (h:listed.getD j true=false):listed.getD j false≠true:=fun e=>by
 rcases Nat.lt_or_ge j listed.size with h' | h'
 . simp [h'] at h e;rw [h] at e;cases e
 . simp [Array.getElem?_eq_none h'] at e
theorem Dwn.add {listed:Array Bool} (hD:Dwn md ops listed) {i:Nat} (hr:i∈Region.ready md ops listed):Dwn md ops (listed.setIfInBounds i true):=by
 intro j k hb hk
 by_cases e:i=k
 . subst e
   exact getD_set_true (bef_ready hD hr hb)
 . rw [getD_set_ne false e] at hk
   exact getD_set_true (hD j k hb hk)
theorem wpAnyF_first {Q:(Nat->World->Prop)->Act->Prop} {i:Nat} {oi:Oper} (hi:ops[i]?=some oi) (hsel:∀ (j:Nat) (o:Oper) cs b,ops[j]?=some o->o.op≠.select cs b) :
  ∀ (fuel:Nat) (listed:Array Bool) (E:Nat->World->Prop) (a:Act),
   (∀ j oj,ops[j]?=some oj->j≠i->listed.getD j true=false->(∀ e∈oj.after,Region.binds md e=true->e.on≠i)->oi.apart ops oj=true) ->
   Dwn md ops listed->i∈Region.ready md ops listed->fSpec P md ops C sp i oi E a ->
   (∀ u,fOut P ops C sp i oi a u->wpAnyF P md ops C sp Q fuel (listed.setIfInBounds i true) (updE E i (fFact ops sp i oi a u)) (a.put oi.dst u))->wpAnyF P md ops C sp Q (fuel+1) listed E a:=by
 intro fuel
 induction fuel with
 | zero =>
   intro listed E a _ _ hr hy H;refine ⟨fun h=>(by rw [h] at hr;cases hr),fun j hj oj hoj=>?_⟩
   by_cases hji:j=i
   . subst hji
     rw [hi] at hoj;cases hoj;exact ⟨hy,H⟩
   . obtain ⟨u,hu⟩:=fOut_ne hy
     have:=ready_mono hj hji;rw [(H u hu).1] at this;cases this
 | succ fuel ih =>
   intro listed E a hfree hD hr hy H;refine ⟨fun h=>(by rw [h] at hr;cases hr),fun j hj oj hoj=>?_⟩
   by_cases hji:j=i
   . subst hji
     rw [hi] at hoj;cases hoj;exact ⟨hy,H⟩
   . obtain ⟨hjun,oj',hoj',hall⟩:=mem_ready.1 hj
     rw [hoj] at hoj';cases hoj';have hiun:=(mem_ready.1 hr).1
     have hnot:∀ e∈oj.after,Region.binds md e=true->e.on≠i:=fun e he hb heq=>by
      have h1:=hall e he hb;rw [heq] at h1;exact not_listed hiun h1
     obtain ⟨h1,h2,h3⟩:=Oper.apart_spec (hfree j oj hoj hji hjun hnot);have hsi:=fun cs b=>hsel i oi cs b hi;have hsj:=fun cs b=>hsel j oj cs b hoj;have nbij:¬ Bef md ops i j:=fun hb=>not_listed hiun (bef_ready hD hj hb);have nbji:¬ Bef md ops j i:=fun hb=>not_listed hjun (bef_ready hD hr hb);obtain ⟨u0,hu0⟩:=fOut_ne hy;have hj0:=(H u0 hu0).2 j (ready_mono hj hji) oj hoj;have hsp:=(fSpec_upd nbij).1 ((fSpec_put hsj h1).1 hj0.1);refine ⟨hsp,fun uj huj=>?_⟩
     have hfree':∀ k ok,ops[k]?=some ok->k≠i->(listed.setIfInBounds j true).getD k true=false ->
       (∀ e∈ok.after,Region.binds md e=true->e.on≠i)->oi.apart ops ok=true:=fun k ok hk hki hun hno=>by
      refine hfree k ok hk hki ?_ hno
      by_cases hjk:j=k
      . subst hjk;exact hjun
      . rw [getD_set_ne true hjk] at hun;exact hun
     refine ih (listed.setIfInBounds j true) (updE E j (fFact ops sp j oj a uj)) (a.put oj.dst uj) hfree' (hD.add hj) (ready_mono hr (Ne.symm hji)) ((fSpec_put hsi h3).2 ((fSpec_upd nbji).2 hy)) fun ui hui=>?_;rw [fOut_put hsi h3] at hui;have hj1:=((H ui hui).2 j (ready_mono hj hji) oj hoj).2 uj ((fOut_put hsj h1).2 huj);rw [fFact_put h1,updE_comm (Ne.symm hji)] at hj1;rw [fFact_put h3,Array.setIfInBounds_comm _ _ hji,Act.put_comm a uj ui (fun d hd=>fun hd2=>h2 d hd2 hd)];exact hj1
theorem wpAnyF_lex {Q:(Nat->World->Prop)->Act->Prop} (hs:Region.noSelect ops=true):∀ (l:List Oper) (k:Nat) (listed:Array Bool) (E:Nat->World->Prop) (a:Act),(∀ j,l[j]?=ops[k+j]?) ->
  Region.lexFrom md ops l.length k listed=true->Dwn md ops listed->wpF P md ops C sp Q l k E a->wpAnyF P md ops C sp Q l.length listed E a
 | [],_,_,_,_,_,hB,_,h=>⟨by simpa [Region.lexFrom] using hB,h⟩
 | o :: l,k,listed,E,a,hl,hB,hD,h=>by
   have h0:ops[k]?=some o:=by simpa using (hl 0).symm
   simp only [List.length_cons,Region.lexFrom,Bool.and_eq_true] at hB;obtain ⟨⟨hr,hf⟩,hB'⟩:=hB;have hr':k∈Region.ready md ops listed:=by simpa using hr
   exact wpAnyF_first h0 (Region.noSelect_spec hs) l.length listed E a (Region.free_spec h0 hf) hD hr' h.1 fun u hu =>
    wpAnyF_lex hs l (k+1) _ _ _ (fun j=>by have:=hl (j+1);simpa [Nat.add_assoc,Nat.add_comm 1 j] using this) hB' (hD.add hr') (h.2 u hu)
theorem run_told {i:Nat} {o:Oper} {E:Nat->World->Prop} {a:Act} {w:World} {K:Act->World->Prop} {Q':Exit->Act->World->Prop} (hw:C w) (h1:fSpec P md ops C sp i o E a) (hE:∀ j,E j w)
  (key:∀ u w',fOut P ops C sp i o a u->Lat w w'->(∀ v,Stb (fFact ops sp i o a v))->fFact ops sp i o a u w'->K (a.put o.dst u) w') :
  if Region.wanted o (yielded ops a.tmps)=true then o.wp P a w K Q' ∨ (o.asks P a w/\LetsOut Q') else K (a.put o.dst undef) w:=by
 by_cases hwt:Region.wanted o (yielded ops a.tmps)=true
 . rw [if_pos hwt]
   refine Or.inl ?_;have h3:=h1 hwt;unfold fOut fFact at key;simp only [hwt,if_true] at key;unfold Oper.wp;cases hs:sp i with
   | none =>
     rw [hs] at h3 key;simp only at h3 key;obtain ⟨hne,u,hu⟩:=h3;have hst:∀ v:Value,Stb (fun _=>True):=fun _ _ _ _ _=>trivial;have hrn:=hu w hw;have hkk:=key u w hu (Lat.refl w) hst trivial;generalize hr:(execOp a.eval o).run P w=r at *;cases r with
     | ok n w' =>
       cases n <;> simp only [Oper.quietUpon] at hrn <;> simp only [Oper.upon]
       case value u' =>
        obtain ⟨e1,e2⟩:=hrn;rw [e1,e2];exact hkk
       case skip =>
        obtain ⟨e1,e2⟩:=hrn;rw [e1,<-e2];exact hkk
       case enter f args=>exact absurd hr (hne w f args w')
     | halt x w'=>simp only [Oper.quietUpon] at hrn
   | some s =>
     rw [hs] at h3 key;simp only at h3 key;have hrn:=h3.2.2 w hw (fun j _=>hE j);have key2:=fun u w' h4 h5 h6=>key u w' h4 h5 h3.2.1 h6;clear key;generalize hr:(execOp a.eval o).run P w=r at *;cases r with
     | ok n w' =>
       cases n <;> simp only [frUpon] at hrn <;> simp only [Oper.upon]
       case value u'=>exact key2 u' w' hrn.2.1 hrn.1 hrn.2.2
       case skip=>exact key2 undef w' hrn.2.1 hrn.1 hrn.2.2
       case enter f args =>
        obtain ⟨e1,hc⟩:=hrn;rw [e1];exact hc.mono fun e w'' ⟨u,he,hl,hp,hR⟩=>by subst he;exact key2 u w'' hp hl hR
     | halt x w'=>simp only [frUpon] at hrn
 . rw [if_neg hwt]
   unfold fOut fFact at key;simp only [hwt] at key;exact key undef w (by simp) (Lat.refl w) (fun _ _ _ _ _=>trivial) trivial
theorem wpAny_of_F {Q:(Nat->World->Prop)->Act->Prop} {Q':Exit->Act->World->Prop} (hCl:∀ w w',C w->Lat w w'->C w') (hQ:∀ E a w,C w->(∀ j,E j w)->Q E a->Q' .normal a w):∀ (fuel:Nat) (listed:Array Bool) (E:Nat->World->Prop) (a:Act) (w:World),C w->(∀ j,E j w)->(∀ j,Stb (E j)) ->
  wpAnyF P md ops C sp Q fuel listed E a->wpAny P md ops Q' fuel listed a w
 | 0,_,_,_,_,hw,hE,_,h=>⟨h.1,hQ _ _ _ hw hE h.2⟩
 | fuel+1,listed,E,a,w,hw,hE,hS,h=>by
   refine ⟨fun h0=>hQ _ _ _ hw hE (h.1 h0),fun i hi=>?_⟩;obtain ⟨_,o,ho,_⟩:=mem_ready.1 hi;obtain ⟨h1,h2⟩:=h.2 i hi o ho
   have key:∀ u w',fOut P ops C sp i o a u->Lat w w'->(∀ v,Stb (fFact ops sp i o a v))->fFact ops sp i o a u w'->wpAny P md ops Q' fuel (listed.setIfInBounds i true) (a.put o.dst u) w':=fun u w' hu hl hst hf=>by
    refine wpAny_of_F hCl hQ fuel _ _ _ _ (hCl _ _ hw hl) (fun j=>?_) (fun j=>?_) (h2 u hu)
    . unfold updE
      split
      . exact hf
      . exact hS j _ _ (hE j) hl
    . unfold updE
      split
      . exact hst u
      . exact hS j
   unfold wpOp;rw [ho];simp only;exact run_told hw h1 hE key
theorem wanted_snoc {l:List Oper} {o x:Oper} {t:Array Value} (hg:∀ g b,x.guard=some (g,b)->g < l.length):Region.wanted x (yielded (l ++ [o]).toArray t)=Region.wanted x (yielded l.toArray t):=by
 unfold Region.wanted;cases hx:x.guard with
 | none=>rfl
 | some gw =>
   obtain ⟨g,b⟩:=gw;have hlt:=hg g b hx
   have:yielded (l ++ [o]).toArray t g=yielded l.toArray t g:=by
    unfold yielded;simp [List.getElem?_append_left hlt]
   simp only [this]
theorem getD_push {listed:Array Bool} {i:Nat} {d:Bool} : (listed.push false).getD i d=if i < listed.size then listed.getD i d else if i=listed.size then false else d:=by
 rcases Nat.lt_trichotomy i listed.size with h | h | h
 . simp [Array.getElem?_push,h,Nat.ne_of_lt h]
 . subst h;simp [Array.getElem?_push]
 . have h1:¬ i < listed.size:=by omega
   have h2:¬ i=listed.size:=by omega
   rw [if_neg h1,if_neg h2];simp [Array.getElem?_push,h2,Array.getElem?_eq_none (show listed.size<=i by omega)]
theorem set_push {listed:Array Bool} {i:Nat} (h:i < listed.size):(listed.push false).setIfInBounds i true=(listed.setIfInBounds i true).push false:=by
 apply Array.ext_getElem?;intro k;simp only [Array.getElem?_setIfInBounds,Array.getElem?_push,Array.size_push,Array.size_setIfInBounds]
 by_cases hk:i=k
 . subst hk
   simp [h,Nat.ne_of_lt h];omega
 . simp [hk]
theorem all_listed {l:List Oper} {listed:Array Bool} (hs:listed.size=l.length) (hac:∀ (i:Nat) (x:Oper),l[i]?=some x->∀ e∈x.after,e.on < i) (hr:Region.ready md l.toArray listed=[]):∀ i,i < l.length->listed.getD i false=true:=by
 intro i
 induction i using Nat.strongRecOn with
 | _ i ih =>
   intro hi;refine Classical.byContradiction fun hn=>?_
   have h0:listed.getD i true=false:=by
    have hlt:i < listed.size:=by omega
    simp [hlt] at hn ⊢;exact hn
   have:i∈Region.ready md l.toArray listed:=mem_ready.2 ⟨h0,l[i],by simp [hi],fun e he _=>by
    have:=hac i l[i] (by simp [hi]) e he;exact ih e.on this (by omega)⟩
   rw [hr] at this;cases this
theorem wpAny_done {Q':Exit->Act->World->Prop} {listed:Array Bool} {a:Act} {w:World} (hr:Region.ready md ops listed=[]) (h:Q' .normal a w):∀ m,wpAny P md ops Q' m listed a w
 | 0=>⟨hr,h⟩
 | m+1=>⟨fun _=>h,fun i hi=>by rw [hr] at hi;cases hi⟩
theorem wpAny_of_last {l:List Oper} {o:Oper} {Q:(Nat->World->Prop)->Act->Prop} {Q':Exit->Act->World->Prop} (hCl:∀ w w',C w->Lat w w'->C w') (hog:o.guard=none)
  (hQ:∀ E a w,C w->(∀ j,E j w)->Q E a->o.wp P a w (fun a w=>Q' .normal a w) Q')
  (hac:∀ (i:Nat) (x:Oper),l[i]?=some x->∀ e∈x.after,e.on < i) (hgd:∀ (i:Nat) (x:Oper),l[i]?=some x->∀ g b,x.guard=some (g,b)->g < l.length) (hon:∀ e∈o.after,e.on < l.length)
  (hall:∀ j,j < l.length->Bef md (l ++ [o]).toArray j l.length) :
  ∀ (m:Nat) (listed:Array Bool) (E:Nat->World->Prop) (a:Act) (w:World),listed.size=l.length->Dwn md (l ++ [o]).toArray (listed.push false)->C w->(∀ j,E j w)->(∀ j,Stb (E j)) ->
   wpAnyF P md l.toArray C sp Q m listed E a->wpAny P md (l ++ [o]).toArray Q' (m+1) (listed.push false) a w:=by
 have endc:∀ (m:Nat) (listed:Array Bool) (E:Nat->World->Prop) (a:Act) (w:World),listed.size=l.length->C w->(∀ j,E j w)->Region.ready md l.toArray listed=[]->Q E a->wpAny P md (l ++ [o]).toArray Q' (m+1) (listed.push false) a w:=by
  intro m listed E a w hs hw hE hr hq;have hl:=all_listed hs hac hr
  have hlt:∀ i,i < l.length->listed.getD i true=true:=fun i hi=>by
   have h1:=hl i hi;have h2:i < listed.size:=by omega
   simp [h2] at h1 ⊢;exact h1
  have hmem:l.length∈Region.ready md (l ++ [o]).toArray (listed.push false):=mem_ready.2 ⟨by rw [getD_push,if_neg (by omega),if_pos hs.symm],o,by simp,fun e he _=>by
   have:=hon e he;rw [getD_push,if_pos (by omega)];exact hl _ this⟩
  have hnone:∀ i,i∈Region.ready md (l ++ [o]).toArray (listed.push false)->i=l.length:=fun i hi=>by
   obtain ⟨h0,x,hx,_⟩:=mem_ready.1 hi;refine Classical.byContradiction fun hne=>?_
   have h1:i < l.length:=by
    have:=(Array.getElem?_eq_some_iff.1 hx).1;simp at this;omega
   rw [getD_push,if_pos (by omega),hlt i h1] at h0;cases h0
  have hdone:Region.ready md (l ++ [o]).toArray ((listed.push false).setIfInBounds l.length true)=[]:=by
   refine List.eq_nil_iff_forall_not_mem.2 fun i hi=>?_;obtain ⟨h0,x,hx,hall2⟩:=mem_ready.1 hi
   by_cases e:l.length=i
   . subst e
     simp [hs] at h0
   . rw [getD_set_ne true e] at h0
     have h1:i < l.length:=by
      have:=(Array.getElem?_eq_some_iff.1 hx).1;simp at this;omega
     rw [getD_push,if_pos (by omega),hlt i h1] at h0;cases h0
  refine ⟨fun h=>(by rw [h] at hmem;cases hmem),fun i hi=>?_⟩;obtain rfl:=hnone i hi;unfold wpOp;have hget:((l ++ [o]).toArray)[l.length]?=some o:=by simp
  rw [hget];simp only;have hwt:Region.wanted o (yielded (l ++ [o]).toArray a.tmps)=true:=by unfold Region.wanted;rw [hog]
  rw [if_pos hwt];exact Or.inl (Oper.wp_mono (fun a' w' h=>wpAny_done hdone h m) (hQ E a w hw hE hq))
 intro m
 induction m with
 | zero =>
   intro listed E a w hs hD hw hE hS h;exact endc 0 listed E a w hs hw hE h.1 h.2
 | succ m ih =>
   intro listed E a w hs hD hw hE hS h
   by_cases hr:Region.ready md l.toArray listed=[]
   . exact endc (m+1) listed E a w hs hw hE hr (h.1 hr)
   obtain ⟨i0,hi0⟩:=List.exists_mem_of_ne_nil _ hr
   have hsub:∀ i,i∈Region.ready md l.toArray listed->i < l.length/\i∈Region.ready md (l ++ [o]).toArray (listed.push false):=fun i hi=>by
    obtain ⟨h0,x,hx,hall2⟩:=mem_ready.1 hi
    have h1:i < l.length:=by
     have:=(Array.getElem?_eq_some_iff.1 hx).1;simpa using this
    refine ⟨h1,mem_ready.2 ⟨by rw [getD_push,if_pos (by omega)];exact h0,x,by rw [<-hx];simp [List.getElem?_append_left h1],fun e he hb=>?_⟩⟩;have:=hall2 e he hb;have h3:=hac i x (by simpa using hx) e he;rw [getD_push,if_pos (by omega)];exact this
   have hlast:∀ i,i∈Region.ready md (l ++ [o]).toArray (listed.push false)->i∈Region.ready md l.toArray listed:=fun i hi=>by
    obtain ⟨h0,x,hx,hall2⟩:=mem_ready.1 hi
    by_cases h1:i < l.length
    . rw [getD_push,if_pos (by omega)] at h0
      have hx':l.toArray[i]?=some x:=by rw [<-hx];simp [List.getElem?_append_left h1]
      refine mem_ready.2 ⟨h0,x,hx',fun e he hb=>?_⟩;have:=hall2 e he hb;have h3:=hac i x (by simpa using hx') e he;rw [getD_push,if_pos (by omega)] at this;exact this
    . have h2:i=l.length:=by
       have:=(Array.getElem?_eq_some_iff.1 hx).1;simp at this;omega
      subst h2;have h4:=bef_ready hD hi (hall i0 (hsub i0 hi0).1);rw [getD_push,if_pos (by have:=(hsub i0 hi0).1;omega)] at h4;exact absurd h4 (not_listed (mem_ready.1 hi0).1)
   refine ⟨fun h0=>(by have:=(hsub i0 hi0).2;rw [h0] at this;cases this),fun i hi=>?_⟩;have hi':=hlast i hi;have hin:=(hsub i hi').1;obtain ⟨_,x,hx,_⟩:=mem_ready.1 hi';obtain ⟨h1,h2⟩:=h.2 i hi' x hx;have hDn:=hD.add hi;rw [set_push (by omega)] at hDn ⊢
   have key:∀ u w',fOut P l.toArray C sp i x a u->Lat w w'->(∀ v,Stb (fFact l.toArray sp i x a v))->fFact l.toArray sp i x a u w'->wpAny P md (l ++ [o]).toArray Q' (m+1) ((listed.setIfInBounds i true).push false) (a.put x.dst u) w':=fun u w' hu hl hst hf=>by
    refine ih _ _ _ _ (by simpa using hs) hDn (hCl _ _ hw hl) (fun j=>?_) (fun j=>?_) (h2 u hu)
    . unfold updE
      split
      . exact hf
      . exact hS j _ _ (hE j) hl
    . unfold updE
      split
      . exact hst u
      . exact hS j
   have hx1:(l ++ [o]).toArray[i]?=some x:=by rw [<-hx];simp [List.getElem?_append_left hin]
   unfold wpOp;rw [hx1];simp only;rw [wanted_snoc (hgd i x (by simpa using hx))];exact run_told hw h1 hE key
end
def Grw (W w':World):Prop:=∃ p:Regrown,w'=grow (redrawn W p.d) p.os
theorem grw_lat {W w w':World} (h:Grw W w) (hl:Lat w w'):Grw W w':=by
 obtain ⟨p,rfl⟩:=h;have h1:=below_regrown W p.d p.os;exact regrown_of_below (Below.trans h1 (Below.mono hl h1.size))
theorem grw_below {W w:World} (h:Grw W w):Below W.heap.size W w:=by obtain ⟨p,rfl⟩:=h;exact below_regrown W p.d p.os
theorem wp_region_fresh {P:Program} {id:Nat} {Q:Exit->Act->World->Prop} {a:Act} {w:World} {l:List Oper} (sp:Nat->Option Spc) (hm:P.follows .mixedOrders=true) (hB:Region.lexB .any l.toArray=true)
  (h:wpF P .any l.toArray (fun w'=>∃ p:Regrown,w'=grow (redrawn w p.d) p.os) sp (fun E a'=>∀ w',Grw w w'->(∀ j,E j w')->Q .normal a' w') l 0 (fun _ _=>True) a):(Code.region id l.toArray true).wp P Q a w:=by
 simp only [Region.lexB,Bool.and_eq_true] at hB;refine wp_region_any hm (wpAny_of_F (Q:=fun E a'=>∀ w',Grw w w'->(∀ j,E j w')->Q .normal a' w') (C:=fun w'=>∃ p:Regrown,w'=grow (redrawn w p.d) p.os) (sp:=sp) (fun w1 w2 h1 h2=>grw_lat h1 h2) (fun E a w' hw' hE h=>h w' hw' hE) _ _ (fun _ _=>True) _ _ ⟨⟨w.drawn+1,#[]⟩,by rw [grow_empty];rfl⟩ (fun _=>trivial) (fun _ _ _ _ _=>trivial) ?_)
 have hD:Dwn .any l.toArray (Array.replicate l.toArray.size false):=fun j k _ hk=>by
  exfalso;unfold Array.getD at hk;split at hk <;> simp at hk
 have:=wpAnyF_lex (P:=P) (md:=.any) hB.1 l 0 (Array.replicate l.toArray.size false) (fun _ _=>True) a (by simp) (by simpa using hB.2) hD h;simpa using this
section
variable {P:Program} {ops:Array Oper} {C:World->Prop} {sp:Nat->Option Spc} {Q:(Nat->World->Prop)->Act->Prop} {o:Oper} {rest:List Oper} {k:Nat} {E:Nat->World->Prop} {a:Act}
theorem wpF_nil (h:Q E a):wpF P .any ops C sp Q [] k E a:=h
theorem wpF_skip (hw:Region.wanted o (yielded ops a.tmps)=false) (h:wpF P .any ops C sp Q rest (k+1) (updE E k (fun _=>True)) (a.put o.dst undef)):wpF P .any ops C sp Q (o :: rest) k E a:=by
 refine ⟨fun h'=>absurd (hw.symm.trans h') (by simp),fun u hu=>?_⟩;unfold fOut at hu;unfold fFact;simp only [hw] at hu ⊢;have:u=undef:=by simpa using hu
 subst this;simpa using h
theorem quiet_uniq {w:World} {X:Sem Next} {u v:Value} (hne:noEnter P X) (h1:Oper.quietUpon P C w u (X.run P w)) (h2:Oper.quietUpon P C w v (X.run P w)):u=v:=by
 generalize hr:X.run P w=r at *;cases r with
 | ok n w' =>
   cases n <;> simp only [Oper.quietUpon] at h1 h2
   case value u'=>rw [<-h1.2,<-h2.2]
   case skip=>rw [h1.2,h2.2]
   case enter f args=>exact absurd hr (hne w f args w')
 | halt x w'=>simp only [Oper.quietUpon] at h1
theorem wpF_quiet (hC:∃ w,C w) (hw:Region.wanted o (yielded ops a.tmps)=true) (hsp:sp k=none) (hne:noEnter P (execOp a.eval o))
  (h:∀ K:Act->Prop,(∀ a',wpF P .any ops C sp Q rest (k+1) (updE E k (fun _=>True)) a'->K a')->o.quiet P a C K):wpF P .any ops C sp Q (o :: rest) k E a:=by
 obtain ⟨v,hv,hn⟩:=h _ (fun _ h=>h);refine ⟨fun _=>?_,fun u hu=>?_⟩
 . rw [hsp];exact ⟨hne,v,hv⟩
 . unfold fOut at hu
   unfold fFact;simp only [hw,if_true,hsp] at hu ⊢;obtain ⟨w,hCw⟩:=hC;have:u=v:=quiet_uniq hne (hu w hCw) (hv w hCw);subst this;exact hn
theorem wpF_put (h:∀ K:Act->Prop,(∀ a',wpF P .any ops C sp Q rest k E a'->K a')->K a):wpF P .any ops C sp Q rest k E a:=h _ (fun _ h=>h)
theorem wpF_told (s:Spc) (hw:Region.wanted o (yielded ops a.tmps)=true) (hsp:sp k=some s) (hp:∃ u,s.p u) (hR:∀ v,Stb (s.R v))
  (hs:∀ w,C w->(∀ j,Bef .any ops j k->E j w)->frUpon P w s ((execOp a.eval o).run P w))
  (h:∀ u,s.p u->wpF P .any ops C sp Q rest (k+1) (updE E k (s.R u)) (a.put o.dst u)):wpF P .any ops C sp Q (o :: rest) k E a:=by
 refine ⟨fun _=>?_,fun u hu=>?_⟩
 . rw [hsp];exact ⟨hp,hR,hs⟩
 . unfold fOut at hu
   unfold fFact;simp only [hw,if_true,hsp] at hu ⊢;exact h u hu
end
def backB (l:List Oper) (n:Nat):Bool:=l.zipIdx.all fun x=>x.1.after.all (fun e=>decide (e.on < x.2)) && (match x.1.guard with | some (g,_)=>decide (g < n) | none=>true)
theorem backB_spec {l:List Oper} {n:Nat} (h:backB l n=true):∀ (i:Nat) (x:Oper),l[i]?=some x->(∀ e∈x.after,e.on < i)/\∀ g b,x.guard=some (g,b)->g < n:=by
 intro i x hx;unfold backB at h;rw [List.all_eq_true] at h;have h1:=h (x,i) (by rw [List.mem_zipIdx_iff_getElem?];exact hx);rw [Bool.and_eq_true] at h1;refine ⟨fun e he=>?_,fun g b hg=>?_⟩
 . have:=Array.all_eq_true_iff_forall_mem.1 h1.1 e he
   simpa using this
 . have:=h1.2
   rw [hg] at this;simpa using this
def befB (md:Region.Mode) (ops:Array Oper):Nat->Nat->Nat->Bool
 | 0,_,_=>false
 | f+1,j,k=>match ops[k]? with
   | none=>false
   | some o=>o.after.any fun e=>Region.binds md e && (e.on == j || befB md ops f j e.on)
theorem befB_spec {md:Region.Mode} {ops:Array Oper} {j:Nat} : ∀ (f k:Nat),befB md ops f j k=true->Bef md ops j k
 | 0,_,h=>by cases h
 | f+1,k,h=>by
   unfold befB at h;cases hk:ops[k]? with
   | none=>rw [hk] at h;cases h
   | some o =>
     rw [hk] at h;simp only at h;obtain ⟨ix,hix,h2⟩:=Array.any_eq_true.1 h;have he:=Array.getElem_mem hix;generalize o.after[ix]=e at *;rw [Bool.and_eq_true,Bool.or_eq_true] at h2;rcases h2.2 with h3 | h3
     . exact .one hk he h2.1 (by simpa using h3)
     . exact .two (befB_spec f _ h3) (.one hk he h2.1 rfl)
def endB (l:List Oper) (o:Oper):Bool:=backB l l.length && o.guard.isNone && o.after.all (fun e=>decide (e.on < l.length)) && (List.range l.length).all fun j=>befB .any (l ++ [o]).toArray (l.length+1) j l.length
theorem wp_region_last {P:Program} {id:Nat} {Q:Exit->Act->World->Prop} {a:Act} {w:World} {l ops:List Oper} {o:Oper} (sp:Nat->Option Spc) (ho:ops=l ++ [o]) (hm:P.follows .mixedOrders=true) (hB:Region.lexB .any l.toArray=true) (hL:endB l o=true)
  (h:wpF P .any l.toArray (fun w'=>∃ p:Regrown,w'=grow (redrawn w p.d) p.os) sp (fun E a'=>∀ w',Grw w w'->(∀ j,E j w')->o.wp P a' w' (fun a2 w2=>Q .normal a2 w2) Q) l 0 (fun _ _=>True) a):(Code.region id ops.toArray true).wp P Q a w:=by
 subst ho;simp only [Region.lexB,Bool.and_eq_true] at hB;unfold endB at hL;simp only [Bool.and_eq_true] at hL;obtain ⟨⟨⟨hL1,hL2⟩,hL3⟩,hL4⟩:=hL;have hb:=backB_spec hL1
 have hall:∀ j,j < l.length->Bef .any (l ++ [o]).toArray j l.length:=fun j hj=>befB_spec _ _ (by
  rw [List.all_eq_true] at hL4;exact hL4 j (List.mem_range.2 hj))
 have hon:∀ e∈o.after,e.on < l.length:=fun e he=>by
  have:=Array.all_eq_true_iff_forall_mem.1 hL3 e he;simpa using this
 have hD:∀ n,Dwn .any l.toArray (Array.replicate n false):=fun n j k _ hk=>by
  exfalso;unfold Array.getD at hk;split at hk <;> simp at hk
 have hD2:Dwn .any (l ++ [o]).toArray ((Array.replicate l.length false).push false):=fun j k _ hk=>by
  exfalso;rw [getD_push] at hk
  by_cases h1:k < (Array.replicate l.length false).size
  . rw [if_pos h1] at hk
    unfold Array.getD at hk;split at hk <;> simp at hk
  . rw [if_neg h1] at hk
    split at hk <;> cases hk
 refine wp_region_any hm ?_;have hF:=wpAnyF_lex (P:=P) (md:=.any) hB.1 l 0 (Array.replicate l.toArray.size false) (fun _ _=>True) a (by simp) (by simpa using hB.2) (hD _) h
 have:=wpAny_of_last (P:=P) (md:=.any) (l:=l) (o:=o) (Q:=fun E a'=>∀ w',Grw w w'->(∀ j,E j w')->o.wp P a' w' (fun a2 w2=>Q .normal a2 w2) Q) (Q':=Q) (C:=fun w'=>∃ p:Regrown,w'=grow (redrawn w p.d) p.os) (sp:=sp) (fun w1 w2 h1 h2=>grw_lat h1 h2) (by simpa using hL2) (fun E a w' hw' hE h=>h w' hw' hE) (fun i x hx=>(hb i x hx).1) (fun i x hx=>(hb i x hx).2) hon hall
  l.length (Array.replicate l.length false) (fun _ _=>True) a { w with drawn:=w.drawn+1 } (by simp) hD2 ⟨⟨w.drawn+1,#[]⟩,by rw [grow_empty];rfl⟩ (fun _=>trivial) (fun _ _ _ _ _=>trivial) (by simpa using hF)
 rw [<-Array.replicate_succ] at this;simpa using this
theorem grw_ex (w:World):∃ w',∃ p:Regrown,w'=grow (redrawn w p.d) p.os:=⟨_,⟨0,#[]⟩,rfl⟩
theorem ne_bind {α:Type} {P:Program} {w:World} {s:Sem α} {f:α->Sem Next} {X:Result Next} (hX:∀ h w',X≠.halt h w') (h1:∀ a w',(f a).run P w'≠X):(s >>= f).run P w≠X:=by
 rw [Sem.run_bind];cases s.run P w with
 | ok a w'=>exact h1 a w'
 | halt h w'=>exact fun e=>hX h w' e.symm
def isCall (o:Oper):Bool:=match o.op with | .call _=>true | .nilCheck _=>true | .recv _ _ _=>true | _=>false
theorem noEnter_op {P:Program} {ρ:Operand->Value} {o:Oper} (h:isCall o=false):noEnter P (execOp ρ o):=by
 intro w f args w';unfold isCall at h;unfold execOp;have hX:∀ h w1,(Result.ok (Next.enter f args) w':Result Next)≠.halt h w1:=fun h w1 e=>by cases e
 cases ho:o.op <;> rw [ho] at h <;> simp only at h ⊢
 all_goals first
  | (cases h;done)
  | (rw [Sem.run_pure];intro e;cases e;done)
  | (refine ne_bind hX fun a w1=>?_;rw [Sem.run_pure];intro e;cases e;done)
  | (refine ne_bind hX fun a w1=>?_;refine ne_bind hX fun a w1=>?_;rw [Sem.run_pure];intro e;cases e;done)
theorem wp_region_last11 {P:Program} {id:Nat} {Q:Exit->Act->World->Prop} {a:Act} {w:World} {x0 x1 x2 x3 x4 x5 x6 x7 x8 x9 x10:Oper} (sp:Nat->Option Spc) (hm:P.follows .mixedOrders=true) (hB:Region.lexB .any [x0,x1,x2,x3,x4,x5,x6,x7,x8,x9].toArray=true) (hL:endB [x0,x1,x2,x3,x4,x5,x6,x7,x8,x9] x10=true)
  (h:wpF P .any [x0,x1,x2,x3,x4,x5,x6,x7,x8,x9].toArray (fun w'=>∃ p:Regrown,w'=grow (redrawn w p.d) p.os) sp (fun E a'=>∀ w',Grw w w'->(∀ j,E j w')->x10.wp P a' w' (fun a2 w2=>Q .normal a2 w2) Q) [x0,x1,x2,x3,x4,x5,x6,x7,x8,x9] 0 (fun _ _=>True) a):(Code.region id [x0,x1,x2,x3,x4,x5,x6,x7,x8,x9,x10].toArray true).wp P Q a w:=
 wp_region_last (l:=[x0,x1,x2,x3,x4,x5,x6,x7,x8,x9]) (o:=x10) sp rfl hm hB hL h
theorem wq {P:Program} {ops:Array Oper} {w:World} {sp:Nat->Option Spc} {Q:(Nat->World->Prop)->Act->Prop} {o:Oper} {rest:List Oper} {k:Nat} {E:Nat->World->Prop} {a:Act}
  (h:∀ K:Act->Prop,(∀ a',wpF P .any ops (fun w'=>∃ p:Regrown,w'=grow (redrawn w p.d) p.os) sp Q rest (k+1) (updE E k (fun _=>True)) a'->K a')->o.quiet P a (fun w'=>∃ p:Regrown,w'=grow (redrawn w p.d) p.os) K)
  (hw:Region.wanted o (yielded ops a.tmps)=true:=by kernel_rfl) (hsp:sp k=none:=by rfl) (hne:noEnter P (execOp a.eval o):=by exact Go.Proofs.YtomhbcfjhgecbaaGreatDoor.Stp.noEnter_op (by rfl)):wpF P .any ops (fun w'=>∃ p:Regrown,w'=grow (redrawn w p.d) p.os) sp Q (o :: rest) k E a:=
 wpF_quiet (grw_ex w) hw hsp hne h
def sVal (u:Value):Spc:=⟨fun v=>v=u,fun _ _=>True⟩
def sBool (b:Bool):Spc:=sVal (.bool b)
theorem stTrue:∀ v:Value,Stb ((fun (_:Value) (_:World)=>True) v):=fun _ _ _ _ _=>trivial
end Go.Proofs.YtomhbcfjhgecbaaGreatDoor.Stp
namespace Go.Proofs.YtomhbcfjhgecbaaGreatDoor
open Go.RowKit Go.Sort Go.Lib
open Go.Lib (hid)
open Stp (Spc Lat Stb)
theorem valinfo:(Tryz.prog.info? 39).map (fun i=>(i.zero,i.size,i.bytes))=some (some (.agg #[.int .i64 0,.int .i64 0,.string ByteArray.empty,.slice none 0 0,.slice none 0 0]),5,80):=by kernel_rfl
def laysCV_ren:Go.Shelf.Ren:=⟨fun | 41=>130 | n=>n,fun | 22=>36 | 23=>39 | 4=>4 | n=>n,fun | n=>n⟩
theorem laysCV:Go.Proofs.SlLaysE0.n41 Tryz.prog laysCV_ren:={
 mixed:=by kernel_rfl
 f41:=⟨Tryz.f130.name,by decide,Tryz.func130.trans (congrArg some (by kernel_rfl))⟩
 t4:=Tryz.underlying4
 a4:=Tryz.isAgg4
 z4:=Tryz.sizeOf4
 v4:=Tryz.zeroValue4
 t22:=Tryz.underlying36
 a22:=Tryz.isAgg36
 z22:=Tryz.sizeOf36
 v22:=Tryz.zeroValue36 }
theorem vr_cv {w:World} {cs:List Value} {x:Val} (h:VR w cs x):∃ y:Cv,cs=y.enc:=by
 obtain ⟨r,c,vK,rfl,_,⟨rk,ck,rfl,_⟩,_⟩:=h.open';exact ⟨⟨x.kind,x.num,x.str,r,x.items.length,c,rk,x.keys.length,ck⟩,rfl⟩
theorem sl_cv {w:World} {r:Option Addr} {n c:Nat} {is:List Val} (h:Sl VR 5 w (.slice r n c) is):∃ ys:List Cv,ys.length=is.length/\∀ (i:Nat) (hi:i < ys.length),∃ h':i < is.length,VR w (ys[i]).enc is[i]/\∃ b off,r=some ⟨b,off,none⟩/\∀ (j:Nat) (u:Value),(ys[i]).enc[j]?=some u->w.cell? ⟨b,off+i * 5+j,none⟩=some u:=by
 obtain ⟨r',c',e,h1,h2,he⟩:=h;simp at e;obtain ⟨rfl,rfl,rfl⟩:=e
 obtain ⟨ys,hl,hy⟩:=list_of is.length (fun i (y:Cv)=>∃ h':i < is.length,VR w y.enc is[i]/\∃ b off,r=some ⟨b,off,none⟩/\∀ (j:Nat) (u:Value),y.enc[j]?=some u->w.cell? ⟨b,off+i * 5+j,none⟩=some u) (fun i hi=>by
  obtain ⟨b,off,cs,hr,_,hc,hv⟩:=he i hi;obtain ⟨y,rfl⟩:=vr_cv hv;exact ⟨y,hi,hv,b,off,hr,hc⟩)
 exact ⟨ys,hl,hy⟩
theorem flat_cell {w:World} {b off:Nat} : ∀ (ys:List Cv) (o:Nat),(∀ (i:Nat) (hi:i < ys.length),∀ (j:Nat) (u:Value),(ys[i]).enc[j]?=some u->w.cell? ⟨b,off+o+i * 5+j,none⟩=some u)->∀ (j:Nat) (u:Value),(ys.flatMap Cv.enc)[j]?=some u->w.cell? ⟨b,off+o+j,none⟩=some u
 | [],o,_,j,u,h=>by simp at h
 | y :: ys,o,hc,j,u,h=>by
   rw [List.flatMap_cons] at h
   by_cases hj:j < 5
   . rw [List.getElem?_append_left (by rw [cv_len];exact hj)] at h
     have:=hc 0 (by simp) j u h;simpa using this
   . rw [List.getElem?_append_right (by rw [cv_len];omega),cv_len] at h
     have:=flat_cell ys (o+5) (fun i hi j u hu=>by
      have:=hc (i+1) (by simpa using hi) j u hu;rw [show off+o+(i+1) * 5+j=off+(o+5)+i * 5+j by omega] at this;exact this) (j - 5) u h
     rw [show off+(o+5)+(j - 5)=off+o+j by omega] at this;exact this
def RowO (B:Nat) (w0 w:World) (v:Value) (ys:List Cv) (is:List Val):Prop:=w.ownsRow B 39 5 v ys.length (ys.flatMap Cv.enc)/\ys.length=is.length/\∀ (i:Nat) (h:i < ys.length) (h':i < is.length),VR w0 (ys[i]).enc is[i]
set_option maxHeartbeats 4000000 in
set_option maxRecDepth 100000 in
theorem clone_v0 (a:Addr) (c:Nat) (w:World):Calls Tryz.prog 130 #[.slice (some a) 0 c] w fun e w'=>∃ v',e=.returned v'/\w'.ownsRow w.heap.size 39 5 v' 0 []/\Below w.heap.size w w':=by
 obtain ⟨i0,hi,hz0,hz1,hz2⟩:=info_parts valinfo;have q36:∀ (w:World) (a:Option Addr) (n c n' c':Nat),(binOp .eql 36 (.slice a n c) (.slice none n' c')).run Tryz.prog w=.ok (.bool a.isNone) w:=fun w a n c n' c'=>Lib.run_eql_slice_nil w _ _ a n c n' c' Tryz.underlying36;go_enter Tryz.func130,Tryz.ntmps130;go_wp2_with (at_builtin;refine wpList_append_own _ rfl _ _ 36 rfl w.heap.size 39 i0 _ 5 80 Tryz.underlying36 hi hz0 hz1 hz2 rfl (by decide) _ _ _ rfl (World.ownsRow_made w #[] 0 (Nat.le_refl _) (Nat.zero_le _) rfl) a 0 c [] rfl rfl (by intro j u hj;simp at hj) (by intro u hu;cases hu) (by unfold maxLen;omega) (by omega) (by simp) ?_)
 intro v' w1 hown hgrow hnil;go_wp2
 go_ret
 exact ⟨v',rfl,by simpa using hown,((Below.refl _ w).alloc (Nat.le_refl _) _).grown hgrow (by simp) (by intro k hk;simp [Value.ownBlock] at hk;omega)⟩
theorem clone_v (is:List Val) (r:Option Addr) (c:Nat) (w0 w:World) (h0:Sl VR 5 w0 (.slice r is.length c) is) (hb:Below w0.heap.size w0 w) (hn:is.length<=1000000) :
  Calls Tryz.prog 130 #[.slice r is.length c] w fun e w'=>∃ v' ys,e=.returned v'/\RowO w.heap.size w0 w' v' ys is/\Below w.heap.size w w':=by
 obtain ⟨ys,hl,hy⟩:=sl_cv h0;have hc:=sl_len h0;cases r with
 | none =>
   have h1:is=[]:=by
    cases is with
    | nil=>rfl
    | cons x is =>
      obtain ⟨_,_,b,off,hr,_⟩:=hy 0 (by rw [hl];simp);cases hr
   subst h1;have:ys=[]:=List.eq_nil_of_length_eq_zero hl;subst this;exact (AnyE.slices_Clone_nil laysCV 0 c w).mono fun e w' ⟨he,hw⟩=>⟨_,[],he,⟨⟨by simp,.inl ⟨rfl,rfl⟩⟩,rfl,fun i h=>by simp at h⟩,by rw [hw];exact Below.refl _ _⟩
 | some a =>
   obtain ⟨i0,hi,hz0,hz1,hz2⟩:=info_parts valinfo;obtain ⟨_,hl1,hl2⟩:=hc
   by_cases h1:is=[]
   . subst h1
     have:ys=[]:=List.eq_nil_of_length_eq_zero hl;subst this;exact (clone_v0 a c w).mono fun e w' ⟨v',he,ho,hb2⟩=>⟨v',[],he,⟨ho,rfl,fun i h=>by simp at h⟩,hb2⟩
   . obtain ⟨b,off,ha⟩:∃ b off,a=⟨b,off,none⟩:=by
      obtain ⟨_,_,b,off,hr,_⟩:=hy 0 (by rw [hl];exact List.length_pos_iff.2 h1);exact ⟨b,off,by simpa using hr⟩
     subst ha;refine (AnyE.slices_Clone laysCV i0 _ 5 80 hi hz0 hz1 hz2 rfl (by decide) Tryz.sizeOf39 b off is.length c (ys.flatMap Cv.enc) w (by rw [flat_len Cv.enc 5 cv_len,hl]) (by unfold maxLen;omega) (by omega) (fun j u hu=>?_) (fun u hu=>?_)).mono fun e w' ⟨v',he,ho,_,hb2⟩=>⟨v',ys,he,⟨by rw [hl];exact ho,hl,fun i h h'=>(hy i h).2.1⟩,hb2⟩
     . refine bget hb ?_
       have:=flat_cell (w:=w0) (b:=b) (off:=off) ys 0 (fun i hi j u hu=>by
        obtain ⟨_,_,b2,off2,hr,hc⟩:=hy i hi;simp at hr;obtain ⟨rfl,rfl⟩:=hr;exact hc j u hu) j u hu
       simpa using this
     . obtain ⟨y,_,hy2⟩:=List.mem_flatMap.1 hu
       exact cv_one y u hy2
end Go.Proofs.YtomhbcfjhgecbaaGreatDoor
namespace Go.Proofs.YtomhbcfjhgecbaaGreatDoor
open Go.RowKit Go.Sort Go.Lib
open Go.Lib (hid)
open Stp (Spc Lat Stb)
theorem own_setc5 {B sz g n cap:Nat} {e:TypeId} {w:World} {xs:List Value} (h:w.ownsRow B e sz (.slice (some ⟨g,0,none⟩) n cap) n xs) (i:Nat) (u:Value):(w.setCell ⟨g,i,none⟩ u).ownsRow B e sz (.slice (some ⟨g,0,none⟩) n cap) n (xs.set i u):=by
 refine ⟨by rw [List.length_set];exact h.1,?_⟩;rcases h.2 with ⟨he,_⟩ | ⟨g2,cap2,cur,he,hb,hg,hn,hc,hs,ht⟩
 . cases he
 . cases he
   refine .inr ⟨g,cap,cur.setIfInBounds i u,rfl,hb,?_,hn,hc,by rw [Array.size_setIfInBounds];exact hs,?_⟩
   . unfold World.setCell
     simp only [Array.getElem?_modify,if_true,hg,Option.map_some];rfl
   . rw [Array.toList_setIfInBounds,List.take_set,ht]
theorem set_app5 (x:Cv) (r:List Value) (i:Nat) (u:Value):(x.enc ++ r).set (i+5) u=x.enc ++ r.set i u:=rfl
theorem flat_set5 (y:Cv):∀ (xs:List Cv) (k:Nat) (hk:k < xs.length),((((((xs.flatMap Cv.enc).set (k * 5) (.int .i64 y.k)).set (k * 5+1) (.int .i64 y.n)).set (k * 5+2) (.string y.s)).set (k * 5+3) (.slice y.r y.ni y.c)).set (k * 5+4) (.slice y.rk y.nk y.ck))=(xs.set k y).flatMap Cv.enc
 | [],k,hk=>by simp at hk
 | x :: xs,0,_=>rfl
 | x :: xs,k+1,hk=>by
   have IH:=flat_set5 y xs k (by simpa using hk);rw [List.set_cons_succ,List.flatMap_cons,List.flatMap_cons];rw [show (k+1) * 5=k * 5+5 by omega,show k * 5+5+1=(k * 5+1)+5 by omega,show k * 5+5+2=(k * 5+2)+5 by omega,show k * 5+5+3=(k * 5+3)+5 by omega,show k * 5+5+4=(k * 5+4)+5 by omega,set_app5,set_app5,set_app5,set_app5,set_app5,IH]
def put5 (w:World) (g k:Nat) (y:Cv):World:=((((w.setCell ⟨g,k * 5,none⟩ (.int .i64 y.k)).setCell ⟨g,k * 5+1,none⟩ (.int .i64 y.n)).setCell ⟨g,k * 5+2,none⟩ (.string y.s)).setCell ⟨g,k * 5+3,none⟩ (.slice y.r y.ni y.c)).setCell ⟨g,k * 5+4,none⟩ (.slice y.rk y.nk y.ck)
theorem put5_block (w:World) (g k:Nat) (y:Cv) {b:Nat} (h:b≠g):(put5 w g k y).heap[b]?=w.heap[b]?:=by
 unfold put5;rw [Below.heap_setCell _ _ _ _ h,Below.heap_setCell _ _ _ _ h,Below.heap_setCell _ _ _ _ h,Below.heap_setCell _ _ _ _ h,Below.heap_setCell _ _ _ _ h]
theorem put5_size (w:World) (g k:Nat) (y:Cv):(put5 w g k y).heap.size=w.heap.size:=by unfold put5;simp [World.setCell]
theorem put5_below {B:Nat} {w0 w:World} (h:Below B w0 w) (g k:Nat) (y:Cv) (hg:B<=g):Below B w0 (put5 w g k y):=((((h.setCell hg _).setCell hg _).setCell hg _).setCell hg _).setCell hg _
theorem own_put5 {B g n cap:Nat} {w:World} {ys:List Cv} (h:w.ownsRow B 39 5 (.slice (some ⟨g,0,none⟩) n cap) n (ys.flatMap Cv.enc)) (hn:n=ys.length) {k:Nat} (hk:k < ys.length) (y:Cv) :
  (put5 w g k y).ownsRow B 39 5 (.slice (some ⟨g,0,none⟩) n cap) n ((ys.set k y).flatMap Cv.enc):=by
 rw [<-flat_set5 y ys k hk];exact own_setc5 (own_setc5 (own_setc5 (own_setc5 (own_setc5 h _ _) _ _) _ _) _ _) _ _
structure RowM (M:Nat) (w0 w:World) (v:Value) (ys:List Cv) (is:List Val) (k:Nat):Prop where
 own:w.ownsRow M 39 5 v ys.length (ys.flatMap Cv.enc)
 len:ys.length=is.length
 done:∀ (i:Nat) (h:i < ys.length) (h':i < is.length),i < k->VR (mask (keepB M v) w) (ys[i]).enc is[i]
 rest:∀ (i:Nat) (h:i < ys.length) (h':i < is.length),k<=i->VR w0 (ys[i]).enc is[i]
theorem RowO.start {B M:Nat} {w0 w:World} {v:Value} {ys:List Cv} {is:List Val} (h:RowO B w0 w v ys is) (hM:M<=B):RowM M w0 w v ys is 0:=
 ⟨own_base h.1 hM,h.2.1,fun i _ _ hi=>absurd hi (by omega),fun i h1 h2 _=>h.2.2 i h1 h2⟩
theorem RowM.to {M k:Nat} {w0 w w':World} {v:Value} {ys:List Cv} {is:List Val} (h:RowM M w0 w v ys is k) (hk:∀ b,M<=b->b < w.heap.size->w'.heap[b]?=w.heap[b]?):RowM M w0 w' v ys is k:=
 ⟨own_keep h.own fun g hg=>hk g (own_lt h.own hg).1 (own_lt h.own hg).2,h.len,fun i h1 h2 h3=>vr_stays (stays_keep fun b hb hlt=>⟨hb,hk b (keepB_out hb).1 hlt⟩) (h.done i h1 h2 h3),h.rest⟩
theorem RowM.below {M k:Nat} {w0 w w':World} {v:Value} {ys:List Cv} {is:List Val} (h:RowM M w0 w v ys is k) (hb:Below w.heap.size w w'):RowM M w0 w' v ys is k:=h.to fun b _ hl=>hb.block b hl
theorem RowM.put {M k B0 g n cap:Nat} {w0 w:World} {ys:List Cv} {is:List Val} (h:RowM M w0 w (.slice (some ⟨g,0,none⟩) n cap) ys is k) (hn:n=ys.length) (hk:k < is.length) {r:Option Addr} {c:Nat} {rk:Option Addr} {ck:Nat}
  (hx:VK (fromB B0) w r c rk ck is[k]) (hB:M<=B0) (hg:g < B0):RowM M w0 (put5 w g k (Cv.of is[k] r c rk ck)) (.slice (some ⟨g,0,none⟩) n cap) (ys.set k (Cv.of is[k] r c rk ck)) is (k+1):=by
 have hky:k < ys.length:=by rw [h.len];exact hk
 have hst:∀ b,b≠g->(put5 w g k (Cv.of is[k] r c rk ck)).heap[b]?=w.heap[b]?:=fun b hb=>put5_block w g k _ hb;have hob:∀ b,(Value.slice (some ⟨g,0,none⟩) n cap).ownBlock≠some b->b≠g:=fun b hb e=>hb (by rw [e];rfl);refine ⟨?_,by rw [List.length_set];exact h.len,fun i h1 h2 h3=>?_,fun i h1 h2 h3=>?_⟩
 . rw [List.length_set,<-hn]
   exact own_put5 (by rw [hn];rw [<-hn];have:=h.own;rw [<-hn] at this;exact this) hn hky _
 . by_cases e:i=k
   . subst e
     rw [List.getElem_set_self];refine vr_stays (stays_keep fun b hb hlt=>?_) hx.enc;simp only [fromB,decide_eq_true_eq] at hb;exact ⟨keepB_mk (by omega) (fun e=>by simp [Value.ownBlock] at e;omega),hst b (by omega)⟩
   . rw [List.getElem_set_ne (Ne.symm e)]
     exact vr_stays (stays_keep fun b hb hlt=>⟨hb,hst b (hob b (keepB_out hb).2)⟩) (h.done i (by simpa using h1) h2 (by omega))
 . rw [List.getElem_set_ne (by omega)]
   exact h.rest i (by simpa using h1) h2 (by omega)
theorem RowM.fin {M:Nat} {w0 w:World} {v:Value} {ys:List Cv} {is:List Val} (h:RowM M w0 w v ys is is.length):OwnV M w v is:=⟨ys,h.len,h.own,fun i h1 h2=>h.done i h1 h2 h2⟩
theorem RowM.at {M k g n cap:Nat} {w0 w:World} {ys:List Cv} {is:List Val} (h:RowM M w0 w (.slice (some ⟨g,0,none⟩) n cap) ys is k) {i:Nat} (hi:i < ys.length):∀ (j:Nat) (u:Value),(ys[i]).enc[j]?=some u->w.cell? ⟨g,i * 5+j,none⟩=some u:=by
 obtain ⟨r,c,e,_,_,he⟩:=sl_of_own Cv.enc cv_len h.own;obtain ⟨b,off,cs,hr,_,hc,hx⟩:=he i hi;simp at e;obtain ⟨e1,_⟩:=e;rw [<-e1] at hr;simp at hr;obtain ⟨rfl,rfl⟩:=hr;intro j u hj;have:=hc j u (by rw [hx];exact hj);rw [Nat.zero_add] at this;exact this
def sCop (B0:Nat) (x:Val):Spc:=⟨fun v=>∃ r c rk ck,v=.agg #[.int .i64 x.kind,.int .i64 x.num,.string x.str,.slice r x.items.length c,.slice rk x.keys.length ck],fun v w=>∃ r c rk ck,v=.agg #[.int .i64 x.kind,.int .i64 x.num,.string x.str,.slice r x.items.length c,.slice rk x.keys.length ck]/\VK (fromB B0) w r c rk ck x⟩
theorem stCop (B0:Nat) (x:Val):∀ v,Stb ((sCop B0 x).R v):=fun _ _ _ ⟨r,c,rk,ck,e,h⟩ hl=>⟨r,c,rk,ck,e,h.to (stays_below hl)⟩
end Go.Proofs.YtomhbcfjhgecbaaGreatDoor
namespace Go.Proofs.YtomhbcfjhgecbaaGreatDoor
open Go.RowKit Go.Sort Go.Lib
open Go.Lib (hid)
attribute [local go_sem] Stp.frUpon
theorem nkeys_mem {is:List Val} {x:Val} (h:x∈is):nkeys x<=nkeysL is:=by
 induction is with
 | nil=>cases h
 | cons y ys ih =>
   rw [nkeysL];rcases List.mem_cons.1 h with rfl | h
   . omega
   . have:=ih h;omega
theorem two_blk0 (w:World) (o p:Obj):((w.alloc o).alloc p).heap[w.heap.size]?=some o:=by
 have h:(w.alloc o).heap[w.heap.size]?=some o:=heap_alloc_new w o;exact (((Below.refl (w.alloc o).heap.size (w.alloc o)).alloc (Nat.le_refl _) p).block _ (by simp)).trans h
theorem two_blk1 (w:World) (o p:Obj):((w.alloc o).alloc p).heap[w.heap.size+1]?=some p:=by
 have h:=heap_alloc_new (w.alloc o) p;rw [show (w.alloc o).heap.size=w.heap.size+1 by simp] at h;exact h
set_option maxRecDepth 100000 in
set_option maxHeartbeats 16000000 in
theorem copied_any (x:Val):∀ (r:Option Addr) (c:Nat) (rk:Option Addr) (ck:Nat) (w:World),VR5 w r c rk ck x->nodes x<=1000000->nkeys x<=1000000 ->
  Calls Tryz.prog 92 #[.agg #[.int .i64 x.kind,.int .i64 x.num,.string x.str,.slice r x.items.length c,.slice rk x.keys.length ck]] w (CopP w x):=by
 refine Val.ind (P:=fun x=>∀ (r:Option Addr) (c:Nat) (rk:Option Addr) (ck:Nat) (w:World),VR5 w r c rk ck x->nodes x<=1000000->nkeys x<=1000000 ->
  Calls Tryz.prog 92 #[.agg #[.int .i64 x.kind,.int .i64 x.num,.string x.str,.slice r x.items.length c,.slice rk x.keys.length ck]] w (CopP w x)) ?_ x
 intro x ih r c rk ck w hx hno hnk;obtain ⟨hI,hK,hk,hnu,hs,hkl,hil⟩:=hx.parts;have h1:=nodes_eq x;have h2:=nkeys_eq x;have h3:=nodesL_len x.items;have IH:=hid (fun (i:Nat) (hi:i < x.items.length) (r:Option Addr) (c:Nat) (rk:Option Addr) (ck:Nat) (w':World) (h5:VR5 w' r c rk ck (x.items[i]'hi))=>ih x.items[i] (List.getElem_mem hi) r c rk ck w' h5 (by have:=nodes_mem (List.getElem_mem hi);omega) (by have:=nkeys_mem (List.getElem_mem hi);omega));have CLN:=hid (fun (W:World) (hW:Below w.heap.size w W)=>clone_any x.keys rk ck W (hK.below strR_mono hW) (by omega));have CLV:=hid (fun (W:World) (hW:Below w.heap.size w W)=>clone_v x.items r c w W hI hW (by omega));have HIL:=hid (show x.items.length<=1000000 by omega);have BD:=hid (show i64B x.kind/\i64B x.num/\x.str.size<=maxLen/\x.keys.length<=10000000000000/\x.items.length<=10000000000000/\∀ k∈x.keys,k.size<=maxLen from ⟨hk,hnu,hs,hkl,hil,strs_le hK⟩);have PP:=hid (show ∀ r c rk ck M (w':World),CopX w.heap.size M w' r c rk ck x->Below w.heap.size w w'->CopP w x (.returned (.agg #[.int .i64 x.kind,.int .i64 x.num,.string x.str,.slice r x.items.length c,.slice rk x.keys.length ck])) w' from fun r c rk ck M w' h hb=>⟨r,c,rk,ck,M,rfl,h,hb⟩);have MKX:=hid (show ∀ (M:Nat) (w':World) r c rk ck,w.heap.size<=M->OwnV M w' (.slice r x.items.length c) x.items->OwnK w.heap.size w' (.slice rk x.keys.length ck) x.keys->(∀ g,(Value.slice rk x.keys.length ck).ownBlock=some g->g < M)->CopX w.heap.size M w' r c rk ck x from fun M w' r c rk ck h1 h2 h3 h4=>⟨h1,h2,h3,h4,BD.out⟩);clear ih hI hK hk hnu hs hkl hil h1 h2 h3 hx hno hnk BD;obtain ⟨xk,xn,xs,is,ks⟩:=x;simp only [Val.kind,Val.num,Val.str,Val.items,Val.keys] at IH CLN CLV HIL PP MKX ⊢;go_enter Tryz.func92,Tryz.ntmps92;go_wp2_with fail
 have hb2:Below w.heap.size w ((w.alloc (.cells #[.int .i64 xk,.int .i64 xn,.string xs,.slice r is.length c,.slice rk ks.length ck] 39)).alloc (.cells #[.int .i64 0,.int .i64 0,.string { data:=#[] },.slice none 0 0,.slice none 0 0] 39)):=((Below.refl _ _).alloc (Nat.le_refl _) _).alloc (by simp) _;refine (CLN.out _ hb2).mono ?_;rintro e w3 ⟨v',rfl,ho3,hb3⟩;obtain ⟨rk2,ck2,rfl,_⟩:=own_form ho3;have z3:=hb3.size;have hbk0:w3.heap[w.heap.size]?=some (.cells #[.int .i64 xk,.int .i64 xn,.string xs,.slice r is.length c,.slice rk ks.length ck] 39):=(hb3.block _ (by simp;omega)).trans (two_blk0 w _ _);have hbk1:w3.heap[w.heap.size+1]?=some (.cells #[.int .i64 0,.int .i64 0,.string { data:=#[] },.slice none 0 0,.slice none 0 0] 39):=(hb3.block _ (by simp)).trans (two_blk1 w _ _);simp at z3;have B3:=hid (hb2.trans (hb3.mono hb2.size))
 have OK3:=hid (show OwnK (w.heap.size+1+1) w3 (.slice rk2 ks.length ck2) ks from by
  have h0:=ho3;have e:((w.alloc (.cells #[.int .i64 xk,.int .i64 xn,.string xs,.slice r is.length c,.slice rk ks.length ck] 39)).alloc (.cells #[.int .i64 0,.int .i64 0,.string { data:=#[] },.slice none 0 0,.slice none 0 0] 39)).heap.size=w.heap.size+1+1:=by simp
  rw [e] at h0;exact h0)
 have t0:w3.cell? ⟨w.heap.size,4,none⟩=some (.slice rk ks.length ck):=by unfold World.cell?;rw [hbk0];rfl
 have t1:w3.cell? ⟨w.heap.size,3,none⟩=some (.slice r is.length c):=by unfold World.cell?;rw [hbk0];rfl
 have t2:w3.frozen? ⟨w.heap.size,4,none⟩=false:=by unfold World.frozen?;rw [hbk0];rfl
 have HB4:=hid (show (w3.setCell ⟨w.heap.size,4,none⟩ (.slice rk2 ks.length ck2)).heap[w.heap.size]?=some (.cells #[.int .i64 xk,.int .i64 xn,.string xs,.slice r is.length c,.slice rk2 ks.length ck2] 39) from by
  unfold World.setCell;simp only [Array.getElem?_modify,if_true,hbk0,Option.map_some];rfl)
 have HB5:=hid (show (w3.setCell ⟨w.heap.size,4,none⟩ (.slice rk2 ks.length ck2)).heap[w.heap.size+1]?=some (.cells #[.int .i64 0,.int .i64 0,.string { data:=#[] },.slice none 0 0,.slice none 0 0] 39) from by
  rw [Below.heap_setCell _ _ _ _ (by simp)];exact hbk1)
 have OK4:=hid (show OwnK (w.heap.size+1+1) (w3.setCell ⟨w.heap.size,4,none⟩ (.slice rk2 ks.length ck2)) (.slice rk2 ks.length ck2) ks from own_keep OK3.out fun g hg=>Below.heap_setCell _ _ _ _ (by have:=(own_lt OK3.out hg).1;simp only;omega));have B4:=hid (show Below w.heap.size w (w3.setCell ⟨w.heap.size,4,none⟩ (.slice rk2 ks.length ck2)) from B3.out.setCell (Nat.le_refl _) _);have z4:=hid (show w.heap.size+1+1<=(w3.setCell ⟨w.heap.size,4,none⟩ (.slice rk2 ks.length ck2)).heap.size by simpa [World.setCell] using z3);have t3:(w3.setCell ⟨w.heap.size,4,none⟩ (.slice rk2 ks.length ck2)).cell? ⟨w.heap.size,3,none⟩=some (.slice r is.length c):=by unfold World.cell?;rw [HB4.out];rfl
 clear ho3 hb3 hb2 hbk0 hbk1 B3 OK3 t1 z3;go_wp2_with fail
 clear t0 t2 t3;generalize (w3.setCell ⟨w.heap.size,4,none⟩ (.slice rk2 ks.length ck2))=W4 at *;refine (CLV.out W4 B4.out).mono ?_;rintro e w5 ⟨v5,ys,rfl,ho5,hb5⟩
 have hfo:∃ r5 c5,v5=.slice r5 is.length c5:=by
  obtain ⟨r5,c5,e,_⟩:=own_form ho5.1;exact ⟨r5,c5,by rw [e,ho5.2.1]⟩
 obtain ⟨r5,c5,rfl⟩:=hfo;have hk0:w5.heap[w.heap.size]?=some (.cells #[.int .i64 xk,.int .i64 xn,.string xs,.slice r is.length c,.slice rk2 ks.length ck2] 39):=(hb5.block _ (by have:=z4.out;omega)).trans HB4.out;have hk1:w5.heap[w.heap.size+1]?=some (.cells #[.int .i64 0,.int .i64 0,.string { data:=#[] },.slice none 0 0,.slice none 0 0] 39):=(hb5.block _ (by have:=z4.out;omega)).trans HB5.out;have HZ5:=hid (show W4.heap.size<=w5.heap.size from hb5.size);have t0:w5.cell? ⟨w.heap.size,3,none⟩=some (.slice r is.length c):=by unfold World.cell?;rw [hk0];rfl
 have t2:w5.frozen? ⟨w.heap.size,3,none⟩=false:=by unfold World.frozen?;rw [hk0];rfl
 have HK6:=hid (show (w5.setCell ⟨w.heap.size,3,none⟩ (.slice r5 is.length c5)).heap[w.heap.size]?=some (.cells #[.int .i64 xk,.int .i64 xn,.string xs,.slice r5 is.length c5,.slice rk2 ks.length ck2] 39) from by
  unfold World.setCell;simp only [Array.getElem?_modify,if_true,hk0,Option.map_some];rfl)
 have HK7:=hid (show (w5.setCell ⟨w.heap.size,3,none⟩ (.slice r5 is.length c5)).heap[w.heap.size+1]?=some (.cells #[.int .i64 0,.int .i64 0,.string { data:=#[] },.slice none 0 0,.slice none 0 0] 39) from by
  rw [Below.heap_setCell _ _ _ _ (by simp)];exact hk1)
 have HR6:=hid (show RowM W4.heap.size w (w5.setCell ⟨w.heap.size,3,none⟩ (.slice r5 is.length c5)) (.slice r5 is.length c5) ys is 0 from (RowO.start ho5 (Nat.le_refl _)).to fun b hb hl=>Below.heap_setCell _ _ _ _ (by have:=z4.out;simp only;omega))
 have KO6:=hid (show OwnK (w.heap.size+1+1) (w5.setCell ⟨w.heap.size,3,none⟩ (.slice r5 is.length c5)) (.slice rk2 ks.length ck2) ks from own_keep OK4.out fun g hg=>by
  rw [Below.heap_setCell _ _ _ _ (by have:=(own_lt OK4.out hg).1;simp only;omega)];exact hb5.block g (own_lt OK4.out hg).2)
 have KL:=hid (show ∀ g,(Value.slice rk2 ks.length ck2).ownBlock=some g->g < W4.heap.size from fun g hg=>(own_lt OK4.out hg).2);have B6:=hid (show Below w.heap.size w (w5.setCell ⟨w.heap.size,3,none⟩ (.slice r5 is.length c5)) from (B4.out.trans (hb5.mono B4.out.size)).setCell (Nat.le_refl _) _);have Z6:=hid (show W4.heap.size<=(w5.setCell ⟨w.heap.size,3,none⟩ (.slice r5 is.length c5)).heap.size by simpa [World.setCell] using HZ5.out);have q3:(w5.setCell ⟨w.heap.size,3,none⟩ (.slice r5 is.length c5)).cell? ⟨w.heap.size,3,none⟩=some (.slice r5 is.length c5):=by unfold World.cell?;rw [HK6.out];rfl
 clear ho5 hb5 hk0 hk1 HZ5 HB4 HB5 OK4 B4;go_wp2_with fail
 clear t0 t2 q3;generalize (w5.setCell ⟨w.heap.size,3,none⟩ (.slice r5 is.length c5))=W6 at *;have hlm:=HIL.out;go_loopg [15] is.length (fun gg s15 wr=>∃ (k:Nat) (ys:List Cv),k<=is.length/\is.length - k<=gg/\s15=.int .i64 k/\Hid (RowM W4.heap.size w wr (.slice r5 is.length c5) ys is k)/\Hid (Below w.heap.size w wr)/\Hid (wr.heap[w.heap.size]?=W6.heap[w.heap.size]?/\wr.heap[w.heap.size+1]?=W6.heap[w.heap.size+1]?/\W6.heap.size<=wr.heap.size)/\Hid (OwnK (w.heap.size+1+1) wr (.slice rk2 ks.length ck2) ks))
 case atStart=>exact ⟨0,ys,by omega,by omega,rfl,HR6,B6,hid ⟨rfl,rfl,Nat.le_refl _⟩,KO6⟩
 case round =>
  clear HR6 B6 KO6;obtain ⟨k,ys,hk,hgg,rfl,HR,HB,HE,HO⟩:=hrel;have q3:wr.cell? ⟨w.heap.size,3,none⟩=some (.slice r5 is.length c5):=by unfold World.cell?;rw [HE.out.1,HK6.out];rfl
  by_cases hlt:k < is.length
  . have hky:k < ys.length:=by rw [HR.out.len];exact hlt
    obtain ⟨g,rfl⟩:∃ g,r5=some ⟨g,0,none⟩:=by
     rcases HR.out.own.2 with ⟨e,h0⟩ | ⟨g,cap,cur,e,_⟩
     . omega
     . simp at e;exact ⟨g,by rw [e.1]⟩
    have hg1:=own_lt HR.out.own (g:=g) rfl;have hvr:=HR.out.rest k hky hlt (Nat.le_refl _);obtain ⟨rx,cx,rkx,ckx,hex,h5⟩:=hvr.five;have hat:=HR.out.at hky;rw [hex] at hat
    have HCL:=hid (fun (W:World) (hW:Below wr.heap.size wr W)=>IH.out k hlt rx cx rkx ckx W (h5.below (HB.out.trans (hW.mono HB.out.size))));have g0:wr.cell? ⟨g,k * 5,none⟩=some (.int .i64 (is[k]).kind):=hat 0 _ rfl;have g1:=hat 1 _ rfl;have g2:=hat 2 _ rfl;have g3:=hat 3 _ rfl;have g4:=hat 4 _ rfl;have c0:=fun d os=>cell_regrown g0 d os;have c1:=fun d os=>cell_regrown g1 d os;have c2:=fun d os=>cell_regrown g2 d os;have c3:=fun d os=>cell_regrown g3 d os;have c4:=fun d os=>cell_regrown g4 d os;have c5':=fun d os=>cell_regrown q3 d os;have hk0:(0:Int)<=(k:Int):=by omega
    have hk1:(k:Int) < (is.length:Int):=by omega
    have hne:w.heap.size≠g:=by have:=z4.out;omega
    have hne1:w.heap.size+1≠g:=by have:=z4.out;omega
    clear hat hex hvr h5;obtain ⟨W3,hW3⟩:∃ W3:World,W3=wr:=⟨_,rfl⟩;go_wp2_with fail
    subst hW3;refine Stp.wp_region_last11 (fun qq=>match qq with | 8=>some (sCop W3.heap.size (is[k]'hlt)) | _=>none) (by kernel_rfl) (by kernel_rfl) (by kernel_rfl) ?_
    iterate 8 (refine Stp.wq ?_;intro K hK;go_big_quiet_op;go_big_quiet_on)
    refine Stp.wpF_told (sCop W3.heap.size (is[k]'hlt)) (by kernel_rfl) rfl ⟨.agg #[.int .i64 (is[k]).kind,.int .i64 (is[k]).num,.string (is[k]).str,.slice none (is[k]).items.length 0,.slice none (is[k]).keys.length 0],none,0,none,0,rfl⟩ (stCop _ _) (fun w4 hw4 hE4=>?_) ?_
    . have hb4:=Stp.grw_below hw4
      have hh:=HCL.out w4 hb4;have hz:=hb4.size;clear hw4 hE4;go_simp
      go_at_call 92;refine Calls.mono hh ?_;rintro e w5 ⟨r5,c5,rk5,ck5,M5,rfl,ho5,hb5⟩;exact ⟨_,rfl,hb5,⟨r5,c5,rk5,ck5,rfl⟩,⟨r5,c5,rk5,ck5,rfl,ho5.vk.to (stays_wider fun b hb=>by simp only [fromB,decide_eq_true_eq] at hb ⊢;omega)⟩⟩
    rintro _ ⟨r7,c7,rk7,ck7,rfl⟩
    (refine Stp.wpF_put ?_;intro K hK;go_simp;refine hK _ ?_;clear hK K)
    (refine Stp.wq ?_;intro K hK;go_big_quiet_op;go_big_quiet_on)
    refine Stp.wpF_nil ?_;intro w6 hw6 hE6;have hb6:=Stp.grw_below hw6;obtain ⟨r8,c8,rk8,ck8,e8,hV8⟩:∃ r c rk ck,(Value.agg #[.int .i64 (is[k]).kind,.int .i64 (is[k]).num,.string (is[k]).str,.slice r7 (is[k]).items.length c7,.slice rk7 (is[k]).keys.length ck7])=.agg #[.int .i64 (is[k]).kind,.int .i64 (is[k]).num,.string (is[k]).str,.slice r (is[k]).items.length c,.slice rk (is[k]).keys.length ck]/\VK (fromB W3.heap.size) w6 r c rk ck (is[k]):=hE6 8;obtain ⟨rfl,rfl,rfl,rfl⟩:r8=r7/\c8=c7/\rk8=rk7/\ck8=ck7:=by simp at e8;simp [e8]
    clear hw6 hE6 e8;have HP:=hid ((HR.out.below hb6).put (by rw [HR.out.len]) hlt hV8 (by have:=Z6.out;have:=HE.out.2.2;omega) hg1.2);have hat6:=(HR.out.below hb6).at hky;have l0:=bget hb6 g0;have l1:=bget hb6 g1;have l2:=bget hb6 g2;have l3:=bget hb6 g3;have l4:=bget hb6 g4
    have hfz:∀ o,w6.frozen? ⟨g,o,none⟩=false:=fun o=>by
     rcases (HR.out.below hb6).own.2 with ⟨e,_⟩ | ⟨g',cap,cur,e,_,hh,_⟩
     . cases e
     . simp at e
       obtain ⟨rfl,_⟩:=e;unfold World.frozen?;rw [hh];rfl
    have HBn:=hid (show Below w.heap.size w (put5 w6 g k (Cv.of is[k] r8 c8 rk8 ck8)) from put5_below (HB.out.trans (hb6.mono HB.out.size)) g k _ (by have:=z4.out;omega))
    have HEn:=hid (show (put5 w6 g k (Cv.of is[k] r8 c8 rk8 ck8)).heap[w.heap.size]?=W6.heap[w.heap.size]?/\(put5 w6 g k (Cv.of is[k] r8 c8 rk8 ck8)).heap[w.heap.size+1]?=W6.heap[w.heap.size+1]?/\W6.heap.size<=(put5 w6 g k (Cv.of is[k] r8 c8 rk8 ck8)).heap.size from by
     have h1:=HB.out.size;have h2:=HE.out.2.2;have h3:=Z6.out;have h4:=z4.out;refine ⟨?_,?_,?_⟩
     . rw [put5_block _ _ _ _ hne,hb6.block _ (by omega)];exact HE.out.1
     . rw [put5_block _ _ _ _ hne1,hb6.block _ (by omega)];exact HE.out.2.1
     . rw [put5_size];have:=hb6.size;omega)
    have HOn:=hid (show OwnK (w.heap.size+1+1) (put5 w6 g k (Cv.of is[k] r8 c8 rk8 ck8)) (.slice rk2 ks.length ck2) ks from own_keep HO.out fun b hb=>by
     have h1:=own_lt HO.out hb;have h2:=KL.out b hb;rw [put5_block _ _ _ _ (by omega)];exact hb6.block b h1.2)
    have HWn:=hid (show put5 w6 g k (Cv.of is[k] r8 c8 rk8 ck8)=((((w6.setCell ⟨g,k * 5,none⟩ (.int .i64 (is[k]).kind)).setCell ⟨g,k * 5+1,none⟩ (.int .i64 (is[k]).num)).setCell ⟨g,k * 5+2,none⟩ (.string (is[k]).str)).setCell ⟨g,k * 5+3,none⟩ (.slice r8 (is[k]).items.length c8)).setCell ⟨g,k * 5+4,none⟩ (.slice rk8 (is[k]).keys.length ck8) from rfl);rw [HWn.out] at HP HBn HEn HOn;clear HWn hat6 hV8 hb6 HR HCL c0 c1 c2 c3 c4 c5' g0 g1 g2 g3 g4;go_simp
    go_wp2
    go_roundg (is.length - (k+1))
    case measure=>omega
    case rel=>exact ⟨k+1,_,by omega,by omega,by go_num,HP,HBn,HEn,HOn⟩
  . obtain rfl:k=is.length:=by omega
    have hb0:wr.heap[w.heap.size]?=_:=HE.out.1.trans HK6.out;have hb1:wr.heap[w.heap.size+1]?=_:=HE.out.2.1.trans HK7.out;have p0:wr.cell? ⟨w.heap.size,0,none⟩=some (.int .i64 xk):=by unfold World.cell?;rw [hb0];rfl
    have p1:wr.cell? ⟨w.heap.size,1,none⟩=some (.int .i64 xn):=by unfold World.cell?;rw [hb0];rfl
    have p2:wr.cell? ⟨w.heap.size,2,none⟩=some (.string xs):=by unfold World.cell?;rw [hb0];rfl
    have p4:wr.cell? ⟨w.heap.size,4,none⟩=some (.slice rk2 ks.length ck2):=by unfold World.cell?;rw [hb0];rfl
    have u0:wr.cell? ⟨w.heap.size+1,0,none⟩=some (.int .i64 0):=by unfold World.cell?;rw [hb1];rfl
    have u1:wr.cell? ⟨w.heap.size+1,1,none⟩=some (.int .i64 0):=by unfold World.cell?;rw [hb1];rfl
    have u2:wr.cell? ⟨w.heap.size+1,2,none⟩=some (.string { data:=#[] }):=by unfold World.cell?;rw [hb1];rfl
    have u3:wr.cell? ⟨w.heap.size+1,3,none⟩=some (.slice none 0 0):=by unfold World.cell?;rw [hb1];rfl
    have u4:wr.cell? ⟨w.heap.size+1,4,none⟩=some (.slice none 0 0):=by unfold World.cell?;rw [hb1];rfl
    have hfs:∀ o,wr.frozen? ⟨w.heap.size+1,o,none⟩=false:=fun o=>by unfold World.frozen?;rw [hb1];rfl
    have hkb:∀ b,w.heap.size+1+1<=b->(((((wr.setCell ⟨w.heap.size+1,0,none⟩ (.int .i64 xk)).setCell ⟨w.heap.size+1,1,none⟩ (.int .i64 xn)).setCell ⟨w.heap.size+1,2,none⟩ (.string xs)).setCell ⟨w.heap.size+1,3,none⟩ (.slice r5 is.length c5)).setCell ⟨w.heap.size+1,4,none⟩ (.slice rk2 ks.length ck2)).heap[b]?=wr.heap[b]?:=fun b hb=>by
     rw [Below.heap_setCell _ _ _ _ (by simp only;omega),Below.heap_setCell _ _ _ _ (by simp only;omega),Below.heap_setCell _ _ _ _ (by simp only;omega),Below.heap_setCell _ _ _ _ (by simp only;omega),Below.heap_setCell _ _ _ _ (by simp only;omega)]
    have hz4:=z4.out
    have HF:=hid (PP.out r5 c5 rk2 ck2 W4.heap.size (((((wr.setCell ⟨w.heap.size+1,0,none⟩ (.int .i64 xk)).setCell ⟨w.heap.size+1,1,none⟩ (.int .i64 xn)).setCell ⟨w.heap.size+1,2,none⟩ (.string xs)).setCell ⟨w.heap.size+1,3,none⟩ (.slice r5 is.length c5)).setCell ⟨w.heap.size+1,4,none⟩ (.slice rk2 ks.length ck2)) (MKX.out _ _ _ _ _ _ (by omega) (HR.out.fin.to fun b hb _=>hkb b (by omega)) (own_base (own_keep HO.out fun g hg=>hkb g (own_lt HO.out hg).1) (by omega)) KL.out)
     (((((HB.out.setCell (by simp) _).setCell (by simp) _).setCell (by simp) _).setCell (by simp) _).setCell (by simp) _))
    clear hkb hb0 hb1 HR HB HE HO;go_wp2
    exact bodyPost_ret (v:=.agg #[.int .i64 xk,.int .i64 xn,.string xs,.slice r5 is.length c5,.slice rk2 ks.length ck2]) (by simp [results,Tryz.results92,go_sem,u0,u1,u2,u3,u4]) rfl HF.out
end Go.Proofs.YtomhbcfjhgecbaaGreatDoor
