import Derived.Test.YtomhbcfjhgecbaaGreatDoorRows
import Derived.WalkKit
import Derived.WalkSpells
import Derived.BigQuiet
import Derived.Deep.QuietTactic
import Derived.Deep.Slices
import Derived.Deep.LoopGhost
import Derived.Lib.Hide
import Derived.Lib.MinMax
import Derived.Lib.QuietBelow
import Derived.ProofKit
import Derived.OpenShut
import Derived.Outline
import Derived.Maps.Ext
import Derived.Deep.AppendLies
import Derived.OwnWalk
import Derived.Laws.AppendOwnNone
import Derived.ArgAppend
import Derived.Deep.RegionWith
import Derived.Deep.RegionHeld3
import Derived.Shelf.Strings.Builder1
import Derived.Shelf.Small.Utf8
import Derived.Shelf.Small.Bits
import Derived.Shelf.Small.Strs
import Derived.Shelf.Small.Wraps
import Derived.Shelf.Strings.BuilderF
import Derived.Shelf.Strings.BuilderK
import Derived.Shelf.Strings.BuilderRune
import Derived.Shelf.LaysM
import Derived.Shelf.Strconv.ParseIntEmpty
import Derived.Shelf.Strconv.Clone
import Derived.Shelf.Strconv.SyntaxError
import Derived.Shelf.LaysC
import Derived.Shelf.Strconv.ToError
import Derived.Shelf.Strconv.Lower
import Derived.Shelf.Strconv.ParseUint10
import Derived.Shelf.Strconv.ParseUint10Empty
import Derived.Shelf.Strconv.ParseUint10Any
import Derived.Shelf.Strconv.ParseInt10
import Derived.Shelf.Strconv.RangeError
import Derived.Shelf.Strconv.ToErrorRange
import Derived.Shelf.Strconv.ParseUintEmpty
import Derived.Shelf.Strconv.ParseUint10b64
import Derived.Shelf.Strconv.ParseUint10b32
import Derived.Shelf.Strconv.ParseUint10b16
import Derived.Shelf.Strconv.ParseUint10b8
import Derived.Shelf.Strconv.ParseUint10At
import Derived.Shelf.Strconv.ParseInt10At64
import Derived.Shelf.Strconv.ParseInt10At32
import Derived.Shelf.Strconv.ParseInt10At16
import Derived.Shelf.Strconv.ParseInt10At8
import Derived.Shelf.Strconv.ParseInt10All
import Derived.Shelf.Strconv.ParseIntPublic10
import Derived.Shelf.Strconv.ErrVarParseInt
import Derived.Shelf.Strings.Search1
import Derived.Shelf.Strings.Prefix
import Derived.Shelf.Unicode.Decode
import Derived.Shelf.Strings.Runes
import Derived.Shelf.Strings.IndexAny
import Derived.Shelf.Strings.AsciiSet
import Derived.Shelf.Strings.IndexAnyAll
import Derived.Shelf.Unicode.DecodeSlow
import Derived.Shelf.Unicode.DecodeAny
import Derived.Ground.Names2Prog
import Derived.Shelf.Slices.Empties2
import Derived.Ground.SlgnProg
import Derived.Shelf.SlicesE.Clone
import Derived.Shelf.Spec.TrailingZeros
import Derived.Test.YtomhbcfjhgecbaaGreatDoorProg
import Derived.Shelf.Slices.Clone
import Derived.Shelf.Unicode.ValidAny
import Derived.Lib.LaidU8T
import Derived.OneCell
import Derived.Deep.Quiet
set_option linter.unusedVariables false
set_option linter.unusedSimpArgs false
namespace Go.Proofs.YtomhbcfjhgecbaaGreatDoor
open Go.RowKit Go.Sort
theorem GX {B:Nat} {W w1:World} (hb:Below B W w1):(∀ b o,b < B->w1.cell? ⟨b,o,none⟩=W.cell? ⟨b,o,none⟩)/\(∀ b o,b < B->w1.frozen? ⟨b,o,none⟩=W.frozen? ⟨b,o,none⟩):=
 ⟨fun b o h=>hb.cell (p:=⟨b,o,none⟩) h,fun b o h=>hb.frozen (p:=⟨b,o,none⟩) h⟩
theorem az {W w1:World} {a:Addr} {v:Value} (hb:Below W.heap.size W w1) (h:W.cell? a=some v):w1.cell? a=some v:=
 (hb.cell (World.block_lt_of_cell? W a h)).trans h
theorem iy (W:World):∀ (d:Nat) (os:Array Obj) (b o:Nat),b < W.heap.size->(grow (redrawn W d) os).cell? ⟨b,o,none⟩=W.cell? ⟨b,o,none⟩:=
 fun d os _ _ h=>(GX (below_regrown W d os)).1 _ _ h
theorem GN {w:World} {a:Addr} {v u:Value} (h:w.cell? a=some u):(w.setCell a v).cell? a=some v:=World.cell?_setCell_same' w a v (by rw [h];rfl)
theorem Kv {w:World} {b o o':Nat} {v:Value} (h:o≠o'):(w.setCell ⟨b,o,none⟩ v).cell? ⟨b,o',none⟩=w.cell? ⟨b,o',none⟩:=by
 apply World.cell?_setCell_other;intro e;apply h;injection e
theorem ah {a b:Bool} (h:a=b):Ending.returned (.bool b)=.returned (.bool a):=by rw [h]
theorem ax {a b:Int} (h:a=b):Ending.returned (.int .i64 b)=.returned (.int .i64 a):=by rw [h]
def Sl {α:Type} (R:World->List Value->α->Prop) (sz:Nat) (w:World) (v:Value) (xs:List α):Prop:=
 ∃ r cap,v=.slice r xs.length cap/\xs.length<=cap/\cap<=maxLen/\∀ (i:Nat) (h:i < xs.length),∃ b off cs,r=some ⟨b,off,none⟩/\cs.length=sz /\
  (∀ (j:Nat) (u:Value),cs[j]?=some u->w.cell? ⟨b,off+i * sz+j,none⟩=some u)/\R w cs (xs[i])
def Hr {α:Type} (R:World->List Value->α->Prop):Prop:=∀ w w' cs x,Below w.heap.size w w'->R w cs x->R w' cs x
theorem Sl.below {α:Type} {R:World->List Value->α->Prop} {sz:Nat} {w w':World} {v:Value} {xs:List α} (hm:Hr R) (hb:Below w.heap.size w w') (h:Sl R sz w v xs):Sl R sz w' v xs:=by
 obtain ⟨r,c,n,p,f,q⟩:=h;refine ⟨r,c,n,p,f,fun i m=>?_⟩;obtain ⟨b,d,g,l,s,a,k⟩:=q i m;exact ⟨b,d,g,l,s,fun j u o=>az hb (a j u o),hm _ _ _ _ hb k⟩
def Rt (_:World) (cs:List Value) (n:Int):Prop:=cs[0]?=some (.int .i64 n)/\ -9223372036854775808<=n/\n<=9223372036854775807
def lY (_:World) (cs:List Value) (s:ByteArray):Prop:=cs[0]?=some (.string s)/\s.size<=maxLen
theorem bP:Hr lY:=fun _ _ _ _ _ h=>h
theorem BI {α:Type} (n:Nat) (p:Nat->α->Prop) (h:∀ i,i < n->∃ x,p i x):∃ xs:List α,xs.length=n/\∀ (i:Nat) (hi:i < xs.length),p i (xs[i]):=by
 induction n with
 | zero=>exact ⟨[],rfl,fun i hi=>absurd hi (by simp)⟩
 | succ n ih =>
   obtain ⟨xs,b,c⟩:=ih fun i hi=>h i (by omega);obtain ⟨x,d⟩:=h n (by omega);refine ⟨xs ++ [x],by simp [b],fun i hi=>?_⟩
   by_cases a:i < xs.length
   . rw [List.getElem_append_left a];exact c i a
   . have:i=xs.length:=by simp at hi;omega
     subst this;simp only [List.getElem_concat_length];rw [b];exact d
theorem yH {w:World} {base:Nat} {a:Addr} {n:Nat} {cs:List Value} (h:w.cells? base a n=some cs):cs.length=n/\∀ (j:Nat) (u:Value),cs[j]?=some u->w.cell? (a.add j)=some u:=by
 unfold World.cells? at h;split at h
 case isFalse=>cases h
 have b:cs.length=n:=by simpa using mapM_some_length h
 refine ⟨b,fun j u c=>?_⟩;have d:j < cs.length:=(List.getElem?_eq_some_iff.1 c).1;have:=mapM_some_get h j j (by rw [List.getElem?_range (by omega)]);rw [this,c]
theorem jT {cs:List Value} {o:Nat} {v:Value} (h:(cs.drop o).take 1=[v]):cs[o]?=some v:=by
 have:((cs.drop o).take 1)[0]?=some v:=by rw [h];rfl
 simpa using this
theorem qw {H:Type} {enc:TypeId × Value->H} {P:Program} {w:World} {T:TypeId} {k:IntKind} {fuel o:Nat} {cs:List Value} {y:DataW H × List MemPlace}
  (hT:P.underlying T=some (.int k)) (h:DataW.trod enc P w 0 (fun _=>true) true fuel T ((cs.drop o).take 1)=some y):∃ n,cs[o]?=some (.int k n)/\(Lit.int k n).wf=true:=by
 obtain ⟨n,a,_,b⟩:=DataW.trod_int hT h;exact ⟨n,jT a,b⟩
theorem J7 {H:Type} {enc:TypeId × Value->H} {P:Program} {w:World} {T:TypeId} {fuel o:Nat} {cs:List Value} {y:DataW H × List MemPlace}
  (hT:P.underlying T=some .string) (h:DataW.trod enc P w 0 (fun _=>true) true fuel T ((cs.drop o).take 1)=some y):∃ s,cs[o]?=some (.string s)/\s.size<=maxLen:=by
 obtain ⟨s,a,_,b⟩:=DataW.trod_string hT h;exact ⟨s,jT a,b⟩
theorem rJ {H:Type} {enc:TypeId × Value->H} {P:Program} {w:World} {T:TypeId} {fuel o:Nat} {cs:List Value} {y:DataW H × List MemPlace}
  (hT:P.underlying T=some .bool) (h:DataW.trod enc P w 0 (fun _=>true) true fuel T ((cs.drop o).take 1)=some y):∃ b,cs[o]?=some (.bool b):=by
 obtain ⟨s,a,_⟩:=DataW.trod_bool hT h;exact ⟨s,jT a⟩
theorem bounds_i64 {n:Int} (h:(Lit.int .i64 n).wf=true):-9223372036854775808<=n/\n<=9223372036854775807:=by
 simpa [Lit.wf,IntKind.min,IntKind.max,IntKind.signed,IntKind.bits] using h
theorem iP {cs:List Value} {o:Nat} (ho:o < cs.length):(cs.drop o).take 1=[cs[o]]:=by
 apply List.ext_getElem
 . simp;omega
 . intro i b a;simp at b a;simp [a]
end Go.Proofs.YtomhbcfjhgecbaaGreatDoor
namespace Go.Proofs.YtomhbcfjhgecbaaGreatDoor
open Go.RowKit Go.Sort Go.Lib Go.Maps
theorem bi {α:Type} {R:World->List Value->α->Prop} {sz:Nat} {w:World} {r:Option Addr} {n c:Nat} {xs:List α} (h:Sl R sz w (.slice r n c) xs):n=xs.length/\n<=c/\c<=9223372036854775807:=by
 obtain ⟨d,f,e,b,a,_⟩:=h;simp at e;obtain ⟨rfl,rfl,rfl⟩:=e;unfold maxLen at a;exact ⟨rfl,b,by omega⟩
theorem iT {w:World} {r:Option Addr} {n c:Nat} {ks:List ByteArray} (h:Sl lY 1 w (.slice r n c) ks) (i:Nat) (hi:i < ks.length) :
  ∃ b off,r=some ⟨b,off,none⟩/\b < w.heap.size/\w.cell? ⟨b,off+i,none⟩=some (.string ks[i])/\(ks[i]).size<=maxLen:=by
 obtain ⟨o,m,e,p,q,j⟩:=h;simp at e;obtain ⟨rfl,rfl,rfl⟩:=e;obtain ⟨b,off,l,g,_,d,f,k⟩:=j i hi;have a:=d 0 _ f;simp only [Nat.add_zero,Nat.mul_one] at a;exact ⟨b,off,g,World.block_lt_of_cell? w _ a,a,k⟩
theorem wo {a b:ByteArray} (h:a.data.toList=b.data.toList):a=b:=by
 cases a;cases b;simp at h;subst h;rfl
theorem fP {x y:ByteArray} (h:x≠y):(x.toList == y.toList)=false:=by
 rw [beq_eq_false_iff_ne];intro e;apply h;rw [ByteArray.toList_eq,ByteArray.toList_eq] at e;exact wo e
theorem jU {x y:ByteArray} (h:x≠y):(x.toList != y.toList)=true:=by rw [bne,fP h];rfl
theorem bu {B:Nat} {a w:World} (h:Below B a w) (n:Nat):Below B a (w.drewN n):=h.trans ⟨rfl,rfl,rfl,Nat.le_refl _,fun _ _=>rfl⟩
end Go.Proofs.YtomhbcfjhgecbaaGreatDoor
namespace Go.Proofs.YtomhbcfjhgecbaaGreatDoor
open Go.RowKit Go.Sort Go.Lib
open Go.Lib (hid)
theorem flat_get {α:Type} (enc:α->List Value) (sz:Nat) (hsz:∀ x,(enc x).length=sz):∀ (xs:List α) (i:Nat) (hi:i < xs.length) (j:Nat),j < sz->(xs.flatMap enc)[i * sz+j]?=(enc (xs[i]))[j]?:=by
 intro xs
 induction xs with
 | nil=>intro i hi;exact absurd hi (by simp)
 | cons x xs ih =>
   intro i hi j a;rw [List.flatMap_cons];cases i with
   | zero=>rw [List.getElem?_append_left (by rw [hsz];omega)];simp
   | succ i =>
     have e:(i+1) * sz+j=(enc x).length+(i * sz+j):=by rw [hsz,Nat.add_mul];omega
     rw [e,List.getElem?_append_right (by omega),Nat.add_sub_cancel_left];simp only [List.getElem_cons_succ];exact ih i (by simpa using hi) j a
theorem iH {α:Type} (enc:α->List Value) (sz:Nat) (hsz:∀ x,(enc x).length=sz) (xs:List α):(xs.flatMap enc).length=xs.length * sz:=by
 induction xs with
 | nil=>simp
 | cons x xs ih=>rw [List.flatMap_cons,List.length_append,hsz,ih,List.length_cons,Nat.add_mul];omega
theorem jM {α:Type} (enc:α->List Value) {sz B:Nat} {e:TypeId} (hsz:∀ x,(enc x).length=sz) {w:World} {v:Value} {xs:List α} (h:w.ownsRow B e sz v xs.length (xs.flatMap enc)):Sl (fun _ cs (x:α)=>cs=enc x) sz w v xs:=by
 rcases h.2 with ⟨rfl,h0⟩ | ⟨g,cap,cur,rfl,hb,hg,hn,hc,hs,ht⟩
 . have:xs=[]:=List.eq_nil_of_length_eq_zero h0
   subst this;exact ⟨none,0,rfl,by simp,by simp,fun i a=>absurd a (by simp)⟩
 . refine ⟨some ⟨g,0,none⟩,cap,rfl,hn,hc,fun i a=>⟨g,0,enc xs[i],rfl,hsz _,fun j u d=>?_,rfl⟩⟩
   have b:j < sz:=by have:=(List.getElem?_eq_some_iff.1 d).1;rwa [hsz] at this
   have c:=flat_get enc sz hsz xs i a j b
   have f:i * sz+j < xs.length * sz:=by
    have:(i+1) * sz<=xs.length * sz:=Nat.mul_le_mul_right _ a;rw [Nat.add_mul,Nat.one_mul] at this;omega
   rw [<-ht,List.getElem?_take,if_pos f,Array.getElem?_toList] at c;unfold World.cell?;simp only [hg,Nat.zero_add];simp only [Option.isSome_none,Bool.false_eq_true,if_false];rw [c,d]
theorem je {α:Type} (enc:α->List Value) {sz bytes:Nat} {T E:TypeId} {z:Value} {w:World} {ops:Array Oper} {rest:List Oper} {o:Oper} {a:Act} {Q:Exit->Act->World->Prop} (hsz:∀ x,(enc x).length=sz) (hone:∀ x,∀ u∈enc x,u.oneCell'=true)
  (hT:Tryz.prog.underlying T=some (.slice E)) (hinfo:(Tryz.prog.info? E).map (fun i=>(i.zero,i.size,i.bytes))=some (some z,sz,bytes)) (hzs:z.cells.size=sz) (hpos:0 < sz) (hbytes:bytes<=1000)
  (hgd:o.guard=none) (s x:Operand) (ho:o.op=.call { callee:=.builtin .append,args:=#[s,x],argTypes:=#[T,T] })
  (B:Nat) (v:Value) (xs:List α) (hs:a.eval s=v) (hown:w.ownsRow B E sz v xs.length (xs.flatMap enc)) (nb m c:Nat) (ys:List α) (hm:ys.length=m) (hm0:0 < m) (hx:a.eval x=.slice (some ⟨nb,0,none⟩) m c)
  {fr:Nat × Nat} (hy:w.heap[nb]?=some (.cells (ys.flatMap enc).toArray E fr)) (hn:xs.length+m<=2000000) (hbase:B<=w.heap.size)
  (h:∀ g cap w',w'.ownsRow B E sz (.slice (some ⟨g,0,none⟩) (xs.length+m) cap) (xs ++ ys).length ((xs ++ ys).flatMap enc)->w.grownBy w' v.ownBlock->(v.ownBlock=some g ∨ g=w.heap.size)->g < w'.heap.size ->
   wpList Tryz.prog ops Q rest (a.put o.dst (.slice (some ⟨g,0,none⟩) (xs.length+m) cap)) w'):wpList Tryz.prog ops Q (o :: rest) a w:=by
 obtain ⟨n,p,f,b,k⟩:=info_parts hinfo;refine wpList_append_lies w hgd s x T ho B E n z sz bytes hT p f b k hzs hpos v xs.length (xs.flatMap enc) hs hown ⟨nb,0,none⟩ m c (ys.flatMap enc) hx (by rw [iH enc sz hsz,hm]) ?_ ?_ hm0 (by unfold maxLen;omega) ?_ hbase _ rfl ?_
 . intro j u q
   exact World.news_of_block hy j u (by simpa using q)
 . intro u r
   obtain ⟨y,_,d⟩:=List.mem_flatMap.1 r;exact hone y u d
 . have:(xs.length+m) * bytes<=2000000 * 1000:=Nat.mul_le_mul hn hbytes
   omega
 . intro g cap w' t A C l
   refine h g cap w' ?_ A C l;rw [List.flatMap_append,List.length_append,hm];exact t
theorem kK {α:Type} (encf:α->List Value) {sz bytes:Nat} {T E:TypeId} {z:Value} {w:World} {ops:Array Oper} {o:Oper} {a:Act} {K:Act->World->Prop} {Q:Exit->Act->World->Prop} {F:Prop} (hsz:∀ x,(encf x).length=sz) (hone:∀ x,∀ u∈encf x,u.oneCell'=true)
  (hT:Tryz.prog.underlying T=some (.slice E)) (hinfo:(Tryz.prog.info? E).map (fun i=>(i.zero,i.size,i.bytes))=some (some z,sz,bytes)) (hzs:z.cells.size=sz) (hpos:0 < sz) (hbytes:bytes<=1000)
  (hgd:o.guard=none) (s x:Operand) (ho:o.op=.call { callee:=.builtin .append,args:=#[s,x],argTypes:=#[T,T] })
  (B:Nat) (v:Value) (xs:List α) (hs:a.eval s=v) (hown:w.ownsRow B E sz v xs.length (xs.flatMap encf)) (nb c:Nat) (y:α) (hx:a.eval x=.slice (some ⟨nb,0,none⟩) 1 c)
  {fr:Nat × Nat} (hy:w.heap[nb]?=some (.cells (encf y).toArray E fr)) (hn:xs.length+1<=2000000) (hbase:B<=w.heap.size) (H:Nat) (hH:w.heap.size=H)
  (h:∀ g cap w',w'.ownsRow B E sz (.slice (some ⟨g,0,none⟩) (xs.length+1) cap) (xs ++ [y]).length ((xs ++ [y]).flatMap encf)->w.grownBy w' v.ownBlock->(v.ownBlock=some g ∨ g=H)->g < w'.heap.size->K (a.put o.dst (.slice (some ⟨g,0,none⟩) (xs.length+1) cap)) w') :
  if Region.wanted o (yielded ops a.tmps)=true then Oper.wp Tryz.prog o a w K Q else F:=by
 obtain ⟨l,m,f,d,b⟩:=info_parts hinfo;refine step_append_lies w hgd s x T ho B E l z sz bytes hT m f d b hzs hpos v xs.length (xs.flatMap encf) hs hown ⟨nb,0,none⟩ 1 c (encf y) hx (by rw [hsz];omega) ?_ (hone y) (by omega) (by unfold maxLen;omega) ?_ hbase H hH ?_
 . intro j u p
   exact World.news_of_block hy j u (by simpa using p)
 . have:(xs.length+1) * bytes<=2000000 * 1000:=Nat.mul_le_mul hn hbytes
   omega
 . intro g cap w' q r n k
   refine h g cap w' ?_ r n k;rw [List.flatMap_append,List.length_append];simpa using q
def encS (s:ByteArray):List Value:=[.string s]
theorem Dx:∀ x,(encS x).length=1:=fun _=>rfl
theorem MM:∀ x,∀ u∈encS x,u.oneCell'=true:=fun x u hu=>by
 simp only [encS,List.mem_cons,List.mem_nil_iff,or_false] at hu;subst hu;rfl
theorem Pm:(Tryz.prog.info? 9).map (fun i=>(i.zero,i.size,i.bytes))=some (some (.string ByteArray.empty),1,16):=by kernel_rfl
theorem um (w:World) (o:Obj):Below w.heap.size w ((w.alloc o).drew):=((Below.refl _ _).alloc (Nat.le_refl _) _).drew
theorem dJ {w:World} {B sz n:Nat} {e:TypeId} {v:Value} {xs:List Value} (h:w.ownsRow B e sz v n xs):∃ r c,v=.slice r n c/\n<=c/\c<=maxLen:=by
 rcases h.2 with ⟨rfl,rfl⟩ | ⟨g,cap,cur,rfl,_,_,h1,h2,_⟩
 . exact ⟨none,0,rfl,by simp,by simp⟩
 . exact ⟨_,cap,rfl,h1,h2⟩
theorem IZ {w:World} {v:Value} {ks:List ByteArray} (h:Sl lY 1 w v ks):∀ k∈ks,k.size<=maxLen:=fun k hk=>by
 obtain ⟨i,hi,rfl⟩:=List.mem_iff_getElem.1 hk;obtain ⟨_,_,_,_,_,he⟩:=h;obtain ⟨_,_,_,_,_,_,_,hs⟩:=he i hi;exact hs
theorem aX {w:World} {cs:Array Value} {T b o:Nat} {v:Value} (hb:b=w.heap.size) (hv:cs[o]?=some v):(w.alloc (.cells cs T)).cell? ⟨b,o,none⟩=some v:=by
 subst hb;unfold World.cell?;rw [(MapKept.heap_alloc w _).1];simpa using hv
theorem lt_of_block {w:World} {b:Nat} {o:Obj} (h:w.heap[b]?=some o):b < w.heap.size:=(Array.getElem?_eq_some_iff.1 h).1
def oW (B:Nat) (w:World) (v:Value) (xs:List ByteArray):Prop:=w.ownsRow B 9 1 v xs.length (xs.flatMap encS)/\∀ x∈xs,x.size<=maxLen
theorem LH (B:Nat) (w:World):oW B w (.slice none 0 0) []:=⟨World.ownsRow_nil w B _ 1,by simp⟩
theorem dw {B:Nat} {w w':World} {v:Value} {e:TypeId} {sz n:Nat} {row:Option Nat} {xs:List Value} (h:w.ownsRow B e sz v n xs) (hg:w.grownBy w' row) (hr:∀ g,v.ownBlock=some g->row≠some g):w'.ownsRow B e sz v n xs:=
 h.kept hg (by
  cases hv:v.ownBlock with
  | none=>exact .inl rfl
  | some g=>right;exact fun e=>hr g hv e.symm)
theorem oW.kept {B:Nat} {w w':World} {v:Value} {row:Option Nat} {xs:List ByteArray} (h:oW B w v xs) (hg:w.grownBy w' row) (hr:∀ g,v.ownBlock=some g->row≠some g):oW B w' v xs:=⟨dw h.1 hg hr,h.2⟩
theorem grown_below {w w':World} (hb:Below w.heap.size w w'):w.grownBy w' none:=⟨hb.os,hb.tape,hb.output,hb.size,fun k hk _=>hb.block k hk⟩
theorem oW.below {B:Nat} {w w':World} {v:Value} {xs:List ByteArray} (h:oW B w v xs) (hb:Below w.heap.size w w'):oW B w' v xs:=h.kept (grown_below hb) (fun _ _ h=>by cases h)
theorem oW.lt {B:Nat} {w:World} {v:Value} {xs:List ByteArray} (h:oW B w v xs):∀ g,v.ownBlock=some g->B<=g/\g < w.heap.size:=h.1.lt
theorem oW.form {B:Nat} {w:World} {v:Value} {xs:List ByteArray} (h:oW B w v xs):∃ r c,v=.slice r xs.length c/\xs.length<=c/\c<=maxLen:=dJ h.1
theorem oW.sl {B:Nat} {w:World} {v:Value} {xs:List ByteArray} (h:oW B w v xs):Sl lY 1 w v xs:=by
 obtain ⟨r,c,e,l,n,m⟩:=jM encS Dx h.1;refine ⟨r,c,e,l,n,fun i a=>?_⟩;obtain ⟨b,d,j,k,o,f,g⟩:=m i a;exact ⟨b,d,j,k,o,f,by rw [g];rfl,h.2 _ (List.getElem_mem a)⟩
def Um (B:Nat) (w:World) (v:Value) (xs:List ByteArray) (H:Nat) (g cap:Nat) (w':World):Prop:=
 oW B w' (.slice (some ⟨g,0,none⟩) xs.length cap) xs/\w.grownBy w' v.ownBlock/\(v.ownBlock=some g ∨ g=H)/\g < w'.heap.size
section
variable {w:World} {ops:Array Oper} {rest:List Oper} {o:Oper} {a:Act} {Q:Exit->Act->World->Prop}
theorem Ij (hgd:o.guard=none) (s x:Operand) (ho:o.op=.call { callee:=.builtin .append,args:=#[s,x],argTypes:=#[37,37] })
  (B:Nat) (v:Value) (xs:List ByteArray) (hs:a.eval s=v) (hown:oW B w v xs) (nb c:Nat) (y:ByteArray) (hx:a.eval x=.slice (some ⟨nb,0,none⟩) 1 c) {fr:Nat × Nat} (hy:w.heap[nb]?=some (.cells #[.string y] 9 fr)) (hys:y.size<=maxLen)
  (hn:xs.length+1<=2000000) (hbase:B<=w.heap.size) (H:Nat) (hH:w.heap.size=H)
  (h:∀ g cap w',Um B w v (xs ++ [y]) H g cap w'->wpList Tryz.prog ops Q rest (a.put o.dst (.slice (some ⟨g,0,none⟩) (xs.length+1) cap)) w'):wpList Tryz.prog ops Q (o :: rest) a w:=by
 subst hH;refine je encS Dx MM Tryz.underlying37 Pm rfl (by omega) (by omega) hgd s x ho B v xs hs hown.1 nb 1 c [y] rfl (by omega) hx (fr:=fr) hy hn hbase ?_;intro g cap w' i j f d;refine h g cap w' ⟨⟨?_,?_⟩,j,f,d⟩
 . simpa using i
 . intro z b
   rw [List.mem_append] at b;rcases b with b | b
   . exact hown.2 z b
   . simp at b;subst b;exact hys
end
section
variable {w:World} {ops:Array Oper} {o:Oper} {a:Act} {K:Act->World->Prop} {Q:Exit->Act->World->Prop} {F:Prop}
end
end Go.Proofs.YtomhbcfjhgecbaaGreatDoor
namespace Go.Proofs.YtomhbcfjhgecbaaGreatDoor
inductive Val where
 | mk (kind num:Int) (str:ByteArray) (items:List Val) (keys:List ByteArray)
namespace Val
def kind:Val->Int | .mk k _ _ _ _=>k
def num:Val->Int | .mk _ n _ _ _=>n
def str:Val->ByteArray | .mk _ _ s _ _=>s
def items:Val->List Val | .mk _ _ _ is _=>is
def keys:Val->List ByteArray | .mk _ _ _ _ ks=>ks
theorem GH:∀ (x y:Val),y∈x.items->SizeOf.sizeOf y < SizeOf.sizeOf x
 | .mk k n s is ks,y,h=>by
   have:=List.sizeOf_lt_of_mem (show y∈is from h);simp;omega
theorem ind {P:Val->Prop} (h:∀ x:Val,(∀ y∈x.items,P y)->P x) (x:Val):P x:=
 h x fun y hy=>have:=GH x y hy;ind h y
termination_by SizeOf.sizeOf x
end Val
mutual
def nodes:Val->Nat
 | .mk _ _ _ is _=>1+gq is
def gq:List Val->Nat
 | []=>0
 | x :: xs=>nodes x+gq xs
end
mutual
def gX:Val->Nat
 | .mk _ _ _ is ks=>ks.length+fM is
def fM:List Val->Nat
 | []=>0
 | x :: xs=>gX x+fM xs
end
mutual
def leftV:Val->Int->Int->Int
 | .mk _ _ _ is _,n,l=>if n < 1 ∨ l < 1 then -1 else dM is (n - 1) (l - 1)
def dM:List Val->Int->Int->Int
 | [],n,_=>n
 | x :: xs,n,l=>if 0<=n then dM xs (leftV x n l) l else n
end
mutual
def depth:Val->Nat
 | .mk _ _ _ is _=>1+mX is
def mX:List Val->Nat
 | []=>0
 | x :: xs=>max (depth x) (mX xs)
end
theorem zq (x:Val):1<=nodes x:=by cases x;unfold nodes;omega
theorem nM (x:Val):nodes x=1+gq x.items:=by cases x;rw [nodes];rfl
theorem tV (x:Val):gX x=x.keys.length+fM x.items:=by cases x;rw [gX];rfl
theorem Ew (x:Val) (n l:Int):leftV x n l=if n < 1 ∨ l < 1 then -1 else dM x.items (n - 1) (l - 1):=by cases x;rw [leftV];rfl
theorem DU (x:Val):depth x=1+mX x.items:=by cases x;rw [depth];rfl
theorem Jm {is:List Val} {x:Val} (h:x∈is):nodes x<=gq is:=by
 induction is with
 | nil=>cases h
 | cons y ys ih =>
   rw [gq];rcases List.mem_cons.1 h with rfl | h
   . omega
   . have:=ih h;omega
theorem qP (a b:List Val):fM (a ++ b)=fM a+fM b:=by
 induction a with
 | nil=>simp [fM]
 | cons y ys ih=>simp only [List.cons_append,fM,ih];omega
theorem Gp (is:List Val):is.length<=gq is:=by
 induction is with
 | nil=>simp
 | cons y ys ih=>have:=zq y;simp [gq];omega
theorem vz (is:List Val) (n l:Int) (h:n < 0):dM is n l=n:=by
 cases is with
 | nil=>rw [dM]
 | cons x xs=>rw [dM,if_neg (by omega)]
theorem rX (a b:List Val) (n l:Int):dM (a ++ b) n l=dM b (dM a n l) l:=by
 induction a generalizing n with
 | nil=>rw [List.nil_append,dM]
 | cons x xs ih =>
   rw [List.cons_append,dM,dM]
   by_cases h:0<=n
   . rw [if_pos h,if_pos h,ih]
   . rw [if_neg h,if_neg h,vz b n l (by omega)]
theorem uq (x:Val):∀ n l:Int,(0<=leftV x n l->leftV x n l=n - nodes x/\(depth x:Int)<=l)/\ -1<=leftV x n l:=by
 refine Val.ind (P:=fun x=>∀ n l:Int,(0<=leftV x n l->leftV x n l=n - nodes x/\(depth x:Int)<=l)/\ -1<=leftV x n l) ?_ x;intro x q n l;rw [Ew,nM,DU]
 by_cases h:n < 1 ∨ l < 1
 . rw [if_pos h];exact ⟨fun h=>by omega,by omega⟩
 . rw [if_neg h]
   have k:∀ (a:List Val),(∀ y∈a,∀ n l:Int,(0<=leftV y n l->leftV y n l=n - nodes y/\(depth y:Int)<=l)/\ -1<=leftV y n l)->∀ (m l:Int),-1<=m->0<=l ->
     (0<=dM a m l->dM a m l=m - gq a/\(mX a:Int)<=l)/\ -1<=dM a m l:=by
    intro a
    induction a with
    | nil=>intro _ m l f d;rw [dM,gq,mX];exact ⟨fun _=>⟨by simp,by simpa using d⟩,f⟩
    | cons y ys ihy =>
      intro o m l f d;rw [dM,gq,mX]
      by_cases j:0<=m
      . rw [if_pos j]
        obtain ⟨g,i⟩:=o y (List.mem_cons_self) m l;obtain ⟨u,p⟩:=ihy (fun z s=>o z (List.mem_cons_of_mem _ s)) (leftV y m l) l i d;refine ⟨fun b=>?_,p⟩
        have v:0<=leftV y m l:=by
         apply Decidable.byContradiction;intro B;rw [vz ys _ l (by omega)] at b;omega
        obtain ⟨c,r⟩:=g v;obtain ⟨t,A⟩:=u b;refine ⟨by rw [t,c];omega,by omega⟩
      . rw [if_neg j]
        exact ⟨fun h=>by omega,f⟩
   obtain ⟨g,i⟩:=k x.items q (n - 1) (l - 1) (by omega) (by omega);refine ⟨fun b=>?_,i⟩;obtain ⟨c,r⟩:=g b;exact ⟨by rw [c];omega,by omega⟩
def ig (x:Val) (k:Nat):Bool:=decide (0<=leftV x k 40) && decide (gX x<=2 * k)
theorem yu {x:Val} {k:Nat} (h:ig x k=true):nodes x<=k/\gX x<=2 * k/\depth x<=40:=by
 simp only [ig,Bool.and_eq_true,decide_eq_true_eq] at h;obtain ⟨a,b⟩:=(uq x k 40).1 h.1;refine ⟨by omega,h.2,by omega⟩
end Go.Proofs.YtomhbcfjhgecbaaGreatDoor
namespace Go.Proofs.YtomhbcfjhgecbaaGreatDoor
open Go.RowKit Go.Sort
inductive VR (w:World):List Value->Val->Prop where
 | mk (k n:Int) (s:ByteArray) (is:List Val) (ks:List ByteArray) (r:Option Addr) (b off c:Nat) (cs:Nat->List Value) (vK:Value)
    (hk:-9223372036854775808<=k/\k<=9223372036854775807) (hn:-9223372036854775808<=n/\n<=9223372036854775807) (hs:s.size<=maxLen)
    (hl:is.length<=c) (hc:c<=maxLen) (hr:is≠[]->r=some ⟨b,off,none⟩) (h5:∀ i,i < is.length->(cs i).length=5)
    (hcell:∀ (i j:Nat) (u:Value),i < is.length->(cs i)[j]?=some u->w.cell? ⟨b,off+i * 5+j,none⟩=some u)
    (hR:∀ (i:Nat) (h:i < is.length),VR w (cs i) is[i]) (hK:Sl lY 1 w vK ks) (hkl:ks.length<=10000000000000) (hil:is.length<=10000000000000):VR w [.int .i64 k,.int .i64 n,.string s,.slice r is.length c,vK] (.mk k n s is ks)
def jD (n:Int):Prop:=-9223372036854775808<=n/\n<=9223372036854775807
theorem VR.open' {w:World} {cs:List Value} {x:Val} (h:VR w cs x):∃ r c vK,cs=[.int .i64 x.kind,.int .i64 x.num,.string x.str,.slice r x.items.length c,vK]/\Sl VR 5 w (.slice r x.items.length c) x.items/\Sl lY 1 w vK x.keys /\
  jD x.kind/\jD x.num/\x.str.size<=maxLen/\x.keys.length<=10000000000000/\x.items.length<=10000000000000:=by
 cases h with
 | mk k n s is ks r b off c cs vK hk hn hs hl hc hr h5 hcell hR hK hkl hil =>
   refine ⟨r,c,vK,rfl,⟨r,c,rfl,hl,hc,fun i a=>⟨b,off,cs i,hr (fun e=>by simp only [Val.items] at a;rw [e] at a;simp at a),h5 i a,fun j u d=>hcell i j u a d,hR i a⟩⟩,hK,hk,hn,hs,hkl,hil⟩
theorem VR.make {w:World} {x:Val} {r:Option Addr} {c:Nat} {vK:Value} (hI:Sl VR 5 w (.slice r x.items.length c) x.items) (hK:Sl lY 1 w vK x.keys) (hk:jD x.kind) (hn:jD x.num) (hs:x.str.size<=maxLen) (hkl:x.keys.length<=10000000000000) (hil:x.items.length<=10000000000000) :
  VR w [.int .i64 x.kind,.int .i64 x.num,.string x.str,.slice r x.items.length c,vK] x:=by
 obtain ⟨M,O,E,v,B,F⟩:=hI;simp at E;obtain ⟨rfl,rfl⟩:=E;obtain ⟨k,n,s,l,C⟩:=x;simp only [Val.kind,Val.num,Val.str,Val.items,Val.keys] at *;cases G:r with
 | none =>
   have q:l=[]:=by
    cases l with
    | nil=>rfl
    | cons y ys=>obtain ⟨b,d,g,m,_⟩:=F 0 (by simp);rw [G] at m;cases m
   subst q;exact .mk k n s [] C none 0 0 c (fun _=>[]) vK hk hn hs v B (fun h=>absurd rfl h) (fun i h=>absurd h (by simp)) (fun i j u h=>absurd h (by simp)) (fun i h=>absurd h (by simp)) hK hkl hil
 | some a =>
   have D:∃ g:Nat->List Value,∀ i (h:i < l.length),∃ b d,some a=some ⟨b,d,none⟩/\(g i).length=5/\(∀ (j:Nat) (u:Value),(g i)[j]?=some u->w.cell? ⟨b,d+i * 5+j,none⟩=some u)/\VR w (g i) l[i]:=by
    have A:∀ i,∃ g:List Value,∀ (h:i < l.length),∃ b d,some a=some ⟨b,d,none⟩/\g.length=5/\(∀ (j:Nat) (u:Value),g[j]?=some u->w.cell? ⟨b,d+i * 5+j,none⟩=some u)/\VR w g l[i]:=fun i=>by
     by_cases h:i < l.length
     . obtain ⟨b,d,g,m,J⟩:=F i h
       exact ⟨g,fun _=>⟨b,d,by rw [<-G];exact m,J⟩⟩
     . exact ⟨[],fun L=>absurd L h⟩
    obtain ⟨f,K⟩:=Classical.skolem.1 A;exact ⟨f,K⟩
   obtain ⟨g,t⟩:=D
   by_cases q:l=[]
   . subst q
     exact .mk k n s [] C (some a) 0 0 c (fun _=>[]) vK hk hn hs v B (fun h=>absurd rfl h) (fun i h=>absurd h (by simp)) (fun i j u h=>absurd h (by simp)) (fun i h=>absurd h (by simp)) hK hkl hil
   . have z:0 < l.length:=List.length_pos_iff.2 q
     obtain ⟨b,d,H,_⟩:=t 0 z
     have o:∀ i (h:i < l.length),(g i).length=5/\(∀ (j:Nat) (u:Value),(g i)[j]?=some u->w.cell? ⟨b,d+i * 5+j,none⟩=some u)/\VR w (g i) l[i]:=fun i h=>by
      obtain ⟨N,I,p,m⟩:=t i h;rw [H] at p;simp at p;obtain ⟨rfl,rfl⟩:=p;exact m
     exact .mk k n s l C (some a) b d c g vK hk hn hs v B (fun _=>H) (fun i h=>(o i h).1) (fun i j u h=>(o i h).2.1 j u) (fun i h=>(o i h).2.2) hK hkl hil
theorem I9:Hr VR:=by
 intro w l d x a h
 induction h with
 | mk k n s is ks r b off c d vK hk hn hs hl hc hr h5 hcell hR hK hkl hil ih =>
   exact .mk k n s is ks r b off c d vK hk hn hs hl hc hr h5 (fun i j u f g=>az a (hcell i j u f g)) (fun i h=>ih i h) (hK.below bP a) hkl hil
theorem Jj {cs:List Value} {a b c d e:Value} (h:cs.length=5) (h0:cs[0]?=some a) (h1:cs[1]?=some b) (h2:cs[2]?=some c) (h3:cs[3]?=some d) (h4:cs[4]?=some e):cs=[a,b,c,d,e]:=by
 match cs,h with
 | [x,y,z,u,v],_=>simp at h0 h1 h2 h3 h4;subst h0 h1 h2 h3 h4;rfl
end Go.Proofs.YtomhbcfjhgecbaaGreatDoor
namespace Go.Proofs.YtomhbcfjhgecbaaGreatDoor.Blk
open Go.RowKit Go.Sort Go.ChangeShapes Go.WideShapes Go.ChangeAt
def Bk {H:Type} (B:Nat) (d:DataW H):Prop:=Rows.uptoBulk d<=B
theorem Q5 {H:Type} (d:DataW H):1<=Rows.uptoBulk d:=by
 cases d with
 | lit l=>cases l <;> simp [Rows.uptoBulk]
 | nil=>simp [Rows.uptoBulk]
 | ptr d=>simp [Rows.uptoBulk]
 | slice elems spare=>simp [Rows.uptoBulk]
 | agg parts=>simp [Rows.uptoBulk]
 | iface t d=>simp [Rows.uptoBulk]
 | map entries=>simp [Rows.uptoBulk]
 | held h=>simp [Rows.uptoBulk]
theorem Aq {H:Type} {d:DataW H} : ∀ {l:List (DataW H)},d∈l->Rows.uptoBulk d<=Rows.uptoBulkAll l
 | x :: r,h=>by
   rw [Rows.uptoBulkAll];rcases List.mem_cons.1 h with rfl | h
   . omega
   . have:=Aq h;omega
theorem length_le {H:Type} : ∀ l:List (DataW H),l.length<=Rows.uptoBulkAll l
 | []=>by simp [Rows.uptoBulkAll]
 | x :: r=>by have:=Q5 x;have:=length_le r;simp only [Rows.uptoBulkAll,List.length_cons];omega
theorem Bk.elem {H:Type} {B:Nat} {es rest:List (DataW H)} (h:Bk B (.slice es rest)) {d:DataW H} (hd:d∈es):Bk B d:=by
 have:=Aq hd;simp only [Bk,Rows.uptoBulk] at *;omega
theorem Bk.len {H:Type} {B:Nat} {es rest:List (DataW H)} (h:Bk B (.slice es rest)):es.length<=B:=by
 have:=length_le es;simp only [Bk,Rows.uptoBulk] at *;omega
theorem Bk.part {H:Type} {B:Nat} {ps:List (DataW H)} (h:Bk B (.agg ps)) {d:DataW H} (hd:d∈ps):Bk B d:=by
 have:=Aq hd;simp only [Bk,Rows.uptoBulk] at *;omega
theorem oz {α H:Type} {enc:TypeId × Value->H} {P:Program} {w:World} {sz:Nat} {T E:TypeId} {fuel:Nat} {v:Value} {x:DataW H × List MemPlace} (R:World->List Value->α->Prop) (B:Nat)
  (hT:P.underlying T=some (.slice E)) (hE:P.cellsOf E=sz) (hsz:0 < sz)
  (hR:∀ fuel',fuel' < fuel->∀ cs y,cs.length=sz->Bk B y.1->DataW.trod enc P w 0 (fun _=>true) true fuel' E cs=some y->∃ z,R w cs z)
  (hw:Bk B x.1) (h:DataW.trod enc P w 0 (fun _=>true) true fuel T [v]=some x):∃ xs,Sl R sz w v xs/\xs.length<=B:=by
 rcases DataW.trod_slice hT h with ⟨hv,_⟩ | ⟨a,len,cap,elems,rest,m,hm,hv,hx,_,hl,hc,b,hget,_,_⟩
 . simp at hv;subst hv
   exact ⟨[],⟨none,0,rfl,Nat.le_refl _,by simp,fun i f=>absurd f (by simp)⟩,by simp⟩
 . simp at hv;subst hv
   subst hx
   have o:∀ i,i < len->∃ d z,w.cells? 0 (a.add (i * P.cellsOf E)) (P.cellsOf E)=some d/\DataW.trod enc P w 0 (fun _=>true) true m E d=some z/\Bk B z.1:=fun i f=>by
    have k:=hget i f;rw [List.getElem?_eq_getElem (by omega)] at k;obtain ⟨d,J,L⟩:=Option.bind_eq_some_iff.1 k;exact ⟨d,_,J,L,hw.elem (List.mem_map_of_mem (List.getElem_mem _))⟩
   have r:∀ i,i < len->∃ z,∃ cs,cs.length=sz/\(∀ (j:Nat) (u:Value),cs[j]?=some u->w.cell? ⟨a.block,a.off+i * sz+j,none⟩=some u)/\a.spot=none/\R w cs z:=by
    intro i f
    have p:a.spot=none:=by
     obtain ⟨cs,_,g,_⟩:=o 0 (by omega);obtain ⟨b,c⟩:=yH g;have t:0 < cs.length:=by omega
     have:=c 0 cs[0] (List.getElem?_eq_getElem t);simp [Addr.add] at this;unfold World.cell? at this;split at this
     . split at this
       . cases this
       . rename_i hsp;simpa using hsp
     . cases this
    obtain ⟨cs,y,g,s,D⟩:=o i (by omega);obtain ⟨b,c⟩:=yH g;rw [hE] at b;obtain ⟨z,O⟩:=hR m (by omega) _ _ b D s;refine ⟨z,cs,b,fun j u K=>?_,p,O⟩;have:=c j u K;rw [hE] at this
    have e:(a.add (i * sz)).add j=⟨a.block,a.off+i * sz+j,none⟩:=by
     obtain ⟨M,N,C⟩:=a;simp at p;subst p;unfold Addr.add
     by_cases G:i * sz=0 <;> by_cases q:j=0 <;> simp [G,q]
    rw [e] at this;exact this
   obtain ⟨xs,n,A⟩:=BI len _ r;have l:=hw.len;rw [List.length_map,b] at l;refine ⟨xs,⟨some a,cap,by rw [n],by omega,hc,fun i f=>?_⟩,by rw [n];exact l⟩;obtain ⟨cs,k,Q,F,I⟩:=A i f;refine ⟨a.block,a.off,cs,?_,k,Q,I⟩;obtain ⟨M,N,C⟩:=a;simp at F;simp [F]
theorem pR {H:Type} {enc:TypeId × Value->H} {P:Program} {w:World} {T:TypeId} {fs:Array Field} {fuel B:Nat} {cs:List Value} {x:DataW H × List MemPlace}
  (hT:P.underlying T=some (.struct fs)) (hb:Bk B x.1) (h:DataW.trod enc P w 0 (fun _=>true) true fuel T cs=some x) :
  cs.length=P.cellsOf T/\∃ n,fuel=n+1/\∀ (k:Nat) (f:Field),fs[k]?=some f->∃ y,DataW.trod enc P w 0 (fun _=>true) true n f.type ((cs.drop f.offset).take (P.cellsOf f.type))=some y/\Bk B y.1:=by
 obtain ⟨b,n,rfl,g,j,c,i⟩:=DataW.trod_struct hT h;subst g;refine ⟨j,n,rfl,fun k f d=>?_⟩;have a:k < b.length:=by rw [c];exact (Array.getElem?_eq_some_iff.1 d).1
 refine ⟨b[k],(i k f d).trans (List.getElem?_eq_getElem a),hb.part (List.mem_map_of_mem (List.getElem_mem a))⟩
theorem Lt {H:Type} {enc:TypeId × Value->H} {P:Program} {w:World} {T:TypeId} {fuel B:Nat} {cs:List Value} {x:DataW H × List MemPlace} (hT:P.underlying T=some .string) (hb:Bk B x.1) (h:DataW.trod enc P w 0 (fun _=>true) true fuel T cs=some x) :
  ∃ s:ByteArray,cs=[.string s]/\s.size<=maxLen/\s.size<=B:=by
 obtain ⟨s,b,a,c⟩:=DataW.trod_string hT h;subst a;refine ⟨s,b,c,?_⟩;have:s.data.toList.length=s.size:=by simp
 simp only [Bk,Rows.uptoBulk] at hb;omega
def Vd (B:Nat) (w:World) (cs:List Value) (x:ByteArray):Prop:=lY w cs x/\x.size<=B
theorem EL {H:Type} {enc:TypeId × Value->H} {P:Program} {w:World} {T:TypeId} {B:Nat} (hT:P.underlying T=some .string):∀ fuel cs (y:DataW H × List MemPlace),Bk B y.1->DataW.trod enc P w 0 (fun _=>true) true fuel T cs=some y->∃ z,Vd B w cs z:=by
 intro fuel cs y a h;obtain ⟨s,d,c,b⟩:=Lt hT a h;subst d;exact ⟨s,⟨rfl,c⟩,b⟩
theorem Ce {α:Type} {R R':World->List Value->α->Prop} {sz:Nat} {w:World} {v:Value} {xs:List α} (hR:∀ cs x,R w cs x->R' w cs x) (h:Sl R sz w v xs):Sl R' sz w v xs:=by
 obtain ⟨r,c,e,k,m,l⟩:=h;refine ⟨r,c,e,k,m,fun i j=>?_⟩;obtain ⟨b,a,cs,g,n,d,f⟩:=l i j;exact ⟨b,a,cs,g,n,d,hR _ _ f⟩
theorem BH {α:Type} {R:World->List Value->α->Prop} {p:α->Prop} {sz:Nat} {w:World} {v:Value} {xs:List α} (hR:∀ cs x,R w cs x->p x) (h:Sl R sz w v xs):∀ x∈xs,p x:=by
 obtain ⟨r,c,e,l,m,f⟩:=h;intro x a;obtain ⟨i,d,rfl⟩:=List.mem_iff_getElem.1 a;obtain ⟨b,g,cs,k,n,j,a⟩:=f i d;exact hR _ _ a
theorem fZ {H:Type} {enc:TypeId × Value->H} {P:Program} {w:World} {T:TypeId} {fuel o B:Nat} {cs:List Value} {y:DataW H × List MemPlace} (hT:P.underlying T=some .string) (hb:Bk B y.1) (h:DataW.trod enc P w 0 (fun _=>true) true fuel T ((cs.drop o).take 1)=some y) :
  ∃ s,cs[o]?=some (.string s)/\s.size<=maxLen/\s.size<=B:=by
 obtain ⟨s,b,c,a⟩:=Lt hT hb h;exact ⟨s,jT b,c,a⟩
theorem sH {H:Type} {enc:TypeId × Value->H} {P:Program} {w:World} {T E:TypeId} {fuel o B:Nat} {cs:List Value} {y:DataW H × List MemPlace} (hT:P.underlying T=some (.slice E)) (hE:P.underlying E=some .string) (hc:P.cellsOf E=1) (ho:o < cs.length) (hb:Bk B y.1)
  (h:DataW.trod enc P w 0 (fun _=>true) true fuel T ((cs.drop o).take 1)=some y):∃ v xs,cs[o]?=some v/\Sl lY 1 w v xs/\xs.length<=B/\∀ x∈xs,x.size<=B:=by
 rw [iP ho] at h;obtain ⟨xs,a,b⟩:=oz (Vd B) B hT hc (by omega) (fun _ _ cs y _ hb h=>EL hE _ cs y hb h) hb h;exact ⟨_,xs,List.getElem?_eq_getElem ho,Ce (fun _ _ h=>h.1) a,b,BH (fun _ _ h=>h.2) a⟩
theorem rM {α H:Type} {enc:TypeId × Value->H} {P:Program} {w:World} {sz:Nat} {T E:TypeId} {fuel o B:Nat} {cs:List Value} {y:DataW H × List MemPlace} (R:World->List Value->α->Prop) (hT:P.underlying T=some (.slice E)) (hE:P.cellsOf E=sz) (hsz:0 < sz) (ho:o < cs.length)
  (hR:∀ fuel' cs y,cs.length=sz->Bk B y.1->DataW.trod enc P w 0 (fun _=>true) true fuel' E cs=some y->∃ z,R w cs z) (hb:Bk B y.1)
  (h:DataW.trod enc P w 0 (fun _=>true) true fuel T ((cs.drop o).take 1)=some y):∃ v xs,cs[o]?=some v/\Sl R sz w v xs/\xs.length<=B:=by
 rw [iP ho] at h;obtain ⟨xs,a,c⟩:=oz R B hT hE hsz (fun f _ cs y b hb h=>hR f cs y b hb h) hb h;exact ⟨_,xs,List.getElem?_eq_getElem ho,a,c⟩
theorem Cj {H:Type} {enc:TypeId × Value->H} {P:Program} {w:World} {T TK TN TS TI TL:TypeId} {fs:Array Field} {B:Nat} (hB:B<=10000000000000) (hT:P.underlying T=some (.struct fs)) (hc5:P.cellsOf T=5)
  (f0:∃ f,fs[0]?=some f/\f.type=TK/\f.offset=0) (f1:∃ f,fs[1]?=some f/\f.type=TN/\f.offset=1) (f2:∃ f,fs[2]?=some f/\f.type=TS/\f.offset=2) (f3:∃ f,fs[3]?=some f/\f.type=TI/\f.offset=3) (f4:∃ f,fs[4]?=some f/\f.type=TL/\f.offset=4)
  (uK:P.underlying TK=some (.int .i64)) (cK:P.cellsOf TK=1) (uN:P.underlying TN=some (.int .i64)) (cN:P.cellsOf TN=1) (uS:P.underlying TS=some .string) (cS:P.cellsOf TS=1)
  (uI:P.underlying TI=some (.slice T)) (cI:P.cellsOf TI=1) (uL:P.underlying TL=some (.slice TS)) (cL:P.cellsOf TL=1) :
  ∀ (fuel:Nat) (cs:List Value) (y:DataW H × List MemPlace),cs.length=5->Bk B y.1->DataW.trod enc P w 0 (fun _=>true) true fuel T cs=some y->∃ x,VR w cs x:=by
 intro fuel
 induction fuel using Nat.strongRecOn with
 | _ fuel ih =>
   intro cs y hl t h;obtain ⟨_,n,rfl,c⟩:=pR hT t h;obtain ⟨Y,D,N,z⟩:=f0;obtain ⟨J,F,A,M⟩:=f1;obtain ⟨C,O,S,G⟩:=f2;obtain ⟨K,Z,t3,o3⟩:=f3;obtain ⟨g4,e4,t4,X⟩:=f4;obtain ⟨z0,m,w0⟩:=c 0 Y D;obtain ⟨z1,p,w1⟩:=c 1 J F;obtain ⟨z2,q,w2⟩:=c 2 C O;obtain ⟨z3,j,w3⟩:=c 3 K Z;obtain ⟨z4,l,w4⟩:=c 4 g4 e4;rw [N,z,cK] at m;rw [A,M,cN] at p;rw [S,G,cS] at q;rw [t3,o3,cI] at j;rw [t4,X,cL] at l;obtain ⟨a,c0,U⟩:=qw uK m;obtain ⟨b,V,L⟩:=qw uN p;obtain ⟨s,E,W⟩:=J7 uS q;obtain ⟨vL,r,c4,Q,ab,_⟩:=sH uL uS cS (by omega) w4 l;rw [iP (by omega)] at j;obtain ⟨k,i,aa⟩:=oz VR B uI hc5 (by omega) (fun d ac v y' u o h'=>ih d (by omega) v y' u o h') w3 j;obtain ⟨R,c',g,_⟩:=id i;have I:cs[3]?=some (.slice R k.length c'):=by rw [List.getElem?_eq_getElem (by omega),g]
   rw [g] at i;have e:=Jj hl c0 V E I c4;refine ⟨.mk a b s k r,?_⟩;rw [e];exact VR.make (x:=.mk a b s k r) i Q (bounds_i64 U) (bounds_i64 L) W (by simp only [Val.keys];omega) (by simp only [Val.items];omega)
end Go.Proofs.YtomhbcfjhgecbaaGreatDoor.Blk
namespace Go.Proofs.YtomhbcfjhgecbaaGreatDoor
open Go.RowKit Go.Sort Go.Lib
open Go.Lib (hid)
def jJ (w:World) (r:Option Addr) (c:Nat) (rk:Option Addr) (ck:Nat) (x:Val):Prop:=
 VR w [.int .i64 x.kind,.int .i64 x.num,.string x.str,.slice r x.items.length c,.slice rk x.keys.length ck] x
theorem VR.five {w:World} {cs:List Value} {x:Val} (h:VR w cs x):∃ r c rk ck,cs=[.int .i64 x.kind,.int .i64 x.num,.string x.str,.slice r x.items.length c,.slice rk x.keys.length ck]/\jJ w r c rk ck x:=by
 have a:=h;obtain ⟨r,c,d,rfl,_,b,_⟩:=h.open';obtain ⟨rk,ck,rfl,_⟩:=b;exact ⟨r,c,rk,ck,rfl,a⟩
theorem jJ.parts {w:World} {r:Option Addr} {c:Nat} {rk:Option Addr} {ck:Nat} {x:Val} (h:jJ w r c rk ck x) :
  Sl VR 5 w (.slice r x.items.length c) x.items/\Sl lY 1 w (.slice rk x.keys.length ck) x.keys/\jD x.kind/\jD x.num/\x.str.size<=maxLen/\x.keys.length<=10000000000000/\x.items.length<=10000000000000:=by
 obtain ⟨g,f,i,e,b,d,a⟩:=VR.open' h;simp only [List.cons.injEq,Value.slice.injEq,and_true,true_and] at e;obtain ⟨⟨rfl,rfl⟩,rfl⟩:=e;exact ⟨b,d,a⟩
theorem jJ.below {w w':World} {r:Option Addr} {c:Nat} {rk:Option Addr} {ck:Nat} {x:Val} (h:jJ w r c rk ck x) (hb:Below w.heap.size w w'):jJ w' r c rk ck x:=I9 _ _ _ _ hb h
theorem iq {w w':World} {v:Value} {is:List Val} (h:Sl VR 5 w v is) (hb:Below w.heap.size w w'):Sl VR 5 w' v is:=h.below I9 hb
theorem lC {w:World} {r:Option Addr} {n c:Nat} {is:List Val} (h:Sl VR 5 w (.slice r n c) is) (i:Nat) (hi:i < is.length) :
  ∃ b off ri ci rk ck,r=some ⟨b,off,none⟩/\b < w.heap.size/\w.cell? ⟨b,off+i * 5,none⟩=some (.int .i64 (is[i]).kind)/\w.cell? ⟨b,off+i * 5+1,none⟩=some (.int .i64 (is[i]).num)/\w.cell? ⟨b,off+i * 5+2,none⟩=some (.string (is[i]).str) /\
   w.cell? ⟨b,off+i * 5+3,none⟩=some (.slice ri (is[i]).items.length ci)/\w.cell? ⟨b,off+i * 5+4,none⟩=some (.slice rk (is[i]).keys.length ck)/\jJ w ri ci rk ck is[i]:=by
 obtain ⟨l,p,e,o,q,g⟩:=h;simp at e;obtain ⟨rfl,rfl,rfl⟩:=e;obtain ⟨b,off,m,k,_,a,j⟩:=g i hi;obtain ⟨ri,ci,rk,ck,rfl,f⟩:=j.five;have d:=a 0 _ rfl;simp only [Nat.add_zero] at d;exact ⟨b,off,ri,ci,rk,ck,k,World.block_lt_of_cell? w _ d,d,a 1 _ rfl,a 2 _ rfl,a 3 _ rfl,a 4 _ rfl,f⟩
theorem Dv {is:List Val} {k:Nat} (h:k < is.length):fM (is.take (k+1))=fM (is.take k)+gX is[k]:=by
 rw [List.take_succ_eq_append_getElem h,qP];simp [fM]
theorem xE (is:List Val) (k:Nat):fM (is.take k)<=fM is:=by
 have:=qP (is.take k) (is.drop k);rw [List.take_append_drop] at this;omega
theorem Na (x:Val):∀ (w:World) (cs:List Value),VR w cs x->gX x<=nodes x * 10000000000000:=by
 refine Val.ind (P:=fun x=>∀ (w:World) (cs:List Value),VR w cs x->gX x<=nodes x * 10000000000000) ?_ x;intro x g w cs h;obtain ⟨r,c,p,t,rfl,f⟩:=h.five;obtain ⟨l,q,_,_,_,o,_⟩:=f.parts
 have b:∀ a:List Val,(∀ y∈a,gX y<=nodes y * 10000000000000)->fM a<=gq a * 10000000000000:=by
  intro a
  induction a with
  | nil=>intro _;simp [fM,gq]
  | cons y ys ihy =>
    intro h;have s:=h y List.mem_cons_self;have n:=ihy fun z m=>h z (List.mem_cons_of_mem _ m);rw [fM,gq,Nat.add_mul];omega
 have n:=b x.items fun y d=>by
  obtain ⟨i,j,rfl⟩:=List.mem_iff_getElem.1 d;obtain ⟨_,_,_,_,_,_,_,_,_,_,_,_,_,k⟩:=lC l i j;exact g _ d w _ k
 rw [tV,nM,Nat.add_mul];omega
set_option maxRecDepth 100000 in
theorem JR (x:Val):∀ (r:Option Addr) (c:Nat) (rk:Option Addr) (ck:Nat) (w:World),jJ w r c rk ck x->gX x<=10000000000000000 ->
  Calls Tryz.prog 58 #[.agg #[.int .i64 x.kind,.int .i64 x.num,.string x.str,.slice r x.items.length c,.slice rk x.keys.length ck]] w fun e w'=>e=.returned (.int .i64 (gX x))/\Below w.heap.size w w':=by
 refine Val.ind (P:=fun x=>∀ (r:Option Addr) (c:Nat) (rk:Option Addr) (ck:Nat) (w:World),jJ w r c rk ck x->gX x<=10000000000000000 ->
  Calls Tryz.prog 58 #[.agg #[.int .i64 x.kind,.int .i64 x.num,.string x.str,.slice r x.items.length c,.slice rk x.keys.length ck]] w fun e w'=>e=.returned (.int .i64 (gX x))/\Below w.heap.size w w') ?_ x
 intro x u r c rk ck w E hn;obtain ⟨o,T,n,B,W,al,ac⟩:=E.parts;obtain ⟨_,aa,af⟩:=bi o;have U:=hid o;have V:=hid (tV x);have HX:=hid (show x.keys.length+fM x.items<=10000000000000000 by have:=tV x;omega);have S:=hid u;clear u o T E n B W hn;generalize x.kind=I at *;generalize x.num=H at *;generalize x.str=F at *;generalize x.keys.length=d at *;generalize J:gX x=nx at *;clear J;generalize z:x.items=a at *;clear z;have Q:=hid (show Below w.heap.size w (w.alloc (.cells #[.int .i64 I,.int .i64 H,.string F,.slice r a.length c,.slice rk d ck] 39)) from (Below.refl _ _).alloc (Nat.le_refl _) _);go_enter Tryz.func58,Tryz.ntmps58;go_wp2
 go_loopg [3,4] a.length (fun R L X wr=>∃ k:Nat,k<=a.length/\a.length - k<=R/\X=.int .i64 k/\L=.int .i64 ((d+fM (a.take k):Nat):Int)/\Aside (Below (w.heap.size+1) (w.alloc (.cells #[.int .i64 I,.int .i64 H,.string F,.slice r a.length c,.slice rk d ck] 39)) wr))
 case atStart=>exact ⟨0,Nat.zero_le _,by omega,rfl,rfl,Below.refl _ _⟩
 case round =>
  obtain ⟨k,n,hg,rfl,rfl,g⟩:=hrel;have q3:wr.cell? ⟨w.heap.size,3,none⟩=some (.slice r a.length c):=(g.out.cell (p:=⟨w.heap.size,3,none⟩) (by simp)).trans (aX rfl rfl);have A:=hid (Q.out.trans (g.out.mono (by simp)))
  by_cases f:k < a.length
  . have s:(k:Int) < (a.length:Int):=by omega
    obtain ⟨b,ad,M,ci,v,G,rfl,hb,Y,N,K,O,g4,t⟩:=lC (iq U.out A.out) k f;have i:=hid (Dv f);have D:=xE a (k+1);have m:=i.out;have q:=HX.out;have C:=hid (S.out _ (List.getElem_mem f) M ci v G wr t (by omega));have b1:d+fM (a.take k)+gX a[k]<=10000000000000000:=by omega
    clear D m q t;generalize a[k]=y at *;obtain ⟨yk,yn,ys,yi,ab⟩:=y;simp only [Val.kind,Val.num,Val.str,Val.items,Val.keys] at Y N K O g4 C;go_wp2_with fail
    refine C.out.mono ?_;rintro e w1 ⟨rfl,j⟩;have Z:=hid (g.out.trans (j.mono (by have:=g.out.size;simpa using this)));clear j;go_wp2
    go_roundg (a.length - (k+1))
    case measure=>omega
    case rel=>exact ⟨k+1,by omega,by omega,by go_num,by rw [i.out];go_num,Z.out⟩
  . have s:¬ (k:Int) < (a.length:Int):=by omega
    have l:k=a.length:=by omega
    have i:=hid (show d+fM (a.take k)=nx by rw [l,List.take_length,V.out]);clear f n l;go_wp2
    go_ret
    exact ⟨ax (by have:=i.out;omega),A.out⟩
theorem Gf {is:List Val} {k:Nat} (h:k < is.length) (n l:Int):dM (is.take (k+1)) n l=if 0<=dM (is.take k) n l then leftV is[k] (dM (is.take k) n l) l else dM (is.take k) n l:=by
 rw [List.take_succ_eq_append_getElem h,rX,dM];split
 . rw [dM]
 . rfl
theorem FM {is:List Val} {k:Nat} {n l:Int} (h:dM (is.take k) n l < 0):dM is n l=dM (is.take k) n l:=by
 rw [<-List.take_append_drop k is,rX,List.take_append_drop,vz _ _ _ h]
theorem L9 (is:List Val) (n l:Int) (hn:-1<=n):-1<=dM is n l/\dM is n l<=n:=by
 induction is generalizing n with
 | nil=>rw [dM];omega
 | cons x xs ih =>
   rw [dM];split
   . rename_i h0
     obtain ⟨b,c⟩:=uq x n l;have f:=zq x;have d:=ih (leftV x n l) c
     by_cases a:0<=leftV x n l
     . have:=(b a).1;omega
     . omega
   . omega
set_option maxRecDepth 100000 in
theorem JA (x:Val):∀ (n l:Int) (r:Option Addr) (c:Nat) (rk:Option Addr) (ck:Nat) (w:World),jJ w r c rk ck x-> -1<=n->n<=1000000-> -1<=l->l<=1000000 ->
  Calls Tryz.prog 57 #[.agg #[.int .i64 x.kind,.int .i64 x.num,.string x.str,.slice r x.items.length c,.slice rk x.keys.length ck],.int .i64 n,.int .i64 l] w fun e w'=>e=.returned (.int .i64 (leftV x n l))/\Below w.heap.size w w':=by
 refine Val.ind (P:=fun x=>∀ (n l:Int) (r:Option Addr) (c:Nat) (rk:Option Addr) (ck:Nat) (w:World),jJ w r c rk ck x-> -1<=n->n<=1000000-> -1<=l->l<=1000000 ->
  Calls Tryz.prog 57 #[.agg #[.int .i64 x.kind,.int .i64 x.num,.string x.str,.slice r x.items.length c,.slice rk x.keys.length ck],.int .i64 n,.int .i64 l] w fun e w'=>e=.returned (.int .i64 (leftV x n l))/\Below w.heap.size w w') ?_ x
 intro x I n l r c rk ck w O ab ac af an;obtain ⟨v,hK,A,N,Q,L,am⟩:=O.parts;obtain ⟨_,aa,ad⟩:=bi v;have HI:=hid v;have d:=hid (Ew x n l);have V:=hid I;clear I v hK O A N Q L;generalize x.kind=G at *;generalize x.num=K at *;generalize x.str=E at *;generalize x.keys.length=s at *;generalize H:leftV x n l=g at *;clear H;generalize J:x.items=a at *;clear J;have t:=hid (show Below w.heap.size w (w.alloc (.cells #[.int .i64 G,.int .i64 K,.string E,.slice r a.length c,.slice rk s ck] 39)) from (Below.refl _ _).alloc (Nat.le_refl _) _)
 by_cases h1:n < 1
 . have d:=hid (show g = -1 by rw [d.out,if_pos (.inl h1)])
   go_enter Tryz.func57,Tryz.ntmps57;go_wp2
   go_ret
   exact ⟨ax d.out,t.out⟩
 by_cases X:l < 1
 . have d:=hid (show g = -1 by rw [d.out,if_pos (.inr X)])
   go_enter Tryz.func57,Tryz.ntmps57;go_wp2
   go_ret
   exact ⟨ax d.out,t.out⟩
 have d:=hid (show g=dM a (n - 1) (l - 1) by rw [d.out,if_neg (by omega)]);go_enter Tryz.func57,Tryz.ntmps57;go_wp2
 go_loopg [7,8] a.length (fun gg T W wr=>∃ k:Nat,k<=a.length/\a.length - k<=gg/\W=.int .i64 k/\T=.int .i64 (dM (a.take k) (n - 1) (l - 1))/\Aside (Below (w.heap.size+1) (w.alloc (.cells #[.int .i64 G,.int .i64 K,.string E,.slice r a.length c,.slice rk s ck] 39)) wr))
 case atStart=>exact ⟨0,Nat.zero_le _,by omega,rfl,by rw [List.take_zero,dM],Below.refl _ _⟩
 case round =>
  obtain ⟨k,A,hg,rfl,rfl,j⟩:=hrel;have q3:wr.cell? ⟨w.heap.size,3,none⟩=some (.slice r a.length c):=(j.out.cell (p:=⟨w.heap.size,3,none⟩) (by simp)).trans (aX rfl rfl);have u:=hid (t.out.trans (j.out.mono (by simp)));obtain ⟨c1,c2⟩:=L9 (a.take k) (n - 1) (l - 1) (by omega)
  by_cases f:k < a.length
  . have z:(k:Int) < (a.length:Int):=by omega
    by_cases h0:0<=dM (a.take k) (n - 1) (l - 1)
    . obtain ⟨b,al,Y,ci,M,F,rfl,hb,g0,Z,g2,U,S,B⟩:=lC (iq HI.out u.out) k f
      have i:=hid ((Gf f (n - 1) (l - 1)).trans (if_pos h0));have C:=hid (V.out _ (List.getElem_mem f) (dM (a.take k) (n - 1) (l - 1)) (l - 1) Y ci M F wr B (by omega) (by omega) (by omega) (by omega));clear B;generalize a[k]=y at *;generalize dM (a.take k) (n - 1) (l - 1)=o at *;obtain ⟨yk,yn,ys,yi,ao⟩:=y;simp only [Val.kind,Val.num,Val.str,Val.items,Val.keys] at g0 Z g2 U S C;go_wp2_with fail
      refine C.out.mono ?_;rintro e w1 ⟨rfl,m⟩;have R:=hid (j.out.trans (m.mono (by have:=j.out.size;simpa using this)));clear m;go_wp2
      go_roundg (a.length - (k+1))
      case measure=>omega
      case rel=>exact ⟨k+1,by omega,by omega,by go_num,by rw [i.out],R.out⟩
    . have D:dM (a.take k) (n - 1) (l - 1) < 0:=by omega
      have i:=hid (show g=dM (a.take k) (n - 1) (l - 1) from d.out.trans (FM D));generalize dM (a.take k) (n - 1) (l - 1)=o at *;go_wp2
      go_ret
      exact ⟨ax i.out,u.out⟩
  . have z:¬ (k:Int) < (a.length:Int):=by omega
    have q:k=a.length:=by omega
    have i:=hid (show g=dM (a.take k) (n - 1) (l - 1) by rw [q,List.take_length,d.out]);generalize dM (a.take k) (n - 1) (l - 1)=o at *;clear f A q;go_wp2
    go_ret
    exact ⟨ax i.out,u.out⟩
end Go.Proofs.YtomhbcfjhgecbaaGreatDoor
namespace Go.Proofs.YtomhbcfjhgecbaaGreatDoor
open Go.RowKit Go.Sort Go.Lib
open Go.Lib (hid)
def mask (K:Nat->Bool) (w:World):World:={ w with heap:=w.heap.mapIdx fun i o=>if K i then o else .cells #[] 0 (0,0) }
theorem vg {K:Nat->Bool} {w:World} {b:Nat} (h:K b=true):(mask K w).heap[b]?=w.heap[b]?:=by
 unfold mask;simp only [Array.getElem?_mapIdx,h,if_true];cases w.heap[b]? <;> rfl
theorem jk {K:Nat->Bool} {w:World} {b o:Nat} {v:Value} (h:(mask K w).cell? ⟨b,o,none⟩=some v):K b=true/\w.cell? ⟨b,o,none⟩=some v:=by
 cases a:K b with
 | true=>exact ⟨rfl,(World.cell?_of_block (w:=w) (vg a)).symm.trans h⟩
 | false =>
   exfalso;unfold World.cell? mask at h;simp only [Array.getElem?_mapIdx,a] at h;cases c:w.heap[b]? with
   | none=>rw [c] at h;simp at h
   | some o=>rw [c] at h;simp at h
theorem gY {K:Nat->Bool} {w:World} {b o:Nat} {v:Value} (hk:K b=true) (h:w.cell? ⟨b,o,none⟩=some v):(mask K w).cell? ⟨b,o,none⟩=some v:=
 (World.cell?_of_block (w:=w) (vg hk)).trans h
def gB (w w':World):Prop:=∀ b o v,w.cell? ⟨b,o,none⟩=some v->w'.cell? ⟨b,o,none⟩=some v
theorem gK {α:Type} {R:World->List Value->α->Prop} {sz:Nat} {w w':World} {v:Value} {xs:List α} (h:gB w w') (hR:∀ cs x,R w cs x->R w' cs x) (hs:Sl R sz w v xs):Sl R sz w' v xs:=by
 obtain ⟨r,f,n,p,g,q⟩:=hs;refine ⟨r,f,n,p,g,fun i m=>?_⟩;obtain ⟨b,c,cs,l,d,a,k⟩:=q i m;exact ⟨b,c,cs,l,d,fun j u o=>h _ _ _ (a j u o),hR _ _ k⟩
theorem jC {w w':World} (hst:gB w w') {cs:List Value} {x:Val} (h:VR w cs x):VR w' cs x:=by
 induction h with
 | mk k n s is ks r b off c cs vK hk hn hs hl hc hr h5 hcell hR hK hkl hil ih =>
   exact .mk k n s is ks r b off c cs vK hk hn hs hl hc hr h5 (fun i j u a d=>hst _ _ _ (hcell i j u a d)) (fun i h=>ih i h) (gK hst (fun _ _ h=>h) hK) hkl hil
theorem Jt {w w':World} (hst:gB w w') {v:Value} {ks:List ByteArray} (h:Sl lY 1 w v ks):Sl lY 1 w' v ks:=gK hst (fun _ _ h=>h) h
theorem fG (K:Nat->Bool) (w:World):gB (mask K w) w:=fun b o v h=>(jk h).2
theorem lt_of_cell {w:World} {b o:Nat} {v:Value} (h:w.cell? ⟨b,o,none⟩=some v):b < w.heap.size:=World.block_lt_of_cell? w _ h
theorem bC {K K':Nat->Bool} {w w':World} (h:∀ b,K b=true->b < w.heap.size->K' b=true/\w'.heap[b]?=w.heap[b]?):gB (mask K w) (mask K' w'):=fun b o v hc=>by
 obtain ⟨hk,hv⟩:=jk hc;obtain ⟨h1,h2⟩:=h b hk (lt_of_cell hv);exact gY h1 ((World.cell?_of_block (w:=w) h2).trans hv)
theorem uu {K:Nat->Bool} {w w':World} (h:∀ b,K b=true->b < w.heap.size->w'.heap[b]?=w.heap[b]?):gB (mask K w) w':=fun b o v hc=>by
 obtain ⟨hk,hv⟩:=jk hc;exact (World.cell?_of_block (w:=w) (h b hk (lt_of_cell hv))).trans hv
def bZ (B:Nat):Nat->Bool:=fun b=>decide (B<=b)
theorem jZ {K:Nat->Bool} {w w':World} (hb:Below w.heap.size w w'):gB (mask K w) (mask K w'):=bC fun b hk hlt=>⟨hk,hb.block b hlt⟩
theorem iL {K K':Nat->Bool} {w:World} (h:∀ b,K b=true->K' b=true):gB (mask K w) (mask K' w):=bC fun b hk _=>⟨h b hk,rfl⟩
def VK (K:Nat->Bool) (w:World) (r:Option Addr) (c:Nat) (rk:Option Addr) (ck:Nat) (x:Val):Prop:=jJ (mask K w) r c rk ck x
theorem VK.to {K K':Nat->Bool} {w w':World} {r:Option Addr} {c:Nat} {rk:Option Addr} {ck:Nat} {x:Val} (hs:gB (mask K w) (mask K' w')) (h:VK K w r c rk ck x):VK K' w' r c rk ck x:=jC hs h
end Go.Proofs.YtomhbcfjhgecbaaGreatDoor
namespace Go.Proofs.YtomhbcfjhgecbaaGreatDoor
open Go.RowKit Go.Sort Go.Lib
open Go.Lib (hid)
structure Cv where
 k:Int
 n:Int
 s:ByteArray
 r:Option Addr
 ni:Nat
 c:Nat
 rk:Option Addr
 nk:Nat
 ck:Nat
def Cv.enc (y:Cv):List Value:=[.int .i64 y.k,.int .i64 y.n,.string y.s,.slice y.r y.ni y.c,.slice y.rk y.nk y.ck]
theorem uV:∀ y:Cv,y.enc.length=5:=fun _=>rfl
theorem Q9:∀ y:Cv,∀ u∈y.enc,u.oneCell'=true:=fun y u hu=>by
 simp only [Cv.enc,List.mem_cons,List.mem_nil_iff,or_false] at hu;rcases hu with rfl | rfl | rfl | rfl | rfl <;> rfl
def Cv.of (x:Val) (r:Option Addr) (c:Nat) (rk:Option Addr) (ck:Nat):Cv:=⟨x.kind,x.num,x.str,r,x.items.length,c,rk,x.keys.length,ck⟩
theorem VK.enc {K:Nat->Bool} {w:World} {r:Option Addr} {c:Nat} {rk:Option Addr} {ck:Nat} {x:Val} (h:VK K w r c rk ck x):VR (mask K w) (Cv.of x r c rk ck).enc x:=h
def vJ (B:Nat) (v:Value):Nat->Bool:=fun b=>decide (B<=b) && decide (v.ownBlock≠some b)
structure JM (B:Nat) (w:World) (v:Value) (is:List Val):Prop where
 ex:∃ ys:List Cv,ys.length=is.length/\w.ownsRow B 39 5 v ys.length (ys.flatMap Cv.enc)/\∀ (i:Nat) (h:i < ys.length) (h':i < is.length),VR (mask (vJ B v) w) ys[i].enc is[i]
theorem Hl {w W:World} {v:Value} {B:Nat} {ys:List Cv} {is:List Val} (hl:ys.length=is.length) (h:w.ownsRow B 39 5 v ys.length (ys.flatMap Cv.enc)) (hv:∀ (i:Nat) (h:i < ys.length) (h':i < is.length),VR W ys[i].enc is[i]) (hst:gB W w):Sl VR 5 w v is:=by
 obtain ⟨r,f,rfl,o,k,m⟩:=jM Cv.enc uV h;refine ⟨r,f,by rw [hl],by omega,k,fun i l=>?_⟩;obtain ⟨b,c,n,j,d,a,g⟩:=m i (by omega);subst g;exact ⟨b,c,_,j,d,a,jC hst (hv i (by omega) l)⟩
end Go.Proofs.YtomhbcfjhgecbaaGreatDoor
namespace Go.Proofs
open Go.Shelf
def Tryz.EZ:Go.Shelf.Ren:=⟨fun | 170=>182 | n=>n,fun | 70=>203 | 3=>3 | 0=>0 | 72=>205 | 37=>178 | 5=>5 | n=>n,fun | n=>n⟩
theorem Tryz.lays170:Go.Proofs.Lays.n170 Tryz.prog Tryz.EZ:={
 mixed:=by kernel_rfl
 f170:=Tryz.func182.trans (congrArg some (by kernel_rfl))
 t0:=Tryz.underlying0
 a0:=Tryz.isAgg0
 z0:=Tryz.sizeOf0
 v0:=Tryz.zeroValue0
 t3:=Tryz.underlying3
 a3:=Tryz.isAgg3
 z3:=Tryz.sizeOf3
 v3:=Tryz.zeroValue3
 t37:=Tryz.underlying178
 a37:=Tryz.isAgg178
 z37:=Tryz.sizeOf178
 v37:=Tryz.zeroValue178
 t70:=Tryz.underlying203
 a70:=Tryz.isAgg203
 z70:=Tryz.sizeOf203
 v70:=Tryz.zeroValue203
 t72:=Tryz.underlying205
 a72:=Tryz.isAgg205
 z72:=Tryz.sizeOf205
 v72:=Tryz.zeroValue205 }
def Tryz.lays169_ren:Go.Shelf.Ren:=⟨fun | 169=>183 | n=>n,fun | 70=>203 | 9=>9 | 0=>0 | 72=>205 | 37=>178 | 127=>240 | 3=>3 | 5=>5 | n=>n,fun | n=>n⟩
theorem Tryz.lays169:Go.Proofs.Lays.n169 Tryz.prog Tryz.lays169_ren:={
 mixed:=by kernel_rfl
 f169:=Tryz.func183.trans (congrArg some (by kernel_rfl))
 t0:=Tryz.underlying0
 a0:=Tryz.isAgg0
 z0:=Tryz.sizeOf0
 v0:=Tryz.zeroValue0
 t3:=Tryz.underlying3
 a3:=Tryz.isAgg3
 z3:=Tryz.sizeOf3
 v3:=Tryz.zeroValue3
 t9:=Tryz.underlying9
 a9:=Tryz.isAgg9
 z9:=Tryz.sizeOf9
 v9:=Tryz.zeroValue9
 t37:=Tryz.underlying178
 a37:=Tryz.isAgg178
 z37:=Tryz.sizeOf178
 v37:=Tryz.zeroValue178
 t70:=Tryz.underlying203
 a70:=Tryz.isAgg203
 z70:=Tryz.sizeOf203
 v70:=Tryz.zeroValue203
 t72:=Tryz.underlying205
 a72:=Tryz.isAgg205
 z72:=Tryz.sizeOf205
 v72:=Tryz.zeroValue205
 t127:=Tryz.underlying240
 a127:=Tryz.isAgg240
 z127:=Tryz.sizeOf240
 v127:=Tryz.zeroValue240 }
theorem Tryz.Builder_Extra_169:Builder.Extra Tryz.prog Tryz.lays169_ren:={
 sizeBuilder:=by kernel_rfl
 liesBuilder:=by kernel_rfl
 t5:=Tryz.underlying5
 a5:=Tryz.isAgg5
 z5:=Tryz.sizeOf5
 v5:=Tryz.zeroValue5
 infoByte:=by kernel_rfl
 cellsByte:=by kernel_rfl
 sizeByte:=by kernel_rfl
 neB5:=by decide }
open Go.RowKit in
theorem Tryz.Builder_String_any (B b:Nat) (l:List UInt8) (w:World) (h:Lib.IsBuilder 205 5 B b (Lib.byteCells l) w) (hBw:B<=w.heap.size) :
 Calls Tryz.prog 183 #[.pointer (some ⟨b,0,none⟩)] w fun e w'=>e=.returned (.string ⟨l.toArray⟩)/\Below B w w':=Any.Builder_String_any Tryz.lays169 Tryz.Builder_Extra_169 B b l w h hBw
def Tryz.FC:Go.Shelf.Ren:=⟨fun | 119=>213 | n=>n,fun | 21=>21 | 4=>4 | n=>n,fun | n=>n⟩
theorem Tryz.lays119:Go.Proofs.Lays.n119 Tryz.prog Tryz.FC:={
 mixed:=by kernel_rfl
 f119:=Tryz.func213.trans (congrArg some (by kernel_rfl))
 t4:=Tryz.underlying4
 a4:=Tryz.isAgg4
 z4:=Tryz.sizeOf4
 v4:=Tryz.zeroValue4
 t21:=Tryz.underlying21
 a21:=Tryz.isAgg21
 z21:=Tryz.sizeOf21
 v21:=Tryz.zeroValue21 }
theorem Tryz.utf8_ValidRune (r:Int) (w:World) :
 Calls Tryz.prog 213 #[.int .i32 r] w fun e w'=>e=.returned (.bool (Lib.validRune r))/\w'=w:=Any.utf8_ValidRune Tryz.lays119 r w
def Tryz.DN:Go.Shelf.Ren:=⟨fun | 137=>136 | 217=>187 | 266=>220 | n=>n,fun | 9=>9 | 5=>5 | 3=>3 | n=>n,fun | n=>n⟩
theorem Tryz.lays137:Go.Proofs.Lays.n137 Tryz.prog Tryz.DN:={
 mixed:=by kernel_rfl
 f137:=Tryz.func136.trans (congrArg some (by kernel_rfl))
 f217:=Tryz.func187.trans (congrArg some (by kernel_rfl))
 f266:=Tryz.func220.trans (congrArg some (by kernel_rfl))
 t3:=Tryz.underlying3
 a3:=Tryz.isAgg3
 z3:=Tryz.sizeOf3
 v3:=Tryz.zeroValue3
 t5:=Tryz.underlying5
 a5:=Tryz.isAgg5
 z5:=Tryz.sizeOf5
 v5:=Tryz.zeroValue5
 t9:=Tryz.underlying9
 a9:=Tryz.isAgg9
 z9:=Tryz.sizeOf9
 v9:=Tryz.zeroValue9 }
open Go.RowKit in
theorem Tryz.strings_IndexByte (s:ByteArray) (c:Int) (w:World) :
 Calls Tryz.prog 136 #[.string s,.int .u8 c] w fun e w'=>e=.returned (.int .i64 (Lib.indexByte s.data.toList c.toNat.toUInt8))/\w'=w:=Any.strings_IndexByte Tryz.lays137 s c w
def Tryz.D9:Go.Shelf.Ren:=⟨fun | 103=>131 | 210=>173 | 206=>178 | n=>n,fun | 9=>9 | 4=>4 | 24=>102 | 3=>3 | n=>n,fun | n=>n⟩
theorem Tryz.OB:Go.Proofs.Lays.n103 Tryz.prog Tryz.D9:={
 mixed:=by kernel_rfl
 f103:=Tryz.func131.trans (congrArg some (by kernel_rfl))
 f206:=Tryz.func178.trans (congrArg some (by kernel_rfl))
 f210:=Tryz.func173.trans (congrArg some (by kernel_rfl))
 t3:=Tryz.underlying3
 a3:=Tryz.isAgg3
 z3:=Tryz.sizeOf3
 v3:=Tryz.zeroValue3
 t4:=Tryz.underlying4
 a4:=Tryz.isAgg4
 z4:=Tryz.sizeOf4
 v4:=Tryz.zeroValue4
 t9:=Tryz.underlying9
 a9:=Tryz.isAgg9
 z9:=Tryz.sizeOf9
 v9:=Tryz.zeroValue9
 t24:=Tryz.underlying102
 a24:=Tryz.isAgg102
 z24:=Tryz.sizeOf102
 v24:=Tryz.zeroValue102 }
open Go.RowKit in
theorem Tryz.strings_CutPrefix (s p:ByteArray) (w:World) :
 Calls Tryz.prog 131 #[.string s,.string p] w fun e w'=>e=.returned (.tuple #[.string ⟨(Lib.trimPrefix s.data.toList p.data.toList).toArray⟩,.bool (Lib.hasPrefix s.data.toList p.data.toList)])/\w'=w:=Any.strings_CutPrefix Tryz.OB s p w
open Go.RowKit in
theorem Tryz.Builder_Len_f (B b:Nat) (bs:List Value) (w:World) (h:Lib.IsBuilderF 205 5 B b bs w) :
 Calls Tryz.prog 182 #[.pointer (some ⟨b,0,none⟩)] w fun e w'=>e=.returned (.int .i64 bs.length)/\w'=w:=Any.Builder_Len_f Tryz.lays170 B b bs w h
open Go.RowKit in
theorem Tryz.Builder_String_any_f (B b:Nat) (l:List UInt8) (w:World) (h:Lib.IsBuilderF 205 5 B b (Lib.byteCells l) w) (hBw:B<=w.heap.size) :
 Calls Tryz.prog 183 #[.pointer (some ⟨b,0,none⟩)] w fun e w'=>e=.returned (.string ⟨l.toArray⟩)/\(Lib.IsBuilderF 205 5 B b (Lib.byteCells l) w'/\Below B w w'):=Any.Builder_String_any_f Tryz.lays169 Tryz.Builder_Extra_169 B b l w h hBw
def Tryz.Ba:Go.Shelf.Ren:=⟨fun | 174=>162 | 247=>204 | 245=>205 | 287=>229 | 279=>230 | 280=>231 | 281=>232 | 282=>233 | 321=>243 | 322=>244 | 316=>245 | 171=>91 | 205=>246 | 243=>129 | 246=>172 | 283=>209 | 284=>210 | 285=>211 | 286=>212 | 129=>149 | 317=>235 | 318=>236 | 319=>237 | 320=>238 | 337=>247 | 338=>248 | n=>n,fun | 9=>9 | 3=>3 | 2=>2 | 75=>188 | 85=>189 | 4=>4 | 167=>246 | 5=>5 | 53=>172 | 175=>247 | 46=>137 | 168=>249 | 37=>178 | 0=>0 | 210=>261 | 21=>21 | 127=>240 | 145=>265 | 143=>263 | 171=>232 | 173=>234 | 212=>253 | 51=>170 | 20=>20 | 213=>254 | 232=>266 | 233=>267 | 80=>127 | n=>n,fun | 15=>4 | 16=>5 | 17=>3 | 18=>6 | 19=>7 | n=>n⟩
theorem Tryz.Fz:Go.Proofs.LaysC.n174 Tryz.prog Tryz.Ba:={
 mixed:=by kernel_rfl
 f129:=Tryz.func149.trans (congrArg some (by kernel_rfl))
 f171:=Tryz.func91.trans (congrArg some (by kernel_rfl))
 f174:=Tryz.func162.trans (congrArg some (by kernel_rfl))
 f205:=Tryz.func246.trans (congrArg some (by kernel_rfl))
 f243:=Tryz.func129.trans (congrArg some (by kernel_rfl))
 f245:=Tryz.func205.trans (congrArg some (by kernel_rfl))
 f246:=Tryz.func172.trans (congrArg some (by kernel_rfl))
 f247:=Tryz.func204.trans (congrArg some (by kernel_rfl))
 f279:=Tryz.func230.trans (congrArg some (by kernel_rfl))
 f280:=Tryz.func231.trans (congrArg some (by kernel_rfl))
 f281:=Tryz.func232.trans (congrArg some (by kernel_rfl))
 f282:=Tryz.func233.trans (congrArg some (by kernel_rfl))
 f283:=Tryz.func209.trans (congrArg some (by kernel_rfl))
 f284:=Tryz.func210.trans (congrArg some (by kernel_rfl))
 f285:=Tryz.func211.trans (congrArg some (by kernel_rfl))
 f286:=Tryz.func212.trans (congrArg some (by kernel_rfl))
 f287:=Tryz.func229.trans (congrArg some (by kernel_rfl))
 f316:=Tryz.func245.trans (congrArg some (by kernel_rfl))
 f317:=Tryz.func235.trans (congrArg some (by kernel_rfl))
 f318:=Tryz.func236.trans (congrArg some (by kernel_rfl))
 f319:=Tryz.func237.trans (congrArg some (by kernel_rfl))
 f320:=Tryz.func238.trans (congrArg some (by kernel_rfl))
 f321:=Tryz.func243.trans (congrArg some (by kernel_rfl))
 f322:=Tryz.func244.trans (congrArg some (by kernel_rfl))
 f337:=Tryz.func247.trans (congrArg some (by kernel_rfl))
 f338:=Tryz.func248.trans (congrArg some (by kernel_rfl))
 t0:=Tryz.underlying0
 a0:=Tryz.isAgg0
 z0:=Tryz.sizeOf0
 v0:=Tryz.zeroValue0
 t2:=Tryz.underlying2
 a2:=Tryz.isAgg2
 z2:=Tryz.sizeOf2
 v2:=Tryz.zeroValue2
 t3:=Tryz.underlying3
 a3:=Tryz.isAgg3
 z3:=Tryz.sizeOf3
 v3:=Tryz.zeroValue3
 t4:=Tryz.underlying4
 a4:=Tryz.isAgg4
 z4:=Tryz.sizeOf4
 v4:=Tryz.zeroValue4
 t5:=Tryz.underlying5
 a5:=Tryz.isAgg5
 z5:=Tryz.sizeOf5
 v5:=Tryz.zeroValue5
 t9:=Tryz.underlying9
 a9:=Tryz.isAgg9
 z9:=Tryz.sizeOf9
 v9:=Tryz.zeroValue9
 t20:=Tryz.underlying20
 a20:=Tryz.isAgg20
 z20:=Tryz.sizeOf20
 v20:=Tryz.zeroValue20
 t21:=Tryz.underlying21
 a21:=Tryz.isAgg21
 z21:=Tryz.sizeOf21
 v21:=Tryz.zeroValue21
 t37:=Tryz.underlying178
 a37:=Tryz.isAgg178
 z37:=Tryz.sizeOf178
 v37:=Tryz.zeroValue178
 t46:=Tryz.underlying137
 a46:=Tryz.isAgg137
 z46:=Tryz.sizeOf137
 v46:=Tryz.zeroValue137
 t51:=Tryz.underlying170
 a51:=Tryz.isAgg170
 z51:=Tryz.sizeOf170
 v51:=Tryz.zeroValue170
 t53:=Tryz.underlying172
 a53:=Tryz.isAgg172
 z53:=Tryz.sizeOf172
 v53:=Tryz.zeroValue172
 t75:=Tryz.underlying188
 a75:=Tryz.isAgg188
 z75:=Tryz.sizeOf188
 v75:=Tryz.zeroValue188
 t85:=Tryz.underlying189
 a85:=Tryz.isAgg189
 z85:=Tryz.sizeOf189
 v85:=Tryz.zeroValue189
 t127:=Tryz.underlying240
 a127:=Tryz.isAgg240
 z127:=Tryz.sizeOf240
 v127:=Tryz.zeroValue240
 t143:=Tryz.underlying263
 a143:=Tryz.isAgg263
 z143:=Tryz.sizeOf263
 v143:=Tryz.zeroValue263
 t145:=Tryz.underlying265
 a145:=Tryz.isAgg265
 z145:=Tryz.sizeOf265
 v145:=Tryz.zeroValue265
 t167:=Tryz.underlying246
 a167:=Tryz.isAgg246
 z167:=Tryz.sizeOf246
 v167:=Tryz.zeroValue246
 t168:=Tryz.underlying249
 a168:=Tryz.isAgg249
 z168:=Tryz.sizeOf249
 v168:=Tryz.zeroValue249
 t171:=Tryz.underlying232
 a171:=Tryz.isAgg232
 z171:=Tryz.sizeOf232
 v171:=Tryz.zeroValue232
 t173:=Tryz.underlying234
 a173:=Tryz.isAgg234
 z173:=Tryz.sizeOf234
 v173:=Tryz.zeroValue234
 t175:=Tryz.underlying247
 a175:=Tryz.isAgg247
 z175:=Tryz.sizeOf247
 v175:=Tryz.zeroValue247
 t210:=Tryz.underlying261
 a210:=Tryz.isAgg261
 z210:=Tryz.sizeOf261
 v210:=Tryz.zeroValue261
 t212:=Tryz.underlying253
 a212:=Tryz.isAgg253
 z212:=Tryz.sizeOf253
 v212:=Tryz.zeroValue253
 t213:=Tryz.underlying254
 a213:=Tryz.isAgg254
 z213:=Tryz.sizeOf254
 t232:=Tryz.underlying266
 a232:=Tryz.isAgg266
 z232:=Tryz.sizeOf266
 v232:=Tryz.zeroValue266
 t233:=Tryz.underlying267
 a233:=Tryz.isAgg267
 z233:=Tryz.sizeOf267
 v233:=Tryz.zeroValue267
 g15:=by kernel_rfl
 g16:=by kernel_rfl
 g17:=by kernel_rfl
 g18:=by kernel_rfl
 g19:=by kernel_rfl
 t80:=Tryz.underlying127
 a80:=Tryz.isAgg127
 z80:=Tryz.sizeOf127
 v80:=Tryz.zeroValue127
 i0:=by kernel_rfl
 i2:=by kernel_rfl
 i3:=by kernel_rfl
 i4:=by kernel_rfl
 i5:=by kernel_rfl
 i9:=by kernel_rfl
 i20:=by kernel_rfl
 i21:=by kernel_rfl
 i37:=by kernel_rfl
 i46:=by kernel_rfl
 i51:=by kernel_rfl
 i53:=by kernel_rfl
 i75:=by kernel_rfl
 i80:=by kernel_rfl
 i85:=by kernel_rfl
 i127:=by kernel_rfl
 i143:=by kernel_rfl
 i145:=by kernel_rfl
 i167:=by kernel_rfl
 i168:=by kernel_rfl
 i171:=by kernel_rfl
 i173:=by kernel_rfl
 i175:=by kernel_rfl
 i210:=by kernel_rfl
 i212:=by kernel_rfl
 i232:=by kernel_rfl
 i233:=by kernel_rfl
 m15:=by kernel_rfl
 m16:=by kernel_rfl
 m17:=by kernel_rfl
 m18:=by kernel_rfl
 m19:=by kernel_rfl
 c0:=by kernel_rfl
 c2:=by kernel_rfl
 c3:=by kernel_rfl
 c4:=by kernel_rfl
 c5:=by kernel_rfl
 c9:=by kernel_rfl
 c20:=by kernel_rfl
 c21:=by kernel_rfl
 c37:=by kernel_rfl
 c46:=by kernel_rfl
 c51:=by kernel_rfl
 c53:=by kernel_rfl
 c75:=by kernel_rfl
 c80:=by kernel_rfl
 c85:=by kernel_rfl
 c127:=by kernel_rfl
 c143:=by kernel_rfl
 c145:=by kernel_rfl
 c167:=by kernel_rfl
 c168:=by kernel_rfl
 c171:=by kernel_rfl
 c173:=by kernel_rfl
 c175:=by kernel_rfl
 c210:=by kernel_rfl
 c212:=by kernel_rfl
 c213:=by kernel_rfl
 c232:=by kernel_rfl
 c233:=by kernel_rfl }
open Go.RowKit in
theorem Tryz.strconv_ParseInt_10_at64_ok (s:ByteArray) (hmax:s.size<=9223372036854775806) (v:Int) (h:Lib.parseIntB 64 s.data.toList=.ok v) (w:World) :
 Calls Tryz.prog 162 #[.string s,.int .i64 10,.int .i64 64] w fun e w'=>e=.returned (.tuple #[.int .i64 v,.nilIface])/\(w'=w ∨ ∃ t,w'=Lib.bytesWorld w 5 t):=Any.strconv_ParseInt_10_at64_ok Tryz.Fz s hmax v h w
open Go.RowKit in
theorem Tryz.strconv_ParseInt_10_at64_range (s:ByteArray) (hlim:s.size<=281474976710656) (h:Lib.parseIntB 64 s.data.toList=.range) (ev:Value) (w:World) (hv:w.cell? ⟨5,0,none⟩=some ev) (hev:ev=.nilIface ∨ ∃ te pe,ev=.iface te pe) :
 Calls Tryz.prog 162 #[.string s,.int .i64 10,.int .i64 64] w fun e w'=>∃ N,e=.returned (.tuple #[.int .i64 (Lib.intSat 64 s.data.toList),.iface 249 (.pointer (some ⟨N,0,none⟩))])/\w.heap.size<=N/\w'.heap[N]?=some (.cells #[.string ⟨#[80,97,114,115,101,73,110,116]⟩,.string s,ev] 261 (0,0))/\Below w.heap.size w w':=Any.strconv_ParseInt_10_at64_range Tryz.Fz s hlim h ev w hv hev
def Tryz.lays99_ren:Go.Shelf.Ren:=⟨fun | 99=>133 | 206=>178 | n=>n,fun | 9=>9 | 4=>4 | 3=>3 | n=>n,fun | n=>n⟩
theorem Tryz.lays99:Go.Proofs.Lays.n99 Tryz.prog Tryz.lays99_ren:={
 mixed:=by kernel_rfl
 f99:=Tryz.func133.trans (congrArg some (by kernel_rfl))
 f206:=Tryz.func178.trans (congrArg some (by kernel_rfl))
 t3:=Tryz.underlying3
 a3:=Tryz.isAgg3
 z3:=Tryz.sizeOf3
 v3:=Tryz.zeroValue3
 t4:=Tryz.underlying4
 a4:=Tryz.isAgg4
 z4:=Tryz.sizeOf4
 v4:=Tryz.zeroValue4
 t9:=Tryz.underlying9
 a9:=Tryz.isAgg9
 z9:=Tryz.sizeOf9
 v9:=Tryz.zeroValue9 }
open Go.RowKit Go.Lib in
theorem Tryz.strings_HasPrefix (s p:ByteArray) (w:World) :
 Calls Tryz.prog 133 #[.string s,.string p] w fun e w'=>e=.returned (.bool (Lib.hasPrefix s.data.toList p.data.toList))/\w'=w:=Any.strings_HasPrefix Tryz.lays99 s p w
def Tryz.lays197_ren:Go.Shelf.Ren:=⟨fun | 197=>179 | 260=>216 | n=>n,fun | 9=>9 | 21=>21 | 3=>3 | 4=>4 | 5=>5 | 105=>206 | 119=>183 | 0=>0 | 46=>137 | 139=>186 | 138=>185 | n=>n,fun | 3=>0 | 4=>1 | n=>n⟩
theorem Tryz.lays197:Go.Proofs.Lays.n197 Tryz.prog Tryz.lays197_ren:={
 mixed:=by kernel_rfl
 f197:=Tryz.func179.trans (congrArg some (by kernel_rfl))
 f260:=Tryz.func216.trans (congrArg some (by kernel_rfl))
 t0:=Tryz.underlying0
 a0:=Tryz.isAgg0
 z0:=Tryz.sizeOf0
 v0:=Tryz.zeroValue0
 t3:=Tryz.underlying3
 a3:=Tryz.isAgg3
 z3:=Tryz.sizeOf3
 v3:=Tryz.zeroValue3
 t4:=Tryz.underlying4
 a4:=Tryz.isAgg4
 z4:=Tryz.sizeOf4
 v4:=Tryz.zeroValue4
 t5:=Tryz.underlying5
 a5:=Tryz.isAgg5
 z5:=Tryz.sizeOf5
 v5:=Tryz.zeroValue5
 t9:=Tryz.underlying9
 a9:=Tryz.isAgg9
 z9:=Tryz.sizeOf9
 v9:=Tryz.zeroValue9
 t21:=Tryz.underlying21
 a21:=Tryz.isAgg21
 z21:=Tryz.sizeOf21
 v21:=Tryz.zeroValue21
 t46:=Tryz.underlying137
 a46:=Tryz.isAgg137
 z46:=Tryz.sizeOf137
 v46:=Tryz.zeroValue137
 t105:=Tryz.underlying206
 a105:=Tryz.isAgg206
 z105:=Tryz.sizeOf206
 v105:=Tryz.zeroValue206
 t119:=Tryz.underlying183
 a119:=Tryz.isAgg183
 z119:=Tryz.sizeOf183
 t138:=Tryz.underlying185
 a138:=Tryz.isAgg185
 z138:=Tryz.sizeOf185
 v138:=Tryz.zeroValue185
 t139:=Tryz.underlying186
 a139:=Tryz.isAgg186
 z139:=Tryz.sizeOf186
 v139:=Tryz.zeroValue186
 g3:=by kernel_rfl
 g4:=by kernel_rfl }
def Tryz.lays152_ren:Go.Shelf.Ren:=⟨fun | 152=>174 | 137=>136 | 119=>213 | 224=>214 | 225=>215 | 217=>187 | 266=>220 | n=>n,fun | 9=>9 | 21=>21 | 3=>3 | 4=>4 | 5=>5 | 0=>0 | 46=>137 | n=>n,fun | n=>n⟩
theorem Tryz.lays152:Go.Proofs.Lays.n152 Tryz.prog Tryz.lays152_ren:={
 mixed:=by kernel_rfl
 f119:=Tryz.func213.trans (congrArg some (by kernel_rfl))
 f137:=Tryz.func136.trans (congrArg some (by kernel_rfl))
 f152:=Tryz.func174.trans (congrArg some (by kernel_rfl))
 f217:=Tryz.func187.trans (congrArg some (by kernel_rfl))
 f224:=Tryz.func214.trans (congrArg some (by kernel_rfl))
 f225:=Tryz.func215.trans (congrArg some (by kernel_rfl))
 f266:=Tryz.func220.trans (congrArg some (by kernel_rfl))
 t0:=Tryz.underlying0
 a0:=Tryz.isAgg0
 z0:=Tryz.sizeOf0
 v0:=Tryz.zeroValue0
 t3:=Tryz.underlying3
 a3:=Tryz.isAgg3
 z3:=Tryz.sizeOf3
 v3:=Tryz.zeroValue3
 t4:=Tryz.underlying4
 a4:=Tryz.isAgg4
 z4:=Tryz.sizeOf4
 v4:=Tryz.zeroValue4
 t5:=Tryz.underlying5
 a5:=Tryz.isAgg5
 z5:=Tryz.sizeOf5
 v5:=Tryz.zeroValue5
 t9:=Tryz.underlying9
 a9:=Tryz.isAgg9
 z9:=Tryz.sizeOf9
 v9:=Tryz.zeroValue9
 t21:=Tryz.underlying21
 a21:=Tryz.isAgg21
 z21:=Tryz.sizeOf21
 v21:=Tryz.zeroValue21
 t46:=Tryz.underlying137
 a46:=Tryz.isAgg137
 z46:=Tryz.sizeOf137
 v46:=Tryz.zeroValue137 }
open Go.RowKit Go.Lib in
theorem Tryz.strings_IndexRune_ascii (s:ByteArray) (r:Int) (w:World) (h0:0<=r) (h1:r < 128) :
 Calls Tryz.prog 174 #[.string s,.int .i32 r] w fun e w'=>e=.returned (.int .i64 (Lib.indexByte s.data.toList r.toNat.toUInt8))/\w'=w:=Any.strings_IndexRune_ascii Tryz.lays152 s r w h0 h1
def Tryz.Dn:Go.Shelf.Ren:=⟨fun | 226=>175 | n=>n,fun | 3=>3 | 4=>4 | n=>n,fun | n=>n⟩
theorem Tryz.OA:Go.Proofs.Lays.n226 Tryz.prog Tryz.Dn:={
 mixed:=by kernel_rfl
 f226:=Tryz.func175.trans (congrArg some (by kernel_rfl))
 t3:=Tryz.underlying3
 a3:=Tryz.isAgg3
 z3:=Tryz.sizeOf3
 v3:=Tryz.zeroValue3
 t4:=Tryz.underlying4
 a4:=Tryz.isAgg4
 z4:=Tryz.sizeOf4
 v4:=Tryz.zeroValue4 }
open Go.RowKit Go.Lib in
theorem Tryz.strings_shouldUseASCIISet (n:Int) (w:World) :
 Calls Tryz.prog 175 #[.int .i64 n] w fun e w'=>e=.returned (.bool (decide (8 < n)))/\w'=w:=Any.strings_shouldUseASCIISet Tryz.OA n w
def Tryz.lays153_ren:Go.Shelf.Ren:=⟨fun | 153=>132 | 152=>174 | 226=>175 | 227=>176 | 228=>177 | 137=>136 | 119=>213 | 224=>214 | 225=>215 | 217=>187 | 266=>220 | n=>n,fun | 9=>9 | 3=>3 | 4=>4 | 5=>5 | 21=>21 | 117=>201 | 116=>200 | 0=>0 | 46=>137 | 124=>238 | n=>n,fun | n=>n⟩
theorem Tryz.lays153:Go.Proofs.Lays.n153 Tryz.prog Tryz.lays153_ren:={
 mixed:=by kernel_rfl
 f119:=Tryz.func213.trans (congrArg some (by kernel_rfl))
 f137:=Tryz.func136.trans (congrArg some (by kernel_rfl))
 f152:=Tryz.func174.trans (congrArg some (by kernel_rfl))
 f153:=Tryz.func132.trans (congrArg some (by kernel_rfl))
 f217:=Tryz.func187.trans (congrArg some (by kernel_rfl))
 f224:=Tryz.func214.trans (congrArg some (by kernel_rfl))
 f225:=Tryz.func215.trans (congrArg some (by kernel_rfl))
 f226:=Tryz.func175.trans (congrArg some (by kernel_rfl))
 f227:=Tryz.func176.trans (congrArg some (by kernel_rfl))
 f228:=Tryz.func177.trans (congrArg some (by kernel_rfl))
 f266:=Tryz.func220.trans (congrArg some (by kernel_rfl))
 t0:=Tryz.underlying0
 a0:=Tryz.isAgg0
 z0:=Tryz.sizeOf0
 v0:=Tryz.zeroValue0
 t3:=Tryz.underlying3
 a3:=Tryz.isAgg3
 z3:=Tryz.sizeOf3
 v3:=Tryz.zeroValue3
 t4:=Tryz.underlying4
 a4:=Tryz.isAgg4
 z4:=Tryz.sizeOf4
 v4:=Tryz.zeroValue4
 t5:=Tryz.underlying5
 a5:=Tryz.isAgg5
 z5:=Tryz.sizeOf5
 v5:=Tryz.zeroValue5
 t9:=Tryz.underlying9
 a9:=Tryz.isAgg9
 z9:=Tryz.sizeOf9
 v9:=Tryz.zeroValue9
 t21:=Tryz.underlying21
 a21:=Tryz.isAgg21
 z21:=Tryz.sizeOf21
 v21:=Tryz.zeroValue21
 t46:=Tryz.underlying137
 a46:=Tryz.isAgg137
 z46:=Tryz.sizeOf137
 v46:=Tryz.zeroValue137
 t116:=Tryz.underlying200
 a116:=Tryz.isAgg200
 z116:=Tryz.sizeOf200
 t117:=Tryz.underlying201
 a117:=Tryz.isAgg201
 z117:=Tryz.sizeOf201
 v117:=Tryz.zeroValue201
 t124:=Tryz.underlying238
 a124:=Tryz.isAgg238
 z124:=Tryz.sizeOf238
 v124:=Tryz.zeroValue238 }
open Go.RowKit Go.Lib in
theorem Tryz.strings_IndexAny_long (hv116:∀ w,(zeroValue 200).run Tryz.prog w=.ok (.agg (Array.replicate 256 (.bool false))) w) (s chars:ByteArray) (w:World) (h2:2<=chars.size) (h8:8 < s.size) (hs:s.size < 4294967281) (hcs:chars.size < 4294967281) (hascii:∀ (j:Nat) b,chars.data.toList[j]?=some b->b.toNat < 128) :
 Calls Tryz.prog 132 #[.string s,.string chars] w fun e w'=>e=.returned (.int .i64 (Lib.indexAny s.data.toList chars.data.toList))/\w'=((w.alloc (.cells (Lib.setCells chars.data.toList) 200)).alloc (.cells (Lib.setCells chars.data.toList) 200)):=Any.strings_IndexAny_long Tryz.lays153 hv116 (by kernel_rfl) s chars w h2 h8 hs hcs hascii
open Go.RowKit Go.Lib in
theorem Tryz.utf8_DecodeRuneInString (s:ByteArray) (w:World) (hT:Lib.Utf8Tabs 0 1 w) :
 Calls Tryz.prog 179 #[.string s] w fun e w'=>e=.returned (.tuple #[.int .i32 (Lib.decodeGo s).1,.int .i64 (Lib.decodeGo s).2])/\Below w.heap.size w w':=Any.utf8_DecodeRuneInString Tryz.lays197 s w hT
def Tryz.Am:Go.Shelf.Ren:=⟨fun | 29=>248 | n=>n,fun | 22=>172 | 3=>3 | 4=>4 | 25=>137 | 54=>267 | 0=>0 | 5=>5 | n=>n,fun | 1=>7 | n=>n⟩
theorem Tryz.N9:Go.Proofs.Lays7.n29 Tryz.prog Tryz.Am:={
 mixed:=by kernel_rfl
 f29:=Tryz.func248.trans (congrArg some (by kernel_rfl))
 t0:=Tryz.underlying0
 a0:=Tryz.isAgg0
 z0:=Tryz.sizeOf0
 v0:=Tryz.zeroValue0
 i0:=by kernel_rfl
 t3:=Tryz.underlying3
 a3:=Tryz.isAgg3
 z3:=Tryz.sizeOf3
 v3:=Tryz.zeroValue3
 i3:=by kernel_rfl
 t4:=Tryz.underlying4
 a4:=Tryz.isAgg4
 z4:=Tryz.sizeOf4
 v4:=Tryz.zeroValue4
 i4:=by kernel_rfl
 t5:=Tryz.underlying5
 a5:=Tryz.isAgg5
 z5:=Tryz.sizeOf5
 v5:=Tryz.zeroValue5
 i5:=by kernel_rfl
 t22:=Tryz.underlying172
 a22:=Tryz.isAgg172
 z22:=Tryz.sizeOf172
 v22:=Tryz.zeroValue172
 i22:=by kernel_rfl
 t25:=Tryz.underlying137
 a25:=Tryz.isAgg137
 z25:=Tryz.sizeOf137
 v25:=Tryz.zeroValue137
 i25:=by kernel_rfl
 t54:=Tryz.underlying267
 a54:=Tryz.isAgg267
 z54:=Tryz.sizeOf267
 g1:=by kernel_rfl }
def Tryz.mG:Go.Shelf.Ren:=⟨fun | 242=>219 | 278=>240 | n=>n,fun | 37=>178 | 21=>21 | 51=>170 | 4=>4 | 5=>5 | 46=>137 | n=>n,fun | n=>n⟩
theorem Tryz.lays242:Go.Proofs.Lays.n242 Tryz.prog Tryz.mG:={
 mixed:=by kernel_rfl
 f242:=Tryz.func219.trans (congrArg some (by kernel_rfl))
 f278:=Tryz.func240.trans (congrArg some (by kernel_rfl))
 t4:=Tryz.underlying4
 a4:=Tryz.isAgg4
 z4:=Tryz.sizeOf4
 v4:=Tryz.zeroValue4
 t5:=Tryz.underlying5
 a5:=Tryz.isAgg5
 z5:=Tryz.sizeOf5
 v5:=Tryz.zeroValue5
 t21:=Tryz.underlying21
 a21:=Tryz.isAgg21
 z21:=Tryz.sizeOf21
 v21:=Tryz.zeroValue21
 t37:=Tryz.underlying178
 a37:=Tryz.isAgg178
 z37:=Tryz.sizeOf178
 v37:=Tryz.zeroValue178
 t46:=Tryz.underlying137
 a46:=Tryz.isAgg137
 z46:=Tryz.sizeOf137
 v46:=Tryz.zeroValue137
 t51:=Tryz.underlying170
 a51:=Tryz.isAgg170
 z51:=Tryz.sizeOf170
 v51:=Tryz.zeroValue170 }
end Go.Proofs
namespace Go.Proofs
open Go.Shelf
def Tryz.yX:Go.Shelf.Ren:=⟨fun | 16=>93 | n=>n,fun | 24=>37 | 9=>9 | 4=>4 | n=>n,fun | n=>n⟩
theorem Tryz.laysNm216:Go.Proofs.Lays2.n16 Tryz.prog Tryz.yX:={
 mixed:=by kernel_rfl
 f16:=Tryz.func93.trans (congrArg some (by kernel_rfl))
 t4:=Tryz.underlying4
 a4:=Tryz.isAgg4
 z4:=Tryz.sizeOf4
 v4:=Tryz.zeroValue4
 t9:=Tryz.underlying9
 a9:=Tryz.isAgg9
 z9:=Tryz.sizeOf9
 v9:=Tryz.zeroValue9
 t24:=Tryz.underlying37
 a24:=Tryz.isAgg37
 z24:=Tryz.sizeOf37
 v24:=Tryz.zeroValue37
 i9:=by kernel_rfl }
open Go.RowKit Go.Lib in
theorem Tryz.slices_Clone_string (b off n c:Nat) (zs:List ByteArray) (w:World) (hz:n<=zs.length) (hbig:n * 16<=140737488355328) (hc:∀ j,j < zs.length->w.cell? ⟨b,off+j,none⟩=some (.string (zs.getD j ByteArray.empty))) :
 Calls Tryz.prog 93 #[.slice (some ⟨b,off,none⟩) n c] w fun e w'=>∃ v',e=.returned v'/\w'.ownsRow w.heap.size 9 1 v' n ((zs.take n).map (Value.string))/\v'≠.slice none 0 0/\Below w.heap.size w w':=Any.slices_Clone_string Tryz.laysNm216 b off n c zs w hz hbig hc
open Go.RowKit Go.Lib in
theorem Tryz.slices_Clone_string_nil (n c:Nat) (w:World) :
 Calls Tryz.prog 93 #[.slice none n c] w fun e w'=>e=.returned (.slice none 0 0)/\w'=w:=Any.slices_Clone_string_nil Tryz.laysNm216 n c w
open Go.RowKit Go.Lib in
theorem Tryz.slices_Clone_string_zero (a:Addr) (c:Nat) (w:World) :
 Calls Tryz.prog 93 #[.slice (some a) 0 c] w fun e w'=>∃ v',e=.returned v'/\w'.ownsRow w.heap.size 9 1 v' 0 []/\v'≠.slice none 0 0/\Below w.heap.size w w':=Any.slices_Clone_string_zero Tryz.laysNm216 a c w
def Tryz.pU:Go.Shelf.Ren:=⟨fun | 196=>119 | 259=>160 | n=>n,fun | 9=>9 | 4=>4 | 3=>3 | 5=>5 | 12=>12 | 119=>183 | 0=>0 | 46=>137 | 139=>186 | 138=>185 | 53=>172 | n=>n,fun | 3=>0 | 4=>1 | n=>n⟩
theorem Tryz.Qd:Go.Proofs.Lays.n196 Tryz.prog Tryz.pU:={
 mixed:=by kernel_rfl
 f196:=Tryz.func119.trans (congrArg some (by kernel_rfl))
 f259:=Tryz.func160.trans (congrArg some (by kernel_rfl))
 t0:=Tryz.underlying0
 a0:=Tryz.isAgg0
 z0:=Tryz.sizeOf0
 v0:=Tryz.zeroValue0
 t3:=Tryz.underlying3
 a3:=Tryz.isAgg3
 z3:=Tryz.sizeOf3
 v3:=Tryz.zeroValue3
 t4:=Tryz.underlying4
 a4:=Tryz.isAgg4
 z4:=Tryz.sizeOf4
 v4:=Tryz.zeroValue4
 t5:=Tryz.underlying5
 a5:=Tryz.isAgg5
 z5:=Tryz.sizeOf5
 v5:=Tryz.zeroValue5
 t9:=Tryz.underlying9
 a9:=Tryz.isAgg9
 z9:=Tryz.sizeOf9
 v9:=Tryz.zeroValue9
 t12:=Tryz.underlying12
 a12:=Tryz.isAgg12
 z12:=Tryz.sizeOf12
 v12:=Tryz.zeroValue12
 t46:=Tryz.underlying137
 a46:=Tryz.isAgg137
 z46:=Tryz.sizeOf137
 v46:=Tryz.zeroValue137
 t53:=Tryz.underlying172
 a53:=Tryz.isAgg172
 z53:=Tryz.sizeOf172
 v53:=Tryz.zeroValue172
 t119:=Tryz.underlying183
 a119:=Tryz.isAgg183
 z119:=Tryz.sizeOf183
 t138:=Tryz.underlying185
 a138:=Tryz.isAgg185
 z138:=Tryz.sizeOf185
 v138:=Tryz.zeroValue185
 t139:=Tryz.underlying186
 a139:=Tryz.isAgg186
 z139:=Tryz.sizeOf186
 v139:=Tryz.zeroValue186
 g3:=by kernel_rfl
 g4:=by kernel_rfl }
end Go.Proofs
namespace Go.Proofs.YtomhbcfjhgecbaaGreatDoor
open Go.RowKit Go.Sort Go.Lib
open Go.Lib (hid)
def BU (B:Nat) (w:World) (v:Value) (ks:List ByteArray):Prop:=w.ownsRow B 9 1 v ks.length (ks.map Value.string)
theorem cZ {w:World} {B sz n:Nat} {e:TypeId} {v:Value} {xs:List Value} (h:w.ownsRow B e sz v n xs) {g:Nat} (hg:v.ownBlock=some g):B<=g/\g < w.heap.size:=by
 rcases h.2 with ⟨rfl,_⟩ | ⟨g',cap,cur,rfl,hb,hh,_⟩
 . cases hg
 . simp only [Value.ownBlock,Option.some.injEq] at hg
   subst hg;exact ⟨hb,lt_of_block hh⟩
theorem fD {w w':World} {B sz n:Nat} {e:TypeId} {v:Value} {xs:List Value} (h:w.ownsRow B e sz v n xs) (hk:∀ g,v.ownBlock=some g->w'.heap[g]?=w.heap[g]?):w'.ownsRow B e sz v n xs:=by
 refine ⟨h.1,?_⟩;rcases h.2 with h0 | ⟨g,cap,cur,rfl,hb,hh,r⟩
 . exact .inl h0
 . exact .inr ⟨g,cap,cur,rfl,hb,(hk g rfl).trans hh,r⟩
theorem own_base {w:World} {B B' sz n:Nat} {e:TypeId} {v:Value} {xs:List Value} (h:w.ownsRow B e sz v n xs) (hB:B'<=B):w.ownsRow B' e sz v n xs:=by
 refine ⟨h.1,?_⟩;rcases h.2 with h0 | ⟨g,cap,cur,rfl,hb,r⟩
 . exact .inl h0
 . exact .inr ⟨g,cap,cur,rfl,Nat.le_trans hB hb,r⟩
theorem Jb {B:Nat} {w:World} {v:Value} {ks:List ByteArray} (h:BU B w v ks) (hs:∀ k∈ks,k.size<=maxLen):Sl lY 1 w v ks:=by
 rcases h.2 with ⟨rfl,h0⟩ | ⟨g,cap,cur,rfl,hb,hg,hn,hc,hsz,ht⟩
 . have:ks=[]:=List.eq_nil_of_length_eq_zero h0
   subst this;exact ⟨none,0,rfl,by simp,by simp,fun i a=>absurd a (by simp)⟩
 . refine ⟨some ⟨g,0,none⟩,cap,rfl,hn,hc,fun i a=>⟨g,0,[.string ks[i]],rfl,rfl,fun j u b=>?_,rfl,hs _ (List.getElem_mem a)⟩⟩
   cases j with
   | succ j=>simp at b
   | zero =>
     simp only [List.getElem?_cons_zero,Option.some.injEq] at b;subst b;have c:(ks.map Value.string)[i]?=some (.string ks[i]):=by simp [a]
     rw [<-ht,List.getElem?_take,if_pos (by omega),Array.getElem?_toList] at c;unfold World.cell?;simp only [hg,Nat.zero_add,Nat.mul_one,Nat.add_zero];simpa using c
theorem clone_any (ks:List ByteArray) (r:Option Addr) (c:Nat) (w:World) (h:Sl lY 1 w (.slice r ks.length c) ks) (hn:ks.length<=1000000) :
  Calls Tryz.prog 93 #[.slice r ks.length c] w fun e w'=>∃ v',e=.returned v'/\BU w.heap.size w' v' ks/\Below w.heap.size w w':=by
 cases r with
 | none =>
   have d:ks=[]:=by
    cases ks with
    | nil=>rfl
    | cons k ks=>obtain ⟨_,_,l,_⟩:=iT h 0 (by simp);cases l
   subst d;exact (Tryz.slices_Clone_string_nil 0 c w).mono fun e w' ⟨he,hw⟩=>⟨_,he,⟨by simp,.inl ⟨rfl,rfl⟩⟩,by rw [hw];exact Below.refl _ _⟩
 | some a =>
   by_cases d:ks=[]
   . subst d
     exact (Tryz.slices_Clone_string_zero a c w).mono fun e w' ⟨v',he,ho,_,hb⟩=>⟨v',he,ho,hb⟩
   . have i:0 < ks.length:=List.length_pos_iff.2 d
     obtain ⟨b,g,l,_⟩:=iT h 0 i;obtain rfl:a=⟨b,g,none⟩:=by simpa using l
     refine (Tryz.slices_Clone_string b g ks.length c ks w (Nat.le_refl _) (by omega) (fun j m=>?_)).mono fun e w' ⟨v',he,ho,_,hb⟩=>⟨v',he,?_,hb⟩
     . obtain ⟨p,o,f,_,n,_⟩:=iT h j m
       simp only [Option.some.injEq,Addr.mk.injEq,and_true] at f;obtain ⟨rfl,rfl⟩:=f;rw [n,List.getD_eq_getElem?_getD,List.getElem?_eq_getElem m];rfl
     . have:=ho
       rw [List.take_length] at this;exact this
theorem lM {B b:Nat} {v:Value} (h:B<=b) (h':v.ownBlock≠some b):vJ B v b=true:=by
 unfold vJ;rw [Bool.and_eq_true,decide_eq_true_eq,decide_eq_true_eq];exact ⟨h,h'⟩
theorem eQ {B b:Nat} {v:Value} (h:vJ B v b=true):B<=b/\v.ownBlock≠some b:=by
 unfold vJ at h;rw [Bool.and_eq_true,decide_eq_true_eq,decide_eq_true_eq] at h;exact h
structure Ku (B M:Nat) (w:World) (r:Option Addr) (c:Nat) (rk:Option Addr) (ck:Nat) (x:Val):Prop where
 le:B<=M
 items:JM M w (.slice r x.items.length c) x.items
 keys:BU B w (.slice rk x.keys.length ck) x.keys
 lt:∀ g,(Value.slice rk x.keys.length ck).ownBlock=some g->g < M
 bd:jD x.kind/\jD x.num/\x.str.size<=maxLen/\x.keys.length<=10000000000000/\x.items.length<=10000000000000/\∀ k∈x.keys,k.size<=maxLen
theorem o9 {K:Nat->Bool} {w:World} {B sz n:Nat} {e:TypeId} {v:Value} {xs:List Value} (h:w.ownsRow B e sz v n xs) (hk:∀ g,v.ownBlock=some g->K g=true):(mask K w).ownsRow B e sz v n xs:=fD h fun g hg=>vg (hk g hg)
theorem Ku.vk {B M:Nat} {w:World} {r:Option Addr} {c:Nat} {rk:Option Addr} {ck:Nat} {x:Val} (h:Ku B M w r c rk ck x):VK (bZ B) w r c rk ck x:=by
 obtain ⟨m,k,f,i⟩:=h.items.ex
 have l:Sl VR 5 (mask (bZ B) w) (.slice r x.items.length c) x.items:=Hl k (o9 f fun g a=>by
  have:=(cZ f a).1;have:=h.le
  simp only [bZ,decide_eq_true_eq];omega) i (bC fun b d _=>⟨by
   have d:=eQ d;have:=h.le;simp only [bZ,decide_eq_true_eq];omega,rfl⟩)
 have j:Sl lY 1 (mask (bZ B) w) (.slice rk x.keys.length ck) x.keys:=Jb (B:=B) (o9 h.keys fun g a=>by
  have:=(cZ h.keys a).1;simp only [bZ,decide_eq_true_eq];omega) h.bd.2.2.2.2.2
 exact VR.make l j h.bd.1 h.bd.2.1 h.bd.2.2.1 h.bd.2.2.2.1 h.bd.2.2.2.2.1
theorem JM.to {B:Nat} {w w':World} {v:Value} {is:List Val} (h:JM B w v is) (hk:∀ b,B<=b->b < w.heap.size->w'.heap[b]?=w.heap[b]?):JM B w' v is:=by
 obtain ⟨n,l,a,j⟩:=h.ex;refine ⟨n,l,fD a fun g f=>hk g (cZ a f).1 (cZ a f).2,fun i k m=>jC (bC fun b c d=>⟨c,hk b ?_ d⟩) (j i k m)⟩;exact (eQ c).1
def Ri (w:World) (x:Val) (e:Ending) (w':World):Prop:=∃ r c rk ck M,e=.returned (.agg #[.int .i64 x.kind,.int .i64 x.num,.string x.str,.slice r x.items.length c,.slice rk x.keys.length ck])/\Ku w.heap.size M w' r c rk ck x/\Below w.heap.size w w'
end Go.Proofs.YtomhbcfjhgecbaaGreatDoor
namespace Go.Proofs.YtomhbcfjhgecbaaGreatDoor.Stp
open Go.RowKit Go.Sort
def kW (w w':World):Prop:=Below w.heap.size w w'
theorem kW.refl (w:World):kW w w:=Below.refl _ _
def sF (R:World->Prop):Prop:=∀ w w',R w->kW w w'->R w'
structure mP where
 p:Value->Prop
 R:Value->World->Prop
def di (P:Program) (w:World) (s:mP):Result Next->Prop
 | .ok (.value u) w'=>kW w w'/\s.p u/\s.R u w'
 | .ok .skip w'=>kW w w'/\s.p undef/\s.R undef w'
 | .ok (.enter f args) w'=>w'=w/\Calls P f args w (fun e w''=>∃ u,e=.returned u/\kW w w''/\s.p u/\s.R u w'')
 | _=>False
inductive qj (md:Region.Mode) (ops:Array Oper):Nat->Nat->Prop
 | one {j k:Nat} {o:Oper} {e:Edge} : ops[k]?=some o->e∈o.after->Region.binds md e=true->e.on=j->qj md ops j k
 | two {i j k:Nat} : qj md ops i j->qj md ops j k->qj md ops i k
def mV (E:Nat->World->Prop) (k:Nat) (R:World->Prop):Nat->World->Prop:=fun j=>if j=k then R else E j
theorem JQ {E:Nat->World->Prop} {i j:Nat} {A B:World->Prop} (h:i≠j):mV (mV E i A) j B=mV (mV E j B) i A:=by
 funext k;unfold mV
 by_cases b:k=j
 . subst b;rw [if_pos rfl,if_neg (fun e=>h e.symm),if_pos rfl]
 . rw [if_neg b]
   by_cases a:k=i
   . rw [if_pos a,if_pos a]
   . rw [if_neg a,if_neg a,if_neg b]
section
variable {P:Program} {ops:Array Oper} {md:Region.Mode} {C:World->Prop} {sp:Nat->Option mP}
def pQ (P:Program) (C:World->Prop) (X:Sem Next) (u:Value):Prop:=∀ w,C w->Oper.quietUpon P C w u (X.run P w)
def noEnter (P:Program) (X:Sem Next):Prop:=∀ w f args w',X.run P w≠.ok (.enter f args) w'
def fSpec (P:Program) (md:Region.Mode) (ops:Array Oper) (C:World->Prop) (sp:Nat->Option mP) (i:Nat) (o:Oper) (E:Nat->World->Prop) (a:Act):Prop:=
 Region.wanted o (yielded ops a.tmps)=true->match sp i with
  | none=>noEnter P (execOp a.eval o)/\∃ u,pQ P C (execOp a.eval o) u
  | some s=>(∃ u,s.p u)/\(∀ v,sF (s.R v))/\∀ w,C w->(∀ j,qj md ops j i->E j w)->di P w s ((execOp a.eval o).run P w)
def qH (P:Program) (ops:Array Oper) (C:World->Prop) (sp:Nat->Option mP) (i:Nat) (o:Oper) (a:Act) (u:Value):Prop:=
 if Region.wanted o (yielded ops a.tmps)=true then (match sp i with | none=>pQ P C (execOp a.eval o) u | some s=>s.p u) else u=undef
def jI (ops:Array Oper) (sp:Nat->Option mP) (i:Nat) (o:Oper) (a:Act) (u:Value):World->Prop:=
 if Region.wanted o (yielded ops a.tmps)=true then (match sp i with | none=>fun _=>True | some s=>s.R u) else fun _=>True
def zV (P:Program) (md:Region.Mode) (ops:Array Oper) (C:World->Prop) (sp:Nat->Option mP) (Q:(Nat->World->Prop)->Act->Prop):List Oper->Nat->(Nat->World->Prop)->Act->Prop
 | [],_,E,a=>Q E a
 | o :: rest,k,E,a=>fSpec P md ops C sp k o E a/\∀ u,qH P ops C sp k o a u->zV P md ops C sp Q rest (k+1) (mV E k (jI ops sp k o a u)) (a.put o.dst u)
def uP (P:Program) (md:Region.Mode) (ops:Array Oper) (C:World->Prop) (sp:Nat->Option mP) (Q:(Nat->World->Prop)->Act->Prop):Nat->Array Bool->(Nat->World->Prop)->Act->Prop
 | 0,listed,E,a=>Region.ready md ops listed=[]/\Q E a
 | fuel+1,listed,E,a =>
   (Region.ready md ops listed=[]->Q E a) /\
   ∀ i∈Region.ready md ops listed,∀ o,ops[i]?=some o->fSpec P md ops C sp i o E a/\∀ u,qH P ops C sp i o a u->uP P md ops C sp Q fuel (listed.setIfInBounds i true) (mV E i (jI ops sp i o a u)) (a.put o.dst u)
theorem zG {j:Nat} {o:Oper} {E:Nat->World->Prop} {a:Act} {dst:Option Tmp} {v:Value} (hs:∀ cs b,o.op≠.select cs b) (h:∀ d,dst=some d->d ∉ o.looksAt ops):fSpec P md ops C sp j o E (a.put dst v) ↔ fSpec P md ops C sp j o E a:=by
 unfold fSpec;rw [wanted_put o a dst v h,execOp_put o hs a dst v h]
theorem EF {j:Nat} {o:Oper} {a:Act} {dst:Option Tmp} {v u:Value} (hs:∀ cs b,o.op≠.select cs b) (h:∀ d,dst=some d->d ∉ o.looksAt ops):qH P ops C sp j o (a.put dst v) u ↔ qH P ops C sp j o a u:=by
 unfold qH;rw [wanted_put o a dst v h,execOp_put o hs a dst v h]
theorem zk {j:Nat} {o:Oper} {a:Act} {dst:Option Tmp} {v u:Value} (h:∀ d,dst=some d->d ∉ o.looksAt ops):jI ops sp j o (a.put dst v) u=jI ops sp j o a u:=by
 unfold jI;rw [wanted_put o a dst v h]
theorem zM {i j:Nat} {o:Oper} {E:Nat->World->Prop} {a:Act} {A:World->Prop} (h:¬ qj md ops i j):fSpec P md ops C sp j o (mV E i A) a ↔ fSpec P md ops C sp j o E a:=by
 unfold fSpec
 have d:∀ w,(∀ k,qj md ops k j->mV E i A k w) ↔ (∀ k,qj md ops k j->E k w):=fun w=>by
  constructor
  . intro c k b
    have:=c k b;unfold mV at this
    rwa [if_neg (fun e=>h (by rw [<-e];exact b))] at this
  . intro c k b
    unfold mV;rw [if_neg (fun e=>h (by rw [<-e];exact b))];exact c k b
 cases sp j with
 | none=>exact Iff.rfl
 | some s=>simp only [d]
theorem IU {i:Nat} {o:Oper} {E:Nat->World->Prop} {a:Act} (h:fSpec P md ops C sp i o E a):∃ u,qH P ops C sp i o a u:=by
 unfold qH
 by_cases c:Region.wanted o (yielded ops a.tmps)=true
 . have b:=h c
   simp only [c,if_true];cases d:sp i with
   | none=>rw [d] at b;exact b.2
   | some s=>rw [d] at b;exact b.1
 . exact ⟨undef,by rw [if_neg c]⟩
def Ko (md:Region.Mode) (ops:Array Oper) (listed:Array Bool):Prop:=∀ j k,qj md ops j k->listed.getD k false=true->listed.getD j false=true
theorem nG {listed:Array Bool} (hD:Ko md ops listed) {i:Nat} (hr:i∈Region.ready md ops listed) {j:Nat} (hb:qj md ops j i):listed.getD j false=true:=by
 induction hb with
 | one h1 h2 h3 h4 =>
   obtain ⟨_,o,b,a⟩:=mem_ready.1 hr;rw [b] at h1;cases h1;subst h4;exact a _ h2 h3
 | two h1 h2 _ ih2=>exact hD _ _ h1 (ih2 hr)
theorem lD {listed:Array Bool} {j:Nat} (h:listed.getD j true=false):listed.getD j false≠true:=fun e=>by
 rcases Nat.lt_or_ge j listed.size with h' | h'
 . simp [h'] at h e;rw [h] at e;cases e
 . simp [Array.getElem?_eq_none h'] at e
theorem Ko.add {listed:Array Bool} (hD:Ko md ops listed) {i:Nat} (hr:i∈Region.ready md ops listed):Ko md ops (listed.setIfInBounds i true):=by
 intro j k a b
 by_cases e:i=k
 . subst e
   exact getD_set_true (nG hD hr a)
 . rw [getD_set_ne false e] at b
   exact getD_set_true (hD j k a b)
theorem BG {Q:(Nat->World->Prop)->Act->Prop} {i:Nat} {oi:Oper} (hi:ops[i]?=some oi) (hsel:∀ (j:Nat) (o:Oper) cs b,ops[j]?=some o->o.op≠.select cs b) :
  ∀ (fuel:Nat) (listed:Array Bool) (E:Nat->World->Prop) (a:Act),
   (∀ j oj,ops[j]?=some oj->j≠i->listed.getD j true=false->(∀ e∈oj.after,Region.binds md e=true->e.on≠i)->oi.apart ops oj=true) ->
   Ko md ops listed->i∈Region.ready md ops listed->fSpec P md ops C sp i oi E a ->
   (∀ u,qH P ops C sp i oi a u->uP P md ops C sp Q fuel (listed.setIfInBounds i true) (mV E i (jI ops sp i oi a u)) (a.put oi.dst u))->uP P md ops C sp Q (fuel+1) listed E a:=by
 intro fuel
 induction fuel with
 | zero =>
   intro listed E a _ _ g p H;refine ⟨fun h=>(by rw [h] at g;cases g),fun j l oj f=>?_⟩
   by_cases c:j=i
   . subst c
     rw [hi] at f;cases f;exact ⟨p,H⟩
   . obtain ⟨u,hu⟩:=IU p
     have:=ready_mono l c;rw [(H u hu).1] at this;cases this
 | succ fuel ih =>
   intro listed E a n J g p H;refine ⟨fun h=>(by rw [h] at g;cases g),fun j l oj f=>?_⟩
   by_cases c:j=i
   . subst c
     rw [hi] at f;cases f;exact ⟨p,H⟩
   . obtain ⟨m,aa,y,N⟩:=mem_ready.1 l
     rw [f] at y;cases y;have s:=(mem_ready.1 g).1
     have L:∀ e∈oj.after,Region.binds md e=true->e.on≠i:=fun e he v Z=>by
      have q:=N e he v;rw [Z] at q;exact lD s q
     obtain ⟨q,h2,O⟩:=Oper.apart_spec (n j oj f c m L);have B:=fun cs b=>hsel i oi cs b hi;have A:=fun cs b=>hsel j oj cs b f;have K:¬ qj md ops i j:=fun v=>lD s (nG J l v);have M:¬ qj md ops j i:=fun v=>lD m (nG J g v);obtain ⟨u0,S⟩:=IU p;have R:=(H u0 S).2 j (ready_mono l c) oj f;have U:=(zM K).1 ((zG A q).1 R.1);refine ⟨U,fun z V=>?_⟩
     have r:∀ k t,ops[k]?=some t->k≠i->(listed.setIfInBounds j true).getD k true=false ->
       (∀ e∈t.after,Region.binds md e=true->e.on≠i)->oi.apart ops t=true:=fun k t hk X G Y=>by
      refine n k t hk X ?_ Y
      by_cases D:j=k
      . subst D;exact m
      . rw [getD_set_ne true D] at G;exact G
     refine ih (listed.setIfInBounds j true) (mV E j (jI ops sp j oj a z)) (a.put oj.dst z) r (J.add l) (ready_mono g (Ne.symm c)) ((zG B O).2 ((zM M).2 p)) fun T I=>?_;rw [EF B O] at I;have F:=((H T I).2 j (ready_mono l c) oj f).2 z ((EF A q).2 V);rw [zk q,JQ (Ne.symm c)] at F;rw [zk O,Array.setIfInBounds_comm _ _ c,Act.put_comm a z T (fun d hd=>fun W=>h2 d W hd)];exact F
theorem nX {Q:(Nat->World->Prop)->Act->Prop} (hs:Region.noSelect ops=true):∀ (l:List Oper) (k:Nat) (listed:Array Bool) (E:Nat->World->Prop) (a:Act),(∀ j,l[j]?=ops[k+j]?) ->
  Region.lexFrom md ops l.length k listed=true->Ko md ops listed->zV P md ops C sp Q l k E a->uP P md ops C sp Q l.length listed E a
 | [],_,_,_,_,_,hB,_,h=>⟨by simpa [Region.lexFrom] using hB,h⟩
 | o :: l,k,listed,E,a,hl,hB,hD,h=>by
   have h0:ops[k]?=some o:=by simpa using (hl 0).symm
   simp only [List.length_cons,Region.lexFrom,Bool.and_eq_true] at hB;obtain ⟨⟨hr,hf⟩,hB'⟩:=hB;have hr':k∈Region.ready md ops listed:=by simpa using hr
   exact BG h0 (Region.noSelect_spec hs) l.length listed E a (Region.free_spec h0 hf) hD hr' h.1 fun u hu =>
    nX hs l (k+1) _ _ _ (fun j=>by have:=hl (j+1);simpa [Nat.add_assoc,Nat.add_comm 1 j] using this) hB' (hD.add hr') (h.2 u hu)
theorem ET {i:Nat} {o:Oper} {E:Nat->World->Prop} {a:Act} {w:World} {K:Act->World->Prop} {Q':Exit->Act->World->Prop} (hw:C w) (h1:fSpec P md ops C sp i o E a) (hE:∀ j,E j w)
  (key:∀ u w',qH P ops C sp i o a u->kW w w'->(∀ v,sF (jI ops sp i o a v))->jI ops sp i o a u w'->K (a.put o.dst u) w') :
  if Region.wanted o (yielded ops a.tmps)=true then o.wp P a w K Q' ∨ (o.asks P a w/\LetsOut Q') else K (a.put o.dst undef) w:=by
 by_cases c:Region.wanted o (yielded ops a.tmps)=true
 . rw [if_pos c]
   refine Or.inl ?_;have g:=h1 c;unfold qH jI at key;simp only [c,if_true] at key;unfold Oper.wp;cases y:sp i with
   | none =>
     rw [y] at g key;simp only at g key;obtain ⟨q,u,t⟩:=g;have p:∀ v:Value,sF (fun _=>True):=fun _ _ _ _ _=>trivial;have b:=t w hw;have l:=key u w t (kW.refl w) p trivial;generalize z:(execOp a.eval o).run P w=r at *;cases r with
     | ok n w' =>
       cases n <;> simp only [Oper.quietUpon] at b <;> simp only [Oper.upon]
       case value u' =>
        obtain ⟨k,m⟩:=b;rw [k,m];exact l
       case skip =>
        obtain ⟨k,m⟩:=b;rw [k,<-m];exact l
       case enter f args=>exact absurd z (q w f args w')
     | halt x w'=>simp only [Oper.quietUpon] at b
   | some s =>
     rw [y] at g key;simp only at g key;have b:=g.2.2 w hw (fun j _=>hE j);have d:=fun u w' A B F=>key u w' A B g.2.1 F;clear key;generalize z:(execOp a.eval o).run P w=r at *;cases r with
     | ok n w' =>
       cases n <;> simp only [di] at b <;> simp only [Oper.upon]
       case value u'=>exact d u' w' b.2.1 b.1 b.2.2
       case skip=>exact d undef w' b.2.1 b.1 b.2.2
       case enter f args =>
        obtain ⟨k,D⟩:=b;rw [k];exact D.mono fun e w'' ⟨u,he,hl,hp,hR⟩=>by subst he;exact d u w'' hp hl hR
     | halt x w'=>simp only [di] at b
 . rw [if_neg c]
   unfold qH jI at key;simp only [c] at key;exact key undef w (by simp) (kW.refl w) (fun _ _ _ _ _=>trivial) trivial
theorem rG {Q:(Nat->World->Prop)->Act->Prop} {Q':Exit->Act->World->Prop} (hCl:∀ w w',C w->kW w w'->C w') (hQ:∀ E a w,C w->(∀ j,E j w)->Q E a->Q' .normal a w):∀ (fuel:Nat) (listed:Array Bool) (E:Nat->World->Prop) (a:Act) (w:World),C w->(∀ j,E j w)->(∀ j,sF (E j)) ->
  uP P md ops C sp Q fuel listed E a->wpAny P md ops Q' fuel listed a w
 | 0,_,_,_,_,hw,hE,_,h=>⟨h.1,hQ _ _ _ hw hE h.2⟩
 | fuel+1,listed,E,a,w,hw,hE,hS,h=>by
   refine ⟨fun h0=>hQ _ _ _ hw hE (h.1 h0),fun i hi=>?_⟩;obtain ⟨_,o,ho,_⟩:=mem_ready.1 hi;obtain ⟨h1,h2⟩:=h.2 i hi o ho
   have key:∀ u w',qH P ops C sp i o a u->kW w w'->(∀ v,sF (jI ops sp i o a v))->jI ops sp i o a u w'->wpAny P md ops Q' fuel (listed.setIfInBounds i true) (a.put o.dst u) w':=fun u w' hu hl hst hf=>by
    refine rG hCl hQ fuel _ _ _ _ (hCl _ _ hw hl) (fun j=>?_) (fun j=>?_) (h2 u hu)
    . unfold mV
      split
      . exact hf
      . exact hS j _ _ (hE j) hl
    . unfold mV
      split
      . exact hst u
      . exact hS j
   unfold wpOp;rw [ho];simp only;exact ET hw h1 hE key
theorem vN {l:List Oper} {o x:Oper} {t:Array Value} (hg:∀ g b,x.guard=some (g,b)->g < l.length):Region.wanted x (yielded (l ++ [o]).toArray t)=Region.wanted x (yielded l.toArray t):=by
 unfold Region.wanted;cases c:x.guard with
 | none=>rfl
 | some gw =>
   obtain ⟨g,b⟩:=gw;have a:=hg g b c
   have:yielded (l ++ [o]).toArray t g=yielded l.toArray t g:=by
    unfold yielded;simp [List.getElem?_append_left a]
   simp only [this]
theorem dC {listed:Array Bool} {i:Nat} {d:Bool} : (listed.push false).getD i d=if i < listed.size then listed.getD i d else if i=listed.size then false else d:=by
 rcases Nat.lt_trichotomy i listed.size with h | h | h
 . simp [Array.getElem?_push,h,Nat.ne_of_lt h]
 . subst h;simp [Array.getElem?_push]
 . have b:¬ i < listed.size:=by omega
   have a:¬ i=listed.size:=by omega
   rw [if_neg b,if_neg a];simp [Array.getElem?_push,a,Array.getElem?_eq_none (show listed.size<=i by omega)]
theorem DJ {listed:Array Bool} {i:Nat} (h:i < listed.size):(listed.push false).setIfInBounds i true=(listed.setIfInBounds i true).push false:=by
 apply Array.ext_getElem?;intro k;simp only [Array.getElem?_setIfInBounds,Array.getElem?_push,Array.size_push,Array.size_setIfInBounds]
 by_cases a:i=k
 . subst a
   simp [h,Nat.ne_of_lt h];omega
 . simp [a]
theorem yg {l:List Oper} {listed:Array Bool} (hs:listed.size=l.length) (hac:∀ (i:Nat) (x:Oper),l[i]?=some x->∀ e∈x.after,e.on < i) (hr:Region.ready md l.toArray listed=[]):∀ i,i < l.length->listed.getD i false=true:=by
 intro i
 induction i using Nat.strongRecOn with
 | _ i ih =>
   intro a;refine Classical.byContradiction fun b=>?_
   have d:listed.getD i true=false:=by
    have c:i < listed.size:=by omega
    simp [c] at b ⊢;exact b
   have:i∈Region.ready md l.toArray listed:=mem_ready.2 ⟨d,l[i],by simp [a],fun e f _=>by
    have:=hac i l[i] (by simp [a]) e f;exact ih e.on this (by omega)⟩
   rw [hr] at this;cases this
theorem wpAny_done {Q':Exit->Act->World->Prop} {listed:Array Bool} {a:Act} {w:World} (hr:Region.ready md ops listed=[]) (h:Q' .normal a w):∀ m,wpAny P md ops Q' m listed a w
 | 0=>⟨hr,h⟩
 | m+1=>⟨fun _=>h,fun i hi=>by rw [hr] at hi;cases hi⟩
theorem yZ {l:List Oper} {o:Oper} {Q:(Nat->World->Prop)->Act->Prop} {Q':Exit->Act->World->Prop} (hCl:∀ w w',C w->kW w w'->C w') (hog:o.guard=none)
  (hQ:∀ E a w,C w->(∀ j,E j w)->Q E a->o.wp P a w (fun a w=>Q' .normal a w) Q')
  (hac:∀ (i:Nat) (x:Oper),l[i]?=some x->∀ e∈x.after,e.on < i) (hgd:∀ (i:Nat) (x:Oper),l[i]?=some x->∀ g b,x.guard=some (g,b)->g < l.length) (hon:∀ e∈o.after,e.on < l.length)
  (hall:∀ j,j < l.length->qj md (l ++ [o]).toArray j l.length) :
  ∀ (m:Nat) (listed:Array Bool) (E:Nat->World->Prop) (a:Act) (w:World),listed.size=l.length->Ko md (l ++ [o]).toArray (listed.push false)->C w->(∀ j,E j w)->(∀ j,sF (E j)) ->
   uP P md l.toArray C sp Q m listed E a->wpAny P md (l ++ [o]).toArray Q' (m+1) (listed.push false) a w:=by
 have A:∀ (m:Nat) (listed:Array Bool) (E:Nat->World->Prop) (a:Act) (w:World),listed.size=l.length->C w->(∀ j,E j w)->Region.ready md l.toArray listed=[]->Q E a->wpAny P md (l ++ [o]).toArray Q' (m+1) (listed.push false) a w:=by
  intro m listed E a w q r t G hq;have B:=yg q hac G
  have N:∀ i,i < l.length->listed.getD i true=true:=fun i c=>by
   have k:=B i c;have D:i < listed.size:=by omega
   simp [D] at k ⊢;exact k
  have z:l.length∈Region.ready md (l ++ [o]).toArray (listed.push false):=mem_ready.2 ⟨by rw [dC,if_neg (by omega),if_pos q.symm],o,by simp,fun e s _=>by
   have:=hon e s;rw [dC,if_pos (by omega)];exact B _ this⟩
  have K:∀ i,i∈Region.ready md (l ++ [o]).toArray (listed.push false)->i=l.length:=fun i c=>by
   obtain ⟨d,x,f,_⟩:=mem_ready.1 c;refine Classical.byContradiction fun aa=>?_
   have k:i < l.length:=by
    have:=(Array.getElem?_eq_some_iff.1 f).1;simp at this;omega
   rw [dC,if_pos (by omega),N i k] at d;cases d
  have J:Region.ready md (l ++ [o]).toArray ((listed.push false).setIfInBounds l.length true)=[]:=by
   refine List.eq_nil_iff_forall_not_mem.2 fun i c=>?_;obtain ⟨d,x,f,n⟩:=mem_ready.1 c
   by_cases e:l.length=i
   . subst e
     simp [q] at d
   . rw [getD_set_ne true e] at d
     have k:i < l.length:=by
      have:=(Array.getElem?_eq_some_iff.1 f).1;simp at this;omega
     rw [dC,if_pos (by omega),N i k] at d;cases d
  refine ⟨fun h=>(by rw [h] at z;cases z),fun i c=>?_⟩;obtain rfl:=K i c;unfold wpOp;have S:((l ++ [o]).toArray)[l.length]?=some o:=by simp
  rw [S];simp only;have X:Region.wanted o (yielded (l ++ [o]).toArray a.tmps)=true:=by unfold Region.wanted;rw [hog]
  rw [if_pos X];exact Or.inl (Oper.wp_mono (fun a' w' h=>wpAny_done J h m) (hQ E a w r t hq))
 intro m
 induction m with
 | zero =>
   intro listed E a w q R r t O h;exact A 0 listed E a w q r t h.1 h.2
 | succ m ih =>
   intro listed E a w q R r t O h
   by_cases G:Region.ready md l.toArray listed=[]
   . exact A (m+1) listed E a w q r t G (h.1 G)
   obtain ⟨I,y⟩:=List.exists_mem_of_ne_nil _ G
   have p:∀ i,i∈Region.ready md l.toArray listed->i < l.length/\i∈Region.ready md (l ++ [o]).toArray (listed.push false):=fun i c=>by
    obtain ⟨d,x,f,n⟩:=mem_ready.1 c
    have k:i < l.length:=by
     have:=(Array.getElem?_eq_some_iff.1 f).1;simpa using this
    refine ⟨k,mem_ready.2 ⟨by rw [dC,if_pos (by omega)];exact d,x,by rw [<-f];simp [List.getElem?_append_left k],fun e s T=>?_⟩⟩;have:=n e s T;have h3:=hac i x (by simpa using f) e s;rw [dC,if_pos (by omega)];exact this
   have H:∀ i,i∈Region.ready md (l ++ [o]).toArray (listed.push false)->i∈Region.ready md l.toArray listed:=fun i c=>by
    obtain ⟨d,x,f,n⟩:=mem_ready.1 c
    by_cases k:i < l.length
    . rw [dC,if_pos (by omega)] at d
      have L:l.toArray[i]?=some x:=by rw [<-f];simp [List.getElem?_append_left k]
      refine mem_ready.2 ⟨d,x,L,fun e s T=>?_⟩;have:=n e s T;have h3:=hac i x (by simpa using L) e s;rw [dC,if_pos (by omega)] at this;exact this
    . have D:i=l.length:=by
       have:=(Array.getElem?_eq_some_iff.1 f).1;simp at this;omega
      subst D;have U:=nG R c (hall I (p I y).1);rw [dC,if_pos (by have:=(p I y).1;omega)] at U;exact absurd U (lD (mem_ready.1 y).1)
   refine ⟨fun d=>(by have:=(p I y).2;rw [d] at this;cases this),fun i c=>?_⟩;have F:=H i c;have Y:=(p i F).1;obtain ⟨_,x,f,_⟩:=mem_ready.1 F;obtain ⟨k,D⟩:=h.2 i F x f;have M:=R.add c;rw [DJ (by omega)] at M ⊢
   have V:∀ u w',qH P l.toArray C sp i x a u->kW w w'->(∀ v,sF (jI l.toArray sp i x a v))->jI l.toArray sp i x a u w'->wpAny P md (l ++ [o]).toArray Q' (m+1) ((listed.setIfInBounds i true).push false) (a.put x.dst u) w':=fun u w' hu B W hf=>by
    refine ih _ _ _ _ (by simpa using q) M (hCl _ _ r B) (fun j=>?_) (fun j=>?_) (D u hu)
    . unfold mV
      split
      . exact hf
      . exact O j _ _ (t j) B
    . unfold mV
      split
      . exact W u
      . exact O j
   have Z:(l ++ [o]).toArray[i]?=some x:=by rw [<-f];simp [List.getElem?_append_left Y]
   unfold wpOp;rw [Z];simp only;rw [vN (hgd i x (by simpa using f))];exact ET r k t V
end
def FH (W w':World):Prop:=∃ p:Regrown,w'=grow (redrawn W p.d) p.os
theorem Bd {W w w':World} (h:FH W w) (hl:kW w w'):FH W w':=by
 obtain ⟨p,rfl⟩:=h;have a:=below_regrown W p.d p.os;exact regrown_of_below (Below.trans a (Below.mono hl a.size))
theorem ai {W w:World} (h:FH W w):Below W.heap.size W w:=by obtain ⟨p,rfl⟩:=h;exact below_regrown W p.d p.os
theorem au {P:Program} {id:Nat} {Q:Exit->Act->World->Prop} {a:Act} {w:World} {l:List Oper} (sp:Nat->Option mP) (hm:P.follows .mixedOrders=true) (hB:Region.lexB .any l.toArray=true)
  (h:zV P .any l.toArray (fun w'=>∃ p:Regrown,w'=grow (redrawn w p.d) p.os) sp (fun E a'=>∀ w',FH w w'->(∀ j,E j w')->Q .normal a' w') l 0 (fun _ _=>True) a):(Code.region id l.toArray true).wp P Q a w:=by
 simp only [Region.lexB,Bool.and_eq_true] at hB;refine wp_region_any hm (rG (Q:=fun E a'=>∀ w',FH w w'->(∀ j,E j w')->Q .normal a' w') (C:=fun w'=>∃ p:Regrown,w'=grow (redrawn w p.d) p.os) (sp:=sp) (fun w1 w2 g i=>Bd g i) (fun E a w' c m h=>h w' c m) _ _ (fun _ _=>True) _ _ ⟨⟨w.drawn+1,#[]⟩,by rw [grow_empty];rfl⟩ (fun _=>trivial) (fun _ _ _ _ _=>trivial) ?_)
 have f:Ko .any l.toArray (Array.replicate l.toArray.size false):=fun j k _ b=>by
  exfalso;unfold Array.getD at b;split at b <;> simp at b
 have:=nX (P:=P) (md:=.any) hB.1 l 0 (Array.replicate l.toArray.size false) (fun _ _=>True) a (by simp) (by simpa using hB.2) f h;simpa using this
section
variable {P:Program} {ops:Array Oper} {C:World->Prop} {sp:Nat->Option mP} {Q:(Nat->World->Prop)->Act->Prop} {o:Oper} {rest:List Oper} {k:Nat} {E:Nat->World->Prop} {a:Act}
theorem aS (h:Q E a):zV P .any ops C sp Q [] k E a:=h
theorem aW (hw:Region.wanted o (yielded ops a.tmps)=false) (h:zV P .any ops C sp Q rest (k+1) (mV E k (fun _=>True)) (a.put o.dst undef)):zV P .any ops C sp Q (o :: rest) k E a:=by
 refine ⟨fun c=>absurd (hw.symm.trans c) (by simp),fun u b=>?_⟩;unfold qH at b;unfold jI;simp only [hw] at b ⊢;have:u=undef:=by simpa using b
 subst this;simpa using h
theorem FO {w:World} {X:Sem Next} {u v:Value} (hne:noEnter P X) (h1:Oper.quietUpon P C w u (X.run P w)) (h2:Oper.quietUpon P C w v (X.run P w)):u=v:=by
 generalize a:X.run P w=r at *;cases r with
 | ok n w' =>
   cases n <;> simp only [Oper.quietUpon] at h1 h2
   case value u'=>rw [<-h1.2,<-h2.2]
   case skip=>rw [h1.2,h2.2]
   case enter f args=>exact absurd a (hne w f args w')
 | halt x w'=>simp only [Oper.quietUpon] at h1
theorem dm (hC:∃ w,C w) (hw:Region.wanted o (yielded ops a.tmps)=true) (hsp:sp k=none) (hne:noEnter P (execOp a.eval o))
  (h:∀ K:Act->Prop,(∀ a',zV P .any ops C sp Q rest (k+1) (mV E k (fun _=>True)) a'->K a')->o.quiet P a C K):zV P .any ops C sp Q (o :: rest) k E a:=by
 obtain ⟨v,d,f⟩:=h _ (fun _ h=>h);refine ⟨fun _=>?_,fun u c=>?_⟩
 . rw [hsp];exact ⟨hne,v,d⟩
 . unfold qH at c
   unfold jI;simp only [hw,if_true,hsp] at c ⊢;obtain ⟨w,b⟩:=hC;have:u=v:=FO hne (c w b) (d w b);subst this;exact f
theorem ay (h:∀ K:Act->Prop,(∀ a',zV P .any ops C sp Q rest k E a'->K a')->K a):zV P .any ops C sp Q rest k E a:=h _ (fun _ h=>h)
theorem aC (s:mP) (hw:Region.wanted o (yielded ops a.tmps)=true) (hsp:sp k=some s) (hp:∃ u,s.p u) (hR:∀ v,sF (s.R v))
  (hs:∀ w,C w->(∀ j,qj .any ops j k->E j w)->di P w s ((execOp a.eval o).run P w))
  (h:∀ u,s.p u->zV P .any ops C sp Q rest (k+1) (mV E k (s.R u)) (a.put o.dst u)):zV P .any ops C sp Q (o :: rest) k E a:=by
 refine ⟨fun _=>?_,fun u b=>?_⟩
 . rw [hsp];exact ⟨hp,hR,hs⟩
 . unfold qH at b
   unfold jI;simp only [hw,if_true,hsp] at b ⊢;exact h u b
end
def Ky (l:List Oper) (n:Nat):Bool:=l.zipIdx.all fun x=>x.1.after.all (fun e=>decide (e.on < x.2)) && (match x.1.guard with | some (g,_)=>decide (g < n) | none=>true)
theorem yN {l:List Oper} {n:Nat} (h:Ky l n=true):∀ (i:Nat) (x:Oper),l[i]?=some x->(∀ e∈x.after,e.on < i)/\∀ g b,x.guard=some (g,b)->g < n:=by
 intro i x c;unfold Ky at h;rw [List.all_eq_true] at h;have a:=h (x,i) (by rw [List.mem_zipIdx_iff_getElem?];exact c);rw [Bool.and_eq_true] at a;refine ⟨fun e d=>?_,fun g b f=>?_⟩
 . have:=Array.all_eq_true_iff_forall_mem.1 a.1 e d
   simpa using this
 . have:=a.2
   rw [f] at this;simpa using this
def OC (md:Region.Mode) (ops:Array Oper):Nat->Nat->Nat->Bool
 | 0,_,_=>false
 | f+1,j,k=>match ops[k]? with
   | none=>false
   | some o=>o.after.any fun e=>Region.binds md e && (e.on == j || OC md ops f j e.on)
theorem uw {md:Region.Mode} {ops:Array Oper} {j:Nat} : ∀ (f k:Nat),OC md ops f j k=true->qj md ops j k
 | 0,_,h=>by cases h
 | f+1,k,h=>by
   unfold OC at h;cases hk:ops[k]? with
   | none=>rw [hk] at h;cases h
   | some o =>
     rw [hk] at h;simp only at h;obtain ⟨ix,hix,h2⟩:=Array.any_eq_true.1 h;have he:=Array.getElem_mem hix;generalize o.after[ix]=e at *;rw [Bool.and_eq_true,Bool.or_eq_true] at h2;rcases h2.2 with h3 | h3
     . exact .one hk he h2.1 (by simpa using h3)
     . exact .two (uw f _ h3) (.one hk he h2.1 rfl)
def NL (l:List Oper) (o:Oper):Bool:=Ky l l.length && o.guard.isNone && o.after.all (fun e=>decide (e.on < l.length)) && (List.range l.length).all fun j=>OC .any (l ++ [o]).toArray (l.length+1) j l.length
theorem xU {P:Program} {id:Nat} {Q:Exit->Act->World->Prop} {a:Act} {w:World} {l ops:List Oper} {o:Oper} (sp:Nat->Option mP) (ho:ops=l ++ [o]) (hm:P.follows .mixedOrders=true) (hB:Region.lexB .any l.toArray=true) (hL:NL l o=true)
  (h:zV P .any l.toArray (fun w'=>∃ p:Regrown,w'=grow (redrawn w p.d) p.os) sp (fun E a'=>∀ w',FH w w'->(∀ j,E j w')->o.wp P a' w' (fun a2 w2=>Q .normal a2 w2) Q) l 0 (fun _ _=>True) a):(Code.region id ops.toArray true).wp P Q a w:=by
 subst ho;simp only [Region.lexB,Bool.and_eq_true] at hB;unfold NL at hL;simp only [Bool.and_eq_true] at hL;obtain ⟨⟨⟨t,q⟩,v⟩,f⟩:=hL;have r:=yN t
 have m:∀ j,j < l.length->qj .any (l ++ [o]).toArray j l.length:=fun j z=>uw _ _ (by
  rw [List.all_eq_true] at f;exact f j (List.mem_range.2 z))
 have u:∀ e∈o.after,e.on < l.length:=fun e B=>by
  have:=Array.all_eq_true_iff_forall_mem.1 v e B;simpa using this
 have A:∀ n,Ko .any l.toArray (Array.replicate n false):=fun n j k _ b=>by
  exfalso;unfold Array.getD at b;split at b <;> simp at b
 have y:Ko .any (l ++ [o]).toArray ((Array.replicate l.length false).push false):=fun j k _ b=>by
  exfalso;rw [dC] at b
  by_cases c:k < (Array.replicate l.length false).size
  . rw [if_pos c] at b
    unfold Array.getD at b;split at b <;> simp at b
  . rw [if_neg c] at b
    split at b <;> cases b
 refine wp_region_any hm ?_;have G:=nX (P:=P) (md:=.any) hB.1 l 0 (Array.replicate l.toArray.size false) (fun _ _=>True) a (by simp) (by simpa using hB.2) (A _) h
 have:=yZ (P:=P) (md:=.any) (l:=l) (o:=o) (Q:=fun E a'=>∀ w',FH w w'->(∀ j,E j w')->o.wp P a' w' (fun a2 w2=>Q .normal a2 w2) Q) (Q':=Q) (C:=fun w'=>∃ p:Regrown,w'=grow (redrawn w p.d) p.os) (sp:=sp) (fun w1 w2 c F=>Bd c F) (by simpa using q) (fun E a w' s D h=>h w' s D) (fun i x g=>(r i x g).1) (fun i x g=>(r i x g).2) u m
  l.length (Array.replicate l.length false) (fun _ _=>True) a { w with drawn:=w.drawn+1 } (by simp) y ⟨⟨w.drawn+1,#[]⟩,by rw [grow_empty];rfl⟩ (fun _=>trivial) (fun _ _ _ _ _=>trivial) (by simpa using G)
 rw [<-Array.replicate_succ] at this;simpa using this
theorem gQ (w:World):∃ w',∃ p:Regrown,w'=grow (redrawn w p.d) p.os:=⟨_,⟨0,#[]⟩,rfl⟩
theorem BJ {α:Type} {P:Program} {w:World} {s:Sem α} {f:α->Sem Next} {X:Result Next} (hX:∀ h w',X≠.halt h w') (h1:∀ a w',(f a).run P w'≠X):(s >>= f).run P w≠X:=by
 rw [Sem.run_bind];cases s.run P w with
 | ok a w'=>exact h1 a w'
 | halt h w'=>exact fun e=>hX h w' e.symm
def KQ (o:Oper):Bool:=match o.op with | .call _=>true | .nilCheck _=>true | .recv _ _ _=>true | _=>false
theorem dG {P:Program} {ρ:Operand->Value} {o:Oper} (h:KQ o=false):noEnter P (execOp ρ o):=by
 intro w f c d;unfold KQ at h;unfold execOp;have b:∀ h w1,(Result.ok (Next.enter f c) d:Result Next)≠.halt h w1:=fun h w1 e=>by cases e
 cases g:o.op <;> rw [g] at h <;> simp only at h ⊢
 all_goals first
  | (cases h;done)
  | (rw [Sem.run_pure];intro e;cases e;done)
  | (refine BJ b fun a w1=>?_;rw [Sem.run_pure];intro e;cases e;done)
  | (refine BJ b fun a w1=>?_;refine BJ b fun a w1=>?_;rw [Sem.run_pure];intro e;cases e;done)
theorem uC {P:Program} {id:Nat} {Q:Exit->Act->World->Prop} {a:Act} {w:World} {x0 x1 x2 x3 x4 x5 x6 x7 x8 x9 x10:Oper} (sp:Nat->Option mP) (hm:P.follows .mixedOrders=true) (hB:Region.lexB .any [x0,x1,x2,x3,x4,x5,x6,x7,x8,x9].toArray=true) (hL:NL [x0,x1,x2,x3,x4,x5,x6,x7,x8,x9] x10=true)
  (h:zV P .any [x0,x1,x2,x3,x4,x5,x6,x7,x8,x9].toArray (fun w'=>∃ p:Regrown,w'=grow (redrawn w p.d) p.os) sp (fun E a'=>∀ w',FH w w'->(∀ j,E j w')->x10.wp P a' w' (fun a2 w2=>Q .normal a2 w2) Q) [x0,x1,x2,x3,x4,x5,x6,x7,x8,x9] 0 (fun _ _=>True) a):(Code.region id [x0,x1,x2,x3,x4,x5,x6,x7,x8,x9,x10].toArray true).wp P Q a w:=
 xU (l:=[x0,x1,x2,x3,x4,x5,x6,x7,x8,x9]) (o:=x10) sp rfl hm hB hL h
theorem wq {P:Program} {ops:Array Oper} {w:World} {sp:Nat->Option mP} {Q:(Nat->World->Prop)->Act->Prop} {o:Oper} {rest:List Oper} {k:Nat} {E:Nat->World->Prop} {a:Act}
  (h:∀ K:Act->Prop,(∀ a',zV P .any ops (fun w'=>∃ p:Regrown,w'=grow (redrawn w p.d) p.os) sp Q rest (k+1) (mV E k (fun _=>True)) a'->K a')->o.quiet P a (fun w'=>∃ p:Regrown,w'=grow (redrawn w p.d) p.os) K)
  (hw:Region.wanted o (yielded ops a.tmps)=true:=by kernel_rfl) (hsp:sp k=none:=by rfl) (hne:noEnter P (execOp a.eval o):=by exact Go.Proofs.YtomhbcfjhgecbaaGreatDoor.Stp.dG (by rfl)):zV P .any ops (fun w'=>∃ p:Regrown,w'=grow (redrawn w p.d) p.os) sp Q (o :: rest) k E a:=
 dm (gQ w) hw hsp hne h
def bT (u:Value):mP:=⟨fun v=>v=u,fun _ _=>True⟩
def bY (b:Bool):mP:=bT (.bool b)
theorem aQ:∀ v:Value,sF ((fun (_:Value) (_:World)=>True) v):=fun _ _ _ _ _=>trivial
end Go.Proofs.YtomhbcfjhgecbaaGreatDoor.Stp
namespace Go.Proofs.YtomhbcfjhgecbaaGreatDoor
open Go.RowKit Go.Sort Go.Lib
open Go.Lib (hid)
open Stp (mP kW sF)
theorem IY:(Tryz.prog.info? 39).map (fun i=>(i.zero,i.size,i.bytes))=some (some (.agg #[.int .i64 0,.int .i64 0,.string ByteArray.empty,.slice none 0 0,.slice none 0 0]),5,80):=by kernel_rfl
def GL:Go.Shelf.Ren:=⟨fun | 41=>130 | n=>n,fun | 22=>36 | 23=>39 | 4=>4 | n=>n,fun | n=>n⟩
theorem Ob:Go.Proofs.SlLaysE0.n41 Tryz.prog GL:={
 mixed:=by kernel_rfl
 f41:=⟨Tryz.f130.name,by decide,Tryz.func130.trans (congrArg some (by kernel_rfl))⟩
 t4:=Tryz.underlying4
 a4:=Tryz.isAgg4
 z4:=Tryz.sizeOf4
 v4:=Tryz.zeroValue4
 t22:=Tryz.underlying36
 a22:=Tryz.isAgg36
 z22:=Tryz.sizeOf36
 v22:=Tryz.zeroValue36 }
theorem Ui {w:World} {cs:List Value} {x:Val} (h:VR w cs x):∃ y:Cv,cs=y.enc:=by
 obtain ⟨r,c,d,rfl,_,⟨a,b,rfl,_⟩,_⟩:=h.open';exact ⟨⟨x.kind,x.num,x.str,r,x.items.length,c,a,x.keys.length,b⟩,rfl⟩
theorem Uj {w:World} {r:Option Addr} {n c:Nat} {is:List Val} (h:Sl VR 5 w (.slice r n c) is):∃ ys:List Cv,ys.length=is.length/\∀ (i:Nat) (hi:i < ys.length),∃ h':i < is.length,VR w (ys[i]).enc is[i]/\∃ b off,r=some ⟨b,off,none⟩/\∀ (j:Nat) (u:Value),(ys[i]).enc[j]?=some u->w.cell? ⟨b,off+i * 5+j,none⟩=some u:=by
 obtain ⟨m,s,e,p,q,g⟩:=h;simp at e;obtain ⟨rfl,rfl,rfl⟩:=e
 obtain ⟨ys,d,f⟩:=BI is.length (fun i (y:Cv)=>∃ h':i < is.length,VR w y.enc is[i]/\∃ b off,r=some ⟨b,off,none⟩/\∀ (j:Nat) (u:Value),y.enc[j]?=some u->w.cell? ⟨b,off+i * 5+j,none⟩=some u) (fun i hi=>by
  obtain ⟨b,off,o,l,_,k,a⟩:=g i hi;obtain ⟨y,rfl⟩:=Ui a;exact ⟨y,hi,a,b,off,l,k⟩)
 exact ⟨ys,d,f⟩
theorem zT {w:World} {b off:Nat} : ∀ (ys:List Cv) (o:Nat),(∀ (i:Nat) (hi:i < ys.length),∀ (j:Nat) (u:Value),(ys[i]).enc[j]?=some u->w.cell? ⟨b,off+o+i * 5+j,none⟩=some u)->∀ (j:Nat) (u:Value),(ys.flatMap Cv.enc)[j]?=some u->w.cell? ⟨b,off+o+j,none⟩=some u
 | [],o,_,j,u,h=>by simp at h
 | y :: ys,o,hc,j,u,h=>by
   rw [List.flatMap_cons] at h
   by_cases hj:j < 5
   . rw [List.getElem?_append_left (by rw [uV];exact hj)] at h
     have:=hc 0 (by simp) j u h;simpa using this
   . rw [List.getElem?_append_right (by rw [uV];omega),uV] at h
     have:=zT ys (o+5) (fun i hi j u hu=>by
      have:=hc (i+1) (by simpa using hi) j u hu;rw [show off+o+(i+1) * 5+j=off+(o+5)+i * 5+j by omega] at this;exact this) (j - 5) u h
     rw [show off+(o+5)+(j - 5)=off+o+j by omega] at this;exact this
def Px (B:Nat) (w0 w:World) (v:Value) (ys:List Cv) (is:List Val):Prop:=w.ownsRow B 39 5 v ys.length (ys.flatMap Cv.enc)/\ys.length=is.length/\∀ (i:Nat) (h:i < ys.length) (h':i < is.length),VR w0 (ys[i]).enc is[i]
set_option maxHeartbeats 4000000 in
set_option maxRecDepth 100000 in
theorem Nb (a:Addr) (c:Nat) (w:World):Calls Tryz.prog 130 #[.slice (some a) 0 c] w fun e w'=>∃ v',e=.returned v'/\w'.ownsRow w.heap.size 39 5 v' 0 []/\Below w.heap.size w w':=by
 obtain ⟨p,q,l,i,m⟩:=info_parts IY;have v:∀ (w:World) (a:Option Addr) (n c d g:Nat),(binOp .eql 36 (.slice a n c) (.slice none d g)).run Tryz.prog w=.ok (.bool a.isNone) w:=fun w a n c d g=>Lib.run_eql_slice_nil w _ _ a n c d g Tryz.underlying36;go_enter Tryz.func130,Tryz.ntmps130;go_wp2_with (at_builtin;refine wpList_append_own _ rfl _ _ 36 rfl w.heap.size 39 p _ 5 80 Tryz.underlying36 q l i m rfl (by decide) _ _ _ rfl (World.ownsRow_made w #[] 0 (Nat.le_refl _) (Nat.zero_le _) rfl) a 0 c [] rfl rfl (by intro j u r;simp at r) (by intro u t;cases t) (by unfold maxLen;omega) (by omega) (by simp) ?_)
 intro v' w1 f b o;go_wp2
 go_ret
 exact ⟨v',rfl,by simpa using f,((Below.refl _ w).alloc (Nat.le_refl _) _).grown b (by simp) (by intro k s;simp [Value.ownBlock] at s;omega)⟩
theorem O8 (is:List Val) (r:Option Addr) (c:Nat) (w0 w:World) (h0:Sl VR 5 w0 (.slice r is.length c) is) (hb:Below w0.heap.size w0 w) (hn:is.length<=1000000) :
  Calls Tryz.prog 130 #[.slice r is.length c] w fun e w'=>∃ v' ys,e=.returned v'/\Px w.heap.size w0 w' v' ys is/\Below w.heap.size w w':=by
 obtain ⟨ys,d,k⟩:=Uj h0;have n:=bi h0;cases r with
 | none =>
   have l:is=[]:=by
    cases is with
    | nil=>rfl
    | cons x is =>
      obtain ⟨_,_,b,off,f,_⟩:=k 0 (by rw [d];simp);cases f
   subst l;have:ys=[]:=List.eq_nil_of_length_eq_zero d;subst this;exact (AnyE.slices_Clone_nil Ob 0 c w).mono fun e w' ⟨he,hw⟩=>⟨_,[],he,⟨⟨by simp,.inl ⟨rfl,rfl⟩⟩,rfl,fun i h=>by simp at h⟩,by rw [hw];exact Below.refl _ _⟩
 | some a =>
   obtain ⟨t,m,q,o,s⟩:=info_parts IY;obtain ⟨_,A,B⟩:=n
   by_cases l:is=[]
   . subst l
     have:ys=[]:=List.eq_nil_of_length_eq_zero d;subst this;exact (Nb a c w).mono fun e w' ⟨v',he,ho,hb2⟩=>⟨v',[],he,⟨ho,rfl,fun i h=>by simp at h⟩,hb2⟩
   . obtain ⟨b,off,z⟩:∃ b off,a=⟨b,off,none⟩:=by
      obtain ⟨_,_,b,off,f,_⟩:=k 0 (by rw [d];exact List.length_pos_iff.2 l);exact ⟨b,off,by simpa using f⟩
     subst z;refine (AnyE.slices_Clone Ob t _ 5 80 m q o s rfl (by decide) Tryz.sizeOf39 b off is.length c (ys.flatMap Cv.enc) w (by rw [iH Cv.enc 5 uV,d]) (by unfold maxLen;omega) (by omega) (fun j u g=>?_) (fun u g=>?_)).mono fun e w' ⟨v',he,ho,_,hb2⟩=>⟨v',ys,he,⟨by rw [d];exact ho,d,fun i h D=>(k i h).2.1⟩,hb2⟩
     . refine az hb ?_
       have:=zT (w:=w0) (b:=b) (off:=off) ys 0 (fun i m j u g=>by
        obtain ⟨_,_,C,v,f,n⟩:=k i m;simp at f;obtain ⟨rfl,rfl⟩:=f;exact n j u g) j u g
       simpa using this
     . obtain ⟨y,_,p⟩:=List.mem_flatMap.1 g
       exact Q9 y u p
end Go.Proofs.YtomhbcfjhgecbaaGreatDoor
namespace Go.Proofs.YtomhbcfjhgecbaaGreatDoor
open Go.RowKit Go.Sort Go.Lib
open Go.Lib (hid)
open Stp (mP kW sF)
theorem lw {B sz g n cap:Nat} {e:TypeId} {w:World} {xs:List Value} (h:w.ownsRow B e sz (.slice (some ⟨g,0,none⟩) n cap) n xs) (i:Nat) (u:Value):(w.setCell ⟨g,i,none⟩ u).ownsRow B e sz (.slice (some ⟨g,0,none⟩) n cap) n (xs.set i u):=by
 refine ⟨by rw [List.length_set];exact h.1,?_⟩;rcases h.2 with ⟨he,_⟩ | ⟨g2,cap2,cur,he,hb,hg,hn,hc,hs,ht⟩
 . cases he
 . cases he
   refine .inr ⟨g,cap,cur.setIfInBounds i u,rfl,hb,?_,hn,hc,by rw [Array.size_setIfInBounds];exact hs,?_⟩
   . unfold World.setCell
     simp only [Array.getElem?_modify,if_true,hg,Option.map_some];rfl
   . rw [Array.toList_setIfInBounds,List.take_set,ht]
theorem pG (x:Cv) (r:List Value) (i:Nat) (u:Value):(x.enc ++ r).set (i+5) u=x.enc ++ r.set i u:=rfl
theorem zH (y:Cv):∀ (xs:List Cv) (k:Nat) (hk:k < xs.length),((((((xs.flatMap Cv.enc).set (k * 5) (.int .i64 y.k)).set (k * 5+1) (.int .i64 y.n)).set (k * 5+2) (.string y.s)).set (k * 5+3) (.slice y.r y.ni y.c)).set (k * 5+4) (.slice y.rk y.nk y.ck))=(xs.set k y).flatMap Cv.enc
 | [],k,hk=>by simp at hk
 | x :: xs,0,_=>rfl
 | x :: xs,k+1,hk=>by
   have IH:=zH y xs k (by simpa using hk);rw [List.set_cons_succ,List.flatMap_cons,List.flatMap_cons];rw [show (k+1) * 5=k * 5+5 by omega,show k * 5+5+1=(k * 5+1)+5 by omega,show k * 5+5+2=(k * 5+2)+5 by omega,show k * 5+5+3=(k * 5+3)+5 by omega,show k * 5+5+4=(k * 5+4)+5 by omega,pG,pG,pG,pG,pG,IH]
def sS (w:World) (g k:Nat) (y:Cv):World:=((((w.setCell ⟨g,k * 5,none⟩ (.int .i64 y.k)).setCell ⟨g,k * 5+1,none⟩ (.int .i64 y.n)).setCell ⟨g,k * 5+2,none⟩ (.string y.s)).setCell ⟨g,k * 5+3,none⟩ (.slice y.r y.ni y.c)).setCell ⟨g,k * 5+4,none⟩ (.slice y.rk y.nk y.ck)
theorem oK (w:World) (g k:Nat) (y:Cv) {b:Nat} (h:b≠g):(sS w g k y).heap[b]?=w.heap[b]?:=by
 unfold sS;rw [Below.heap_setCell _ _ _ _ h,Below.heap_setCell _ _ _ _ h,Below.heap_setCell _ _ _ _ h,Below.heap_setCell _ _ _ _ h,Below.heap_setCell _ _ _ _ h]
theorem JH (w:World) (g k:Nat) (y:Cv):(sS w g k y).heap.size=w.heap.size:=by unfold sS;simp [World.setCell]
theorem Ho {B:Nat} {w0 w:World} (h:Below B w0 w) (g k:Nat) (y:Cv) (hg:B<=g):Below B w0 (sS w g k y):=((((h.setCell hg _).setCell hg _).setCell hg _).setCell hg _).setCell hg _
theorem LQ {B g n cap:Nat} {w:World} {ys:List Cv} (h:w.ownsRow B 39 5 (.slice (some ⟨g,0,none⟩) n cap) n (ys.flatMap Cv.enc)) (hn:n=ys.length) {k:Nat} (hk:k < ys.length) (y:Cv) :
  (sS w g k y).ownsRow B 39 5 (.slice (some ⟨g,0,none⟩) n cap) n ((ys.set k y).flatMap Cv.enc):=by
 rw [<-zH y ys k hk];exact lw (lw (lw (lw (lw h _ _) _ _) _ _) _ _) _ _
structure qE (M:Nat) (w0 w:World) (v:Value) (ys:List Cv) (is:List Val) (k:Nat):Prop where
 own:w.ownsRow M 39 5 v ys.length (ys.flatMap Cv.enc)
 len:ys.length=is.length
 done:∀ (i:Nat) (h:i < ys.length) (h':i < is.length),i < k->VR (mask (vJ M v) w) (ys[i]).enc is[i]
 rest:∀ (i:Nat) (h:i < ys.length) (h':i < is.length),k<=i->VR w0 (ys[i]).enc is[i]
theorem Px.start {B M:Nat} {w0 w:World} {v:Value} {ys:List Cv} {is:List Val} (h:Px B w0 w v ys is) (hM:M<=B):qE M w0 w v ys is 0:=
 ⟨own_base h.1 hM,h.2.1,fun i _ _ hi=>absurd hi (by omega),fun i h1 h2 _=>h.2.2 i h1 h2⟩
theorem qE.to {M k:Nat} {w0 w w':World} {v:Value} {ys:List Cv} {is:List Val} (h:qE M w0 w v ys is k) (hk:∀ b,M<=b->b < w.heap.size->w'.heap[b]?=w.heap[b]?):qE M w0 w' v ys is k:=
 ⟨fD h.own fun g hg=>hk g (cZ h.own hg).1 (cZ h.own hg).2,h.len,fun i h1 h2 h3=>jC (bC fun b hb hlt=>⟨hb,hk b (eQ hb).1 hlt⟩) (h.done i h1 h2 h3),h.rest⟩
theorem qE.below {M k:Nat} {w0 w w':World} {v:Value} {ys:List Cv} {is:List Val} (h:qE M w0 w v ys is k) (hb:Below w.heap.size w w'):qE M w0 w' v ys is k:=h.to fun b _ hl=>hb.block b hl
theorem qE.put {M k B0 g n cap:Nat} {w0 w:World} {ys:List Cv} {is:List Val} (h:qE M w0 w (.slice (some ⟨g,0,none⟩) n cap) ys is k) (hn:n=ys.length) (hk:k < is.length) {r:Option Addr} {c:Nat} {rk:Option Addr} {ck:Nat}
  (hx:VK (bZ B0) w r c rk ck is[k]) (hB:M<=B0) (hg:g < B0):qE M w0 (sS w g k (Cv.of is[k] r c rk ck)) (.slice (some ⟨g,0,none⟩) n cap) (ys.set k (Cv.of is[k] r c rk ck)) is (k+1):=by
 have m:k < ys.length:=by rw [h.len];exact hk
 have d:∀ b,b≠g->(sS w g k (Cv.of is[k] r c rk ck)).heap[b]?=w.heap[b]?:=fun b a=>oK w g k _ a;have o:∀ b,(Value.slice (some ⟨g,0,none⟩) n cap).ownBlock≠some b->b≠g:=fun b a e=>a (by rw [e];rfl);refine ⟨?_,by rw [List.length_set];exact h.len,fun i f j p=>?_,fun i f j p=>?_⟩
 . rw [List.length_set,<-hn]
   exact LQ (by rw [hn];rw [<-hn];have:=h.own;rw [<-hn] at this;exact this) hn m _
 . by_cases e:i=k
   . subst e
     rw [List.getElem_set_self];refine jC (bC fun b a l=>?_) hx.enc;simp only [bZ,decide_eq_true_eq] at a;exact ⟨lM (by omega) (fun e=>by simp [Value.ownBlock] at e;omega),d b (by omega)⟩
   . rw [List.getElem_set_ne (Ne.symm e)]
     exact jC (bC fun b a l=>⟨a,d b (o b (eQ a).2)⟩) (h.done i (by simpa using f) j (by omega))
 . rw [List.getElem_set_ne (by omega)]
   exact h.rest i (by simpa using f) j (by omega)
theorem qE.fin {M:Nat} {w0 w:World} {v:Value} {ys:List Cv} {is:List Val} (h:qE M w0 w v ys is is.length):JM M w v is:=⟨ys,h.len,h.own,fun i h1 h2=>h.done i h1 h2 h2⟩
theorem qE.at {M k g n cap:Nat} {w0 w:World} {ys:List Cv} {is:List Val} (h:qE M w0 w (.slice (some ⟨g,0,none⟩) n cap) ys is k) {i:Nat} (hi:i < ys.length):∀ (j:Nat) (u:Value),(ys[i]).enc[j]?=some u->w.cell? ⟨g,i * 5+j,none⟩=some u:=by
 obtain ⟨r,c,e,_,_,m⟩:=jM Cv.enc uV h.own;obtain ⟨b,p,q,a,_,d,f⟩:=m i hi;simp at e;obtain ⟨l,_⟩:=e;rw [<-l] at a;simp at a;obtain ⟨rfl,rfl⟩:=a;intro j u o;have:=d j u (by rw [f];exact o);rw [Nat.zero_add] at this;exact this
def Tf (B0:Nat) (x:Val):mP:=⟨fun v=>∃ r c rk ck,v=.agg #[.int .i64 x.kind,.int .i64 x.num,.string x.str,.slice r x.items.length c,.slice rk x.keys.length ck],fun v w=>∃ r c rk ck,v=.agg #[.int .i64 x.kind,.int .i64 x.num,.string x.str,.slice r x.items.length c,.slice rk x.keys.length ck]/\VK (bZ B0) w r c rk ck x⟩
theorem UA (B0:Nat) (x:Val):∀ v,sF ((Tf B0 x).R v):=fun _ _ _ ⟨r,c,rk,ck,e,h⟩ hl=>⟨r,c,rk,ck,e,h.to (jZ hl)⟩
end Go.Proofs.YtomhbcfjhgecbaaGreatDoor
namespace Go.Proofs.YtomhbcfjhgecbaaGreatDoor
open Go.RowKit Go.Sort Go.Lib
open Go.Lib (hid)
attribute [local go_sem] Stp.di
theorem Jh {is:List Val} {x:Val} (h:x∈is):gX x<=fM is:=by
 induction is with
 | nil=>cases h
 | cons y ys ih =>
   rw [fM];rcases List.mem_cons.1 h with rfl | h
   . omega
   . have:=ih h;omega
theorem Ff (w:World) (o p:Obj):((w.alloc o).alloc p).heap[w.heap.size]?=some o:=by
 have h:(w.alloc o).heap[w.heap.size]?=some o:=heap_alloc_new w o;exact (((Below.refl (w.alloc o).heap.size (w.alloc o)).alloc (Nat.le_refl _) p).block _ (by simp)).trans h
theorem Di (w:World) (o p:Obj):((w.alloc o).alloc p).heap[w.heap.size+1]?=some p:=by
 have h:=heap_alloc_new (w.alloc o) p;rw [show (w.alloc o).heap.size=w.heap.size+1 by simp] at h;exact h
set_option maxRecDepth 100000 in
set_option maxHeartbeats 16000000 in
theorem yc (x:Val):∀ (r:Option Addr) (c:Nat) (rk:Option Addr) (ck:Nat) (w:World),jJ w r c rk ck x->nodes x<=1000000->gX x<=1000000 ->
  Calls Tryz.prog 92 #[.agg #[.int .i64 x.kind,.int .i64 x.num,.string x.str,.slice r x.items.length c,.slice rk x.keys.length ck]] w (Ri w x):=by
 refine Val.ind (P:=fun x=>∀ (r:Option Addr) (c:Nat) (rk:Option Addr) (ck:Nat) (w:World),jJ w r c rk ck x->nodes x<=1000000->gX x<=1000000 ->
  Calls Tryz.prog 92 #[.agg #[.int .i64 x.kind,.int .i64 x.num,.string x.str,.slice r x.items.length c,.slice rk x.keys.length ck]] w (Ri w x)) ?_ x
 intro x ih r c rk ck w hx br bo;obtain ⟨hI,R,hk,bb,hs,a7,a3⟩:=hx.parts;have h1:=nM x;have h2:=tV x;have h3:=Gp x.items;have IH:=hid (fun (i:Nat) (hi:i < x.items.length) (r:Option Addr) (c:Nat) (rk:Option Addr) (ck:Nat) (u:World) (h5:jJ u r c rk ck (x.items[i]'hi))=>ih x.items[i] (List.getElem_mem hi) r c rk ck u h5 (by have:=Jm (List.getElem_mem hi);omega) (by have:=Jh (List.getElem_mem hi);omega));have aD:=hid (fun (W:World) (hW:Below w.heap.size w W)=>clone_any x.keys rk ck W (R.below bP hW) (by omega));have a2:=hid (fun (W:World) (hW:Below w.heap.size w W)=>O8 x.items r c w W hI hW (by omega));have aw:=hid (show x.items.length<=1000000 by omega);have BD:=hid (show jD x.kind/\jD x.num/\x.str.size<=maxLen/\x.keys.length<=10000000000000/\x.items.length<=10000000000000/\∀ k∈x.keys,k.size<=maxLen from ⟨hk,bb,hs,a7,a3,IZ R⟩);have PP:=hid (show ∀ r c rk ck M (u:World),Ku w.heap.size M u r c rk ck x->Below w.heap.size w u->Ri w x (.returned (.agg #[.int .i64 x.kind,.int .i64 x.num,.string x.str,.slice r x.items.length c,.slice rk x.keys.length ck])) u from fun r c rk ck M u h I=>⟨r,c,rk,ck,M,rfl,h,I⟩);have a1:=hid (show ∀ (M:Nat) (u:World) r c rk ck,w.heap.size<=M->JM M u (.slice r x.items.length c) x.items->BU w.heap.size u (.slice rk x.keys.length ck) x.keys->(∀ g,(Value.slice rk x.keys.length ck).ownBlock=some g->g < M)->Ku w.heap.size M u r c rk ck x from fun M u r c rk ck h1 h2 h3 h4=>⟨h1,h2,h3,h4,BD.out⟩);clear ih hI R hk bb hs a7 a3 h1 h2 h3 hx br bo BD;obtain ⟨E,F,D,a,l⟩:=x;simp only [Val.kind,Val.num,Val.str,Val.items,Val.keys] at IH aD a2 aw PP a1 ⊢;go_enter Tryz.func92,Tryz.ntmps92;go_wp2_with fail
 have Z:Below w.heap.size w ((w.alloc (.cells #[.int .i64 E,.int .i64 F,.string D,.slice r a.length c,.slice rk l.length ck] 39)).alloc (.cells #[.int .i64 0,.int .i64 0,.string { data:=#[] },.slice none 0 0,.slice none 0 0] 39)):=((Below.refl _ _).alloc (Nat.le_refl _) _).alloc (by simp) _;refine (aD.out _ Z).mono ?_;rintro e w3 ⟨v',rfl,ab,V⟩;obtain ⟨j,f,rfl,_⟩:=dJ ab;have z3:=V.size;have B:w3.heap[w.heap.size]?=some (.cells #[.int .i64 E,.int .i64 F,.string D,.slice r a.length c,.slice rk l.length ck] 39):=(V.block _ (by simp;omega)).trans (Ff w _ _);have ac:w3.heap[w.heap.size+1]?=some (.cells #[.int .i64 0,.int .i64 0,.string { data:=#[] },.slice none 0 0,.slice none 0 0] 39):=(V.block _ (by simp)).trans (Di w _ _);simp at z3;have B3:=hid (Z.trans (V.mono Z.size))
 have an:=hid (show BU (w.heap.size+1+1) w3 (.slice j l.length f) l from by
  have h0:=ab;have e:((w.alloc (.cells #[.int .i64 E,.int .i64 F,.string D,.slice r a.length c,.slice rk l.length ck] 39)).alloc (.cells #[.int .i64 0,.int .i64 0,.string { data:=#[] },.slice none 0 0,.slice none 0 0] 39)).heap.size=w.heap.size+1+1:=by simp
  rw [e] at h0;exact h0)
 have t0:w3.cell? ⟨w.heap.size,4,none⟩=some (.slice rk l.length ck):=by unfold World.cell?;rw [B];rfl
 have t1:w3.cell? ⟨w.heap.size,3,none⟩=some (.slice r a.length c):=by unfold World.cell?;rw [B];rfl
 have t2:w3.frozen? ⟨w.heap.size,4,none⟩=false:=by unfold World.frozen?;rw [B];rfl
 have af:=hid (show (w3.setCell ⟨w.heap.size,4,none⟩ (.slice j l.length f)).heap[w.heap.size]?=some (.cells #[.int .i64 E,.int .i64 F,.string D,.slice r a.length c,.slice j l.length f] 39) from by
  unfold World.setCell;simp only [Array.getElem?_modify,if_true,B,Option.map_some];rfl)
 have be:=hid (show (w3.setCell ⟨w.heap.size,4,none⟩ (.slice j l.length f)).heap[w.heap.size+1]?=some (.cells #[.int .i64 0,.int .i64 0,.string { data:=#[] },.slice none 0 0,.slice none 0 0] 39) from by
  rw [Below.heap_setCell _ _ _ _ (by simp)];exact ac)
 have O:=hid (show BU (w.heap.size+1+1) (w3.setCell ⟨w.heap.size,4,none⟩ (.slice j l.length f)) (.slice j l.length f) l from fD an.out fun g L=>Below.heap_setCell _ _ _ _ (by have:=(cZ an.out L).1;simp only;omega));have B4:=hid (show Below w.heap.size w (w3.setCell ⟨w.heap.size,4,none⟩ (.slice j l.length f)) from B3.out.setCell (Nat.le_refl _) _);have S:=hid (show w.heap.size+1+1<=(w3.setCell ⟨w.heap.size,4,none⟩ (.slice j l.length f)).heap.size by simpa [World.setCell] using z3);have t3:(w3.setCell ⟨w.heap.size,4,none⟩ (.slice j l.length f)).cell? ⟨w.heap.size,3,none⟩=some (.slice r a.length c):=by unfold World.cell?;rw [af.out];rfl
 clear ab V Z B ac B3 an t1 z3;go_wp2_with fail
 clear t0 t2 t3;generalize (w3.setCell ⟨w.heap.size,4,none⟩ (.slice j l.length f))=X at *;refine (a2.out X B4.out).mono ?_;rintro e w5 ⟨v5,ys,rfl,H,t⟩
 have bk:∃ m n,v5=.slice m a.length n:=by
  obtain ⟨m,n,e,_⟩:=dJ H.1;exact ⟨m,n,by rw [e,H.2.1]⟩
 obtain ⟨m,n,rfl⟩:=bk;have N:w5.heap[w.heap.size]?=some (.cells #[.int .i64 E,.int .i64 F,.string D,.slice r a.length c,.slice j l.length f] 39):=(t.block _ (by have:=S.out;omega)).trans af.out;have aa:w5.heap[w.heap.size+1]?=some (.cells #[.int .i64 0,.int .i64 0,.string { data:=#[] },.slice none 0 0,.slice none 0 0] 39):=(t.block _ (by have:=S.out;omega)).trans be.out;have bf:=hid (show X.heap.size<=w5.heap.size from t.size);have t0:w5.cell? ⟨w.heap.size,3,none⟩=some (.slice r a.length c):=by unfold World.cell?;rw [N];rfl
 have t2:w5.frozen? ⟨w.heap.size,3,none⟩=false:=by unfold World.frozen?;rw [N];rfl
 have am:=hid (show (w5.setCell ⟨w.heap.size,3,none⟩ (.slice m a.length n)).heap[w.heap.size]?=some (.cells #[.int .i64 E,.int .i64 F,.string D,.slice m a.length n,.slice j l.length f] 39) from by
  unfold World.setCell;simp only [Array.getElem?_modify,if_true,N,Option.map_some];rfl)
 have bm:=hid (show (w5.setCell ⟨w.heap.size,3,none⟩ (.slice m a.length n)).heap[w.heap.size+1]?=some (.cells #[.int .i64 0,.int .i64 0,.string { data:=#[] },.slice none 0 0,.slice none 0 0] 39) from by
  rw [Below.heap_setCell _ _ _ _ (by simp)];exact aa)
 have aM:=hid (show qE X.heap.size w (w5.setCell ⟨w.heap.size,3,none⟩ (.slice m a.length n)) (.slice m a.length n) ys a 0 from (Px.start H (Nat.le_refl _)).to fun b I hl=>Below.heap_setCell _ _ _ _ (by have:=S.out;simp only;omega))
 have av:=hid (show BU (w.heap.size+1+1) (w5.setCell ⟨w.heap.size,3,none⟩ (.slice m a.length n)) (.slice j l.length f) l from fD O.out fun g L=>by
  rw [Below.heap_setCell _ _ _ _ (by have:=(cZ O.out L).1;simp only;omega)];exact t.block g (cZ O.out L).2)
 have KL:=hid (show ∀ g,(Value.slice j l.length f).ownBlock=some g->g < X.heap.size from fun g L=>(cZ O.out L).2);have B6:=hid (show Below w.heap.size w (w5.setCell ⟨w.heap.size,3,none⟩ (.slice m a.length n)) from (B4.out.trans (t.mono B4.out.size)).setCell (Nat.le_refl _) _);have Z6:=hid (show X.heap.size<=(w5.setCell ⟨w.heap.size,3,none⟩ (.slice m a.length n)).heap.size by simpa [World.setCell] using bf.out);have q3:(w5.setCell ⟨w.heap.size,3,none⟩ (.slice m a.length n)).cell? ⟨w.heap.size,3,none⟩=some (.slice m a.length n):=by unfold World.cell?;rw [am.out];rfl
 clear H t N aa bf af be O B4;go_wp2_with fail
 clear t0 t2 q3;generalize (w5.setCell ⟨w.heap.size,3,none⟩ (.slice m a.length n))=W6 at *;have bB:=aw.out;go_loopg [15] a.length (fun gg bj wr=>∃ (k:Nat) (ys:List Cv),k<=a.length/\a.length - k<=gg/\bj=.int .i64 k/\Hid (qE X.heap.size w wr (.slice m a.length n) ys a k)/\Hid (Below w.heap.size w wr)/\Hid (wr.heap[w.heap.size]?=W6.heap[w.heap.size]?/\wr.heap[w.heap.size+1]?=W6.heap[w.heap.size+1]?/\W6.heap.size<=wr.heap.size)/\Hid (BU (w.heap.size+1+1) wr (.slice j l.length f) l))
 case atStart=>exact ⟨0,ys,by omega,by omega,rfl,aM,B6,hid ⟨rfl,rfl,Nat.le_refl _⟩,av⟩
 case round =>
  clear aM B6 av;obtain ⟨k,ys,hk,bA,rfl,y,Y,T,HO⟩:=hrel;have q3:wr.cell? ⟨w.heap.size,3,none⟩=some (.slice m a.length n):=by unfold World.cell?;rw [T.out.1,am.out];rfl
  by_cases G:k < a.length
  . have ad:k < ys.length:=by rw [y.out.len];exact G
    obtain ⟨g,rfl⟩:∃ g,m=some ⟨g,0,none⟩:=by
     rcases y.out.own.2 with ⟨e,h0⟩ | ⟨g,cap,cur,e,_⟩
     . omega
     . simp at e;exact ⟨g,by rw [e.1]⟩
    have bv:=cZ y.out.own (g:=g) rfl;have ao:=y.out.rest k ad G (Nat.le_refl _);obtain ⟨rx,cx,bl,bw,a9,h5⟩:=ao.five;have z:=y.out.at ad;rw [a9] at z
    have aE:=hid (fun (W:World) (hW:Below wr.heap.size wr W)=>IH.out k G rx cx bl bw W (h5.below (Y.out.trans (hW.mono Y.out.size))));have g0:wr.cell? ⟨g,k * 5,none⟩=some (.int .i64 (a[k]).kind):=z 0 _ rfl;have g1:=z 1 _ rfl;have g2:=z 2 _ rfl;have g3:=z 3 _ rfl;have g4:=z 4 _ rfl;have c0:=fun d C=>cell_regrown g0 d C;have c1:=fun d C=>cell_regrown g1 d C;have c2:=fun d C=>cell_regrown g2 d C;have c3:=fun d C=>cell_regrown g3 d C;have c4:=fun d C=>cell_regrown g4 d C;have bt:=fun d C=>cell_regrown q3 d C;have N:(0:Int)<=(k:Int):=by omega
    have aa:(k:Int) < (a.length:Int):=by omega
    have bq:w.heap.size≠g:=by have:=S.out;omega
    have bh:w.heap.size+1≠g:=by have:=S.out;omega
    clear z a9 ao h5;obtain ⟨W3,bp⟩:∃ W3:World,W3=wr:=⟨_,rfl⟩;go_wp2_with fail
    subst bp;refine Stp.uC (fun qq=>match qq with | 8=>some (Tf W3.heap.size (a[k]'G)) | _=>none) (by kernel_rfl) (by kernel_rfl) (by kernel_rfl) ?_
    iterate 8 (refine Stp.wq ?_;intro K R;go_big_quiet_op;go_big_quiet_on)
    refine Stp.aC (Tf W3.heap.size (a[k]'G)) (by kernel_rfl) rfl ⟨.agg #[.int .i64 (a[k]).kind,.int .i64 (a[k]).num,.string (a[k]).str,.slice none (a[k]).items.length 0,.slice none (a[k]).keys.length 0],none,0,none,0,rfl⟩ (UA _ _) (fun w4 a0 bs=>?_) ?_
    . have ba:=Stp.ai a0
      have hh:=aE.out w4 ba;have hz:=ba.size;clear a0 bs;go_simp
      go_at_call 92;refine Calls.mono hh ?_;rintro e w5 ⟨m,n,ar,a4,M5,rfl,H,t⟩;exact ⟨_,rfl,t,⟨m,n,ar,a4,rfl⟩,⟨m,n,ar,a4,rfl,H.vk.to (iL fun b I=>by simp only [bZ,decide_eq_true_eq] at I ⊢;omega)⟩⟩
    rintro _ ⟨r7,c7,a5,aq,rfl⟩
    (refine Stp.ay ?_;intro K R;go_simp;refine R _ ?_;clear R K)
    (refine Stp.wq ?_;intro K R;go_big_quiet_op;go_big_quiet_on)
    refine Stp.aS ?_;intro w6 a6 bc;have p:=Stp.ai a6;obtain ⟨J,Q,q,s,e8,a8⟩:∃ r c rk ck,(Value.agg #[.int .i64 (a[k]).kind,.int .i64 (a[k]).num,.string (a[k]).str,.slice r7 (a[k]).items.length c7,.slice a5 (a[k]).keys.length aq])=.agg #[.int .i64 (a[k]).kind,.int .i64 (a[k]).num,.string (a[k]).str,.slice r (a[k]).items.length c,.slice rk (a[k]).keys.length ck]/\VK (bZ W3.heap.size) w6 r c rk ck (a[k]):=bc 8;obtain ⟨rfl,rfl,rfl,rfl⟩:J=r7/\Q=c7/\q=a5/\s=aq:=by simp at e8;simp [e8]
    clear a6 bc e8;have HP:=hid ((y.out.below p).put (by rw [y.out.len]) G a8 (by have:=Z6.out;have:=T.out.2.2;omega) bv.2);have bg:=(y.out.below p).at ad;have l0:=az p g0;have l1:=az p g1;have l2:=az p g2;have l3:=az p g3;have l4:=az p g4
    have bL:∀ o,w6.frozen? ⟨g,o,none⟩=false:=fun o=>by
     rcases (y.out.below p).own.2 with ⟨e,_⟩ | ⟨g',cap,cur,e,_,hh,_⟩
     . cases e
     . simp at e
       obtain ⟨rfl,_⟩:=e;unfold World.frozen?;rw [hh];rfl
    have aR:=hid (show Below w.heap.size w (sS w6 g k (Cv.of a[k] J Q q s)) from Ho (Y.out.trans (p.mono Y.out.size)) g k _ (by have:=S.out;omega))
    have ap:=hid (show (sS w6 g k (Cv.of a[k] J Q q s)).heap[w.heap.size]?=W6.heap[w.heap.size]?/\(sS w6 g k (Cv.of a[k] J Q q s)).heap[w.heap.size+1]?=W6.heap[w.heap.size+1]?/\W6.heap.size<=(sS w6 g k (Cv.of a[k] J Q q s)).heap.size from by
     have h1:=Y.out.size;have h2:=T.out.2.2;have h3:=Z6.out;have h4:=S.out;refine ⟨?_,?_,?_⟩
     . rw [oK _ _ _ _ bq,p.block _ (by omega)];exact T.out.1
     . rw [oK _ _ _ _ bh,p.block _ (by omega)];exact T.out.2.1
     . rw [JH];have:=p.size;omega)
    have aL:=hid (show BU (w.heap.size+1+1) (sS w6 g k (Cv.of a[k] J Q q s)) (.slice j l.length f) l from fD HO.out fun b I=>by
     have h1:=cZ HO.out I;have h2:=KL.out b I;rw [oK _ _ _ _ (by omega)];exact p.block b h1.2)
    have bd:=hid (show sS w6 g k (Cv.of a[k] J Q q s)=((((w6.setCell ⟨g,k * 5,none⟩ (.int .i64 (a[k]).kind)).setCell ⟨g,k * 5+1,none⟩ (.int .i64 (a[k]).num)).setCell ⟨g,k * 5+2,none⟩ (.string (a[k]).str)).setCell ⟨g,k * 5+3,none⟩ (.slice J (a[k]).items.length Q)).setCell ⟨g,k * 5+4,none⟩ (.slice q (a[k]).keys.length s) from rfl);rw [bd.out] at HP aR ap aL;clear bd bg a8 p y aE c0 c1 c2 c3 c4 bt g0 g1 g2 g3 g4;go_simp
    go_wp2
    go_roundg (a.length - (k+1))
    case measure=>omega
    case rel=>exact ⟨k+1,_,by omega,by omega,by go_num,HP,aR,ap,aL⟩
  . obtain rfl:k=a.length:=by omega
    have U:wr.heap[w.heap.size]?=_:=T.out.1.trans am.out;have A:wr.heap[w.heap.size+1]?=_:=T.out.2.1.trans bm.out;have p0:wr.cell? ⟨w.heap.size,0,none⟩=some (.int .i64 E):=by unfold World.cell?;rw [U];rfl
    have p1:wr.cell? ⟨w.heap.size,1,none⟩=some (.int .i64 F):=by unfold World.cell?;rw [U];rfl
    have p2:wr.cell? ⟨w.heap.size,2,none⟩=some (.string D):=by unfold World.cell?;rw [U];rfl
    have p4:wr.cell? ⟨w.heap.size,4,none⟩=some (.slice j l.length f):=by unfold World.cell?;rw [U];rfl
    have u0:wr.cell? ⟨w.heap.size+1,0,none⟩=some (.int .i64 0):=by unfold World.cell?;rw [A];rfl
    have u1:wr.cell? ⟨w.heap.size+1,1,none⟩=some (.int .i64 0):=by unfold World.cell?;rw [A];rfl
    have u2:wr.cell? ⟨w.heap.size+1,2,none⟩=some (.string { data:=#[] }):=by unfold World.cell?;rw [A];rfl
    have u3:wr.cell? ⟨w.heap.size+1,3,none⟩=some (.slice none 0 0):=by unfold World.cell?;rw [A];rfl
    have u4:wr.cell? ⟨w.heap.size+1,4,none⟩=some (.slice none 0 0):=by unfold World.cell?;rw [A];rfl
    have bE:∀ o,wr.frozen? ⟨w.heap.size+1,o,none⟩=false:=fun o=>by unfold World.frozen?;rw [A];rfl
    have al:∀ b,w.heap.size+1+1<=b->(((((wr.setCell ⟨w.heap.size+1,0,none⟩ (.int .i64 E)).setCell ⟨w.heap.size+1,1,none⟩ (.int .i64 F)).setCell ⟨w.heap.size+1,2,none⟩ (.string D)).setCell ⟨w.heap.size+1,3,none⟩ (.slice m a.length n)).setCell ⟨w.heap.size+1,4,none⟩ (.slice j l.length f)).heap[b]?=wr.heap[b]?:=fun b I=>by
     rw [Below.heap_setCell _ _ _ _ (by simp only;omega),Below.heap_setCell _ _ _ _ (by simp only;omega),Below.heap_setCell _ _ _ _ (by simp only;omega),Below.heap_setCell _ _ _ _ (by simp only;omega),Below.heap_setCell _ _ _ _ (by simp only;omega)]
    have bx:=S.out
    have HF:=hid (PP.out m n j f X.heap.size (((((wr.setCell ⟨w.heap.size+1,0,none⟩ (.int .i64 E)).setCell ⟨w.heap.size+1,1,none⟩ (.int .i64 F)).setCell ⟨w.heap.size+1,2,none⟩ (.string D)).setCell ⟨w.heap.size+1,3,none⟩ (.slice m a.length n)).setCell ⟨w.heap.size+1,4,none⟩ (.slice j l.length f)) (a1.out _ _ _ _ _ _ (by omega) (y.out.fin.to fun b I _=>al b (by omega)) (own_base (fD HO.out fun g L=>al g (cZ HO.out L).1) (by omega)) KL.out)
     (((((Y.out.setCell (by simp) _).setCell (by simp) _).setCell (by simp) _).setCell (by simp) _).setCell (by simp) _))
    clear al U A y Y T HO;go_wp2
    exact bodyPost_ret (v:=.agg #[.int .i64 E,.int .i64 F,.string D,.slice m a.length n,.slice j l.length f]) (by simp [results,Tryz.results92,go_sem,u0,u1,u2,u3,u4]) rfl HF.out
end Go.Proofs.YtomhbcfjhgecbaaGreatDoor
