import Derived.Test.YtomhbcfjhgecbaaGreatDoorN7
import Derived.Shelf.Strings.Builder1
import Derived.Shelf.Small.Utf8
import Derived.Shelf.Small.Bits
import Derived.Shelf.Small.Strs
import Derived.Shelf.Small.Wraps
import Derived.Shelf.Strings.BuilderF
import Derived.Shelf.Strings.BuilderK
import Derived.Shelf.Strings.BuilderRune
import Derived.Shelf.Strconv.Itoa0
import Derived.Shelf.Strconv.Itoa1
import Derived.Shelf.LaysM
import Derived.Shelf.Strconv.Itoa2
import Derived.Shelf.Strconv.Itoa3
import Derived.Shelf.Strconv.Itoa4
import Derived.Shelf.Strconv.ParseIntEmpty
import Derived.Shelf.Strconv.Clone
import Derived.Shelf.Strconv.SyntaxError
import Derived.Shelf.LaysC
import Derived.Shelf.Strconv.ToError
import Derived.Shelf.Strconv.Lower
import Derived.Shelf.Strconv.ParseUint10
import Derived.Shelf.Strconv.ParseUint10Empty
import Derived.Shelf.Strconv.ParseUint10Any
import Derived.Shelf.Strconv.ParseInt10
import Derived.Shelf.Strconv.RangeError
import Derived.Shelf.Strconv.ToErrorRange
import Derived.Shelf.Strconv.ParseUintEmpty
import Derived.Shelf.Strconv.ParseUint10b64
import Derived.Shelf.Strconv.ParseUint10b32
import Derived.Shelf.Strconv.ParseUint10b16
import Derived.Shelf.Strconv.ParseUint10b8
import Derived.Shelf.Strconv.ParseUint10At
import Derived.Shelf.Strconv.ParseInt10At64
import Derived.Shelf.Strconv.ParseInt10At32
import Derived.Shelf.Strconv.ParseInt10At16
import Derived.Shelf.Strconv.ParseInt10At8
import Derived.Shelf.Strconv.ParseInt10All
import Derived.Shelf.Strconv.ParseIntPublic10
import Derived.Shelf.Strconv.ErrVarParseInt
import Derived.Shelf.Strings.Search1
import Derived.Shelf.Strings.Prefix
import Derived.Shelf.Unicode.Decode
import Derived.Shelf.Strings.Runes
import Derived.Shelf.Strings.IndexAny
import Derived.Shelf.Strings.AsciiSet
import Derived.Shelf.Strings.IndexAnyAll
import Derived.Shelf.Unicode.DecodeSlow
import Derived.Shelf.Unicode.DecodeAny
import Derived.Shelf.Slices.Equal
import Derived.Ground.Names2Prog
import Derived.Shelf.Slices.Clone
import Derived.Shelf.Slices.Empties2
import Derived.Ground.SlgnProg
import Derived.Shelf.SlicesE.Clone
import Derived.Test.YtomhbcfjhgecbaaGreatDoorN1
import Derived.Test.YtomhbcfjhgecbaaGreatDoorN6
import Derived.Deep.RegionHeld3
import Derived.Shelf.SlSortCmp.WholeK
import Derived.Ground.SlsfProg
import Derived.Test.YtomhbcfjhgecbaaGreatDoorProg
import Derived.Shelf.SlSortCmp.NoneTotal
set_option linter.unusedVariables false
set_option linter.unusedSimpArgs false
namespace Go.Proofs.YtomhbcfjhgecbaaGreatDoor
open Go.RowKit Go.Sort Go.Lib
open Go.Lib (hid)
def mx {α:Type} (f:α->α) (k:Nat) (l:List α):List α:=(l.take k).map f ++ l.drop k
theorem pW {α:Type} (f:α->α) (k:Nat) (l:List α):(mx f k l).length=l.length:=by
 unfold mx;rw [List.length_append,List.length_map,List.length_take,List.length_drop];omega
theorem Ai {α:Type} (f:α->α) (l:List α):mx f 0 l=l:=by simp [mx]
theorem F9 {α:Type} (f:α->α) (l:List α):mx f l.length l=l.map f:=by simp [mx]
theorem yJ {α:Type} {f:α->α} {k:Nat} {l:List α} (hk:k < l.length):(mx f k l)[k]'(by rw [pW];exact hk)=l[k]:=by
 unfold mx;rw [List.getElem_append_right (by simp;omega)];simp [Nat.min_eq_left (Nat.le_of_lt hk)]
theorem wH {α:Type} {f:α->α} {k:Nat} {l:List α} (hk:k < l.length):mx f (k+1) l=(mx f k l).set k (f l[k]):=by
 unfold mx;rw [List.take_succ_eq_append_getElem hk,List.map_append,List.set_append_right _ _ (by simp;omega),List.length_map,List.length_take,Nat.min_eq_left (Nat.le_of_lt hk),Nat.sub_self,List.drop_eq_getElem_cons hk,List.set_cons_zero];simp
theorem Cf {α:Type} {f:α->α} {k:Nat} {l:List α} (hk:k < l.length) (h:f l[k]=l[k]):mx f (k+1) l=mx f k l:=by
 rw [wH hk,h]
 conv=>lhs;rw [<-yJ (f:=f) hk]
 exact List.set_getElem_self _
theorem Rh {α β:Type} {f:α->α} {f':β->β} {g:α->β} (h:∀ x,g (f x)=f' (g x)) (k:Nat) (l:List α):(mx f k l).map g=mx f' k (l.map g):=by
 unfold mx;rw [List.map_append,List.map_map,<-List.map_take,<-List.map_drop,List.map_map]
 congr 1
 exact List.map_congr_left fun x _=>h x
theorem eF.UY {α:Type} {enc:α->List Value} {P:World->α->Prop} {sz:Nat} {T:TypeId} {B g n cap:Nat} {w:World} {ys:List α} {y:α} {o:Nat} {l:List Value} (hP:lF P) (he:∀ y,(enc y).length=sz) (h:eF enc P sz T B w (.slice (some ⟨g,0,none⟩) n cap) ys) (hn:n=ys.length) {k:Nat} (hk:k < ys.length)
  (hol:o+l.length<=sz) (hy:enc y=(enc ys[k]).take o ++ l ++ (enc ys[k]).drop (o+l.length)) (hx:P (mask (vJ B (.slice (some ⟨g,0,none⟩) n cap)) w) y):eF enc P sz T B (w.setCells g (k * sz+o) l) (.slice (some ⟨g,0,none⟩) n cap) (ys.set k y):=by
 subst hn;have d:∀ b,b≠g->(w.setCells g (k * sz+o) l).heap[b]?=w.heap[b]?:=fun b a=>bF _ _ _ _ a;have c:∀ b,(Value.slice (some ⟨g,0,none⟩) ys.length cap).ownBlock≠some b->b≠g:=fun b a e=>a (by rw [e];rfl);refine ⟨?_,fun z f=>?_⟩
 . rw [List.length_set,<-yj he y o l hol ys k hk hy]
   exact jw _ _ h.own
 . rcases List.mem_or_eq_of_mem_set f with f | rfl
   . exact hP _ _ z (bC fun b a i=>⟨a,d b (c b (eQ a).2)⟩) (h.ok z f)
   . exact hP _ _ z (bC fun b a i=>⟨a,d b (c b (eQ a).2)⟩) hx
def TQ (a:ByteArray) (x:Ins):Ins:={ x with ad:=a }
def UR (a:ByteArray) (y:jW):jW:=⟨TQ a y.x,y.p⟩
theorem eX.Uw {B B2 g k:Nat} {w:World} {s:fU} {p:Sp} {is:List jW} {a:ByteArray} (h:eX B B2 w s p is) (hg:p.ri=some ⟨g,0,none⟩) (hk:k < is.length) (ha:a.size<=maxLen) :
  eX B B2 (w.setCell ⟨g,k * 13,none⟩ (.string a)) { s with ins:=s.ins.set k (TQ a (is[k].x)) } p (is.set k (UR a is[k])):=by
 obtain ⟨ri,c,f,j,d,m⟩:=p;obtain rfl:=hg;have n:=cZ h.ins.own (g:=g) rfl
 have i:=eF.UY (y:=UR a is[k]) (o:=0) (l:=[.string a]) aT iE h.ins rfl hk (by simp) (by rfl) (by
  have:=h.ins.ok _ (List.getElem_mem hk);exact ⟨this.1,this.2.1,this.2.2.1,ha,this.2.2.2.2⟩)
 refine eX.change (w:=w) (s:=s) (p:=⟨some ⟨g,0,none⟩,c,f,j,d,m⟩) h (fun b q _=>Below.heap_setCell _ _ _ _ (by show b≠g;omega)) (by rw [List.length_set];exact i) ?_ ?_
 . rw [List.map_set,h.insx];rfl
 . have:=h.hi
   simpa [World.setCell] using this
def UN (a:ByteArray) (x:Pnd):Pnd:={ x with ad:=a }
theorem eX.Ud {B B2 g k:Nat} {w:World} {s:fU} {p:Sp} {is:List jW} {a:ByteArray} (h:eX B B2 w s p is) (hg:p.rp=some ⟨g,0,none⟩) (hk:k < s.pen.length) (ha:a.size<=maxLen) :
  eX B B2 (w.setCell ⟨g,k * 3,none⟩ (.string a)) { s with pen:=s.pen.set k (UN a s.pen[k]) } p is:=by
 obtain ⟨r,u,rp,f,q,v⟩:=p;obtain rfl:=hg;have n:=cZ h.pen (g:=g) rfl;have o:=h.penl g rfl;have i:∀ b,b≠g->(w.setCell ⟨g,k * 3,none⟩ (.string a)).heap[b]?=w.heap[b]?:=fun b d=>Below.heap_setCell _ _ _ _ d;refine ⟨h.ins.to aT fun b d _=>i b (by omega),h.insx,?_,?_,fun x l=>?_,?_,h.ser,h.lin,h.le,by have:=h.hi;simpa [World.setCell] using this⟩
 . have m:=jw [.string a] (k * 3+0) h.pen
   rw [yj tZ (UN a s.pen[k]) 0 [.string a] (by simp) s.pen k hk rfl] at m;show World.ownsRow _ _ _ _ _ _ _;rw [List.length_set];exact m
 . show ∀ j,(Value.slice (some ⟨g,0,none⟩) (s.pen.set k _).length f).ownBlock=some j->_
   intro j e;exact h.penl j e
 . rcases List.mem_or_eq_of_mem_set l with l | rfl
   . exact h.penb x l
   . have:=h.penb _ (List.getElem_mem hk)
     exact ⟨ha,this.2⟩
 . show Sl Ez 7 (mask (I7 B B2 (.slice (some ⟨g,0,none⟩) (s.pen.set k _).length f)) _) _ _
   rw [List.length_set];have c:gB (mask (I7 B B2 (.slice (some ⟨g,0,none⟩) s.pen.length f)) w) (mask (I7 B B2 (.slice (some ⟨g,0,none⟩) s.pen.length f)) (w.setCell ⟨g,k * 3,none⟩ (.string a))):=bC fun b d t=>⟨d,i b fun e=>(tC d).2.1 (by rw [e];rfl)⟩;exact gK c (fun _ _=>ji c) h.out
theorem eX.UU {B B2 k:Nat} {w:World} {s:fU} {p:Sp} {is:List jW} (h:eX B B2 w s p is) (hk:k < s.ins.length) :
  ∃ g,p.ri=some ⟨g,0,none⟩/\B2<=g/\g < w.heap.size/\(∀ o,w.frozen? ⟨g,o,none⟩=false)/\w.cell? ⟨g,k * 13,none⟩=some (.string s.ins[k].ad):=by
 obtain ⟨b,i,j,c,d,f,_⟩:=mM h.NW.1 k hk;rcases h.ins.own.2 with ⟨e,h0⟩ | ⟨g,cap,cur,e,hb,hg,_⟩
 . rw [h.EY] at h0;omega
 . simp at e
   have a:=e.1;rw [c] at a;simp at a;obtain ⟨rfl,rfl⟩:=a;have:=f 0 _ rfl;simp only [Nat.zero_add,Nat.add_zero] at this;exact ⟨b,c,hb,d,fun o=>ak hg o,this⟩
theorem eX.sG {B B2 k:Nat} {w:World} {s:fU} {p:Sp} {is:List jW} (h:eX B B2 w s p is) (hk:k < s.pen.length) :
  ∃ g,p.rp=some ⟨g,0,none⟩/\B<=g/\g < B2/\(∀ o,w.frozen? ⟨g,o,none⟩=false)/\w.cell? ⟨g,k * 3,none⟩=some (.string s.pen[k].ad):=by
 obtain ⟨b,j,a,i,d,_⟩:=uY h.NW.2.1 k hk;rcases h.pen.2 with ⟨e,h0⟩ | ⟨g,cap,cur,e,hb,hg,_⟩
 . omega
 . simp at e
   have c:=e.1;rw [a] at c;simp at c;obtain ⟨rfl,rfl⟩:=c;have f:=h.penl b (by rw [a];rfl);simp only [Nat.zero_add] at d;exact ⟨b,a,hb,f,fun o=>ak hg o,d⟩
theorem eX.keep {B B2:Nat} {w w':World} {s:fU} {p:Sp} {is:List jW} (h:eX B B2 w s p is) (hk:∀ b,B<=b->b < w.heap.size->w'.heap[b]?=w.heap[b]?) (hs:w.heap.size<=w'.heap.size):eX B B2 w' s p is:=
 ⟨h.ins.to aT fun b hb hl=>hk b (by have:=h.le;omega) hl,h.insx,fD h.pen fun g hg=>hk g (cZ h.pen hg).1 (cZ h.pen hg).2,h.penl,h.penb,by
  have hst:gB (mask (I7 B B2 (.slice p.rp s.pen.length p.cp)) w) (mask (I7 B B2 (.slice p.rp s.pen.length p.cp)) w'):=bC fun b hb hl=>⟨hb,hk b (tC hb).2.2 hl⟩;exact gK hst (fun _ _=>ji hst) h.out,h.ser,h.lin,h.le,by have:=h.hi;omega⟩
theorem eX.Gv {B B2:Nat} {w w':World} {s:fU} {p:Sp} {is:List jW} (h:eX B B2 w s p is) (hb:Below w.heap.size w w'):eX B B2 w' s p is:=h.keep (fun b _ hl=>hb.block b hl) hb.size
def CS (a b:ByteArray) (y:jW):jW:=⟨oG a b y.x,y.p⟩
def kP (s:fU) (a b:ByteArray) (k j:Nat):fU:={ s with ins:=mx (oG a b) k s.ins,pen:=mx (sD a b) j s.pen }
theorem JO (s:fU) (a b:ByteArray):kP s a b 0 0=s:=by unfold kP;rw [Ai,Ai]
theorem UE (a b:ByteArray) (k:Nat) (is:List jW):(mx (CS a b) k is).map (·.x)=mx (oG a b) k (is.map (·.x)):=Rh (f:=CS a b) (f':=oG a b) (g:=fun y:jW=>y.x) (fun _=>rfl) k is
theorem eX.U3 {B B2 g k:Nat} {w:World} {s:fU} {p:Sp} {is:List jW} {a b:ByteArray} (h:eX B B2 w (kP s a b k 0) p (mx (CS a b) k is)) (hx:is.map (·.x)=s.ins) (hk:k < s.ins.length) (hg:p.ri=some ⟨g,0,none⟩) (he:s.ins[k].ad=a) (hb:b.size<=maxLen) :
  eX B B2 (w.setCell ⟨g,k * 13,none⟩ (.string b)) (kP s a b (k+1) 0) p (mx (CS a b) (k+1) is):=by
 obtain ⟨q,o,ins,n,m⟩:=s;dsimp only at hx hk he ⊢;subst hx;rw [List.length_map] at hk;have d:k < (mx (CS a b) k is).length:=by rw [pW];exact hk
 have c:=h.Uw hg d hb;simp only [List.getElem_map] at he;have l:(mx (CS a b) k is)[k]=is[k]:=yJ hk;rw [l] at c
 have f:UR b is[k]=CS a b is[k]:=by
  unfold UR CS TQ oG;rw [if_pos he]
 have j:TQ b is[k].x=oG a b is[k].x:=by unfold TQ oG;rw [if_pos he]
 rw [f,<-wH hk,j] at c;unfold kP at c ⊢;dsimp only at c
 have i:(mx (oG a b) k (is.map (·.x))).set k (oG a b is[k].x)=mx (oG a b) (k+1) (is.map (·.x)):=by
  rw [wH (by simpa using hk),List.getElem_map]
 rw [i] at c;exact c
theorem eX.UG {B B2 k:Nat} {w:World} {s:fU} {p:Sp} {is:List jW} {a b:ByteArray} (h:eX B B2 w (kP s a b k 0) p (mx (CS a b) k is)) (hx:is.map (·.x)=s.ins) (hk:k < s.ins.length) (he:s.ins[k].ad≠a) :
  eX B B2 w (kP s a b (k+1) 0) p (mx (CS a b) (k+1) is):=by
 obtain ⟨j,i,ins,g,f⟩:=s;dsimp only at hx hk he ⊢;subst hx;rw [List.length_map] at hk;simp only [List.getElem_map] at he;have c:oG a b is[k].x=is[k].x:=by unfold oG;rw [if_neg he]
 have d:CS a b is[k]=is[k]:=by unfold CS;rw [c]
 rw [Cf hk d];unfold kP at h ⊢;rw [Cf (l:=is.map (·.x)) (by simpa using hk) (by rw [List.getElem_map];exact c)];exact h
theorem eX.Va {B B2 g k K:Nat} {w:World} {s:fU} {p:Sp} {is:List jW} {a b:ByteArray} (h:eX B B2 w (kP s a b K k) p is) (hk:k < s.pen.length) (hg:p.rp=some ⟨g,0,none⟩) (he:s.pen[k].ad=a) (hb:b.size<=maxLen) :
  eX B B2 (w.setCell ⟨g,k * 3,none⟩ (.string b)) (kP s a b K (k+1)) p is:=by
 have d:k < (kP s a b K k).pen.length:=by show k < (mx (sD a b) k s.pen).length;rw [pW];exact hk
 have c:=h.Ud hg d hb;have j:(kP s a b K k).pen[k]=s.pen[k]:=yJ hk;rw [j] at c;have i:UN b s.pen[k]=sD a b s.pen[k]:=by unfold UN sD;rw [if_pos he]
 rw [i] at c;have f:(kP s a b K k).pen.set k (sD a b s.pen[k])=(kP s a b K (k+1)).pen:=(wH hk).symm;rw [f] at c;exact c
theorem eX.TP {B B2 k K:Nat} {w:World} {s:fU} {p:Sp} {is:List jW} {a b:ByteArray} (h:eX B B2 w (kP s a b K k) p is) (hk:k < s.pen.length) (he:s.pen[k].ad≠a) :
  eX B B2 w (kP s a b K (k+1)) p is:=by
 have c:sD a b s.pen[k]=s.pen[k]:=by unfold sD;rw [if_neg he]
 unfold kP at h ⊢;rw [Cf hk c];exact h
theorem QB {s:fU} {a b:ByteArray} {k:Nat} (hk:k < s.ins.length):((kP s a b k 0).ins[k]'(by show k < (mx (oG a b) k s.ins).length;rw [pW];exact hk))=s.ins[k]:=yJ hk
theorem QC {s:fU} {a b:ByteArray} {k K:Nat} (hk:k < s.pen.length):((kP s a b K k).pen[k]'(by show k < (mx (sD a b) k s.pen).length;rw [pW];exact hk))=s.pen[k]:=yJ hk
def zl (l:List UInt8):List UInt8:=if Adr.jF l=0 then (match Adr.rP l with | some (_,some (_,ty,_,_))=>ty | _=>[]) else []
def lZ (s:fU) (a b:ByteArray):Int:=
 if uh b.data.toList=none then 1 else if mW s a=false then 9 else if zl a.data.toList≠zl b.data.toList then 6 else if a=b then 0 else if mW s b=true then 8 else 0
def jG (s:fU) (a b:ByteArray):fU:=if a=b then s else Kt s a b
end Go.Proofs.YtomhbcfjhgecbaaGreatDoor
namespace Go.Proofs
open Go.Shelf
def Tryz.Dj:Go.Shelf.Ren:=⟨fun | 243=>129 | 246=>172 | 283=>209 | 284=>210 | 285=>211 | 286=>212 | 129=>149 | 317=>235 | 318=>236 | 319=>237 | 320=>238 | 337=>247 | 338=>248 | n=>n,fun | 3=>3 | 9=>9 | 2=>2 | 4=>4 | 171=>232 | 0=>0 | 53=>172 | 37=>178 | 5=>5 | 173=>234 | 212=>253 | 51=>170 | 20=>20 | 213=>254 | 46=>137 | 232=>266 | 233=>267 | n=>n,fun | 17=>3 | 18=>6 | 19=>7 | n=>n⟩
theorem Tryz.lays243:Go.Proofs.Lays.n243 Tryz.prog Tryz.Dj:={
 mixed:=by kernel_rfl
 f129:=Tryz.func149.trans (congrArg some (by kernel_rfl))
 f243:=Tryz.func129.trans (congrArg some (by kernel_rfl))
 f246:=Tryz.func172.trans (congrArg some (by kernel_rfl))
 f283:=Tryz.func209.trans (congrArg some (by kernel_rfl))
 f284:=Tryz.func210.trans (congrArg some (by kernel_rfl))
 f285:=Tryz.func211.trans (congrArg some (by kernel_rfl))
 f286:=Tryz.func212.trans (congrArg some (by kernel_rfl))
 f317:=Tryz.func235.trans (congrArg some (by kernel_rfl))
 f318:=Tryz.func236.trans (congrArg some (by kernel_rfl))
 f319:=Tryz.func237.trans (congrArg some (by kernel_rfl))
 f320:=Tryz.func238.trans (congrArg some (by kernel_rfl))
 f337:=Tryz.func247.trans (congrArg some (by kernel_rfl))
 f338:=Tryz.func248.trans (congrArg some (by kernel_rfl))
 t0:=Tryz.underlying0
 a0:=Tryz.isAgg0
 z0:=Tryz.sizeOf0
 v0:=Tryz.zeroValue0
 t2:=Tryz.underlying2
 a2:=Tryz.isAgg2
 z2:=Tryz.sizeOf2
 v2:=Tryz.zeroValue2
 t3:=Tryz.underlying3
 a3:=Tryz.isAgg3
 z3:=Tryz.sizeOf3
 v3:=Tryz.zeroValue3
 t4:=Tryz.underlying4
 a4:=Tryz.isAgg4
 z4:=Tryz.sizeOf4
 v4:=Tryz.zeroValue4
 t5:=Tryz.underlying5
 a5:=Tryz.isAgg5
 z5:=Tryz.sizeOf5
 v5:=Tryz.zeroValue5
 t9:=Tryz.underlying9
 a9:=Tryz.isAgg9
 z9:=Tryz.sizeOf9
 v9:=Tryz.zeroValue9
 t20:=Tryz.underlying20
 a20:=Tryz.isAgg20
 z20:=Tryz.sizeOf20
 v20:=Tryz.zeroValue20
 t37:=Tryz.underlying178
 a37:=Tryz.isAgg178
 z37:=Tryz.sizeOf178
 v37:=Tryz.zeroValue178
 t46:=Tryz.underlying137
 a46:=Tryz.isAgg137
 z46:=Tryz.sizeOf137
 v46:=Tryz.zeroValue137
 t51:=Tryz.underlying170
 a51:=Tryz.isAgg170
 z51:=Tryz.sizeOf170
 v51:=Tryz.zeroValue170
 t53:=Tryz.underlying172
 a53:=Tryz.isAgg172
 z53:=Tryz.sizeOf172
 v53:=Tryz.zeroValue172
 t171:=Tryz.underlying232
 a171:=Tryz.isAgg232
 z171:=Tryz.sizeOf232
 v171:=Tryz.zeroValue232
 t173:=Tryz.underlying234
 a173:=Tryz.isAgg234
 z173:=Tryz.sizeOf234
 v173:=Tryz.zeroValue234
 t212:=Tryz.underlying253
 a212:=Tryz.isAgg253
 z212:=Tryz.sizeOf253
 v212:=Tryz.zeroValue253
 t213:=Tryz.underlying254
 a213:=Tryz.isAgg254
 z213:=Tryz.sizeOf254
 t232:=Tryz.underlying266
 a232:=Tryz.isAgg266
 z232:=Tryz.sizeOf266
 v232:=Tryz.zeroValue266
 t233:=Tryz.underlying267
 a233:=Tryz.isAgg267
 z233:=Tryz.sizeOf267
 v233:=Tryz.zeroValue267
 g17:=by kernel_rfl
 g18:=by kernel_rfl
 g19:=by kernel_rfl }
open Go.RowKit Go.Sort Go.Lib in
theorem Tryz.internal_strconv_Itoa_small (i:Nat) (hi:i < 100) (w:World) :
 Calls Tryz.prog 129 #[.int .i64 i] w fun e w'=>e=.returned (.string ⟨(Lib.decDigits i).toArray⟩)/\w'=w:=Any.internal_strconv_Itoa_small Tryz.lays243 i hi w
end Go.Proofs
namespace Go.Proofs.YtomhbcfjhgecbaaGreatDoor
open Go.RowKit Go.Sort Go.Lib
open Go.Lib (hid)
theorem J3 (n:Nat) (hn:n < 100) (w:World):Calls Tryz.prog 91 #[.int .i64 (n:Nat)] w fun e w'=>e=.returned (.string (jo n))/\w'=w:=by
 have a:=hid (fun (w:World)=>Tryz.internal_strconv_Itoa_small n hn w);go_enter Tryz.func91,Tryz.ntmps91;go_wp2_with (go_at_call 129;refine (a.out _).mono ?_;rintro e w' ⟨rfl,rfl⟩)
 go_ret
 exact ⟨rfl,rfl⟩
theorem Hg (n:Nat) (hn:n < 100) (w:World):Calls Tryz.prog 49 #[.int .i64 (n:Nat)] w fun e w'=>e=.returned (.string (jo n))/\w'=w:=by
 have a:=hid (fun (w:World)=>J3 n hn w);go_enter Tryz.func49,Tryz.ntmps49;go_wp2_with (go_at_call 91;refine (a.out _).mono ?_;rintro e w' ⟨rfl,rfl⟩)
 go_ret
 exact ⟨rfl,rfl⟩
end Go.Proofs.YtomhbcfjhgecbaaGreatDoor
namespace Go.Proofs.YtomhbcfjhgecbaaGreatDoor
open Go.RowKit Go.Sort Go.Lib
open Go.Lib (hid)
namespace Stp
def Gt (s:fU):mP:=⟨fun v=>∃ p,v=.agg (bK s p),fun v w=>∃ p,v=.agg (bK s p)/\dQ w s p⟩
theorem IG (s:fU):∀ v,sF ((Gt s).R v):=fun v w w' ⟨p,e,h⟩ hl=>⟨p,e,aI hl h⟩
end Stp
open Stp (wq au mP sF bT aQ yS zD DZ Eg Gt IG kW qj ai dm gQ aC ay aS aW dG)
attribute [local go_sem] Stp.di
attribute [local go_sem ↓] fQ
attribute [local go_sem] dV
attribute [local go_sem ↓] fK
attribute [local go_sem] dH bD bG bJ cu bQ dA bI cO
theorem MI {n:Nat} (h:n < 100):(jo n).size<=maxLen:=by
 have b:(jo n).size=(Lib.decDigits n).length:=by simp [jo,ByteArray.size]
 rw [b,Lib.decDigits]
 by_cases a:n < 10
 . rw [dif_pos a];simp [maxLen]
 . rw [dif_neg a,Lib.decDigits,dif_pos (by omega)];simp [maxLen]
theorem QK {w3:World} {bo b:Nat} {x0 x1 x2 x3 x4:Value} (h:eG w3 b 0) (hne:b≠bo):eG (((((w3.setCell ⟨bo,0,none⟩ x0).setCell ⟨bo,1,none⟩ x1).setCell ⟨bo,2,none⟩ x2).setCell ⟨bo,3,none⟩ x3).setCell ⟨bo,4,none⟩ x4) b 0/\ik (((((w3.setCell ⟨bo,0,none⟩ x0).setCell ⟨bo,1,none⟩ x1).setCell ⟨bo,2,none⟩ x2).setCell ⟨bo,3,none⟩ x3).setCell ⟨bo,4,none⟩ x4) b 0=ik w3 b 0:=by
 have a:∀ j,(((((w3.setCell ⟨bo,0,none⟩ x0).setCell ⟨bo,1,none⟩ x1).setCell ⟨bo,2,none⟩ x2).setCell ⟨bo,3,none⟩ x3).setCell ⟨bo,4,none⟩ x4).cell? ⟨b,j,none⟩=w3.cell? ⟨b,j,none⟩:=fun j=>World.cell?_of_block (bF [x0,x1,x2,x3,x4] w3 bo 0 hne);refine ⟨fun j c=>by rw [a];exact h j c,?_⟩;unfold ik;simp only [a]
theorem Qx {s:fU} (h:lI s) (q:vT):lI { s with ins:=nS s.ins q }:=by
 refine ⟨Nat.le_trans (List.length_filter_le _ _) h.i,fun x a=>h.ix x (List.mem_filter.1 a).1,h.p,h.o,h.ox⟩
def CU:Array Value:=#[.string { data:=#[] },.int .i64 0,.slice none 0 0,.slice none 0 0,.slice none 0 0]
def Ht (s:fU) (a:ByteArray) (w:World) (e:Ending) (w':World):Prop:=Below w.heap.size w w'/\match vV s.ins a with
 | none=>e=.returned (.tuple #[.agg CU,.string ByteArray.empty,.int .i64 9])
 | some (xs,k)=>∃ p',e=.returned (.tuple #[.agg (bK { s with ins:=xs } p'),.string k,.int .i64 0])/\dQ w' { s with ins:=xs } p'
set_option maxRecDepth 100000 in
set_option maxHeartbeats 8000000 in
theorem wV (s:fU) (p:Sp) (a:ByteArray) (w:World) (h:dQ w s p) (hf:lI s) (ha:fJ s.ins) (hn:s.ins.length<=90) (hal:a.size<=maxLen) :
  Calls Tryz.prog 15 #[.agg (bK s p),.string a] w (Ht s a w):=by
 obtain ⟨ri,ci,rp,cp,ro,co⟩:=p;have S:=hid (fun (W:World) (hW:Below w.heap.size w W)=>xy s ⟨ri,ci,rp,cp,ro,co⟩ a ByteArray.empty W (aI hW h) hf ha);have bX:=hid (fun (W:World) (hW:Below w.heap.size w W)=>aI hW h);have cd:=hid ha;have bR:=hid hf;have HN:=hid hn;obtain ⟨W0,aM,a1,ao,J,aE⟩:=iK w (.cells #[.string s.lin,.int .i64 s.ser,.slice ri s.ins.length ci,.slice rp s.pen.length cp,.slice ro s.out.length co] 26) (.cells #[.string { data:=#[] },.int .i64 0,.slice none 0 0,.slice none 0 0,.slice none 0 0] 26);have bc:=hid aM;have M:=hid a1;have I:=hid ao;have b2:=hid J;have bb:=hid aE;have t0:=ae J 0 rfl;have t1:=ae J 1 rfl;have t2:=ae J 2 rfl;have t3:=ae J 3 rfl;have t4:=ae J 4 rfl;have a8:=hid (show ∀ e f,Ht s a w e f ↔ Ht s a w e f from fun _ _=>Iff.rfl);unfold bK at *;dsimp only at S bX;unfold Je at S;cases O:iO s.ins (a,ByteArray.empty) with
 | none =>
   simp only [O] at S;have HQ:=hid (show ∀ f,Below w.heap.size w f->Ht s a w (.returned (.tuple #[.agg CU,.string ByteArray.empty,.int .i64 9])) f from fun f hb=>⟨hb,by unfold vV;rw [O]⟩);clear h hf ha hn aM a1 ao J aE O a8;generalize Ht s a w=Q at *;go_enter Tryz.func15,Tryz.ntmps15;go_upto_region 1 with (fail)
   rw [<-bc.out]
   go_wp2_with (go_at_call 16
                refine (S.out _ M.out).mono ?_;rintro e w1 ⟨z,rfl⟩;have B:=hid z;have hX:=He;generalize Hy=X at *;have t:=hid (((MapKept.heap_alloc w1 (.cells X 41)).2 (w.heap.size+1) (by have:=I.out;have:=z.size;omega)).trans ((z.block _ (by have:=I.out;omega)).trans bb.out));have V:=hid ((M.out.trans (z.mono M.out.size)).alloc (by have:=M.out.size;have:=z.size;omega) (.cells X 41));have y0:=ae t.out 0 rfl;have ca:=ak t.out 0;have y1:=ae t.out 1 rfl;have b6:=ak t.out 1;have y2:=ae t.out 2 rfl;have ch:=ak t.out 2;have y3:=ae t.out 3 rfl;have bS:=ak t.out 3;have y4:=ae t.out 4 rfl;have bA:=ak t.out 4;clear z)
   obtain ⟨WE,aa,E,e2,e3,e4⟩:=fE t.out (.string { data:=#[] }) (.int .i64 0) (.slice none 0 0) (.slice none 0 0) (.slice none 0 0);rw [<-aa];have g0:=ae E 0 rfl;have g1:=ae E 1 rfl;have g2:=ae E 2 rfl;have g3:=ae E 3 rfl;have g4:=ae E 4 rfl;have ar:=hid (e4 _ _ V.out (by omega));clear aa E e2 e3 e4;exact bodyPost_ret (v:=.tuple #[.agg CU,.string ByteArray.empty,.int .i64 9]) (by simp [results,Tryz.results15,go_sem,CU,g0,g1,g2,g3,g4];rfl) rfl (HQ.out _ ar.out)
 | some y =>
   simp only [O] at S;have aD:=Osg.Ag O;have cb:=hid (hf.ix y aD.1);obtain ⟨K,g⟩:∃ K,xI s.ins a=K:=⟨_,rfl⟩;have HK:=hid (show jK s.ins (a,jo K)=false/\1<=K/\K<=s.ins.length+1/\∀ j,1<=j->j < K->jK s.ins (a,jo j)=true from g ▸ uB s.ins a);obtain ⟨A,U⟩:∃ A:fU,A={ s with ins:=nS s.ins (a,ByteArray.empty) }:=⟨_,rfl⟩;obtain ⟨D,ap⟩:∃ D:fU,D={ A with ins:=iW A.ins (uH y K) }:=⟨_,rfl⟩
   have HQ:=hid (show ∀ f r,Below w.heap.size w f->dQ f D r->Ht s a w (.returned (.tuple #[.agg (bK D r),.string (jo K),.int .i64 0])) f from fun f r hb hp=>⟨hb,by
    unfold vV;rw [O];simp only [g];subst ap U;exact ⟨r,rfl,hp⟩⟩)
   have ce:=hid (fun (W:World) (hW:Below w.heap.size w W)=>show Calls Tryz.prog 23 #[.agg #[.string s.lin,.int .i64 s.ser,.slice ri s.ins.length ci,.slice rp s.pen.length cp,.slice ro s.out.length co],.string a,.string ByteArray.empty] W fun e f=>∃ r,e=.returned (.agg (bK A r))/\dQ (mask (bZ W.heap.size) f) A r/\Below W.heap.size W f from by
    rw [U];exact wR s ⟨ri,ci,rp,cp,ro,co⟩ a ByteArray.empty W (aI hW h) hf ha)
   have a7:=hid (show lI A from U ▸ Qx hf _);have bf:=hid (show fJ A.ins by rw [U];exact Osg.tu (show Osg.mZ CV aP s.ins from ha) _)
   have bj:=hid (show A.ins.length+1<=1000000 by
    have:A.ins.length<=s.ins.length:=by rw [U];exact List.length_filter_le _ _
    omega)
   have bN:=hid (fun (W:World) (r:Sp) (q:Pt) (hp:dQ W A r) (hi:jf W (uH y K) q)=>show Calls Tryz.prog 21 #[.agg (bK A r),.agg (aH (uH y K) q)] W fun e f=>∃ r,e=.returned (.agg (bK D r))/\dQ (mask (bZ W.heap.size) f) D r/\Below W.heap.size W f from by
    rw [ap];exact Bj A r (uH y K) q W hp a7.out hi cb.out bf.out bj.out)
   have b3:=hid (fun (W:World) (n:Nat) (hW:Below w.heap.size w W)=>lN ri ci s.ins (a,jo n) W (h.1.below dB hW) ha hf.i);have a4:K < 100:=by have:=HK.out.2.2.1;omega
   have bs:=hid (fun (n:Nat) (hn:n<=K) (W:World)=>Hg n (by omega) W);have bE:=hid (MI a4);have cj:=hid (show ∀ q,aH (uH y K) q=((aH y q).setIfInBounds 1 (.string (jo K))) from fun q=>rfl);have cg:=HK.out.2.1;have cq:=hid hal;clear h hf ha hn aM a1 ao J aE O a8 aD g cd bR a7 bf bj U ap;generalize Ht s a w=Q at *;go_enter Tryz.func15,Tryz.ntmps15;go_upto_region 1 with (fail)
   rw [<-bc.out]
   go_wp2_with (go_at_call 16
                refine (S.out _ M.out).mono ?_;rintro e w1 ⟨z,p5,rfl,a9⟩;have B:=hid z;have hX:=dD y p5;have b5:=hid (show aH y p5=aH y p5 from rfl);generalize a6:aH y p5=X at *;have b8:=hid a9;have av:=hid a6;clear z a9 a6 b5)
   have bh:=hid (show (w1.alloc (.cells X 41)).heap.size=w1.heap.size+1 by simp);have V:=hid (show Below w.heap.size w (w1.alloc (.cells X 41)) from (M.out.trans (B.out.mono M.out.size)).alloc (by have:=M.out.size;have:=B.out.size;omega) _);have bO:=hid ((MapKept.heap_alloc w1 (.cells X 41)).1);have af:=hid (show Below w1.heap.size w1 (w1.alloc (.cells X 41)) from (Below.refl _ _).alloc (Nat.le_refl _) _);have a5:=hid (((af.out.block w.heap.size (by have:=I.out;have:=B.out.size;omega)).trans ((B.out.block _ (by have:=I.out;omega)).trans b2.out)));have b7:=hid (((af.out.block (w.heap.size+1) (by have:=I.out;have:=B.out.size;omega)).trans ((B.out.block _ (by have:=I.out;omega)).trans bb.out)));generalize w1.alloc (.cells X 41)=W3 at *;clear t0 t1 t2 t3 t4 S hX;go_loopg [9] K (fun gg s9 wr=>∃ n:Nat,1<=n/\n<=K/\K - n<=gg/\s9=.int .i64 n/\Hid (Below W3.heap.size W3 wr))
   case atStart=>exact ⟨1,by omega,cg,by omega,rfl,hid (Below.refl _ _)⟩
   case round =>
    obtain ⟨n,bx,bt,ct,rfl,T⟩:=hrel;have bl:=hid (V.out.trans (T.out.mono V.out.size));have bv:=hid (((T.out.block w.heap.size (by have:=bh.out;have:=I.out;have:=B.out.size;omega)).trans a5.out));have u2:=ae bv.out 2 rfl;have k2:=fun d G=>cell_regrown u2 d G;obtain ⟨L,hL⟩:∃ L,pY s.ins (a,jo n)=L:=⟨_,rfl⟩;obtain ⟨F,hF⟩:∃ F,jK s.ins (a,jo n)=F:=⟨_,rfl⟩;have al:=hid (fun (W:World) (hW:Below wr.heap.size wr W)=>b3.out W n (bl.out.trans (hW.mono bl.out.size)));rw [hL,hF] at al
    try dsimp only at al
    have a3:=hid (fun (W:World)=>bs.out n bt W)
    by_cases bB:n < K
    . obtain rfl:F=true:=by rw [<-hF];exact HK.out.2.2.2 n bx bB
      clear hL hF;go_upto_region 5 with (fail)
      refine au (fun k=>match k with | 4=>some (bT (.string (jo n))) | 6=>some (bT (.tuple #[.int .i64 (L:Nat),.bool true])) | _=>none) (by kernel_rfl) (by kernel_rfl) ?_
      iterate 4 (refine wq ?_;intro K g;go_big_quiet_op;go_big_quiet_on)
      refine aC (bT (.string (jo n))) (by kernel_rfl) rfl ⟨_,rfl⟩ aQ (fun w4 m R=>?_) ?_
      . have C:=ai m
        have hh:=a3.out w4;clear m R C;go_simp
        go_at_call 49;refine Calls.mono hh ?_;rintro e w5 ⟨rfl,rfl⟩;exact ⟨_,rfl,kW.refl _,rfl,trivial⟩
      rintro _ rfl
      (refine ay ?_;intro K g;go_simp;refine g _ ?_;clear g K)
      (refine wq ?_;intro K g;go_big_quiet_op;go_big_quiet_on)
      refine aC (bT (.tuple #[.int .i64 (L:Nat),.bool true])) (by kernel_rfl) rfl ⟨_,rfl⟩ aQ (fun w4 m R=>?_) ?_
      . have C:=ai m
        have hh:=al.out w4 C;clear m R C;go_simp
        go_at_call 48;refine Calls.mono hh ?_;rintro e w5 ⟨rfl,aL⟩;exact ⟨_,rfl,aL,rfl,trivial⟩
      rintro _ rfl
      (refine ay ?_;intro K g;go_simp;refine g _ ?_;clear g K)
      iterate 5 (refine wq ?_;intro K g;go_big_quiet_op;go_big_quiet_on)
      refine aS ?_;intro w6 ab a0;have Z:=ai ab;clear ab a0;have H:=hid (T.out.trans (Z.mono T.out.size));clear Z;go_wp2_with fail
      go_roundg (K - (n+1))
      case measure=>omega
      case rel=>exact ⟨n+1,by omega,by omega,by omega,by go_num,H⟩
    . obtain rfl:n=K:=by omega
      obtain rfl:F=false:=by rw [<-hF];exact HK.out.1
      clear hL hF;go_upto_region 5 with (fail)
      refine au (fun k=>match k with | 4=>some (bT (.string (jo n))) | 6=>some (bT (.tuple #[.int .i64 (L:Nat),.bool false])) | _=>none) (by kernel_rfl) (by kernel_rfl) ?_
      iterate 4 (refine wq ?_;intro K g;go_big_quiet_op;go_big_quiet_on)
      refine aC (bT (.string (jo n))) (by kernel_rfl) rfl ⟨_,rfl⟩ aQ (fun w4 m R=>?_) ?_
      . have C:=ai m
        have hh:=a3.out w4;clear m R C;go_simp
        go_at_call 49;refine Calls.mono hh ?_;rintro e w5 ⟨rfl,rfl⟩;exact ⟨_,rfl,kW.refl _,rfl,trivial⟩
      rintro _ rfl
      (refine ay ?_;intro K g;go_simp;refine g _ ?_;clear g K)
      (refine wq ?_;intro K g;go_big_quiet_op;go_big_quiet_on)
      refine aC (bT (.tuple #[.int .i64 (L:Nat),.bool false])) (by kernel_rfl) rfl ⟨_,rfl⟩ aQ (fun w4 m R=>?_) ?_
      . have C:=ai m
        have hh:=al.out w4 C;clear m R C;go_simp
        go_at_call 48;refine Calls.mono hh ?_;rintro e w5 ⟨rfl,aL⟩;exact ⟨_,rfl,aL,rfl,trivial⟩
      rintro _ rfl
      (refine ay ?_;intro K g;go_simp;refine g _ ?_;clear g K)
      iterate 5 (refine wq ?_;intro K g;go_big_quiet_op;go_big_quiet_on)
      refine aS ?_;intro w6 ab a0;have Z:=ai ab;clear ab a0;have H:=hid (T.out.trans (Z.mono T.out.size));clear Z;go_upto_region 8 with (fail)
      have cr:=bh.out;have ao:=I.out;have cn:=B.out.size;have cx:=H.out.size;have ac:=hid ((H.out.block w1.heap.size (by omega)).trans bO.out);have b9:=hid ((H.out.block w.heap.size (by omega)).trans a5.out);have b0:=hid ((H.out.block (w.heap.size+1) (by omega)).trans b7.out);have bo:=hid (V.out.trans (H.out.mono V.out.size));have ck:=hid (show X[1]?=some (.string y.de) by rw [<-av.out];rfl);have c1:=ae ac.out 1 ck.out;have f1:=ak ac.out 1;have be:=hid (show X.size=13 by rw [<-av.out];rfl)
      have P:(w6.setCells w1.heap.size 1 [.string (jo n)]).heap[w1.heap.size]?=some (.cells (aH (uH y n) p5) 41):=by
       have:=fC [.string (jo n)] 41 w6 w1.heap.size 1 X ac.out (by rw [be.out];simp);rw [this]
       congr 2
       rw [cj.out,av.out];apply Array.ext';rw [List.toList_toArray,Array.toList_setIfInBounds];rw [List.set_eq_take_append_cons_drop,if_pos (by rw [Array.length_toList,be.out];decide)];simp
      have an:∀ b,b≠w1.heap.size->(w6.setCells w1.heap.size 1 [.string (jo n)]).heap[b]?=w6.heap[b]?:=fun b hb=>bF _ _ _ _ hb;have bq:=setCells_size [.string (jo n)] w6 w1.heap.size 1;have bg:=dn [.string (jo n)] w6 w1.heap.size 1 bo.out (by omega)
      have ba:jf (w6.setCells w1.heap.size 1 [.string (jo n)]) (uH y n) p5:=by
       have aR:gB (mask (fun b=>decide (b < w1.heap.size)) w1) (w6.setCells w1.heap.size 1 [.string (jo n)]):=uu fun b hb hl=>by
        rw [an b (by omega),H.out.block b (by omega),af.out.block b hl]
       have hm:gB w1 (mask (fun b=>decide (b < w1.heap.size)) w1):=fun b o v hc=>gY (decide_eq_true (World.block_lt_of_cell? w1 _ hc)) hc;have h1:=aT _ _ ⟨y,p5⟩ aR (aT _ _ ⟨y,p5⟩ hm b8.out);exact ⟨h1.1,h1.2.1,h1.2.2.1,h1.2.2.2.1,bE.out,h1.2.2.2.2.2⟩
      go_wp2_with (go_at_call 49;refine (a3.out _).mono ?_;rintro e w7 ⟨rfl,h7⟩;obtain rfl:=h7.symm)
      rw [show w6.setCell ⟨w1.heap.size,1,none⟩ (.string (jo n))=w6.setCells w1.heap.size 1 [.string (jo n)] from rfl];generalize w6.setCells w1.heap.size 1 [.string (jo n)]=u at *;have cl:=hid P;have am:=hid bg;have bL:=hid ba;have Y:=hid ((an w.heap.size (by omega)).trans b9.out);have b1:=hid ((an (w.heap.size+1) (by omega)).trans b0.out);have aq:=dD (uH y n) p5;have cf:=hid (fun (W:World) (hW:Below u.heap.size u W)=>show eG W w1.heap.size 0/\ik W w1.heap.size 0=aH (uH y n) p5 from dU ((hW.block _ (fB P)).trans P) aq);have q1:u.cell? ⟨w1.heap.size,1,none⟩=some (.string (jo n)):=ae P 1 (show (aH (uH y n) p5)[1]?=some (.string (jo n)) from rfl);have q2:u.cell? ⟨w.heap.size,0,none⟩=some (.string s.lin):=ae Y.out 0 rfl;have q3:u.cell? ⟨w.heap.size,1,none⟩=some (.int .i64 s.ser):=ae Y.out 1 rfl;have q4:u.cell? ⟨w.heap.size,2,none⟩=some (.slice ri s.ins.length ci):=ae Y.out 2 rfl;have q5:u.cell? ⟨w.heap.size,3,none⟩=some (.slice rp s.pen.length cp):=ae Y.out 3 rfl;have q6:u.cell? ⟨w.heap.size,4,none⟩=some (.slice ro s.out.length co):=ae Y.out 4 rfl;have k3:=fun d G=>cell_regrown q1 d G;have k4:=fun d G=>cell_regrown q2 d G;have k5:=fun d G=>cell_regrown q3 d G;have k6:=fun d G=>cell_regrown q4 d G;have k7:=fun d G=>cell_regrown q5 d G;have k8:=fun d G=>cell_regrown q6 d G;clear P an bg ba c1 f1 u2 k2 aq;have b4:=hid (fun (W:World) (r:Sp) (hp:dQ W A r) (hW:Below u.heap.size u W)=>bN.out W r p5 hp (dh hW bL.out));have N:w.heap.size≠w.heap.size+1:=by omega
      have ad:w1.heap.size≠w.heap.size+1:=by omega
      have cw:=hid (show u.heap.size=w6.heap.size from bq);generalize aq:aH (uH y n) p5=X2 at *;obtain ⟨l1,l2⟩:=cf.out u (Below.refl _ _);have c:Below u.heap.size u u.drew:=(Below.refl _ _).drew;have cs:=(l1.below c).1;have cv:=(l1.below c).2.trans l2;clear k3 k4 k5 k6 k7 k8
      go_region_held3 (fun f=>f.cell? ⟨w.heap.size,0,none⟩=some (.string s.lin)/\f.cell? ⟨w.heap.size,1,none⟩=some (.int .i64 s.ser)/\f.cell? ⟨w.heap.size,2,none⟩=some (.slice ri s.ins.length ci)/\f.cell? ⟨w.heap.size,3,none⟩=some (.slice rp s.pen.length cp)/\f.cell? ⟨w.heap.size,4,none⟩=some (.slice ro s.out.length co)/\f.cell? ⟨w1.heap.size,1,none⟩=some (.string (jo n))/\eG f w1.heap.size 0/\ik f w1.heap.size 0=X2)
       (first | with_reducible exact ⟨az c q2,az c q3,az c q4,az c q5,az c q6,az c q1,(l1.below c).1,(l1.below c).2.trans l2⟩ | with_reducible exact ⟨qU (az c q2) N,qU (az c q3) N,qU (az c q4) N,qU (az c q5) N,qU (az c q6) N,qU (az c q1) ad,(QK (l1.below c).1 ad).1,(QK (l1.below c).1 ad).2.trans ((l1.below c).2.trans l2)⟩ | go_keep)
       ((first
         | (go_at_call 23
            refine (ce.out _ (am.out.trans (c.mono am.out.size))).mono ?_;rintro e w10 ⟨p6,rfl,bk,aw⟩;have bw:=hid (iJ (fG _ _) bk);replace c:=c.trans (aw.mono c.size);have bm:=c.size;clear bk aw)
         | (go_at_call 21
            refine (b4.out _ _ bw.out c).mono ?_;rintro e w11 ⟨p8,rfl,bd,a2⟩;have bp:=hid bd;have cm:=bm;replace c:=c.trans (a2.mono c.size);have l:=(c.block (w.heap.size+1) (by omega)).trans b1.out;have br:=hid l;have y0:=ae l 0 rfl;have y1:=ae l 1 rfl;have y2:=ae l 2 rfl;have y3:=ae l 3 rfl;have y4:=ae l 4 rfl;have ca:=ak l 0;have b6:=ak l 1;have ch:=ak l 2;have bS:=ak l 3;have bA:=ak l 4;unfold bK;clear bd a2 l)))
      obtain ⟨WE,aa,E,e2,e3,e4⟩:=fE br.out (.string D.lin) (.int .i64 D.ser) (.slice p8.ri D.ins.length p8.ci) (.slice p8.rp D.pen.length p8.cp) (.slice p8.ro D.out.length p8.co);rw [<-aa];have g0:=ae E 0 rfl;have g1:=ae E 1 rfl;have g2:=ae E 2 rfl;have g3:=ae E 3 rfl;have g4:=ae E 4 rfl
      have cc:=hid (show dQ WE D p8 from by
       have aR:gB (mask (bZ w10.heap.size) w11) WE:=uu fun b hb hl=>e2 b (by simp only [bZ,decide_eq_true_eq] at hb;omega);exact iJ aR bp.out)
      have ar:=hid (e4 _ _ (am.out.trans (c.mono am.out.size)) (by omega));clear aa E e2 e3 e4;go_wp2
      exact bodyPost_ret (v:=.tuple #[.agg (bK D p8),.string (jo n),.int .i64 0]) (by simp [results,Tryz.results15,go_sem,bK,g0,g1,g2,g3,g4]) rfl (HQ.out _ _ ar.out cc.out)
end Go.Proofs.YtomhbcfjhgecbaaGreatDoor
namespace Go.Proofs
open Go.Shelf
def Tryz.uZ:Go.Shelf.Ren:=⟨fun | 6=>55 | 15=>107 | 14=>106 | 28=>148 | 29=>149 | 20=>140 | 21=>141 | 22=>142 | 23=>143 | 24=>144 | 25=>145 | 26=>146 | 27=>147 | 46=>188 | 47=>189 | 48=>190 | 49=>191 | 50=>192 | 57=>221 | n=>n,fun | 22=>22 | 24=>41 | 25=>99 | 3=>3 | 39=>137 | 0=>0 | 53=>170 | 55=>172 | 4=>4 | 46=>164 | 45=>163 | 50=>83 | 5=>5 | 9=>9 | 66=>215 | 70=>219 | 76=>241 | 77=>152 | n=>n,fun | n=>n⟩
theorem Tryz.QQ:Go.Proofs.SlLaysF0.n6 Tryz.prog Tryz.uZ:={
 mixed:=by kernel_rfl
 f6:=⟨Tryz.f55.name,by decide,Tryz.func55.trans (congrArg some (by kernel_rfl))⟩
 f14:=⟨Tryz.f106.name,by decide,Tryz.func106.trans (congrArg some (by kernel_rfl))⟩
 f15:=Tryz.func107.trans (congrArg some (by kernel_rfl))
 f20:=⟨Tryz.f140.name,by decide,Tryz.func140.trans (congrArg some (by kernel_rfl))⟩
 f21:=⟨Tryz.f141.name,by decide,Tryz.func141.trans (congrArg some (by kernel_rfl))⟩
 f22:=⟨Tryz.f142.name,by decide,Tryz.func142.trans (congrArg some (by kernel_rfl))⟩
 f23:=⟨Tryz.f143.name,by decide,Tryz.func143.trans (congrArg some (by kernel_rfl))⟩
 f24:=⟨Tryz.f144.name,by decide,Tryz.func144.trans (congrArg some (by kernel_rfl))⟩
 f25:=⟨Tryz.f145.name,by decide,Tryz.func145.trans (congrArg some (by kernel_rfl))⟩
 f26:=⟨Tryz.f146.name,by decide,Tryz.func146.trans (congrArg some (by kernel_rfl))⟩
 f27:=⟨Tryz.f147.name,by decide,Tryz.func147.trans (congrArg some (by kernel_rfl))⟩
 f28:=Tryz.func148.trans (congrArg some (by kernel_rfl))
 f29:=Tryz.func149.trans (congrArg some (by kernel_rfl))
 f46:=⟨Tryz.f188.name,by decide,Tryz.func188.trans (congrArg some (by kernel_rfl))⟩
 f47:=Tryz.func189.trans (congrArg some (by kernel_rfl))
 f48:=Tryz.func190.trans (congrArg some (by kernel_rfl))
 f49:=⟨Tryz.f191.name,by decide,Tryz.func191.trans (congrArg some (by kernel_rfl))⟩
 f50:=⟨Tryz.f192.name,by decide,Tryz.func192.trans (congrArg some (by kernel_rfl))⟩
 f57:=⟨Tryz.f221.name,by decide,Tryz.func221.trans (congrArg some (by kernel_rfl))⟩
 t0:=Tryz.underlying0
 a0:=Tryz.isAgg0
 z0:=Tryz.sizeOf0
 v0:=Tryz.zeroValue0
 t3:=Tryz.underlying3
 a3:=Tryz.isAgg3
 z3:=Tryz.sizeOf3
 v3:=Tryz.zeroValue3
 t4:=Tryz.underlying4
 a4:=Tryz.isAgg4
 z4:=Tryz.sizeOf4
 v4:=Tryz.zeroValue4
 t5:=Tryz.underlying5
 a5:=Tryz.isAgg5
 z5:=Tryz.sizeOf5
 v5:=Tryz.zeroValue5
 t9:=Tryz.underlying9
 a9:=Tryz.isAgg9
 z9:=Tryz.sizeOf9
 v9:=Tryz.zeroValue9
 t22:=Tryz.underlying22
 a22:=Tryz.isAgg22
 z22:=Tryz.sizeOf22
 v22:=Tryz.zeroValue22
 t25:=Tryz.underlying99
 a25:=Tryz.isAgg99
 z25:=Tryz.sizeOf99
 v25:=Tryz.zeroValue99
 t39:=Tryz.underlying137
 a39:=Tryz.isAgg137
 z39:=Tryz.sizeOf137
 v39:=Tryz.zeroValue137
 t45:=Tryz.underlying163
 a45:=Tryz.isAgg163
 z45:=Tryz.sizeOf163
 v45:=Tryz.zeroValue163
 t46:=Tryz.underlying164
 a46:=Tryz.isAgg164
 z46:=Tryz.sizeOf164
 v46:=Tryz.zeroValue164
 t50:=Tryz.underlying83
 a50:=Tryz.isAgg83
 z50:=Tryz.sizeOf83
 v50:=Tryz.zeroValue83
 t53:=Tryz.underlying170
 a53:=Tryz.isAgg170
 z53:=Tryz.sizeOf170
 v53:=Tryz.zeroValue170
 t55:=Tryz.underlying172
 a55:=Tryz.isAgg172
 z55:=Tryz.sizeOf172
 v55:=Tryz.zeroValue172
 t66:=Tryz.underlying215
 a66:=Tryz.isAgg215
 z66:=Tryz.sizeOf215
 v66:=Tryz.zeroValue215
 t70:=Tryz.underlying219
 a70:=Tryz.isAgg219
 z70:=Tryz.sizeOf219
 v70:=Tryz.zeroValue219
 t76:=Tryz.underlying241
 a76:=Tryz.isAgg241
 z76:=Tryz.sizeOf241
 v76:=Tryz.zeroValue241
 t77:=Tryz.underlying152
 a77:=Tryz.isAgg152
 z77:=Tryz.sizeOf152
 v77:=Tryz.zeroValue152 }
end Go.Proofs
namespace Go.Proofs.YtomhbcfjhgecbaaGreatDoor
open Go.RowKit Go.Sort Go.Lib
open Go.Lib (hid)
attribute [local go_sem] Stp.di
attribute [local go_sem ↓] fQ
attribute [local go_sem] dV
attribute [local go_sem ↓] fK
attribute [local go_sem] dH bD bG bJ cu bQ dA bI cO
instance:Inhabited jW:=⟨⟨⟨⟨#[]⟩,⟨#[]⟩,⟨#[]⟩,⟨#[]⟩,.mk 0 0 ⟨#[]⟩ [] [],0,false,false,[]⟩,⟨none,0,none,0,none,0⟩⟩⟩
theorem zI (ds:List jW):(flatK ja 13 ds.toArray).toList=ds.flatMap ja:=by
 apply List.ext_getElem?;intro t
 by_cases h:t < ds.length * 13
 . have d:t / 13 < ds.length:=by omega
   have f:=flat_get ja 13 iE ds (t / 13) d (t % 13) (Nat.mod_lt _ (by omega));rw [show t / 13 * 13+t % 13=t by omega] at f;rw [f];have c:t < (flatK ja 13 ds.toArray).size:=by simpa using h
   rw [Array.getElem?_toList,Array.getElem?_eq_getElem c];have a:=get_flatK ja 13 ds.toArray t (by simpa using h);rw [getElem!_pos _ t c] at a;rw [a,getElem!_pos ds.toArray (t / 13) (by simpa using d)];simp only [List.getElem_toArray];have b:t % 13 < (ja ds[t / 13]).length:=by rw [iE];omega
   rw [getElem!_pos _ (t % 13) b,List.getElem?_eq_getElem b]
 . have g:(ds.flatMap ja)[t]?=none:=List.getElem?_eq_none (by rw [iH ja 13 iE];omega)
   rw [g,List.getElem?_eq_none (by simp;omega)]
theorem JK {w:World} {B g n cap q:Nat} {T:TypeId} {es ds:List jW} {os:Array Obj} (h:w.ownsRow B T 13 (.slice (some ⟨g,0,none⟩) n cap) n (es.flatMap ja)) (hl:ds.length=n) :
  (sortWorldK ja 13 w g 0 q ds.toArray os).ownsRow B T 13 (.slice (some ⟨g,0,none⟩) n cap) n (ds.flatMap ja)/\w.grownBy (sortWorldK ja 13 w g 0 q ds.toArray os) (some g):=by
 rcases h.2 with ⟨e0,_⟩ | ⟨g',cap',cur,e0,hb,hg,hn,hm,hs,ht⟩
 . cases e0
 simp at e0;obtain ⟨rfl,rfl⟩:=e0;have c:=fB hg;have j:(flatK ja 13 ds.toArray).size=n * 13:=by simp [hl]
 have a:(sortWorldK ja 13 w g 0 q ds.toArray os).heap[g]?=some (.cells (putCells id 0 (flatK ja 13 ds.toArray) cur) T (0,0)):=by
  unfold sortWorldK;rw [heap_grow_old _ _ (by simpa [putRowK,putRow,mapBlock,Sort.ahead] using c)];simp [putRowK,putRow,mapBlock,Sort.ahead,Array.getElem?_modify,hg,onCells]
 refine ⟨⟨by rw [iH ja 13 iE,hl],Or.inr ⟨g,cap,_,rfl,hb,a,hn,hm,?_,?_⟩⟩,⟨rfl,rfl,rfl,?_,fun k f b=>?_⟩⟩
 . simp [putCells,hs]
 . rw [<-zI]
   apply List.ext_getElem?;intro t;rw [List.getElem?_take];split
   . rename_i hlt
     have d:t < (putCells id 0 (flatK ja 13 ds.toArray) cur).size:=by
      have:n * 13<=cap * 13:=Nat.mul_le_mul_right _ hn;simp [putCells];omega
     have i:t < (flatK ja 13 ds.toArray).size:=by omega
     rw [Array.getElem?_toList,Array.getElem?_toList,Array.getElem?_eq_getElem d,Array.getElem?_eq_getElem i];simp only [putCells,Array.getElem_mapIdx];rw [if_pos (by omega),getElem!_pos _ _ (by omega)];simp
   . rename_i hlt
     rw [Array.getElem?_toList,Array.getElem?_eq_none (by omega)]
 . simp [sortWorldK,putRowK,putRow,mapBlock,Sort.ahead]
 . have:g≠k:=fun e=>b (by rw [e])
   unfold sortWorldK;rw [heap_grow_old _ _ (by simpa [putRowK,putRow,mapBlock,Sort.ahead] using f)];simp [putRowK,putRow,mapBlock,Sort.ahead,Array.getElem?_modify,this]
theorem FK {w:World} {B g n cap:Nat} {T:TypeId} {es:List jW} (h:w.ownsRow B T 13 (.slice (some ⟨g,0,none⟩) n cap) n (es.flatMap ja)) (hl:es.length=n):HoldsK ja 13 w g 0 es.toArray/\g < w.heap.size:=by
 rcases h.2 with ⟨e0,_⟩ | ⟨g',cap',cur,e0,hb,hg,hn,hm,hs,ht⟩
 . cases e0
 simp at e0;obtain ⟨rfl,rfl⟩:=e0;refine ⟨fun j a=>?_,fB hg⟩;have c:j < n * 13:=by simpa [hl] using a
 refine ⟨?_,?_⟩
 . have b:(flatK ja 13 es.toArray).toList[j]?=(cur.toList.take (n * 13))[j]?:=by rw [ht,zI]
   rw [List.getElem?_take,if_pos c,Array.getElem?_toList,Array.getElem?_toList,Array.getElem?_eq_getElem a] at b;unfold World.cell?;simp only [hg,Nat.zero_add];simp only [Option.isSome_none,Bool.false_eq_true,if_false];rw [<-b,getElem!_pos _ j a];rfl
 . unfold World.frozen?
   simp [hg]
def GD (w w':World):Prop:=∃ q os,w'=grow (w.drewN q) os
theorem GD.refl (w:World):GD w w:=⟨0,#[],by simp [grow,World.drewN]⟩
theorem GD.alloc {w w':World} (h:GD w w') (o:Obj):GD w (w'.alloc o):=by
 obtain ⟨q,a,rfl⟩:=h;exact ⟨q,a ++ #[o],by rw [alloc_eq_grow,grow_grow]⟩
theorem GD.drew {w w':World} (h:GD w w'):GD w w'.drew:=by
 obtain ⟨q,a,rfl⟩:=h;exact ⟨q+1,a,rfl⟩
theorem GD.trans {w w' w'':World} (h:GD w w') (h2:GD w' w''):GD w w'':=by
 obtain ⟨q,b,rfl⟩:=h;obtain ⟨c,a,rfl⟩:=h2;exact ⟨q+c,b ++ a,by rw [<-grow_grow];simp [grow,World.drewN,Nat.add_assoc]⟩
theorem GD.below {w w':World} (h:GD w w'):Below w.heap.size w w':=by
 obtain ⟨q,b,rfl⟩:=h;exact ⟨rfl,rfl,rfl,by simp [grow,World.drewN],fun k a=>by simp [grow,World.drewN,Array.getElem?_append,a]⟩
set_option maxRecDepth 100000 in
set_option maxHeartbeats 4000000 in
theorem Gj (a b:ByteArray × ByteArray) (w:World) :
  Calls Tryz.prog 34 #[.agg #[.string a.1,.string a.2],.agg #[.string b.1,.string b.2]] w fun e w'=>e=.returned (.int .i64 (dI a b))/\GD w w':=by
 obtain ⟨d,f⟩:=a;obtain ⟨c,g⟩:=b;have k:=hid (fun W=>tJ d c W);have m:=hid (fun W=>tJ f g W);have o:=hid (show -9223372036854775808<=dL d c/\dL d c<=9223372036854775807 by have:=fF d c;unfold qW at this;omega);have n:=hid (show -9223372036854775808<=dL f g/\dL f g<=9223372036854775807 by have:=fF f g;unfold qW at this;omega);have p:=hid (show dI (d,f) (c,g)=iG [dL d c,dL f g] from rfl);generalize dI (d,f) (c,g)=R at *;generalize dL d c=A at *;generalize dL f g=B at *;show Calls Tryz.prog 34 #[.agg #[.string d,.string f],.agg #[.string c,.string g]] w _;go_enter Tryz.func34,Tryz.ntmps34;go_wp2
 have q:=hid (show Below w.heap.size w ((w.alloc (.cells #[.string d,.string f] 70)).alloc (.cells #[.string c,.string g] 70)) from ((Below.refl _ _).alloc (Nat.le_refl _) _).alloc (by simp) _);have l:=hid (((GD.refl w).alloc (.cells #[.string d,.string f] 70)).alloc (.cells #[.string c,.string g] 70));generalize i:((w.alloc (.cells #[.string d,.string f] 70)).alloc (.cells #[.string c,.string g] 70))=j at *;have u:j.cell? ⟨w.heap.size,0,none⟩=some (.string d):=by rw [<-i];exact (az ((Below.refl _ _).alloc (Nat.le_refl _) _) (aX rfl rfl))
 have r:j.cell? ⟨w.heap.size,1,none⟩=some (.string f):=by rw [<-i];exact (az ((Below.refl _ _).alloc (Nat.le_refl _) _) (aX rfl rfl))
 have t:j.cell? ⟨w.heap.size+1,0,none⟩=some (.string c):=by rw [<-i];exact aX (by simp) rfl
 have s:j.cell? ⟨w.heap.size+1,1,none⟩=some (.string g):=by rw [<-i];exact aX (by simp) rfl
 clear i
 go_region_held3 (fun w'=>w'.cell? ⟨w.heap.size,0,none⟩=some (.string d)/\w'.cell? ⟨w.heap.size,1,none⟩=some (.string f)/\w'.cell? ⟨w.heap.size+1,0,none⟩=some (.string c)/\w'.cell? ⟨w.heap.size+1,1,none⟩=some (.string g))
  (go_keep)
  (first | (go_at_call 82;first | (refine (k.out _).mono ?_;rintro e w1 ⟨rfl,rfl⟩) | (refine (m.out _).mono ?_;rintro e w1 ⟨rfl,rfl⟩)) | (go_at_call 81;refine (NS [A,B] _ _ _ (Ls (by exact (MapKept.heap_alloc j _).1) o.out n.out)).mono ?_;rintro e w1 ⟨rfl,rfl⟩;rw [<-p.out]))
 all_goals
  go_wp2
  go_ret
  exact ⟨rfl,(l.out.alloc _).drew⟩
set_option maxRecDepth 100000 in
set_option maxHeartbeats 4000000 in
theorem zX (x:Ins) (p:Pt) (w:World):Calls Tryz.prog 33 #[.agg (aH x p)] w fun e w'=>e=.returned (.agg #[.string x.ad,.string x.de])/\GD w w':=by
 have b:(aH x p)[0]?=some (.string x.ad):=rfl;have d:(aH x p)[1]?=some (.string x.de):=rfl;have a:Below w.heap.size w (w.alloc (.cells (aH x p) 41)):=(Below.refl _ _).alloc (Nat.le_refl _) _;have f:(w.alloc (.cells (aH x p) 41)).cell? ⟨w.heap.size,0,none⟩=some (.string x.ad):=aX rfl b;have g:(w.alloc (.cells (aH x p) 41)).cell? ⟨w.heap.size,1,none⟩=some (.string x.de):=aX rfl d;have c:=hid (((GD.refl w).alloc (.cells (aH x p) 41)));clear a;generalize aH x p=X at *;go_enter Tryz.func33,Tryz.ntmps33;go_wp2
 exact bodyPost_ret (v:=.agg #[.string x.ad,.string x.de]) (by simp [results,Tryz.results33,go_sem]) rfl ⟨rfl,c.out.alloc _⟩
set_option maxRecDepth 100000 in
set_option maxHeartbeats 8000000 in
theorem Ti (x y:Ins) (p q:Pt) (w:World) :
  Calls Tryz.prog 56 #[.agg (aH x p),.agg (aH y q)] w fun e w'=>e=.returned (.int .i64 (dI (aP x) (aP y)))/\GD w w':=by
 have l:=hid (fun W=>zX x p W);have o:=hid (fun W=>zX y q W);have g:=hid (fun W=>Gj (aP x) (aP y) W);obtain ⟨b,c,r,s,d,f⟩:=iK w (.cells (aH x p) 41) (.cells (aH y q) 41);have i:GD w b:=c ▸ ((GD.refl w).alloc _).alloc _;have z:=hid (dU d (dD x p));have u:=hid (dU f (dD y q));have j:=hid c;clear c r s d f;unfold aP at *;simp only at g ⊢;generalize dI (x.ad,x.de) (y.ad,y.de)=C at *;generalize x.ad=G at *;generalize x.de=H at *;generalize y.ad=I at *;generalize y.de=J at *;generalize aH x p=X at *;generalize aH y q=Y at *
 have k:=hid (fun (W W':World) (h:eG W w.heap.size 0/\ik W w.heap.size 0=X/\eG W (w.heap.size+1) 0/\ik W (w.heap.size+1) 0=Y/\GD w W) (hg:GD W W') =>
  show eG W' w.heap.size 0/\ik W' w.heap.size 0=X/\eG W' (w.heap.size+1) 0/\ik W' (w.heap.size+1) 0=Y/\GD w W' from
  have t:=h.1.below hg.below;have v:=h.2.2.1.below hg.below
  ⟨t.1,t.2.trans h.2.1,v.1,v.2.trans h.2.2.2.1,h.2.2.2.2.trans hg⟩)
 obtain ⟨A,B⟩:=z.out;obtain ⟨m,D⟩:=u.out;go_enter Tryz.func56,Tryz.ntmps56;go_upto_region 1 with (fail)
 rw [<-j.out];have n:=hid (show eG b.drew w.heap.size 0/\ik b.drew w.heap.size 0=X/\eG b.drew (w.heap.size+1) 0/\ik b.drew (w.heap.size+1) 0=Y/\GD w b.drew from ⟨A,B,m,D,i.drew⟩);clear j z u A B m D i
 go_region_held3 (fun w'=>eG w' w.heap.size 0/\ik w' w.heap.size 0=X/\eG w' (w.heap.size+1) 0/\ik w' (w.heap.size+1) 0=Y/\GD w w')
  (first | (with_reducible exact ⟨by assumption,by assumption,by assumption,by assumption,by assumption⟩) | (exact n.out) | (exact k.out _ _ (by assumption) a) | (exact k.out _ _ ⟨by assumption,by assumption,by assumption,by assumption,by assumption⟩ a) | (exact k.out _ _ ⟨by assumption,by assumption,by assumption,by assumption,by assumption⟩ (by assumption)) | go_keep)
  (first | (go_at_call 33;first | (refine (l.out _).mono ?_;rintro e w1 ⟨rfl,a⟩) | (refine (o.out _).mono ?_;rintro e w1 ⟨rfl,a⟩)) | (go_at_call 34;refine (g.out _).mono ?_;rintro e w1 ⟨rfl,a⟩))
 all_goals
  have F:eG w1 w.heap.size 0/\ik w1 w.heap.size 0=X/\eG w1 (w.heap.size+1) 0/\ik w1 (w.heap.size+1) 0=Y/\GD w w1:=by assumption
  have E:=hid F.2.2.2.2;go_wp2
  go_ret
  exact ⟨rfl,E.out⟩
def OL (x y:jW):Int:=dI (aP x.x) (aP y.x)
theorem U8:SWO (ltOf OL):={
 irrefl:=fun x=>decide_eq_false (jO.irr _)
 trans:=fun x y z h1 h2=>decide_eq_true (jO.tr (of_decide_eq_true h1) (of_decide_eq_true h2))
 ntrans:=fun x y z h1 h2=>by
  have h1:=of_decide_eq_false h1;have h2:=of_decide_eq_false h2;refine decide_eq_false fun h3=>?_;rcases jO.tri (aP x.x) (aP y.x) with h | h | h
  . exact h1 h
  . exact h2 (show CV (aP y.x) (aP z.x) from h ▸ h3)
  . exact h2 (jO.tr h h3) }
set_option maxHeartbeats 2000000 in
theorem OW (B:Nat) (v:Value) (is:List jW) (W:World) (h:eF ja Gu 13 41 B W v is) (hn:is.length<=1000000) :
  Calls Tryz.prog 55 #[v,.func (.func 56) #[] #[]] W fun e w' =>
   e=.returned (.tuple #[])/\∃ ds:List jW,ds.Perm is/\(ds.Pairwise fun x y=>¬ dI (aP y.x) (aP x.x) < 0)/\eF ja Gu 13 41 B w' v ds/\W.grownBy w' v.ownBlock:=by
 have d:=h.own
 by_cases z:v=.slice none 0 0
 . subst z
   have r:is=[]:=by
    rcases d.2 with ⟨_,h⟩ | ⟨g,a,f,h,_⟩
    . exact List.eq_nil_of_length_eq_zero h
    . cases h
   subst r;have k:=AnyF.slices_SortFunc_none (P:=Tryz.prog) (ρ:=Tryz.uZ) Tryz.QQ none 0 (.func (.func 56) #[] #[]) W;exact k.mono fun e w' ⟨s,l⟩=>⟨s,[],List.Perm.refl _,List.Pairwise.nil,by rw [l];exact h,by rw [l];exact World.grownBy.refl _ _⟩
 . obtain ⟨g,a,f,rfl,E,U,R,T,O,S⟩:∃ g a f,v=.slice (some ⟨g,0,none⟩) is.length a/\B<=g/\W.heap[g]?=some (.cells f 41 (0,0))/\is.length<=a/\a<=maxLen/\f.size=a * 13/\f.toList.take (is.length * 13)=is.flatMap ja:=by
    rcases d.2 with ⟨h,_⟩ | h
    . exact absurd h z
    . exact h
   obtain ⟨J,I⟩:=FK d rfl
   have t:CmpLays Tryz.prog 56 #[] ja 13 OL g 0 is.toArray.size W:=fun m os Q O x y=>by
    have:=Ti x.x y.x x.p y.p (sortWorldK ja 13 W g 0 m Q os);simpa [ja,GD,OL] using this
   have k:=AnyQ.slices_SortFunc (P:=Tryz.prog) (ρ:=Tryz.uZ) Tryz.QQ 13 Tryz.isAgg41 Tryz.sizeOf41 ja iE qh OL U8 56 #[] g 0 a is.toArray W (enters_of Tryz.func56 (by kernel_rfl) rfl) t J I (by simp;omega);have C:is.toArray.size=is.length:=by simp
   rw [C] at k;refine Calls.mono (show Calls Tryz.prog 55 _ W _ from k) ?_;rintro e w' ⟨s,c,q,os,H,G,l⟩;obtain ⟨c⟩:=c;have o:c.length=is.length:=by have:=H.1;simpa using this
   have n:c.Perm is:=by
    obtain ⟨k,_,F⟩:=H;have L:((⟨c⟩:Array jW).extract 0 is.length)=⟨c⟩:=by rw [<-o];simp
    have N:(is.toArray.extract 0 is.length)=is.toArray:=by simp
    rw [L,N] at F;exact F
   obtain ⟨k1,A⟩:=JK (q:=q) (os:=os) d o;rw [l];refine ⟨s,c,n,?_,⟨by rw [o];exact k1,fun x r=>?_⟩,A⟩
   . rw [List.pairwise_iff_getElem]
     intro i j K M D;have:=G i j (Nat.zero_le _) D (by omega);rw [getElem!_pos (⟨c⟩:Array jW) i (by simpa using K),getElem!_pos (⟨c⟩:Array jW) j (by simpa using M)] at this;exact of_decide_eq_false this
   . refine aT _ _ x (bC fun b u E=>⟨u,A.block b E fun e=>?_⟩) (h.ok x (n.mem_iff.1 r))
     have:=(eQ u).2;simp [Value.ownBlock] at this e;omega
end Go.Proofs.YtomhbcfjhgecbaaGreatDoor
namespace Go.Proofs.YtomhbcfjhgecbaaGreatDoor
open Go.RowKit Go.Sort Go.Lib
open Go.Lib (hid)
open Adr (WT)
attribute [local go_sem] Stp.di
attribute [local go_sem ↓] fQ
attribute [local go_sem] dV
attribute [local go_sem ↓] fK
attribute [local go_sem] dH bD bG bJ cu bQ dA bI cO
def TV (l:List UInt8) (w:World) (e:Ending) (w':World):Prop:=∃ (r:Option Addr) (n c:Nat) (d:Bool) (nm:ByteArray) (k0 k1:Int) (k2:ByteArray),
 e=.returned (.tuple #[.agg #[.slice r n c,.bool d,.string ⟨(zl l).toArray⟩,.string nm,.int .i64 k0,.int .i64 k1,.string k2],.int .i64 (Adr.jF l)])/\(Adr.jF l=0->uh l=if d=false then some (zl l) else none)/\Below w.heap.size w w'
theorem EN (s:ByteArray) (w:World) (hT:WT w) (hs:s.size<=2000000):Calls Tryz.prog 52 #[.string s] w (TV s.data.toList w):=by
 by_cases a:Adr.jF s.data.toList=0
 . obtain ⟨n,d,j,l,k,f⟩:=Adr.wu a
   refine (Adr.xu s w hT hs f a).mono ?_;rintro e w1 ⟨o,rfl,g,b⟩;obtain ⟨m,i,rfl,_,_⟩:=dJ g;have c:zl s.data.toList=j:=by unfold zl;rw [if_pos a,f.pr]
   refine ⟨m,_,i,d,⟨l.toArray⟩,k.1,k.2.1,⟨k.2.2.toArray⟩,by rw [a,c];rfl,fun _=>?_,b⟩;cases d with
   | true=>rw [Fg a f];rfl
   | false=>rw [KZ a f,c];rfl
 . refine (Adr.wW s w hT hs a).mono ?_
   rintro e w1 ⟨rfl,b⟩;have c:zl s.data.toList=[]:=by unfold zl;rw [if_neg a]
   exact ⟨none,0,0,false,⟨#[]⟩,0,0,⟨#[]⟩,by rw [c];rfl,fun h=>absurd h a,b⟩
def JP (s:fU) (a b:ByteArray) (w:World) (e:Ending) (w':World):Prop:=Below w.heap.size w w'/\if lZ s a b=0 then ∃ p',e=.returned (.tuple #[.agg (bK (jG s a b) p'),.int .i64 0])/\dQ (mask (bZ w.heap.size) w') (jG s a b) p' else e=.returned (.tuple #[.agg CU,.int .i64 (lZ s a b)])
set_option maxRecDepth 100000 in
set_option maxHeartbeats 16000000 in
theorem nV (s:fU) (p:Sp) (a b:ByteArray) (w:World) (hT:WT w) (h:dQ w s p) (hf:lI s) (ha:fJ s.ins) (hal:a.size<=2000000) (hbl:b.size<=2000000) :
  Calls Tryz.prog 18 #[.agg (bK s p),.string a,.string b] w (JP s a b w):=by
 obtain ⟨ri,ci,rp,cp,ro,co⟩:=p;have bg:=hid (fun (W:World) (hW:Below w.heap.size w W)=>EN b W (hT.below hW) hbl);have bw:=hid (fun (W:World) (hW:Below w.heap.size w W)=>EN a W (hT.below hW) hal);have aD:=hid (fun (W:World) (hW:Below w.heap.size w W)=>tK s ⟨ri,ci,rp,cp,ro,co⟩ a W (aI hW h));have aL:=hid (fun (W:World) (hW:Below w.heap.size w W)=>tK s ⟨ri,ci,rp,cp,ro,co⟩ b W (aI hW h));have bk:=hid (fun (W:World) (hW:Below w.heap.size w W)=>uD s ⟨ri,ci,rp,cp,ro,co⟩ W (aI hW h) hf);have cG:=hid ha;have bm:=hid hf;have ck:=hid (show b.size<=maxLen by unfold maxLen;omega);obtain ⟨X,b9,ch,cj,cb,b0⟩:=iK w (.cells #[.string s.lin,.int .i64 s.ser,.slice ri s.ins.length ci,.slice rp s.pen.length cp,.slice ro s.out.length co] 26) (.cells #[.string { data:=#[] },.int .i64 0,.slice none 0 0,.slice none 0 0,.slice none 0 0] 26);have bX:=hid b9;have M:=hid ch;have a5:=hid cj;have am:=hid (fun (W:World) (hW:Below X.heap.size X W)=>(hW.block w.heap.size (by omega)).trans cb);have af:=hid (fun (W:World) (hW:Below X.heap.size X W)=>(hW.block (w.heap.size+1) (by omega)).trans b0);have HG:=hid (fun (W:World) (hW:Below X.heap.size X W)=>M.out.trans (hW.mono M.out.size));have HE:=hid (fun (E:Int) (hE:lZ s a b=E) (h0:E≠0) (w':World) (hb:Below w.heap.size w w')=>show JP s a b w (.returned (.tuple #[.agg CU,.int .i64 E])) w' from ⟨hb,by rw [hE,if_neg h0]⟩);have Y:=hid (fun (hE:lZ s a b=0) (w':World) (p':Sp) (hb:Below w.heap.size w w') (hp:dQ (mask (bZ w.heap.size) w') (jG s a b) p')=>show JP s a b w (.returned (.tuple #[.agg (bK (jG s a b) p'),.int .i64 0])) w' from ⟨hb,by rw [if_pos hE];exact ⟨p',rfl,hp⟩⟩);clear hT h hf ha hal hbl b9 ch cj cb b0;have n:=hid (show lZ s a b=if uh b.data.toList=none then 1 else if mW s a=false then 9 else if zl a.data.toList≠zl b.data.toList then 6 else if a=b then 0 else if mW s b=true then 8 else 0 from rfl);unfold bK at aD aL bk ⊢;dsimp only at aD aL bk;obtain ⟨ra,m⟩:∃ v,mW s a=v:=⟨_,rfl⟩;obtain ⟨rb,F⟩:∃ v,mW s b=v:=⟨_,rfl⟩;have cs:=hid F;rw [m] at aD;rw [F] at aL;rw [m,F] at n;clear m F;generalize JP s a b w=Q at *;unfold TV at bw bg;obtain ⟨E,hE⟩:∃ v,Adr.jF b.data.toList=v:=⟨_,rfl⟩;obtain ⟨E2,cm⟩:∃ v,Adr.jF a.data.toList=v:=⟨_,rfl⟩;have bA:=hid (show E≠0->uh b.data.toList=none from fun hh=>GV (by rw [hE];exact hh));rw [hE] at bg;rw [cm] at bw;clear hE cm;generalize cw:zl b.data.toList=TB at *;generalize cB:zl a.data.toList=TA at *;clear cw cB;go_enter Tryz.func18,Tryz.ntmps18;go_upto_region 1 with (fail)
 rw [<-bX.out];clear bX;go_upto_region 2 with (go_at_call 52;refine (bg.out _ M.out).mono ?_;rintro e w1 ⟨r1,n1,c1,d1,cg,bE,cc,ca,rfl,bB,bN⟩;have b5:=hid bN;have S:=hid bB;clear bN bB)
 obtain ⟨WA,aE⟩:∃ WA,WA=w1.alloc (.cells #[.slice r1 n1 c1,.bool d1,.string ⟨TB.toArray⟩,.string cg,.int .i64 bE,.int .i64 cc,.string ca] 93):=⟨_,rfl⟩;rw [<-aE];have BA:=hid (show Below X.heap.size X WA from aE ▸ (b5.out.alloc b5.out.size _));have b4:=hid (show WA.heap[w1.heap.size]?=some (.cells #[.slice r1 n1 c1,.bool d1,.string ⟨TB.toArray⟩,.string cg,.int .i64 bE,.int .i64 cc,.string ca] 93) from aE ▸ (MapKept.heap_alloc w1 _).1);have cM:=hid (show WA.heap.size=w1.heap.size+1 by rw [aE];simp);clear aE;have a1:=ae b4.out 1 rfl;have a2:=ae b4.out 2 rfl;have d:=hid (af.out WA BA.out);have f:=hid (am.out WA BA.out);have t0:=ae f.out 0 rfl;have t1:=ae f.out 1 rfl;have t2:=ae f.out 2 rfl;have t3:=ae f.out 3 rfl;have t4:=ae f.out 4 rfl;have P:=ae d.out 0 rfl;have B:=ak d.out 0;have U:=ae d.out 1 rfl;have A:=ak d.out 1;have V:=ae d.out 2 rfl;have C:=ak d.out 2;have Z:=ae d.out 3 rfl;have z:=ak d.out 3;have R:=ae d.out 4 rfl;have y:=ak d.out 4
 by_cases av:E=0
 case neg =>
  have n1:(E != 0)=true:=by simp [av]
  have n2:(E == 0)=false:=by simp [av]
  have hm:=hid (bA.out av);clear av S;have T:=hid (HE.out 1 (by rw [n.out];rw [if_pos hm.out]) (by decide));clear n Y HE;go_wp2_with fail
  obtain ⟨WE,q,m,F,N,G⟩:=fE d.out (.string { data:=#[] }) (.int .i64 0) (.slice none 0 0) (.slice none 0 0) (.slice none 0 0);rw [<-q];have g0:=ae m 0 rfl;have g1:=ae m 1 rfl;have g2:=ae m 2 rfl;have g3:=ae m 3 rfl;have g4:=ae m 4 rfl;have D:=hid (G _ _ (HG.out _ BA.out) (by have:=M.out.size;omega));clear q m F N G;exact bodyPost_ret (v:=.tuple #[.agg CU,.int .i64 1]) (by simp [results,Tryz.results18,go_sem,CU,g0,g1,g2,g3,g4] <;> rfl) rfl (T.out _ D.out)
 case pos =>
 subst av;have S:=hid (S.out rfl);cases d1 with
 | true =>
   have hm:=hid (show uh b.data.toList=none from S.out.trans (if_neg (by decide)));clear S;have T:=hid (HE.out 1 (by rw [n.out];rw [if_pos hm.out]) (by decide));clear n Y HE;go_wp2_with fail
   obtain ⟨WE,q,m,F,N,G⟩:=fE d.out (.string { data:=#[] }) (.int .i64 0) (.slice none 0 0) (.slice none 0 0) (.slice none 0 0);rw [<-q];have g0:=ae m 0 rfl;have g1:=ae m 1 rfl;have g2:=ae m 2 rfl;have g3:=ae m 3 rfl;have g4:=ae m 4 rfl;have D:=hid (G _ _ (HG.out _ BA.out) (by have:=M.out.size;omega));clear q m F N G;exact bodyPost_ret (v:=.tuple #[.agg CU,.int .i64 1]) (by simp [results,Tryz.results18,go_sem,CU,g0,g1,g2,g3,g4] <;> rfl) rfl (T.out _ D.out)
 | false =>
 have S:=hid (S.out.trans (if_pos rfl));have n:=hid (n.out.trans (if_neg (by rw [S.out];simp)));clear S bA;cases ra with
 | false =>
   have T:=hid (HE.out 9 (by rw [n.out];rfl) (by decide));clear n Y HE;go_wp2_with (go_at_call 53;refine (aD.out _ (HG.out _ BA.out)).mono ?_;rintro e w2 ⟨rfl,ao⟩;have BB:=hid (BA.out.trans (ao.mono BA.out.size));have bp:=hid ao;clear ao;have a2:=az bp.out a2;clear t0 t1 t2 t3 t4 P B U A V C Z z R y d f;have d:=hid (af.out w2 BB.out);have f:=hid (am.out w2 BB.out);have t0:=ae f.out 0 rfl;have t1:=ae f.out 1 rfl;have t2:=ae f.out 2 rfl;have t3:=ae f.out 3 rfl;have t4:=ae f.out 4 rfl;have P:=ae d.out 0 rfl;have B:=ak d.out 0;have U:=ae d.out 1 rfl;have A:=ak d.out 1;have V:=ae d.out 2 rfl;have C:=ak d.out 2;have Z:=ae d.out 3 rfl;have z:=ak d.out 3;have R:=ae d.out 4 rfl;have y:=ak d.out 4)
   obtain ⟨WE,q,m,F,N,G⟩:=fE d.out (.string { data:=#[] }) (.int .i64 0) (.slice none 0 0) (.slice none 0 0) (.slice none 0 0);rw [<-q];have g0:=ae m 0 rfl;have g1:=ae m 1 rfl;have g2:=ae m 2 rfl;have g3:=ae m 3 rfl;have g4:=ae m 4 rfl;have D:=hid (G _ _ (HG.out _ BB.out) (by have:=M.out.size;omega));clear q m F N G;exact bodyPost_ret (v:=.tuple #[.agg CU,.int .i64 9]) (by simp [results,Tryz.results18,go_sem,CU,g0,g1,g2,g3,g4] <;> rfl) rfl (T.out _ D.out)
 | true =>
 have n:=hid (n.out.trans (if_neg (by decide)));go_upto_region 7 with (first | (go_at_call 53;refine (aD.out _ (HG.out _ BA.out)).mono ?_;rintro e w2 ⟨rfl,ao⟩;have BB:=hid (BA.out.trans (ao.mono BA.out.size));have bp:=hid ao;clear ao;have a2:=az bp.out a2;clear t0 t1 t2 t3 t4 P B U A V C Z z R y d f;have d:=hid (af.out w2 BB.out);have f:=hid (am.out w2 BB.out);have t0:=ae f.out 0 rfl;have t1:=ae f.out 1 rfl;have t2:=ae f.out 2 rfl;have t3:=ae f.out 3 rfl;have t4:=ae f.out 4 rfl;have P:=ae d.out 0 rfl;have B:=ak d.out 0;have U:=ae d.out 1 rfl;have A:=ak d.out 1;have V:=ae d.out 2 rfl;have C:=ak d.out 2;have Z:=ae d.out 3 rfl;have z:=ak d.out 3;have R:=ae d.out 4 rfl;have y:=ak d.out 4) | (go_at_call 52;refine (bw.out _ (HG.out _ BB.out)).mono ?_;rintro e w3 ⟨r2,n2,c2,d2,cl,cq,b6,b7,rfl,_,cn⟩;have b1:=hid cn;clear cn))
 obtain ⟨WB,a8⟩:∃ WB,WB=w3.alloc (.cells #[.slice r2 n2 c2,.bool d2,.string ⟨TA.toArray⟩,.string cl,.int .i64 cq,.int .i64 b6,.string b7] 93):=⟨_,rfl⟩;rw [<-a8];have bO:=hid (show Below w2.heap.size w2 WB from a8 ▸ (b1.out.alloc b1.out.size _));have BC:=hid (BB.out.trans (bO.out.mono BB.out.size));have cH:=hid (show WB.heap[w3.heap.size]?=some (.cells #[.slice r2 n2 c2,.bool d2,.string ⟨TA.toArray⟩,.string cl,.int .i64 cq,.int .i64 b6,.string b7] 93) from a8 ▸ (MapKept.heap_alloc w3 _).1);clear a8;have b2:=ae cH.out 2 rfl;have a2:=az bO.out a2;clear t0 t1 t2 t3 t4 P B U A V C Z z R y d f;have d:=hid (af.out WB BC.out);have f:=hid (am.out WB BC.out);have t0:=ae f.out 0 rfl;have t1:=ae f.out 1 rfl;have t2:=ae f.out 2 rfl;have t3:=ae f.out 3 rfl;have t4:=ae f.out 4 rfl;have P:=ae d.out 0 rfl;have B:=ak d.out 0;have U:=ae d.out 1 rfl;have A:=ak d.out 1;have V:=ae d.out 2 rfl;have C:=ak d.out 2;have Z:=ae d.out 3 rfl;have z:=ak d.out 3;have R:=ae d.out 4 rfl;have y:=ak d.out 4
 by_cases ba:TA=TB
 case neg =>
  have n1:(TB == TA)=false:=by rw [beq_eq_false_iff_ne];exact fun e=>ba e.symm
  have cr:=hid ba;clear ba;have T:=hid (HE.out 6 (by rw [n.out];rw [if_pos cr.out]) (by decide));clear n Y HE;go_wp2_with fail
  obtain ⟨WE,q,m,F,N,G⟩:=fE d.out (.string { data:=#[] }) (.int .i64 0) (.slice none 0 0) (.slice none 0 0) (.slice none 0 0);rw [<-q];have g0:=ae m 0 rfl;have g1:=ae m 1 rfl;have g2:=ae m 2 rfl;have g3:=ae m 3 rfl;have g4:=ae m 4 rfl;have D:=hid (G _ _ (HG.out _ BC.out) (by have:=M.out.size;omega));clear q m F N G;exact bodyPost_ret (v:=.tuple #[.agg CU,.int .i64 6]) (by simp [results,Tryz.results18,go_sem,CU,g0,g1,g2,g3,g4] <;> rfl) rfl (T.out _ D.out)
 case pos =>
 subst ba;have n:=hid (n.out.trans (if_neg (by simp)));go_upto_region 10 with (go_at_call 54;refine (bk.out _ (HG.out _ BC.out)).mono ?_;rintro e w4 ⟨p2,is,B2,rfl,bS,cd⟩;obtain ⟨u,t,J,I,K,H⟩:=p2;have ab:=hid bS;have bq:=hid cd;clear bS cd)
 obtain ⟨WC,aM⟩:∃ WC,WC=w4.alloc (.cells #[.string s.lin,.int .i64 s.ser,.slice u s.ins.length t,.slice J s.pen.length I,.slice K s.out.length H] 26):=⟨_,rfl⟩;rw [<-aM];have bL:=hid (show Below w4.heap.size w4 WC from aM ▸ ((Below.refl _ _).alloc (Nat.le_refl _) _));have BD:=hid (BC.out.trans ((bq.out.trans (bL.out.mono bq.out.size)).mono BC.out.size));have j:=hid (show WC.heap[w4.heap.size]?=some (.cells #[.string s.lin,.int .i64 s.ser,.slice u s.ins.length t,.slice J s.pen.length I,.slice K s.out.length H] 26) from aM ▸ (MapKept.heap_alloc w4 _).1);have br:=hid (show WC.heap.size=w4.heap.size+1 by rw [aM];simp);have ap:=hid (ab.out.Gv bL.out);have al:=hid (show w.heap.size+2<=WB.heap.size by have:=BC.out.size;have:=a5.out;omega);have cE:=hid ab.out.hi;clear aM;clear t0 t1 t2 t3 t4 P B U A V C Z z R y d f;have d:=hid (af.out WC BD.out);have f:=hid (am.out WC BD.out);have t0:=ae f.out 0 rfl;have t1:=ae f.out 1 rfl;have t2:=ae f.out 2 rfl;have t3:=ae f.out 3 rfl;have t4:=ae f.out 4 rfl;have P:=ae d.out 0 rfl;have B:=ak d.out 0;have U:=ae d.out 1 rfl;have A:=ak d.out 1;have V:=ae d.out 2 rfl;have C:=ak d.out 2;have Z:=ae d.out 3 rfl;have z:=ak d.out 3;have R:=ae d.out 4 rfl;have y:=ak d.out 4;have v0:=ae j.out 0 rfl;have v1:=ae j.out 1 rfl;have v2:=ae j.out 2 rfl;have v3:=ae j.out 3 rfl;have v4:=ae j.out 4 rfl
 by_cases aa:a=b
 case pos =>
  have aw:=hid (Y.out (n.out.trans (if_pos aa)));have bc:=hid (show jG s a b=s from if_pos aa);rw [bc.out] at aw;have n1:(a.toList == b.toList)=true:=by rw [aa];simp
  clear aa n HE Y;go_wp2_with fail
  obtain ⟨WE,q,m,F,N,G⟩:=fE d.out (.string s.lin) (.int .i64 s.ser) (.slice u s.ins.length t) (.slice J s.pen.length I) (.slice K s.out.length H);rw [<-q];have g0:=ae m 0 rfl;have g1:=ae m 1 rfl;have g2:=ae m 2 rfl;have g3:=ae m 3 rfl;have g4:=ae m 4 rfl;have D:=hid (G _ _ (HG.out _ BD.out) (by have:=M.out.size;omega));have bf:=hid (eX.zJ (B0:=w.heap.size) (ap.out.keep (fun b hb hl=>F b (by have:=al.out;omega)) (by rw [N];exact Nat.le_refl _)) (by have:=al.out;omega));clear q m F N G;exact bodyPost_ret (v:=.tuple #[.agg (bK s ⟨u,t,J,I,K,H⟩),.int .i64 0]) (by simp [results,Tryz.results18,go_sem,bK,g0,g1,g2,g3,g4] <;> rfl) rfl (aw.out _ _ D.out bf.out)
 case neg =>
 have n:=hid (n.out.trans (if_neg aa));have b3:=hid aa;have n1:=fP aa;clear aa;cases rb with
 | true =>
   have T:=hid (HE.out 8 (by rw [n.out];rfl) (by decide));clear n Y HE;go_wp2_with (go_at_call 53;refine (aL.out _ (HG.out _ BD.out)).mono ?_;rintro e w5 ⟨rfl,an⟩;have BE:=hid (BD.out.trans (an.mono BD.out.size));have aq:=hid an;clear an;have j:=hid ((aq.out.block w4.heap.size (by have:=br.out;omega)).trans j.out);have ap:=hid (ap.out.Gv aq.out);clear v0 v1 v2 v3 v4;clear t0 t1 t2 t3 t4 P B U A V C Z z R y d f;have d:=hid (af.out w5 BE.out);have f:=hid (am.out w5 BE.out);have t0:=ae f.out 0 rfl;have t1:=ae f.out 1 rfl;have t2:=ae f.out 2 rfl;have t3:=ae f.out 3 rfl;have t4:=ae f.out 4 rfl;have P:=ae d.out 0 rfl;have B:=ak d.out 0;have U:=ae d.out 1 rfl;have A:=ak d.out 1;have V:=ae d.out 2 rfl;have C:=ak d.out 2;have Z:=ae d.out 3 rfl;have z:=ak d.out 3;have R:=ae d.out 4 rfl;have y:=ak d.out 4;have v0:=ae j.out 0 rfl;have v1:=ae j.out 1 rfl;have v2:=ae j.out 2 rfl;have v3:=ae j.out 3 rfl;have v4:=ae j.out 4 rfl)
   obtain ⟨WE,q,m,F,N,G⟩:=fE d.out (.string { data:=#[] }) (.int .i64 0) (.slice none 0 0) (.slice none 0 0) (.slice none 0 0);rw [<-q];have g0:=ae m 0 rfl;have g1:=ae m 1 rfl;have g2:=ae m 2 rfl;have g3:=ae m 3 rfl;have g4:=ae m 4 rfl;have D:=hid (G _ _ (HG.out _ BE.out) (by have:=M.out.size;omega));clear q m F N G;exact bodyPost_ret (v:=.tuple #[.agg CU,.int .i64 8]) (by simp [results,Tryz.results18,go_sem,CU,g0,g1,g2,g3,g4] <;> rfl) rfl (T.out _ D.out)
 | false =>
 have aw:=hid (Y.out (n.out.trans (if_neg (by decide))));have bc:=hid (show jG s a b=Kt s a b from if_neg b3.out);rw [bc.out] at aw;clear n HE Y;have a9:=hid ab.out.insx;go_upto_region 14 with (go_at_call 53;refine (aL.out _ (HG.out _ BD.out)).mono ?_;rintro e w5 ⟨rfl,an⟩;have BE:=hid (BD.out.trans (an.mono BD.out.size));have aq:=hid an;clear an;have j:=hid ((aq.out.block w4.heap.size (by have:=br.out;omega)).trans j.out);have ap:=hid (ap.out.Gv aq.out);clear v0 v1 v2 v3 v4;clear t0 t1 t2 t3 t4 P B U A V C Z z R y d f;have d:=hid (af.out w5 BE.out);have f:=hid (am.out w5 BE.out);have t0:=ae f.out 0 rfl;have t1:=ae f.out 1 rfl;have t2:=ae f.out 2 rfl;have t3:=ae f.out 3 rfl;have t4:=ae f.out 4 rfl;have P:=ae d.out 0 rfl;have B:=ak d.out 0;have U:=ae d.out 1 rfl;have A:=ak d.out 1;have V:=ae d.out 2 rfl;have C:=ak d.out 2;have Z:=ae d.out 3 rfl;have z:=ak d.out 3;have R:=ae d.out 4 rfl;have y:=ak d.out 4;have v0:=ae j.out 0 rfl;have v1:=ae j.out 1 rfl;have v2:=ae j.out 2 rfl;have v3:=ae j.out 3 rfl;have v4:=ae j.out 4 rfl)
 clear n1;go_wp2_with fail
 clear t0 t1 t2 t3 t4 P B U A V C Z z R y d f;clear v0 v1 v2 v3 v4;have cK:=bm.out.i;have cL:=bm.out.p;have o:=hid (show eX WB.heap.size B2 w5 (kP s a b 0 0) ⟨u,t,J,I,K,H⟩ (mx (CS a b) 0 is) by rw [JO,Ai];exact ap.out);have be:=hid (show w4.heap.size < w5.heap.size by have:=aq.out.size;have:=br.out;omega);have cJ:=hid (show WB.heap.size<=w4.heap.size from bq.out.size);go_loopg [56] s.ins.length (fun gg s9 wr=>∃ k:Nat,k<=s.ins.length/\s.ins.length - k<=gg/\s9=.int .i64 k/\Hid (Below X.heap.size X wr)/\Hid (wr.heap[w4.heap.size]?=some (.cells #[.string s.lin,.int .i64 s.ser,.slice u s.ins.length t,.slice J s.pen.length I,.slice K s.out.length H] 26))/\Hid (eX WB.heap.size B2 wr (kP s a b k 0) ⟨u,t,J,I,K,H⟩ (mx (CS a b) k is))/\Hid (w4.heap.size < wr.heap.size))
 case atStart=>exact ⟨0,by omega,by omega,rfl,BE,j,o,be⟩
 case round =>
  clear o be j ap BE;obtain ⟨k,hk,bR,rfl,BW,j,o,ac⟩:=hrel;have v2:=ae j.out 2 rfl;have v3:=ae j.out 3 rfl
  by_cases L:k < s.ins.length
  case pos =>
   have ar:(k:Int) < (s.ins.length:Int):=by omega
   have cA:(0:Int)<=(k:Int):=by omega
   have aR:k < (kP s a b k 0).ins.length:=by show k < (mx (oG a b) k s.ins).length;rw [pW];exact L
   obtain ⟨g,O,cD,cI,bh,bl⟩:=o.out.UU aR;rw [QB L] at bl;dsimp only at O;have a6:=hid O;rw [O] at v2;have cy:=bh (k * 13);clear O;have cN:=cZ ab.out.ins.own (g:=g) (by dsimp only;rw [a6.out];rfl);have bt:g≠w4.heap.size:=by omega
   by_cases hx:s.ins[k].ad=a
   case pos =>
    have HN:=hid (o.out.U3 a9.out L a6.out hx ck.out);have BN:=hid (BW.out.setCell (p:=⟨g,k * 13,none⟩) (by have:=ab.out.le;have:=al.out;have:=a5.out;show X.heap.size<=g;omega) (.string b));have bd:=hid ((Below.heap_setCell wr ⟨g,k * 13,none⟩ (.string b) w4.heap.size (Ne.symm bt)).trans j.out);have bb:=hid (show w4.heap.size < (wr.setCell ⟨g,k * 13,none⟩ (.string b)).heap.size by have:=ac.out;simpa [World.setCell] using this);have n1:(s.ins[k].ad.toList == a.toList)=true:=by rw [hx];simp
    clear hx o;generalize s.ins[k].ad=x at *;go_wp2_with fail
    go_roundg (s.ins.length - (k+1))
    case measure=>omega
    case rel=>exact ⟨k+1,by omega,by omega,by go_num,BN,bd,HN,bb⟩
   case neg =>
    have HN:=hid (o.out.UG (b:=b) a9.out L hx);have n1:=fP hx;clear hx o;generalize s.ins[k].ad=x at *;go_wp2_with fail
    go_roundg (s.ins.length - (k+1))
    case measure=>omega
    case rel=>exact ⟨k+1,by omega,by omega,by go_num,BW,j,HN,ac⟩
  case neg =>
   obtain rfl:k=s.ins.length:=by omega
   have ar:¬ ((s.ins.length:Nat):Int) < (s.ins.length:Int):=by omega
   go_wp2_with fail
   clear ar v2 v3 L hk bR;go_loopg [77] s.pen.length (fun gg s9 wq=>∃ k:Nat,k<=s.pen.length/\s.pen.length - k<=gg/\s9=.int .i64 k/\Hid (Below X.heap.size X wq)/\Hid (wq.heap[w4.heap.size]?=some (.cells #[.string s.lin,.int .i64 s.ser,.slice u s.ins.length t,.slice J s.pen.length I,.slice K s.out.length H] 26))/\Hid (eX WB.heap.size B2 wq (kP s a b s.ins.length k) ⟨u,t,J,I,K,H⟩ (mx (CS a b) s.ins.length is))/\Hid (w4.heap.size < wq.heap.size))
   case atStart=>exact ⟨0,by omega,by omega,rfl,BW,j,o,ac⟩
   case round =>
    clear o ac j BW;rename_i wq;obtain ⟨k,hk,bR,rfl,BW,j,o,ac⟩:=hrel;have v2:=ae j.out 2 rfl;have v3:=ae j.out 3 rfl
    by_cases L:k < s.pen.length
    case pos =>
     have ar:(k:Int) < (s.pen.length:Int):=by omega
     have cA:(0:Int)<=(k:Int):=by omega
     have aR:k < (kP s a b s.ins.length k).pen.length:=by show k < (mx (sD a b) k s.pen).length;rw [pW];exact L
     obtain ⟨g,O,cD,cI,bh,bl⟩:=o.out.sG aR;rw [QC L] at bl;dsimp only at O;have a6:=hid O;rw [O] at v3;have cy:=bh (k * 3);clear O;have bt:g≠w4.heap.size:=by have:=cE.out;omega
     by_cases hx:s.pen[k].ad=a
     case pos =>
      have HN:=hid (o.out.Va L a6.out hx ck.out);have BN:=hid (BW.out.setCell (p:=⟨g,k * 3,none⟩) (by have:=al.out;have:=a5.out;show X.heap.size<=g;omega) (.string b));have bd:=hid ((Below.heap_setCell _ ⟨g,k * 3,none⟩ (.string b) w4.heap.size (Ne.symm bt)).trans j.out);have bb:=hid (show w4.heap.size < (World.setCell _ ⟨g,k * 3,none⟩ (.string b)).heap.size by have:=ac.out;simpa [World.setCell] using this);have n1:(s.pen[k].ad.toList == a.toList)=true:=by rw [hx];simp
      clear hx o;generalize s.pen[k].ad=x at *;go_wp2_with fail
      go_roundg (s.pen.length - (k+1))
      case measure=>omega
      case rel=>exact ⟨k+1,by omega,by omega,by go_num,BN,bd,HN,bb⟩
     case neg =>
      have HN:=hid (o.out.TP (b:=b) L hx);have n1:=fP hx;clear hx o;generalize s.pen[k].ad=x at *;go_wp2_with fail
      go_roundg (s.pen.length - (k+1))
      case measure=>omega
      case rel=>exact ⟨k+1,by omega,by omega,by go_num,BW,j,HN,ac⟩
    case neg =>
     obtain rfl:k=s.pen.length:=by omega
     have ar:¬ ((s.pen.length:Nat):Int) < (s.pen.length:Int):=by omega
     have bv:(mx (CS a b) s.ins.length is).length=s.ins.length:=by rw [pW,<-a9.out,List.length_map]
     have bj:=hid bv;have ct:=hid (show Calls Tryz.prog 55 #[.slice u s.ins.length t,.func (.func 56) #[] #[]] _ _ from bv ▸ OW B2 (.slice u (mx (CS a b) s.ins.length is).length t) (mx (CS a b) s.ins.length is) _ o.out.ins (by have:=bm.out.i;omega));clear bv
     go_wp2_with (go_at_call 55
                  refine ct.out.mono ?_;rintro e w7 ⟨rfl,ds,a7,a0,bo,cf⟩;have b8:=hid a7;have cF:=hid a0;have cv:=hid bo;have a4:=hid cf;clear a7 a0 bo cf;have B7:=hid (Below.grown BW.out a4.out BW.out.size (fun g hg=>by have:=(cZ o.out.ins.own (g:=g) (by rw [bj.out];exact hg)).1;have:=ab.out.le;have:=al.out;have:=a5.out;omega));have cx:=hid (fun (b':Nat) (hb:b' < B2)=>a4.out.block b' (by have:=o.out.hi;omega) (fun e=>by have:=(cZ o.out.ins.own (g:=b') (by rw [bj.out];exact e.symm)).1;omega));have j:=hid ((a4.out.block w4.heap.size ac.out (fun e=>by have:=cZ ab.out.ins.own (g:=w4.heap.size) (by have h1:=ab.out.EY;dsimp only at h1 ⊢;rw [h1];exact e.symm);omega)).trans j.out);have d:=hid (af.out _ B7.out);clear v2 v3;have v0:=ae j.out 0 rfl;have v1:=ae j.out 1 rfl;have v2:=ae j.out 2 rfl;have v3:=ae j.out 3 rfl;have v4:=ae j.out 4 rfl;have P:=ae d.out 0 rfl;have B:=ak d.out 0;have U:=ae d.out 1 rfl;have A:=ak d.out 1;have V:=ae d.out 2 rfl;have C:=ak d.out 2;have Z:=ae d.out 3 rfl;have z:=ak d.out 3;have R:=ae d.out 4 rfl;have y:=ak d.out 4)
     have ce:(ds.map (·.x)).Perm (s.ins.map (oG a b)):=by
      have:=b8.out.map (·.x);rw [UE,a9.out,F9] at this;exact this
     have bs:=D7 cG.out b3.out (nR cs.out).1 ce (List.pairwise_map.2 (cF.out.imp (fun h=>by omega)));have bx:ds.length=s.ins.length:=by rw [b8.out.length_eq];exact bj.out
     have cC:=hid (show (JL s.ins a b).length=s.ins.length by rw [<-bs,List.length_map];exact bx);have a3:=o.out.change (w':=w7) (is':=ds) (r:=u) (c:=t) (l:=JL s.ins a b) (fun b' hb _=>cx.out b' hb) (by rw [bx];have:=cv.out;exact this) bs (by have:=a4.out.size;have:=o.out.hi;omega)
     have cz:=hid (show eX WB.heap.size B2 w7 (Kt s a b) ⟨u,t,J,I,K,H⟩ ds by
      unfold kP at a3;rw [F9,F9] at a3;exact a3)
     clear ce bs a3 o;obtain ⟨WE,q,m,F,N,G⟩:=fE d.out (.string s.lin) (.int .i64 s.ser) (.slice u s.ins.length t) (.slice J s.pen.length I) (.slice K s.out.length H);rw [<-q];have g0:=ae m 0 rfl;have g1:=ae m 1 rfl;have g2:=ae m 2 rfl;have g3:=ae m 3 rfl;have g4:=ae m 4 rfl;have D:=hid (G _ _ (HG.out _ B7.out) (by have:=M.out.size;omega));have bf:=hid (eX.zJ (B0:=w.heap.size) (cz.out.keep (fun b hb hl=>F b (by have:=al.out;omega)) (by rw [N];exact Nat.le_refl _)) (by have:=al.out;omega));clear q m F N G;exact bodyPost_ret (v:=.tuple #[.agg (bK (Kt s a b) ⟨u,t,J,I,K,H⟩),.int .i64 0]) (by simp [results,Tryz.results18,go_sem,bK,Kt,cC.out,g0,g1,g2,g3,g4] <;> rfl) rfl (aw.out _ _ D.out bf.out)
end Go.Proofs.YtomhbcfjhgecbaaGreatDoor
