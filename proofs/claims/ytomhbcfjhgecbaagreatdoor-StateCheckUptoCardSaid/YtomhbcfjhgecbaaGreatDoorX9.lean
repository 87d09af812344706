import Derived.Test.YtomhbcfjhgecbaaGreatDoorX7
import Derived.Shelf.Strings.Builder1
import Derived.Shelf.Small.Utf8
import Derived.Shelf.Small.Bits
import Derived.Shelf.Small.Strs
import Derived.Shelf.Small.Wraps
import Derived.Shelf.Strings.BuilderF
import Derived.Shelf.Strings.BuilderK
import Derived.Shelf.Strings.BuilderRune
import Derived.Shelf.Strconv.Itoa0
import Derived.Shelf.Strconv.Itoa1
import Derived.Shelf.LaysM
import Derived.Shelf.Strconv.Itoa2
import Derived.Shelf.Strconv.Itoa3
import Derived.Shelf.Strconv.Itoa4
import Derived.Shelf.Strconv.ParseIntEmpty
import Derived.Shelf.Strconv.Clone
import Derived.Shelf.Strconv.SyntaxError
import Derived.Shelf.LaysC
import Derived.Shelf.Strconv.ToError
import Derived.Shelf.Strconv.Lower
import Derived.Shelf.Strconv.ParseUint10
import Derived.Shelf.Strconv.ParseUint10Empty
import Derived.Shelf.Strconv.ParseUint10Any
import Derived.Shelf.Strconv.ParseInt10
import Derived.Shelf.Strconv.RangeError
import Derived.Shelf.Strconv.ToErrorRange
import Derived.Shelf.Strconv.ParseUintEmpty
import Derived.Shelf.Strconv.ParseUint10b64
import Derived.Shelf.Strconv.ParseUint10b32
import Derived.Shelf.Strconv.ParseUint10b16
import Derived.Shelf.Strconv.ParseUint10b8
import Derived.Shelf.Strconv.ParseUint10At
import Derived.Shelf.Strconv.ParseInt10At64
import Derived.Shelf.Strconv.ParseInt10At32
import Derived.Shelf.Strconv.ParseInt10At16
import Derived.Shelf.Strconv.ParseInt10At8
import Derived.Shelf.Strconv.ParseInt10All
import Derived.Shelf.Strconv.ParseIntPublic10
import Derived.Shelf.Strconv.ErrVarParseInt
import Derived.Shelf.Strings.Search1
import Derived.Shelf.Strings.Prefix
import Derived.Shelf.Unicode.Decode
import Derived.Shelf.Strings.Runes
import Derived.Shelf.Strings.IndexAny
import Derived.Shelf.Strings.AsciiSet
import Derived.Shelf.Strings.IndexAnyAll
import Derived.Shelf.Unicode.DecodeSlow
import Derived.Shelf.Unicode.DecodeAny
import Derived.Shelf.Slices.Equal
import Derived.Ground.Names2Prog
import Derived.Shelf.Slices.Clone
import Derived.Shelf.Slices.Empties2
import Derived.Ground.SlgnProg
import Derived.Shelf.SlicesE.Clone
import Derived.Test.YtomhbcfjhgecbaaGreatDoorX1
import Derived.Test.YtomhbcfjhgecbaaGreatDoorX6
import Derived.Deep.RegionHeld3
import Derived.Shelf.SlSortCmp.WholeK
import Derived.Ground.SlsfProg
import Derived.Test.YtomhbcfjhgecbaaGreatDoorProg
import Derived.Shelf.SlSortCmp.NoneTotal
set_option linter.unusedVariables false
set_option linter.unusedSimpArgs false
namespace Go.Proofs.YtomhbcfjhgecbaaGreatDoor
open Go.RowKit Go.Sort Go.Lib
open Go.Lib (hid)
def mx {α:Type} (f:α->α) (k:Nat) (l:List α):List α:=(l.take k).map f ++ l.drop k
theorem mx_len {α:Type} (f:α->α) (k:Nat) (l:List α):(mx f k l).length=l.length:=by
 unfold mx;rw [List.length_append,List.length_map,List.length_take,List.length_drop];omega
theorem mx_zero {α:Type} (f:α->α) (l:List α):mx f 0 l=l:=by simp [mx]
theorem mx_all {α:Type} (f:α->α) (l:List α):mx f l.length l=l.map f:=by simp [mx]
theorem mx_get {α:Type} {f:α->α} {k:Nat} {l:List α} (hk:k < l.length):(mx f k l)[k]'(by rw [mx_len];exact hk)=l[k]:=by
 unfold mx;rw [List.getElem_append_right (by simp;omega)];simp [Nat.min_eq_left (Nat.le_of_lt hk)]
theorem mx_next {α:Type} {f:α->α} {k:Nat} {l:List α} (hk:k < l.length):mx f (k+1) l=(mx f k l).set k (f l[k]):=by
 unfold mx;rw [List.take_succ_eq_append_getElem hk,List.map_append,List.set_append_right _ _ (by simp;omega),List.length_map,List.length_take,Nat.min_eq_left (Nat.le_of_lt hk),Nat.sub_self,List.drop_eq_getElem_cons hk,List.set_cons_zero];simp
theorem mx_same {α:Type} {f:α->α} {k:Nat} {l:List α} (hk:k < l.length) (h:f l[k]=l[k]):mx f (k+1) l=mx f k l:=by
 rw [mx_next hk,h]
 conv=>lhs;rw [<-mx_get (f:=f) hk]
 exact List.set_getElem_self _
theorem mx_map {α β:Type} {f:α->α} {f':β->β} {g:α->β} (h:∀ x,g (f x)=f' (g x)) (k:Nat) (l:List α):(mx f k l).map g=mx f' k (l.map g):=by
 unfold mx;rw [List.map_append,List.map_map,<-List.map_take,<-List.map_drop,List.map_map]
 congr 1
 exact List.map_congr_left fun x _=>h x
theorem RowG.putK {α:Type} {enc:α->List Value} {P:World->α->Prop} {sz:Nat} {T:TypeId} {B g n cap:Nat} {w:World} {ys:List α} {y:α} {o:Nat} {l:List Value} (hP:StayP P) (he:∀ y,(enc y).length=sz) (h:RowG enc P sz T B w (.slice (some ⟨g,0,none⟩) n cap) ys) (hn:n=ys.length) {k:Nat} (hk:k < ys.length)
  (hol:o+l.length<=sz) (hy:enc y=(enc ys[k]).take o ++ l ++ (enc ys[k]).drop (o+l.length)) (hx:P (mask (keepB B (.slice (some ⟨g,0,none⟩) n cap)) w) y):RowG enc P sz T B (w.setCells g (k * sz+o) l) (.slice (some ⟨g,0,none⟩) n cap) (ys.set k y):=by
 subst hn;have hst:∀ b,b≠g->(w.setCells g (k * sz+o) l).heap[b]?=w.heap[b]?:=fun b hb=>setCells_other _ _ _ _ hb;have hob:∀ b,(Value.slice (some ⟨g,0,none⟩) ys.length cap).ownBlock≠some b->b≠g:=fun b hb e=>hb (by rw [e];rfl);refine ⟨?_,fun z hz=>?_⟩
 . rw [List.length_set,<-flat_inG he y o l hol ys k hk hy]
   exact own_setCells _ _ h.own
 . rcases List.mem_or_eq_of_mem_set hz with hz | rfl
   . exact hP _ _ z (stays_keep fun b hb hl=>⟨hb,hst b (hob b (keepB_out hb).2)⟩) (h.ok z hz)
   . exact hP _ _ z (stays_keep fun b hb hl=>⟨hb,hst b (hob b (keepB_out hb).2)⟩) hx
def adI (a:ByteArray) (x:Ins):Ins:={ x with ad:=a }
def adP (a:ByteArray) (y:Inp):Inp:=⟨adI a y.x,y.p⟩
theorem StaO.setAd {B B2 g k:Nat} {w:World} {s:Sta} {p:Sp} {is:List Inp} {a:ByteArray} (h:StaO B B2 w s p is) (hg:p.ri=some ⟨g,0,none⟩) (hk:k < is.length) (ha:a.size<=maxLen) :
  StaO B B2 (w.setCell ⟨g,k * 13,none⟩ (.string a)) { s with ins:=s.ins.set k (adI a (is[k].x)) } p (is.set k (adP a is[k])):=by
 obtain ⟨ri,ci,rp,cp,ro,co⟩:=p;obtain rfl:=hg;have hgl:=own_lt h.ins.own (g:=g) rfl
 have h1:=RowG.putK (y:=adP a is[k]) (o:=0) (l:=[.string a]) inQ_stays inE_len h.ins rfl hk (by simp) (by rfl) (by
  have:=h.ins.ok _ (List.getElem_mem hk);exact ⟨this.1,this.2.1,this.2.2.1,ha,this.2.2.2.2⟩)
 refine StaO.change (w:=w) (s:=s) (p:=⟨some ⟨g,0,none⟩,ci,rp,cp,ro,co⟩) h (fun b hb _=>Below.heap_setCell _ _ _ _ (by show b≠g;omega)) (by rw [List.length_set];exact h1) ?_ ?_
 . rw [List.map_set,h.insx];rfl
 . have:=h.hi
   simpa [World.setCell] using this
def adT (a:ByteArray) (x:Pnd):Pnd:={ x with ad:=a }
theorem StaO.setPd {B B2 g k:Nat} {w:World} {s:Sta} {p:Sp} {is:List Inp} {a:ByteArray} (h:StaO B B2 w s p is) (hg:p.rp=some ⟨g,0,none⟩) (hk:k < s.pen.length) (ha:a.size<=maxLen) :
  StaO B B2 (w.setCell ⟨g,k * 3,none⟩ (.string a)) { s with pen:=s.pen.set k (adT a s.pen[k]) } p is:=by
 obtain ⟨ri,ci,rp,cp,ro,co⟩:=p;obtain rfl:=hg;have hgl:=own_lt h.pen (g:=g) rfl;have hg2:=h.penl g rfl;have hst:∀ b,b≠g->(w.setCell ⟨g,k * 3,none⟩ (.string a)).heap[b]?=w.heap[b]?:=fun b hb=>Below.heap_setCell _ _ _ _ hb;refine ⟨h.ins.to inQ_stays fun b hb _=>hst b (by omega),h.insx,?_,?_,fun x hx=>?_,?_,h.ser,h.lin,h.le,by have:=h.hi;simpa [World.setCell] using this⟩
 . have h1:=own_setCells [.string a] (k * 3+0) h.pen
   rw [flat_inG pdE_len (adT a s.pen[k]) 0 [.string a] (by simp) s.pen k hk rfl] at h1;show World.ownsRow _ _ _ _ _ _ _;rw [List.length_set];exact h1
 . show ∀ g',(Value.slice (some ⟨g,0,none⟩) (s.pen.set k _).length cp).ownBlock=some g'->_
   intro g' e;exact h.penl g' e
 . rcases List.mem_or_eq_of_mem_set hx with hx | rfl
   . exact h.penb x hx
   . have:=h.penb _ (List.getElem_mem hk)
     exact ⟨ha,this.2⟩
 . show Sl SoR 7 (mask (ltM B B2 (.slice (some ⟨g,0,none⟩) (s.pen.set k _).length cp)) _) _ _
   rw [List.length_set];have hst2:Stays (mask (ltM B B2 (.slice (some ⟨g,0,none⟩) s.pen.length cp)) w) (mask (ltM B B2 (.slice (some ⟨g,0,none⟩) s.pen.length cp)) (w.setCell ⟨g,k * 3,none⟩ (.string a))):=stays_keep fun b hb hl=>⟨hb,hst b fun e=>(ltM_out hb).2.1 (by rw [e];rfl)⟩;exact sl_stays hst2 (fun _ _=>soR_stays hst2) h.out
theorem StaO.insB {B B2 k:Nat} {w:World} {s:Sta} {p:Sp} {is:List Inp} (h:StaO B B2 w s p is) (hk:k < s.ins.length) :
  ∃ g,p.ri=some ⟨g,0,none⟩/\B2<=g/\g < w.heap.size/\(∀ o,w.frozen? ⟨g,o,none⟩=false)/\w.cell? ⟨g,k * 13,none⟩=some (.string s.ins[k].ad):=by
 obtain ⟨b,off,pt,hr,hlt,hc,_⟩:=in_at h.stap.1 k hk;rcases h.ins.own.2 with ⟨e,h0⟩ | ⟨g,cap,cur,e,hb,hg,_⟩
 . rw [h.insl] at h0;omega
 . simp at e
   have h1:=e.1;rw [hr] at h1;simp at h1;obtain ⟨rfl,rfl⟩:=h1;have:=hc 0 _ rfl;simp only [Nat.zero_add,Nat.add_zero] at this;exact ⟨b,hr,hb,hlt,fun o=>frozen_of hg o,this⟩
theorem StaO.penB {B B2 k:Nat} {w:World} {s:Sta} {p:Sp} {is:List Inp} (h:StaO B B2 w s p is) (hk:k < s.pen.length) :
  ∃ g,p.rp=some ⟨g,0,none⟩/\B<=g/\g < B2/\(∀ o,w.frozen? ⟨g,o,none⟩=false)/\w.cell? ⟨g,k * 3,none⟩=some (.string s.pen[k].ad):=by
 obtain ⟨b,off,hr,hlt,hc,_⟩:=pnd_at h.stap.2.1 k hk;rcases h.pen.2 with ⟨e,h0⟩ | ⟨g,cap,cur,e,hb,hg,_⟩
 . omega
 . simp at e
   have h1:=e.1;rw [hr] at h1;simp at h1;obtain ⟨rfl,rfl⟩:=h1;have h2:=h.penl b (by rw [hr];rfl);simp only [Nat.zero_add] at hc;exact ⟨b,hr,hb,h2,fun o=>frozen_of hg o,hc⟩
theorem StaO.keep {B B2:Nat} {w w':World} {s:Sta} {p:Sp} {is:List Inp} (h:StaO B B2 w s p is) (hk:∀ b,B<=b->b < w.heap.size->w'.heap[b]?=w.heap[b]?) (hs:w.heap.size<=w'.heap.size):StaO B B2 w' s p is:=
 ⟨h.ins.to inQ_stays fun b hb hl=>hk b (by have:=h.le;omega) hl,h.insx,own_keep h.pen fun g hg=>hk g (own_lt h.pen hg).1 (own_lt h.pen hg).2,h.penl,h.penb,by
  have hst:Stays (mask (ltM B B2 (.slice p.rp s.pen.length p.cp)) w) (mask (ltM B B2 (.slice p.rp s.pen.length p.cp)) w'):=stays_keep fun b hb hl=>⟨hb,hk b (ltM_out hb).2.2 hl⟩;exact sl_stays hst (fun _ _=>soR_stays hst) h.out,h.ser,h.lin,h.le,by have:=h.hi;omega⟩
theorem StaO.belowW {B B2:Nat} {w w':World} {s:Sta} {p:Sp} {is:List Inp} (h:StaO B B2 w s p is) (hb:Below w.heap.size w w'):StaO B B2 w' s p is:=h.keep (fun b _ hl=>hb.block b hl) hb.size
def reP (a b:ByteArray) (y:Inp):Inp:=⟨reA a b y.x,y.p⟩
def renM (s:Sta) (a b:ByteArray) (k j:Nat):Sta:={ s with ins:=mx (reA a b) k s.ins,pen:=mx (reT a b) j s.pen }
theorem renM_zero (s:Sta) (a b:ByteArray):renM s a b 0 0=s:=by unfold renM;rw [mx_zero,mx_zero]
theorem mxP_x (a b:ByteArray) (k:Nat) (is:List Inp):(mx (reP a b) k is).map (·.x)=mx (reA a b) k (is.map (·.x)):=mx_map (f:=reP a b) (f':=reA a b) (g:=fun y:Inp=>y.x) (fun _=>rfl) k is
theorem StaO.ren1 {B B2 g k:Nat} {w:World} {s:Sta} {p:Sp} {is:List Inp} {a b:ByteArray} (h:StaO B B2 w (renM s a b k 0) p (mx (reP a b) k is)) (hx:is.map (·.x)=s.ins) (hk:k < s.ins.length) (hg:p.ri=some ⟨g,0,none⟩) (he:s.ins[k].ad=a) (hb:b.size<=maxLen) :
  StaO B B2 (w.setCell ⟨g,k * 13,none⟩ (.string b)) (renM s a b (k+1) 0) p (mx (reP a b) (k+1) is):=by
 obtain ⟨lin,ser,ins,pen,out⟩:=s;dsimp only at hx hk he ⊢;subst hx;rw [List.length_map] at hk;have hk':k < (mx (reP a b) k is).length:=by rw [mx_len];exact hk
 have h1:=h.setAd hg hk' hb;simp only [List.getElem_map] at he;have e1:(mx (reP a b) k is)[k]=is[k]:=mx_get hk;rw [e1] at h1
 have e2:adP b is[k]=reP a b is[k]:=by
  unfold adP reP adI reA;rw [if_pos he]
 have e3:adI b is[k].x=reA a b is[k].x:=by unfold adI reA;rw [if_pos he]
 rw [e2,<-mx_next hk,e3] at h1;unfold renM at h1 ⊢;dsimp only at h1
 have e4:(mx (reA a b) k (is.map (·.x))).set k (reA a b is[k].x)=mx (reA a b) (k+1) (is.map (·.x)):=by
  rw [mx_next (by simpa using hk),List.getElem_map]
 rw [e4] at h1;exact h1
theorem StaO.ren1n {B B2 k:Nat} {w:World} {s:Sta} {p:Sp} {is:List Inp} {a b:ByteArray} (h:StaO B B2 w (renM s a b k 0) p (mx (reP a b) k is)) (hx:is.map (·.x)=s.ins) (hk:k < s.ins.length) (he:s.ins[k].ad≠a) :
  StaO B B2 w (renM s a b (k+1) 0) p (mx (reP a b) (k+1) is):=by
 obtain ⟨lin,ser,ins,pen,out⟩:=s;dsimp only at hx hk he ⊢;subst hx;rw [List.length_map] at hk;simp only [List.getElem_map] at he;have e3:reA a b is[k].x=is[k].x:=by unfold reA;rw [if_neg he]
 have e2:reP a b is[k]=is[k]:=by unfold reP;rw [e3]
 rw [mx_same hk e2];unfold renM at h ⊢;rw [mx_same (l:=is.map (·.x)) (by simpa using hk) (by rw [List.getElem_map];exact e3)];exact h
theorem StaO.ren2 {B B2 g k K:Nat} {w:World} {s:Sta} {p:Sp} {is:List Inp} {a b:ByteArray} (h:StaO B B2 w (renM s a b K k) p is) (hk:k < s.pen.length) (hg:p.rp=some ⟨g,0,none⟩) (he:s.pen[k].ad=a) (hb:b.size<=maxLen) :
  StaO B B2 (w.setCell ⟨g,k * 3,none⟩ (.string b)) (renM s a b K (k+1)) p is:=by
 have hk':k < (renM s a b K k).pen.length:=by show k < (mx (reT a b) k s.pen).length;rw [mx_len];exact hk
 have h1:=h.setPd hg hk' hb;have e1:(renM s a b K k).pen[k]=s.pen[k]:=mx_get hk;rw [e1] at h1;have e3:adT b s.pen[k]=reT a b s.pen[k]:=by unfold adT reT;rw [if_pos he]
 rw [e3] at h1;have e4:(renM s a b K k).pen.set k (reT a b s.pen[k])=(renM s a b K (k+1)).pen:=(mx_next hk).symm;rw [e4] at h1;exact h1
theorem StaO.ren2n {B B2 k K:Nat} {w:World} {s:Sta} {p:Sp} {is:List Inp} {a b:ByteArray} (h:StaO B B2 w (renM s a b K k) p is) (hk:k < s.pen.length) (he:s.pen[k].ad≠a) :
  StaO B B2 w (renM s a b K (k+1)) p is:=by
 have e3:reT a b s.pen[k]=s.pen[k]:=by unfold reT;rw [if_neg he]
 unfold renM at h ⊢;rw [mx_same hk e3];exact h
theorem ren1_ad {s:Sta} {a b:ByteArray} {k:Nat} (hk:k < s.ins.length):((renM s a b k 0).ins[k]'(by show k < (mx (reA a b) k s.ins).length;rw [mx_len];exact hk))=s.ins[k]:=mx_get hk
theorem ren2_ad {s:Sta} {a b:ByteArray} {k K:Nat} (hk:k < s.pen.length):((renM s a b K k).pen[k]'(by show k < (mx (reT a b) k s.pen).length;rw [mx_len];exact hk))=s.pen[k]:=mx_get hk
def tyT (l:List UInt8):List UInt8:=if Adr.prE l=0 then (match Adr.prR l with | some (_,some (_,ty,_,_))=>ty | _=>[]) else []
def renE (s:Sta) (a b:ByteArray):Int:=
 if mgT b.data.toList=none then 1 else if recB s a=false then 9 else if tyT a.data.toList≠tyT b.data.toList then 6 else if a=b then 0 else if recB s b=true then 8 else 0
def renS (s:Sta) (a b:ByteArray):Sta:=if a=b then s else reS s a b
end Go.Proofs.YtomhbcfjhgecbaaGreatDoor
namespace Go.Proofs
open Go.Shelf
def Tryz.lays243_ren:Go.Shelf.Ren:=⟨fun | 243=>129 | 246=>172 | 283=>209 | 284=>210 | 285=>211 | 286=>212 | 129=>149 | 317=>235 | 318=>236 | 319=>237 | 320=>238 | 337=>247 | 338=>248 | n=>n,fun | 3=>3 | 9=>9 | 2=>2 | 4=>4 | 171=>232 | 0=>0 | 53=>172 | 37=>178 | 5=>5 | 173=>234 | 212=>253 | 51=>170 | 20=>20 | 213=>254 | 46=>137 | 232=>266 | 233=>267 | n=>n,fun | 17=>3 | 18=>6 | 19=>7 | n=>n⟩
theorem Tryz.lays243:Go.Proofs.Lays.n243 Tryz.prog Tryz.lays243_ren:={
 mixed:=by kernel_rfl
 f129:=Tryz.func149.trans (congrArg some (by kernel_rfl))
 f243:=Tryz.func129.trans (congrArg some (by kernel_rfl))
 f246:=Tryz.func172.trans (congrArg some (by kernel_rfl))
 f283:=Tryz.func209.trans (congrArg some (by kernel_rfl))
 f284:=Tryz.func210.trans (congrArg some (by kernel_rfl))
 f285:=Tryz.func211.trans (congrArg some (by kernel_rfl))
 f286:=Tryz.func212.trans (congrArg some (by kernel_rfl))
 f317:=Tryz.func235.trans (congrArg some (by kernel_rfl))
 f318:=Tryz.func236.trans (congrArg some (by kernel_rfl))
 f319:=Tryz.func237.trans (congrArg some (by kernel_rfl))
 f320:=Tryz.func238.trans (congrArg some (by kernel_rfl))
 f337:=Tryz.func247.trans (congrArg some (by kernel_rfl))
 f338:=Tryz.func248.trans (congrArg some (by kernel_rfl))
 t0:=Tryz.underlying0
 a0:=Tryz.isAgg0
 z0:=Tryz.sizeOf0
 v0:=Tryz.zeroValue0
 t2:=Tryz.underlying2
 a2:=Tryz.isAgg2
 z2:=Tryz.sizeOf2
 v2:=Tryz.zeroValue2
 t3:=Tryz.underlying3
 a3:=Tryz.isAgg3
 z3:=Tryz.sizeOf3
 v3:=Tryz.zeroValue3
 t4:=Tryz.underlying4
 a4:=Tryz.isAgg4
 z4:=Tryz.sizeOf4
 v4:=Tryz.zeroValue4
 t5:=Tryz.underlying5
 a5:=Tryz.isAgg5
 z5:=Tryz.sizeOf5
 v5:=Tryz.zeroValue5
 t9:=Tryz.underlying9
 a9:=Tryz.isAgg9
 z9:=Tryz.sizeOf9
 v9:=Tryz.zeroValue9
 t20:=Tryz.underlying20
 a20:=Tryz.isAgg20
 z20:=Tryz.sizeOf20
 v20:=Tryz.zeroValue20
 t37:=Tryz.underlying178
 a37:=Tryz.isAgg178
 z37:=Tryz.sizeOf178
 v37:=Tryz.zeroValue178
 t46:=Tryz.underlying137
 a46:=Tryz.isAgg137
 z46:=Tryz.sizeOf137
 v46:=Tryz.zeroValue137
 t51:=Tryz.underlying170
 a51:=Tryz.isAgg170
 z51:=Tryz.sizeOf170
 v51:=Tryz.zeroValue170
 t53:=Tryz.underlying172
 a53:=Tryz.isAgg172
 z53:=Tryz.sizeOf172
 v53:=Tryz.zeroValue172
 t171:=Tryz.underlying232
 a171:=Tryz.isAgg232
 z171:=Tryz.sizeOf232
 v171:=Tryz.zeroValue232
 t173:=Tryz.underlying234
 a173:=Tryz.isAgg234
 z173:=Tryz.sizeOf234
 v173:=Tryz.zeroValue234
 t212:=Tryz.underlying253
 a212:=Tryz.isAgg253
 z212:=Tryz.sizeOf253
 v212:=Tryz.zeroValue253
 t213:=Tryz.underlying254
 a213:=Tryz.isAgg254
 z213:=Tryz.sizeOf254
 t232:=Tryz.underlying266
 a232:=Tryz.isAgg266
 z232:=Tryz.sizeOf266
 v232:=Tryz.zeroValue266
 t233:=Tryz.underlying267
 a233:=Tryz.isAgg267
 z233:=Tryz.sizeOf267
 v233:=Tryz.zeroValue267
 g17:=by kernel_rfl
 g18:=by kernel_rfl
 g19:=by kernel_rfl }
open Go.RowKit Go.Sort Go.Lib in
theorem Tryz.internal_strconv_Itoa_small (i:Nat) (hi:i < 100) (w:World) :
 Calls Tryz.prog 129 #[.int .i64 i] w fun e w'=>e=.returned (.string ⟨(Lib.decDigits i).toArray⟩)/\w'=w:=Any.internal_strconv_Itoa_small Tryz.lays243 i hi w
end Go.Proofs
namespace Go.Proofs.YtomhbcfjhgecbaaGreatDoor
open Go.RowKit Go.Sort Go.Lib
open Go.Lib (hid)
theorem sitoa_any (n:Nat) (hn:n < 100) (w:World):Calls Tryz.prog 91 #[.int .i64 (n:Nat)] w fun e w'=>e=.returned (.string (kyB n))/\w'=w:=by
 have HI:=hid (fun (w:World)=>Tryz.internal_strconv_Itoa_small n hn w);go_enter Tryz.func91,Tryz.ntmps91;go_wp2_with (go_at_call 129;refine (HI.out _).mono ?_;rintro e w' ⟨rfl,rfl⟩)
 go_ret
 exact ⟨rfl,rfl⟩
theorem format_any (n:Nat) (hn:n < 100) (w:World):Calls Tryz.prog 49 #[.int .i64 (n:Nat)] w fun e w'=>e=.returned (.string (kyB n))/\w'=w:=by
 have HI:=hid (fun (w:World)=>sitoa_any n hn w);go_enter Tryz.func49,Tryz.ntmps49;go_wp2_with (go_at_call 91;refine (HI.out _).mono ?_;rintro e w' ⟨rfl,rfl⟩)
 go_ret
 exact ⟨rfl,rfl⟩
end Go.Proofs.YtomhbcfjhgecbaaGreatDoor
namespace Go.Proofs.YtomhbcfjhgecbaaGreatDoor
open Go.RowKit Go.Sort Go.Lib
open Go.Lib (hid)
namespace Stp
def sAgS (s:Sta):Spc:=⟨fun v=>∃ p,v=.agg (staA s p),fun v w=>∃ p,v=.agg (staA s p)/\StaP w s p⟩
theorem stAgS (s:Sta):∀ v,Stb ((sAgS s).R v):=fun v w w' ⟨p,e,h⟩ hl=>⟨p,e,staP_below hl h⟩
end Stp
open Stp (wp_region_fresh Spc Stb sVal stTrue sAgI stAgI sRwI stRwI sAgS stAgS Lat Bef grw_below wpF_quiet wq grw_ex wpF_told wpF_put wpF_nil wpF_skip noEnter_op)
attribute [local go_sem] Stp.frUpon
attribute [local go_sem ↓] ldI_eq
attribute [local go_sem] ldI_run
attribute [local go_sem ↓] stI_eq
attribute [local go_sem] stI_run thereI_drew thereI_new put13_drew put13_new liesI_new rd13_new liesI_drew rd13_drew
theorem kyB_size {n:Nat} (h:n < 100):(kyB n).size<=maxLen:=by
 have h1:(kyB n).size=(Lib.decDigits n).length:=by simp [kyB,ByteArray.size]
 rw [h1,Lib.decDigits]
 by_cases h10:n < 10
 . rw [dif_pos h10];simp [maxLen]
 . rw [dif_neg h10,Lib.decDigits,dif_pos (by omega)];simp [maxLen]
theorem keepL {w3:World} {bo b:Nat} {x0 x1 x2 x3 x4:Value} (h:LiesI w3 b 0) (hne:b≠bo):LiesI (((((w3.setCell ⟨bo,0,none⟩ x0).setCell ⟨bo,1,none⟩ x1).setCell ⟨bo,2,none⟩ x2).setCell ⟨bo,3,none⟩ x3).setCell ⟨bo,4,none⟩ x4) b 0/\rd13 (((((w3.setCell ⟨bo,0,none⟩ x0).setCell ⟨bo,1,none⟩ x1).setCell ⟨bo,2,none⟩ x2).setCell ⟨bo,3,none⟩ x3).setCell ⟨bo,4,none⟩ x4) b 0=rd13 w3 b 0:=by
 have hq:∀ j,(((((w3.setCell ⟨bo,0,none⟩ x0).setCell ⟨bo,1,none⟩ x1).setCell ⟨bo,2,none⟩ x2).setCell ⟨bo,3,none⟩ x3).setCell ⟨bo,4,none⟩ x4).cell? ⟨b,j,none⟩=w3.cell? ⟨b,j,none⟩:=fun j=>World.cell?_of_block (setCells_other [x0,x1,x2,x3,x4] w3 bo 0 hne);refine ⟨fun j hj=>by rw [hq];exact h j hj,?_⟩;unfold rd13;simp only [hq]
theorem staF_rm {s:Sta} (h:StaF s) (q:Plc):StaF { s with ins:=rmI s.ins q }:=by
 refine ⟨Nat.le_trans (List.length_filter_le _ _) h.i,fun x hx=>h.ix x (List.mem_filter.1 hx).1,h.p,h.o,h.ox⟩
def zeS:Array Value:=#[.string { data:=#[] },.int .i64 0,.slice none 0 0,.slice none 0 0,.slice none 0 0]
def DepR (s:Sta) (a:ByteArray) (w:World) (e:Ending) (w':World):Prop:=Below w.heap.size w w'/\match depI s.ins a with
 | none=>e=.returned (.tuple #[.agg zeS,.string ByteArray.empty,.int .i64 9])
 | some (xs,k)=>∃ p',e=.returned (.tuple #[.agg (staA { s with ins:=xs } p'),.string k,.int .i64 0])/\StaP w' { s with ins:=xs } p'
set_option maxRecDepth 100000 in
set_option maxHeartbeats 8000000 in
theorem depose_sta (s:Sta) (p:Sp) (a:ByteArray) (w:World) (h:StaP w s p) (hf:StaF s) (ha:AscP s.ins) (hn:s.ins.length<=90) (hal:a.size<=maxLen) :
  Calls Tryz.prog 15 #[.agg (staA s p),.string a] w (DepR s a w):=by
 obtain ⟨ri,ci,rp,cp,ro,co⟩:=p;have HFI:=hid (fun (W:World) (hW:Below w.heap.size w W)=>find_sta s ⟨ri,ci,rp,cp,ro,co⟩ a ByteArray.empty W (staP_below hW h) hf ha);have HST:=hid (fun (W:World) (hW:Below w.heap.size w W)=>staP_below hW h);have HAS:=hid ha;have HSF:=hid hf;have HN:=hid hn;obtain ⟨W0,hW0,hb0,hz0,hc0,hc2⟩:=two_new' w (.cells #[.string s.lin,.int .i64 s.ser,.slice ri s.ins.length ci,.slice rp s.pen.length cp,.slice ro s.out.length co] 26) (.cells #[.string { data:=#[] },.int .i64 0,.slice none 0 0,.slice none 0 0,.slice none 0 0] 26);have HW0:=hid hW0;have HB0:=hid hb0;have HZ0:=hid hz0;have HC0:=hid hc0;have HC2:=hid hc2;have t0:=cellv hc0 0 rfl;have t1:=cellv hc0 1 rfl;have t2:=cellv hc0 2 rfl;have t3:=cellv hc0 3 rfl;have t4:=cellv hc0 4 rfl;have HDQ:=hid (show ∀ e w',DepR s a w e w' ↔ DepR s a w e w' from fun _ _=>Iff.rfl);unfold staA at *;dsimp only at HFI HST;unfold FndR at HFI;cases hfn:fnI s.ins (a,ByteArray.empty) with
 | none =>
   simp only [hfn] at HFI;have HQ:=hid (show ∀ w',Below w.heap.size w w'->DepR s a w (.returned (.tuple #[.agg zeS,.string ByteArray.empty,.int .i64 9])) w' from fun w' hb=>⟨hb,by unfold depI;rw [hfn]⟩);clear h hf ha hn hW0 hb0 hz0 hc0 hc2 hfn HDQ;generalize DepR s a w=Q at *;go_enter Tryz.func15,Tryz.ntmps15;go_upto_region 1 with (fail)
   rw [<-HW0.out]
   go_wp2_with (go_at_call 16
                refine (HFI.out _ HB0.out).mono ?_;rintro e w1 ⟨hb1,rfl⟩;have HB1:=hid hb1;have hX:=cellsZ;generalize zeI=X at *;have HR3:=hid (((MapKept.heap_alloc w1 (.cells X 41)).2 (w.heap.size+1) (by have:=HZ0.out;have:=hb1.size;omega)).trans ((hb1.block _ (by have:=HZ0.out;omega)).trans HC2.out));have HB3:=hid ((HB0.out.trans (hb1.mono HB0.out.size)).alloc (by have:=HB0.out.size;have:=hb1.size;omega) (.cells X 41));have y0:=cellv HR3.out 0 rfl;have yf0:=frozen_of HR3.out 0;have y1:=cellv HR3.out 1 rfl;have yf1:=frozen_of HR3.out 1;have y2:=cellv HR3.out 2 rfl;have yf2:=frozen_of HR3.out 2;have y3:=cellv HR3.out 3 rfl;have yf3:=frozen_of HR3.out 3;have y4:=cellv HR3.out 4 rfl;have yf4:=frozen_of HR3.out 4;clear hb1)
   obtain ⟨WE,hWE,e1,e2,e3,e4⟩:=cl_store HR3.out (.string { data:=#[] }) (.int .i64 0) (.slice none 0 0) (.slice none 0 0) (.slice none 0 0);rw [<-hWE];have g0:=cellv e1 0 rfl;have g1:=cellv e1 1 rfl;have g2:=cellv e1 2 rfl;have g3:=cellv e1 3 rfl;have g4:=cellv e1 4 rfl;have hBE:=hid (e4 _ _ HB3.out (by omega));clear hWE e1 e2 e3 e4;exact bodyPost_ret (v:=.tuple #[.agg zeS,.string ByteArray.empty,.int .i64 9]) (by simp [results,Tryz.results15,go_sem,zeS,g0,g1,g2,g3,g4];rfl) rfl (HQ.out _ hBE.out)
 | some y =>
   simp only [hfn] at HFI;have hmem:=Osg.fnG_mem hfn;have HFY:=hid (hf.ix y hmem.1);obtain ⟨K,hK⟩:∃ K,depK s.ins a=K:=⟨_,rfl⟩;have HK:=hid (show fndP s.ins (a,kyB K)=false/\1<=K/\K<=s.ins.length+1/\∀ j,1<=j->j < K->fndP s.ins (a,kyB j)=true from hK ▸ depK_spec s.ins a);obtain ⟨S1,hS1⟩:∃ S1:Sta,S1={ s with ins:=rmI s.ins (a,ByteArray.empty) }:=⟨_,rfl⟩;obtain ⟨S2,hS2⟩:∃ S2:Sta,S2={ S1 with ins:=putI S1.ins (deI y K) }:=⟨_,rfl⟩
   have HQ:=hid (show ∀ w' p',Below w.heap.size w w'->StaP w' S2 p'->DepR s a w (.returned (.tuple #[.agg (staA S2 p'),.string (kyB K),.int .i64 0])) w' from fun w' p' hb hp=>⟨hb,by
    unfold depI;rw [hfn];simp only [hK];subst hS2 hS1;exact ⟨p',rfl,hp⟩⟩)
   have HRM:=hid (fun (W:World) (hW:Below w.heap.size w W)=>show Calls Tryz.prog 23 #[.agg #[.string s.lin,.int .i64 s.ser,.slice ri s.ins.length ci,.slice rp s.pen.length cp,.slice ro s.out.length co],.string a,.string ByteArray.empty] W fun e w'=>∃ p',e=.returned (.agg (staA S1 p'))/\StaP (mask (fromB W.heap.size) w') S1 p'/\Below W.heap.size W w' from by
    rw [hS1];exact remove_sta s ⟨ri,ci,rp,cp,ro,co⟩ a ByteArray.empty W (staP_below hW h) hf ha)
   have HF1:=hid (show StaF S1 from hS1 ▸ staF_rm hf _);have HA1:=hid (show AscP S1.ins by rw [hS1];exact Osg.ascG_rm (show Osg.AscG ltP plOf s.ins from ha) _)
   have HN1:=hid (show S1.ins.length+1<=1000000 by
    have:S1.ins.length<=s.ins.length:=by rw [hS1];exact List.length_filter_le _ _
    omega)
   have HPU:=hid (fun (W:World) (p':Sp) (q:Pt) (hp:StaP W S1 p') (hi:InsP W (deI y K) q)=>show Calls Tryz.prog 21 #[.agg (staA S1 p'),.agg (insA (deI y K) q)] W fun e w'=>∃ p',e=.returned (.agg (staA S2 p'))/\StaP (mask (fromB W.heap.size) w') S2 p'/\Below W.heap.size W w' from by
    rw [hS2];exact put_sta S1 p' (deI y K) q W hp HF1.out hi HFY.out HA1.out HN1.out)
   have HSE:=hid (fun (W:World) (n:Nat) (hW:Below w.heap.size w W)=>search_any ri ci s.ins (a,kyB n) W (h.1.below inR_mono hW) ha hf.i);have hK100:K < 100:=by have:=HK.out.2.2.1;omega
   have HFO:=hid (fun (n:Nat) (hn:n<=K) (W:World)=>format_any n (by omega) W);have HKS:=hid (kyB_size hK100);have HDE:=hid (show ∀ q,insA (deI y K) q=((insA y q).setIfInBounds 1 (.string (kyB K))) from fun q=>rfl);have hK1:=HK.out.2.1;have HYA:=hid hal;clear h hf ha hn hW0 hb0 hz0 hc0 hc2 hfn HDQ hmem hK HAS HSF HF1 HA1 HN1 hS1 hS2;generalize DepR s a w=Q at *;go_enter Tryz.func15,Tryz.ntmps15;go_upto_region 1 with (fail)
   rw [<-HW0.out]
   go_wp2_with (go_at_call 16
                refine (HFI.out _ HB0.out).mono ?_;rintro e w1 ⟨hb1,p5,rfl,hi5⟩;have HB1:=hid hb1;have hX:=cellsI y p5;have HXX:=hid (show insA y p5=insA y p5 from rfl);generalize hXY:insA y p5=X at *;have HI5:=hid hi5;have HXY:=hid hXY;clear hb1 hi5 hXY HXX)
   have HZ3:=hid (show (w1.alloc (.cells X 41)).heap.size=w1.heap.size+1 by simp);have HB3:=hid (show Below w.heap.size w (w1.alloc (.cells X 41)) from (HB0.out.trans (HB1.out.mono HB0.out.size)).alloc (by have:=HB0.out.size;have:=HB1.out.size;omega) _);have HBI:=hid ((MapKept.heap_alloc w1 (.cells X 41)).1);have HB13:=hid (show Below w1.heap.size w1 (w1.alloc (.cells X 41)) from (Below.refl _ _).alloc (Nat.le_refl _) _);have HS0:=hid (((HB13.out.block w.heap.size (by have:=HZ0.out;have:=HB1.out.size;omega)).trans ((HB1.out.block _ (by have:=HZ0.out;omega)).trans HC0.out)));have HR0:=hid (((HB13.out.block (w.heap.size+1) (by have:=HZ0.out;have:=HB1.out.size;omega)).trans ((HB1.out.block _ (by have:=HZ0.out;omega)).trans HC2.out)));generalize w1.alloc (.cells X 41)=W3 at *;clear t0 t1 t2 t3 t4 HFI hX;go_loopg [9] K (fun gg s9 wr=>∃ n:Nat,1<=n/\n<=K/\K - n<=gg/\s9=.int .i64 n/\Hid (Below W3.heap.size W3 wr))
   case atStart=>exact ⟨1,by omega,hK1,by omega,rfl,hid (Below.refl _ _)⟩
   case round =>
    obtain ⟨n,hn1,hn2,hgg,rfl,HBR⟩:=hrel;have HBw:=hid (HB3.out.trans (HBR.out.mono HB3.out.size));have HSR:=hid (((HBR.out.block w.heap.size (by have:=HZ3.out;have:=HZ0.out;have:=HB1.out.size;omega)).trans HS0.out));have u2:=cellv HSR.out 2 rfl;have k2:=fun d os=>cell_regrown u2 d os;obtain ⟨L,hL⟩:∃ L,lowP s.ins (a,kyB n)=L:=⟨_,rfl⟩;obtain ⟨F,hF⟩:∃ F,fndP s.ins (a,kyB n)=F:=⟨_,rfl⟩;have HSN:=hid (fun (W:World) (hW:Below wr.heap.size wr W)=>HSE.out W n (HBw.out.trans (hW.mono HBw.out.size)));rw [hL,hF] at HSN
    try dsimp only at HSN
    have HFN:=hid (fun (W:World)=>HFO.out n hn2 W)
    by_cases hlt:n < K
    . obtain rfl:F=true:=by rw [<-hF];exact HK.out.2.2.2 n hn1 hlt
      clear hL hF;go_upto_region 5 with (fail)
      refine wp_region_fresh (fun k=>match k with | 4=>some (sVal (.string (kyB n))) | 6=>some (sVal (.tuple #[.int .i64 (L:Nat),.bool true])) | _=>none) (by kernel_rfl) (by kernel_rfl) ?_
      iterate 4 (refine wq ?_;intro K hK;go_big_quiet_op;go_big_quiet_on)
      refine wpF_told (sVal (.string (kyB n))) (by kernel_rfl) rfl ⟨_,rfl⟩ stTrue (fun w4 hw4 hE4=>?_) ?_
      . have hb4:=grw_below hw4
        have hh:=HFN.out w4;clear hw4 hE4 hb4;go_simp
        go_at_call 49;refine Calls.mono hh ?_;rintro e w5 ⟨rfl,rfl⟩;exact ⟨_,rfl,Lat.refl _,rfl,trivial⟩
      rintro _ rfl
      (refine wpF_put ?_;intro K hK;go_simp;refine hK _ ?_;clear hK K)
      (refine wq ?_;intro K hK;go_big_quiet_op;go_big_quiet_on)
      refine wpF_told (sVal (.tuple #[.int .i64 (L:Nat),.bool true])) (by kernel_rfl) rfl ⟨_,rfl⟩ stTrue (fun w4 hw4 hE4=>?_) ?_
      . have hb4:=grw_below hw4
        have hh:=HSN.out w4 hb4;clear hw4 hE4 hb4;go_simp
        go_at_call 48;refine Calls.mono hh ?_;rintro e w5 ⟨rfl,hb5⟩;exact ⟨_,rfl,hb5,rfl,trivial⟩
      rintro _ rfl
      (refine wpF_put ?_;intro K hK;go_simp;refine hK _ ?_;clear hK K)
      iterate 5 (refine wq ?_;intro K hK;go_big_quiet_op;go_big_quiet_on)
      refine wpF_nil ?_;intro w6 hw6 hE6;have hb6:=grw_below hw6;clear hw6 hE6;have HB6:=hid (HBR.out.trans (hb6.mono HBR.out.size));clear hb6;go_wp2_with fail
      go_roundg (K - (n+1))
      case measure=>omega
      case rel=>exact ⟨n+1,by omega,by omega,by omega,by go_num,HB6⟩
    . obtain rfl:n=K:=by omega
      obtain rfl:F=false:=by rw [<-hF];exact HK.out.1
      clear hL hF;go_upto_region 5 with (fail)
      refine wp_region_fresh (fun k=>match k with | 4=>some (sVal (.string (kyB n))) | 6=>some (sVal (.tuple #[.int .i64 (L:Nat),.bool false])) | _=>none) (by kernel_rfl) (by kernel_rfl) ?_
      iterate 4 (refine wq ?_;intro K hK;go_big_quiet_op;go_big_quiet_on)
      refine wpF_told (sVal (.string (kyB n))) (by kernel_rfl) rfl ⟨_,rfl⟩ stTrue (fun w4 hw4 hE4=>?_) ?_
      . have hb4:=grw_below hw4
        have hh:=HFN.out w4;clear hw4 hE4 hb4;go_simp
        go_at_call 49;refine Calls.mono hh ?_;rintro e w5 ⟨rfl,rfl⟩;exact ⟨_,rfl,Lat.refl _,rfl,trivial⟩
      rintro _ rfl
      (refine wpF_put ?_;intro K hK;go_simp;refine hK _ ?_;clear hK K)
      (refine wq ?_;intro K hK;go_big_quiet_op;go_big_quiet_on)
      refine wpF_told (sVal (.tuple #[.int .i64 (L:Nat),.bool false])) (by kernel_rfl) rfl ⟨_,rfl⟩ stTrue (fun w4 hw4 hE4=>?_) ?_
      . have hb4:=grw_below hw4
        have hh:=HSN.out w4 hb4;clear hw4 hE4 hb4;go_simp
        go_at_call 48;refine Calls.mono hh ?_;rintro e w5 ⟨rfl,hb5⟩;exact ⟨_,rfl,hb5,rfl,trivial⟩
      rintro _ rfl
      (refine wpF_put ?_;intro K hK;go_simp;refine hK _ ?_;clear hK K)
      iterate 5 (refine wq ?_;intro K hK;go_big_quiet_op;go_big_quiet_on)
      refine wpF_nil ?_;intro w6 hw6 hE6;have hb6:=grw_below hw6;clear hw6 hE6;have HB6:=hid (HBR.out.trans (hb6.mono HBR.out.size));clear hb6;go_upto_region 8 with (fail)
      have hz3:=HZ3.out;have hz0:=HZ0.out;have hz1:=HB1.out.size;have hs6:=HB6.out.size;have HBI6:=hid ((HB6.out.block w1.heap.size (by omega)).trans HBI.out);have HS6:=hid ((HB6.out.block w.heap.size (by omega)).trans HS0.out);have HR6:=hid ((HB6.out.block (w.heap.size+1) (by omega)).trans HR0.out);have HBw6:=hid (HB3.out.trans (HB6.out.mono HB3.out.size));have HX1:=hid (show X[1]?=some (.string y.de) by rw [<-HXY.out];rfl);have c1:=cellv HBI6.out 1 HX1.out;have f1:=frozen_of HBI6.out 1;have HXS:=hid (show X.size=13 by rw [<-HXY.out];rfl)
      have hbi8:(w6.setCells w1.heap.size 1 [.string (kyB n)]).heap[w1.heap.size]?=some (.cells (insA (deI y n) p5) 41):=by
       have:=setCells_block [.string (kyB n)] 41 w6 w1.heap.size 1 X HBI6.out (by rw [HXS.out];simp);rw [this]
       congr 2
       rw [HDE.out,HXY.out];apply Array.ext';rw [List.toList_toArray,Array.toList_setIfInBounds];rw [List.set_eq_take_append_cons_drop,if_pos (by rw [Array.length_toList,HXS.out];decide)];simp
      have hk8:∀ b,b≠w1.heap.size->(w6.setCells w1.heap.size 1 [.string (kyB n)]).heap[b]?=w6.heap[b]?:=fun b hb=>setCells_other _ _ _ _ hb;have hz8:=setCells_size [.string (kyB n)] w6 w1.heap.size 1;have hb8:=setCells_below [.string (kyB n)] w6 w1.heap.size 1 HBw6.out (by omega)
      have hi8:InsP (w6.setCells w1.heap.size 1 [.string (kyB n)]) (deI y n) p5:=by
       have hst:Stays (mask (fun b=>decide (b < w1.heap.size)) w1) (w6.setCells w1.heap.size 1 [.string (kyB n)]):=stays_out fun b hb hl=>by
        rw [hk8 b (by omega),HB6.out.block b (by omega),HB13.out.block b hl]
       have hm:Stays w1 (mask (fun b=>decide (b < w1.heap.size)) w1):=fun b o v hc=>mask_cell_mk (decide_eq_true (World.block_lt_of_cell? w1 _ hc)) hc;have h1:=inQ_stays _ _ ⟨y,p5⟩ hst (inQ_stays _ _ ⟨y,p5⟩ hm HI5.out);exact ⟨h1.1,h1.2.1,h1.2.2.1,h1.2.2.2.1,HKS.out,h1.2.2.2.2.2⟩
      go_wp2_with (go_at_call 49;refine (HFN.out _).mono ?_;rintro e w7 ⟨rfl,h7⟩;obtain rfl:=h7.symm)
      rw [show w6.setCell ⟨w1.heap.size,1,none⟩ (.string (kyB n))=w6.setCells w1.heap.size 1 [.string (kyB n)] from rfl];generalize w6.setCells w1.heap.size 1 [.string (kyB n)]=W8 at *;have HBI8:=hid hbi8;have HB8:=hid hb8;have HI8:=hid hi8;have HS8:=hid ((hk8 w.heap.size (by omega)).trans HS6.out);have HR8:=hid ((hk8 (w.heap.size+1) (by omega)).trans HR6.out);have hX2:=cellsI (deI y n) p5;have HL8:=hid (fun (W:World) (hW:Below W8.heap.size W8 W)=>show LiesI W w1.heap.size 0/\rd13 W w1.heap.size 0=insA (deI y n) p5 from liesI_blk ((hW.block _ (lt_of_blk hbi8)).trans hbi8) hX2);have q1:W8.cell? ⟨w1.heap.size,1,none⟩=some (.string (kyB n)):=cellv hbi8 1 (show (insA (deI y n) p5)[1]?=some (.string (kyB n)) from rfl);have q2:W8.cell? ⟨w.heap.size,0,none⟩=some (.string s.lin):=cellv HS8.out 0 rfl;have q3:W8.cell? ⟨w.heap.size,1,none⟩=some (.int .i64 s.ser):=cellv HS8.out 1 rfl;have q4:W8.cell? ⟨w.heap.size,2,none⟩=some (.slice ri s.ins.length ci):=cellv HS8.out 2 rfl;have q5:W8.cell? ⟨w.heap.size,3,none⟩=some (.slice rp s.pen.length cp):=cellv HS8.out 3 rfl;have q6:W8.cell? ⟨w.heap.size,4,none⟩=some (.slice ro s.out.length co):=cellv HS8.out 4 rfl;have k3:=fun d os=>cell_regrown q1 d os;have k4:=fun d os=>cell_regrown q2 d os;have k5:=fun d os=>cell_regrown q3 d os;have k6:=fun d os=>cell_regrown q4 d os;have k7:=fun d os=>cell_regrown q5 d os;have k8:=fun d os=>cell_regrown q6 d os;clear hbi8 hk8 hb8 hi8 c1 f1 u2 k2 hX2;have HPX:=hid (fun (W:World) (p':Sp) (hp:StaP W S1 p') (hW:Below W8.heap.size W8 W)=>HPU.out W p' p5 hp (insP_below hW HI8.out));have hne1:w.heap.size≠w.heap.size+1:=by omega
      have hne2:w1.heap.size≠w.heap.size+1:=by omega
      have HQ8:=hid (show W8.heap.size=w6.heap.size from hz8);generalize hX2:insA (deI y n) p5=X2 at *;obtain ⟨l1,l2⟩:=HL8.out W8 (Below.refl _ _);have hB:Below W8.heap.size W8 W8.drew:=(Below.refl _ _).drew;have ld1:=(l1.below hB).1;have ld2:=(l1.below hB).2.trans l2;clear k3 k4 k5 k6 k7 k8
      go_region_held3 (fun w'=>w'.cell? ⟨w.heap.size,0,none⟩=some (.string s.lin)/\w'.cell? ⟨w.heap.size,1,none⟩=some (.int .i64 s.ser)/\w'.cell? ⟨w.heap.size,2,none⟩=some (.slice ri s.ins.length ci)/\w'.cell? ⟨w.heap.size,3,none⟩=some (.slice rp s.pen.length cp)/\w'.cell? ⟨w.heap.size,4,none⟩=some (.slice ro s.out.length co)/\w'.cell? ⟨w1.heap.size,1,none⟩=some (.string (kyB n))/\LiesI w' w1.heap.size 0/\rd13 w' w1.heap.size 0=X2)
       (first | with_reducible exact ⟨bget hB q2,bget hB q3,bget hB q4,bget hB q5,bget hB q6,bget hB q1,(l1.below hB).1,(l1.below hB).2.trans l2⟩ | with_reducible exact ⟨keep5 (bget hB q2) hne1,keep5 (bget hB q3) hne1,keep5 (bget hB q4) hne1,keep5 (bget hB q5) hne1,keep5 (bget hB q6) hne1,keep5 (bget hB q1) hne2,(keepL (l1.below hB).1 hne2).1,(keepL (l1.below hB).1 hne2).2.trans ((l1.below hB).2.trans l2)⟩ | go_keep)
       ((first
         | (go_at_call 23
            refine (HRM.out _ (HB8.out.trans (hB.mono HB8.out.size))).mono ?_;rintro e w10 ⟨p6,rfl,hp6,hb10⟩;have HP6:=hid (staP_stays (stays_mask _ _) hp6);replace hB:=hB.trans (hb10.mono hB.size);have hB10:=hB.size;clear hp6 hb10)
         | (go_at_call 21
            refine (HPX.out _ _ HP6.out hB).mono ?_;rintro e w11 ⟨p8,rfl,hp8,hb11⟩;have HP8:=hid hp8;have hz10:=hB10;replace hB:=hB.trans (hb11.mono hB.size);have hrs:=(hB.block (w.heap.size+1) (by omega)).trans HR8.out;have HRS:=hid hrs;have y0:=cellv hrs 0 rfl;have y1:=cellv hrs 1 rfl;have y2:=cellv hrs 2 rfl;have y3:=cellv hrs 3 rfl;have y4:=cellv hrs 4 rfl;have yf0:=frozen_of hrs 0;have yf1:=frozen_of hrs 1;have yf2:=frozen_of hrs 2;have yf3:=frozen_of hrs 3;have yf4:=frozen_of hrs 4;unfold staA;clear hp8 hb11 hrs)))
      obtain ⟨WE,hWE,e1,e2,e3,e4⟩:=cl_store HRS.out (.string S2.lin) (.int .i64 S2.ser) (.slice p8.ri S2.ins.length p8.ci) (.slice p8.rp S2.pen.length p8.cp) (.slice p8.ro S2.out.length p8.co);rw [<-hWE];have g0:=cellv e1 0 rfl;have g1:=cellv e1 1 rfl;have g2:=cellv e1 2 rfl;have g3:=cellv e1 3 rfl;have g4:=cellv e1 4 rfl
      have hSO:=hid (show StaP WE S2 p8 from by
       have hst:Stays (mask (fromB w10.heap.size) w11) WE:=stays_out fun b hb hl=>e2 b (by simp only [fromB,decide_eq_true_eq] at hb;omega);exact staP_stays hst HP8.out)
      have hBE:=hid (e4 _ _ (HB8.out.trans (hB.mono HB8.out.size)) (by omega));clear hWE e1 e2 e3 e4;go_wp2
      exact bodyPost_ret (v:=.tuple #[.agg (staA S2 p8),.string (kyB n),.int .i64 0]) (by simp [results,Tryz.results15,go_sem,staA,g0,g1,g2,g3,g4]) rfl (HQ.out _ _ hBE.out hSO.out)
end Go.Proofs.YtomhbcfjhgecbaaGreatDoor
namespace Go.Proofs
open Go.Shelf
def Tryz.sortE_ren:Go.Shelf.Ren:=⟨fun | 6=>55 | 15=>107 | 14=>106 | 28=>148 | 29=>149 | 20=>140 | 21=>141 | 22=>142 | 23=>143 | 24=>144 | 25=>145 | 26=>146 | 27=>147 | 46=>188 | 47=>189 | 48=>190 | 49=>191 | 50=>192 | 57=>221 | n=>n,fun | 22=>22 | 24=>41 | 25=>99 | 3=>3 | 39=>137 | 0=>0 | 53=>170 | 55=>172 | 4=>4 | 46=>164 | 45=>163 | 50=>83 | 5=>5 | 9=>9 | 66=>215 | 70=>219 | 76=>241 | 77=>152 | n=>n,fun | n=>n⟩
theorem Tryz.sortE:Go.Proofs.SlLaysF0.n6 Tryz.prog Tryz.sortE_ren:={
 mixed:=by kernel_rfl
 f6:=⟨Tryz.f55.name,by decide,Tryz.func55.trans (congrArg some (by kernel_rfl))⟩
 f14:=⟨Tryz.f106.name,by decide,Tryz.func106.trans (congrArg some (by kernel_rfl))⟩
 f15:=Tryz.func107.trans (congrArg some (by kernel_rfl))
 f20:=⟨Tryz.f140.name,by decide,Tryz.func140.trans (congrArg some (by kernel_rfl))⟩
 f21:=⟨Tryz.f141.name,by decide,Tryz.func141.trans (congrArg some (by kernel_rfl))⟩
 f22:=⟨Tryz.f142.name,by decide,Tryz.func142.trans (congrArg some (by kernel_rfl))⟩
 f23:=⟨Tryz.f143.name,by decide,Tryz.func143.trans (congrArg some (by kernel_rfl))⟩
 f24:=⟨Tryz.f144.name,by decide,Tryz.func144.trans (congrArg some (by kernel_rfl))⟩
 f25:=⟨Tryz.f145.name,by decide,Tryz.func145.trans (congrArg some (by kernel_rfl))⟩
 f26:=⟨Tryz.f146.name,by decide,Tryz.func146.trans (congrArg some (by kernel_rfl))⟩
 f27:=⟨Tryz.f147.name,by decide,Tryz.func147.trans (congrArg some (by kernel_rfl))⟩
 f28:=Tryz.func148.trans (congrArg some (by kernel_rfl))
 f29:=Tryz.func149.trans (congrArg some (by kernel_rfl))
 f46:=⟨Tryz.f188.name,by decide,Tryz.func188.trans (congrArg some (by kernel_rfl))⟩
 f47:=Tryz.func189.trans (congrArg some (by kernel_rfl))
 f48:=Tryz.func190.trans (congrArg some (by kernel_rfl))
 f49:=⟨Tryz.f191.name,by decide,Tryz.func191.trans (congrArg some (by kernel_rfl))⟩
 f50:=⟨Tryz.f192.name,by decide,Tryz.func192.trans (congrArg some (by kernel_rfl))⟩
 f57:=⟨Tryz.f221.name,by decide,Tryz.func221.trans (congrArg some (by kernel_rfl))⟩
 t0:=Tryz.underlying0
 a0:=Tryz.isAgg0
 z0:=Tryz.sizeOf0
 v0:=Tryz.zeroValue0
 t3:=Tryz.underlying3
 a3:=Tryz.isAgg3
 z3:=Tryz.sizeOf3
 v3:=Tryz.zeroValue3
 t4:=Tryz.underlying4
 a4:=Tryz.isAgg4
 z4:=Tryz.sizeOf4
 v4:=Tryz.zeroValue4
 t5:=Tryz.underlying5
 a5:=Tryz.isAgg5
 z5:=Tryz.sizeOf5
 v5:=Tryz.zeroValue5
 t9:=Tryz.underlying9
 a9:=Tryz.isAgg9
 z9:=Tryz.sizeOf9
 v9:=Tryz.zeroValue9
 t22:=Tryz.underlying22
 a22:=Tryz.isAgg22
 z22:=Tryz.sizeOf22
 v22:=Tryz.zeroValue22
 t25:=Tryz.underlying99
 a25:=Tryz.isAgg99
 z25:=Tryz.sizeOf99
 v25:=Tryz.zeroValue99
 t39:=Tryz.underlying137
 a39:=Tryz.isAgg137
 z39:=Tryz.sizeOf137
 v39:=Tryz.zeroValue137
 t45:=Tryz.underlying163
 a45:=Tryz.isAgg163
 z45:=Tryz.sizeOf163
 v45:=Tryz.zeroValue163
 t46:=Tryz.underlying164
 a46:=Tryz.isAgg164
 z46:=Tryz.sizeOf164
 v46:=Tryz.zeroValue164
 t50:=Tryz.underlying83
 a50:=Tryz.isAgg83
 z50:=Tryz.sizeOf83
 v50:=Tryz.zeroValue83
 t53:=Tryz.underlying170
 a53:=Tryz.isAgg170
 z53:=Tryz.sizeOf170
 v53:=Tryz.zeroValue170
 t55:=Tryz.underlying172
 a55:=Tryz.isAgg172
 z55:=Tryz.sizeOf172
 v55:=Tryz.zeroValue172
 t66:=Tryz.underlying215
 a66:=Tryz.isAgg215
 z66:=Tryz.sizeOf215
 v66:=Tryz.zeroValue215
 t70:=Tryz.underlying219
 a70:=Tryz.isAgg219
 z70:=Tryz.sizeOf219
 v70:=Tryz.zeroValue219
 t76:=Tryz.underlying241
 a76:=Tryz.isAgg241
 z76:=Tryz.sizeOf241
 v76:=Tryz.zeroValue241
 t77:=Tryz.underlying152
 a77:=Tryz.isAgg152
 z77:=Tryz.sizeOf152
 v77:=Tryz.zeroValue152 }
end Go.Proofs
namespace Go.Proofs.YtomhbcfjhgecbaaGreatDoor
open Go.RowKit Go.Sort Go.Lib
open Go.Lib (hid)
attribute [local go_sem] Stp.frUpon
attribute [local go_sem ↓] ldI_eq
attribute [local go_sem] ldI_run
attribute [local go_sem ↓] stI_eq
attribute [local go_sem] stI_run thereI_drew thereI_new put13_drew put13_new liesI_new rd13_new liesI_drew rd13_drew
instance:Inhabited Inp:=⟨⟨⟨⟨#[]⟩,⟨#[]⟩,⟨#[]⟩,⟨#[]⟩,.mk 0 0 ⟨#[]⟩ [] [],0,false,false,[]⟩,⟨none,0,none,0,none,0⟩⟩⟩
theorem flatK_eqI (ds:List Inp):(flatK inE 13 ds.toArray).toList=ds.flatMap inE:=by
 apply List.ext_getElem?;intro t
 by_cases h:t < ds.length * 13
 . have h1:t / 13 < ds.length:=by omega
   have h2:=flat_get inE 13 inE_len ds (t / 13) h1 (t % 13) (Nat.mod_lt _ (by omega));rw [show t / 13 * 13+t % 13=t by omega] at h2;rw [h2];have h3:t < (flatK inE 13 ds.toArray).size:=by simpa using h
   rw [Array.getElem?_toList,Array.getElem?_eq_getElem h3];have h4:=get_flatK inE 13 ds.toArray t (by simpa using h);rw [getElem!_pos _ t h3] at h4;rw [h4,getElem!_pos ds.toArray (t / 13) (by simpa using h1)];simp only [List.getElem_toArray];have h5:t % 13 < (inE ds[t / 13]).length:=by rw [inE_len];omega
   rw [getElem!_pos _ (t % 13) h5,List.getElem?_eq_getElem h5]
 . have e1:(ds.flatMap inE)[t]?=none:=List.getElem?_eq_none (by rw [flat_len inE 13 inE_len];omega)
   rw [e1,List.getElem?_eq_none (by simp;omega)]
theorem own_sortI {w:World} {B g n cap q:Nat} {T:TypeId} {es ds:List Inp} {os:Array Obj} (h:w.ownsRow B T 13 (.slice (some ⟨g,0,none⟩) n cap) n (es.flatMap inE)) (hl:ds.length=n) :
  (sortWorldK inE 13 w g 0 q ds.toArray os).ownsRow B T 13 (.slice (some ⟨g,0,none⟩) n cap) n (ds.flatMap inE)/\w.grownBy (sortWorldK inE 13 w g 0 q ds.toArray os) (some g):=by
 rcases h.2 with ⟨e0,_⟩ | ⟨g',cap',cur,e0,hb,hg,hn,hm,hs,ht⟩
 . cases e0
 simp at e0;obtain ⟨rfl,rfl⟩:=e0;have hgl:=lt_of_blk hg;have hF:(flatK inE 13 ds.toArray).size=n * 13:=by simp [hl]
 have hblk:(sortWorldK inE 13 w g 0 q ds.toArray os).heap[g]?=some (.cells (putCells id 0 (flatK inE 13 ds.toArray) cur) T (0,0)):=by
  unfold sortWorldK;rw [heap_grow_old _ _ (by simpa [putRowK,putRow,mapBlock,Sort.ahead] using hgl)];simp [putRowK,putRow,mapBlock,Sort.ahead,Array.getElem?_modify,hg,onCells]
 refine ⟨⟨by rw [flat_len inE 13 inE_len,hl],Or.inr ⟨g,cap,_,rfl,hb,hblk,hn,hm,?_,?_⟩⟩,⟨rfl,rfl,rfl,?_,fun k hk hne=>?_⟩⟩
 . simp [putCells,hs]
 . rw [<-flatK_eqI]
   apply List.ext_getElem?;intro t;rw [List.getElem?_take];split
   . rename_i hlt
     have h1:t < (putCells id 0 (flatK inE 13 ds.toArray) cur).size:=by
      have:n * 13<=cap * 13:=Nat.mul_le_mul_right _ hn;simp [putCells];omega
     have h2:t < (flatK inE 13 ds.toArray).size:=by omega
     rw [Array.getElem?_toList,Array.getElem?_toList,Array.getElem?_eq_getElem h1,Array.getElem?_eq_getElem h2];simp only [putCells,Array.getElem_mapIdx];rw [if_pos (by omega),getElem!_pos _ _ (by omega)];simp
   . rename_i hlt
     rw [Array.getElem?_toList,Array.getElem?_eq_none (by omega)]
 . simp [sortWorldK,putRowK,putRow,mapBlock,Sort.ahead]
 . have:g≠k:=fun e=>hne (by rw [e])
   unfold sortWorldK;rw [heap_grow_old _ _ (by simpa [putRowK,putRow,mapBlock,Sort.ahead] using hk)];simp [putRowK,putRow,mapBlock,Sort.ahead,Array.getElem?_modify,this]
theorem own_holdsI {w:World} {B g n cap:Nat} {T:TypeId} {es:List Inp} (h:w.ownsRow B T 13 (.slice (some ⟨g,0,none⟩) n cap) n (es.flatMap inE)) (hl:es.length=n):HoldsK inE 13 w g 0 es.toArray/\g < w.heap.size:=by
 rcases h.2 with ⟨e0,_⟩ | ⟨g',cap',cur,e0,hb,hg,hn,hm,hs,ht⟩
 . cases e0
 simp at e0;obtain ⟨rfl,rfl⟩:=e0;refine ⟨fun j hj=>?_,lt_of_blk hg⟩;have hj':j < n * 13:=by simpa [hl] using hj
 refine ⟨?_,?_⟩
 . have e1:(flatK inE 13 es.toArray).toList[j]?=(cur.toList.take (n * 13))[j]?:=by rw [ht,flatK_eqI]
   rw [List.getElem?_take,if_pos hj',Array.getElem?_toList,Array.getElem?_toList,Array.getElem?_eq_getElem hj] at e1;unfold World.cell?;simp only [hg,Nat.zero_add];simp only [Option.isSome_none,Bool.false_eq_true,if_false];rw [<-e1,getElem!_pos _ j hj];rfl
 . unfold World.frozen?
   simp [hg]
def GD (w w':World):Prop:=∃ q os,w'=grow (w.drewN q) os
theorem GD.refl (w:World):GD w w:=⟨0,#[],by simp [grow,World.drewN]⟩
theorem GD.alloc {w w':World} (h:GD w w') (o:Obj):GD w (w'.alloc o):=by
 obtain ⟨q,os,rfl⟩:=h;exact ⟨q,os ++ #[o],by rw [alloc_eq_grow,grow_grow]⟩
theorem GD.drew {w w':World} (h:GD w w'):GD w w'.drew:=by
 obtain ⟨q,os,rfl⟩:=h;exact ⟨q+1,os,rfl⟩
theorem GD.trans {w w' w'':World} (h:GD w w') (h2:GD w' w''):GD w w'':=by
 obtain ⟨q,os,rfl⟩:=h;obtain ⟨q2,os2,rfl⟩:=h2;exact ⟨q+q2,os ++ os2,by rw [<-grow_grow];simp [grow,World.drewN,Nat.add_assoc]⟩
theorem GD.below {w w':World} (h:GD w w'):Below w.heap.size w w':=by
 obtain ⟨q,os,rfl⟩:=h;exact ⟨rfl,rfl,rfl,by simp [grow,World.drewN],fun k hk=>by simp [grow,World.drewN,Array.getElem?_append,hk]⟩
set_option maxRecDepth 100000 in
set_option maxHeartbeats 4000000 in
theorem pcompare_g (a b:ByteArray × ByteArray) (w:World) :
  Calls Tryz.prog 34 #[.agg #[.string a.1,.string a.2],.agg #[.string b.1,.string b.2]] w fun e w'=>e=.returned (.int .i64 (cmpP a b))/\GD w w':=by
 obtain ⟨a1,a2⟩:=a;obtain ⟨b1,b2⟩:=b;have CS1:=hid (fun W=>scmp_any a1 b1 W);have CS2:=hid (fun W=>scmp_any a2 b2 W);have TA:=hid (show -9223372036854775808<=cmpS a1 b1/\cmpS a1 b1<=9223372036854775807 by have:=cmpS_tri a1 b1;unfold Tri at this;omega);have TB:=hid (show -9223372036854775808<=cmpS a2 b2/\cmpS a2 b2<=9223372036854775807 by have:=cmpS_tri a2 b2;unfold Tri at this;omega);have HR:=hid (show cmpP (a1,a2) (b1,b2)=fstNZ [cmpS a1 b1,cmpS a2 b2] from rfl);generalize cmpP (a1,a2) (b1,b2)=R at *;generalize cmpS a1 b1=A at *;generalize cmpS a2 b2=B at *;show Calls Tryz.prog 34 #[.agg #[.string a1,.string a2],.agg #[.string b1,.string b2]] w _;go_enter Tryz.func34,Tryz.ntmps34;go_wp2
 have HB0:=hid (show Below w.heap.size w ((w.alloc (.cells #[.string a1,.string a2] 70)).alloc (.cells #[.string b1,.string b2] 70)) from ((Below.refl _ _).alloc (Nat.le_refl _) _).alloc (by simp) _);have HG0:=hid (((GD.refl w).alloc (.cells #[.string a1,.string a2] 70)).alloc (.cells #[.string b1,.string b2] 70));generalize hW0:((w.alloc (.cells #[.string a1,.string a2] 70)).alloc (.cells #[.string b1,.string b2] 70))=W0 at *;have z0:W0.cell? ⟨w.heap.size,0,none⟩=some (.string a1):=by rw [<-hW0];exact (bget ((Below.refl _ _).alloc (Nat.le_refl _) _) (cell_at rfl rfl))
 have z1:W0.cell? ⟨w.heap.size,1,none⟩=some (.string a2):=by rw [<-hW0];exact (bget ((Below.refl _ _).alloc (Nat.le_refl _) _) (cell_at rfl rfl))
 have z2:W0.cell? ⟨w.heap.size+1,0,none⟩=some (.string b1):=by rw [<-hW0];exact cell_at (by simp) rfl
 have z3:W0.cell? ⟨w.heap.size+1,1,none⟩=some (.string b2):=by rw [<-hW0];exact cell_at (by simp) rfl
 clear hW0
 go_region_held3 (fun w'=>w'.cell? ⟨w.heap.size,0,none⟩=some (.string a1)/\w'.cell? ⟨w.heap.size,1,none⟩=some (.string a2)/\w'.cell? ⟨w.heap.size+1,0,none⟩=some (.string b1)/\w'.cell? ⟨w.heap.size+1,1,none⟩=some (.string b2))
  (go_keep)
  (first | (go_at_call 82;first | (refine (CS1.out _).mono ?_;rintro e w1 ⟨rfl,rfl⟩) | (refine (CS2.out _).mono ?_;rintro e w1 ⟨rfl,rfl⟩)) | (go_at_call 81;refine (or_any [A,B] _ _ _ (sl_two (by exact (MapKept.heap_alloc W0 _).1) TA.out TB.out)).mono ?_;rintro e w1 ⟨rfl,rfl⟩;rw [<-HR.out]))
 all_goals
  go_wp2
  go_ret
  exact ⟨rfl,(HG0.out.alloc _).drew⟩
set_option maxRecDepth 100000 in
set_option maxHeartbeats 4000000 in
theorem placeOf_g (x:Ins) (p:Pt) (w:World):Calls Tryz.prog 33 #[.agg (insA x p)] w fun e w'=>e=.returned (.agg #[.string x.ad,.string x.de])/\GD w w':=by
 have h0:(insA x p)[0]?=some (.string x.ad):=rfl;have h1:(insA x p)[1]?=some (.string x.de):=rfl;have hb:Below w.heap.size w (w.alloc (.cells (insA x p) 41)):=(Below.refl _ _).alloc (Nat.le_refl _) _;have g0:(w.alloc (.cells (insA x p) 41)).cell? ⟨w.heap.size,0,none⟩=some (.string x.ad):=cell_at rfl h0;have g1:(w.alloc (.cells (insA x p) 41)).cell? ⟨w.heap.size,1,none⟩=some (.string x.de):=cell_at rfl h1;have HB:=hid (((GD.refl w).alloc (.cells (insA x p) 41)));clear hb;generalize insA x p=X at *;go_enter Tryz.func33,Tryz.ntmps33;go_wp2
 exact bodyPost_ret (v:=.agg #[.string x.ad,.string x.de]) (by simp [results,Tryz.results33,go_sem]) rfl ⟨rfl,HB.out.alloc _⟩
set_option maxRecDepth 100000 in
set_option maxHeartbeats 8000000 in
theorem ren1_g (x y:Ins) (p q:Pt) (w:World) :
  Calls Tryz.prog 56 #[.agg (insA x p),.agg (insA y q)] w fun e w'=>e=.returned (.int .i64 (cmpP (plOf x) (plOf y)))/\GD w w':=by
 have HPX:=hid (fun W=>placeOf_g x p W);have HPY:=hid (fun W=>placeOf_g y q W);have HCP:=hid (fun W=>pcompare_g (plOf x) (plOf y) W);obtain ⟨W0,hW0,hb0,hz0,hc0,hc1⟩:=two_new' w (.cells (insA x p) 41) (.cells (insA y q) 41);have hg0:GD w W0:=hW0 ▸ ((GD.refl w).alloc _).alloc _;have HX:=hid (liesI_blk hc0 (cellsI x p));have HY:=hid (liesI_blk hc1 (cellsI y q));have HW0:=hid hW0;clear hW0 hb0 hz0 hc0 hc1;unfold plOf at *;simp only at HCP ⊢;generalize cmpP (x.ad,x.de) (y.ad,y.de)=C at *;generalize x.ad=x1 at *;generalize x.de=x2 at *;generalize y.ad=y1 at *;generalize y.de=y2 at *;generalize insA x p=X at *;generalize insA y q=Y at *
 have HK:=hid (fun (W W':World) (h:LiesI W w.heap.size 0/\rd13 W w.heap.size 0=X/\LiesI W (w.heap.size+1) 0/\rd13 W (w.heap.size+1) 0=Y/\GD w W) (hg:GD W W') =>
  show LiesI W' w.heap.size 0/\rd13 W' w.heap.size 0=X/\LiesI W' (w.heap.size+1) 0/\rd13 W' (w.heap.size+1) 0=Y/\GD w W' from
  have h1:=h.1.below hg.below;have h2:=h.2.2.1.below hg.below
  ⟨h1.1,h1.2.trans h.2.1,h2.1,h2.2.trans h.2.2.2.1,h.2.2.2.2.trans hg⟩)
 obtain ⟨l1,l2⟩:=HX.out;obtain ⟨l3,l4⟩:=HY.out;go_enter Tryz.func56,Tryz.ntmps56;go_upto_region 1 with (fail)
 rw [<-HW0.out];have HS0:=hid (show LiesI W0.drew w.heap.size 0/\rd13 W0.drew w.heap.size 0=X/\LiesI W0.drew (w.heap.size+1) 0/\rd13 W0.drew (w.heap.size+1) 0=Y/\GD w W0.drew from ⟨l1,l2,l3,l4,hg0.drew⟩);clear HW0 HX HY l1 l2 l3 l4 hg0
 go_region_held3 (fun w'=>LiesI w' w.heap.size 0/\rd13 w' w.heap.size 0=X/\LiesI w' (w.heap.size+1) 0/\rd13 w' (w.heap.size+1) 0=Y/\GD w w')
  (first | (with_reducible exact ⟨by assumption,by assumption,by assumption,by assumption,by assumption⟩) | (exact HS0.out) | (exact HK.out _ _ (by assumption) hg1) | (exact HK.out _ _ ⟨by assumption,by assumption,by assumption,by assumption,by assumption⟩ hg1) | (exact HK.out _ _ ⟨by assumption,by assumption,by assumption,by assumption,by assumption⟩ (by assumption)) | go_keep)
  (first | (go_at_call 33;first | (refine (HPX.out _).mono ?_;rintro e w1 ⟨rfl,hg1⟩) | (refine (HPY.out _).mono ?_;rintro e w1 ⟨rfl,hg1⟩)) | (go_at_call 34;refine (HCP.out _).mono ?_;rintro e w1 ⟨rfl,hg1⟩))
 all_goals
  have hh:LiesI w1 w.heap.size 0/\rd13 w1 w.heap.size 0=X/\LiesI w1 (w.heap.size+1) 0/\rd13 w1 (w.heap.size+1) 0=Y/\GD w w1:=by assumption
  have hgd:=hid hh.2.2.2.2;go_wp2
  go_ret
  exact ⟨rfl,hgd.out⟩
def cmpQ (x y:Inp):Int:=cmpP (plOf x.x) (plOf y.x)
theorem swoQ:SWO (ltOf cmpQ):={
 irrefl:=fun x=>decide_eq_false (ordP.irr _)
 trans:=fun x y z h1 h2=>decide_eq_true (ordP.tr (of_decide_eq_true h1) (of_decide_eq_true h2))
 ntrans:=fun x y z h1 h2=>by
  have h1:=of_decide_eq_false h1;have h2:=of_decide_eq_false h2;refine decide_eq_false fun h3=>?_;rcases ordP.tri (plOf x.x) (plOf y.x) with h | h | h
  . exact h1 h
  . exact h2 (show ltP (plOf y.x) (plOf z.x) from h ▸ h3)
  . exact h2 (ordP.tr h h3) }
set_option maxHeartbeats 2000000 in
theorem sort_in (B:Nat) (v:Value) (is:List Inp) (W:World) (h:RowG inE InQ 13 41 B W v is) (hn:is.length<=1000000) :
  Calls Tryz.prog 55 #[v,.func (.func 56) #[] #[]] W fun e w' =>
   e=.returned (.tuple #[])/\∃ ds:List Inp,ds.Perm is/\(ds.Pairwise fun x y=>¬ cmpP (plOf y.x) (plOf x.x) < 0)/\RowG inE InQ 13 41 B w' v ds/\W.grownBy w' v.ownBlock:=by
 have hown:=h.own
 by_cases hv:v=.slice none 0 0
 . subst hv
   have hx:is=[]:=by
    rcases hown.2 with ⟨_,h⟩ | ⟨g,cap,cur,h,_⟩
    . exact List.eq_nil_of_length_eq_zero h
    . cases h
   subst hx;have h1:=AnyF.slices_SortFunc_none (P:=Tryz.prog) (ρ:=Tryz.sortE_ren) Tryz.sortE none 0 (.func (.func 56) #[] #[]) W;exact h1.mono fun e w' ⟨he,hw⟩=>⟨he,[],List.Perm.refl _,List.Pairwise.nil,by rw [hw];exact h,by rw [hw];exact World.grownBy.refl _ _⟩
 . obtain ⟨g,cap,cur,rfl,hb,hg,hn',hm,hs,ht⟩:∃ g cap cur,v=.slice (some ⟨g,0,none⟩) is.length cap/\B<=g/\W.heap[g]?=some (.cells cur 41 (0,0))/\is.length<=cap/\cap<=maxLen/\cur.size=cap * 13/\cur.toList.take (is.length * 13)=is.flatMap inE:=by
    rcases hown.2 with ⟨h,_⟩ | h
    . exact absurd h hv
    . exact h
   obtain ⟨hH,hlt⟩:=own_holdsI hown rfl
   have hcmp:CmpLays Tryz.prog 56 #[] inE 13 cmpQ g 0 is.toArray.size W:=fun m os dk hs x y=>by
    have:=ren1_g x.x y.x x.p y.p (sortWorldK inE 13 W g 0 m dk os);simpa [inE,GD,cmpQ] using this
   have h1:=AnyQ.slices_SortFunc (P:=Tryz.prog) (ρ:=Tryz.sortE_ren) Tryz.sortE 13 Tryz.isAgg41 Tryz.sizeOf41 inE inE_len inE_one cmpQ swoQ 56 #[] g 0 cap is.toArray W (enters_of Tryz.func56 (by kernel_rfl) rfl) hcmp hH hlt (by simp;omega);have hsz:is.toArray.size=is.length:=by simp
   rw [hsz] at h1;refine Calls.mono (show Calls Tryz.prog 55 _ W _ from h1) ?_;rintro e w' ⟨he,d',q,os,hp,hsd,hw⟩;obtain ⟨d'⟩:=d';have hl:d'.length=is.length:=by have:=hp.1;simpa using this
   have hpl:d'.Perm is:=by
    obtain ⟨h1,_,h2⟩:=hp;have e1:((⟨d'⟩:Array Inp).extract 0 is.length)=⟨d'⟩:=by rw [<-hl];simp
    have e2:(is.toArray.extract 0 is.length)=is.toArray:=by simp
    rw [e1,e2] at h2;exact h2
   obtain ⟨k1,k2⟩:=own_sortI (q:=q) (os:=os) hown hl;rw [hw];refine ⟨he,d',hpl,?_,⟨by rw [hl];exact k1,fun x hx=>?_⟩,k2⟩
   . rw [List.pairwise_iff_getElem]
     intro i j hi hj hij;have:=hsd i j (Nat.zero_le _) hij (by omega);rw [getElem!_pos (⟨d'⟩:Array Inp) i (by simpa using hi),getElem!_pos (⟨d'⟩:Array Inp) j (by simpa using hj)] at this;exact of_decide_eq_false this
   . refine inQ_stays _ _ x (stays_keep fun b hk hb=>⟨hk,k2.block b hb fun e=>?_⟩) (h.ok x (hpl.mem_iff.1 hx))
     have:=(keepB_out hk).2;simp [Value.ownBlock] at this e;omega
end Go.Proofs.YtomhbcfjhgecbaaGreatDoor
namespace Go.Proofs.YtomhbcfjhgecbaaGreatDoor
open Go.RowKit Go.Sort Go.Lib
open Go.Lib (hid)
open Adr (WT)
attribute [local go_sem] Stp.frUpon
attribute [local go_sem ↓] ldI_eq
attribute [local go_sem] ldI_run
attribute [local go_sem ↓] stI_eq
attribute [local go_sem] stI_run thereI_drew thereI_new put13_drew put13_new liesI_new rd13_new liesI_drew rd13_drew
def PtR (l:List UInt8) (w:World) (e:Ending) (w':World):Prop:=∃ (r:Option Addr) (n c:Nat) (d:Bool) (nm:ByteArray) (k0 k1:Int) (k2:ByteArray),
 e=.returned (.tuple #[.agg #[.slice r n c,.bool d,.string ⟨(tyT l).toArray⟩,.string nm,.int .i64 k0,.int .i64 k1,.string k2],.int .i64 (Adr.prE l)])/\(Adr.prE l=0->mgT l=if d=false then some (tyT l) else none)/\Below w.heap.size w w'
theorem parse_ty (s:ByteArray) (w:World) (hT:WT w) (hs:s.size<=2000000):Calls Tryz.prog 52 #[.string s] w (PtR s.data.toList w):=by
 by_cases h0:Adr.prE s.data.toList=0
 . obtain ⟨xs,d,ty,nm,k,hA⟩:=Adr.addr_of h0
   refine (Adr.parse_ok s w hT hs hA h0).mono ?_;rintro e w1 ⟨v1,rfl,ho1,hb1⟩;obtain ⟨r1,c1,rfl,_,_⟩:=own_form ho1;have ht:tyT s.data.toList=ty:=by unfold tyT;rw [if_pos h0,hA.pr]
   refine ⟨r1,_,c1,d,⟨nm.toArray⟩,k.1,k.2.1,⟨k.2.2.toArray⟩,by rw [h0,ht];rfl,fun _=>?_,hb1⟩;cases d with
   | true=>rw [mgT_data h0 hA];rfl
   | false=>rw [mgT_ok h0 hA,ht];rfl
 . refine (Adr.parse_no s w hT hs h0).mono ?_
   rintro e w1 ⟨rfl,hb1⟩;have ht:tyT s.data.toList=[]:=by unfold tyT;rw [if_neg h0]
   exact ⟨none,0,0,false,⟨#[]⟩,0,0,⟨#[]⟩,by rw [ht];rfl,fun h=>absurd h h0,hb1⟩
def RenR (s:Sta) (a b:ByteArray) (w:World) (e:Ending) (w':World):Prop:=Below w.heap.size w w'/\if renE s a b=0 then ∃ p',e=.returned (.tuple #[.agg (staA (renS s a b) p'),.int .i64 0])/\StaP (mask (fromB w.heap.size) w') (renS s a b) p' else e=.returned (.tuple #[.agg zeS,.int .i64 (renE s a b)])
set_option maxRecDepth 100000 in
set_option maxHeartbeats 16000000 in
theorem rename_sta (s:Sta) (p:Sp) (a b:ByteArray) (w:World) (hT:WT w) (h:StaP w s p) (hf:StaF s) (ha:AscP s.ins) (hal:a.size<=2000000) (hbl:b.size<=2000000) :
  Calls Tryz.prog 18 #[.agg (staA s p),.string a,.string b] w (RenR s a b w):=by
 obtain ⟨ri,ci,rp,cp,ro,co⟩:=p;have HPB:=hid (fun (W:World) (hW:Below w.heap.size w W)=>parse_ty b W (hT.below hW) hbl);have HPA:=hid (fun (W:World) (hW:Below w.heap.size w W)=>parse_ty a W (hT.below hW) hal);have HRA:=hid (fun (W:World) (hW:Below w.heap.size w W)=>recorded_any s ⟨ri,ci,rp,cp,ro,co⟩ a W (staP_below hW h));have HRB:=hid (fun (W:World) (hW:Below w.heap.size w W)=>recorded_any s ⟨ri,ci,rp,cp,ro,co⟩ b W (staP_below hW h));have HCL:=hid (fun (W:World) (hW:Below w.heap.size w W)=>clone_sta s ⟨ri,ci,rp,cp,ro,co⟩ W (staP_below hW h) hf);have HAS:=hid ha;have HSF:=hid hf;have HBM:=hid (show b.size<=maxLen by unfold maxLen;omega);obtain ⟨W0,hW0,hb0,hz0,hc0,hc2⟩:=two_new' w (.cells #[.string s.lin,.int .i64 s.ser,.slice ri s.ins.length ci,.slice rp s.pen.length cp,.slice ro s.out.length co] 26) (.cells #[.string { data:=#[] },.int .i64 0,.slice none 0 0,.slice none 0 0,.slice none 0 0] 26);have HW0:=hid hW0;have HB0:=hid hb0;have HZ0:=hid hz0;have HPP:=hid (fun (W:World) (hW:Below W0.heap.size W0 W)=>(hW.block w.heap.size (by omega)).trans hc0);have HRR:=hid (fun (W:World) (hW:Below W0.heap.size W0 W)=>(hW.block (w.heap.size+1) (by omega)).trans hc2);have HG:=hid (fun (W:World) (hW:Below W0.heap.size W0 W)=>HB0.out.trans (hW.mono HB0.out.size));have HE:=hid (fun (E:Int) (hE:renE s a b=E) (h0:E≠0) (w':World) (hb:Below w.heap.size w w')=>show RenR s a b w (.returned (.tuple #[.agg zeS,.int .i64 E])) w' from ⟨hb,by rw [hE,if_neg h0]⟩);have HOK:=hid (fun (hE:renE s a b=0) (w':World) (p':Sp) (hb:Below w.heap.size w w') (hp:StaP (mask (fromB w.heap.size) w') (renS s a b) p')=>show RenR s a b w (.returned (.tuple #[.agg (staA (renS s a b) p'),.int .i64 0])) w' from ⟨hb,by rw [if_pos hE];exact ⟨p',rfl,hp⟩⟩);clear hT h hf ha hal hbl hW0 hb0 hz0 hc0 hc2;have HRN:=hid (show renE s a b=if mgT b.data.toList=none then 1 else if recB s a=false then 9 else if tyT a.data.toList≠tyT b.data.toList then 6 else if a=b then 0 else if recB s b=true then 8 else 0 from rfl);unfold staA at HRA HRB HCL ⊢;dsimp only at HRA HRB HCL;obtain ⟨ra,e1⟩:∃ v,recB s a=v:=⟨_,rfl⟩;obtain ⟨rb,e2⟩:∃ v,recB s b=v:=⟨_,rfl⟩;have HRBE:=hid e2;rw [e1] at HRA;rw [e2] at HRB;rw [e1,e2] at HRN;clear e1 e2;generalize RenR s a b w=Q at *;unfold PtR at HPA HPB;obtain ⟨E,hE⟩:∃ v,Adr.prE b.data.toList=v:=⟨_,rfl⟩;obtain ⟨E2,hE2⟩:∃ v,Adr.prE a.data.toList=v:=⟨_,rfl⟩;have HEE:=hid (show E≠0->mgT b.data.toList=none from fun hh=>mgT_no (by rw [hE];exact hh));rw [hE] at HPB;rw [hE2] at HPA;clear hE hE2;generalize hTB:tyT b.data.toList=TB at *;generalize hTA:tyT a.data.toList=TA at *;clear hTB hTA;go_enter Tryz.func18,Tryz.ntmps18;go_upto_region 1 with (fail)
 rw [<-HW0.out];clear HW0;go_upto_region 2 with (go_at_call 52;refine (HPB.out _ HB0.out).mono ?_;rintro e w1 ⟨r1,n1,c1,d1,nm1,k01,k11,k21,rfl,hmg,hb1⟩;have HB1:=hid hb1;have HMG:=hid hmg;clear hb1 hmg)
 obtain ⟨WA,hWA⟩:∃ WA,WA=w1.alloc (.cells #[.slice r1 n1 c1,.bool d1,.string ⟨TB.toArray⟩,.string nm1,.int .i64 k01,.int .i64 k11,.string k21] 93):=⟨_,rfl⟩;rw [<-hWA];have BA:=hid (show Below W0.heap.size W0 WA from hWA ▸ (HB1.out.alloc HB1.out.size _));have HLA:=hid (show WA.heap[w1.heap.size]?=some (.cells #[.slice r1 n1 c1,.bool d1,.string ⟨TB.toArray⟩,.string nm1,.int .i64 k01,.int .i64 k11,.string k21] 93) from hWA ▸ (MapKept.heap_alloc w1 _).1);have HSA:=hid (show WA.heap.size=w1.heap.size+1 by rw [hWA];simp);clear hWA;have a1:=cellv HLA.out 1 rfl;have a2:=cellv HLA.out 2 rfl;have HR3:=hid (HRR.out WA BA.out);have HP3:=hid (HPP.out WA BA.out);have t0:=cellv HP3.out 0 rfl;have t1:=cellv HP3.out 1 rfl;have t2:=cellv HP3.out 2 rfl;have t3:=cellv HP3.out 3 rfl;have t4:=cellv HP3.out 4 rfl;have y0:=cellv HR3.out 0 rfl;have yf0:=frozen_of HR3.out 0;have y1:=cellv HR3.out 1 rfl;have yf1:=frozen_of HR3.out 1;have y2:=cellv HR3.out 2 rfl;have yf2:=frozen_of HR3.out 2;have y3:=cellv HR3.out 3 rfl;have yf3:=frozen_of HR3.out 3;have y4:=cellv HR3.out 4 rfl;have yf4:=frozen_of HR3.out 4
 by_cases hE0:E=0
 case neg =>
  have n1:(E != 0)=true:=by simp [hE0]
  have n2:(E == 0)=false:=by simp [hE0]
  have hm:=hid (HEE.out hE0);clear hE0 HMG;have HQE:=hid (HE.out 1 (by rw [HRN.out];rw [if_pos hm.out]) (by decide));clear HRN HOK HE;go_wp2_with fail
  obtain ⟨WE,hWE,e1,e2,e3,e4⟩:=cl_store HR3.out (.string { data:=#[] }) (.int .i64 0) (.slice none 0 0) (.slice none 0 0) (.slice none 0 0);rw [<-hWE];have g0:=cellv e1 0 rfl;have g1:=cellv e1 1 rfl;have g2:=cellv e1 2 rfl;have g3:=cellv e1 3 rfl;have g4:=cellv e1 4 rfl;have hBE:=hid (e4 _ _ (HG.out _ BA.out) (by have:=HB0.out.size;omega));clear hWE e1 e2 e3 e4;exact bodyPost_ret (v:=.tuple #[.agg zeS,.int .i64 1]) (by simp [results,Tryz.results18,go_sem,zeS,g0,g1,g2,g3,g4] <;> rfl) rfl (HQE.out _ hBE.out)
 case pos =>
 subst hE0;have HMG:=hid (HMG.out rfl);cases d1 with
 | true =>
   have hm:=hid (show mgT b.data.toList=none from HMG.out.trans (if_neg (by decide)));clear HMG;have HQE:=hid (HE.out 1 (by rw [HRN.out];rw [if_pos hm.out]) (by decide));clear HRN HOK HE;go_wp2_with fail
   obtain ⟨WE,hWE,e1,e2,e3,e4⟩:=cl_store HR3.out (.string { data:=#[] }) (.int .i64 0) (.slice none 0 0) (.slice none 0 0) (.slice none 0 0);rw [<-hWE];have g0:=cellv e1 0 rfl;have g1:=cellv e1 1 rfl;have g2:=cellv e1 2 rfl;have g3:=cellv e1 3 rfl;have g4:=cellv e1 4 rfl;have hBE:=hid (e4 _ _ (HG.out _ BA.out) (by have:=HB0.out.size;omega));clear hWE e1 e2 e3 e4;exact bodyPost_ret (v:=.tuple #[.agg zeS,.int .i64 1]) (by simp [results,Tryz.results18,go_sem,zeS,g0,g1,g2,g3,g4] <;> rfl) rfl (HQE.out _ hBE.out)
 | false =>
 have HMG:=hid (HMG.out.trans (if_pos rfl));have HRN:=hid (HRN.out.trans (if_neg (by rw [HMG.out];simp)));clear HMG HEE;cases ra with
 | false =>
   have HQE:=hid (HE.out 9 (by rw [HRN.out];rfl) (by decide));clear HRN HOK HE;go_wp2_with (go_at_call 53;refine (HRA.out _ (HG.out _ BA.out)).mono ?_;rintro e w2 ⟨rfl,hb2⟩;have BB:=hid (BA.out.trans (hb2.mono BA.out.size));have HB2:=hid hb2;clear hb2;have a2:=bget HB2.out a2;clear t0 t1 t2 t3 t4 y0 yf0 y1 yf1 y2 yf2 y3 yf3 y4 yf4 HR3 HP3;have HR3:=hid (HRR.out w2 BB.out);have HP3:=hid (HPP.out w2 BB.out);have t0:=cellv HP3.out 0 rfl;have t1:=cellv HP3.out 1 rfl;have t2:=cellv HP3.out 2 rfl;have t3:=cellv HP3.out 3 rfl;have t4:=cellv HP3.out 4 rfl;have y0:=cellv HR3.out 0 rfl;have yf0:=frozen_of HR3.out 0;have y1:=cellv HR3.out 1 rfl;have yf1:=frozen_of HR3.out 1;have y2:=cellv HR3.out 2 rfl;have yf2:=frozen_of HR3.out 2;have y3:=cellv HR3.out 3 rfl;have yf3:=frozen_of HR3.out 3;have y4:=cellv HR3.out 4 rfl;have yf4:=frozen_of HR3.out 4)
   obtain ⟨WE,hWE,e1,e2,e3,e4⟩:=cl_store HR3.out (.string { data:=#[] }) (.int .i64 0) (.slice none 0 0) (.slice none 0 0) (.slice none 0 0);rw [<-hWE];have g0:=cellv e1 0 rfl;have g1:=cellv e1 1 rfl;have g2:=cellv e1 2 rfl;have g3:=cellv e1 3 rfl;have g4:=cellv e1 4 rfl;have hBE:=hid (e4 _ _ (HG.out _ BB.out) (by have:=HB0.out.size;omega));clear hWE e1 e2 e3 e4;exact bodyPost_ret (v:=.tuple #[.agg zeS,.int .i64 9]) (by simp [results,Tryz.results18,go_sem,zeS,g0,g1,g2,g3,g4] <;> rfl) rfl (HQE.out _ hBE.out)
 | true =>
 have HRN:=hid (HRN.out.trans (if_neg (by decide)));go_upto_region 7 with (first | (go_at_call 53;refine (HRA.out _ (HG.out _ BA.out)).mono ?_;rintro e w2 ⟨rfl,hb2⟩;have BB:=hid (BA.out.trans (hb2.mono BA.out.size));have HB2:=hid hb2;clear hb2;have a2:=bget HB2.out a2;clear t0 t1 t2 t3 t4 y0 yf0 y1 yf1 y2 yf2 y3 yf3 y4 yf4 HR3 HP3;have HR3:=hid (HRR.out w2 BB.out);have HP3:=hid (HPP.out w2 BB.out);have t0:=cellv HP3.out 0 rfl;have t1:=cellv HP3.out 1 rfl;have t2:=cellv HP3.out 2 rfl;have t3:=cellv HP3.out 3 rfl;have t4:=cellv HP3.out 4 rfl;have y0:=cellv HR3.out 0 rfl;have yf0:=frozen_of HR3.out 0;have y1:=cellv HR3.out 1 rfl;have yf1:=frozen_of HR3.out 1;have y2:=cellv HR3.out 2 rfl;have yf2:=frozen_of HR3.out 2;have y3:=cellv HR3.out 3 rfl;have yf3:=frozen_of HR3.out 3;have y4:=cellv HR3.out 4 rfl;have yf4:=frozen_of HR3.out 4) | (go_at_call 52;refine (HPA.out _ (HG.out _ BB.out)).mono ?_;rintro e w3 ⟨r2,n2,c2,d2,nm2,k02,k12,k22,rfl,_,hb3⟩;have HB3:=hid hb3;clear hb3))
 obtain ⟨WB,hWB⟩:∃ WB,WB=w3.alloc (.cells #[.slice r2 n2 c2,.bool d2,.string ⟨TA.toArray⟩,.string nm2,.int .i64 k02,.int .i64 k12,.string k22] 93):=⟨_,rfl⟩;rw [<-hWB];have B23:=hid (show Below w2.heap.size w2 WB from hWB ▸ (HB3.out.alloc HB3.out.size _));have BC:=hid (BB.out.trans (B23.out.mono BB.out.size));have HLB:=hid (show WB.heap[w3.heap.size]?=some (.cells #[.slice r2 n2 c2,.bool d2,.string ⟨TA.toArray⟩,.string nm2,.int .i64 k02,.int .i64 k12,.string k22] 93) from hWB ▸ (MapKept.heap_alloc w3 _).1);clear hWB;have b2:=cellv HLB.out 2 rfl;have a2:=bget B23.out a2;clear t0 t1 t2 t3 t4 y0 yf0 y1 yf1 y2 yf2 y3 yf3 y4 yf4 HR3 HP3;have HR3:=hid (HRR.out WB BC.out);have HP3:=hid (HPP.out WB BC.out);have t0:=cellv HP3.out 0 rfl;have t1:=cellv HP3.out 1 rfl;have t2:=cellv HP3.out 2 rfl;have t3:=cellv HP3.out 3 rfl;have t4:=cellv HP3.out 4 rfl;have y0:=cellv HR3.out 0 rfl;have yf0:=frozen_of HR3.out 0;have y1:=cellv HR3.out 1 rfl;have yf1:=frozen_of HR3.out 1;have y2:=cellv HR3.out 2 rfl;have yf2:=frozen_of HR3.out 2;have y3:=cellv HR3.out 3 rfl;have yf3:=frozen_of HR3.out 3;have y4:=cellv HR3.out 4 rfl;have yf4:=frozen_of HR3.out 4
 by_cases hty:TA=TB
 case neg =>
  have n1:(TB == TA)=false:=by rw [beq_eq_false_iff_ne];exact fun e=>hty e.symm
  have hty2:=hid hty;clear hty;have HQE:=hid (HE.out 6 (by rw [HRN.out];rw [if_pos hty2.out]) (by decide));clear HRN HOK HE;go_wp2_with fail
  obtain ⟨WE,hWE,e1,e2,e3,e4⟩:=cl_store HR3.out (.string { data:=#[] }) (.int .i64 0) (.slice none 0 0) (.slice none 0 0) (.slice none 0 0);rw [<-hWE];have g0:=cellv e1 0 rfl;have g1:=cellv e1 1 rfl;have g2:=cellv e1 2 rfl;have g3:=cellv e1 3 rfl;have g4:=cellv e1 4 rfl;have hBE:=hid (e4 _ _ (HG.out _ BC.out) (by have:=HB0.out.size;omega));clear hWE e1 e2 e3 e4;exact bodyPost_ret (v:=.tuple #[.agg zeS,.int .i64 6]) (by simp [results,Tryz.results18,go_sem,zeS,g0,g1,g2,g3,g4] <;> rfl) rfl (HQE.out _ hBE.out)
 case pos =>
 subst hty;have HRN:=hid (HRN.out.trans (if_neg (by simp)));go_upto_region 10 with (go_at_call 54;refine (HCL.out _ (HG.out _ BC.out)).mono ?_;rintro e w4 ⟨p2,is,B2,rfl,ho4,hb4⟩;obtain ⟨ri2,ci2,rp2,cp2,ro2,co2⟩:=p2;have HO4:=hid ho4;have HB4:=hid hb4;clear ho4 hb4)
 obtain ⟨WC,hWC⟩:∃ WC,WC=w4.alloc (.cells #[.string s.lin,.int .i64 s.ser,.slice ri2 s.ins.length ci2,.slice rp2 s.pen.length cp2,.slice ro2 s.out.length co2] 26):=⟨_,rfl⟩;rw [<-hWC];have B4C:=hid (show Below w4.heap.size w4 WC from hWC ▸ ((Below.refl _ _).alloc (Nat.le_refl _) _));have BD:=hid (BC.out.trans ((HB4.out.trans (B4C.out.mono HB4.out.size)).mono BC.out.size));have HLO:=hid (show WC.heap[w4.heap.size]?=some (.cells #[.string s.lin,.int .i64 s.ser,.slice ri2 s.ins.length ci2,.slice rp2 s.pen.length cp2,.slice ro2 s.out.length co2] 26) from hWC ▸ (MapKept.heap_alloc w4 _).1);have HSC:=hid (show WC.heap.size=w4.heap.size+1 by rw [hWC];simp);have HOC:=hid (HO4.out.belowW B4C.out);have HLE:=hid (show w.heap.size+2<=WB.heap.size by have:=BC.out.size;have:=HZ0.out;omega);have HHI:=hid HO4.out.hi;clear hWC;clear t0 t1 t2 t3 t4 y0 yf0 y1 yf1 y2 yf2 y3 yf3 y4 yf4 HR3 HP3;have HR3:=hid (HRR.out WC BD.out);have HP3:=hid (HPP.out WC BD.out);have t0:=cellv HP3.out 0 rfl;have t1:=cellv HP3.out 1 rfl;have t2:=cellv HP3.out 2 rfl;have t3:=cellv HP3.out 3 rfl;have t4:=cellv HP3.out 4 rfl;have y0:=cellv HR3.out 0 rfl;have yf0:=frozen_of HR3.out 0;have y1:=cellv HR3.out 1 rfl;have yf1:=frozen_of HR3.out 1;have y2:=cellv HR3.out 2 rfl;have yf2:=frozen_of HR3.out 2;have y3:=cellv HR3.out 3 rfl;have yf3:=frozen_of HR3.out 3;have y4:=cellv HR3.out 4 rfl;have yf4:=frozen_of HR3.out 4;have v0:=cellv HLO.out 0 rfl;have v1:=cellv HLO.out 1 rfl;have v2:=cellv HLO.out 2 rfl;have v3:=cellv HLO.out 3 rfl;have v4:=cellv HLO.out 4 rfl
 by_cases hab:a=b
 case pos =>
  have HQO:=hid (HOK.out (HRN.out.trans (if_pos hab)));have HRS:=hid (show renS s a b=s from if_pos hab);rw [HRS.out] at HQO;have n1:(a.toList == b.toList)=true:=by rw [hab];simp
  clear hab HRN HE HOK;go_wp2_with fail
  obtain ⟨WE,hWE,e1,e2,e3,e4⟩:=cl_store HR3.out (.string s.lin) (.int .i64 s.ser) (.slice ri2 s.ins.length ci2) (.slice rp2 s.pen.length cp2) (.slice ro2 s.out.length co2);rw [<-hWE];have g0:=cellv e1 0 rfl;have g1:=cellv e1 1 rfl;have g2:=cellv e1 2 rfl;have g3:=cellv e1 3 rfl;have g4:=cellv e1 4 rfl;have hBE:=hid (e4 _ _ (HG.out _ BD.out) (by have:=HB0.out.size;omega));have HP5:=hid (StaO.stapW (B0:=w.heap.size) (HOC.out.keep (fun b hb hl=>e2 b (by have:=HLE.out;omega)) (by rw [e3];exact Nat.le_refl _)) (by have:=HLE.out;omega));clear hWE e1 e2 e3 e4;exact bodyPost_ret (v:=.tuple #[.agg (staA s ⟨ri2,ci2,rp2,cp2,ro2,co2⟩),.int .i64 0]) (by simp [results,Tryz.results18,go_sem,staA,g0,g1,g2,g3,g4] <;> rfl) rfl (HQO.out _ _ hBE.out HP5.out)
 case neg =>
 have HRN:=hid (HRN.out.trans (if_neg hab));have HAB:=hid hab;have n1:=str_ne hab;clear hab;cases rb with
 | true =>
   have HQE:=hid (HE.out 8 (by rw [HRN.out];rfl) (by decide));clear HRN HOK HE;go_wp2_with (go_at_call 53;refine (HRB.out _ (HG.out _ BD.out)).mono ?_;rintro e w5 ⟨rfl,hb5⟩;have BE:=hid (BD.out.trans (hb5.mono BD.out.size));have HB5:=hid hb5;clear hb5;have HLO:=hid ((HB5.out.block w4.heap.size (by have:=HSC.out;omega)).trans HLO.out);have HOC:=hid (HOC.out.belowW HB5.out);clear v0 v1 v2 v3 v4;clear t0 t1 t2 t3 t4 y0 yf0 y1 yf1 y2 yf2 y3 yf3 y4 yf4 HR3 HP3;have HR3:=hid (HRR.out w5 BE.out);have HP3:=hid (HPP.out w5 BE.out);have t0:=cellv HP3.out 0 rfl;have t1:=cellv HP3.out 1 rfl;have t2:=cellv HP3.out 2 rfl;have t3:=cellv HP3.out 3 rfl;have t4:=cellv HP3.out 4 rfl;have y0:=cellv HR3.out 0 rfl;have yf0:=frozen_of HR3.out 0;have y1:=cellv HR3.out 1 rfl;have yf1:=frozen_of HR3.out 1;have y2:=cellv HR3.out 2 rfl;have yf2:=frozen_of HR3.out 2;have y3:=cellv HR3.out 3 rfl;have yf3:=frozen_of HR3.out 3;have y4:=cellv HR3.out 4 rfl;have yf4:=frozen_of HR3.out 4;have v0:=cellv HLO.out 0 rfl;have v1:=cellv HLO.out 1 rfl;have v2:=cellv HLO.out 2 rfl;have v3:=cellv HLO.out 3 rfl;have v4:=cellv HLO.out 4 rfl)
   obtain ⟨WE,hWE,e1,e2,e3,e4⟩:=cl_store HR3.out (.string { data:=#[] }) (.int .i64 0) (.slice none 0 0) (.slice none 0 0) (.slice none 0 0);rw [<-hWE];have g0:=cellv e1 0 rfl;have g1:=cellv e1 1 rfl;have g2:=cellv e1 2 rfl;have g3:=cellv e1 3 rfl;have g4:=cellv e1 4 rfl;have hBE:=hid (e4 _ _ (HG.out _ BE.out) (by have:=HB0.out.size;omega));clear hWE e1 e2 e3 e4;exact bodyPost_ret (v:=.tuple #[.agg zeS,.int .i64 8]) (by simp [results,Tryz.results18,go_sem,zeS,g0,g1,g2,g3,g4] <;> rfl) rfl (HQE.out _ hBE.out)
 | false =>
 have HQO:=hid (HOK.out (HRN.out.trans (if_neg (by decide))));have HRS:=hid (show renS s a b=reS s a b from if_neg HAB.out);rw [HRS.out] at HQO;clear HRN HE HOK;have HIX:=hid HO4.out.insx;go_upto_region 14 with (go_at_call 53;refine (HRB.out _ (HG.out _ BD.out)).mono ?_;rintro e w5 ⟨rfl,hb5⟩;have BE:=hid (BD.out.trans (hb5.mono BD.out.size));have HB5:=hid hb5;clear hb5;have HLO:=hid ((HB5.out.block w4.heap.size (by have:=HSC.out;omega)).trans HLO.out);have HOC:=hid (HOC.out.belowW HB5.out);clear v0 v1 v2 v3 v4;clear t0 t1 t2 t3 t4 y0 yf0 y1 yf1 y2 yf2 y3 yf3 y4 yf4 HR3 HP3;have HR3:=hid (HRR.out w5 BE.out);have HP3:=hid (HPP.out w5 BE.out);have t0:=cellv HP3.out 0 rfl;have t1:=cellv HP3.out 1 rfl;have t2:=cellv HP3.out 2 rfl;have t3:=cellv HP3.out 3 rfl;have t4:=cellv HP3.out 4 rfl;have y0:=cellv HR3.out 0 rfl;have yf0:=frozen_of HR3.out 0;have y1:=cellv HR3.out 1 rfl;have yf1:=frozen_of HR3.out 1;have y2:=cellv HR3.out 2 rfl;have yf2:=frozen_of HR3.out 2;have y3:=cellv HR3.out 3 rfl;have yf3:=frozen_of HR3.out 3;have y4:=cellv HR3.out 4 rfl;have yf4:=frozen_of HR3.out 4;have v0:=cellv HLO.out 0 rfl;have v1:=cellv HLO.out 1 rfl;have v2:=cellv HLO.out 2 rfl;have v3:=cellv HLO.out 3 rfl;have v4:=cellv HLO.out 4 rfl)
 clear n1;go_wp2_with fail
 clear t0 t1 t2 t3 t4 y0 yf0 y1 yf1 y2 yf2 y3 yf3 y4 yf4 HR3 HP3;clear v0 v1 v2 v3 v4;have hil0:=HSF.out.i;have hpl0:=HSF.out.p;have HST:=hid (show StaO WB.heap.size B2 w5 (renM s a b 0 0) ⟨ri2,ci2,rp2,cp2,ro2,co2⟩ (mx (reP a b) 0 is) by rw [renM_zero,mx_zero];exact HOC.out);have HSZ5:=hid (show w4.heap.size < w5.heap.size by have:=HB5.out.size;have:=HSC.out;omega);have HWLE:=hid (show WB.heap.size<=w4.heap.size from HB4.out.size);go_loopg [56] s.ins.length (fun gg s9 wr=>∃ k:Nat,k<=s.ins.length/\s.ins.length - k<=gg/\s9=.int .i64 k/\Hid (Below W0.heap.size W0 wr)/\Hid (wr.heap[w4.heap.size]?=some (.cells #[.string s.lin,.int .i64 s.ser,.slice ri2 s.ins.length ci2,.slice rp2 s.pen.length cp2,.slice ro2 s.out.length co2] 26))/\Hid (StaO WB.heap.size B2 wr (renM s a b k 0) ⟨ri2,ci2,rp2,cp2,ro2,co2⟩ (mx (reP a b) k is))/\Hid (w4.heap.size < wr.heap.size))
 case atStart=>exact ⟨0,by omega,by omega,rfl,BE,HLO,HST,HSZ5⟩
 case round =>
  clear HST HSZ5 HLO HOC BE;obtain ⟨k,hk,hgg,rfl,BW,HLO,HST,HSZ⟩:=hrel;have v2:=cellv HLO.out 2 rfl;have v3:=cellv HLO.out 3 rfl
  by_cases hlt:k < s.ins.length
  case pos =>
   have hltz:(k:Int) < (s.ins.length:Int):=by omega
   have hk0:(0:Int)<=(k:Int):=by omega
   have hlt2:k < (renM s a b k 0).ins.length:=by show k < (mx (reA a b) k s.ins).length;rw [mx_len];exact hlt
   obtain ⟨g,hri,hgB,hgl,hgf,hgc⟩:=HST.out.insB hlt2;rw [ren1_ad hlt] at hgc;dsimp only at hri;have HRI:=hid hri;rw [hri] at v2;have hf0:=hgf (k * 13);clear hri;have hgo:=own_lt HO4.out.ins.own (g:=g) (by dsimp only;rw [HRI.out];rfl);have hne:g≠w4.heap.size:=by omega
   by_cases hx:s.ins[k].ad=a
   case pos =>
    have HN:=hid (HST.out.ren1 HIX.out hlt HRI.out hx HBM.out);have BN:=hid (BW.out.setCell (p:=⟨g,k * 13,none⟩) (by have:=HO4.out.le;have:=HLE.out;have:=HZ0.out;show W0.heap.size<=g;omega) (.string b));have HLN:=hid ((Below.heap_setCell wr ⟨g,k * 13,none⟩ (.string b) w4.heap.size (Ne.symm hne)).trans HLO.out);have HSN:=hid (show w4.heap.size < (wr.setCell ⟨g,k * 13,none⟩ (.string b)).heap.size by have:=HSZ.out;simpa [World.setCell] using this);have n1:(s.ins[k].ad.toList == a.toList)=true:=by rw [hx];simp
    clear hx HST;generalize s.ins[k].ad=x at *;go_wp2_with fail
    go_roundg (s.ins.length - (k+1))
    case measure=>omega
    case rel=>exact ⟨k+1,by omega,by omega,by go_num,BN,HLN,HN,HSN⟩
   case neg =>
    have HN:=hid (HST.out.ren1n (b:=b) HIX.out hlt hx);have n1:=str_ne hx;clear hx HST;generalize s.ins[k].ad=x at *;go_wp2_with fail
    go_roundg (s.ins.length - (k+1))
    case measure=>omega
    case rel=>exact ⟨k+1,by omega,by omega,by go_num,BW,HLO,HN,HSZ⟩
  case neg =>
   obtain rfl:k=s.ins.length:=by omega
   have hltz:¬ ((s.ins.length:Nat):Int) < (s.ins.length:Int):=by omega
   go_wp2_with fail
   clear hltz v2 v3 hlt hk hgg;go_loopg [77] s.pen.length (fun gg s9 wq=>∃ k:Nat,k<=s.pen.length/\s.pen.length - k<=gg/\s9=.int .i64 k/\Hid (Below W0.heap.size W0 wq)/\Hid (wq.heap[w4.heap.size]?=some (.cells #[.string s.lin,.int .i64 s.ser,.slice ri2 s.ins.length ci2,.slice rp2 s.pen.length cp2,.slice ro2 s.out.length co2] 26))/\Hid (StaO WB.heap.size B2 wq (renM s a b s.ins.length k) ⟨ri2,ci2,rp2,cp2,ro2,co2⟩ (mx (reP a b) s.ins.length is))/\Hid (w4.heap.size < wq.heap.size))
   case atStart=>exact ⟨0,by omega,by omega,rfl,BW,HLO,HST,HSZ⟩
   case round =>
    clear HST HSZ HLO BW;rename_i wq;obtain ⟨k,hk,hgg,rfl,BW,HLO,HST,HSZ⟩:=hrel;have v2:=cellv HLO.out 2 rfl;have v3:=cellv HLO.out 3 rfl
    by_cases hlt:k < s.pen.length
    case pos =>
     have hltz:(k:Int) < (s.pen.length:Int):=by omega
     have hk0:(0:Int)<=(k:Int):=by omega
     have hlt2:k < (renM s a b s.ins.length k).pen.length:=by show k < (mx (reT a b) k s.pen).length;rw [mx_len];exact hlt
     obtain ⟨g,hri,hgB,hgl,hgf,hgc⟩:=HST.out.penB hlt2;rw [ren2_ad hlt] at hgc;dsimp only at hri;have HRI:=hid hri;rw [hri] at v3;have hf0:=hgf (k * 3);clear hri;have hne:g≠w4.heap.size:=by have:=HHI.out;omega
     by_cases hx:s.pen[k].ad=a
     case pos =>
      have HN:=hid (HST.out.ren2 hlt HRI.out hx HBM.out);have BN:=hid (BW.out.setCell (p:=⟨g,k * 3,none⟩) (by have:=HLE.out;have:=HZ0.out;show W0.heap.size<=g;omega) (.string b));have HLN:=hid ((Below.heap_setCell _ ⟨g,k * 3,none⟩ (.string b) w4.heap.size (Ne.symm hne)).trans HLO.out);have HSN:=hid (show w4.heap.size < (World.setCell _ ⟨g,k * 3,none⟩ (.string b)).heap.size by have:=HSZ.out;simpa [World.setCell] using this);have n1:(s.pen[k].ad.toList == a.toList)=true:=by rw [hx];simp
      clear hx HST;generalize s.pen[k].ad=x at *;go_wp2_with fail
      go_roundg (s.pen.length - (k+1))
      case measure=>omega
      case rel=>exact ⟨k+1,by omega,by omega,by go_num,BN,HLN,HN,HSN⟩
     case neg =>
      have HN:=hid (HST.out.ren2n (b:=b) hlt hx);have n1:=str_ne hx;clear hx HST;generalize s.pen[k].ad=x at *;go_wp2_with fail
      go_roundg (s.pen.length - (k+1))
      case measure=>omega
      case rel=>exact ⟨k+1,by omega,by omega,by go_num,BW,HLO,HN,HSZ⟩
    case neg =>
     obtain rfl:k=s.pen.length:=by omega
     have hltz:¬ ((s.pen.length:Nat):Int) < (s.pen.length:Int):=by omega
     have hil:(mx (reP a b) s.ins.length is).length=s.ins.length:=by rw [mx_len,<-HIX.out,List.length_map]
     have HIL:=hid hil;have HSRT:=hid (show Calls Tryz.prog 55 #[.slice ri2 s.ins.length ci2,.func (.func 56) #[] #[]] _ _ from hil ▸ sort_in B2 (.slice ri2 (mx (reP a b) s.ins.length is).length ci2) (mx (reP a b) s.ins.length is) _ HST.out.ins (by have:=HSF.out.i;omega));clear hil
     go_wp2_with (go_at_call 55
                  refine HSRT.out.mono ?_;rintro e w7 ⟨rfl,ds,hperm,hsort,hrow,hgb⟩;have HPE:=hid hperm;have HSO:=hid hsort;have HRO:=hid hrow;have HGB:=hid hgb;clear hperm hsort hrow hgb;have B7:=hid (Below.grown BW.out HGB.out BW.out.size (fun g hg=>by have:=(own_lt HST.out.ins.own (g:=g) (by rw [HIL.out];exact hg)).1;have:=HO4.out.le;have:=HLE.out;have:=HZ0.out;omega));have HK7:=hid (fun (b':Nat) (hb:b' < B2)=>HGB.out.block b' (by have:=HST.out.hi;omega) (fun e=>by have:=(own_lt HST.out.ins.own (g:=b') (by rw [HIL.out];exact e.symm)).1;omega));have HLO:=hid ((HGB.out.block w4.heap.size HSZ.out (fun e=>by have:=own_lt HO4.out.ins.own (g:=w4.heap.size) (by have h1:=HO4.out.insl;dsimp only at h1 ⊢;rw [h1];exact e.symm);omega)).trans HLO.out);have HR3:=hid (HRR.out _ B7.out);clear v2 v3;have v0:=cellv HLO.out 0 rfl;have v1:=cellv HLO.out 1 rfl;have v2:=cellv HLO.out 2 rfl;have v3:=cellv HLO.out 3 rfl;have v4:=cellv HLO.out 4 rfl;have y0:=cellv HR3.out 0 rfl;have yf0:=frozen_of HR3.out 0;have y1:=cellv HR3.out 1 rfl;have yf1:=frozen_of HR3.out 1;have y2:=cellv HR3.out 2 rfl;have yf2:=frozen_of HR3.out 2;have y3:=cellv HR3.out 3 rfl;have yf3:=frozen_of HR3.out 3;have y4:=cellv HR3.out 4 rfl;have yf4:=frozen_of HR3.out 4)
     have hmp:(ds.map (·.x)).Perm (s.ins.map (reA a b)):=by
      have:=HPE.out.map (·.x);rw [mxP_x,HIX.out,mx_all] at this;exact this
     have hso:=sort_reI HAS.out HAB.out (recB_no HRBE.out).1 hmp (List.pairwise_map.2 (HSO.out.imp (fun h=>by omega)));have hdl:ds.length=s.ins.length:=by rw [HPE.out.length_eq];exact HIL.out
     have HRL:=hid (show (reI s.ins a b).length=s.ins.length by rw [<-hso,List.length_map];exact hdl);have hO7:=HST.out.change (w':=w7) (is':=ds) (r:=ri2) (c:=ci2) (l:=reI s.ins a b) (fun b' hb _=>HK7.out b' hb) (by rw [hdl];have:=HRO.out;exact this) hso (by have:=HGB.out.size;have:=HST.out.hi;omega)
     have HO7:=hid (show StaO WB.heap.size B2 w7 (reS s a b) ⟨ri2,ci2,rp2,cp2,ro2,co2⟩ ds by
      unfold renM at hO7;rw [mx_all,mx_all] at hO7;exact hO7)
     clear hmp hso hO7 HST;obtain ⟨WE,hWE,e1,e2,e3,e4⟩:=cl_store HR3.out (.string s.lin) (.int .i64 s.ser) (.slice ri2 s.ins.length ci2) (.slice rp2 s.pen.length cp2) (.slice ro2 s.out.length co2);rw [<-hWE];have g0:=cellv e1 0 rfl;have g1:=cellv e1 1 rfl;have g2:=cellv e1 2 rfl;have g3:=cellv e1 3 rfl;have g4:=cellv e1 4 rfl;have hBE:=hid (e4 _ _ (HG.out _ B7.out) (by have:=HB0.out.size;omega));have HP5:=hid (StaO.stapW (B0:=w.heap.size) (HO7.out.keep (fun b hb hl=>e2 b (by have:=HLE.out;omega)) (by rw [e3];exact Nat.le_refl _)) (by have:=HLE.out;omega));clear hWE e1 e2 e3 e4;exact bodyPost_ret (v:=.tuple #[.agg (staA (reS s a b) ⟨ri2,ci2,rp2,cp2,ro2,co2⟩),.int .i64 0]) (by simp [results,Tryz.results18,go_sem,staA,reS,HRL.out,g0,g1,g2,g3,g4] <;> rfl) rfl (HQO.out _ _ hBE.out HP5.out)
end Go.Proofs.YtomhbcfjhgecbaaGreatDoor
