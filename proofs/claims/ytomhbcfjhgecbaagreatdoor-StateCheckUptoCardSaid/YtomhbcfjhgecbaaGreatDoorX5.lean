import Derived.Test.YtomhbcfjhgecbaaGreatDoorX1
import Derived.Test.YtomhbcfjhgecbaaGreatDoorX2
import Derived.IntWalk
import Derived.Test.YtomhbcfjhgecbaaGreatDoorX4
import Derived.WalkLawsBesides
import Derived.Sort.Walk0
import Derived.Deep.DeepCutAuto
import Derived.Shelf.GgClosure.Gives
import Derived.Shelf.SlicesQ.Load
import Derived.OneCell
import Derived.Laws.EntriesVeiled
set_option linter.unusedVariables false
set_option linter.unusedSimpArgs false
namespace Go.Proofs.YtomhbcfjhgecbaaGreatDoor
open Go.RowKit Go.Sort Go.Lib
theorem below_drewN {B:Nat} {a w:World} (h:Below B a w) (n:Nat):Below B a (w.drewN n):=Adr.below_drewN h n
abbrev DecP:=Adr.DecP
theorem decR_le (l:List UInt8):decR l<=1+l.length/\(decR l=0 ∨ l=[] ∨ decR l<=l.length):=Adr.decR_le l
theorem rdecode_any (s:ByteArray) (i:Nat) (w:World) (hi:i < s.size) (hs:s.size<=100000) :
 Calls Tryz.prog 127 #[.string s,.int .i64 i] w (DecP (decR (s.data.toList.drop i)) w):=Adr.rdecode_any s i w hi (by omega)
mutual
def eqV:Val->Val->Bool
 | .mk k n s is ks,.mk k' n' s' is' ks'=>decide (k=k') && decide (n=n') && decide (s=s') && decide (ks=ks') && eqL is is'
def eqL:List Val->List Val->Bool
 | [],[]=>true
 | x :: xs,y :: ys=>eqV x y && eqL xs ys
 | _,_=>false
end
mutual
def rfnV:Val->Val->Bool
 | .mk k n s is ks,.mk k' n' s' is' ks'=>decide (k'=6) || (decide (k=k') && decide (n=n') && decide (s=s') && decide (ks=ks') && rfnL is is')
def rfnL:List Val->List Val->Bool
 | [],[]=>true
 | x :: xs,y :: ys=>rfnV x y && rfnL xs ys
 | _,_=>false
end
mutual
def knownV:Val->Bool
 | .mk k _ _ is _=>!decide (k=6) && knownL is
def knownL:List Val->Bool
 | []=>true
 | x :: xs=>knownV x && knownL xs
end
theorem eqV_eq (a b:Val):eqV a b=(decide (a.kind=b.kind) && decide (a.num=b.num) && decide (a.str=b.str) && decide (a.keys=b.keys) && eqL a.items b.items):=by cases a;cases b;rw [eqV];rfl
theorem rfnV_eq (a b:Val):rfnV a b=(decide (b.kind=6) || (decide (a.kind=b.kind) && decide (a.num=b.num) && decide (a.str=b.str) && decide (a.keys=b.keys) && rfnL a.items b.items)):=by cases a;cases b;rw [rfnV];rfl
theorem knownV_eq (a:Val):knownV a=(!decide (a.kind=6) && knownL a.items):=by cases a;rw [knownV];rfl
theorem Val.ext' {a b:Val} (h1:a.kind=b.kind) (h2:a.num=b.num) (h3:a.str=b.str) (h4:a.items=b.items) (h5:a.keys=b.keys):a=b:=by
 cases a;cases b;simp only [Val.kind,Val.num,Val.str,Val.items,Val.keys] at h1 h2 h3 h4 h5;subst h1 h2 h3 h4 h5;rfl
theorem eqV_iff (a:Val):∀ b,eqV a b=true ↔ a=b:=by
 refine Val.ind (P:=fun a=>∀ b,eqV a b=true ↔ a=b) ?_ a;intro a ih b
 have key:∀ (xs:List Val),(∀ y∈xs,∀ b,eqV y b=true ↔ y=b)->∀ ys,eqL xs ys=true ↔ xs=ys:=by
  intro xs
  induction xs with
  | nil=>intro _ ys;cases ys <;> simp [eqL]
  | cons x xs ihx =>
    intro h ys;cases ys with
    | nil=>simp [eqL]
    | cons y ys=>rw [eqL,Bool.and_eq_true,h x List.mem_cons_self,ihx (fun z hz=>h z (List.mem_cons_of_mem _ hz))];simp
 rw [eqV_eq];simp only [Bool.and_eq_true,decide_eq_true_eq,key a.items ih];constructor
 . rintro ⟨⟨⟨⟨h1,h2⟩,h3⟩,h4⟩,h5⟩;exact Val.ext' h1 h2 h3 h5 h4
 . rintro rfl;exact ⟨⟨⟨⟨rfl,rfl⟩,rfl⟩,rfl⟩,rfl⟩
theorem rfn_refl (a:Val):rfnV a a=true:=by
 refine Val.ind (P:=fun a=>rfnV a a=true) ?_ a;intro a ih
 have key:∀ (xs:List Val),(∀ y∈xs,rfnV y y=true)->rfnL xs xs=true:=by
  intro xs
  induction xs with
  | nil=>intro _;rfl
  | cons x xs ihx=>intro h;rw [rfnL,h x List.mem_cons_self,ihx (fun z hz=>h z (List.mem_cons_of_mem _ hz))];rfl
 rw [rfnV_eq,key a.items ih];simp
theorem rfn_unknown (a b:Val) (h:b.kind=6):rfnV a b=true:=by rw [rfnV_eq];simp [h]
theorem rfn_trans (a:Val):∀ b c,rfnV a b=true->rfnV b c=true->rfnV a c=true:=by
 refine Val.ind (P:=fun a=>∀ b c,rfnV a b=true->rfnV b c=true->rfnV a c=true) ?_ a;intro a ih b c hab hbc
 have key:∀ (xs:List Val),(∀ y∈xs,∀ b c,rfnV y b=true->rfnV b c=true->rfnV y c=true)->∀ ys zs,rfnL xs ys=true->rfnL ys zs=true->rfnL xs zs=true:=by
  intro xs
  induction xs with
  | nil=>intro _ ys zs h1 h2;cases ys <;> simp_all [rfnL]
  | cons x xs ihx =>
    intro h ys zs h1 h2;cases ys with
    | nil=>simp [rfnL] at h1
    | cons y ys =>
      cases zs with
      | nil=>simp [rfnL] at h2
      | cons z zs =>
        rw [rfnL,Bool.and_eq_true] at h1 h2 ⊢;exact ⟨h x List.mem_cons_self y z h1.1 h2.1,ihx (fun z hz=>h z (List.mem_cons_of_mem _ hz)) ys zs h1.2 h2.2⟩
 rw [rfnV_eq] at hab hbc ⊢
 by_cases hc:c.kind=6
 . simp [hc]
 . simp only [hc,decide_false,Bool.false_or,Bool.and_eq_true,decide_eq_true_eq] at hbc
   obtain ⟨⟨⟨⟨e1,e2⟩,e3⟩,e4⟩,e5⟩:=hbc;have hb:¬ b.kind=6:=by rw [e1];exact hc
   simp only [hb,decide_false,Bool.false_or,Bool.and_eq_true,decide_eq_true_eq] at hab;obtain ⟨⟨⟨⟨d1,d2⟩,d3⟩,d4⟩,d5⟩:=hab;simp only [hc,decide_false,Bool.false_or,Bool.and_eq_true,decide_eq_true_eq];exact ⟨⟨⟨⟨d1.trans e1,d2.trans e2⟩,d3.trans e3⟩,d4.trans e4⟩,key a.items ih _ _ d5 e5⟩
inductive Unk:Val->Prop where
 | mk (x:Val) (h1:x.kind=6->x.num=0/\x.str=⟨#[]⟩/\x.items=[]/\x.keys=[]) (h3:∀ y∈x.items,Unk y):Unk x
theorem Unk.items {x y:Val} (h:Unk x) (hy:y∈x.items):Unk y:=by cases h;rename_i h1 h3;exact h3 y hy
theorem Unk.self {x:Val} (h:Unk x) (hk:x.kind=6):x.num=0/\x.str=⟨#[]⟩/\x.items=[]/\x.keys=[]:=by cases h;rename_i h1 h3;exact h1 hk
theorem rfn_anti (a:Val):∀ b,Unk a->Unk b->rfnV a b=true->rfnV b a=true->a=b:=by
 refine Val.ind (P:=fun a=>∀ b,Unk a->Unk b->rfnV a b=true->rfnV b a=true->a=b) ?_ a;intro a ih b ua ub hab hba
 have key:∀ (xs:List Val),(∀ y∈xs,∀ b,Unk y->Unk b->rfnV y b=true->rfnV b y=true->y=b)->∀ ys,(∀ y∈xs,Unk y)->(∀ y∈ys,Unk y)->rfnL xs ys=true->rfnL ys xs=true->xs=ys:=by
  intro xs
  induction xs with
  | nil=>intro _ ys _ _ h1 h2;cases ys <;> simp_all [rfnL]
  | cons x xs ihx =>
    intro h ys u1 u2 h1 h2;cases ys with
    | nil=>simp [rfnL] at h1
    | cons y ys =>
      rw [rfnL,Bool.and_eq_true] at h1 h2;rw [h x List.mem_cons_self y (u1 x List.mem_cons_self) (u2 y List.mem_cons_self) h1.1 h2.1,ihx (fun z hz=>h z (List.mem_cons_of_mem _ hz)) ys (fun z hz=>u1 z (List.mem_cons_of_mem _ hz)) (fun z hz=>u2 z (List.mem_cons_of_mem _ hz)) h1.2 h2.2]
 rw [rfnV_eq] at hab hba
 by_cases hb:b.kind=6
 . by_cases ha:a.kind=6
   . obtain ⟨e1,e2,e3,e4⟩:=ua.self ha
     obtain ⟨d1,d2,d3,d4⟩:=ub.self hb;exact Val.ext' (ha.trans hb.symm) (e1.trans d1.symm) (e2.trans d2.symm) (e3.trans d3.symm) (e4.trans d4.symm)
   . simp only [ha,decide_false,Bool.false_or,Bool.and_eq_true,decide_eq_true_eq] at hba
     exact absurd (hba.1.1.1.1.symm.trans hb) ha
 . simp only [hb,decide_false,Bool.false_or,Bool.and_eq_true,decide_eq_true_eq] at hab
   obtain ⟨⟨⟨⟨d1,d2⟩,d3⟩,d4⟩,d5⟩:=hab;have ha:¬ a.kind=6:=by rw [d1];exact hb
   simp only [ha,decide_false,Bool.false_or,Bool.and_eq_true,decide_eq_true_eq] at hba;exact Val.ext' d1 d2 d3 (key a.items ih b.items (fun y hy=>ua.items hy) (fun y hy=>ub.items hy) d5 hba.2) d4
theorem rfn_known (a:Val):∀ b,knownV b=true->rfnV a b=true->a=b:=by
 refine Val.ind (P:=fun a=>∀ b,knownV b=true->rfnV a b=true->a=b) ?_ a;intro a ih b hk hab
 have key:∀ (xs:List Val),(∀ y∈xs,∀ b,knownV b=true->rfnV y b=true->y=b)->∀ ys,knownL ys=true->rfnL xs ys=true->xs=ys:=by
  intro xs
  induction xs with
  | nil=>intro _ ys _ h1;cases ys <;> simp_all [rfnL]
  | cons x xs ihx =>
    intro h ys h2 h1;cases ys with
    | nil=>simp [rfnL] at h1
    | cons y ys =>
      rw [rfnL,Bool.and_eq_true] at h1;rw [knownL,Bool.and_eq_true] at h2;rw [h x List.mem_cons_self y h2.1 h1.1,ihx (fun z hz=>h z (List.mem_cons_of_mem _ hz)) ys h2.2 h1.2]
 rw [rfnV_eq] at hab;rw [knownV_eq] at hk;simp only [Bool.and_eq_true,Bool.not_eq_true',decide_eq_false_iff_not] at hk;simp only [hk.1,decide_false,Bool.false_or,Bool.and_eq_true,decide_eq_true_eq] at hab;obtain ⟨⟨⟨⟨d1,d2⟩,d3⟩,d4⟩,d5⟩:=hab;exact Val.ext' d1 d2 d3 (key a.items ih b.items hk.2 d5) d4
theorem rfn_nodes (a:Val):∀ b,Unk b->rfnV a b=true->nodes b<=nodes a:=by
 refine Val.ind (P:=fun a=>∀ b,Unk b->rfnV a b=true->nodes b<=nodes a) ?_ a;intro a ih b ub hab
 have key:∀ (xs:List Val),(∀ y∈xs,∀ b,Unk b->rfnV y b=true->nodes b<=nodes y)->∀ ys,(∀ y∈ys,Unk y)->rfnL xs ys=true->nodesL ys<=nodesL xs:=by
  intro xs
  induction xs with
  | nil=>intro _ ys _ h1;cases ys <;> simp_all [rfnL]
  | cons x xs ihx =>
    intro h ys u h1;cases ys with
    | nil=>simp [rfnL] at h1
    | cons y ys =>
      rw [rfnL,Bool.and_eq_true] at h1;have e1:=h x List.mem_cons_self y (u y List.mem_cons_self) h1.1;have e2:=ihx (fun z hz=>h z (List.mem_cons_of_mem _ hz)) ys (fun z hz=>u z (List.mem_cons_of_mem _ hz)) h1.2;rw [nodesL,nodesL];omega
 rw [rfnV_eq] at hab;rw [nodes_eq,nodes_eq]
 by_cases hb:b.kind=6
 . rw [(ub.self hb).2.2.1];simp [nodesL]
 . simp only [hb,decide_false,Bool.false_or,Bool.and_eq_true,decide_eq_true_eq] at hab
   have:=key a.items ih b.items (fun y hy=>ub.items hy) hab.2;omega
open Go.Lib (hid)
theorem eqL_true {a b:List Val} : eqL a b=true ↔ a.length=b.length/\∀ i (h:i < a.length) (h':i < b.length),eqV a[i] b[i]=true:=by
 induction a generalizing b with
 | nil=>cases b with
   | nil=>exact ⟨fun _=>⟨rfl,fun i h=>absurd h (by simp)⟩,fun _=>rfl⟩
   | cons y ys=>simp [eqL]
 | cons x xs ih=>cases b with
   | nil=>simp [eqL]
   | cons y ys =>
     rw [eqL,Bool.and_eq_true,ih];constructor
     . rintro ⟨h1,h2,h3⟩
       refine ⟨by simp [h2],fun i h h'=>?_⟩;cases i with
       | zero=>exact h1
       | succ i=>exact h3 i (by simpa using h) (by simpa using h')
     . rintro ⟨h2,h3⟩
       exact ⟨h3 0 (by simp) (by simp),by simpa using h2,fun i h h'=>h3 (i+1) (by simpa using h) (by simpa using h')⟩
theorem keys_eq_of {a b:List ByteArray} (hl:a.length=b.length) (h:∀ i (h:i < a.length) (h':i < b.length),a[i]=b[i]):a=b:=List.ext_getElem hl fun i h1 h2=>h i h1 h2
theorem knownL_append (a b:List Val):knownL (a ++ b)=(knownL a && knownL b):=by
 induction a with
 | nil=>simp [knownL]
 | cons x xs ih=>simp only [List.cons_append,knownL,ih,Bool.and_assoc]
theorem knownL_snoc {is:List Val} {k:Nat} (h:k < is.length):knownL (is.take (k+1))=(knownL (is.take k) && knownV is[k]):=by
 rw [List.take_succ_eq_append_getElem h,knownL_append];simp [knownL]
theorem knownL_no {is:List Val} {k:Nat} (h:k < is.length) (hk:knownV is[k]=false):knownL is=false:=by
 rw [<-List.take_append_drop k is,knownL_append,List.drop_eq_getElem_cons h,knownL,hk];simp
set_option maxRecDepth 100000 in
theorem rknown_any (x:Val):∀ (r:Option Addr) (c:Nat) (rk:Option Addr) (ck:Nat) (w:World),VR5 w r c rk ck x ->
  Calls Tryz.prog 62 #[.agg #[.int .i64 x.kind,.int .i64 x.num,.string x.str,.slice r x.items.length c,.slice rk x.keys.length ck]] w fun e w'=>e=.returned (.bool (knownV x))/\Below w.heap.size w w':=by
 refine Val.ind (P:=fun x=>∀ (r:Option Addr) (c:Nat) (rk:Option Addr) (ck:Nat) (w:World),VR5 w r c rk ck x ->
  Calls Tryz.prog 62 #[.agg #[.int .i64 x.kind,.int .i64 x.num,.string x.str,.slice r x.items.length c,.slice rk x.keys.length ck]] w fun e w'=>e=.returned (.bool (knownV x))/\Below w.heap.size w w') ?_ x
 intro x ih r c rk ck w hx;obtain ⟨hI,hK,_,_,_,hkl,hil⟩:=hx.parts;obtain ⟨_,hlc,hcm⟩:=sl_len hI;have HI:=hid hI;have HN:=hid (knownV_eq x);have IH:=hid ih;clear ih hI hK hx;generalize x.kind=xk at *;generalize x.num=xn at *;generalize x.str=xs at *;generalize x.keys.length=xkl at *;generalize hnx:knownV x=nx at *;clear hnx;generalize hxi:x.items=is at *;clear hxi;have B0:=hid (show Below w.heap.size w (w.alloc (.cells #[.int .i64 xk,.int .i64 xn,.string xs,.slice r is.length c,.slice rk xkl ck] 39)) from (Below.refl _ _).alloc (Nat.le_refl _) _)
 by_cases h6:xk=6
 . subst h6
   have HN:=hid (show nx=false by rw [HN.out];simp);go_enter Tryz.func62,Tryz.ntmps62;go_wp2
   go_ret
   exact ⟨ret_bool HN.out,B0.out⟩
 have e6:(xk == 6)=false:=by simpa using h6
 have HN:=hid (show nx=knownL is by rw [HN.out];simp [h6]);clear h6;go_enter Tryz.func62,Tryz.ntmps62;go_wp2
 go_loopg [3] is.length (fun gg s3 wr=>∃ k:Nat,k<=is.length/\is.length - k<=gg/\s3=.int .i64 k/\Aside (knownL (is.take k)=true)/\Aside (Below (w.heap.size+1) (w.alloc (.cells #[.int .i64 xk,.int .i64 xn,.string xs,.slice r is.length c,.slice rk xkl ck] 39)) wr))
 case atStart=>exact ⟨0,Nat.zero_le _,by omega,rfl,by rw [List.take_zero];rfl,Below.refl _ _⟩
 case round =>
  obtain ⟨k,hk,hg,rfl,AL,BW⟩:=hrel;have q3:wr.cell? ⟨w.heap.size,3,none⟩=some (.slice r is.length c):=(BW.out.cell (p:=⟨w.heap.size,3,none⟩) (by simp)).trans (cell_at rfl rfl);have BX:=hid (B0.out.trans (BW.out.mono (by simp)))
  by_cases hlt:k < is.length
  . have hltz:(k:Int) < (is.length:Int):=by omega
    obtain ⟨b,off,ri,ci,rk',ck',rfl,hb,g0,g1,g2,g3,g4,h5⟩:=val_at (slv_mono HI.out BX.out) k hlt;have C:=hid (IH.out _ (List.getElem_mem hlt) ri ci rk' ck' wr h5);have HT:=hid (knownL_snoc hlt);have HF:=hid (knownL_no hlt);clear h5;generalize is[k]=y at *;obtain ⟨yk,yn,ys,yi,yks⟩:=y;simp only [Val.kind,Val.num,Val.str,Val.items,Val.keys] at g0 g1 g2 g3 g4 C;cases hq:knownV (.mk yk yn ys yi yks)
    . have HN:=hid (HN.out.trans (HF.out hq))
      rw [hq] at C;clear HT HF hq AL;go_wp2_with fail
      refine C.out.mono ?_;rintro e w1 ⟨rfl,hb1⟩;have B1:=hid (BX.out.trans (hb1.mono BX.out.size));clear hb1;go_wp2
      go_ret
      exact ⟨ret_bool HN.out,B1.out⟩
    . have HT:=hid (show knownL (is.take (k+1))=true by rw [HT.out,AL.out,hq];rfl)
      rw [hq] at C;clear HF hq AL;go_wp2_with fail
      refine C.out.mono ?_;rintro e w1 ⟨rfl,hb1⟩;have B1:=hid (BW.out.trans (hb1.mono (by have:=BW.out.size;simpa using this)));clear hb1;go_wp2
      go_roundg (is.length - (k+1))
      case measure=>omega
      case rel=>exact ⟨k+1,by omega,by omega,by go_num,HT.out,B1.out⟩
  . have hltz:¬ (k:Int) < (is.length:Int):=by omega
    have HN:=hid (show nx=true by
     have:=AL.out;rw [show k=is.length by omega,List.take_length] at this;exact HN.out.trans this)
    clear hlt hk AL;go_wp2
    go_ret
    exact ⟨ret_bool HN.out,BX.out⟩
theorem less_yes {a b:ByteArray} (h:a.data.toList < b.data.toList):Op.bytesLess a.toList b.toList=true:=by
 rw [Go.Proofs.bytesLess_eq,decide_eq_true_eq,ByteArray.toList_eq,ByteArray.toList_eq];exact h
theorem less_no {a b:ByteArray} (h:¬ a.data.toList < b.data.toList):Op.bytesLess a.toList b.toList=false:=by
 rw [Go.Proofs.bytesLess_eq,decide_eq_false_iff_not,ByteArray.toList_eq,ByteArray.toList_eq];exact h
theorem rbytes_any (a b:ByteArray) (w:World):Calls Tryz.prog 85 #[.string a,.string b] w fun e w'=>e=.returned (.int .i64 (cmpS a b))/\w=w':=by
 have HN:=hid (show cmpS a b=if a.data.toList < b.data.toList then -1 else if b.data.toList < a.data.toList then 1 else 0 from rfl)
 by_cases h1:a.data.toList < b.data.toList
 . have HN:=hid (HN.out.trans (if_pos h1))
   have e1:=less_yes h1;clear h1;go_enter Tryz.func85,Tryz.ntmps85;go_wp2
   go_ret
   exact ⟨ret_int HN.out,rfl⟩
 have e1:=less_no h1
 by_cases h2:b.data.toList < a.data.toList
 . have HN:=hid (HN.out.trans ((if_neg h1).trans (if_pos h2)))
   have e2:=less_yes h2;have e3:=str_ne (show a≠b from fun e=>List.lt_irrefl _ (by rw [e] at h2;exact h2));clear h1 h2;go_enter Tryz.func85,Tryz.ntmps85;go_wp2
   go_ret
   exact ⟨ret_int HN.out,rfl⟩
 have HN:=hid (HN.out.trans ((if_neg h1).trans (if_neg h2)));obtain rfl:a=b:=ba_ext (List.le_antisymm (List.not_lt.1 h2) (List.not_lt.1 h1));clear h1 h2;go_enter Tryz.func85,Tryz.ntmps85;go_wp2
 go_ret
 exact ⟨ret_int HN.out,rfl⟩
def ltS (a b:ByteArray):Prop:=a.data.toList < b.data.toList
instance (a b:ByteArray):Decidable (ltS a b):=inferInstanceAs (Decidable (a.data.toList < b.data.toList))
def textE (vld:ByteArray->Bool) (s:ByteArray):Int:=if 4096 < s.size then 3 else if vld s then 0 else 1
def orderB:Option ByteArray->ByteArray->Bool
 | none,_=>true
 | some p,k=>decide (ltS p k)
def keysE (vld:ByteArray->Bool):Option ByteArray->List ByteArray->Int
 | _,[]=>0
 | p,k :: ks=>if textE vld k≠0 then textE vld k else if orderB p k then keysE vld (some k) ks else 1
def shapedB (k n:Int) (s:ByteArray) (ni nk:Nat):Bool:=
 decide (0<=k) && decide (k<=6) && (decide (k=2) || (decide (k=1) && (decide (n=0) || decide (n=1))) || decide (n=0)) && (decide (k=3) || decide (s.size=0)) && (decide (k=4) || decide (k=5) || decide (ni=0)) && (if k=5 then decide (nk=ni) else decide (nk=0))
def nodeE (vld:ByteArray->Bool) (k n:Int) (s:ByteArray) (ni:Nat) (ks:List ByteArray):Int:=
 if shapedB k n s ni ks.length then (if k=2 then (if -9007199254740992<=n/\n<=9007199254740992 then 0 else 5) else if k=3 then textE vld s else if k=5 then keysE vld none ks else 0) else 1
def nodeV (vld:ByteArray->Bool) (x:Val):Int:=nodeE vld x.kind x.num x.str x.items.length x.keys
mutual
def chkV (vld:ByteArray->Bool):Val->Int->Nat->Int × Nat
 | .mk k n s is ks,lv,b=>if 32 < lv then (4,b) else if 4096<=b then (14,b) else if nodeE vld k n s is.length ks≠0 then (nodeE vld k n s is.length ks,b) else chkL vld is (lv+1) (b+1)
def chkL (vld:ByteArray->Bool):List Val->Int->Nat->Int × Nat
 | [],_,b=>(0,b)
 | x :: xs,lv,b=>if (chkV vld x lv b).1≠0 then chkV vld x lv b else chkL vld xs lv (chkV vld x lv b).2
end
def checkV (vld:ByteArray->Bool) (x:Val):Int:=(chkV vld x 1 0).1
theorem chkV_eq (vld:ByteArray->Bool) (x:Val) (lv:Int) (b:Nat):chkV vld x lv b=if 32 < lv then (4,b) else if 4096<=b then (14,b) else if nodeV vld x≠0 then (nodeV vld x,b) else chkL vld x.items (lv+1) (b+1):=by cases x;rw [chkV];rfl
inductive Ok (vld:ByteArray->Bool):Val->Prop where
 | mk (x:Val) (h1:nodeV vld x=0) (h2:∀ y∈x.items,Ok vld y):Ok vld x
theorem Ok.items {vld:ByteArray->Bool} {x y:Val} (h:Ok vld x) (hy:y∈x.items):Ok vld y:=by cases h;rename_i h1 h2;exact h2 y hy
theorem Ok.self {vld:ByteArray->Bool} {x:Val} (h:Ok vld x):nodeV vld x=0:=by cases h;assumption
theorem chkL_mem (vld:ByteArray->Bool):∀ (xs:List Val) (lv:Int) (b:Nat),(∀ y∈xs,∀ lv b,(chkV vld y lv b).1=0->Ok vld y/\(chkV vld y lv b).2=b+nodes y/\lv+depth y<=33)->(chkL vld xs lv b).1=0->(∀ y∈xs,Ok vld y)/\(chkL vld xs lv b).2=b+nodesL xs/\(xs=[] ∨ lv+depthL xs<=33)
 | [],lv,b,_,_=>⟨by simp,by simp [chkL,nodesL],.inl rfl⟩
 | x :: xs,lv,b,h,h0=>by
   rw [chkL] at h0 ⊢
   by_cases hx:(chkV vld x lv b).1=0
   . rw [if_neg (by simpa using hx)] at h0 ⊢
     obtain ⟨e1,e2,e3⟩:=h x List.mem_cons_self lv b hx;obtain ⟨d1,d2,d3⟩:=chkL_mem vld xs lv _ (fun y hy=>h y (List.mem_cons_of_mem _ hy)) h0;refine ⟨fun y hy=>?_,?_,.inr ?_⟩
     . rcases List.mem_cons.1 hy with rfl | hy
       . exact e1
       . exact d1 y hy
     . rw [d2,e2,nodesL];omega
     . rw [depthL]
       rcases d3 with rfl | d3
       . simp only [depthL];omega
       . omega
   . rw [if_pos hx] at h0;exact absurd h0 hx
theorem chk_ok (vld:ByteArray->Bool) (x:Val):∀ lv b,(chkV vld x lv b).1=0->Ok vld x/\(chkV vld x lv b).2=b+nodes x/\lv+depth x<=33:=by
 refine Val.ind (P:=fun x=>∀ lv b,(chkV vld x lv b).1=0->Ok vld x/\(chkV vld x lv b).2=b+nodes x/\lv+depth x<=33) ?_ x;intro x ih lv b h;rw [chkV_eq] at h ⊢
 by_cases h1:32 < lv
 . rw [if_pos h1] at h;simp at h
 . rw [if_neg h1] at h ⊢
   by_cases h2:4096<=b
   . rw [if_pos h2] at h;simp at h
   . rw [if_neg h2] at h ⊢
     by_cases h3:nodeV vld x=0
     . rw [if_neg (by simpa using h3)] at h ⊢
       obtain ⟨e1,e2,e3⟩:=chkL_mem vld x.items (lv+1) (b+1) ih h;refine ⟨.mk x h3 e1,by rw [e2,nodes_eq];omega,?_⟩;rw [depth_eq];rcases e3 with e3 | e3
       . rw [e3];simp only [depthL];omega
       . omega
     . rw [if_pos h3] at h;exact absurd h h3
theorem shaped_of {vld:ByteArray->Bool} {x:Val} (h:nodeV vld x=0):shapedB x.kind x.num x.str x.items.length x.keys.length=true:=by
 unfold nodeV nodeE at h;cases hs:shapedB x.kind x.num x.str x.items.length x.keys.length
 . rw [hs] at h;simp at h
 . rfl
theorem Ok.shp {vld:ByteArray->Bool} {x:Val} (h:Ok vld x):Shp x:=by
 induction h with
 | mk x h1 h2 ih =>
   have hs:=shaped_of h1;simp only [shapedB,Bool.and_eq_true] at hs;refine .mk x (fun hk=>?_) (fun hk=>?_) ih
   . have:=hs.2;rw [if_pos hk] at this;simpa using this
   . have:=hs.2;rw [if_neg hk] at this
     simpa using this
theorem size_zero {s:ByteArray} (h:s.size=0):s=⟨#[]⟩:=by
 apply ba_ext;have e:s.data.toList.length=0:=by rw [Array.length_toList];exact h
 exact List.eq_nil_of_length_eq_zero e
theorem Ok.unk {vld:ByteArray->Bool} {x:Val} (h:Ok vld x):Unk x:=by
 induction h with
 | mk x h1 h2 ih =>
   have hs:=shaped_of h1;simp only [shapedB,Bool.and_eq_true] at hs;refine .mk x (fun hk=>?_) ih;simp [hk] at hs;obtain ⟨⟨⟨h3,h4⟩,h5⟩,h6⟩:=hs;exact ⟨h3,size_zero (by simpa using h4),h5,h6⟩
def AscS:List ByteArray->Prop
 | []=>True
 | [_]=>True
 | a :: b :: l=>ltS a b/\AscS (b :: l)
theorem keysE_asc {vld:ByteArray->Bool} : ∀ (ks:List ByteArray) (p:Option ByteArray),keysE vld p ks=0->(∀ k∈ks,textE vld k=0)/\AscS ks/\(match ks with | []=>True | k :: _=>orderB p k=true)
 | [],p,_=>⟨by simp,trivial,trivial⟩
 | k :: ks,p,h=>by
   rw [keysE] at h
   by_cases h1:textE vld k=0
   . rw [if_neg (by simpa using h1)] at h
     cases h2:orderB p k
     . rw [h2] at h;simp at h
     . rw [h2,if_pos rfl] at h
       obtain ⟨e1,e2,e3⟩:=keysE_asc ks (some k) h;refine ⟨fun x hx=>?_,?_,h2⟩
       . rcases List.mem_cons.1 hx with rfl | hx
         . exact h1
         . exact e1 x hx
       . cases ks with
         | nil=>trivial
         | cons k2 ks=>exact ⟨by simpa [orderB] using e3,e2⟩
   . rw [if_pos h1] at h;exact absurd h h1
theorem Ok.asc {vld:ByteArray->Bool} {x:Val} (h:Ok vld x):AscS x.keys:=by
 have h1:=h.self;have hs:=shaped_of h1
 by_cases hk:x.kind=5
 . unfold nodeV nodeE at h1
   rw [if_pos hs,if_neg (by omega),if_neg (by omega),if_pos hk] at h1;exact (keysE_asc _ _ h1).2.1
 . simp only [shapedB,Bool.and_eq_true] at hs
   have:=hs.2;rw [if_neg hk] at this;have:x.keys=[]:=by simpa using this
   rw [this];trivial
theorem drop_drop' {α:Type} (l:List α) (a b:Nat):(l.drop a).drop b=l.drop (a+b):=by rw [List.drop_drop]
set_option maxRecDepth 100000 in
theorem rvalid_any (s:ByteArray) (w:World) (hs:s.size<=4096) :
  Calls Tryz.prog 84 #[.string s] w fun e w'=>e=.returned (.bool (validD s.data.toList))/\Below w.heap.size w w':=by
 go_enter Tryz.func84,Tryz.ntmps84;go_wp2
 go_loopg [3] s.size (fun gg s3 wr=>∃ k:Nat,k<=s.size/\s.size - k<=gg/\s3=.int .i64 k/\Aside (Below w.heap.size w wr)/\Aside (validD (s.data.toList.drop k)=validD s.data.toList))
 case atStart=>exact ⟨0,Nat.zero_le _,by omega,rfl,Below.refl _ _,by show _=_;rw [List.drop_zero]⟩
 case round =>
  obtain ⟨k,hk,hg,rfl,BW,AL⟩:=hrel;have hlen:(s.data.toList.drop k).length=s.size - k:=by rw [List.length_drop,Array.length_toList];rfl
  by_cases hlt:k < s.size
  . have hltz:(k:Int) < (s.size:Int):=by omega
    have hne:s.data.toList.drop k≠[]:=by intro e;rw [e] at hlen;simp at hlen;omega
    have HV:=hid (validD_ref _ hne)
    have hle:decR (s.data.toList.drop k)<=s.size - k:=by
     rcases (decR_le (s.data.toList.drop k)).2 with h | h | h
     . omega
     . exact absurd h hne
     . omega
    have hD:=hid (rdecode_any s k wr hlt (by omega));rw [drop_drop'] at HV;clear hlen hne;generalize decR (s.data.toList.drop k)=D at *
    by_cases h0:D=0
    . subst h0
      have HN:=hid (show validD s.data.toList=false by rw [<-AL.out,HV.out];rfl);clear AL HV hle;go_wp2_with fail
      refine hD.out.mono ?_;rintro e w1 ⟨rv,rfl,hb1⟩;have B1:=hid (BW.out.trans (hb1.mono BW.out.size));clear hb1;go_wp2
      go_ret
      exact ⟨ret_bool HN.out,B1.out⟩
    . have HT:=hid (show validD (s.data.toList.drop (k+D))=validD s.data.toList by rw [<-AL.out,HV.out,if_neg h0])
      have h0z:((D:Int) == 0)=false:=by simp;omega
      clear AL HV;go_wp2_with fail
      refine hD.out.mono ?_;rintro e w1 ⟨rv,rfl,hb1⟩;have B1:=hid (BW.out.trans (hb1.mono BW.out.size));clear hb1;go_wp2
      go_roundg (s.size - (k+D))
      case measure=>omega
      case rel=>exact ⟨k+D,by omega,by omega,by go_num,B1.out,HT.out⟩
  . have hltz:¬ (k:Int) < (s.size:Int):=by omega
    have HN:=hid (show validD s.data.toList=true by rw [<-AL.out,List.drop_eq_nil_of_le (by rw [Array.length_toList];show s.size<=k;omega)];rfl);clear hlen AL;go_wp2
    go_ret
    exact ⟨ret_bool HN.out,BW.out⟩
theorem rtext_any (s:ByteArray) (w:World) :
  Calls Tryz.prog 199 #[.string s] w fun e w'=>e=.returned (.int .i64 (textE (fun s=>validD s.data.toList) s))/\Below w.heap.size w w':=by
 have HN:=hid (show textE (fun s=>validD s.data.toList) s=if 4096 < s.size then 3 else if validD s.data.toList=true then 0 else 1 from rfl)
 by_cases h1:4096 < s.size
 . have HN:=hid (HN.out.trans (if_pos h1))
   have h1z:(4096:Int) < (s.size:Int):=by omega
   go_enter Tryz.func199,Tryz.ntmps199;go_wp2
   go_ret
   exact ⟨ret_int HN.out,Below.refl _ _⟩
 have HN:=hid (HN.out.trans (if_neg h1));have h1z:(s.size:Int)<=4096:=by omega
 have C:=hid (rvalid_any s w (by omega));cases hv:validD s.data.toList
 all_goals
  rw [hv] at C HN;have HN:=hid HN.out;clear hv;go_enter Tryz.func199,Tryz.ntmps199;go_wp2_with fail
  refine C.out.mono ?_;rintro e w1 ⟨rfl,hb1⟩;have HB:=hid hb1;clear hb1;go_wp2
  go_ret
  exact ⟨ret_int (by rw [HN.out];rfl),HB.out⟩
def numB (k n:Int):Bool:=decide (k=2) || (decide (k=1) && (decide (n=0) || decide (n=1))) || decide (n=0)
def strB (k:Int) (s:ByteArray):Bool:=decide (k=3) || decide (s.size=0)
def itemsB (k:Int) (ni:Nat):Bool:=decide (k=4) || decide (k=5) || decide (ni=0)
def keysB (k:Int) (ni nk:Nat):Bool:=if k=5 then decide (nk=ni) else decide (nk=0)
theorem shapedB_eq (k n:Int) (s:ByteArray) (ni nk:Nat):shapedB k n s ni nk=(decide (0<=k) && decide (k<=6) && numB k n && strB k s && itemsB k ni && keysB k ni nk):=rfl
theorem str_empty {s:ByteArray} (h:s.size=0):s.toList=[]:=by
 rw [ByteArray.toList_eq];exact List.eq_nil_of_length_eq_zero (by rw [Array.length_toList];exact h)
theorem str_empty_no {s:ByteArray} (h:¬ s.size=0):s.toList.isEmpty=false:=by
 rw [Bool.eq_false_iff];intro e;rw [List.isEmpty_iff,ByteArray.toList_eq] at e;apply h;have:=congrArg List.length e;rw [Array.length_toList] at this;exact this
set_option maxRecDepth 100000 in
set_option maxHeartbeats 4000000 in
theorem rshaped_k (k n:Int) (s:ByteArray) (ni nk:Nat) (r:Option Addr) (c:Nat) (rk:Option Addr) (ck:Nat) (w:World) (hni:ni<=10000000000000) (hnk:nk<=10000000000000) (hs:s.size<=maxLen) :
  Calls Tryz.prog 198 #[.agg #[.int .i64 k,.int .i64 n,.string s,.slice r ni c,.slice rk nk ck]] w fun e w'=>e=.returned (.bool (shapedB k n s ni nk))/\Below w.heap.size w w':=by
 have HN:=hid (shapedB_eq k n s ni nk);unfold maxLen at hs;have B0:=hid (show Below w.heap.size w (w.alloc (.cells #[.int .i64 k,.int .i64 n,.string s,.slice r ni c,.slice rk nk ck] 39)) from (Below.refl _ _).alloc (Nat.le_refl _) _);go_enter Tryz.func198,Tryz.ntmps198;go_upto_region 1 with fail
 go_cut [3] (fun s3 wx=>s3=.bool (numB k n)/\(w.alloc (.cells #[.int .i64 k,.int .i64 n,.string s,.slice r ni c,.slice rk nk ck] 39))=wx)
 case first =>
  by_cases k2:k=2
  . subst k2
    go_wp2_with fail
    go_meet
    exact ⟨by simp [numB,strB,itemsB,keysB, *],rfl⟩
  . by_cases k1:k=1
    . subst k1
      by_cases n0:n=0
      . subst n0
        go_wp2_with fail
        go_meet
        exact ⟨by simp [numB,strB,itemsB,keysB, *],rfl⟩
      . by_cases n1:n=1
        . subst n1
          go_wp2_with fail
          go_meet
          exact ⟨by simp [numB,strB,itemsB,keysB, *],rfl⟩
        . have qn0:(n == 0)=false:=by simpa using n0
          have qn1:(n == 1)=false:=by simpa using n1
          go_wp2_with fail
          go_meet
          exact ⟨by simp [numB,strB,itemsB,keysB, *],rfl⟩
    . have qk2:(k == 2)=false:=by simpa using k2
      have qk1:(k == 1)=false:=by simpa using k1
      by_cases n0:n=0
      . subst n0
        go_wp2_with fail
        go_meet
        exact ⟨by simp [numB,strB,itemsB,keysB, *],rfl⟩
      . have qn0:(n == 0)=false:=by simpa using n0
        go_wp2_with fail
        go_meet
        exact ⟨by simp [numB,strB,itemsB,keysB, *],rfl⟩
 case rest =>
 obtain ⟨rfl,rfl⟩:=hcut;go_upto_region 2 with fail
 go_cut [4] (fun s3 wx=>s3=.bool (strB k s)/\(w.alloc (.cells #[.int .i64 k,.int .i64 n,.string s,.slice r ni c,.slice rk nk ck] 39))=wx)
 case first =>
  by_cases k3:k=3
  . subst k3
    go_wp2_with fail
    go_meet
    exact ⟨by simp [numB,strB,itemsB,keysB, *],rfl⟩
  . have qk3:(k == 3)=false:=by simpa using k3
    by_cases s0:s.size=0
    . have e1:=str_empty s0
      go_wp2_with fail
      go_meet
      exact ⟨by simp [numB,strB,itemsB,keysB, *],rfl⟩
    . have e1:=str_empty_no s0
      go_wp2_with fail
      go_meet
      exact ⟨by simp [numB,strB,itemsB,keysB, *],rfl⟩
 case rest =>
 obtain ⟨rfl,rfl⟩:=hcut;go_upto_region 3 with fail
 go_cut [5] (fun s3 wx=>s3=.bool (itemsB k ni)/\(w.alloc (.cells #[.int .i64 k,.int .i64 n,.string s,.slice r ni c,.slice rk nk ck] 39))=wx)
 case first =>
  by_cases k4:k=4
  . subst k4
    go_wp2_with fail
    go_meet
    exact ⟨by simp [numB,strB,itemsB,keysB, *],rfl⟩
  . have qk4:(k == 4)=false:=by simpa using k4
    by_cases k5:k=5
    . subst k5
      go_wp2_with fail
      go_meet
      exact ⟨by simp [numB,strB,itemsB,keysB, *],rfl⟩
    . have qk5:(k == 5)=false:=by simpa using k5
      by_cases i0:ni=0
      . subst i0
        go_wp2_with fail
        go_meet
        exact ⟨by simp [numB,strB,itemsB,keysB, *],rfl⟩
      . have e1:((ni:Int) == 0)=false:=by simp;omega
        go_wp2_with fail
        go_meet
        exact ⟨by simp [numB,strB,itemsB,keysB, *],rfl⟩
 case rest =>
 obtain ⟨rfl,rfl⟩:=hcut;go_upto_region 4 with fail
 go_cut [6] (fun s3 wx=>s3=.bool (keysB k ni nk)/\(w.alloc (.cells #[.int .i64 k,.int .i64 n,.string s,.slice r ni c,.slice rk nk ck] 39))=wx)
 case first =>
  by_cases k5:k=5
  . subst k5
    by_cases i0:nk=ni
    . subst i0
      go_wp2_with fail
      go_meet
      exact ⟨by simp [numB,strB,itemsB,keysB, *],rfl⟩
    . have e1:((nk:Int) == (ni:Int))=false:=by simp;omega
      go_wp2_with fail
      go_meet
      exact ⟨by simp [numB,strB,itemsB,keysB, *],rfl⟩
  . have qk5:(k == 5)=false:=by simpa using k5
    have q2':(k != 5)=true:=by simpa using k5
    by_cases i0:nk=0
    . subst i0
      go_wp2_with fail
      go_meet
      exact ⟨by simp [numB,strB,itemsB,keysB, *],rfl⟩
    . have e1:((nk:Int) == 0)=false:=by simp;omega
      go_wp2_with fail
      go_meet
      exact ⟨by simp [numB,strB,itemsB,keysB, *],rfl⟩
 case rest =>
 obtain ⟨rfl,rfl⟩:=hcut;generalize numB k n=b1 at *;generalize strB k s=b2 at *;generalize itemsB k ni=b3 at *;generalize keysB k ni nk=b4 at *;generalize hB:(w.alloc (.cells #[.int .i64 k,.int .i64 n,.string s,.slice r ni c,.slice rk nk ck] 39))=W0 at *;have c0:W0.cell? ⟨w.heap.size,0,none⟩=some (.int .i64 k):=by rw [<-hB];exact cell_at rfl rfl
 clear hB
 by_cases k0:0<=k
 . by_cases k6:k<=6
   . cases b1
     . have HF:=hid (show shapedB k n s ni nk=false by rw [HN.out];simp [*])
       go_wp2
       go_ret
       exact ⟨ret_bool HF.out,B0.out⟩
     cases b2
     . have HF:=hid (show shapedB k n s ni nk=false by rw [HN.out];simp [*])
       go_wp2
       go_ret
       exact ⟨ret_bool HF.out,B0.out⟩
     cases b3
     . have HF:=hid (show shapedB k n s ni nk=false by rw [HN.out];simp [*])
       go_wp2
       go_ret
       exact ⟨ret_bool HF.out,B0.out⟩
     cases b4
     . have HF:=hid (show shapedB k n s ni nk=false by rw [HN.out];simp [*])
       go_wp2
       go_ret
       exact ⟨ret_bool HF.out,B0.out⟩
     have HF:=hid (show shapedB k n s ni nk=true by rw [HN.out];simp [*]);go_wp2
     go_ret
     exact ⟨ret_bool HF.out,B0.out⟩
   . have:6 < k:=by omega
     have HF:=hid (show shapedB k n s ni nk=false by rw [HN.out];simp [*]);go_wp2
     go_ret
     exact ⟨ret_bool HF.out,B0.out⟩
 . have:k < 0:=by omega
   have HF:=hid (show shapedB k n s ni nk=false by rw [HN.out];simp [*]);go_wp2
   go_ret
   exact ⟨ret_bool HF.out,B0.out⟩
theorem rshaped_any (x:Val) (r:Option Addr) (c:Nat) (rk:Option Addr) (ck:Nat) (w:World) (hx:VR5 w r c rk ck x) :
  Calls Tryz.prog 198 #[.agg #[.int .i64 x.kind,.int .i64 x.num,.string x.str,.slice r x.items.length c,.slice rk x.keys.length ck]] w fun e w'=>e=.returned (.bool (shapedB x.kind x.num x.str x.items.length x.keys.length))/\Below w.heap.size w w':=by
 obtain ⟨_,_,_,_,hs,hkl,hil⟩:=hx.parts;exact rshaped_k _ _ _ _ _ _ _ _ _ _ hil hkl hs
def vU (s:ByteArray):Bool:=validD s.data.toList
theorem rvalid01_any (n:Int) (w:World):Calls Tryz.prog 152 #[.int .i64 n] w fun e w'=>e=.returned (.bool (decide (-9007199254740992<=n) && decide (n<=9007199254740992)))/\w=w':=by
 by_cases h1:-9007199254740992<=n
 . by_cases h2:n<=9007199254740992
   . have HN:=hid (show (decide (-9007199254740992<=n) && decide (n<=9007199254740992))=true by simp [h1,h2])
     go_enter Tryz.func152,Tryz.ntmps152;go_wp2
     go_ret
     exact ⟨ret_bool HN.out,rfl⟩
   . have HN:=hid (show decide (n<=9007199254740992)=false by simp [h2])
     go_enter Tryz.func152,Tryz.ntmps152;go_wp2
     go_ret
     exact ⟨ret_bool (by simp [HN.out]),rfl⟩
 . have HN:=hid (show (decide (-9007199254740992<=n) && decide (n<=9007199254740992))=false by simp [h1])
   go_enter Tryz.func152,Tryz.ntmps152;go_wp2
   go_ret
   exact ⟨ret_bool HN.out,rfl⟩
def pvK (ks:List ByteArray):Nat->Option ByteArray
 | 0=>none
 | k+1=>ks[k]?
theorem keysE_step (vld:ByteArray->Bool) {ks:List ByteArray} {k:Nat} (h:k < ks.length):keysE vld (pvK ks k) (ks.drop k)=if textE vld ks[k]≠0 then textE vld ks[k] else if orderB (pvK ks k) ks[k] then keysE vld (pvK ks (k+1)) (ks.drop (k+1)) else 1:=by
 rw [List.drop_eq_getElem_cons h,keysE];have:pvK ks (k+1)=some ks[k]:=List.getElem?_eq_getElem h;rw [this]
def nodeR (vld:ByteArray->Bool) (k n:Int) (s:ByteArray) (ks:List ByteArray):Int:=
 if k=2/\¬ (-9007199254740992<=n/\n<=9007199254740992) then 5 else if textE vld s≠0 then textE vld s else keysE vld none ks
theorem nodeE_r (vld:ByteArray->Bool) (hv:∀ s:ByteArray,s.size=0->vld s=true) {k n:Int} {s:ByteArray} {ni:Nat} {ks:List ByteArray} (h:shapedB k n s ni ks.length=true):nodeE vld k n s ni ks=nodeR vld k n s ks:=by
 unfold nodeE nodeR;rw [if_pos h];rw [shapedB_eq] at h;simp only [Bool.and_eq_true,strB,keysB,Bool.or_eq_true,decide_eq_true_eq] at h;obtain ⟨⟨⟨⟨⟨_,_⟩,_⟩,hs⟩,_⟩,hk⟩:=h
 have ht:k≠3->textE vld s=0:=fun h3=>by
  have h0:s.size=0:=by
   rcases hs with h | h
   . exact absurd h h3
   . exact h
  unfold textE;rw [if_neg (by omega),hv s h0];rfl
 have hkk:k≠5->keysE vld none ks=0:=fun h5=>by
  rw [if_neg h5] at hk;have:ks=[]:=List.eq_nil_of_length_eq_zero (by simpa using hk);rw [this,keysE]
 by_cases k2:k=2
 . rw [if_pos k2]
   by_cases hr:-9007199254740992<=n/\n<=9007199254740992
   . rw [if_pos hr,if_neg (fun h=>h.2 hr),if_neg (by rw [ht (by omega)];simp),hkk (by omega)]
   . rw [if_neg hr,if_pos ⟨k2,hr⟩]
 . rw [if_neg k2]
   rw [if_neg (c:=k=2/\¬ (-9007199254740992<=n/\n<=9007199254740992)) (fun h=>k2 h.1)]
   by_cases k3:k=3
   . rw [if_pos k3,hkk (by omega)]
     split
     . rfl
     . rename_i h;simpa using h
   . have ht0:¬ (textE vld s≠0):=by rw [ht k3];simp
     rw [if_neg k3,if_neg (c:=textE vld s≠0) ht0]
     by_cases k5:k=5
     . rw [if_pos k5]
     . rw [if_neg k5,hkk k5]
theorem vU_empty (s:ByteArray) (h:s.size=0):vU s=true:=by
 unfold vU;have:s.data.toList=[]:=List.eq_nil_of_length_eq_zero (by rw [Array.length_toList];exact h);rw [this];rfl
set_option maxRecDepth 100000 in
set_option maxHeartbeats 4000000 in
theorem rnode_any (x:Val) (r:Option Addr) (c:Nat) (rk:Option Addr) (ck:Nat) (w:World) (hx:VR5 w r c rk ck x) :
  Calls Tryz.prog 153 #[.agg #[.int .i64 x.kind,.int .i64 x.num,.string x.str,.slice r x.items.length c,.slice rk x.keys.length ck]] w fun e w'=>e=.returned (.int .i64 (nodeV vU x))/\Below w.heap.size w w':=by
 obtain ⟨hI,hK,_,_,hs,hkl,hil⟩:=hx.parts;obtain ⟨_,hlk,hkm⟩:=sl_len hK;have HK:=hid hK;have hb0:Below w.heap.size w (w.alloc (.cells #[.int .i64 x.kind,.int .i64 x.num,.string x.str,.slice r x.items.length c,.slice rk x.keys.length ck] 39)):=(Below.refl _ _).alloc (Nat.le_refl _) _;have SH:=hid (rshaped_any x r c rk ck _ (hx.below hb0));have HN:=hid (show nodeV vU x=nodeE vU x.kind x.num x.str x.items.length x.keys from rfl);have HR:=hid (fun h:shapedB x.kind x.num x.str x.items.length x.keys.length=true=>nodeE_r vU vU_empty h);have HF:=hid (fun h:shapedB x.kind x.num x.str x.items.length x.keys.length=false=>show nodeE vU x.kind x.num x.str x.items.length x.keys=1 by unfold nodeE;rw [if_neg (by rw [h];simp)]);have B0:=hid hb0;clear hb0 hI hK hx;generalize hnx:nodeV vU x=nx at *;clear hnx;generalize shapedB x.kind x.num x.str x.items.length x.keys.length=sb at *;generalize x.kind=xk at *;generalize x.num=xn at *;generalize x.str=xs at *;generalize x.items.length=ni at *;generalize x.keys=ks at *;cases sb
 . have HN:=hid (HN.out.trans (HF.out rfl))
   clear HR HF;go_enter Tryz.func153,Tryz.ntmps153;go_wp2_with fail
   refine SH.out.mono ?_;rintro e w1 ⟨rfl,hb1⟩;have B1:=hid (B0.out.trans (hb1.mono B0.out.size));clear hb1;go_wp2
   go_ret
   exact ⟨ret_int HN.out,B1.out⟩
 have HNR:=hid (HN.out.trans (HR.out rfl));have HD:=hid (show nodeR vU xk xn xs ks=if xk=2/\¬ (-9007199254740992<=xn/\xn<=9007199254740992) then 5 else if textE vU xs≠0 then textE vU xs else keysE vU none ks from rfl);clear HR HF HN
 have key:∀ (w1:World) (hb:Below (w.alloc (.cells #[.int .i64 xk,.int .i64 xn,.string xs,.slice r ni c,.slice rk ks.length ck] 39)).heap.size (w.alloc (.cells #[.int .i64 xk,.int .i64 xn,.string xs,.slice r ni c,.slice rk ks.length ck] 39)) w1),
   w1.cell? ⟨w.heap.size,0,none⟩=some (.int .i64 xk)/\w1.cell? ⟨w.heap.size,1,none⟩=some (.int .i64 xn)/\w1.cell? ⟨w.heap.size,2,none⟩=some (.string xs)/\w1.cell? ⟨w.heap.size,4,none⟩=some (.slice rk ks.length ck):=
  fun w1 hb=>⟨bget hb (cell_at rfl rfl),bget hb (cell_at rfl rfl),bget hb (cell_at rfl rfl),bget hb (cell_at rfl rfl)⟩
 have KEY:=hid key;clear key
 by_cases h2:xk=2/\¬ (-9007199254740992<=xn/\xn<=9007199254740992)
 . obtain ⟨rfl,h3⟩:=h2
   have HN:=hid (HNR.out.trans (HD.out.trans (if_pos ⟨rfl,h3⟩)))
   have hv:(decide (-9007199254740992<=xn) && decide (xn<=9007199254740992))=false:=by
    rw [Bool.eq_false_iff];intro e;apply h3;simpa using e
   have HV:=hid hv;clear HD h3 hv;go_enter Tryz.func153,Tryz.ntmps153;go_wp2_with fail
   refine SH.out.mono ?_;rintro e w1 ⟨rfl,hb1⟩;have B1:=hid (B0.out.trans (hb1.mono B0.out.size));obtain ⟨k0,k1,k2,k4⟩:=KEY.out w1 hb1;clear hb1;go_wp2_with fail
   refine (rvalid01_any _ _).mono ?_;rintro e w2 ⟨rfl,rfl⟩;rw [HV.out];go_wp2
   go_ret
   exact ⟨ret_int HN.out,B1.out⟩
 have HNX:=hid (HNR.out.trans (HD.out.trans (if_neg h2)));clear HD HNR
 by_cases e2:xk=2
 case' pos =>
  have HV:=hid (show (decide (-9007199254740992<=xn) && decide (xn<=9007199254740992))=true by
   by_cases hr:-9007199254740992<=xn/\xn<=9007199254740992
   . simp [hr.1,hr.2]
   . exact absurd ⟨e2,hr⟩ h2)
  clear h2;subst e2;go_enter Tryz.func153,Tryz.ntmps153;go_wp2_with fail
  refine SH.out.mono ?_;rintro e w1 ⟨rfl,hb1⟩;have B1:=hid (B0.out.trans (hb1.mono B0.out.size));have HB1:=hid hb1;obtain ⟨k0,k1,k2,k4⟩:=KEY.out w1 hb1;clear hb1;go_wp2_with fail
  refine (rvalid01_any _ _).mono ?_;rintro e w2 ⟨rfl,rfl⟩;rw [HV.out];clear HV;go_wp2_with fail
 case' neg =>
  clear h2;have e2':(xk == 2)=false:=by simpa using e2
  clear e2;go_enter Tryz.func153,Tryz.ntmps153;go_wp2_with fail
  refine SH.out.mono ?_;rintro e w1 ⟨rfl,hb1⟩;have B1:=hid (B0.out.trans (hb1.mono B0.out.size));have HB1:=hid hb1;obtain ⟨k0,k1,k2,k4⟩:=KEY.out w1 hb1;clear hb1;go_wp2_with fail
 all_goals
  refine (rtext_any xs w1).mono ?_;rintro e w2 ⟨rfl,hb2⟩;have B2:=hid (B1.out.trans (hb2.mono B1.out.size));have K4:=hid (bget hb2 k4);clear hb2 k0 k1 k2 k4 HB1 KEY
  by_cases ht:textE vU xs=0
  case neg =>
   have HN:=hid (HNX.out.trans (if_pos ht));have HT:=hid (show textE (fun s=>validD s.data.toList) xs=textE vU xs from rfl);rw [HT.out];clear HT;generalize textE vU xs=te at *;have e1:(te != 0)=true:=by simpa using ht
   have e1':(te == 0)=false:=by simpa using ht
   clear ht;go_wp2
   go_ret
   exact ⟨ret_int HN.out,B2.out⟩
  case pos =>
  have HNK:=hid (HNX.out.trans (if_neg (by simpa using ht)));clear HNX;rw [show textE (fun s=>validD s.data.toList) xs=0 from ht];clear ht;go_wp2
  go_loopg [4] ks.length (fun gg s4 wr=>∃ k:Nat,k<=ks.length/\ks.length - k<=gg/\s4=.int .i64 k/\Aside (Below w2.heap.size w2 wr)/\Aside (nx=keysE vU (pvK ks k) (ks.drop k)))
  case atStart=>exact ⟨0,Nat.zero_le _,by omega,rfl,Below.refl _ _,by show nx=keysE vU (pvK ks 0) (ks.drop 0);rw [List.drop_zero];exact HNK.out⟩
  case round =>
   clear HNK;obtain ⟨k,hk,hg,rfl,BW,AL⟩:=hrel;have k4:=bget BW.out K4.out;have hz1:=World.block_lt_of_cell? _ _ k4;simp only at hz1;have BX:=hid (B2.out.trans (BW.out.mono B2.out.size))
   by_cases hlt:k < ks.length
   case neg =>
    have hltz:¬ (k:Int) < (ks.length:Int):=by omega
    have HN:=hid (show nx=0 by rw [AL.out,List.drop_eq_nil_of_le (by omega)];cases pvK ks k <;> rfl);clear AL BW;go_wp2
    go_ret
    exact ⟨ret_int HN.out,BX.out⟩
   have hltz:(k:Int) < (ks.length:Int):=by omega
   have HKx:=hid (HK.out.below strR_mono BX.out);obtain ⟨b,off,rfl,hb,g0,_⟩:=str_at HKx.out k hlt;have AK:=hid (AL.out.trans (keysE_step vU hlt));clear AL;have BW2:=hid BW.out;clear BW
   by_cases ht:textE vU ks[k]=0
   case neg =>
    have HN:=hid (AK.out.trans (if_pos ht));have HT:=hid (show textE (fun s=>validD s.data.toList) ks[k]=textE vU ks[k] from rfl);generalize ks[k]=kx at *;generalize textE vU kx=te at *;have e1:(te != 0)=true:=by simpa using ht
    have e1':(te == 0)=false:=by simpa using ht
    clear ht AK;go_wp2_with fail
    refine (rtext_any kx _).mono ?_;rintro e w3 ⟨rfl,hb3⟩;rw [HT.out];have B3:=hid (BX.out.trans (hb3.mono BX.out.size));clear hb3;go_wp2
    go_ret
    exact ⟨ret_int HN.out,B3.out⟩
   case pos =>
   have AK2:=hid (AK.out.trans (if_neg (by simpa using ht)));have HT:=hid (show textE (fun s=>validD s.data.toList) ks[k]=0 from ht);clear AK ht
   by_cases h0:k=0
   case pos =>
    subst h0;have AK3:=hid (AK2.out.trans (if_pos rfl));generalize ks[0]=kx at *;clear AK2;simp only [Nat.add_zero] at g0;go_wp2_with fail
    refine (rtext_any kx _).mono ?_;rintro e w3 ⟨rfl,hb3⟩;rw [HT.out];have B3:=hid (BW2.out.trans (hb3.mono BW2.out.size));have k4':=bget hb3 k4;have hz3:=Nat.lt_of_lt_of_le hz1 hb3.size;clear hb3 hz1 k4 g0 hb;have hcg:=cells_regrown w3;go_wp2
    refine wp_region_quiet_below (by kernel_rfl) (by kernel_rfl) ?_
    repeat (first | go_big_quiet_step (fail) | quiet_step (fail))
    refine wpQuiet_nil ?_;intro _ hw';obtain ⟨⟨dq,osq⟩,hw''⟩:=hw';subst hw'';clear hcg;have BV:=hid (B3.out.trans ((below_regrown w3 dq osq).mono B3.out.size));go_wp2
    go_roundg (ks.length - (0+1))
    case measure=>omega
    case rel=>exact ⟨0+1,by omega,by omega,by go_num,BV.out,AK3.out⟩
   case neg =>
   have hpk:k - 1 < ks.length:=by omega
   obtain ⟨b',off',hr',hb',g1,_⟩:=str_at HKx.out (k - 1) hpk;simp only [Option.some.injEq,Addr.mk.injEq,and_true] at hr';obtain ⟨rfl,rfl⟩:=hr'
   have HP:=hid (show pvK ks k=some ks[k - 1] by
    obtain ⟨j,rfl⟩:∃ j,k=j+1:=⟨k - 1,by omega⟩;exact List.getElem?_eq_getElem hpk)
   have HO:=hid (show orderB (pvK ks k) ks[k]=decide (ltS ks[k - 1] ks[k]) by rw [HP.out];rfl);clear HP;have y1:(0:Int)<=(k:Int) - 1:=by omega
   have y2:(k:Int) - 1 < (ks.length:Int):=by omega
   have y3:0 < k:=by omega
   by_cases ho:ltS ks[k - 1] ks[k]
   case pos =>
    have AK3:=hid (AK2.out.trans (if_pos (by rw [HO.out];exact decide_eq_true ho)));have e1:=less_yes ho;clear AK2 HO ho h0;generalize ks[k - 1]=kp at *;generalize ks[k]=kx at *;go_wp2_with fail
    refine (rtext_any kx _).mono ?_;rintro e w3 ⟨rfl,hb3⟩;rw [HT.out];have B3:=hid (BW2.out.trans (hb3.mono BW2.out.size));have k4':=bget hb3 k4;have g0':=bget hb3 g0;have g1':=bget hb3 g1;have hz3:=Nat.lt_of_lt_of_le hz1 hb3.size;have hb4:=Nat.lt_of_lt_of_le hb hb3.size;clear hb3 hz1 k4 g0 g1 hb hb';have hcg:=cells_regrown w3;have t1:((k:Int) - 1).toNat=k - 1:=by omega
    have x1:IntKind.i64.wrap ((k:Int) - 1)=(k:Int) - 1:=IntWalk.i64_in _ (by omega);go_wp2
    refine wp_region_quiet_below (by kernel_rfl) (by kernel_rfl) ?_
    repeat (first | go_big_quiet_step (fail) | quiet_step (fail))
    refine wpQuiet_nil ?_;intro _ hw';obtain ⟨⟨dq,osq⟩,hw''⟩:=hw';subst hw'';clear hcg t1 x1;have BV:=hid (B3.out.trans ((below_regrown w3 dq osq).mono B3.out.size));go_wp2
    go_roundg (ks.length - (k+1))
    case measure=>omega
    case rel=>exact ⟨k+1,by omega,by omega,by go_num,BV.out,AK3.out⟩
   case neg =>
    have HN:=hid (AK2.out.trans (if_neg (by rw [HO.out];simpa using ho)));have e1:=less_no ho;clear AK2 HO ho h0;generalize ks[k - 1]=kp at *;generalize ks[k]=kx at *;go_wp2_with fail
    refine (rtext_any kx _).mono ?_;rintro e w3 ⟨rfl,hb3⟩;rw [HT.out];have B3:=hid (BX.out.trans (hb3.mono BX.out.size));have k4':=bget hb3 k4;have g0':=bget hb3 g0;have g1':=bget hb3 g1;have hz3:=Nat.lt_of_lt_of_le hz1 hb3.size;have hb4:=Nat.lt_of_lt_of_le hb hb3.size;clear hb3 hz1 k4 g0 g1 hb hb';have hcg:=cells_regrown w3;have t1:((k:Int) - 1).toNat=k - 1:=by omega
    have x1:IntKind.i64.wrap ((k:Int) - 1)=(k:Int) - 1:=IntWalk.i64_in _ (by omega);go_wp2
    refine wp_region_quiet_below (by kernel_rfl) (by kernel_rfl) ?_
    repeat (first | go_big_quiet_step (fail) | quiet_step (fail))
    refine wpQuiet_nil ?_;intro _ hw';obtain ⟨⟨dq,osq⟩,hw''⟩:=hw';subst hw'';clear hcg t1 x1;have BV:=hid (B3.out.trans ((below_regrown w3 dq osq).mono B3.out.size));go_wp2
    go_ret
    exact ⟨ret_int HN.out,BV.out⟩
theorem ret_int2 {a b c d:Int} (h:a=c) (h':b=d):Ending.returned (.tuple #[.int .i64 c,.int .i64 d])=.returned (.tuple #[.int .i64 a,.int .i64 b]):=by rw [h,h']
theorem chkL_append (vld:ByteArray->Bool) (a c:List Val) (lv:Int) (b:Nat):chkL vld (a ++ c) lv b=if (chkL vld a lv b).1≠0 then chkL vld a lv b else chkL vld c lv (chkL vld a lv b).2:=by
 induction a generalizing b with
 | nil=>simp [chkL]
 | cons x xs ih =>
   rw [List.cons_append,chkL,chkL]
   by_cases h:(chkV vld x lv b).1≠0
   . rw [if_pos h,if_pos h,if_pos h]
   . rw [if_neg h,if_neg h,ih]
theorem chkL_snoc (vld:ByteArray->Bool) {is:List Val} {k:Nat} (h:k < is.length) {lv:Int} {b m:Nat} (hm:chkL vld (is.take k) lv b=(0,m)) (h0:(chkV vld is[k] lv m).1=0):chkL vld (is.take (k+1)) lv b=(0,(chkV vld is[k] lv m).2):=by
 rw [List.take_succ_eq_append_getElem h,chkL_append,hm,if_neg (by simp),chkL,if_neg (by rw [h0];simp),chkL]
theorem chkL_stop (vld:ByteArray->Bool) {is:List Val} {k:Nat} (h:k < is.length) {lv:Int} {b m:Nat} (hm:chkL vld (is.take k) lv b=(0,m)) (h0:(chkV vld is[k] lv m).1≠0):chkL vld is lv b=chkV vld is[k] lv m:=by
 have e:chkL vld is lv b=chkL vld (is.take k ++ is.drop k) lv b:=by rw [List.take_append_drop]
 rw [e,chkL_append,hm,if_neg (by simp),List.drop_eq_getElem_cons h,chkL,if_pos h0]
theorem chk_bd (vld:ByteArray->Bool) (x:Val):∀ (lv:Int) (b:Nat),b<=4096->(chkV vld x lv b).2<=4096:=by
 refine Val.ind (P:=fun x=>∀ (lv:Int) (b:Nat),b<=4096->(chkV vld x lv b).2<=4096) ?_ x;intro x ih lv b hb;rw [chkV_eq]
 by_cases h1:32 < lv
 . rw [if_pos h1];exact hb
 rw [if_neg h1]
 by_cases h2:4096<=b
 . rw [if_pos h2];exact hb
 rw [if_neg h2]
 by_cases h3:nodeV vld x≠0
 . rw [if_pos h3];exact hb
 rw [if_neg h3]
 have key:∀ (is:List Val),(∀ y∈is,∀ (lv:Int) (b:Nat),b<=4096->(chkV vld y lv b).2<=4096)->∀ (lv:Int) (b:Nat),b<=4096->(chkL vld is lv b).2<=4096:=by
  intro is
  induction is with
  | nil=>intro _ lv b hb;rw [chkL];exact hb
  | cons y ys ihy =>
    intro h lv b hb;rw [chkL];split
    . exact h y List.mem_cons_self lv b hb
    . exact ihy (fun z hz=>h z (List.mem_cons_of_mem _ hz)) lv _ (h y List.mem_cons_self lv b hb)
 exact key x.items ih _ _ (by omega)
set_option maxRecDepth 100000 in
set_option maxHeartbeats 4000000 in
theorem rcheck_any (x:Val):∀ (lv:Int) (n:Nat) (r:Option Addr) (c:Nat) (rk:Option Addr) (ck:Nat) (w:World),VR5 w r c rk ck x->0<=lv->lv<=33->n<=4096 ->
  Calls Tryz.prog 110 #[.agg #[.int .i64 x.kind,.int .i64 x.num,.string x.str,.slice r x.items.length c,.slice rk x.keys.length ck],.int .i64 lv,.int .i64 n] w fun e w'=>e=.returned (.tuple #[.int .i64 (chkV vU x lv n).1,.int .i64 (chkV vU x lv n).2])/\Below w.heap.size w w':=by
 refine Val.ind (P:=fun x=>∀ (lv:Int) (n:Nat) (r:Option Addr) (c:Nat) (rk:Option Addr) (ck:Nat) (w:World),VR5 w r c rk ck x->0<=lv->lv<=33->n<=4096 ->
  Calls Tryz.prog 110 #[.agg #[.int .i64 x.kind,.int .i64 x.num,.string x.str,.slice r x.items.length c,.slice rk x.keys.length ck],.int .i64 lv,.int .i64 n] w fun e w'=>e=.returned (.tuple #[.int .i64 (chkV vU x lv n).1,.int .i64 (chkV vU x lv n).2])/\Below w.heap.size w w') ?_ x
 intro x ih lv n r c rk ck w hx hl0 hl1 hn;obtain ⟨hI,hK,_,_,hs,hkl,hil⟩:=hx.parts;obtain ⟨_,hlc,hcm⟩:=sl_len hI;have HI:=hid hI;have hb0:Below w.heap.size w (w.alloc (.cells #[.int .i64 x.kind,.int .i64 x.num,.string x.str,.slice r x.items.length c,.slice rk x.keys.length ck] 39)):=(Below.refl _ _).alloc (Nat.le_refl _) _;have ND:=hid (rnode_any x r c rk ck _ (hx.below hb0));have HN:=hid (chkV_eq vU x lv n);have B0:=hid hb0;have IH:=hid ih;clear hb0 hI hK hx ih;generalize hnv:nodeV vU x=nv at *;clear hnv;generalize hnx:chkV vU x lv n=nx at *;clear hnx;obtain ⟨nx1,nx2⟩:=nx;simp only at *;generalize x.kind=xk at *;generalize x.num=xn at *;generalize x.str=xs at *;generalize x.keys.length=nk at *;generalize hxi:x.items=is at *;clear hxi
 by_cases h1:32 < lv
 . have HF:=hid (show nx1=4/\nx2=n by have:=HN.out;rw [if_pos h1] at this;simpa using this)
   go_enter Tryz.func110,Tryz.ntmps110;go_wp2
   go_ret2
   exact ⟨ret_int2 HF.out.1 (by rw [HF.out.2]),B0.out⟩
 have HN1:=hid (HN.out.trans (if_neg h1));clear HN
 by_cases h2:4096<=n
 . have HF:=hid (show nx1=14/\nx2=n by have:=HN1.out;rw [if_pos h2] at this;simpa using this)
   have h2z:4096<=(n:Int):=by omega
   go_enter Tryz.func110,Tryz.ntmps110;go_wp2
   go_ret2
   exact ⟨ret_int2 HF.out.1 (by rw [HF.out.2]),B0.out⟩
 have HN2:=hid (HN1.out.trans (if_neg h2));have h2z:¬ 4096<=(n:Int):=by omega
 clear HN1 h2
 have key:∀ (w1:World) (hb:Below (w.alloc (.cells #[.int .i64 xk,.int .i64 xn,.string xs,.slice r is.length c,.slice rk nk ck] 39)).heap.size (w.alloc (.cells #[.int .i64 xk,.int .i64 xn,.string xs,.slice r is.length c,.slice rk nk ck] 39)) w1),
  w1.cell? ⟨w.heap.size,3,none⟩=some (.slice r is.length c):=fun w1 hb=>bget hb (cell_at rfl rfl)
 have KEY:=hid key;clear key
 by_cases h3:nv=0
 case neg =>
  have HF:=hid (show nx1=nv/\nx2=n by have:=HN2.out;rw [if_pos h3] at this;simpa using this);have e1:(nv != 0)=true:=by simpa using h3
  have e2:(nv == 0)=false:=by simpa using h3
  clear h3 HN2;go_enter Tryz.func110,Tryz.ntmps110;go_wp2_with fail
  refine ND.out.mono ?_;rintro e w1 ⟨rfl,hb1⟩;have B1:=hid (B0.out.trans (hb1.mono B0.out.size));clear hb1;go_wp2
  go_ret2
  exact ⟨ret_int2 HF.out.1 (by rw [HF.out.2]),B1.out⟩
 case pos =>
 subst h3;have HN3:=hid (HN2.out.trans (if_neg (by simp)));clear HN2;go_enter Tryz.func110,Tryz.ntmps110;go_wp2_with fail
 refine ND.out.mono ?_;rintro e w1 ⟨rfl,hb1⟩;have B1:=hid (B0.out.trans (hb1.mono B0.out.size));have K3:=hid (KEY.out w1 hb1);clear hb1 KEY;go_wp2
 go_loopg [9,10] is.length (fun gg s9 s10 wr=>∃ k m:Nat,k<=is.length/\is.length - k<=gg/\s10=.int .i64 k/\s9=.int .i64 m/\m<=4096/\Aside (Below w1.heap.size w1 wr)/\Aside (chkL vU (is.take k) (lv+1) (n+1)=(0,m)))
 case atStart=>exact ⟨0,n+1,Nat.zero_le _,by omega,rfl,rfl,by omega,Below.refl _ _,by show chkL vU (is.take 0) (lv+1) (n+1)=(0,n+1);rw [List.take_zero,chkL]⟩
 case round =>
  obtain ⟨k,m,hk,hg,rfl,rfl,hm,BW,AL⟩:=hrel;have k3:=bget BW.out K3.out;have hz1:=World.block_lt_of_cell? _ _ k3;simp only at hz1;have BX:=hid (B1.out.trans (BW.out.mono B1.out.size));have BW2:=hid BW.out;clear BW
  by_cases hlt:k < is.length
  case neg =>
   have hltz:¬ (k:Int) < (is.length:Int):=by omega
   have HF:=hid (show nx1=0/\nx2=m by
    have:=AL.out;rw [show k=is.length by omega,List.take_length,<-HN3.out] at this;simpa using this)
   clear AL;go_wp2
   go_ret2
   exact ⟨ret_int2 HF.out.1 (by rw [HF.out.2]),BX.out⟩
  have hltz:(k:Int) < (is.length:Int):=by omega
  obtain ⟨b,off,ri,ci,rk',ck',rfl,hb,g0,g1,g2,g3,g4,h5⟩:=val_at (slv_mono HI.out BX.out) k hlt;have C:=hid (IH.out _ (List.getElem_mem hlt) (lv+1) m ri ci rk' ck' wr h5 (by omega) (by omega) hm);have HS:=hid (fun h0=>chkL_snoc vU hlt AL.out h0);have HP:=hid (fun h0=>chkL_stop vU hlt AL.out h0);have hbd:=chk_bd vU is[k] (lv+1) m hm;clear h5 AL;generalize is[k]=y at *;generalize chkV vU y (lv+1) m=cv at *;obtain ⟨c1,c2⟩:=cv;obtain ⟨yk,yn,ys,yi,yks⟩:=y;simp only [Val.kind,Val.num,Val.str,Val.items,Val.keys] at g0 g1 g2 g3 g4 C HS HP hbd
  by_cases h0:c1=0
  case pos =>
   subst h0;have HT:=hid (HS.out rfl);clear HS HP;go_wp2_with fail
   refine C.out.mono ?_;rintro e w2 ⟨rfl,hb2⟩;have B2:=hid (BW2.out.trans (hb2.mono BW2.out.size));clear hb2;go_wp2
   go_roundg (is.length - (k+1))
   case measure=>omega
   case rel=>exact ⟨k+1,c2,by omega,by omega,by go_num,rfl,hbd,B2.out,HT.out⟩
  case neg =>
   have HF:=hid (show nx1=c1/\nx2=c2 by have:=HN3.out.trans (HP.out h0);simpa using this);have e1:(c1 != 0)=true:=by simpa using h0
   have e2:(c1 == 0)=false:=by simpa using h0
   clear HS HP h0;go_wp2_with fail
   refine C.out.mono ?_;rintro e w2 ⟨rfl,hb2⟩;have B2:=hid (BX.out.trans (hb2.mono BX.out.size));clear hb2;go_wp2
   go_ret2
   exact ⟨ret_int2 HF.out.1 (by rw [HF.out.2]),B2.out⟩
theorem rCheck_any (x:Val) (r:Option Addr) (c:Nat) (rk:Option Addr) (ck:Nat) (w:World) (hx:VR5 w r c rk ck x) :
  Calls Tryz.prog 61 #[.agg #[.int .i64 x.kind,.int .i64 x.num,.string x.str,.slice r x.items.length c,.slice rk x.keys.length ck]] w fun e w'=>e=.returned (.int .i64 (checkV vU x))/\Below w.heap.size w w':=by
 have hb0:Below w.heap.size w (w.alloc (.cells #[.int .i64 x.kind,.int .i64 x.num,.string x.str,.slice r x.items.length c,.slice rk x.keys.length ck] 39)):=(Below.refl _ _).alloc (Nat.le_refl _) _;have C:=hid (rcheck_any x 1 0 r c rk ck _ (hx.below hb0) (by omega) (by omega) (by omega));have HN:=hid (show checkV vU x=(chkV vU x 1 0).1 from rfl);have B0:=hid hb0;clear hb0 hx;generalize chkV vU x 1 0=cv at *;obtain ⟨c1,c2⟩:=cv;simp only at *;generalize checkV vU x=nx at *;generalize x.kind=xk at *;generalize x.num=xn at *;generalize x.str=xs at *;generalize x.keys.length=nk at *;generalize x.items.length=ni at *;go_enter Tryz.func61,Tryz.ntmps61;go_wp2_with fail
 refine C.out.mono ?_;rintro e w1 ⟨rfl,hb1⟩;have B1:=hid (B0.out.trans (hb1.mono B0.out.size));clear hb1;go_wp2
 go_ret
 exact ⟨ret_int HN.out,B1.out⟩
set_option maxRecDepth 100000 in
theorem seq_any (ks ks2:List ByteArray) (rk rk2:Option Addr) (ck ck2:Nat) (w:World) (hK:Sl StrR 1 w (.slice rk ks.length ck) ks) (hK2:Sl StrR 1 w (.slice rk2 ks2.length ck2) ks2) :
  Calls Tryz.prog 87 #[.slice rk ks.length ck,.slice rk2 ks2.length ck2] w fun e w'=>e=.returned (.bool (decide (ks=ks2)))/\Below w.heap.size w w':=by
 obtain ⟨_,hlk,hkm⟩:=sl_len hK;obtain ⟨_,hlk2,hkm2⟩:=sl_len hK2;have HK:=hid hK;have HK2:=hid hK2;clear hK hK2
 by_cases h5:ks.length=ks2.length
 case neg =>
  have HF:=hid (decide_eq_false (show ¬ ks=ks2 from fun e=>h5 (by rw [e])));have e1:((ks.length:Int) != (ks2.length:Int))=true:=by simp;omega
  have e2:((ks.length:Int) == (ks2.length:Int))=false:=by simp;omega
  clear h5;go_enter Tryz.func87,Tryz.ntmps87;go_wp2
  go_ret
  exact ⟨ret_bool HF.out,Below.refl _ _⟩
 case pos =>
 have e1:((ks.length:Int) != (ks2.length:Int))=false:=by simp;omega
 have e2:((ks.length:Int) == (ks2.length:Int))=true:=by simp;omega
 have H5:=hid h5;clear h5;go_enter Tryz.func87,Tryz.ntmps87;go_wp2
 clear e1 e2;go_loopg [13] ks.length (fun gg s5 wr=>∃ k:Nat,k<=ks.length/\ks.length - k<=gg/\s5=.int .i64 k/\Aside (Below w.heap.size w wr)/\Aside (∀ i (h:i < ks.length) (h':i < ks2.length),i < k->ks[i]=ks2[i]))
 case atStart=>exact ⟨0,Nat.zero_le _,by omega,rfl,Below.refl _ _,fun i _ _ h=>absurd h (by omega)⟩
 case round =>
  obtain ⟨k,hk,hg,rfl,BW,AL⟩:=hrel
  by_cases hlt:k < ks.length
  case pos =>
   have hltz:(k:Int) < (ks.length:Int):=by omega
   have hlt2:k < ks2.length:=by have:=H5.out;omega
   have hltz2:(k:Int) < (ks2.length:Int):=by omega
   have HKx:=HK.out.below strR_mono BW.out;have HKy:=HK2.out.below strR_mono BW.out;obtain ⟨b,off,rfl,hb,g0,_⟩:=str_at HKx k hlt;obtain ⟨b2,off2,rfl,hb2,g1,_⟩:=str_at HKy k hlt2;have BW2:=hid BW.out;clear HKx HKy BW;have hcg:=cells_regrown wr
   by_cases hq:ks[k]=ks2[k]
   . have AL2:=hid (show ∀ i (h:i < ks.length) (h':i < ks2.length),i < k+1->ks[i]=ks2[i] from fun i h h' hi=>by
      by_cases e:i < k
      . exact AL.out i h h' e
      . obtain rfl:i=k:=by omega
        exact hq)
     clear AL;rw [<-hq] at g1;clear hq;generalize ks[k]=kx at *;go_wp2
     refine wp_region_quiet_below (by kernel_rfl) (by kernel_rfl) ?_
     repeat (first | go_big_quiet_step (fail) | quiet_step (fail))
     refine wpQuiet_nil ?_;intro _ hw';obtain ⟨⟨dq,osq⟩,hw''⟩:=hw';subst hw'';clear hcg;have BV:=hid (BW2.out.trans ((below_regrown wr dq osq).mono BW2.out.size));go_wp2
     go_roundg (ks.length - (k+1))
     case measure=>omega
     case rel=>exact ⟨k+1,by omega,by omega,by go_num,BV.out,AL2.out⟩
   . have HF:=hid (decide_eq_false (show ¬ ks=ks2 from fun e=>hq (by simp only [e])))
     have e1:=str_ne' hq;have e2:=str_ne hq;clear AL hq;generalize ks[k]=kx at *;generalize ks2[k]=ky at *;go_wp2
     refine wp_region_quiet_below (by kernel_rfl) (by kernel_rfl) ?_
     repeat (first | go_big_quiet_step (fail) | quiet_step (fail))
     refine wpQuiet_nil ?_;intro _ hw';obtain ⟨⟨dq,osq⟩,hw''⟩:=hw';subst hw'';clear hcg;have BV:=hid (BW2.out.trans ((below_regrown wr dq osq).mono BW2.out.size));go_wp2
     go_ret
     exact ⟨ret_bool HF.out,BV.out⟩
  case neg =>
  have hltz:¬ (k:Int) < (ks.length:Int):=by omega
  have HF:=hid (decide_eq_true (show ks=ks2 from keys_eq_of H5.out fun i h h'=>AL.out i h h' (by omega)));have BW2:=hid BW.out;clear AL BW;go_wp2
  go_ret
  exact ⟨ret_bool HF.out,BW2.out⟩
set_option maxRecDepth 100000 in
set_option maxHeartbeats 2000000 in
theorem eqf_any (g:Nat) (R:Bool) (p:Val->Val->Bool) (eg:∀ args w,(callFunc g args).run Tryz.prog w=.ok (.enter g args) w) (is is2:List Val) (r r2:Option Addr) (c c2:Nat) (w:World)
  (hI:Sl VR 5 w (.slice r is.length c) is) (hI2:Sl VR 5 w (.slice r2 is2.length c2) is2) (hR:R=true ↔ is.length=is2.length/\∀ i (h:i < is.length) (h':i < is2.length),p is[i] is2[i]=true)
  (hp:∀ x∈is,∀ (y:Val) (r:Option Addr) (c:Nat) (rk:Option Addr) (ck:Nat) (r2:Option Addr) (c2:Nat) (rk2:Option Addr) (ck2:Nat) (w:World),VR5 w r c rk ck x->VR5 w r2 c2 rk2 ck2 y ->
   Calls Tryz.prog g #[.agg #[.int .i64 x.kind,.int .i64 x.num,.string x.str,.slice r x.items.length c,.slice rk x.keys.length ck],.agg #[.int .i64 y.kind,.int .i64 y.num,.string y.str,.slice r2 y.items.length c2,.slice rk2 y.keys.length ck2]] w fun e w'=>e=.returned (.bool (p x y))/\Below w.heap.size w w') :
  Calls Tryz.prog 88 #[.slice r is.length c,.slice r2 is2.length c2,.func (.func g) #[] #[]] w fun e w'=>e=.returned (.bool R)/\Below w.heap.size w w':=by
 obtain ⟨_,hlc,hcm⟩:=sl_len hI;obtain ⟨_,hlc2,hcm2⟩:=sl_len hI2;have HI:=hid hI;have HI2:=hid hI2;have HR:=hid hR;have HP:=hid hp;clear hI hI2 hR hp
 by_cases h4:is.length=is2.length
 case neg =>
  have HF:=hid (show R=false by rw [Bool.eq_false_iff];intro e;exact h4 (HR.out.1 e).1);have e1:((is.length:Int) != (is2.length:Int))=true:=by simp;omega
  have e2:((is.length:Int) == (is2.length:Int))=false:=by simp;omega
  clear h4 HR;go_enter Tryz.func88,Tryz.ntmps88;go_wp2
  go_ret
  exact ⟨ret_bool HF.out,Below.refl _ _⟩
 case pos =>
 have e1:((is.length:Int) != (is2.length:Int))=false:=by simp;omega
 have e2:((is.length:Int) == (is2.length:Int))=true:=by simp;omega
 have H4:=hid h4;clear h4;go_enter Tryz.func88,Tryz.ntmps88;go_wp2
 clear e1 e2;go_loopg [17] is.length (fun gg s6 wr=>∃ k:Nat,k<=is.length/\is.length - k<=gg/\s6=.int .i64 k/\Aside (Below w.heap.size w wr)/\Aside (∀ i (h:i < is.length) (h':i < is2.length),i < k->p is[i] is2[i]=true))
 case atStart=>exact ⟨0,Nat.zero_le _,by omega,rfl,Below.refl _ _,fun i _ _ h=>absurd h (by omega)⟩
 case round =>
  obtain ⟨j,hj,hg2,rfl,BW,AL⟩:=hrel
  by_cases hlt:j < is.length
  case pos =>
   have hltz:(j:Int) < (is.length:Int):=by omega
   have hlt2:j < is2.length:=by have:=H4.out;omega
   have hltz2:(j:Int) < (is2.length:Int):=by omega
   have HIx:=slv_mono HI.out BW.out;have HIy:=slv_mono HI2.out BW.out;obtain ⟨b,off,ri,ci,rk',ck',rfl,hb,g0,g1,g2,g3,g4,h5⟩:=val_at HIx j hlt;obtain ⟨b2,off2,ri2,ci2,rk2',ck2',rfl,hb2,f0,f1,f2,f3,f4,h6⟩:=val_at HIy j hlt2;have CC:=hid (fun (W:World) (hW:Below wr.heap.size wr W)=>HP.out _ (List.getElem_mem hlt) is2[j] ri ci rk' ck' ri2 ci2 rk2' ck2' W (h5.below hW) (h6.below hW))
   have HAL:=hid (show p is[j] is2[j]=true->∀ i (h:i < is.length) (h':i < is2.length),i < j+1->p is[i] is2[i]=true from fun hq i h h' hi=>by
    by_cases e:i < j
    . exact AL.out i h h' e
    . obtain rfl:i=j:=by omega
      exact hq)
   have HF:=hid (show p is[j] is2[j]=false->R=false from fun hq=>by
    rw [Bool.eq_false_iff];intro e;have:=(HR.out.1 e).2 j hlt hlt2;rw [hq] at this;cases this)
   have BW2:=hid BW.out;clear HIx HIy BW h5 h6 AL;generalize is[j]=vx at *;generalize is2[j]=vy at *;generalize hpq:p vx vy=q at *;clear hpq;obtain ⟨vk,vn,vs,vi,vks⟩:=vx;obtain ⟨uk,un,us,ui,uks⟩:=vy;simp only [Val.kind,Val.num,Val.str,Val.items,Val.keys] at g0 g1 g2 g3 g4 f0 f1 f2 f3 f4 CC;have B1:=hid (show Below wr.heap.size wr ((wr.alloc (.cells #[.int .i64 vk,.int .i64 vn,.string vs,.slice ri vi.length ci,.slice rk' vks.length ck'] 39)).alloc (.cells #[.int .i64 uk,.int .i64 un,.string us,.slice ri2 ui.length ci2,.slice rk2' uks.length ck2'] 39)) from ((Below.refl _ _).alloc (Nat.le_refl _) _).alloc (by simp) _);cases q
   case false =>
    have HF2:=hid (HF.out rfl);clear HAL HF;go_wp2_with (go_at_fn g;refine (CC.out _ B1.out).mono ?_;rintro e w1 ⟨rfl,hb1⟩)
    have B2:=hid (BW2.out.trans ((B1.out.trans (hb1.mono B1.out.size)).mono BW2.out.size));clear hb1;go_ret
    exact ⟨ret_bool HF2.out,B2.out⟩
   case true =>
    have HA:=hid (HAL.out rfl);clear HAL HF;go_wp2_with (go_at_fn g;refine (CC.out _ B1.out).mono ?_;rintro e w1 ⟨rfl,hb1⟩)
    have B2:=hid (BW2.out.trans ((B1.out.trans (hb1.mono B1.out.size)).mono BW2.out.size));clear hb1;go_roundg (is.length - (j+1))
    case measure=>omega
    case rel=>exact ⟨j+1,by omega,by omega,by go_num,B2.out,HA.out⟩
  case neg =>
  have hltz:¬ (j:Int) < (is.length:Int):=by omega
  have HF:=hid (show R=true from HR.out.2 ⟨H4.out,fun i h h'=>AL.out i h h' (by omega)⟩);have BW2:=hid BW.out;clear AL BW;go_wp2
  go_ret
  exact ⟨ret_bool HF.out,BW2.out⟩
theorem entersEq:∀ args w,(callFunc 46 args).run Tryz.prog w=.ok (.enter 46 args) w:=enters_of Tryz.func46 (by kernel_rfl) rfl
set_option maxRecDepth 100000 in
set_option maxHeartbeats 2000000 in
theorem peq_any (x:Val):∀ (y:Val) (r:Option Addr) (c:Nat) (rk:Option Addr) (ck:Nat) (r2:Option Addr) (c2:Nat) (rk2:Option Addr) (ck2:Nat) (w:World),VR5 w r c rk ck x->VR5 w r2 c2 rk2 ck2 y ->
  Calls Tryz.prog 46 #[.agg #[.int .i64 x.kind,.int .i64 x.num,.string x.str,.slice r x.items.length c,.slice rk x.keys.length ck],.agg #[.int .i64 y.kind,.int .i64 y.num,.string y.str,.slice r2 y.items.length c2,.slice rk2 y.keys.length ck2]] w fun e w'=>e=.returned (.bool (eqV x y))/\Below w.heap.size w w':=by
 refine Val.ind (P:=fun x=>∀ (y:Val) (r:Option Addr) (c:Nat) (rk:Option Addr) (ck:Nat) (r2:Option Addr) (c2:Nat) (rk2:Option Addr) (ck2:Nat) (w:World),VR5 w r c rk ck x->VR5 w r2 c2 rk2 ck2 y ->
  Calls Tryz.prog 46 #[.agg #[.int .i64 x.kind,.int .i64 x.num,.string x.str,.slice r x.items.length c,.slice rk x.keys.length ck],.agg #[.int .i64 y.kind,.int .i64 y.num,.string y.str,.slice r2 y.items.length c2,.slice rk2 y.keys.length ck2]] w fun e w'=>e=.returned (.bool (eqV x y))/\Below w.heap.size w w') ?_ x
 intro x ih y r c rk ck r2 c2 rk2 ck2 w hx hy;obtain ⟨hI,hK,_,_,_,hkl,hil⟩:=hx.parts;obtain ⟨hI2,hK2,_,_,_,hkl2,hil2⟩:=hy.parts;have HI:=hid hI;have HK:=hid hK;have HI2:=hid hI2;have HK2:=hid hK2;obtain ⟨_,hlc,hcm⟩:=sl_len hI;obtain ⟨_,hlk,hkm⟩:=sl_len hK;obtain ⟨_,hlc2,hcm2⟩:=sl_len hI2;obtain ⟨_,hlk2,hkm2⟩:=sl_len hK2;have HN:=hid (eqV_eq x y);have HL:=hid (fun (W:World) (h1:Sl VR 5 W (.slice r x.items.length c) x.items) (h2:Sl VR 5 W (.slice r2 y.items.length c2) y.items)=>eqf_any 46 (eqL x.items y.items) eqV entersEq x.items y.items r r2 c c2 W h1 h2 eqL_true ih);clear ih hI hK hx hI2 hK2 hy;generalize x.kind=xk at *;generalize x.num=xn at *;generalize x.str=xs at *;generalize y.kind=yk at *;generalize y.num=yn at *;generalize y.str=ys at *;generalize hnx:eqV x y=nx at *;clear hnx;generalize hxi:x.items=is at *;clear hxi;generalize hxi:x.keys=ks at *;clear hxi;generalize hxi:y.items=is2 at *;clear hxi;generalize hxi:y.keys=ks2 at *;clear hxi;have B0:=hid (show Below w.heap.size w ((w.alloc (.cells #[.int .i64 xk,.int .i64 xn,.string xs,.slice r is.length c,.slice rk ks.length ck] 39)).alloc (.cells #[.int .i64 yk,.int .i64 yn,.string ys,.slice r2 is2.length c2,.slice rk2 ks2.length ck2] 39)) from ((Below.refl _ _).alloc (Nat.le_refl _) _).alloc (by simp) _);have HN1:=hid HN.out;clear HN
 by_cases h1:xk=yk
 case neg =>
  have HF:=hid (show nx=false by rw [HN1.out];simp [h1]);have e1:(xk != yk)=true:=by simpa using h1
  have e2:(xk == yk)=false:=by simpa using h1
  clear h1;go_enter Tryz.func46,Tryz.ntmps46;go_wp2
  go_ret
  exact ⟨ret_bool HF.out,B0.out⟩
 subst h1
 by_cases h2:xn=yn
 case neg =>
  have HF:=hid (show nx=false by rw [HN1.out];simp [h2]);have e1:(xn != yn)=true:=by simpa using h2
  have e2:(xn == yn)=false:=by simpa using h2
  clear h2;go_enter Tryz.func46,Tryz.ntmps46;go_wp2
  go_ret
  exact ⟨ret_bool HF.out,B0.out⟩
 subst h2
 by_cases h3:xs=ys
 case neg =>
  have HF:=hid (show nx=false by rw [HN1.out];simp [h3]);have e1:=str_ne' h3;have e2:=str_ne h3;clear h3;go_enter Tryz.func46,Tryz.ntmps46;go_wp2
  go_ret
  exact ⟨ret_bool HF.out,B0.out⟩
 subst h3;have SQ:=hid (seq_any ks ks2 rk rk2 ck ck2 ((w.alloc (.cells #[.int .i64 xk,.int .i64 xn,.string xs,.slice r is.length c,.slice rk ks.length ck] 39)).alloc (.cells #[.int .i64 xk,.int .i64 xn,.string xs,.slice r2 is2.length c2,.slice rk2 ks2.length ck2] 39)) (HK.out.below strR_mono B0.out) (HK2.out.below strR_mono B0.out))
 have key:∀ (w1:World),Below (((w.alloc (.cells #[.int .i64 xk,.int .i64 xn,.string xs,.slice r is.length c,.slice rk ks.length ck] 39)).alloc (.cells #[.int .i64 xk,.int .i64 xn,.string xs,.slice r2 is2.length c2,.slice rk2 ks2.length ck2] 39))).heap.size ((w.alloc (.cells #[.int .i64 xk,.int .i64 xn,.string xs,.slice r is.length c,.slice rk ks.length ck] 39)).alloc (.cells #[.int .i64 xk,.int .i64 xn,.string xs,.slice r2 is2.length c2,.slice rk2 ks2.length ck2] 39)) w1->w1.cell? ⟨w.heap.size,3,none⟩=some (.slice r is.length c)/\w1.cell? ⟨w.heap.size+1,3,none⟩=some (.slice r2 is2.length c2):=
  fun w1 hb=>⟨bget hb (bget ((Below.refl _ _).alloc (Nat.le_refl _) _) (cell_at rfl rfl)),bget hb (cell_at (by simp) rfl)⟩
 have KEY:=hid key;clear key
 by_cases h4:ks=ks2
 case neg =>
  have HF:=hid (show nx=false by rw [HN1.out,decide_eq_false h4];simp);rw [decide_eq_false h4] at SQ;clear h4;go_enter Tryz.func46,Tryz.ntmps46;go_wp2_with fail
  refine SQ.out.mono ?_;rintro e w1 ⟨rfl,hb1⟩;have B1:=hid (B0.out.trans (hb1.mono B0.out.size));clear hb1;go_wp2
  go_ret
  exact ⟨ret_bool HF.out,B1.out⟩
 case pos =>
 have HF:=hid (show nx=eqL is is2 by rw [HN1.out,decide_eq_true h4];simp);rw [decide_eq_true h4] at SQ;clear h4;go_enter Tryz.func46,Tryz.ntmps46;go_wp2_with fail
 refine SQ.out.mono ?_;rintro e w1 ⟨rfl,hb1⟩;have B1:=hid (B0.out.trans (hb1.mono B0.out.size));obtain ⟨k3,k4⟩:=KEY.out w1 hb1;clear hb1 KEY;go_wp2_with fail
 refine (HL.out w1 (slv_mono HI.out B1.out) (slv_mono HI2.out B1.out)).mono ?_;rintro e w2 ⟨rfl,hb2⟩;have B2:=hid (B1.out.trans (hb2.mono B1.out.size));clear hb2;go_wp2
 go_ret
 exact ⟨ret_bool HF.out,B2.out⟩
def UT (w:World):Prop:=Lib.Utf8Tabs (Tryz.lays196_ren.g 3) (Tryz.lays196_ren.g 4) w
theorem UT.below {w w':World} (h:UT w) (hb:Below w.heap.size w w'):UT w':=
 ⟨fun c hc=>bget hb (h.1 c hc),fun i hi=>⟨bget hb (h.2 i hi).1,bget hb (h.2 i hi).2⟩⟩
theorem pvalid01_any (n:Int) (w:World):Calls Tryz.prog 163 #[.int .i64 n] w fun e w'=>e=.returned (.bool (decide (-9007199254740992<=n) && decide (n<=9007199254740992)))/\w=w':=by
 by_cases h1:-9007199254740992<=n
 . by_cases h2:n<=9007199254740992
   . have HN:=hid (show (decide (-9007199254740992<=n) && decide (n<=9007199254740992))=true by simp [h1,h2])
     go_enter Tryz.func163,Tryz.ntmps163;go_wp2
     go_ret
     exact ⟨ret_bool HN.out,rfl⟩
   . have HN:=hid (show decide (n<=9007199254740992)=false by simp [h2])
     go_enter Tryz.func163,Tryz.ntmps163;go_wp2
     go_ret
     exact ⟨ret_bool (by simp [HN.out]),rfl⟩
 . have HN:=hid (show (decide (-9007199254740992<=n) && decide (n<=9007199254740992))=false by simp [h1])
   go_enter Tryz.func163,Tryz.ntmps163;go_wp2
   go_ret
   exact ⟨ret_bool HN.out,rfl⟩
theorem pvalid_any (s:ByteArray) (w:World) (hu:UT w) (hs:s.size<=4096):Calls Tryz.prog 76 #[.string s] w fun e w'=>e=.returned (.bool (vU s))/\Below w.heap.size w w':=by
 have C:Hid (Calls Tryz.prog 119 #[.string s] w fun e w'=>e=.returned (.bool (vU s))/\Below w.heap.size w w'):=hid (Any.utf8_ValidString Tryz.lays196 s w (by omega) hu);have hz:(s.size:Int)<=4096:=by omega
 clear hu;generalize vU s=v at *;go_enter Tryz.func76,Tryz.ntmps76;go_wp2_with fail
 refine C.out.mono ?_;rintro e w1 ⟨rfl,hb1⟩;have HB:=hid hb1;clear hb1;go_wp2
 go_ret
 exact ⟨rfl,HB.out⟩
theorem ptext_any (s:ByteArray) (w:World) (hu:UT w) :
  Calls Tryz.prog 165 #[.string s] w fun e w'=>e=.returned (.int .i64 (textE vU s))/\Below w.heap.size w w':=by
 have HN:=hid (show textE vU s=if 4096 < s.size then 3 else if vU s=true then 0 else 1 from rfl)
 by_cases h1:4096 < s.size
 . have HN:=hid (HN.out.trans (if_pos h1))
   have h1z:(4096:Int) < (s.size:Int):=by omega
   go_enter Tryz.func165,Tryz.ntmps165;go_wp2
   go_ret
   exact ⟨ret_int HN.out,Below.refl _ _⟩
 have HN1:=hid (HN.out.trans (if_neg h1));have h1z:(s.size:Int)<=4096:=by omega
 have C:=hid (pvalid_any s w hu (by omega));clear HN hu;cases hv:vU s
 all_goals
  rw [hv] at C HN1;have HF:=hid HN1.out;clear hv HN1;go_enter Tryz.func165,Tryz.ntmps165;go_wp2_with fail
  refine C.out.mono ?_;rintro e w1 ⟨rfl,hb1⟩;have HB:=hid hb1;clear hb1;go_wp2
  go_ret
  exact ⟨ret_int (by rw [HF.out];rfl),HB.out⟩
set_option maxRecDepth 100000 in
set_option maxHeartbeats 8000000 in
theorem pshaped_k (k n:Int) (s:ByteArray) (ni nk:Nat) (r:Option Addr) (c:Nat) (rk:Option Addr) (ck:Nat) (w:World) (hni:ni<=10000000000000) (hnk:nk<=10000000000000) (hs:s.size<=9223372036854775807) :
  Calls Tryz.prog 164 #[.agg #[.int .i64 k,.int .i64 n,.string s,.slice r ni c,.slice rk nk ck]] w fun e w'=>e=.returned (.bool (shapedB k n s ni nk))/\Below w.heap.size w w':=by
 have B0:=hid (show Below w.heap.size w (w.alloc (.cells #[.int .i64 k,.int .i64 n,.string s,.slice r ni c,.slice rk nk ck] 39)) from (Below.refl _ _).alloc (Nat.le_refl _) _)
 by_cases k0:k < 0
 . have HX:=hid (show shapedB k n s ni nk=false by rw [shapedB_eq,decide_eq_false (show ¬ 0<=k by omega)];simp)
   go_enter Tryz.func164,Tryz.ntmps164;go_wp2
   go_ret
   exact ⟨ret_bool HX.out,B0.out⟩
 by_cases k6:6 < k
 . have HX:=hid (show shapedB k n s ni nk=false by rw [shapedB_eq,decide_eq_false (show ¬ k<=6 by omega)];simp)
   go_enter Tryz.func164,Tryz.ntmps164;go_wp2
   go_ret
   exact ⟨ret_bool HX.out,B0.out⟩
 have hk:k=0 ∨ k=1 ∨ k=2 ∨ k=3 ∨ k=4 ∨ k=5 ∨ k=6:=by omega
 clear k0 k6;rcases hk with rfl | rfl | rfl | rfl | rfl | rfl | rfl
 . by_cases n0:n=0
   . subst n0
     by_cases s0:s.size=0
     . have e4:=str_empty s0
       by_cases i0:ni=0
       . have e2:¬ 0 < ni:=by omega
         have e3:¬ (0:Int) < (ni:Int):=by omega
         by_cases m0:nk=0
         . have HX:=hid (show shapedB 0 0 s ni nk=true by rw [shapedB_eq];simp [numB,strB,itemsB,keysB, *])
           have e1:((nk:Int) == 0)=true:=by simp;omega
           try clear m0
           try clear i0
           try clear s0
           go_enter Tryz.func164,Tryz.ntmps164;go_wp2
           go_ret
           exact ⟨ret_bool HX.out,B0.out⟩
         . have HX:=hid (show shapedB 0 0 s ni nk=false by rw [shapedB_eq];simp [numB,strB,itemsB,keysB, *])
           have e1:((nk:Int) == 0)=false:=by simp;omega
           try clear m0
           try clear i0
           try clear s0
           go_enter Tryz.func164,Tryz.ntmps164;go_wp2
           go_ret
           exact ⟨ret_bool HX.out,B0.out⟩
       . have HX:=hid (show shapedB 0 0 s ni nk=false by rw [shapedB_eq];simp [numB,strB,itemsB,keysB, *])
         have e2:0 < ni:=by omega
         have e3:(0:Int) < (ni:Int):=by omega
         try clear m0
         try clear i0
         try clear s0
         go_enter Tryz.func164,Tryz.ntmps164;go_wp2
         go_ret
         exact ⟨ret_bool HX.out,B0.out⟩
     . have e4:=str_empty_no s0
       have HX:=hid (show shapedB 0 0 s ni nk=false by rw [shapedB_eq];simp [numB,strB,itemsB,keysB, *])
       try clear m0
       try clear i0
       try clear s0
       go_enter Tryz.func164,Tryz.ntmps164;go_wp2
       go_ret
       exact ⟨ret_bool HX.out,B0.out⟩
   . have HX:=hid (show shapedB 0 n s ni nk=false by rw [shapedB_eq];simp [numB,strB,itemsB,keysB, *])
     have e5:(n == 0)=false:=by simpa using n0
     have e7:(n != 0)=true:=by simpa using n0
     try clear m0
     try clear i0
     try clear s0
     go_enter Tryz.func164,Tryz.ntmps164;go_wp2
     go_ret
     exact ⟨ret_bool HX.out,B0.out⟩
 . by_cases n0:n=0
   . subst n0
     by_cases s0:s.size=0
     . have e4:=str_empty s0
       by_cases i0:ni=0
       . have e2:¬ 0 < ni:=by omega
         have e3:¬ (0:Int) < (ni:Int):=by omega
         by_cases m0:nk=0
         . have HX:=hid (show shapedB 1 0 s ni nk=true by rw [shapedB_eq];simp [numB,strB,itemsB,keysB, *])
           have e1:((nk:Int) == 0)=true:=by simp;omega
           try clear m0
           try clear i0
           try clear s0
           go_enter Tryz.func164,Tryz.ntmps164;go_wp2
           go_ret
           exact ⟨ret_bool HX.out,B0.out⟩
         . have HX:=hid (show shapedB 1 0 s ni nk=false by rw [shapedB_eq];simp [numB,strB,itemsB,keysB, *])
           have e1:((nk:Int) == 0)=false:=by simp;omega
           try clear m0
           try clear i0
           try clear s0
           go_enter Tryz.func164,Tryz.ntmps164;go_wp2
           go_ret
           exact ⟨ret_bool HX.out,B0.out⟩
       . have HX:=hid (show shapedB 1 0 s ni nk=false by rw [shapedB_eq];simp [numB,strB,itemsB,keysB, *])
         have e2:0 < ni:=by omega
         have e3:(0:Int) < (ni:Int):=by omega
         try clear m0
         try clear i0
         try clear s0
         go_enter Tryz.func164,Tryz.ntmps164;go_wp2
         go_ret
         exact ⟨ret_bool HX.out,B0.out⟩
     . have e4:=str_empty_no s0
       have HX:=hid (show shapedB 1 0 s ni nk=false by rw [shapedB_eq];simp [numB,strB,itemsB,keysB, *])
       try clear m0
       try clear i0
       try clear s0
       go_enter Tryz.func164,Tryz.ntmps164;go_wp2
       go_ret
       exact ⟨ret_bool HX.out,B0.out⟩
   . by_cases n1:n=1
     . subst n1
       by_cases s0:s.size=0
       . have e4:=str_empty s0
         by_cases i0:ni=0
         . have e2:¬ 0 < ni:=by omega
           have e3:¬ (0:Int) < (ni:Int):=by omega
           by_cases m0:nk=0
           . have HX:=hid (show shapedB 1 1 s ni nk=true by rw [shapedB_eq];simp [numB,strB,itemsB,keysB, *])
             have e1:((nk:Int) == 0)=true:=by simp;omega
             try clear m0
             try clear i0
             try clear s0
             go_enter Tryz.func164,Tryz.ntmps164;go_wp2
             go_ret
             exact ⟨ret_bool HX.out,B0.out⟩
           . have HX:=hid (show shapedB 1 1 s ni nk=false by rw [shapedB_eq];simp [numB,strB,itemsB,keysB, *])
             have e1:((nk:Int) == 0)=false:=by simp;omega
             try clear m0
             try clear i0
             try clear s0
             go_enter Tryz.func164,Tryz.ntmps164;go_wp2
             go_ret
             exact ⟨ret_bool HX.out,B0.out⟩
         . have HX:=hid (show shapedB 1 1 s ni nk=false by rw [shapedB_eq];simp [numB,strB,itemsB,keysB, *])
           have e2:0 < ni:=by omega
           have e3:(0:Int) < (ni:Int):=by omega
           try clear m0
           try clear i0
           try clear s0
           go_enter Tryz.func164,Tryz.ntmps164;go_wp2
           go_ret
           exact ⟨ret_bool HX.out,B0.out⟩
       . have e4:=str_empty_no s0
         have HX:=hid (show shapedB 1 1 s ni nk=false by rw [shapedB_eq];simp [numB,strB,itemsB,keysB, *])
         try clear m0
         try clear i0
         try clear s0
         go_enter Tryz.func164,Tryz.ntmps164;go_wp2
         go_ret
         exact ⟨ret_bool HX.out,B0.out⟩
     . have HX:=hid (show shapedB 1 n s ni nk=false by rw [shapedB_eq];simp [numB,strB,itemsB,keysB, *])
       have e5:(n == 0)=false:=by simpa using n0
       have e6:(n == 1)=false:=by simpa using n1
       have e7:(n != 0)=true:=by simpa using n0
       have e8:(n != 1)=true:=by simpa using n1
       try clear m0
       try clear i0
       try clear s0
       go_enter Tryz.func164,Tryz.ntmps164;go_wp2
       go_ret
       exact ⟨ret_bool HX.out,B0.out⟩
 . by_cases s0:s.size=0
   . have e4:=str_empty s0
     by_cases i0:ni=0
     . have e2:¬ 0 < ni:=by omega
       have e3:¬ (0:Int) < (ni:Int):=by omega
       by_cases m0:nk=0
       . have HX:=hid (show shapedB 2 n s ni nk=true by rw [shapedB_eq];simp [numB,strB,itemsB,keysB, *])
         have e1:((nk:Int) == 0)=true:=by simp;omega
         try clear m0
         try clear i0
         try clear s0
         go_enter Tryz.func164,Tryz.ntmps164;go_wp2
         go_ret
         exact ⟨ret_bool HX.out,B0.out⟩
       . have HX:=hid (show shapedB 2 n s ni nk=false by rw [shapedB_eq];simp [numB,strB,itemsB,keysB, *])
         have e1:((nk:Int) == 0)=false:=by simp;omega
         try clear m0
         try clear i0
         try clear s0
         go_enter Tryz.func164,Tryz.ntmps164;go_wp2
         go_ret
         exact ⟨ret_bool HX.out,B0.out⟩
     . have HX:=hid (show shapedB 2 n s ni nk=false by rw [shapedB_eq];simp [numB,strB,itemsB,keysB, *])
       have e2:0 < ni:=by omega
       have e3:(0:Int) < (ni:Int):=by omega
       try clear m0
       try clear i0
       try clear s0
       go_enter Tryz.func164,Tryz.ntmps164;go_wp2
       go_ret
       exact ⟨ret_bool HX.out,B0.out⟩
   . have e4:=str_empty_no s0
     have HX:=hid (show shapedB 2 n s ni nk=false by rw [shapedB_eq];simp [numB,strB,itemsB,keysB, *])
     try clear m0
     try clear i0
     try clear s0
     go_enter Tryz.func164,Tryz.ntmps164;go_wp2
     go_ret
     exact ⟨ret_bool HX.out,B0.out⟩
 . by_cases n0:n=0
   . subst n0
     by_cases i0:ni=0
     . have e2:¬ 0 < ni:=by omega
       have e3:¬ (0:Int) < (ni:Int):=by omega
       by_cases m0:nk=0
       . have HX:=hid (show shapedB 3 0 s ni nk=true by rw [shapedB_eq];simp [numB,strB,itemsB,keysB, *])
         have e1:((nk:Int) == 0)=true:=by simp;omega
         try clear m0
         try clear i0
         try clear s0
         go_enter Tryz.func164,Tryz.ntmps164;go_wp2
         go_ret
         exact ⟨ret_bool HX.out,B0.out⟩
       . have HX:=hid (show shapedB 3 0 s ni nk=false by rw [shapedB_eq];simp [numB,strB,itemsB,keysB, *])
         have e1:((nk:Int) == 0)=false:=by simp;omega
         try clear m0
         try clear i0
         try clear s0
         go_enter Tryz.func164,Tryz.ntmps164;go_wp2
         go_ret
         exact ⟨ret_bool HX.out,B0.out⟩
     . have HX:=hid (show shapedB 3 0 s ni nk=false by rw [shapedB_eq];simp [numB,strB,itemsB,keysB, *])
       have e2:0 < ni:=by omega
       have e3:(0:Int) < (ni:Int):=by omega
       try clear m0
       try clear i0
       try clear s0
       go_enter Tryz.func164,Tryz.ntmps164;go_wp2
       go_ret
       exact ⟨ret_bool HX.out,B0.out⟩
   . have HX:=hid (show shapedB 3 n s ni nk=false by rw [shapedB_eq];simp [numB,strB,itemsB,keysB, *])
     have e5:(n == 0)=false:=by simpa using n0
     have e7:(n != 0)=true:=by simpa using n0
     try clear m0
     try clear i0
     try clear s0
     go_enter Tryz.func164,Tryz.ntmps164;go_wp2
     go_ret
     exact ⟨ret_bool HX.out,B0.out⟩
 . by_cases n0:n=0
   . subst n0
     by_cases s0:s.size=0
     . have e4:=str_empty s0
       by_cases m0:nk=0
       . have HX:=hid (show shapedB 4 0 s ni nk=true by rw [shapedB_eq];simp [numB,strB,itemsB,keysB, *])
         have e1:((nk:Int) == 0)=true:=by simp;omega
         try clear m0
         try clear i0
         try clear s0
         go_enter Tryz.func164,Tryz.ntmps164;go_wp2
         go_ret
         exact ⟨ret_bool HX.out,B0.out⟩
       . have HX:=hid (show shapedB 4 0 s ni nk=false by rw [shapedB_eq];simp [numB,strB,itemsB,keysB, *])
         have e1:((nk:Int) == 0)=false:=by simp;omega
         try clear m0
         try clear i0
         try clear s0
         go_enter Tryz.func164,Tryz.ntmps164;go_wp2
         go_ret
         exact ⟨ret_bool HX.out,B0.out⟩
     . have e4:=str_empty_no s0
       have HX:=hid (show shapedB 4 0 s ni nk=false by rw [shapedB_eq];simp [numB,strB,itemsB,keysB, *])
       try clear m0
       try clear i0
       try clear s0
       go_enter Tryz.func164,Tryz.ntmps164;go_wp2
       go_ret
       exact ⟨ret_bool HX.out,B0.out⟩
   . have HX:=hid (show shapedB 4 n s ni nk=false by rw [shapedB_eq];simp [numB,strB,itemsB,keysB, *])
     have e5:(n == 0)=false:=by simpa using n0
     have e7:(n != 0)=true:=by simpa using n0
     try clear m0
     try clear i0
     try clear s0
     go_enter Tryz.func164,Tryz.ntmps164;go_wp2
     go_ret
     exact ⟨ret_bool HX.out,B0.out⟩
 . by_cases n0:n=0
   . subst n0
     by_cases s0:s.size=0
     . have e4:=str_empty s0
       by_cases m0:nk=ni
       . have HX:=hid (show shapedB 5 0 s ni nk=true by rw [shapedB_eq];simp [numB,strB,itemsB,keysB, *])
         have e1:((nk:Int) == (ni:Int))=true:=by simp;omega
         try clear m0
         try clear i0
         try clear s0
         go_enter Tryz.func164,Tryz.ntmps164;go_wp2
         go_ret
         exact ⟨ret_bool HX.out,B0.out⟩
       . have HX:=hid (show shapedB 5 0 s ni nk=false by rw [shapedB_eq];simp [numB,strB,itemsB,keysB, *])
         have e1:((nk:Int) == (ni:Int))=false:=by simp;omega
         try clear m0
         try clear i0
         try clear s0
         go_enter Tryz.func164,Tryz.ntmps164;go_wp2
         go_ret
         exact ⟨ret_bool HX.out,B0.out⟩
     . have e4:=str_empty_no s0
       have HX:=hid (show shapedB 5 0 s ni nk=false by rw [shapedB_eq];simp [numB,strB,itemsB,keysB, *])
       try clear m0
       try clear i0
       try clear s0
       go_enter Tryz.func164,Tryz.ntmps164;go_wp2
       go_ret
       exact ⟨ret_bool HX.out,B0.out⟩
   . have HX:=hid (show shapedB 5 n s ni nk=false by rw [shapedB_eq];simp [numB,strB,itemsB,keysB, *])
     have e5:(n == 0)=false:=by simpa using n0
     have e7:(n != 0)=true:=by simpa using n0
     try clear m0
     try clear i0
     try clear s0
     go_enter Tryz.func164,Tryz.ntmps164;go_wp2
     go_ret
     exact ⟨ret_bool HX.out,B0.out⟩
 . by_cases n0:n=0
   . subst n0
     by_cases s0:s.size=0
     . have e4:=str_empty s0
       by_cases i0:ni=0
       . have e2:¬ 0 < ni:=by omega
         have e3:¬ (0:Int) < (ni:Int):=by omega
         by_cases m0:nk=0
         . have HX:=hid (show shapedB 6 0 s ni nk=true by rw [shapedB_eq];simp [numB,strB,itemsB,keysB, *])
           have e1:((nk:Int) == 0)=true:=by simp;omega
           try clear m0
           try clear i0
           try clear s0
           go_enter Tryz.func164,Tryz.ntmps164;go_wp2
           go_ret
           exact ⟨ret_bool HX.out,B0.out⟩
         . have HX:=hid (show shapedB 6 0 s ni nk=false by rw [shapedB_eq];simp [numB,strB,itemsB,keysB, *])
           have e1:((nk:Int) == 0)=false:=by simp;omega
           try clear m0
           try clear i0
           try clear s0
           go_enter Tryz.func164,Tryz.ntmps164;go_wp2
           go_ret
           exact ⟨ret_bool HX.out,B0.out⟩
       . have HX:=hid (show shapedB 6 0 s ni nk=false by rw [shapedB_eq];simp [numB,strB,itemsB,keysB, *])
         have e2:0 < ni:=by omega
         have e3:(0:Int) < (ni:Int):=by omega
         try clear m0
         try clear i0
         try clear s0
         go_enter Tryz.func164,Tryz.ntmps164;go_wp2
         go_ret
         exact ⟨ret_bool HX.out,B0.out⟩
     . have e4:=str_empty_no s0
       have HX:=hid (show shapedB 6 0 s ni nk=false by rw [shapedB_eq];simp [numB,strB,itemsB,keysB, *])
       try clear m0
       try clear i0
       try clear s0
       go_enter Tryz.func164,Tryz.ntmps164;go_wp2
       go_ret
       exact ⟨ret_bool HX.out,B0.out⟩
   . have HX:=hid (show shapedB 6 n s ni nk=false by rw [shapedB_eq];simp [numB,strB,itemsB,keysB, *])
     have e5:(n == 0)=false:=by simpa using n0
     have e7:(n != 0)=true:=by simpa using n0
     try clear m0
     try clear i0
     try clear s0
     go_enter Tryz.func164,Tryz.ntmps164;go_wp2
     go_ret
     exact ⟨ret_bool HX.out,B0.out⟩
theorem pshaped_any (x:Val) (r:Option Addr) (c:Nat) (rk:Option Addr) (ck:Nat) (w:World) (hx:VR5 w r c rk ck x) :
  Calls Tryz.prog 164 #[.agg #[.int .i64 x.kind,.int .i64 x.num,.string x.str,.slice r x.items.length c,.slice rk x.keys.length ck]] w fun e w'=>e=.returned (.bool (shapedB x.kind x.num x.str x.items.length x.keys.length))/\Below w.heap.size w w':=by
 obtain ⟨_,_,_,_,hs,hkl,hil⟩:=hx.parts;exact pshaped_k _ _ _ _ _ _ _ _ _ _ hil hkl (by unfold maxLen at hs;omega)
theorem nodeE_shaped (vld:ByteArray->Bool) {k n:Int} {s:ByteArray} {ni:Nat} {ks:List ByteArray} (h:shapedB k n s ni ks.length=true) :
  nodeE vld k n s ni ks=if k=2 then (if -9007199254740992<=n/\n<=9007199254740992 then 0 else 5) else if k=3 then textE vld s else if k=5 then keysE vld none ks else 0:=by
 unfold nodeE;rw [if_pos h]
set_option maxRecDepth 100000 in
set_option maxHeartbeats 4000000 in
theorem pnode_any (x:Val) (r:Option Addr) (c:Nat) (rk:Option Addr) (ck:Nat) (w:World) (hx:VR5 w r c rk ck x) (hu:UT w) :
  Calls Tryz.prog 122 #[.agg #[.int .i64 x.kind,.int .i64 x.num,.string x.str,.slice r x.items.length c,.slice rk x.keys.length ck]] w fun e w'=>e=.returned (.int .i64 (nodeV vU x))/\Below w.heap.size w w':=by
 obtain ⟨hI,hK,_,_,hs,hkl,hil⟩:=hx.parts;obtain ⟨_,hlk,hkm⟩:=sl_len hK;have HK:=hid hK;have HU:=hid hu;have hb0:Below w.heap.size w (w.alloc (.cells #[.int .i64 x.kind,.int .i64 x.num,.string x.str,.slice r x.items.length c,.slice rk x.keys.length ck] 39)):=(Below.refl _ _).alloc (Nat.le_refl _) _;have SH:=hid (pshaped_any x r c rk ck _ (hx.below hb0));have HN:=hid (show nodeV vU x=nodeE vU x.kind x.num x.str x.items.length x.keys from rfl);have HR:=hid (fun h:shapedB x.kind x.num x.str x.items.length x.keys.length=true=>nodeE_shaped vU h);have HF:=hid (fun h:shapedB x.kind x.num x.str x.items.length x.keys.length=false=>show nodeE vU x.kind x.num x.str x.items.length x.keys=1 by unfold nodeE;rw [if_neg (by rw [h];simp)]);have B0:=hid hb0;clear hb0 hI hK hx hu;generalize hnx:nodeV vU x=nx at *;clear hnx;generalize shapedB x.kind x.num x.str x.items.length x.keys.length=sb at *;generalize x.kind=xk at *;generalize x.num=xn at *;generalize x.str=xs at *;generalize x.items.length=ni at *;generalize x.keys=ks at *;cases sb
 . have HN2:=hid (HN.out.trans (HF.out rfl))
   clear HR HF HN;go_enter Tryz.func122,Tryz.ntmps122;go_wp2_with fail
   refine SH.out.mono ?_;rintro e w1 ⟨rfl,hb1⟩;have B1:=hid (B0.out.trans (hb1.mono B0.out.size));clear hb1;go_wp2
   go_ret
   exact ⟨ret_int HN2.out,B1.out⟩
 have HNR:=hid (HN.out.trans (HR.out rfl));clear HR HF HN
 have key:∀ (w1:World) (hb:Below (w.alloc (.cells #[.int .i64 xk,.int .i64 xn,.string xs,.slice r ni c,.slice rk ks.length ck] 39)).heap.size (w.alloc (.cells #[.int .i64 xk,.int .i64 xn,.string xs,.slice r ni c,.slice rk ks.length ck] 39)) w1),
   w1.cell? ⟨w.heap.size,0,none⟩=some (.int .i64 xk)/\w1.cell? ⟨w.heap.size,1,none⟩=some (.int .i64 xn)/\w1.cell? ⟨w.heap.size,2,none⟩=some (.string xs)/\w1.cell? ⟨w.heap.size,4,none⟩=some (.slice rk ks.length ck):=
  fun w1 hb=>⟨bget hb (cell_at rfl rfl),bget hb (cell_at rfl rfl),bget hb (cell_at rfl rfl),bget hb (cell_at rfl rfl)⟩
 have KEY:=hid key;clear key
 by_cases e2:xk=2
 . subst e2
   have HN1:=hid (HNR.out.trans (if_pos rfl));clear HNR;have HV:=hid (show (decide (-9007199254740992<=xn) && decide (xn<=9007199254740992))=decide (-9007199254740992<=xn/\xn<=9007199254740992) by simp);have HN2:=hid (show nx=if decide (-9007199254740992<=xn/\xn<=9007199254740992)=true then 0 else 5 by rw [HN1.out];simp);clear HN1;generalize decide (-9007199254740992<=xn/\xn<=9007199254740992)=vb at *;cases vb
   all_goals
    have HF:=hid HN2.out;clear HN2;go_enter Tryz.func122,Tryz.ntmps122;go_wp2_with fail
    refine SH.out.mono ?_;rintro e w1 ⟨rfl,hb1⟩;have B1:=hid (B0.out.trans (hb1.mono B0.out.size));obtain ⟨k0,k1,k2,k4⟩:=KEY.out w1 hb1;clear hb1;go_wp2_with fail
    refine (pvalid01_any _ _).mono ?_;rintro e w2 ⟨rfl,rfl⟩;rw [HV.out];go_wp2
    go_ret
    exact ⟨ret_int (by rw [HF.out];rfl),B1.out⟩
 have HN1:=hid (HNR.out.trans (if_neg e2));clear HNR;have e2':(xk == 2)=false:=by simpa using e2
 clear e2
 by_cases e3:xk=3
 . subst e3
   have HF:=hid (HN1.out.trans (if_pos rfl));clear HN1;go_enter Tryz.func122,Tryz.ntmps122;go_wp2_with fail
   refine SH.out.mono ?_;rintro e w1 ⟨rfl,hb1⟩;have B1:=hid (B0.out.trans (hb1.mono B0.out.size));obtain ⟨k0,k1,k2,k4⟩:=KEY.out w1 hb1;clear hb1;go_wp2_with fail
   refine (ptext_any xs w1 (HU.out.below B1.out)).mono ?_;rintro e w2 ⟨rfl,hb2⟩;have B2:=hid (B1.out.trans (hb2.mono B1.out.size));clear hb2;go_wp2
   go_ret
   exact ⟨ret_int HF.out,B2.out⟩
 have HN2:=hid (HN1.out.trans (if_neg e3));clear HN1;have e3':(xk == 3)=false:=by simpa using e3
 clear e3
 by_cases e5:xk=5
 case neg =>
  have HF:=hid (HN2.out.trans (if_neg e5));have e5':(xk == 5)=false:=by simpa using e5
  clear HN2 e5;go_enter Tryz.func122,Tryz.ntmps122;go_wp2_with fail
  refine SH.out.mono ?_;rintro e w1 ⟨rfl,hb1⟩;have B1:=hid (B0.out.trans (hb1.mono B0.out.size));obtain ⟨k0,k1,k2,k4⟩:=KEY.out w1 hb1;clear hb1;go_wp2
  go_ret
  exact ⟨ret_int HF.out,B1.out⟩
 case pos =>
 subst e5;have HNK:=hid (HN2.out.trans (if_pos rfl));clear HN2;go_enter Tryz.func122,Tryz.ntmps122;go_wp2_with fail
 refine SH.out.mono ?_;rintro e w1 ⟨rfl,hb1⟩;have B1:=hid (B0.out.trans (hb1.mono B0.out.size));obtain ⟨k0,k1,k2,k4⟩:=KEY.out w1 hb1;have K4:=hid k4;clear hb1 KEY;go_wp2
 clear k0 k1 k2 k4;go_loopg [27] ks.length (fun gg s4 wr=>∃ k:Nat,k<=ks.length/\ks.length - k<=gg/\s4=.int .i64 k/\Aside (Below w1.heap.size w1 wr)/\Aside (nx=keysE vU (pvK ks k) (ks.drop k)))
 case atStart=>exact ⟨0,Nat.zero_le _,by omega,rfl,Below.refl _ _,by show nx=keysE vU (pvK ks 0) (ks.drop 0);rw [List.drop_zero];exact HNK.out⟩
 case round =>
  clear HNK;obtain ⟨k,hk,hg,rfl,BW,AL⟩:=hrel;have k4:=bget BW.out K4.out;have hz1:=World.block_lt_of_cell? _ _ k4;simp only at hz1;have BX:=hid (B1.out.trans (BW.out.mono B1.out.size))
  by_cases hlt:k < ks.length
  case neg =>
   have hltz:¬ (k:Int) < (ks.length:Int):=by omega
   have HF:=hid (show nx=0 by rw [AL.out,List.drop_eq_nil_of_le (by omega)];cases pvK ks k <;> rfl);clear AL BW;go_wp2
   go_ret
   exact ⟨ret_int HF.out,BX.out⟩
  have hltz:(k:Int) < (ks.length:Int):=by omega
  have HKx:=hid (HK.out.below strR_mono BX.out);have HUx:=hid (HU.out.below BX.out);obtain ⟨b,off,rfl,hb,g0,_⟩:=str_at HKx.out k hlt;have AK:=hid (AL.out.trans (keysE_step vU hlt));clear AL;have BW2:=hid BW.out;clear BW
  by_cases ht:textE vU ks[k]=0
  case neg =>
   have HF:=hid (AK.out.trans (if_pos ht));have CT:=hid (ptext_any ks[k] wr HUx.out);generalize ks[k]=kx at *;generalize textE vU kx=te at *;have e1:(te != 0)=true:=by simpa using ht
   have e1':(te == 0)=false:=by simpa using ht
   clear ht AK;go_wp2_with fail
   refine CT.out.mono ?_;rintro e w3 ⟨rfl,hb3⟩;have B3:=hid (BX.out.trans (hb3.mono BX.out.size));clear hb3;go_wp2
   go_ret
   exact ⟨ret_int HF.out,B3.out⟩
  case pos =>
  have AK2:=hid (AK.out.trans (if_neg (by simpa using ht)));have CT:=hid (ptext_any ks[k] wr HUx.out);rw [ht] at CT;clear AK ht
  by_cases h0:k=0
  case pos =>
   subst h0;have AK3:=hid (AK2.out.trans (if_pos rfl));generalize ks[0]=kx at *;clear AK2;simp only [Nat.add_zero] at g0;go_wp2_with fail
   refine CT.out.mono ?_;rintro e w3 ⟨rfl,hb3⟩;have B3:=hid (BW2.out.trans (hb3.mono BW2.out.size));clear hb3;go_wp2
   go_roundg (ks.length - (0+1))
   case measure=>omega
   case rel=>exact ⟨0+1,by omega,by omega,by go_num,B3.out,AK3.out⟩
  case neg =>
  have hpk:k - 1 < ks.length:=by omega
  obtain ⟨b',off',hr',hb',g1,_⟩:=str_at HKx.out (k - 1) hpk;simp only [Option.some.injEq,Addr.mk.injEq,and_true] at hr';obtain ⟨rfl,rfl⟩:=hr'
  have HP:=hid (show pvK ks k=some ks[k - 1] by
   obtain ⟨j,rfl⟩:∃ j,k=j+1:=⟨k - 1,by omega⟩;exact List.getElem?_eq_getElem hpk)
  have HO:=hid (show orderB (pvK ks k) ks[k]=decide (ltS ks[k - 1] ks[k]) by rw [HP.out];rfl);clear HP;have y1:(0:Int)<=(k:Int) - 1:=by omega
  have y2:(k:Int) - 1 < (ks.length:Int):=by omega
  have y3:0 < k:=by omega
  by_cases ho:ltS ks[k - 1] ks[k]
  case pos =>
   have AK3:=hid (AK2.out.trans (if_pos (by rw [HO.out];exact decide_eq_true ho)));have e1:=less_yes ho;have e4:=str_ne (show ks[k - 1]≠ks[k] from fun e=>List.lt_irrefl _ (by unfold ltS at ho;rw [e] at ho;exact ho));have e5:=less_no (show ¬ (ks[k]).data.toList < (ks[k - 1]).data.toList from fun h=>List.lt_asymm ho h);have e6:=str_ne (show ks[k]≠ks[k - 1] from fun e=>List.lt_irrefl _ (by unfold ltS at ho;rw [e] at ho;exact ho));clear AK2 HO ho h0;generalize ks[k - 1]=kp at *;generalize ks[k]=kx at *;go_wp2_with fail
   refine CT.out.mono ?_;rintro e w3 ⟨rfl,hb3⟩;have B3:=hid (BW2.out.trans (hb3.mono BW2.out.size));have k4':=bget hb3 k4;have g0':=bget hb3 g0;have g1':=bget hb3 g1;clear hb3 hz1 k4 g0 g1 hb hb';go_wp2
   go_roundg (ks.length - (k+1))
   case measure=>omega
   case rel=>exact ⟨k+1,by omega,by omega,by go_num,B3.out,AK3.out⟩
  case neg =>
   have HF:=hid (AK2.out.trans (if_neg (by rw [HO.out];simpa using ho)));clear AK2 HO h0;generalize ks[k - 1]=kp at *;generalize ks[k]=kx at *
   by_cases hkk:kx=kp
   . subst hkk
     clear ho;go_wp2_with fail
     refine CT.out.mono ?_;rintro e w3 ⟨rfl,hb3⟩;have B3:=hid (BX.out.trans (hb3.mono BX.out.size));have k4':=bget hb3 k4;have g0':=bget hb3 g0;have g1':=bget hb3 g1;clear hb3 hz1 k4 g0 g1 hb hb';go_wp2
     go_ret
     exact ⟨ret_int HF.out,B3.out⟩
   . have e1:=less_yes (show kx.data.toList < kp.data.toList from by
      apply Decidable.byContradiction;intro h;exact hkk (ba_ext (List.le_antisymm (List.not_lt.1 ho) (List.not_lt.1 h))))
     have e2:=str_ne hkk;clear ho hkk;go_wp2_with fail
     refine CT.out.mono ?_;rintro e w3 ⟨rfl,hb3⟩;have B3:=hid (BX.out.trans (hb3.mono BX.out.size));have k4':=bget hb3 k4;have g0':=bget hb3 g0;have g1':=bget hb3 g1;clear hb3 hz1 k4 g0 g1 hb hb';go_wp2
     go_ret
     exact ⟨ret_int HF.out,B3.out⟩
theorem entersCk:∀ args w,(callFunc 121 args).run Tryz.prog w=.ok (.enter 121 args) w:=enters_of Tryz.func121 (by kernel_rfl) rfl
theorem heap_below {w w':World} {b:Nat} {o:Obj} (hb:Below w.heap.size w w') (h:w.heap[b]?=some o):w'.heap[b]?=some o:=(hb.block b (lt_of_block h)).trans h
theorem heap_set {w:World} {b:Nat} {o:Obj} {p:Addr} {v:Value} (hne:b≠p.block) (h:w.heap[b]?=some o):(w.setCell p v).heap[b]?=some o:=(Below.heap_setCell w p v b hne).trans h
structure CkP (w0 W:World) (Bc Bv:Nat) (fv:Value) (res:Int × Nat) (w':World):Prop where
 below:Below w0.heap.size w0 w'
 size:W.heap.size<=w'.heap.size
 fn:w'.heap[Bv]?=some (.cells #[fv] 147 (0,0))
 cnt:∃ n':Nat,w'.heap[Bc]?=some (.cells #[.int .i64 (n':Int)] 3 (0,0))/\(res.1=0->n'=res.2)
set_option maxRecDepth 100000 in
set_option maxHeartbeats 4000000 in
theorem pck_any (w0:World) (hu:UT w0) (Bc Bv:Nat) (hBc:w0.heap.size<=Bc) (hBv:w0.heap.size<=Bv) (hne:Bc≠Bv) (x:Val):∀ (lv:Int) (n:Nat) (r:Option Addr) (c:Nat) (rk:Option Addr) (ck:Nat) (W:World),VR5 w0 r c rk ck x->0<=lv->lv<=33->n<=4096->Below w0.heap.size w0 W ->
  W.heap[Bv]?=some (.cells #[.func (.func 121) #[] #[.pointer (some ⟨Bc,0,none⟩),.pointer (some ⟨Bv,0,none⟩)]] 147 (0,0))->W.heap[Bc]?=some (.cells #[.int .i64 (n:Int)] 3 (0,0)) ->
  Calls Tryz.prog 121 #[.agg #[.int .i64 x.kind,.int .i64 x.num,.string x.str,.slice r x.items.length c,.slice rk x.keys.length ck],.int .i64 lv,.pointer (some ⟨Bc,0,none⟩),.pointer (some ⟨Bv,0,none⟩)] W fun e w'=>e=.returned (.int .i64 (chkV vU x lv n).1)/\CkP w0 W Bc Bv (.func (.func 121) #[] #[.pointer (some ⟨Bc,0,none⟩),.pointer (some ⟨Bv,0,none⟩)]) (chkV vU x lv n) w':=by
 refine Val.ind (P:=fun x=>∀ (lv:Int) (n:Nat) (r:Option Addr) (c:Nat) (rk:Option Addr) (ck:Nat) (W:World),VR5 w0 r c rk ck x->0<=lv->lv<=33->n<=4096->Below w0.heap.size w0 W ->
  W.heap[Bv]?=some (.cells #[.func (.func 121) #[] #[.pointer (some ⟨Bc,0,none⟩),.pointer (some ⟨Bv,0,none⟩)]] 147 (0,0))->W.heap[Bc]?=some (.cells #[.int .i64 (n:Int)] 3 (0,0)) ->
  Calls Tryz.prog 121 #[.agg #[.int .i64 x.kind,.int .i64 x.num,.string x.str,.slice r x.items.length c,.slice rk x.keys.length ck],.int .i64 lv,.pointer (some ⟨Bc,0,none⟩),.pointer (some ⟨Bv,0,none⟩)] W fun e w'=>e=.returned (.int .i64 (chkV vU x lv n).1)/\CkP w0 W Bc Bv (.func (.func 121) #[] #[.pointer (some ⟨Bc,0,none⟩),.pointer (some ⟨Bv,0,none⟩)]) (chkV vU x lv n) w') ?_ x
 intro x ih lv n r c rk ck W hx hl0 hl1 hn hbw hfv hcn;obtain ⟨hI,hK,_,_,hs,hkl,hil⟩:=hx.parts;obtain ⟨_,hlc,hcm⟩:=sl_len hI;have HI:=hid hI;have HU:=hid hu;have HX:=hid hx;have hb0:Below W.heap.size W (W.alloc (.cells #[.int .i64 x.kind,.int .i64 x.num,.string x.str,.slice r x.items.length c,.slice rk x.keys.length ck] 39)):=(Below.refl _ _).alloc (Nat.le_refl _) _;have BW:=hid (hbw.trans (hb0.mono hbw.size));have SZ:=hid hb0.size;have FV:=hid (heap_below hb0 hfv);have CN:=hid (heap_below hb0 hcn);have HN:=hid (chkV_eq vU x lv n);have c1:=cell_of_one (heap_below hb0 hcn);have f1:=free_of_one (heap_below hb0 hcn);have hlt1:=lt_of_block hcn;have hlt2:=lt_of_block hfv;have HN1:=hid hne;have HB1:=hid hBc;have HB2:=hid hBv;have IH:=hid ih;have V0:=hid (show (W.alloc (.cells #[.int .i64 x.kind,.int .i64 x.num,.string x.str,.slice r x.items.length c,.slice rk x.keys.length ck] 39)).cell? ⟨W.heap.size,3,none⟩=some (.slice r x.items.length c) from cell_at rfl rfl);have ND:=hid (fun (W2:World) (h5:VR5 W2 r c rk ck x) (h:UT W2)=>pnode_any x r c rk ck W2 h5 h);have CR:=hid (show ∀ j v,#[.int .i64 x.kind,.int .i64 x.num,.string x.str,.slice r x.items.length c,.slice rk x.keys.length ck][j]?=some v->(W.alloc (.cells #[.int .i64 x.kind,.int .i64 x.num,.string x.str,.slice r x.items.length c,.slice rk x.keys.length ck] 39)).cell? ⟨W.heap.size,j,none⟩=some v from fun j v h=>cell_at rfl h);clear hb0 hI hK ih hbw hfv hcn hne hBc hBv hu hx;generalize hnv:nodeV vU x=nv at *;clear hnv;generalize hnx:chkV vU x lv n=nx at *;clear hnx;obtain ⟨nx1,nx2⟩:=nx;simp only at *;generalize x.kind=xk at *;generalize x.num=xn at *;generalize x.str=xs at *;generalize x.keys.length=nk at *;generalize hxi:x.items=is at *;clear hxi
 by_cases h1:32 < lv
 . have HF:=hid (show nx1=4/\nx2=n by have:=HN.out;rw [if_pos h1] at this;simpa using this)
   clear V0 CR ND IH c1 f1;go_enter Tryz.func121,Tryz.ntmps121;go_wp2
   go_ret
   exact ⟨ret_int HF.out.1,BW.out,SZ.out,FV.out,n,CN.out,fun h=>by have:=HF.out.1;simp only at h;omega⟩
 have HN2:=hid (HN.out.trans (if_neg h1));clear HN
 by_cases h2:4096<=n
 . have HF:=hid (show nx1=14/\nx2=n by have:=HN2.out;rw [if_pos h2] at this;simpa using this)
   have h2z:4096<=(n:Int):=by omega
   clear V0 CR ND IH;go_enter Tryz.func121,Tryz.ntmps121;go_wp2
   go_ret
   exact ⟨ret_int HF.out.1,BW.out,SZ.out,FV.out,n,CN.out,fun h=>by have:=HF.out.1;simp only at h;omega⟩
 have HN3:=hid (HN2.out.trans (if_neg h2));have h2z:¬ 4096<=(n:Int):=by omega
 clear HN2 h2;have hc0:=CR.out 0 _ rfl;have hc1:=CR.out 1 _ rfl;have hc2:=CR.out 2 _ rfl;have hc3:=CR.out 3 _ rfl;have hc4:=CR.out 4 _ rfl;clear CR V0;generalize hW1:W.alloc (.cells #[.int .i64 xk,.int .i64 xn,.string xs,.slice r is.length c,.slice rk nk ck] 39)=W1 at *;have hcv:Bc≠W.heap.size:=by omega
 have BW2:=hid (show Below w0.heap.size w0 (W1.setCell ⟨Bc,0,none⟩ (.int .i64 ((n:Int)+1))) from BW.out.setCell HB1.out _);have FV2:=hid (show (W1.setCell ⟨Bc,0,none⟩ (.int .i64 ((n:Int)+1))).heap[Bv]?=_ from heap_set (Ne.symm HN1.out) FV.out);have CN2:=hid (show (W1.setCell ⟨Bc,0,none⟩ (.int .i64 ((n:Int)+1))).heap[Bc]?=_ from one_setCell CN.out);have SZ2:=hid (show W.heap.size<=(W1.setCell ⟨Bc,0,none⟩ (.int .i64 ((n:Int)+1))).heap.size by have:=SZ.out;simpa [World.setCell] using this)
 have hd:∀ j v,W1.cell? ⟨W.heap.size,j,none⟩=some v->(W1.setCell ⟨Bc,0,none⟩ (.int .i64 ((n:Int)+1))).cell? ⟨W.heap.size,j,none⟩=some v:=fun j v h=>by
  rw [World.cell?_of_block (w:=W1) (Below.heap_setCell W1 ⟨Bc,0,none⟩ _ W.heap.size (Ne.symm hcv))];exact h
 have D0:=hid (hd 0 _ hc0);have D1:=hid (hd 1 _ hc1);have D2:=hid (hd 2 _ hc2);have D3:=hid (hd 3 _ hc3);have D4:=hid (hd 4 _ hc4);have ND2:=hid (ND.out _ (HX.out.below BW2.out) (HU.out.below BW2.out));have hw1b:n+1<=4097:=by omega
 clear hd ND hc0 hc1 hc2 hc3 hc4 BW FV CN SZ;have H3:=hid (show nv=0 ∨ nv≠0 from Decidable.em _);have eg:=entersCk;go_enter Tryz.func121,Tryz.ntmps121;go_upto_region 6 with (fail)
 clear hW1 c1 f1;generalize (W1.setCell ⟨Bc,0,none⟩ (.int .i64 ((n:Int)+1)))=W2 at *;have d0:=D0.out;have d1:=D1.out;have d2:=D2.out;have d3:=D3.out;have d4:=D4.out;go_wp2_with fail
 refine ND2.out.mono ?_;rintro e w3 ⟨rfl,hb3⟩;have B3:=hid (BW2.out.trans (hb3.mono BW2.out.size));have FV3:=hid (heap_below hb3 FV2.out);have CN3:=hid (heap_below hb3 CN2.out);have SZ3:=hid (Nat.le_trans SZ2.out hb3.size);have e3:=bget hb3 D3.out;clear hb3 d0 d1 d2 d3 d4 ND2 FV2 CN2 SZ2 D0 D1 D2 D3 D4 BW2;rcases H3.out with h3 | h3
 case inr =>
  have HF:=hid (show nx1=nv/\nx2=n by have:=HN3.out;rw [if_pos h3] at this;simpa using this);have e1:(nv != 0)=true:=by simpa using h3
  have e2:(nv == 0)=false:=by simpa using h3
  have h3':=hid h3;clear h3 HN3 H3;go_wp2
  go_ret
  exact ⟨ret_int HF.out.1,B3.out,SZ3.out,FV3.out,n+1,CN3.out,fun h=>absurd (HF.out.1.symm.trans h) h3'.out⟩
 case inl =>
 subst h3;have HN4:=hid (HN3.out.trans (if_neg (by simp)));clear HN3 H3;go_wp2
 clear e3;go_loopg [25] is.length (fun gg s25 wr=>∃ k m:Nat,k<=is.length/\is.length - k<=gg/\s25=.int .i64 k/\m<=4096/\Aside (Below w0.heap.size w0 wr)/\Aside (W.heap.size<=wr.heap.size)/\Aside (wr.heap[Bv]?=some (.cells #[.func (.func 121) #[] #[.pointer (some ⟨Bc,0,none⟩),.pointer (some ⟨Bv,0,none⟩)]] 147 (0,0)))/\Aside (wr.heap[Bc]?=some (.cells #[.int .i64 (m:Int)] 3 (0,0)))/\Aside (chkL vU (is.take k) (lv+1) (n+1)=(0,m)))
 case atStart=>exact ⟨0,n+1,Nat.zero_le _,by omega,rfl,by omega,B3.out,SZ3.out,FV3.out,CN3.out,by show chkL vU (is.take 0) (lv+1) (n+1)=(0,n+1);rw [List.take_zero,chkL]⟩
 case round =>
  clear B3 FV3 CN3 SZ3;obtain ⟨k,m,hk,hg,rfl,hm,BX,SX,FX,CX,AL⟩:=hrel
  by_cases hlt:k < is.length
  case neg =>
   have hltz:¬ (k:Int) < (is.length:Int):=by omega
   have HF:=hid (show nx1=0/\nx2=m by
    have:=AL.out;rw [show k=is.length by omega,List.take_length,<-HN4.out] at this;simpa using this)
   clear AL;go_wp2
   go_ret
   exact ⟨ret_int HF.out.1,BX.out,SX.out,FX.out,m,CX.out,fun _=>HF.out.2.symm⟩
  have hltz:(k:Int) < (is.length:Int):=by omega
  obtain ⟨b,off,ri,ci,rk',ck',rfl,hb,g0,g1,g2,g3,g4,h5⟩:=val_at HI.out k hlt;have g0':=bget BX.out g0;have g1':=bget BX.out g1;have g2':=bget BX.out g2;have g3':=bget BX.out g3;have g4':=bget BX.out g4;have C:=hid (fun (W':World)=>IH.out _ (List.getElem_mem hlt) (lv+1) m ri ci rk' ck' W' h5 (by omega) (by omega) hm);have HS:=hid (fun h0=>chkL_snoc vU hlt AL.out h0);have HP:=hid (fun h0=>chkL_stop vU hlt AL.out h0);have hbd:=chk_bd vU is[k] (lv+1) m hm;clear h5 AL g0 g1 g2 g3 g4 hb;generalize is[k]=y at *;generalize chkV vU y (lv+1) m=cv at *;obtain ⟨c1,c2⟩:=cv;obtain ⟨yk,yn,ys,yi,yks⟩:=y;simp only [Val.kind,Val.num,Val.str,Val.items,Val.keys] at g0' g1' g2' g3' g4' C HS HP hbd;have hbA:Below wr.heap.size wr (wr.alloc (.cells #[.int .i64 yk,.int .i64 yn,.string ys,.slice ri yi.length ci,.slice rk' yks.length ck'] 39)):=(Below.refl _ _).alloc (Nat.le_refl _) _;have v1:=cell_of_one (heap_below hbA FX.out);have v2:=lt_of_block FX.out;have v3:=cell_of_one FX.out;have CA:=hid (C.out _ (BX.out.trans (hbA.mono BX.out.size)) (heap_below hbA FX.out) (heap_below hbA CX.out));have SA:=hid (Nat.le_trans SX.out hbA.size);clear hbA C
  by_cases h0:c1=0
  case pos =>
   subst h0;have HT:=hid (HS.out rfl);clear HS HP;go_wp2_with fail
   refine CA.out.mono ?_;rintro e w4 ⟨rfl,hp4⟩;have HP4:=hid hp4;clear hp4;go_wp2
   obtain ⟨p1,p2,p3,n',p4,p5⟩:=HP4.out;obtain rfl:n'=c2:=p5 rfl;have P1:=hid p1;have P2:=hid (Nat.le_trans SA.out p2);have P3:=hid p3;have P4:=hid p4;clear p1 p2 p3 p4 p5;go_roundg (is.length - (k+1))
   case measure=>omega
   case rel=>exact ⟨k+1,n',by omega,by omega,by go_num,hbd,P1.out,P2.out,P3.out,P4.out,HT.out⟩
  case neg =>
   have HF:=hid (show nx1=c1/\nx2=c2 by have:=HN4.out.trans (HP.out h0);simpa using this);have e1:(c1 != 0)=true:=by simpa using h0
   have e2:(c1 == 0)=false:=by simpa using h0
   have h0':=hid h0;clear HS HP h0;go_wp2_with fail
   refine CA.out.mono ?_;rintro e w4 ⟨rfl,hp4⟩;have HP4:=hid hp4;clear hp4;go_wp2
   obtain ⟨p1,p2,p3,n',p4,p5⟩:=HP4.out;go_ret
   exact ⟨ret_int HF.out.1,p1,Nat.le_trans SA.out p2,p3,n',p4,fun h=>absurd (HF.out.1.symm.trans h) h0'.out⟩
set_option maxRecDepth 100000 in
set_option maxHeartbeats 4000000 in
theorem pCheck_any (x:Val) (r:Option Addr) (c:Nat) (rk:Option Addr) (ck:Nat) (w:World) (hx:VR5 w r c rk ck x) (hu:UT w) :
  Calls Tryz.prog 78 #[.agg #[.int .i64 x.kind,.int .i64 x.num,.string x.str,.slice r x.items.length c,.slice rk x.keys.length ck]] w fun e w'=>e=.returned (.int .i64 (checkV vU x))/\Below w.heap.size w w':=by
 have hb:Below w.heap.size w (((w.alloc (.cells #[.int .i64 x.kind,.int .i64 x.num,.string x.str,.slice r x.items.length c,.slice rk x.keys.length ck] 39)).alloc (.cells #[.int .i64 0] 3)).alloc (.cells #[.func (.func 121) #[] #[.pointer (some ⟨w.heap.size+1,0,none⟩),.pointer (some ⟨w.heap.size+1+1,0,none⟩)]] 147)):=(((Below.refl _ _).alloc (Nat.le_refl _) _).alloc (by simp) _).alloc (by simp;omega) _
 have C:=hid (pck_any w hu (w.heap.size+1) (w.heap.size+1+1) (by omega) (by omega) (by omega) x 1 0 r c rk ck _ hx (by omega) (by omega) (by omega) hb
  ((congrArg _ (by simp)).trans (MapKept.heap_alloc _ _).1) ((Below.heap_alloc _ _ _ (by simp)).trans ((congrArg _ (by simp)).trans (MapKept.heap_alloc _ _).1)))
 have HN:=hid (show checkV vU x=(chkV vU x 1 0).1 from rfl);clear hb hx hu;generalize chkV vU x 1 0=cv at *;obtain ⟨c1,c2⟩:=cv;simp only at *;generalize checkV vU x=nx at *;generalize x.kind=xk at *;generalize x.num=xn at *;generalize x.str=xs at *;generalize x.keys.length=nk at *;generalize x.items.length=ni at *;have eg:=entersCk;have hmf:∀ (fn:Fn) (first cap:Array Value) (w:World),(Instr.makeFunc fn first cap).run Tryz.prog w=.ok (.func fn first cap) w:=fun _ _ _ _=>rfl;go_enter Tryz.func78,Tryz.ntmps78;go_wp2_with fail
 refine C.out.mono ?_;rintro e w4 ⟨rfl,hp4⟩;have HP4:=hid hp4;clear hp4;go_wp2
 go_ret
 exact ⟨ret_int HN.out,HP4.out.below⟩
set_option maxRecDepth 100000 in
set_option maxHeartbeats 1000000 in
theorem index_val (p:Val->Bool) (g:Nat) (lb:Array Value) (eg:∀ args w,(callFunc g args).run Tryz.prog w=.ok (.enter g args) w) (is:List Val) (r:Option Addr) (c:Nat) (w:World)
  (hI:Sl VR 5 w (.slice r is.length c) is) (hp:∀ x∈is,∀ (r:Option Addr) (c:Nat) (rk:Option Addr) (ck:Nat) (W:World),Below w.heap.size w W->VR5 W r c rk ck x ->
   Calls Tryz.prog g (#[.agg #[.int .i64 x.kind,.int .i64 x.num,.string x.str,.slice r x.items.length c,.slice rk x.keys.length ck]] ++ lb) W fun e w'=>e=.returned (.bool (p x))/\Below w.heap.size w w') :
  Calls Tryz.prog 166 #[.slice r is.length c,.func (.func g) #[] lb] w fun e w'=>(∃ k:Int,e=.returned (.int .i64 k)/\decide (0<=k)=is.any p)/\Below w.heap.size w w':=by
 obtain ⟨_,hlc,hcm⟩:=sl_len hI;have HI:=hid hI;have HP:=hid hp;clear hI hp;go_enter Tryz.func166,Tryz.ntmps166;go_wp2
 go_loopg [5,8] is.length (fun gg _ s8 wr=>∃ kk:Nat,kk<=is.length/\is.length - kk<=gg/\s8=.int .i64 kk/\Aside (Below w.heap.size w wr)/\Aside ((is.take kk).any p=false))
 case atStart=>exact ⟨0,Nat.zero_le _,by omega,rfl,Below.refl _ w,rfl⟩
 case round =>
  obtain ⟨kk,hkk,hg,rfl,BW,A⟩:=hrel
  by_cases hlt:kk < is.length
  . have hltz:(kk:Int) < (is.length:Int):=by omega
    obtain ⟨b,off,ri,ci,rk',ck',rfl,hb,g0,g1,g2,g3,g4,h5⟩:=val_at (slv_mono HI.out BW.out) kk hlt;have hcall:=HP.out _ (List.getElem_mem hlt) ri ci rk' ck' wr BW.out h5
    have HT:Aside ((is.take (kk+1)).any p=p (is[kk])):=by
     show _=_;rw [List.take_succ_eq_append_getElem hlt,List.any_append,A.out];simp
    have HY:Aside (p (is[kk])=true->is.any p=true):=fun h=>List.any_eq_true.2 ⟨_,List.getElem_mem hlt,h⟩;clear h5;generalize is[kk]=y at *;generalize hq:p y=q at *;clear hq;obtain ⟨yk,yn,ys,yi,yks⟩:=y;simp only [Val.kind,Val.num,Val.str,Val.items,Val.keys] at g0 g1 g2 g3 g4 hcall;cases q with
    | true =>
      have HY2:Aside (is.any p=true):=HY.out rfl;clear HY HT;go_wp2_with (go_at_fn g;refine hcall.mono ?_;rintro e w' ⟨rfl,hb'⟩)
      go_ret
      exact ⟨⟨kk,rfl,by rw [HY2.out];simp⟩,hb'⟩
    | false =>
      have HT2:Aside ((is.take (kk+1)).any p=false):=HT.out;clear HY HT;go_wp2_with (go_at_fn g;refine hcall.mono ?_;rintro e w' ⟨rfl,hb'⟩)
      go_roundg (is.length - (kk+1))
      case measure=>omega
      case rel=>exact ⟨kk+1,by omega,by omega,by go_num,hb',HT2⟩
  . have hltz:¬ (kk:Int) < (is.length:Int):=by omega
    have hk:kk=is.length:=by omega
    have HX:Aside (is.any p=false):=by have:=A.out;rw [hk,List.take_length] at this;exact this
    clear hk A;go_wp2
    go_ret
    exact ⟨⟨-1,rfl,by rw [HX.out];rfl⟩,BW.out⟩
theorem contains_val (p:Val->Bool) (g:Nat) (lb:Array Value) (eg:∀ args w,(callFunc g args).run Tryz.prog w=.ok (.enter g args) w) (is:List Val) (r:Option Addr) (c:Nat) (w:World)
  (hI:Sl VR 5 w (.slice r is.length c) is) (hp:∀ x∈is,∀ (r:Option Addr) (c:Nat) (rk:Option Addr) (ck:Nat) (W:World),Below w.heap.size w W->VR5 W r c rk ck x ->
   Calls Tryz.prog g (#[.agg #[.int .i64 x.kind,.int .i64 x.num,.string x.str,.slice r x.items.length c,.slice rk x.keys.length ck]] ++ lb) W fun e w'=>e=.returned (.bool (p x))/\Below w.heap.size w w') :
  Calls Tryz.prog 123 #[.slice r is.length c,.func (.func g) #[] lb] w fun e w'=>e=.returned (.bool (is.any p))/\Below w.heap.size w w':=by
 have hi:=Lib.hid (index_val p g lb eg is r c w hI hp);clear hI hp;go_enter Tryz.func123,Tryz.ntmps123;go_wp2_with fail
 refine hi.out.mono ?_;rintro e w' ⟨⟨k,rfl,hk⟩,hb⟩;have HK:=Lib.hid hk;clear hk;go_wp2
 go_ret
 exact ⟨ret_bool HK.out.symm,hb⟩
theorem knownL_any (is:List Val):knownL is=!(is.any fun x=>!knownV x):=by
 induction is with
 | nil=>rfl
 | cons x xs ih=>rw [knownL,ih,List.any_cons];cases knownV x <;> simp
theorem entersKn:∀ args w,(callFunc 124 args).run Tryz.prog w=.ok (.enter 124 args) w:=enters_of Tryz.func124 (by kernel_rfl) rfl
set_option maxRecDepth 100000 in
set_option maxHeartbeats 1000000 in
theorem pknown_any (x:Val):∀ (r:Option Addr) (c:Nat) (rk:Option Addr) (ck:Nat) (w:World),VR5 w r c rk ck x ->
  Calls Tryz.prog 79 #[.agg #[.int .i64 x.kind,.int .i64 x.num,.string x.str,.slice r x.items.length c,.slice rk x.keys.length ck]] w fun e w'=>e=.returned (.bool (knownV x))/\Below w.heap.size w w':=by
 refine Val.ind (P:=fun x=>∀ (r:Option Addr) (c:Nat) (rk:Option Addr) (ck:Nat) (w:World),VR5 w r c rk ck x ->
  Calls Tryz.prog 79 #[.agg #[.int .i64 x.kind,.int .i64 x.num,.string x.str,.slice r x.items.length c,.slice rk x.keys.length ck]] w fun e w'=>e=.returned (.bool (knownV x))/\Below w.heap.size w w') ?_ x
 intro x ih r c rk ck w hx;obtain ⟨hI,hK,_,_,_,hkl,hil⟩:=hx.parts;have HI:=hid hI;have HN:=hid (knownV_eq x)
 have clo:∀ y∈x.items,∀ (r:Option Addr) (c:Nat) (rk:Option Addr) (ck:Nat) (W:World),VR5 W r c rk ck y ->
   Calls Tryz.prog 124 (#[.agg #[.int .i64 y.kind,.int .i64 y.num,.string y.str,.slice r y.items.length c,.slice rk y.keys.length ck]] ++ #[]) W fun e w'=>e=.returned (.bool (!knownV y))/\Below W.heap.size W w':=by
  intro y hy r c rk ck W h5;have hb0:Below W.heap.size W (W.alloc (.cells #[.int .i64 y.kind,.int .i64 y.num,.string y.str,.slice r y.items.length c,.slice rk y.keys.length ck] 39)):=(Below.refl _ _).alloc (Nat.le_refl _) _;have C:=hid (ih y hy r c rk ck _ (h5.below hb0));have B0:=hid hb0;clear hb0 h5 ih HI HN hI hK hx;generalize knownV y=q at *;generalize y.kind=yk at *;generalize y.num=yn at *;generalize y.str=ys at *;generalize y.items.length=yi at *;generalize y.keys.length=yks at *;show Calls Tryz.prog 124 #[.agg #[.int .i64 yk,.int .i64 yn,.string ys,.slice r yi c,.slice rk yks ck]] W _;go_enter Tryz.func124,Tryz.ntmps124;go_wp2_with fail
  refine C.out.mono ?_;rintro e w1 ⟨rfl,hb1⟩;have B1:=hid (B0.out.trans (hb1.mono B0.out.size));clear hb1;go_wp2
  go_ret
  exact ⟨rfl,B1.out⟩
 have HL:=hid (fun (W:World) (h1:Sl VR 5 W (.slice r x.items.length c) x.items)=>contains_val (fun y=>!knownV y) 124 #[] entersKn x.items r c W h1 (fun y hy r c rk ck W' hW h5=>(clo y hy r c rk ck W' h5).mono fun e w' ⟨he,hb⟩=>⟨he,hW.trans (hb.mono hW.size)⟩));have HA:=hid (knownL_any x.items);clear ih hI hK hx clo;generalize x.kind=xk at *;generalize x.num=xn at *;generalize x.str=xs at *;generalize x.keys.length=xkl at *;generalize hnx:knownV x=nx at *;clear hnx;generalize x.items=is at *;generalize (is.any fun y=>!knownV y)=q at *;have B0:=hid (show Below w.heap.size w (w.alloc (.cells #[.int .i64 xk,.int .i64 xn,.string xs,.slice r is.length c,.slice rk xkl ck] 39)) from (Below.refl _ _).alloc (Nat.le_refl _) _)
 by_cases h6:xk=6
 . subst h6
   have HF:=hid (show nx=false by rw [HN.out];simp);go_enter Tryz.func79,Tryz.ntmps79;go_wp2
   go_ret
   exact ⟨ret_bool HF.out,B0.out⟩
 have e6:(xk != 6)=true:=by simpa using h6
 have e6':(xk == 6)=false:=by simpa using h6
 have HF:=hid (show nx=!q by rw [HN.out,HA.out];simp [h6]);clear h6;have CL:=hid (HL.out (w.alloc (.cells #[.int .i64 xk,.int .i64 xn,.string xs,.slice r is.length c,.slice rk xkl ck] 39)) (slv_mono HI.out B0.out));go_enter Tryz.func79,Tryz.ntmps79;go_wp2_with fail
 refine CL.out.mono ?_;rintro e w1 ⟨rfl,hb1⟩;have B1:=hid (B0.out.trans (hb1.mono B0.out.size));clear hb1;go_wp2
 go_ret
 exact ⟨ret_bool HF.out,B1.out⟩
set_option maxRecDepth 100000 in
theorem rsmall_any (x:Val) (k:Nat) (r:Option Addr) (c:Nat) (rk:Option Addr) (ck:Nat) (w:World) (hx:VR5 w r c rk ck x) (hk:k<=1000) :
  Calls Tryz.prog 19 #[.agg #[.int .i64 x.kind,.int .i64 x.num,.string x.str,.slice r x.items.length c,.slice rk x.keys.length ck],.int .i64 (k:Int)] w fun e w'=>e=.returned (.bool (smallB x k))/\Below w.heap.size w w':=by
 have L:=hid (fun (W:World) (hW:Below w.heap.size w W)=>rleft_any x k 40 r c rk ck W (hx.below hW) (by omega) (by omega) (by omega) (by omega));have KK:=hid (fun (W:World) (hW:Below w.heap.size w W) (h:nkeys x<=10000000000000000)=>rkeys_any x r c rk ck W (hx.below hW) h)
 have HB:=hid (show ∀ l:Int,leftV x k 40=l->0<=l->nkeys x<=10000000000000000 from fun l e hl=>by
  have h1:=vr_nkeys x w _ hx;have h2:=((left_spec x k 40).1 (by rw [e];exact hl)).1;have:nodes x<=1000:=by omega
  have:nodes x * 10000000000000<=1000 * 10000000000000:=Nat.mul_le_mul_right _ this;omega)
 have HV:=hid (show ∀ l:Int,leftV x k 40=l->smallB x k=(decide (0<=l) && decide (nkeys x<=2 * k)) from fun l e=>by rw [<-e];rfl);generalize leftV x k 40=l at *;have HB2:=hid (HB.out l rfl);have HV2:=hid (HV.out l rfl);clear HB HV;generalize smallB x k=res at *;generalize nkeys x=nk at *;clear hx;go_enter Tryz.func19,Tryz.ntmps19;go_wp2_with fail
 have hb1:Below w.heap.size w (w.alloc (.cells #[.int .i64 x.kind,.int .i64 x.num,.string x.str,.slice r x.items.length c,.slice rk x.keys.length ck] 39)):=(Below.refl _ _).alloc (Nat.le_refl _) _;have x0:(w.alloc (.cells #[.int .i64 x.kind,.int .i64 x.num,.string x.str,.slice r x.items.length c,.slice rk x.keys.length ck] 39)).cell? ⟨w.heap.size,0,none⟩=some (.int .i64 x.kind):=cell_at rfl rfl;have x1:(w.alloc (.cells #[.int .i64 x.kind,.int .i64 x.num,.string x.str,.slice r x.items.length c,.slice rk x.keys.length ck] 39)).cell? ⟨w.heap.size,1,none⟩=some (.int .i64 x.num):=cell_at rfl rfl;have x2:(w.alloc (.cells #[.int .i64 x.kind,.int .i64 x.num,.string x.str,.slice r x.items.length c,.slice rk x.keys.length ck] 39)).cell? ⟨w.heap.size,2,none⟩=some (.string x.str):=cell_at rfl rfl;have x3:(w.alloc (.cells #[.int .i64 x.kind,.int .i64 x.num,.string x.str,.slice r x.items.length c,.slice rk x.keys.length ck] 39)).cell? ⟨w.heap.size,3,none⟩=some (.slice r x.items.length c):=cell_at rfl rfl;have x4:(w.alloc (.cells #[.int .i64 x.kind,.int .i64 x.num,.string x.str,.slice r x.items.length c,.slice rk x.keys.length ck] 39)).cell? ⟨w.heap.size,4,none⟩=some (.slice rk x.keys.length ck):=cell_at rfl rfl;generalize (w.alloc (.cells #[.int .i64 x.kind,.int .i64 x.num,.string x.str,.slice r x.items.length c,.slice rk x.keys.length ck] 39))=w1 at *;refine (L.out _ hb1).mono ?_;rintro e w3 ⟨rfl,hb3⟩;have y0:=bget hb3 x0;have y1:=bget hb3 x1;have y2:=bget hb3 x2;have y3:=bget hb3 x3;have y4:=bget hb3 x4;have B3:=hid (hb1.trans (hb3.mono hb1.size));clear hb1 hb3 x0 x1 x2 x3 x4
 by_cases hl:0<=l
 . have KK2:=hid (KK.out _ B3.out (HB2.out hl))
   have HR:=hid (show res=decide (nk<=2 * k) from by rw [HV2.out];simp [hl]);clear HB2 HV2 KK L;go_wp2_with fail
   refine KK2.out.mono ?_;rintro e w4 ⟨rfl,hb4⟩;have B4:=hid (B3.out.trans (hb4.mono B3.out.size));have hr:i64B (2 * (k:Int)):=by unfold i64B;omega
   clear hb4 y0 y1 y2 y3 y4;go_wp2
   refine bodyPost_ret (v:=.bool res) (by simp [results,Tryz.results19,go_sem,HR.out];omega) rfl ⟨rfl,B4.out⟩
 . have HR:=hid (show res=false from by rw [HV2.out];simp [hl])
   have hl':l < 0:=by omega
   clear HB2 HV2 KK L;go_wp2
   refine bodyPost_ret (v:=.bool res) (by simp [results,Tryz.results19,go_sem,HR.out]) rfl ⟨rfl,B3.out⟩
end Go.Proofs.YtomhbcfjhgecbaaGreatDoor
