import Derived.Test.YtomhbcfjhgecbaaGreatDoorX1
import Derived.Test.YtomhbcfjhgecbaaGreatDoorX4
import Derived.Test.YtomhbcfjhgecbaaGreatDoorX8
import Derived.Test.YtomhbcfjhgecbaaGreatDoorX9
import Derived.Test.YtomhbcfjhgecbaaGreatDoorX11
set_option linter.unusedVariables false
set_option linter.unusedSimpArgs false
namespace Go.Proofs.YtomhbcfjhgecbaaGreatDoor
open Go.RowKit Go.Sort Go.ChangeShapes Go.WideShapes Go.ChangeAt
theorem oStr:Tryz.prog.cellsOf 9=1:=by kernel_rfl
theorem oInt:Tryz.prog.cellsOf 3=1:=by kernel_rfl
theorem oBool:Tryz.prog.cellsOf 4=1:=by kernel_rfl
theorem oStrs:Tryz.prog.cellsOf 37=1:=by kernel_rfl
theorem oVal:Tryz.prog.cellsOf 39=5:=by kernel_rfl
theorem oIns:Tryz.prog.cellsOf 22=1:=by kernel_rfl
theorem oPen:Tryz.prog.cellsOf 23=1:=by kernel_rfl
theorem oOut:Tryz.prog.cellsOf 24=1:=by kernel_rfl
theorem oI:Tryz.prog.cellsOf 41=13:=by kernel_rfl
theorem oP:Tryz.prog.cellsOf 58=3:=by kernel_rfl
theorem oO:Tryz.prog.cellsOf 66=7:=by kernel_rfl
theorem lfit {cs l:List Value} (hl:cs.length=l.length) (h:∀ i,i < l.length->cs[i]?=l[i]?):cs=l:=by
 apply List.ext_getElem?;intro i
 by_cases hi:i < l.length
 . exact h i hi
 . rw [List.getElem?_eq_none (by omega),List.getElem?_eq_none (by omega)]
theorem subc {cs:List Value} {o n k:Nat} {v:Value} (hk:k < n) (h:((cs.drop o).take n)[k]?=some v):cs[o+k]?=some v:=by
 rw [List.getElem?_take,if_pos hk,List.getElem?_drop] at h;exact h
def InsZ (B:Nat) (x:Ins):Prop:=x.ad.size<=B/\x.de.size<=B/\x.id.size<=B/\x.ty.size<=B/\x.dp.length<=B/\∀ d∈x.dp,d.size<=B
def PndZ (B:Nat) (x:Pnd):Prop:=x.ad.size<=B/\x.ty.size<=B/\x.tok.size<=B
def SouZ (B:Nat) (x:Sou):Prop:=x.nm.size<=B
def StaZ (B:Nat) (s:Sta):Prop:=s.lin.size<=B/\(∀ x∈s.ins,InsZ B x)/\(∀ x∈s.pen,PndZ B x)/\(∀ x∈s.out,SouZ B x)/\s.ins.length<=B/\s.pen.length<=B/\s.out.length<=B
theorem val_b {H:Type} {enc:TypeId × Value->H} {w:World} {fuel B:Nat} {cs:List Value} {y:DataW H × List MemPlace} (hB:B<=1048576) (hl:cs.length=5) (hb:Blk.Bk B y.1) (h:DataW.trod enc Tryz.prog w 0 (fun _=>true) true fuel 39 cs=some y):∃ x,VR w cs x:=
 Blk.vr_of_trod_b (by omega) Tryz.underlying39 (by kernel_rfl) ⟨_,rfl,rfl,rfl⟩ ⟨_,rfl,rfl,rfl⟩ ⟨_,rfl,rfl,rfl⟩ ⟨_,rfl,rfl,rfl⟩ ⟨_,rfl,rfl,rfl⟩ Tryz.underlying35 (by kernel_rfl) Tryz.underlying3 (by kernel_rfl) Tryz.underlying9 (by kernel_rfl) Tryz.underlying36 (by kernel_rfl) Tryz.underlying37 (by kernel_rfl) fuel cs y hl hb h
theorem vr5_of {w:World} {cs:List Value} {x:Val} (h:VR w cs x):∃ r c rk ck,cs=[.int .i64 x.kind,.int .i64 x.num,.string x.str,.slice r x.items.length c,.slice rk x.keys.length ck]/\VR5 w r c rk ck x:=by
 obtain ⟨r,c,vK,e,_,⟨rk,ck,e2,_⟩,_⟩:=id h.open';subst e2;subst e;exact ⟨r,c,rk,ck,rfl,h⟩
set_option maxRecDepth 100000 in
theorem ins_b {H:Type} {enc:TypeId × Value->H} {w:World} {B:Nat} (hB:B<=1048576):∀ fuel cs (y:DataW H × List MemPlace),cs.length=13->Blk.Bk B y.1->DataW.trod enc Tryz.prog w 0 (fun _=>true) true fuel 41 cs=some y->∃ z,InR w cs z/\InsZ B z:=by
 intro fuel cs y hl hb h;obtain ⟨_,n,rfl,hf⟩:=Blk.struct_b Tryz.underlying41 hb h;obtain ⟨z0,h0,b0⟩:∃ y,DataW.trod enc Tryz.prog w 0 (fun _=>true) true n 9 ((cs.drop 0).take (Tryz.prog.cellsOf 9))=some y/\Blk.Bk B y.1:=hf 0 _ rfl;rw [oStr] at h0;obtain ⟨z1,h1,b1⟩:∃ y,DataW.trod enc Tryz.prog w 0 (fun _=>true) true n 9 ((cs.drop 1).take (Tryz.prog.cellsOf 9))=some y/\Blk.Bk B y.1:=hf 1 _ rfl;rw [oStr] at h1;obtain ⟨z2,h2,b2⟩:∃ y,DataW.trod enc Tryz.prog w 0 (fun _=>true) true n 9 ((cs.drop 2).take (Tryz.prog.cellsOf 9))=some y/\Blk.Bk B y.1:=hf 2 _ rfl;rw [oStr] at h2;obtain ⟨z3,h3,b3⟩:∃ y,DataW.trod enc Tryz.prog w 0 (fun _=>true) true n 9 ((cs.drop 3).take (Tryz.prog.cellsOf 9))=some y/\Blk.Bk B y.1:=hf 3 _ rfl;rw [oStr] at h3;obtain ⟨z4,h4,b4⟩:∃ y,DataW.trod enc Tryz.prog w 0 (fun _=>true) true n 39 ((cs.drop 4).take (Tryz.prog.cellsOf 39))=some y/\Blk.Bk B y.1:=hf 4 _ rfl;rw [oVal] at h4;obtain ⟨z5,h5,b5⟩:∃ y,DataW.trod enc Tryz.prog w 0 (fun _=>true) true n 3 ((cs.drop 9).take (Tryz.prog.cellsOf 3))=some y/\Blk.Bk B y.1:=hf 5 _ rfl;rw [oInt] at h5;obtain ⟨z6,h6,b6⟩:∃ y,DataW.trod enc Tryz.prog w 0 (fun _=>true) true n 4 ((cs.drop 10).take (Tryz.prog.cellsOf 4))=some y/\Blk.Bk B y.1:=hf 6 _ rfl;rw [oBool] at h6;obtain ⟨z7,h7,b7⟩:∃ y,DataW.trod enc Tryz.prog w 0 (fun _=>true) true n 4 ((cs.drop 11).take (Tryz.prog.cellsOf 4))=some y/\Blk.Bk B y.1:=hf 7 _ rfl;rw [oBool] at h7;obtain ⟨z8,h8,b8⟩:∃ y,DataW.trod enc Tryz.prog w 0 (fun _=>true) true n 37 ((cs.drop 12).take (Tryz.prog.cellsOf 37))=some y/\Blk.Bk B y.1:=hf 8 _ rfl;rw [oStrs] at h8;obtain ⟨v0,e0,w0,q0⟩:=Blk.field_str_b Tryz.underlying9 b0 h0;obtain ⟨v1,e1,w1,q1⟩:=Blk.field_str_b Tryz.underlying9 b1 h1;obtain ⟨v2,e2,w2,q2⟩:=Blk.field_str_b Tryz.underlying9 b2 h2;obtain ⟨v3,e3,w3,q3⟩:=Blk.field_str_b Tryz.underlying9 b3 h3;obtain ⟨xv,hxv⟩:=val_b hB (by rw [List.length_take,List.length_drop,hl];decide) b4 h4;obtain ⟨r,c,rk,ck,e4,hv⟩:=vr5_of hxv;have e4_0:=subc (k:=0) (by decide) (show ((cs.drop 4).take 5)[0]?=_ by rw [e4];rfl);have e4_1:=subc (k:=1) (by decide) (show ((cs.drop 4).take 5)[1]?=_ by rw [e4];rfl);have e4_2:=subc (k:=2) (by decide) (show ((cs.drop 4).take 5)[2]?=_ by rw [e4];rfl);have e4_3:=subc (k:=3) (by decide) (show ((cs.drop 4).take 5)[3]?=_ by rw [e4];rfl);have e4_4:=subc (k:=4) (by decide) (show ((cs.drop 4).take 5)[4]?=_ by rw [e4];rfl);obtain ⟨v5,e5,w5⟩:=field_int Tryz.underlying3 h5;obtain ⟨v6,e6⟩:=field_bool Tryz.underlying4 h6;obtain ⟨v7,e7⟩:=field_bool Tryz.underlying4 h7;obtain ⟨v8,xs,e8,S8,l8,q8⟩:=Blk.field_strs_b Tryz.underlying37 Tryz.underlying9 oStr (by omega) b8 h8;obtain ⟨dr,dc,e8',_⟩:=id S8;subst e8';refine ⟨⟨v0,v1,v2,v3,xv,v5,v6,v7,xs⟩,⟨⟨r,c,rk,ck,dr,dc⟩,lfit (by rw [hl];rfl) (fun i hi=>?_),hv,S8,bounds_i64 w5,w0,w1,w2,w3⟩,q0,q1,q2,q3,l8,q8⟩
 match i,hi with
 | 0,_=>exact e0
 | 1,_=>exact e1
 | 2,_=>exact e2
 | 3,_=>exact e3
 | 4,_=>exact e4_0
 | 5,_=>exact e4_1
 | 6,_=>exact e4_2
 | 7,_=>exact e4_3
 | 8,_=>exact e4_4
 | 9,_=>exact e5
 | 10,_=>exact e6
 | 11,_=>exact e7
 | 12,_=>exact e8
 | k+13,h=>exact absurd (show k+13 < 13 from h) (by omega)
set_option maxRecDepth 100000 in
theorem pnd_b {H:Type} {enc:TypeId × Value->H} {w:World} {B:Nat} : ∀ fuel cs (y:DataW H × List MemPlace),cs.length=3->Blk.Bk B y.1->DataW.trod enc Tryz.prog w 0 (fun _=>true) true fuel 58 cs=some y->∃ z,PdR w cs z/\PndZ B z:=by
 intro fuel cs y hl hb h;obtain ⟨_,n,rfl,hf⟩:=Blk.struct_b Tryz.underlying58 hb h;obtain ⟨z0,h0,b0⟩:∃ y,DataW.trod enc Tryz.prog w 0 (fun _=>true) true n 9 ((cs.drop 0).take (Tryz.prog.cellsOf 9))=some y/\Blk.Bk B y.1:=hf 0 _ rfl;rw [oStr] at h0;obtain ⟨z1,h1,b1⟩:∃ y,DataW.trod enc Tryz.prog w 0 (fun _=>true) true n 9 ((cs.drop 1).take (Tryz.prog.cellsOf 9))=some y/\Blk.Bk B y.1:=hf 1 _ rfl;rw [oStr] at h1;obtain ⟨z2,h2,b2⟩:∃ y,DataW.trod enc Tryz.prog w 0 (fun _=>true) true n 9 ((cs.drop 2).take (Tryz.prog.cellsOf 9))=some y/\Blk.Bk B y.1:=hf 2 _ rfl;rw [oStr] at h2;obtain ⟨v0,e0,w0,q0⟩:=Blk.field_str_b Tryz.underlying9 b0 h0;obtain ⟨v1,e1,w1,q1⟩:=Blk.field_str_b Tryz.underlying9 b1 h1;obtain ⟨v2,e2,w2,q2⟩:=Blk.field_str_b Tryz.underlying9 b2 h2;refine ⟨⟨v0,v1,v2⟩,⟨lfit (by rw [hl];rfl) (fun i hi=>?_),w0,w1,w2⟩,q0,q1,q2⟩
 match i,hi with
 | 0,_=>exact e0
 | 1,_=>exact e1
 | 2,_=>exact e2
 | k+3,h=>exact absurd (show k+3 < 3 from h) (by omega)
set_option maxRecDepth 100000 in
theorem sou_b {H:Type} {enc:TypeId × Value->H} {w:World} {B:Nat} (hB:B<=1048576):∀ fuel cs (y:DataW H × List MemPlace),cs.length=7->Blk.Bk B y.1->DataW.trod enc Tryz.prog w 0 (fun _=>true) true fuel 66 cs=some y->∃ z,SoR w cs z/\SouZ B z:=by
 intro fuel cs y hl hb h;obtain ⟨_,n,rfl,hf⟩:=Blk.struct_b Tryz.underlying66 hb h;obtain ⟨z0,h0,b0⟩:∃ y,DataW.trod enc Tryz.prog w 0 (fun _=>true) true n 9 ((cs.drop 0).take (Tryz.prog.cellsOf 9))=some y/\Blk.Bk B y.1:=hf 0 _ rfl;rw [oStr] at h0;obtain ⟨z1,h1,b1⟩:∃ y,DataW.trod enc Tryz.prog w 0 (fun _=>true) true n 39 ((cs.drop 1).take (Tryz.prog.cellsOf 39))=some y/\Blk.Bk B y.1:=hf 1 _ rfl;rw [oVal] at h1;obtain ⟨z2,h2,b2⟩:∃ y,DataW.trod enc Tryz.prog w 0 (fun _=>true) true n 4 ((cs.drop 6).take (Tryz.prog.cellsOf 4))=some y/\Blk.Bk B y.1:=hf 2 _ rfl;rw [oBool] at h2;obtain ⟨v0,e0,w0,q0⟩:=Blk.field_str_b Tryz.underlying9 b0 h0;obtain ⟨xv,hxv⟩:=val_b hB (by rw [List.length_take,List.length_drop,hl];decide) b1 h1;obtain ⟨r,c,rk,ck,e4,hv⟩:=vr5_of hxv;have e4_0:=subc (k:=0) (by decide) (show ((cs.drop 1).take 5)[0]?=_ by rw [e4];rfl);have e4_1:=subc (k:=1) (by decide) (show ((cs.drop 1).take 5)[1]?=_ by rw [e4];rfl);have e4_2:=subc (k:=2) (by decide) (show ((cs.drop 1).take 5)[2]?=_ by rw [e4];rfl);have e4_3:=subc (k:=3) (by decide) (show ((cs.drop 1).take 5)[3]?=_ by rw [e4];rfl);have e4_4:=subc (k:=4) (by decide) (show ((cs.drop 1).take 5)[4]?=_ by rw [e4];rfl);obtain ⟨v2,e2⟩:=field_bool Tryz.underlying4 h2;refine ⟨⟨v0,xv,v2⟩,⟨⟨⟨v0,xv,v2⟩,r,c,rk,ck⟩,rfl,lfit (by rw [hl];rfl) (fun i hi=>?_),hv,w0⟩,q0⟩
 match i,hi with
 | 0,_=>exact e0
 | 1,_=>exact e4_0
 | 2,_=>exact e4_1
 | 3,_=>exact e4_2
 | 4,_=>exact e4_3
 | 5,_=>exact e4_4
 | 6,_=>exact e2
 | k+7,h=>exact absurd (show k+7 < 7 from h) (by omega)
theorem outs_b {H:Type} {enc:TypeId × Value->H} {w:World} {B fuel o:Nat} (hB:B<=1048576) {cs:List Value} {y:DataW H × List MemPlace} (ho:o < cs.length) (hb:Blk.Bk B y.1) (h:DataW.trod enc Tryz.prog w 0 (fun _=>true) true fuel 24 ((cs.drop o).take 1)=some y) :
  ∃ r c,∃ xs:List Sou,cs[o]?=some (.slice r xs.length c)/\Sl SoR 7 w (.slice r xs.length c) xs/\xs.length<=B/\∀ x∈xs,SouZ B x:=by
 obtain ⟨v,xs,e,S,l⟩:=Blk.field_sl_b (fun w cs x=>SoR w cs x/\SouZ B x) Tryz.underlying24 oO (by omega) ho (fun f cs y hl hb h=>sou_b hB f cs y hl hb h) hb h;obtain ⟨r,c,rfl,_⟩:=id S;exact ⟨r,c,xs,e,Blk.sl_imp (fun _ _ h=>h.1) S,l,Blk.sl_all (fun _ _ h=>h.2) S⟩
set_option maxRecDepth 100000 in
theorem sta_b {H:Type} {enc:TypeId × Value->H} {w:World} {B:Nat} (hB:B<=1048576):∀ fuel cs (y:DataW H × List MemPlace),cs.length=5->Blk.Bk B y.1->DataW.trod enc Tryz.prog w 0 (fun _=>true) true fuel 26 cs=some y->∃ s p,cs=(staA s p).toList/\StaP w s p/\StaZ B s:=by
 intro fuel cs y hl hb h;obtain ⟨_,n,rfl,hf⟩:=Blk.struct_b Tryz.underlying26 hb h;obtain ⟨z0,h0,b0⟩:∃ y,DataW.trod enc Tryz.prog w 0 (fun _=>true) true n 9 ((cs.drop 0).take (Tryz.prog.cellsOf 9))=some y/\Blk.Bk B y.1:=hf 0 _ rfl;rw [oStr] at h0;obtain ⟨z1,h1,b1⟩:∃ y,DataW.trod enc Tryz.prog w 0 (fun _=>true) true n 3 ((cs.drop 1).take (Tryz.prog.cellsOf 3))=some y/\Blk.Bk B y.1:=hf 1 _ rfl;rw [oInt] at h1;obtain ⟨z2,h2,b2⟩:∃ y,DataW.trod enc Tryz.prog w 0 (fun _=>true) true n 22 ((cs.drop 2).take (Tryz.prog.cellsOf 22))=some y/\Blk.Bk B y.1:=hf 2 _ rfl;rw [oIns] at h2;obtain ⟨z3,h3,b3⟩:∃ y,DataW.trod enc Tryz.prog w 0 (fun _=>true) true n 23 ((cs.drop 3).take (Tryz.prog.cellsOf 23))=some y/\Blk.Bk B y.1:=hf 3 _ rfl;rw [oPen] at h3;obtain ⟨z4,h4,b4⟩:∃ y,DataW.trod enc Tryz.prog w 0 (fun _=>true) true n 24 ((cs.drop 4).take (Tryz.prog.cellsOf 24))=some y/\Blk.Bk B y.1:=hf 4 _ rfl;rw [oOut] at h4;obtain ⟨v0,e0,w0,q0⟩:=Blk.field_str_b Tryz.underlying9 b0 h0;obtain ⟨v1,e1,w1⟩:=field_int Tryz.underlying3 h1;obtain ⟨v2,xs,e2,S2,l2⟩:=Blk.field_sl_b (fun w cs x=>InR w cs x/\InsZ B x) Tryz.underlying22 oI (by omega) (by omega) (fun f cs y hl hb h=>ins_b hB f cs y hl hb h) b2 h2;obtain ⟨v3,ps,e3,S3,l3⟩:=Blk.field_sl_b (fun w cs x=>PdR w cs x/\PndZ B x) Tryz.underlying23 oP (by omega) (by omega) (fun f cs y hl hb h=>pnd_b f cs y hl hb h) b3 h3;obtain ⟨ro,co,os,e4,S4,l4,q4⟩:=outs_b hB (by omega) b4 h4;obtain ⟨ri,ci,rfl,_⟩:=id S2;obtain ⟨rp,cp,rfl,_⟩:=id S3;refine ⟨⟨v0,v1,xs,ps,os⟩,⟨ri,ci,rp,cp,ro,co⟩,lfit (by rw [hl];rfl) (fun i hi=>?_),⟨Blk.sl_imp (fun _ _ h=>h.1) S2,Blk.sl_imp (fun _ _ h=>h.1) S3,S4,bounds_i64 w1,w0⟩,q0,Blk.sl_all (fun _ _ h=>h.2) S2,Blk.sl_all (fun _ _ h=>h.2) S3,q4,l2,l3,l4⟩
 match i,hi with
 | 0,_=>exact e0
 | 1,_=>exact e1
 | 2,_=>exact e2
 | 3,_=>exact e3
 | 4,_=>exact e4
 | k+5,h=>exact absurd (show k+5 < 5 from h) (by omega)
end Go.Proofs.YtomhbcfjhgecbaaGreatDoor
namespace Go.Proofs.YtomhbcfjhgecbaaGreatDoor
open Go.RowKit Go.Sort Go.Lib
open Go.Lib (hid)
open Adr (WT)
open Stp (wp_region_fresh Spc Stb sVal sBool stTrue Lat Bef grw_below wpF_quiet wq grw_ex wpF_told wpF_put wpF_nil wpF_skip noEnter_op)
attribute [local go_sem] Stp.frUpon
attribute [local go_sem ↓] ldI_eq
attribute [local go_sem] ldI_run
attribute [local go_sem ↓] stI_eq
attribute [local go_sem] stI_run thereI_drew thereI_new put13_drew put13_new liesI_new rd13_new liesI_drew rd13_drew
theorem rvalidL_any (s:ByteArray) (w:World) (hs:4096 < s.size):Calls Tryz.prog 84 #[.string s] w fun e w'=>e=.returned (.bool false)/\w=w':=by
 have hz:¬ (s.size:Int)<=4096:=by omega
 have hz2:(4096:Int) < (s.size:Int):=by omega
 go_enter Tryz.func84,Tryz.ntmps84;go_wp2
 go_ret
 exact ⟨rfl,rfl⟩
theorem rtx_any (s:ByteArray) (w:World):Calls Tryz.prog 37 #[.string s] w fun e w'=>e=.returned (.bool (txB s))/\Below w.heap.size w w':=by
 by_cases h0:s=⟨#[]⟩
 . subst h0
   go_enter Tryz.func37,Tryz.ntmps37;go_wp2
   go_ret
   exact ⟨rfl,Below.refl _ _⟩
 have n1:=ne_empty h0
 have HC:Hid (Calls Tryz.prog 84 #[.string s] w fun e w'=>e=.returned (.bool (txB s))/\Below w.heap.size w w'):=by
  by_cases h1:s.size<=4096
  . exact hid ((rvalid_any s w h1).mono fun e w' h=>by rw [show txB s=validD s.data.toList by unfold txB;simp [h0,h1];rfl];exact h)
  . exact hid ((rvalidL_any s w (by omega)).mono fun e w' h=>by rw [show txB s=false by unfold txB;simp [h1]];exact ⟨h.1,h.2 ▸ Below.refl _ _⟩)
 clear h0;generalize txB s=v at *;go_enter Tryz.func37,Tryz.ntmps37;go_wp2_with (go_at_call 84;refine HC.out.mono ?_;rintro e w1 ⟨rfl,hb1⟩;have HB:=hid hb1;clear hb1)
 go_ret
 exact ⟨rfl,HB.out⟩
def MgR (l:List UInt8) (w:World) (e:Ending) (w':World):Prop:=∃ ty:List UInt8,e=.returned (.tuple #[.string ⟨ty.toArray⟩,.bool (mgT l).isSome])/\(∀ t,mgT l=some t->ty=t)/\Below w.heap.size w w'
set_option maxHeartbeats 4000000 in
theorem rmanaged_any (s:ByteArray) (w:World) (hs:s.size<=1200001):Calls Tryz.prog 59 #[.string s] w (MgR s.data.toList w):=by
 have HC:=hid (Adr.rparse_any s w hs)
 have HM:=hid (fun (xs:List Adr.MS) (d:Bool) (ty nm:List UInt8) (k:Adr.KeyT) (hp:Adr.prE s.data.toList=0->Adr.prR s.data.toList=some (xs,some (d,ty,nm,k)))=>show (mgT s.data.toList).isSome=(Adr.prE s.data.toList == 0 && !d)/\∀ t,mgT s.data.toList=some t->ty=t from by
  by_cases h0:Adr.prE s.data.toList=0
  . have hq:=hp h0
    unfold mgT;rw [if_pos h0,hq];cases d <;> simp [h0]
  . rw [mgT_no h0]
    simp [h0])
 have HQ:=hid (show ∀ e w',MgR s.data.toList w e w' ↔ MgR s.data.toList w e w' from fun _ _=>Iff.rfl);unfold MgR at HQ ⊢;generalize mgT s.data.toList=M at *;unfold Adr.RPaP at HC;generalize Adr.prE s.data.toList=E at *;generalize Adr.prR s.data.toList=PR at *;clear HQ hs
 by_cases h0:E=0
 all_goals
  go_enter Tryz.func59,Tryz.ntmps59;go_wp2_with (go_at_call 108;refine HC.out.mono ?_;rintro e w1 ⟨v1,xs,d,ty,nm,k,rfl,ho1,hb1,hp⟩;obtain ⟨r1,c1,rfl,_,_⟩:=own_form ho1;have HX:=hid (HM.out xs d ty nm k hp);have HB1:=hid hb1;clear hb1 ho1 hp)
  have BA:=hid (HB1.out.alloc HB1.out.size (.cells #[.slice r1 xs.length c1,.bool d,.string ⟨ty.toArray⟩,.string ⟨nm.toArray⟩,.int .i64 k.1,.int .i64 k.2.1,.string ⟨k.2.2.toArray⟩] 93));obtain ⟨WA,hWA⟩:∃ WA,WA=w1.alloc (.cells #[.slice r1 xs.length c1,.bool d,.string ⟨ty.toArray⟩,.string ⟨nm.toArray⟩,.int .i64 k.1,.int .i64 k.2.1,.string ⟨k.2.2.toArray⟩] 93):=⟨_,rfl⟩;rw [<-hWA] at BA;rw [<-hWA];have hla:WA.heap[w1.heap.size]?=some (.cells #[.slice r1 xs.length c1,.bool d,.string ⟨ty.toArray⟩,.string ⟨nm.toArray⟩,.int .i64 k.1,.int .i64 k.2.1,.string ⟨k.2.2.toArray⟩] 93):=hWA ▸ (MapKept.heap_alloc w1 _).1;have c1':=cellv hla 1 rfl;have c2':=cellv hla 2 rfl;clear hWA hla HC HM
  try subst h0
  try have n1:(E == 0)=false:=by simp [h0]
  try have HN:=hid h0
  try clear h0
  cases d
  all_goals
   go_quiet (fail)
   have BQ:=hid (bel_drewN BA.out nq);go_wp2
   go_ret2
   exact ⟨ty,by rw [HX.out.1];first | rfl | (rw [n1];rfl),HX.out.2,BQ.out⟩
theorem rkey31_any (s:ByteArray) (w:World) (hs:s.size<=2000000):Calls Tryz.prog 60 #[.string s] w fun e w'=>e=.returned (.bool (decide (s=⟨#[]⟩) || dkB s))/\w=w':=by
 have HC:=hid (Adr.rnum_any s w hs);unfold dkB;unfold Adr.NmR at HC;generalize Adr.numS s.data.toList=N at *;obtain ⟨n,e⟩:=N;dsimp only at *;clear hs
 have HZ:∃ z,s.toList.isEmpty=z/\decide (s=⟨#[]⟩)=z:=by
  by_cases h:s=⟨#[]⟩
  . exact ⟨true,by rw [h,ByteArray.toList_eq];rfl,decide_eq_true h⟩
  . exact ⟨false,ne_empty h,decide_eq_false h⟩
 obtain ⟨z,hz,hz2⟩:=HZ;rw [hz2];clear hz2;cases z with
 | true =>
   go_enter Tryz.func60,Tryz.ntmps60;go_wp2_with (go_at_call 109;refine HC.out.mono ?_;rintro e w1 ⟨rfl,rfl⟩)
   go_ret
   exact ⟨rfl,rfl⟩
 | false =>
 by_cases h0:e=0
 . subst h0
   go_enter Tryz.func60,Tryz.ntmps60;go_wp2_with (go_at_call 109;refine HC.out.mono ?_;rintro e w1 ⟨rfl,rfl⟩)
   go_ret
   exact ⟨ret_bool (by simp),rfl⟩
 . have h2:(e == 0)=false:=by simp [h0]
   have HF:=hid (show (false || (decide (e=0) && decide (1<=n)))=false by simp [h0]);clear h0;go_enter Tryz.func60,Tryz.ntmps60;go_wp2_with (go_at_call 109;refine HC.out.mono ?_;rintro e w1 ⟨rfl,rfl⟩)
   go_ret
   exact ⟨ret_bool HF.out,rfl⟩
theorem rstatic31_any (s:ByteArray) (w:World) (hs:s.size<=1200001):Calls Tryz.prog 111 #[.string s] w fun e w'=>e=.returned (.bool (stB1 s))/\Below w.heap.size w w':=by
 have HC:=hid (Adr.rstatic_any s w hs)
 have HF:=hid (show stB1 s=(decide (Adr.prE s.data.toList=0) && (Adr.stcB s.data.toList == s.toList)) by
  unfold stB1;rw [ByteArray.toList_eq]
  congr 1
  by_cases h:Adr.stcB s.data.toList=s.data.toList
  . rw [h];simp
  . rw [decide_eq_false h,beq_eq_false_iff_ne.2 h])
 rw [HF.out];clear hs HF;generalize Adr.prE s.data.toList=E at *;generalize Adr.stcB s.data.toList=S at *
 by_cases h0:E=0
 . subst h0
   go_enter Tryz.func111,Tryz.ntmps111;go_wp2_with (go_at_call 154;refine HC.out.mono ?_;rintro e w1 ⟨rfl,hb⟩;have HB:=hid hb;clear hb)
   go_ret
   exact ⟨ret_bool (by simp),HB.out⟩
 . have n1:(E == 0)=false:=by simp [h0]
   have HF:=hid (show (decide (E=0) && (S == s.toList))=false by simp [h0]);clear h0;go_enter Tryz.func111,Tryz.ntmps111;go_wp2_with (go_at_call 154;refine HC.out.mono ?_;rintro e w1 ⟨rfl,hb⟩;have HB:=hid hb;clear hb)
   go_ret
   exact ⟨ret_bool HF.out,HB.out⟩
set_option maxHeartbeats 4000000 in
theorem rdeps_any (l:List ByteArray) (r:Option Addr) (c:Nat) (w:World) (h:Sl StrR 1 w (.slice r l.length c) l) (hs:∀ x∈l,x.size<=1200001) :
  Calls Tryz.prog 63 #[.slice r l.length c] w fun e w'=>e=.returned (.bool (depsB l))/\Below w.heap.size w w':=by
 obtain ⟨_,hlc,hlm⟩:=sl_len h;have HL:=hid (fun (W:World) (hW:Below w.heap.size w W)=>str_at (h.below strR_mono hW));have HST:=hid (fun (x:ByteArray) (hx:x∈l) (W:World)=>rstatic31_any x W (hs x hx));have HE:=hid (fun (k:Nat) (hk:k < l.length)=>show depE l k=if stB1 l[k] && (decide (k=0) || ltL (l.getD (k - 1) ⟨#[]⟩) l[k]) then 0 else 1 from by unfold depE;rw [getD_at _ hk]);have HN:=hid (fun (k:Nat) (hk:k < l.length) (h1:∀ j,j < k->depE l j=0) (h2:depE l k=1)=>show depsB l=false from by unfold depsB;rw [fstE_at hk h1 (by rw [h2];decide),h2];rfl);have HY:=hid (fun (h1:∀ j,j < l.length->depE l j=0)=>show depsB l=true from by unfold depsB;rw [fstE_none h1];rfl);clear h hs;generalize depsB l=R at *;go_enter Tryz.func63,Tryz.ntmps63;go_wp2
 go_loopg [3] l.length (fun gg s9 wr=>∃ k:Nat,k<=l.length/\l.length - k<=gg/\s9=.int .i64 k/\Hid (Below w.heap.size w wr)/\Hid (∀ j,j < k->depE l j=0))
 case atStart=>exact ⟨0,Nat.zero_le _,by omega,rfl,hid (Below.refl _ _),hid fun j h=>absurd h (by omega)⟩
 case round =>
  obtain ⟨k,hk,hg,rfl,BW2,AL⟩:=hrel
  by_cases hlt:k < l.length
  case pos =>
   have hltz:(k:Int) < (l.length:Int):=by omega
   obtain ⟨b,off,rfl,hb,g0,_⟩:=HL.out wr BW2.out k hlt;have HC0:=hid (HST.out l[k] (List.getElem_mem hlt));have HEk:=hid (HE.out k hlt);have HNk:=hid (HN.out k hlt AL.out)
   have HYk:=hid (fun (h:depE l k=0)=>show Hid (∀ j,j < k+1->depE l j=0) from hid fun j hj=>by
    by_cases e:j < k
    . exact AL.out j e
    . obtain rfl:j=k:=by omega
      exact h)
   have HPP:=hid (fun (hk:0 < k)=>show ∃ y,y=l[k - 1]'(by omega)/\wr.cell? ⟨b,off+(k - 1),none⟩=some (.string y) from by
    obtain ⟨b',off',hr',_,g1,_⟩:=HL.out wr BW2.out (k - 1) (by omega);simp only [Option.some.injEq,Addr.mk.injEq] at hr';obtain ⟨rfl,rfl,_⟩:=hr';exact ⟨_,rfl,g1⟩)
   have HPD:=hid (fun (hk:0 < k)=>getD_at (l:=l) (k:=k - 1) ⟨#[]⟩ (by omega));have HC:=hid (fun (W:World) (hW:Below w.heap.size w W)=>HC0.out W);clear AL HC0;generalize stB1 l[k]=v at *;generalize l[k]=x at *;have kg0:=fun d os=>cell_regrown g0 d os;cases v with
   | false =>
     have HF:=hid (HNk.out (by rw [HEk.out];rfl));clear HEk HNk HYk HPP HPD HE HN HY;go_wp2_with fail
     refine wp_region_fresh (fun k=>match k with | 4=>some (sBool false) | _=>none) (by kernel_rfl) (by kernel_rfl) ?_
     iterate 4 (refine wq ?_;intro K hK;go_big_quiet_op;go_big_quiet_on)
     refine wpF_told (sBool false) (by kernel_rfl) rfl ⟨_,rfl⟩ stTrue (fun w4 hw4 hE4=>?_) ?_
     . have hb4:=grw_below hw4
       have hh:=HC.out w4 (BW2.out.trans (hb4.mono BW2.out.size));clear hw4 hE4 hb4;go_simp
       go_at_call 111;refine Calls.mono hh ?_;rintro e w5 ⟨rfl,hb5⟩;exact ⟨_,rfl,hb5,rfl,trivial⟩
     rintro _ rfl
     (refine wpF_put ?_;intro K hK;go_simp;refine hK _ ?_;clear hK K)
     iterate 2 (refine wq ?_;intro K hK;go_big_quiet_op;go_big_quiet_on)
     iterate 14 (refine wpF_skip (by kernel_rfl) ?_)
     (refine wpF_put ?_;intro K hK;go_simp;refine hK _ ?_;clear hK K)
     (refine wq ?_;intro K hK;go_big_quiet_op;go_big_quiet_on)
     refine wpF_nil ?_;intro w6 hw6 hE6;have hb6:=grw_below hw6;clear hw6 hE6;have HB6:=hid (BW2.out.trans (hb6.mono BW2.out.size));clear hb6;go_wp2_with fail
     go_ret
     exact ⟨ret_bool HF.out,HB6.out⟩
   | true =>
   by_cases hk0:k=0
   case pos =>
    have HA:=HYk.out (by rw [HEk.out];simp [hk0]);have hkz:decide ((0:Int) < (k:Int))=false:=decide_eq_false (by omega);have hkz2:decide (0 < k)=false:=decide_eq_false (by omega);have hkz3:¬ 0 < k:=by omega
    clear HEk HNk HYk hk0 HPP HPD;go_wp2_with fail
    refine wp_region_fresh (fun k=>match k with | 4=>some (sBool true) | _=>none) (by kernel_rfl) (by kernel_rfl) ?_
    iterate 4 (refine wq ?_;intro K hK;go_big_quiet_op;go_big_quiet_on)
    refine wpF_told (sBool true) (by kernel_rfl) rfl ⟨_,rfl⟩ stTrue (fun w4 hw4 hE4=>?_) ?_
    . have hb4:=grw_below hw4
      have hh:=HC.out w4 (BW2.out.trans (hb4.mono BW2.out.size));clear hw4 hE4 hb4;go_simp
      go_at_call 111;refine Calls.mono hh ?_;rintro e w5 ⟨rfl,hb5⟩;exact ⟨_,rfl,hb5,rfl,trivial⟩
    rintro _ rfl
    (refine wpF_put ?_;intro K hK;go_simp;refine hK _ ?_;clear hK K)
    iterate 2 (refine wq ?_;intro K hK;go_big_quiet_op;go_big_quiet_on)
    iterate 3 (refine wq ?_;intro K hK;go_big_quiet_op;go_big_quiet_on)
    iterate 10 (refine wpF_skip (by kernel_rfl) ?_)
    (refine wpF_put ?_;intro K hK;go_simp;refine hK _ ?_;clear hK K)
    iterate 2 (refine wq ?_;intro K hK;go_big_quiet_op;go_big_quiet_on)
    refine wpF_nil ?_;intro w6 hw6 hE6;have hb6:=grw_below hw6;clear hw6 hE6;have HB6:=hid (BW2.out.trans (hb6.mono BW2.out.size));clear hb6;go_wp2_with fail
    go_roundg (l.length - (k+1))
    case measure=>omega
    case rel=>exact ⟨k+1,by omega,by omega,by go_num,HB6,HA⟩
   case neg =>
   obtain ⟨y,hy,g1⟩:=HPP.out (by omega);have kg1:=fun d os=>cell_regrown g1 d os;have k0:(0:Int)<=(k:Int) - 1:=by omega
   have k1:(k:Int) - 1 < (l.length:Int):=by omega
   have k4:((k:Int) - 1).toNat=k - 1:=by omega
   have k5:wrap64 ((k:Int) - 1)=(k:Int) - 1:=by unfold wrap64;omega
   have k6:(0:Int) < (k:Int):=by omega
   have k9:(k:Int)<=(l.length:Int):=by omega
   have k7:(1:Int)<=(k:Int):=by omega
   have hd:decide ((0:Int) < (k:Int))=true:=decide_eq_true (by omega);have hd2:decide (0 < k)=true:=decide_eq_true (by omega);have hpos:0 < k:=by omega
   have HEk2:Hid (depE l k=if ltL y x then 0 else 1):=hid (by rw [HEk.out,HPD.out (by omega),<-hy];simp [hk0]);have q:=lessL y x;clear HEk HPD HPP hy hk0;generalize ltL y x=L at *;cases L with
   | true =>
     have HA:=HYk.out (by rw [HEk2.out];rfl);clear HEk2 HNk HYk;go_wp2_with fail
     refine wp_region_fresh (fun k=>match k with | 4=>some (sBool true) | _=>none) (by kernel_rfl) (by kernel_rfl) ?_
     iterate 4 (refine wq ?_;intro K hK;go_big_quiet_op;go_big_quiet_on)
     refine wpF_told (sBool true) (by kernel_rfl) rfl ⟨_,rfl⟩ stTrue (fun w4 hw4 hE4=>?_) ?_
     . have hb4:=grw_below hw4
       have hh:=HC.out w4 (BW2.out.trans (hb4.mono BW2.out.size));clear hw4 hE4 hb4;go_simp
       go_at_call 111;refine Calls.mono hh ?_;rintro e w5 ⟨rfl,hb5⟩;exact ⟨_,rfl,hb5,rfl,trivial⟩
     rintro _ rfl
     (refine wpF_put ?_;intro K hK;go_simp;refine hK _ ?_;clear hK K)
     iterate 2 (refine wq ?_;intro K hK;go_big_quiet_op;go_big_quiet_on)
     iterate 3 (refine wq ?_;intro K hK;go_big_quiet_op;go_big_quiet_on)
     iterate 10 (refine wq ?_;intro K hK;go_big_quiet_op;go_big_quiet_on)
     iterate 2 (refine wq ?_;intro K hK;go_big_quiet_op;go_big_quiet_on)
     refine wpF_nil ?_;intro w6 hw6 hE6;have hb6:=grw_below hw6;clear hw6 hE6;have HB6:=hid (BW2.out.trans (hb6.mono BW2.out.size));clear hb6;go_wp2_with fail
     go_roundg (l.length - (k+1))
     case measure=>omega
     case rel=>exact ⟨k+1,by omega,by omega,by go_num,HB6,HA⟩
   | false =>
     have HF:=hid (HNk.out (by rw [HEk2.out];rfl));clear HEk2 HNk HYk HE HN HY;go_wp2_with fail
     refine wp_region_fresh (fun k=>match k with | 4=>some (sBool true) | _=>none) (by kernel_rfl) (by kernel_rfl) ?_
     iterate 4 (refine wq ?_;intro K hK;go_big_quiet_op;go_big_quiet_on)
     refine wpF_told (sBool true) (by kernel_rfl) rfl ⟨_,rfl⟩ stTrue (fun w4 hw4 hE4=>?_) ?_
     . have hb4:=grw_below hw4
       have hh:=HC.out w4 (BW2.out.trans (hb4.mono BW2.out.size));clear hw4 hE4 hb4;go_simp
       go_at_call 111;refine Calls.mono hh ?_;rintro e w5 ⟨rfl,hb5⟩;exact ⟨_,rfl,hb5,rfl,trivial⟩
     rintro _ rfl
     (refine wpF_put ?_;intro K hK;go_simp;refine hK _ ?_;clear hK K)
     iterate 2 (refine wq ?_;intro K hK;go_big_quiet_op;go_big_quiet_on)
     iterate 3 (refine wq ?_;intro K hK;go_big_quiet_op;go_big_quiet_on)
     iterate 10 (refine wq ?_;intro K hK;go_big_quiet_op;go_big_quiet_on)
     iterate 2 (refine wq ?_;intro K hK;go_big_quiet_op;go_big_quiet_on)
     refine wpF_nil ?_;intro w6 hw6 hE6;have hb6:=grw_below hw6;clear hw6 hE6;have HB6:=hid (BW2.out.trans (hb6.mono BW2.out.size));clear hb6;go_wp2_with fail
     go_ret
     exact ⟨ret_bool HF.out,HB6.out⟩
  case neg =>
  have hltz:¬ (k:Int) < (l.length:Int):=by omega
  have HF:=hid (HY.out fun j hj=>AL.out j (by omega));clear AL;go_wp2
  go_ret
  exact ⟨ret_bool HF.out,BW2.out⟩
end Go.Proofs.YtomhbcfjhgecbaaGreatDoor
namespace Go.Proofs.YtomhbcfjhgecbaaGreatDoor
open Go.RowKit Go.Sort Go.Lib
open Go.Lib (hid)
open Adr (WT)
open Stp (wp_region_fresh Spc Stb sVal sBool stTrue Lat Bef grw_below wpF_quiet wq grw_ex wpF_told wpF_put wpF_nil wpF_skip noEnter_op)
attribute [local go_sem] Stp.frUpon
attribute [local go_sem ↓] ldI_eq
attribute [local go_sem] ldI_run
attribute [local go_sem ↓] stI_eq
attribute [local go_sem] stI_run thereI_drew thereI_new put13_drew put13_new liesI_new rd13_new liesI_drew rd13_drew
structure InsR1 (x:Ins):Prop where
 ad:x.ad.size<=1200001
 de:x.de.size<=1200001
 dp:∀ d∈x.dp,d.size<=1200001
theorem bget4 {w W:World} {b:Nat} {v0 v1 v2:Value} (hb:Below w.heap.size w W) (h:w.cell? ⟨b,0,none⟩=some v0/\w.cell? ⟨b,1,none⟩=some v1/\w.cell? ⟨b,2,none⟩=some v2):W.cell? ⟨b,0,none⟩=some v0/\W.cell? ⟨b,1,none⟩=some v1/\W.cell? ⟨b,2,none⟩=some v2:=⟨bget hb h.1,bget hb h.2.1,bget hb h.2.2⟩
set_option maxRecDepth 100000 in
set_option maxHeartbeats 8000000 in
theorem rinstance_any (x:Ins) (p:Pt) (w:World) (hx:InsP w x p) (hs:InsR1 x) :
  Calls Tryz.prog 20 #[.agg (insA x p)] w fun e w'=>e=.returned (.int .i64 (insC x))/\Below w.heap.size w w':=by
 have HM:=hid (fun (W:World)=>rmanaged_any x.ad W hs.ad);have HK:=hid (fun (W:World)=>rkey31_any x.de W (by have:=hs.de;omega));have HX:=hid (fun (W:World)=>rtx_any x.id W);have HC:=hid (fun (W:World) (hW:Below w.heap.size w W)=>rCheck_any x.at_ p.r p.c p.rk p.ck W (hx.1.below hW));have HKN:=hid (fun (W:World) (hW:Below w.heap.size w W)=>rknown_any x.at_ p.r p.c p.rk p.ck W (hx.1.below hW));have HD:=hid (fun (W:World) (hW:Below w.heap.size w W)=>rdeps_any x.dp p.dr p.dc W (hx.2.1.below strR_mono hW) hs.dp);have hb0:Below w.heap.size w (w.alloc (.cells (insA x p) 41)):=(Below.refl _ _).alloc (Nat.le_refl _) _;have hc0:=(MapKept.heap_alloc w (.cells (insA x p) 41)).1;obtain ⟨W0,hW0⟩:∃ W0,W0=w.alloc (.cells (insA x p) 41):=⟨_,rfl⟩;rw [<-hW0] at hb0 hc0;have HW0:=hid hW0;have HB0:=hid hb0;have u0:W0.cell? ⟨w.heap.size,0,none⟩=some (.string x.ad):=cellv hc0 0 rfl;have u1:W0.cell? ⟨w.heap.size,1,none⟩=some (.string x.de):=cellv hc0 1 rfl;have u2:W0.cell? ⟨w.heap.size,2,none⟩=some (.string x.id):=cellv hc0 2 rfl;have u3:W0.cell? ⟨w.heap.size,3,none⟩=some (.string x.ty):=cellv hc0 3 rfl;have u4:W0.cell? ⟨w.heap.size,4,none⟩=some (.int .i64 x.at_.kind):=cellv hc0 4 rfl;have u5:W0.cell? ⟨w.heap.size,5,none⟩=some (.int .i64 x.at_.num):=cellv hc0 5 rfl;have u6:W0.cell? ⟨w.heap.size,6,none⟩=some (.string x.at_.str):=cellv hc0 6 rfl;have u7:W0.cell? ⟨w.heap.size,7,none⟩=some (.slice p.r x.at_.items.length p.c):=cellv hc0 7 rfl;have u8:W0.cell? ⟨w.heap.size,8,none⟩=some (.slice p.rk x.at_.keys.length p.ck):=cellv hc0 8 rfl;have u9:W0.cell? ⟨w.heap.size,9,none⟩=some (.int .i64 x.ver):=cellv hc0 9 rfl;have u10:W0.cell? ⟨w.heap.size,10,none⟩=some (.bool x.ta):=cellv hc0 10 rfl;have u11:W0.cell? ⟨w.heap.size,11,none⟩=some (.bool x.cf):=cellv hc0 11 rfl;have u12:W0.cell? ⟨w.heap.size,12,none⟩=some (.slice p.dr x.dp.length p.dc):=cellv hc0 12 rfl;have HZ0:=hid (show W0.heap.size=w.heap.size+1 by rw [hW0];simp);have h1:=@insC_1 x;have h2:=@insC_2 x;unfold mgB at h1 h2;unfold MgR at HM;obtain ⟨M,e1⟩:∃ b,mgT x.ad.data.toList=b:=⟨_,rfl⟩;obtain ⟨b2,e2⟩:∃ b,(decide (x.de=⟨#[]⟩) || dkB x.de)=b:=⟨_,rfl⟩;obtain ⟨b3,e3⟩:∃ b,txB x.id=b:=⟨_,rfl⟩;obtain ⟨ce,e4⟩:∃ b,checkV vU x.at_=b:=⟨_,rfl⟩;obtain ⟨kn,e5⟩:∃ b,knownV x.at_=b:=⟨_,rfl⟩;obtain ⟨ds,e6⟩:∃ b,depsB x.dp=b:=⟨_,rfl⟩;rw [e1,e2,e3] at h1 h2;rw [e4,e5,e6] at h2;rw [e1] at HM;rw [e2] at HK;rw [e3] at HX;rw [e4] at HC;rw [e5] at HKN;rw [e6] at HD;have H1:=hid h1;have H2:=hid h2;clear h1 h2 e1 e2 e3 e4 e5 e6 hx hs hc0 hb0 hW0;generalize insC x=R at *;unfold insA;go_enter Tryz.func20,Tryz.ntmps20;go_upto_region 1 with (fail)
 have hW0:=HW0.out;unfold insA at hW0;rw [<-hW0];clear hW0 HW0;have HCE:=hid (fun (W:World) (hW:Below W0.heap.size W0 W)=>show W.cell? ⟨w.heap.size,1,none⟩=some (.string x.de)/\W.cell? ⟨w.heap.size,2,none⟩=some (.string x.id)/\W.cell? ⟨w.heap.size,3,none⟩=some (.string x.ty)/\W.cell? ⟨w.heap.size,4,none⟩=some (.int .i64 x.at_.kind)/\W.cell? ⟨w.heap.size,5,none⟩=some (.int .i64 x.at_.num)/\W.cell? ⟨w.heap.size,6,none⟩=some (.string x.at_.str)/\W.cell? ⟨w.heap.size,7,none⟩=some (.slice p.r x.at_.items.length p.c)/\W.cell? ⟨w.heap.size,8,none⟩=some (.slice p.rk x.at_.keys.length p.ck)/\W.cell? ⟨w.heap.size,9,none⟩=some (.int .i64 x.ver)/\W.cell? ⟨w.heap.size,10,none⟩=some (.bool x.ta)/\W.cell? ⟨w.heap.size,11,none⟩=some (.bool x.cf)/\W.cell? ⟨w.heap.size,12,none⟩=some (.slice p.dr x.dp.length p.dc) from ⟨bget hW u1,bget hW u2,bget hW u3,bget hW u4,bget hW u5,bget hW u6,bget hW u7,bget hW u8,bget hW u9,bget hW u10,bget hW u11,bget hW u12⟩);have HBc:=hid (Below.refl W0.heap.size W0);have HG:=hid (fun (W:World) (hW:Below W0.heap.size W0 W)=>HB0.out.trans (hW.mono HB0.out.size));cases M with
 | none =>
   have HF:=hid (H1.out (by simp));clear H1 H2;go_wp2_with (first | (go_at_call 59;refine (HM.out _).mono ?_;rintro e w1 ⟨ty,rfl,hty,hb1⟩;have HTY:=hid hty;have HBc:=hid (HBc.out.trans (hb1.mono HBc.out.size));clear hb1 hty;obtain ⟨v1,v2,v3,v4,v5,v6,v7,v8,v9,v10,v11,v12⟩:=HCE.out _ HBc.out) | (go_at_call 60;refine (HK.out _).mono ?_;rintro e w1 ⟨rfl,rfl⟩) | (go_at_call 37;refine (HX.out _).mono ?_;rintro e w1 ⟨rfl,hb1⟩;have HBc:=hid (HBc.out.trans (hb1.mono HBc.out.size));clear hb1;obtain ⟨v1,v2,v3,v4,v5,v6,v7,v8,v9,v10,v11,v12⟩:=HCE.out _ HBc.out))
   go_ret
   exact ⟨ret_int HF.out,HG.out _ HBc.out⟩
 | some t =>
 cases b2 with
 | false =>
   have HF:=hid (H1.out (by simp));clear H1 H2;go_wp2_with (first | (go_at_call 59;refine (HM.out _).mono ?_;rintro e w1 ⟨ty,rfl,hty,hb1⟩;have HTY:=hid hty;have HBc:=hid (HBc.out.trans (hb1.mono HBc.out.size));clear hb1 hty;obtain ⟨v1,v2,v3,v4,v5,v6,v7,v8,v9,v10,v11,v12⟩:=HCE.out _ HBc.out) | (go_at_call 60;refine (HK.out _).mono ?_;rintro e w1 ⟨rfl,rfl⟩) | (go_at_call 37;refine (HX.out _).mono ?_;rintro e w1 ⟨rfl,hb1⟩;have HBc:=hid (HBc.out.trans (hb1.mono HBc.out.size));clear hb1;obtain ⟨v1,v2,v3,v4,v5,v6,v7,v8,v9,v10,v11,v12⟩:=HCE.out _ HBc.out))
   go_ret
   exact ⟨ret_int HF.out,HG.out _ HBc.out⟩
 | true =>
 cases b3 with
 | false =>
   have HF:=hid (H1.out (by simp));clear H1 H2;go_wp2_with (first | (go_at_call 59;refine (HM.out _).mono ?_;rintro e w1 ⟨ty,rfl,hty,hb1⟩;have HTY:=hid hty;have HBc:=hid (HBc.out.trans (hb1.mono HBc.out.size));clear hb1 hty;obtain ⟨v1,v2,v3,v4,v5,v6,v7,v8,v9,v10,v11,v12⟩:=HCE.out _ HBc.out) | (go_at_call 60;refine (HK.out _).mono ?_;rintro e w1 ⟨rfl,rfl⟩) | (go_at_call 37;refine (HX.out _).mono ?_;rintro e w1 ⟨rfl,hb1⟩;have HBc:=hid (HBc.out.trans (hb1.mono HBc.out.size));clear hb1;obtain ⟨v1,v2,v3,v4,v5,v6,v7,v8,v9,v10,v11,v12⟩:=HCE.out _ HBc.out))
   go_ret
   exact ⟨ret_int HF.out,HG.out _ HBc.out⟩
 | true =>
 go_upto_region 2 with (go_at_call 59;refine (HM.out _).mono ?_;rintro e w1 ⟨ty,rfl,hty,hb1⟩;have HTY:=hid hty;have HBc:=hid (HBc.out.trans (hb1.mono HBc.out.size));clear hb1 hty;obtain ⟨v1,v2,v3,v4,v5,v6,v7,v8,v9,v10,v11,v12⟩:=HCE.out _ HBc.out)
 obtain rfl:=HTY.out t rfl;clear HTY
 by_cases hq:ty=x.ty.data.toList
 case neg =>
  have n1:(x.ty.toList == ty)=false:=by rw [beq_eq_false_iff_ne,ByteArray.toList_eq];exact fun e=>hq e.symm
  have HF:=hid (H1.out (by simp [hq]));clear H1 H2 hq;go_wp2_with (first | (go_at_call 59;refine (HM.out _).mono ?_;rintro e w1 ⟨ty,rfl,hty,hb1⟩;have HTY:=hid hty;have HBc:=hid (HBc.out.trans (hb1.mono HBc.out.size));clear hb1 hty;obtain ⟨v1,v2,v3,v4,v5,v6,v7,v8,v9,v10,v11,v12⟩:=HCE.out _ HBc.out) | (go_at_call 60;refine (HK.out _).mono ?_;rintro e w1 ⟨rfl,rfl⟩) | (go_at_call 37;refine (HX.out _).mono ?_;rintro e w1 ⟨rfl,hb1⟩;have HBc:=hid (HBc.out.trans (hb1.mono HBc.out.size));clear hb1;obtain ⟨v1,v2,v3,v4,v5,v6,v7,v8,v9,v10,v11,v12⟩:=HCE.out _ HBc.out))
  go_ret
  exact ⟨ret_int HF.out,HG.out _ HBc.out⟩
 case pos =>
 have H2:=hid (H2.out (by simp [hq]));have n1:(x.ty.toList == ty)=true:=by rw [hq,ByteArray.toList_eq];simp
 clear H1 hq;go_upto_region 4 with (first | (go_at_call 59;refine (HM.out _).mono ?_;rintro e w1 ⟨ty,rfl,hty,hb1⟩;have HTY:=hid hty;have HBc:=hid (HBc.out.trans (hb1.mono HBc.out.size));clear hb1 hty;obtain ⟨v1,v2,v3,v4,v5,v6,v7,v8,v9,v10,v11,v12⟩:=HCE.out _ HBc.out) | (go_at_call 60;refine (HK.out _).mono ?_;rintro e w1 ⟨rfl,rfl⟩) | (go_at_call 37;refine (HX.out _).mono ?_;rintro e w1 ⟨rfl,hb1⟩;have HBc:=hid (HBc.out.trans (hb1.mono HBc.out.size));clear hb1;obtain ⟨v1,v2,v3,v4,v5,v6,v7,v8,v9,v10,v11,v12⟩:=HCE.out _ HBc.out))
 by_cases hc:ce=0
 case neg =>
  have HF:=hid (H2.out.trans (if_pos hc));have c1:(ce != 0)=true:=by simp [hc]
  have c2:(ce == 0)=false:=by simp [hc]
  clear hc;clear H2;go_wp2_with (go_at_call 61;refine (HC.out _ (HG.out _ HBc.out)).mono ?_;rintro e w1 ⟨rfl,hb1⟩;have HBc:=hid (HBc.out.trans (hb1.mono HBc.out.size));clear hb1;obtain ⟨v1,v2,v3,v4,v5,v6,v7,v8,v9,v10,v11,v12⟩:=HCE.out _ HBc.out)
  go_ret
  exact ⟨ret_int HF.out,HG.out _ HBc.out⟩
 case pos =>
 subst hc;have H2:=hid (H2.out.trans (if_neg (by decide)));go_upto_region 7 with (go_at_call 61;refine (HC.out _ (HG.out _ HBc.out)).mono ?_;rintro e w1 ⟨rfl,hb1⟩;have HBc:=hid (HBc.out.trans (hb1.mono HBc.out.size));clear hb1;obtain ⟨v1,v2,v3,v4,v5,v6,v7,v8,v9,v10,v11,v12⟩:=HCE.out _ HBc.out)
 by_cases hk:x.at_.kind=5
 case neg =>
  have HF:=hid (H2.out.trans (if_pos hk));have c1:(x.at_.kind != 5)=true:=by simp [hk]
  have c2:(x.at_.kind == 5)=false:=by simp [hk]
  clear hk;clear H2;go_wp2_with (fail)
  go_ret
  exact ⟨ret_int HF.out,HG.out _ HBc.out⟩
 case pos =>
 have H2:=hid (H2.out.trans (if_neg (by simp [hk])));have c1:(x.at_.kind != 5)=false:=by simp [hk]
 have c2:(x.at_.kind == 5)=true:=by simp [hk]
 clear hk;go_upto_region 9 with (fail)
 cases kn with
 | false =>
   have HF:=hid (H2.out.trans (if_pos rfl));clear H2;go_wp2_with (go_at_call 62;refine (HKN.out _ (HG.out _ HBc.out)).mono ?_;rintro e w1 ⟨rfl,hb1⟩;have HBc:=hid (HBc.out.trans (hb1.mono HBc.out.size));clear hb1;obtain ⟨v1,v2,v3,v4,v5,v6,v7,v8,v9,v10,v11,v12⟩:=HCE.out _ HBc.out)
   go_ret
   exact ⟨ret_int HF.out,HG.out _ HBc.out⟩
 | true =>
 have H2:=hid (H2.out.trans (if_neg (by decide)));go_upto_region 11 with (go_at_call 62;refine (HKN.out _ (HG.out _ HBc.out)).mono ?_;rintro e w1 ⟨rfl,hb1⟩;have HBc:=hid (HBc.out.trans (hb1.mono HBc.out.size));clear hb1;obtain ⟨v1,v2,v3,v4,v5,v6,v7,v8,v9,v10,v11,v12⟩:=HCE.out _ HBc.out)
 by_cases h1:x.ver < 1
 case pos =>
  have HF:=hid (H2.out.trans (if_pos (Or.inl h1)));clear H2;go_wp2_with (fail)
  go_ret
  exact ⟨ret_int HF.out,HG.out _ HBc.out⟩
 case neg =>
 by_cases h2:9007199254740992 < x.ver
 case pos =>
  have HF:=hid (H2.out.trans (if_pos (Or.inr h2)));clear H2;go_wp2_with (fail)
  go_ret
  exact ⟨ret_int HF.out,HG.out _ HBc.out⟩
 case neg =>
 have H2:=hid (H2.out.trans (if_neg (by omega)));go_upto_region 13 with (fail)
 cases ds with
 | false =>
   have HF:=hid (H2.out.trans (if_pos rfl));clear H2;go_wp2_with (go_at_call 63;refine (HD.out _ (HG.out _ HBc.out)).mono ?_;rintro e w1 ⟨rfl,hb1⟩;have HBc:=hid (HBc.out.trans (hb1.mono HBc.out.size)))
   go_ret
   exact ⟨ret_int HF.out,HG.out _ HBc.out⟩
 | true =>
   have HF:=hid (H2.out.trans (if_neg (by decide)));clear H2;go_wp2_with (go_at_call 63;refine (HD.out _ (HG.out _ HBc.out)).mono ?_;rintro e w1 ⟨rfl,hb1⟩;have HBc:=hid (HBc.out.trans (hb1.mono HBc.out.size)))
   go_ret
   exact ⟨ret_int HF.out,HG.out _ HBc.out⟩
set_option maxRecDepth 100000 in
set_option maxHeartbeats 4000000 in
theorem rpending_any (x:Pnd) (w:World) (hs:x.ad.size<=1200001) :
  Calls Tryz.prog 39 #[.agg #[.string x.ad,.string x.ty,.string x.tok]] w fun e w'=>e=.returned (.int .i64 (if penB x then 0 else 1))/\Below w.heap.size w w':=by
 have HM:=hid (fun (W:World)=>rmanaged_any x.ad W hs);have HX:=hid (fun (W:World)=>rtx_any x.tok W);have HQ:=hid (show (if penB x then (0:Int) else 1)=if (txB x.tok && decide (mgT x.ad.data.toList=some x.ty.data.toList)) then 0 else 1 from rfl);generalize (if penB x then (0:Int) else 1)=Q at *;unfold MgR at HM;generalize mgT x.ad.data.toList=M at *;generalize txB x.tok=b3 at *;clear hs;obtain ⟨W0,hW0⟩:∃ W0,W0=w.alloc (.cells #[.string x.ad,.string x.ty,.string x.tok] 58):=⟨_,rfl⟩;have HW0:=hid hW0;have HB0:=hid (show Below w.heap.size w W0 from hW0 ▸ (Below.refl _ _).alloc (Nat.le_refl _) _);have hc0:W0.heap[w.heap.size]?=some (.cells #[.string x.ad,.string x.ty,.string x.tok] 58):=hW0 ▸ (MapKept.heap_alloc w _).1;have u0:W0.cell? ⟨w.heap.size,0,none⟩=some (.string x.ad):=cellv hc0 0 rfl;have u1:W0.cell? ⟨w.heap.size,1,none⟩=some (.string x.ty):=cellv hc0 1 rfl;have u2:W0.cell? ⟨w.heap.size,2,none⟩=some (.string x.tok):=cellv hc0 2 rfl;have HCE:=hid (fun (W:World) (hW:Below W0.heap.size W0 W)=>bget4 hW ⟨u0,u1,u2⟩);have HG:=hid (fun (W:World) (hW:Below W0.heap.size W0 W)=>HB0.out.trans (hW.mono HB0.out.size));have HBc:=hid (Below.refl W0.heap.size W0);clear hW0 hc0;go_enter Tryz.func39,Tryz.ntmps39;go_upto_region 1 with (fail)
 rw [<-HW0.out];clear HW0;cases b3 with
 | false =>
   cases M with
   | none =>
     have HF:=hid (show Q=1 by rw [HQ.out];simp);clear HQ;go_wp2_with (first | (go_at_call 59;refine (HM.out _).mono ?_;rintro e w1 ⟨ty,rfl,hty,hb1⟩;have HTY:=hid hty;have HBc:=hid (HBc.out.trans (hb1.mono HBc.out.size));clear hb1 hty;obtain ⟨v0,v1,v2⟩:=HCE.out _ HBc.out) | (go_at_call 37;refine (HX.out _).mono ?_;rintro e w1 ⟨rfl,hb1⟩;have HBc:=hid (HBc.out.trans (hb1.mono HBc.out.size));clear hb1;obtain ⟨v0,v1,v2⟩:=HCE.out _ HBc.out))
     go_ret
     exact ⟨ret_int HF.out,HG.out _ HBc.out⟩
   | some t =>
     have HF:=hid (show Q=1 by rw [HQ.out];simp);clear HQ;go_wp2_with (first | (go_at_call 59;refine (HM.out _).mono ?_;rintro e w1 ⟨ty,rfl,hty,hb1⟩;have HTY:=hid hty;have HBc:=hid (HBc.out.trans (hb1.mono HBc.out.size));clear hb1 hty;obtain ⟨v0,v1,v2⟩:=HCE.out _ HBc.out) | (go_at_call 37;refine (HX.out _).mono ?_;rintro e w1 ⟨rfl,hb1⟩;have HBc:=hid (HBc.out.trans (hb1.mono HBc.out.size));clear hb1;obtain ⟨v0,v1,v2⟩:=HCE.out _ HBc.out))
     go_ret
     exact ⟨ret_int HF.out,HG.out _ HBc.out⟩
 | true =>
 cases M with
 | none =>
   have HF:=hid (show Q=1 by rw [HQ.out];simp);clear HQ;go_wp2_with (first | (go_at_call 59;refine (HM.out _).mono ?_;rintro e w1 ⟨ty,rfl,hty,hb1⟩;have HTY:=hid hty;have HBc:=hid (HBc.out.trans (hb1.mono HBc.out.size));clear hb1 hty;obtain ⟨v0,v1,v2⟩:=HCE.out _ HBc.out) | (go_at_call 37;refine (HX.out _).mono ?_;rintro e w1 ⟨rfl,hb1⟩;have HBc:=hid (HBc.out.trans (hb1.mono HBc.out.size));clear hb1;obtain ⟨v0,v1,v2⟩:=HCE.out _ HBc.out))
   go_ret
   exact ⟨ret_int HF.out,HG.out _ HBc.out⟩
 | some t =>
 go_upto_region 2 with (first | (go_at_call 59;refine (HM.out _).mono ?_;rintro e w1 ⟨ty,rfl,hty,hb1⟩;have HTY:=hid hty;have HBc:=hid (HBc.out.trans (hb1.mono HBc.out.size));clear hb1 hty;obtain ⟨v0,v1,v2⟩:=HCE.out _ HBc.out) | (go_at_call 37;refine (HX.out _).mono ?_;rintro e w1 ⟨rfl,hb1⟩;have HBc:=hid (HBc.out.trans (hb1.mono HBc.out.size));clear hb1;obtain ⟨v0,v1,v2⟩:=HCE.out _ HBc.out))
 obtain rfl:=HTY.out t rfl;clear HTY
 by_cases hq:ty=x.ty.data.toList
 case neg =>
  have n1:(x.ty.toList == ty)=false:=by rw [beq_eq_false_iff_ne,ByteArray.toList_eq];exact fun e=>hq e.symm
  have HF:=hid (show Q=1 by rw [HQ.out];simp [hq]);clear HQ hq;go_wp2_with (first | (go_at_call 59;refine (HM.out _).mono ?_;rintro e w1 ⟨ty,rfl,hty,hb1⟩;have HTY:=hid hty;have HBc:=hid (HBc.out.trans (hb1.mono HBc.out.size));clear hb1 hty;obtain ⟨v0,v1,v2⟩:=HCE.out _ HBc.out) | (go_at_call 37;refine (HX.out _).mono ?_;rintro e w1 ⟨rfl,hb1⟩;have HBc:=hid (HBc.out.trans (hb1.mono HBc.out.size));clear hb1;obtain ⟨v0,v1,v2⟩:=HCE.out _ HBc.out))
  go_ret
  exact ⟨ret_int HF.out,HG.out _ HBc.out⟩
 case pos =>
 have n1:(x.ty.toList == ty)=true:=by rw [hq,ByteArray.toList_eq];simp
 have HF:=hid (show Q=0 by rw [HQ.out];simp [hq]);clear HQ hq;go_wp2_with (first | (go_at_call 59;refine (HM.out _).mono ?_;rintro e w1 ⟨ty,rfl,hty,hb1⟩;have HTY:=hid hty;have HBc:=hid (HBc.out.trans (hb1.mono HBc.out.size));clear hb1 hty;obtain ⟨v0,v1,v2⟩:=HCE.out _ HBc.out) | (go_at_call 37;refine (HX.out _).mono ?_;rintro e w1 ⟨rfl,hb1⟩;have HBc:=hid (HBc.out.trans (hb1.mono HBc.out.size));clear hb1;obtain ⟨v0,v1,v2⟩:=HCE.out _ HBc.out))
 go_ret
 exact ⟨ret_int HF.out,HG.out _ HBc.out⟩
set_option maxRecDepth 100000 in
set_option maxHeartbeats 4000000 in
theorem routput_any (x:Sou) (r:Option Addr) (c:Nat) (rk:Option Addr) (ck:Nat) (w:World) (hx:VR5 w r c rk ck x.v) (hs:x.nm.size<=2000000) :
  Calls Tryz.prog 86 #[.agg #[.string x.nm,.int .i64 x.v.kind,.int .i64 x.v.num,.string x.v.str,.slice r x.v.items.length c,.slice rk x.v.keys.length ck,.bool x.se]] w fun e w'=>e=.returned (.int .i64 (outC x))/\Below w.heap.size w w':=by
 have HI:=hid (fun (W:World)=>Adr.rident_any x.nm W hs);have HC:=hid (fun (W:World) (hW:Below w.heap.size w W)=>rCheck_any x.v r c rk ck W (hx.below hW));have HKN:=hid (fun (W:World) (hW:Below w.heap.size w W)=>rknown_any x.v r c rk ck W (hx.below hW));have hb0:Below w.heap.size w (w.alloc (.cells #[.string x.nm,.int .i64 x.v.kind,.int .i64 x.v.num,.string x.v.str,.slice r x.v.items.length c,.slice rk x.v.keys.length ck,.bool x.se] 66)):=(Below.refl _ _).alloc (Nat.le_refl _) _;have hc0:=(MapKept.heap_alloc w (.cells #[.string x.nm,.int .i64 x.v.kind,.int .i64 x.v.num,.string x.v.str,.slice r x.v.items.length c,.slice rk x.v.keys.length ck,.bool x.se] 66)).1;obtain ⟨W0,hW0⟩:∃ W0,W0=w.alloc (.cells #[.string x.nm,.int .i64 x.v.kind,.int .i64 x.v.num,.string x.v.str,.slice r x.v.items.length c,.slice rk x.v.keys.length ck,.bool x.se] 66):=⟨_,rfl⟩;rw [<-hW0] at hb0 hc0;have HW0:=hid hW0;have HB0:=hid hb0;have u0:W0.cell? ⟨w.heap.size,0,none⟩=some (.string x.nm):=cellv hc0 0 rfl;have u1:W0.cell? ⟨w.heap.size,1,none⟩=some (.int .i64 x.v.kind):=cellv hc0 1 rfl;have u2:W0.cell? ⟨w.heap.size,2,none⟩=some (.int .i64 x.v.num):=cellv hc0 2 rfl;have u3:W0.cell? ⟨w.heap.size,3,none⟩=some (.string x.v.str):=cellv hc0 3 rfl;have u4:W0.cell? ⟨w.heap.size,4,none⟩=some (.slice r x.v.items.length c):=cellv hc0 4 rfl;have u5:W0.cell? ⟨w.heap.size,5,none⟩=some (.slice rk x.v.keys.length ck):=cellv hc0 5 rfl;have HCE:=hid (fun (W:World) (hW:Below W0.heap.size W0 W)=>show W.cell? ⟨w.heap.size,1,none⟩=some (.int .i64 x.v.kind)/\W.cell? ⟨w.heap.size,2,none⟩=some (.int .i64 x.v.num)/\W.cell? ⟨w.heap.size,3,none⟩=some (.string x.v.str)/\W.cell? ⟨w.heap.size,4,none⟩=some (.slice r x.v.items.length c)/\W.cell? ⟨w.heap.size,5,none⟩=some (.slice rk x.v.keys.length ck) from ⟨bget hW u1,bget hW u2,bget hW u3,bget hW u4,bget hW u5⟩);have HBc:=hid (Below.refl W0.heap.size W0);have HG:=hid (fun (W:World) (hW:Below W0.heap.size W0 W)=>HB0.out.trans (hW.mono HB0.out.size));have HR:=hid (show outC x=if Adr.idB x.nm.data.toList=false then 7 else if checkV vU x.v≠0 then checkV vU x.v else if knownV x.v=false then 11 else 0 from rfl);obtain ⟨b1,e1⟩:∃ b,Adr.idB x.nm.data.toList=b:=⟨_,rfl⟩;obtain ⟨ce,e4⟩:∃ b,checkV vU x.v=b:=⟨_,rfl⟩;obtain ⟨kn,e5⟩:∃ b,knownV x.v=b:=⟨_,rfl⟩;rw [e1,e4,e5] at HR;rw [e1] at HI;rw [e4] at HC;rw [e5] at HKN;clear e1 e4 e5 hx hs hc0 hb0 hW0;generalize outC x=R at *;go_enter Tryz.func86,Tryz.ntmps86;go_upto_region 1 with (fail)
 rw [<-HW0.out];clear HW0;cases b1 with
 | false =>
   have HF:=hid (HR.out.trans (if_pos rfl));clear HR;go_wp2_with (first | (go_at_call 128;refine (HI.out _).mono ?_;rintro e w1 ⟨rfl,rfl⟩) | (go_at_call 61;refine (HC.out _ (HG.out _ HBc.out)).mono ?_;rintro e w1 ⟨rfl,hb1⟩;have HBc:=hid (HBc.out.trans (hb1.mono HBc.out.size));clear hb1;obtain ⟨v1,v2,v3,v4,v5⟩:=HCE.out _ HBc.out) | (go_at_call 62;refine (HKN.out _ (HG.out _ HBc.out)).mono ?_;rintro e w1 ⟨rfl,hb1⟩;have HBc:=hid (HBc.out.trans (hb1.mono HBc.out.size));clear hb1;obtain ⟨v1,v2,v3,v4,v5⟩:=HCE.out _ HBc.out))
   go_ret
   exact ⟨ret_int HF.out,HG.out _ HBc.out⟩
 | true =>
 have HR:=hid (HR.out.trans (if_neg (by decide)))
 by_cases hc:ce=0
 case neg =>
  have HF:=hid (HR.out.trans (if_pos hc));have c1:(ce != 0)=true:=by simp [hc]
  have c2:(ce == 0)=false:=by simp [hc]
  clear hc;clear HR;go_wp2_with (first | (go_at_call 128;refine (HI.out _).mono ?_;rintro e w1 ⟨rfl,rfl⟩) | (go_at_call 61;refine (HC.out _ (HG.out _ HBc.out)).mono ?_;rintro e w1 ⟨rfl,hb1⟩;have HBc:=hid (HBc.out.trans (hb1.mono HBc.out.size));clear hb1;obtain ⟨v1,v2,v3,v4,v5⟩:=HCE.out _ HBc.out) | (go_at_call 62;refine (HKN.out _ (HG.out _ HBc.out)).mono ?_;rintro e w1 ⟨rfl,hb1⟩;have HBc:=hid (HBc.out.trans (hb1.mono HBc.out.size));clear hb1;obtain ⟨v1,v2,v3,v4,v5⟩:=HCE.out _ HBc.out))
  go_ret
  exact ⟨ret_int HF.out,HG.out _ HBc.out⟩
 case pos =>
 subst hc;have HR:=hid (HR.out.trans (if_neg (by decide)));cases kn with
 | false =>
   have HF:=hid (HR.out.trans (if_pos rfl));clear HR;go_wp2_with (first | (go_at_call 128;refine (HI.out _).mono ?_;rintro e w1 ⟨rfl,rfl⟩) | (go_at_call 61;refine (HC.out _ (HG.out _ HBc.out)).mono ?_;rintro e w1 ⟨rfl,hb1⟩;have HBc:=hid (HBc.out.trans (hb1.mono HBc.out.size));clear hb1;obtain ⟨v1,v2,v3,v4,v5⟩:=HCE.out _ HBc.out) | (go_at_call 62;refine (HKN.out _ (HG.out _ HBc.out)).mono ?_;rintro e w1 ⟨rfl,hb1⟩;have HBc:=hid (HBc.out.trans (hb1.mono HBc.out.size));clear hb1;obtain ⟨v1,v2,v3,v4,v5⟩:=HCE.out _ HBc.out))
   go_ret
   exact ⟨ret_int HF.out,HG.out _ HBc.out⟩
 | true =>
   have HF:=hid (HR.out.trans (if_neg (by decide)));clear HR;go_wp2_with (first | (go_at_call 128;refine (HI.out _).mono ?_;rintro e w1 ⟨rfl,rfl⟩) | (go_at_call 61;refine (HC.out _ (HG.out _ HBc.out)).mono ?_;rintro e w1 ⟨rfl,hb1⟩;have HBc:=hid (HBc.out.trans (hb1.mono HBc.out.size));clear hb1;obtain ⟨v1,v2,v3,v4,v5⟩:=HCE.out _ HBc.out) | (go_at_call 62;refine (HKN.out _ (HG.out _ HBc.out)).mono ?_;rintro e w1 ⟨rfl,hb1⟩;have HBc:=hid (HBc.out.trans (hb1.mono HBc.out.size));clear hb1;obtain ⟨v1,v2,v3,v4,v5⟩:=HCE.out _ HBc.out))
   go_ret
   exact ⟨ret_int HF.out,HG.out _ HBc.out⟩
set_option maxRecDepth 100000 in
theorem rbefore_any (a b:ByteArray) (x:Ins) (p:Pt) (w:World):Calls Tryz.prog 38 #[.string a,.string b,.agg (insA x p)] w fun e w'=>e=.returned (.int .i64 (cmpP (a,b) (plOf x)))/\Below w.heap.size w w':=by
 have HBY:=hid (fun (u v:ByteArray) (W:World)=>rbytes_any u v W);have HB0:=hid (show Below w.heap.size w (w.alloc (.cells (insA x p) 41)) from (Below.refl _ _).alloc (Nat.le_refl _) _);have u0:(w.alloc (.cells (insA x p) 41)).cell? ⟨w.heap.size,0,none⟩=some (.string x.ad):=cellv (MapKept.heap_alloc w _).1 0 rfl;have u1:(w.alloc (.cells (insA x p) 41)).cell? ⟨w.heap.size,1,none⟩=some (.string x.de):=cellv (MapKept.heap_alloc w _).1 1 rfl;have HQ:=hid (show cmpP (a,b) (plOf x)=fstNZ [cmpS a x.ad,cmpS b x.de] from rfl);generalize insA x p=X at *
 by_cases h:a=x.ad
 . have n1:(a.toList == x.ad.toList)=true:=by rw [h];simp
   have n2:(a.toList != x.ad.toList)=false:=by rw [h];simp
   have HF:=hid (show cmpP (a,b) (plOf x)=cmpS b x.de by
    rw [HQ.out,cmpS_zero.2 h];unfold fstNZ fstNZ fstNZ
    by_cases e:cmpS b x.de=0 <;> simp [e])
   clear h HQ;go_enter Tryz.func38,Tryz.ntmps38;go_wp2_with (go_at_call 85;refine (HBY.out _ _ _).mono ?_;rintro e w1 ⟨rfl,rfl⟩)
   go_ret
   exact ⟨ret_int HF.out,HB0.out⟩
 . have n1:=str_ne h
   have n2:=str_ne' h
   have HF:=hid (show cmpP (a,b) (plOf x)=cmpS a x.ad by
    rw [HQ.out];unfold fstNZ;rw [if_pos (by simpa using fun e=>h (cmpS_zero.1 e))])
   clear h HQ;go_enter Tryz.func38,Tryz.ntmps38;go_wp2_with (go_at_call 85;refine (HBY.out _ _ _).mono ?_;rintro e w1 ⟨rfl,rfl⟩)
   go_ret
   exact ⟨ret_int HF.out,HB0.out⟩
end Go.Proofs.YtomhbcfjhgecbaaGreatDoor
namespace Go.Proofs.YtomhbcfjhgecbaaGreatDoor
open Go.RowKit Go.Sort Go.Lib
open Go.Lib (hid)
open Adr (WT)
open Stp (wp_region_fresh Spc Stb sVal sBool stTrue Lat Bef grw_below wpF_quiet wq grw_ex wpF_told wpF_put wpF_nil wpF_skip noEnter_op)
attribute [local go_sem] Stp.frUpon
attribute [local go_sem ↓] ldI_eq
attribute [local go_sem] ldI_run
attribute [local go_sem ↓] stI_eq
attribute [local go_sem] stI_run thereI_drew thereI_new put13_drew put13_new liesI_new rd13_new liesI_drew rd13_drew
theorem outE_at' {l:List Sou} {k:Nat} (hk:k < l.length):outE l k=if outC l[k]≠0 then outC l[k] else if k≠0/\ltL (l.getD (k - 1) ouZ).nm l[k].nm=false then 1 else 0:=by unfold outE;rw [getD_at _ hk]
set_option maxRecDepth 100000 in
set_option maxHeartbeats 8000000 in
theorem routputs_any (l:List Sou) (ro:Option Addr) (co:Nat) (w:World) (h:Sl SoR 7 w (.slice ro l.length co) l) (hs:∀ x∈l,x.nm.size<=1200001) :
  Calls Tryz.prog 40 #[.slice ro l.length co] w fun e w'=>e=.returned (.int .i64 (fstE l.length (outE l)))/\Below w.heap.size w w':=by
 obtain ⟨_,hlc,hlm⟩:=sl_len h;have HSO:=hid (fun (W:World) (hW:Below w.heap.size w W)=>soX (h.below soR_mono hW));have HOC:=hid (fun (x:Sou) (hx:x∈l) (r:Option Addr) (c:Nat) (rk:Option Addr) (ck:Nat) (W:World) (hP:VR5 W r c rk ck x.v)=>routput_any x r c rk ck W hP (by have:=hs x hx;omega));obtain ⟨R,hR⟩:∃ R,fstE l.length (outE l)=R:=⟨_,rfl⟩;have HR:=hid hR;rw [hR];clear h hs hR;go_enter Tryz.func40,Tryz.ntmps40;go_wp2
 have BS:=hid (Below.refl w.heap.size w);go_loopg [3] l.length (fun gg s9 wr=>∃ k:Nat,k<=l.length/\l.length - k<=gg/\s9=.int .i64 k/\Hid (Below w.heap.size w wr)/\Hid (∀ j,j < k->outE l j=0))
 case atStart=>exact ⟨0,Nat.zero_le _,by omega,rfl,BS,hid fun j h=>absurd h (by omega)⟩
 case round =>
  clear BS;obtain ⟨k,hk,hg,rfl,BW,AL⟩:=hrel
  by_cases hlt:k < l.length
  case pos =>
   have hltz:(k:Int) < (l.length:Int):=by omega
   have HEk:=hid (outE_at' hlt);have HNk:=hid (fun (h2:outE l k≠0)=>show R=outE l k from HR.out.symm.trans (fstE_at hlt AL.out h2));have HYk:=hid (fun (h:outE l k=0)=>show Hid (∀ j,j < k+1->outE l j=0) from hid (zeroN AL.out h));obtain ⟨b,off,y,rfl,hbl,g0,g1,g2,g3,g4,g5,g6,hyx,hsp⟩:=HSO.out wr BW.out k hlt;have HC:=hid (fun (W:World) (hW:Below wr.heap.size wr W)=>HOC.out l[k] (List.getElem_mem hlt) y.r y.c y.rk y.ck W (by have:=hsp.1;rw [hyx] at this;exact this.below hW))
   have HPP:=hid (fun (hk:0 < k)=>show ∃ z,z=(l[k - 1]'(by omega)).nm/\wr.cell? ⟨b,off+(k - 1) * 7,none⟩=some (.string z) from by
    obtain ⟨b',off',y',hr',_,g0',_⟩:=HSO.out wr BW.out (k - 1) (by omega);simp only [Option.some.injEq,Addr.mk.injEq] at hr';obtain ⟨rfl,rfl,_⟩:=hr';exact ⟨_,rfl,g0'⟩)
   have HPD:=hid (fun (hk:0 < k)=>getD_at (l:=l) (k:=k - 1) ouZ (by omega));clear AL hyx hsp;generalize l[k].nm=x1 at *;generalize l[k].v.kind=x2 at *;generalize l[k].v.num=x3 at *;generalize l[k].v.str=x4 at *;generalize l[k].v.items.length=x5 at *;generalize l[k].v.keys.length=x6 at *;generalize l[k].se=x7 at *
   by_cases he:outC l[k]=0
   case neg =>
    have e1:(outC l[k] != 0)=true:=by simp [he]
    have e2:(outC l[k] == 0)=false:=by simp [he]
    have HF:=hid (show R=outC l[k] by
     have:outE l k=outC l[k]:=by rw [HEk.out,if_pos he]
     rw [<-this];exact HNk.out (by rw [this];exact he))
    clear he HEk HNk HYk HPP HPD;generalize outC l[k]=E at *;go_wp2_with (go_at_call 86;refine (HC.out _ (Below.refl _ _)).mono ?_;rintro e w1 ⟨rfl,hb1⟩;have BW1:=hid (BW.out.trans (hb1.mono BW.out.size));have HB1:=hid hb1;clear hb1;have d0:=bget HB1.out g0)
    go_ret
    exact ⟨ret_int HF.out,BW1.out⟩
   case pos =>
   rw [he] at HC;have HEk:=hid (HEk.out.trans (if_neg (by rw [he];decide)));clear he
   by_cases hk0:k=0
   case pos =>
    have HY2:=HYk.out (by rw [HEk.out,if_neg (by simp [hk0])]);have hkz:decide ((0:Int) < (k:Int))=false:=decide_eq_false (by omega);have hkz2:decide (0 < k)=false:=decide_eq_false (by omega);have hkz3:¬ 0 < k:=by omega
    clear HEk HNk HYk hk0 HPP HPD;go_wp2_with (go_at_call 86;refine (HC.out _ (Below.refl _ _)).mono ?_;rintro e w1 ⟨rfl,hb1⟩;have BW1:=hid (BW.out.trans (hb1.mono BW.out.size));have HB1:=hid hb1;clear hb1;have d0:=bget HB1.out g0)
    go_quiet (fail)
    have BW2:=hid (bel_drewN BW1.out nq);go_wp2_with fail
    go_roundg (l.length - (k+1))
    case measure=>omega
    case rel=>exact ⟨k+1,by omega,by omega,by go_num,BW2,HY2⟩
   case neg =>
   obtain ⟨z,hz,gz⟩:=HPP.out (by omega);have k0:(0:Int)<=(k:Int) - 1:=by omega
   have k1:(k:Int) - 1 < (l.length:Int):=by omega
   have k4:((k:Int) - 1).toNat=k - 1:=by omega
   have k5:wrap64 ((k:Int) - 1)=(k:Int) - 1:=by unfold wrap64;omega
   have k6:(0:Int) < (k:Int):=by omega
   have k9:(k:Int)<=(l.length:Int):=by omega
   have k7:(1:Int)<=(k:Int):=by omega
   have hd:decide ((0:Int) < (k:Int))=true:=decide_eq_true (by omega);have hd2:decide (0 < k)=true:=decide_eq_true (by omega);have hpos:0 < k:=by omega
   have HEk2:Hid (outE l k=if ltL z x1=false then 1 else 0):=hid (by rw [HEk.out,HPD.out (by omega),<-hz];simp [hk0]);have q:=lessL z x1;clear HEk HPD HPP hz hk0;generalize ltL z x1=L at *;cases L with
   | true =>
     have HY2:=HYk.out (by rw [HEk2.out];rfl);clear HEk2 HNk HYk;go_wp2_with (go_at_call 86;refine (HC.out _ (Below.refl _ _)).mono ?_;rintro e w1 ⟨rfl,hb1⟩;have BW1:=hid (BW.out.trans (hb1.mono BW.out.size));have HB1:=hid hb1;clear hb1;have d0:=bget HB1.out g0;have dz:=bget HB1.out gz)
     go_quiet (fail)
     have BW2:=hid (bel_drewN BW1.out nq);go_wp2_with fail
     go_roundg (l.length - (k+1))
     case measure=>omega
     case rel=>exact ⟨k+1,by omega,by omega,by go_num,BW2,HY2⟩
   | false =>
     have HF:=hid (show R=1 by
      have:outE l k=1:=by rw [HEk2.out];rfl
      rw [<-this];exact HNk.out (by rw [this];decide))
     clear HEk2 HNk HYk;go_wp2_with (go_at_call 86;refine (HC.out _ (Below.refl _ _)).mono ?_;rintro e w1 ⟨rfl,hb1⟩;have BW1:=hid (BW.out.trans (hb1.mono BW.out.size));have HB1:=hid hb1;clear hb1;have d0:=bget HB1.out g0;have dz:=bget HB1.out gz)
     go_quiet (fail)
     have BW2:=hid (bel_drewN BW1.out nq);go_wp2_with fail
     go_ret
     exact ⟨ret_int HF.out,BW2.out⟩
  case neg =>
   have hltz:¬ (k:Int) < (l.length:Int):=by omega
   have HF:=hid (show R=0 from HR.out.symm.trans (fstE_none fun j hj=>AL.out j (by omega)));clear AL;go_wp2_with (fail)
   go_ret
   exact ⟨ret_int HF.out,BW.out⟩
structure StaR1 (s:Sta):Prop where
 ins:∀ x∈s.ins,InsR1 x
 pen:∀ x∈s.pen,x.ad.size<=1200001
 out:∀ x∈s.out,x.nm.size<=1200001
theorem insE_at' {l:List Ins} {k:Nat} (hk:k < l.length):insE l k=if insC l[k]≠0 then insC l[k] else if k≠0/\0<=cmpP (plOf (l.getD (k - 1) inZ)) (plOf l[k]) then 1 else 0:=by unfold insE;rw [getD_at _ hk]
theorem penE_at' {l:List Pnd} {k:Nat} (hk:k < l.length):penE l k=if penB l[k] && (decide (k=0) || ltL (l.getD (k - 1) pnZ).tok l[k].tok) then 0 else 1:=by unfold penE;rw [getD_at _ hk]
set_option maxRecDepth 100000 in
set_option maxHeartbeats 16000000 in
theorem rcheck_sta (s:Sta) (p:Sp) (w:World) (h:StaP w s p) (hs:StaR1 s) :
  Calls Tryz.prog 12 #[.agg (staA s p)] w fun e w'=>e=.returned (.int .i64 (chkS s))/\Below w.heap.size w w':=by
 obtain ⟨ri,ci,rp,cp,ro,co⟩:=p;have HTX:=hid (fun (W:World)=>rtx_any s.lin W);have HIN:=hid (fun (W:World) (hW:Below w.heap.size w W)=>in_at (h.1.below inR_mono hW));have HPN:=hid (fun (W:World) (hW:Below w.heap.size w W)=>pnd_at (h.2.1.below pdR_mono hW));have HOU:=hid (fun (W:World) (hW:Below w.heap.size w W)=>routputs_any s.out ro co W (h.2.2.1.below soR_mono hW) hs.out);have HIC:=hid (fun (x:Ins) (hx:x∈s.ins) (q:Pt) (W:World) (hP:InsP W x q)=>rinstance_any x q W hP (hs.ins x hx));have HPC:=hid (fun (x:Pnd) (hx:x∈s.pen) (W:World)=>rpending_any x W (hs.pen x hx));obtain ⟨_,hlc1,hlm1⟩:=sl_len h.1;obtain ⟨_,hlc2,hlm2⟩:=sl_len h.2.1;obtain ⟨_,hlc3,hlm3⟩:=sl_len h.2.2.1;obtain ⟨W0,hW0⟩:∃ W0,W0=w.alloc (.cells #[.string s.lin,.int .i64 s.ser,.slice ri s.ins.length ci,.slice rp s.pen.length cp,.slice ro s.out.length co] 26):=⟨_,rfl⟩;have HW0:=hid hW0;have hb0:Below w.heap.size w W0:=hW0 ▸ (Below.refl _ _).alloc (Nat.le_refl _) _;have hc0:W0.heap[w.heap.size]?=some (.cells #[.string s.lin,.int .i64 s.ser,.slice ri s.ins.length ci,.slice rp s.pen.length cp,.slice ro s.out.length co] 26):=hW0 ▸ (MapKept.heap_alloc w _).1;have HB0:=hid hb0;have HG:=hid (fun (W:World) (hW:Below W0.heap.size W0 W)=>HB0.out.trans (hW.mono HB0.out.size));have t0:W0.cell? ⟨w.heap.size,0,none⟩=some (.string s.lin):=cellv hc0 0 rfl;have t1:W0.cell? ⟨w.heap.size,1,none⟩=some (.int .i64 s.ser):=cellv hc0 1 rfl;have t2:W0.cell? ⟨w.heap.size,2,none⟩=some (.slice ri s.ins.length ci):=cellv hc0 2 rfl;have t3:W0.cell? ⟨w.heap.size,3,none⟩=some (.slice rp s.pen.length cp):=cellv hc0 3 rfl;have t4:W0.cell? ⟨w.heap.size,4,none⟩=some (.slice ro s.out.length co):=cellv hc0 4 rfl;have HCE:=hid (fun (W:World) (hW:Below W0.heap.size W0 W)=>show W.cell? ⟨w.heap.size,1,none⟩=some (.int .i64 s.ser)/\W.cell? ⟨w.heap.size,2,none⟩=some (.slice ri s.ins.length ci)/\W.cell? ⟨w.heap.size,3,none⟩=some (.slice rp s.pen.length cp)/\W.cell? ⟨w.heap.size,4,none⟩=some (.slice ro s.out.length co) from ⟨bget hW t1,bget hW t2,bget hW t3,bget hW t4⟩);have HR:=hid (show chkS s=if txB s.lin=false then 1
 else if s.ser < 0 ∨ 9007199254740992 < s.ser then 5
 else if 512 < s.ins.length ∨ 512 < s.pen.length ∨ 512 < s.out.length then 14
 else if fstE s.ins.length (insE s.ins)≠0 then fstE s.ins.length (insE s.ins)
 else if fstE s.pen.length (penE s.pen)≠0 then fstE s.pen.length (penE s.pen)
 else fstE s.out.length (outE s.out) from rfl)
 clear h hs hb0 hc0 hW0;obtain ⟨b1,e1⟩:∃ b,txB s.lin=b:=⟨_,rfl⟩;rw [e1] at HR HTX;clear e1;unfold staA;generalize chkS s=R at *;go_enter Tryz.func12,Tryz.ntmps12;go_upto_region 1 with (fail)
 rw [<-HW0.out];clear HW0;cases b1 with
 | false =>
   have HF:=hid (HR.out.trans (if_pos rfl));clear HR;go_wp2_with (go_at_call 37;refine (HTX.out _).mono ?_;rintro e w1 ⟨rfl,hb1⟩;have HBc:=hid hb1;clear hb1;obtain ⟨t1,t2,t3,t4⟩:=HCE.out _ HBc.out)
   go_ret
   exact ⟨ret_int HF.out,HG.out _ HBc.out⟩
 | true =>
 have HR:=hid (HR.out.trans (if_neg (by decide)))
 by_cases s1:s.ser < 0
 case pos =>
  have HF:=hid (HR.out.trans (if_pos (Or.inl s1)));clear HR;go_wp2_with (go_at_call 37;refine (HTX.out _).mono ?_;rintro e w1 ⟨rfl,hb1⟩;have HBc:=hid hb1;clear hb1;obtain ⟨t1,t2,t3,t4⟩:=HCE.out _ HBc.out)
  go_ret
  exact ⟨ret_int HF.out,HG.out _ HBc.out⟩
 case neg =>
 by_cases s2:9007199254740992 < s.ser
 case pos =>
  have HF:=hid (HR.out.trans (if_pos (Or.inr s2)));clear HR;go_wp2_with (go_at_call 37;refine (HTX.out _).mono ?_;rintro e w1 ⟨rfl,hb1⟩;have HBc:=hid hb1;clear hb1;obtain ⟨t1,t2,t3,t4⟩:=HCE.out _ HBc.out)
  go_ret
  exact ⟨ret_int HF.out,HG.out _ HBc.out⟩
 case neg =>
 have HR:=hid (HR.out.trans (if_neg (by omega)))
 by_cases l0:512 < s.ins.length
 case pos =>
  have o0:(512:Int) < (s.ins.length:Int):=by omega
  have HF:=hid (HR.out.trans (if_pos (by omega)));clear HR l0;go_wp2_with (go_at_call 37;refine (HTX.out _).mono ?_;rintro e w1 ⟨rfl,hb1⟩;have HBc:=hid hb1;clear hb1;obtain ⟨t1,t2,t3,t4⟩:=HCE.out _ HBc.out)
  go_ret
  exact ⟨ret_int HF.out,HG.out _ HBc.out⟩
 case neg =>
 have o0:¬ (512:Int) < (s.ins.length:Int):=by omega
 by_cases l1:512 < s.pen.length
 case pos =>
  have o1:(512:Int) < (s.pen.length:Int):=by omega
  have HF:=hid (HR.out.trans (if_pos (by omega)));clear HR l1;go_wp2_with (go_at_call 37;refine (HTX.out _).mono ?_;rintro e w1 ⟨rfl,hb1⟩;have HBc:=hid hb1;clear hb1;obtain ⟨t1,t2,t3,t4⟩:=HCE.out _ HBc.out)
  go_ret
  exact ⟨ret_int HF.out,HG.out _ HBc.out⟩
 case neg =>
 have o1:¬ (512:Int) < (s.pen.length:Int):=by omega
 by_cases l2:512 < s.out.length
 case pos =>
  have o2:(512:Int) < (s.out.length:Int):=by omega
  have HF:=hid (HR.out.trans (if_pos (by omega)));clear HR l2;go_wp2_with (go_at_call 37;refine (HTX.out _).mono ?_;rintro e w1 ⟨rfl,hb1⟩;have HBc:=hid hb1;clear hb1;obtain ⟨t1,t2,t3,t4⟩:=HCE.out _ HBc.out)
  go_ret
  exact ⟨ret_int HF.out,HG.out _ HBc.out⟩
 case neg =>
 have o2:¬ (512:Int) < (s.out.length:Int):=by omega
 have HR:=hid (HR.out.trans (if_neg (by omega)));clear l0 l1 l2;go_wp2_with (go_at_call 37;refine (HTX.out _).mono ?_;rintro e w1 ⟨rfl,hb1⟩;have HBc:=hid hb1;clear hb1;obtain ⟨t1,t2,t3,t4⟩:=HCE.out _ HBc.out)
 clear HTX o0 o1 o2;have HB1:=hid HBc.out;clear t1 t2 t3 t4;go_loopg [3] s.ins.length (fun gg s9 wr=>∃ k:Nat,k<=s.ins.length/\s.ins.length - k<=gg/\s9=.int .i64 k/\Hid (Below W0.heap.size W0 wr)/\Hid (∀ j,j < k->insE s.ins j=0))
 case atStart=>exact ⟨0,Nat.zero_le _,by omega,rfl,HB1,hid fun j h=>absurd h (by omega)⟩
 case round =>
  clear HB1;obtain ⟨k,hk,hg,rfl,BW,AL⟩:=hrel;obtain ⟨t1,t2,t3,t4⟩:=HCE.out _ BW.out
  by_cases hlt:k < s.ins.length
  case pos =>
   have hltz:(k:Int) < (s.ins.length:Int):=by omega
   have HEk:=hid (insE_at' hlt);have HNk:=hid (fun (h2:insE s.ins k≠0)=>show R=insE s.ins k from HR.out.trans (by rw [fstE_at hlt AL.out h2,if_pos h2]));have HYk:=hid (fun (h:insE s.ins k=0)=>show Hid (∀ j,j < k+1->insE s.ins j=0) from hid (zeroN AL.out h));obtain ⟨b,off,pt,rfl,hbl,hcell,hP⟩:=HIN.out wr (HG.out _ BW.out) k hlt;have HC:=hid (fun (W:World) (hW:Below wr.heap.size wr W)=>HIC.out s.ins[k] (List.getElem_mem hlt) pt W (insP_below hW hP));have hX:=cellsI s.ins[k] pt;obtain ⟨l1,l2⟩:=liesI_of hX hcell;have BA:=hid (show Below wr.heap.size wr (wr.alloc (.cells (insA s.ins[k] pt) 41)) from (Below.refl _ _).alloc (Nat.le_refl _) _);have HLA:=hid (MapKept.heap_alloc wr (.cells (insA s.ins[k] pt) 41)).1;have HZA:=hid (show (wr.alloc (.cells (insA s.ins[k] pt) 41)).heap.size=wr.heap.size+1 by simp);have HX0:=hid (show (insA s.ins[k] pt)[0]?=some (.string s.ins[k].ad) from rfl);have HX1:=hid (show (insA s.ins[k] pt)[1]?=some (.string s.ins[k].de) from rfl);clear hcell hP AL
   by_cases he:insC s.ins[k]=0
   case neg =>
    have e1:(insC s.ins[k] != 0)=true:=by simp [he]
    have e2:(insC s.ins[k] == 0)=false:=by simp [he]
    have HF:=hid (show R=insC s.ins[k] by
     have:insE s.ins k=insC s.ins[k]:=by rw [HEk.out,if_pos he]
     rw [<-this];exact HNk.out (by rw [this];exact he))
    clear he HEk HNk HYk HR;generalize insC s.ins[k]=E at *;generalize insA s.ins[k] pt=X at *;go_wp2_with (go_at_call 20;refine (HC.out _ BA.out).mono ?_;rintro e w1 ⟨rfl,hb1⟩;have BW1:=hid ((BW.out.trans (BA.out.mono BW.out.size)).trans (hb1.mono (by have:=BW.out.size;have:=BA.out.size;omega)));have HB1:=hid hb1;clear hb1;obtain ⟨t1,t2,t3,t4⟩:=HCE.out _ BW1.out)
    go_ret
    exact ⟨ret_int HF.out,HG.out _ BW1.out⟩
   case pos =>
   rw [he] at HC;have HEk:=hid (HEk.out.trans (if_neg (by rw [he];decide)));clear he
   by_cases hk0:k=0
   case pos =>
    have HY2:=HYk.out (by rw [HEk.out,if_neg (by simp [hk0])]);have hkz:decide ((0:Int) < (k:Int))=false:=decide_eq_false (by omega);have hkz2:decide (0 < k)=false:=decide_eq_false (by omega);have hkz3:¬ 0 < k:=by omega
    clear HEk HNk HYk hk0;generalize insA s.ins[k] pt=X at *;go_wp2_with (go_at_call 20;refine (HC.out _ BA.out).mono ?_;rintro e w1 ⟨rfl,hb1⟩;have BW1:=hid ((BW.out.trans (BA.out.mono BW.out.size)).trans (hb1.mono (by have:=BW.out.size;have:=BA.out.size;omega)));have HB1:=hid hb1;clear hb1;obtain ⟨t1,t2,t3,t4⟩:=HCE.out _ BW1.out)
    go_quiet (fail)
    have BW2:=hid (bel_drewN BW1.out nq);go_wp2_with fail
    go_roundg (s.ins.length - (k+1))
    case measure=>omega
    case rel=>exact ⟨k+1,by omega,by omega,by go_num,BW2,HY2⟩
   case neg =>
    have k0:(0:Int)<=(k:Int) - 1:=by omega
    have k1:(k:Int) - 1 < (s.ins.length:Int):=by omega
    have k4:((k:Int) - 1).toNat=k - 1:=by omega
    have k5:wrap64 ((k:Int) - 1)=(k:Int) - 1:=by unfold wrap64;omega
    have k6:(0:Int) < (k:Int):=by omega
    have k9:(k:Int)<=(s.ins.length:Int):=by omega
    have k7:(1:Int)<=(k:Int):=by omega
    have hd:decide ((0:Int) < (k:Int))=true:=decide_eq_true (by omega);have hd2:decide (0 < k)=true:=decide_eq_true (by omega);have hpos:0 < k:=by omega
    obtain ⟨b',off',pt',hr',_,hcell',hP'⟩:=HIN.out wr (HG.out _ BW.out) (k - 1) (by omega);simp only [Option.some.injEq,Addr.mk.injEq] at hr';obtain ⟨rfl,rfl,_⟩:=hr';have hY:=cellsI (s.ins[k - 1]'(by omega)) pt';obtain ⟨m1,m2⟩:=liesI_of hY hcell';have HM:=hid (And.intro m1 m2);have HCP:=hid (fun (W:World)=>rbefore_any s.ins[k].ad s.ins[k].de (s.ins[k - 1]'(by omega)) pt' W)
    have HEk2:Hid (insE s.ins k=if cmpP (s.ins[k].ad,s.ins[k].de) (plOf (s.ins[k - 1]'(by omega)))<=0 then 1 else 0):=hid (by
     rw [HEk.out,getD_at _ (by omega:k - 1 < s.ins.length)];have:=cmpP_anti (plOf (s.ins[k - 1]'(by omega))) (plOf s.ins[k]);rw [show cmpP (s.ins[k].ad,s.ins[k].de) (plOf (s.ins[k - 1]'(by omega)))=cmpP (plOf s.ins[k]) (plOf (s.ins[k - 1]'(by omega))) from rfl,this]
     by_cases hc:0<=cmpP (plOf (s.ins[k - 1]'(by omega))) (plOf s.ins[k])
     . rw [if_pos ⟨hk0,hc⟩,if_pos (by omega)]
     . rw [if_neg (fun e=>hc e.2),if_neg (by omega)])
    clear HEk hcell' hP' m1 m2 hY hk0;generalize cmpP (s.ins[k].ad,s.ins[k].de) (plOf (s.ins[k - 1]'(by omega)))=C at *;generalize s.ins[k].ad=x1 at *;generalize s.ins[k].de=x2 at *;generalize insA s.ins[k] pt=X at *;generalize insA (s.ins[k - 1]'(by omega)) pt'=Y at *;go_wp2_with (go_at_call 20;refine (HC.out _ BA.out).mono ?_;rintro e w1 ⟨rfl,hb1⟩;have BW1:=hid ((BW.out.trans (BA.out.mono BW.out.size)).trans (hb1.mono (by have:=BW.out.size;have:=BA.out.size;omega)));have HB1:=hid hb1;clear hb1;obtain ⟨t1,t2,t3,t4⟩:=HCE.out _ BW1.out)
    have BAW:=hid (BA.out.trans (HB1.out.mono BA.out.size));have hxa:=cellv ((HB1.out.block wr.heap.size (by have:=HZA.out;omega)).trans HLA.out) 0 HX0.out;have hxd:=cellv ((HB1.out.block wr.heap.size (by have:=HZA.out;omega)).trans HLA.out) 1 HX1.out
    have HLY:=hid (fun (W:World) (hW:Below w1.heap.size w1 W)=>show LiesI W b (off+(k - 1) * 13)/\rd13 W b (off+(k - 1) * 13)=Y from by
     have hh:=HM.out.1.below (BAW.out.trans (hW.mono BAW.out.size));exact ⟨hh.1,hh.2.trans HM.out.2⟩)
    have kt2:=fun d os=>cell_regrown t2 d os;have kxa:=fun d os=>cell_regrown hxa d os;have kxd:=fun d os=>cell_regrown hxd d os;refine wp_region_fresh (fun k=>match k with | 12=>some (sVal (.agg Y)) | 13=>some (sVal (.int .i64 C)) | _=>none) (by kernel_rfl) (by kernel_rfl) ?_
    iterate 12 (refine wq ?_;intro K hK;go_big_quiet_op;go_big_quiet_on)
    refine wpF_told (sVal (.agg Y)) (by kernel_rfl) rfl ⟨_,rfl⟩ stTrue (fun w4 hw4 hE4=>?_) ?_
    . have hb4:=grw_below hw4
      obtain ⟨l1,l2⟩:=HLY.out w4 hb4;clear hw4 hE4 hb4;go_simp
      exact ⟨Lat.refl _,rfl,trivial⟩
    rintro _ rfl
    (refine wpF_put ?_;intro K hK;go_simp;refine hK _ ?_;clear hK K)
    refine wpF_told (sVal (.int .i64 C)) (by kernel_rfl) rfl ⟨_,rfl⟩ stTrue (fun w4 hw4 hE4=>?_) ?_
    . have hb4:=grw_below hw4
      have hh:=HCP.out w4;clear hw4 hE4 hb4;go_simp
      go_at_call 38;refine Calls.mono hh ?_;rintro e w5 ⟨rfl,hb5⟩;exact ⟨_,rfl,hb5,rfl,trivial⟩
    rintro _ rfl
    (refine wpF_put ?_;intro K hK;go_simp;refine hK _ ?_;clear hK K)
    iterate 2 (refine wq ?_;intro K hK;go_big_quiet_op;go_big_quiet_on)
    refine wpF_nil ?_;intro w6 hw6 hE6;have hb6:=grw_below hw6;clear hw6 hE6;have HB6:=hid (BW1.out.trans (hb6.mono BW1.out.size));clear hb6
    by_cases hC:C<=0
    case pos =>
     have HF:=hid (show R=1 by
      have:insE s.ins k=1:=by rw [HEk2.out,if_pos hC]
      rw [<-this];exact HNk.out (by rw [this];decide))
     clear HEk2 HNk HYk HR;go_wp2_with fail
     go_ret
     exact ⟨ret_int HF.out,HG.out _ HB6.out⟩
    case neg =>
     have HY2:=HYk.out (by rw [HEk2.out,if_neg hC]);clear HEk2 HNk HYk;go_wp2_with fail
     go_roundg (s.ins.length - (k+1))
     case measure=>omega
     case rel=>exact ⟨k+1,by omega,by omega,by go_num,HB6,HY2⟩
  case neg =>
   have hltz:¬ (k:Int) < (s.ins.length:Int):=by omega
   have HR:=hid (HR.out.trans (if_neg (by rw [fstE_none fun j hj=>AL.out j (by omega)];decide)));clear AL;go_wp2_with (fail)
   have BS2:=hid BW.out;clear t1 t2 t3 t4;go_loopg [6] s.pen.length (fun gg s9 wr=>∃ k:Nat,k<=s.pen.length/\s.pen.length - k<=gg/\s9=.int .i64 k/\Hid (Below W0.heap.size W0 wr)/\Hid (∀ j,j < k->penE s.pen j=0))
   case atStart=>exact ⟨0,Nat.zero_le _,by omega,rfl,BS2,hid fun j h=>absurd h (by omega)⟩
   case round =>
    clear BS2;obtain ⟨k,hk,hg,rfl,BW,AL⟩:=hrel;obtain ⟨t1,t2,t3,t4⟩:=HCE.out _ BW.out
    by_cases hlt:k < s.pen.length
    case pos =>
     have hltz:(k:Int) < (s.pen.length:Int):=by omega
     have HEk:=hid (penE_at' hlt);have HNk:=hid (fun (h2:penE s.pen k=1)=>show R=1 from HR.out.trans (by rw [fstE_at hlt AL.out (by rw [h2];decide),h2,if_pos (by decide)]));have HYk:=hid (fun (h:penE s.pen k=0)=>show Hid (∀ j,j < k+1->penE s.pen j=0) from hid (zeroN AL.out h));obtain ⟨b,off,rfl,hbl,g0,g1,g2,_⟩:=HPN.out wr (HG.out _ BW.out) k hlt;have HC:=hid (HPC.out s.pen[k] (List.getElem_mem hlt))
     have HPP:=hid (fun (hk:0 < k)=>show ∃ z,z=(s.pen[k - 1]'(by omega)).tok/\wr.cell? ⟨b,off+(k - 1) * 3+2,none⟩=some (.string z) from by
      obtain ⟨b',off',hr',_,_,_,g2',_⟩:=HPN.out wr (HG.out _ BW.out) (k - 1) (by omega);simp only [Option.some.injEq,Addr.mk.injEq] at hr';obtain ⟨rfl,rfl,_⟩:=hr';exact ⟨_,rfl,g2'⟩)
     have HPD:=hid (fun (hk:0 < k)=>getD_at (l:=s.pen) (k:=k - 1) pnZ (by omega));clear AL;obtain ⟨bp,hp⟩:∃ v,penB s.pen[k]=v:=⟨_,rfl⟩;rw [hp] at HC HEk;clear hp;generalize s.pen[k]=x at *;obtain ⟨x1,x2,x3⟩:=x;dsimp only at *;cases bp with
     | false =>
       have HF:=hid (HNk.out (by rw [HEk.out];rfl));clear HEk HNk HYk HR HPP HPD;go_wp2_with (go_at_call 39;refine (HC.out _).mono ?_;rintro e w1 ⟨rfl,hb1⟩;have BW1:=hid (BW.out.trans (hb1.mono BW.out.size));have HB1:=hid hb1;clear hb1;obtain ⟨t1,t2,t3,t4⟩:=HCE.out _ BW1.out;have d2:=bget HB1.out g2)
       go_ret
       exact ⟨ret_int HF.out,HG.out _ BW1.out⟩
     | true =>
     by_cases hk0:k=0
     case pos =>
      have HY2:=HYk.out (by rw [HEk.out];simp [hk0]);have hkz:decide ((0:Int) < (k:Int))=false:=decide_eq_false (by omega);have hkz2:decide (0 < k)=false:=decide_eq_false (by omega);have hkz3:¬ 0 < k:=by omega
      clear HEk HNk HYk hk0 HPP HPD;go_wp2_with (go_at_call 39;refine (HC.out _).mono ?_;rintro e w1 ⟨rfl,hb1⟩;have BW1:=hid (BW.out.trans (hb1.mono BW.out.size));have HB1:=hid hb1;clear hb1;obtain ⟨t1,t2,t3,t4⟩:=HCE.out _ BW1.out;have d2:=bget HB1.out g2)
      go_quiet (fail)
      have BW2:=hid (bel_drewN BW1.out nq);go_wp2_with fail
      go_roundg (s.pen.length - (k+1))
      case measure=>omega
      case rel=>exact ⟨k+1,by omega,by omega,by go_num,BW2,HY2⟩
     case neg =>
     obtain ⟨z,hz,gz⟩:=HPP.out (by omega);have k0:(0:Int)<=(k:Int) - 1:=by omega
     have k1:(k:Int) - 1 < (s.pen.length:Int):=by omega
     have k4:((k:Int) - 1).toNat=k - 1:=by omega
     have k5:wrap64 ((k:Int) - 1)=(k:Int) - 1:=by unfold wrap64;omega
     have k6:(0:Int) < (k:Int):=by omega
     have k9:(k:Int)<=(s.pen.length:Int):=by omega
     have k7:(1:Int)<=(k:Int):=by omega
     have hd:decide ((0:Int) < (k:Int))=true:=decide_eq_true (by omega);have hd2:decide (0 < k)=true:=decide_eq_true (by omega);have hpos:0 < k:=by omega
     have HEk2:Hid (penE s.pen k=if ltL z x3 then 0 else 1):=hid (by rw [HEk.out,HPD.out (by omega),<-hz];simp [hk0]);have q:=lessL z x3;clear HEk HPD HPP hz hk0;generalize ltL z x3=L at *;cases L with
     | true =>
       have HY2:=HYk.out (by rw [HEk2.out];rfl);clear HEk2 HNk HYk;go_wp2_with (go_at_call 39;refine (HC.out _).mono ?_;rintro e w1 ⟨rfl,hb1⟩;have BW1:=hid (BW.out.trans (hb1.mono BW.out.size));have HB1:=hid hb1;clear hb1;obtain ⟨t1,t2,t3,t4⟩:=HCE.out _ BW1.out;have d2:=bget HB1.out g2;have dz:=bget HB1.out gz)
       go_quiet (fail)
       have BW2:=hid (bel_drewN BW1.out nq);go_wp2_with fail
       go_roundg (s.pen.length - (k+1))
       case measure=>omega
       case rel=>exact ⟨k+1,by omega,by omega,by go_num,BW2,HY2⟩
     | false =>
       have HF:=hid (HNk.out (by rw [HEk2.out];rfl));clear HEk2 HNk HYk HR;go_wp2_with (go_at_call 39;refine (HC.out _).mono ?_;rintro e w1 ⟨rfl,hb1⟩;have BW1:=hid (BW.out.trans (hb1.mono BW.out.size));have HB1:=hid hb1;clear hb1;obtain ⟨t1,t2,t3,t4⟩:=HCE.out _ BW1.out;have d2:=bget HB1.out g2;have dz:=bget HB1.out gz)
       go_quiet (fail)
       have BW2:=hid (bel_drewN BW1.out nq);go_wp2_with fail
       go_ret
       exact ⟨ret_int HF.out,HG.out _ BW2.out⟩
    case neg =>
     have hltz:¬ (k:Int) < (s.pen.length:Int):=by omega
     have HR:=hid (HR.out.trans (if_neg (by rw [fstE_none fun j hj=>AL.out j (by omega)];decide)));clear AL;go_wp2_with (go_at_call 40;refine (HOU.out _ (HG.out _ BW.out)).mono ?_;rintro e w1 ⟨rfl,hb1⟩;have BW1:=hid (BW.out.trans (hb1.mono BW.out.size));clear hb1)
     go_ret
     exact ⟨ret_int HR.out,HG.out _ BW1.out⟩
end Go.Proofs.YtomhbcfjhgecbaaGreatDoor
namespace Go.Proofs.YtomhbcfjhgecbaaGreatDoor
open Go.RowKit Go.Sort Go.ChangeShapes Go.WideShapes Go.ChangeAt
open Adr (WT)
set_option maxRecDepth 100000 in
theorem state_argb {H:Type} {enc:TypeId × Value->H} {W:World} {base:Nat} {v:Value} {d:DataW H} {p:List MemPlace} (o:Value.okWide Tryz.prog W .any base 26 v) (h:DataW.Trod enc Tryz.prog W 0 (fun _=>true) true 26 v d p) (hw:Blk.Bk 1048576 d) :
  ∃ s sp,v=.agg (staA s sp)/\StaP W s sp/\StaR1 s:=by
 obtain ⟨cs,rfl,hsz⟩:=okWide_struct Tryz.underlying26 o;obtain ⟨fuel,hf⟩:=h;have hc:Tryz.prog.cellsOf 26=5:=by kernel_rfl
 have hcs:(Value.agg cs).cells=cs:=rfl;rw [hcs] at hf;obtain ⟨s,sp,h1,h2,h3⟩:=sta_b (Nat.le_refl _) fuel cs.toList (d,p) (by simpa [hc] using hsz) hw hf;refine ⟨s,sp,?_,h2,⟨fun x hx=>?_,fun x hx=>?_,fun x hx=>?_⟩⟩
 . rw [<-Array.toArray_toList (xs:=cs),h1,Array.toArray_toList]
 . have:=h3.2.1 x hx
   exact ⟨by have:=this.1;omega,by have:=this.2.1;omega,fun d hd=>by have:=this.2.2.2.2.2 d hd;omega⟩
 . have:=h3.2.2.1 x hx
   have:=this.1;omega
 . have:=h3.2.2.2.1 x hx
   unfold SouZ at this;omega
end Go.Proofs.YtomhbcfjhgecbaaGreatDoor
