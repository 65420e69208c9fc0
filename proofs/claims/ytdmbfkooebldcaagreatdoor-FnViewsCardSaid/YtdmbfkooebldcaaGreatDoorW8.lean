/-
  Part 8: contracts of functions, and the laws by which they are proved.
  Conditions: none.
-/
import Derived.Test.YtdmbfkooebldcaaGreatDoorW5
import Derived.Lib.RuneBytes
set_option linter.unusedVariables false
set_option linter.unusedSimpArgs false
set_option linter.unusedSectionVars false
set_option maxRecDepth 100000
namespace Go.Proofs.YtdmbfkooebldcaaGreatDoor
section
variable [zZ]
open Go.Lib Go.RowKit
section
variable {P:Program} {w:World}
theorem zOL(t ty e:TypeId)(i:TypeInfo)(ht:P.underlying t=some (.slice e))(hi:P.info? e=some i)(hz:i.zero=some (.int .u8 0))(hsize:i.size=1)(hby:i.bytes=1)
  (v:Value) (n:Nat) (xs:List Value) (hown:w.ownsRow 0 e 1 v n xs) (ad:Addr) (ys:List Value) (hnews:∀(j:Nat) (u:Value),ys[j]?=some u→w.cell? (ad.add j)=some u) (hone:∀u∈ys,u.oneCell'=true) (hpos:0 < ys.length) (hbytes:n+ys.length≤140737488355328) :
  ∃v' w',(Builtin.append_ #[t,t] ty #[v,.slice (some ad) ys.length ys.length]).run P w=.ok v' w'∧w'.ownsRow 0 e 1 v' (n+ys.length) (xs++ys)∧w.grownBy w' v.ownBlock∧(v'.ownBlock=v.ownBlock∨v'.ownBlock=some w.heap.size):=by
 obtain⟨v',w',hr,h2,h3,h4⟩:=run_append_own (P:=P) w 0 t ty e i (.int .u8 0) 1 1 ht hi hz hsize hby rfl (by decide) v n xs hown ad ys.length ys.length ys (Nat.mul_one _).symm hnews hone (by unfold maxLen;omega) (by omega) (Nat.zero_le _)
 refine⟨v',w',hr,h2,h3,?_⟩
 have hxl:xs.length=n:=by simpa using hown.1
 have hown':=hown
 rcases hown.2 with ⟨rfl,rfl⟩ | ⟨g,cap,cur,rfl,_,hg,hnc,hcm,hcs,htake⟩
 ·have h5:=run_append_nil (P:=P) w t ty e i (.int .u8 0) ht hi hz ad ys.length ys.length ys (by rw[hsize];simp) hnews (by omega) (by omega) (by rw[hby];omega)
  rw[h5] at hr;cases hr;exact .inr rfl
 ·by_cases hroom:n+ys.length≤cap
  ·have h5:=run_append_room (P:=P) w t ty e i ht hi g n cap cur hg ad ys.length ys.length ys (by rw[hsize];simp) hnews hone hroom (by rw[hsize,Nat.mul_one];rw[Nat.mul_one] at hcs;omega)
   rw[h5] at hr;cases hr;exact .inl rfl
  ·have h5:=run_append_grow (P:=P) w t ty e i (.int .u8 0) ht hi hz ⟨g,0,none⟩ n cap xs (by rw[hsize];simpa using hxl) (hown'.cells (g:=g) rfl) ad ys.length ys.length ys (by rw[hsize];simp) hnews (by omega) (by omega) (by rw[hby];exact growslice_fits (by omega) (by omega))
   rw[h5] at hr;cases hr;exact .inr rfl
theorem yl{ops:Array Oper}{rest:List Oper}{o:Oper}{a:Act}{Q:Exit→Act→World→Prop}(hgd:o.guard=none)(sl x:Operand)(t:TypeId)
  (ho:o.op=.call { callee:=.builtin .append,args:=#[sl,x],argTypes:=#[t,t] })
  (e:TypeId) (i:TypeInfo) (ht:P.underlying t=some (.slice e)) (hi:P.info? e=some i) (hz:i.zero=some (.int .u8 0)) (hsize:i.size=1) (hby:i.bytes=1)
  (v:Value) (n:Nat) (xs:List Value) (hs:a.eval sl=v) (hown:w.ownsRow 0 e 1 v n xs) (ad:Addr) (ys:List Value) (hx:a.eval x=.slice (some ad) ys.length ys.length) (hnews:∀(j:Nat) (u:Value),ys[j]?=some u→w.cell? (ad.add j)=some u) (hone:∀u∈ys,u.oneCell'=true) (hpos:0 < ys.length) (hbytes:n+ys.length≤140737488355328)
  (h:∀v' w',w'.ownsRow 0 e 1 v' (n+ys.length) (xs++ys)→w.grownBy w' v.ownBlock→(v'.ownBlock=v.ownBlock∨v'.ownBlock=some w.heap.size)→wpList P ops Q rest (a.put o.dst v') w'):wpList P ops Q (o :: rest) a w:=by
 refine wpList_plain hgd fun K hK=>?_
 obtain⟨v',w',hr,h2,h3,h4⟩:=zOL (P:=P) t o.type e i ht hi hz hsize hby v n xs hown ad ys hnews hone hpos hbytes
 unfold Oper.wp execOp
 simp only[ho,resolve,invoke,builtin,Sem.run_bind,Sem.run_pure,Result.andThen_ok,List.map_toArray,List.map_cons,List.map_nil,hs,hx,hr]
 exact hK _ _ (h v' w' h2 h3 h4)
end
def zCL(r:Int):List Int:=
 if r < 128 then [r] else if r < 2048 then [192+r / 64,128+r % 64] else if r < 65536 then [224+r / 4096,128+r / 64 % 64,128+r % 64]
 else [240+r / 262144,128+r / 4096 % 64,128+r / 64 % 64,128+r % 64]
def zKk(w:World)(v:Value)(n:Nat)(xs:List Value)(ys:List Int)(v':Value)(w':World):Prop:=
 w'.ownsRow 0 5 1 v' (n+ys.length) (xs++ys.map fun z=>Value.int .u8 z)∧Fr w v.ownBlock.toList w'∧∀k,v'.ownBlock=some k→v.ownBlock=some k∨w.heap.size≤k
theorem zCE(w:World)(o:Obj):(w.alloc o).heap.size=w.heap.size+1:=Array.size_push _
theorem zKk.mk'{w w2:World}{v v':Value}{n:Nat}{xs:List Value}{ys:List Int}{o:Obj}(h1:w2.ownsRow 0 5 1 v' (n+ys.length) (xs++ys.map fun z=>Value.int .u8 z))(h2:(w.alloc o).grownBy w2 v.ownBlock)(h3:v'.ownBlock=v.ownBlock∨v'.ownBlock=some (w.alloc o).heap.size):zKk w v n xs ys v' w2:=by
 refine⟨h1,(Fr.alloc (Fr.refl w []) o).trans (zNz h2) (fun x hx=>by cases hx) (fun x hx=>.inl hx),fun k hk=>?_⟩
 rcases h3 with h3 | h3
 ·exact .inl (h3.symm.trans hk)
 ·rw[h3] at hk;cases hk
  right;show _≤(w.heap.push o).size;simp
set_option maxHeartbeats 4000000 in
set_option maxRecDepth 100000 in
theorem zQL(v:Value)(n:Nat)(xs:List Value)(r:Int)(h0:128≤r)(h1:r≤2047)(w:World)(hown:w.ownsRow 0 5 1 v n xs)(hlen:n+4≤140737488355328) :
  Calls Tryz.prog 73 #[v,.int .i32 r] w fun e w'=>∃v',e=.returned v'∧zKk w v n xs [192+r / 64,128+r % 64] v' w':=by
 obtain⟨i0,hi,hz0,hz1,hz2⟩:=info_parts zMf
 go_enter Tryz.func73,Tryz.ntmps73
 go_wp2_with (at_builtin;refine yl rfl _ _ 22 rfl 5 i0 Tryz.underlying22 hi hz0 hz1 hz2 _ _ _ rfl (hown.alloc _) ⟨w.heap.size,0,none⟩ [.int .u8 (192+r / 64),.int .u8 (128+r % 64)] rfl ?c1 ?c2 (by simp) ?c4 ?_)
 case c1=>
  intro j u hj
  match j,hj with
  | 0,hj=>simp at hj;subst hj;simp[Addr.add]
  | 1,hj=>simp at hj;subst hj;simp[Addr.add]
  | (j+2),hj=>simp at hj
 case c2=>intro u hu;simp at hu;rcases hu with rfl | rfl<;>rfl
 case c4=>simp;omega
 intro v' w2 hown' hgrow hb
 go_wp2
 go_ret
 exact⟨v',rfl,zKk.mk' hown' hgrow (hb.imp id fun h=>h.trans (congrArg some (zCE w _).symm))⟩
set_option maxHeartbeats 4000000 in
set_option maxRecDepth 100000 in
theorem zIi(v:Value)(n:Nat)(xs:List Value)(r:Int)(h0:2048≤r)(h1:r < 55296)(w:World)(hown:w.ownsRow 0 5 1 v n xs)(hlen:n+4≤140737488355328) :
  Calls Tryz.prog 73 #[v,.int .i32 r] w fun e w'=>∃v',e=.returned v'∧zKk w v n xs [224+r / 4096,128+r / 64 % 64,128+r % 64] v' w':=by
 obtain⟨i0,hi,hz0,hz1,hz2⟩:=info_parts zMf
 go_enter Tryz.func73,Tryz.ntmps73
 go_wp2_with (at_builtin;refine yl rfl _ _ 22 rfl 5 i0 Tryz.underlying22 hi hz0 hz1 hz2 _ _ _ rfl (hown.alloc _) ⟨w.heap.size,0,none⟩ [.int .u8 (224+r / 4096),.int .u8 (128+r / 64 % 64),.int .u8 (128+r % 64)] rfl ?c1 ?c2 (by simp) ?c4 ?_)
 case c1=>
  intro j u hj
  match j,hj with
  | 0,hj=>simp at hj;subst hj;simp[Addr.add]
  | 1,hj=>simp at hj;subst hj;simp[Addr.add]
  | 2,hj=>simp at hj;subst hj;simp[Addr.add]
  | (j+3),hj=>simp at hj
 case c2=>intro u hu;simp at hu;rcases hu with rfl | rfl | rfl<;>rfl
 case c4=>simp;omega
 intro v' w2 hown' hgrow hb
 go_wp2
 go_ret
 exact⟨v',rfl,zKk.mk' hown' hgrow (hb.imp id fun h=>h.trans (congrArg some (zCE w _).symm))⟩
set_option maxHeartbeats 4000000 in
set_option maxRecDepth 100000 in
theorem zIj(v:Value)(n:Nat)(xs:List Value)(r:Int)(h0:57343 < r)(h1:r≤65535)(w:World)(hown:w.ownsRow 0 5 1 v n xs)(hlen:n+4≤140737488355328) :
  Calls Tryz.prog 73 #[v,.int .i32 r] w fun e w'=>∃v',e=.returned v'∧zKk w v n xs [224+r / 4096,128+r / 64 % 64,128+r % 64] v' w':=by
 obtain⟨i0,hi,hz0,hz1,hz2⟩:=info_parts zMf
 go_enter Tryz.func73,Tryz.ntmps73
 go_wp2_with (at_builtin;refine yl rfl _ _ 22 rfl 5 i0 Tryz.underlying22 hi hz0 hz1 hz2 _ _ _ rfl (hown.alloc _) ⟨w.heap.size,0,none⟩ [.int .u8 (224+r / 4096),.int .u8 (128+r / 64 % 64),.int .u8 (128+r % 64)] rfl ?c1 ?c2 (by simp) ?c4 ?_)
 case c1=>
  intro j u hj
  match j,hj with
  | 0,hj=>simp at hj;subst hj;simp[Addr.add]
  | 1,hj=>simp at hj;subst hj;simp[Addr.add]
  | 2,hj=>simp at hj;subst hj;simp[Addr.add]
  | (j+3),hj=>simp at hj
 case c2=>intro u hu;simp at hu;rcases hu with rfl | rfl | rfl<;>rfl
 case c4=>simp;omega
 intro v' w2 hown' hgrow hb
 go_wp2
 go_ret
 exact⟨v',rfl,zKk.mk' hown' hgrow (hb.imp id fun h=>h.trans (congrArg some (zCE w _).symm))⟩
set_option maxHeartbeats 4000000 in
set_option maxRecDepth 100000 in
theorem zOK(v:Value)(n:Nat)(xs:List Value)(r:Int)(h0:65536≤r)(h1:r≤1114111)(w:World)(hown:w.ownsRow 0 5 1 v n xs)(hlen:n+4≤140737488355328) :
  Calls Tryz.prog 73 #[v,.int .i32 r] w fun e w'=>∃v',e=.returned v'∧zKk w v n xs [240+r / 262144,128+r / 4096 % 64,128+r / 64 % 64,128+r % 64] v' w':=by
 obtain⟨i0,hi,hz0,hz1,hz2⟩:=info_parts zMf
 go_enter Tryz.func73,Tryz.ntmps73
 go_wp2_with (at_builtin;refine yl rfl _ _ 22 rfl 5 i0 Tryz.underlying22 hi hz0 hz1 hz2 _ _ _ rfl (hown.alloc _) ⟨w.heap.size,0,none⟩ [.int .u8 (240+r / 262144),.int .u8 (128+r / 4096 % 64),.int .u8 (128+r / 64 % 64),.int .u8 (128+r % 64)] rfl ?c1 ?c2 (by simp) ?c4 ?_)
 case c1=>
  intro j u hj
  match j,hj with
  | 0,hj=>simp at hj;subst hj;simp[Addr.add]
  | 1,hj=>simp at hj;subst hj;simp[Addr.add]
  | 2,hj=>simp at hj;subst hj;simp[Addr.add]
  | 3,hj=>simp at hj;subst hj;simp[Addr.add]
  | (j+4),hj=>simp at hj
 case c2=>intro u hu;simp at hu;rcases hu with rfl | rfl | rfl | rfl<;>rfl
 case c4=>simp;omega
 intro v' w2 hown' hgrow hb
 go_wp2
 go_ret
 exact⟨v',rfl,zKk.mk' hown' hgrow (hb.imp id fun h=>h.trans (congrArg some (zCE w _).symm))⟩
set_option maxHeartbeats 4000000 in
set_option maxRecDepth 100000 in
theorem zQM(v:Value)(n:Nat)(xs:List Value)(r:Int)(h0:0≤r)(h1:r≤127)(w:World)(hown:w.ownsRow 0 5 1 v n xs)(hlen:n+4≤140737488355328) :
  Calls Tryz.prog 59 #[v,.int .i32 r] w fun e w'=>∃v',e=.returned v'∧zKk w v n xs [r] v' w':=by
 obtain⟨i0,hi,hz0,hz1,hz2⟩:=info_parts zMf
 go_enter Tryz.func59,Tryz.ntmps59
 go_wp2_with (at_builtin;refine yl rfl _ _ 22 rfl 5 i0 Tryz.underlying22 hi hz0 hz1 hz2 _ _ _ rfl (hown.alloc _) ⟨w.heap.size,0,none⟩ [.int .u8 (r)] rfl ?c1 ?c2 (by simp) ?c4 ?_)
 case c1=>
  intro j u hj
  match j,hj with
  | 0,hj=>simp at hj;subst hj;simp[Addr.add]
  | (j+1),hj=>simp at hj
 case c2=>intro u hu;simp at hu;subst hu;rfl
 case c4=>simp;omega
 intro v' w2 hown' hgrow hb
 go_wp2
 go_ret
 exact⟨v',rfl,zKk.mk' hown' hgrow (hb.imp id fun h=>h.trans (congrArg some (zCE w _).symm))⟩
set_option maxHeartbeats 4000000 in
set_option maxRecDepth 100000 in
theorem zQN(v:Value)(n:Nat)(xs:List Value)(r:Int)(h0:0≤r)(h1:r≤1114111)(hs:r < 55296∨57343 < r)(w:World)(hown:w.ownsRow 0 5 1 v n xs)(hlen:n+4≤140737488355328) :
  Calls Tryz.prog 59 #[v,.int .i32 r] w fun e w'=>∃v',e=.returned v'∧zKk w v n xs (zCL r) v' w':=by
 by_cases h2:r < 128
 ·rw[zCL,if_pos h2]
  exact zQM v n xs r h0 (by omega) w hown hlen
 have key:Calls Tryz.prog 73 #[v,.int .i32 r] w fun e w'=>∃v',e=.returned v'∧zKk w v n xs (zCL r) v' w':=by
  rw[zCL,if_neg h2]
  by_cases h3:r < 2048
  ·rw[if_pos h3];exact zQL v n xs r (by omega) (by omega) w hown hlen
  rw[if_neg h3]
  by_cases h4:r < 65536
  ·rw[if_pos h4]
   rcases hs with hs | hs
   ·exact zIi v n xs r (by omega) hs w hown hlen
   ·exact zIj v n xs r hs (by omega) w hown hlen
  ·rw[if_neg h4];exact zOK v n xs r (by omega) (by omega) w hown hlen
 have h9:128≤r:=by omega
 clear h2
 generalize zCL r=L at *
 go_enter Tryz.func59,Tryz.ntmps59
 go_wp2_with (go_at_call 73;refine key.mono ?_)
 rintro e w1 ⟨v',rfl,hG⟩
 go_wp2
 go_ret
 exact⟨v',rfl,hG⟩
theorem zKs{r:Int}(h0:0≤r)(h1:r≤1114111):∀z∈zCL r,0≤z∧z < 256:=by
 intro z hz
 unfold zCL at hz
 split at hz
 ·simp only[List.mem_singleton] at hz;omega
 ·split at hz
  ·simp only[List.mem_cons,List.not_mem_nil,or_false] at hz;omega
  ·split at hz
   ·simp only[List.mem_cons,List.not_mem_nil,or_false] at hz;omega
   ·simp only[List.mem_cons,List.not_mem_nil,or_false] at hz;omega
theorem zOG{T b:Nat}{v v':Value}{l':List UInt8}{w w1 w2:World}{f:List Nat}(hT:T≠5)(h1:Fr w [b] w1)(hbw:b < w.heap.size)(hb:w1.heap[b]?=some (.cells #[.pointer (some ⟨b,0,none⟩),v] T (0,0)))(hne:v.ownBlock≠some b)(hf:f=b :: v.ownBlock.toList)
  (hown:w2.ownsRow 0 5 1 v' l'.length (l'.map fun x=>Value.int .u8 x.toNat)) (hg:Fr w1 v.ownBlock.toList w2) (ho:∀k,v'.ownBlock=some k→v.ownBlock=some k∨w1.heap.size≤k) :
  ∃f',zDM T 5 b l' (w2.setCell ⟨b,1,none⟩ v') f'∧Fr w f (w2.setCell ⟨b,1,none⟩ v')∧∀x∈f',x∈f∨w.heap.size≤x:=by
 have hb2:w2.heap[b]?=some (.cells #[.pointer (some ⟨b,0,none⟩),v] T (0,0)):=by
  rw[hg.block b (Array.getElem?_eq_some_iff.1 hb).1 (fun e=>hne (by simpa using e))];exact hb
 have hne':=ownBlock_ne hown hb2 hT
 have hfr2:Fr w2 [b] (w2.setCell ⟨b,1,none⟩ v'):=⟨rfl,rfl,rfl,by simp[World.setCell],fun k hk hn=>Below.heap_setCell _ _ _ _ (fun e=>hn (by simp[e]))⟩
 refine⟨b :: v'.ownBlock.toList,⟨_,v',.inr rfl,?_,?_,hne',rfl⟩,?_,?_⟩
 ·simp[World.setCell,Array.getElem?_modify,hb2]
 ·exact hown.kept (row:=some b) ⟨rfl,rfl,rfl,by simp[World.setCell],fun k _ hk=>Below.heap_setCell _ _ _ _ (fun e=>hk (by simp[e]))⟩ (Or.inr hne')
 ·subst hf
  refine((h1.trans hg (Z:=b :: v.ownBlock.toList) (fun x hx=>by simp at hx;simp[hx]) (fun x hx=>.inl (by simp at hx ⊢;exact .inr hx))).trans hfr2 (fun x hx=>hx) (fun x hx=>.inl (by simp at hx;simp[hx])))
 ·intro x hx
  subst hf
  simp only[List.mem_cons,Option.mem_toList] at hx ⊢
  rcases hx with rfl | hx
  ·exact .inl (.inl rfl)
  ·rcases ho x hx with h | h
   ·exact .inl (.inr h)
   ·right;have:=h1.size;omega
set_option maxHeartbeats 4000000 in
set_option maxRecDepth 100000 in
theorem zSw(b:Nat)(l:List UInt8)(r:Int)(h0:0≤r)(h1:r≤1114111)(hs:r < 55296∨57343 < r)(w:World)(f:List Nat)(h:zDM 76 5 b l w f)(hlen:l.length+4≤140737488355328) :
  Calls Tryz.prog 42 #[.pointer (some ⟨b,0,none⟩),.int .i32 r] w fun e w'=>(∃v,e=.returned v)∧∃f',zDM 76 5 b (l++(zCL r).map fun z=>UInt8.ofNat z.toNat) w' f'∧Fr w f w'∧∀x∈f',x∈f∨w.heap.size≤x:=by
 have hbw:b < w.heap.size:=by
  obtain⟨p,v,_,hb,_⟩:=h
  exact(Array.getElem?_eq_some_iff.1 hb).1
 have hrow:∀v,f=b :: v→∀k∈v,k < w.heap.size:=by
  obtain⟨p,v,_,hb,hown,_,hf⟩:=h
  intro v' hv' k hk
  rw[hf] at hv';cases hv'
  exact(hown.lt k (by simpa using hk)).2
 go_enter Tryz.func42,Tryz.ntmps42
 go_wp2_with (go_at_call 58;refine(zM2 b l _ f h).mono ?_)
 rintro e w0 ⟨rfl,hU,hF0⟩
 obtain⟨v,hbk,hown,hne,hf⟩:=hU
 obtain⟨ao,cap,rfl⟩:∃ao cap,v=.slice ao l.length cap:=by
  rcases hown.2 with ⟨hv,h0⟩ | ⟨g,cap,cur,hv,_⟩
  ·exact⟨none,0,by rw[hv,h0]⟩
  ·exact⟨_,_,hv⟩
 have c0:w0.cell? ⟨b,0,none⟩=some (.pointer (some ⟨b,0,none⟩)):=by simp[World.cell?,hbk]
 have c1:w0.cell? ⟨b,1,none⟩=some (.slice ao l.length cap):=by simp[World.cell?,hbk]
 go_wp2_with (go_at_call 59;refine(zQN _ _ _ r h0 h1 hs _ hown hlen).mono ?_)
 rintro e w2 ⟨v',rfl,hG⟩
 obtain⟨hown',hFr,hbl⟩:=hG
 have hL:(l.length+(zCL r).length)=(l++(zCL r).map fun z=>UInt8.ofNat z.toNat).length:=by simp
 have hM:(l.map (fun x=>Value.int .u8 x.toNat)++(zCL r).map fun z=>Value.int .u8 z)=(l++(zCL r).map fun z=>UInt8.ofNat z.toNat).map fun x=>Value.int .u8 x.toNat:=by
  rw[List.map_append,List.map_map]
  congr 1
  refine List.map_congr_left fun z hz=>?_
  obtain⟨g1,g2⟩:=zKs h0 h1 z hz
  have:((UInt8.ofNat z.toNat).toNat:Int)=z:=by rw[UInt8.toNat_ofNat',Nat.mod_eq_of_lt (by omega)];omega
  simp only[Function.comp,this]
 rw[hL,hM] at hown'
 have hb2:w2.heap[b]?=some (.cells #[.pointer (some ⟨b,0,none⟩),.slice ao l.length cap] 76 (0,0)):=by
  rw[hFr.block b (Array.getElem?_eq_some_iff.1 hbk).1 (fun e=>hne (by simpa using e))]
  exact hbk
 have d0:w2.cell? ⟨b,0,none⟩=some (.pointer (some ⟨b,0,none⟩)):=by simp[World.cell?,hb2]
 have d1:w2.cell? ⟨b,1,none⟩=some (.slice ao l.length cap):=by simp[World.cell?,hb2]
 have f1:w2.frozen? ⟨b,1,none⟩=false:=by simp[World.frozen?,hb2]
 have hfin:=zOG (by decide) hF0 hbw hbk hne hf hown' hFr hbl
 obtain⟨ao',n',cap',rfl⟩:∃ao n' cap,v'=.slice ao n' cap:=by
  rcases hown'.2 with ⟨hv,_⟩ | ⟨g,cap,cur,hv,_⟩
  ·exact⟨_,_,_,hv⟩
  ·exact⟨_,_,_,hv⟩
 go_wp2
 go_ret2
 exact⟨⟨_,rfl⟩,hfin⟩
end
section
variable [zZ]
def zJW(N:Nat)(S:St):Option Nat→Prop
 | none=>True
 | some t=>t < N∧(lk S.Lp t).isNone=true∧(lk S.Lt t).isNone=true
def zSy:Option Nat:=none
def zSz:Option Nat:=none
def bfWR:Option Nat:=some 42
def zM3:Option Nat:=none
def zCM(n:Int):List UInt8:=(zCL n).map fun z=>UInt8.ofNat z.toNat
def zS0 (N : Nat) (keep : List Nat) (S : St) (o : Oper) (K : St → Prop) : Prop :=
  match o.op with
  | .alloc t => t = 76 ∧ o.guard = none ∧ zBt N keep true o.dst ∧ K (zDR keep S true o.dst ⟨True, True, .ptr S.n 0, (S.n, .bld 76 5 []) :: S.A, S.n + 1⟩)
  | .call c => (match c.callee, c.args.toList with
    | .value f, [x, y] => (match S.ev f, S.ev x, S.ev y with
      | some (true, .fn g []), some (true, .ptr h 0), some (true, .str s) => (match lk S.A h with
        | some (.bld T 5 l) => zSy = some g ∧ T = 76 ∧ l.length + s.length ≤ LIM ∧ o.guard = none ∧ zJW N S o.dst ∧ K { S with A := yk (zK [h] S.A) h (.bld T 5 (l ++ s)) }
        | _ => False)
      | some (true, .fn g []), some (true, .ptr h 0), some (true, .int .u8 n) => (match lk S.A h with
        | some (.bld T 5 l) => zSz = some g ∧ T = 76 ∧ l.length + 1 ≤ LIM ∧ o.guard = none ∧ zJW N S o.dst ∧ K { S with A := yk (zK [h] S.A) h (.bld T 5 (l ++ [UInt8.ofNat n.toNat])) }
        | _ => False)
      | some (true, .fn g []), some (true, .ptr h 0), some (true, .int .i32 n) => (match lk S.A h with
        | some (.bld T 5 l) => bfWR = some g ∧ T = 76 ∧ (0 ≤ n ∧ n ≤ 1114111 ∧ (n < 55296 ∨ 57343 < n)) ∧ l.length + 4 ≤ LIM ∧ o.guard = none ∧ zJW N S o.dst ∧ K { S with A := yk (zK [h] S.A) h (.bld T 5 (l ++ zCM n)) }
        | _ => False)
      | _, _, _ => False)
    | .value f, [x] => (match S.ev f, S.ev x with
      | some (true, .fn g []), some (true, .ptr h 0) => (match lk S.A h with
        | some (.bld T 5 l) => T = 76 ∧ o.guard = none ∧ zBt N keep true o.dst ∧
          ((zM3 = some g ∧ K (zDR keep S true o.dst ⟨True, True, .int .i64 l.length, S.A, S.n⟩)) ∨
           (g = 45 ∧ l.length ≤ LIM ∧ K (zDR keep S true o.dst ⟨True, True, .str l, zK [h] S.A, S.n⟩)))
        | _ => False)
      | _, _ => False)
    | _, _ => False)
  | _ => False
structure zPH (N:Nat) (keep:List Nat) (W:List KI→St→Prop):Prop where
 bld:∀(all l:List Oper) (o:Oper) (k:List KI) (S:St),zS0 N keep S o (fun S'=>W (.run all l :: k) S')→W (.run all (o :: l) :: k) S
section
variable {C:Cx} {S:St} {a:Act} {w w':World} {o:Oper} {all l:List Oper} {k:List KI}
theorem zQK{β:Nat→GV}{ϕ ϕ':Nat→List Nat}{A':Hp}{v:Value}(kp:Kp C.keep S)(hn:C.n0≤S.n)(sat:Sat C.N C.w0 C.X C.F S β ϕ a w)(h0:∀h,h < C.n0→β h=C.β0 h)
  (hd:zJW C.N S o.dst) (hp:zL C.w0.heap.size C.X C.F A' β ϕ' w') (hb:Bd S.n β A') (hf:Fr C.w0 C.X w'):At C { S with A:=A' } (a.put o.dst v) w':=by
 cases hdst:o.dst with
 | none=>exact⟨kp,hn,β,ϕ',⟨sat.df,sat.sz,sat.lp,sat.lt,hp,hb,hf,sat.gl⟩,h0⟩
 | some d=>
  rw[hdst] at hd
  obtain⟨_,hd1,hd2⟩:=hd
  have hoth:∀t,d≠t→(a.put (some d) v).tmps[t]?=a.tmps[t]?:=fun t ht=>by
   simp only[Act.put];exact Array.getElem?_setIfInBounds_ne ht
  refine⟨kp,hn,β,ϕ',⟨sat.df,by simp only[Act.put,Array.size_setIfInBounds];exact sat.sz,?_,?_,hp,hb,hf,sat.gl⟩,h0⟩
  ·intro t x ht
   have:d≠t:=fun e=>by subst e;rw[ht] at hd1;cases hd1
   rw[hoth t this];exact sat.lp t x ht
  ·intro t g x ht
   have:d≠t:=fun e=>by subst e;rw[ht] at hd2;cases hd2
   rw[hoth t this];exact sat.lt t g x ht
theorem zOF{β:Nat→GV}{ϕ:Nat→List Nat}{N:Nat}{w0:World}{X F:List Nat}{S:St}{h T e b:Nat}{l l':List UInt8}{f':List Nat}(sat:Sat N w0 X F S β ϕ a w)(hl:lk S.A h=some (.bld T e l))(hv:(β h).v=.pointer (some ⟨b,0,none⟩))
  (hB:zDM T e b l' w' f') (hF:Fr w (ϕ h) w') (hf:∀x∈f',x∈ϕ h∨w.heap.size≤x) :
  ∃ϕ',zL w0.heap.size X F (yk (zK [h] S.A) h (.bld T e l')) β ϕ' w'∧Bd S.n β (yk (zK [h] S.A) h (.bld T e l'))∧Fr w0 X w':=by
 have hown:∀b∈ϕ h,b∈X∨w0.heap.size≤b:=fun b hb=>sat.hp.own h _ hl b hb
 have hall:∀b∈ϕ h,b∈F∨w0.heap.size≤b:=fun b hb=>sat.hp.all h _ hl trivial b hb
 have hfr:Fr w0 X w':=sat.fr.trans hF (fun x hx=>hx) (fun b hb=>hown b hb)
 have hst:=sat.hp.struck [h]
 have hap:yB (zK [h] S.A) ϕ (ϕ h):=zt sat.hp fun b hb=>⟨h,by simp,_,hl,hb⟩
 have hst':zL w0.heap.size X F (zK [h] S.A) β ϕ w':=hst.world fun i hl hi hd b hb=>hF.block b (hst.inb hi hd b hb) (hap i hl hi hd b hb)
 have hap2:yB (zK [h] S.A) ϕ f':=by
  intro i hl hi hd b hb hm
  rcases hf b hm with h1 | h1
  ·exact hap i hl hi hd b hb h1
  ·have:=hst.inb hi hd b hb;omega
 have hge:∀b∈f',(b∈X∨w0.heap.size≤b)∧(b∈F∨w0.heap.size≤b):=by
  intro b hb
  rcases hf b hb with h1 | h1
  ·exact⟨hown b h1,hall b h1⟩
  ·exact⟨.inr (Nat.le_trans sat.fr.size h1),.inr (Nat.le_trans sat.fr.size h1)⟩
 have hput:=hst'.put (A':=yk (zK [h] S.A) h (.bld T e l')) (n:=h) (hl0:=.bld T e l') (f:=f') (fun j=>zP _ _ _) (fun hl' hi=>yY (by simp) hi)
  ⟨b,hv,hB⟩ (fun c hc=>(hge c hc).1) (fun _ c hc=>(hge c hc).2) trivial hap2
  (fun i hl' hi _ c hc hm=>by
   by_cases hdd:hl'=.dead
   ·subst hdd;simp[zH] at hc
   ·exact hap2 i hl' hi hdd c (zU c hc) hm) trivial (fun _ _ _ e=>by cases e) (by simp[zM])
 exact⟨_,hput,zCB (yN sat.hb [h]) (fun j=>zP _ _ _) (sat.hb _ _ hl).1 trivial,hfr⟩
set_option maxHeartbeats 1000000 in
theorem zM1(hC:C.Ok)(hP:C.P=Tryz.prog):zPH C.N C.keep (WP C):=by
 refine⟨fun all l o k S h a w hat=>?_⟩
 obtain⟨kp,hn,β,ϕ,sat,h0⟩:=hat
 show wpList C.P all.toArray (xt C k) (o :: l) a w
 unfold wpList
 unfold zS0 at h
 have hgd:o.guard=none→Region.wanted o (yielded all.toArray a.tmps)=true:=fun hg=>zg (g:=true) (by rw[hg];rfl) sat
 have call:∀{c:Call} {f:Operand} {g:Nat} {vs:List SV} {fn:Func} {Q':Value→World→Prop} {h:Nat} (ho:o.op=.call c) (hc:c.callee=.value f) (hf:S.ev f=some (true,.fn g [])) (hvs:c.args.toList.map a.eval=SV.vals β vs) (hfn:C.P.funcs[g]?=some fn) (hbd:fn.body.isNone=false) (hnm:(fn.name == "runtime.NumGoroutine")=false)
   (hcall:Calls C.P g (SV.vals β vs).toArray w fun e w'=>∃v,e=.returned v∧Q' v w') (next:Act→World→Prop) (Q:Exit→Act→World→Prop),(∀v w',Q' v w'→next (a.put o.dst v) w')→o.wp C.P a w next Q:=by
  intro c f g vs fn Q' _ ho hc hf hvs hfn hbd hnm hcall next Q hnext
  obtain⟨_,f2⟩:=zD hf sat
  obtain⟨f3,_⟩:=f2 rfl
  have hrun:=zC7 (P:=C.P) (w:=w) (ob:=True) ho hc f3 hvs hfn hbd hnm
  rw[List.append_nil] at hrun
  unfold Oper.wp
  rw[hrun,Oper.upon_enter]
  refine hcall.mono fun e w' he=>?_
  obtain⟨v,rfl,hq⟩:=he
  exact hnext v w' hq
 have ptr:∀{h T:Nat} {l:List UInt8},lk S.A h=some (.bld T 5 l)→∃b,(β h).v=.pointer (some ⟨b,0,none⟩)∧zDM T 5 b l w (ϕ h)∧SV.val β (.ptr h 0)=.pointer (some ⟨b,0,none⟩):=by
  intro h T l hl
  obtain⟨b,h1,h2⟩:=sat.hp.sat _ _ hl
  exact⟨b,h1,h2,by simp[SV.val,h1]⟩
 split at h
 ·rename_i t ho
  obtain⟨rfl,hg,hd,hk⟩:=h
  rw[if_pos (hgd hg)]
  have hz:=Tryz.zeroValue76 w
  have hadd:=sat.hp.addNew (n:=S.n) (hl0:=.bld 76 5 []) (g:=⟨.pointer (some ⟨w.heap.size,0,none⟩),[],[]⟩) (f:=[w.heap.size]) (w':=w.alloc (.cells #[.pointer none,.slice none 0 0] 76)) sat.hb sat.fr (fun b hb=>zBe w _ hb) rfl
   ⟨w.heap.size,rfl,.pointer none,.slice none 0 0,.inl rfl,heap_alloc_new w _,World.ownsRow_nil _ _ _ _,by simp[Value.ownBlock],by simp[Value.ownBlock]⟩ (by simp) trivial rfl trivial
  refine .inl (zRa.wp (.inl ?_) (hk _ _ (yL (v:=.pointer (some ⟨w.heap.size,0,none⟩)) kp hn sat h0 hd ⟨fun _=>?_,fun h hh=>zs _ _ _ hh,hadd,zAh sat.hb trivial,?_,?_,Nat.le_succ _,sat.fr.alloc _⟩)))
  ·rw[hP]
   simp only[execOp,ho,Instr.alloc,newVar,newRow,Sem.run_bind,Sem.run_pure,run_newObj,Result.andThen_ok,hz]
   rfl
  ·simp[SV.val,zi]
  ·show SV.lt _ (SV.ptr _ _)
   simp[SV.lt]
  ·exact⟨w.heap.size,0,by simp[zi]⟩
 ·rename_i c ho
  split at h
  ·rename_i f x y hc hargs
   split at h
   ·rename_i g i s hf hx hy
    split at h
    ·rename_i T l0 hl
     exact absurd h.1 (by simp[zSy])
    ·exact h.elim
   ·rename_i g i n hf hx hy
    split at h
    ·rename_i T l0 hl
     exact absurd h.1 (by simp[zSz])
    ·exact h.elim
   ·rename_i g i n hf hx hy
    split at h
    ·rename_i T l0 hl
     obtain⟨hgw,rfl,⟨hr0,hr1,hr2⟩,hlen,hg,hd,hk⟩:=h
     cases hgw
     rw[if_pos (hgd hg)]
     obtain⟨b,hb,hB,hbv⟩:=ptr hl
     obtain⟨_,x2⟩:=zD hx sat
     obtain⟨_,y2⟩:=zD hy sat
     have hw:=zSw b l0 n hr0 hr1 hr2 w (ϕ i) hB (by simpa[LIM] using hlen)
     refine .inl (call (h:=0) (vs:=[.ptr i 0,.int .i32 n]) (Q':=fun v w'=>∃f',zDM 76 5 b (l0++zCM n) w' f'∧Fr w (ϕ i) w'∧∀x∈f',x∈ϕ i∨w.heap.size≤x) ho hc hf ?_ (by rw[hP];exact Tryz.func42) (by kernel_rfl) (by kernel_rfl) ?_ _ _ fun v w' hq=>?_)
     ·rw[hargs];simp only[List.map_cons,List.map_nil,SV.vals,(x2 rfl).1,(y2 rfl).1]
     ·rw[hP]
      simp only[SV.vals,hbv]
      simp only[SV.val]
      refine hw.mono fun e w' he=>?_
      obtain⟨⟨v,rfl⟩,h1⟩:=he
      exact⟨v,rfl,h1⟩
     ·obtain⟨f',q1,q2,q3⟩:=hq
      obtain⟨ϕ',r1,r2,r3⟩:=zOF sat hl hb q1 q2 q3
      exact hk _ _ (zQK kp hn sat h0 hd r1 r2 r3)
    ·exact h.elim
   ·exact h.elim
  ·rename_i f x hc hargs
   split at h
   ·rename_i g i hf hx
    split at h
    ·rename_i T l0 hl
     obtain⟨rfl,hg,hd,h⟩:=h
     rw[if_pos (hgd hg)]
     obtain⟨b,hb,hB,hbv⟩:=ptr hl
     obtain⟨_,x2⟩:=zD hx sat
     rcases h with ⟨hgw,hk⟩ | ⟨rfl,hlen,hk⟩
     ·exact absurd hgw (by simp[zM3])
     ·refine .inl (call (h:=0) (vs:=[.ptr i 0]) (Q':=fun v w'=>v=.string ⟨l0.toArray⟩∧Fr w (ϕ i) w') ho hc hf ?_ (by rw[hP];exact Tryz.func45) (by kernel_rfl) (by kernel_rfl) ?_ _ _ fun v w' hq=>?_)
      ·rw[hargs];simp only[List.map_cons,List.map_nil,SV.vals,(x2 rfl).1]
      ·rw[hP]
       simp only[SV.vals,hbv]
       refine(zOD b l0 w (ϕ i) hB).mono fun e w' he=>?_
       obtain⟨rfl,h1⟩:=he
       exact⟨_,rfl,rfl,h1⟩
      ·obtain⟨rfl,hF⟩:=hq
       have hap:yB (zK [i] S.A) ϕ (ϕ i):=zt sat.hp fun b hb=>⟨i,by simp,_,hl,hb⟩
       have hst:=sat.hp.struck [i]
       have hst':zL C.w0.heap.size C.X C.F (zK [i] S.A) β ϕ w':=hst.world fun j hl hi hd b hb=>hF.block b (hst.inb hi hd b hb) (hap j hl hi hd b hb)
       exact hk _ _ (yL kp hn sat h0 hd ⟨fun _=>rfl,fun _ _=>rfl,hst',yN sat.hb [i],trivial,hlen,Nat.le_refl _,sat.fr.trans hF (fun x hx=>hx) (fun b hb=>sat.hp.own i _ hl b hb)⟩)
    ·exact h.elim
   ·exact h.elim
  ·exact h.elim
 ·exact h.elim
end
theorem bG{N:Nat}{keep:List Nat}(C:Cx)(hC:C.Ok)(hP:C.P=Tryz.prog)(hN:C.N=N)(hk:C.keep=keep):zPH N keep (WP C):=by
 subst hN hk
 exact zM1 hC hP
end
section
variable [zZ]
open Go.Lib Go.RowKit
def zCf(es:List PV):Int:=(es.length:Int).tmod 1000
def zHx(slot:Nat)(es:List PV)(S:St):Prop:=
 match lk S.Lp slot with
 | some (.ptr h 0)=>∃t,lk S.A h=some (.box true t [.sl 0,.int .i64 0,.int .i64 (zCf es)])
 | _=>False
def zHl(w:World)(v:Value)(es:List PV)(e:Ending)(w':World):Prop:=
 ∃b t pre post,e=.returned (.pointer (some ⟨b,pre.length,none⟩))∧w.heap.size≤b∧w'.heap[b]?=some (.cells (pre++[v,.int .i64 0,.int .i64 (zCf es)]++post).toArray t (0,0))∧Fr w [] w'
theorem zLi{P:Program}{E:Env}{fid:FuncId}{fn:Func}{c:Code}{es:List PV}(keep:List Nat)(slot:Nat)(hE:zCH P E)(hm:P.follows .mixedOrders=true)(hf:P.funcs[fid]?=some fn)(hb:fn.body=some c)
  (hr:fn.results=[ResultVar.tmp slot].toArray) (hp:1≤fn.ntmps) (hkeep:keep.contains 0=true)
  (h:∀W,zIm E fn.ntmps keep 1 (zHx slot es) W→W [.code c] ⟨[(0,.sl 0)],[],[(0,.arr (.vw []) (.int .u8) es .no)],1⟩) :
  ∀(w:World) (v:Value) (f:List Nat),Lv w [.list (.int .u8)] [.list es] [v] f→zPG w []→Calls P fid #[v] w fun e w'=>zHl w v es e w':=by
 intro w v f hL hgl
 have hA:zAB w [(.rd,.list (.int .u8))] [.list es] [v] f f []:=by
  have:=zAB.rd (show zPI w (.list (.int .u8)) (.list es) v f f from ⟨hL,rfl⟩) zAB.nil
  simpa using this
 have h0:zL w.heap.size [] (f++[]) [] (fun _=>⟨Value.bool false,[],[]⟩) (fun _=>[]) w:=
  ⟨fun _=>rfl,fun _ _ h=>(by cases h),fun _ _ h=>(by cases h),fun _ _ h=>(by cases h),fun _ _ h=>(by cases h),fun _ _ _ _ h=>(by cases h),fun _ _ h=>(by cases h),fun _ _ h=>(by cases h)⟩
 obtain⟨β,ϕ,⟨e1,e2,e3,e4,e5,e6,e7,e8,e9⟩,hold⟩:=zEC [(.rd,.list (.int .u8))] [.list es] [v] f f [] 0 [] _ _ hA h0 (fun i hl h=>(by cases h)) rfl (by simp) (fun b hb=>by simp[hb]) (by simp) (by simp) (fun i hl h=>(by cases h))
 have hv0:(β 0).v=v:=by
  have:=e5
  simp[zd,zEy,zGC,zAL,zB,SV.vals,SV.val] at this
  exact this
 have e1':zL w.heap.size [] (f++[]) [(0,.arr (.vw []) (.int .u8) es .no)] β ϕ w:=e1
 have e2':Bd 1 β [(0,.arr (.vw []) (.int .u8) es .no)]:=e2
 let C:Cx:=⟨P,E,fn.ntmps,w,[],f++[],keep,1,β,bodyPost P fn (zHl w v es),zHx slot es⟩
 have hfin:∀S a w',At C S a w'→zHx slot es S→a.defers=[]∧∃v',(results fn a.tmps).run P w'=.ok v' w'∧zHl w v es (.returned v') w':=by
  intro S a w' hat hS
  obtain⟨kp,hn,β1,ϕ1,sat,hsame⟩:=hat
  unfold zHx at hS
  split at hS
  ·rename_i h hlk
   obtain⟨t,hbx⟩:=hS
   let g:ResultVar→Sem Value:=fun r=>match r with | .tmp t=>pure (a.tmps.getD t undef) | .cell t ty=>asAddr (a.tmps.getD t undef) >>= fun x=>loadVar ty x
   have hxs:zHW E S [.tmp slot]=some [.ptr h 0]:=by simp[zHW,hlk]
   obtain⟨v1,v2,v3,v4⟩:=zD8 hE.ty sat g (fun _=>rfl) (fun _ _=>rfl) hxs
   obtain⟨b,t',hb',hϕ,hblk⟩:=sat.hp.sat _ _ hbx
   have hown:=sat.hp.own _ _ hbx b (by simp[zH,hϕ])
   have hge:w.heap.size≤b:=by
    rcases hown with h | h
    ·cases h
    ·exact h
   refine⟨sat.df,_,zDb hr a.tmps w' g (fun _=>rfl) (fun _ _=>rfl) v1 (by simp[SV.vals_map,v4]),b,t',(β1 h).pre,(β1 h).post,?_,hge,?_,sat.fr⟩
   ·simp[SV.vals,zKv,SV.val,hb']
   ·have h00:(β1 0).v=v:=by rw[hsame 0 (by show 0 < 1;omega)];exact hv0
    rw[hblk];simp[SV.vals,SV.val,h00]
  ·exact hS.elim
 have hC:C.Ok:=⟨hE,hm,fun S a w' hat hS=>⟨hfin S a w' hat hS,hfin S a w' hat hS⟩,fun c a d v w h=>⟨by have h1:=h.1;cases d<;>exact h1,h.2⟩⟩
 refine calls_of_wp hf hb ?_
 have hW:=h (WP C) (zHK hC)
 refine hW _ w ⟨⟨?_,fun t x h=>(by cases h)⟩,Nat.le_refl _,β,ϕ,⟨rfl,?_,?_,fun t g v h=>(by cases h),e1',e2',Fr.refl _ _,hgl⟩,fun h _=>rfl⟩
 ·intro t v ht
  simp only[lk] at ht
  split at ht
  ·rename_i e;subst e;exact hkeep
  ·cases ht
 ·show(#[v]++Array.replicate (fn.ntmps - (#[v]:Array Value).size) undef).size=fn.ntmps
  simp;omega
 ·intro t x ht
  simp only[lk] at ht
  split at ht
  ·rename_i e
   cases ht
   subst e
   refine⟨?_,by simp[SV.lt],trivial⟩
   show(#[v]++Array.replicate (fn.ntmps - (#[v]:Array Value).size) undef)[0]?=_
   rw[Array.getElem?_append_left (by simp)]
   simp[SV.val,hv0]
  ·cases ht
theorem k_src(es:List PV):∀(w:World) (v:Value) (f:List Nat),Lv w [.list (.int .u8)] [.list es] [v] f→zPG w []→Calls Tryz.prog 16 #[v] w fun e w'=>zHl w v es e w':=by
 refine zLi [0,2] 2 (zI (zF [])) zc Tryz.func16 rfl rfl (by decide) rfl ?_
 intro W hW
 refine hW.vc [] _ _ ?_
 simp[-List.getD_eq_getElem?_getD,zHx,zCf]
def sRes(N:Nat)(keep:List Nat)(S:St)(o:Oper)(K:St→Prop):Prop:=
 match o.op with
 | .call c=>(match c.callee,c.args.toList with
  | .value f,[x]=>(match S.ev f,S.ev x with
   | some (true,.fn g []),some (true,.sl h)=>(match lk S.A h with
    | some (.arr (.vw _) (.int .u8) es _)=>g=16∧o.guard=none∧zBt N keep true o.dst ∧
     K (zDR keep S true o.dst ⟨True,True,.ptr S.n 0,(S.n,.box true 0 [.sl h,.int .i64 0,.int .i64 (zCf es)]) :: S.A,S.n+1⟩)
    | _=>False)
   | _,_=>False)
  | _,_=>False)
 | _=>False
structure zPE (N:Nat) (keep:List Nat) (W:List KI→St→Prop):Prop where
 src:∀(all l:List Oper) (o:Oper) (k:List KI) (S:St),sRes N keep S o (fun S'=>W (.run all l :: k) S')→W (.run all (o :: l) :: k) S
section
variable {C:Cx} {S:St} {a:Act} {w w':World} {o:Oper} {all l:List Oper} {k:List KI}
theorem zLh(hC:C.Ok)(hP:C.P=Tryz.prog):zPE C.N C.keep (WP C):=by
 refine⟨fun all l o k S h a w hat=>?_⟩
 obtain⟨kp,hn,β,ϕ,sat,h0⟩:=hat
 show wpList C.P all.toArray (xt C k) (o :: l) a w
 unfold wpList
 unfold sRes at h
 have hgd:o.guard=none→Region.wanted o (yielded all.toArray a.tmps)=true:=fun hg=>zg (g:=true) (by rw[hg];rfl) sat
 split at h
 ·rename_i c ho
  split at h
  ·rename_i f x hc hargs
   split at h
   ·rename_i g i hf hx
    split at h
    ·rename_i rs es p hl
     obtain⟨rfl,hg,hd,hk⟩:=h
     rw[if_pos (hgd hg)]
     obtain⟨x1,x2⟩:=zD hx sat
     have hxv:=(x2 rfl).1
     have hilt:i < S.n:=x1 rfl
     obtain⟨_,f2⟩:=zD hf sat
     obtain⟨f3,_⟩:=f2 rfl
     have hrun:=zC7 (P:=C.P) (w:=w) (ob:=True) (vs:=[.sl i]) ho hc f3 (by rw[hargs];simp[SV.vals,hxv]) (by rw[hP];exact Tryz.func16) (by kernel_rfl) (by kernel_rfl)
     have hLv:Lv w [.list (.int .u8)] [.list es] [(β i).v] (ϕ i):=sat.hp.sat _ _ hl
     refine .inl ?_
     unfold Oper.wp
     rw[hrun,Oper.upon_enter,hP]
     have hcall:=k_src es w (β i).v (ϕ i) hLv (sat.gl.now sat.fr (by simp))
     have harr:(SV.vals β ([SV.sl i]++[])).toArray=#[(β i).v]:=by simp[SV.vals,SV.val]
     rw[harr]
     refine hcall.mono fun e w' he=>?_
     obtain⟨b,t,pre,post,rfl,hge,hblk,hF⟩:=he
     have hold:∀b,b < w.heap.size→w'.heap[b]?=w.heap[b]?:=fun b hb=>hF.block b hb (by simp)
     have hub:upd β S.n ⟨.pointer (some ⟨b,pre.length,none⟩),pre,post⟩ i=β i:=zs _ _ _ hilt
     have hadd:=sat.hp.addNew (n:=S.n) (hl0:=.box true 0 [.sl i,.int .i64 0,.int .i64 (zCf es)]) (g:=⟨.pointer (some ⟨b,pre.length,none⟩),pre,post⟩) (f:=[b]) (w':=w') sat.hb sat.fr hold rfl
      ⟨b,t,rfl,rfl,by rw[hblk];simp[SV.vals,SV.val,hub]⟩ (by simpa using hge) trivial rfl (fun h=>absurd rfl h)
     have hfr:Fr C.w0 C.X w':=sat.fr.trans hF (fun x hx=>hx) (by simp)
     show wpList Tryz.prog all.toArray (xt C k) l (a.put o.dst (.pointer (some ⟨b,pre.length,none⟩))) w'
     rw[←hP]
     refine hk _ _ (yL (v:=.pointer (some ⟨b,pre.length,none⟩)) kp hn sat h0 hd ⟨fun _=>?_,fun h hh=>zs _ _ _ hh,hadd,zAh sat.hb ?_,?_,?_,Nat.le_succ _,hfr⟩)
     ·simp[SV.val,zi]
     ·refine⟨⟨Nat.lt_succ_of_lt hilt,trivial,trivial,trivial⟩,trivial,?_,?_,trivial⟩
      ·show inR .i64 0;decide
      ·show inR .i64 (zCf es)
       have:(zCf es) < 1000∧0≤zCf es:=⟨by unfold zCf;exact Int.tmod_lt_of_pos _ (by decide),by unfold zCf;exact Int.tmod_nonneg _ (by omega)⟩
       simp[inR,IntKind.min,IntKind.max,IntKind.signed,IntKind.bits];omega
     ·show SV.lt _ (SV.ptr _ _)
      simp[SV.lt]
     ·exact⟨b,pre.length,by simp[zi]⟩
    ·exact h.elim
   ·exact h.elim
  ·exact h.elim
 ·exact h.elim
end
theorem sG{N:Nat}{keep:List Nat}(C:Cx)(hC:C.Ok)(hP:C.P=Tryz.prog)(hN:C.N=N)(hk:C.keep=keep):zPE N keep (WP C):=by
 subst hN hk
 exact zLh hC hP
end
end Go.Proofs.YtdmbfkooebldcaaGreatDoor
