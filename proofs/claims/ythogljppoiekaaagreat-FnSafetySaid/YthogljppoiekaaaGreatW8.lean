/-
  Part 8: contracts of functions, and the laws by which they are proved.
  Conditions: none.
-/
import Derived.Test.YthogljppoiekaaaGreatW5
import Derived.Test.YthogljppoiekaaaGreatChecked
import Derived.Lib.RuneBytes
set_option linter.unusedVariables false
set_option linter.unusedSimpArgs false
set_option linter.unusedSectionVars false
set_option maxRecDepth 100000
namespace Go.Proofs.YthogljppoiekaaaGreat
section
variable [zS]
open Go.Lib Go.RowKit
def BldU(T e b:Nat)(l:List UInt8)(w:World)(f:List Nat):Prop:=
 ∃v,w.heap[b]?=some (.cells #[.pointer (some ⟨b,0,none⟩),v] T (0,0))∧w.ownsRow 0 e 1 v l.length (l.map fun x=>Value.int .u8 x.toNat)∧v.ownBlock≠some b∧f=b :: v.ownBlock.toList
theorem BldU.at{T e b:Nat}{l:List UInt8}{w:World}{f:List Nat}(h:BldU T e b l w f):zJV T e b l w f:=by
 obtain⟨v,h1,h2,h3,h4⟩:=h
 exact⟨_,v,.inr rfl,h1,h2,h3,h4⟩
theorem zfJ:(Tryz.prog.info? 197).map (·.size)=some 2:=by kernel_rfl
theorem liesB:liesAt Tryz.prog Tryz.prog.depth 197 (2 / Tryz.prog.cellsOf 197) 0 197 1=true:=by kernel_rfl
theorem ze8:(Tryz.prog.info? 5).map (fun i=>(i.zero,i.size,i.bytes))=some (some (.int .u8 0),1,1):=by kernel_rfl
set_option maxHeartbeats 1000000 in
set_option maxRecDepth 100000 in
theorem zWp(b:Nat)(w:World)(h0:w.cell? ⟨b,0,none⟩=some (.pointer (some ⟨b,0,none⟩))) :
  Calls Tryz.prog 223 #[.pointer (some ⟨b,0,none⟩)] w fun e w'=>e=.returned (.tuple #[])∧w'=w:=by
 obtain⟨j,hj,_⟩:=Option.map_eq_some_iff.1 zfJ
 go_enter Tryz.func223,Tryz.ntmps223
 go_wp2
 rw[Lib.run_neq_ptr_same w _ Tryz.underlying195 hj]
 go_wp2
 go_end0
 exact⟨rfl,rfl⟩
set_option maxHeartbeats 1000000 in
set_option maxRecDepth 100000 in
theorem zU4(b:Nat)(w:World)(h0:w.cell? ⟨b,0,none⟩=some (.pointer none))(hsh:w.shape? b=some (197,2))(hfz:w.frozen? ⟨b,0,none⟩=false) :
  Calls Tryz.prog 223 #[.pointer (some ⟨b,0,none⟩)] w fun e w'=>e=.returned (.tuple #[])∧w'=w.setCell ⟨b,0,none⟩ (.pointer (some ⟨b,0,none⟩)):=by
 obtain⟨j,hj,hjs⟩:=Option.map_eq_some_iff.1 zfJ
 go_enter Tryz.func223,Tryz.ntmps223
 go_wp2
 rw[Lib.run_to_unsafe w ⟨b,0,none⟩ Tryz.underlying195 Tryz.underlying237 hj (by rw[hjs];decide) hsh (Nat.zero_lt_succ 1)]
 simp only[Result.andThen]
 rw[Oper.upon_value]
 go_wp2
 rw[run_callFunc_extern Tryz.func235 (by kernel_rfl) (by kernel_rfl) (by kernel_rfl) (e:=Extern.AbiNoEscape.same) (by kernel_rfl)]
 rw[Lib.run_noEscape]
 simp only[Result.andThen]
 rw[Oper.upon_value]
 go_wp2
 rw[Lib.run_from_unsafe w ⟨b,0,none⟩ Tryz.underlying237 Tryz.underlying195 hj hsh liesB]
 simp only[Result.andThen]
 rw[Oper.upon_value]
 go_wp2
 go_end0
 exact⟨rfl,rfl⟩
theorem zT0(b:Nat)(l:List UInt8)(w:World)(f:List Nat)(h:zJV 197 5 b l w f) :
  Calls Tryz.prog 223 #[.pointer (some ⟨b,0,none⟩)] w fun e w'=>e=.returned (.tuple #[])∧BldU 197 5 b l w' f∧Fr w [b] w':=by
 obtain⟨p,v,hp,hb,hown,hne,hf⟩:=h
 have hlt:b < w.heap.size:=(Array.getElem?_eq_some_iff.1 hb).1
 rcases hp with rfl | rfl
 ·refine(zU4 b w (by simp[World.cell?,hb]) (by simp[World.shape?,hb]) (by simp[World.frozen?,hb])).mono ?_
  rintro e w' ⟨rfl,rfl⟩
  have hfr:Fr w [b] (w.setCell ⟨b,0,none⟩ (.pointer (some ⟨b,0,none⟩))):=
   ⟨rfl,rfl,rfl,by simp[World.setCell],fun k hk hn=>Below.heap_setCell _ _ _ _ (fun e=>hn (by simp[e]))⟩
  refine⟨rfl,⟨v,?_,?_,hne,hf⟩,hfr⟩
  ·simp[World.setCell,Array.getElem?_modify,hb]
  ·exact hown.kept (row:=some b) ⟨rfl,rfl,rfl,by simp[World.setCell],fun k _ hk=>Below.heap_setCell _ _ _ _ (fun e=>hk (by simp[e]))⟩ (Or.inr hne)
 ·refine(zWp b w (by simp[World.cell?,hb])).mono ?_
  rintro e w' ⟨rfl,rfl⟩
  exact⟨rfl,⟨v,hb,hown,hne,hf⟩,Fr.refl _ _⟩
theorem zZq{w w':World}{row:Option Nat}(h:w.grownBy w' row):Fr w row.toList w':=
 ⟨h.os,h.tape,h.output,h.size,fun k hk hn=>h.block k hk (fun e=>hn (by rw[←e];simp))⟩
theorem zYo{T b:Nat}{v v':Value}{l':List UInt8}{w w1 w2:World}{f:List Nat}(hT:T≠5)(h1:Fr w [b] w1)(hbw:b < w.heap.size)(hb:w1.heap[b]?=some (.cells #[.pointer (some ⟨b,0,none⟩),v] T (0,0)))(hne:v.ownBlock≠some b)(hf:f=b :: v.ownBlock.toList)
  (hown:w2.ownsRow 0 5 1 v' l'.length (l'.map fun x=>Value.int .u8 x.toNat)) (hg:w1.grownBy w2 v.ownBlock) (ho:v'.ownBlock=v.ownBlock∨∃k,v'.ownBlock=some k∧w.heap.size≤k) (hv:∀k,v.ownBlock=some k→k < w.heap.size) :
  ∃f',zJV T 5 b l' (w2.setCell ⟨b,1,none⟩ v') f'∧Fr w f (w2.setCell ⟨b,1,none⟩ v')∧∀x∈f',x∈f∨w.heap.size≤x:=by
 have hb2:w2.heap[b]?=some (.cells #[.pointer (some ⟨b,0,none⟩),v] T (0,0)):=by
  rw[hg.block b (Array.getElem?_eq_some_iff.1 hb).1 (fun e=>hne e.symm)];exact hb
 have hne':=ownBlock_ne hown hb2 hT
 have hfr2:Fr w2 [b] (w2.setCell ⟨b,1,none⟩ v'):=⟨rfl,rfl,rfl,by simp[World.setCell],fun k hk hn=>Below.heap_setCell _ _ _ _ (fun e=>hn (by simp[e]))⟩
 refine⟨b :: v'.ownBlock.toList,⟨_,v',.inr rfl,?_,?_,hne',rfl⟩,?_,?_⟩
 ·simp[World.setCell,Array.getElem?_modify,hb2]
 ·exact hown.kept (row:=some b) ⟨rfl,rfl,rfl,by simp[World.setCell],fun k _ hk=>Below.heap_setCell _ _ _ _ (fun e=>hk (by simp[e]))⟩ (Or.inr hne')
 ·subst hf
  refine((h1.trans (zZq hg) (Z:=b :: v.ownBlock.toList) (fun x hx=>by simp at hx;simp[hx]) (fun x hx=>.inl (by simp at hx ⊢;exact .inr hx))).trans hfr2 (fun x hx=>hx) (fun x hx=>.inl (by simp at hx;simp[hx])))
 ·intro x hx
  subst hf
  simp only[List.mem_cons,Option.mem_toList] at hx ⊢
  rcases hx with rfl | hx
  ·exact .inl (.inl rfl)
  ·rcases ho with ho | ⟨k,ho,hk⟩
   ·rw[ho] at hx;exact .inl (.inr hx)
   ·rw[ho] at hx;cases hx;exact .inr hk
end
section
variable [zS]
open Go.Lib Go.RowKit
set_option maxHeartbeats 2000000 in
set_option maxRecDepth 100000 in
theorem zfH(b:Nat)(l:List UInt8)(s:ByteArray)(w:World)(f:List Nat)(h:zJV 197 5 b l w f)(hlen:l.length+s.size≤140737488355328) :
  Calls Tryz.prog 185 #[.pointer (some ⟨b,0,none⟩),.string s] w fun e w'=>e=.returned (.tuple #[.int .i64 s.size,.nilIface])∧∃f',zJV 197 5 b (l++s.data.toList) w' f'∧Fr w f w'∧∀x∈f',x∈f∨w.heap.size≤x:=by
 obtain⟨i0,hi,hz0,hz1,hz2⟩:=info_parts ze8
 have hbw:b < w.heap.size:=by
  obtain⟨p,v,_,hb,_⟩:=h
  exact(Array.getElem?_eq_some_iff.1 hb).1
 have hrow:∀v,f=b :: v→∀k∈v,k < w.heap.size:=by
  obtain⟨p,v,_,hb,hown,_,hf⟩:=h
  intro v' hv' k hk
  rw[hf] at hv';cases hv'
  exact(hown.lt k (by simpa using hk)).2
 go_enter Tryz.func185,Tryz.ntmps185
 go_wp2_with (go_at_call 223;refine(zT0 b l _ f h).mono ?_)
 rintro e w1 ⟨rfl,hU,hF1⟩
 obtain⟨v,hbk,hown,hne,hf⟩:=hU
 have c0:w1.cell? ⟨b,0,none⟩=some (.pointer (some ⟨b,0,none⟩)):=by simp[World.cell?,hbk]
 have c1:w1.cell? ⟨b,1,none⟩=some v:=by simp[World.cell?,hbk]
 go_wp2_with (at_builtin;refine zQt rfl _ _ 59 9 rfl 5 i0 Tryz.underlying59 Tryz.underlying9 hi hz0 hz1 hz2 _ _ _ rfl hown s rfl ?c3 ?c4 ?_)
 case c3=>unfold maxLen;omega
 case c4=>omega
 intro v' w2 hown' hgrow ho
 have hb2:w2.heap[b]?=some (.cells #[.pointer (some ⟨b,0,none⟩),v] 197 (0,0)):=by
  rw[hgrow.block b (Array.getElem?_eq_some_iff.1 hbk).1 (fun e=>hne e.symm)]
  exact hbk
 have d0:w2.cell? ⟨b,0,none⟩=some (.pointer (some ⟨b,0,none⟩)):=by simp[World.cell?,hb2]
 have d1:w2.cell? ⟨b,1,none⟩=some v:=by simp[World.cell?,hb2]
 have f1:w2.frozen? ⟨b,1,none⟩=false:=by simp[World.frozen?,hb2]
 obtain⟨ao,n',cap,rfl⟩:∃ao n' cap,v'=.slice ao n' cap:=by
  rcases hown'.2 with ⟨hv,_⟩ | ⟨g,cap,cur,hv,_⟩
  ·exact⟨_,_,_,hv⟩
  ·exact⟨_,_,_,hv⟩
 go_wp2
 go_ret2
 have e1:l.map (fun x=>Value.int .u8 x.toNat)++strCells s=(l++s.data.toList).map fun x=>Value.int .u8 x.toNat:=by simp[strCells]
 have e2:l.length+s.size=(l++s.data.toList).length:=by rw[List.length_append,Array.length_toList];rfl
 rw[e1,e2] at hown'
 refine⟨rfl,?_⟩
 exact zYo (by decide) hF1 hbw hbk hne hf hown' hgrow (ho.imp (fun h=>h) fun h=>⟨_,h,hF1.size⟩) (fun k hk=>hrow _ hf k (by rw[hk];exact List.mem_singleton.2 rfl))
set_option maxHeartbeats 2000000 in
set_option maxRecDepth 100000 in
theorem zfI(b:Nat)(l:List UInt8)(c:UInt8)(w:World)(f:List Nat)(h:zJV 197 5 b l w f)(hlen:l.length+1≤140737488355328) :
  Calls Tryz.prog 237 #[.pointer (some ⟨b,0,none⟩),.int .u8 c.toNat] w fun e w'=>e=.returned .nilIface∧∃f',zJV 197 5 b (l++[c]) w' f'∧Fr w f w'∧∀x∈f',x∈f∨w.heap.size≤x:=by
 obtain⟨i0,hi,hz0,hz1,hz2⟩:=info_parts ze8
 have hbw:b < w.heap.size:=by
  obtain⟨p,v,_,hb,_⟩:=h
  exact(Array.getElem?_eq_some_iff.1 hb).1
 have hrow:∀v,f=b :: v→∀k∈v,k < w.heap.size:=by
  obtain⟨p,v,_,hb,hown,_,hf⟩:=h
  intro v' hv' k hk
  rw[hf] at hv';cases hv'
  exact(hown.lt k (by simpa using hk)).2
 go_enter Tryz.func237,Tryz.ntmps237
 go_wp2_with (go_at_call 223;refine(zT0 b l _ f h).mono ?_)
 rintro e w0 ⟨rfl,hU,hF0⟩
 obtain⟨v,hbk,hown,hne,hf⟩:=hU
 have c0:w0.cell? ⟨b,0,none⟩=some (.pointer (some ⟨b,0,none⟩)):=by simp[World.cell?,hbk]
 have c1:w0.cell? ⟨b,1,none⟩=some v:=by simp[World.cell?,hbk]
 go_wp2_with (at_builtin;refine zQu rfl _ _ 59 rfl 5 i0 Tryz.underlying59 hi hz0 hz1 hz2 _ _ _ rfl (hown.alloc _) ⟨w0.heap.size,0,none⟩ (.int .u8 c.toNat) rfl ?c2 rfl ?c4 ?_)
 case c2=>rw[Lib.cell_of_heap (heap_alloc_new w0 _)];rfl
 case c4=>omega
 intro v' w2 hown' hgrow ho
 have hF1:Fr w [b] (w0.alloc (.cells #[.int .u8 c.toNat] 5)):=Fr.alloc hF0 _
 have hbk1:(w0.alloc (.cells #[.int .u8 c.toNat] 5)).heap[b]?=some (.cells #[.pointer (some ⟨b,0,none⟩),v] 197 (0,0)):=by
  rw[Proofs.YthogljppoiekaaaGreat.alloc_old w0 _ (Array.getElem?_eq_some_iff.1 hbk).1];exact hbk
 have hb2:w2.heap[b]?=some (.cells #[.pointer (some ⟨b,0,none⟩),v] 197 (0,0)):=by
  rw[hgrow.block b (Array.getElem?_eq_some_iff.1 hbk1).1 (fun e=>hne e.symm)]
  exact hbk1
 have d0:w2.cell? ⟨b,0,none⟩=some (.pointer (some ⟨b,0,none⟩)):=by simp[World.cell?,hb2]
 have d1:w2.cell? ⟨b,1,none⟩=some v:=by simp[World.cell?,hb2]
 have f1:w2.frozen? ⟨b,1,none⟩=false:=by simp[World.frozen?,hb2]
 obtain⟨ao,n',cap,rfl⟩:∃ao n' cap,v'=.slice ao n' cap:=by
  rcases hown'.2 with ⟨hv,_⟩ | ⟨g,cap,cur,hv,_⟩
  ·exact⟨_,_,_,hv⟩
  ·exact⟨_,_,_,hv⟩
 go_wp2
 go_ret
 have e1:l.map (fun x=>Value.int .u8 x.toNat)++[.int .u8 c.toNat]=(l++[c]).map fun x=>Value.int .u8 x.toNat:=by simp
 have e2:l.length+1=(l++[c]).length:=by simp
 rw[e1,e2] at hown'
 refine⟨rfl,?_⟩
 exact zYo (by decide) hF1 hbw hbk1 hne hf hown' hgrow (ho.imp (fun h=>h) fun h=>⟨_,h,by have:=hF0.size;omega⟩) (fun k hk=>hrow _ hf k (by rw[hk];exact List.mem_singleton.2 rfl))
set_option maxHeartbeats 1000000 in
set_option maxRecDepth 100000 in
theorem zb2(b:Nat)(l:List UInt8)(w:World)(f:List Nat)(h:zJV 197 5 b l w f) :
  Calls Tryz.prog 187 #[.pointer (some ⟨b,0,none⟩)] w fun e w'=>e=.returned (.int .i64 l.length)∧w'=w:=by
 obtain⟨p,v,_,hbk,hown,hne,hf⟩:=h
 obtain⟨ao,cap,rfl⟩:∃ao cap,v=.slice ao l.length cap:=by
  rcases hown.2 with ⟨hv,h0⟩ | ⟨g,cap,cur,hv,_⟩
  ·exact⟨none,0,by rw[hv,h0]⟩
  ·exact⟨_,_,hv⟩
 have c1:w.cell? ⟨b,1,none⟩=some (.slice ao l.length cap):=by simp[World.cell?,hbk]
 go_enter Tryz.func187,Tryz.ntmps187
 go_wp2
 go_ret
 exact⟨rfl,rfl⟩
theorem zfG:Tryz.prog.cellsOf 5=1:=by kernel_rfl
theorem zYQ{w:World}{f:List Nat}(g n:Nat)(hg:g∈f):Fr w f (w.drew.freeze ⟨g,0,none⟩ n):=by
 have h:Fr w.drew f (w.drew.freeze ⟨g,0,none⟩ n):=by
  unfold World.freeze
  split
  ·exact Fr.refl _ _
  ·exact⟨rfl,rfl,rfl,by simp,fun k hk hn=>by
    simp only[Array.getElem?_modify]
    rw[if_neg (fun e=>hn (by rw[←e];exact hg))]⟩
 exact⟨h.os,h.tape,h.output,h.size,h.block⟩
set_option maxHeartbeats 2000000 in
set_option maxRecDepth 100000 in
theorem zb1(b:Nat)(l:List UInt8)(w:World)(f:List Nat)(h:zJV 197 5 b l w f)(h0:l≠[]) :
  Calls Tryz.prog 188 #[.pointer (some ⟨b,0,none⟩)] w fun e w'=>e=.returned (.string ⟨l.toArray⟩)∧Fr w f w':=by
 obtain⟨p,v,_,hbk,hown,hne,hf⟩:=h
 have hl0:l.length≠0:=by simpa using h0
 obtain⟨g,cap,cur,rfl,hbg,hg,hnc,hcm,hcs,htake⟩:∃g cap cur,v=.slice (some ⟨g,0,none⟩) l.length cap∧0≤g∧w.heap[g]?=some (.cells cur 5 (0,0))∧l.length≤cap∧cap≤maxLen∧cur.size=cap*1∧cur.toList.take (l.length*1)=l.map fun x=>Value.int .u8 x.toNat:=by
  rcases hown.2 with ⟨_,hz⟩ | ⟨g,cap,cur,hv,r⟩
  ·exact absurd hz hl0
  ·exact⟨g,cap,cur,hv,r⟩
 have c1:w.drew.cell? ⟨b,1,none⟩=some (.slice (some ⟨g,0,none⟩) l.length cap):=by
  have:w.drew.heap[b]?=some (.cells #[p,.slice (some ⟨g,0,none⟩) l.length cap] 197 (0,0)):=hbk
  simp[World.cell?,this]
 have hSD:(Builtin.unsafeSliceData_ #[59] 229 #[.slice (some ⟨g,0,none⟩) l.length cap]).run Tryz.prog w.drew=.ok (.pointer (some ⟨g,0,none⟩)) w.drew:=
  Lib.run_unsafeSliceData_row _ _ _ _ _ _ (by omega)
 have hUS:(Builtin.unsafeString_ #[229,3] 9 #[.pointer (some ⟨g,0,none⟩),.int .i64 l.length]).run Tryz.prog w.drew=.ok (.string ⟨l.toArray⟩) (w.drew.freeze ⟨g,0,none⟩ l.length):=by
  refine Lib.run_unsafeString_row w.drew 229 3 9 5 Tryz.underlying229 zfG g cur.size (by have hg':w.drew.heap[g]?=some (.cells cur 5 (0,0)):=hg;simp[World.shape?,hg']) l h0 (by omega) (by unfold maxLen at hcm;omega) ?_
  intro j x hx
  exact hown.cells (g:=g) rfl j (.int .u8 x.toNat) (by simp[hx])
 go_enter Tryz.func188,Tryz.ntmps188
 go_wp2
 go_region
 all_goals (go_wp2;go_ret;exact⟨rfl,zYQ g _ (by rw[hf];simp[Value.ownBlock])⟩)
set_option maxHeartbeats 2000000 in
set_option maxRecDepth 100000 in
theorem zZ2(b:Nat)(w:World)(f:List Nat)(h:zJV 197 5 b [] w f) :
  Calls Tryz.prog 188 #[.pointer (some ⟨b,0,none⟩)] w fun e w'=>e=.returned (.string ⟨#[]⟩)∧Fr w f w':=by
 obtain⟨p,v,_,hbk,hown,hne,hf⟩:=h
 have hd:Fr w f w.drew:=⟨rfl,rfl,rfl,Nat.le_refl _,fun _ _ _=>rfl⟩
 rcases hown.2 with ⟨hv,hz⟩ | ⟨g,cap,cur,hv,hg0,hg,_⟩
 ·subst hv
  have c1:w.drew.cell? ⟨b,1,none⟩=some (.slice none 0 0):=by
   have:w.drew.heap[b]?=some (.cells #[p,.slice none 0 0] 197 (0,0)):=hbk
   simp[World.cell?,this]
  have hSD:(Builtin.unsafeSliceData_ #[59] 229 #[.slice none 0 0]).run Tryz.prog w.drew=.ok (.pointer none) w.drew:=Lib.run_unsafeSliceData_nil _ _ _ _ _
  have hUS:(Builtin.unsafeString_ #[229,3] 9 #[.pointer none,.int .i64 0]).run Tryz.prog w.drew=.ok (.string .empty) w.drew:=Lib.run_unsafeString_none _ _ _ _ _
  go_enter Tryz.func188,Tryz.ntmps188
  go_wp2
  go_region
  all_goals (go_wp2;go_ret;exact⟨rfl,hd⟩)
 ·subst hv
  have hg':w.drew.heap[g]?=some (.cells cur 5 (0,0)):=hg
  have c1:w.drew.cell? ⟨b,1,none⟩=some (.slice (some ⟨g,0,none⟩) 0 cap):=by
   have:w.drew.heap[b]?=some (.cells #[p,.slice (some ⟨g,0,none⟩) 0 cap] 197 (0,0)):=hbk
   simp[World.cell?,this]
  by_cases hc:cap=0
  ·subst hc
   have hSD:(Builtin.unsafeSliceData_ #[59] 229 #[.slice (some ⟨g,0,none⟩) 0 0]).run Tryz.prog w.drew=.ok (.pointer (some ⟨w.drew.heap.size,0,none⟩)) (w.drew.alloc (.view ⟨g,0,none⟩ 5)):=
    Lib.run_unsafeSliceData_zero _ _ _ _ Tryz.underlying229 _ _ (5,cur.size) (by simp[World.shape?,hg'])
   have hUS:(Builtin.unsafeString_ #[229,3] 9 #[.pointer (some ⟨w.heap.size,0,none⟩),.int .i64 0]).run Tryz.prog (w.alloc (.view ⟨g,0,none⟩ 5)).drew=.ok (.string .empty) (w.alloc (.view ⟨g,0,none⟩ 5)).drew:=Lib.run_unsafeString_none _ _ _ _ _
   have c2:(w.alloc (.view ⟨g,0,none⟩ 5)).cell? ⟨b,1,none⟩=some (.slice (some ⟨g,0,none⟩) 0 0):=by
    have hlt:b < w.heap.size:=(Array.getElem?_eq_some_iff.1 hbk).1
    have:(w.alloc (.view ⟨g,0,none⟩ 5)).heap[b]?=w.heap[b]?:=alloc_old w _ hlt
    have h2:w.heap[b]?=some (.cells #[p,.slice (some ⟨g,0,none⟩) 0 0] 197 (0,0)):=hbk
    simp[World.cell?,this,h2]
   have hF:Fr w f (w.alloc (.view ⟨g,0,none⟩ 5)):=Fr.alloc (Fr.refl _ _) _
   have hF:Fr w f (w.alloc (.view ⟨g,0,none⟩ 5)).drew:=⟨hF.os,hF.tape,hF.output,hF.size,hF.block⟩
   go_enter Tryz.func188,Tryz.ntmps188
   go_wp2
   go_region
   all_goals (go_wp2;go_ret;exact⟨rfl,hF⟩)
  ·have hSD:(Builtin.unsafeSliceData_ #[59] 229 #[.slice (some ⟨g,0,none⟩) 0 cap]).run Tryz.prog w.drew=.ok (.pointer (some ⟨g,0,none⟩)) w.drew:=Lib.run_unsafeSliceData_row _ _ _ _ _ _ hc
   have hUS:(Builtin.unsafeString_ #[229,3] 9 #[.pointer (some ⟨g,0,none⟩),.int .i64 0]).run Tryz.prog w.drew=.ok (.string .empty) w.drew:=Lib.run_unsafeString_none _ _ _ _ _
   go_enter Tryz.func188,Tryz.ntmps188
   go_wp2
   go_region
   all_goals (go_wp2;go_ret;exact⟨rfl,hd⟩)
theorem zZ1(b:Nat)(l:List UInt8)(w:World)(f:List Nat)(h:zJV 197 5 b l w f) :
  Calls Tryz.prog 188 #[.pointer (some ⟨b,0,none⟩)] w fun e w'=>e=.returned (.string ⟨l.toArray⟩)∧Fr w f w':=by
 by_cases h0:l=[]
 ·subst h0;exact zZ2 b w f h
 ·exact zb1 b l w f h h0
end
section
variable [zS]
open Go.Lib Go.RowKit
section
variable {P:Program} {w:World}
end
def runeL(r:Int):List Int:=
 if r < 128 then [r] else if r < 2048 then [192+r / 64,128+r % 64] else if r < 65536 then [224+r / 4096,128+r / 64 % 64,128+r % 64]
 else [240+r / 262144,128+r / 4096 % 64,128+r / 64 % 64,128+r % 64]
end
section
variable [zS]
def zLN(N:Nat)(S:St):Option Nat→Prop
 | none=>True
 | some t=>t < N∧(lk S.Lp t).isNone=true∧(lk S.Lt t).isNone=true
def zV3:Option Nat:=some 185
def zV4:Option Nat:=some 237
def zU6:Option Nat:=none
def zNk:Option Nat:=some 187
def runeB(n:Int):List UInt8:=(runeL n).map fun z=>UInt8.ofNat z.toNat
def zU8 (N : Nat) (keep : List Nat) (S : St) (o : Oper) (K : St → Prop) : Prop :=
  match o.op with
  | .alloc t => t = 197 ∧ o.guard = none ∧ zET N keep true o.dst ∧ K (zJW keep S true o.dst ⟨True, True, .ptr S.n 0, (S.n, .bld 197 5 []) :: S.A, S.n + 1⟩)
  | .call c => (match c.callee, c.args.toList with
    | .value f, [x, y] => (match S.ev f, S.ev x, S.ev y with
      | some (true, .fn g []), some (true, .ptr h 0), some (true, .str s) => (match lk S.A h with
        | some (.bld T 5 l) => zV3 = some g ∧ T = 197 ∧ l.length + s.length ≤ LIM ∧ o.guard = none ∧ zLN N S o.dst ∧ K { S with A := zFA (yN [h] S.A) h (.bld T 5 (l ++ s)) }
        | _ => False)
      | some (true, .fn g []), some (true, .ptr h 0), some (true, .int .u8 n) => (match lk S.A h with
        | some (.bld T 5 l) => zV4 = some g ∧ T = 197 ∧ l.length + 1 ≤ LIM ∧ o.guard = none ∧ zLN N S o.dst ∧ K { S with A := zFA (yN [h] S.A) h (.bld T 5 (l ++ [UInt8.ofNat n.toNat])) }
        | _ => False)
      | some (true, .fn g []), some (true, .ptr h 0), some (true, .int .i32 n) => (match lk S.A h with
        | some (.bld T 5 l) => zU6 = some g ∧ T = 197 ∧ (0 ≤ n ∧ n ≤ 1114111 ∧ (n < 55296 ∨ 57343 < n)) ∧ l.length + 4 ≤ LIM ∧ o.guard = none ∧ zLN N S o.dst ∧ K { S with A := zFA (yN [h] S.A) h (.bld T 5 (l ++ runeB n)) }
        | _ => False)
      | _, _, _ => False)
    | .value f, [x] => (match S.ev f, S.ev x with
      | some (true, .fn g []), some (true, .ptr h 0) => (match lk S.A h with
        | some (.bld T 5 l) => T = 197 ∧ o.guard = none ∧ zET N keep true o.dst ∧
          ((zNk = some g ∧ K (zJW keep S true o.dst ⟨True, True, .int .i64 l.length, S.A, S.n⟩)) ∨
           (g = 188 ∧ l.length ≤ LIM ∧ K (zJW keep S true o.dst ⟨True, True, .str l, yN [h] S.A, S.n⟩)))
        | _ => False)
      | _, _ => False)
    | _, _ => False)
  | _ => False
structure za0 (N:Nat) (keep:List Nat) (W:List KI→St→Prop):Prop where
 bld:∀(all l:List Oper) (o:Oper) (k:List KI) (S:St),zU8 N keep S o (fun S'=>W (.run all l :: k) S')→W (.run all (o :: l) :: k) S
section
variable {C:Cx} {S:St} {a:Act} {w w':World} {o:Oper} {all l:List Oper} {k:List KI}
theorem zYp{β:Nat→GV}{ϕ ϕ':Nat→List Nat}{A':Hp}{v:Value}(kp:Kp C.keep S)(hn:C.n0≤S.n)(sat:Sat C.N C.w0 C.X C.F S β ϕ a w)(h0:∀h,h < C.n0→β h=C.β0 h)
  (hd:zLN C.N S o.dst) (hp:yO C.w0.heap.size C.X C.F A' β ϕ' w') (hb:Bd S.n β A') (hf:Fr C.w0 C.X w'):At C { S with A:=A' } (a.put o.dst v) w':=by
 cases hdst:o.dst with
 | none=>exact⟨kp,hn,β,ϕ',⟨sat.df,sat.sz,sat.lp,sat.lt,hp,hb,hf,sat.gl⟩,h0⟩
 | some d=>
  rw[hdst] at hd
  obtain⟨_,hd1,hd2⟩:=hd
  have hoth:∀t,d≠t→(a.put (some d) v).tmps[t]?=a.tmps[t]?:=fun t ht=>by
   simp only[Act.put];exact Array.getElem?_setIfInBounds_ne ht
  refine⟨kp,hn,β,ϕ',⟨sat.df,by simp only[Act.put,Array.size_setIfInBounds];exact sat.sz,?_,?_,hp,hb,hf,sat.gl⟩,h0⟩
  ·intro t x ht
   have:d≠t:=fun e=>by subst e;rw[ht] at hd1;cases hd1
   rw[hoth t this];exact sat.lp t x ht
  ·intro t g x ht
   have:d≠t:=fun e=>by subst e;rw[ht] at hd2;cases hd2
   rw[hoth t this];exact sat.lt t g x ht
theorem zV2{β:Nat→GV}{ϕ:Nat→List Nat}{N:Nat}{w0:World}{X F:List Nat}{S:St}{h T e b:Nat}{l l':List UInt8}{f':List Nat}(sat:Sat N w0 X F S β ϕ a w)(hl:lk S.A h=some (.bld T e l))(hv:(β h).v=.pointer (some ⟨b,0,none⟩))
  (hB:zJV T e b l' w' f') (hF:Fr w (ϕ h) w') (hf:∀x∈f',x∈ϕ h∨w.heap.size≤x) :
  ∃ϕ',yO w0.heap.size X F (zFA (yN [h] S.A) h (.bld T e l')) β ϕ' w'∧Bd S.n β (zFA (yN [h] S.A) h (.bld T e l'))∧Fr w0 X w':=by
 have hown:∀b∈ϕ h,b∈X∨w0.heap.size≤b:=fun b hb=>sat.hp.own h _ hl b hb
 have hall:∀b∈ϕ h,b∈F∨w0.heap.size≤b:=fun b hb=>sat.hp.all h _ hl trivial b hb
 have hfr:Fr w0 X w':=sat.fr.trans hF (fun x hx=>hx) (fun b hb=>hown b hb)
 have hst:=sat.hp.struck [h]
 have hap:zCi (yN [h] S.A) ϕ (ϕ h):=zBI sat.hp fun b hb=>⟨h,by simp,_,hl,hb⟩
 have hst':yO w0.heap.size X F (yN [h] S.A) β ϕ w':=hst.world fun i hl hi hd b hb=>hF.block b (hst.inb hi hd b hb) (hap i hl hi hd b hb)
 have hap2:zCi (yN [h] S.A) ϕ f':=by
  intro i hl hi hd b hb hm
  rcases hf b hm with h1 | h1
  ·exact hap i hl hi hd b hb h1
  ·have:=hst.inb hi hd b hb;omega
 have hge:∀b∈f',(b∈X∨w0.heap.size≤b)∧(b∈F∨w0.heap.size≤b):=by
  intro b hb
  rcases hf b hb with h1 | h1
  ·exact⟨hown b h1,hall b h1⟩
  ·exact⟨.inr (Nat.le_trans sat.fr.size h1),.inr (Nat.le_trans sat.fr.size h1)⟩
 have hput:=hst'.put (A':=zFA (yN [h] S.A) h (.bld T e l')) (n:=h) (hl0:=.bld T e l') (f:=f') (fun j=>yZ _ _ _) (fun hl' hi=>zDy (by simp) hi)
  ⟨b,hv,hB⟩ (fun c hc=>(hge c hc).1) (fun _ c hc=>(hge c hc).2) trivial hap2
  (fun i hl' hi _ c hc hm=>by
   by_cases hdd:hl'=.dead
   ·subst hdd;simp[zq] at hc
   ·exact hap2 i hl' hi hdd c (zAC c hc) hm) trivial (fun _ _ _ e=>by cases e) (by simp[yc])
 exact⟨_,hput,zJB (zCp sat.hb [h]) (fun j=>yZ _ _ _) (sat.hb _ _ hl).1 trivial,hfr⟩
set_option maxHeartbeats 1000000 in
theorem zYn(hC:C.Ok)(hP:C.P=Tryz.prog):za0 C.N C.keep (WP C):=by
 refine⟨fun all l o k S h a w hat=>?_⟩
 obtain⟨kp,hn,β,ϕ,sat,h0⟩:=hat
 show wpList C.P all.toArray (xt C k) (o :: l) a w
 unfold wpList
 unfold zU8 at h
 have hgd:o.guard=none→Region.wanted o (yielded all.toArray a.tmps)=true:=fun hg=>yh (g:=true) (by rw[hg];rfl) sat
 have call:∀{c:Call} {f:Operand} {g:Nat} {vs:List SV} {fn:Func} {Q':Value→World→Prop} {h:Nat} (ho:o.op=.call c) (hc:c.callee=.value f) (hf:S.ev f=some (true,.fn g [])) (hvs:c.args.toList.map a.eval=SV.vals β vs) (hfn:C.P.funcs[g]?=some fn) (hbd:fn.body.isNone=false) (hnm:(fn.name == "runtime.NumGoroutine")=false)
   (hcall:Calls C.P g (SV.vals β vs).toArray w fun e w'=>∃v,e=.returned v∧Q' v w') (next:Act→World→Prop) (Q:Exit→Act→World→Prop),(∀v w',Q' v w'→next (a.put o.dst v) w')→o.wp C.P a w next Q:=by
  intro c f g vs fn Q' _ ho hc hf hvs hfn hbd hnm hcall next Q hnext
  obtain⟨_,f2⟩:=zi hf sat
  obtain⟨f3,_⟩:=f2 rfl
  have hrun:=zGz (P:=C.P) (w:=w) (ob:=True) ho hc f3 hvs hfn hbd hnm
  rw[List.append_nil] at hrun
  unfold Oper.wp
  rw[hrun,Oper.upon_enter]
  refine hcall.mono fun e w' he=>?_
  obtain⟨v,rfl,hq⟩:=he
  exact hnext v w' hq
 have ptr:∀{h T:Nat} {l:List UInt8},lk S.A h=some (.bld T 5 l)→∃b,(β h).v=.pointer (some ⟨b,0,none⟩)∧zJV T 5 b l w (ϕ h)∧SV.val β (.ptr h 0)=.pointer (some ⟨b,0,none⟩):=by
  intro h T l hl
  obtain⟨b,h1,h2⟩:=sat.hp.sat _ _ hl
  exact⟨b,h1,h2,by simp[SV.val,h1]⟩
 split at h
 ·rename_i t ho
  obtain⟨rfl,hg,hd,hk⟩:=h
  rw[if_pos (hgd hg)]
  have hz:=Tryz.zeroValue197 w
  have hadd:=sat.hp.addNew (n:=S.n) (hl0:=.bld 197 5 []) (g:=⟨.pointer (some ⟨w.heap.size,0,none⟩),[],[]⟩) (f:=[w.heap.size]) (w':=w.alloc (.cells #[.pointer none,.slice none 0 0] 197)) sat.hb sat.fr (fun b hb=>alloc_old w _ hb) rfl
   ⟨w.heap.size,rfl,.pointer none,.slice none 0 0,.inl rfl,heap_alloc_new w _,World.ownsRow_nil _ _ _ _,by simp[Value.ownBlock],by simp[Value.ownBlock]⟩ (by simp) trivial rfl trivial
  refine .inl (zeP.wp (.inl ?_) (hk _ _ (zBe (v:=.pointer (some ⟨w.heap.size,0,none⟩)) kp hn sat h0 hd ⟨fun _=>?_,fun h hh=>zBS _ _ _ hh,hadd,zFO sat.hb trivial,?_,?_,Nat.le_succ _,sat.fr.alloc _⟩)))
  ·rw[hP]
   simp only[execOp,ho,Instr.alloc,newVar,newRow,Sem.run_bind,Sem.run_pure,run_newObj,Result.andThen_ok,hz]
   rfl
  ·simp[SV.val,zA0]
  ·show SV.lt _ (SV.ptr _ _)
   simp[SV.lt]
  ·exact⟨w.heap.size,0,by simp[zA0]⟩
 ·rename_i c ho
  split at h
  ·rename_i f x y hc hargs
   split at h
   ·rename_i g i s hf hx hy
    split at h
    ·rename_i T l0 hl
     obtain⟨hgw,rfl,hlen,hg,hd,hk⟩:=h
     cases hgw
     rw[if_pos (hgd hg)]
     obtain⟨b,hb,hB,hbv⟩:=ptr hl
     obtain⟨_,x2⟩:=zi hx sat
     obtain⟨_,y2⟩:=zi hy sat
     refine .inl (call (h:=0) (vs:=[.ptr i 0,.str s]) (Q':=fun v w'=>∃f',zJV 197 5 b (l0++s) w' f'∧Fr w (ϕ i) w'∧∀x∈f',x∈ϕ i∨w.heap.size≤x) ho hc hf ?_ (by rw[hP];exact Tryz.func185) (by kernel_rfl) (by kernel_rfl) ?_ _ _ fun v w' hq=>?_)
     ·rw[hargs];simp only[List.map_cons,List.map_nil,SV.vals,(x2 rfl).1,(y2 rfl).1]
     ·rw[hP]
      simp only[SV.vals,hbv]
      refine(zfH b l0 ⟨s.toArray⟩ w (ϕ i) hB (by simpa[ByteArray.size,LIM] using hlen)).mono fun e w' he=>?_
      obtain⟨rfl,h1⟩:=he
      exact⟨_,rfl,by simpa using h1⟩
     ·obtain⟨f',q1,q2,q3⟩:=hq
      obtain⟨ϕ',r1,r2,r3⟩:=zV2 sat hl hb q1 q2 q3
      exact hk _ _ (zYp kp hn sat h0 hd r1 r2 r3)
    ·exact h.elim
   ·rename_i g i n hf hx hy
    split at h
    ·rename_i T l0 hl
     obtain⟨hgw,rfl,hlen,hg,hd,hk⟩:=h
     cases hgw
     rw[if_pos (hgd hg)]
     obtain⟨b,hb,hB,hbv⟩:=ptr hl
     obtain⟨_,x2⟩:=zi hx sat
     obtain⟨_,y2⟩:=zi hy sat
     have hn8:((UInt8.ofNat n.toNat).toNat:Int)=n:=by
      have:inR .u8 n:=(y2 rfl).2
      simp[inR,IntKind.min,IntKind.max,IntKind.signed,IntKind.bits] at this
      rw[UInt8.toNat_ofNat',Nat.mod_eq_of_lt (by omega)];omega
     generalize UInt8.ofNat n.toNat=c8 at hn8 hk
     subst hn8
     have hw:=zfI b l0 c8 w (ϕ i) hB (by simpa[LIM] using hlen)
     refine .inl (call (h:=0) (vs:=[.ptr i 0,.int .u8 (c8.toNat:Int)]) (Q':=fun v w'=>∃f',zJV 197 5 b (l0++[c8]) w' f'∧Fr w (ϕ i) w'∧∀x∈f',x∈ϕ i∨w.heap.size≤x) ho hc hf ?_ (by rw[hP];exact Tryz.func237) (by kernel_rfl) (by kernel_rfl) ?_ _ _ fun v w' hq=>?_)
     ·rw[hargs];simp only[List.map_cons,List.map_nil,SV.vals,(x2 rfl).1,(y2 rfl).1]
     ·rw[hP]
      simp only[SV.vals,hbv]
      simp only[SV.val]
      refine hw.mono fun e w' he=>?_
      obtain⟨rfl,h1⟩:=he
      exact⟨_,rfl,h1⟩
     ·obtain⟨f',q1,q2,q3⟩:=hq
      obtain⟨ϕ',r1,r2,r3⟩:=zV2 sat hl hb q1 q2 q3
      exact hk _ _ (zYp kp hn sat h0 hd r1 r2 r3)
    ·exact h.elim
   ·rename_i g i n hf hx hy
    split at h
    ·rename_i T l0 hl
     exact absurd h.1 (by simp[zU6])
    ·exact h.elim
   ·exact h.elim
  ·rename_i f x hc hargs
   split at h
   ·rename_i g i hf hx
    split at h
    ·rename_i T l0 hl
     obtain⟨rfl,hg,hd,h⟩:=h
     rw[if_pos (hgd hg)]
     obtain⟨b,hb,hB,hbv⟩:=ptr hl
     obtain⟨_,x2⟩:=zi hx sat
     rcases h with ⟨hgw,hk⟩ | ⟨rfl,hlen,hk⟩
     ·cases hgw
      refine .inl (call (h:=0) (vs:=[.ptr i 0]) (Q':=fun v w'=>v=.int .i64 l0.length∧w'=w) ho hc hf ?_ (by rw[hP];exact Tryz.func187) (by kernel_rfl) (by kernel_rfl) ?_ _ _ fun v w' hq=>?_)
      ·rw[hargs];simp only[List.map_cons,List.map_nil,SV.vals,(x2 rfl).1]
      ·rw[hP]
       simp only[SV.vals,hbv]
       refine(zb2 b l0 w (ϕ i) hB).mono fun e w' he=>?_
       obtain⟨rfl,h1⟩:=he
       exact⟨_,rfl,rfl,h1⟩
      ·obtain⟨rfl,rfl⟩:=hq
       have hlr:inR .i64 (l0.length:Int):=by
        have h9:l0.length≤maxLen:=by
         obtain⟨p,v,_,_,⟨_,h4⟩,_⟩:=hB
         rcases h4 with ⟨_,h4⟩ | ⟨_,cap,_,_,_,_,h4,h5,_⟩
         ·omega
         ·omega
        rw[zHR];unfold maxLen at h9;omega
       exact hk _ _ (zBe kp hn sat h0 hd (zPp sat trivial hlr))
     ·refine .inl (call (h:=0) (vs:=[.ptr i 0]) (Q':=fun v w'=>v=.string ⟨l0.toArray⟩∧Fr w (ϕ i) w') ho hc hf ?_ (by rw[hP];exact Tryz.func188) (by kernel_rfl) (by kernel_rfl) ?_ _ _ fun v w' hq=>?_)
      ·rw[hargs];simp only[List.map_cons,List.map_nil,SV.vals,(x2 rfl).1]
      ·rw[hP]
       simp only[SV.vals,hbv]
       refine(zZ1 b l0 w (ϕ i) hB).mono fun e w' he=>?_
       obtain⟨rfl,h1⟩:=he
       exact⟨_,rfl,rfl,h1⟩
      ·obtain⟨rfl,hF⟩:=hq
       have hap:zCi (yN [i] S.A) ϕ (ϕ i):=zBI sat.hp fun b hb=>⟨i,by simp,_,hl,hb⟩
       have hst:=sat.hp.struck [i]
       have hst':yO C.w0.heap.size C.X C.F (yN [i] S.A) β ϕ w':=hst.world fun j hl hi hd b hb=>hF.block b (hst.inb hi hd b hb) (hap j hl hi hd b hb)
       exact hk _ _ (zBe kp hn sat h0 hd ⟨fun _=>rfl,fun _ _=>rfl,hst',zCp sat.hb [i],trivial,hlen,Nat.le_refl _,sat.fr.trans hF (fun x hx=>hx) (fun b hb=>sat.hp.own i _ hl b hb)⟩)
    ·exact h.elim
   ·exact h.elim
  ·exact h.elim
 ·exact h.elim
end
theorem bG{N:Nat}{keep:List Nat}(C:Cx)(hC:C.Ok)(hP:C.P=Tryz.prog)(hN:C.N=N)(hk:C.keep=keep):za0 N keep (WP C):=by
 subst hN hk
 exact zYn hC hP
end
section
variable [zS]
open Go.Lib Go.RowKit
section
variable {C:Cx} {S:St} {a:Act} {w w':World} {o:Oper} {all l:List Oper} {k:List KI}
end
end
end Go.Proofs.YthogljppoiekaaaGreat
