/-
  Part 20: contracts of functions, and the laws by which they are proved.
  Conditions: none.
-/
import Derived.Test.YthogljppoiekaaaGreatW5
import Derived.Shelf.Spec.SlicesInsertGrow
set_option linter.unusedVariables false
set_option linter.unusedSimpArgs false
set_option linter.unusedSectionVars false
set_option maxRecDepth 100000
namespace Go.Proofs.YthogljppoiekaaaGreat
section
variable [zS]
open Go.Shelf Go.RowKit Go.Lib
section
variable {P:Program} {ρ:Ren} {w:World}
theorem zEZ(b t:Nat)(fr:Nat × Nat):∀(vs:List Value) (o:Nat) (c:Array Value) (w:World),w.heap[b]?=some (.cells c t fr)→o+vs.length≤c.size →
  (w.setCells b o vs).heap[b]?=some (.cells (c.toList.take o++vs++c.toList.drop (o+vs.length)).toArray t fr)∧(∀k,k≠b→(w.setCells b o vs).heap[k]?=w.heap[k]?) ∧
   (w.setCells b o vs).os=w.os∧(w.setCells b o vs).tape=w.tape∧(w.setCells b o vs).output=w.output∧(w.setCells b o vs).heap.size=w.heap.size
 | [],o,c,w,h,hl=>by
  refine⟨?_,fun _ _=>rfl,rfl,rfl,rfl,rfl⟩
  show w.heap[b]?=_
  rw[h];simp
 | v :: vs,o,c,w,h,hl=>by
  simp only[List.length_cons] at hl
  have hlt:o < c.size:=by omega
  have hheap:(w.setCell ⟨b,o,none⟩ v).heap[b]?=some (.cells (c.setIfInBounds o v) t fr):=by
   simp[World.setCell,Array.getElem?_modify,h]
  have hoth:∀k,k≠b→(w.setCell ⟨b,o,none⟩ v).heap[k]?=w.heap[k]?:=by
   intro k hk;simp[World.setCell,Array.getElem?_modify,Ne.symm hk]
  obtain⟨r2,r3,r4,r5,r6,r7⟩:=zEZ b t fr vs (o+1) (c.setIfInBounds o v) _ hheap (by simp;omega)
  rw[World.setCells]
  refine⟨?_,fun k hk=>(r3 k hk).trans (hoth k hk),r4,r5,r6,?_⟩
  ·rw[r2]
   congr 3
   have e1:(c.setIfInBounds o v).toList=c.toList.set o v:=by simp
   rw[e1]
   have e2:(c.toList.set o v).take (o+1)=c.toList.take o++[v]:=by
    rw[List.take_succ_eq_append_getElem (by simpa using hlt)]
    simp[List.take_set_of_le]
   have e3:(c.toList.set o v).drop (o+1+vs.length)=c.toList.drop (o+(v :: vs).length):=by
    rw[List.drop_set_of_lt (by omega)]
    congr 1;simp;omega
   rw[e2,e3];simp
  ·rw[r7];simp[World.setCell]
theorem zYT(n:Nat):yf (.int .i64) n=List.replicate n (.int .i64):=by
 induction n with
 | zero=>rfl
 | succ n ih=>rw[List.replicate_succ,←ih];rfl
theorem zQY{es:List PV}(h:∀e∈es,Shp (.int .i64) e):yb es=es:=by
 induction es with
 | nil=>rfl
 | cons e es ih=>
  have h1:e.leaves=[e]:=by
   have:=h e (by simp)
   cases e<;>first | rfl | exact absurd rfl (this _)
  rw[yb,List.flatMap_cons,h1,←yb,ih fun x hx=>h x (by simp[hx])];rfl
theorem zXb{v:Value}{es:List PV}{f:List Nat}(h:zIn w v (.int .i64) es f):(es=[]∧f=[]∧∃a,v=.slice a 0 0) ∨
  ∃b cs,f=[b]∧zY8 w v 1 false es.length b cs∧(∀e∈es,Shp (.int .i64) e)∧Lv w (yf (.int .i64) es.length) (yb es) cs []:=by
 rcases h with h | ⟨b,f1,cs,rfl,hR,hS,hL⟩
 ·exact .inl h
 ·have hLv:=hL.lv
  have hf1:f1=[]:=zIV hLv (zGJ rfl _)
  subst hf1
  exact .inr ⟨b,cs,rfl,hR,hS,hLv⟩
theorem zV0{b o:Nat}{c:Array Value}{t:TypeId}{fr:Nat × Nat}{cs:List Value}(hb:w.heap[b]?=some (.cells c t fr))(hc:(c.toList.drop o).take cs.length=cs):∀j v,cs[j]?=some v→w.cell? ⟨b,o+j,none⟩=some v:=by
 intro j v hj
 rw[cell_of_row w b _ c t fr hb]
 have hlt:j < cs.length:=(List.getElem?_eq_some_iff.1 hj).1
 have h1:((c.toList.drop o).take cs.length)[j]?=some v:=by rw[hc];exact hj
 rw[List.getElem?_take,if_pos hlt,List.getElem?_drop] at h1
 simpa using h1
def zGa:zJ:=⟨[(.ow,.list (.int .i64)),(.rd,.int .i64),(.ow,.list (.int .i64))],[.list (.int .i64)],true,fun ps=>0≤(nth ps 1).I∧(nth ps 1).I≤(nth ps 0).L.length∧(nth ps 0).L.length≤1000∧(nth ps 2).L.length=1,
 fun ps=>[.list ((nth ps 0).L.take (nth ps 1).I.toNat++(nth ps 2).L++(nth ps 0).L.drop (nth ps 1).I.toNat)],fun _=>[]⟩
theorem zbt{w':World}{b o cap:Nat}{c:Array Value}{t:TypeId}{fr:Nat × Nat}{es new:List PV}{cs nv:List Value}{i:Nat}(hi:i≤es.length)
  (hb:w'.heap[b]?=some (.cells c t fr)) (hc:(c.toList.drop o).take (cs.length+nv.length)=cs.take i++nv++cs.drop i) (hcl:cs.length=es.length) (hnl:nv.length=new.length) (hcap:o+cap≤c.size) (hle:es.length+new.length≤cap) (hmx:cap≤maxLen) (hlim:es.length+new.length≤LIM) (hfz:zVH false c.size fr)
  (hS:∀e∈es,Shp (.int .i64) e) (hS2:∀e∈new,Shp (.int .i64) e) (hL:Lv w' (yf (.int .i64) es.length) (yb es) cs []) (hL2:Lv w' (yf (.int .i64) new.length) (yb new) nv []) :
  zRA w' [.list (.int .i64)] [.list (es.take i++new++es.drop i)] [.slice (some ⟨b,o,none⟩) (es.length+new.length) cap] [b]:=by
 have hSn:∀e∈es.take i++new++es.drop i,Shp (.int .i64) e:=by
  intro e he
  simp only[List.mem_append] at he
  rcases he with (he | he) | he
  ·exact hS e (List.mem_of_mem_take he)
  ·exact hS2 e he
  ·exact hS e (List.mem_of_mem_drop he)
 have hlen:(es.take i++new++es.drop i).length=es.length+new.length:=by
  simp only[List.length_append,List.length_take,List.length_drop];omega
 have hlenc:(cs.take i++nv++cs.drop i).length=cs.length+nv.length:=by
  simp only[List.length_append,List.length_take,List.length_drop];omega
 have hO:zIn w' (.slice (some ⟨b,o,none⟩) (es.length+new.length) cap) (.int .i64) (es.take i++new++es.drop i) [b]:=by
  refine zVd rfl (.inr ⟨b,[],cs.take i++nv++cs.drop i,rfl,⟨⟨o,cap,c,t,fr,by rw[hlen],hb,by rw[show(PTy.int .i64).wd=1 from rfl];omega,by rw[hlen];exact hle,hmx,hfz,by rw[hlenc];exact hc⟩,by rw[hlenc,hlen,show(PTy.int .i64).wd=1 from rfl];omega,by rw[hlen];exact hlim⟩,hSn,?_⟩)
  rw[hlen]
  rw[zQY hSn]
  rw[zQY hS] at hL
  rw[zQY hS2] at hL2
  rw[zYT] at hL hL2 ⊢
  have e1:List.replicate es.length (PTy.int .i64)=List.replicate i (PTy.int .i64)++List.replicate (es.length - i) (PTy.int .i64):=by
   rw[List.replicate_append_replicate];congr 1;omega
  obtain⟨v1,v2,f1,f2,e2,e3,a1,a2⟩:=hL.split e1 (List.take_append_drop i es).symm (by simp;omega)
  have e4:f1=[]∧f2=[]:=by
   have:=e3.symm
   simpa using this
  obtain⟨rfl,rfl⟩:=e4
  have e5:v1.length=i:=by rw[a1.lens.2,List.length_take];omega
  have h6:cs.take i=v1:=by rw[e2,←e5,List.take_left]
  have h7:cs.drop i=v2:=by rw[e2,←e5,List.drop_left]
  rw[h6,h7]
  have h8:=(a1.append hL2).append a2
  simp only[List.append_nil] at h8
  rw[List.replicate_append_replicate,List.replicate_append_replicate] at h8
  rw[show es.length+new.length=i+new.length+(es.length - i) by omega]
  exact h8
 have:=zRA.cons (w:=w') (t:=.list (.int .i64)) (p:=.list (es.take i++new++es.drop i)) (v:=.slice (some ⟨b,o,none⟩) (es.length+new.length) cap) (f:=[b]) (g:=[]) ⟨[[b]],.list hO .nil,rfl⟩ .nil
 simpa using this
theorem zZn{c pre cs post nv:List Value}{i o:Nat}(hc:c=pre++cs++post)(ho:pre.length=o)(hi:i≤cs.length)(hn:nv.length=1)(hp:1≤post.length) :
  (((c.take (o+(i+1))++cs.drop i++c.drop (o+(i+1)+(cs.drop i).length)).take (o+i)++nv++(c.take (o+(i+1))++cs.drop i++c.drop (o+(i+1)+(cs.drop i).length)).drop (o+i+nv.length)).drop o).take (cs.length+nv.length)=cs.take i++nv++cs.drop i:=by
 have hl:c.length=o+cs.length+post.length:=by rw[hc];simp[ho];omega
 have e0:(c.take (o+(i+1))).length=o+(i+1):=by rw[List.length_take];omega
 have e1:(c.take (o+(i+1))++cs.drop i++c.drop (o+(i+1)+(cs.drop i).length)).take (o+i)=pre++cs.take i:=by
  rw[List.append_assoc,List.take_append_of_le_length (by omega),List.take_take,Nat.min_eq_left (by omega),hc,List.append_assoc,List.take_append,List.take_of_length_le (by omega),ho,Nat.add_sub_cancel_left,List.take_append_of_le_length hi]
 have e2:(c.take (o+(i+1))++cs.drop i++c.drop (o+(i+1)+(cs.drop i).length)).drop (o+i+nv.length)=cs.drop i++c.drop (o+(i+1)+(cs.drop i).length):=by
  rw[List.append_assoc,List.drop_left' (by rw[e0,hn];omega)]
 rw[e1,e2]
 have e3:pre++cs.take i++nv++(cs.drop i++c.drop (o+(i+1)+(cs.drop i).length))=pre++((cs.take i++nv++cs.drop i)++c.drop (o+(i+1)+(cs.drop i).length)):=by simp
 rw[e3,List.drop_left' ho,List.take_left' (by simp only[List.length_append,List.length_take,List.length_drop];omega)]
theorem zYP{cs z nv:List Value}{i:Nat}(hi:i≤cs.length)(hn:nv.length=1)(hz:cs.length+1 - i≤z.length) :
  (((cs.take i++z).take i++nv++(cs.take i++z).drop (i+nv.length)).take (i+1)++cs.drop i++((cs.take i++z).take i++nv++(cs.take i++z).drop (i+nv.length)).drop (i+1+(cs.drop i).length)).take (cs.length+nv.length)=cs.take i++nv++cs.drop i:=by
 have e0:(cs.take i).length=i:=by rw[List.length_take];omega
 rw[List.take_left' e0,List.take_left' (l₁:=cs.take i++nv) (by rw[List.length_append,e0,hn]),List.take_left' (by simp only[List.length_append,List.length_take,List.length_drop];omega)]
theorem zTJ(L:Lays2.n21 P ρ):zUA P (ρ.f 21) zGa:=by
 intro w ps vs fs fl ms hA hnd hdj hpre hgl
 clear hgl
 cases hA with
 | ow h1 hA=>cases hA with
 | rd h2 hA=>cases hA with
 | ow h3 hA=>
 cases hA
 obtain⟨es,rfl,h1⟩:=h1
 obtain⟨new,rfl,h3⟩:=h3
 obtain⟨h2,rfl⟩:=h2
 cases h2 with | int hk h2=>
 cases h2
 rename_i v1 f1 v3 f3 k
 obtain⟨p1,p2,p3,p4⟩:=hpre
 simp only[nth,List.getD_cons_zero,List.getD_cons_succ,PV.L,PV.I] at p1 p2 p3 p4
 obtain⟨i,rfl⟩:∃i:Nat,k=i:=⟨k.toNat,by omega⟩
 rcases zXb h3 with ⟨e,_⟩ | ⟨vb,nv,rfl,⟨⟨vo,vc,cB,tB,frB,rfl,hbB,hcapB,hleB,hmxB,hfzB,hcB⟩,hnl,hlimB⟩,hSB,hLB⟩
 ·subst e;simp at p4
 have hm1:nv.length=1:=by rw[hnl];omega
 have hnl':nv.length=new.length:=by omega
 have h1v:=zTK hLB
 have hvs:=zV0 hbB hcB
 have hLIM:LIM=140737488355328:=rfl
 have hMX:maxLen=9223372036854775807:=rfl
 have hbBw:vb < w.heap.size:=(Array.getElem?_eq_some_iff.1 hbB).1
 rw[p4]
 have fin:∀{w':World} {b o cap:Nat} {c:Array Value} {t:TypeId} {fr:Nat × Nat} {cs:List Value},cs.length=es.length→w'.heap[b]?=some (.cells c t fr)→(c.toList.drop o).take (cs.length+nv.length)=cs.take i++nv++cs.drop i→o+cap≤c.size→es.length+1≤cap→cap≤maxLen→zVH false c.size fr →
   (∀e∈es,Shp (.int .i64) e)→Lv w (yf (.int .i64) es.length) (yb es) cs []→Fr w (f1++([vb]++[])) w'→(b∈f1∨w.heap.size≤b) →
   ∃rvs,(Ending.returned (.slice (some ⟨b,o,none⟩) (es.length+1) cap))=.returned (zQ0 rvs)∧Done w zGa [.list es,.int .i64 i,.list new] [v1,.int .i64 i,.slice (some ⟨vb,vo,none⟩) 1 vc] ([]++[]) (f1++([vb]++[])) rvs w':=by
  intro w' b o cap c t fr cs hcl hb hc hcap hle hmx hfz hS hL hFr hbm
  refine⟨[.slice (some ⟨b,o,none⟩) (es.length+1) cap],rfl,hFr,.inl ⟨rfl,[b],[],?_,.ow (.rd (.ow .nil)),by simp,fun x hx=>?_⟩⟩
  ·have:=zbt (w':=w') (new:=new) (nv:=nv) (es:=es) (by omega) hb hc hcl hnl' hcap (by omega) hmx (by omega) hfz hS hSB (hL.frame (by simp)) (hLB.frame (by simp))
   rw[p4] at this
   exact this
  ·rw[List.append_nil,List.mem_singleton] at hx
   subst hx
   rcases hbm with h | h
   ·exact .inl (by simp[h])
   ·exact .inr h
 rcases zXb h1 with ⟨rfl,rfl,a,rfl⟩ | ⟨b,cs,rfl,⟨⟨o,cap,c,t,fr,rfl,hb,hcap,hle,hmx,hfz,hcs⟩,hcl,hlim⟩,hS,hLc⟩
 ·
  have hi:i=0:=by simp at p2;omega
  subst hi
  refine(Any2.slices_Insert_int_end_grow L a 0 0 vb vo 1 vc [] nv w (by omega) (by omega) (by omega) (by omega) rfl hm1 (fun _=>rfl) (fun a e j v hj=>by simp at hj) hvs h1v).mono ?_
  rintro e w' ⟨rfl,rfl⟩
  have hge:=grownCap_ge w (0+1) 0 (ρ.t 3)
  have hcm:=grownCap_le_maxLen w (0+1) 0 (ρ.t 3) (by omega)
  exact fin (cs:=[]) rfl (heap_alloc_new w.drew _) (by simp[hm1]) (by simp[size_zeroCells,hm1,Value.cells];omega) (by simpa using hge) hcm (zVH.none _ _) (by simp) .nil
   ⟨rfl,rfl,rfl,by simp[World.alloc],fun k hk _=>zEJ w _ hk⟩ (.inr (Nat.le_refl _))
 ·have hcl':cs.length=es.length:=by omega
  have h1c:=zTK hLc
  have hcsa:=zV0 hb hcs
  have hbw:b < w.heap.size:=(Array.getElem?_eq_some_iff.1 hb).1
  have hne:vb≠b:=by
   intro e;subst e
   simp at hnd
  have hcell:∀j,j < c.size→(w.cell? ⟨b,j,none⟩).isSome=true:=fun j hj=>by rw[cell_of_row w b _ c t fr hb];simp[hj]
  have hfro:∀j,j < c.size→w.frozen? ⟨b,j,none⟩=false:=fun j hj=>by
   have:=hfz.1 j hj
   simp only[World.frozen?,hb,Bool.and_eq_false_iff,decide_eq_false_iff_not]
   omega
  obtain⟨post,hct,hol⟩:∃post,c.toList=c.toList.take o++cs++post∧(c.toList.take o).length=o:=by
   refine⟨(c.toList.drop o).drop cs.length,?_,by rw[List.length_take,Array.length_toList];omega⟩
   conv=>lhs;rw[←List.take_append_drop o c.toList,←List.take_append_drop cs.length (c.toList.drop o),hcs]
   rw[List.append_assoc]
  have hpl:c.size=o+cs.length+post.length:=by
   have:=congrArg List.length hct
   simp only[Array.length_toList,List.length_append] at this hol
   rw[←Array.length_toList] at this
   rw[←Array.length_toList]
   omega
  have hge:=grownCap_ge w (es.length+1) cap (ρ.t 3)
  have hcm:=grownCap_le_maxLen w (es.length+1) cap (ρ.t 3) (by omega)
  have hbf:b∈[b]∨w.heap.size≤b:=.inl (by simp)
  have hFr:∀{w':World},(∀k,k≠b→w'.heap[k]?=w.heap[k]?)→w'.os=w.os→w'.tape=w.tape→w'.output=w.output→w'.heap.size=w.heap.size→Fr w ([b]++([vb]++[])) w':=fun q1 q2 q3 q4 q5=>
   ⟨q2,q3,q4,Nat.le_of_eq q5.symm,fun k _ hk=>q1 k fun e=>hk (by simp[e])⟩
  by_cases hi:i=es.length
  ·subst hi
   by_cases hr:es.length+1≤cap
   ·refine(Any2.slices_Insert_int_end_room L b o es.length cap vb vo 1 vc nv w (by omega) hr (by omega) hm1 (fun j hj=>hcell _ (by omega)) (fun j hj=>hfro _ (by omega)) hvs h1v).mono ?_
    rintro e w' ⟨rfl,rfl⟩
    obtain⟨r2,r3,r4,r5,r6,r7⟩:=zEZ b t fr nv (o+es.length) c w hb (by omega)
    refine fin hcl' r2 ?_ ?_ hr hmx ?_ hS hLc (hFr r3 r4 r5 r6 r7) hbf
    ·have e1:c.toList.take (o+es.length)=c.toList.take o++cs:=by
      rw[List.take_add,←hcl',hcs]
     rw[List.toList_toArray,e1,List.take_of_length_le (l:=cs) (by omega),show cs.drop es.length=[] from List.drop_eq_nil_of_le (by omega),List.append_nil]
     rw[show c.toList.take o++cs++nv++c.toList.drop (o+es.length+nv.length)=c.toList.take o++((cs++nv)++c.toList.drop (o+es.length+nv.length)) by simp,List.drop_left' hol,List.take_left' (by simp)]
    ·simp only[List.size_toArray,List.length_append,List.length_take,List.length_drop,Array.length_toList];omega
    ·refine hfz.cast ?_
     simp only[List.size_toArray,List.length_append,List.length_take,List.length_drop,Array.length_toList];omega
   ·refine(Any2.slices_Insert_int_end_grow L (some ⟨b,o,none⟩) es.length cap vb vo 1 vc cs nv w (by omega) hle (by omega) (by omega) hcl' hm1 (fun e=>(by cases e)) (fun a e j v hj=>by cases e;rw[Addr.add_lit];exact hcsa j v hj) hvs h1v).mono ?_
    rintro e w' ⟨rfl,rfl⟩
    refine fin hcl' (heap_alloc_new w.drew _) ?_ ?_ hge hcm (zVH.none _ _) hS hLc ⟨rfl,rfl,rfl,by simp[World.alloc],fun k hk _=>zEJ w _ hk⟩ (.inr (Nat.le_refl _))
    ·rw[List.take_of_length_le (l:=cs) (by omega),show cs.drop es.length=[] from List.drop_eq_nil_of_le (by omega),List.append_nil]
     simp only[Array.toList_append,List.drop_zero]
     rw[List.take_left' (by simp)]
    ·simp[size_zeroCells,hm1,Value.cells];omega
  ·have hi':i < es.length:=by omega
   by_cases hr:es.length+1≤cap
   ·refine(Any2.slices_Insert_int_shift L b o es.length cap i vb vo 1 vc cs nv w hi' (by omega) hr (by omega) hne hcl' hm1 hcsa (fun j hj=>hcell _ (by omega)) (fun j hj=>hfro _ (by omega)) hvs h1c h1v tB t cB.size c.size
     (by simp[World.shape?,hbB]) (by simp[World.shape?,hb]) (by omega) ?_ ?_).mono ?_
    ·have:=hfzB.1 vo (by omega)
     simp only[World.frozen?,hbB,Bool.and_eq_false_iff,decide_eq_false_iff_not]
     omega
    ·have:=hfzB.2 rfl
     simp only[World.frozen?,hbB,Bool.and_eq_false_iff,decide_eq_false_iff_not]
     omega
    rintro e w' ⟨rfl,rfl⟩
    have hdl:(cs.drop i).length=es.length - i:=by rw[List.length_drop];omega
    obtain⟨r2,r3,r4,r5,r6,r7⟩:=zEZ b t fr (cs.drop i) (o+(i+1)) c w.drew hb (by omega)
    obtain⟨s2,s3,s4,s5,s6,s7⟩:=zEZ b t fr nv (o+i) _ _ r2 (by simp only[List.size_toArray,List.length_append,List.length_take,List.length_drop,Array.length_toList];omega)
    refine fin hcl' s2 ?_ ?_ hr hmx ?_ hS hLc (hFr (fun k hk=>(s3 k hk).trans (r3 k hk)) (s4.trans r4) (s5.trans r5) (s6.trans r6) (s7.trans r7)) hbf
    ·exact zZn hct hol (by omega) hm1 (by omega)
    ·simp only[List.size_toArray,List.length_append,List.length_take,List.length_drop,Array.length_toList];omega
    ·refine hfz.cast ?_
     simp only[List.size_toArray,List.length_append,List.length_take,List.length_drop,Array.length_toList];omega
   ·refine(Any2.slices_Insert_int_grow L b o es.length cap i vb vo 1 vc cs nv w hi' (by omega) hle (by omega) (by omega) hcl' hm1 hcsa hvs h1c h1v).mono ?_
    rintro e w' ⟨rfl,rfl⟩
    obtain⟨G,hG⟩:∃G,G=grownCap w (es.length+1) cap (ρ.t 3):=⟨_,rfl⟩
    rw[←hG] at hge hcm ⊢
    have hdl:(cs.drop i).length=es.length - i:=by rw[List.length_drop];omega
    obtain⟨Z,hZ⟩:∃Z,Z=Builtin.zeroCells (Value.int .i64 0).cells (es.length+1 - i)++Builtin.zeroCells (Value.int .i64 0).cells (G - (es.length+1)):=⟨_,rfl⟩
    have hZl:Z.size=G - i:=by rw[hZ];simp[size_zeroCells,Value.cells];omega
    rw[Array.append_assoc,←hZ]
    have ha:∀k,k < w.heap.size→(w.alloc (.cells ((cs.take i).toArray++Z) (ρ.t 3))).drew.heap[k]?=w.heap[k]?:=fun k hk=>zEJ w _ hk
    have hnew:(w.alloc (.cells ((cs.take i).toArray++Z) (ρ.t 3))).drew.heap[w.heap.size]?=some (.cells ((cs.take i).toArray++Z) (ρ.t 3) (0,0)):=heap_alloc_new w _
    have hcl0:((cs.take i).toArray++Z).size=G:=by simp[hZl];omega
    obtain⟨r2,r3,r4,r5,r6,r7⟩:=zEZ w.heap.size _ _ nv i _ _ hnew (by omega)
    obtain⟨s2,s3,s4,s5,s6,s7⟩:=zEZ w.heap.size _ _ (cs.drop i) (i+1) _ ((w.alloc (.cells ((cs.take i).toArray++Z) (ρ.t 3))).drew.setCells w.heap.size i nv).drew r2 (by simp only[List.size_toArray,List.length_append,List.length_take,List.length_drop,Array.length_toList];omega)
    refine fin hcl' s2 ?_ ?_ hge hcm (zVH.none _ _) hS hLc ⟨s4.trans r4,s5.trans r5,s6.trans r6,?_,fun k hk _=>?_⟩ (.inr (Nat.le_refl _))
    ·have hzl:cs.length+1 - i≤Z.toList.length:=by have h0:Z.toList.length=Z.size:=Array.length_toList;omega
     have:=zYP (cs:=cs) (z:=Z.toList) (nv:=nv) (i:=i) (by omega) hm1 hzl
     simpa[hm1] using this
    ·simp only[List.size_toArray,List.length_append,List.length_take,List.length_drop,Array.length_toList];omega
    ·have e1:=s7
     have e2:=r7
     have e3:(w.alloc (.cells ((cs.take i).toArray++Z) (ρ.t 3))).drew.heap.size=w.heap.size+1:=by show(w.heap.push _).size=_;simp
     have e4:((w.alloc (.cells ((cs.take i).toArray++Z) (ρ.t 3))).drew.setCells w.heap.size i nv).drew.heap.size=((w.alloc (.cells ((cs.take i).toArray++Z) (ρ.t 3))).drew.setCells w.heap.size i nv).heap.size:=rfl
     omega
    ·exact(s3 k (by omega)).trans ((r3 k (by omega)).trans (ha k hk))
end
end
end Go.Proofs.YthogljppoiekaaaGreat
