/-
  Part 3: contracts of functions, and the laws by which they are proved.
  Conditions: none.
-/
import Derived.Test.YtdmbfkooebldcaaGreatDoorW2
set_option linter.unusedVariables false
set_option linter.unusedSimpArgs false
set_option linter.unusedSectionVars false
set_option maxRecDepth 100000
namespace Go.Proofs.YtdmbfkooebldcaaGreatDoor
section
variable [zZ]
section
variable {P:Program} {E:Env} {N:Nat} {w0:World} {X F:List Nat} {S:St} {β:Nat→GV} {ϕ:Nat→List Nat} {a:Act} {w w':World} {o:Oper} {R:RR} {A:Hp} {B:Nat}
theorem zLY{k:IntKind}{n:Int}(h:inR k n):k.wrap n=n:=by
 unfold inR IntKind.min IntKind.max at h
 unfold IntKind.wrap
 cases k<;>simp[IntKind.signed,IntKind.bits] at h ⊢<;>(try split)<;>omega
theorem zLX(w:World):∀{ts:List PTy},(∀t∈ts,zJE t=true)→∃fs,fs.flatten=[]∧LoP (zJm w) ts (ts.map zBg) (ts.map zCZ) fs
 | [],_=>⟨[],rfl,.nil⟩
 | t :: ts,h=>by
  obtain⟨fs,h2,h3⟩:=zLX w (ts:=ts) fun x hx=>h x (by simp[hx])
  have h1:=h t (by simp)
  refine⟨[] :: fs,by simpa using h2,?_⟩
  cases t with
  | int k=>exact .int (by cases k<;>decide) h3
  | bool=>exact .bool h3
  | str=>exact .str (Nat.zero_le _) h3
  | list T=>exact .list ⟨h1,.inl ⟨rfl,rfl,none,rfl⟩⟩ h3
  | _=>simp[zJE] at h1
theorem zJq{T:PTy}(h:T.leaves=[T]∨∃ts,T=.agg ts):Shp T (zDN T)∧(zDN T).leaves=T.leaves.map zBg:=by
 cases T with
 | agg ts=>exact⟨⟨_,rfl,by simp[zFS]⟩,by simp[zDN,PV.leaves,PTy.leaves,zFS]⟩
 | _=>exact⟨by simp[Shp,zDN,zBg,PV.d],rfl⟩
theorem zFQ(w:World){T:PTy}(h:zEI T=true)(hs:T.leaves=[T]∨∃ts,T=.agg ts):∀n,∃fs,fs.flatten=[]∧LoP (zJm w) (zX T n) (zT (List.replicate n (zDN T))) (List.replicate n (T.leaves.map zCZ)).flatten fs
 | 0=>⟨[],rfl,.nil⟩
 | n+1=>by
  obtain⟨fs,h2,h3⟩:=zFQ w h hs n
  obtain⟨fs1,h4,h5⟩:=zLX w (ts:=T.leaves) (zB3.1 h)
  have e1:zX T (n+1)=T.leaves++zX T n:=by simp[zX,List.replicate_succ]
  have e2:zT (List.replicate (n+1) (zDN T))=T.leaves.map zBg++zT (List.replicate n (zDN T)):=by
   simp[zT,List.replicate_succ,(zJq hs).2]
  rw[e1,e2,List.replicate_succ,List.flatten_cons]
  exact⟨fs1++fs,by simp[h2,h4],h5.append h3⟩
theorem zIB(zl:List Value)(f:Nat→Value)(hz:0 < zl.length)(hf:∀i,f i=zl[i % zl.length]'(Nat.mod_lt _ hz)):∀n,(List.range (n*zl.length)).map f=(List.replicate n zl).flatten
 | 0=>by simp
 | n+1=>by
  have ih:=zIB zl f hz hf n
  have e:(n+1)*zl.length=n*zl.length+zl.length:=by simp[Nat.add_mul]
  rw[e,List.range_add,List.map_append,ih,List.map_map]
  have h2:(List.range zl.length).map (f ∘ (n*zl.length+·))=zl:=by
   apply List.ext_getElem
   ·simp
   ·intro i h1 h2
    simp only[List.getElem_map,List.getElem_range,Function.comp_apply,hf]
    congr 1
    rw[Nat.mul_comm,Nat.mul_add_mod,Nat.mod_eq_of_lt h2]
  rw[h2,List.replicate_succ',List.flatten_append]
  simp
theorem zIz{t:TypeId}{l c:Operand}(hT:zAQ P E)(ho:o.op=.makeSlice t l c)(hR:za E S true o=some R)(sat:Sat N w0 X F S β ϕ a w)(hob:R.ob):Snd P w0 X F S β ϕ o a w R:=by
 unfold za at hR
 rw[ho] at hR
 simp only at hR
 split at hR
 ·rename_i g' n g'' m ti hl hc hti
  split at hR
  ·rename_i te hte
   cases hR
   obtain⟨_,q1,q2,q3,q4,q5,q6,q7,q8⟩:=hob
   obtain⟨_,l2⟩:=zD hl sat
   obtain⟨_,c2⟩:=zD hc sat
   obtain⟨l3,l4⟩:=l2 q1
   obtain⟨c3,c4⟩:=c2 q2
   have hTk:=hT _ _ hti
   have hTe:=hT _ _ hte
   have hu:=zCN hTk w
   rw[q7] at hu
   obtain⟨i,hi,his,hib,z,hz,hzc⟩:=hTe.info
   have hlim:(LIM:Int)=140737488355328:=rfl
   obtain⟨N',rfl⟩:=Int.eq_ofNat_of_zero_le q3
   obtain⟨M,rfl⟩:=Int.eq_ofNat_of_zero_le (show 0≤m by omega)
   have hwn:IntKind.i64.wrap (N':Int)=N':=zLY l4
   have hwm:IntKind.i64.wrap (M:Int)=M:=zLY c4
   have hpos:=hTe.pos
   have hzsz:z.cells.size=te.sz:=by rw[hzc];simp[TI.sz]
   obtain⟨hwd,hlv⟩:=zID hTe
   have hs:te.pty.leaves=[te.pty]∨∃ts,te.pty=.agg ts:=by
    cases hA:te.agg with
    | true=>exact .inr ⟨te.leaves,by simp[TI.pty,hA]⟩
    | false=>
     obtain⟨y,hy⟩:=List.length_eq_one_iff.1 (show te.leaves.length=1 from hTe.one hA)
     left;rw[hlv,hy];simp[TI.pty,hA,hy]
   have hcells:∀K,((Array.range (K*te.sz)).map (fun x=>z.cells[x % z.cells.size]!)).toList=(List.replicate K (te.pty.leaves.map zCZ)).flatten:=by
    intro K
    have hzl:(te.leaves.map zCZ).length=te.sz:=by simp[TI.sz]
    have:=zIB (te.leaves.map zCZ) (fun x=>z.cells[x % z.cells.size]!) (by rw[hzl];exact hpos) (by
     intro i
     rw[hzc]
     have hlt:i % (te.leaves.map zCZ).toArray.size < (te.leaves.map zCZ).toArray.size:=Nat.mod_lt _ (by simp;rw[←hzl] at hpos;simpa using hpos)
     rw[getElem!_pos (te.leaves.map zCZ).toArray _ hlt]
     simp) K
    rw[hzl] at this
    rw[Array.toList_map,Array.toList_range,this,hlv]
   have hrlen:∀K,((List.replicate K (te.pty.leaves.map zCZ)).flatten).length=K*te.sz:=by
    intro K
    have:=congrArg List.length (hcells K)
    simpa using this.symm
   have hMN:N'≤M:=by omega
   have hM:M≤LIM:=by omega
   have hown:zCG (w.alloc (.cells ((Array.range (M*te.sz)).map (fun x=>z.cells[x % z.cells.size]!)) ti.el)) (.slice (some ⟨w.heap.size,0,none⟩) N' M) te.pty (List.replicate N' (zDN te.pty)) [w.heap.size]:=by
    have hcl:(List.replicate N' (te.pty.leaves.map zCZ)).flatten.length=N'*te.sz:=hrlen N'
    refine .inr ⟨w.heap.size,[],(List.replicate N' (te.pty.leaves.map zCZ)).flatten,rfl,⟨⟨0,M,_,ti.el,(0,0),by simp,heap_alloc_new w _,by simp[hwd],by simpa using hMN,by unfold maxLen;unfold LIM at hM;omega,zNF.none _ _,?_⟩,by rw[hcl,hwd];simp,by simp;omega⟩,?_,?_⟩
    ·rw[List.drop_zero,hcells M]
     have:M=N'+(M - N'):=by omega
     rw[this,←List.replicate_append_replicate,List.flatten_append,List.take_left]
    ·intro e he
     rw[List.eq_of_mem_replicate he]
     exact(zJq hs).1
    ·obtain⟨fs,h2,h3⟩:=zFQ (w.alloc (.cells ((Array.range (M*te.sz)).map (fun x=>z.cells[x % z.cells.size]!)) ti.el)) q8 hs N'
     exact⟨fs,h2.symm,by simpa using h3⟩
   obtain⟨d1,d2⟩:=zIl sat.hp sat.hb sat.fr (fun b hb=>zBe w _ hb) hown (by simp) (by simp)
   refine⟨trivial,_,_,_,_,.inl ?_,⟨fun _=>rfl,fun h hh=>zs _ _ _ hh,d1,d2,Nat.lt_succ_self _,trivial,Nat.le_succ _,sat.fr.alloc _⟩,fun h=>by simp[zAJ,zAn,ho] at h,fun _=>(Fr.refl _ _).alloc _⟩
   have hb:(te.bytes:Int)*M≤140737488355328:=by rw[←hlim];exact q5
   have ht1:(decide ((M:Int) < 0) || decide ((te.bytes:Int)*M > 2 ^ 48))=false:=by simp;omega
   have ht2:((decide ((M:Int) < 0) || decide ((te.bytes:Int)*(M:Int) > 2 ^ 48)) || decide ((N':Int) < 0) || decide ((N':Int) > (M:Int)))=false:=by
    rw[ht1];simp;omega
   simp only[execOp,ho,Instr.makeSlice,Sem.run_bind,hu,Result.andThen_ok,l3,c3,SV.val,asInt,asIntOf,Sem.run_pure,hwn,hwm,typeInfo,run_program,hi,hib,zi,gv]
   rw[if_neg (by rw[Bool.not_eq_true];exact ht2)]
   simp only[Sem.run_bind,run_askRoom,Result.andThen_ok,sizeOf,typeInfo,run_program,hi,his,Sem.run_pure,Int.toNat_natCast]
   by_cases h0:M*te.sz=0
   ·rw[if_pos h0]
    simp only[Sem.run_bind,Sem.run_pure,Result.andThen_ok,newRow,run_newObj]
    have e:∀f:Nat→Value,Array.map f (Array.range 0)=#[]:=fun f=>by simp
    simp only[h0,e]
    rfl
   ·simp only[if_neg h0,Sem.run_bind,Sem.run_pure,Result.andThen_ok,zeroValue,typeInfo,run_program,hi,hz,newRow,run_newObj]
    rfl
  ·cases hR
 ·cases hR
theorem zAx{x:Option Operand}{ob:Prop}{n:Option Int}(h:evO S true x=some (ob,n))(hob:ob)(sat:Sat N w0 X F S β ϕ a w) :
  (x=none∧n=none)∨∃y k m,x=some y∧n=some m∧a.eval y=.int k m:=by
 cases x with
 | none=>simp[evO] at h;exact .inl ⟨rfl,h.2.symm⟩
 | some y=>
  simp only[evO] at h
  split at h
  ·rename_i g' k m hy
   simp only[Option.some.injEq,Prod.mk.injEq] at h
   obtain⟨rfl,rfl⟩:=h
   obtain⟨_,h2⟩:=zD hy sat
   exact .inr ⟨y,k,m,rfl,rfl,(h2 (hob rfl)).1⟩
  ·cases h
theorem zAs{y:Nat}{code:BoundsCode}{k:IntKind}{n:Int}(h0:0≤n)(h1:n≤y):(Instr.sliceBound (.int k n) y code).run P w=.ok n.toNat w:=by
 simp[Instr.sliceBound,asIntOf,h0,h1]
theorem zAS{b:Bool}{len cap:Nat}{lo hi:Option Operand}{ln hn:Option Int}{f:Operand→Value}(hl:(lo=none∧ln=none)∨∃y k m,lo=some y∧ln=some m∧f y=.int k m)
  (hh:(hi=none∧hn=none)∨∃y k m,hi=some y∧hn=some m∧f y=.int k m) (hc:len≤cap) (h0:0≤ln.getD 0) (h1:ln.getD 0≤hn.getD len) (h2:hn.getD len≤len) :
  (Instr.sliceBounds b len cap (lo.map f) (hi.map f) none).run P w=.ok ((ln.getD 0).toNat,(hn.getD len).toNat,cap) w:=by
 have hhi:(hn.getD (len:Int)).toNat≤len:=by omega
 rcases hl with ⟨rfl,rfl⟩ | ⟨y,k,m,rfl,rfl,hy⟩<;>rcases hh with ⟨rfl,rfl⟩ | ⟨y',k',m',rfl,rfl,hy'⟩<;>simp only[Option.getD_none,Option.getD_some] at *
 ·simp[Instr.sliceBounds]
 ·have:=zAs (P:=P) (w:=w) (code:=if b then .sliceAcap else .sliceAlen) (k:=k') (y:=cap) (n:=m') (by omega) (by omega)
  simp only[Instr.sliceBounds,Option.map_none,Option.map_some,hy',Sem.run_bind,Sem.run_pure,Result.andThen_ok,this]
  rfl
 ·have:=zAs (P:=P) (w:=w) (code:=.sliceB) (k:=k) (y:=len) (n:=m) (by omega) (by omega)
  simp only[Instr.sliceBounds,Option.map_none,Option.map_some,hy,Sem.run_bind,Sem.run_pure,Result.andThen_ok,Option.isSome_none,Bool.false_eq_true,if_false,this]
  simp
 ·have t1:=zAs (P:=P) (w:=w) (code:=if b then .sliceAcap else .sliceAlen) (k:=k') (y:=cap) (n:=m') (by omega) (by omega)
  have t2:=zAs (P:=P) (w:=w) (code:=.sliceB) (k:=k) (y:=m'.toNat) (n:=m) (by omega) (by omega)
  simp only[Instr.sliceBounds,Option.map_some,hy,hy',Sem.run_bind,Sem.run_pure,Result.andThen_ok,Option.isSome_none,Bool.false_eq_true,if_false,t1,t2]
theorem zOs{v:Value}{T:PTy}{es:List PV}{f:List Nat}{l h cap:Nat}{ad:Option Addr}(hL:Lv w [.list T] [.list es] [v] f)(hv:v=.slice ad es.length cap)(hlh:l≤h)(hh:h≤es.length) :
  ∃f',Lv w [.list T] [.list ((es.drop l).take (h - l))] [.slice (if cap=l then ad else ad.map fun x=>x.add (l*T.wd)) (h - l) (cap - l)] f'∧∀b∈f',b∈f:=by
 by_cases h0:h=l
 ·subst h0
  simp only[Nat.sub_self,List.take_zero]
  exact⟨[],.empty .nil,by simp⟩
 ·cases hL with
  | empty hn=>simp at hh;omega
  | @list T es b o cap' c t fr cs f1 Ts ps vs fp hb hs hl hc hd hn=>
   obtain⟨_,rfl⟩:=hn.nil_inv
   simp only[Value.slice.injEq,true_and] at hv
   obtain⟨rfl,rfl⟩:=hv
   have hcl:cap'≠l:=by omega
   have hsub:((es.drop l).take (h - l)).length=h - l:=by simp;omega
   have e1:es=es.take l++((es.drop l).take (h - l)++es.drop h):=by
    have:es.drop h=(es.drop l).drop (h - l):=by rw[List.drop_drop];congr 1;omega
    rw[this,List.take_append_drop,List.take_append_drop]
   have e2:zX T es.length=zX T l++(zX T (h - l)++zX T (es.length - h)):=by
    rw[←yE,←yE];congr 1;omega
   have hP:zT es=zT (es.take l)++(zT ((es.drop l).take (h - l))++zT (es.drop h)):=by
    conv=>lhs;rw[e1]
    rw[zx,zx]
   have l1:(zT (es.take l)).length=l*T.wd:=by
    rw[ya fun x hx=>hs x (List.mem_of_mem_take hx)];simp;rw[Nat.min_eq_left (by omega)]
   have l2:(zT ((es.drop l).take (h - l))).length=(h - l)*T.wd:=by
    rw[ya fun x hx=>hs x (List.mem_of_mem_drop (List.mem_of_mem_take hx)),hsub]
   obtain⟨v1,v23,g1,g23,rfl,rfl,q1,q23⟩:=hc.split e2 hP (by rw[yU,l1])
   obtain⟨v2,v3,g2,g3,rfl,rfl,q2,q3⟩:=q23.split rfl rfl (by rw[yU,l2])
   have k1:v1.length=l*T.wd:=by rw[q1.lens.2,l1]
   refine⟨b :: g2,?_,by intro x hx;simp at hx ⊢;rcases hx with rfl | hx;exact .inl rfl;exact .inr (.inr (.inl hx))⟩
   rw[if_neg hcl]
   simp only[Option.map_some,zAc]
   have hcells:(c.toList.drop (o+l*T.wd)).take v2.length=v2:=by
    have h3:((c.toList.drop o).take (v1++(v2++v3)).length).drop (l*T.wd)=v2++v3:=by
     rw[hd,←k1];simp
    rw[List.drop_take,List.drop_drop] at h3
    have h4:=congrArg (List.take v2.length) h3
    rw[List.take_take] at h4
    have h5:min v2.length ((v1++(v2++v3)).length - l*T.wd)=v2.length:=by
     simp only[List.length_append];omega
    rw[h5] at h4
    simpa using h4
   have:=Lv.list (w:=w) (T:=T) (es:=(es.drop l).take (h - l)) (cap:=cap' - l) hb (fun e he=>hs e (List.mem_of_mem_drop (List.mem_of_mem_take he))) ⟨by rw[hsub];have:=hl.1;omega,by rw[hsub];have:=hl.2;omega⟩ (by rw[hsub];exact q2) hcells .nil
   rw[hsub] at this
   simpa using this
theorem zLo{t:TypeId}{x:Operand}{lo hi mx:Option Operand}(hT:zAQ P E)(ho:o.op=.slice t x lo hi mx)(hR:za E S true o=some R)(sat:Sat N w0 X F S β ϕ a w)(hob:R.ob):Snd P w0 X F S β ϕ o a w R:=by
 unfold za at hR
 rw[ho] at hR
 simp only at hR
 split at hR
 ·rename_i g' v o1 ln o2 hn hx hlo hhi
  obtain⟨x1,x2⟩:=zD hx sat
  unfold zDu at hR
  split at hR
  ·rename_i l ti hti
   cases hR
   obtain⟨⟨q1,q2,q3⟩,q4,q5,q6,q7⟩:=hob rfl
   replace x1:=x1 (q1 rfl)
   obtain⟨x3,x4⟩:=x2 (q1 rfl)
   have hl:=zAx hlo q2 sat
   have hh:=zAx hhi q3 sat
   have hu:=zCN (hT _ _ hti) w
   rw[q7] at hu
   have hsz:(ByteArray.mk l.toArray).size=l.length:=by simp[ByteArray.size]
   have hb:=zAS (P:=P) (w:=w) (b:=false) (f:=a.eval) hl hh (Nat.le_refl _) q4 q5 q6
   refine zR sat trivial ?_ trivial ?_
   ·simp only[execOp,ho,x3,SV.val,Instr.sliceAt,Instr.slice,Sem.run_bind,hu,Result.andThen_ok,Option.map_none,hsz,hb]
    simp only[Option.isSome_none,Bool.false_eq_true,if_false,Sem.run_bind,Sem.run_pure,Result.andThen_ok,hb]
    congr 3
    apply ByteArray.ext
    simp
   ·show(List.take _ _).length≤LIM
    simp only[List.length_take,List.length_drop]
    have:l.length≤LIM:=x4
    omega
  ·rename_i i ti hti
   split at hR
   ·cases hR
   ·rename_i ow T es p te hnc hl hte
    have hnc:∀k,ow≠.cs k:=fun k e=>hnc k (by rw[e])
    cases hR
    obtain⟨_,⟨q1,q2,q3⟩,q4,q5,q6,q7,q8⟩:=hob
    obtain⟨x3,x4⟩:=x2 (q1 rfl)
    have hL:=zLL sat hl hnc
    obtain⟨hle,cap,ad,hv,hcap⟩:=zCk hL
    have hll:=zAx hlo q2 sat
    have hhh:=zAx hhi q3 sat
    have hu:=zCN (hT _ _ hti) w
    rw[q7] at hu
    have hsz:=yZ (hT _ _ hte) w
    have hb:=zAS (P:=P) (w:=w) (b:=true) (f:=a.eval) hll hhh hcap q4 q5 q6
    generalize hal:(ln.getD 0).toNat=l at *
    generalize hah:(hn.getD (es.length:Int)).toNat=h at *
    have hlh:l≤h∧h≤es.length:=by omega
    obtain⟨f',hL',hsub⟩:=zOs (l:=l) (h:=h) hL hv hlh.1 hlh.2
    obtain⟨rs,hrs⟩:∃rs,zIw ow i=.vw rs:=by
     cases ow<;>first | exact⟨_,rfl⟩ | exact absurd rfl (hnc _)
    have hview:zAA w0.heap.size F S.A ϕ S.n f' rs:=by
     refine zFX sat.hp sat.hb hl trivial hsub ?_ ?_ ?_ (by simp)
     ·cases ow<;>simp only[zIw,Own.vw.injEq] at hrs<;>subst hrs<;>simp[zM]
     ·cases ow<;>simp only[zIw,Own.vw.injEq] at hrs<;>subst hrs<;>simp[zM]<;>exact fun r hr=>.inr hr
     ·cases ow with
      | vw rs'=>right;simp[zH]
      | _=>left;simp only[zIw,Own.vw.injEq] at hrs;subst hrs;simp
    have hsl:((es.drop l).take (h - l)).length=h - l:=by simp;omega
    have hpth:zFB S.A β w (gv (.slice (if cap=l then ad else ad.map fun x=>x.add (l*T.wd)) (h - l) (cap - l))) rs T ((es.drop l).take (h - l)) (zPf ow i l):=by
     have main:ow=.dp∨ow=.sh→zFB S.A β w (gv (.slice (if cap=l then ad else ad.map fun x=>x.add (l*T.wd)) (h - l) (cap - l))) rs T ((es.drop l).take (h - l)) (.sub i l):=by
      intro how
      refine⟨?_,es,p,?_,by rw[hsl];omega,by rw[hsl],ad,es.length,cap,hv,by rw[hsl];rfl⟩
      ·rcases how with rfl | rfl<;>(simp only[zIw,Own.vw.injEq] at hrs;subst hrs;simp)
      ·rcases how with rfl | rfl
       ·exact .inl hl
       ·exact .inr hl
     cases ow with
     | dp=>exact main (.inl rfl)
     | sh=>exact main (.inr rfl)
     | _=>trivial
    obtain⟨c1,c2⟩:=zFO (n:=S.n) sat.hp sat.hb hL' hview hpth
    rw[hrs]
    refine⟨hle,_,w,_,_,.inl ?_,⟨fun _=>rfl,fun k hk=>zs _ _ _ hk,c1,c2,Nat.lt_succ_self _,trivial,Nat.le_succ _,sat.fr⟩,fun h=>by simp[zAJ,zAn,ho] at h,fun _=>Fr.refl _ _⟩
    simp only[SV.val,hv] at x3
    simp only[execOp,ho,x3,SV.val,zi,gv,Instr.sliceAt,Instr.slice,Sem.run_bind,hu,Result.andThen_ok,Option.map_none,hb,hsz,Sem.run_pure,q8]
   ·cases hR
  ·cases hR
 ·cases hR
end
end
section
variable [zZ]
section
variable {P:Program} {E:Env} {N:Nat} {w0:World} {X F:List Nat} {S:St} {β:Nat→GV} {ϕ:Nat→List Nat} {a:Act} {w w':World} {o:Oper} {R:RR} {A:Hp} {B:Nat}
theorem zMJ:∀{Ts:List PTy} {ps:List PV} {vs:List Value} {f:List Nat},Lv w Ts ps vs f→∀v∈vs,v.oneCell'=true:=by
 intro Ts ps vs f h
 induction h with
 | nil=>simp
 | _=>rename_i ih;intro v hv;rcases List.mem_cons.1 hv with rfl | hv<;>first | rfl | exact ih v hv
def zIn(w:World)(v:Value)(wd:Nat)(mk:Bool)(n:Nat)(cs:List Value)(b:Option Nat):Prop:=
 (n=0∧cs=[]∧b=none∧∃a,v=.slice a 0 0)∨∃b',b=some b'∧zOg w v wd mk n b' cs
theorem zCg{t u e ty:TypeId}{tu te:TI}{v xv:Value}{wd n m:Nat}{mk:Bool}{cs cells:List Value}{bt:Option Nat}(hu:P.underlying t=some (.slice e))(htu:P.underlying u=some tu.d)(hd:tu.d=.slice tu.el∨tu.d=.string)
  (hTe:yX P e te) (hwd:wd=te.sz) (ho:zIn w v wd mk n cs bt) (hcl:cells.length=m*wd) (hone:∀v∈cells,v.oneCell'=true)
  (hlen:∀w1,(Builtin.lenOf xv).run P w1=.ok m w1) (hfc:∀w1,w1.heap=w.heap→(Builtin.firstCells wd m xv).run P w1=.ok cells.toArray w1)
  (hB:(n+m)*te.bytes≤LIM) (hbp:0 < te.bytes) :
  ∃v' w' b',(Builtin.append_ #[t,u] ty #[v,xv]).run P w=.ok v' w'∧zIn w' v' wd mk (n+m) (cs++cells) b'∧w'.os=w.os∧w'.tape=w.tape∧w'.output=w.output∧w.heap.size≤w'.heap.size ∧
   ((b'=bt∧∀k,some k≠bt→w'.heap[k]?=w.heap[k]?)∨(b'=some w.heap.size∧∀k,k < w.heap.size→w'.heap[k]?=w.heap[k]?))∧(b'=some w.heap.size∨∃ad cap,v=.slice ad n cap∧v'=.slice ad (n+m) cap):=by
 obtain⟨i,hi,his,hib,z,hz,hzc⟩:=hTe.info
 have hLIM:LIM=140737488355328:=rfl
 have hsum:n+m≤LIM:=Nat.le_trans (Nat.le_mul_of_pos_right _ hbp) hB
 have hzeros:(match tu.d with | .int _=>true | _=>false)=false:=by rcases hd with h | h<;>rw[h]
 have hw0:0 < wd:=by rw[hwd];exact hTe.pos
 have hz2:z.cells.size=te.sz:=by rw[hzc];simp[TI.sz]
 have grow:∀(base:Option Addr) (cap:Nat),v=.slice base n cap→cap < n+m→cs.length=n*wd →
   (Builtin.firstCells wd n v).run P w.drew=.ok cs.toArray w.drew →
   ∃v' w' b',(Builtin.append_ #[t,u] ty #[v,xv]).run P w=.ok v' w'∧zIn w' v' wd mk (n+m) (cs++cells) b'∧w'.os=w.os∧w'.tape=w.tape∧w'.output=w.output∧w.heap.size≤w'.heap.size ∧
   ((b'=bt∧∀k,some k≠bt→w'.heap[k]?=w.heap[k]?)∨(b'=some w.heap.size∧∀k,k < w.heap.size→w'.heap[k]?=w.heap[k]?))∧(b'=some w.heap.size∨∃ad cap,v=.slice ad n cap∧v'=.slice ad (n+m) cap):=by
  intro base cap hv hlt hcsl hold
  have hge:=grownCap_ge w (n+m) cap e
  have hcm:=grownCap_le_maxLen w (n+m) cap e (by unfold maxLen;omega)
  have hfit:=growslice_fits (bytes:=i.bytes) hlt (by rw[hib];omega)
  have hn1:¬(Builtin.nextslicecap (n+m) cap*i.bytes > 2 ^ 48):=by omega
  have hn2:¬((n:Int)+(m:Int) > IntKind.i64.max∧i.bytes=0):=by omega
  have hnc:¬(n+m≤cap):=by omega
  have hn3:¬(9223372036854775807 < (n:Int)+(m:Int)∧i.bytes=0):=by omega
  refine⟨.slice (some ⟨w.heap.size,0,none⟩) (n+m) (grownCap w (n+m) cap e),
   w.drew.alloc (.cells (cs.toArray++cells.toArray++Builtin.zeroCells z.cells (grownCap w (n+m) cap e - (n+m))) e),some w.heap.size,?_,?_,rfl,rfl,rfl,by simp,.inr ⟨rfl,fun k hk=>zBu w _ hk⟩,.inl rfl⟩
  ·subst hv
   have hh:=hfc w.drew rfl
   rw[hwd] at hh hold
   have hq:(Question.appendCap (n+m) cap e).forced=false:=rfl
   have hdr:({ w with drawn:=w.drawn+1 }:World)=w.drew:=rfl
   rcases hd with hd | hd<;>rw[hd] at htu <;>
   simp[Builtin.append_,run_underlying hu,run_underlying htu,sizeOf,typeInfo,hi,hlen,hnc,his,hn1,hn3,hq,hdr,hold,hh,zeroValue,hz,newRow,grownCap]
   all_goals (try (rw[←Array.append_assoc];simp))
  ·refine .inr ⟨w.heap.size,rfl,⟨⟨0,grownCap w (n+m) cap e,_,e,(0,0),rfl,heap_alloc_new w.drew _,?_,by simpa using hge,hcm,zNF.none _ _,?_⟩,?_,hsum⟩⟩
   ·simp only[Array.size_append,List.size_toArray,size_zeroCells,hz2,hcsl,hcl,←hwd,←Nat.add_mul,Nat.zero_add]
    exact Nat.mul_le_mul_right _ (by omega)
   ·simp only[Array.toList_append,List.append_assoc,List.drop_zero]
    rw[←List.append_assoc]
    exact List.take_left
   ·simp only[List.length_append,hcsl,hcl,←Nat.add_mul]
 rcases ho with ⟨rfl,rfl,rfl,ad,rfl⟩ | ⟨b,rfl,⟨⟨o',cap,c,t',fr,rfl,hb,hcap,hle,hmx,hfz,hc⟩,hcsl,hlim⟩⟩
 ·by_cases h0:m=0
  ·subst h0
   have hcn:cells=[]:=List.eq_nil_of_length_eq_zero (by simpa using hcl)
   subst hcn
   have hh:=hfc w rfl
   rw[hwd] at hh
   refine⟨.slice ad 0 0,w,none,?_,.inl ⟨rfl,rfl,rfl,ad,rfl⟩,rfl,rfl,rfl,Nat.le_refl _,.inl ⟨rfl,fun _ _=>rfl⟩,.inr ⟨_,_,rfl,rfl⟩⟩
   rcases hd with hd | hd<;>rw[hd] at htu<;>cases ad <;>
   simp[Builtin.append_,run_underlying hu,run_underlying htu,sizeOf,typeInfo,hi,hlen,his]<;>(try simp at hh)<;>simp[hh,storeCells]
  ·exact grow ad 0 rfl (by omega) (by simp) (by cases ad<;>simp[Builtin.firstCells,loadCells,loadCellsFrom])
 ·by_cases hroom:n+m≤cap
  ·have hmul:(n+m)*wd≤cap*wd:=Nat.mul_le_mul_right _ hroom
   have hfit:o'+n*te.sz+0+cells.length≤c.size:=by
    rw[hcl,←hwd];rw[Nat.add_mul] at hmul;omega
   obtain⟨w',r1,r2,r3,r4,r5,r6,r7⟩:=yf (P:=P) b t' fr cells (o'+n*te.sz) 0 c w hb hfit hfz.1 hone
   have hh:=hfc w rfl
   rw[hwd] at hh
   have hct:(c.toList.drop o').take (n*wd)=cs:=by rw[←hcsl];exact hc
   have hsz:o'+n*wd≤c.size:=by rw[Nat.add_mul] at hmul;omega
   refine⟨.slice (some ⟨b,o',none⟩) (n+m) cap,w',some b,?_,?_,r4,r5,r6,Nat.le_of_eq r7.symm,.inl ⟨rfl,fun k hk=>r3 k (by simpa using hk)⟩,.inr ⟨_,_,rfl,rfl⟩⟩
   ·rcases hd with hd | hd<;>rw[hd] at htu <;>
    simp[Builtin.append_,run_underlying hu,run_underlying htu,sizeOf,typeInfo,hi,hlen,his,hroom,hh,zAc,r1]
   ·refine .inr ⟨b,rfl,⟨⟨o',cap,_,t',fr,rfl,r2,?_,hroom,hmx,?_,?_⟩,?_,hsum⟩⟩
    ·simp only[List.size_toArray,List.length_append,List.length_take,List.length_drop,Array.length_toList];omega
    ·refine hfz.cast ?_
     simp only[List.size_toArray,List.length_append,List.length_take,List.length_drop,Array.length_toList];omega
    ·have e1:c.toList.take (o'+n*te.sz+0)=c.toList.take o'++cs:=by
      rw[←hwd,Nat.add_zero,List.take_add,hct]
     have hol:(c.toList.take o').length=o':=by simp;omega
     rw[List.toList_toArray,e1]
     have:c.toList.take o'++cs++cells++c.toList.drop (o'+n*te.sz+0+cells.length)=c.toList.take o'++((cs++cells)++c.toList.drop (o'+n*te.sz+0+cells.length)):=by simp
     rw[this]
     conv=>lhs;rw[←hol]
     simp only[hol]
     rw[List.drop_left' hol,List.take_left]
    ·simp only[List.length_append,hcsl,hcl,←Nat.add_mul]
  ·have hold:(Builtin.firstCells wd n (.slice (some ⟨b,o',none⟩) n cap)).run P w.drew=.ok cs.toArray w.drew:=by
    have hbnd:o'+n*wd≤c.size:=by
     have:=Nat.mul_le_mul_right wd hle;omega
    have:=yA (P:=P) (w:=w.drew) b o' _ c t' fr hb hbnd
    simp only[Builtin.firstCells]
    rw[this,←hcsl]
    simp[hc]
   exact grow _ cap rfl (by omega) hcsl hold
theorem zGY{t u e ty:TypeId}{tu te:TI}{v xv:Value}{wd n m:Nat}{mk:Bool}{cs cells:List Value}{bt:Option Nat}(hu:P.underlying t=some (.slice e))(htu:P.underlying u=some tu.d)(hd:tu.d=.slice tu.el∨tu.d=.string)
  (hTe:yX P e te) (hwd:wd=te.sz) (ho:zIn w v wd mk n cs bt) (hcl:cells.length=m*wd) (hone:∀v∈cells,v.oneCell'=true)
  (hlen:∀w1,(Builtin.lenOf xv).run P w1=.ok m w1) (hfc:∀w1,w1.heap=w.heap→(Builtin.firstCells wd m xv).run P w1=.ok cells.toArray w1)
  (hB:(n+m)*te.bytes≤LIM) (hbp:0 < te.bytes) :
  ∃v' w' b',(Builtin.append_ #[t,u] ty #[v,xv]).run P w=.ok v' w'∧zIn w' v' wd mk (n+m) (cs++cells) b'∧w'.os=w.os∧w'.tape=w.tape∧w'.output=w.output∧w.heap.size≤w'.heap.size ∧
   ((b'=bt∧∀k,some k≠bt→w'.heap[k]?=w.heap[k]?)∨(b'=some w.heap.size∧∀k,k < w.heap.size→w'.heap[k]?=w.heap[k]?)):=by
 obtain⟨v',w',b',r1,r2,r3,r4,r5,r6,r7,_⟩:=zCg (ty:=ty) hu htu hd hTe hwd ho hcl hone hlen hfc hB hbp
 exact⟨v',w',b',r1,r2,r3,r4,r5,r6,r7⟩
theorem zFc{T:PTy}{x:SV}{ob:Prop}{new:List PV}(h:zDH A T x=some (ob,new))(hob:ob)(hp:zL B X F A β ϕ w)(hk:SV.ok β x) :
  ∃(cells:List Value) (f:List Nat),Lv w (zX T new.length) (zT new) cells f∧(∀e∈new,Shp T e)∧new.length≤LIM∧(∀w1,(Builtin.lenOf (SV.val β x)).run P w1=.ok new.length w1) ∧
   (∀w1,w1.heap=w.heap→(Builtin.firstCells T.wd new.length (SV.val β x)).run P w1=.ok cells.toArray w1)∧((∀h,x≠.sl h)→f=[]) ∧
   (∀i,x=.sl i→(∃b,ϕ i=b :: f)∨f=[])∧(∀i p es,x=.sl i→lk A i=some (.arr .dp T es p)→Lo w (zX T new.length) (zT new) cells f):=by
 cases x<;>simp only[zDH,reduceCtorEq,Option.some.injEq,Prod.mk.injEq] at h
 case str l=>
  obtain⟨rfl,rfl⟩:=h
  subst hob
  have hl:(zw l).length=l.length:=by simp[zw]
  have hsz:(ByteArray.mk l.toArray).size=l.length:=by simp[ByteArray.size]
  refine⟨l.map fun b=>.int .u8 b.toNat,[],by rw[hl];exact zHU w l,?_,by rw[hl];exact hk,?_,?_,fun _=>rfl,by simp,by simp⟩
  ·intro e he qs;simp only[zw,List.mem_map] at he;obtain⟨b,_,rfl⟩:=he;simp
  ·intro w1;simp[Builtin.lenOf,SV.val,hl,hsz]
  ·intro w1 _
   have h2:((ByteArray.mk l.toArray).extract 0 l.length).data=l.toArray:=by
    have:(ByteArray.mk l.toArray).extract 0 l.length=⟨l.toArray⟩:=by
     apply ByteArray.ext;simp
    rw[this]
   simp[Builtin.firstCells,SV.val,hl,h2]
 case sl i=>
  split at h
  ·cases h
  ·rename_i ow T' es p hnc hl
   have hnc:∀k,ow≠.cs k:=fun k e=>hnc k (by rw[e])
   simp only[Option.some.injEq,Prod.mk.injEq] at h
   obtain⟨rfl,rfl⟩:=h
   subst hob
   have hL:=zLK hp hl hnc
   obtain⟨hle,cap,ad,hv,hcap⟩:=zCk hL
   by_cases h0:0 < es.length
   ·
    have key:∀(L:List PTy→List PV→List Value→List Nat→Prop),LOk w L→zGf L w (β i).v T' es (ϕ i)→∃b off cap' c t fr cs f1,(β i).v=.slice (some ⟨b,off,none⟩) es.length cap'∧ϕ i=b :: f1∧w.heap[b]?=some (.cells c t fr)∧(∀e∈es,Shp T' e)∧L (zX T' es.length) (zT es) cs f1∧(c.toList.drop off).take cs.length=cs:=by
     rintro L hLk (⟨rfl,_⟩ | ⟨b,f1,cs,hϕ,⟨⟨o',cap,c,t',fr,hv,hblk,hcap,hle,hmx,hfz,hcs⟩,hlen1,hlim⟩,hS,hL⟩)
     ·simp at h0
     ·exact⟨b,o',cap,c,t',fr,cs,f1,hv,hϕ,hblk,hS,hL,hcs⟩
    have gen:∃b off cap' c t fr cs f1,(β i).v=.slice (some ⟨b,off,none⟩) es.length cap'∧ϕ i=b :: f1∧w.heap[b]?=some (.cells c t fr)∧(∀e∈es,Shp T' e)∧Lv w (zX T' es.length) (zT es) cs f1∧(c.toList.drop off).take cs.length=cs∧(ow=.dp→Lo w (zX T' es.length) (zT es) cs f1):=by
     by_cases hdp:ow=.dp
     ·subst hdp
      obtain⟨b,off,cap',c,t,fr,cs,f1,q1,q2,q3,q4,q5,q6⟩:=key _ (zG1 w) (hp.sat _ _ hl)
      exact⟨b,off,cap',c,t,fr,cs,f1,q1,q2,q3,q4,q5.lv,q6,fun _=>q5⟩
     ·obtain⟨b,off,cap',c,t,fr,cs,f1,q1,q2,q3,q4,_,q5,q6⟩:=zNi hL h0
      exact⟨b,off,cap',c,t,fr,cs,f1,q1,q2,q3,q4,q5,q6,fun e=>absurd e hdp⟩
    obtain⟨b,off,cap',c,t,fr,cs,f1,hv',hϕ,hb,hS,hLs,hcs,hLo⟩:=gen
    refine⟨cs,f1,hLs,hS,hle,?_,?_,fun hh=>absurd rfl (hh i),?_,?_⟩
    ·intro w1;simp[Builtin.lenOf,SV.val,hv']
    ·intro w1 hw1
     have hcl:cs.length=es.length*T'.wd:=by rw[hLs.lens.2,←hLs.lens.1,yU]
     have hbnd:off+es.length*T'.wd≤c.size∨es.length*T'.wd=0:=by
      have:=congrArg List.length hcs
      rw[List.length_take,List.length_drop] at this
      simp only[Array.length_toList] at this
      omega
     simp only[Builtin.firstCells,SV.val,hv']
     rcases hbnd with hbnd | hbnd
     ·rw[yA (P:=P) b off _ c t fr (by rw[hw1];exact hb) hbnd,←hcl,hcs]
     ·have:cs=[]:=List.eq_nil_of_length_eq_zero (by omega)
      rw[hbnd,this];rfl
    ·intro j e;cases e;exact .inl ⟨b,hϕ⟩
    ·intro j p' es' e hl'
     cases e
     rw[hl] at hl'
     cases hl'
     exact hLo rfl
   ·have h1:es=[]:=List.eq_nil_of_length_eq_zero (by omega)
    subst h1
    refine⟨[],[],.nil,by simp,by simp,?_,?_,fun _=>rfl,fun j e=>.inr rfl,fun j p' es' e hl'=>⟨[],rfl,.nil⟩⟩
    ·intro w1;simp[Builtin.lenOf,SV.val,hv]
    ·intro w1 _
     simp only[SV.val,hv]
     cases ad<;>simp[Builtin.firstCells,loadCells,loadCellsFrom]
  ·cases h
 case nils=>
  obtain⟨rfl,rfl⟩:=h
  refine⟨[],[],.nil,by simp,by simp,?_,?_,fun _=>rfl,by simp,by simp⟩
  ·intro w1;simp[Builtin.lenOf,SV.val]
  ·intro w1 _;simp[Builtin.firstCells,SV.val]
def zHQ(b:Option Nat)(g:List Nat):List Nat:=match b with | some b=>b :: g | none=>[]
theorem zFt{L:World→List PTy→List PV→List Value→List Nat→Prop}(hLk:∀w,LOk w (L w))(hLf:∀w w' Ts ps vs f,L w Ts ps vs f→(∀b∈f,w'.heap[b]?=w.heap[b]?)→L w' Ts ps vs f)
  {v':Value} {T:PTy} {es new:List PV} {cs cells:List Value} {g fx:List Nat} {b':Option Nat} (hr:zIn w' v' T.wd T.u8 (es++new).length (cs++cells) b') (hL:L w (zX T es.length) (zT es) cs g) (hN:L w (zX T new.length) (zT new) cells fx)
  (hS:∀e∈es,Shp T e) (hS':∀e∈new,Shp T e) (hf:∀b∈g++fx,w'.heap[b]?=w.heap[b]?):zGf (L w') w' v' T (es++new) (zHQ b' (g++fx)):=by
 rcases hr with ⟨h1,h2,rfl,h4⟩ | ⟨b,rfl,hr⟩
 ·exact .inl ⟨List.eq_nil_of_length_eq_zero h1,rfl,h4⟩
 ·refine .inr ⟨b,g++fx,cs++cells,rfl,hr,?_,?_⟩
  ·intro e he
   rcases List.mem_append.1 he with he | he
   ·exact hS e he
   ·exact hS' e he
  ·have h1:=(hLk w').app (hLf w w' _ _ _ _ hL fun b hb=>hf b (by simp[hb])) (hLf w w' _ _ _ _ hN fun b hb=>hf b (by simp[hb]))
   rw[List.length_append,yE,zx]
   exact h1
theorem zFs{L:List PTy→List PV→List Value→List Nat→Prop}(hLn:L [] [] [] []){v:Value}{T:PTy}{es:List PV}{f:List Nat}(h:zGf L w v T es f):∃cs g b,zIn w v T.wd T.u8 es.length cs b∧L (zX T es.length) (zT es) cs g∧(∀e∈es,Shp T e)∧f=zHQ b g∧(b=none→g=[]):=by
 rcases h with ⟨rfl,rfl,h4⟩ | ⟨b,f1,cs,rfl,hr,hS,hL⟩
 ·exact⟨[],[],none,.inl ⟨rfl,rfl,rfl,h4⟩,hLn,by simp,rfl,fun _=>rfl⟩
 ·exact⟨cs,f1,some b,.inr ⟨b,rfl,hr⟩,hL,hS,rfl,fun h=>by cases h⟩
end
end
section
variable [zZ]
section
variable {P:Program} {E:Env} {N:Nat} {w0:World} {X F:List Nat} {S:St} {β:Nat→GV} {ϕ:Nat→List Nat} {a:Act} {w w':World} {o:Oper} {R:RR} {A:Hp} {B:Nat}
theorem zJl{n:Nat}{A2:Hp}{ϕ2:Nat→List Nat}(hp:zL w0.heap.size X F A2 β ϕ2 w)(hb:Bd n β A2)(hw:Fr w0 X w){o':Own}(ho':o'=.dp∨o'=.sh){bt b':Option Nat}{gf:List Nat}{v':Value}{T:PTy}{es:List PV}
  (hbt:∀b,bt=some b→(∀i hl,lk A2 i=some hl→hl≠.dead→b ∉ ϕ2 i)∧(b∈X∨w0.heap.size≤b)∧(b∈F∨w0.heap.size≤b)∧b ∉ gf)
  (hgf:∀b∈gf,b < w.heap.size∧(b∈F∨w0.heap.size≤b))
  (hdp:o'=.dp→gf.Nodup∧yB A2 ϕ2 gf∧∀b∈gf,b∈X∨w0.heap.size≤b)
  (hsh:∀i hl,lk A2 i=some hl→∀b∈zH (ϕ2 i) hl,b ∉ gf)
  (h7:(b'=bt∧∀k,some k≠bt→w'.heap[k]?=w.heap[k]?)∨(b'=some w.heap.size∧∀k,k < w.heap.size→w'.heap[k]?=w.heap[k]?))
  (hone:v'.oneCell'=true) (hsat:yj w' (gv v') (upd β n (gv v')) (zHQ b' gf) (.arr o' T es .no)) :
  zL w0.heap.size X F ((n,.arr o' T es .no) :: A2) (upd β n (gv v')) (upd ϕ2 n (zHQ b' gf)) w'∧Bd (n+1) (upd β n (gv v')) ((n,.arr o' T es .no) :: A2):=by
 have hsz:=hw.size
 have h1:zL w0.heap.size X F A2 β ϕ2 w':=by
  refine hp.world fun i hl hi hd b hb'=>?_
  rcases h7 with ⟨_,h⟩ | ⟨_,h⟩
  ·refine h b fun e=>?_
   exact(hbt b e.symm).1 i hl hi hd hb'
  ·exact h b (hp.inb hi hd b hb')
 have hbk:∀b,b'=some b→(∀i hl,lk A2 i=some hl→hl≠.dead→b ∉ ϕ2 i)∧(b∈X∨w0.heap.size≤b)∧(b∈F∨w0.heap.size≤b)∧b ∉ gf:=by
  intro b e
  rcases h7 with ⟨h,_⟩ | ⟨h,_⟩
  ·exact hbt b (h ▸ e)
  ·rw[h] at e;cases e
   refine⟨fun i hl hi hd hm=>?_,.inr hsz,.inr hsz,fun hm=>?_⟩
   ·have:=hp.inb hi hd _ hm;omega
   ·have:=(hgf _ hm).1;omega
 have hpok:zEu A2 (upd β n (gv v')) w' (gv v') (.arr o' T es .no):=by rcases ho' with rfl | rfl<;>trivial
 have hro:zM (.arr o' T es .no)=[]:=by rcases ho' with rfl | rfl<;>rfl
 cases b' with
 | none=>
  refine⟨h1.add hb hone hsat (fun x hx=>?_) (fun _ x hx=>?_) ?_ (fun i hl hi hd x hx hm=>?_) (fun i hl hi _ x hx hm=>?_) hpok (by rw[hro];simp) (by rw[hro];simp),zAh hb (by rcases ho' with rfl | rfl<;>trivial)⟩
  ·have:=zU x hx;simp[zHQ] at this
  ·simp[zHQ] at hx
  ·rcases ho' with rfl | rfl<;>simp[zE6,zHQ]
  ·have:=zU x hm;simp[zHQ] at this
  ·simp[zHQ] at hm
 | some b=>
  obtain⟨k1,k2,k3,k4⟩:=hbk b rfl
  refine⟨h1.add hb hone hsat (fun x hx=>?_) (fun _ x hx=>?_) ?_ (fun i hl hi hd x hx hm=>?_) (fun i hl hi _ x hx hm=>?_) hpok (by rw[hro];simp) (by rw[hro];simp),zAh hb (by rcases ho' with rfl | rfl<;>trivial)⟩
  ·rcases ho' with rfl | rfl
   ·simp only[zH,zHQ,List.mem_cons] at hx
    rcases hx with rfl | hx
    ·exact k2
    ·exact(hdp rfl).2.2 x hx
   ·simp only[zH,zHQ,List.take_succ_cons,List.take_zero,List.mem_singleton] at hx
    subst hx;exact k2
  ·simp only[zHQ,List.mem_cons] at hx
   rcases hx with rfl | hx
   ·exact k3
   ·exact(hgf x hx).2
  ·rcases ho' with rfl | rfl
   ·exact List.nodup_cons.2 ⟨k4,(hdp rfl).1⟩
   ·intro b' r e;cases e;exact k4
  ·rcases ho' with rfl | rfl
   ·simp only[zH,zHQ,List.mem_cons] at hm
    rcases hm with rfl | hm
    ·exact k1 i hl hi hd hx
    ·exact(hdp rfl).2.1 i hl hi hd x hx hm
   ·simp only[zH,zHQ,List.take_succ_cons,List.take_zero,List.mem_singleton] at hm
    subst hm;exact k1 i hl hi hd hx
  ·simp only[zHQ,List.mem_cons] at hm
   by_cases hd:hl=.dead
   ·subst hd;simp[zH] at hx
   ·rcases hm with rfl | hm
    ·exact k1 i hl hi hd (zU x hx)
    ·exact hsh i hl hi x hx hm
theorem zO4{bt b':Option Nat}(hw:Fr w0 X w)(r3:w'.os=w.os)(r4:w'.tape=w.tape)(r5:w'.output=w.output)(r6:w.heap.size≤w'.heap.size)(hbt:∀b,bt=some b→b∈X∨w0.heap.size≤b)
  (h7:(b'=bt∧∀k,some k≠bt→w'.heap[k]?=w.heap[k]?)∨(b'=some w.heap.size∧∀k,k < w.heap.size→w'.heap[k]?=w.heap[k]?)):Fr w0 X w':=by
 refine⟨r3.trans hw.os,r4.trans hw.tape,r5.trans hw.output,Nat.le_trans hw.size r6,fun b hb hn=>?_⟩
 have hbs:=Nat.lt_of_lt_of_le hb hw.size
 refine Eq.trans ?_ (hw.block b hb hn)
 rcases h7 with ⟨_,h⟩ | ⟨_,h⟩
 ·refine h b fun e=>?_
  rcases hbt b e.symm with h8 | h8
  ·exact hn h8
  ·omega
 ·exact h b hbs
structure zKj (B:Nat) (X F:List Nat) (A1:Hp) (β:Nat→GV) (ϕ1:Nat→List Nat) (w:World) (n:Nat) (o1:Own) (v:Value) (T:PTy) (es:List PV) (f0:List Nat):Prop where
 hp:zL B X F A1 β ϕ1 w
 hb:Bd n β A1
 ho:o1=.dp∨o1=.sh
 own:(o1=.dp→zCG w v T es f0)∧(o1=.sh→zGe w v T es f0)
 nd:zE6 f0 (.arr o1 T es .no)
 ap:yB A1 ϕ1 (zH f0 (.arr o1 T es .no))
 dj:∀i hl,lk A1 i=some hl→∀b∈zH (ϕ1 i) hl,b ∉ f0
 ow:∀b∈zH f0 (.arr o1 T es .no),b∈X∨B≤b
 all:∀b∈f0,b < w.heap.size∧(b∈F∨B≤b)
theorem zEP{t u e ty:TypeId}{tu te:TI}{n:Nat}{A1:Hp}{ϕ1:Nat→List Nat}{o1:Own}{v xv:Value}{es new:List PV}{f0:List Nat}(tg:zKj w0.heap.size X F A1 β ϕ1 w n o1 v te.pty es f0)(hw:Fr w0 X w)
  (hu:P.underlying t=some (.slice e)) (htu:P.underlying u=some tu.d) (hd:tu.d=.slice tu.el∨tu.d=.string) (hTe:yX P e te)
  {cells:List Value} {fx:List Nat} (hN:Lv w (zX te.pty new.length) (zT new) cells fx) (hS':∀e∈new,Shp te.pty e)
  (hlen:∀w1,(Builtin.lenOf xv).run P w1=.ok new.length w1) (hfc:∀w1,w1.heap=w.heap→(Builtin.firstCells te.pty.wd new.length xv).run P w1=.ok cells.toArray w1)
  (hB:(es.length+new.length)*te.bytes≤LIM)
  {o2:Own} {A2:Hp} (ho2:o2=.dp∨o2=.sh) (hp2:zL w0.heap.size X F A2 β ϕ1 w) (hb2:Bd n β A2) (hA2:∀i hl,lk A2 i=some hl→hl≠.dead→∃hl1,lk A1 i=some hl1∧hl1≠.dead∧∀b∈zH (ϕ1 i) hl,b∈zH (ϕ1 i) hl1)
  (h12:o2=.dp→o1=.dp∧Lo w (zX te.pty new.length) (zT new) cells fx∧fx.Nodup∧yB A2 ϕ1 fx∧(∀b∈fx,b∈X∨w0.heap.size≤b)) (hfx0:∀b∈fx,b ∉ zH f0 (.arr o1 te.pty es .no))
  (hfx:∀i hl,lk A2 i=some hl→∀b∈zH (ϕ1 i) hl,b ∉ fx) (hfx2:∀b∈fx,b < w.heap.size∧(b∈F∨w0.heap.size≤b)) :
  ∃v' w' f',(Builtin.append_ #[t,u] ty #[v,xv]).run P w=.ok v' w'∧zL w0.heap.size X F ((n,.arr o2 te.pty (es++new) .no) :: A2) (upd β n (gv v')) (upd ϕ1 n f') w'∧Bd (n+1) (upd β n (gv v')) ((n,.arr o2 te.pty (es++new) .no) :: A2)∧Fr w0 X w':=by
 have hcl:cells.length=new.length*te.pty.wd:=by rw[hN.lens.2,ya hS']
 have parts:∃(L:World→List PTy→List PV→List Value→List Nat→Prop),(∀w,LOk w (L w))∧(∀w w' Ts ps vs f,L w Ts ps vs f→(∀b∈f,w'.heap[b]?=w.heap[b]?)→L w' Ts ps vs f)∧(∀w v T es f (g:GV) β,g.v=v→zGf (L w) w v T es f→yj w g β f (.arr o2 T es .no)) ∧
   (∃cs g bt,zIn w v te.pty.wd te.pty.u8 es.length cs bt∧L w (zX te.pty es.length) (zT es) cs g∧(∀e∈es,Shp te.pty e)∧f0=zHQ bt g∧(bt=none→g=[]))∧L w (zX te.pty new.length) (zT new) cells fx:=by
  rcases ho2 with rfl | rfl
  ·obtain⟨h1,h2,_⟩:=h12 rfl
   refine⟨Lo,zG1,fun _ _ _ _ _ _ h hf=>h.frame hf,fun w v T es f g β e h=>by subst e;exact h,?_,h2⟩
   exact zFs ⟨[],rfl,.nil⟩ (tg.own.1 h1)
  ·refine⟨Lv,zG0,fun _ _ _ _ _ _ h hf=>h.frame hf,fun w v T es f g β e h=>by subst e;exact h,?_,hN⟩
   have:zGe w v te.pty es f0:=by
    rcases tg.ho with h | h
    ·exact zJ8 (tg.own.1 h)
    ·exact tg.own.2 h
   exact zFs .nil this
 obtain⟨L,hLk,hLf,hLs,⟨cs,g,bt,q1,q2,q3,q4,q5⟩,hLn⟩:=parts
 obtain⟨v',w',b',r1,r2,r3,r4,r5,r6,r7⟩:=zGY (P:=P) (w:=w) (ty:=ty) (m:=new.length) hu htu hd hTe (zID hTe).1 q1 hcl (zMJ hN) hlen hfc hB hTe.bpos
 have hbtf:∀b,bt=some b→b∈zH f0 (.arr o1 te.pty es .no):=by
  intro b e
  subst e
  rw[q4]
  rcases tg.ho with rfl | rfl<;>simp[zH,zHQ]
 have hgsub:∀b∈g,b∈f0:=by
  intro b hb
  cases bt with
  | none=>rw[q5 rfl] at hb;cases hb
  | some b0=>rw[q4];exact List.mem_cons_of_mem _ hb
 have hbtg:∀b,bt=some b→b ∉ g:=by
  intro b e hm
  subst e
  have:=tg.nd
  rw[q4] at this
  rcases tg.ho with rfl | rfl
  ·exact(List.nodup_cons.1 this).1 hm
  ·exact this b g rfl hm
 have hgw:∀b∈g++fx,b < w.heap.size∧(b∈F∨w0.heap.size≤b):=by
  intro b hb
  rcases List.mem_append.1 hb with hb | hb
  ·exact tg.all b (hgsub b hb)
  ·exact hfx2 b hb
 have hbt:∀b,bt=some b→(∀i hl,lk A2 i=some hl→hl≠.dead→b ∉ ϕ1 i)∧(b∈X∨w0.heap.size≤b)∧(b∈F∨w0.heap.size≤b)∧b ∉ g++fx:=by
  intro b e
  have hbo:=hbtf b e
  refine⟨?_,tg.ow b hbo,(tg.all b (zU b hbo)).2,?_⟩
  ·intro i hl hi hdd hm
   obtain⟨hl1,e1,e2,_⟩:=hA2 i hl hi hdd
   exact tg.ap i hl1 e1 e2 b hm hbo
  ·intro hm
   rcases List.mem_append.1 hm with hm | hm
   ·exact hbtg b e hm
   ·exact hfx0 b hm hbo
 have hframe:∀b∈g++fx,w'.heap[b]?=w.heap[b]?:=by
  intro b hb
  rcases r7 with ⟨_,h⟩ | ⟨_,h⟩
  ·refine h b fun e=>?_
   exact(hbt b e.symm).2.2.2 hb
  ·exact h b (hgw b hb).1
 have hown:=zFt (w:=w) hLk hLf (by simpa using r2) q2 hLn q3 hS' hframe
 have hone:v'.oneCell'=true:=by
  rcases r2 with ⟨_,_,_,a,rfl⟩ | ⟨_,_,⟨⟨o,cap,c,t,fr,rfl,_⟩,_⟩⟩<;>rfl
 have hA:o2=.dp→(g++fx).Nodup∧yB A2 ϕ1 (g++fx)∧∀b∈g++fx,b∈X∨w0.heap.size≤b:=by
  intro e
  obtain⟨h1,_,h3,h4,h5⟩:=h12 e
  subst h1
  have hnd:f0.Nodup:=tg.nd
  refine⟨List.nodup_append.2 ⟨?_,h3,?_⟩,?_,?_⟩
  ·cases bt with
   | none=>rw[q5 rfl];simp
   | some b0=>rw[q4] at hnd;exact(List.nodup_cons.1 hnd).2
  ·intro x hx y hy exy
   subst exy
   exact hfx0 x hy (by simpa[zH] using hgsub x hx)
  ·intro i hl hi hdd b hb hm
   rcases List.mem_append.1 hm with hm | hm
   ·obtain⟨hl1,e1,e2,_⟩:=hA2 i hl hi hdd
    exact tg.ap i hl1 e1 e2 b hb (by simpa[zH] using hgsub b hm)
   ·exact h4 i hl hi hdd b hb hm
  ·intro b hb
   rcases List.mem_append.1 hb with hb | hb
   ·exact tg.ow b (by simpa[zH] using hgsub b hb)
   ·exact h5 b hb
 have hB2:∀i hl,lk A2 i=some hl→∀b∈zH (ϕ1 i) hl,b ∉ g++fx:=by
  intro i hl hi b hb hm
  rcases List.mem_append.1 hm with hm | hm
  ·by_cases hdd:hl=.dead
   ·subst hdd;simp[zH] at hb
   ·obtain⟨hl1,e1,e2,e3⟩:=hA2 i hl hi hdd
    exact tg.dj i hl1 e1 b (e3 b hb) (hgsub b hm)
  ·exact hfx i hl hi b hb hm
 obtain⟨c1,c2⟩:=zJl (n:=n) (o':=o2) (T:=te.pty) (es:=es++new) (v':=v') hp2 hb2 hw ho2 hbt hgw hA hB2 r7 hone (hLs w' v' te.pty (es++new) _ (gv v') _ rfl hown)
 exact⟨v',w',_,r1,c1,c2,zO4 hw r3 r4 r5 r6 (fun b e=>(hbt b e).2.1) r7⟩
theorem zKn{n:Nat}{T:PTy}(hp:zL B X F A β ϕ w)(hb:Bd n β A):zKj B X F A β ϕ w n .dp (.slice none 0 0) T [] []:=
 ⟨hp,hb,.inl rfl,⟨fun _=>.inl ⟨rfl,rfl,none,rfl⟩,fun h=>by cases h⟩,by simp[zE6],fun _ _ _ _ _ _=>by simp[zH],by simp,by simp[zH],by simp⟩
theorem zHv{n h:Nat}{o1:Own}{T:PTy}{es:List PV}{p:Pth}(hp:zL B X F A β ϕ w)(hb:Bd n β A)(hl:lk A h=some (.arr o1 T es p))(ho:o1=.dp∨o1=.sh):zKj B X F (zK [h] A) β ϕ w n o1 (β h).v T es (ϕ h):=by
 have hro:zM (.arr o1 T es p)=[]:=by rcases ho with rfl | rfl<;>rfl
 have hoo:zH (ϕ h) (.arr o1 T es p)=zH (ϕ h) (.arr o1 T es .no):=by rcases ho with rfl | rfl<;>rfl
 refine⟨hp.struck _,yN hb _,ho,⟨fun e=>?_,fun e=>?_⟩,?_,?_,?_,?_,?_⟩
 ·subst e;exact hp.sat _ _ hl
 ·subst e;exact hp.sat _ _ hl
 ·have:=hp.nd _ _ hl
  rcases ho with rfl | rfl<;>exact this
 ·exact zt hp fun b hb'=>⟨h,by simp,_,hl,by rw[hoo];exact hb'⟩
 ·intro i hl' hi b hb' hm
  by_cases hd:hl'=.dead
  ·subst hd;simp[zH] at hb'
  ·obtain⟨e1,e2,e3⟩:=z5 hi hd
   exact hp.dj i h hl' _ e1 hl (by simpa using e2) (by rw[hro];simp) (by simp) b hb' hm
 ·intro b hb';exact hp.own _ _ hl b (by rw[hoo];exact hb')
 ·intro b hb';exact⟨hp.inb hl (by simp) b hb',hp.all _ _ hl trivial b hb'⟩
theorem zKi{t u e ty:TypeId}{tu te:TI}{n:Nat}{A1:Hp}{ϕ1:Nat→List Nat}{o1:Own}{v:Value}{x:SV}{es new:List PV}{f0:List Nat}(tg:zKj w0.heap.size X F A1 β ϕ1 w n o1 v te.pty es f0)(hw:Fr w0 X w)
  (hu:P.underlying t=some (.slice e)) (htu:P.underlying u=some tu.d) (hd:tu.d=.slice tu.el∨tu.d=.string) (hTe:yX P e te)
  {A:Hp} {ϕ:Nat→List Nat} {ob:Prop} (hp:zL w0.heap.size X F A β ϕ w) (hsrc:zDH A te.pty x=some (ob,new)) (hob:ob) (hk:SV.ok β x) (hal:∀i hl,lk A1 i=some hl→hl≠.dead→∃hl0,lk A i=some hl0∧zBA hl hl0)
  (hB:(es.length+new.length)*te.bytes≤LIM) (hok:zIT te.pty A1 x) :
  ∃v' w' f' ϕ',(Builtin.append_ #[t,u] ty #[v,SV.val β x]).run P w=.ok v' w'∧zL w0.heap.size X F ((n,.arr (zEB te.pty o1 A1 x).1 te.pty (es++new) .no) :: (zEB te.pty o1 A1 x).2) (upd β n (gv v')) (upd ϕ' n f') w' ∧
   Bd (n+1) (upd β n (gv v')) ((n,.arr (zEB te.pty o1 A1 x).1 te.pty (es++new) .no) :: (zEB te.pty o1 A1 x).2)∧Fr w0 X w':=by
 have idA:∀i hl,lk A1 i=some hl→hl≠.dead→∃hl1,lk A1 i=some hl1∧hl1≠.dead∧∀b∈zH (ϕ1 i) hl,b∈zH (ϕ1 i) hl1:=fun i hl hi hdd=>⟨hl,hi,hdd,fun _ h=>h⟩
 have plain:∀cells,Lv w (zX te.pty new.length) (zT new) cells []→(o1=.dp→Lo w (zX te.pty new.length) (zT new) cells [])→(∀e∈new,Shp te.pty e)→(∀w1,(Builtin.lenOf (SV.val β x)).run P w1=.ok new.length w1) →
   (∀w1,w1.heap=w.heap→(Builtin.firstCells te.pty.wd new.length (SV.val β x)).run P w1=.ok cells.toArray w1) →
   ∃v' w' f' ϕ',(Builtin.append_ #[t,u] ty #[v,SV.val β x]).run P w=.ok v' w'∧zL w0.heap.size X F ((n,.arr o1 te.pty (es++new) .no) :: A1) (upd β n (gv v')) (upd ϕ' n f') w'∧Bd (n+1) (upd β n (gv v')) ((n,.arr o1 te.pty (es++new) .no) :: A1)∧Fr w0 X w':=by
  intro cells h1 h2 h3 h4 h5
  obtain⟨v',w',f',r⟩:=zEP (P:=P) (ty:=ty) tg hw hu htu hd hTe h1 h3 h4 h5 hB tg.ho tg.hp tg.hb idA (fun e=>⟨e,h2 e,by simp,fun _ _ _ _ _ _=>by simp,by simp⟩) (by simp) (by simp) (by simp)
  exact⟨v',w',f',ϕ1,r⟩
 obtain⟨cells0,fx0,s1,s2,s3,s4,s5,s6,s7,s8⟩:=zFc (P:=P) hsrc hob hp hk
 by_cases hf:zBD te.pty=true
 ·have hjo:zEB te.pty o1 A1 x=(o1,A1):=by simp[zEB,hf]
  rw[hjo]
  have h0:=zA7 s1 (yq hf _)
  subst h0
  obtain⟨fs,l1,l2⟩:=zJC (O:=zJm w) s1 (yq hf _)
  exact plain cells0 s1 (fun _=>⟨fs,l1.symm,l2⟩) s2 s4 s5
 ·by_cases hx:∃i,x=.sl i
  ·obtain⟨i,rfl⟩:=hx
   simp only[zIT,zEB,hf,Bool.false_eq_true,if_false] at hok ⊢
   have now:∀(o':Own) (T':PTy) (es':List PV) (p':Pth),lk A1 i=some (.arr o' T' es' p')→(∀k,o'≠.cs k)→zDH A1 te.pty (.sl i)=some (ob,new)∧T'=te.pty∧new=es':=by
    intro o' T' es' p' h1 hnc
    obtain⟨hl0,h2,h3⟩:=hal i _ h1 (by simp)
    simp only[zDH,h2] at hsrc
    cases hl0 with
    | arr o0 T0 es0 p0=>
     obtain⟨rfl,rfl,_,h4⟩:=h3
     have hnc0:∀k,o0≠.cs k:=fun k e=>by
      obtain⟨k',e'⟩:=h4 ⟨k,e⟩
      exact hnc k' e'
     have hs1:zDH A1 te.pty (.sl i)=some (T'=te.pty,es'):=by
      simp only[zDH,h1]<;>(cases o'<;>first | rfl | exact absurd rfl (hnc _))
     have hs2:some (ob,new)=some (T'=te.pty,es'):=by
      rw[←hsrc]
      cases o0<;>first | rfl | exact absurd rfl (hnc0 _)
     simp only[Option.some.injEq,Prod.mk.injEq] at hs2
     obtain⟨rfl,rfl⟩:=hs2
     exact⟨hs1,hob,rfl⟩
    | _=>simp[zBA] at h3
   have beh:∀(o':Own) (p':Pth),lk A1 i=some (.arr o' te.pty new p')→zDH A1 te.pty (.sl i)=some (ob,new)→(o'=.dp∨o'=.sh∨o'=.vw [])→∃cells fx,Lv w (zX te.pty new.length) (zT new) cells fx∧(∀w1,(Builtin.lenOf (SV.val β (.sl i))).run P w1=.ok new.length w1) ∧
     (∀w1,w1.heap=w.heap→(Builtin.firstCells te.pty.wd new.length (SV.val β (.sl i))).run P w1=.ok cells.toArray w1)∧(∀b∈fx,b∈ϕ1 i)∧(∀b∈fx,b ∉ zH f0 (.arr o1 te.pty es .no))∧(∀b∈fx,b < w.heap.size∧(b∈F∨w0.heap.size≤b)) ∧
     ((∃b,ϕ1 i=b :: fx)∨fx=[])∧(o'=.dp→Lo w (zX te.pty new.length) (zT new) cells fx):=by
    intro o' p' h1 h2 ho'
    obtain⟨cells,fx,t1,t2,t3,t4,t5,t6,t7,t8⟩:=zFc (P:=P) h2 hob tg.hp hk
    have hsub:∀b∈fx,b∈ϕ1 i:=by
     intro b hb
     rcases t7 i rfl with ⟨b0,e⟩ | e
     ·rw[e];exact List.mem_cons_of_mem _ hb
     ·rw[e] at hb;cases hb
    exact⟨cells,fx,t1,t4,t5,hsub,fun b hb hm=>tg.ap i _ h1 (by simp) b (hsub b hb) hm,fun b hb=>⟨tg.hp.inb h1 (by simp) b (hsub b hb),tg.hp.all _ _ h1 trivial b (hsub b hb)⟩,t7 i rfl,fun e=>by subst e;exact t8 i p' new rfl h1⟩
   split at hok
   ·rename_i T' es' p' h1
    obtain⟨hs,rfl,rfl⟩:=now _ _ _ _ h1 (by simp)
    obtain⟨cells,fx,t1,t2,t3,t4,t5,t6,t7,t8⟩:=beh _ _ h1 hs (.inl rfl)
    have hnd:(ϕ1 i).Nodup:=tg.hp.nd _ _ h1
    have hndx:fx.Nodup:=by
     rcases t7 with ⟨b,e⟩ | e
     ·rw[e] at hnd;exact(List.nodup_cons.1 hnd).2
     ·rw[e];simp
    have hst:=tg.hp.struck [i]
    have hbst:=yN tg.hb [i]
    have hap:yB (zK [i] A1) ϕ1 (ϕ1 i):=zt tg.hp fun b hb=>⟨i,by simp,_,h1,by simpa[zH] using hb⟩
    simp only[h1]
    rcases tg.ho with ho1 | ho1
    ·
     subst ho1
     obtain⟨v',w',f',r⟩:=zEP (P:=P) (ty:=ty) tg hw hu htu hd hTe t1 s2 t2 t3 hB (.inl rfl) hst hbst (fun j hl hj hdd=>⟨hl,(z5 hj hdd).1,hdd,fun _ h=>h⟩)
      (fun _=>⟨rfl,t8 rfl,hndx,hap.mono t4,fun b hb=>tg.hp.own _ _ h1 b (by simpa[zH] using t4 b hb)⟩) t5
      (fun j hl hj b hb hm=>by
       by_cases hdd:hl=.dead
       ·subst hdd;simp[zH] at hb
       ·exact hap j hl hj hdd b (zU b hb) (t4 b hm)) t6
     exact⟨v',w',f',ϕ1,r⟩
    ·subst ho1
     have hsat:yj w (β i) β (ϕ1 i) (.arr .sh te.pty new .no):=zJ8 (tg.hp.sat _ _ h1)
     have hid:upd ϕ1 i (ϕ1 i)=ϕ1:=by funext k;unfold upd;split<;>simp_all
     have hput:=hst.put (A':=yk (zK [i] A1) i (.arr .sh te.pty new .no)) (n:=i) (fun j=>zP _ _ _) (fun hl hi=>yY (by simp) hi) hsat
      (fun b hb=>tg.hp.own _ _ h1 b (by simpa[zH] using zU b hb)) (fun _ b hb=>tg.hp.all _ _ h1 trivial b hb)
      (by intro b r e;rw[e] at hnd;exact(List.nodup_cons.1 hnd).1) (hap.mono fun b hb=>zU b hb)
      (fun j hl hj _ b hb hm=>by
       by_cases hdd:hl=.dead
       ·subst hdd;simp[zH] at hb
       ·exact hap j hl hj hdd b (zU b hb) hm) trivial (fun _ _ _ e=>by cases e) (by simp[zM])
     rw[hid] at hput
     have hbput:=zCB (A':=yk (zK [i] A1) i (.arr .sh te.pty new .no)) hbst (fun j=>zP _ _ _) (tg.hb _ _ h1).1 (show HL.ltOk n β (.arr .sh te.pty new .no) from trivial)
     have hcase:∀j hl,lk (yk (zK [i] A1) i (.arr .sh te.pty new .no)) j=some hl→(j=i∧hl=.arr .sh te.pty new .no)∨(j≠i∧lk (zK [i] A1) j=some hl):=by
      intro j hl hj
      rw[zP] at hj
      split at hj
      ·rename_i e;cases hj;exact .inl ⟨e,rfl⟩
      ·rename_i e;exact .inr ⟨e,hj⟩
     obtain⟨v',w',f',r⟩:=zEP (P:=P) (ty:=ty) tg hw hu htu hd hTe t1 s2 t2 t3 hB (.inr rfl) hput hbput
      (fun j hl hj hdd=>by
       rcases hcase j hl hj with ⟨rfl,rfl⟩ | ⟨hne,hj'⟩
       ·exact⟨_,h1,by simp,fun b hb=>by simpa[zH] using zU b hb⟩
       ·exact⟨hl,(z5 hj' hdd).1,hdd,fun _ h=>h⟩) (fun e=>by cases e) t5
      (fun j hl hj b hb hm=>by
       rcases hcase j hl hj with ⟨rfl,rfl⟩ | ⟨hne,hj'⟩
       ·rcases t7 with ⟨b0,e⟩ | e
        ·simp only[zH,e,List.take_succ_cons,List.take_zero,List.mem_singleton] at hb
         subst hb
         rw[e] at hnd;exact(List.nodup_cons.1 hnd).1 hm
        ·rw[e] at hm;cases hm
       ·by_cases hdd:hl=.dead
        ·subst hdd;simp[zH] at hb
        ·exact hap j hl hj' hdd b (zU b hb) (t4 b hm)) t6
     exact⟨v',w',f',ϕ1,r⟩
   ·
    rename_i T' es' p' h1
    obtain⟨hs,rfl,rfl⟩:=now _ _ _ _ h1 (by simp)
    obtain⟨cells,fx,t1,t2,t3,t4,t5,t6,t7,t8⟩:=beh _ _ h1 hs (.inr (.inl rfl))
    simp only[h1]
    obtain⟨v',w',f',r⟩:=zEP (P:=P) (ty:=ty) tg hw hu htu hd hTe t1 s2 t2 t3 hB (.inr rfl) tg.hp tg.hb idA (fun e=>by cases e) t5
     (fun j hl hj b hb hm=>by
      by_cases hji:j=i
      ·subst hji
       rw[h1] at hj;cases hj
       have hnd:=tg.hp.nd _ _ h1
       rcases t7 with ⟨b0,e⟩ | e
       ·simp only[zH,e,List.take_succ_cons,List.take_zero,List.mem_singleton] at hb
        subst hb
        exact hnd _ _ e hm
       ·rw[e] at hm;cases hm
      ·exact tg.hp.dj j i hl _ hj h1 hji (by simp[zM]) (by simp) b hb (t4 b hm)) t6
    exact⟨v',w',f',ϕ1,r⟩
   ·rename_i T' es' p' h1
    obtain⟨hs,rfl,rfl⟩:=now _ _ _ _ h1 (by simp)
    obtain⟨cells,fx,t1,t2,t3,t4,t5,t6,t7,t8⟩:=beh _ _ h1 hs (.inr (.inr rfl))
    simp only[h1]
    obtain⟨v',w',f',r⟩:=zEP (P:=P) (ty:=ty) tg hw hu htu hd hTe t1 s2 t2 t3 hB (.inr rfl) tg.hp tg.hb idA (fun e=>by cases e) t5
     (fun j hl hj b hb hm=>by
      by_cases hji:j=i
      ·subst hji;rw[h1] at hj;cases hj;simp[zH] at hb
      ·exact tg.hp.dj j i hl _ hj h1 hji (by simp[zM]) (by simp) b hb (t4 b hm)) t6
    exact⟨v',w',f',ϕ1,r⟩
   ·exact hok.elim
  ·have h0:=s6 fun h e=>hx ⟨h,e⟩
   subst h0
   have hjo:zEB te.pty o1 A1 x=(o1,A1):=by
    simp only[zEB,hf,Bool.false_eq_true,if_false]
    cases x<;>first | rfl | exact absurd ⟨_,rfl⟩ hx
   rw[hjo]
   refine plain cells0 s1 (fun _=>?_) s2 s4 s5
   cases x with
   | str l=>
    simp only[zDH,Option.some.injEq,Prod.mk.injEq] at hsrc
    obtain⟨h1,_⟩:=hsrc
    rw[←h1] at hob
    exact absurd (by rw[hob];rfl) hf
   | nils=>
    simp only[zDH,Option.some.injEq,Prod.mk.injEq] at hsrc
    obtain⟨_,rfl⟩:=hsrc
    have:cells0=[]:=List.eq_nil_of_length_eq_zero (by have:=s1.lens.2;simpa[zT] using this)
    subst this
    exact⟨[],rfl,.nil⟩
   | sl i=>exact absurd ⟨i,rfl⟩ hx
   | _=>simp[zDH] at hsrc
theorem zNT{c:Call}{vs:List SV}{ob:Prop}(hT:zAQ P E)(ho:o.op=.call c)(hc:c.callee=.builtin .append)(hvs:evs S true c.args.toList=some (ob,vs))
  (hR:yH E S true .append c.argTypes.toList ob vs=some R) (sat:Sat N w0 X F S β ϕ a w) (hob:R.ob):Snd P w0 X F S β ϕ o a w R:=by
 obtain⟨e1,e2⟩:=yV hvs sat
 have key:∃t u s x tu,c.argTypes.toList=[t,u]∧vs=[s,x]∧lk E.ty u=some tu∧zIk E S true (ob∧(tu.d=.slice tu.el∨tu.d=.string)) t s x=some R:=by
  unfold yH at hR
  split at hR
  case h_3=>
   rename_i t u s x _ ht
   split at hR
   ·rename_i tu htu
    exact⟨t,u,s,x,tu,ht,rfl,htu,hR⟩
   ·cases hR
  all_goals first | (exfalso;rename_i hb;simp at hb;done) | (exfalso;rename_i hb _;simp at hb;done) | (exfalso;rename_i hb _ _;simp at hb;done) | (exfalso;rename_i hb _ _ _;simp at hb;done) | cases hR
 obtain⟨t,u,s,x,tu,hat,rfl,htu,happ⟩:=key
 have hat2:c.argTypes=#[t,u]:=by apply Array.ext';simpa using hat
 have htu2:=(hT _ _ htu).und
 unfold zIk at happ
 split at happ
 ·cases happ
 ·rename_i ti hti
  split at happ
  ·cases happ
  ·rename_i te hte
   have hTe:=hT _ _ hte
   split at happ
   ·cases happ
   ·rename_i o' new hsrc
    split at happ
    ·
     cases happ
     obtain⟨_,⟨q1,q2⟩,q3,q4,q5,q6,q7⟩:=hob
     obtain⟨consts,hr⟩:=ym ho hc hvs q1 sat
     have hk:=(e2 rfl q1).2
     have hu:=(hT _ _ hti).und
     rw[q5] at hu
     obtain⟨v',w',f',ϕ',r1,r2,r3,r4⟩:=zKi (P:=P) (ty:=o.type) (zKn sat.hp sat.hb) sat.fr hu htu2 q2 hTe sat.hp hsrc q3 hk.2.1 (fun i hl hi _=>⟨hl,hi,.refl _⟩) (by simpa using q4) q7
     refine⟨trivial,v',w',_,_,.inl ?_,⟨fun _=>by simp only[SV.val,zi,gv],fun h hh=>zs _ _ _ hh,r2,r3,Nat.lt_succ_self _,trivial,Nat.le_succ _,r4⟩,fun h=>by simp[zAJ,zAn,ho,hc] at h,fun h=>by simp[zEF,ho,hc] at h⟩
     rw[hr]
     simp[builtin,hat2,SV.vals,SV.val,r1]
    ·
     rename_i h
     split at happ
     ·rename_i ow T es p hl
      cases happ
      obtain⟨_,⟨q1,q2⟩,q3,q4,q5,q6,q7,q8,q9,q10⟩:=hob
      subst q6
      obtain⟨consts,hr⟩:=ym ho hc hvs q1 sat
      have hk:=(e2 rfl q1).2
      have hu:=(hT _ _ hti).und
      rw[q4] at hu
      obtain⟨ϕ1,a1,a2,a3,_⟩:=zEb sat.hp sat.hb h
      have how:ow=.dp∨ow=.sh:=by cases ow<;>simp[zSP] at q8<;>simp
      have tg:=zHv a1 a2 hl how
      obtain⟨v',w',f',ϕ',r1,r2,r3,r4⟩:=zKi (P:=P) (ty:=o.type) tg sat.fr hu htu2 q2 hTe sat.hp hsrc q3 hk.2.1 (fun i hl hi hd=>a3 i hl (z5 hi hd).1 hd) q7 q10
      have hle:es.length≤LIM:=by
       rcases how with rfl | rfl
       ·exact(zCk (zCG.lv (a1.sat _ _ hl))).1
       ·exact(zCk (zGe.lv (a1.sat _ _ hl))).1
      refine⟨hle,v',w',_,_,.inl ?_,⟨fun _=>by simp only[SV.val,zi,gv],fun h hh=>zs _ _ _ hh,r2,r3,Nat.lt_succ_self _,trivial,Nat.le_succ _,r4⟩,fun h=>by simp[zAJ,zAn,ho,hc] at h,fun h=>by simp[zEF,ho,hc] at h⟩
      rw[hr]
      simp[builtin,hat2,SV.vals,SV.val,r1]
     ·cases happ
    ·cases happ
end
end
section
variable [zZ]
def zOj(w:World)(T:PTy)(p:PV)(v:Value)(f fl:List Nat):Prop:=
 match T with
 | .agg ts=>∃qs cs,p=.agg qs∧v=.agg cs.toArray∧Lv w ts qs cs f∧fl=f
 | .box ts=>∃qs cs b t pre post,p=.agg qs∧v=.pointer (some ⟨b,pre.length,none⟩)∧w.heap[b]?=some (.cells (pre++cs++post).toArray t (0,0))∧Lv w ts qs cs fl∧f=b :: fl
 | .abx T=>∃es,p=.list es∧zAC w T es v f∧fl=[]
 | .fn _ _=>False
 | T=>Lv w [T] [p] [v] f∧fl=f
inductive zIr (w:World):List PTy→List PV→List Value→List Nat→List Nat→Prop
 | nil:zIr w [] [] [] [] []
 | cons {t ts p ps v vs f g fl gl}:zOj w t p v f fl→zIr w ts ps vs g gl→zIr w (t :: ts) (p :: ps) (v :: vs) (f++g) (fl++gl)
def zPI(w:World)(T:PTy)(p:PV)(v:Value)(f fl:List Nat):Prop:=
 match T with
 | .fn g ts=>∃qs cs,p=.agg qs∧v=.func (.func g) #[] cs.toArray∧zIr w ts qs cs f fl
 | T=>zOj w T p v f fl
def zNG(w:World)(T:PTy)(p:PV)(v:Value)(f:List Nat):Prop:=
 match T with
 | .agg ts=>∃qs cs fs,p=.agg qs∧v=.agg cs.toArray∧LoD w ts qs cs fs∧f=fs.flatten
 | .list T=>∃es,p=.list es∧zCG w v T es f
 | _=>False
def zR5(w:World)(T:PTy)(p:PV)(v:Value)(f:List Nat):Prop:=
 match T with
 | .box ts=>∃qs cs fs b t pre post,p=.agg qs∧v=.pointer (some ⟨b,pre.length,none⟩)∧w.heap[b]?=some (.cells (pre++cs++post).toArray t (0,0))∧LoD w ts qs cs fs∧f=b :: fs.flatten
 | .abx T=>∃es,p=.list es∧zAC w T es v f
 | _=>False
def zUT(w:World)(T:PTy)(p:PV)(v:Value)(f:List Nat)(b:Nat):Prop:=
 match T with
 | .box ts=>∃qs cs t pre post,p=.agg qs∧v=.pointer (some ⟨b,pre.length,none⟩)∧w.heap[b]?=some (.cells (pre++cs++post).toArray t (0,0))∧Lv w ts qs cs f
 | _=>False
inductive KpS:List PTy→List PV→List Value→List Value→Prop
 | nil:KpS [] [] [] []
 | int {k n Ts ps c cs cs'}:inR k n→KpS Ts ps cs cs'→KpS (.int k :: Ts) (.int k n :: ps) (c :: cs) (.int k n :: cs')
 | bool {b Ts ps c cs cs'}:KpS Ts ps cs cs'→KpS (.bool :: Ts) (.bool b :: ps) (c :: cs) (.bool b :: cs')
 | str {l Ts ps c cs cs'}:l.length≤LIM→KpS Ts ps cs cs'→KpS (.str :: Ts) (.str l :: ps) (c :: cs) (.string ⟨l.toArray⟩ :: cs')
 | list {T p Ts ps c cs cs'}:KpS Ts ps cs cs'→KpS (.list T :: Ts) (p :: ps) (c :: cs) (c :: cs')
inductive zAB (w:World):List (Md × PTy)→List PV→List Value→List Nat→List Nat→List Nat→Prop
 | nil:zAB w [] [] [] [] [] []
 | rd {t ts p ps v vs f fs fl fls ms}:zPI w t p v f fl→zAB w ts ps vs fs fls ms→zAB w ((.rd,t) :: ts) (p :: ps) (v :: vs) (f++fs) (fl++fls) ms
 | mt {t ts p ps v vs f fs fls ms}:zNG w t p v f→zAB w ts ps vs fs fls ms→zAB w ((.mt,t) :: ts) (p :: ps) (v :: vs) fs fls (f++ms)
 | ow {t ts p ps v vs f fs fls ms}:zNG w t p v f→zAB w ts ps vs fs fls ms→zAB w ((.ow,t) :: ts) (p :: ps) (v :: vs) fs fls (f++ms)
 | bx {t ts p ps v vs f fs fls ms}:zR5 w t p v f→zAB w ts ps vs fs fls ms→zAB w ((.bx,t) :: ts) (p :: ps) (v :: vs) fs fls (f++ms)
 | bs {t ts p ps v vs b f fs fls ms}:zUT w t p v f b→zAB w ts ps vs fs fls ms→zAB w ((.bs,t) :: ts) (p :: ps) (v :: vs) (f++fs) (f++fls) (b :: ms)
def OutX(w w':World)(T:PTy)(p:PV)(v:Value)(f:List Nat):Prop:=
 match T with
 | .box ts=>∃qs cs cs' fs b t t' pre post,p=.agg qs∧v=.pointer (some ⟨b,pre.length,none⟩)∧w.heap[b]?=some (.cells (pre++cs++post).toArray t (0,0))∧cs.length=ts.length∧w'.heap[b]?=some (.cells (pre++cs'++post).toArray t' (0,0))∧LoD w' ts qs cs' fs∧f=b :: fs.flatten
 | .abx T=>∃es,p=.list es∧zAC w' T es v f
 | _=>False
def OutS(w w':World)(T:PTy)(p:PV)(v:Value)(b:Nat):Prop:=
 match T with
 | .box ts=>∃qs cs cs' t t' pre post,p=.agg qs∧v=.pointer (some ⟨b,pre.length,none⟩)∧w.heap[b]?=some (.cells (pre++cs++post).toArray t (0,0))∧cs.length=ts.length∧w'.heap[b]?=some (.cells (pre++cs'++post).toArray t' (0,0))∧KpS ts qs cs cs'
 | _=>False
inductive zHm (w w':World):List (Md × PTy)→List PV→List Value→List Nat→Prop
 | nil:zHm w w' [] [] [] []
 | rd {t ts ps v vs ms}:zHm w w' ts ps vs ms→zHm w w' ((.rd,t) :: ts) ps (v :: vs) ms
 | ow {t ts ps v vs ms}:zHm w w' ts ps vs ms→zHm w w' ((.ow,t) :: ts) ps (v :: vs) ms
 | mt {t ts p ps v vs f ms}:zNG w' t p v f→zHm w w' ts ps vs ms→zHm w w' ((.mt,t) :: ts) (p :: ps) (v :: vs) (f++ms)
 | bx {t ts p ps v vs f ms}:OutX w w' t p v f→zHm w w' ts ps vs ms→zHm w w' ((.bx,t) :: ts) (p :: ps) (v :: vs) (f++ms)
 | bs {t ts p ps v vs b ms}:OutS w w' t p v b→zHm w w' ts ps vs ms→zHm w w' ((.bs,t) :: ts) (p :: ps) (v :: vs) (b :: ms)
def zLS(w:World)(T:PTy)(p:PV)(v:Value)(f:List Nat):Prop:=
 match T with
 | .agg ts=>∃qs cs fs,p=.agg qs∧v=.agg cs.toArray∧LoD w ts qs cs fs∧f=fs.flatten
 | T=>∃fs,LoD w [T] [p] [v] fs∧f=fs.flatten
def zRb(w:World)(T:PTy)(p:PV)(v:Value)(f:List Nat):Prop:=
 match T with
 | .abx T'=>∃es,p=.list es∧zAC w T' es v f
 | .opq=>p=PV.d∧v=.pointer none∧f=[]
 | T=>zLS w T p v f
inductive zIo (w:World):List PTy→List PV→List Value→List Nat→Prop
 | nil:zIo w [] [] [] []
 | cons {t ts p ps v vs f g}:zRb w t p v f→zIo w ts ps vs g→zIo w (t :: ts) (p :: ps) (v :: vs) (f++g)
def RetN(w:World)(T:PTy)(p:PV)(v:Value)(f:List Nat):Prop:=
 match T with
 | .agg ts=>∃qs cs,p=.agg qs∧v=.agg cs.toArray∧Lv w ts qs cs f
 | T=>Lv w [T] [p] [v] f
inductive zLT (w:World):List PTy→List PV→List Value→List Nat→Prop
 | nil:zLT w [] [] [] []
 | cons {t ts p ps v vs f g}:RetN w t p v f→zLT w ts ps vs g→zLT w (t :: ts) (p :: ps) (v :: vs) (f++g)
def zKv:List Value→Value
 | [v]=>v
 | vs=>.tuple vs.toArray
def Done(w:World)(s:zS)(ps:List PV)(vs:List Value)(fl ms:List Nat)(rvs:List Value)(w':World):Prop:=
 Fr w ms w'∧((s.fresh=true∧∃fr mo,zIo w' s.ret (s.res ps) rvs fr∧zHm w w' s.args (s.out ps) vs mo∧(fr++mo).Nodup∧∀b∈fr++mo,b∈ms∨w.heap.size≤b) ∨
  (s.fresh=false∧zAr s.args=true∧∃fr,zLT w' s.ret (s.res ps) rvs fr∧∀b∈fr,b∈fl∨w.heap.size≤b))
def zJp(P:Program)(f:FuncId)(s:zS):Prop:=
 ∀(w:World) (ps:List PV) (vs:List Value) (fs fl ms:List Nat),zAB w s.args ps vs fs fl ms→ms.Nodup→(∀b∈ms,b ∉ fs)→s.pre ps→zPG w ms →
  Calls P f vs.toArray w fun e w'=>∃rvs,e=.returned (zKv rvs)∧Done w s ps vs fl ms rvs w'
structure zCH (P:Program) (E:Env):Prop where
 ty:zAQ P E
 fn:∀f cs s,zDV E.fn f cs=some s→zJp P f s∧∃fn,P.funcs[f]?=some fn∧fn.body.isNone=false∧(fn.name == "runtime.NumGoroutine")=false
section
variable {P:Program} {E:Env} {N:Nat} {w0:World} {X F:List Nat} {S:St} {β:Nat→GV} {ϕ:Nat→List Nat} {a:Act} {w w':World} {o:Oper} {R:RR} {A:Hp} {B:Nat}
structure zKl (A:Hp) (ϕ:Nat→List Nat) (hs f fl:List Nat):Prop where
 all:∀b∈f,∃i∈hs,∃hl,lk A i=some hl∧hl≠.dead∧b∈ϕ i
 ls:∀b∈fl,∃i∈hs,∃hl,lk A i=some hl∧isL hl∧b∈ϕ i
 sub:∀b∈fl,b∈f
theorem zKl.app{hs hs' f f' fl fl':List Nat}(h:zKl A ϕ hs f fl)(h':zKl A ϕ hs' f' fl'):zKl A ϕ (hs++hs') (f++f') (fl++fl'):=by
 refine⟨fun b hb=>?_,fun b hb=>?_,fun b hb=>?_⟩
 ·rcases List.mem_append.1 hb with hb | hb
  ·obtain⟨i,hi,e⟩:=h.all b hb;exact⟨i,by simp[hi],e⟩
  ·obtain⟨i,hi,e⟩:=h'.all b hb;exact⟨i,by simp[hi],e⟩
 ·rcases List.mem_append.1 hb with hb | hb
  ·obtain⟨i,hi,e⟩:=h.ls b hb;exact⟨i,by simp[hi],e⟩
  ·obtain⟨i,hi,e⟩:=h'.ls b hb;exact⟨i,by simp[hi],e⟩
 ·rcases List.mem_append.1 hb with hb | hb
  ·simp[h.sub b hb]
  ·simp[h'.sub b hb]
theorem zDz:∀{ts:List PTy} {xs:List SV} {ob:Prop} {ps:List PV},zv A ts xs=some (ob,ps)→∀i∈zW xs,∃hl,lk A i=some hl∧isL hl
 | [],[],ob,ps,h,i,hi=>by cases hi
 | [],x :: xs,ob,ps,h,i,hi=>by cases h
 | t :: ts,[],ob,ps,h,i,hi=>by cases h
 | t :: ts,x :: xs,ob,ps,h,i,hi=>by
  simp only[zv] at h
  split at h
  ·rename_i o1 p o2 qs h1 h2
   cases x<;>simp only[zW] at hi<;>try exact zDz h2 i hi
   rcases List.mem_cons.1 hi with rfl | hi
   ·cases t<;>simp only[yS,reduceCtorEq] at h1
    split at h1
    ·cases h1
    ·rename_i hl;exact⟨_,hl,trivial⟩
    ·cases h1
   ·exact zDz h2 i hi
  ·cases h
theorem zCy{ts:List PTy}{xs:List SV}{ob:Prop}{ps:List PV}(h:zv A ts xs=some (ob,ps))(hob:ob)(hp:zL B X F A β ϕ w)(hk:SV.oks β xs):∃f,Lv w ts ps (SV.vals β xs) f∧zKl A ϕ (zW xs) f f:=by
 obtain⟨f,h1,h2⟩:=zAk h hob hp hk
 refine⟨f,h1,h2,fun b hb=>?_,fun b hb=>hb⟩
 obtain⟨i,hi,hl,h3,h4,h5⟩:=h2 b hb
 obtain⟨hl',h6,h7⟩:=zDz h i hi
 rw[h3] at h6;cases h6
 exact⟨i,hi,hl,h3,h7,h5⟩
theorem zKl.mono{hs hs' f fl:List Nat}(h:zKl A ϕ hs f fl)(hh:∀i∈hs,i∈hs'):zKl A ϕ hs' f fl:=
 ⟨fun b hb=>by obtain⟨i,hi,e⟩:=h.all b hb;exact⟨i,hh i hi,e⟩,fun b hb=>by obtain⟨i,hi,e⟩:=h.ls b hb;exact⟨i,hh i hi,e⟩,h.sub⟩
theorem zEY{n m:Nat}{xs:List SV}:∀i∈zW ((xs.drop n).take m),i∈zW xs:=by
 intro i hi
 have key:∀(l l':List SV),(∀x∈l,x∈l')→∀i∈zW l,i∈zW l':=by
  intro l
  induction l with
  | nil=>intro l' _ i hi;cases hi
  | cons x l ih=>
   intro l' h i hi
   have mem:∀(l:List SV) j,SV.sl j∈l→j∈zW l:=by
    intro l
    induction l with
    | nil=>intro j h;cases h
    | cons y l ih2=>
     intro j hj
     rcases List.mem_cons.1 hj with rfl | hj'
     ·simp[zW]
     ·have:=ih2 j hj'
      cases y<;>simp[zW,this]
   cases x<;>simp only[zW] at hi<;>try exact ih l' (fun y hy=>h y (by simp[hy])) i hi
   rcases List.mem_cons.1 hi with rfl | hi
   ·exact mem l' _ (h _ (by simp))
   ·exact ih l' (fun y hy=>h y (by simp[hy])) i hi
 exact key _ _ (fun x hx=>List.mem_of_mem_drop (List.mem_of_mem_take hx)) i hi
theorem zEU(β:Nat→GV)(cs:List SV)(off n:Nat):SV.vals β cs=SV.vals β (cs.take off)++(SV.vals β ((cs.drop off).take n)++SV.vals β (cs.drop (off+n))):=by
 simp only[SV.vals_map,←List.map_append]
 rw[←List.drop_drop,List.take_append_drop,List.take_append_drop]
theorem zGt{T:PTy}{x:SV}{ob:Prop}{p:PV}(h:yJ A T x=some (ob,p))(hob:ob)(hp:zL B X F A β ϕ w)(hbx:∀i o t cs,lk A i=some (.box o t cs)→SV.oks β cs)(hk:SV.ok β x) :
  ∃f fl,zOj w T p (SV.val β x) f fl∧zKl A ϕ (zDd A x) f fl:=by
 have leaf:∀(h':yS A T x=some (ob,p)),(∀f,Lv w [T] [p] [SV.val β x] f→zOj w T p (SV.val β x) f f)→x.cells=[x]→zDd A x=zW x.cells→∃f fl,zOj w T p (SV.val β x) f fl∧zKl A ϕ (zDd A x) f fl:=by
  intro h' hA hc hr
  obtain⟨f,h1,h2⟩:=zCy (ts:=[T]) (xs:=[x]) (ob:=ob∧True) (ps:=[p]) (by simp[zv,h']) ⟨hob,trivial⟩ hp ⟨hk,trivial⟩
  exact⟨f,f,hA f h1,by rw[hr,hc];exact h2⟩
 cases T with
 | agg ts=>
  cases x with
  | agg xs=>
   simp only[yJ] at h
   split at h
   ·rename_i o ps hps
    simp only[Option.some.injEq,Prod.mk.injEq] at h
    obtain⟨rfl,rfl⟩:=h
    obtain⟨f,h1,h2⟩:=zCy hps hob hp hk
    exact⟨f,f,⟨ps,_,rfl,rfl,h1,rfl⟩,h2⟩
   ·cases h
  | _=>simp[yJ,yS] at h
 | box ts=>
  cases x with
  | ptr i off=>
   simp only[yJ] at h
   split at h
   ·rename_i o t cs hl
    split at h
    ·rename_i hoff
     split at h
     ·rename_i o2 ps hps
      simp only[Option.some.injEq,Prod.mk.injEq] at h
      obtain⟨rfl,rfl⟩:=h
      obtain⟨b,t',hb,hϕ,hblk⟩:=hp.sat _ _ hl
      have hoks:SV.oks β ((cs.drop off).take ts.length):=by
       rw[SV.oks_iff];intro y hy
       exact SV.oks_iff.1 (hbx _ _ _ _ hl) y (List.mem_of_mem_drop (List.mem_of_mem_take hy))
      obtain⟨f,h1,h2⟩:=zCy hps hob hp hoks
      refine⟨b :: f,f,⟨ps,_,b,t',(β i).pre++SV.vals β (cs.take off),SV.vals β (cs.drop (off+ts.length))++(β i).post,rfl,?_,?_,h1,rfl⟩,?_⟩
      ·simp[SV.val,hb,SV.vals_map];omega
      ·rw[hblk];congr 2
       rw[zEU β cs off ts.length];simp[List.append_assoc]
      ·refine⟨fun c hc=>?_,fun c hc=>?_,fun c hc=>by simp[hc]⟩
       ·rcases List.mem_cons.1 hc with rfl | hc
        ·exact⟨i,by simp[zDd],_,hl,by simp,by rw[hϕ];simp⟩
        ·obtain⟨j,hj,e⟩:=h2.all c hc
         exact⟨j,by simp only[zDd,hl];exact List.mem_cons_of_mem _ (zEY j hj),e⟩
       ·obtain⟨j,hj,e⟩:=h2.ls c hc
        exact⟨j,by simp only[zDd,hl];exact List.mem_cons_of_mem _ (zEY j hj),e⟩
     ·cases h
    ·cases h
   ·cases h
  | _=>simp[yJ,yS] at h
 | abx T=>
  cases x with
  | ptr i off=>
   cases off with
   | zero=>
    simp only[yJ] at h
    split at h
    ·rename_i ow T' es hl
     simp only[Option.some.injEq,Prod.mk.injEq] at h
     obtain⟨rfl,rfl⟩:=h
     subst hob
     have hab:zAC w T' es (β i).v (ϕ i):=hp.sat _ _ hl
     obtain⟨b,hv⟩:=hab.ptr
     have hvv:SV.val β (.ptr i 0)=(β i).v:=by simp[SV.val,hv]
     refine⟨ϕ i,[],⟨es,rfl,by rw[hvv];exact hab,rfl⟩,?_⟩
     exact⟨fun c hc=>⟨i,by simp[zDd],_,hl,by simp,hc⟩,fun c hc=>(by cases hc),fun c hc=>(by cases hc)⟩
    ·cases h
   | succ n=>simp[yJ,yS] at h
  | _=>simp[yJ,yS] at h
 | fn g ts=>cases x<;>simp[yJ,yS] at h
 | opq=>cases x<;>simp[yJ,yS] at h
 | int k=>
  have h':yS A (.int k) x=some (ob,p):=by cases x<;>simpa[yJ] using h
  cases x<;>first | (simp[yS] at h';done) | exact leaf h' (fun f hf=>⟨hf,rfl⟩) rfl rfl
 | bool=>
  have h':yS A .bool x=some (ob,p):=by cases x<;>simpa[yJ] using h
  cases x<;>first | (simp[yS] at h';done) | exact leaf h' (fun f hf=>⟨hf,rfl⟩) rfl rfl
 | str=>
  have h':yS A .str x=some (ob,p):=by cases x<;>simpa[yJ] using h
  cases x<;>first | (simp[yS] at h';done) | exact leaf h' (fun f hf=>⟨hf,rfl⟩) rfl rfl
 | list T=>
  have h':yS A (.list T) x=some (ob,p):=by cases x<;>simpa[yJ] using h
  cases x<;>first | (simp[yS] at h';done) | exact leaf h' (fun f hf=>⟨hf,rfl⟩) rfl rfl
theorem zFm:∀{ts:List PTy} {xs:List SV} {ob:Prop} {ps:List PV},zFn A ts xs=some (ob,ps)→ob→zL B X F A β ϕ w→(∀i o t cs,lk A i=some (.box o t cs)→SV.oks β cs)→SV.oks β xs →
  ∃f fl,zIr w ts ps (SV.vals β xs) f fl∧zKl A ϕ (zI7 A xs) f fl
 | [],[],ob,ps,h,hob,hp,hbx,hk=>by cases h;exact⟨[],[],.nil,⟨by simp,by simp,by simp⟩⟩
 | [],x :: xs,ob,ps,h,hob,hp,hbx,hk=>by cases h
 | t :: ts,[],ob,ps,h,hob,hp,hbx,hk=>by cases h
 | t :: ts,x :: xs,ob,ps,h,hob,hp,hbx,hk=>by
  simp only[zFn] at h
  split at h
  ·rename_i o1 p o2 qs h1 h2
   cases h
   obtain⟨f1,l1,q1,q2⟩:=zGt h1 hob.1 hp hbx hk.1
   obtain⟨f2,l2,r1,r2⟩:=zFm h2 hob.2 hp hbx hk.2
   exact⟨_,_,.cons q1 r1,q2.app r2⟩
  ·cases h
theorem zGr{T:PTy}{x:SV}{ob:Prop}{p:PV}(h:zFE A T x=some (ob,p))(hob:ob)(hp:zL B X F A β ϕ w)(hbx:∀i o t cs,lk A i=some (.box o t cs)→SV.oks β cs)(hk:SV.ok β x) :
  ∃f fl,zPI w T p (SV.val β x) f fl∧zKl A ϕ (zRg A x) f fl:=by
 by_cases hfn:∃g ts,T=.fn g ts
 ·obtain⟨g,ts,rfl⟩:=hfn
  cases x with
  | fn g' xs=>
   simp only[zFE] at h
   split at h
   ·rename_i o ps hps
    simp only[Option.some.injEq,Prod.mk.injEq] at h
    obtain⟨rfl,rfl⟩:=h
    obtain⟨rfl,hob⟩:=hob
    obtain⟨f,fl,h1,h2⟩:=zFm hps hob hp hbx hk
    exact⟨f,fl,⟨ps,_,rfl,rfl,h1⟩,h2⟩
   ·cases h
  | _=>simp[zFE,yJ,yS] at h
 ·have h':yJ A T x=some (ob,p):=by
   cases T<;>first | exact absurd ⟨_,_,rfl⟩ hfn | (cases x<;>simpa[zFE] using h)
  have hr:zRg A x=zDd A x:=by
   cases x<;>(try rfl)
   exfalso
   cases T<;>first | exact hfn ⟨_,_,rfl⟩ | (simp[yJ,yS] at h')
  obtain⟨f,fl,h1,h2⟩:=zGt h' hob hp hbx hk
  refine⟨f,fl,?_,by rw[hr];exact h2⟩
  cases T<;>first | exact absurd ⟨_,_,rfl⟩ hfn | exact h1
end
end
section
variable [zZ]
section
variable {P:Program} {E:Env} {N:Nat} {w0:World} {X F:List Nat} {S:St} {β:Nat→GV} {ϕ:Nat→List Nat} {a:Act} {w w':World} {o:Oper} {R:RR} {A A':Hp} {B:Nat}
theorem zM8:∀{ts:List (Md × PTy)} {xs:List SV} {ob:Prop} {ps:List PV},zDc A ts xs=some (ob,ps)→zAr ts=true→ob→zL B X F A β ϕ w→(∀i o t cs,lk A i=some (.box o t cs)→SV.oks β cs)→SV.oks β xs →
  ∃fs fl,zAB w ts ps (SV.vals β xs) fs fl []∧zKl A ϕ (zB2 A ts xs) fs fl
 | [],[],ob,ps,h,hr,hob,hp,hbx,hk=>by cases h;exact⟨[],[],.nil,⟨by simp,by simp,by simp⟩⟩
 | [],x :: xs,ob,ps,h,hr,hob,hp,hbx,hk=>by cases h
 | (m,t) :: ts,[],ob,ps,h,hr,hob,hp,hbx,hk=>by cases h
 | (m,t) :: ts,x :: xs,ob,ps,h,hr,hob,hp,hbx,hk=>by
  cases m<;>simp only[zAr,Bool.false_eq_true] at hr
  simp only[zDc] at h
  split at h
  ·rename_i o1 p o2 qs h1 h2
   cases h
   obtain⟨f1,l1,q1,q2⟩:=zGr h1 hob.1 hp hbx hk.1
   obtain⟨f2,l2,r1,r2⟩:=zM8 h2 hr hob.2 hp hbx hk.2
   exact⟨_,_,.rd q1 r1,q2.app r2⟩
  ·cases h
theorem zL5:∀{ts:List (Md × PTy)} {ps:List PV} {vs:List Value} {mo:List Nat},zHm w w' ts ps vs mo→zAr ts=true→mo=[]∧ps=[]:=by
 intro ts ps vs mo h
 induction h with
 | nil=>intro _;exact⟨rfl,rfl⟩
 | rd _ ih=>intro hr;exact ih hr
 | ow _ _=>intro hr;simp[zAr] at hr
 | mt _ _ _=>intro hr;simp[zAr] at hr
 | bx _ _ _=>intro hr;simp[zAr] at hr
 | bs _ _ _=>intro hr;simp[zAr] at hr
theorem zEg{T:PTy}{p:PV}{v:Value}{f G:List Nat}{n:Nat}(hL:zLS w T p v f)(hp:zL B X F A β ϕ w)(hb:Bd n β A)(hn:(f++G).Nodup)(hw:∀b∈f,(b∈X∨B≤b)∧(b∈F∨B≤b))(hd:yB A ϕ (f++G)) :
  ∃β' ϕ',zIt B X F ((z6 .dp noP 0 n T p).2.1++A) β β' ϕ ϕ' w n (z6 .dp noP 0 n T p).2.2 [(z6 .dp noP 0 n T p).1] [v] G:=by
 by_cases hT:∃ts,T=.agg ts
 ·obtain⟨ts,rfl⟩:=hT
  obtain⟨qs,cs,fs,rfl,rfl,hL,rfl⟩:=hL
  obtain⟨β',ϕ',a1,a2,a3,a4,a5,a6,a7,a8,a9⟩:=zB5 noP (fun _=>rfl) ts qs cs fs G 0 n A β ϕ hL hp hb hn hw hd
  exact⟨β',ϕ',a1,a2,a3,a4,by simp[z6,SV.vals,SV.val,PV.A,a5],⟨a6,trivial⟩,⟨a7,trivial⟩,a8,a9⟩
 ·have hL':∃fs,LoD w [T] [p] [v] fs∧f=fs.flatten:=by cases T<;>first | exact hL | exact absurd ⟨_,rfl⟩ hT
  obtain⟨fs,hL',rfl⟩:=hL'
  have he:z6 .dp noP 0 n T p=((zB .dp noP 0 n [T] [p]).1.headD .nilp,(zB .dp noP 0 n [T] [p]).2.1,(zB .dp noP 0 n [T] [p]).2.2):=by
   cases T<;>first | rfl | exact absurd ⟨_,rfl⟩ hT
  obtain⟨β',ϕ',a1,a2,a3,a4,a5,a6,a7,a8,a9⟩:=zB5 noP (fun _=>rfl) [T] [p] [v] fs G 0 n A β ϕ hL' hp hb hn hw hd
  have hx:(zB .dp noP 0 n [T] [p]).1=[(zB .dp noP 0 n [T] [p]).1.headD .nilp]:=by cases T<;>simp[zB]
  rw[he]
  rw[hx] at a5 a6 a7
  exact⟨β',ϕ',a1,a2,a3,a4,a5,a6,a7,a8,a9⟩
theorem zJS{T:PTy}{p:PV}{v:Value}{f G:List Nat}{n:Nat}(hL:zRb w T p v f)(hp:zL B X F A β ϕ w)(hb:Bd n β A)(hn:(f++G).Nodup)(hw:∀b∈f,(b∈X∨B≤b)∧(b∈F∨B≤b))(hd:yB A ϕ (f++G)) :
  ∃β' ϕ',zIt B X F ((zAG .dp n T p).2.1++A) β β' ϕ ϕ' w n (zAG .dp n T p).2.2 [(zAG .dp n T p).1] [v] G:=by
 cases T with
 | abx T=>
  obtain⟨es,rfl,hA⟩:=hL
  obtain⟨b,rfl⟩:=hA.ptr
  have hadd:=hp.add (n:=n) (hl0:=.abx true T es) (g:=⟨.pointer (some ⟨b,0,none⟩),[],[]⟩) (f:=f) hb rfl
   hA (fun c hc=>(hw c (by simpa[zH] using hc)).1) (fun _ c hc=>(hw c hc).2) trivial
   (hd.mono fun c hc=>List.mem_append_left _ hc)
   (fun i hl hi _ c hc hm=>by
    by_cases hdd:hl=.dead
    ·subst hdd;simp[zH] at hc
    ·exact hd i hl hi hdd c (zU c hc) (List.mem_append_left _ hm)) (fun _=>⟨rfl,rfl⟩) (by simp[zM]) (by simp[zM])
  refine⟨_,_,hadd,zAh hb trivial,fun k hk=>zs _ _ _ hk,fun k hk=>zs _ _ _ hk,?_,?_,?_,?_,?_⟩
  ·simp[zAG,SV.vals,SV.val,zi]
  ·exact⟨by simp[zAG,SV.lt],trivial⟩
  ·exact⟨⟨b,0,by simp[zi]⟩,trivial⟩
  ·show n≤n+1;omega
  ·exact zA4 (hd.mono fun c hc=>List.mem_append_right _ hc) (fun i=>zBC A i) (fun c hc hm=>(List.nodup_append.1 hn).2.2 c hc c hm rfl)
 | opq=>
  obtain⟨rfl,rfl,rfl⟩:=hL
  exact⟨β,ϕ,hp,hb,fun _ _=>rfl,fun _ _=>rfl,rfl,⟨trivial,trivial⟩,⟨trivial,trivial⟩,Nat.le_refl _,(by simpa using hd:yB A ϕ G)⟩
 | _=>exact zEg hL hp hb hn hw hd
theorem zDg:∀(Ts:List PTy) (ps:List PV) (vs:List Value) (f G:List Nat) (n:Nat) (A:Hp) (β:Nat→GV) (ϕ:Nat→List Nat),zIo w Ts ps vs f→zL B X F A β ϕ w→Bd n β A →
  (f++G).Nodup→(∀b∈f,(b∈X∨B≤b)∧(b∈F∨B≤b))→yB A ϕ (f++G) →
  ∃β' ϕ',zIt B X F ((zj .dp n Ts ps).2.1++A) β β' ϕ ϕ' w n (zj .dp n Ts ps).2.2 (zj .dp n Ts ps).1 vs G:=by
 intro Ts
 induction Ts with
 | nil=>
  intro ps vs f G n A β ϕ hL hp hb hn hw hd
  cases hL
  exact⟨β,ϕ,hp,hb,fun _ _=>rfl,fun _ _=>rfl,rfl,trivial,trivial,Nat.le_refl _,(by simpa using hd:yB A ϕ G)⟩
 | cons T Ts ih=>
  intro ps vs f G n A β ϕ hL hp hb hn hw hd
  cases hL with
  | @cons _ _ p ps' v vs' f g h1 h2=>
   simp only[List.append_assoc] at hn hd
   obtain⟨β1,ϕ1,b1,b2,b3,b4,b5,b6,b7,b8,b9⟩:=zJS (n:=n) h1 hp hb hn (fun b hb=>hw b (by simp[hb])) hd
   obtain⟨β',ϕ',a1,a2,a3,a4,a5,a6,a7,a8,a9⟩:=ih ps' vs' g G _ _ _ _ h2 b1 b2 (List.nodup_append.1 hn).2.1 (fun b hb=>hw b (by simp[hb])) b9
   refine⟨β',ϕ',?_,?_,fun k hk=>(a3 k (by omega)).trans (b3 k hk),fun k hk=>(a4 k (by omega)).trans (b4 k hk),?_,?_,?_,?_,?_⟩
   ·simpa[zj,List.append_assoc] using a1
   ·simpa[zj,List.append_assoc] using a2
   ·simp only[zj,SV.vals,a5]
    simp only[SV.vals,List.cons.injEq,and_true] at b5
    rw[SV.val_congr a3 _ b6.1,b5]
   ·exact⟨SV.lt_mono a8 _ b6.1,a6⟩
   ·exact⟨SV.ok_congr a3 _ b6.1 b7.1,a7⟩
   ·simp only[zj];omega
   ·simpa[zj,List.append_assoc] using a9
theorem zMd{T:PTy}{p:PV}{v:Value}{f rs:List Nat}{n:Nat}(hL:RetN w T p v f)(hp:zL B X F A β ϕ w)(hb:Bd n β A)(hv:zAA B F A ϕ n f rs) :
  ∃β' ϕ',zL B X F ((z6 (.vw rs) noP 0 n T p).2.1++A) β' ϕ' w∧Bd (z6 (.vw rs) noP 0 n T p).2.2 β' ((z6 (.vw rs) noP 0 n T p).2.1++A)∧(∀k,k < n→β' k=β k)∧(∀k,k < n→ϕ' k=ϕ k) ∧
   SV.val β' (z6 (.vw rs) noP 0 n T p).1=v∧SV.lt (z6 (.vw rs) noP 0 n T p).2.2 (z6 (.vw rs) noP 0 n T p).1∧SV.ok β' (z6 (.vw rs) noP 0 n T p).1∧n≤(z6 (.vw rs) noP 0 n T p).2.2:=by
 by_cases hT:∃ts,T=.agg ts
 ·obtain⟨ts,rfl⟩:=hT
  obtain⟨qs,cs,rfl,rfl,hL⟩:=hL
  obtain⟨β',ϕ',a1,a2,a3,a5,a6,a7,a8,a9⟩:=zDh rs noP ts qs cs f 0 n A β ϕ hL hp hb hv zFp
  exact⟨β',ϕ',a1,a2,a3,a9,by simp[z6,SV.val,PV.A,a5],a6,a7,a8⟩
 ·have hL':Lv w [T] [p] [v] f:=by cases T<;>first | exact hL | exact absurd ⟨_,rfl⟩ hT
  have he:z6 (.vw rs) noP 0 n T p=((zB (.vw rs) noP 0 n [T] [p]).1.headD .nilp,(zB (.vw rs) noP 0 n [T] [p]).2.1,(zB (.vw rs) noP 0 n [T] [p]).2.2):=by
   cases T<;>first | rfl | exact absurd ⟨_,rfl⟩ hT
  obtain⟨β',ϕ',a1,a2,a3,a5,a6,a7,a8,a9⟩:=zDh rs noP [T] [p] [v] f 0 n A β ϕ hL' hp hb hv zFp
  have hx:(zB (.vw rs) noP 0 n [T] [p]).1=[(zB (.vw rs) noP 0 n [T] [p]).1.headD .nilp]:=by cases T<;>simp[zB]
  rw[he]
  rw[hx] at a5 a6 a7
  simp only[SV.vals,List.cons.injEq,and_true] at a5
  exact⟨β',ϕ',a1,a2,a3,a9,a5,a6.1,a7.1,a8⟩
theorem zLI{rs:List Nat}:∀{Ts:List PTy} {ps:List PV} {j n i:Nat} {hl:HL},lk (zB (.vw rs) noP j n Ts ps).2.1 i=some hl→n≤i∧zH ([]:List Nat) hl=[]∧(∀f,zH f hl=[])∧(∀o t cs,hl≠.box o t cs):=by
 intro Ts
 induction Ts with
 | nil=>intro ps j n i hl h;simp[zB,lk] at h
 | cons T Ts ih=>
  intro ps j n i hl h
  cases ps with
  | nil=>cases T<;>simp[zB,lk] at h
  | cons p ps=>
   cases T<;>simp only[zB] at h<;>try exact ih h
   rw[zF0] at h
   split at h
   ·rename_i x hx
    cases h
    obtain⟨h1,h2⟩:=ih hx
    exact⟨by omega,h2⟩
   ·simp only[lk] at h
    split at h
    ·rename_i e
     cases h
     exact⟨by omega,rfl,fun _=>rfl,by simp⟩
    ·cases h
theorem zIv{rs f:List Nat}{n n':Nat}{D:Hp}{ϕ':Nat→List Nat}(h:zAA B F A ϕ n f rs)(hb:Bd n β A)(hle:n≤n')(hD:∀i hl,lk D i=some hl→n≤i∧(∀f,zH f hl=[])∧(∀o t cs,hl≠.box o t cs))(hϕ:∀k,k < n→ϕ' k=ϕ k):zAA B F (D++A) ϕ' n' f rs:=by
 refine⟨?_,h.all,?_,fun r hr=>by have:=h.lt r hr;omega⟩
 ·intro i hl hi hn b hb'
  rw[zF0] at hi
  split at hi
  ·rename_i x hx
   cases hi
   rw[(hD i _ hx).2.1] at hb';cases hb'
  ·rw[hϕ i (hb i hl hi).1] at hb'
   exact h.dj i hl hi hn b hb'
 ·intro r hr o t cs hl
  rw[zF0] at hl
  split at hl
  ·rename_i x hx
   cases hl
   exact(hD r _ hx).2.2 o t cs rfl
  ·exact h.bx r hr o t cs hl
theorem zLG{rs:List Nat}:∀(Ts:List PTy) (ps:List PV) (vs:List Value) (f:List Nat) (n:Nat) (A:Hp) (β:Nat→GV) (ϕ:Nat→List Nat),zLT w Ts ps vs f→zL B X F A β ϕ w→Bd n β A→zAA B F A ϕ n f rs →
  ∃β' ϕ',zL B X F ((zj (.vw rs) n Ts ps).2.1++A) β' ϕ' w∧Bd (zj (.vw rs) n Ts ps).2.2 β' ((zj (.vw rs) n Ts ps).2.1++A)∧(∀k,k < n→β' k=β k) ∧
   SV.vals β' (zj (.vw rs) n Ts ps).1=vs∧SV.lts (zj (.vw rs) n Ts ps).2.2 (zj (.vw rs) n Ts ps).1∧SV.oks β' (zj (.vw rs) n Ts ps).1∧n≤(zj (.vw rs) n Ts ps).2.2:=by
 intro Ts
 induction Ts with
 | nil=>
  intro ps vs f n A β ϕ hL hp hb hv
  cases hL
  exact⟨β,ϕ,hp,hb,fun _ _=>rfl,rfl,trivial,trivial,Nat.le_refl _⟩
 | cons T Ts ih=>
  intro ps vs f n A β ϕ hL hp hb hv
  cases hL with
  | @cons _ _ p ps' v vs' f g h1 h2=>
   have he:zAG (.vw rs) n T p=z6 (.vw rs) noP 0 n T p:=by
    cases T<;>first | rfl | cases h1
   obtain⟨β1,ϕ1,b1,b2,b3,b4,b5,b6,b7,b8⟩:=zMd (n:=n) h1 hp hb (hv.mono fun b hb=>by simp[hb])
   simp only[zj,he]
   have hD:∀i hl,lk (z6 (.vw rs) noP 0 n T p).2.1 i=some hl→n≤i∧(∀f,zH f hl=[])∧(∀o t cs,hl≠.box o t cs):=by
    intro i hl hi
    have:∃Ts' ps',(z6 (.vw rs) noP 0 n T p).2.1=(zB (.vw rs) noP 0 n Ts' ps').2.1:=by
     cases T<;>exact⟨_,_,rfl⟩
    obtain⟨Ts',ps',e⟩:=this
    rw[e] at hi
    obtain⟨q1,_,q2,q3⟩:=zLI hi
    exact⟨q1,q2,q3⟩
   obtain⟨β',ϕ',a1,a2,a3,a5,a6,a7,a8⟩:=ih ps' vs' g _ _ _ _ h2 b1 b2 (zIv (hv.mono fun b hb=>by simp[hb]) hb b8 hD b4)
   refine⟨β',ϕ',?_,?_,fun k hk=>(a3 k (by omega)).trans (b3 k hk),?_,?_,?_,?_⟩
   ·simpa[List.append_assoc] using a1
   ·simpa[List.append_assoc] using a2
   ·simp only[SV.vals,a5]
    rw[SV.val_congr a3 _ b6,b5]
   ·exact⟨SV.lt_mono a8 _ b6,a6⟩
   ·exact⟨SV.ok_congr a3 _ b6 b7,a7⟩
   ·omega
theorem zD1{β:Nat→GV}{xs:List SV}{vs:List Value}(h:SV.vals β xs=vs):zKv vs=SV.val β (zI8 xs):=by
 subst h
 match xs with
 | []=>rfl
 | [x]=>rfl
 | x :: y :: r=>rfl
theorem zFH{n:Nat}{xs:List SV}(h:SV.lts n xs):SV.lt n (zI8 xs):=by
 match xs,h with
 | [],h=>exact h
 | [x],h=>exact h.1
 | x :: y :: r,h=>exact h
theorem zFG{β:Nat→GV}{xs:List SV}(h:SV.oks β xs):SV.ok β (zI8 xs):=by
 match xs,h with
 | [],h=>exact h
 | [x],h=>exact h.1
 | x :: y :: r,h=>exact h
theorem zBl{hs:List Nat}{r:Nat}:r∈zAu A hs↔∃h∈hs,(∃rs T es p,lk A h=some (.arr (.vw rs) T es p)∧r∈rs)∨(r=h∧∃o T es p,lk A h=some (.arr o T es p)∧∀rs,o≠.vw rs):=by
 induction hs with
 | nil=>simp[zAu]
 | cons x l ih=>
  simp only[zAu,List.mem_append,ih,List.mem_cons,exists_eq_or_imp]
  refine or_congr ?_ Iff.rfl
  cases hx:lk A x with
  | none=>simp
  | some hl=>
   cases hl with
   | arr o T es p=>cases o<;>simp[hx]
   | _=>simp
theorem zC7{c:Call}{f:Operand}{fid:Nat}{caps vs:List SV}{ob:Prop}{fn:Func}(ho:o.op=.call c)(hc:c.callee=.value f)(f3:a.eval f=SV.val β (.fn fid caps))(v3:c.args.toList.map a.eval=SV.vals β vs)
  (hfn:P.funcs[fid]?=some fn) (hbody:fn.body.isNone=false) (hname:(fn.name == "runtime.NumGoroutine")=false):(execOp a.eval o).run P w=.ok (.enter fid (SV.vals β (vs++caps)).toArray) w:=by
 have harr:Array.map a.eval c.args=(SV.vals β vs).toArray:=by
  rw[←v3];apply Array.ext';simp
 have happ:(SV.vals β vs).toArray++(SV.vals β caps).toArray=(SV.vals β (vs++caps)).toArray:=by
  simp[SV.vals_map]
 simp only[execOp,ho,resolve,hc,harr,f3,SV.val,Deferred.ofValue,pure_bind,invoke]
 simp only[Array.empty_append,happ,callFunc,Sem.run_bind,run_program,Result.andThen_ok,hfn,hname,Bool.false_eq_true,if_false,hbody]
 rfl
theorem zQG{s:zS}{ob:Prop}{ps:List PV}{xs:List SV}{fid:Nat}(hm:zJp P fid s)(hps:zDc S.A s.args xs=some (ob,ps))(hr:zAr s.args=true)(hk:SV.oks β xs)(sat:Sat N w0 X F S β ϕ a w)(hob:(zGR S true s ob ps xs).ob) :
  Calls P fid (SV.vals β xs).toArray w fun e w'=>∃v β' ϕ',e=.returned v∧zLU w0 X F S (zGR S true s ob ps xs) β ϕ o.dst v w' β' ϕ'∧Fr w [] w':=by
 obtain⟨q1,_,q3⟩:=hob
 obtain⟨q1,q2⟩:=q1 rfl
 have hbx:∀i o t cs,lk S.A i=some (.box o t cs)→SV.oks β cs:=fun i o t cs hi=>(sat.hb _ _ hi).2.2
 obtain⟨fs,fl,hargs,hfrom⟩:=zM8 hps hr q1 sat.hp hbx hk
 refine(hm w ps _ fs fl [] hargs (by simp) (by simp) q2 (sat.gl.now sat.fr (by simp))).mono fun e w' he=>?_
 obtain⟨rvs,rfl,hFr,hcase⟩:=he
 have hgrow:∀b,b < w.heap.size→w'.heap[b]?=w.heap[b]?:=fun b hb=>hFr.block b hb (by simp)
 have hp':=sat.hp.grow hgrow
 have hfr:Fr w0 X w':=sat.fr.trans hFr (fun x hx=>hx) (by simp)
 rcases hcase with ⟨hfresh,fr,mo,hret,hout,hnd,hge⟩ | ⟨hfresh,_,fr,hret,hge⟩
 ·obtain⟨rfl,_⟩:=zL5 hout hr
  have hge':∀b∈fr,w.heap.size≤b:=fun b hb=>by simpa using hge b (by simp[hb])
  obtain⟨β',ϕ',b1,b2,b3,b4,b5,b6,b7,b8,b9⟩:=zDg s.ret (s.res ps) rvs fr [] S.n S.A β ϕ hret hp' sat.hb (by simpa using hnd) (fun b hb=>⟨.inr (Nat.le_trans sat.fr.size (hge' b hb)),.inr (Nat.le_trans sat.fr.size (hge' b hb))⟩)
   (fun i hl hi hd b hb hm=>by
    have h1:=sat.hp.inb hi hd b hb
    have h2:=hge' b (by simpa using hm)
    omega)
  simp only[zGR,hfresh,if_true]
  exact⟨_,β',ϕ',rfl,⟨fun _=>zD1 b5,b3,b1,b2,zFH b6,zFG b7,b8,hfr⟩,hFr⟩
 ·have hv:zAA w0.heap.size F S.A ϕ S.n fr (zAu S.A (zB2 S.A s.args xs)):=by
   refine⟨?_,?_,?_,?_⟩
   ·intro i hl hi hn b hb hm
    by_cases hd:hl=.dead
    ·subst hd;simp[zH] at hb
    ·rcases hge b hm with h1 | h1
     ·obtain⟨j,hj,hl',e1,e2,e3⟩:=hfrom.ls b h1
      cases hl'<;>simp only[isL] at e2
      rename_i o T es p
      by_cases hij:i=j
      ·subst hij
       rw[hi] at e1;cases e1
       refine hn (zBl.2 ⟨i,hj,.inr ⟨rfl,o,T,es,p,hi,fun rs e=>?_⟩⟩)
       subst e;simp[zH] at hb
      ·refine sat.hp.dj i j hl _ hi e1 hij (fun hr=>hn ?_) (by simp) b hb e3
       cases o<;>simp only[zM,List.not_mem_nil] at hr
       exact zBl.2 ⟨j,hj,.inl ⟨_,_,_,_,e1,hr⟩⟩
     ·have:=sat.hp.inb hi hd b (zU b hb);omega
   ·intro b hb
    rcases hge b hb with h1 | h1
    ·obtain⟨j,hj,hl',e1,e2,e3⟩:=hfrom.ls b h1
     exact sat.hp.all _ _ e1 e2.isA b e3
    ·exact .inr (Nat.le_trans sat.fr.size h1)
   ·intro r hr o t cs hc
    obtain⟨h,hh,⟨rs,T,es,p,e1,e2⟩ | ⟨rfl,o,T,es,p,e1,e2⟩⟩:=zBl.1 hr
    ·exact sat.hp.rt h _ e1 r e2 _ _ _ hc
    ·rw[e1] at hc;cases hc
   ·intro r hr
    obtain⟨h,hh,⟨rs,T,es,p,e1,e2⟩ | ⟨rfl,o,T,es,p,e1,e2⟩⟩:=zBl.1 hr
    ·exact(sat.hb _ _ e1).2 r e2
    ·exact(sat.hb _ _ e1).1
  obtain⟨β',ϕ',b1,b2,b3,b5,b6,b7,b8⟩:=zLG s.ret (s.res ps) rvs fr S.n S.A β ϕ hret hp' sat.hb hv
  simp only[zGR,hfresh,Bool.false_eq_true,if_false]
  exact⟨_,β',ϕ',rfl,⟨fun _=>zD1 b5,b3,b1,b2,zFH b6,zFG b7,b8,hfr⟩,hFr⟩
end
end
section
variable [zZ]
section
variable {P:Program} {E:Env} {N:Nat} {w0:World} {X F:List Nat} {S:St} {β:Nat→GV} {ϕ:Nat→List Nat} {a:Act} {w w':World} {o:Oper} {R:RR} {A A0 A':Hp} {B:Nat}
structure zPD (A A0:Hp):Prop where
 lk:∀j hl,Go.Proofs.YtdmbfkooebldcaaGreatDoor.lk A0 j=some hl→hl≠.dead→∃hl0,Go.Proofs.YtdmbfkooebldcaaGreatDoor.lk A j=some hl0∧zBA hl hl0
 bx:∀j t o cs,Go.Proofs.YtdmbfkooebldcaaGreatDoor.lk A j=some (.box o t cs)→Go.Proofs.YtdmbfkooebldcaaGreatDoor.lk A0 j=some (.box o t cs)
 ab:∀j o T cs,Go.Proofs.YtdmbfkooebldcaaGreatDoor.lk A j=some (.abx o T cs)→Go.Proofs.YtdmbfkooebldcaaGreatDoor.lk A0 j=some (.abx o T cs)
def zFC(A:Hp)(hs:List Nat):Prop:=∀i∈hs,∃hl,lk A i=some hl∧hl≠.dead
theorem zH6{t:PTy}{x:SV}{r:Prop × PV}(h:yS A t x=some r)(hs:zPD A A0)(ha:zFC A0 (zW [x])):yS A0 t x=some r:=by
 cases t<;>cases x<;>simp only[yS,reduceCtorEq] at h ⊢<;>try exact h
 rename_i T i
 obtain⟨hl,h1,h2⟩:=ha i (by simp[zW])
 obtain⟨hl0,h3,h4⟩:=hs.lk i hl h1 h2
 rw[h1]
 rw[h3] at h
 cases hl0 with
 | arr o0 T0 es0 p0=>
  cases hl with
  | arr o1 T1 es1 p1=>
   obtain⟨rfl,rfl,h5,h6⟩:=h4
   have hn:∀k,o0≠.cs k:=by intro k e;subst e;simp at h
   have hn1:∀k,o1≠.cs k:=by
    intro k e
    exact hn k (h5 k e)
   cases o1<;>cases o0<;>first | exact absurd rfl (hn _) | exact absurd rfl (hn1 _) | exact h
  | _=>simp[zBA] at h4
 | _=>simp at h
theorem zLR{x:SV}{xs:List SV}(h:zFC A (zW (x :: xs))):zFC A (zW [x])∧zFC A (zW xs):=by
 cases x<;>simp only[zW] at h ⊢<;>first | exact⟨fun i hi=>(by cases hi),h⟩ | exact⟨fun i hi=>h i (by simp at hi;simp[hi]),fun i hi=>h i (by simp[hi])⟩
theorem zCx:∀{ts:List PTy} {xs:List SV} {r:Prop × List PV},zv A ts xs=some r→zPD A A0→zFC A0 (zW xs)→zv A0 ts xs=some r
 | [],[],r,h,_,_=>h
 | [],x :: xs,r,h,_,_=>by cases h
 | t :: ts,[],r,h,_,_=>by cases h
 | t :: ts,x :: xs,r,h,hs,ha=>by
  obtain⟨ha1,ha2⟩:=zLR ha
  simp only[zv] at h ⊢
  split at h
  ·rename_i o p o' ps h1 h2
   rw[zH6 h1 hs ha1,zCx h2 hs ha2];exact h
  ·cases h
theorem zAb{hs hs':List Nat}(h:zFC A hs)(hh:∀i∈hs',i∈hs):zFC A hs':=fun i hi=>h i (hh i hi)
theorem zH8{t:PTy}{x:SV}{r:Prop × PV}(h:yJ A t x=some r)(hs:zPD A A0)(ha:zFC A0 (zDd A0 x)):yJ A0 t x=some r:=by
 have leaf:yS A t x=some r→(∀xs,x≠.agg xs)→(∀i j,x≠.ptr i j)→yS A0 t x=some r:=by
  intro h' hn1 hn2
  refine zH6 h' hs (zAb ha fun i hi=>?_)
  cases x<;>simp[zW] at hi
  simp[zDd,SV.cells,zW,hi]
 cases t with
 | agg ts=>
  cases x with
  | agg xs=>
   simp only[yJ] at h ⊢
   split at h
   ·rename_i o ps hps
    rw[zCx hps hs (zAb ha fun i hi=>hi)];exact h
   ·cases h
  | _=>simp[yJ,yS] at h
 | box ts=>
  cases x with
  | ptr i off=>
   simp only[yJ] at h ⊢
   split at h
   ·rename_i o t cs hl
    have hl':=hs.bx _ _ _ _ hl
    rw[hl']
    dsimp only
    split at h
    ·rename_i hc
     rw[if_pos hc]
     split at h
     ·rename_i o2 ps hps
      rw[zCx hps hs (zAb ha fun j hj=>by simp only[zDd,hl'];exact List.mem_cons_of_mem _ (zEY j hj))];exact h
     ·cases h
    ·cases h
   ·cases h
  | _=>simp[yJ,yS] at h
 | abx T=>
  cases x with
  | ptr i off=>
   cases off with
   | zero=>
    simp only[yJ] at h ⊢
    split at h
    ·rename_i ow T' es hl
     rw[hs.ab _ _ _ _ hl];exact h
    ·cases h
   | succ n=>simp[yJ,yS] at h
  | _=>simp[yJ,yS] at h
 | fn g ts=>cases x<;>simp[yJ,yS] at h
 | opq=>cases x<;>simp[yJ,yS] at h
 | int k=>cases x<;>simp only[yJ] at h ⊢<;>first | (simp[yS] at h;done) | exact leaf h (by simp) (by simp)
 | bool=>cases x<;>simp only[yJ] at h ⊢<;>first | (simp[yS] at h;done) | exact leaf h (by simp) (by simp)
 | str=>cases x<;>simp only[yJ] at h ⊢<;>first | (simp[yS] at h;done) | exact leaf h (by simp) (by simp)
 | list T=>cases x<;>simp only[yJ] at h ⊢<;>first | (simp[yS] at h;done) | exact leaf h (by simp) (by simp)
theorem zGs:∀{ts:List PTy} {xs:List SV} {r:Prop × List PV},zFn A ts xs=some r→zPD A A0→zFC A0 (zI7 A0 xs)→zFn A0 ts xs=some r
 | [],[],r,h,_,_=>h
 | [],x :: xs,r,h,_,_=>by cases h
 | t :: ts,[],r,h,_,_=>by cases h
 | t :: ts,x :: xs,r,h,hs,ha=>by
  simp only[zFn] at h ⊢
  split at h
  ·rename_i o p o' ps h1 h2
   rw[zH8 h1 hs (zAb ha fun i hi=>by simp[zI7,hi]),zGs h2 hs (zAb ha fun i hi=>by simp[zI7,hi])];exact h
  ·cases h
theorem zLx{t:PTy}{x:SV}{r:Prop × PV}(h:zFE A t x=some r)(hs:zPD A A0)(ha:zFC A0 (zRg A0 x)):zFE A0 t x=some r:=by
 by_cases hfn:∃g ts,t=.fn g ts
 ·obtain⟨g,ts,rfl⟩:=hfn
  cases x with
  | fn g' xs=>
   simp only[zFE] at h ⊢
   split at h
   ·rename_i o ps hps
    rw[zGs hps hs ha];exact h
   ·cases h
  | _=>simp[zFE,yJ,yS] at h
 ·have e:∀A,zFE A t x=yJ A t x:=by
   intro A
   cases t<;>first | exact absurd ⟨_,_,rfl⟩ hfn | (cases x<;>rfl)
  rw[e] at h ⊢
  have hr:zRg A0 x=zDd A0 x:=by
   cases x<;>(try rfl)
   exfalso
   cases t<;>first | exact hfn ⟨_,_,rfl⟩ | (simp[yJ,yS] at h)
  exact zH8 h hs (by rw[←hr];exact ha)
def zOi(A:Hp)(ϕ:Nat→List Nat)(h:Nat):Prop:=∃hl,lk A h=some hl∧hl≠.dead∧zH (ϕ h) hl=ϕ h∧(ϕ h).Nodup∧zM hl=[]
theorem zHX(hp:zL B X F A β ϕ w){h:Nat}(hd:dpB A h=true):zOi A ϕ h:=by
 obtain⟨T,es,p,e⟩:=zCq.1 hd
 exact⟨_,e,by simp,rfl,hp.nd _ _ e,rfl⟩
theorem zF1(hp:zL B X F A β ϕ w){hs:List Nat}(h1:∀h∈hs,zOi A ϕ h)(h2:hs.Nodup):(hs.map ϕ).flatten.Nodup:=by
 refine zEe h2 (fun i hi=>?_) (fun i hi j hj hne b hb=>?_)
 ·obtain⟨hl,_,_,_,e,_⟩:=h1 i hi;exact e
 ·obtain⟨hl,e1,e2,e3,_,e4⟩:=h1 i hi
  obtain⟨hl',f1,f2,f3,_,f4⟩:=h1 j hj
  exact hp.dj i j _ _ e1 f1 hne (by rw[f4];simp) f2 b (by rw[e3];exact hb)
theorem zD9{hs:List Nat}(h1:∀h∈hs,zOi A ϕ h):∀b∈(hs.map ϕ).flatten,∃i∈hs,∃hl,lk A i=some hl∧b∈zH (ϕ i) hl:=by
 intro b hb
 simp only[List.mem_flatten,List.mem_map] at hb
 obtain⟨_,⟨h,hh,rfl⟩,hb⟩:=hb
 obtain⟨hl,e1,e2,e3,_⟩:=h1 h hh
 exact⟨h,hh,hl,e1,by rw[e3];exact hb⟩
theorem zDn(hp:zL B X F A0 β ϕ w)(hs:zPD A A0):∀{ts:List (Md × PTy)} {xs:List SV} {ob:Prop} {ps:List PV},zDc A ts xs=some (ob,ps)→ob→(∀i o t cs,lk A0 i=some (.box o t cs)→SV.oks β cs)→SV.oks β xs→yG A0 ts xs→zFC A0 (zB2 A0 ts xs) →
  ∃fs fl,zAB w ts ps (SV.vals β xs) fs fl ((zy A0 ts xs).map ϕ).flatten∧zKl A0 ϕ (zB2 A0 ts xs) fs fl∧(∀h∈zy A0 ts xs,zOi A0 ϕ h)∧zy A ts xs=zy A0 ts xs
 | [],[],ob,ps,h,hob,hbx,hk,hl,ha=>by cases h;exact⟨[],[],.nil,⟨by simp,by simp,by simp⟩,by simp[zy],rfl⟩
 | [],x :: xs,ob,ps,h,hob,hbx,hk,hl,ha=>by cases h
 | (m,t) :: ts,[],ob,ps,h,hob,hbx,hk,hl,ha=>by cases h
 | (m,t) :: ts,x :: xs,ob,ps,h,hob,hbx,hk,hl,ha=>by
  simp only[zDc] at h
  split at h
  ·rename_i o1 p o2 qs h1 h2
   cases h
   have lists:∀{us:List PTy} {ys:List SV} {o:Prop} {rs:List PV},zv A us ys=some (o,rs)→o→SV.oks β ys→zAX A0 (zW ys)=true→LoD w us rs (SV.vals β ys) (zEi ϕ ys):=by
    intro us ys o rs q1 q2 q3 q4
    refine yx q1 q2 q3 fun h hh o T es p hA=>?_
    obtain⟨T',es',p',e⟩:=zCq.1 (zAW.1 q4 h hh)
    obtain⟨hl0,e1,e2⟩:=hs.lk h _ e (by simp)
    rw[hA] at e1;cases e1
    obtain⟨rfl,rfl,_⟩:=e2
    exact hp.sat _ _ e
   have arg:(∃T,t=.list T)∨(∃us,t=.agg us)→zAX A0 (zW x.cells)=true→zNG w t p (SV.val β x) ((zW x.cells).map ϕ).flatten:=by
    rintro(⟨T,rfl⟩ | ⟨us,rfl⟩) hd
    ·have h':yS A (.list T) x=some (o1,p):=by cases x<;>simpa[zFE,yJ] using h1
     have hc:x.cells=[x]:=by cases x<;>first | rfl | (simp[yS] at h')
     have:=lists (us:=[.list T]) (ys:=[x]) (o:=o1∧True) (rs:=[p]) (by simp[zv,h']) ⟨hob.1,trivial⟩ ⟨hk.1,trivial⟩ (by rw[←hc];exact hd)
     rw[hc,←y8]
     generalize zEi ϕ [x]=fs at this
     cases this with
     | list hO hr=>cases hr;exact⟨_,rfl,by simpa using hO⟩
    ·cases x with
     | agg ys=>
      simp only[zFE,yJ] at h1
      split at h1
      ·rename_i o ps hps
       simp only[Option.some.injEq,Prod.mk.injEq] at h1
       obtain⟨rfl,rfl⟩:=h1
       exact⟨ps,_,_,rfl,rfl,lists hps hob.1 hk.1 hd,by rw[y8];rfl⟩
      ·cases h1
     | _=>simp[zFE,yJ,yS] at h1
   have lents:∀{ys:List SV},zAX A0 (zW ys)=true→∀h∈zW ys,zOi A0 ϕ h:=fun hd h hh=>zHX hp (zAW.1 hd h hh)
   cases m with
   | rd=>
    obtain⟨fs,fl,r1,r2,r3,r4⟩:=zDn hp hs h2 hob.2 hbx hk.2 (by cases t<;>exact hl) (zAb ha fun i hi=>by simp[zB2,hi])
    obtain⟨f1,l1,q1,q2⟩:=zGr (zLx h1 hs (zAb ha fun i hi=>by simp[zB2,hi])) hob.1 hp hbx hk.1
    exact⟨_,_,.rd q1 r1,q2.app r2,r3,by simp only[zy,zA9,List.nil_append];exact r4⟩
   | mt=>
    have ht:((∃T,t=.list T)∨∃us,t=.agg us)∧zAX A0 (zW x.cells)=true∧yG A0 ts xs:=by
     cases t<;>simp only[yG] at hl<;>first | exact⟨.inl ⟨_,rfl⟩,hl.1,hl.2⟩ | exact⟨.inr ⟨_,rfl⟩,hl.1,hl.2⟩
    obtain⟨fs,fl,r1,r2,r3,r4⟩:=zDn hp hs h2 hob.2 hbx hk.2 ht.2.2 ha
    refine⟨fs,fl,?_,r2,?_,by simp only[zy,zA9,r4]⟩
    ·have:=zAB.mt (arg ht.1 ht.2.1) r1
     simpa[zy,zA9,SV.vals] using this
    ·intro h hh
     rcases List.mem_append.1 hh with hh | hh
     ·exact lents ht.2.1 h hh
     ·exact r3 h hh
   | ow=>
    have ht:((∃T,t=.list T)∨∃us,t=.agg us)∧zAX A0 (zW x.cells)=true∧yG A0 ts xs:=by
     cases t<;>simp only[yG] at hl<;>first | exact⟨.inl ⟨_,rfl⟩,hl.1,hl.2⟩ | exact⟨.inr ⟨_,rfl⟩,hl.1,hl.2⟩
    obtain⟨fs,fl,r1,r2,r3,r4⟩:=zDn hp hs h2 hob.2 hbx hk.2 ht.2.2 ha
    refine⟨fs,fl,?_,r2,?_,by simp only[zy,zA9,r4]⟩
    ·have:=zAB.ow (arg ht.1 ht.2.1) r1
     simpa[zy,zA9,SV.vals] using this
    ·intro h hh
     rcases List.mem_append.1 hh with hh | hh
     ·exact lents ht.2.1 h hh
     ·exact r3 h hh
   | bx=>
    cases t with
    | box us=>
     cases x with
     | ptr i off=>
      simp only[yG] at hl
      obtain⟨hl1,hl2⟩:=hl
      obtain⟨fs,fl,r1,r2,r3,r4⟩:=zDn hp hs h2 hob.2 hbx hk.2 hl2 ha
      simp only[zFE,yJ] at h1
      split at h1
      ·rename_i o t' cs hA
       have hA0:=hs.bx _ _ _ _ hA
       rw[hA0] at hl1
       split at h1
       ·rename_i hc
        split at h1
        ·rename_i o2 ps hps
         simp only[Option.some.injEq,Prod.mk.injEq] at h1
         obtain⟨rfl,rfl⟩:=h1
         have hown:o=true∧zAX A0 (zW ((cs.drop off).take us.length))=true:=by
          cases o<;>simp only at hl1<;>first | exact⟨rfl,hl1⟩ | exact hl1.elim
         obtain⟨rfl,hd⟩:=hown
         obtain⟨b,t2,hb,hϕ,hblk⟩:=hp.sat _ _ hA0
         have hoks:SV.oks β ((cs.drop off).take us.length):=by
          rw[SV.oks_iff];intro y hy
          exact SV.oks_iff.1 (hbx _ _ _ _ hA0) y (List.mem_of_mem_drop (List.mem_of_mem_take hy))
         have hLo:=lists hps hob.1 hoks hd
         have hx:zR5 w (.box us) (.agg ps) (SV.val β (.ptr i off)) (b :: (zEi ϕ ((cs.drop off).take us.length)).flatten):=by
          refine⟨ps,_,_,b,t2,(β i).pre++SV.vals β (cs.take off),SV.vals β (cs.drop (off+us.length))++(β i).post,rfl,?_,?_,hLo,rfl⟩
          ·simp[SV.val,hb,SV.vals_map];omega
          ·rw[hblk];congr 2
           rw[zEU β cs off us.length];simp[List.append_assoc]
         refine⟨fs,fl,?_,r2,?_,?_⟩
         ·have:=zAB.bx hx r1
          simp only[zy,zA9,hA0,List.map_append,List.map_cons,List.flatten_append,List.flatten_cons,hϕ,←y8,List.cons_append,List.append_assoc,List.nil_append,SV.vals] at this ⊢
          exact this
         ·intro h hh
          simp only[zy,zA9,hA0,List.mem_append,List.mem_cons] at hh
          rcases hh with (rfl | hh) | hh
          ·exact⟨_,hA0,by simp,rfl,by rw[hϕ];simp,rfl⟩
          ·exact lents hd h hh
          ·exact r3 h hh
         ·simp only[zy,zA9,hA,hA0,r4]
        ·cases h1
       ·cases h1
      ·cases h1
     | _=>simp[yG] at hl
    | abx T=>
     cases x with
     | ptr i off=>
      cases off with
      | zero=>
       simp only[yG] at hl
       obtain⟨hl1,hl2⟩:=hl
       obtain⟨fs,fl,r1,r2,r3,r4⟩:=zDn hp hs h2 hob.2 hbx hk.2 hl2 ha
       simp only[zFE,yJ] at h1
       split at h1
       ·rename_i ow T' es hA
        simp only[Option.some.injEq,Prod.mk.injEq] at h1
        obtain⟨rfl,rfl⟩:=h1
        have:=hob.1
        subst this
        have hA0:=hs.ab _ _ _ _ hA
        rw[hA0] at hl1
        have:ow=true:=by cases ow<;>simp at hl1 ⊢
        subst this
        have hab:zAC w T' es (β i).v (ϕ i):=hp.sat _ _ hA0
        obtain⟨b,hv⟩:=hab.ptr
        have hvv:SV.val β (.ptr i 0)=(β i).v:=by simp[SV.val,hv]
        have hx:zR5 w (.abx T') (.list es) (SV.val β (.ptr i 0)) (ϕ i):=⟨es,rfl,by rw[hvv];exact hab⟩
        refine⟨fs,fl,?_,r2,?_,by simp only[zy,zA9,r4]⟩
        ·have:=zAB.bx hx r1
         simp only[zy,zA9,List.map_append,List.map_cons,List.map_nil,List.flatten_append,List.flatten_cons,List.flatten_nil,List.append_nil,SV.vals] at this ⊢
         exact this
        ·intro h hh
         simp only[zy,zA9,List.mem_append,List.mem_singleton] at hh
         rcases hh with rfl | hh
         ·exact⟨_,hA0,by simp,rfl,hab.nd,rfl⟩
         ·exact r3 h hh
       ·cases h1
      | succ n=>simp[yG] at hl
     | _=>simp[yG] at hl
    | _=>simp[yG] at hl
   | bs=>
    cases t with
    | box us=>
     cases x with
     | ptr i off=>
      simp only[yG] at hl
      obtain⟨hl1,hl2⟩:=hl
      simp only[zFE,yJ] at h1
      split at h1
      ·rename_i o t' cs hA
       have hA0:=hs.bx _ _ _ _ hA
       rw[hA0] at hl1
       split at h1
       ·rename_i hc
        split at h1
        ·rename_i o2 ps hps
         simp only[Option.some.injEq,Prod.mk.injEq] at h1
         obtain⟨rfl,rfl⟩:=h1
         have hown:o=true:=by cases o<;>simp at hl1 ⊢
         subst hown
         have e1:bsHs A0 (.box us) (.ptr i off)=zW ((cs.drop off).take us.length):=by simp only[bsHs,hA0]
         have hps':=zCx hps hs (zAb ha fun j hj=>by simp only[zB2,e1];exact List.mem_append_left _ hj)
         obtain⟨fs,fl,r1,r2,r3,r4⟩:=zDn hp hs h2 hob.2 hbx hk.2 hl2 (zAb ha fun j hj=>by simp[zB2,hj])
         obtain⟨b,t2,hb,hϕ,hblk⟩:=hp.sat _ _ hA0
         have hoks:SV.oks β ((cs.drop off).take us.length):=by
          rw[SV.oks_iff];intro y hy
          exact SV.oks_iff.1 (hbx _ _ _ _ hA0) y (List.mem_of_mem_drop (List.mem_of_mem_take hy))
         obtain⟨f,q4,q5⟩:=zCy hps' hob.1 hp hoks
         have hx:zUT w (.box us) (.agg ps) (SV.val β (.ptr i off)) f b:=by
          refine⟨ps,_,t2,(β i).pre++SV.vals β (cs.take off),SV.vals β (cs.drop (off+us.length))++(β i).post,rfl,?_,?_,q4⟩
          ·simp[SV.val,hb,SV.vals_map];omega
          ·rw[hblk];congr 2
           rw[zEU β cs off us.length];simp[List.append_assoc]
         refine⟨f++fs,f++fl,?_,?_,?_,?_⟩
         ·have:=zAB.bs hx r1
          simp only[zy,zA9,List.map_append,List.map_cons,List.map_nil,List.flatten_append,List.flatten_cons,List.flatten_nil,List.append_nil,hϕ,SV.vals,List.cons_append,List.nil_append] at this ⊢
          exact this
         ·simp only[zB2,e1];exact q5.app r2
         ·intro h hh
          simp only[zy,zA9,List.mem_append,List.mem_singleton] at hh
          rcases hh with rfl | hh
          ·exact⟨_,hA0,by simp,rfl,by rw[hϕ];simp,rfl⟩
          ·exact r3 h hh
         ·simp only[zy,zA9,r4]
        ·cases h1
       ·cases h1
      ·cases h1
     | _=>simp[yG] at hl
    | _=>simp[yG] at hl
  ·cases h
end
end
section
variable [zZ]
section
variable {P:Program} {E:Env} {N:Nat} {w0:World} {X F:List Nat} {S:St} {β:Nat→GV} {ϕ:Nat→List Nat} {a:Act} {w w':World} {o:Oper} {R:RR} {A A0 A':Hp} {B:Nat}
theorem zHO{n h:Nat}{T:PTy}{es:List PV}{f G:List Nat}(hp:zL B X F A β ϕ w)(hb:Bd n β A)(hh:h < n)(hd:∀hl,lk A h=some hl→hl=.dead)(ho:zCG w (β h).v T es f)(hn:(f++G).Nodup)(hw:∀b∈f,(b∈X∨B≤b)∧(b∈F∨B≤b))(ha:yB A ϕ (f++G)) :
  zL B X F (yk A h (.arr .dp T es .no)) β (upd ϕ h f) w∧Bd n β (yk A h (.arr .dp T es .no))∧yB (yk A h (.arr .dp T es .no)) (upd ϕ h f) G:=by
 obtain⟨hn1,hn2,hn3⟩:=List.nodup_append.1 hn
 refine⟨hp.put (fun j=>zP _ _ _) hd ho (fun b hb'=>(hw b hb').1) (fun _ b hb'=>(hw b hb').2) hn1 ?_ ?_ trivial (fun _ _ _ e=>by cases e) (by simp[zM]),zCB hb (fun j=>zP _ _ _) hh trivial,?_⟩
 ·exact ha.mono fun b hb'=>by simp only[zH] at hb';simp[hb']
 ·intro i hl hi _ b hb' hm
  by_cases hdd:hl=.dead
  ·subst hdd;simp[zH] at hb'
  ·exact ha i hl hi hdd b (zU b hb') (by simp[hm])
 ·exact zA4 (ha.mono fun b hb'=>by simp[hb']) (fun i=>zP _ _ _) fun b hb' hm=>hn3 b hb' b hm rfl
theorem zJi{Ar:Hp}{n:Nat}:∀{ts:List PTy} {xs:List SV} {qs:List PV} {vs:List Value} {fs:List (List Nat)} {r:Prop × List PV} {A:Hp} {ϕ:Nat→List Nat} {G:List Nat},LoP (zCG w) ts qs vs fs→SV.vals β xs=vs→zv Ar ts xs=some r→zL B X F A β ϕ w→Bd n β A →
  (∀h∈zW xs,h < n∧∀hl,lk A h=some hl→hl=.dead)→(zW xs).Nodup→(fs.flatten++G).Nodup→(∀b∈fs.flatten,(b∈X∨B≤b)∧(b∈F∨B≤b))→yB A ϕ (fs.flatten++G) →
  ∃ϕ',zL B X F (zEO A ts xs qs) β ϕ' w∧Bd n β (zEO A ts xs qs)∧yB (zEO A ts xs qs) ϕ' G∧(∀j,j ∉ zW xs→lk (zEO A ts xs qs) j=lk A j)∧(∀j hl,lk (zEO A ts xs qs) j=some hl→lk A j=some hl∨zM hl=[]):=by
 intro ts xs qs vs fs r A ϕ G hL
 induction hL generalizing xs r A ϕ G with
 | nil=>
  intro hv hr hp hb hh hnd hn hw ha
  cases xs with
  | nil=>exact⟨ϕ,hp,hb,ha.mono (by simp),fun _ _=>rfl,fun j hl h=>.inl h⟩
  | cons x xs=>simp[zv] at hr
 | @int k m Ts ps vs fs h1 _ ih=>
  intro hv hr hp hb hh hnd hn hw ha
  cases xs with
  | nil=>simp[zv] at hr
  | cons x xs=>
   simp only[zv] at hr
   split at hr
   ·rename_i o p o' ps' q1 q2
    simp only[SV.vals,List.cons.injEq] at hv
    cases x<;>simp only[yS,reduceCtorEq] at q1
    simp only[zEO,zW] at *
    exact ih hv.2 q2 hp hb hh hnd (by simpa using hn) (by simpa using hw) (by simpa using ha)
   ·cases hr
 | @bool k Ts ps vs fs _ ih=>
  intro hv hr hp hb hh hnd hn hw ha
  cases xs with
  | nil=>simp[zv] at hr
  | cons x xs=>
   simp only[zv] at hr
   split at hr
   ·rename_i o p o' ps' q1 q2
    simp only[SV.vals,List.cons.injEq] at hv
    cases x<;>simp only[yS,reduceCtorEq] at q1
    simp only[zEO,zW] at *
    exact ih hv.2 q2 hp hb hh hnd (by simpa using hn) (by simpa using hw) (by simpa using ha)
   ·cases hr
 | @str k Ts ps vs fs h1 _ ih=>
  intro hv hr hp hb hh hnd hn hw ha
  cases xs with
  | nil=>simp[zv] at hr
  | cons x xs=>
   simp only[zv] at hr
   split at hr
   ·rename_i o p o' ps' q1 q2
    simp only[SV.vals,List.cons.injEq] at hv
    cases x<;>simp only[yS,reduceCtorEq] at q1
    simp only[zEO,zW] at *
    exact ih hv.2 q2 hp hb hh hnd (by simpa using hn) (by simpa using hw) (by simpa using ha)
   ·cases hr
 | @list T es v f Ts ps vs fs h1 _ ih=>
  intro hv hr hp hb hh hnd hn hw ha
  cases xs with
  | nil=>simp[zv] at hr
  | cons x xs=>
   simp only[zv] at hr
   split at hr
   ·rename_i o p o' ps' q1 q2
    simp only[SV.vals,List.cons.injEq] at hv
    simp only[List.flatten_cons,List.append_assoc] at hn hw ha
    cases x<;>simp only[yS,reduceCtorEq] at q1
    case sl h=>
     obtain⟨hv1,hv2⟩:=hv
     simp only[SV.val] at hv1
     subst hv1
     simp only[zW,List.mem_cons,forall_eq_or_imp,List.nodup_cons] at hh hnd
     obtain⟨⟨hh1,hh2⟩,hh3⟩:=hh
     obtain⟨hnd1,hnd2⟩:=hnd
     obtain⟨c1,c2,c3⟩:=zHO hp hb hh1 hh2 h1 hn (fun b hb'=>hw b (by simp[hb'])) ha
     obtain⟨ϕ',a1,a2,a3,a4,a5⟩:=ih hv2 q2 c1 c2 (fun h' hh'=>⟨(hh3 h' hh').1,fun hl hl'=>by
      rw[zP,if_neg (fun e:h'=h=>hnd1 (e ▸ hh'))] at hl'
      exact(hh3 h' hh').2 hl hl'⟩) hnd2 (List.nodup_append.1 hn).2.1 (fun b hb'=>hw b (List.mem_append_right _ hb')) c3
     simp only[zEO,PV.L]
     refine⟨ϕ',a1,a2,a3,?_,?_⟩
     ·intro j hj
      simp only[zW,List.mem_cons,not_or] at hj
      rw[a4 j hj.2,zP,if_neg hj.1]
     ·intro j hl hj
      rcases a5 j hl hj with h5 | h5
      ·rw[zP] at h5
       split at h5
       ·cases h5;exact .inr rfl
       ·exact .inl h5
      ·exact .inr h5
    case nils=>
     obtain⟨hv1,hv2⟩:=hv
     simp only[SV.val] at hv1
     subst hv1
     have hf:f=[]:=by
      rcases h1 with ⟨_,h,_⟩ | ⟨b,f1,cs,_,⟨⟨o,cap,c,t,fr,h,_⟩,_⟩,_⟩
      ·exact h
      ·cases h
     subst hf
     simp only[zEO,zW] at *
     exact ih hv2 q2 hp hb hh hnd (by simpa using hn) (by simpa using hw) (by simpa using ha)
   ·cases hr
theorem zMG{t:PTy}{p:PV}{v:Value}{f:List Nat}{x:SV}{r:Prop × PV}{Ar:Hp}(h:zNG w t p v f)(hv:SV.val β x=v)(hr:zFE Ar t x=some r):∃fs r',LoP (zCG w) t.leaves p.leaves (SV.vals β x.cells) fs∧f=fs.flatten∧zv Ar t.leaves x.cells=some r':=by
 cases t with
 | agg ts=>
  obtain⟨qs,cs,fs,rfl,rfl,hL,rfl⟩:=h
  cases x with
  | agg xs=>
   simp only[zFE,yJ] at hr
   split at hr
   ·rename_i o ps hps
    simp only[SV.val,Value.agg.injEq] at hv
    have hv:=List.toArray_inj hv
    subst hv
    exact⟨fs,_,hL,rfl,hps⟩
   ·cases hr
  | _=>simp[zFE,yJ,yS] at hr
 | list T=>
  obtain⟨es,rfl,hO⟩:=h
  have h':yS Ar (.list T) x=some r:=by cases x<;>simpa[zFE,yJ] using hr
  have hc:x.cells=[x]:=by cases x<;>first | rfl | (simp[yS] at h')
  refine⟨[f],(r.1∧True,[r.2]),?_,by simp,?_⟩
  ·rw[hc];simp only[SV.vals,hv];exact .list hO .nil
  ·rw[hc];simp[PTy.leaves,zv,h']
 | _=>exact h.elim
theorem zEE:∀(ts:List PTy) (ps:List PV) (j n:Nat) (A:Hp) (i:Nat),lk ((zB .dp noP j n ts ps).2.1++A) i=lk A i∨(n≤i∧∃T es,lk ((zB .dp noP j n ts ps).2.1++A) i=some (.arr .dp T es .no))
 | [],ps,j,n,A,i=>.inl (by simp[zB])
 | t :: ts,[],j,n,A,i=>.inl (by cases t<;>simp[zB])
 | t :: ts,p :: ps,j,n,A,i=>by
  cases t with
  | list T=>
   have e:(zB .dp noP j n (.list T :: ts) (p :: ps)).2.1++A=(zB .dp noP (j+1) (n+1) ts ps).2.1++((n,.arr .dp T p.L .no) :: A):=by simp[zB,noP,List.append_assoc]
   rw[e]
   rcases zEE ts ps (j+1) (n+1) ((n,.arr .dp T p.L .no) :: A) i with h | ⟨h,h'⟩
   ·rw[h,zBC]
    split
    ·rename_i e;exact .inr ⟨by omega,_,_,rfl⟩
    ·exact .inl rfl
   ·exact .inr ⟨by omega,h'⟩
  | _=>exact zEE ts ps (j+1) n A i
theorem cut3{α:Type}{pre m post l v r:List α}{off k:Nat}(h:pre++m++post=l++v++r)(hp:pre.length=l.length+off)(hm:m.length=k)(hk:off+k≤v.length):pre=l++v.take off∧post=v.drop (off+k)++r:=by
 constructor
 ·have h1:=congrArg (List.take pre.length) h
  rw[List.append_assoc,List.take_left,hp,List.append_assoc,List.take_append,List.take_of_length_le (by omega),Nat.add_sub_cancel_left,List.take_append_of_le_length (by omega)] at h1
  exact h1
 ·have h1:=congrArg (List.drop (pre.length+m.length)) h
  rw[←List.length_append,List.drop_left,List.length_append,hp,hm,Nat.add_assoc,List.append_assoc,←List.drop_drop,List.drop_left,List.drop_append_of_le_length (by omega)] at h1
  exact h1
theorem zL2{f:List Nat}{hl:HL}{b:Nat}(h:b∈zH f hl):isA hl:=by
 cases hl with
 | box o t cs=>cases o<;>first | trivial | (simp[zH] at h)
 | abx o t cs=>cases o<;>first | trivial | (simp[zH] at h)
 | arr o T es p=>trivial
 | bld T e l=>trivial
 | dead=>simp[zH] at h
theorem zK1{β0 β:Nat→GV}{n0:Nat}(hβ:∀k,k < n0→β k=β0 k):∀{l:List PTy} {xs:List SV} {qs:List PV} {cs cs':List Value},KpS l qs cs cs'→SV.vals β0 xs=cs→SV.lts n0 xs→SV.oks β0 xs→SV.vals β (zCS l xs qs)=cs'∧SV.lts n0 (zCS l xs qs)∧SV.oks β (zCS l xs qs):=by
 intro l xs qs cs cs' h
 induction h generalizing xs with
 | nil=>intro _ _ _;cases xs<;>exact⟨rfl,trivial,trivial⟩
 | int h1 _ ih=>
  intro hv hlt hok
  cases xs with
  | nil=>simp[SV.vals] at hv
  | cons x xs=>
   simp only[SV.vals,List.cons.injEq] at hv
   obtain⟨a1,a2,a3⟩:=ih hv.2 hlt.2 hok.2
   exact⟨by simp only[zCS,SV.vals,SV.val,PV.I,a1],⟨trivial,a2⟩,⟨h1,a3⟩⟩
 | bool _ ih=>
  intro hv hlt hok
  cases xs with
  | nil=>simp[SV.vals] at hv
  | cons x xs=>
   simp only[SV.vals,List.cons.injEq] at hv
   obtain⟨a1,a2,a3⟩:=ih hv.2 hlt.2 hok.2
   exact⟨by simp only[zCS,SV.vals,SV.val,PV.B,a1],⟨trivial,a2⟩,⟨trivial,a3⟩⟩
 | str h1 _ ih=>
  intro hv hlt hok
  cases xs with
  | nil=>simp[SV.vals] at hv
  | cons x xs=>
   simp only[SV.vals,List.cons.injEq] at hv
   obtain⟨a1,a2,a3⟩:=ih hv.2 hlt.2 hok.2
   exact⟨by simp only[zCS,SV.vals,SV.val,PV.S,a1],⟨trivial,a2⟩,⟨h1,a3⟩⟩
 | list _ ih=>
  intro hv hlt hok
  cases xs with
  | nil=>simp[SV.vals] at hv
  | cons x xs=>
   simp only[SV.vals,List.cons.injEq] at hv
   obtain⟨a1,a2,a3⟩:=ih hv.2 hlt.2 hok.2
   exact⟨by simp only[zCS,SV.vals,a1,SV.val_congr hβ x hlt.1,hv.1],⟨hlt.1,a2⟩,⟨SV.ok_congr hβ x hlt.1 hok.1,a3⟩⟩
theorem cut3m{α:Type}{pre m post l v r:List α}{off k:Nat}(h:pre++m++post=l++v++r)(hp:pre.length=l.length+off)(hm:m.length=k)(hk:off+k≤v.length):m=(v.drop off).take k:=by
 obtain⟨h1,h2⟩:=cut3 h hp hm hk
 have h3:v=v.take off++((v.drop off).take k++v.drop (off+k)):=by
  rw[←List.drop_drop,List.take_append_drop,List.take_append_drop]
 rw[h1,h2] at h
 have h4:l++(v.take off++(m++(v.drop (off+k)++r)))=l++(v.take off++((v.drop off).take k++(v.drop (off+k)++r))):=by
  have:l++v++r=l++(v.take off++((v.drop off).take k++(v.drop (off+k)++r))):=by
   conv=>lhs;rw[h3]
   simp[List.append_assoc]
  rw[←this,←h];simp[List.append_assoc]
 have h5:=List.append_cancel_left (List.append_cancel_left h4)
 exact List.append_cancel_right h5
theorem zAI{Ar:Hp}{n0:Nat}{β0:Nat→GV}{ϕ0:Nat→List Nat}(hp0:zL B X F A0 β0 ϕ0 w)(hb0:Bd n0 β0 A0)(hsm:zPD Ar A0):∀{ts:List (Md × PTy)} {xs:List SV} {r:Prop × List PV} {outs:List PV} {mo G:List Nat} {A:Hp} {β:Nat→GV} {ϕ:Nat→List Nat} {n:Nat},
  zHm w w' ts outs (SV.vals β0 xs) mo→zDc Ar ts xs=some r→yG A0 ts xs→zL B X F A β ϕ w'→Bd n β A→(∀k,k < n0→β k=β0 k)→n0≤n→SV.lts n0 xs →
  (∀h∈zy A0 ts xs,h < n0∧∀hl,lk A h=some hl→hl=.dead)→(zy A0 ts xs).Nodup→(∀i hl,lk A i=some hl→∀r∈zM hl,r ∉ zy A0 ts xs)→(mo++G).Nodup→(∀b∈mo,(b∈X∨B≤b)∧(b∈F∨B≤b))→yB A ϕ (mo++G) →
  ∃β' ϕ',zL B X F (zCY A0 A n ts xs outs).1 β' ϕ' w'∧Bd (zCY A0 A n ts xs outs).2 β' (zCY A0 A n ts xs outs).1∧(∀k,k < n→β' k=β k)∧n≤(zCY A0 A n ts xs outs).2∧yB (zCY A0 A n ts xs outs).1 ϕ' G
 | [],xs,r,outs,mo,G,A,β,ϕ,n,ho,hr,hl,hp,hb,hβ,hn0,hlt,hd,hnd,hro,hmn,hmw,hma=>by
  have hx:xs=[]:=by cases xs<;>first | rfl | (simp[zDc] at hr)
  subst hx
  cases ho
  exact⟨β,ϕ,hp,hb,fun _ _=>rfl,Nat.le_refl _,hma.mono (by simp)⟩
 | (m,t) :: ts,[],r,outs,mo,G,A,β,ϕ,n,ho,hr,hl,hp,hb,hβ,hn0,hlt,hd,hnd,hro,hmn,hmw,hma=>by simp[zDc] at hr
 | (m,t) :: ts,x :: xs,r,outs,mo,G,A,β,ϕ,n,ho,hr,hl,hp,hb,hβ,hn0,hlt,hd,hnd,hro,hmn,hmw,hma=>by
  simp only[zDc] at hr
  split at hr
  ·rename_i o1 p1 o2 qs1 h1 h2
   simp only[zy] at hd hnd hro
   obtain⟨hnd1,hnd2,hnd3⟩:=List.nodup_append.1 hnd
   have hval:SV.val β x=SV.val β0 x:=SV.val_congr hβ x hlt.1
   cases m with
   | rd=>
    simp only[SV.vals] at ho
    cases ho with
    | rd ho=>
     simp only[zCY]
     exact zAI hp0 hb0 hsm ho h2 (by cases t<;>exact hl) hp hb hβ hn0 hlt.2 (fun h hh=>hd h (by simp[hh])) hnd2 (fun i hl hi r hr hm=>hro i hl hi r hr (by simp[hm])) hmn hmw hma
   | ow=>
    simp only[SV.vals] at ho
    cases ho with
    | ow ho=>
     simp only[zCY]
     exact zAI hp0 hb0 hsm ho h2 (by cases t<;>first | exact hl.2 | exact hl.elim) hp hb hβ hn0 hlt.2 (fun h hh=>hd h (by simp[hh])) hnd2 (fun i hl hi r hr hm=>hro i hl hi r hr (by simp[hm])) hmn hmw hma
   | mt=>
    simp only[SV.vals] at ho
    cases ho with
    | @mt _ _ p ps _ _ f ms hA ho=>
     simp only[List.append_assoc] at hmn hma
     obtain⟨fs,r',g1,rfl,g2⟩:=zMG hA (by exact hval) h1
     simp only[zA9] at hd hnd1 hnd3 hro
     obtain⟨ϕ1,a1,a2,a3,a4,a5⟩:=zJi g1 rfl g2 hp hb (fun h hh=>⟨by have:=(hd h (by simp[hh])).1;omega,(hd h (by simp[hh])).2⟩) hnd1 hmn (fun b hb'=>hmw b (by simp only[List.mem_append];exact .inl hb')) hma
     simp only[zCY]
     exact zAI hp0 hb0 hsm ho h2 (by cases t<;>first | exact hl.2 | exact hl.elim) a1 a2 hβ hn0 hlt.2 (fun h hh=>⟨(hd h (by simp[hh])).1,fun hl' hl2=>by
       rw[a4 h (fun hm=>hnd3 h hm h hh rfl)] at hl2
       exact(hd h (by simp[hh])).2 hl' hl2⟩) hnd2
      (fun i hl' hi r hr hm=>by
       rcases a5 i hl' hi with h5 | h5
       ·exact hro i hl' h5 r hr (by simp[hm])
       ·rw[h5] at hr;cases hr) (List.nodup_append.1 hmn).2.1 (fun b hb'=>hmw b (by simp only[List.mem_append];exact .inr hb')) a3
   | bx=>
    simp only[SV.vals] at ho
    cases ho with
    | @bx _ _ p ps _ _ f ms hX ho=>
     cases t with
     | box l=>
      cases x with
      | ptr h off=>
       simp only[yG] at hl
       obtain⟨hl1,hl2⟩:=hl
       simp only[zFE,yJ] at h1
       split at h1
       case h_2=>cases h1
       rename_i ow tt cs hAr
       have hA0:=hsm.bx _ _ _ _ hAr
       rw[hA0] at hl1
       have:ow=true:=by cases ow<;>first | rfl | exact hl1.elim
       subst this
       split at h1
       case isFalse=>cases h1
       rename_i hle
       obtain⟨qs,cs1,cs',fs,b,t1,t',pre,post,rfl,hv,hw0,hcl,hw1,hLo,rfl⟩:=hX
       obtain⟨b',t2,hb',hϕ',hblk⟩:=hp0.sat _ _ hA0
       have hvv:b'=b∧(β0 h).pre.length+off=pre.length:=by
        simp only[SV.val,hb',Value.pointer.injEq,Option.some.injEq,Addr.mk.injEq] at hv
        exact⟨hv.1,hv.2.1⟩
       obtain⟨rfl,hpl⟩:=hvv
       rw[hw0] at hblk
       simp only[Option.some.injEq,Obj.cells.injEq] at hblk
       obtain⟨k1,k2⟩:=cut3 (List.toArray_inj hblk.1) hpl.symm hcl (by rw[SV.vals_map,List.length_map];exact hle)
       have hcs:=hb0 _ _ hA0
       simp only[List.cons_append,List.append_assoc,List.nodup_cons,List.mem_append,not_or] at hmn
       obtain⟨⟨n1,n2,n3⟩,n4⟩:=hmn
       have hn':(fs.flatten++(b' :: (ms++G))).Nodup:=by
        obtain⟨m1,m2,m3⟩:=List.nodup_append.1 n4
        refine List.nodup_append.2 ⟨m1,List.nodup_cons.2 ⟨by simp[n2,n3],m2⟩,?_⟩
        intro c hc c' hc' e
        rcases List.mem_cons.1 hc' with rfl | hc'
        ·subst e;exact n1 hc
        ·exact m3 c hc c' hc' e
       obtain⟨β1,ϕ1,a1,a2,a3,a4,a5,a6,a7,a8,a9⟩:=zB5 noP (fun _=>rfl) l qs cs' fs (b' :: (ms++G)) 0 n A β ϕ hLo hp hb hn' (fun c hc=>hmw c (by simp[hc])) (hma.mono fun c hc=>by simp only[List.mem_append,List.mem_cons] at hc ⊢;rcases hc with h | h | h | h<;>simp[h])
       have hh:=hd h (by simp[zA9])
       have hlow:∀k,k < n→lk ((zB .dp noP 0 n l qs).2.1++A) k=lk A k:=fun k hk=>by
        rcases zEE l qs 0 n A k with e | ⟨e,_⟩
        ·exact e
        ·omega
       have hnh:∀h'∈zy A0 ts xs,h'≠h:=fun h' hh' e=>hnd3 h (by simp[zA9]) h' hh' e.symm
       have hβ1:∀k,k < n0→β1 k=β0 k:=fun k hk=>(a3 k (by omega)).trans (hβ k hk)
       have hval2:SV.vals β1 (cs.take off++(zB .dp noP 0 n l qs).1++cs.drop (off+l.length))=SV.vals β0 (cs.take off)++cs'++SV.vals β0 (cs.drop (off+l.length)):=by
        simp only[SV.vals_map,List.map_append] at a5 ⊢
        rw[a5]
        congr 1
        ·congr 1
         exact List.map_congr_left fun y hy=>SV.val_congr hβ1 y (SV.lts_iff.1 hcs.2.1 y (List.mem_of_mem_take hy))
        ·exact List.map_congr_left fun y hy=>SV.val_congr hβ1 y (SV.lts_iff.1 hcs.2.1 y (List.mem_of_mem_drop hy))
       have hroot:∀i hl,lk ((zB .dp noP 0 n l qs).2.1++A) i=some hl→∀r∈zM hl,r≠h∧r ∉ zy A0 ts xs:=by
        intro i hl hi r hr
        rcases zEE l qs 0 n A i with e | ⟨_,T,es,e⟩
        ·rw[e] at hi
         have:=hro i hl hi r hr
         simp only[zA9,List.mem_append,not_or] at this
         exact⟨fun e=>this.1 (by simp[e]),this.2⟩
        ·rw[e] at hi;cases hi;simp[zM] at hr
       have hput:=a1.put (A':=yk ((zB .dp noP 0 n l qs).2.1++A) h (.box true tt (cs.take off++(zB .dp noP 0 n l qs).1++cs.drop (off+l.length)))) (n:=h) (hl0:=.box true tt (cs.take off++(zB .dp noP 0 n l qs).1++cs.drop (off+l.length))) (f:=[b']) (fun j=>zP _ _ _)
        (fun hl' hi=>by rw[hlow h (by omega)] at hi;exact hh.2 hl' hi)
        ⟨b',t',by rw[hβ1 h hh.1];exact hb',rfl,by rw[hβ1 h hh.1,hw1,hval2,k1,k2,SV.vals_map,SV.vals_map,SV.vals_map,List.map_take,List.map_drop];simp[List.append_assoc]⟩
        (fun c hc=>by simp only[zH,List.mem_singleton] at hc;subst hc;exact(hmw c (by simp)).1) (fun _ c hc=>by simp only[List.mem_singleton] at hc;subst hc;exact(hmw c (by simp)).2) trivial
        (a9.mono fun c hc=>by simp only[zH,List.mem_singleton] at hc;simp[hc])
        (fun i hl' hi _ c hc hm=>by
         simp only[List.mem_singleton] at hm
         subst hm
         by_cases hdd:hl'=.dead
         ·subst hdd;simp[zH] at hc
         ·exact a9 i hl' hi hdd c (zU c hc) (by simp)) (fun h0=>by rw[hβ1 h hh.1];exact hp0.pt _ _ hA0 h0)
        (fun _ _ _ _ i hl' hi hm=>(hroot i hl' hi h hm).1 rfl) (by simp[zM])
       have hbd:=zCB (A':=yk ((zB .dp noP 0 n l qs).2.1++A) h (.box true tt (cs.take off++(zB .dp noP 0 n l qs).1++cs.drop (off+l.length)))) a2 (fun j=>zP _ _ _) (show h < _ by omega)
        (show SV.lts _ _∧SV.oks _ _ by
         rw[SV.lts_iff,SV.oks_iff]
         constructor
         ·intro y hy
          simp only[List.mem_append] at hy
          rcases hy with (hy | hy) | hy
          ·exact SV.lt_mono (show n0≤_ by omega) y (SV.lts_iff.1 hcs.2.1 y (List.mem_of_mem_take hy))
          ·exact SV.lts_iff.1 a6 y hy
          ·exact SV.lt_mono (show n0≤_ by omega) y (SV.lts_iff.1 hcs.2.1 y (List.mem_of_mem_drop hy))
         ·intro y hy
          simp only[List.mem_append] at hy
          rcases hy with (hy | hy) | hy
          ·exact SV.ok_congr hβ1 y (SV.lts_iff.1 hcs.2.1 y (List.mem_of_mem_take hy)) (SV.oks_iff.1 hcs.2.2 y (List.mem_of_mem_take hy))
          ·exact SV.oks_iff.1 a7 y hy
          ·exact SV.ok_congr hβ1 y (SV.lts_iff.1 hcs.2.1 y (List.mem_of_mem_drop hy)) (SV.oks_iff.1 hcs.2.2 y (List.mem_of_mem_drop hy)))
       have hap:=zA4 (hl0:=.box true tt (cs.take off++(zB .dp noP 0 n l qs).1++cs.drop (off+l.length))) (n:=h) (f:=[b']) (G:=ms++G) (a9.mono fun c hc=>by simp[hc]) (fun j=>zP _ _ _) (fun c hc hm=>by
        simp only[List.mem_singleton] at hc
        subst hc
        simp only[List.mem_append] at hm
        exact hm.elim n2 n3)
       simp only[zCY,hA0,PV.A]
       obtain⟨β',ϕ',r1,r2,r3,r4,r5⟩:=zAI hp0 hb0 hsm ho h2 hl2 hput hbd hβ1 (by omega) hlt.2
        (fun h' hh'=>⟨(hd h' (by simp[hh'])).1,fun hl' hi=>by
         have h9:=(hd h' (by simp[hh'])).1
         rw[zP,if_neg (hnh h' hh'),hlow h' (by omega)] at hi
         exact(hd h' (by simp[hh'])).2 hl' hi⟩) hnd2
        (fun i hl' hi r hr=>by
         rw[zP] at hi
         split at hi
         ·cases hi;simp[zM] at hr
         ·exact(hroot i hl' hi r hr).2) (List.nodup_append.1 n4).2.1 (fun c hc=>hmw c (by simp[hc])) hap
       exact⟨β',ϕ',r1,r2,fun k hk=>(r3 k (by omega)).trans (a3 k hk),by omega,r5⟩
      | _=>simp[yG] at hl
     | abx T=>
      cases x with
      | ptr h off=>
       cases off with
       | zero=>
        simp only[yG] at hl
        obtain⟨hl1,hl2⟩:=hl
        simp only[zFE,yJ] at h1
        split at h1
        case h_2=>cases h1
        rename_i ow T' es0 hAr
        have hA0:=hsm.ab _ _ _ _ hAr
        rename_i p0 ps0 f0 ms0 
        obtain⟨es,rfl,hX⟩:=hX
        have hab0:zAC _ T' es0 _ _:=hp0.sat _ _ hA0
        obtain⟨b',hb'⟩:=hab0.ptr
        have hvv:SV.val β0 (.ptr h 0)=(β0 h).v:=by simp[SV.val,hb']
        rw[hvv] at hX
        have hh:=hd h (by simp[zA9])
        have hnh:∀h'∈zy A0 ts xs,h'≠h:=fun h' hh' e=>hnd3 h (by simp[zA9]) h' hh' e.symm
        rw[List.append_assoc] at hmn
        obtain⟨n1,n4,n5⟩:=List.nodup_append.1 hmn
        have hput:=hp.put (A':=yk A h (.abx true T es)) (n:=h) (hl0:=.abx true T es) (f:=f) (fun j=>zP _ _ _) hh.2
         (by show zAC w' T es (β h).v f;rw[hβ h hh.1];exact hX)
         (fun c hc=>(hmw c (List.mem_append_left _ (by simpa[zH] using hc))).1) (fun _ c hc=>(hmw c (List.mem_append_left _ hc)).2) trivial
         (hma.mono fun c hc=>List.mem_append_left _ (List.mem_append_left _ (by simpa[zH] using hc)))
         (fun i hl' hi _ c hc hm=>by
          by_cases hdd:hl'=.dead
          ·subst hdd;simp[zH] at hc
          ·exact hma i hl' hi hdd c (zU c hc) (List.mem_append_left _ (List.mem_append_left _ hm))) (fun h0=>by rw[hβ h hh.1];refine hp0.pt _ _ hA0 ?_;rw[hA0] at hl1;cases ow<;>simp at hl1;exact hl1.trans h0)
         (fun _ _ _ e=>by cases e) (by simp[zM])
        have hbd:=zCB (A':=yk A h (.abx true T es)) hb (fun j=>zP _ _ _) (show h < n by omega) trivial
        have hap:=zA4 (hl0:=.abx true T es) (n:=h) (f:=f) (G:=ms++G) (hma.mono fun c hc=>by rcases List.mem_append.1 hc with h | h<;>simp[h]) (fun j=>zP _ _ _) (fun c hc hm=>n5 c hc c hm rfl)
        simp only[zCY,PV.L]
        exact zAI hp0 hb0 hsm ho h2 hl2 hput hbd hβ hn0 hlt.2
         (fun h' hh'=>⟨(hd h' (by simp[hh'])).1,fun hl' hi=>by
          rw[zP,if_neg (hnh h' hh')] at hi
          exact(hd h' (by simp[hh'])).2 hl' hi⟩) hnd2
         (fun i hl' hi r hr=>by
          rw[zP] at hi
          split at hi
          ·cases hi;simp[zM] at hr
          ·have:=hro i hl' hi r hr
           simp only[List.mem_append,not_or] at this
           exact this.2) n4 (fun c hc=>hmw c (by simp[hc])) hap
       | succ m=>simp[yG] at hl
      | _=>simp[yG] at hl
     | _=>exact hX.elim
   | bs=>
    simp only[SV.vals] at ho
    cases ho with
    | @bs _ _ p ps _ _ b ms hX ho=>
     cases t with
     | box l=>
      cases x with
      | ptr h off=>
       simp only[yG] at hl
       obtain⟨hl1,hl2⟩:=hl
       simp only[zFE,yJ] at h1
       split at h1
       case h_2=>cases h1
       rename_i ow tt cs hAr
       have hA0:=hsm.bx _ _ _ _ hAr
       rw[hA0] at hl1
       have:ow=true:=by cases ow<;>first | rfl | exact hl1.elim
       subst this
       split at h1
       case isFalse=>cases h1
       rename_i hle
       obtain⟨qs,cs1,cs',t1,t',pre,post,rfl,hv,hw0,hcl,hw1,hKp⟩:=hX
       obtain⟨b',t2,hb',hϕ',hblk⟩:=hp0.sat _ _ hA0
       have hvv:b'=b∧(β0 h).pre.length+off=pre.length:=by
        simp only[SV.val,hb',Value.pointer.injEq,Option.some.injEq,Addr.mk.injEq] at hv
        exact⟨hv.1,hv.2.1⟩
       obtain⟨rfl,hpl⟩:=hvv
       rw[hw0] at hblk
       simp only[Option.some.injEq,Obj.cells.injEq] at hblk
       have hcut:=List.toArray_inj hblk.1
       obtain⟨k1,k2⟩:=cut3 hcut hpl.symm hcl (by rw[SV.vals_map,List.length_map];exact hle)
       have k3:=cut3m hcut hpl.symm hcl (by rw[SV.vals_map,List.length_map];exact hle)
       have hcs:=hb0 _ _ hA0
       simp only[List.cons_append,List.nodup_cons,List.mem_append,not_or] at hmn
       obtain⟨⟨n2,n3⟩,n4⟩:=hmn
       have hh:=hd h (by simp[zA9])
       have hnh:∀h'∈zy A0 ts xs,h'≠h:=fun h' hh' e=>hnd3 h (by simp[zA9]) h' hh' e.symm
       have hmidl:SV.lts n0 ((cs.drop off).take l.length):=by
        rw[SV.lts_iff];intro y hy;exact SV.lts_iff.1 hcs.2.1 y (List.mem_of_mem_drop (List.mem_of_mem_take hy))
       have hmido:SV.oks β0 ((cs.drop off).take l.length):=by
        rw[SV.oks_iff];intro y hy;exact SV.oks_iff.1 hcs.2.2 y (List.mem_of_mem_drop (List.mem_of_mem_take hy))
       obtain⟨m1,m2,m3⟩:=zK1 (xs:=(cs.drop off).take l.length) hβ hKp (by rw[k3,SV.vals_map,SV.vals_map,List.map_take,List.map_drop]) hmidl hmido
       have hval2:SV.vals β (cs.take off++zCS l ((cs.drop off).take l.length) qs++cs.drop (off+l.length))=SV.vals β0 (cs.take off)++cs'++SV.vals β0 (cs.drop (off+l.length)):=by
        simp only[SV.vals_map,List.map_append] at m1 ⊢
        rw[m1]
        congr 1
        ·congr 1
         exact List.map_congr_left fun y hy=>SV.val_congr hβ y (SV.lts_iff.1 hcs.2.1 y (List.mem_of_mem_take hy))
        ·exact List.map_congr_left fun y hy=>SV.val_congr hβ y (SV.lts_iff.1 hcs.2.1 y (List.mem_of_mem_drop hy))
       have hroot:∀i hl,lk A i=some hl→∀r∈zM hl,r≠h∧r ∉ zy A0 ts xs:=by
        intro i hl hi r hr
        have:=hro i hl hi r hr
        simp only[zA9,List.mem_append,not_or] at this
        exact⟨fun e=>this.1 (by simp[e]),this.2⟩
       have hput:=hp.put (A':=yk A h (.box true tt (cs.take off++zCS l ((cs.drop off).take l.length) qs++cs.drop (off+l.length)))) (n:=h) (hl0:=.box true tt (cs.take off++zCS l ((cs.drop off).take l.length) qs++cs.drop (off+l.length))) (f:=[b']) (fun j=>zP _ _ _) hh.2
        ⟨b',t',by rw[hβ h hh.1];exact hb',rfl,by rw[hβ h hh.1,hw1,hval2,k1,k2,SV.vals_map,SV.vals_map,SV.vals_map,List.map_take,List.map_drop];simp[List.append_assoc]⟩
        (fun c hc=>by simp only[zH,List.mem_singleton] at hc;subst hc;exact(hmw c (by simp)).1) (fun _ c hc=>by simp only[List.mem_singleton] at hc;subst hc;exact(hmw c (by simp)).2) trivial
        (hma.mono fun c hc=>by simp only[zH,List.mem_singleton] at hc;simp[hc])
        (fun i hl' hi _ c hc hm=>by
         simp only[List.mem_singleton] at hm
         subst hm
         by_cases hdd:hl'=.dead
         ·subst hdd;simp[zH] at hc
         ·exact hma i hl' hi hdd c (zU c hc) (by simp)) (fun h0=>by rw[hβ h hh.1];exact hp0.pt _ _ hA0 h0)
        (fun _ _ _ _ i hl' hi hm=>(hroot i hl' hi h hm).1 rfl) (by simp[zM])
       have hbd:=zCB (A':=yk A h (.box true tt (cs.take off++zCS l ((cs.drop off).take l.length) qs++cs.drop (off+l.length)))) hb (fun j=>zP _ _ _) (show h < _ by omega)
        (show SV.lts _ _∧SV.oks _ _ by
         rw[SV.lts_iff,SV.oks_iff]
         constructor
         ·intro y hy
          simp only[List.mem_append] at hy
          rcases hy with (hy | hy) | hy
          ·exact SV.lt_mono (show n0≤_ by omega) y (SV.lts_iff.1 hcs.2.1 y (List.mem_of_mem_take hy))
          ·exact SV.lt_mono (show n0≤_ by omega) y (SV.lts_iff.1 m2 y hy)
          ·exact SV.lt_mono (show n0≤_ by omega) y (SV.lts_iff.1 hcs.2.1 y (List.mem_of_mem_drop hy))
         ·intro y hy
          simp only[List.mem_append] at hy
          rcases hy with (hy | hy) | hy
          ·exact SV.ok_congr hβ y (SV.lts_iff.1 hcs.2.1 y (List.mem_of_mem_take hy)) (SV.oks_iff.1 hcs.2.2 y (List.mem_of_mem_take hy))
          ·exact SV.oks_iff.1 m3 y hy
          ·exact SV.ok_congr hβ y (SV.lts_iff.1 hcs.2.1 y (List.mem_of_mem_drop hy)) (SV.oks_iff.1 hcs.2.2 y (List.mem_of_mem_drop hy)))
       have hap:=zA4 (hl0:=.box true tt (cs.take off++zCS l ((cs.drop off).take l.length) qs++cs.drop (off+l.length))) (n:=h) (f:=[b']) (G:=ms++G) (hma.mono fun c hc=>by rcases List.mem_append.1 hc with h | h<;>simp[h]) (fun j=>zP _ _ _) (fun c hc hm=>by
        simp only[List.mem_singleton] at hc
        subst hc
        simp only[List.mem_append] at hm
        exact hm.elim n2 n3)
       simp only[zCY,hA0,PV.A]
       exact zAI hp0 hb0 hsm ho h2 hl2 hput hbd hβ hn0 hlt.2
        (fun h' hh'=>⟨(hd h' (by simp[hh'])).1,fun hl' hi=>by
         rw[zP,if_neg (hnh h' hh')] at hi
         exact(hd h' (by simp[hh'])).2 hl' hi⟩) hnd2
        (fun i hl' hi r hr=>by
         rw[zP] at hi
         split at hi
         ·cases hi;simp[zM] at hr
         ·exact(hroot i hl' hi r hr).2) n4 (fun c hc=>hmw c (by simp[hc])) hap
      | _=>simp[yG] at hl
     | _=>exact hX.elim
  ·cases hr
theorem zFF{D:List Nat}:∀{l:List Nat},zRf A D l→∀i∈l,i ∉ D∧∃hl,lk A i=some hl∧hl≠.dead∧∀r∈zM hl,r ∉ D
 | [],_,i,hi=>by cases hi
 | h :: l,hr,i,hi=>by
  simp only[zRf] at hr
  obtain⟨⟨h1,h2⟩,h3⟩:=hr
  rcases List.mem_cons.1 hi with e | hi
  ·subst e
   refine⟨fun hm=>(by rw[yK.2 hm] at h1;cases h1),?_⟩
   cases hA:lk A i with
   | none=>rw[hA] at h2;exact h2.elim
   | some hl=>
    rw[hA] at h2
    cases hl with
    | dead=>exact h2.elim
    | arr o T es p=>
     cases o with
     | vw rs=>exact⟨_,rfl,by simp,fun r hr hm=>by have h9:zLQ D rs=true:=zFN.2 ⟨r,hr,hm⟩;have h2:zLQ D rs=false:=h2;rw[h9] at h2;cases h2⟩
     | _=>exact⟨_,rfl,by simp,by simp[zM]⟩
    | _=>exact⟨_,rfl,by simp,by simp[zM]⟩
  ·exact zFF h3 i hi
theorem zN9{s:zS}{ob:Prop}{ps:List PV}{xs:List SV}{fid:Nat}(hm:zJp P fid s)(hps:zDc S.A s.args xs=some (ob,ps))(hk:SV.oks β xs)(hlt:SV.lts S.n xs)(sat:Sat N w0 X F S β ϕ a w)(hob:(zDk S true s ob ps xs).ob) :
  Calls P fid (SV.vals β xs).toArray w fun e w'=>∃v β' ϕ',e=.returned v∧zLU w0 X F S (zDk S true s ob ps xs) β ϕ o.dst v w' β' ϕ':=by
 obtain⟨_,q1,q2,hfresh,hlen,hlend,hndB,hrd⟩:=hob
 obtain⟨ϕ0,p1,p2,p3,p4,p5,p6,p7⟩:=zCQ (zy S.A s.args xs) sat.hp sat.hb
 have hsame:zPD S.A (yv S.A (zy S.A s.args xs)):=⟨p3,fun j t o cs hj=>(p6 _ _ _ _ hj).1,fun j o T cs hj=>(p7 _ _ _ _ hj).1⟩
 have hal:zFC (yv S.A (zy S.A s.args xs)) (zB2 (yv S.A (zy S.A s.args xs)) s.args xs):=fun i hi=>by
  obtain⟨_,hl,e1,e2,_⟩:=zFF hrd i hi;exact⟨hl,e1,e2⟩
 obtain⟨fs,fl,hargs,hfrom,hlent,heq⟩:=zDn p1 hsame hps q1 (fun i o t cs hi=>(p2 _ _ hi).2.2) hk hlend hal
 have hret0:=hlend
 simp only[zDk,zMy]
 generalize hA0:yv S.A (zy S.A s.args xs)=A0 at *
 generalize hH:zy S.A s.args xs=H at *
 rw[←heq] at hargs hlent
 have hmnd:=zF1 p1 hlent (zHT.1 hndB)
 have hms:∀b∈(H.map ϕ0).flatten,(b∈X∨w0.heap.size≤b)∧(b∈F∨w0.heap.size≤b):=by
  intro b hb
  obtain⟨i,hi,hl,e1,e2⟩:=zD9 hlent b hb
  exact⟨p1.own _ _ e1 b e2,p1.all _ _ e1 (zL2 e2) b (zU b e2)⟩
 refine(hm w ps _ fs fl _ hargs hmnd ?_ q2 (sat.gl.now sat.fr fun b hb=>(hms b hb).1)).mono fun e w' he=>?_
 ·intro b hb hf
  obtain⟨h,hh,hl,e1,e2⟩:=zD9 hlent b hb
  obtain⟨i,hi,hl',e3,e4,e5⟩:=hfrom.all b hf
  obtain⟨n1,hl2,e6,e7,e8⟩:=zFF hrd i hi
  rw[e3] at e6;cases e6
  exact p1.dj h i _ _ e1 e3 (fun e=>n1 (e ▸ hh)) (fun hr=>e8 h hr hh) e4 b e2 e5
 obtain⟨rvs,rfl,hFr,hcase⟩:=he
 have hcase:∃fr mo,zIo w' s.ret (s.res ps) rvs fr∧zHm w w' s.args (s.out ps) (SV.vals β xs) mo∧(fr++mo).Nodup∧∀b∈fr++mo,b∈(H.map ϕ0).flatten∨w.heap.size≤b:=by
  rcases hcase with ⟨_,h⟩ | ⟨hf,_⟩
  ·exact h
  ·rw[hfresh] at hf;cases hf
 obtain⟨fr,mo,hret,hout,hnd,hge⟩:=hcase
 have hfr:Fr w0 X w':=sat.fr.trans hFr (fun x hx=>hx) (fun b hb=>(hms b hb).1)
 have hst:=p1.struck H
 have hap:=zt p1 (zD9 hlent)
 have hst':zL w0.heap.size X F (zK H A0) β ϕ0 w':=hst.world fun i hl hi hd b hb=>hFr.block b (hst.inb hi hd b hb) (hap i hl hi hd b hb)
 have hnd2:(mo++fr).Nodup:=(List.perm_append_comm.nodup_iff).1 hnd
 have hge2:∀b∈mo++fr,(b∈X∨w0.heap.size≤b)∧(b∈F∨w0.heap.size≤b):=by
  intro b hb
  rcases hge b (by simp only[List.mem_append] at hb ⊢;exact hb.symm) with h | h
  ·exact hms b h
  ·exact⟨.inr (Nat.le_trans sat.fr.size h),.inr (Nat.le_trans sat.fr.size h)⟩
 have hap2:yB (zK H A0) ϕ0 (mo++fr):=by
  intro i hl hi hd b hb hm
  rcases hge b (by simp only[List.mem_append] at hm ⊢;exact hm.symm) with h | h
  ·exact hap i hl hi hd b hb h
  ·have:=hst.inb hi hd b hb;omega
 obtain⟨β1,ϕ1,b1,b2,b3,b4,b5⟩:=zAI p1 p2 hsame hout hps hlend hst' (yN p2 H) (fun _ _=>rfl) (Nat.le_refl S.n) hlt
  (by
   rw[←heq]
   intro h hh
   obtain⟨hl,e1,_⟩:=hlent h hh
   exact⟨(p2 _ _ e1).1,fun hl' hl2=>yY hh hl2⟩)
  (by rw[←heq];exact zHT.1 hndB)
  (by
   rw[←heq]
   intro i hl hi r hr
   by_cases hd:hl=.dead
   ·subst hd;simp[zM] at hr
   ·exact(z5 hi hd).2.2 r hr) hnd2 (fun b hb=>hge2 b (by simp[hb])) hap2
 obtain⟨β',ϕ',c1,c2,c3,c4,c5,c6,c7,c8,c9⟩:=zDg s.ret (s.res ps) rvs fr [] _ _ _ _ hret b1 b2 (by simpa using (List.nodup_append.1 hnd).1) (fun b hb=>hge2 b (by simp[hb])) (by simpa using b5)
 exact⟨_,β',ϕ',rfl,fun _=>zD1 c5,fun h hh=>(c3 h (by omega)).trans (b3 h hh),c1,c2,zFH c6,zFG c7,Nat.le_trans b4 c8,hfr⟩
end
end
end Go.Proofs.YtdmbfkooebldcaaGreatDoor
