/-
  Part 14: contracts of functions, and the laws by which they are proved.
  Conditions: none.
-/
import Derived.Test.YtdmbfkooebldcaaGreatDoorW5
import Derived.OpenShut
import Derived.SizedLaws
import Derived.ReadAgain
import Derived.ProofKit
set_option linter.unusedVariables false
set_option linter.unusedSimpArgs false
set_option linter.unusedSectionVars false
set_option maxRecDepth 100000
namespace Go.Proofs.YtdmbfkooebldcaaGreatDoor
section
variable [zZ]
def zLz(g:Bool)(l:List PTy):PTy:=if g then .agg l else l.headD .opq
mutual
inductive Dat (P:Program):Nat→Bool→List PTy→Prop
 | int {t k}:P.underlying t=some (.int k)→t < P.types.size→Dat P t false [.int k]
 | bool {t}:P.underlying t=some .bool→t < P.types.size→Dat P t false [.bool]
 | str {t}:P.underlying t=some .string→t < P.types.size→Dat P t false [.str]
 | slice {t e g l}:P.underlying t=some (.slice e)→Dat P e g l→P.cellsOf e=l.length→0 < l.length→0 < P.bytesOf e→t < P.types.size→Dat P t false [.list (zLz g l)]
 | struct {t fs l}:P.underlying t=some (.struct fs)→zUS P (fs.toList.map (·.type)) l→P.cellsOf t=l.length→t < P.types.size→Dat P t true l
inductive zUS (P:Program):List Nat→List PTy→Prop
 | nil:zUS P [] []
 | cons {t ts g l m}:Dat P t g l→P.cellsOf t=l.length→zUS P ts m→zUS P (t :: ts) (l++m)
end
section
variable {H:Type} {enc:TypeId × Value→H} {P:Program} {w:World} {base:Nat} {spare:Nat→Bool}
theorem Dat.lt{t:Nat}{g:Bool}{l:List PTy}(h:Dat P t g l):t < P.types.size:=by
 cases h<;>assumption
theorem zKb{t:Nat}{l:List PTy}(h:Dat P t false l):∃T,l=[T]∧∀ts,T≠.agg ts:=by
 cases h<;>exact⟨_,rfl,by simp⟩
theorem zIe{base:Nat}{a:Addr}{n:Nat}{cs:List Value}(h:w.cells? base a n=some cs):cs.length=n∧∀i,i < n→w.cell? (a.add i)=cs[i]?:=by
 unfold World.cells? at h
 split at h
 ·refine⟨by simpa using mapM_some_length h,fun i hi=>?_⟩
  have:=mapM_some_get h i i (by simp[hi])
  exact this
 ·cases h
theorem zIO{n:Nat}(h:n≤reachBytes):n≤LIM:=by
 unfold reachBytes at h;unfold LIM;omega
theorem zKX{g:Bool}{l:List PTy}{T:PTy}(hT:T=zLz g l)(hg:g=false→∃T,l=[T]∧∀ts,T≠.agg ts):∀(css:List (List Value)),(∀cs∈css,∃qs f,Lv w l qs cs f) →
  ∃es f,es.length=css.length∧(∀e∈es,Shp T e)∧Lv w (zX T es.length) (zT es) css.flatten f∧T.leaves=l
 | [],_=>⟨[],[],rfl,by simp,by simpa[zX,zT] using Lv.nil,by
   subst hT
   cases g with
   | true=>rfl
   | false=>obtain⟨T,rfl,h⟩:=hg rfl;cases T<;>first | rfl | exact absurd rfl (h _)⟩
 | cs :: css,h=>by
  obtain⟨es,f,e1,e2,e3,e4⟩:=zKX hT hg css fun x hx=>h x (by simp[hx])
  obtain⟨qs,f1,hq⟩:=h cs (by simp)
  have key:∃e,Shp T e∧e.leaves=qs:=by
   subst hT
   cases g with
   | true=>exact⟨.agg qs,⟨qs,rfl,hq.lens.1.symm⟩,rfl⟩
   | false=>
    obtain⟨T,rfl,hn⟩:=hg rfl
    have hl:=hq.lens.1
    match qs,hl with
    | [q],_=>
     have hne:=hq.leaves_of q (by simp)
     refine⟨q,?_,?_⟩
     ·show Shp T q
      cases T<;>first | exact hne | exact absurd rfl (hn _)
     ·cases q<;>first | rfl | exact absurd rfl (hne _)
  obtain⟨e,k1,k2⟩:=key
  refine⟨e :: es,f1++f,by simp[e1],?_,?_,e4⟩
  ·intro x hx;rcases List.mem_cons.1 hx with rfl | hx
   ·exact k1
   ·exact e2 x hx
  ·have q1:zX T (e :: es).length=T.leaves++zX T es.length:=by simp[zX,List.replicate_succ]
   have q2:zT (e :: es)=e.leaves++zT es:=by simp[zT]
   rw[q1,q2,e4,k2,List.flatten_cons]
   exact hq.append e3
theorem zR7{k:IntKind}{n:Int}(h:(Lit.int k n).wf=true):inR k n:=by
 unfold Lit.wf at h;unfold inR
 simpa only[Bool.and_eq_true,decide_eq_true_eq] using h
theorem zNU{c:Array Value}{ci:List Value}{o k:Nat}(h1:ci.length=k)(h2:∀j,j < k→c[o+j]?=ci[j]?):(c.toList.drop o).take k=ci:=by
 apply List.ext_getElem?
 intro j
 by_cases hj:j < k
 ·rw[List.getElem?_take,if_pos hj,List.getElem?_drop,←h2 j hj];simp
 ·rw[List.getElem?_take,if_neg hj,List.getElem?_eq_none (by omega)]
theorem zH1{c:Array Value}{o k:Nat}:∀(css:List (List Value)) (i0:Nat),(∀i ci,css[i]?=some ci→ci.length=k∧∀j,j < k→c[o+(i0+i)*k+j]?=ci[j]?)→(c.toList.drop (o+i0*k)).take css.flatten.length=css.flatten
 | [],i0,_=>by simp
 | ci :: css,i0,h=>by
  obtain⟨h1,h2⟩:=h 0 ci (by simp)
  have ih:=zH1 (c:=c) (o:=o) (k:=k) css (i0+1) fun i cj hi=>by
   have:=h (i+1) cj (by simpa using hi)
   rw[show i0+(i+1)=i0+1+i by omega] at this
   exact this
  simp only[List.flatten_cons,List.length_append]
  rw[List.take_add,List.drop_drop,h1]
  congr 1
  ·exact zNU h1 fun j hj=>by simpa using h2 j hj
  ·rw[show o+i0*k+k=o+(i0+1)*k by rw[Nat.add_mul];omega]
   exact ih
theorem zDO{e:TypeId}:∀{ds:List (DataW H)} {d:DataW H},d∈ds→∀y∈d.weights P e,y∈DataW.weightsAll P e ds
 | x :: ds,d,hd,y,hy=>by
  simp only[DataW.weightsAll,List.mem_append]
  rcases List.mem_cons.1 hd with rfl | hd
  ·exact .inl hy
  ·exact .inr (zDO hd y hy)
theorem zMw{n:Nat}{cs:List Value}(ih:∀t g l cs x,Dat P t g l→DataW.trod enc P w base spare true n t cs=some x→(∀y∈x.1.weights P t,y≤reachBytes)→∃qs f,Lv w l qs cs f):∀(fs:List Field) (l:List PTy) (xs:List (DataW H × List MemPlace)) (o:Nat),zUS P (fs.map Field.type) l →
 (∀(j:Nat) (f:Field),fs[j]?=some f→f.offset=o+((fs.take j).map fun(f:Field)=>P.cellsOf f.type).sum)→(∀(j:Nat) (f:Field),fs[j]?=some f→DataW.trod enc P w base spare true n f.type ((cs.drop f.offset).take (P.cellsOf f.type))=xs[j]?)→xs.length=fs.length →
  (∀y∈DataW.weightsEach P (fs.map Field.type) (xs.map (·.1)),y≤reachBytes)→∃qs f,Lv w l qs ((cs.drop o).take l.length) f
 | [],l,xs,o,hd,hof,hx,hlen,hw=>by cases hd;exact⟨[],[],by simpa using Lv.nil⟩
 | f :: fs,l,xs,o,hd,hof,hx,hlen,hw=>by
  cases xs with
  | nil=>simp at hlen
  | cons x xs=>
   simp only[List.map_cons] at hd hw
   cases hd with
   | @cons t ts g l1 m h1 h2 h3=>
    have e0:=hof 0 f (by simp)
    simp only[List.take_zero,List.map_nil,List.sum_nil,Nat.add_zero] at e0
    have x0:=hx 0 f (by simp)
    simp only[List.getElem?_cons_zero,e0,h2] at x0
    simp only[DataW.weightsEach,List.mem_append] at hw
    obtain⟨q1,f1,hq1⟩:=ih _ _ _ _ _ h1 x0 (fun y hy=>hw y (.inl hy))
    obtain⟨q2,f2,hq2⟩:=zMw ih fs m xs (o+l1.length) h3 (fun j f' hj=>by
     have:=hof (j+1) f' (by simpa using hj)
     simp only[List.take_succ_cons,List.map_cons,List.sum_cons,h2] at this
     omega) (fun j f' hj=>by simpa using hx (j+1) f' (by simpa using hj)) (by simpa using hlen) (fun y hy=>hw y (.inr hy))
    refine⟨q1++q2,f1++f2,?_⟩
    rw[List.length_append,List.take_add,List.drop_drop]
    exact hq1.append hq2
theorem zPQ(K:Kids P (· < P.types.size))(hdt:∀t g l,Dat P t g l→t < P.types.size):∀(n:Nat) (t:Nat) (g:Bool) (l:List PTy) (cs:List Value) (x:DataW H × List MemPlace),Dat P t g l→DataW.trod enc P w base spare true n t cs=some x→(∀y∈x.1.weights P t,y≤reachBytes)→∃qs f,Lv w l qs cs f:=by
 intro n
 induction n with
 | zero=>intro t g l cs x _ h;simp[DataW.trod] at h
 | succ n ih=>
  intro t g l cs x hd h hw
  have hd0:=hd
  cases hd with
  | int ht _=>
   obtain⟨m,rfl,rfl,hwf⟩:=DataW.trod_int ht h
   exact⟨[.int _ m],[],.int (zR7 hwf) .nil⟩
  | bool ht _=>
   obtain⟨b,rfl,rfl⟩:=DataW.trod_bool ht h
   exact⟨[.bool b],[],.bool .nil⟩
  | str ht _=>
   obtain⟨b,rfl,rfl,hl⟩:=DataW.trod_string ht h
   have:=hw b.data.toList.length (by simp[DataW.weights])
   refine⟨[.str b.data.toList],[],?_⟩
   have hL:=Lv.str (w:=w) (zIO this) (Lv.nil (w:=w))
   simpa using hL
  | @slice _ e g' l' ht he hc hpos hby _=>
   rcases DataW.trod_slice ht h with ⟨rfl,rfl⟩ | ⟨a,len,cap,elems,rest,m,hm,rfl,rfl,hb,hle,hcap,hel,hget,_⟩
   ·exact⟨[.list []],[],.empty .nil⟩
   ·have hmn:m=n:=by omega
    subst hmn
    simp only[DataW.weights,ht,List.length_map,List.mem_cons,List.mem_append] at hw
    have hlim:len≤LIM:=by
     have h1:=zIO (hw _ (.inl rfl))
     have h2:elems.length*1≤(elems.length+rest.length)*P.bytesOf e:=Nat.mul_le_mul (by omega) hby
     omega
    cases len with
    | zero=>exact⟨[.list []],[],.empty .nil⟩
    | succ len=>
     have hcell:∀i,i < len+1→∃ci y,w.cells? base (a.add (i*l'.length)) l'.length=some ci∧elems[i]?=some y∧∃qs f,Lv w l' qs ci f:=by
      intro i hi
      have h1:=hget i hi
      have hy:elems[i]?=some elems[i]:=by simp[hel,hi]
      rw[hy,hc] at h1
      cases hci:w.cells? base (a.add (i*l'.length)) l'.length with
      | none=>rw[hci] at h1;cases h1
      | some ci=>
       rw[hci] at h1
       exact⟨ci,_,rfl,hy,ih e g' l' ci _ he h1 fun y hy=>hw y (.inr (.inl (zDO (List.mem_map.2 ⟨_,List.getElem_mem (by omega),rfl⟩) y hy)))⟩
     let ci:Nat→List Value:=fun i=>(w.cells? base (a.add (i*l'.length)) l'.length).getD []
     have hci:∀i,i < len+1→w.cells? base (a.add (i*l'.length)) l'.length=some (ci i)∧∃qs f,Lv w l' qs (ci i) f:=by
      intro i hi
      obtain⟨c,y,h1,_,h2⟩:=hcell i hi
      have:ci i=c:=by simp[ci,h1]
      rw[this];exact⟨h1,h2⟩
     have hT:∃T,T=zLz g' l':=⟨_,rfl⟩
     obtain⟨T,hT⟩:=hT
     obtain⟨es,f,e1,e2,e3,e4⟩:=zKX (w:=w) hT (fun hg=>by subst hg;exact zKb he) ((List.range (len+1)).map ci) fun cs hcs=>by
      obtain⟨i,hi,rfl⟩:=List.mem_map.1 hcs
      exact(hci i (by simpa using hi)).2
     simp only[List.length_map,List.length_range] at e1
     obtain⟨b,o,sp⟩:=a
     have h00:=(zIe (hci 0 (by omega)).1)
     have h01:=h00.2 0 hpos
     have hne:∃u,(ci 0)[0]?=some u:=⟨(ci 0)[0]'(by omega),by simp[h00.1,hpos]⟩
     obtain⟨u,hu⟩:=hne
     rw[hu] at h01
     have ha0:(Addr.add ⟨b,o,sp⟩ (0*l'.length)).add 0=⟨b,o,sp⟩:=by simp[Addr.add]
     rw[ha0] at h01
     simp only[World.cell?] at h01
     have hblk:∃c t' fr,w.heap[b]?=some (.cells c t' fr)∧sp=none:=by
      split at h01
      ·rename_i c t' fr hc'
       refine⟨c,t',fr,hc',?_⟩
       cases sp with
       | none=>rfl
       | some _=>simp at h01
      ·cases h01
     obtain⟨c,t',fr,hblk,rfl⟩:=hblk
     refine⟨[.list es],b :: f++[],?_⟩
     subst hT
     have:=Lv.list (cap:=cap) (o:=o) hblk e2 ⟨by omega,by omega⟩ e3 ?_ Lv.nil
     ·rw[e1] at this
      exact this
     ·have:=zH1 (c:=c) (o:=o) (k:=l'.length) ((List.range (len+1)).map ci) 0 fun i cj hi=>by
       simp only[List.getElem?_map,List.getElem?_range,Option.map_eq_some_iff] at hi
       obtain⟨j,hj,rfl⟩:=hi
       have hij:i < len+1∧i=j:=by
        by_cases hlt:i < len+1
        ·rw[List.getElem?_range hlt] at hj;cases hj;exact⟨hlt,rfl⟩
        ·rw[List.getElem?_eq_none (by simp;omega)] at hj;cases hj
       obtain⟨hlt,rfl⟩:=hij
       obtain⟨k1,k2⟩:=zIe (hci i hlt).1
       refine⟨k1,fun j hj=>?_⟩
       have:=k2 j hj
       rw[zAc,zAc] at this
       simp only[World.cell?,hblk] at this
       rw[←this]
       simp[Nat.add_assoc]
      simpa using this
  | @struct _ fs l ht hds hc _=>
   obtain⟨xs,m,hm,rfl,hlen,hxl,hget⟩:=DataW.trod_struct ht h
   have hmn:m=n:=by omega
   subst hmn
   obtain⟨_,_,hoff⟩:=K.struct (hdt _ _ _ hd0) ht
   simp only[DataW.weights,ht] at hw
   obtain⟨qs,f,hq⟩:=zMw (cs:=cs) ih fs.toList l xs 0 hds (fun j f hj=>by simpa using hoff j f hj) (fun j f hj=>hget j f (by simpa using hj)) (by simpa using hxl) hw
   refine⟨qs,f,?_⟩
   rw[List.drop_zero,List.take_of_length_le (by omega)] at hq
   exact hq
end
end
section
variable [zZ]
open Go.ChangeShapes Go.WideShapes Go.ChangeAt Go.RowKit
inductive zIq (P:Program):List Nat→List (Md × PTy)→Prop
 | nil:zIq P [] []
 | cons {t ts g l ats}:Dat P t g l→zIq P ts ats→zIq P (t :: ts) ((.rd,zLz g l) :: ats)
section
variable {H:Type} {enc:TypeId × Value→H} {P:Program} {W W':World}
theorem zKx{base:Nat}{t:Nat}{l:List PTy}{v:Value}(hd:Dat P t true l)(h:Value.okWide P W .any base t v):∃cs,v=.agg cs:=by
 cases hd with
 | struct ht _ _ _=>
  unfold Value.okWide at h
  rw[ht] at h
  obtain⟨cs,h,_⟩:=h
  exact⟨cs,h⟩
theorem zI9{base:Nat}{t:Nat}{l:List PTy}{v:Value}(hd:Dat P t false l)(h:Value.okWide P W .any base t v):v.cells.toList=[v]:=by
 cases hd with
 | int ht _=>unfold Value.okWide Cell.okWide Cell.ok at h;rw[ht] at h;cases v<;>first | rfl | (simp at h)
 | bool ht _=>unfold Value.okWide Cell.okWide Cell.ok at h;rw[ht] at h;cases v<;>first | rfl | (simp at h)
 | str ht _=>unfold Value.okWide Cell.okWide Cell.ok at h;rw[ht] at h;cases v<;>first | rfl | (simp at h)
 | slice ht _ _ _ _ _=>unfold Value.okWide Cell.okWide Cell.ok at h;rw[ht] at h;cases v<;>first | rfl | (simp at h)
theorem zS1(K:Kids P (· < P.types.size))(hdt:∀t g l,Dat P t g l→t < P.types.size){base:Nat}{t:Nat}{g:Bool}{l:List PTy}{v:Value}{d:DataW H}{p:List MemPlace}(hd:Dat P t g l)(hk:Value.okWide P W .any base t v)
  (h:DataW.Trod enc P W 0 (fun _=>true) true t v d p) (hw:∀y∈d.weights P t,y≤reachBytes):∃q f,zPI W (zLz g l) q v f f:=by
 obtain⟨n,h⟩:=h
 obtain⟨qs,f,hL⟩:=zPQ K hdt n t g l _ (d,p) hd h hw
 cases g with
 | true=>
  obtain⟨cs,rfl⟩:=zKx hd hk
  exact⟨.agg qs,f,qs,cs.toList,rfl,by simp,hL,rfl⟩
 | false=>
  rw[zI9 hd hk] at hL
  obtain⟨T,rfl,hn⟩:=zKb hd
  have hl:=hL.lens.1
  match qs,hl with
  | [q],_=>
   refine⟨q,f,?_⟩
   show zPI W T q v f f
   cases T with
   | agg ts=>exact absurd rfl (hn ts)
   | box ts=>cases hL
   | abx t=>cases hL
   | fn g ts=>cases hL
   | opq=>cases hL
   | int k=>exact⟨hL,rfl⟩
   | bool=>exact⟨hL,rfl⟩
   | str=>exact⟨hL,rfl⟩
   | list t=>exact⟨hL,rfl⟩
theorem zM7(K:Kids P (· < P.types.size))(hdt:∀t g l,Dat P t g l→t < P.types.size){base:Nat}:∀{ts:List Nat} {ats:List (Md × PTy)} {vs:List Value} {ds:List (DataW H)} {ps:List MemPlace},zIq P ts ats →
  (∀(j:Nat) t v,ts[j]?=some t→vs[j]?=some v→Value.okWide P W .any base t v)→DataW.TrodAll enc P W 0 (fun _=>true) true ts vs ds ps→(∀y∈DataW.weightsEach P ts ds,y≤reachBytes) →
  ∃qs fs,zAB W ats qs vs fs fs []
 | [],ats,vs,ds,ps,ha,hk,h,hw=>by
  cases ha
  cases vs<;>cases ds<;>simp[DataW.TrodAll] at h
  exact⟨[],[],.nil⟩
 | t :: ts,ats,[],ds,ps,ha,hk,h,hw=>by cases ds<;>simp[DataW.TrodAll] at h
 | t :: ts,ats,v :: vs,[],ps,ha,hk,h,hw=>by simp[DataW.TrodAll] at h
 | t :: ts,ats,v :: vs,d :: ds,ps,ha,hk,h,hw=>by
  cases ha with
  | @cons _ _ g l ats' hd ha=>
   obtain⟨p,q,h1,h2,rfl⟩:=h
   simp only[DataW.weightsEach,List.mem_append] at hw
   obtain⟨q1,f1,k1⟩:=zS1 K hdt hd (hk 0 t v (by simp) (by simp)) h1 (fun y hy=>hw y (.inl hy))
   obtain⟨qs,fs,k2⟩:=zM7 K hdt ha (fun j t' v' hj hv=>hk (j+1) t' v' (by simpa using hj) (by simpa using hv)) h2 (fun y hy=>hw y (.inr hy))
   exact⟨q1 :: qs,f1++fs,.rd k1 k2⟩
theorem zHz(h:Fr W [] W'){p:MemPlace}(hp:p.block < W.heap.size):W.sameAt W' p:=by
 have hb:=h.block p.block hp (by simp)
 cases p with
 | cell b o=>simp only[World.sameAt,World.cell?];rw[show W'.heap[b]?=W.heap[b]? from hb]
 | map b=>exact hb
theorem zGk(h:Fr W [] W'){sp:Nat→Bool}:∀{ts:List TypeId} {vs:List Value} {ds:List (DataW H)} {ps:List MemPlace},DataW.TrodAll enc P W 0 sp true ts vs ds ps→(∀p∈ps,p.block < W.heap.size)→DataW.TrodAll enc P W' 0 sp true ts vs ds ps
 | [],[],[],_,h0,_=>h0
 | [],[],_ :: _,_,h0,_=>h0.elim
 | [],_ :: _,_,_,h0,_=>h0.elim
 | _ :: _,[],_,_,h0,_=>h0.elim
 | _ :: _,_ :: _,[],_,h0,_=>h0.elim
 | t :: ts,v :: vs,d :: ds,_,⟨p,q,⟨n,h1⟩,h2,e⟩,hl=>by
  subst e
  exact⟨p,q,⟨n,DataW.trod_carry n t _ _ h1 fun x hx=>zHz h (hl x (List.mem_append_left _ hx))⟩,zGk h h2 fun x hx=>hl x (List.mem_append_right _ hx),rfl⟩
theorem zK0(h:Fr W [] W')(may:MemPlace→Prop):W.keptBut W' may:=by
 refine⟨h.os,h.output,fun i hi=>?_⟩
 rw[h.block i hi (by simp)]
 have:=(World.keptBut_refl W may).2.2 i hi
 exact this
end
end
end Go.Proofs.YtdmbfkooebldcaaGreatDoor
