/-
  Part 8: contracts of functions, and the laws by which they are proved.
  Conditions: none.
-/
import Derived.Test.YtdmbfkooebldcaaW5
import Derived.Lib.RuneBytes
set_option linter.unusedVariables false
set_option linter.unusedSimpArgs false
set_option linter.unusedSectionVars false
set_option maxRecDepth 100000
namespace Go.Proofs.Ytdmbfkooebldcaa
section
variable [ze]
open Go.Lib Go.RowKit
set_option maxHeartbeats 2000000 in
set_option maxRecDepth 100000 in
theorem zTN(b:Nat)(l:List UInt8)(s:ByteArray)(w:World)(f:List Nat)(h:zCR 99 5 b l w f)(hlen:l.length+s.size≤140737488355328) :
  Calls Try.prog 59 #[.pointer (some ⟨b,0,none⟩),.string s] w fun e w'=>e=.returned (.tuple #[.int .i64 s.size,.nilIface])∧∃f',zCR 99 5 b (l++s.data.toList) w' f'∧Fr w f w'∧∀x∈f',x∈f∨w.heap.size≤x:=by
 obtain⟨i0,hi,hz0,hz1,hz2⟩:=info_parts zS0
 have hbw:b < w.heap.size:=by
  obtain⟨p,v,_,hb,_⟩:=h
  exact(Array.getElem?_eq_some_iff.1 hb).1
 have hrow:∀v,f=b :: v→∀k∈v,k < w.heap.size:=by
  obtain⟨p,v,_,hb,hown,_,hf⟩:=h
  intro v' hv' k hk
  rw[hf] at hv';cases hv'
  exact(hown.lt k (by simpa using hk)).2
 go_enter Try.func59,Try.ntmps59
 go_wp2_with (go_at_call 72;refine(zI1 b l _ f h).mono ?_)
 rintro e w1 ⟨rfl,hU,hF1⟩
 obtain⟨v,hbk,hown,hne,hf⟩:=hU
 have c0:w1.cell? ⟨b,0,none⟩=some (.pointer (some ⟨b,0,none⟩)):=by simp[World.cell?,hbk]
 have c1:w1.cell? ⟨b,1,none⟩=some v:=by simp[World.cell?,hbk]
 go_wp2_with (at_builtin;refine zGp rfl _ _ 22 9 rfl 5 i0 Try.underlying22 Try.underlying9 hi hz0 hz1 hz2 _ _ _ rfl hown s rfl ?c3 ?c4 ?_)
 case c3=>unfold maxLen;omega
 case c4=>omega
 intro v' w2 hown' hgrow ho
 have hb2:w2.heap[b]?=some (.cells #[.pointer (some ⟨b,0,none⟩),v] 99 (0,0)):=by
  rw[hgrow.block b (Array.getElem?_eq_some_iff.1 hbk).1 (fun e=>hne e.symm)]
  exact hbk
 have d0:w2.cell? ⟨b,0,none⟩=some (.pointer (some ⟨b,0,none⟩)):=by simp[World.cell?,hb2]
 have d1:w2.cell? ⟨b,1,none⟩=some v:=by simp[World.cell?,hb2]
 have f1:w2.frozen? ⟨b,1,none⟩=false:=by simp[World.frozen?,hb2]
 obtain⟨ao,n',cap,rfl⟩:∃ao n' cap,v'=.slice ao n' cap:=by
  rcases hown'.2 with ⟨hv,_⟩ | ⟨g,cap,cur,hv,_⟩
  ·exact⟨_,_,_,hv⟩
  ·exact⟨_,_,_,hv⟩
 go_wp2
 go_ret2
 have e1:l.map (fun x=>Value.int .u8 x.toNat)++strCells s=(l++s.data.toList).map fun x=>Value.int .u8 x.toNat:=by simp[strCells]
 have e2:l.length+s.size=(l++s.data.toList).length:=by rw[List.length_append,Array.length_toList];rfl
 rw[e1,e2] at hown'
 refine⟨rfl,?_⟩
 exact zNX (by decide) hF1 hbw hbk hne hf hown' hgrow (ho.imp (fun h=>h) fun h=>⟨_,h,hF1.size⟩) (fun k hk=>hrow _ hf k (by rw[hk];exact List.mem_singleton.2 rfl))
set_option maxHeartbeats 2000000 in
set_option maxRecDepth 100000 in
theorem zTO(b:Nat)(l:List UInt8)(c:UInt8)(w:World)(f:List Nat)(h:zCR 99 5 b l w f)(hlen:l.length+1≤140737488355328) :
  Calls Try.prog 75 #[.pointer (some ⟨b,0,none⟩),.int .u8 c.toNat] w fun e w'=>e=.returned .nilIface∧∃f',zCR 99 5 b (l++[c]) w' f'∧Fr w f w'∧∀x∈f',x∈f∨w.heap.size≤x:=by
 obtain⟨i0,hi,hz0,hz1,hz2⟩:=info_parts zS0
 have hbw:b < w.heap.size:=by
  obtain⟨p,v,_,hb,_⟩:=h
  exact(Array.getElem?_eq_some_iff.1 hb).1
 have hrow:∀v,f=b :: v→∀k∈v,k < w.heap.size:=by
  obtain⟨p,v,_,hb,hown,_,hf⟩:=h
  intro v' hv' k hk
  rw[hf] at hv';cases hv'
  exact(hown.lt k (by simpa using hk)).2
 go_enter Try.func75,Try.ntmps75
 go_wp2_with (go_at_call 72;refine(zI1 b l _ f h).mono ?_)
 rintro e w0 ⟨rfl,hU,hF0⟩
 obtain⟨v,hbk,hown,hne,hf⟩:=hU
 have c0:w0.cell? ⟨b,0,none⟩=some (.pointer (some ⟨b,0,none⟩)):=by simp[World.cell?,hbk]
 have c1:w0.cell? ⟨b,1,none⟩=some v:=by simp[World.cell?,hbk]
 go_wp2_with (at_builtin;refine zGq rfl _ _ 22 rfl 5 i0 Try.underlying22 hi hz0 hz1 hz2 _ _ _ rfl (hown.alloc _) ⟨w0.heap.size,0,none⟩ (.int .u8 c.toNat) rfl ?c2 rfl ?c4 ?_)
 case c2=>rw[Lib.cell_of_heap (heap_alloc_new w0 _)];rfl
 case c4=>omega
 intro v' w2 hown' hgrow ho
 have hF1:Fr w [b] (w0.alloc (.cells #[.int .u8 c.toNat] 5)):=Fr.alloc hF0 _
 have hbk1:(w0.alloc (.cells #[.int .u8 c.toNat] 5)).heap[b]?=some (.cells #[.pointer (some ⟨b,0,none⟩),v] 99 (0,0)):=by
  rw[Proofs.Ytdmbfkooebldcaa.alloc_old w0 _ (Array.getElem?_eq_some_iff.1 hbk).1];exact hbk
 have hb2:w2.heap[b]?=some (.cells #[.pointer (some ⟨b,0,none⟩),v] 99 (0,0)):=by
  rw[hgrow.block b (Array.getElem?_eq_some_iff.1 hbk1).1 (fun e=>hne e.symm)]
  exact hbk1
 have d0:w2.cell? ⟨b,0,none⟩=some (.pointer (some ⟨b,0,none⟩)):=by simp[World.cell?,hb2]
 have d1:w2.cell? ⟨b,1,none⟩=some v:=by simp[World.cell?,hb2]
 have f1:w2.frozen? ⟨b,1,none⟩=false:=by simp[World.frozen?,hb2]
 obtain⟨ao,n',cap,rfl⟩:∃ao n' cap,v'=.slice ao n' cap:=by
  rcases hown'.2 with ⟨hv,_⟩ | ⟨g,cap,cur,hv,_⟩
  ·exact⟨_,_,_,hv⟩
  ·exact⟨_,_,_,hv⟩
 go_wp2
 go_ret
 have e1:l.map (fun x=>Value.int .u8 x.toNat)++[.int .u8 c.toNat]=(l++[c]).map fun x=>Value.int .u8 x.toNat:=by simp
 have e2:l.length+1=(l++[c]).length:=by simp
 rw[e1,e2] at hown'
 refine⟨rfl,?_⟩
 exact zNX (by decide) hF1 hbw hbk1 hne hf hown' hgrow (ho.imp (fun h=>h) fun h=>⟨_,h,by have:=hF0.size;omega⟩) (fun k hk=>hrow _ hf k (by rw[hk];exact List.mem_singleton.2 rfl))
set_option maxHeartbeats 1000000 in
set_option maxRecDepth 100000 in
theorem zQr(b:Nat)(l:List UInt8)(w:World)(f:List Nat)(h:zCR 99 5 b l w f) :
  Calls Try.prog 76 #[.pointer (some ⟨b,0,none⟩)] w fun e w'=>e=.returned (.int .i64 l.length)∧w'=w:=by
 obtain⟨p,v,_,hbk,hown,hne,hf⟩:=h
 obtain⟨ao,cap,rfl⟩:∃ao cap,v=.slice ao l.length cap:=by
  rcases hown.2 with ⟨hv,h0⟩ | ⟨g,cap,cur,hv,_⟩
  ·exact⟨none,0,by rw[hv,h0]⟩
  ·exact⟨_,_,hv⟩
 have c1:w.cell? ⟨b,1,none⟩=some (.slice ao l.length cap):=by simp[World.cell?,hbk]
 go_enter Try.func76,Try.ntmps76
 go_wp2
 go_ret
 exact⟨rfl,rfl⟩
theorem zTL:Try.prog.cellsOf 5=1:=by kernel_rfl
theorem zNC{w:World}{f:List Nat}(g n:Nat)(hg:g∈f):Fr w f (w.drew.freeze ⟨g,0,none⟩ n):=by
 have h:Fr w.drew f (w.drew.freeze ⟨g,0,none⟩ n):=by
  unfold World.freeze
  split
  ·exact Fr.refl _ _
  ·exact⟨rfl,rfl,rfl,by simp,fun k hk hn=>by
    simp only[Array.getElem?_modify]
    rw[if_neg (fun e=>hn (by rw[←e];exact hg))]⟩
 exact⟨h.os,h.tape,h.output,h.size,h.block⟩
set_option maxHeartbeats 2000000 in
set_option maxRecDepth 100000 in
theorem zQq(b:Nat)(l:List UInt8)(w:World)(f:List Nat)(h:zCR 99 5 b l w f)(h0:l≠[]) :
  Calls Try.prog 60 #[.pointer (some ⟨b,0,none⟩)] w fun e w'=>e=.returned (.string ⟨l.toArray⟩)∧Fr w f w':=by
 obtain⟨p,v,_,hbk,hown,hne,hf⟩:=h
 have hl0:l.length≠0:=by simpa using h0
 obtain⟨g,cap,cur,rfl,hbg,hg,hnc,hcm,hcs,htake⟩:∃g cap cur,v=.slice (some ⟨g,0,none⟩) l.length cap∧0≤g∧w.heap[g]?=some (.cells cur 5 (0,0))∧l.length≤cap∧cap≤maxLen∧cur.size=cap*1∧cur.toList.take (l.length*1)=l.map fun x=>Value.int .u8 x.toNat:=by
  rcases hown.2 with ⟨_,hz⟩ | ⟨g,cap,cur,hv,r⟩
  ·exact absurd hz hl0
  ·exact⟨g,cap,cur,hv,r⟩
 have c1:w.drew.cell? ⟨b,1,none⟩=some (.slice (some ⟨g,0,none⟩) l.length cap):=by
  have:w.drew.heap[b]?=some (.cells #[p,.slice (some ⟨g,0,none⟩) l.length cap] 99 (0,0)):=hbk
  simp[World.cell?,this]
 have hSD:(Builtin.unsafeSliceData_ #[22] 115 #[.slice (some ⟨g,0,none⟩) l.length cap]).run Try.prog w.drew=.ok (.pointer (some ⟨g,0,none⟩)) w.drew:=
  Lib.run_unsafeSliceData_row _ _ _ _ _ _ (by omega)
 have hUS:(Builtin.unsafeString_ #[115,3] 9 #[.pointer (some ⟨g,0,none⟩),.int .i64 l.length]).run Try.prog w.drew=.ok (.string ⟨l.toArray⟩) (w.drew.freeze ⟨g,0,none⟩ l.length):=by
  refine Lib.run_unsafeString_row w.drew 115 3 9 5 Try.underlying115 zTL g cur.size (by have hg':w.drew.heap[g]?=some (.cells cur 5 (0,0)):=hg;simp[World.shape?,hg']) l h0 (by omega) (by unfold maxLen at hcm;omega) ?_
  intro j x hx
  exact hown.cells (g:=g) rfl j (.int .u8 x.toNat) (by simp[hx])
 go_enter Try.func60,Try.ntmps60
 go_wp2
 go_region
 all_goals (go_wp2;go_ret;exact⟨rfl,zNC g _ (by rw[hf];simp[Value.ownBlock])⟩)
set_option maxHeartbeats 2000000 in
set_option maxRecDepth 100000 in
theorem zOt(b:Nat)(w:World)(f:List Nat)(h:zCR 99 5 b [] w f) :
  Calls Try.prog 60 #[.pointer (some ⟨b,0,none⟩)] w fun e w'=>e=.returned (.string ⟨#[]⟩)∧Fr w f w':=by
 obtain⟨p,v,_,hbk,hown,hne,hf⟩:=h
 have hd:Fr w f w.drew:=⟨rfl,rfl,rfl,Nat.le_refl _,fun _ _ _=>rfl⟩
 rcases hown.2 with ⟨hv,hz⟩ | ⟨g,cap,cur,hv,hg0,hg,_⟩
 ·subst hv
  have c1:w.drew.cell? ⟨b,1,none⟩=some (.slice none 0 0):=by
   have:w.drew.heap[b]?=some (.cells #[p,.slice none 0 0] 99 (0,0)):=hbk
   simp[World.cell?,this]
  have hSD:(Builtin.unsafeSliceData_ #[22] 115 #[.slice none 0 0]).run Try.prog w.drew=.ok (.pointer none) w.drew:=Lib.run_unsafeSliceData_nil _ _ _ _ _
  have hUS:(Builtin.unsafeString_ #[115,3] 9 #[.pointer none,.int .i64 0]).run Try.prog w.drew=.ok (.string .empty) w.drew:=Lib.run_unsafeString_none _ _ _ _ _
  go_enter Try.func60,Try.ntmps60
  go_wp2
  go_region
  all_goals (go_wp2;go_ret;exact⟨rfl,hd⟩)
 ·subst hv
  have hg':w.drew.heap[g]?=some (.cells cur 5 (0,0)):=hg
  have c1:w.drew.cell? ⟨b,1,none⟩=some (.slice (some ⟨g,0,none⟩) 0 cap):=by
   have:w.drew.heap[b]?=some (.cells #[p,.slice (some ⟨g,0,none⟩) 0 cap] 99 (0,0)):=hbk
   simp[World.cell?,this]
  by_cases hc:cap=0
  ·subst hc
   have hSD:(Builtin.unsafeSliceData_ #[22] 115 #[.slice (some ⟨g,0,none⟩) 0 0]).run Try.prog w.drew=.ok (.pointer (some ⟨w.drew.heap.size,0,none⟩)) (w.drew.alloc (.view ⟨g,0,none⟩ 5)):=
    Lib.run_unsafeSliceData_zero _ _ _ _ Try.underlying115 _ _ (5,cur.size) (by simp[World.shape?,hg'])
   have hUS:(Builtin.unsafeString_ #[115,3] 9 #[.pointer (some ⟨w.heap.size,0,none⟩),.int .i64 0]).run Try.prog (w.alloc (.view ⟨g,0,none⟩ 5)).drew=.ok (.string .empty) (w.alloc (.view ⟨g,0,none⟩ 5)).drew:=Lib.run_unsafeString_none _ _ _ _ _
   have c2:(w.alloc (.view ⟨g,0,none⟩ 5)).cell? ⟨b,1,none⟩=some (.slice (some ⟨g,0,none⟩) 0 0):=by
    have hlt:b < w.heap.size:=(Array.getElem?_eq_some_iff.1 hbk).1
    have:(w.alloc (.view ⟨g,0,none⟩ 5)).heap[b]?=w.heap[b]?:=alloc_old w _ hlt
    have h2:w.heap[b]?=some (.cells #[p,.slice (some ⟨g,0,none⟩) 0 0] 99 (0,0)):=hbk
    simp[World.cell?,this,h2]
   have hF:Fr w f (w.alloc (.view ⟨g,0,none⟩ 5)):=Fr.alloc (Fr.refl _ _) _
   have hF:Fr w f (w.alloc (.view ⟨g,0,none⟩ 5)).drew:=⟨hF.os,hF.tape,hF.output,hF.size,hF.block⟩
   go_enter Try.func60,Try.ntmps60
   go_wp2
   go_region
   all_goals (go_wp2;go_ret;exact⟨rfl,hF⟩)
  ·have hSD:(Builtin.unsafeSliceData_ #[22] 115 #[.slice (some ⟨g,0,none⟩) 0 cap]).run Try.prog w.drew=.ok (.pointer (some ⟨g,0,none⟩)) w.drew:=Lib.run_unsafeSliceData_row _ _ _ _ _ _ hc
   have hUS:(Builtin.unsafeString_ #[115,3] 9 #[.pointer (some ⟨g,0,none⟩),.int .i64 0]).run Try.prog w.drew=.ok (.string .empty) w.drew:=Lib.run_unsafeString_none _ _ _ _ _
   go_enter Try.func60,Try.ntmps60
   go_wp2
   go_region
   all_goals (go_wp2;go_ret;exact⟨rfl,hd⟩)
theorem zOs(b:Nat)(l:List UInt8)(w:World)(f:List Nat)(h:zCR 99 5 b l w f) :
  Calls Try.prog 60 #[.pointer (some ⟨b,0,none⟩)] w fun e w'=>e=.returned (.string ⟨l.toArray⟩)∧Fr w f w':=by
 by_cases h0:l=[]
 ·subst h0;exact zOt b w f h
 ·exact zQq b l w f h h0
end
section
variable [ze]
open Go.Lib Go.RowKit
section
variable {P:Program} {w:World}
end
def zLF(r:Int):List Int:=
 if r < 128 then [r] else if r < 2048 then [192+r / 64,128+r % 64] else if r < 65536 then [224+r / 4096,128+r / 64 % 64,128+r % 64]
 else [240+r / 262144,128+r / 4096 % 64,128+r / 64 % 64,128+r % 64]
end
section
variable [ze]
def zFO(N:Nat)(S:St):Option Nat→Prop
 | none=>True
 | some t=>t < N∧(lk S.Lp t).isNone=true∧(lk S.Lt t).isNone=true
def zOv:Option Nat:=some 59
def zOw:Option Nat:=some 75
def zNk:Option Nat:=none
def zH2:Option Nat:=some 76
def zEn(n:Int):List UInt8:=(zLF n).map fun z=>UInt8.ofNat z.toNat
def zNl (N : Nat) (keep : List Nat) (S : St) (o : Oper) (K : St → Prop) : Prop :=
  match o.op with
  | .alloc t => t = 99 ∧ o.guard = none ∧ zB1 N keep true o.dst ∧ K (zDe keep S true o.dst ⟨True, True, .ptr S.n 0, (S.n, .bld 99 5 []) :: S.A, S.n + 1⟩)
  | .call c => (match c.callee, c.args.toList with
    | .value f, [x, y] => (match S.ev f, S.ev x, S.ev y with
      | some (true, .fn g []), some (true, .ptr h 0), some (true, .str s) => (match lk S.A h with
        | some (.bld T 5 l) => zOv = some g ∧ T = 99 ∧ l.length + s.length ≤ LIM ∧ o.guard = none ∧ zFO N S o.dst ∧ K { S with A := y8 (zL [h] S.A) h (.bld T 5 (l ++ s)) }
        | _ => False)
      | some (true, .fn g []), some (true, .ptr h 0), some (true, .int .u8 n) => (match lk S.A h with
        | some (.bld T 5 l) => zOw = some g ∧ T = 99 ∧ l.length + 1 ≤ LIM ∧ o.guard = none ∧ zFO N S o.dst ∧ K { S with A := y8 (zL [h] S.A) h (.bld T 5 (l ++ [UInt8.ofNat n.toNat])) }
        | _ => False)
      | some (true, .fn g []), some (true, .ptr h 0), some (true, .int .i32 n) => (match lk S.A h with
        | some (.bld T 5 l) => zNk = some g ∧ T = 99 ∧ (0 ≤ n ∧ n ≤ 1114111 ∧ (n < 55296 ∨ 57343 < n)) ∧ l.length + 4 ≤ LIM ∧ o.guard = none ∧ zFO N S o.dst ∧ K { S with A := y8 (zL [h] S.A) h (.bld T 5 (l ++ zEn n)) }
        | _ => False)
      | _, _, _ => False)
    | .value f, [x] => (match S.ev f, S.ev x with
      | some (true, .fn g []), some (true, .ptr h 0) => (match lk S.A h with
        | some (.bld T 5 l) => T = 99 ∧ o.guard = none ∧ zB1 N keep true o.dst ∧
          ((zH2 = some g ∧ K (zDe keep S true o.dst ⟨True, True, .int .i64 l.length, S.A, S.n⟩)) ∨
           (g = 60 ∧ l.length ≤ LIM ∧ K (zDe keep S true o.dst ⟨True, True, .str l, zL [h] S.A, S.n⟩)))
        | _ => False)
      | _, _ => False)
    | _, _ => False)
  | _ => False
structure zPi (N:Nat) (keep:List Nat) (W:List KI→St→Prop):Prop where
 bld:∀(all l:List Oper) (o:Oper) (k:List KI) (S:St),zNl N keep S o (fun S'=>W (.run all l :: k) S')→W (.run all (o :: l) :: k) S
section
variable {C:Cx} {S:St} {a:Act} {w w':World} {o:Oper} {all l:List Oper} {k:List KI}
theorem zNZ{β:Nat→GV}{ϕ ϕ':Nat→List Nat}{A':Hp}{v:Value}(kp:Kp C.keep S)(hn:C.n0≤S.n)(sat:Sat C.N C.w0 C.X C.F S β ϕ a w)(h0:∀h,h < C.n0→β h=C.β0 h)
  (hd:zFO C.N S o.dst) (hp:zM C.w0.heap.size C.X C.F A' β ϕ' w') (hb:Bd S.n β A') (hf:Fr C.w0 C.X w'):At C { S with A:=A' } (a.put o.dst v) w':=by
 cases hdst:o.dst with
 | none=>exact⟨kp,hn,β,ϕ',⟨sat.df,sat.sz,sat.lp,sat.lt,hp,hb,hf,sat.gl⟩,h0⟩
 | some d=>
  rw[hdst] at hd
  obtain⟨_,hd1,hd2⟩:=hd
  have hoth:∀t,d≠t→(a.put (some d) v).tmps[t]?=a.tmps[t]?:=fun t ht=>by
   simp only[Act.put];exact Array.getElem?_setIfInBounds_ne ht
  refine⟨kp,hn,β,ϕ',⟨sat.df,by simp only[Act.put,Array.size_setIfInBounds];exact sat.sz,?_,?_,hp,hb,hf,sat.gl⟩,h0⟩
  ·intro t x ht
   have:d≠t:=fun e=>by subst e;rw[ht] at hd1;cases hd1
   rw[hoth t this];exact sat.lp t x ht
  ·intro t g x ht
   have:d≠t:=fun e=>by subst e;rw[ht] at hd2;cases hd2
   rw[hoth t this];exact sat.lt t g x ht
theorem zK4{β:Nat→GV}{ϕ:Nat→List Nat}{N:Nat}{w0:World}{X F:List Nat}{S:St}{h T e b:Nat}{l l':List UInt8}{f':List Nat}(sat:Sat N w0 X F S β ϕ a w)(hl:lk S.A h=some (.bld T e l))(hv:(β h).v=.pointer (some ⟨b,0,none⟩))
  (hB:zCR T e b l' w' f') (hF:Fr w (ϕ h) w') (hf:∀x∈f',x∈ϕ h∨w.heap.size≤x) :
  ∃ϕ',zM w0.heap.size X F (y8 (zL [h] S.A) h (.bld T e l')) β ϕ' w'∧Bd S.n β (y8 (zL [h] S.A) h (.bld T e l'))∧Fr w0 X w':=by
 have hown:∀b∈ϕ h,b∈X∨w0.heap.size≤b:=fun b hb=>sat.hp.own h _ hl b hb
 have hall:∀b∈ϕ h,b∈F∨w0.heap.size≤b:=fun b hb=>sat.hp.all h _ hl trivial b hb
 have hfr:Fr w0 X w':=sat.fr.trans hF (fun x hx=>hx) (fun b hb=>hown b hb)
 have hst:=sat.hp.struck [h]
 have hap:yI (zL [h] S.A) ϕ (ϕ h):=zu sat.hp fun b hb=>⟨h,by simp,_,hl,hb⟩
 have hst':zM w0.heap.size X F (zL [h] S.A) β ϕ w':=hst.world fun i hl hi hd b hb=>hF.block b (hst.inb hi hd b hb) (hap i hl hi hd b hb)
 have hap2:yI (zL [h] S.A) ϕ f':=by
  intro i hl hi hd b hb hm
  rcases hf b hm with h1 | h1
  ·exact hap i hl hi hd b hb h1
  ·have:=hst.inb hi hd b hb;omega
 have hge:∀b∈f',(b∈X∨w0.heap.size≤b)∧(b∈F∨w0.heap.size≤b):=by
  intro b hb
  rcases hf b hb with h1 | h1
  ·exact⟨hown b h1,hall b h1⟩
  ·exact⟨.inr (Nat.le_trans sat.fr.size h1),.inr (Nat.le_trans sat.fr.size h1)⟩
 have hput:=hst'.put (A':=y8 (zL [h] S.A) h (.bld T e l')) (n:=h) (hl0:=.bld T e l') (f:=f') (fun j=>zQ _ _ _) (fun hl' hi=>yj (by simp) hi)
  ⟨b,hv,hB⟩ (fun c hc=>(hge c hc).1) (fun _ c hc=>(hge c hc).2) trivial hap2
  (fun i hl' hi _ c hc hm=>by
   by_cases hdd:hl'=.dead
   ·subst hdd;simp[zH] at hc
   ·exact hap2 i hl' hi hdd c (zX c hc) hm) trivial (fun _ _ _ e=>by cases e) (by simp[zN])
 exact⟨_,hput,zCL (yX sat.hb [h]) (fun j=>zQ _ _ _) (sat.hb _ _ hl).1 trivial,hfr⟩
set_option maxHeartbeats 1000000 in
theorem zNW(hC:C.Ok)(hP:C.P=Try.prog):zPi C.N C.keep (WP C):=by
 refine⟨fun all l o k S h a w hat=>?_⟩
 obtain⟨kp,hn,β,ϕ,sat,h0⟩:=hat
 show wpList C.P all.toArray (xt C k) (o :: l) a w
 unfold wpList
 unfold zNl at h
 have hgd:o.guard=none→Region.wanted o (yielded all.toArray a.tmps)=true:=fun hg=>zj (g:=true) (by rw[hg];rfl) sat
 have call:∀{c:Call} {f:Operand} {g:Nat} {vs:List SV} {fn:Func} {Q':Value→World→Prop} {h:Nat} (ho:o.op=.call c) (hc:c.callee=.value f) (hf:S.ev f=some (true,.fn g [])) (hvs:c.args.toList.map a.eval=SV.vals β vs) (hfn:C.P.funcs[g]?=some fn) (hbd:fn.body.isNone=false) (hnm:(fn.name == "runtime.NumGoroutine")=false)
   (hcall:Calls C.P g (SV.vals β vs).toArray w fun e w'=>∃v,e=.returned v∧Q' v w') (next:Act→World→Prop) (Q:Exit→Act→World→Prop),(∀v w',Q' v w'→next (a.put o.dst v) w')→o.wp C.P a w next Q:=by
  intro c f g vs fn Q' _ ho hc hf hvs hfn hbd hnm hcall next Q hnext
  obtain⟨_,f2⟩:=zE hf sat
  obtain⟨f3,_⟩:=f2 rfl
  have hrun:=zDL (P:=C.P) (w:=w) (ob:=True) ho hc f3 hvs hfn hbd hnm
  rw[List.append_nil] at hrun
  unfold Oper.wp
  rw[hrun,Oper.upon_enter]
  refine hcall.mono fun e w' he=>?_
  obtain⟨v,rfl,hq⟩:=he
  exact hnext v w' hq
 have ptr:∀{h T:Nat} {l:List UInt8},lk S.A h=some (.bld T 5 l)→∃b,(β h).v=.pointer (some ⟨b,0,none⟩)∧zCR T 5 b l w (ϕ h)∧SV.val β (.ptr h 0)=.pointer (some ⟨b,0,none⟩):=by
  intro h T l hl
  obtain⟨b,h1,h2⟩:=sat.hp.sat _ _ hl
  exact⟨b,h1,h2,by simp[SV.val,h1]⟩
 split at h
 ·rename_i t ho
  obtain⟨rfl,hg,hd,hk⟩:=h
  rw[if_pos (hgd hg)]
  have hz:=Try.zeroValue99 w
  have hadd:=sat.hp.addNew (n:=S.n) (hl0:=.bld 99 5 []) (g:=⟨.pointer (some ⟨w.heap.size,0,none⟩),[],[]⟩) (f:=[w.heap.size]) (w':=w.alloc (.cells #[.pointer none,.slice none 0 0] 99)) sat.hb sat.fr (fun b hb=>alloc_old w _ hb) rfl
   ⟨w.heap.size,rfl,.pointer none,.slice none 0 0,.inl rfl,heap_alloc_new w _,World.ownsRow_nil _ _ _ _,by simp[Value.ownBlock],by simp[Value.ownBlock]⟩ (by simp) trivial rfl trivial
  refine .inl (zRw.wp (.inl ?_) (hk _ _ (yM (v:=.pointer (some ⟨w.heap.size,0,none⟩)) kp hn sat h0 hd ⟨fun _=>?_,fun h hh=>zt _ _ _ hh,hadd,zAt sat.hb trivial,?_,?_,Nat.le_succ _,sat.fr.alloc _⟩)))
  ·rw[hP]
   simp only[execOp,ho,Instr.alloc,newVar,newRow,Sem.run_bind,Sem.run_pure,run_newObj,Result.andThen_ok,hz]
   rfl
  ·simp[SV.val,zk]
  ·show SV.lt _ (SV.ptr _ _)
   simp[SV.lt]
  ·exact⟨w.heap.size,0,by simp[zk]⟩
 ·rename_i c ho
  split at h
  ·rename_i f x y hc hargs
   split at h
   ·rename_i g i s hf hx hy
    split at h
    ·rename_i T l0 hl
     obtain⟨hgw,rfl,hlen,hg,hd,hk⟩:=h
     cases hgw
     rw[if_pos (hgd hg)]
     obtain⟨b,hb,hB,hbv⟩:=ptr hl
     obtain⟨_,x2⟩:=zE hx sat
     obtain⟨_,y2⟩:=zE hy sat
     refine .inl (call (h:=0) (vs:=[.ptr i 0,.str s]) (Q':=fun v w'=>∃f',zCR 99 5 b (l0++s) w' f'∧Fr w (ϕ i) w'∧∀x∈f',x∈ϕ i∨w.heap.size≤x) ho hc hf ?_ (by rw[hP];exact Try.func59) (by kernel_rfl) (by kernel_rfl) ?_ _ _ fun v w' hq=>?_)
     ·rw[hargs];simp only[List.map_cons,List.map_nil,SV.vals,(x2 rfl).1,(y2 rfl).1]
     ·rw[hP]
      simp only[SV.vals,hbv]
      refine(zTN b l0 ⟨s.toArray⟩ w (ϕ i) hB (by simpa[ByteArray.size,LIM] using hlen)).mono fun e w' he=>?_
      obtain⟨rfl,h1⟩:=he
      exact⟨_,rfl,by simpa using h1⟩
     ·obtain⟨f',q1,q2,q3⟩:=hq
      obtain⟨ϕ',r1,r2,r3⟩:=zK4 sat hl hb q1 q2 q3
      exact hk _ _ (zNZ kp hn sat h0 hd r1 r2 r3)
    ·exact h.elim
   ·rename_i g i n hf hx hy
    split at h
    ·rename_i T l0 hl
     obtain⟨hgw,rfl,hlen,hg,hd,hk⟩:=h
     cases hgw
     rw[if_pos (hgd hg)]
     obtain⟨b,hb,hB,hbv⟩:=ptr hl
     obtain⟨_,x2⟩:=zE hx sat
     obtain⟨_,y2⟩:=zE hy sat
     have hn8:((UInt8.ofNat n.toNat).toNat:Int)=n:=by
      have:inR .u8 n:=(y2 rfl).2
      simp[inR,IntKind.min,IntKind.max,IntKind.signed,IntKind.bits] at this
      rw[UInt8.toNat_ofNat',Nat.mod_eq_of_lt (by omega)];omega
     generalize UInt8.ofNat n.toNat=c8 at hn8 hk
     subst hn8
     have hw:=zTO b l0 c8 w (ϕ i) hB (by simpa[LIM] using hlen)
     refine .inl (call (h:=0) (vs:=[.ptr i 0,.int .u8 (c8.toNat:Int)]) (Q':=fun v w'=>∃f',zCR 99 5 b (l0++[c8]) w' f'∧Fr w (ϕ i) w'∧∀x∈f',x∈ϕ i∨w.heap.size≤x) ho hc hf ?_ (by rw[hP];exact Try.func75) (by kernel_rfl) (by kernel_rfl) ?_ _ _ fun v w' hq=>?_)
     ·rw[hargs];simp only[List.map_cons,List.map_nil,SV.vals,(x2 rfl).1,(y2 rfl).1]
     ·rw[hP]
      simp only[SV.vals,hbv]
      simp only[SV.val]
      refine hw.mono fun e w' he=>?_
      obtain⟨rfl,h1⟩:=he
      exact⟨_,rfl,h1⟩
     ·obtain⟨f',q1,q2,q3⟩:=hq
      obtain⟨ϕ',r1,r2,r3⟩:=zK4 sat hl hb q1 q2 q3
      exact hk _ _ (zNZ kp hn sat h0 hd r1 r2 r3)
    ·exact h.elim
   ·rename_i g i n hf hx hy
    split at h
    ·rename_i T l0 hl
     exact absurd h.1 (by simp[zNk])
    ·exact h.elim
   ·exact h.elim
  ·rename_i f x hc hargs
   split at h
   ·rename_i g i hf hx
    split at h
    ·rename_i T l0 hl
     obtain⟨rfl,hg,hd,h⟩:=h
     rw[if_pos (hgd hg)]
     obtain⟨b,hb,hB,hbv⟩:=ptr hl
     obtain⟨_,x2⟩:=zE hx sat
     rcases h with ⟨hgw,hk⟩ | ⟨rfl,hlen,hk⟩
     ·cases hgw
      refine .inl (call (h:=0) (vs:=[.ptr i 0]) (Q':=fun v w'=>v=.int .i64 l0.length∧w'=w) ho hc hf ?_ (by rw[hP];exact Try.func76) (by kernel_rfl) (by kernel_rfl) ?_ _ _ fun v w' hq=>?_)
      ·rw[hargs];simp only[List.map_cons,List.map_nil,SV.vals,(x2 rfl).1]
      ·rw[hP]
       simp only[SV.vals,hbv]
       refine(zQr b l0 w (ϕ i) hB).mono fun e w' he=>?_
       obtain⟨rfl,h1⟩:=he
       exact⟨_,rfl,rfl,h1⟩
      ·obtain⟨rfl,rfl⟩:=hq
       have hlr:inR .i64 (l0.length:Int):=by
        have h9:l0.length≤maxLen:=by
         obtain⟨p,v,_,_,⟨_,h4⟩,_⟩:=hB
         rcases h4 with ⟨_,h4⟩ | ⟨_,cap,_,_,_,_,h4,h5,_⟩
         ·omega
         ·omega
        rw[zQS];unfold maxLen at h9;omega
       exact hk _ _ (yM kp hn sat h0 hd (zF6 sat trivial hlr))
     ·refine .inl (call (h:=0) (vs:=[.ptr i 0]) (Q':=fun v w'=>v=.string ⟨l0.toArray⟩∧Fr w (ϕ i) w') ho hc hf ?_ (by rw[hP];exact Try.func60) (by kernel_rfl) (by kernel_rfl) ?_ _ _ fun v w' hq=>?_)
      ·rw[hargs];simp only[List.map_cons,List.map_nil,SV.vals,(x2 rfl).1]
      ·rw[hP]
       simp only[SV.vals,hbv]
       refine(zOs b l0 w (ϕ i) hB).mono fun e w' he=>?_
       obtain⟨rfl,h1⟩:=he
       exact⟨_,rfl,rfl,h1⟩
      ·obtain⟨rfl,hF⟩:=hq
       have hap:yI (zL [i] S.A) ϕ (ϕ i):=zu sat.hp fun b hb=>⟨i,by simp,_,hl,hb⟩
       have hst:=sat.hp.struck [i]
       have hst':zM C.w0.heap.size C.X C.F (zL [i] S.A) β ϕ w':=hst.world fun j hl hi hd b hb=>hF.block b (hst.inb hi hd b hb) (hap j hl hi hd b hb)
       exact hk _ _ (yM kp hn sat h0 hd ⟨fun _=>rfl,fun _ _=>rfl,hst',yX sat.hb [i],trivial,hlen,Nat.le_refl _,sat.fr.trans hF (fun x hx=>hx) (fun b hb=>sat.hp.own i _ hl b hb)⟩)
    ·exact h.elim
   ·exact h.elim
  ·exact h.elim
 ·exact h.elim
end
theorem bG{N:Nat}{keep:List Nat}(C:Cx)(hC:C.Ok)(hP:C.P=Try.prog)(hN:C.N=N)(hk:C.keep=keep):zPi N keep (WP C):=by
 subst hN hk
 exact zNW hC hP
end
section
variable [ze]
open Go.Lib Go.RowKit
def zCr(es:List PV):Int:=(es.length:Int).tmod 1000
def zIJ(slot:Nat)(es:List PV)(S:St):Prop:=
 match lk S.Lp slot with
 | some (.ptr h 0)=>∃t,lk S.A h=some (.box true t [.sl 0,.int .i64 0,.int .i64 (zCr es)])
 | _=>False
def zH5(w:World)(v:Value)(es:List PV)(e:Ending)(w':World):Prop:=
 ∃b t pre post,e=.returned (.pointer (some ⟨b,pre.length,none⟩))∧w.heap.size≤b∧w'.heap[b]?=some (.cells (pre++[v,.int .i64 0,.int .i64 (zCr es)]++post).toArray t (0,0))∧Fr w [] w'
theorem zL9{P:Program}{E:Env}{fid:FuncId}{fn:Func}{c:Code}{es:List PV}(keep:List Nat)(slot:Nat)(hE:zCQ P E)(hm:P.follows .mixedOrders=true)(hf:P.funcs[fid]?=some fn)(hb:fn.body=some c)
  (hr:fn.results=[ResultVar.tmp slot].toArray) (hp:1≤fn.ntmps) (hkeep:keep.contains 0=true)
  (h:∀W,zI4 E fn.ntmps keep 1 (zIJ slot es) W→W [.code c] ⟨[(0,.sl 0)],[],[(0,.arr (.vw []) (.int .u8) es .no)],1⟩) :
  ∀(w:World) (v:Value) (f:List Nat),Lv w [.list (.int .u8)] [.list es] [v] f→zPh w []→Calls P fid #[v] w fun e w'=>zH5 w v es e w':=by
 intro w v f hL hgl
 have hA:zAQ w [(.rd,.list (.int .u8))] [.list es] [v] f f []:=by
  have:=zAQ.rd (show zPj w (.list (.int .u8)) (.list es) v f f from ⟨hL,rfl⟩) zAQ.nil
  simpa using this
 have h0:zM w.heap.size [] (f++[]) [] (fun _=>⟨Value.bool false,[],[]⟩) (fun _=>[]) w:=
  ⟨fun _=>rfl,fun _ _ h=>(by cases h),fun _ _ h=>(by cases h),fun _ _ h=>(by cases h),fun _ _ h=>(by cases h),fun _ _ _ _ h=>(by cases h),fun _ _ h=>(by cases h),fun _ _ h=>(by cases h)⟩
 obtain⟨β,ϕ,⟨e1,e2,e3,e4,e5,e6,e7,e8,e9⟩,hold⟩:=zEO [(.rd,.list (.int .u8))] [.list es] [v] f f [] 0 [] _ _ hA h0 (fun i hl h=>(by cases h)) rfl (by simp) (fun b hb=>by simp[hb]) (by simp) (by simp) (fun i hl h=>(by cases h))
 have hv0:(β 0).v=v:=by
  have:=e5
  simp[zg,zFE,zGU,zAa,zB,SV.vals,SV.val] at this
  exact this
 have e1':zM w.heap.size [] (f++[]) [(0,.arr (.vw []) (.int .u8) es .no)] β ϕ w:=e1
 have e2':Bd 1 β [(0,.arr (.vw []) (.int .u8) es .no)]:=e2
 let C:Cx:=⟨P,E,fn.ntmps,w,[],f++[],keep,1,β,bodyPost P fn (zH5 w v es),zIJ slot es⟩
 have hfin:∀S a w',At C S a w'→zIJ slot es S→a.defers=[]∧∃v',(results fn a.tmps).run P w'=.ok v' w'∧zH5 w v es (.returned v') w':=by
  intro S a w' hat hS
  obtain⟨kp,hn,β1,ϕ1,sat,hsame⟩:=hat
  unfold zIJ at hS
  split at hS
  ·rename_i h hlk
   obtain⟨t,hbx⟩:=hS
   let g:ResultVar→Sem Value:=fun r=>match r with | .tmp t=>pure (a.tmps.getD t undef) | .cell t ty=>asAddr (a.tmps.getD t undef) >>= fun x=>loadVar ty x
   have hxs:zHr E S [.tmp slot]=some [.ptr h 0]:=by simp[zHr,hlk]
   obtain⟨v1,v2,v3,v4⟩:=zEL hE.ty sat g (fun _=>rfl) (fun _ _=>rfl) hxs
   obtain⟨b,t',hb',hϕ,hblk⟩:=sat.hp.sat _ _ hbx
   have hown:=sat.hp.own _ _ hbx b (by simp[zH,hϕ])
   have hge:w.heap.size≤b:=by
    rcases hown with h | h
    ·cases h
    ·exact h
   refine⟨sat.df,_,zDp hr a.tmps w' g (fun _=>rfl) (fun _ _=>rfl) v1 (by simp[SV.vals_map,v4]),b,t',(β1 h).pre,(β1 h).post,?_,hge,?_,sat.fr⟩
   ·simp[SV.vals,zLI,SV.val,hb']
   ·have h00:(β1 0).v=v:=by rw[hsame 0 (by show 0 < 1;omega)];exact hv0
    rw[hblk];simp[SV.vals,SV.val,h00]
  ·exact hS.elim
 have hC:C.Ok:=⟨hE,hm,fun S a w' hat hS=>⟨hfin S a w' hat hS,hfin S a w' hat hS⟩,fun c a d v w h=>⟨by have h1:=h.1;cases d<;>exact h1,h.2⟩⟩
 refine calls_of_wp hf hb ?_
 have hW:=h (WP C) (zHe hC)
 refine hW _ w ⟨⟨?_,fun t x h=>(by cases h)⟩,Nat.le_refl _,β,ϕ,⟨rfl,?_,?_,fun t g v h=>(by cases h),e1',e2',Fr.refl _ _,hgl⟩,fun h _=>rfl⟩
 ·intro t v ht
  simp only[lk] at ht
  split at ht
  ·rename_i e;subst e;exact hkeep
  ·cases ht
 ·show(#[v]++Array.replicate (fn.ntmps - (#[v]:Array Value).size) undef).size=fn.ntmps
  simp;omega
 ·intro t x ht
  simp only[lk] at ht
  split at ht
  ·rename_i e
   cases ht
   subst e
   refine⟨?_,by simp[SV.lt],trivial⟩
   show(#[v]++Array.replicate (fn.ntmps - (#[v]:Array Value).size) undef)[0]?=_
   rw[Array.getElem?_append_left (by simp)]
   simp[SV.val,hv0]
  ·cases ht
theorem k_src(es:List PV):∀(w:World) (v:Value) (f:List Nat),Lv w [.list (.int .u8)] [.list es] [v] f→zPh w []→Calls Try.prog 17 #[v] w fun e w'=>zH5 w v es e w':=by
 refine zL9 [0,2] 2 (zG (zD [])) zb Try.func17 rfl rfl (by decide) rfl ?_
 intro W hW
 refine hW.vc [] _ _ ?_
 simp[-List.getD_eq_getElem?_getD,zIJ,zCr]
def sRes(N:Nat)(keep:List Nat)(S:St)(o:Oper)(K:St→Prop):Prop:=
 match o.op with
 | .call c=>(match c.callee,c.args.toList with
  | .value f,[x]=>(match S.ev f,S.ev x with
   | some (true,.fn g []),some (true,.sl h)=>(match lk S.A h with
    | some (.arr (.vw _) (.int .u8) es _)=>g=17∧o.guard=none∧zB1 N keep true o.dst ∧
     K (zDe keep S true o.dst ⟨True,True,.ptr S.n 0,(S.n,.box true 0 [.sl h,.int .i64 0,.int .i64 (zCr es)]) :: S.A,S.n+1⟩)
    | _=>False)
   | _,_=>False)
  | _,_=>False)
 | _=>False
structure zPf (N:Nat) (keep:List Nat) (W:List KI→St→Prop):Prop where
 src:∀(all l:List Oper) (o:Oper) (k:List KI) (S:St),sRes N keep S o (fun S'=>W (.run all l :: k) S')→W (.run all (o :: l) :: k) S
section
variable {C:Cx} {S:St} {a:Act} {w w':World} {o:Oper} {all l:List Oper} {k:List KI}
theorem zL8(hC:C.Ok)(hP:C.P=Try.prog):zPf C.N C.keep (WP C):=by
 refine⟨fun all l o k S h a w hat=>?_⟩
 obtain⟨kp,hn,β,ϕ,sat,h0⟩:=hat
 show wpList C.P all.toArray (xt C k) (o :: l) a w
 unfold wpList
 unfold sRes at h
 have hgd:o.guard=none→Region.wanted o (yielded all.toArray a.tmps)=true:=fun hg=>zj (g:=true) (by rw[hg];rfl) sat
 split at h
 ·rename_i c ho
  split at h
  ·rename_i f x hc hargs
   split at h
   ·rename_i g i hf hx
    split at h
    ·rename_i rs es p hl
     obtain⟨rfl,hg,hd,hk⟩:=h
     rw[if_pos (hgd hg)]
     obtain⟨x1,x2⟩:=zE hx sat
     have hxv:=(x2 rfl).1
     have hilt:i < S.n:=x1 rfl
     obtain⟨_,f2⟩:=zE hf sat
     obtain⟨f3,_⟩:=f2 rfl
     have hrun:=zDL (P:=C.P) (w:=w) (ob:=True) (vs:=[.sl i]) ho hc f3 (by rw[hargs];simp[SV.vals,hxv]) (by rw[hP];exact Try.func17) (by kernel_rfl) (by kernel_rfl)
     have hLv:Lv w [.list (.int .u8)] [.list es] [(β i).v] (ϕ i):=sat.hp.sat _ _ hl
     refine .inl ?_
     unfold Oper.wp
     rw[hrun,Oper.upon_enter,hP]
     have hcall:=k_src es w (β i).v (ϕ i) hLv (sat.gl.now sat.fr (by simp))
     have harr:(SV.vals β ([SV.sl i]++[])).toArray=#[(β i).v]:=by simp[SV.vals,SV.val]
     rw[harr]
     refine hcall.mono fun e w' he=>?_
     obtain⟨b,t,pre,post,rfl,hge,hblk,hF⟩:=he
     have hold:∀b,b < w.heap.size→w'.heap[b]?=w.heap[b]?:=fun b hb=>hF.block b hb (by simp)
     have hub:upd β S.n ⟨.pointer (some ⟨b,pre.length,none⟩),pre,post⟩ i=β i:=zt _ _ _ hilt
     have hadd:=sat.hp.addNew (n:=S.n) (hl0:=.box true 0 [.sl i,.int .i64 0,.int .i64 (zCr es)]) (g:=⟨.pointer (some ⟨b,pre.length,none⟩),pre,post⟩) (f:=[b]) (w':=w') sat.hb sat.fr hold rfl
      ⟨b,t,rfl,rfl,by rw[hblk];simp[SV.vals,SV.val,hub]⟩ (by simpa using hge) trivial rfl (fun h=>absurd rfl h)
     have hfr:Fr C.w0 C.X w':=sat.fr.trans hF (fun x hx=>hx) (by simp)
     show wpList Try.prog all.toArray (xt C k) l (a.put o.dst (.pointer (some ⟨b,pre.length,none⟩))) w'
     rw[←hP]
     refine hk _ _ (yM (v:=.pointer (some ⟨b,pre.length,none⟩)) kp hn sat h0 hd ⟨fun _=>?_,fun h hh=>zt _ _ _ hh,hadd,zAt sat.hb ?_,?_,?_,Nat.le_succ _,hfr⟩)
     ·simp[SV.val,zk]
     ·refine⟨⟨Nat.lt_succ_of_lt hilt,trivial,trivial,trivial⟩,trivial,?_,?_,trivial⟩
      ·show inR .i64 0;decide
      ·show inR .i64 (zCr es)
       have:(zCr es) < 1000∧0≤zCr es:=⟨by unfold zCr;exact Int.tmod_lt_of_pos _ (by decide),by unfold zCr;exact Int.tmod_nonneg _ (by omega)⟩
       simp[inR,IntKind.min,IntKind.max,IntKind.signed,IntKind.bits];omega
     ·show SV.lt _ (SV.ptr _ _)
      simp[SV.lt]
     ·exact⟨b,pre.length,by simp[zk]⟩
    ·exact h.elim
   ·exact h.elim
  ·exact h.elim
 ·exact h.elim
end
theorem sG{N:Nat}{keep:List Nat}(C:Cx)(hC:C.Ok)(hP:C.P=Try.prog)(hN:C.N=N)(hk:C.keep=keep):zPf N keep (WP C):=by
 subst hN hk
 exact zL8 hC hP
end
end Go.Proofs.Ytdmbfkooebldcaa
