/-
  Part 5: contracts of functions, and the laws by which they are proved.
  Conditions: none.
-/
import Derived.Test.YtdmbfkooebldcaaGreatDoorW4
import Derived.Test.YtdmbfkooebldcaaGreatDoorChecked
import Derived.Lib.Builder
import Derived.Lib.AppendStr
import Derived.Lib.UnsafeStr
import Derived.WalkKit
import Derived.OwnWalk
import Derived.Laws.Externs
set_option linter.unusedVariables false
set_option linter.unusedSimpArgs false
set_option linter.unusedSectionVars false
set_option maxRecDepth 100000
namespace Go.Proofs.YtdmbfkooebldcaaGreatDoor
section
variable [zZ]
def rn(ρ:List (Nat × Nat))(h:Nat):Nat:=match lk ρ h with | some i=>i | none=>h
mutual
def zFA(ρ:List (Nat × Nat)):SV→SV→Prop
 | x,.int k n=>match x with | .int k' n'=>k'=k∧n'=n | _=>False
 | x,.bool b=>match x with | .bool b'=>b'=b | _=>False
 | x,.str l=>match x with | .str l'=>l'=l | _=>False
 | x,.sl h=>match x with | .sl h'=>h'=rn ρ h | _=>False
 | x,.ptr h o=>match x with | .ptr h' o'=>h'=rn ρ h∧o'=o | _=>False
 | x,.elp h i d o=>match x with | .elp h' i' d' o'=>h'=rn ρ h∧i'=i∧d'=d∧o'=o | _=>False
 | x,.agg ys=>match x with | .agg xs=>zE9 ρ xs ys | _=>False
 | x,.tup ys=>match x with | .tup xs=>zE9 ρ xs ys | _=>False
 | x,.fn f ys=>match x with | .fn f' xs=>f'=f∧zE9 ρ xs ys | _=>False
 | x,.nils=>match x with | .nils=>True | _=>False
 | x,.nilp=>match x with | .nilp=>True | _=>False
 | x,.glo g i=>match x with | .glo g' i'=>g'=g∧i'=i | _=>False
def zE9(ρ:List (Nat × Nat)):List SV→List SV→Prop
 | xs,[]=>match xs with | []=>True | _=>False
 | xs,y :: ys=>match xs with | x :: xs=>zFA ρ x y∧zE9 ρ xs ys | _=>False
end
def entR(ρ:List (Nat × Nat))(D:List Nat)(rs rs':List Nat):Prop:=
 (∀i∈D,yw rs (rn ρ i)=true→yw rs' i=true)∧∀r∈rs',yw D r=true∧yw rs (rn ρ r)=true
def zLN(ρ:List (Nat × Nat))(D:List Nat):Own→Own→Prop
 | .vw rs,.vw rs'=>entR ρ D rs rs'
 | .sh,.sh=>True
 | .dp,.dp=>True
 | .cs k,.cs k'=>k=k'
 | .dp,.cs k=>k=0
 | .dp,.vw []=>True
 | .sh,.vw []=>True
 | _,_=>False
def entP(ρ:List (Nat × Nat)):Pth→Pth→Prop
 | _,.no=>True
 | p,.sub r lo=>p=.sub (rn ρ r) lo
 | _,_=>False
def zDq(ρ:List (Nat × Nat))(D:List Nat):HL→HL→Prop
 | .arr o T es p,.arr o' T' es' p'=>zLN ρ D o o'∧T=T'∧es=es'∧entP ρ p p'
 | .box ow t cs,.box ow' t' cs'=>ow=ow'∧(t'=t∨t'=0)∧zE9 ρ cs cs'
 | .abx ow T es,.abx ow' T' es'=>ow=ow'∧T=T'∧es=es'
 | .bld T e l,.bld T' e' l'=>T=T'∧e=e'∧l=l'
 | _,_=>False
def zSd(n:Nat):HL→Prop | .box _ _ cs=>SV.lts n cs | _=>True
def zRm:Hp→List Nat
 | []=>[]
 | (h,_) :: r=>h :: zRm r
def entA(ρ:List (Nat × Nat))(A:Hp)(B:List Nat)(n:Nat):Hp→Prop
 | []=>True
 | (h,hl') :: r=>(match lk A (rn ρ h) with | some hl=>zDq ρ B hl hl' | none=>False)∧h < n∧zSd n hl'∧entA ρ A B n r
def entL(ρ:List (Nat × Nat))(keep:List Nat)(n:Nat)(L:List (Nat × SV)):List (Nat × SV)→Prop
 | []=>True
 | (t,v') :: r=>(match lk L t with | some v=>zFA ρ v v' | none=>False)∧keep.contains t=true∧SV.lt n v'∧entL ρ keep n L r
def zNM(A:Hp):HL→Prop
 | .arr o _ _ p=>(match p with
  | .sub r _=>(match o with | .vw rs=>yw rs r=true | _=>False)∧(match lk A r with | some (.arr o' _ _ _)=>(match o' with | .dp=>True | .sh=>True | _=>False) | _=>False)
  | _=>True)
 | _=>True
def zJx(A:Hp):Hp→Prop
 | []=>True
 | (_,x) :: r=>zNM A x∧zJx A r
def ent(keep:List Nat)(n0:Nat)(ρ:List (Nat × Nat))(S T:St):Prop:=
 T.Lt=[]∧n0≤T.n∧(∀p∈ρ,n0≤p.1)∧(T.A.map fun p=>rn ρ p.1).Nodup∧entL ρ keep T.n S.Lp T.Lp∧entA ρ S.A (zRm T.A) T.n T.A∧zJx T.A T.A
mutual
theorem zKV{ρ:List (Nat × Nat)}(β:Nat→GV):∀(x y:SV),zFA ρ x y→SV.val (fun h=>β (rn ρ h)) y=SV.val β x
 | x,.int k n,h=>by cases x<;>simp only[zFA] at h<;>obtain⟨rfl,rfl⟩:=h;rfl
 | x,.bool b,h=>by cases x<;>simp only[zFA] at h;subst h;rfl
 | x,.str l,h=>by cases x<;>simp only[zFA] at h;subst h;rfl
 | x,.sl i,h=>by cases x<;>simp only[zFA] at h;subst h;rfl
 | x,.ptr i o,h=>by cases x<;>simp only[zFA] at h<;>obtain⟨rfl,rfl⟩:=h;rfl
 | x,.elp i j d o,h=>by cases x<;>simp only[zFA] at h<;>obtain⟨rfl,rfl,rfl,rfl⟩:=h;rfl
 | x,.agg ys,h=>by cases x<;>simp only[zFA] at h;simp only[SV.val];rw[zCp β _ ys h]
 | x,.tup ys,h=>by cases x<;>simp only[zFA] at h;simp only[SV.val];rw[zCp β _ ys h]
 | x,.fn f ys,h=>by cases x<;>simp only[zFA] at h<;>obtain⟨rfl,h⟩:=h;simp only[SV.val];rw[zCp β _ ys h]
 | x,.nils,h=>by cases x<;>simp only[zFA] at h;rfl
 | x,.nilp,h=>by cases x<;>simp only[zFA] at h;rfl
 | x,.glo g i,h=>by cases x<;>simp only[zFA] at h<;>obtain⟨rfl,rfl⟩:=h;rfl
theorem zCp{ρ:List (Nat × Nat)}(β:Nat→GV):∀(xs ys:List SV),zE9 ρ xs ys→SV.vals (fun h=>β (rn ρ h)) ys=SV.vals β xs
 | xs,[],h=>by cases xs<;>simp only[zE9] at h;rfl
 | xs,y :: ys,h=>by cases xs<;>simp only[zE9] at h;simp only[SV.vals];rw[zKV β _ y h.1,zCp β _ ys h.2]
end
mutual
theorem zMo{ρ:List (Nat × Nat)}(β:Nat→GV):∀(x y:SV),zFA ρ x y→SV.ok β x→SV.ok (fun h=>β (rn ρ h)) y
 | x,.int k n,h,hk=>by cases x<;>simp only[zFA] at h<;>obtain⟨rfl,rfl⟩:=h;exact hk
 | x,.bool b,h,hk=>trivial
 | x,.str l,h,hk=>by cases x<;>simp only[zFA] at h;subst h;exact hk
 | x,.sl i,h,hk=>trivial
 | x,.ptr i o,h,hk=>by cases x<;>simp only[zFA] at h<;>obtain⟨rfl,rfl⟩:=h;exact hk
 | x,.elp i j d o,h,hk=>by cases x<;>simp only[zFA] at h<;>obtain⟨rfl,rfl,rfl,rfl⟩:=h;exact hk
 | x,.agg ys,h,hk=>by cases x<;>simp only[zFA] at h;exact zEH β _ ys h hk
 | x,.tup ys,h,hk=>by cases x<;>simp only[zFA] at h;exact zEH β _ ys h hk
 | x,.fn f ys,h,hk=>by cases x<;>simp only[zFA] at h<;>obtain⟨rfl,h⟩:=h;exact zEH β _ ys h hk
 | x,.nils,h,hk=>trivial
 | x,.nilp,h,hk=>trivial
 | x,.glo g i,h,hk=>trivial
theorem zEH{ρ:List (Nat × Nat)}(β:Nat→GV):∀(xs ys:List SV),zE9 ρ xs ys→SV.oks β xs→SV.oks (fun h=>β (rn ρ h)) ys
 | xs,[],h,hk=>trivial
 | xs,y :: ys,h,hk=>by cases xs<;>simp only[zE9] at h;exact⟨zMo β _ y h.1 hk.1,zEH β _ ys h.2 hk.2⟩
end
section
variable {C:Cx} {S T:St} {a:Act} {w:World} {ρ:List (Nat × Nat)} {k:List KI}
theorem zSM{n0 h:Nat}(hρ:∀p∈ρ,n0≤p.1)(hh:h < n0):rn ρ h=h:=by
 unfold rn
 have:lk ρ h=none:=by
  induction ρ with
  | nil=>rfl
  | cons p ρ ih=>
   obtain⟨i,j⟩:=p
   simp only[lk]
   have:=hρ (i,j) (by simp)
   rw[if_neg (by simp at this;omega)]
   exact ih fun p hp=>hρ p (by simp[hp])
 rw[this]
theorem zJa{keep:List Nat}{n:Nat}{L:List (Nat × SV)}:∀{L':List (Nat × SV)},entL ρ keep n L L'→∀t v',lk L' t=some v'→∃v,lk L t=some v∧zFA ρ v v'∧keep.contains t=true∧SV.lt n v'
 | [],_,t,v',h=>by cases h
 | (i,x) :: r,hL,t,v',h=>by
  obtain⟨h1,h2,h3,h4⟩:=hL
  simp only[lk] at h
  split at h
  ·rename_i e;subst e;cases h
   split at h1
   ·rename_i v hv;exact⟨v,hv,h1,h2,h3⟩
   ·exact h1.elim
  ·exact zJa h4 t v' h
theorem zMq{A:Hp}{B:List Nat}{n:Nat}:∀{A':Hp},entA ρ A B n A'→∀i hl',lk A' i=some hl'→∃hl,lk A (rn ρ i)=some hl∧zDq ρ B hl hl'∧i < n∧zSd n hl'∧∃p∈A',p.1=i
 | [],_,t,v',h=>by cases h
 | (i,x) :: r,hL,t,v',h=>by
  obtain⟨h1,h2,h3,h4⟩:=hL
  simp only[lk] at h
  split at h
  ·rename_i e;subst e;cases h
   split at h1
   ·rename_i hl hv;exact⟨hl,hv,h1,h2,h3,(i,x),by simp,rfl⟩
   ·exact h1.elim
  ·obtain⟨hl,q1,q2,q3,q4,p,q5,q6⟩:=zMq h4 t v' h
   exact⟨hl,q1,q2,q3,q4,p,by simp[q5],q6⟩
theorem zIL{α β:Type}{f:α→β}:∀{l:List α},(l.map f).Nodup→∀x∈l,∀y∈l,f x=f y→x=y
 | [],_,x,hx,_,_,_=>by cases hx
 | z :: l,h,x,hx,y,hy,e=>by
  simp only[List.map_cons,List.nodup_cons] at h
  rcases List.mem_cons.1 hx with hx1 | hx2<;>rcases List.mem_cons.1 hy with hy1 | hy2
  ·rw[hx1,hy1]
  ·subst hx1;exact absurd (List.mem_map.2 ⟨y,hy2,e.symm⟩) h.1
  ·subst hy1;exact absurd (List.mem_map.2 ⟨x,hx2,e⟩) h.1
  ·exact zIL h.2 x hx2 y hy2 e
theorem zMs{A:Hp}{i:Nat}:i∈zRm A↔∃hl,lk A i=some hl:=by
 induction A with
 | nil=>simp[zRm,lk]
 | cons p A ih=>
  obtain⟨h,x⟩:=p
  simp only[zRm,List.mem_cons,lk]
  by_cases e:h=i
  ·simp[e]
  ·simp only[if_neg e,←ih]
   exact⟨fun h=>h.resolve_left (Ne.symm e),.inr⟩
theorem zHw{A:Hp}:∀{A':Hp},zJx A A'→∀i hl,lk A' i=some hl→zNM A hl
 | [],_,i,hl,h=>by cases h
 | (j,x) :: r,hs,i,hl,h=>by
  simp only[lk] at h
  split at h
  ·cases h;exact hs.1
  ·exact zHw hs.2 i hl h
theorem zFL{D:List Nat}{o:Own}{T:PTy}{es:List PV}{p:Pth}:∀{hl:HL},zDq ρ D hl (.arr o T es p)→∃o' p',hl=.arr o' T es p'∧zLN ρ D o' o∧entP ρ p' p
 | .arr o' T' es' p',h=>by obtain⟨ho,rfl,rfl,hp⟩:=h;exact⟨_,_,rfl,ho,hp⟩
 | .dead,h=>by simp[zDq] at h
 | .box _ _ _,h=>by simp[zDq] at h
 | .abx _ _ _,h=>by simp[zDq] at h
 | .bld _ _ _,h=>by simp[zDq] at h
theorem zFK{D:List Nat}{ow:Bool}{t:TypeId}{cs:List SV}:∀{hl:HL},zDq ρ D hl (.box ow t cs)→∃t' cs',hl=.box ow t' cs'∧zE9 ρ cs' cs∧(t=t'∨t=0)
 | .box ow t' cs',h=>by obtain⟨rfl,h0,h⟩:=h;exact⟨_,_,rfl,h,h0⟩
 | .dead,h=>by simp[zDq] at h
 | .arr _ _ _ _,h=>by simp[zDq] at h
 | .abx _ _ _,h=>by simp[zDq] at h
 | .bld _ _ _,h=>by simp[zDq] at h
theorem zKW{D:List Nat}{ow:Bool}{T:PTy}{es:List PV}:∀{hl:HL},zDq ρ D hl (.abx ow T es)→hl=.abx ow T es
 | .abx ow' T' es',h=>by obtain⟨rfl,rfl,rfl⟩:=h;rfl
 | .dead,h=>by simp[zDq] at h
 | .arr _ _ _ _,h=>by simp[zDq] at h
 | .box _ _ _,h=>by simp[zDq] at h
 | .bld _ _ _,h=>by simp[zDq] at h
theorem zN5{D:List Nat}{T e:Nat}{l:List UInt8}:∀{hl:HL},zDq ρ D hl (.bld T e l)→hl=.bld T e l
 | .bld T' e' l',h=>by obtain⟨rfl,rfl,rfl⟩:=h;rfl
 | .dead,h=>by simp[zDq] at h
 | .arr _ _ _ _,h=>by simp[zDq] at h
 | .box _ _ _,h=>by simp[zDq] at h
 | .abx _ _ _,h=>by simp[zDq] at h
theorem zMp{D:List Nat}:∀{hl:HL},¬zDq ρ D hl .dead
 | .arr o' T' es' _,h=>by simp[zDq] at h
 | .dead,h=>by simp[zDq] at h
 | .box _ _ _,h=>by simp[zDq] at h
 | .abx _ _ _,h=>by simp[zDq] at h
 | .bld _ _ _,h=>by simp[zDq] at h
theorem zBm{D:List Nat}{w:World}{g:GV}{β:Nat→GV}{f:List Nat}{hl hl':HL}(h:zDq ρ D hl hl') :
  (yj w g β f hl→yj w g (fun h=>β (rn ρ h)) f hl')∧(∀b∈zH f hl',b∈zH f hl)∧(isA hl'→isA hl)∧(zE6 f hl→zE6 f hl')∧hl≠.dead∧(∀i∈D,rn ρ i∈zM hl→i∈zM hl')∧(∀r∈zM hl',r∈D∧rn ρ r∈zM hl):=by
 cases hl' with
 | dead=>exact(zMp h).elim
 | box ow t cs=>
  obtain⟨t',cs',rfl,q,_⟩:=zFK h
  refine⟨?_,fun b hb=>by cases ow with | true=>simpa[zH] using hb | false=>simp[zH] at hb,fun h=>by cases ow<;>exact h,fun _=>trivial,by simp,by simp[zM],by simp[zM]⟩
  rintro⟨b,t',s1,s2,s3⟩
  exact⟨b,t',s1,s2,by rw[zCp β _ _ q];exact s3⟩
 | bld T e l=>
  have:=zN5 h
  subst this
  exact⟨fun h=>h,fun b hb=>hb,fun h=>h,fun h=>h,by simp,by simp[zM],by simp[zM]⟩
 | abx ow T es=>
  have:=zKW h
  subst this
  exact⟨fun h=>h,fun b hb=>hb,fun h=>h,fun h=>h,by simp,by simp[zM],by simp[zM]⟩
 | arr o T es p=>
  obtain⟨o',p',rfl,ho,hpp⟩:=zFL h
  cases o' with
  | vw rs=>
   cases o<;>simp only[zLN] at ho
   rename_i rs'
   refine⟨fun h=>h,fun b hb=>by simp[zH] at hb,fun h=>h,fun h=>h,by simp,fun i hi hm=>yK.1 (ho.1 i hi (yK.2 hm)),fun r hr=>⟨yK.1 (ho.2 r hr).1,yK.1 (ho.2 r hr).2⟩⟩
  | sh=>
   cases o with
   | sh=>exact⟨fun h=>h,fun b hb=>hb,fun h=>h,fun h=>h,by simp,by simp[zM],by simp[zM]⟩
   | vw rs=>
    cases rs with
    | nil=>exact⟨fun h=>zGe.lv h,fun b hb=>by simp[zH] at hb,fun h=>h,fun _=>trivial,by simp,by simp[zM],by simp[zM]⟩
    | cons=>simp[zLN] at ho
   | _=>simp[zLN] at ho
  | cs k=>
   cases o<;>simp only[zLN] at ho
   subst ho
   exact⟨fun h=>h,fun b hb=>hb,fun h=>h,fun h=>h,by simp,by simp[zM],by simp[zM]⟩
  | dp=>
   cases o with
   | dp=>exact⟨fun h=>h,fun b hb=>hb,fun h=>h,fun h=>h,by simp,by simp[zM],by simp[zM]⟩
   | vw rs=>
    cases rs with
    | nil=>exact⟨fun h=>zCG.lv h,fun b hb=>by simp[zH] at hb,fun h=>h,fun _=>trivial,by simp,by simp[zM],by simp[zM]⟩
    | cons=>simp[zLN] at ho
   | cs k=>
    simp only[zLN] at ho
    subst ho
    refine⟨fun h=>?_,fun b hb=>hb,fun h=>h,fun h=>h,by simp,by simp[zM],by simp[zM]⟩
    rcases h with h | ⟨b,f1,cs,rfl,hr,hs,hv⟩
    ·exact .inl h
    ·exact .inr ⟨b,f1,[],cs,rfl,by simpa using hr,by simp,hs,by simpa using hv⟩
   | sh=>simp[zLN] at ho
theorem zMn(h:ent C.keep C.n0 ρ S T)(hat:At C S a w):At C T a w:=by
 obtain⟨e1,e2,e3,e4,e5,e6,e7⟩:=h
 obtain⟨kp,hn,β,ϕ,sat,h0⟩:=hat
 have hlk:=fun i hl' hi=>zMq e6 i hl' hi
 have inj:∀i j hl hl',lk T.A i=some hl→lk T.A j=some hl'→rn ρ i=rn ρ j→i=j:=by
  intro i j hl hl' hi hj e
  obtain⟨_,_,_,_,_,p,p1,p2⟩:=hlk i hl hi
  obtain⟨_,_,_,_,_,q,q1,q2⟩:=hlk j hl' hj
  have:=zIL e4 p p1 q q1 (by rw[p2,q2];exact e)
  rw[←p2,←q2,this]
 refine⟨⟨fun t v h=>(zJa e5 t v h).elim fun _ q=>q.2.2.1,fun t x h=>by rw[e1] at h;cases h⟩,e2,fun h=>β (rn ρ h),fun h=>ϕ (rn ρ h),⟨sat.df,sat.sz,?_,?_,?_,?_,sat.fr,sat.gl⟩,?_⟩
 ·intro t v' ht
  obtain⟨v,q1,q2,q3,q4⟩:=zJa e5 t v' ht
  obtain⟨s1,s2,s3⟩:=sat.lp t v q1
  exact⟨by rw[zKV β v v' q2];exact s1,q4,zMo β v v' q2 s3⟩
 ·intro t g v ht;rw[e1] at ht;cases ht
 ·refine⟨fun h=>sat.hp.pl _,?_,?_,?_,?_,?_,?_,?_⟩
  ·intro i hl' hi
   obtain⟨hl,q1,q2,q3,q4,_⟩:=hlk i hl' hi
   exact(zBm q2).1 (sat.hp.sat _ _ q1)
  ·intro i hl' hi b hb
   obtain⟨hl,q1,q2,q3,q4,_⟩:=hlk i hl' hi
   exact sat.hp.own _ _ q1 b ((zBm (w:=w) (g:=β 0) (β:=β) q2).2.1 b hb)
  ·intro i hl' hi ha b hb
   obtain⟨hl,q1,q2,q3,q4,_⟩:=hlk i hl' hi
   exact sat.hp.all _ _ q1 ((zBm (w:=w) (g:=β 0) (β:=β) (f:=[]) q2).2.2.1 ha) b hb
  ·intro i hl' hi
   obtain⟨hl,q1,q2,q3,q4,_⟩:=hlk i hl' hi
   exact(zBm (w:=w) (g:=β 0) (β:=β) q2).2.2.2.1 (sat.hp.nd _ _ q1)
  ·intro i j hl hl' hi hj hne hnv hdd b hb
   obtain⟨hl1,q1,q2,q3,q4,_⟩:=hlk i hl hi
   obtain⟨hl2,r1,r2,r3,r4,_⟩:=hlk j hl' hj
   have k1:=zBm (w:=w) (g:=β 0) (β:=β) (f:=ϕ (rn ρ i)) q2
   have k2:=zBm (w:=w) (g:=β 0) (β:=β) (f:=[]) r2
   exact sat.hp.dj _ _ _ _ q1 r1 (fun e=>hne (inj _ _ _ _ hi hj e)) (fun hm=>hnv (k2.2.2.2.2.2.1 i (zMs.2 ⟨_,hi⟩) hm)) k2.2.2.2.2.1 b (k1.2.1 b hb)
  ·intro i hl' hi
   obtain⟨hl,q1,q2,q3,q4,_⟩:=hlk i hl' hi
   have hsub:=zHw e7 i hl' hi
   cases hl' with
   | arr o T' es p=>
    cases o with
    | vw rs=>
     cases p with
     | no=>trivial
     | el r i' j=>obtain⟨_,_,rfl,_,hp⟩:=zFL q2;exact hp.elim
     | sub r lo=>
      obtain⟨o1,p1,rfl,ho,hp⟩:=zFL q2
      simp only[entP] at hp
      subst hp
      simp only[zNM] at hsub
      obtain⟨hm,hd⟩:=hsub
      split at hd
      ·rename_i o2 T2 es2 p2 hr
       obtain⟨hl2,r1,r2,_⟩:=hlk r _ hr
       obtain⟨o3,p3,rfl,ho3,_⟩:=zFL r2
       cases o1 with
       | vw rs1=>
        have hpt:zFB S.A β w (β (rn ρ i)) rs1 T' es (.sub (rn ρ r) lo):=sat.hp.pt _ _ q1
        obtain⟨_,es3,p4,k1,k2,k3,k4⟩:=hpt
        have hT:T2=T'∧es2=es3:=by
         rcases k1 with k1 | k1<;>rw[r1] at k1<;>cases k1<;>exact⟨rfl,rfl⟩
        obtain⟨rfl,rfl⟩:=hT
        refine⟨yK.1 hm,es2,p2,?_,k2,k3,k4⟩
        cases o2<;>simp only at hd<;>first | exact .inl hr | exact .inr hr
       | sh=>cases rs with
        | nil=>simp[yw] at hm
        | cons=>simp[zLN] at ho
       | dp=>cases rs with
        | nil=>simp[yw] at hm
        | cons=>simp[zLN] at ho
       | cs k=>simp[zLN] at ho
      ·exact hd.elim
    | _=>trivial
   | box ow t cs=>
    obtain⟨t',cs',rfl,_,ht⟩:=zFK q2
    intro h0
    exact sat.hp.pt _ _ q1 (by rcases ht with rfl | rfl<;>first | exact h0 | exact absurd rfl h0)
   | abx ow T' es=>
    have:=zKW q2
    subst this
    exact sat.hp.pt _ _ q1
   | _=>trivial
  ·intro i hl' hi r hr o t cs hc
   obtain⟨hl,q1,q2,q3,q4,_⟩:=hlk i hl' hi
   obtain⟨_,k2⟩:=(zBm (w:=w) (g:=β 0) (β:=β) (f:=[]) q2).2.2.2.2.2.2 r hr
   obtain⟨hl0,r1,r2,_⟩:=hlk r _ hc
   obtain⟨t',cs',rfl,_,_⟩:=zFK r2
   exact sat.hp.rt _ _ q1 _ k2 _ _ _ r1
 ·intro i hl' hi
  obtain⟨hl,q1,q2,q3,q4,_⟩:=hlk i hl' hi
  refine⟨q3,?_⟩
  cases hl' with
  | box ow t cs=>
   obtain⟨t',cs',rfl,q5,_⟩:=zFK q2
   exact⟨q4,zEH β _ _ q5 (sat.hb _ _ q1).2.2⟩
  | arr o T' es p=>
   cases o<;>(try trivial)
   intro r hr
   obtain⟨k1,_⟩:=(zBm (w:=w) (g:=β 0) (β:=β) (f:=[]) q2).2.2.2.2.2.2 r hr
   obtain⟨hl0,k3⟩:=zMs.1 k1
   obtain⟨_,_,_,k4,_⟩:=hlk r _ k3
   exact k4
  | abx _ _ _=>trivial
  | bld _ _ _=>trivial
  | dead=>trivial
 ·intro h hh
  show β (rn ρ h)=_
  rw[zSM e3 hh]
  exact h0 h hh
theorem zJt{c:Code}{Y:Type}(st:Y→St)(Φ:Y→Prop)(μ:Y→Nat)(h0:∃y ρ,Φ y∧ent C.keep C.n0 ρ S (st y))
  (round:∀y,Φ y→WP C (.code c :: .post (fun S'=>∃y' ρ,Φ y'∧μ y' < μ y∧ent C.keep C.n0 ρ S' (st y')) :: k) (st y)):WP C (.code (.loop c) :: k) S:=by
 classical
 intro a w hat
 let M:Act→World→Nat→Prop:=fun a w n=>∃y,Φ y∧At C (st y) a w∧μ y=n
 have least:∀a w n,M a w n→∃m,M a w m∧∀j,M a w j→m≤j:=by
  intro a w n hn
  induction n using Nat.strongRecOn with
  | ind n ih=>
   by_cases h:∃j,M a w j∧j < n
   ·obtain⟨j,h1,h2⟩:=h;exact ih j h2 h1
   ·exact⟨n,hn,fun j hj=>Nat.le_of_not_lt fun hl=>h ⟨j,hj,hl⟩⟩
 let mu:Act→World→Nat:=fun a w=>if h:∃m,M a w m∧∀j,M a w j→m≤j then h.choose else 0
 refine wp_loop (fun a w=>∃y,Φ y∧At C (st y) a w) mu ?_ ?_
 ·obtain⟨y,ρ,h1,h2⟩:=h0
  exact⟨y,h1,zMn h2 hat⟩
 ·intro a w ⟨y,hy,hay⟩
  have hex:=least a w _ ⟨y,hy,hay,rfl⟩
  have hmu:mu a w=hex.choose:=dif_pos hex
  obtain⟨⟨y1,hy1,hay1,he1⟩,hmin⟩:=hex.choose_spec
  have hr:=round y1 hy1 a w hay1
  refine Code.wp_mono ?_ hr
  intro e a' w' hq
  cases e with
  | normal=>
   obtain⟨S',hS',y',ρ,p1,p2,p3⟩:=hq
   have hay':=zMn p3 hS'
   refine⟨⟨y',p1,hay'⟩,?_⟩
   have hex':=least a' w' _ ⟨y',p1,hay',rfl⟩
   have hmu':mu a' w'=hex'.choose:=dif_pos hex'
   have:=hex'.choose_spec.2 _ ⟨y',p1,hay',rfl⟩
   rw[hmu,hmu',←he1]
   omega
  | _=>exact hq
theorem zES{k1 k2:List KI}(h:∀e a w,xt C k1 e a w→xt C k2 e a w):∀(l:List KI) e a w,xt C (l++k1) e a w→xt C (l++k2) e a w
 | [],e,a,w,hx=>h e a w hx
 | .code c :: l,e,a,w,hx=>by
  have ih:=zES h l
  cases e<;>first | exact Code.wp_mono (fun e a w q=>ih e a w q) hx | exact ih _ _ _ hx
 | .blk i :: l,e,a,w,hx=>by
  have ih:=zES h l
  cases e with
  | exit j=>
   simp only[List.cons_append,xt,Exit.inBlock] at hx ⊢
   split
   ·rename_i e;rw[if_pos e] at hx;exact ih _ _ _ hx
   ·rename_i e;rw[if_neg e] at hx;exact ih _ _ _ hx
  | _=>exact ih _ _ _ hx
 | .post p :: l,e,a,w,hx=>by
  have ih:=zES h l
  cases e<;>first | exact hx | exact ih _ _ _ hx
 | .run all m :: l,e,a,w,hx=>by
  have ih:=zES h l
  cases e with
  | normal=>
   have mono:∀(m:List Oper) a w,wpList C.P all.toArray (xt C (l++k1)) m a w→wpList C.P all.toArray (xt C (l++k2)) m a w:=by
    intro m
    induction m with
    | nil=>intro a w h;exact ih _ _ _ h
    | cons o m ihm=>
     intro a w h
     unfold wpList at h ⊢
     split
     ·rename_i hw
      rw[if_pos hw] at h
      rcases h with h | ⟨h,a',w',hl⟩
      ·refine .inl ?_
       unfold Oper.wp at *
       generalize (execOp a.eval o).run C.P w=r at *
       cases r with
       | ok n w'=>
        cases n<;>simp only[Oper.upon] at h ⊢ <;>
         first
          | exact ihm _ _ h
          | exact Calls.mono h (fun e w'' he=>by cases e<;>first | exact ihm _ _ he | exact ih _ _ _ he | (obtain⟨a',w',he⟩:=he;exact⟨a',w',ih _ _ _ he⟩))
          | exact Rows.mono h (fun _ _ he=>ihm _ _ he)
       | halt x w'=>cases x<;>simp only[Oper.upon] at h ⊢<;>exact ih _ _ _ h
      ·exact .inr ⟨h,a',w',ih _ _ _ hl⟩
     ·rename_i hw
      rw[if_neg hw] at h
      exact ihm _ _ h
   exact mono m a w hx
  | _=>exact ih _ _ _ hx
theorem zOm{p:St→Prop}(l:List KI)(h1:WP C (l++.post p :: k) S)(h2:∀S',p S'→WP C k S'):WP C (l++k) S:=by
 intro a w hat
 refine zES (k1:=.post p :: k) ?_ l _ _ _ (h1 a w hat)
 intro e a w hx
 cases e with
 | normal=>obtain⟨S',h,hp⟩:=hx;exact h2 S' hp a w h
 | _=>exact hx
theorem zOl(h:ent C.keep C.n0 ρ S T)(h1:WP C k T):WP C k S:=fun a w hat=>h1 a w (zMn h hat)
def zRh(all:List Oper):Nat→List Bool→List (List Nat)
 | 0,_=>[[]]
 | f+1,m=>match (List.range all.length).filter fun i=>!(m.getD i true)&&(match all[i]? with | some o=>o.after.toList.all fun e=>!Region.binds .any e || m.getD e.on false | none=>false) with
  | []=>[[]]
  | r=>r.flatMap fun i=>(zRh all f (m.set i true)).map fun l=>i :: l
def zCi(all:List Oper)(l:List Nat):List Oper:=l.filterMap fun i=>all[i]?
theorem zL7(all:List Oper):∀(f t:Nat) (m:List Bool),Region.linearise.go .any all.toArray f t m.toArray []∈zRh all f m:=by
 intro f
 induction f with
 | zero=>intro t m;simp[Region.linearise.go,zRh]
 | succ f ih=>
  intro t m
  have hrs:((List.range all.toArray.size).filter fun i=>!m.toArray.getD i true&&((all.toArray[i]?).map (·.after.all fun e=>!Region.binds .any e || m.toArray.getD e.on false)).getD false)
    = (List.range all.length).filter fun i=>!(m.getD i true)&&(match all[i]? with | some o=>o.after.toList.all fun e=>!Region.binds .any e || m.getD e.on false | none=>false):=by
   simp only[List.size_toArray]
   apply List.filter_congr
   intro i _
   cases h:all[i]?<;>simp[h]
  simp only[Region.linearise.go,zRh]
  rw[hrs]
  generalize ((List.range all.length).filter fun i=>!(m.getD i true)&&(match all[i]? with | some o=>o.after.toList.all fun e=>!Region.binds .any e || m.getD e.on false | none=>false))=r
  cases r with
  | nil=>simp
  | cons x xs=>
   have hlt:t % (x :: xs).length < (x :: xs).length:=Nat.mod_lt _ (by simp)
   have hg:=List.getElem?_eq_getElem hlt
   rw[hg]
   simp only
   rw[linearise_go_acc,List.reverse_singleton,List.singleton_append]
   refine List.mem_flatMap.2 ⟨_,List.getElem_mem hlt,List.mem_map.2 ⟨_,?_,rfl⟩⟩
   have:=ih (t / (x :: xs).length) (m.set ((x :: xs)[t % (x :: xs).length]) true)
   simpa using this
theorem zGg{P:Program}{all:List Oper}{Q:Exit→Act→World→Prop}:∀(l:List Nat),wpOps P all.toArray Q l=wpList P all.toArray Q (zCi all l)
 | []=>by funext a w;simp[wpOps,zCi,wpList]
 | i :: l=>by
  have ih:=zGg (P:=P) (all:=all) (Q:=Q) l
  funext a w
  cases h:all[i]? with
  | none=>simp[wpOps,zCi,h,ih]
  | some o=>
   have:zCi all (i :: l)=o :: zCi all l:=by simp[zCi,h]
   rw[this]
   simp[wpOps,h,wpList,ih]
theorem zPK{id:Nat}{ops:Array Oper}(hC:C.Ok)(h:∀l∈zRh ops.toList ops.toList.length (List.replicate ops.toList.length false),WP C (.run ops.toList (zCi ops.toList l) :: k) { S with Lt:=[] }):WP C (.code (.region id ops true) :: k) S:=by
 intro a w hat
 refine wp_region_draw fun t=>?_
 have ho:=zL7 ops.toList ops.size t (List.replicate ops.size false)
 have h1:=h _ (by simpa using ho) a _ (zM4 (zJj hat))
 have h2:wpList C.P ops.toList.toArray (xt C k) _ a _:=h1
 have h3:Region.schedule (C.P.follows .mixedOrders) ops t=Region.linearise.go .any ops.toList.toArray ops.size t (List.replicate ops.size false).toArray []:=by
  simp only[Region.schedule,hC.mix,Bool.true_or,if_true,Region.linearise]
  simp
 rw[h3]
 have h4:=zGg (P:=C.P) (all:=ops.toList) (Q:=xt C k) (Region.linearise.go .any ops.toList.toArray ops.size t (List.replicate ops.size false).toArray [])
 simp only[Array.toArray_toList] at h4 h2 ⊢
 rw[h4]
 exact h2
end
inductive It where
 | sl (t:Nat) (o:Own) (T:PTy)
 | bx (t:Nat) (Ts:List PTy)
 | ar (t:Nat) (T:PTy)
 | bl (t:Nat)
 | ax (t:Nat)
 | bs (t:Nat) (Ts:List PTy)
 | nb (t bt:Nat) (Ts:List PTy)
 | fx (t:Nat) (Ts:List PTy)
 | cu (t:Nat)
def zF6(S:St):List It→Option (Prop × List PV)
 | []=>some (True,[])
 | .sl t _ T :: r=>match lk S.Lp t with
  | some x=>(match yJ S.A T x,zF6 S r with | some (o,p),some (o',ps)=>some (o∧o',p :: ps) | _,_=>none)
  | none=>none
 | .bx t Ts :: r=>match lk S.Lp t with
  | some (.ptr h _)=>(match lk S.A h with
   | some (.box _ _ cs)=>(match zv S.A Ts cs,zF6 S r with | some (o,p),some (o',ps)=>some (o∧o',.agg p :: ps) | _,_=>none)
   | _=>none)
  | _=>none
 | .bs t Ts :: r=>match lk S.Lp t with
  | some (.ptr h _)=>(match lk S.A h with
   | some (.box _ _ cs)=>(match zv S.A Ts cs,zF6 S r with | some (o,p),some (o',ps)=>some (o∧o',.agg p :: ps) | _,_=>none)
   | _=>none)
  | _=>none
 | .fx t Ts :: r=>match lk S.Lp t with
  | some (.ptr h _)=>(match lk S.A h with
   | some (.box _ _ cs)=>(match zv S.A Ts cs,zF6 S r with | some (o,p),some (o',ps)=>some (o∧o',.agg p :: ps) | _,_=>none)
   | _=>none)
  | _=>none
 | .nb t _ Ts :: r=>match lk S.Lp t with
  | some (.ptr h _)=>(match lk S.A h with
   | some (.box _ _ cs)=>(match zv S.A Ts cs,zF6 S r with | some (o,p),some (o',ps)=>some (o∧o',.agg p :: ps) | _,_=>none)
   | _=>none)
  | _=>none
 | .ar t T :: r=>match lk S.Lp t with
  | some (.sl h)=>(match yJ S.A (.list T) (.sl h),zF6 S r with | some (o,p),some (o',ps)=>some (o∧o',p :: ps) | _,_=>none)
  | _=>none
 | .bl t :: r=>match lk S.Lp t with
  | some (.ptr h 0)=>(match lk S.A h,zF6 S r with | some (.bld _ _ l),some (o',ps)=>some (o',.str l :: ps) | _,_=>none)
  | _=>none
 | .ax t :: r=>match lk S.Lp t with
  | some (.ptr h 0)=>(match lk S.A h,zF6 S r with | some (.abx _ _ es),some (o',ps)=>some (o',.list es :: ps) | _,_=>none)
  | _=>none
 | .cu t :: r=>match lk S.Lp t with
  | some (.sl h)=>(match lk S.A h,zF6 S r with | some (.arr (.cs k) _ _ _),some (o',ps)=>some (o',.int .i64 k :: ps) | some (.arr .dp _ _ _),some (o',ps)=>some (o',.int .i64 0 :: ps) | _,_=>none)
  | _=>none
mutual
def hsV:SV→List Nat
 | .sl h=>[h]
 | .ptr h _=>[h]
 | .elp h _ _ _=>[h]
 | .agg xs=>zRk xs
 | .tup xs=>zRk xs
 | .fn _ xs=>zRk xs
 | _=>[]
def zRk:List SV→List Nat
 | []=>[]
 | x :: xs=>hsV x++zRk xs
end
def zCn:List It→List Nat
 | []=>[]
 | .sl t _ _ :: r=>t :: zCn r
 | .nb t _ _ :: r=>t :: zCn r
 | _ :: r=>zCn r
def yT(S:St):List It→List Nat
 | []=>[]
 | .bx t _ :: r=>match lk S.Lp t with | some (.ptr h _)=>h :: yT S r | _=>yT S r
 | .bs t _ :: r=>match lk S.Lp t with | some (.ptr h _)=>h :: yT S r | _=>yT S r
 | .fx t _ :: r=>match lk S.Lp t with | some (.ptr h _)=>h :: yT S r | _=>yT S r
 | .ar t _ :: r=>match lk S.Lp t with | some (.sl h)=>h :: yT S r | _=>yT S r
 | .bl t :: r=>match lk S.Lp t with | some (.ptr h _)=>h :: yT S r | _=>yT S r
 | .ax t :: r=>match lk S.Lp t with | some (.ptr h _)=>h :: yT S r | _=>yT S r
 | .cu t :: r=>match lk S.Lp t with | some (.sl h)=>h :: yT S r | _=>yT S r
 | _ :: r=>yT S r
def zJb(ms:List Nat):List (Nat × SV)→List (Nat × SV)
 | []=>[]
 | (t,v) :: r=>if yw ms t then zJb ms r else (t,v) :: zJb ms r
def hsL:List (Nat × SV)→List Nat
 | []=>[]
 | (_,v) :: r=>hsV v++hsL r
def hsA(A:Hp)(bs:List Nat):List Nat→List Nat
 | []=>[]
 | h :: r=>(if yw bs h then [] else match lk A h with | some (.box _ _ cs)=>zRk cs | _=>[])++hsA A bs r
def zNc(R:List Nat):List Nat→List Nat
 | []=>[]
 | r :: l=>if yw R r then r :: zNc R l else zNc R l
def gcH(R:List Nat):HL→HL
 | .arr (.vw rs) T es _=>.arr (.vw (zNc R rs)) T es .no
 | .arr o T es _=>.arr o T es .no
 | x=>x
def gcA(R bs:List Nat):Hp→Hp
 | []=>[]
 | (h,x) :: r=>if yw R h&&!yw bs h then (match x with | .dead=>gcA R bs r | x=>(h,gcH R x) :: gcA R bs r) else gcA R bs r
def zKM(S:St):List It→List Nat
 | []=>[]
 | .bs t _ :: r=>(match lk S.Lp t with | some (.ptr h _)=>(match lk S.A h with | some (.box _ _ cs)=>zW cs | _=>[]) | _=>[])++zKM S r
 | _ :: r=>zKM S r
def zMb(S:St)(its:List It):List Nat:=
 zKM S its++hsL (zJb (zCn its) S.Lp)++hsA S.A (yT S its) (hsL (zJb (zCn its) S.Lp))++hsA S.A (yT S its) (hsA S.A (yT S its) (hsL (zJb (zCn its) S.Lp)))
def zF8(S0 T:St):List It→List PV→St
 | .sl t o ty :: r,p :: ps=>zF8 S0 ⟨T.Lp++[(t,(z6 o noP 0 T.n ty p).1)],[],(z6 o noP 0 T.n ty p).2.1++T.A,(z6 o noP 0 T.n ty p).2.2⟩ r ps
 | .nb t bt Ts :: r,p :: ps=>zF8 S0 ⟨T.Lp++[(t,.ptr (zB .dp noP 0 T.n Ts p.A).2.2 0)],[],((zB .dp noP 0 T.n Ts p.A).2.2,.box true bt (zB .dp noP 0 T.n Ts p.A).1) :: ((zB .dp noP 0 T.n Ts p.A).2.1++T.A),(zB .dp noP 0 T.n Ts p.A).2.2+1⟩ r ps
 | .bx t Ts :: r,p :: ps=>match lk S0.Lp t with
  | some (.ptr h _)=>(match lk S0.A h with
   | some (.box ow bt _)=>zF8 S0 ⟨T.Lp,[],(h,.box ow bt (zB .dp noP 0 T.n Ts p.A).1) :: ((zB .dp noP 0 T.n Ts p.A).2.1++T.A),(zB .dp noP 0 T.n Ts p.A).2.2⟩ r ps
   | _=>T)
  | _=>T
 | .fx t Ts :: r,p :: ps=>match lk S0.Lp t with
  | some (.ptr h _)=>(match lk S0.A h with
   | some (.box ow bt _)=>zF8 S0 ⟨T.Lp,[],(h,.box ow bt (zB (.vw []) noP 0 T.n Ts p.A).1) :: ((zB (.vw []) noP 0 T.n Ts p.A).2.1++T.A),(zB (.vw []) noP 0 T.n Ts p.A).2.2⟩ r ps
   | _=>T)
  | _=>T
 | .bs t Ts :: r,p :: ps=>match lk S0.Lp t with
  | some (.ptr h _)=>(match lk S0.A h with
   | some (.box ow bt cs)=>zF8 S0 ⟨T.Lp,[],(h,.box ow bt (zCS Ts cs p.A)) :: T.A,T.n⟩ r ps
   | _=>T)
  | _=>T
 | .ar t E :: r,p :: ps=>match lk S0.Lp t with
  | some (.sl h)=>zF8 S0 ⟨T.Lp,[],(h,.arr .dp E p.L .no) :: T.A,T.n⟩ r ps
  | _=>T
 | .bl t :: r,p :: ps=>match lk S0.Lp t with
  | some (.ptr h _)=>(match lk S0.A h with
   | some (.bld B e _)=>zF8 S0 ⟨T.Lp,[],(h,.bld B e p.S) :: T.A,T.n⟩ r ps
   | _=>T)
  | _=>T
 | .ax t :: r,p :: ps=>match lk S0.Lp t with
  | some (.ptr h _)=>(match lk S0.A h with
   | some (.abx ow E _)=>zF8 S0 ⟨T.Lp,[],(h,.abx ow E p.L) :: T.A,T.n⟩ r ps
   | _=>T)
  | _=>T
 | .cu t :: r,p :: ps=>match lk S0.Lp t with
  | some (.sl h)=>(match lk S0.A h with
   | some (.arr _ E es _)=>zF8 S0 ⟨T.Lp,[],(h,.arr (.cs p.I.toNat) E es .no) :: T.A,T.n⟩ r ps
   | _=>T)
  | _=>T
 | _,_=>T
def zPw(S:St)(its:List It)(ps:List PV):St:=
 zF8 S ⟨zJb (zCn its) S.Lp,[],gcA (zMb S its) (yT S its) S.A,S.n⟩ its ps
mutual
def mr:SV→SV→List (Nat × Nat)
 | .sl h',.sl h=>if h'=h then [] else [(h',h)]
 | .agg xs,.agg ys=>mrs xs ys
 | .tup xs,.tup ys=>mrs xs ys
 | _,_=>[]
def mrs:List SV→List SV→List (Nat × Nat)
 | x :: xs,y :: ys=>mr x y++mrs xs ys
 | _,_=>[]
end
def zF7(T S:St):List It→List (Nat × Nat)
 | []=>[]
 | .sl t _ _ :: r=>(match lk T.Lp t,lk S.Lp t with | some x,some y=>mr x y | _,_=>[])++zF7 T S r
 | .bx t _ :: r=>(match lk T.Lp t with | some (.ptr h _)=>(match lk T.A h,lk S.A h with | some (.box _ _ xs),some (.box _ _ ys)=>mrs xs ys | _,_=>[]) | _=>[])++zF7 T S r
 | .fx t _ :: r=>(match lk T.Lp t with | some (.ptr h _)=>(match lk T.A h,lk S.A h with | some (.box _ _ xs),some (.box _ _ ys)=>mrs xs ys | _,_=>[]) | _=>[])++zF7 T S r
 | .nb t _ _ :: r=>(match lk T.Lp t,lk S.Lp t with | some (.ptr h _),some (.ptr h' _)=>(match lk T.A h,lk S.A h' with | some (.box _ _ xs),some (.box _ _ ys)=>(if h=h' then [] else [(h,h')])++mrs xs ys | _,_=>[]) | _,_=>[])++zF7 T S r
 | .bs _ _ :: r=>zF7 T S r
 | .ar _ _ :: r=>zF7 T S r
 | .bl _ :: r=>zF7 T S r
 | .ax _ :: r=>zF7 T S r
 | .cu _ :: r=>zF7 T S r
def zPx(keep:List Nat)(n0:Nat)(S:St)(its:List It)(Φ:List PV→Prop)(S':St):Prop:=
 match zF6 S' its with
 | some (o,ps)=>o∧Φ ps∧ent keep n0 (zF7 (zPw S its ps) S' its) S' (zPw S its ps)
 | none=>False
theorem zJR{keep:List Nat}{n0:Nat}{S S':St}{its:List It}{Φ:List PV→Prop}(h:zPx keep n0 S its Φ S'):∃ps ρ,Φ ps∧ent keep n0 ρ S' (zPw S its ps):=by
 unfold zPx at h
 split at h
 ·exact⟨_,_,h.2.1,h.2.2⟩
 ·exact h.elim
structure zIm (E:Env) (N:Nat) (keep:List Nat) (n0:Nat) (fin:St→Prop) (W:List KI→St→Prop):Prop where
 vc:∀(pls:List (Nat × List Nat × Pl)) (k:List KI) (S:St),vcK E N keep fin W pls [] k S→W k S
 loop:∀(c:Code) (k:List KI) (S:St) (Y:Type) (st:Y→St) (Φ:Y→Prop) (μ:Y→Nat),(∃y ρ,Φ y∧ent keep n0 ρ S (st y)) →
  (∀y,Φ y→W (.code c :: .post (fun S'=>∃y' ρ,Φ y'∧μ y' < μ y∧ent keep n0 ρ S' (st y')) :: k) (st y))→W (.code (.loop c) :: k) S
 loopS:∀(c:Code) (k:List KI) (S:St) (its:List It) (Φ:List PV→Prop) (μ:List PV→Nat),zPx keep n0 S its Φ S →
  (∀ys,Φ ys→W (.code c :: .post (zPx keep n0 S its fun ps=>Φ ps∧μ ps < μ ys) :: k) (zPw S its ys))→W (.code (.loop c) :: k) S
 cutS:∀(l k:List KI) (S:St) (its:List It) (Φ:List PV→Prop),W (l++.post (zPx keep n0 S its Φ) :: k) S→(∀ys,Φ ys→W k (zPw S its ys))→W (l++k) S
 cut:∀(l k:List KI) (S:St) (p:St→Prop),W (l++.post p :: k) S→(∀S',p S'→W k S')→W (l++k) S
 ent:∀(k:List KI) (S T:St) (ρ:List (Nat × Nat)),ent keep n0 ρ S T→W k T→W k S
 draw:∀(id:Nat) (ops:Array Oper) (k:List KI) (S:St),(∀l∈zRh ops.toList ops.toList.length (List.replicate ops.toList.length false),W (.run ops.toList (zCi ops.toList l) :: k) { S with Lt:=[] }) →
  W (.code (.region id ops true) :: k) S
theorem zHK{C:Cx}(hC:C.Ok):zIm C.E C.N C.keep C.n0 C.fin (WP C):=by
 refine⟨fun pls k S h=>zHt hC (fun _ _ h=>h) _ k S (Nat.le_refl _) h,fun c k S Y st Φ μ h0 hr=>zJt st Φ μ h0 hr,fun c k S its Φ μ h0 hr=>?_,fun l k S its Φ h1 h2=>?_,fun l k S p h1 h2=>zOm l h1 h2,fun k S T ρ h h1=>zOl h h1,
  fun id ops k S h=>zPK hC h⟩
 ·refine zJt (Y:=List PV) (zPw S its) Φ μ (zJR h0) fun y hy=>?_
  have h1:=hr y hy
  intro a w hat
  have:=h1 a w hat
  refine zES (k1:=.post (zPx C.keep C.n0 S its fun ps=>Φ ps∧μ ps < μ y) :: k) ?_ [.code c] _ _ _ this
  intro e a w hx
  cases e with
  | normal=>
   obtain⟨S',h,hp⟩:=hx
   obtain⟨ps,ρ,q1,q2⟩:=zJR hp
   exact⟨S',h,ps,ρ,q1.1,q1.2,q2⟩
  | _=>exact hx
 ·refine zOm l h1 fun S' hS'=>?_
  obtain⟨ps,ρ,q1,q2⟩:=zJR hS'
  exact zOl q2 (h2 ps q1)
end
section
variable [zZ]
def zAL(n:Nat):PTy→PV→SV × Hp × Nat
 | .box ts,p=>(.ptr (zB (.vw []) noP 0 n ts p.A).2.2 0,((zB (.vw []) noP 0 n ts p.A).2.2,.box false 0 (zB (.vw []) noP 0 n ts p.A).1) :: (zB (.vw []) noP 0 n ts p.A).2.1,(zB (.vw []) noP 0 n ts p.A).2.2+1)
 | .abx T,p=>(.ptr n 0,[(n,.abx false T p.L)],n+1)
 | .agg ts,p=>(.agg (zB (.vw []) noP 0 n ts p.A).1,(zB (.vw []) noP 0 n ts p.A).2.1,(zB (.vw []) noP 0 n ts p.A).2.2)
 | T,p=>((zB (.vw []) noP 0 n [T] [p]).1.headD .nilp,(zB (.vw []) noP 0 n [T] [p]).2.1,(zB (.vw []) noP 0 n [T] [p]).2.2)
def zAH(n:Nat):List PTy→List PV→List SV × Hp × Nat
 | t :: ts,p :: ps=>((zAL n t p).1 :: (zAH (zAL n t p).2.2 ts ps).1,(zAH (zAL n t p).2.2 ts ps).2.1++(zAL n t p).2.1,(zAH (zAL n t p).2.2 ts ps).2.2)
 | _,_=>([],[],n)
def zGC(n:Nat):PTy→PV→SV × Hp × Nat
 | .fn f ts,p=>(.fn f (zAH n ts p.A).1,(zAH n ts p.A).2.1,(zAH n ts p.A).2.2)
 | T,p=>zAL n T p
def zDU(n:Nat):PTy→PV→SV × Hp × Nat
 | .box ts,p=>(.ptr (zB .dp noP 0 n ts p.A).2.2 0,((zB .dp noP 0 n ts p.A).2.2,.box true 0 (zB .dp noP 0 n ts p.A).1) :: (zB .dp noP 0 n ts p.A).2.1,(zB .dp noP 0 n ts p.A).2.2+1)
 | .abx T,p=>(.ptr n 0,[(n,.abx true T p.L)],n+1)
 | _,_=>(.nilp,[],n)
def zEz(n:Nat):PTy→PV→SV × Hp × Nat
 | .box ts,p=>(.ptr (zB (.vw []) noP 0 n ts p.A).2.2 0,((zB (.vw []) noP 0 n ts p.A).2.2,.box true 0 (zB (.vw []) noP 0 n ts p.A).1) :: (zB (.vw []) noP 0 n ts p.A).2.1,(zB (.vw []) noP 0 n ts p.A).2.2+1)
 | _,_=>(.nilp,[],n)
def zEy(n:Nat):Md→PTy→PV→SV × Hp × Nat
 | .rd,T,p=>zGC n T p
 | .mt,T,p=>z6 .dp noP 0 n T p
 | .ow,T,p=>z6 .dp noP 0 n T p
 | .bx,T,p=>zDU n T p
 | .bs,T,p=>zEz n T p
def zd(n:Nat):List (Md × PTy)→List PV→List SV × Hp × Nat
 | (m,t) :: ts,p :: ps=>((zEy n m t p).1 :: (zd (zEy n m t p).2.2 ts ps).1,(zd (zEy n m t p).2.2 ts ps).2.1++(zEy n m t p).2.1,(zd (zEy n m t p).2.2 ts ps).2.2)
 | _,_=>([],[],n)
mutual
def Ty:PTy→PV→Prop
 | .int k,p=>∃n,p=.int k n∧inR k n
 | .bool,p=>∃b,p=.bool b
 | .str,p=>∃l,p=.str l∧l.length≤LIM
 | .list T,p=>∃es,p=.list es∧es.length≤LIM∧∀e∈es,Ty T e
 | .agg ts,p=>∃qs,p=.agg qs∧Tys ts qs
 | .box ts,p=>∃qs,p=.agg qs∧Tys ts qs
 | .abx T,p=>∃es,p=.list es∧∀e∈es,Ty T e
 | .fn _ ts,p=>∃qs,p=.agg qs∧Tys ts qs
 | .opq,_=>True
def Tys:List PTy→List PV→Prop
 | [],ps=>ps=[]
 | t :: ts,ps=>∃p qs,ps=p :: qs∧Ty t p∧Tys ts qs
end
def TyA:List (Md × PTy)→List PV→Prop
 | [],ps=>ps=[]
 | (_,t) :: ts,ps=>∃p qs,ps=p :: qs∧Ty t p∧TyA ts qs
section
variable {P:Program} {E:Env} {N:Nat} {w0:World} {X F:List Nat} {S:St} {β:Nat→GV} {ϕ:Nat→List Nat} {a:Act} {w w':World} {o:Oper} {R:RR} {A:Hp} {B:Nat}
theorem zHD:∀{ts ts':List PTy} {ps ps':List PV},ts.length=ps.length→(Tys (ts++ts') (ps++ps')↔Tys ts ps∧Tys ts' ps')
 | [],ts',[],ps',_=>by simp[Tys]
 | [],ts',p :: ps,ps',h=>by simp at h
 | t :: ts,ts',[],ps',h=>by simp at h
 | t :: ts,ts',p :: ps,ps',h=>by
  have ih:=zHD (ts:=ts) (ts':=ts') (ps:=ps) (ps':=ps') (by simpa using h)
  simp only[List.cons_append,Tys]
  constructor
  ·rintro⟨_,_,e,h1,h2⟩
   cases e
   obtain⟨h3,h4⟩:=ih.1 h2
   exact⟨⟨_,_,rfl,h1,h3⟩,h4⟩
  ·rintro⟨⟨_,_,e,h1,h2⟩,h3⟩
   cases e
   exact⟨_,_,rfl,h1,ih.2 ⟨h2,h3⟩⟩
theorem zGU{T:PTy}(hT:∀t∈T.leaves,t.leaves=[t]):∀(es:List PV),(∀e∈es,Shp T e)→Tys (zX T es.length) (zT es)→∀e∈es,Ty T e
 | [],_,_,e,he=>by cases he
 | p :: es,hs,h,e,he=>by
  have hs1:=hs p (by simp)
  have e1:zX T (p :: es).length=T.leaves++zX T es.length:=by simp[zX,List.replicate_succ]
  have e2:zT (p :: es)=p.leaves++zT es:=by simp[zT]
  have hlen:T.leaves.length=p.leaves.length:=by
   cases T<;>simp only[Shp] at hs1
   case agg ts=>obtain⟨qs,rfl,hq⟩:=hs1;simp[PTy.leaves,PV.leaves,hq]
   all_goals (cases p<;>simp[PTy.leaves,PV.leaves] at hs1 ⊢)
  rw[e1,e2,zHD hlen] at h
  rcases List.mem_cons.1 he with rfl | he
  ·have h1:=h.1
   cases T<;>simp only[Shp] at hs1
   case agg ts=>obtain⟨qs,rfl,hq⟩:=hs1;exact⟨qs,rfl,h1⟩
   all_goals (cases e<;>simp only[PTy.leaves,PV.leaves,Tys] at h1 hs1<;>first | (obtain⟨_,_,e,h1,_⟩:=h1;cases e;exact h1) | exact absurd rfl (hs1 _))
  ·exact zGU hT es (fun e he=>hs e (by simp[he])) h.2 e he
theorem Lv.tys{w:World}{Ts:List PTy}{ps:List PV}{vs:List Value}{fp:List Nat}(h:Lv w Ts ps vs fp):Tys Ts ps:=by
 induction h with
 | nil=>simp[Tys]
 | int h1 _ ih=>exact⟨_,_,rfl,⟨_,rfl,h1⟩,ih⟩
 | bool _ ih=>exact⟨_,_,rfl,⟨_,rfl⟩,ih⟩
 | str h1 _ ih=>exact⟨_,_,rfl,⟨_,rfl,h1⟩,ih⟩
 | empty _ ih=>exact⟨_,_,rfl,⟨[],rfl,by simp,by simp⟩,ih⟩
 | @list T es b o cap c t fr cs f1 Ts ps vs fp hb hs hl hv hc _ ih1 ih2=>
  refine⟨_,_,rfl,⟨es,rfl,hl.1,?_⟩,ih2⟩
  intro e he
  have hT:∀t∈T.leaves,t.leaves=[t]:=by
   intro t ht
   refine hv.ty_of t ?_
   simp only[zX,List.mem_flatten,List.mem_replicate]
   exact⟨T.leaves,⟨(by intro h0;have:=List.length_eq_zero_iff.1 h0;subst this;cases he),rfl⟩,ht⟩
  exact zGU hT es hs ih1 e he
theorem zN0{w:World}{T:PTy}{es:List PV}{cs:List Value}{f:List Nat}(hT:zBD T=true)(hs:∀e∈es,Shp T e)(h:Lv w (zX T es.length) (zT es) cs f):∀e∈es,Ty T e:=by
 intro e he
 have hT:∀t∈T.leaves,t.leaves=[t]:=by
  intro t ht
  refine h.ty_of t ?_
  simp only[zX,List.mem_flatten,List.mem_replicate]
  exact⟨T.leaves,⟨(by intro h0;have:=List.length_eq_zero_iff.1 h0;subst this;cases he),rfl⟩,ht⟩
 exact zGU hT es hs h.tys e he
theorem zAC.tys{T:PTy}{es:List PV}{v:Value}{f:List Nat}(h:zAC w T es v f):∀e∈es,Ty T e:=by
 rcases h with ⟨h1,h2,b,t,c,_,_,_,h3⟩ | ⟨rfl,_⟩
 ·exact zN0 h1 h2 h3
 ·intro e _;simp[Ty]
theorem zOj.ty{T:PTy}{p:PV}{v:Value}{f fl:List Nat}(h:zOj w T p v f fl):Ty T p:=by
 have leaf:Lv w [T] [p] [v] f→Ty T p:=fun hL=>by
  have:=hL.tys
  simp only[Tys] at this
  obtain⟨_,_,e,h1,_⟩:=this
  cases e
  exact h1
 cases T with
 | agg ts=>obtain⟨qs,cs,rfl,_,hL,_⟩:=h;exact⟨qs,rfl,hL.tys⟩
 | box ts=>obtain⟨qs,cs,b,t,pre,post,rfl,_,_,hL,_⟩:=h;exact⟨qs,rfl,hL.tys⟩
 | abx T=>obtain⟨es,rfl,h,_⟩:=h;exact⟨es,rfl,h.tys⟩
 | fn _ _=>exact h.elim
 | _=>exact leaf h.1
theorem zIr.tys{ts:List PTy}{ps:List PV}{vs:List Value}{f fl:List Nat}(h:zIr w ts ps vs f fl):Tys ts ps:=by
 induction h with
 | nil=>simp[Tys]
 | cons h1 _ ih=>exact⟨_,_,rfl,h1.ty,ih⟩
theorem zPI.ty{T:PTy}{p:PV}{v:Value}{f fl:List Nat}(h:zPI w T p v f fl):Ty T p:=by
 cases T with
 | fn g ts=>obtain⟨qs,cs,rfl,_,hL⟩:=h;exact⟨qs,rfl,hL.tys⟩
 | _=>exact zOj.ty h
theorem zNG.ty{T:PTy}{p:PV}{v:Value}{f:List Nat}(h:zNG w T p v f):Ty T p:=by
 cases T with
 | agg ts=>obtain⟨qs,cs,fs,rfl,_,hL,_⟩:=h;exact⟨qs,rfl,hL.lv.tys⟩
 | list T=>
  obtain⟨es,rfl,hO⟩:=h
  have:=hO.lv.tys
  simp only[Tys] at this
  obtain⟨_,_,e,h1,_⟩:=this
  cases e
  exact h1
 | _=>exact h.elim
theorem zR5.ty{T:PTy}{p:PV}{v:Value}{f:List Nat}(h:zR5 w T p v f):Ty T p:=by
 cases T with
 | box ts=>obtain⟨qs,cs,fs,b,t,pre,post,rfl,_,_,hL,_⟩:=h;exact⟨qs,rfl,hL.lv.tys⟩
 | abx T=>obtain⟨es,rfl,h⟩:=h;exact⟨es,rfl,h.tys⟩
 | _=>exact h.elim
theorem zUT.ty{T:PTy}{p:PV}{v:Value}{f:List Nat}{b:Nat}(h:zUT w T p v f b):Ty T p:=by
 cases T with
 | box ts=>obtain⟨qs,cs,t,pre,post,rfl,_,_,hL⟩:=h;exact⟨qs,rfl,hL.tys⟩
 | _=>exact h.elim
theorem zAB.ty{ts:List (Md × PTy)}{ps:List PV}{vs:List Value}{f fl ms:List Nat}(h:zAB w ts ps vs f fl ms):TyA ts ps:=by
 induction h with
 | nil=>simp[TyA]
 | rd h1 _ ih=>exact⟨_,_,rfl,h1.ty,ih⟩
 | mt h1 _ ih=>exact⟨_,_,rfl,h1.ty,ih⟩
 | ow h1 _ ih=>exact⟨_,_,rfl,h1.ty,ih⟩
 | bx h1 _ ih=>exact⟨_,_,rfl,h1.ty,ih⟩
 | bs h1 _ ih=>exact⟨_,_,rfl,h1.ty,ih⟩
theorem zCD{n:Nat}{hl0:HL}{f G:List Nat}(hb:Bd n β A)(h:yB A ϕ G)(hf:∀b∈f,b ∉ G):yB ((n,hl0) :: A) (upd ϕ n f) G:=
 zA4 h (fun i=>zBC A i) hf
theorem zLZ{f:List Nat}{n:Nat}(hp:zL B X F A β ϕ w)(hB:w.heap.size=B)(hf:∀b∈f,b < w.heap.size)(hX:∀b∈f,b ∉ X)(hF:∀b∈f,b∈F):zAA B F A ϕ n f []:=by
 refine⟨?_,fun b hb=>.inl (hF b hb),by simp,by simp⟩
 intro i hl hi _ b hb hm
 rcases hp.own i hl hi b hb with h | h
 ·exact hX b hm h
 ·have:=hf b hm;omega
theorem zED:∀(Ts:List PTy) (ps:List PV) (vs:List Value) (f G:List Nat) (j n:Nat) (A:Hp) (β:Nat→GV) (ϕ:Nat→List Nat),Lv w Ts ps vs f→zL B X F A β ϕ w→Bd n β A→w.heap.size=B→(∀b∈f,b ∉ X)→(∀b∈f,b∈F)→yB A ϕ G→(∀b∈f,b ∉ G) →
  ∃β' ϕ',zIt B X F ((zB (.vw []) noP j n Ts ps).2.1++A) β β' ϕ ϕ' w n (zB (.vw []) noP j n Ts ps).2.2 (zB (.vw []) noP j n Ts ps).1 vs G:=by
 intro Ts
 induction Ts with
 | nil=>
  intro ps vs f G j n A β ϕ hL hp hb hB hX hF hG hf
  cases hL
  exact⟨β,ϕ,hp,hb,fun _ _=>rfl,fun _ _=>rfl,rfl,trivial,trivial,Nat.le_refl _,hG⟩
 | cons T Ts ih=>
  intro ps vs f G j n A β ϕ hL hp hb hB hX hF hG hf
  cases ps with
  | nil=>have:=hL.lens.1;simp at this
  | cons p ps=>
   obtain⟨v,vs',f1,f2,rfl,rfl,h1,h2⟩:=hL.cons_inv
   have scal:∀(x:SV),(zB (.vw []) noP j n (T :: Ts) (p :: ps))=(x :: (zB (.vw []) noP (j+1) n Ts ps).1,(zB (.vw []) noP (j+1) n Ts ps).2.1,(zB (.vw []) noP (j+1) n Ts ps).2.2)→(∀β,SV.val β x=v)→(∀m,SV.lt m x)→(∀β,SV.ok β x) →
     ∃β' ϕ',zIt B X F ((zB (.vw []) noP j n (T :: Ts) (p :: ps)).2.1++A) β β' ϕ ϕ' w n (zB (.vw []) noP j n (T :: Ts) (p :: ps)).2.2 (zB (.vw []) noP j n (T :: Ts) (p :: ps)).1 (v :: vs') G:=by
    intro x he hx hlt hok
    obtain⟨β',ϕ',a1,a2,a3,a4,a5,a6,a7,a8,a9⟩:=ih ps vs' f2 G (j+1) n A β ϕ h2 hp hb hB (fun b hb=>hX b (by simp[hb])) (fun b hb=>hF b (by simp[hb])) hG (fun b hb=>hf b (by simp[hb]))
    rw[he]
    exact⟨β',ϕ',a1,a2,a3,a4,by simp[SV.vals,hx,a5],⟨hlt _,a6⟩,⟨hok _,a7⟩,a8,a9⟩
   cases T with
   | int k=>
    obtain⟨m,rfl,rfl,hr,rfl⟩:=h1.int_inv
    exact scal (.int k m) rfl (fun _=>rfl) (fun _=>trivial) (fun _=>hr)
   | bool=>
    obtain⟨m,rfl,rfl,rfl⟩:=h1.bool_inv
    exact scal (.bool m) rfl (fun _=>rfl) (fun _=>trivial) (fun _=>trivial)
   | str=>
    obtain⟨m,rfl,rfl,hr,rfl⟩:=h1.str_inv
    exact scal (.str m) rfl (fun _=>rfl) (fun _=>trivial) (fun _=>hr)
   | list T=>
    obtain⟨es,rfl⟩:∃es,p=.list es:=by cases h1<;>exact⟨_,rfl⟩
    have hv1:zAA B F A ϕ n f1 []:=zLZ hp hB h1.inb (fun b hb=>hX b (by simp[hb])) (fun b hb=>hF b (by simp[hb]))
    obtain⟨c1,c2⟩:=zFO (T:=T) (es:=es) (v:=v) (p:=.no) hp hb h1 hv1 trivial
    have hG':=zCD (hl0:=.arr (.vw []) T es .no) hb hG (fun b hb=>hf b (by simp[hb]):∀b∈f1,b ∉ G)
    obtain⟨β',ϕ',a1,a2,a3,a4,a5,a6,a7,a8,a9⟩:=ih ps vs' f2 G (j+1) (n+1) _ _ _ h2 c1 c2 hB (fun b hb=>hX b (by simp[hb])) (fun b hb=>hF b (by simp[hb])) hG' (fun b hb=>hf b (by simp[hb]))
    refine⟨β',ϕ',?_,?_,fun k hk=>(a3 k (by omega)).trans (zs _ _ _ hk),fun k hk=>(a4 k (by omega)).trans (zs _ _ _ hk),?_,?_,?_,?_,?_⟩
    ·simpa[zB,noP,PV.L,List.append_assoc] using a1
    ·simpa[zB,noP,PV.L,List.append_assoc] using a2
    ·simp only[zB,SV.vals,SV.val,a5,a3 n (by omega),zi];rfl
    ·exact⟨by simp only[SV.lt,zB];omega,a6⟩
    ·exact⟨trivial,a7⟩
    ·simp only[zB];omega
    ·simpa[zB,noP,PV.L,List.append_assoc] using a9
   | agg ts=>cases h1
   | box ts=>cases h1
   | abx t=>cases h1
   | fn f ts=>cases h1
   | opq=>cases h1
theorem zIV{T:PTy}{p:PV}{v:Value}{f fl G:List Nat}{n:Nat}(hL:zOj w T p v f fl)(hp:zL B X F A β ϕ w)(hb:Bd n β A)(hB:w.heap.size=B)(hX:∀b∈f,b ∉ X)(hF:∀b∈fl,b∈F)(hG:yB A ϕ G)(hf:∀b∈f,b ∉ G) :
  ∃β' ϕ',zIt B X F ((zAL n T p).2.1++A) β β' ϕ ϕ' w n (zAL n T p).2.2 [(zAL n T p).1] [v] G:=by
 have leaf:(zAL n T p=((zB (.vw []) noP 0 n [T] [p]).1.headD .nilp,(zB (.vw []) noP 0 n [T] [p]).2.1,(zB (.vw []) noP 0 n [T] [p]).2.2))→Lv w [T] [p] [v] f→fl=f →
   ∃β' ϕ',zIt B X F ((zAL n T p).2.1++A) β β' ϕ ϕ' w n (zAL n T p).2.2 [(zAL n T p).1] [v] G:=by
  intro he hL' hfl
  subst hfl
  obtain⟨β',ϕ',a1,a2,a3,a4,a5,a6,a7,a8,a9⟩:=zED [T] [p] [v] fl G 0 n A β ϕ hL' hp hb hB hX hF hG hf
  have hx:(zB (.vw []) noP 0 n [T] [p]).1=[(zB (.vw []) noP 0 n [T] [p]).1.headD .nilp]:=by cases T<;>simp[zB]
  rw[he]
  rw[hx] at a5 a6 a7
  exact⟨β',ϕ',a1,a2,a3,a4,a5,a6,a7,a8,a9⟩
 cases T with
 | agg ts=>
  obtain⟨qs,cs,rfl,rfl,hL,rfl⟩:=hL
  obtain⟨β',ϕ',a1,a2,a3,a4,a5,a6,a7,a8,a9⟩:=zED ts qs cs fl G 0 n A β ϕ hL hp hb hB hX hF hG hf
  exact⟨β',ϕ',a1,a2,a3,a4,by simp[zAL,SV.vals,SV.val,PV.A,a5],⟨a6,trivial⟩,⟨a7,trivial⟩,a8,a9⟩
 | box ts=>
  obtain⟨qs,cs,b,t,pre,post,rfl,rfl,hblk,hL,rfl⟩:=hL
  obtain⟨β',ϕ',a1,a2,a3,a4,a5,a6,a7,a8,a9⟩:=zED ts qs cs fl G 0 n A β ϕ hL hp hb hB (fun c hc=>hX c (by simp[hc])) hF hG (fun c hc=>hf c (by simp[hc]))
  have hbb:b < w.heap.size:=(Array.getElem?_eq_some_iff.1 hblk).1
  have hbc:∀k,k < (zB (.vw []) noP 0 n ts qs).2.2→upd β' (zB (.vw []) noP 0 n ts qs).2.2 ⟨.pointer (some ⟨b,pre.length,none⟩),pre,post⟩ k=β' k:=fun k hk=>zs _ _ _ hk
  have hadd:=a1.add (n:=(zB (.vw []) noP 0 n ts qs).2.2) (hl0:=.box false 0 (zB (.vw []) noP 0 n ts qs).1) (g:=⟨.pointer (some ⟨b,pre.length,none⟩),pre,post⟩) (f:=[b]) a2 rfl
   ⟨b,t,rfl,rfl,by rw[SV.vals_congr hbc _ a6,a5];exact hblk⟩ (by simp[zH]) (fun h=>h.elim) trivial (by intro i hl hi hd c hc hm;simp[zH] at hm)
   (fun i hl hi _ c hc hm=>by
    simp only[List.mem_singleton] at hm
    subst hm
    rcases a1.own i hl hi c hc with h | h
    ·exact hX c (by simp) h
    ·omega) (fun h=>absurd rfl h) (by simp[zM]) (by simp[zM])
  refine⟨_,_,hadd,zAh a2 ⟨SV.lts_mono (Nat.le_succ (zB (.vw []) noP 0 n ts qs).2.2) _ a6,SV.oks_congr hbc _ a6 a7⟩,fun k hk=>(zs _ _ _ (show k < (zB (.vw []) noP 0 n ts qs).2.2 by omega)).trans (a3 k hk),fun k hk=>(zs _ _ _ (show k < (zB (.vw []) noP 0 n ts qs).2.2 by omega)).trans (a4 k hk),?_,?_,?_,?_,?_⟩
  ·simp[zAL,SV.vals,SV.val,PV.A,zi]
  ·exact⟨by simp[zAL,SV.lt,PV.A],trivial⟩
  ·exact⟨⟨b,pre.length,by simp[PV.A,zi]⟩,trivial⟩
  ·show n≤(zB (.vw []) noP 0 n ts qs).2.2+1;omega
  ·exact zCD a2 a9 (fun c hc=>by simp only[List.mem_singleton] at hc;subst hc;exact hf c (by simp))
 | abx T=>
  obtain⟨es,rfl,hA,rfl⟩:=hL
  obtain⟨b,rfl⟩:=hA.ptr
  have hadd:=hp.add (n:=n) (hl0:=.abx false T es) (g:=⟨.pointer (some ⟨b,0,none⟩),[],[]⟩) (f:=f) hb rfl
   hA (by simp[zH]) (fun h=>h.elim) trivial (by intro i hl hi hd c hc hm;simp[zH] at hm)
   (fun i hl hi _ c hc hm=>by
    have:=hA.inb c hm
    rcases hp.own i hl hi c hc with h | h
    ·exact hX c hm h
    ·omega) (fun _=>⟨rfl,rfl⟩) (by simp[zM]) (by simp[zM])
  refine⟨_,_,hadd,zAh hb trivial,fun k hk=>zs _ _ _ hk,fun k hk=>zs _ _ _ hk,?_,?_,?_,?_,?_⟩
  ·simp[zAL,SV.vals,SV.val,zi]
  ·exact⟨by simp[zAL,SV.lt],trivial⟩
  ·exact⟨⟨b,0,by simp[zi]⟩,trivial⟩
  ·show n≤n+1;omega
  ·exact zCD hb hG hf
 | fn g ts=>exact hL.elim
 | int k=>exact leaf rfl hL.1 hL.2
 | bool=>exact leaf rfl hL.1 hL.2
 | str=>exact leaf rfl hL.1 hL.2
 | list T=>exact leaf rfl hL.1 hL.2
 | opq=>exact leaf rfl hL.1 hL.2
theorem zLJ:∀(Ts:List PTy) (ps:List PV) (vs:List Value) (f fl G:List Nat) (n:Nat) (A:Hp) (β:Nat→GV) (ϕ:Nat→List Nat),zIr w Ts ps vs f fl→zL B X F A β ϕ w→Bd n β A→w.heap.size=B→(∀b∈f,b ∉ X)→(∀b∈fl,b∈F)→yB A ϕ G→(∀b∈f,b ∉ G) →
  ∃β' ϕ',zIt B X F ((zAH n Ts ps).2.1++A) β β' ϕ ϕ' w n (zAH n Ts ps).2.2 (zAH n Ts ps).1 vs G:=by
 intro Ts
 induction Ts with
 | nil=>
  intro ps vs f fl G n A β ϕ hL hp hb hB hX hF hG hf
  cases hL
  exact⟨β,ϕ,hp,hb,fun _ _=>rfl,fun _ _=>rfl,rfl,trivial,trivial,Nat.le_refl _,hG⟩
 | cons T Ts ih=>
  intro ps vs f fl G n A β ϕ hL hp hb hB hX hF hG hf
  cases hL with
  | @cons _ _ p ps' v vs' f g fl1 gl h1 h2=>
   obtain⟨β1,ϕ1,b1,b2,b3,b4,b5,b6,b7,b8,b9⟩:=zIV (n:=n) h1 hp hb hB (fun b hb=>hX b (by simp[hb])) (fun b hb=>hF b (by simp[hb])) hG (fun b hb=>hf b (by simp[hb]))
   obtain⟨β',ϕ',a1,a2,a3,a4,a5,a6,a7,a8,a9⟩:=ih ps' vs' g gl G _ _ _ _ h2 b1 b2 hB (fun b hb=>hX b (by simp[hb])) (fun b hb=>hF b (by simp[hb])) b9 (fun b hb=>hf b (by simp[hb]))
   refine⟨β',ϕ',?_,?_,fun k hk=>(a3 k (by omega)).trans (b3 k hk),fun k hk=>(a4 k (by omega)).trans (b4 k hk),?_,?_,?_,?_,?_⟩
   ·simpa[zAH,List.append_assoc] using a1
   ·simpa[zAH,List.append_assoc] using a2
   ·simp only[zAH,SV.vals,a5]
    simp only[SV.vals,List.cons.injEq,and_true] at b5
    rw[SV.val_congr a3 _ b6.1,b5]
   ·exact⟨SV.lt_mono a8 _ b6.1,a6⟩
   ·exact⟨SV.ok_congr a3 _ b6.1 b7.1,a7⟩
   ·simp only[zAH];omega
   ·simpa[zAH,List.append_assoc] using a9
theorem zMe{T:PTy}{p:PV}{v:Value}{f fl G:List Nat}{n:Nat}(hL:zPI w T p v f fl)(hp:zL B X F A β ϕ w)(hb:Bd n β A)(hB:w.heap.size=B)(hX:∀b∈f,b ∉ X)(hF:∀b∈fl,b∈F)(hG:yB A ϕ G)(hf:∀b∈f,b ∉ G) :
  ∃β' ϕ',zIt B X F ((zGC n T p).2.1++A) β β' ϕ ϕ' w n (zGC n T p).2.2 [(zGC n T p).1] [v] G:=by
 cases T with
 | fn g ts=>
  obtain⟨qs,cs,rfl,rfl,hL⟩:=hL
  obtain⟨β',ϕ',a1,a2,a3,a4,a5,a6,a7,a8,a9⟩:=zLJ ts qs cs f fl G n A β ϕ hL hp hb hB hX hF hG hf
  exact⟨β',ϕ',a1,a2,a3,a4,by simp[zGC,SV.vals,SV.val,PV.A,a5],⟨a6,trivial⟩,⟨a7,trivial⟩,a8,a9⟩
 | _=>exact zIV hL hp hb hB hX hF hG hf
def zJn(w:World)(β:Nat→GV)(T:PTy)(x:SV):Prop:=
 match T,x with
 | .box l,.ptr h 0=>∃b t cs0,(β h).v=.pointer (some ⟨b,(β h).pre.length,none⟩)∧w.heap[b]?=some (.cells ((β h).pre++cs0++(β h).post).toArray t (0,0))∧cs0.length=l.length
 | _,_=>True
def nL:List PTy→Nat
 | []=>0
 | .list _ :: ts=>nL ts+1
 | _ :: ts=>nL ts
def zDo(β:Nat→GV):List PTy→Nat→List Value→Prop
 | .list _ :: ts,i,c :: cs=>c=(β i).v∧zDo β ts (i+1) cs
 | _ :: ts,i,_ :: cs=>zDo β ts i cs
 | _,_,_=>True
theorem zDo.congr{β β':Nat→GV}{n:Nat}(hβ:∀k,k < n→β' k=β k):∀{ts:List PTy} {i:Nat} {cs:List Value},zDo β ts i cs→i+nL ts≤n→zDo β' ts i cs
 | [],i,cs,h,hn=>by cases cs<;>trivial
 | t :: ts,i,[],h,hn=>by cases t<;>trivial
 | t :: ts,i,c :: cs,h,hn=>by
  cases t<;>simp only[zDo,nL] at h hn ⊢<;>first | exact zDo.congr hβ h hn | exact⟨h.1.trans (by rw[hβ i (by omega)]),zDo.congr hβ h.2 (by omega)⟩
theorem zEh{o:Own}{q:Nat→Pth}{β:Nat→GV}:∀{ts:List PTy} {ps:List PV} {j n:Nat},ts.length=ps.length→zDo β ts n (SV.vals β (zB o q j n ts ps).1)∧(zB o q j n ts ps).2.2=n+nL ts
 | [],ps,j,n,h=>by simp[zB,zDo,nL]
 | t :: ts,[],j,n,h=>by simp at h
 | t :: ts,p :: ps,j,n,h=>by
  have hl:ts.length=ps.length:=by simpa using h
  cases t with
  | list T=>
   obtain⟨a1,a2⟩:=zEh (o:=o) (q:=q) (β:=β) (j:=j+1) (n:=n+1) hl
   simp only[zB,SV.vals,zDo,nL]
   exact⟨⟨rfl,a1⟩,by omega⟩
  | _=>
   obtain⟨a1,a2⟩:=zEh (o:=o) (q:=q) (β:=β) (j:=j+1) (n:=n) hl
   simp only[zB,SV.vals,zDo,nL]
   exact⟨a1,a2⟩
def zJo(w:World)(β:Nat→GV)(T:PTy)(x:SV):Prop:=
 match T,x with
 | .box l,.ptr h 0=>∃b t cs0,(β h).v=.pointer (some ⟨b,(β h).pre.length,none⟩)∧w.heap[b]?=some (.cells ((β h).pre++cs0++(β h).post).toArray t (0,0))∧cs0.length=l.length∧nL l≤h∧zDo β l (h - nL l) cs0
 | _,_=>True
theorem zJo.congr{β β':Nat→GV}{n:Nat}{T:PTy}{x:SV}(h:zJo w β T x)(hβ:∀k,k < n→β' k=β k)(hx:SV.lt n x):zJo w β' T x:=by
 unfold zJo at h ⊢
 split at h
 ·rename_i l i
  obtain⟨b,t,cs0,h1,h2,h3,h4,h5⟩:=h
  have hi:i < n:=hx
  rw[hβ i hx];exact⟨b,t,cs0,h1,h2,h3,h4,h5.congr hβ (by omega)⟩
 ·trivial
def zLW(w:World)(β:Nat→GV):List (Md × PTy)→List SV→Prop
 | (.bx,t) :: ts,x :: xs=>zJn w β t x∧zLW w β ts xs
 | (.bs,t) :: ts,x :: xs=>zJo w β t x∧zLW w β ts xs
 | _ :: ts,_ :: xs=>zLW w β ts xs
 | _,_=>True
theorem zJn.congr{β β':Nat→GV}{n:Nat}{T:PTy}{x:SV}(h:zJn w β T x)(hβ:∀k,k < n→β' k=β k)(hx:SV.lt n x):zJn w β' T x:=by
 unfold zJn at h ⊢
 split at h
 ·rename_i l i
  rw[hβ i hx];exact h
 ·trivial
theorem zLW.congr{β β':Nat→GV}{n:Nat}(hβ:∀k,k < n→β' k=β k):∀{ts:List (Md × PTy)} {xs:List SV},zLW w β ts xs→SV.lts n xs→zLW w β' ts xs
 | [],xs,h,hx=>by cases xs<;>trivial
 | (m,t) :: ts,[],h,hx=>by cases m<;>trivial
 | (m,t) :: ts,x :: xs,h,hx=>by
  cases m with
  | bx=>exact⟨h.1.congr hβ hx.1,zLW.congr hβ h.2 hx.2⟩
  | bs=>exact⟨h.1.congr hβ hx.1,zLW.congr hβ h.2 hx.2⟩
  | _=>exact zLW.congr (ts:=ts) (xs:=xs) hβ h hx.2
theorem zLF{T:PTy}{p:PV}{v:Value}{f G:List Nat}{n:Nat}(hL:zR5 w T p v f)(hp:zL B X F A β ϕ w)(hb:Bd n β A)(hn:(f++G).Nodup)(hw:∀b∈f,(b∈X∨B≤b)∧(b∈F∨B≤b))(hd:yB A ϕ (f++G)) :
  ∃β' ϕ',zIt B X F ((zDU n T p).2.1++A) β β' ϕ ϕ' w n (zDU n T p).2.2 [(zDU n T p).1] [v] G∧zJn w β' T (zDU n T p).1:=by
 cases T with
 | box ts=>
  obtain⟨qs,cs,fs,b,t,pre,post,rfl,rfl,hblk,hL,rfl⟩:=hL
  have hn':(fs.flatten++(b :: G)).Nodup:=by
   simp only[List.cons_append,List.nodup_cons,List.mem_append,not_or,List.nodup_append,List.mem_cons] at hn ⊢
   obtain⟨⟨q1,q2⟩,q3,q4,q5⟩:=hn
   refine⟨q3,⟨q2,q4⟩,?_⟩
   rintro a ha b' (rfl | hb') e
   ·subst e;exact q1 ha
   ·exact q5 a ha b' hb' e
  obtain⟨β',ϕ',a1,a2,a3,a4,a5,a6,a7,a8,a9⟩:=zB5 noP (fun _=>rfl) ts qs cs fs (b :: G) 0 n A β ϕ hL hp hb hn' (fun c hc=>hw c (by simp only[List.mem_cons];exact .inr hc)) (hd.mono fun c hc=>by simp only[List.mem_append,List.mem_cons] at hc ⊢;rcases hc with h | h | h<;>simp[h])
  have hbc:∀k,k < (zB .dp noP 0 n ts qs).2.2→upd β' (zB .dp noP 0 n ts qs).2.2 ⟨.pointer (some ⟨b,pre.length,none⟩),pre,post⟩ k=β' k:=fun k hk=>zs _ _ _ hk
  have hadd:=a1.add (n:=(zB .dp noP 0 n ts qs).2.2) (hl0:=.box true 0 (zB .dp noP 0 n ts qs).1) (g:=⟨.pointer (some ⟨b,pre.length,none⟩),pre,post⟩) (f:=[b]) a2 rfl
   ⟨b,t,rfl,rfl,by rw[SV.vals_congr hbc _ a6,a5];exact hblk⟩ (fun c hc=>by simp only[zH,List.mem_singleton] at hc;subst hc;exact(hw c (by simp)).1) (fun _ c hc=>by simp only[List.mem_singleton] at hc;subst hc;exact(hw c (by simp)).2) trivial
   (a9.mono fun c hc=>by simp only[zH,List.mem_singleton] at hc;simp[hc])
   (fun i hl hi _ c hc hm=>by
    simp only[List.mem_singleton] at hm
    subst hm
    by_cases hdd:hl=.dead
    ·subst hdd;simp[zH] at hc
    ·exact a9 i hl hi hdd c (zU c hc) (by simp)) (fun h=>absurd rfl h) (by simp[zM]) (by simp[zM])
  refine⟨_,_,⟨hadd,zAh a2 ⟨SV.lts_mono (Nat.le_succ (zB .dp noP 0 n ts qs).2.2) _ a6,SV.oks_congr hbc _ a6 a7⟩,fun k hk=>(zs _ _ _ (show k < (zB .dp noP 0 n ts qs).2.2 by omega)).trans (a3 k hk),fun k hk=>(zs _ _ _ (show k < (zB .dp noP 0 n ts qs).2.2 by omega)).trans (a4 k hk),?_,?_,?_,?_,?_⟩,⟨b,t,cs,by simp[PV.A,zi],by simpa[PV.A,zi] using hblk,hL.lv.lens.2.trans hL.lv.lens.1.symm⟩⟩
  ·simp[zDU,SV.vals,SV.val,PV.A,zi]
  ·exact⟨by simp[zDU,SV.lt,PV.A],trivial⟩
  ·exact⟨⟨b,pre.length,by simp[PV.A,zi]⟩,trivial⟩
  ·show n≤(zB .dp noP 0 n ts qs).2.2+1;omega
  ·refine zCD a2 (a9.mono fun c hc=>by simp[hc]) (fun c hc hm=>?_)
   simp only[List.mem_singleton] at hc
   subst hc
   simp only[List.cons_append,List.nodup_cons,List.mem_append,not_or] at hn
   exact hn.1.2 hm
 | abx T=>
  obtain⟨es,rfl,hA⟩:=hL
  obtain⟨b,rfl⟩:=hA.ptr
  have hadd:=hp.add (n:=n) (hl0:=.abx true T es) (g:=⟨.pointer (some ⟨b,0,none⟩),[],[]⟩) (f:=f) hb rfl
   hA (fun c hc=>(hw c (by simpa[zH] using hc)).1) (fun _ c hc=>(hw c hc).2) trivial
   (hd.mono fun c hc=>List.mem_append_left _ hc)
   (fun i hl hi _ c hc hm=>by
    by_cases hdd:hl=.dead
    ·subst hdd;simp[zH] at hc
    ·exact hd i hl hi hdd c (zU c hc) (List.mem_append_left _ hm)) (fun _=>⟨rfl,rfl⟩) (by simp[zM]) (by simp[zM])
  refine⟨_,_,⟨hadd,zAh hb trivial,fun k hk=>zs _ _ _ hk,fun k hk=>zs _ _ _ hk,?_,?_,?_,?_,?_⟩,trivial⟩
  ·simp[zDU,SV.vals,SV.val,zi]
  ·exact⟨by simp[zDU,SV.lt],trivial⟩
  ·exact⟨⟨b,0,by simp[zi]⟩,trivial⟩
  ·show n≤n+1;omega
  ·exact zCD hb (hd.mono fun c hc=>by simp[hc]) (fun c hc hm=>(List.nodup_append.1 hn).2.2 c hc c hm rfl)
 | _=>exact hL.elim
theorem zLH{T:PTy}{p:PV}{v:Value}{f G:List Nat}{b n:Nat}(hL:zUT w T p v f b)(hp:zL B X F A β ϕ w)(hb:Bd n β A)(hB:w.heap.size=B)(hX:∀c∈f,c ∉ X)(hF:∀c∈f,c∈F)(hM:∀c∈b :: G,c∈X∧c∈F)(hn:b ∉ G)(hd:yB A ϕ (b :: G)) :
  ∃β' ϕ',zIt B X F ((zEz n T p).2.1++A) β β' ϕ ϕ' w n (zEz n T p).2.2 [(zEz n T p).1] [v] G∧zJo w β' T (zEz n T p).1:=by
 cases T with
 | box ts=>
  obtain⟨qs,cs,t,pre,post,rfl,rfl,hblk,hL⟩:=hL
  obtain⟨β',ϕ',a1,a2,a3,a4,a5,a6,a7,a8,a9⟩:=zED ts qs cs f (b :: G) 0 n A β ϕ hL hp hb hB hX hF hd (fun c hc hm=>hX c hc (hM c hm).1)
  have hlen:ts.length=qs.length:=hL.lens.1
  have hbc:∀k,k < (zB (.vw []) noP 0 n ts qs).2.2→upd β' (zB (.vw []) noP 0 n ts qs).2.2 ⟨.pointer (some ⟨b,pre.length,none⟩),pre,post⟩ k=β' k:=fun k hk=>zs _ _ _ hk
  have hadd:=a1.add (n:=(zB (.vw []) noP 0 n ts qs).2.2) (hl0:=.box true 0 (zB (.vw []) noP 0 n ts qs).1) (g:=⟨.pointer (some ⟨b,pre.length,none⟩),pre,post⟩) (f:=[b]) a2 rfl
   ⟨b,t,rfl,rfl,by rw[SV.vals_congr hbc _ a6,a5];exact hblk⟩ (fun c hc=>by simp only[zH,List.mem_singleton] at hc;subst hc;exact .inl (hM c (by simp)).1) (fun _ c hc=>by simp only[List.mem_singleton] at hc;subst hc;exact .inl (hM c (by simp)).2) trivial
   (a9.mono fun c hc=>by simp only[zH,List.mem_singleton] at hc;simp[hc])
   (fun i hl hi _ c hc hm=>by
    simp only[List.mem_singleton] at hm
    subst hm
    by_cases hdd:hl=.dead
    ·subst hdd;simp[zH] at hc
    ·exact a9 i hl hi hdd c (zU c hc) (by simp)) (fun h=>absurd rfl h) (by simp[zM]) (by simp[zM])
  refine⟨_,_,⟨hadd,zAh a2 ⟨SV.lts_mono (Nat.le_succ (zB (.vw []) noP 0 n ts qs).2.2) _ a6,SV.oks_congr hbc _ a6 a7⟩,fun k hk=>(zs _ _ _ (show k < (zB (.vw []) noP 0 n ts qs).2.2 by omega)).trans (a3 k hk),fun k hk=>(zs _ _ _ (show k < (zB (.vw []) noP 0 n ts qs).2.2 by omega)).trans (a4 k hk),?_,?_,?_,?_,?_⟩,?_⟩
  ·simp[zEz,SV.vals,SV.val,PV.A,zi]
  ·exact⟨by simp[zEz,SV.lt,PV.A],trivial⟩
  ·exact⟨⟨b,pre.length,by simp[PV.A,zi]⟩,trivial⟩
  ·show n≤(zB (.vw []) noP 0 n ts qs).2.2+1;omega
  ·refine zCD a2 (a9.mono fun c hc=>by simp[hc]) (fun c hc hm=>?_)
   simp only[List.mem_singleton] at hc
   subst hc
   exact hn hm
  ·obtain⟨k1,k2⟩:=zEh (o:=.vw []) (q:=noP) (β:=β') (j:=0) (n:=n) hlen
   refine⟨b,t,cs,by simp[PV.A,zi],by simpa[PV.A,zi] using hblk,hL.lens.2.trans hlen.symm,?_,?_⟩
   ·show nL ts≤(zB (.vw []) noP 0 n ts qs).2.2;omega
   ·have e:(zB (.vw []) noP 0 n ts qs).2.2 - nL ts=n:=by omega
    show zDo _ ts ((zB (.vw []) noP 0 n ts qs).2.2 - nL ts) cs
    rw[e]
    rw[a5] at k1
    exact k1.congr hbc (by omega)
 | _=>exact hL.elim
theorem zNG.ret{t:PTy}{p:PV}{v:Value}{f:List Nat}(h:zNG w t p v f):zLS w t p v f:=by
 cases t with
 | agg ts=>exact h
 | list T=>obtain⟨es,rfl,hO⟩:=h;exact⟨[f],.list hO .nil,by simp⟩
 | _=>exact h.elim
theorem zEC:∀(Ts:List (Md × PTy)) (ps:List PV) (vs:List Value) (fs fl ms:List Nat) (n:Nat) (A:Hp) (β:Nat→GV) (ϕ:Nat→List Nat),zAB w Ts ps vs fs fl ms→zL B X F A β ϕ w→Bd n β A→w.heap.size=B →
  (∀b∈fs,b ∉ X)→(∀b∈fl,b∈F)→(∀b∈ms,b∈X∧b∈F)→ms.Nodup→yB A ϕ ms →
  ∃β' ϕ',zIt B X F ((zd n Ts ps).2.1++A) β β' ϕ ϕ' w n (zd n Ts ps).2.2 (zd n Ts ps).1 vs []∧zLW w β' Ts (zd n Ts ps).1:=by
 intro Ts
 induction Ts with
 | nil=>
  intro ps vs fs fl ms n A β ϕ hL hp hb hB hX hF hM hn hG
  cases hL
  exact⟨β,ϕ,⟨hp,hb,fun _ _=>rfl,fun _ _=>rfl,rfl,trivial,trivial,Nat.le_refl _,hG.mono (by simp)⟩,trivial⟩
 | cons T Ts ih=>
  intro ps vs fs fl ms n A β ϕ hL hp hb hB hX hF hM hn hG
  have comb:∀{m t p ps' v vs'} {K:SV × Hp × Nat} {β1 ϕ1} {fs' fl' ms'},zEy n m t p=K→(m=.bx→zJn w β1 t K.1)→(m=.bs→zJo w β1 t K.1)→zIt B X F (K.2.1++A) β β1 ϕ ϕ1 w n K.2.2 [K.1] [v] ms'→zAB w Ts ps' vs' fs' fl' ms'→(∀b∈fs',b ∉ X)→(∀b∈fl',b∈F)→(∀b∈ms',b∈X∧b∈F)→ms'.Nodup →
    ∃β' ϕ',zIt B X F ((zd n ((m,t) :: Ts) (p :: ps')).2.1++A) β β' ϕ ϕ' w n (zd n ((m,t) :: Ts) (p :: ps')).2.2 (zd n ((m,t) :: Ts) (p :: ps')).1 (v :: vs') []∧zLW w β' ((m,t) :: Ts) (zd n ((m,t) :: Ts) (p :: ps')).1:=by
   rintro m t p ps' v vs' K β1 ϕ1 fs' fl' ms' rfl hold holdS ⟨b1,b2,b3,b4,b5,b6,b7,b8,b9⟩ h2 g1 g2 g3 g4
   obtain⟨β',ϕ',⟨a1,a2,a3,a4,a5,a6,a7,a8,a9⟩,ho⟩:=ih ps' vs' fs' fl' ms' _ _ _ _ h2 b1 b2 hB g1 g2 g3 g4 b9
   refine⟨β',ϕ',⟨?_,?_,fun k hk=>(a3 k (by omega)).trans (b3 k hk),fun k hk=>(a4 k (by omega)).trans (b4 k hk),?_,?_,?_,?_,?_⟩,by
    cases m with
    | bx=>exact⟨(hold rfl).congr a3 b6.1,ho⟩
    | bs=>exact⟨(holdS rfl).congr a3 b6.1,ho⟩
    | _=>exact ho⟩
   ·simpa[zd,List.append_assoc] using a1
   ·simpa[zd,List.append_assoc] using a2
   ·simp only[zd,SV.vals,a5]
    simp only[SV.vals,List.cons.injEq,and_true] at b5
    rw[SV.val_congr a3 _ b6.1,b5]
   ·exact⟨SV.lt_mono a8 _ b6.1,a6⟩
   ·exact⟨SV.ok_congr a3 _ b6.1 b7.1,a7⟩
   ·simp only[zd];omega
   ·simpa[zd,List.append_assoc] using a9
  cases hL with
  | rd h1 h2=>
   obtain⟨β1,ϕ1,hl⟩:=zMe (n:=n) h1 hp hb hB (fun b hb=>hX b (by simp[hb])) (fun b hb=>hF b (by simp[hb])) hG (fun b hb hm=>hX b (by simp[hb]) (hM b hm).1)
   exact comb rfl (fun e=>by cases e) (fun e=>by cases e) hl h2 (fun b hb=>hX b (by simp[hb])) (fun b hb=>hF b (by simp[hb])) hM hn
  | mt h1 h2=>
   obtain⟨β1,ϕ1,hl⟩:=zEg (n:=n) h1.ret hp hb hn (fun b hb=>⟨.inl (hM b (by simp[hb])).1,.inl (hM b (by simp[hb])).2⟩) hG
   exact comb rfl (fun e=>by cases e) (fun e=>by cases e) hl h2 hX hF (fun b hb=>hM b (by simp[hb])) (List.nodup_append.1 hn).2.1
  | ow h1 h2=>
   obtain⟨β1,ϕ1,hl⟩:=zEg (n:=n) h1.ret hp hb hn (fun b hb=>⟨.inl (hM b (by simp[hb])).1,.inl (hM b (by simp[hb])).2⟩) hG
   exact comb rfl (fun e=>by cases e) (fun e=>by cases e) hl h2 hX hF (fun b hb=>hM b (by simp[hb])) (List.nodup_append.1 hn).2.1
  | bx h1 h2=>
   obtain⟨β1,ϕ1,hl,hold⟩:=zLF (n:=n) h1 hp hb hn (fun b hb=>⟨.inl (hM b (by simp[hb])).1,.inl (hM b (by simp[hb])).2⟩) hG
   exact comb rfl (fun _=>hold) (fun e=>by cases e) hl h2 hX hF (fun b hb=>hM b (by simp[hb])) (List.nodup_append.1 hn).2.1
  | bs h1 h2=>
   simp only[List.nodup_cons] at hn
   obtain⟨β1,ϕ1,hl,hold⟩:=zLH (n:=n) h1 hp hb hB (fun b hb=>hX b (by simp[hb])) (fun b hb=>hF b (by simp[hb])) hM hn.1 hG
   exact comb rfl (fun e=>by cases e) (fun _=>hold) hl h2 (fun b hb=>hX b (by simp[hb])) (fun b hb=>hF b (by simp[hb])) (fun b hb=>hM b (by simp[hb])) hn.2
end
end
section
variable [zZ]
def zHW(E:Env)(S:St):List ResultVar→Option (List SV)
 | []=>some []
 | .tmp t :: ts=>match lk S.Lp t,zHW E S ts with | some x,some xs=>some (x :: xs) | _,_=>none
 | .cell t ty :: ts=>match lk S.Lp t,zHW E S ts with
  | some (.ptr h 0),some xs=>(match lk S.A h,lk E.ty ty with
   | some (.box _ _ cs),some ti=>if ti.agg&&cs.length == ti.sz then some (.agg cs :: xs) else none
   | _,_=>none)
  | _,_=>none
def zNd:Nat→List SV→List (Nat × SV)
 | _,[]=>[]
 | i,x :: xs=>(i,x) :: zNd (i+1) xs
def zFk:List PTy→Nat→List SV→Option (Prop × List PV)
 | [],_,[]=>some (True,[])
 | .int k :: ts,i,.int k' m :: xs=>match zFk ts i xs with | some (o,ps)=>some (k'=k∧o,.int k m :: ps) | none=>none
 | .bool :: ts,i,.bool b :: xs=>match zFk ts i xs with | some (o,ps)=>some (o,.bool b :: ps) | none=>none
 | .str :: ts,i,.str l :: xs=>match zFk ts i xs with | some (o,ps)=>some (o,.str l :: ps) | none=>none
 | .list _ :: ts,i,.sl j :: xs=>match zFk ts (i+1) xs with | some (o,ps)=>some (j=i∧o,.list [] :: ps) | none=>none
 | _,_,_=>none
def zBs(A:Hp):List (Md × PTy)→List SV→Option (Prop × List PV)
 | (.mt,t) :: ts,x :: xs=>match yJ A t x,zBs A ts xs with | some (o,p),some (o',ps)=>some (o∧o',p :: ps) | _,_=>none
 | (.rd,_) :: ts,_ :: xs=>zBs A ts xs
 | (.ow,_) :: ts,_ :: xs=>zBs A ts xs
 | (.bx,.box l) :: ts,.ptr h 0 :: xs=>(match lk A h with
  | some (.box true _ cs)=>(match zv A l cs,zBs A ts xs with | some (o,p),some (o',ps)=>some ((o∧cs.length=l.length)∧o',.agg p :: ps) | _,_=>none)
  | _=>none)
 | (.bx,.abx T) :: ts,.ptr h 0 :: xs=>(match lk A h with
  | some (.abx true T' es)=>(match zBs A ts xs with | some (o',ps)=>some (T'=T∧o',.list es :: ps) | none=>none)
  | _=>none)
 | (.bs,.box l) :: ts,.ptr h 0 :: xs=>(match lk A h with
  | some (.box true _ cs)=>(match zFk l (h - nL l) cs,zBs A ts xs with | some (o,p),some (o',ps)=>some ((o∧cs.length=l.length)∧o',.agg p :: ps) | _,_=>none)
  | _=>none)
 | [],[]=>some (True,[])
 | _,_=>none
def zDa:List PTy→Prop
 | []=>True
 | .agg _ :: ts=>zDa ts
 | .int _ :: ts=>zDa ts
 | .bool :: ts=>zDa ts
 | .str :: ts=>zDa ts
 | .list _ :: ts=>zDa ts
 | _ :: _=>False
def zBk:List PTy→Prop
 | []=>True
 | .agg _ :: ts=>zBk ts
 | .int _ :: ts=>zBk ts
 | .bool :: ts=>zBk ts
 | .str :: ts=>zBk ts
 | .list _ :: ts=>zBk ts
 | .abx _ :: ts=>zBk ts
 | .opq :: ts=>zBk ts
 | _ :: _=>False
def zOv(A:Hp):PTy→SV→Option (Prop × PV)
 | .opq,x=>(match x with | .nilp=>some (True,PV.d) | _=>none)
 | T,x=>yJ A T x
def zI5(A:Hp):List PTy→List SV→Option (Prop × List PV)
 | [],[]=>some (True,[])
 | t :: ts,x :: xs=>match zOv A t x,zI5 A ts xs with | some (o,p),some (o',ps)=>some (o∧o',p :: ps) | _,_=>none
 | _,_=>none
def zOu:PTy→SV→List Nat
 | .abx _,.ptr h _=>[h]
 | _,x=>zW x.cells
def zHM:List PTy→List SV→List Nat
 | t :: ts,x :: xs=>zOu t x++zHM ts xs
 | _,_=>[]
def zSN(A:Hp):PTy→SV→Prop
 | .abx _,.ptr h _=>(match lk A h with | some (.abx true _ _)=>True | _=>False)
 | _,_=>True
def zLw(A:Hp):List PTy→List SV→Prop
 | t :: ts,x :: xs=>zSN A t x∧zLw A ts xs
 | _,_=>True
def zNh:List (Md × PTy)→Prop
 | []=>True
 | (.mt,.agg _) :: ts=>zNh ts
 | (.mt,.list _) :: ts=>zNh ts
 | (.mt,_) :: _=>False
 | _ :: ts=>zNh ts
def zOC(A:Hp):SV→List SV
 | .ptr h _=>(match lk A h with | some (.box _ _ cs)=>cs | _=>[])
 | _=>[]
def zD7(A:Hp):List (Md × PTy)→List SV→List Nat
 | (.mt,_) :: ts,x :: xs=>zW x.cells++zD7 A ts xs
 | (.bx,_) :: ts,x :: xs=>zW (zOC A x)++zD7 A ts xs
 | _ :: ts,_ :: xs=>zD7 A ts xs
 | _,_=>[]
def zHo(A:Hp):List (Md × PTy)→List SV→List Nat
 | (.mt,_) :: ts,x :: xs=>zW x.cells++zHo A ts xs
 | (.bx,_) :: ts,.ptr h _ :: xs=>h :: (zW (zOC A (.ptr h 0))++zHo A ts xs)
 | (.bs,_) :: ts,.ptr h _ :: xs=>h :: zHo A ts xs
 | _ :: ts,_ :: xs=>zHo A ts xs
 | _,_=>[]
def zPy(s:zS)(xs xs0:List SV)(ps:List PV)(A:Hp):Prop:=
 match zI5 A s.ret xs,zBs A s.args xs0 with
 | some (o,rs),some (o',qs)=>o∧rs=s.res ps∧o'∧qs=s.out ps∧zAX A (zAK xs++zD7 A s.args xs0)=true∧zLw A s.ret xs
 | _,_=>False
def zLM(E:Env)(outs:List ResultVar)(s:zS)(xs0:List SV)(ps:List PV)(S:St):Prop:=
 match zHW E S outs with
 | none=>False
 | some xs=>
   (if s.fresh then zBk s.ret∧zNh s.args∧ndB (zHM s.ret xs++zHo (yv S.A (zAK xs++zD7 S.A s.args xs0)) s.args xs0)=true∧zPy s xs xs0 ps (yv S.A (zAK xs++zD7 S.A s.args xs0))
   else zDa s.ret∧zAr s.args=true∧(match zFn S.A s.ret xs with | some (o,rs)=>o∧rs=s.res ps | none=>False))
section
variable {P:Program} {E:Env} {N:Nat} {w0:World} {X F:List Nat} {S:St} {β:Nat→GV} {ϕ:Nat→List Nat} {a:Act} {w w':World} {o:Oper} {R:RR} {A:Hp} {B:Nat}
theorem zH9{T:PTy}{x:SV}{ob:Prop}{p:PV}(h:yJ A T x=some (ob,p))(hob:ob)(hp:zL B X F A β ϕ w)(hk:SV.ok β x)(ho:zAX A (zW x.cells)=true)(hT:zDa [T]) :
  zLS w T p (SV.val β x) ((zW x.cells).map ϕ).flatten:=by
 have lists:∀{us:List PTy} {ys:List SV} {o:Prop} {rs:List PV},zv A us ys=some (o,rs)→o→SV.oks β ys→zAX A (zW ys)=true→LoD w us rs (SV.vals β ys) (zEi ϕ ys):=by
  intro us ys o rs q1 q2 q3 q4
  refine yx q1 q2 q3 fun h hh o T es p hA=>?_
  obtain⟨T',es',p',e⟩:=zCq.1 (zAW.1 q4 h hh)
  rw[hA] at e;cases e
  exact hp.sat _ _ hA
 have leaf:∀(h':yS A T x=some (ob,p)),(x.cells=[x])→∃fs,LoD w [T] [p] [SV.val β x] fs∧((zW x.cells).map ϕ).flatten=fs.flatten:=by
  intro h' hc
  rw[hc] at ho ⊢
  exact⟨_,lists (us:=[T]) (ys:=[x]) (o:=ob∧True) (rs:=[p]) (by simp[zv,h']) ⟨hob,trivial⟩ ⟨hk,trivial⟩ ho,by rw[y8]⟩
 cases T with
 | agg ts=>
  cases x with
  | agg xs=>
   simp only[yJ] at h
   split at h
   ·rename_i o ps hps
    simp only[Option.some.injEq,Prod.mk.injEq] at h
    obtain⟨rfl,rfl⟩:=h
    exact⟨ps,_,_,rfl,rfl,lists hps hob hk ho,by rw[y8];rfl⟩
   ·cases h
  | _=>simp[yJ,yS] at h
 | box ts=>exact hT.elim
 | abx t=>exact hT.elim
 | fn g ts=>exact hT.elim
 | opq=>exact hT.elim
 | int k=>cases x<;>first | (simp[yJ,yS] at h;done) | exact leaf (by simpa[yJ] using h) rfl
 | bool=>cases x<;>first | (simp[yJ,yS] at h;done) | exact leaf (by simpa[yJ] using h) rfl
 | str=>cases x<;>first | (simp[yJ,yS] at h;done) | exact leaf (by simpa[yJ] using h) rfl
 | list T=>cases x<;>first | (simp[yJ,yS] at h;done) | exact leaf (by simpa[yJ] using h) rfl
theorem zNV{T:PTy}{x:SV}{ob:Prop}{p:PV}(h:zOv A T x=some (ob,p))(hob:ob)(hp:zL B X F A β ϕ w)(hk:SV.ok β x)(ho:zAX A (zW x.cells)=true)(ha:zSN A T x)(hT:zBk [T]) :
  zRb w T p (SV.val β x) ((zOu T x).map ϕ).flatten:=by
 have h0:∀(hT':zDa [T]) (e:zOv A T x=yJ A T x) (e2:zOu T x=zW x.cells) (e3:zRb w T p (SV.val β x) ((zW x.cells).map ϕ).flatten=zLS w T p (SV.val β x) ((zW x.cells).map ϕ).flatten),zRb w T p (SV.val β x) ((zOu T x).map ϕ).flatten:=fun hT' e e2 e3=>by
  rw[e2,e3];exact zH9 (e ▸ h) hob hp hk ho hT'
 cases T with
 | abx T=>
  cases x with
  | ptr i off=>
   cases off with
   | zero=>
    simp only[zOv,yJ] at h
    simp only[zSN] at ha
    split at h
    ·rename_i ow T' es hA
     simp only[Option.some.injEq,Prod.mk.injEq] at h
     obtain⟨rfl,rfl⟩:=h
     subst hob
     have hab:zAC w T' es (β i).v (ϕ i):=hp.sat _ _ hA
     obtain⟨b,hv⟩:=hab.ptr
     have hvv:SV.val β (.ptr i 0)=(β i).v:=by simp[SV.val,hv]
     refine⟨es,rfl,?_⟩
     rw[hvv]
     simpa[zOu] using hab
    ·cases h
   | succ n=>simp[zOv,yJ,yS] at h
  | _=>simp[zOv,yJ,yS] at h
 | opq=>
  simp only[zOv] at h
  split at h
  ·simp only[Option.some.injEq,Prod.mk.injEq] at h
   obtain⟨rfl,rfl⟩:=h
   exact⟨rfl,rfl,by simp[zOu,SV.cells,zW]⟩
  ·cases h
 | box ts=>exact hT.elim
 | fn g ts=>exact hT.elim
 | agg ts=>exact h0 trivial rfl (by cases x<;>rfl) rfl
 | int k=>exact h0 trivial rfl (by cases x<;>rfl) rfl
 | bool=>exact h0 trivial rfl (by cases x<;>rfl) rfl
 | str=>exact h0 trivial rfl (by cases x<;>rfl) rfl
 | list T=>exact h0 trivial rfl (by cases x<;>rfl) rfl
theorem zI4{t:PTy}{ts:List PTy}(h:zBk (t :: ts)):zBk [t]∧zBk ts:=by
 cases t<;>first | exact⟨trivial,h⟩ | exact h.elim
theorem zKt{t:PTy}{ts:List PTy}(h:zDa (t :: ts)):zDa [t]∧zDa ts:=by
 cases t<;>first | exact⟨trivial,h⟩ | exact h.elim
theorem zAy{l l':List Nat}:zAX A (l++l')=true↔zAX A l=true∧zAX A l'=true:=by
 simp only[zAW,List.mem_append]
 exact⟨fun h=>⟨fun i hi=>h i (.inl hi),fun i hi=>h i (.inr hi)⟩,fun h i hi=>hi.elim (h.1 i) (h.2 i)⟩
theorem zH5:∀{ts:List PTy} {xs:List SV} {ob:Prop} {ps:List PV},zI5 A ts xs=some (ob,ps)→ob→zL B X F A β ϕ w→SV.oks β xs→zAX A (zAK xs)=true→zLw A ts xs→zBk ts →
  zIo w ts ps (SV.vals β xs) ((zHM ts xs).map ϕ).flatten
 | [],[],ob,ps,h,hob,hp,hk,ho,ha,hT=>by cases h;exact .nil
 | [],x :: xs,ob,ps,h,hob,hp,hk,ho,ha,hT=>by cases h
 | t :: ts,[],ob,ps,h,hob,hp,hk,ho,ha,hT=>by cases h
 | t :: ts,x :: xs,ob,ps,h,hob,hp,hk,ho,ha,hT=>by
  simp only[zI5] at h
  split at h
  ·rename_i o1 p o2 qs h1 h2
   cases h
   obtain⟨hT1,hT2⟩:=zI4 hT
   simp only[zAK,zAy] at ho
   simp only[zHM,List.map_append,List.flatten_append,SV.vals]
   exact .cons (zNV h1 hob.1 hp hk.1 ho.1 ha.1 hT1) (zH5 h2 hob.2 hp hk.2 ho.2 ha.2 hT2)
  ·cases h
theorem zJ2:∀{ts:List PTy} {xs:List SV} {ob:Prop} {ps:List PV},zI5 A ts xs=some (ob,ps)→zL B X F A β ϕ w→zAX A (zAK xs)=true→zLw A ts xs→∀h∈zHM ts xs,zOi A ϕ h
 | [],[],ob,ps,hr,hp,ho,ha=>by simp[zHM]
 | [],x :: xs,ob,ps,hr,hp,ho,ha=>by cases hr
 | t :: ts,[],ob,ps,hr,hp,ho,ha=>by cases hr
 | t :: ts,x :: xs,ob,ps,hr,hp,ho,ha=>by
  simp only[zI5] at hr
  split at hr
  ·rename_i o1 p o2 qs h1 h2
   simp only[zAK,zAy] at ho
   intro h hh
   simp only[zHM,List.mem_append] at hh
   rcases hh with hh | hh
   ·have hs:h∈zW x.cells→zOi A ϕ h:=fun hm=>zHX hp (zAW.1 ho.1 h hm)
    have ha1:=ha.1
    unfold zOu at hh
    split at hh
    ·rename_i T i off
     simp only[List.mem_singleton] at hh
     subst hh
     simp only[zSN] at ha1
     split at ha1
     ·rename_i T' es hA
      exact⟨_,hA,by simp,rfl,zAC.nd (hp.sat _ _ hA),rfl⟩
     ·exact ha1.elim
    ·exact hs hh
   ·exact zJ2 h2 hp ho.2 ha.2 h hh
  ·cases hr
theorem zRb.arg{t:PTy}{p:PV}{v:Value}{f:List Nat}(h:zLS w t p v f)(ht:(∃ts,t=.agg ts)∨∃T,t=.list T):zNG w t p v f:=by
 rcases ht with ⟨ts,rfl⟩ | ⟨T,rfl⟩
 ·exact h
 ·obtain⟨fs,hL,rfl⟩:=h
  cases hL with
  | list hO hr=>cases hr;exact⟨_,rfl,by simpa using hO⟩
theorem zD0:∀{l:List PTy} {i:Nat} {cs:List SV} {o:Prop} {ps:List PV} {cs0:List Value},zFk l i cs=some (o,ps)→o→zDo β l i cs0→cs0.length=l.length→SV.oks β cs→KpS l ps cs0 (SV.vals β cs)
 | [],i,cs,o,ps,cs0,h,ho,hk,hl,hok=>by
  cases cs with
  | nil=>cases h;cases cs0<;>first | exact .nil | (simp at hl)
  | cons c cs=>cases h
 | t :: ts,i,cs,o,ps,[],h,ho,hk,hl,hok=>by simp at hl
 | t :: ts,i,[],o,ps,c0 :: cs0,h,ho,hk,hl,hok=>by cases t<;>cases h
 | t :: ts,i,c :: cs,o,ps,c0 :: cs0,h,ho,hk,hl,hok=>by
  have hl':cs0.length=ts.length:=by simpa using hl
  cases t with
  | int k=>
   cases c<;>simp only[zFk,reduceCtorEq] at h
   split at h
   ·rename_i o1 ps1 h1
    simp only[Option.some.injEq,Prod.mk.injEq] at h
    obtain⟨rfl,rfl⟩:=h
    obtain⟨rfl,ho⟩:=ho
    exact .int hok.1 (zD0 h1 ho hk hl' hok.2)
   ·cases h
  | bool=>
   cases c<;>simp only[zFk,reduceCtorEq] at h
   split at h
   ·rename_i o1 ps1 h1
    simp only[Option.some.injEq,Prod.mk.injEq] at h
    obtain⟨rfl,rfl⟩:=h
    exact .bool (zD0 h1 ho hk hl' hok.2)
   ·cases h
  | str=>
   cases c<;>simp only[zFk,reduceCtorEq] at h
   split at h
   ·rename_i o1 ps1 h1
    simp only[Option.some.injEq,Prod.mk.injEq] at h
    obtain⟨rfl,rfl⟩:=h
    exact .str hok.1 (zD0 h1 ho hk hl' hok.2)
   ·cases h
  | list T=>
   cases c<;>simp only[zFk,reduceCtorEq] at h
   split at h
   ·rename_i o1 ps1 h1
    simp only[Option.some.injEq,Prod.mk.injEq] at h
    obtain⟨rfl,rfl⟩:=h
    obtain⟨rfl,ho⟩:=ho
    obtain⟨rfl,hk⟩:=hk
    exact .list (zD0 h1 ho hk hl' hok.2)
   ·cases h
  | _=>cases h
theorem zBQ{w':World}:∀{ts:List (Md × PTy)} {xs:List SV} {ob:Prop} {ps:List PV},zBs A ts xs=some (ob,ps)→ob→zL B X F A β ϕ w→SV.oks β xs→(∀i o t cs,lk A i=some (.box o t cs)→SV.oks β cs)→zAX A (zD7 A ts xs)=true→zNh ts→zLW w' β ts xs →
  zHm w' w ts ps (SV.vals β xs) ((zHo A ts xs).map ϕ).flatten∧∀h∈zHo A ts xs,zOi A ϕ h
 | [],[],ob,ps,h,hob,hp,hk,hbx,ho,hT,hX=>by cases h;exact⟨.nil,by simp[zHo]⟩
 | [],x :: xs,ob,ps,h,hob,hp,hk,hbx,ho,hT,hX=>by cases h
 | (m,t) :: ts,[],ob,ps,h,hob,hp,hk,hbx,ho,hT,hX=>by cases m<;>(try cases h)<;>cases t<;>cases h
 | (m,t) :: ts,x :: xs,ob,ps,h,hob,hp,hk,hbx,ho,hT,hX=>by
  cases m with
  | rd=>
   obtain⟨r1,r2⟩:=zBQ (ts:=ts) (xs:=xs) h hob hp hk.2 hbx ho (by cases t<;>exact hT) hX
   exact⟨.rd r1,r2⟩
  | ow=>
   obtain⟨r1,r2⟩:=zBQ (ts:=ts) (xs:=xs) h hob hp hk.2 hbx ho (by cases t<;>exact hT) hX
   exact⟨.ow r1,r2⟩
  | bx=>
   have hT2:zNh ts:=by cases t<;>exact hT
   cases t with
   | box l=>
    cases x with
    | ptr i off=>
     cases off with
     | zero=>
      simp only[zBs] at h
      split at h
      case h_2=>cases h
      rename_i tt cs hA
      split at h
      case h_2=>cases h
      rename_i o1 p o2 qs h1 h2
      simp only[Option.some.injEq,Prod.mk.injEq] at h
      obtain⟨rfl,rfl⟩:=h
      simp only[zD7,zOC,hA,zAy] at ho
      obtain⟨r1,r2⟩:=zBQ h2 hob.2 hp hk.2 hbx ho.2 hT2 hX.2
      obtain⟨b,t',hb,hϕ,hblk⟩:=hp.sat _ _ hA
      obtain⟨b2,t2,cs0,hb2,hblk2,hl0⟩:=hX.1
      have:b2=b:=by
       rw[hb] at hb2;simp only[Value.pointer.injEq,Option.some.injEq,Addr.mk.injEq] at hb2;exact hb2.1.symm
      subst this
      have hLo:LoD w l p (SV.vals β cs) (zEi ϕ cs):=yx h1 hob.1.1 (hbx _ _ _ _ hA) fun h hh o T es p' hA'=>by
       obtain⟨T',es',p2,e⟩:=zCq.1 (zAW.1 ho.1 h hh)
       rw[e] at hA';cases hA'
       exact hp.sat _ _ e
      constructor
      ·have hx:OutX w' w (.box l) (.agg p) (SV.val β (.ptr i 0)) (b2 :: (zEi ϕ cs).flatten):=
        ⟨p,cs0,SV.vals β cs,zEi ϕ cs,b2,t2,t',(β i).pre,(β i).post,rfl,by simp[SV.val,hb],hblk2,hl0,hblk,hLo,rfl⟩
       have:=zHm.bx hx r1
       simp only[zHo,zOC,hA,List.map_append,List.map_cons,List.flatten_append,List.flatten_cons,hϕ,←y8,List.cons_append,List.append_assoc,List.nil_append,SV.vals] at this ⊢
       exact this
      ·intro h hh
       simp only[zHo,zOC,hA,List.mem_cons,List.mem_append] at hh
       rcases hh with rfl | hh | hh
       ·exact⟨_,hA,by simp,rfl,by rw[hϕ];simp,rfl⟩
       ·exact zHX hp (zAW.1 ho.1 h hh)
       ·exact r2 h hh
     | succ n=>simp[zBs] at h
    | _=>simp[zBs] at h
   | abx T=>
    cases x with
    | ptr i off=>
     cases off with
     | zero=>
      simp only[zBs] at h
      split at h
      case h_2=>cases h
      rename_i T' es hA
      split at h
      case h_2=>cases h
      rename_i o2 qs h2
      simp only[Option.some.injEq,Prod.mk.injEq] at h
      obtain⟨rfl,rfl⟩:=h
      simp only[zD7,zOC,hA,zW,List.nil_append] at ho
      obtain⟨r1,r2⟩:=zBQ h2 hob.2 hp hk.2 hbx ho hT2 hX.2
      have:=hob.1
      subst this
      have hab:zAC w T' es (β i).v (ϕ i):=hp.sat _ _ hA
      obtain⟨b,hv⟩:=hab.ptr
      have hvv:SV.val β (.ptr i 0)=(β i).v:=by simp[SV.val,hv]
      constructor
      ·have hx:OutX w' w (.abx T') (.list es) (SV.val β (.ptr i 0)) (ϕ i):=⟨es,rfl,by rw[hvv];exact hab⟩
       have:=zHm.bx hx r1
       simp only[zHo,zOC,hA,zW,List.map_cons,List.flatten_cons,List.nil_append,SV.vals] at this ⊢
       exact this
      ·intro h hh
       simp only[zHo,zOC,hA,zW,List.nil_append,List.mem_cons] at hh
       rcases hh with rfl | hh
       ·exact⟨_,hA,by simp,rfl,hab.nd,rfl⟩
       ·exact r2 h hh
     | succ n=>simp[zBs] at h
    | _=>simp[zBs] at h
   | _=>cases x<;>simp[zBs] at h
  | bs=>
   have hT2:zNh ts:=by cases t<;>exact hT
   cases t with
   | box l=>
    cases x with
    | ptr i off=>
     cases off with
     | zero=>
      simp only[zBs] at h
      split at h
      case h_2=>cases h
      rename_i tt cs hA
      split at h
      case h_2=>cases h
      rename_i o1 p o2 qs h1 h2
      simp only[Option.some.injEq,Prod.mk.injEq] at h
      obtain⟨rfl,rfl⟩:=h
      obtain⟨r1,r2⟩:=zBQ h2 hob.2 hp hk.2 hbx ho hT2 hX.2
      obtain⟨b,t',hb,hϕ,hblk⟩:=hp.sat _ _ hA
      obtain⟨b2,t2,cs0,hb2,hblk2,hl0,_,hkp⟩:=hX.1
      have:b2=b:=by
       rw[hb] at hb2;simp only[Value.pointer.injEq,Option.some.injEq,Addr.mk.injEq] at hb2;exact hb2.1.symm
      subst this
      have hKp:=zD0 h1 hob.1.1 hkp hl0 (hbx _ _ _ _ hA)
      constructor
      ·have hx:OutS w' w (.box l) (.agg p) (SV.val β (.ptr i 0)) b2:=
        ⟨p,cs0,SV.vals β cs,t2,t',(β i).pre,(β i).post,rfl,by simp[SV.val,hb],hblk2,hl0,hblk,hKp⟩
       have:=zHm.bs hx r1
       simp only[zHo,List.map_cons,List.flatten_cons,hϕ,List.cons_append,List.nil_append,SV.vals] at this ⊢
       exact this
      ·intro h hh
       simp only[zHo,List.mem_cons] at hh
       rcases hh with rfl | hh
       ·exact⟨_,hA,by simp,rfl,by rw[hϕ];simp,rfl⟩
       ·exact r2 h hh
     | succ n=>simp[zBs] at h
    | _=>simp[zBs] at h
   | _=>cases x<;>simp[zBs] at h
  | mt=>
   simp only[zBs] at h
   split at h
   ·rename_i o1 p o2 qs h1 h2
    cases h
    simp only[zD7,zAy] at ho
    have ht:(∃ts,t=.agg ts)∨∃T,t=.list T:=by cases t<;>first | exact hT.elim | exact .inl ⟨_,rfl⟩ | exact .inr ⟨_,rfl⟩
    have hT1:zDa [t]:=by rcases ht with ⟨ts,rfl⟩ | ⟨T,rfl⟩<;>trivial
    have hT2:zNh ts:=by cases t<;>first | exact hT.elim | exact hT
    obtain⟨r1,r2⟩:=zBQ h2 hob.2 hp hk.2 hbx ho.2 hT2 hX
    constructor
    ·simp only[zHo,List.map_append,List.flatten_append,SV.vals]
     exact .mt (zRb.arg (zH9 h1 hob.1 hp hk.1 ho.1 hT1) ht) r1
    ·intro h hh
     simp only[zHo,List.mem_append] at hh
     rcases hh with hh | hh
     ·exact zHX hp (zAW.1 ho.1 h hh)
     ·exact r2 h hh
   ·cases h
theorem zNX{T:PTy}{x:SV}{ob:Prop}{p:PV}(h:yJ A T x=some (ob,p))(hob:ob)(hp:zL B X F A β ϕ w)(hk:SV.ok β x)(hT:zDa [T]) :
  ∃f,RetN w T p (SV.val β x) f∧∀b∈f,b∈F∨B≤b:=by
 have lists:∀{us:List PTy} {ys:List SV} {o:Prop} {rs:List PV},zv A us ys=some (o,rs)→o→SV.oks β ys→∃f,Lv w us rs (SV.vals β ys) f∧∀b∈f,b∈F∨B≤b:=by
  intro us ys o rs q1 q2 q3
  obtain⟨f,q4,q5⟩:=zAk q1 q2 hp q3
  refine⟨f,q4,fun b hb=>?_⟩
  obtain⟨i,hi,hl,e1,e2,e3⟩:=q5 b hb
  obtain⟨hl',e4,e5⟩:=zDz q1 i hi
  rw[e1] at e4;cases e4
  exact hp.all i hl e1 e5.isA b e3
 have leaf:∀(h':yS A T x=some (ob,p)),∃f,Lv w [T] [p] [SV.val β x] f∧∀b∈f,b∈F∨B≤b:=fun h'=>
  lists (us:=[T]) (ys:=[x]) (o:=ob∧True) (rs:=[p]) (by simp[zv,h']) ⟨hob,trivial⟩ ⟨hk,trivial⟩
 cases T with
 | agg ts=>
  cases x with
  | agg xs=>
   simp only[yJ] at h
   split at h
   ·rename_i o ps hps
    simp only[Option.some.injEq,Prod.mk.injEq] at h
    obtain⟨rfl,rfl⟩:=h
    obtain⟨f,q1,q2⟩:=lists hps hob hk
    exact⟨f,⟨ps,_,rfl,rfl,q1⟩,q2⟩
   ·cases h
  | _=>simp[yJ,yS] at h
 | box ts=>exact hT.elim
 | abx t=>exact hT.elim
 | fn g ts=>exact hT.elim
 | opq=>exact hT.elim
 | int k=>cases x<;>first | (simp[yJ,yS] at h;done) | exact leaf (by simpa[yJ] using h)
 | bool=>cases x<;>first | (simp[yJ,yS] at h;done) | exact leaf (by simpa[yJ] using h)
 | str=>cases x<;>first | (simp[yJ,yS] at h;done) | exact leaf (by simpa[yJ] using h)
 | list T=>cases x<;>first | (simp[yJ,yS] at h;done) | exact leaf (by simpa[yJ] using h)
theorem zH7:∀{ts:List PTy} {xs:List SV} {ob:Prop} {ps:List PV},zFn A ts xs=some (ob,ps)→ob→zL B X F A β ϕ w→SV.oks β xs→zDa ts →
  ∃f,zLT w ts ps (SV.vals β xs) f∧∀b∈f,b∈F∨B≤b
 | [],[],ob,ps,h,hob,hp,hk,hT=>by cases h;exact⟨[],.nil,by simp⟩
 | [],x :: xs,ob,ps,h,hob,hp,hk,hT=>by cases h
 | t :: ts,[],ob,ps,h,hob,hp,hk,hT=>by cases h
 | t :: ts,x :: xs,ob,ps,h,hob,hp,hk,hT=>by
  simp only[zFn] at h
  split at h
  ·rename_i o1 p o2 qs h1 h2
   cases h
   obtain⟨hT1,hT2⟩:=zKt hT
   obtain⟨f,q1,q2⟩:=zNX h1 hob.1 hp hk.1 hT1
   obtain⟨g,q3,q4⟩:=zH7 h2 hob.2 hp hk.2 hT2
   exact⟨f++g,.cons q1 q3,fun b hb=>(List.mem_append.1 hb).elim (q2 b) (q4 b)⟩
  ·cases h
theorem zD8(hE:zAQ P E)(sat:Sat N w0 X F S β ϕ a w)(g:ResultVar→Sem Value)(hg:∀t,g (.tmp t)=pure (a.tmps.getD t undef))(hc:∀t ty,g (.cell t ty)=asAddr (a.tmps.getD t undef) >>= fun x=>loadVar ty x) :
  ∀{outs:List ResultVar} {xs:List SV},zHW E S outs=some xs→(outs.mapM g).run P w=.ok (SV.vals β xs) w∧SV.oks β xs∧SV.lts S.n xs∧xs.length=outs.length
 | [],xs,h=>by cases h;exact⟨rfl,trivial,trivial,rfl⟩
 | .tmp t :: ts,xs,h=>by
  simp only[zHW] at h
  split at h
  ·rename_i x ys hx hy
   cases h
   obtain⟨h1,h2,h3,h4⟩:=zD8 hE sat g hg hc hy
   obtain⟨q1,q2,q3⟩:=sat.lp t x hx
   refine⟨?_,⟨q3,h2⟩,⟨q2,h3⟩,by simp[h4]⟩
   simp only[List.mapM_cons,Sem.run_bind,Sem.run_pure,Result.andThen_ok,h1,hg,SV.vals,Array.getD_eq_getD_getElem?,q1,Option.getD_some]
  ·cases h
 | .cell t ty :: ts,xs,h=>by
  simp only[zHW] at h
  split at h
  ·rename_i i ys hx hy
   split at h
   ·rename_i ow bt cs ti hl hti
    split at h
    ·rename_i hcond
     cases h
     simp only[Bool.and_eq_true,beq_iff_eq] at hcond
     obtain⟨hA,hlen⟩:=hcond
     obtain⟨h1,h2,h3,h4⟩:=zD8 hE sat g hg hc hy
     obtain⟨q1,q2,b,oo,hb⟩:=sat.lp t _ hx
     obtain⟨b',bt',hb',hϕ,hold⟩:=sat.hp.sat _ _ hl
     rw[hb] at hb'
     simp only[Value.pointer.injEq,Option.some.injEq,Addr.mk.injEq,and_true] at hb'
     obtain⟨rfl,rfl⟩:=hb'
     simp only[SV.val,hb,Nat.add_zero] at q1
     obtain⟨k1,k2⟩:=(sat.hb _ _ hl).2
     have hag:=zBz (hE _ _ hti)
     have hsz:=yZ (hE _ _ hti)
     have hcl:(SV.vals β cs).length=cs.length:=by simp[SV.vals_map]
     have hlc:=yA (P:=P) b ((β i).pre.length+0) ti.sz _ bt' (0,0) hold (by simp[hcl,hlen])
     rw[List.toList_toArray,zKD _ _ _ (by rw[hcl];omega)] at hlc
     have hall:((SV.vals β cs).drop 0).take ti.sz=SV.vals β cs:=by
      rw[List.drop_zero,List.take_of_length_le (by simp[SV.vals_map,hlen])]
     simp only[hall,Nat.add_zero] at hlc
     refine⟨?_,⟨k2,h2⟩,⟨k1,h3⟩,by simp[h4]⟩
     simp only[List.mapM_cons,Sem.run_bind,Sem.run_pure,Result.andThen_ok,h1,hc,SV.vals,SV.val,Array.getD_eq_getD_getElem?,q1,Option.getD_some,asAddr,loadVar,hag,hsz,hA,if_true,hlc]
    ·cases h
   ·cases h
  ·cases h
theorem zDb{fn:Func}{outs:List ResultVar}(h:fn.results=outs.toArray)(tmps:Array Value)(w:World)(g:ResultVar→Sem Value)(hg:∀t,g (.tmp t)=pure (tmps.getD t undef))(hc:∀t ty,g (.cell t ty)=asAddr (tmps.getD t undef) >>= fun x=>loadVar ty x)
  {vs:List Value} (hv:(outs.mapM g).run P w=.ok vs w) (hlen:vs.length=outs.length):(results fn tmps).run P w=.ok (zKv vs) w:=by
 have hgg:∀g':ResultVar→Sem Value,(∀t,g' (.tmp t)=pure (tmps.getD t undef))→(∀t ty,g' (.cell t ty)=asAddr (tmps.getD t undef) >>= fun x=>loadVar ty x)→outs.mapM g'=outs.mapM g:=by
  intro g' h1 h2
  have:g'=g:=by
   funext r
   cases r with
   | tmp t=>rw[h1,hg]
   | cell a t=>rw[h2,hc]
  rw[this]
 unfold results
 rw[h,List.mapM_toArray]
 simp only[Sem.run_bind,Sem.run_map,Result.andThen_ok]
 rw[hgg _ (fun _=>rfl) (fun _ _=>rfl),hv]
 simp only[Result.andThen_ok,Sem.run_pure]
 match vs with
 | []=>rfl
 | [x]=>rfl
 | x :: y :: l=>simp[zKv]
theorem zFz:∀{xs:List SV} {i t:Nat} {v:SV},lk (zNd i xs) t=some v→i≤t∧xs[t - i]?=some v
 | [],i,t,v,h=>by cases h
 | x :: xs,i,t,v,h=>by
  simp only[zNd,lk] at h
  split at h
  ·rename_i e;subst e;cases h;simp
  ·rename_i e
   obtain⟨h1,h2⟩:=zFz h
   refine⟨by omega,?_⟩
   rw[show t - i=(t - (i+1))+1 by omega]
   simpa using h2
theorem zAB.lens{ts:List (Md × PTy)}{ps:List PV}{vs:List Value}{f fl ms:List Nat}(h:zAB w ts ps vs f fl ms):ts.length=vs.length:=by
 induction h with
 | nil=>rfl
 | rd _ _ ih=>simp[ih]
 | mt _ _ ih=>simp[ih]
 | ow _ _ ih=>simp[ih]
 | bx _ _ ih=>simp[ih]
 | bs _ _ ih=>simp[ih]
theorem zAB.rdms{ts:List (Md × PTy)}{ps:List PV}{vs:List Value}{f fl ms:List Nat}(h:zAB w ts ps vs f fl ms)(hr:zAr ts=true):ms=[]:=by
 induction h with
 | nil=>rfl
 | rd _ _ ih=>exact ih hr
 | mt _ _ _=>simp[zAr] at hr
 | ow _ _ _=>simp[zAr] at hr
 | bx _ _ _=>simp[zAr] at hr
 | bs _ _ _=>simp[zAr] at hr
theorem zJA{fid:FuncId}{fn:Func}{c:Code}{s:zS}{keep:List Nat}{outs:List ResultVar}(G:(List KI→St→Prop)→Prop)(hG:∀C:Cx,C.Ok→C.P=P→C.N=fn.ntmps→C.keep=keep→G (WP C))(hE:zCH P E)(hm:P.follows .mixedOrders=true)(hf:P.funcs[fid]?=some fn)(hb:fn.body=some c)
  (hr:fn.results=outs.toArray) (hp:s.args.length≤fn.ntmps) (hkeep:∀i,i < s.args.length→keep.contains i=true)
  (h:∀ps,TyA s.args ps→s.pre ps→∀W,zIm E fn.ntmps keep (zd 0 s.args ps).2.2 (zLM E outs s (zd 0 s.args ps).1 ps) W→G W →
   W [.code c] ⟨zNd 0 (zd 0 s.args ps).1,[],(zd 0 s.args ps).2.1,(zd 0 s.args ps).2.2⟩):zJp P fid s:=by
 intro w ps vs fs fl ms hA hnd hdis hpre hgl
 have h0:zL w.heap.size ms (fl++ms) [] (fun _=>⟨Value.bool false,[],[]⟩) (fun _=>[]) w:=
  ⟨fun _=>rfl,fun _ _ h=>(by cases h),fun _ _ h=>(by cases h),fun _ _ h=>(by cases h),fun _ _ h=>(by cases h),fun _ _ _ _ h=>(by cases h),fun _ _ h=>(by cases h),fun _ _ h=>(by cases h)⟩
 obtain⟨β,ϕ,⟨e1,e2,e3,e4,e5,e6,e7,e8,e9⟩,hold⟩:=zEC s.args ps vs fs fl ms 0 [] _ _ hA h0 (fun i hl h=>(by cases h)) rfl (fun b hb hm=>hdis b hm hb) (fun b hb=>by simp[hb]) (fun b hb=>⟨hb,by simp[hb]⟩) hnd (fun i hl h=>(by cases h))
 have hlen:=hA.lens
 have hlen2:(zd 0 s.args ps).1.length=vs.length:=by rw[←e5,SV.vals_map];simp
 let fin:=zLM E outs s (zd 0 s.args ps).1 ps
 let Rr:Ending→World→Prop:=fun e w'=>∃rvs,e=.returned (zKv rvs)∧Done w s ps vs fl ms rvs w'
 let C:Cx:=⟨P,E,fn.ntmps,w,ms,fl++ms,keep,(zd 0 s.args ps).2.2,β,bodyPost P fn Rr,fin⟩
 have hfin:∀S a w',At C S a w'→fin S→a.defers=[]∧∃v,(results fn a.tmps).run P w'=.ok v w'∧Rr (.returned v) w':=by
  intro S a w' hat hS
  obtain⟨kp,hn,β1,ϕ1,sat,hsame⟩:=hat
  unfold fin zLM at hS
  split at hS
  ·exact hS.elim
  ·rename_i xs hxs
   let g:ResultVar→Sem Value:=fun r=>match r with | .tmp t=>pure (a.tmps.getD t undef) | .cell t ty=>asAddr (a.tmps.getD t undef) >>= fun x=>loadVar ty x
   obtain⟨v1,v2,v3,v4⟩:=zD8 hE.ty sat g (fun _=>rfl) (fun _ _=>rfl) hxs
   refine⟨sat.df,_,zDb hr a.tmps w' g (fun _=>rfl) (fun _ _=>rfl) v1 (by simp[SV.vals_map,v4]),_,rfl,sat.fr,?_⟩
   have hsame1:SV.vals β1 (zd 0 s.args ps).1=vs:=by
    rw[SV.vals_congr (fun k hk=>hsame k hk) _ e6];exact e5
   have hok1:SV.oks β1 (zd 0 s.args ps).1:=SV.oks_congr (fun k hk=>hsame k hk) _ e6 e7
   cases hfs:s.fresh with
   | true=>
    rw[hfs] at hS
    simp only[if_true] at hS
    obtain⟨hret,f0,f1,f2⟩:=hS
    obtain⟨ϕ2,p1,p2,_⟩:=zCQ (zAK xs++zD7 S.A s.args (zd 0 s.args ps).1) sat.hp sat.hb
    unfold zPy at f2
    split at f2
    ·rename_i o rs o' qs hrs hqs
     obtain⟨g1,g2,g3,g4,g5,g8⟩:=f2
     obtain⟨g6,g7⟩:=zAy.1 g5
     have hR:=zH5 hrs g1 p1 v2 g6 g8 hret
     obtain⟨hO,hLt⟩:=zBQ (w':=w) hqs g3 p1 hok1 (fun i o t cs hi=>(p2 _ _ hi).2.2) g7 f0 (hold.congr hsame e6)
     rw[hsame1,g4] at hO
     rw[g2] at hR
     have hLents:∀h∈zHM s.ret xs++zHo (yv S.A (zAK xs++zD7 S.A s.args (zd 0 s.args ps).1)) s.args (zd 0 s.args ps).1,zOi (yv S.A (zAK xs++zD7 S.A s.args (zd 0 s.args ps).1)) ϕ2 h:=by
      intro h hh
      rcases List.mem_append.1 hh with hh | hh
      ·exact zJ2 hrs p1 g6 g8 h hh
      ·exact hLt h hh
     refine .inl ⟨rfl,_,_,hR,hO,?_,?_⟩
     ·rw[←List.flatten_append,←List.map_append]
      exact zF1 p1 hLents (zHT.1 f1)
     ·rw[←List.flatten_append,←List.map_append]
      intro b hb
      obtain⟨i,hi,hl,e1,e2⟩:=zD9 hLents b hb
      exact p1.own i _ e1 b e2
    ·exact f2.elim
   | false=>
    rw[hfs] at hS
    simp only[Bool.false_eq_true,if_false] at hS
    obtain⟨hret,f1,f2⟩:=hS
    split at f2
    ·rename_i o rs hrs
     obtain⟨g1,g2⟩:=f2
     obtain⟨f,q1,q2⟩:=zH7 hrs g1 sat.hp v2 hret
     rw[g2] at q1
     have hms:=hA.rdms f1
     refine .inr ⟨rfl,f1,f,q1,fun b hb=>?_⟩
     have:=q2 b hb
     have hF:C.F=fl++ms:=rfl
     rw[hF,hms,List.append_nil] at this
     exact this
    ·exact f2.elim
 have hC:C.Ok:=⟨hE,hm,fun S a w' hat hS=>⟨hfin S a w' hat hS,hfin S a w' hat hS⟩,fun c a d v w h=>⟨by have h1:=h.1;cases d<;>exact h1,h.2⟩⟩
 refine calls_of_wp hf hb ?_
 have hW:=h ps hA.ty hpre (WP C) (zHK hC) (hG C hC rfl rfl rfl)
 refine hW _ w ⟨⟨?_,fun t x h=>(by cases h)⟩,Nat.le_refl _,β,ϕ,⟨rfl,?_,?_,fun t g v h=>(by cases h),by simpa using e1,(by simpa using e2:Bd _ _ _),Fr.refl _ _,hgl⟩,fun h _=>rfl⟩
 ·intro t v ht
  obtain⟨h1,h2⟩:=zFz ht
  obtain⟨h3,_⟩:=List.getElem?_eq_some_iff.1 h2
  exact hkeep t (by simp only[Nat.sub_zero] at h3;omega)
 ·show(vs.toArray++Array.replicate (fn.ntmps - vs.toArray.size) undef).size=fn.ntmps
  simp;omega
 ·intro t v ht
  obtain⟨_,h2⟩:=zFz ht
  simp only[Nat.sub_zero] at h2
  have hm1:=List.mem_of_getElem? h2
  refine⟨?_,SV.lts_iff.1 e6 v hm1,SV.oks_iff.1 e7 v hm1⟩
  obtain⟨h3,_⟩:=List.getElem?_eq_some_iff.1 h2
  show(vs.toArray++Array.replicate (fn.ntmps - vs.toArray.size) undef)[t]?=_
  rw[Array.getElem?_append_left (by simp;omega)]
  rw[←e5,SV.vals_map]
  simp[h2]
end
def zMj:TypeDesc→List (Nat × Nat)
 | .struct fs=>fs.toList.map fun f=>(f.offset,f.type)
 | _=>[]
def aggOf:TypeDesc→Bool
 | .struct _=>true
 | .array _ _=>true
 | _=>false
def lfB:PTy→Bool
 | .agg _=>false
 | .fn _ _=>false
 | _=>true
theorem zN{P:Program}{t:TypeId}{ti:TI}{i:TypeInfo}{z:Value}(h1:P.underlying t=some ti.d)(h2:P.info? t=some i)(h3:i.size=ti.sz)(h4:i.bytes=ti.bytes)(h5:i.zero=some z)
  (h6:z.cells=(ti.leaves.map zCZ).toArray) (h7:ti.agg=aggOf ti.d) (h8:ti.flds=zMj ti.d) (h9:(ti.flds.all fun f=>(P.info? f.2).isSome)=true) (h10:0 < ti.sz) (h11:0 < ti.bytes) (h12:ti.agg=false→ti.sz=1)
  (h13:ti.leaves.all lfB=true) (h14:ti.eqb=true→P.stoodInHeld t=false∧P.eqGuardType P.depth t=false):yX P t ti:=by
 refine⟨h1,⟨i,h2,h3,h4,z,h5,h6⟩,?_,?_,?_,h10,h11,h12,fun t ht=>?_,fun t ht f l e=>?_,h14⟩
 ·rw[h7];cases ti.d<;>rfl
 ·intro f off ft hf
  rw[h8] at hf
  cases hd:ti.d<;>rw[hd] at hf<;>simp only[zMj,List.getElem?_nil,reduceCtorEq] at hf
  rename_i fs
  simp only[List.getElem?_map,Option.map_eq_some_iff,Array.getElem?_toList,Prod.mk.injEq] at hf
  obtain⟨fd,h,h1,h2⟩:=hf
  exact⟨fs,fd,rfl,h,h1,h2⟩
 ·intro fs hd f hf
  rw[h8,hd] at h9
  have:=List.all_eq_true.1 h9 (f.offset,f.type) (by simp only[zMj,List.mem_map];exact⟨f,by simpa using hf,rfl⟩)
  exact Option.isSome_iff_exists.1 this
 ·have:=List.all_eq_true.1 h13 t ht
  cases t<;>first | rfl | (simp[lfB] at this)
 ·have:=List.all_eq_true.1 h13 t ht
  subst e
  simp[lfB] at this
def yQ(P:Program)(f:FuncId)(s:zS):Prop:=zJp P f s∧∃fn,P.funcs[f]?=some fn∧fn.body.isNone=false∧(fn.name == "runtime.NumGoroutine")=false
theorem zI{P:Program}{tab:List (Nat × TI)}(h:zAQ P ⟨tab,[]⟩):zCH P ⟨tab,[]⟩:=⟨h,fun f cs s h=>(by cases h)⟩
theorem zA{P:Program}{tab:List (Nat × TI)}{l:List ((Nat × List Nat) × zS)}{f:Nat}{cs:List Nat}{s:zS}(hf:yQ P f s)(h:zCH P ⟨tab,l⟩):zCH P ⟨tab,((f,cs),s) :: l⟩:=by
 refine⟨h.ty,fun g ds t hg=>?_⟩
 simp only[zDV] at hg
 split at hg
 ·rename_i e
  cases hg
  obtain⟨rfl,_⟩:=e
  exact hf
 ·exact h.fn g ds t hg
theorem zIY{P:Program}{E:Env}{fid:FuncId}{fn:Func}{c:Code}{s:zS}(keep:List Nat)(outs:List ResultVar)(G:(List KI→St→Prop)→Prop)(hG:∀C:Cx,C.Ok→C.P=P→C.N=fn.ntmps→C.keep=keep→G (WP C))(hE:zCH P E)(hm:P.follows .mixedOrders=true)(hf:P.funcs[fid]?=some fn)(hb:fn.body=some c)
  (hn:(fn.name == "runtime.NumGoroutine")=false) (hr:fn.results=outs.toArray) (hp:s.args.length≤fn.ntmps) (hkeep:(List.range s.args.length).all (keep.contains ·)=true)
  (h:∀ps,TyA s.args ps→s.pre ps→∀W,zIm E fn.ntmps keep (zd 0 s.args ps).2.2 (zLM E outs s (zd 0 s.args ps).1 ps) W→G W →
   W [.code c] ⟨zNd 0 (zd 0 s.args ps).1,[],(zd 0 s.args ps).2.1,(zd 0 s.args ps).2.2⟩):yQ P fid s:=
 ⟨zJA G hG hE hm hf hb hr hp (fun i hi=>List.all_eq_true.1 hkeep i (by simpa using hi)) h,fn,hf,by rw[hb];rfl,hn⟩
theorem zf{P:Program}{E:Env}{fid:FuncId}{fn:Func}{c:Code}{s:zS}(keep:List Nat)(outs:List ResultVar)(hE:zCH P E)(hm:P.follows .mixedOrders=true)(hf:P.funcs[fid]?=some fn)(hb:fn.body=some c)
  (hn:(fn.name == "runtime.NumGoroutine")=false) (hr:fn.results=outs.toArray) (hp:s.args.length≤fn.ntmps) (hkeep:(List.range s.args.length).all (keep.contains ·)=true)
  (h:∀ps,TyA s.args ps→s.pre ps→∀W,zIm E fn.ntmps keep (zd 0 s.args ps).2.2 (zLM E outs s (zd 0 s.args ps).1 ps) W →
   W [.code c] ⟨zNd 0 (zd 0 s.args ps).1,[],(zd 0 s.args ps).2.1,(zd 0 s.args ps).2.2⟩):yQ P fid s:=
 zIY keep outs (fun _=>True) (fun _ _ _ _ _=>trivial) hE hm hf hb hn hr hp hkeep fun ps h1 h2 W hW _=>h ps h1 h2 W hW
end
section
variable [zZ]
def nth(es:List PV)(i:Nat):PV:=es.getD i PV.d
theorem zNf(es:List PV)(i:Nat):es.getD i PV.d=nth es i:=rfl
theorem zE(a:PV)(l:List PV):nth (a :: l) 0=a:=rfl
theorem zG(a:PV)(l:List PV)(n:Nat):nth (a :: l) (n+1)=nth l n:=rfl
theorem yu(k:IntKind)(n:Int):(PV.int k n).I=n:=rfl
theorem zND(n:Bool):(PV.bool n).B=n:=rfl
theorem zE4(n:List UInt8):(PV.str n).S=n:=rfl
theorem zBf(n:List PV):(PV.list n).L=n:=rfl
theorem zBR(n:List PV):(PV.agg n).A=n:=rfl
theorem pv_at(p:PV)(i:Nat):p.at i=nth p.A i:=rfl
theorem zST(k:IntKind)(n:Int):(PV.int k n).leaves=[.int k n]:=rfl
theorem zPp(n:Bool):(PV.bool n).leaves=[.bool n]:=rfl
theorem zSS(n:List UInt8):(PV.str n).leaves=[.str n]:=rfl
theorem zPn(n:List PV):(PV.list n).leaves=[.list n]:=rfl
theorem zSU(n:List PV):(PV.agg n).leaves=n:=rfl
theorem zEv{es:List PV}{i:Nat}(h:i < es.length):nth es i=es[i]:=by simp[nth,h]
theorem yR{es:List PV}{i:Nat}(h:i < es.length):nth es i∈es:=by rw[zEv h];exact List.getElem_mem h
theorem zBE{es:List PV}{i:Nat}(h:i < es.length):es.drop i=nth es i :: es.drop (i+1):=by
 rw[zEv h];exact(List.drop_eq_getElem_cons h)
theorem zBh{es:List PV}{i:Nat}(h:i < es.length):es.take (i+1)=es.take i++[nth es i]:=by
 rw[zEv h];exact List.take_succ_eq_append_getElem h
theorem zC{n:Int}(h:-9223372036854775808≤n∧n≤9223372036854775807):IntKind.i64.wrap n=n:=by
 simp[IntKind.wrap,IntKind.signed,IntKind.bits];omega
theorem inR64{n:Int}:inR .i64 n↔-9223372036854775808≤n∧n≤9223372036854775807:=by
 simp[inR,IntKind.min,IntKind.max,IntKind.signed,IntKind.bits]
theorem limN:LIM=140737488355328:=rfl
end
section
variable [zZ]
noncomputable def T2:TI:=⟨false,[.int .i64],0,[],8,.int .i64,false⟩
theorem T2_ok:yX Tryz.prog 2 T2:=zN (i:=Tryz.t2) Tryz.underlying2 Tryz.type2 rfl rfl rfl rfl rfl rfl (by kernel_rfl) (by decide) (by decide) (by decide) rfl (fun h=>by cases h)
theorem T2_sz:T2.sz=1:=rfl
theorem zTv:T2.pty=.int .i64:=rfl
noncomputable def T3:TI:=⟨false,[.int .i64],0,[],8,.int .i64,false⟩
theorem T3_ok:yX Tryz.prog 3 T3:=zN (i:=Tryz.t3) Tryz.underlying3 Tryz.type3 rfl rfl rfl rfl rfl rfl (by kernel_rfl) (by decide) (by decide) (by decide) rfl (fun h=>by cases h)
theorem T3_sz:T3.sz=1:=rfl
theorem zTq:T3.pty=.int .i64:=rfl
noncomputable def T4:TI:=⟨false,[.bool],0,[],1,.bool,false⟩
theorem T4_ok:yX Tryz.prog 4 T4:=zN (i:=Tryz.t4) Tryz.underlying4 Tryz.type4 rfl rfl rfl rfl rfl rfl (by kernel_rfl) (by decide) (by decide) (by decide) rfl (fun h=>by cases h)
theorem T4_sz:T4.sz=1:=rfl
theorem zTn:T4.pty=.bool:=rfl
noncomputable def T5:TI:=⟨false,[.int .u8],0,[],1,.int .u8,false⟩
theorem T5_ok:yX Tryz.prog 5 T5:=zN (i:=Tryz.t5) Tryz.underlying5 Tryz.type5 rfl rfl rfl rfl rfl rfl (by kernel_rfl) (by decide) (by decide) (by decide) rfl (fun h=>by cases h)
theorem T5_sz:T5.sz=1:=rfl
theorem zTa:T5.pty=.int .u8:=rfl
noncomputable def T6:TI:=⟨false,[.int .u8],0,[],1,.int .u8,false⟩
theorem T6_ok:yX Tryz.prog 6 T6:=zN (i:=Tryz.t6) Tryz.underlying6 Tryz.type6 rfl rfl rfl rfl rfl rfl (by kernel_rfl) (by decide) (by decide) (by decide) rfl (fun h=>by cases h)
theorem T6_sz:T6.sz=1:=rfl
theorem zTR:T6.pty=.int .u8:=rfl
noncomputable def T7:TI:=⟨true,[.int .i64,.int .i64,.bool,.int .u8],0,[(0,2),(1,3),(2,4),(3,6)],24,.struct (match Tryz.t7.desc with | .struct fs=>fs | _=>#[]),true⟩
theorem T7_ok:yX Tryz.prog 7 T7:=zN (i:=Tryz.t7) Tryz.underlying7 Tryz.type7 rfl rfl rfl rfl rfl rfl (by kernel_rfl) (by decide) (by decide) (by decide) rfl (fun _=>⟨Tryz.stoodInHeld7,Tryz.eqGuardType7⟩)
theorem T7_sz:T7.sz=4:=rfl
theorem zTQ:T7.pty=.agg [.int .i64,.int .i64,.bool,.int .u8]:=rfl
noncomputable def T8:TI:=⟨true,[.int .i64,.int .i64,.bool,.int .u8],0,[(0,2),(1,3),(2,4),(3,6)],24,.struct (match Tryz.t7.desc with | .struct fs=>fs | _=>#[]),true⟩
theorem T8_ok:yX Tryz.prog 8 T8:=zN (i:=Tryz.t8) Tryz.underlying8 Tryz.type8 rfl rfl rfl rfl rfl rfl (by kernel_rfl) (by decide) (by decide) (by decide) rfl (fun _=>⟨Tryz.stoodInHeld8,Tryz.eqGuardType8⟩)
theorem T8_sz:T8.sz=4:=rfl
theorem zTL:T8.pty=.agg [.int .i64,.int .i64,.bool,.int .u8]:=rfl
noncomputable def T9:TI:=⟨false,[.str],0,[],16,.string,false⟩
theorem T9_ok:yX Tryz.prog 9 T9:=zN (i:=Tryz.t9) Tryz.underlying9 Tryz.type9 rfl rfl rfl rfl rfl rfl (by kernel_rfl) (by decide) (by decide) (by decide) rfl (fun h=>by cases h)
theorem T9_sz:T9.sz=1:=rfl
theorem zS8:T9.pty=.str:=rfl
noncomputable def T10:TI:=⟨false,[.str],0,[],16,.string,false⟩
theorem zUR:yX Tryz.prog 10 T10:=zN (i:=Tryz.t10) Tryz.underlying10 Tryz.type10 rfl rfl rfl rfl rfl rfl (by kernel_rfl) (by decide) (by decide) (by decide) rfl (fun h=>by cases h)
theorem zUQ:T10.sz=1:=rfl
theorem zRX:T10.pty=.str:=rfl
noncomputable def T11:TI:=⟨false,[.str],0,[],16,.string,false⟩
theorem zUP:yX Tryz.prog 11 T11:=zN (i:=Tryz.t11) Tryz.underlying11 Tryz.type11 rfl rfl rfl rfl rfl rfl (by kernel_rfl) (by decide) (by decide) (by decide) rfl (fun h=>by cases h)
theorem zUO:T11.sz=1:=rfl
theorem zRM:T11.pty=.str:=rfl
noncomputable def T12:TI:=⟨false,[.int .u64],0,[],8,.int .u64,false⟩
theorem zUN:yX Tryz.prog 12 T12:=zN (i:=Tryz.t12) Tryz.underlying12 Tryz.type12 rfl rfl rfl rfl rfl rfl (by kernel_rfl) (by decide) (by decide) (by decide) rfl (fun h=>by cases h)
theorem zUM:T12.sz=1:=rfl
theorem zRH:T12.pty=.int .u64:=rfl
noncomputable def T13:TI:=⟨true,[.str,.int .u64],0,[(0,9),(1,12)],24,.struct (match Tryz.t13.desc with | .struct fs=>fs | _=>#[]),false⟩
theorem zUL:yX Tryz.prog 13 T13:=zN (i:=Tryz.t13) Tryz.underlying13 Tryz.type13 rfl rfl rfl rfl rfl rfl (by kernel_rfl) (by decide) (by decide) (by decide) rfl (fun h=>by cases h)
theorem zUK:T13.sz=2:=rfl
theorem zQ6:T13.pty=.agg [.str,.int .u64]:=rfl
noncomputable def T14:TI:=⟨true,[.str,.int .u64],0,[(0,9),(1,12)],24,.struct (match Tryz.t13.desc with | .struct fs=>fs | _=>#[]),false⟩
theorem zUJ:yX Tryz.prog 14 T14:=zN (i:=Tryz.t14) Tryz.underlying14 Tryz.type14 rfl rfl rfl rfl rfl rfl (by kernel_rfl) (by decide) (by decide) (by decide) rfl (fun h=>by cases h)
theorem zUI:T14.sz=2:=rfl
theorem zQx:T14.pty=.agg [.str,.int .u64]:=rfl
noncomputable def T15:TI:=⟨false,[.opq],0,[],8,.pointer 138,false⟩
theorem zUH:yX Tryz.prog 15 T15:=zN (i:=Tryz.t15) Tryz.underlying15 Tryz.type15 rfl rfl rfl rfl rfl rfl (by kernel_rfl) (by decide) (by decide) (by decide) rfl (fun h=>by cases h)
theorem zUG:T15.sz=1:=rfl
theorem zQw:T15.pty=.opq:=rfl
noncomputable def T16:TI:=⟨false,[.opq],0,[],8,.pointer 141,false⟩
theorem zUF:yX Tryz.prog 16 T16:=zN (i:=Tryz.t16) Tryz.underlying16 Tryz.type16 rfl rfl rfl rfl rfl rfl (by kernel_rfl) (by decide) (by decide) (by decide) rfl (fun h=>by cases h)
theorem zUE:T16.sz=1:=rfl
theorem zQv:T16.pty=.opq:=rfl
noncomputable def T17:TI:=⟨false,[.opq],0,[],8,.pointer 148,false⟩
theorem zUD:yX Tryz.prog 17 T17:=zN (i:=Tryz.t17) Tryz.underlying17 Tryz.type17 rfl rfl rfl rfl rfl rfl (by kernel_rfl) (by decide) (by decide) (by decide) rfl (fun h=>by cases h)
theorem zUC:T17.sz=1:=rfl
theorem zQu:T17.pty=.opq:=rfl
noncomputable def T18:TI:=⟨true,[.opq],0,[(0,17)],8,.struct (match Tryz.t18.desc with | .struct fs=>fs | _=>#[]),false⟩
theorem zUB:yX Tryz.prog 18 T18:=zN (i:=Tryz.t18) Tryz.underlying18 Tryz.type18 rfl rfl rfl rfl rfl rfl (by kernel_rfl) (by decide) (by decide) (by decide) rfl (fun h=>by cases h)
theorem zUA:T18.sz=1:=rfl
theorem zQt:T18.pty=.agg [.opq]:=rfl
noncomputable def T19:TI:=⟨true,[.opq],0,[(0,17)],8,.struct (match Tryz.t18.desc with | .struct fs=>fs | _=>#[]),false⟩
theorem zT9:yX Tryz.prog 19 T19:=zN (i:=Tryz.t19) Tryz.underlying19 Tryz.type19 rfl rfl rfl rfl rfl rfl (by kernel_rfl) (by decide) (by decide) (by decide) rfl (fun h=>by cases h)
theorem zT8:T19.sz=1:=rfl
theorem zQs:T19.pty=.agg [.opq]:=rfl
noncomputable def T21:TI:=⟨false,[.int .i32],0,[],4,.int .i32,false⟩
theorem zT7:yX Tryz.prog 21 T21:=zN (i:=Tryz.t21) Tryz.underlying21 Tryz.type21 rfl rfl rfl rfl rfl rfl (by kernel_rfl) (by decide) (by decide) (by decide) rfl (fun h=>by cases h)
theorem zT6:T21.sz=1:=rfl
theorem zQr:T21.pty=.int .i32:=rfl
noncomputable def T22:TI:=⟨false,[.list (.int .u8)],5,[],24,.slice 5,false⟩
theorem zT5:yX Tryz.prog 22 T22:=zN (i:=Tryz.t22) Tryz.underlying22 Tryz.type22 rfl rfl rfl rfl rfl rfl (by kernel_rfl) (by decide) (by decide) (by decide) rfl (fun h=>by cases h)
theorem zT4:T22.sz=1:=rfl
theorem zQq:T22.pty=.list (.int .u8):=rfl
noncomputable def T24:TI:=⟨false,[.list (.str)],9,[],24,.slice 9,false⟩
theorem zT3:yX Tryz.prog 24 T24:=zN (i:=Tryz.t24) Tryz.underlying24 Tryz.type24 rfl rfl rfl rfl rfl rfl (by kernel_rfl) (by decide) (by decide) (by decide) rfl (fun h=>by cases h)
theorem zT2:T24.sz=1:=rfl
theorem zQp:T24.pty=.list (.str):=rfl
noncomputable def T26:TI:=⟨false,[.list (.agg [.int .i64,.str])],54,[],24,.slice 54,false⟩
theorem zT1:yX Tryz.prog 26 T26:=zN (i:=Tryz.t26) Tryz.underlying26 Tryz.type26 rfl rfl rfl rfl rfl rfl (by kernel_rfl) (by decide) (by decide) (by decide) rfl (fun h=>by cases h)
theorem zT0:T26.sz=1:=rfl
theorem zQo:T26.pty=.list (.agg [.int .i64,.str]):=rfl
noncomputable def T27:TI:=⟨true,[.int .i64,.int .i64,.bool,.int .i64,.int .i64,.list (.agg [.int .i64,.str])],0,[(0,3),(1,3),(2,4),(3,3),(4,3),(5,26)],64,.struct (match Tryz.t27.desc with | .struct fs=>fs | _=>#[]),false⟩
theorem zTz:yX Tryz.prog 27 T27:=zN (i:=Tryz.t27) Tryz.underlying27 Tryz.type27 rfl rfl rfl rfl rfl rfl (by kernel_rfl) (by decide) (by decide) (by decide) rfl (fun h=>by cases h)
theorem zTy:T27.sz=6:=rfl
theorem zQn:T27.pty=.agg [.int .i64,.int .i64,.bool,.int .i64,.int .i64,.list (.agg [.int .i64,.str])]:=rfl
noncomputable def T28:TI:=⟨true,[.int .i64,.int .i64,.bool,.int .i64,.int .i64,.list (.agg [.int .i64,.str])],0,[(0,3),(1,3),(2,4),(3,3),(4,3),(5,26)],64,.struct (match Tryz.t27.desc with | .struct fs=>fs | _=>#[]),false⟩
theorem zTx:yX Tryz.prog 28 T28:=zN (i:=Tryz.t28) Tryz.underlying28 Tryz.type28 rfl rfl rfl rfl rfl rfl (by kernel_rfl) (by decide) (by decide) (by decide) rfl (fun h=>by cases h)
theorem zTw:T28.sz=6:=rfl
theorem zQm:T28.pty=.agg [.int .i64,.int .i64,.bool,.int .i64,.int .i64,.list (.agg [.int .i64,.str])]:=rfl
noncomputable def T34:TI:=⟨true,[.int .i64,.int .i64,.int .i64,.list (.str)],0,[(0,3),(1,3),(2,3),(3,24)],48,.struct (match Tryz.t34.desc with | .struct fs=>fs | _=>#[]),false⟩
theorem zTu:yX Tryz.prog 34 T34:=zN (i:=Tryz.t34) Tryz.underlying34 Tryz.type34 rfl rfl rfl rfl rfl rfl (by kernel_rfl) (by decide) (by decide) (by decide) rfl (fun h=>by cases h)
theorem zTt:T34.sz=4:=rfl
theorem zQl:T34.pty=.agg [.int .i64,.int .i64,.int .i64,.list (.str)]:=rfl
noncomputable def T35:TI:=⟨true,[.int .i64,.int .i64,.int .i64,.list (.str)],0,[(0,3),(1,3),(2,3),(3,24)],48,.struct (match Tryz.t34.desc with | .struct fs=>fs | _=>#[]),false⟩
theorem zTs:yX Tryz.prog 35 T35:=zN (i:=Tryz.t35) Tryz.underlying35 Tryz.type35 rfl rfl rfl rfl rfl rfl (by kernel_rfl) (by decide) (by decide) (by decide) rfl (fun h=>by cases h)
theorem zTr:T35.sz=4:=rfl
theorem zQk:T35.pty=.agg [.int .i64,.int .i64,.int .i64,.list (.str)]:=rfl
noncomputable def T43:TI:=⟨false,[.opq],0,[],8,.pointer 57,false⟩
theorem zTp:yX Tryz.prog 43 T43:=zN (i:=Tryz.t43) Tryz.underlying43 Tryz.type43 rfl rfl rfl rfl rfl rfl (by kernel_rfl) (by decide) (by decide) (by decide) rfl (fun h=>by cases h)
theorem zTo:T43.sz=1:=rfl
theorem zQj:T43.pty=.opq:=rfl
noncomputable def T53:TI:=⟨true,[.int .i64,.str],0,[(0,3),(1,9)],24,.struct (match Tryz.t53.desc with | .struct fs=>fs | _=>#[]),true⟩
theorem zTm:yX Tryz.prog 53 T53:=zN (i:=Tryz.t53) Tryz.underlying53 Tryz.type53 rfl rfl rfl rfl rfl rfl (by kernel_rfl) (by decide) (by decide) (by decide) rfl (fun _=>⟨Tryz.stoodInHeld53,Tryz.eqGuardType53⟩)
theorem zTl:T53.sz=2:=rfl
theorem zQi:T53.pty=.agg [.int .i64,.str]:=rfl
noncomputable def T54:TI:=⟨true,[.int .i64,.str],0,[(0,3),(1,9)],24,.struct (match Tryz.t53.desc with | .struct fs=>fs | _=>#[]),true⟩
theorem zTk:yX Tryz.prog 54 T54:=zN (i:=Tryz.t54) Tryz.underlying54 Tryz.type54 rfl rfl rfl rfl rfl rfl (by kernel_rfl) (by decide) (by decide) (by decide) rfl (fun _=>⟨Tryz.stoodInHeld54,Tryz.eqGuardType54⟩)
theorem zTj:T54.sz=2:=rfl
theorem zQh:T54.pty=.agg [.int .i64,.str]:=rfl
noncomputable def T56:TI:=⟨true,[.list (.int .u8),.int .i64,.int .i64],0,[(0,22),(1,3),(2,3)],40,.struct (match Tryz.t56.desc with | .struct fs=>fs | _=>#[]),false⟩
theorem zTi:yX Tryz.prog 56 T56:=zN (i:=Tryz.t56) Tryz.underlying56 Tryz.type56 rfl rfl rfl rfl rfl rfl (by kernel_rfl) (by decide) (by decide) (by decide) rfl (fun h=>by cases h)
theorem zTh:T56.sz=3:=rfl
theorem zQg:T56.pty=.agg [.list (.int .u8),.int .i64,.int .i64]:=rfl
noncomputable def T57:TI:=⟨true,[.list (.int .u8),.int .i64,.int .i64],0,[(0,22),(1,3),(2,3)],40,.struct (match Tryz.t56.desc with | .struct fs=>fs | _=>#[]),false⟩
theorem zTg:yX Tryz.prog 57 T57:=zN (i:=Tryz.t57) Tryz.underlying57 Tryz.type57 rfl rfl rfl rfl rfl rfl (by kernel_rfl) (by decide) (by decide) (by decide) rfl (fun h=>by cases h)
theorem zTf:T57.sz=3:=rfl
theorem zQf:T57.pty=.agg [.list (.int .u8),.int .i64,.int .i64]:=rfl
noncomputable def T58:TI:=⟨false,[.list (.agg [.int .i64,.int .i64])],98,[],24,.slice 98,false⟩
theorem zTe:yX Tryz.prog 58 T58:=zN (i:=Tryz.t58) Tryz.underlying58 Tryz.type58 rfl rfl rfl rfl rfl rfl (by kernel_rfl) (by decide) (by decide) (by decide) rfl (fun h=>by cases h)
theorem zTd:T58.sz=1:=rfl
theorem zQe:T58.pty=.list (.agg [.int .i64,.int .i64]):=rfl
noncomputable def T59:TI:=⟨true,[.int .i64,.int .i64,.int .i64,.int .i64,.int .i64,.int .i64,.int .i64,.int .i64,.int .i64,.str,.list (.agg [.int .i64,.int .i64]),.list (.str)],0,[(0,3),(1,3),(2,3),(3,3),(4,3),(5,3),(6,3),(7,3),(8,3),(9,9),(10,58),(11,24)],136,.struct (match Tryz.t59.desc with | .struct fs=>fs | _=>#[]),false⟩
theorem zTc:yX Tryz.prog 59 T59:=zN (i:=Tryz.t59) Tryz.underlying59 Tryz.type59 rfl rfl rfl rfl rfl rfl (by kernel_rfl) (by decide) (by decide) (by decide) rfl (fun h=>by cases h)
theorem zTb:T59.sz=12:=rfl
theorem zQd:T59.pty=.agg [.int .i64,.int .i64,.int .i64,.int .i64,.int .i64,.int .i64,.int .i64,.int .i64,.int .i64,.str,.list (.agg [.int .i64,.int .i64]),.list (.str)]:=rfl
noncomputable def T60:TI:=⟨true,[.int .i64,.int .i64,.int .i64,.int .i64,.int .i64,.int .i64,.int .i64,.int .i64,.int .i64,.str,.list (.agg [.int .i64,.int .i64]),.list (.str)],0,[(0,3),(1,3),(2,3),(3,3),(4,3),(5,3),(6,3),(7,3),(8,3),(9,9),(10,58),(11,24)],136,.struct (match Tryz.t59.desc with | .struct fs=>fs | _=>#[]),false⟩
theorem zTZ:yX Tryz.prog 60 T60:=zN (i:=Tryz.t60) Tryz.underlying60 Tryz.type60 rfl rfl rfl rfl rfl rfl (by kernel_rfl) (by decide) (by decide) (by decide) rfl (fun h=>by cases h)
theorem zTY:T60.sz=12:=rfl
theorem zQc:T60.pty=.agg [.int .i64,.int .i64,.int .i64,.int .i64,.int .i64,.int .i64,.int .i64,.int .i64,.int .i64,.str,.list (.agg [.int .i64,.int .i64]),.list (.str)]:=rfl
noncomputable def T62:TI:=⟨false,[.list (.int .i64)],3,[],24,.slice 3,false⟩
theorem zTX:yX Tryz.prog 62 T62:=zN (i:=Tryz.t62) Tryz.underlying62 Tryz.type62 rfl rfl rfl rfl rfl rfl (by kernel_rfl) (by decide) (by decide) (by decide) rfl (fun h=>by cases h)
theorem zTW:T62.sz=1:=rfl
theorem zQb:T62.pty=.list (.int .i64):=rfl
noncomputable def T63:TI:=⟨true,[.int .i64,.list (.int .i64),.bool,.str,.str],0,[(0,3),(1,62),(2,4),(3,9),(4,9)],72,.struct (match Tryz.t63.desc with | .struct fs=>fs | _=>#[]),false⟩
theorem zTV:yX Tryz.prog 63 T63:=zN (i:=Tryz.t63) Tryz.underlying63 Tryz.type63 rfl rfl rfl rfl rfl rfl (by kernel_rfl) (by decide) (by decide) (by decide) rfl (fun h=>by cases h)
theorem zTU:T63.sz=5:=rfl
theorem zQa:T63.pty=.agg [.int .i64,.list (.int .i64),.bool,.str,.str]:=rfl
noncomputable def T64:TI:=⟨true,[.int .i64,.list (.int .i64),.bool,.str,.str],0,[(0,3),(1,62),(2,4),(3,9),(4,9)],72,.struct (match Tryz.t63.desc with | .struct fs=>fs | _=>#[]),false⟩
theorem zTT:yX Tryz.prog 64 T64:=zN (i:=Tryz.t64) Tryz.underlying64 Tryz.type64 rfl rfl rfl rfl rfl rfl (by kernel_rfl) (by decide) (by decide) (by decide) rfl (fun h=>by cases h)
theorem zTS:T64.sz=5:=rfl
theorem zQZ:T64.pty=.agg [.int .i64,.list (.int .i64),.bool,.str,.str]:=rfl
noncomputable def T85:TI:=⟨false,[.list (.agg [.int .i64,.int .i64,.bool,.list (.int .i64),.str])],94,[],24,.slice 94,false⟩
theorem zTP:yX Tryz.prog 85 T85:=zN (i:=Tryz.t85) Tryz.underlying85 Tryz.type85 rfl rfl rfl rfl rfl rfl (by kernel_rfl) (by decide) (by decide) (by decide) rfl (fun h=>by cases h)
theorem zTO:T85.sz=1:=rfl
theorem zQY:T85.pty=.list (.agg [.int .i64,.int .i64,.bool,.list (.int .i64),.str]):=rfl
noncomputable def T88:TI:=⟨false,[.opq],0,[],8,.pointer 91,false⟩
theorem zTN:yX Tryz.prog 88 T88:=zN (i:=Tryz.t88) Tryz.underlying88 Tryz.type88 rfl rfl rfl rfl rfl rfl (by kernel_rfl) (by decide) (by decide) (by decide) rfl (fun h=>by cases h)
theorem zTM:T88.sz=1:=rfl
theorem zQX:T88.pty=.opq:=rfl
noncomputable def T90:TI:=⟨true,[.int .i64,.int .i64,.int .i64,.int .i64,.int .i64,.int .i64,.int .i64,.int .i64,.int .i64,.str,.list (.agg [.int .i64,.int .i64]),.list (.str)],0,[(0,60)],136,.struct (match Tryz.t90.desc with | .struct fs=>fs | _=>#[]),false⟩
theorem zTK:yX Tryz.prog 90 T90:=zN (i:=Tryz.t90) Tryz.underlying90 Tryz.type90 rfl rfl rfl rfl rfl rfl (by kernel_rfl) (by decide) (by decide) (by decide) rfl (fun h=>by cases h)
theorem zTJ:T90.sz=12:=rfl
theorem zQW:T90.pty=.agg [.int .i64,.int .i64,.int .i64,.int .i64,.int .i64,.int .i64,.int .i64,.int .i64,.int .i64,.str,.list (.agg [.int .i64,.int .i64]),.list (.str)]:=rfl
noncomputable def T91:TI:=⟨true,[.int .i64,.int .i64,.int .i64,.int .i64,.int .i64,.int .i64,.int .i64,.int .i64,.int .i64,.str,.list (.agg [.int .i64,.int .i64]),.list (.str)],0,[(0,60)],136,.struct (match Tryz.t90.desc with | .struct fs=>fs | _=>#[]),false⟩
theorem zTI:yX Tryz.prog 91 T91:=zN (i:=Tryz.t91) Tryz.underlying91 Tryz.type91 rfl rfl rfl rfl rfl rfl (by kernel_rfl) (by decide) (by decide) (by decide) rfl (fun h=>by cases h)
theorem zTH:T91.sz=12:=rfl
theorem zQV:T91.pty=.agg [.int .i64,.int .i64,.int .i64,.int .i64,.int .i64,.int .i64,.int .i64,.int .i64,.int .i64,.str,.list (.agg [.int .i64,.int .i64]),.list (.str)]:=rfl
noncomputable def T93:TI:=⟨true,[.int .i64,.int .i64,.bool,.list (.int .i64),.str],0,[(0,3),(1,3),(2,4),(3,62),(4,9)],64,.struct (match Tryz.t93.desc with | .struct fs=>fs | _=>#[]),false⟩
theorem zTG:yX Tryz.prog 93 T93:=zN (i:=Tryz.t93) Tryz.underlying93 Tryz.type93 rfl rfl rfl rfl rfl rfl (by kernel_rfl) (by decide) (by decide) (by decide) rfl (fun h=>by cases h)
theorem zTF:T93.sz=5:=rfl
theorem zQU:T93.pty=.agg [.int .i64,.int .i64,.bool,.list (.int .i64),.str]:=rfl
noncomputable def T94:TI:=⟨true,[.int .i64,.int .i64,.bool,.list (.int .i64),.str],0,[(0,3),(1,3),(2,4),(3,62),(4,9)],64,.struct (match Tryz.t93.desc with | .struct fs=>fs | _=>#[]),false⟩
theorem zTE:yX Tryz.prog 94 T94:=zN (i:=Tryz.t94) Tryz.underlying94 Tryz.type94 rfl rfl rfl rfl rfl rfl (by kernel_rfl) (by decide) (by decide) (by decide) rfl (fun h=>by cases h)
theorem zTD:T94.sz=5:=rfl
theorem zQT:T94.pty=.agg [.int .i64,.int .i64,.bool,.list (.int .i64),.str]:=rfl
noncomputable def T97:TI:=⟨true,[.int .i64,.int .i64],0,[(0,3),(1,3)],16,.struct (match Tryz.t97.desc with | .struct fs=>fs | _=>#[]),true⟩
theorem zTC:yX Tryz.prog 97 T97:=zN (i:=Tryz.t97) Tryz.underlying97 Tryz.type97 rfl rfl rfl rfl rfl rfl (by kernel_rfl) (by decide) (by decide) (by decide) rfl (fun _=>⟨Tryz.stoodInHeld97,Tryz.eqGuardType97⟩)
theorem zTB:T97.sz=2:=rfl
theorem zQS:T97.pty=.agg [.int .i64,.int .i64]:=rfl
noncomputable def T98:TI:=⟨true,[.int .i64,.int .i64],0,[(0,3),(1,3)],16,.struct (match Tryz.t97.desc with | .struct fs=>fs | _=>#[]),true⟩
theorem zTA:yX Tryz.prog 98 T98:=zN (i:=Tryz.t98) Tryz.underlying98 Tryz.type98 rfl rfl rfl rfl rfl rfl (by kernel_rfl) (by decide) (by decide) (by decide) rfl (fun _=>⟨Tryz.stoodInHeld98,Tryz.eqGuardType98⟩)
theorem zS9:T98.sz=2:=rfl
theorem zQR:T98.pty=.agg [.int .i64,.int .i64]:=rfl
noncomputable def zR4:TI:=⟨false,[.int .u64],0,[],8,.int .u64,false⟩
theorem zRZ:yX Tryz.prog 103 zR4:=zN (i:=Tryz.t103) Tryz.underlying103 Tryz.type103 rfl rfl rfl rfl rfl rfl (by kernel_rfl) (by decide) (by decide) (by decide) rfl (fun h=>by cases h)
theorem zRY:zR4.sz=1:=rfl
theorem zOf:zR4.pty=.int .u64:=rfl
noncomputable def zR3:TI:=⟨false,[.opq],0,[],8,.pointer 106,false⟩
theorem zRW:yX Tryz.prog 110 zR3:=zN (i:=Tryz.t110) Tryz.underlying110 Tryz.type110 rfl rfl rfl rfl rfl rfl (by kernel_rfl) (by decide) (by decide) (by decide) rfl (fun h=>by cases h)
theorem zRV:zR3.sz=1:=rfl
theorem zOe:zR3.pty=.opq:=rfl
noncomputable def zR2:TI:=⟨false,[.opq],0,[],8,.pointer 5,false⟩
theorem zRU:yX Tryz.prog 111 zR2:=zN (i:=Tryz.t111) Tryz.underlying111 Tryz.type111 rfl rfl rfl rfl rfl rfl (by kernel_rfl) (by decide) (by decide) (by decide) rfl (fun h=>by cases h)
theorem zRT:zR2.sz=1:=rfl
theorem zOd:zR2.pty=.opq:=rfl
noncomputable def zR1:TI:=⟨false,[.opq],0,[],8,.pointer 115,false⟩
theorem zRS:yX Tryz.prog 112 zR1:=zN (i:=Tryz.t112) Tryz.underlying112 Tryz.type112 rfl rfl rfl rfl rfl rfl (by kernel_rfl) (by decide) (by decide) (by decide) rfl (fun h=>by cases h)
theorem zRR:zR1.sz=1:=rfl
theorem zOc:zR1.pty=.opq:=rfl
noncomputable def zR0:TI:=⟨true,[.int .i64,.list (.int .i64),.bool,.str,.str,.list (.agg [.int .i64,.int .i64,.bool,.list (.int .i64),.str])],0,[(0,64),(5,85)],96,.struct (match Tryz.t114.desc with | .struct fs=>fs | _=>#[]),false⟩
theorem zRQ:yX Tryz.prog 114 zR0:=zN (i:=Tryz.t114) Tryz.underlying114 Tryz.type114 rfl rfl rfl rfl rfl rfl (by kernel_rfl) (by decide) (by decide) (by decide) rfl (fun h=>by cases h)
theorem zRP:zR0.sz=6:=rfl
theorem zOb:zR0.pty=.agg [.int .i64,.list (.int .i64),.bool,.str,.str,.list (.agg [.int .i64,.int .i64,.bool,.list (.int .i64),.str])]:=rfl
noncomputable def zRz:TI:=⟨true,[.int .i64,.list (.int .i64),.bool,.str,.str,.list (.agg [.int .i64,.int .i64,.bool,.list (.int .i64),.str])],0,[(0,64),(5,85)],96,.struct (match Tryz.t114.desc with | .struct fs=>fs | _=>#[]),false⟩
theorem zRO:yX Tryz.prog 115 zRz:=zN (i:=Tryz.t115) Tryz.underlying115 Tryz.type115 rfl rfl rfl rfl rfl rfl (by kernel_rfl) (by decide) (by decide) (by decide) rfl (fun h=>by cases h)
theorem zRN:zRz.sz=6:=rfl
theorem zOa:zRz.pty=.agg [.int .i64,.list (.int .i64),.bool,.str,.str,.list (.agg [.int .i64,.int .i64,.bool,.list (.int .i64),.str])]:=rfl
noncomputable def zRy:TI:=⟨false,[.int .u32],0,[],4,.int .u32,false⟩
theorem zRL:yX Tryz.prog 120 zRy:=zN (i:=Tryz.t120) Tryz.underlying120 Tryz.type120 rfl rfl rfl rfl rfl rfl (by kernel_rfl) (by decide) (by decide) (by decide) rfl (fun h=>by cases h)
theorem zRK:zRy.sz=1:=rfl
theorem zOZ:zRy.pty=.int .u32:=rfl
noncomputable def zRx:TI:=⟨false,[.opq],0,[],8,.pointer 60,false⟩
theorem zRJ:yX Tryz.prog 125 zRx:=zN (i:=Tryz.t125) Tryz.underlying125 Tryz.type125 rfl rfl rfl rfl rfl rfl (by kernel_rfl) (by decide) (by decide) (by decide) rfl (fun h=>by cases h)
theorem zRI:zRx.sz=1:=rfl
theorem zOY:zRx.pty=.opq:=rfl
noncomputable def zRw:TI:=⟨true,[.int .u8,.int .u8],0,[(0,5),(1,5)],2,.struct (match Tryz.t134.desc with | .struct fs=>fs | _=>#[]),true⟩
theorem zRG:yX Tryz.prog 134 zRw:=zN (i:=Tryz.t134) Tryz.underlying134 Tryz.type134 rfl rfl rfl rfl rfl rfl (by kernel_rfl) (by decide) (by decide) (by decide) rfl (fun _=>⟨Tryz.stoodInHeld134,Tryz.eqGuardType134⟩)
theorem zRF:zRw.sz=2:=rfl
theorem zOX:zRw.pty=.agg [.int .u8,.int .u8]:=rfl
noncomputable def zRv:TI:=⟨true,[.int .u8,.int .u8],0,[(0,5),(1,5)],2,.struct (match Tryz.t134.desc with | .struct fs=>fs | _=>#[]),true⟩
theorem zRE:yX Tryz.prog 135 zRv:=zN (i:=Tryz.t135) Tryz.underlying135 Tryz.type135 rfl rfl rfl rfl rfl rfl (by kernel_rfl) (by decide) (by decide) (by decide) rfl (fun _=>⟨Tryz.stoodInHeld135,Tryz.eqGuardType135⟩)
theorem zRD:zRv.sz=2:=rfl
theorem zOW:zRv.pty=.agg [.int .u8,.int .u8]:=rfl
noncomputable def zRu:TI:=⟨true,[.int .u8,.int .u8,.int .u8,.int .u8,.int .u8,.int .u8,.int .u8,.int .u8,.int .u8,.int .u8,.int .u8,.int .u8,.int .u8,.int .u8,.int .u8,.int .u8,.int .u8,.int .u8,.int .u8,.int .u8,.int .u8,.int .u8,.int .u8,.int .u8,.int .u8,.int .u8,.int .u8,.int .u8,.int .u8,.int .u8,.int .u8,.int .u8],0,[],32,.array 16 135,false⟩
theorem zRC:yX Tryz.prog 136 zRu:=zN (i:=Tryz.t136) Tryz.underlying136 Tryz.type136 rfl rfl rfl rfl rfl rfl (by kernel_rfl) (by decide) (by decide) (by decide) rfl (fun h=>by cases h)
theorem zRB:zRu.sz=32:=rfl
theorem zOV:zRu.pty=.agg [.int .u8,.int .u8,.int .u8,.int .u8,.int .u8,.int .u8,.int .u8,.int .u8,.int .u8,.int .u8,.int .u8,.int .u8,.int .u8,.int .u8,.int .u8,.int .u8,.int .u8,.int .u8,.int .u8,.int .u8,.int .u8,.int .u8,.int .u8,.int .u8,.int .u8,.int .u8,.int .u8,.int .u8,.int .u8,.int .u8,.int .u8,.int .u8]:=rfl
noncomputable def zRt:TI:=⟨true,[.opq,.opq,.opq,.str],0,[(0,17),(1,17),(2,17),(3,9)],40,.struct (match Tryz.t137.desc with | .struct fs=>fs | _=>#[]),false⟩
theorem zRA:yX Tryz.prog 137 zRt:=zN (i:=Tryz.t137) Tryz.underlying137 Tryz.type137 rfl rfl rfl rfl rfl rfl (by kernel_rfl) (by decide) (by decide) (by decide) rfl (fun h=>by cases h)
theorem zQ9:zRt.sz=4:=rfl
theorem zOU:zRt.pty=.agg [.opq,.opq,.opq,.str]:=rfl
noncomputable def zRs:TI:=⟨true,[.opq,.opq,.opq,.str],0,[(0,17),(1,17),(2,17),(3,9)],40,.struct (match Tryz.t137.desc with | .struct fs=>fs | _=>#[]),false⟩
theorem zQ8:yX Tryz.prog 138 zRs:=zN (i:=Tryz.t138) Tryz.underlying138 Tryz.type138 rfl rfl rfl rfl rfl rfl (by kernel_rfl) (by decide) (by decide) (by decide) rfl (fun h=>by cases h)
theorem zQ7:zRs.sz=4:=rfl
theorem zOT:zRs.pty=.agg [.opq,.opq,.opq,.str]:=rfl
noncomputable def zRr:TI:=⟨false,[.int .u8],0,[],1,.int .u8,false⟩
theorem zQ5:yX Tryz.prog 142 zRr:=zN (i:=Tryz.t142) Tryz.underlying142 Tryz.type142 rfl rfl rfl rfl rfl rfl (by kernel_rfl) (by decide) (by decide) (by decide) rfl (fun h=>by cases h)
theorem zQ4:zRr.sz=1:=rfl
theorem zOS:zRr.pty=.int .u8:=rfl
noncomputable def zRq:TI:=⟨false,[.int .u8],0,[],1,.int .u8,false⟩
theorem zQ3:yX Tryz.prog 143 zRq:=zN (i:=Tryz.t143) Tryz.underlying143 Tryz.type143 rfl rfl rfl rfl rfl rfl (by kernel_rfl) (by decide) (by decide) (by decide) rfl (fun h=>by cases h)
theorem zQ2:zRq.sz=1:=rfl
theorem zOR:zRq.pty=.int .u8:=rfl
noncomputable def zRp:TI:=⟨false,[.int .i32],0,[],4,.int .i32,false⟩
theorem zQ1:yX Tryz.prog 145 zRp:=zN (i:=Tryz.t145) Tryz.underlying145 Tryz.type145 rfl rfl rfl rfl rfl rfl (by kernel_rfl) (by decide) (by decide) (by decide) rfl (fun h=>by cases h)
theorem zQ0:zRp.sz=1:=rfl
theorem zOQ:zRp.pty=.int .i32:=rfl
noncomputable def zRo:TI:=⟨false,[.int .i32],0,[],4,.int .i32,false⟩
theorem zQz:yX Tryz.prog 146 zRo:=zN (i:=Tryz.t146) Tryz.underlying146 Tryz.type146 rfl rfl rfl rfl rfl rfl (by kernel_rfl) (by decide) (by decide) (by decide) rfl (fun h=>by cases h)
theorem zQy:zRo.sz=1:=rfl
theorem zOP:zRo.pty=.int .i32:=rfl
noncomputable def zr:List (Nat × TI):=[(2,T2),(3,T3),(4,T4),(5,T5),(6,T6),(7,T7),(8,T8),(9,T9),(10,T10),(11,T11),(12,T12),(13,T13),(14,T14),(15,T15),(16,T16),(17,T17),(18,T18),(19,T19),(21,T21),(22,T22),(24,T24),(26,T26),(27,T27),(28,T28),(34,T34),(35,T35),(43,T43),(53,T53),(54,T54),(56,T56),(57,T57),(58,T58),(59,T59),(60,T60),(62,T62),(63,T63),(64,T64),(85,T85),(88,T88),(90,T90),(91,T91),(93,T93),(94,T94),(97,T97),(98,T98),(103,zR4),(110,zR3),(111,zR2),(112,zR1),(114,zR0),(115,zRz),(120,zRy),(125,zRx),(134,zRw),(135,zRv),(136,zRu),(137,zRt),(138,zRs),(142,zRr),(143,zRq),(145,zRp),(146,zRo)]
theorem ty2:lk zr 2=some T2:=rfl
theorem ty3:lk zr 3=some T3:=rfl
theorem ty4:lk zr 4=some T4:=rfl
theorem ty5:lk zr 5=some T5:=rfl
theorem ty6:lk zr 6=some T6:=rfl
theorem ty7:lk zr 7=some T7:=rfl
theorem ty8:lk zr 8=some T8:=rfl
theorem ty9:lk zr 9=some T9:=rfl
theorem ty10:lk zr 10=some T10:=rfl
theorem ty11:lk zr 11=some T11:=rfl
theorem ty12:lk zr 12=some T12:=rfl
theorem ty13:lk zr 13=some T13:=rfl
theorem ty14:lk zr 14=some T14:=rfl
theorem ty15:lk zr 15=some T15:=rfl
theorem ty16:lk zr 16=some T16:=rfl
theorem ty17:lk zr 17=some T17:=rfl
theorem ty18:lk zr 18=some T18:=rfl
theorem ty19:lk zr 19=some T19:=rfl
theorem ty21:lk zr 21=some T21:=rfl
theorem ty22:lk zr 22=some T22:=rfl
theorem ty24:lk zr 24=some T24:=rfl
theorem ty26:lk zr 26=some T26:=rfl
theorem ty27:lk zr 27=some T27:=rfl
theorem ty28:lk zr 28=some T28:=rfl
theorem ty34:lk zr 34=some T34:=rfl
theorem ty35:lk zr 35=some T35:=rfl
theorem ty43:lk zr 43=some T43:=rfl
theorem ty53:lk zr 53=some T53:=rfl
theorem ty54:lk zr 54=some T54:=rfl
theorem ty56:lk zr 56=some T56:=rfl
theorem ty57:lk zr 57=some T57:=rfl
theorem ty58:lk zr 58=some T58:=rfl
theorem ty59:lk zr 59=some T59:=rfl
theorem ty60:lk zr 60=some T60:=rfl
theorem ty62:lk zr 62=some T62:=rfl
theorem ty63:lk zr 63=some T63:=rfl
theorem ty64:lk zr 64=some T64:=rfl
theorem ty85:lk zr 85=some T85:=rfl
theorem ty88:lk zr 88=some T88:=rfl
theorem ty90:lk zr 90=some T90:=rfl
theorem ty91:lk zr 91=some T91:=rfl
theorem ty93:lk zr 93=some T93:=rfl
theorem ty94:lk zr 94=some T94:=rfl
theorem ty97:lk zr 97=some T97:=rfl
theorem ty98:lk zr 98=some T98:=rfl
theorem ty103:lk zr 103=some zR4:=rfl
theorem ty110:lk zr 110=some zR3:=rfl
theorem ty111:lk zr 111=some zR2:=rfl
theorem ty112:lk zr 112=some zR1:=rfl
theorem ty114:lk zr 114=some zR0:=rfl
theorem ty115:lk zr 115=some zRz:=rfl
theorem ty120:lk zr 120=some zRy:=rfl
theorem ty125:lk zr 125=some zRx:=rfl
theorem ty134:lk zr 134=some zRw:=rfl
theorem ty135:lk zr 135=some zRv:=rfl
theorem ty136:lk zr 136=some zRu:=rfl
theorem ty137:lk zr 137=some zRt:=rfl
theorem ty138:lk zr 138=some zRs:=rfl
theorem ty142:lk zr 142=some zRr:=rfl
theorem ty143:lk zr 143=some zRq:=rfl
theorem ty145:lk zr 145=some zRp:=rfl
theorem ty146:lk zr 146=some zRo:=rfl
theorem zF(fns:List ((Nat × List Nat) × zS)):zAQ Tryz.prog ⟨zr,fns⟩:=by
 have key:∀l:List (Nat × TI),(∀p∈l,yX Tryz.prog p.1 p.2)→∀t ti,lk l t=some ti→yX Tryz.prog t ti:=by
  intro l
  induction l with
  | nil=>intro _ t ti h;cases h
  | cons p l ih=>
   intro hl t ti h
   obtain⟨i,x⟩:=p
   simp only[lk] at h
   split at h
   ·rename_i e;subst e;cases h;exact hl (i,ti) (by simp)
   ·exact ih (fun p hp=>hl p (by simp[hp])) t ti h
 refine key zr ?_
 simp only[zr,List.mem_cons,List.not_mem_nil,or_false,forall_eq_or_imp,forall_eq]
 exact⟨T2_ok,T3_ok,T4_ok,T5_ok,T6_ok,T7_ok,T8_ok,T9_ok,zUR,zUP,zUN,zUL,zUJ,zUH,zUF,zUD,zUB,zT9,zT7,zT5,zT3,zT1,zTz,zTx,zTu,zTs,zTp,zTm,zTk,zTi,zTg,zTe,zTc,zTZ,zTX,zTV,zTT,zTP,zTN,zTK,zTI,zTG,zTE,zTC,zTA,zRZ,zRW,zRU,zRS,zRQ,zRO,zRL,zRJ,zRG,zRE,zRC,zRA,zQ8,zQ5,zQ3,zQ1,zQz⟩
theorem zc:Tryz.prog.follows .mixedOrders=true:=by kernel_rfl
attribute [simp] zNf zE zG yu zND zE4 zBf zBR pv_at zST zPp zSS zPn zSU PTy.leaves PTy.wd inR TI.sz TI.pty lk yk yw zLQ zNm zK zk ze zFb zIs yv dpB zAX ndB zF9 zRe zBi zGm St.slot zD6 zD5 zHS St.ev SV.cells SV.ofCells SV.leafB zA6 zAf zDs zBq zBg zFT zDN yS zv yJ zFn zFE zDc zLy zB noP elP z6 zAG zj zI8 binI zE8 zKp binS imp evs zEJ zDV zW zAK zA9 zy zJ7 zDd zI7 zRg bsHs zB2 zRf yG zEO zCS zCY zAu zAr zLj zO5 zGR zIf zMy zDk zGQ zKO zKw zGJ zFr zHh zGW zIw zIH zPf zDu evO zHp yd yM zGI zCo zBD zJE zBY zEI zSP zLn zKN zHk zAw zDH zEB zIT zIk zKc zGM yH zCl eqCs zJB za zGn zER leafB zCC zD4 zKB zDi csz ksz zOr zBt zDR vcK zOn ldLs isLs splG zLk zDX vcD zHG zEF zFo zAn zJy rn zFA zE9 entR zLN entP zDq zSd zRm entA entL zNM zJx ent zF6 hsV zRk zCn yT zJb hsL hsA zNc gcH gcA zKM zMb zF8 zPw mr mrs zF7 zPx zAL zAH zGC zDU zEz zEy zd nL zHW zNd zFk zBs zDa zBk zOv zI5 zOu zHM zSN zLw zNh zOC zD7 zHo zPy zLM SV.lt SV.lts IntKind.min IntKind.max IntKind.signed IntKind.bits LIM
attribute [simp] ty2 T2_sz zTv T2 ty3 T3_sz zTq T3 ty4 T4_sz zTn T4 ty5 T5_sz zTa T5 ty6 T6_sz zTR T6 ty7 T7_sz zTQ T7 ty8 T8_sz zTL T8 ty9 T9_sz zS8 T9 ty10 zUQ zRX T10 ty11 zUO zRM T11 ty12 zUM zRH T12 ty13 zUK zQ6 T13 ty14 zUI zQx T14 ty15 zUG zQw T15 ty16 zUE zQv T16 ty17 zUC zQu T17 ty18 zUA zQt T18 ty19 zT8 zQs T19 ty21 zT6 zQr T21 ty22 zT4 zQq T22 ty24 zT2 zQp T24 ty26 zT0 zQo T26 ty27 zTy zQn T27 ty28 zTw zQm T28 ty34 zTt zQl T34 ty35 zTr zQk T35 ty43 zTo zQj T43 ty53 zTl zQi T53 ty54 zTj zQh T54 ty56 zTh zQg T56 ty57 zTf zQf T57 ty58 zTd zQe T58 ty59 zTb zQd T59 ty60 zTY zQc T60 ty62 zTW zQb T62 ty63 zTU zQa T63 ty64 zTS zQZ T64 ty85 zTO zQY T85 ty88 zTM zQX T88 ty90 zTJ zQW T90 ty91 zTH zQV T91 ty93 zTF zQU T93 ty94 zTD zQT T94 ty97 zTB zQS T97 ty98 zS9 zQR T98 ty103 zRY zOf zR4 ty110 zRV zOe zR3 ty111 zRT zOd zR2 ty112 zRR zOc zR1 ty114 zRP zOb zR0 ty115 zRN zOa zRz ty120 zRK zOZ zRy ty125 zRI zOY zRx ty134 zRF zOX zRw ty135 zRD zOW zRv ty136 zRB zOV zRu ty137 zQ9 zOU zRt ty138 zQ7 zOT zRs ty142 zQ4 zOS zRr ty143 zQ2 zOR zRq ty145 zQ0 zOQ zRp ty146 zQy zOP zRo
end
section
variable [zZ]
open Go.Lib Go.RowKit
section
variable {P:Program} {w:World}
end
end
section
variable [zZ]
open Go.Lib Go.RowKit
def BldU(T e b:Nat)(l:List UInt8)(w:World)(f:List Nat):Prop:=
 ∃v,w.heap[b]?=some (.cells #[.pointer (some ⟨b,0,none⟩),v] T (0,0))∧w.ownsRow 0 e 1 v l.length (l.map fun x=>Value.int .u8 x.toNat)∧v.ownBlock≠some b∧f=b :: v.ownBlock.toList
theorem zSx:(Tryz.prog.info? 76).map (·.size)=some 2:=by kernel_rfl
theorem liesB:liesAt Tryz.prog Tryz.prog.depth 76 (2 / Tryz.prog.cellsOf 76) 0 76 1=true:=by kernel_rfl
theorem zMf:(Tryz.prog.info? 5).map (fun i=>(i.zero,i.size,i.bytes))=some (some (.int .u8 0),1,1):=by kernel_rfl
set_option maxHeartbeats 1000000 in
set_option maxRecDepth 100000 in
theorem zLP(b:Nat)(w:World)(h0:w.cell? ⟨b,0,none⟩=some (.pointer (some ⟨b,0,none⟩))) :
  Calls Tryz.prog 58 #[.pointer (some ⟨b,0,none⟩)] w fun e w'=>e=.returned (.tuple #[])∧w'=w:=by
 obtain⟨j,hj,_⟩:=Option.map_eq_some_iff.1 zSx
 go_enter Tryz.func58,Tryz.ntmps58
 go_wp2
 rw[Lib.run_neq_ptr_same w _ Tryz.underlying74 hj]
 go_wp2
 go_end0
 exact⟨rfl,rfl⟩
set_option maxHeartbeats 1000000 in
set_option maxRecDepth 100000 in
theorem zJg(b:Nat)(w:World)(h0:w.cell? ⟨b,0,none⟩=some (.pointer none))(hsh:w.shape? b=some (76,2))(hfz:w.frozen? ⟨b,0,none⟩=false) :
  Calls Tryz.prog 58 #[.pointer (some ⟨b,0,none⟩)] w fun e w'=>e=.returned (.tuple #[])∧w'=w.setCell ⟨b,0,none⟩ (.pointer (some ⟨b,0,none⟩)):=by
 obtain⟨j,hj,hjs⟩:=Option.map_eq_some_iff.1 zSx
 go_enter Tryz.func58,Tryz.ntmps58
 go_wp2
 rw[Lib.run_to_unsafe w ⟨b,0,none⟩ Tryz.underlying74 Tryz.underlying118 hj (by rw[hjs];decide) hsh (Nat.zero_lt_succ 1)]
 simp only[Result.andThen]
 rw[Oper.upon_value]
 go_wp2
 rw[run_callFunc_extern Tryz.func72 (by kernel_rfl) (by kernel_rfl) (by kernel_rfl) (e:=Extern.AbiNoEscape.same) (by kernel_rfl)]
 rw[Lib.run_noEscape]
 simp only[Result.andThen]
 rw[Oper.upon_value]
 go_wp2
 rw[Lib.run_from_unsafe w ⟨b,0,none⟩ Tryz.underlying118 Tryz.underlying74 hj hsh liesB]
 simp only[Result.andThen]
 rw[Oper.upon_value]
 go_wp2
 go_end0
 exact⟨rfl,rfl⟩
theorem zM2(b:Nat)(l:List UInt8)(w:World)(f:List Nat)(h:zDM 76 5 b l w f) :
  Calls Tryz.prog 58 #[.pointer (some ⟨b,0,none⟩)] w fun e w'=>e=.returned (.tuple #[])∧BldU 76 5 b l w' f∧Fr w [b] w':=by
 obtain⟨p,v,hp,hb,hown,hne,hf⟩:=h
 have hlt:b < w.heap.size:=(Array.getElem?_eq_some_iff.1 hb).1
 rcases hp with rfl | rfl
 ·refine(zJg b w (by simp[World.cell?,hb]) (by simp[World.shape?,hb]) (by simp[World.frozen?,hb])).mono ?_
  rintro e w' ⟨rfl,rfl⟩
  have hfr:Fr w [b] (w.setCell ⟨b,0,none⟩ (.pointer (some ⟨b,0,none⟩))):=
   ⟨rfl,rfl,rfl,by simp[World.setCell],fun k hk hn=>Below.heap_setCell _ _ _ _ (fun e=>hn (by simp[e]))⟩
  refine⟨rfl,⟨v,?_,?_,hne,hf⟩,hfr⟩
  ·simp[World.setCell,Array.getElem?_modify,hb]
  ·exact hown.kept (row:=some b) ⟨rfl,rfl,rfl,by simp[World.setCell],fun k _ hk=>Below.heap_setCell _ _ _ _ (fun e=>hk (by simp[e]))⟩ (Or.inr hne)
 ·refine(zLP b w (by simp[World.cell?,hb])).mono ?_
  rintro e w' ⟨rfl,rfl⟩
  exact⟨rfl,⟨v,hb,hown,hne,hf⟩,Fr.refl _ _⟩
theorem zNz{w w':World}{row:Option Nat}(h:w.grownBy w' row):Fr w row.toList w':=
 ⟨h.os,h.tape,h.output,h.size,fun k hk hn=>h.block k hk (fun e=>hn (by rw[←e];simp))⟩
end
section
variable [zZ]
open Go.Lib Go.RowKit
theorem zSu:Tryz.prog.cellsOf 5=1:=by kernel_rfl
theorem zMi{w:World}{f:List Nat}(g n:Nat)(hg:g∈f):Fr w f (w.drew.freeze ⟨g,0,none⟩ n):=by
 have h:Fr w.drew f (w.drew.freeze ⟨g,0,none⟩ n):=by
  unfold World.freeze
  split
  ·exact Fr.refl _ _
  ·exact⟨rfl,rfl,rfl,by simp,fun k hk hn=>by
    simp only[Array.getElem?_modify]
    rw[if_neg (fun e=>hn (by rw[←e];exact hg))]⟩
 exact⟨h.os,h.tape,h.output,h.size,h.block⟩
set_option maxHeartbeats 2000000 in
set_option maxRecDepth 100000 in
theorem zQJ(b:Nat)(l:List UInt8)(w:World)(f:List Nat)(h:zDM 76 5 b l w f)(h0:l≠[]) :
  Calls Tryz.prog 45 #[.pointer (some ⟨b,0,none⟩)] w fun e w'=>e=.returned (.string ⟨l.toArray⟩)∧Fr w f w':=by
 obtain⟨p,v,_,hbk,hown,hne,hf⟩:=h
 have hl0:l.length≠0:=by simpa using h0
 obtain⟨g,cap,cur,rfl,hbg,hg,hnc,hcm,hcs,htake⟩:∃g cap cur,v=.slice (some ⟨g,0,none⟩) l.length cap∧0≤g∧w.heap[g]?=some (.cells cur 5 (0,0))∧l.length≤cap∧cap≤maxLen∧cur.size=cap*1∧cur.toList.take (l.length*1)=l.map fun x=>Value.int .u8 x.toNat:=by
  rcases hown.2 with ⟨_,hz⟩ | ⟨g,cap,cur,hv,r⟩
  ·exact absurd hz hl0
  ·exact⟨g,cap,cur,hv,r⟩
 have c1:w.drew.cell? ⟨b,1,none⟩=some (.slice (some ⟨g,0,none⟩) l.length cap):=by
  have:w.drew.heap[b]?=some (.cells #[p,.slice (some ⟨g,0,none⟩) l.length cap] 76 (0,0)):=hbk
  simp[World.cell?,this]
 have hSD:(Builtin.unsafeSliceData_ #[22] 111 #[.slice (some ⟨g,0,none⟩) l.length cap]).run Tryz.prog w.drew=.ok (.pointer (some ⟨g,0,none⟩)) w.drew:=
  Lib.run_unsafeSliceData_row _ _ _ _ _ _ (by omega)
 have hUS:(Builtin.unsafeString_ #[111,3] 9 #[.pointer (some ⟨g,0,none⟩),.int .i64 l.length]).run Tryz.prog w.drew=.ok (.string ⟨l.toArray⟩) (w.drew.freeze ⟨g,0,none⟩ l.length):=by
  refine Lib.run_unsafeString_row w.drew 111 3 9 5 Tryz.underlying111 zSu g cur.size (by have hg':w.drew.heap[g]?=some (.cells cur 5 (0,0)):=hg;simp[World.shape?,hg']) l h0 (by omega) (by unfold maxLen at hcm;omega) ?_
  intro j x hx
  exact hown.cells (g:=g) rfl j (.int .u8 x.toNat) (by simp[hx])
 go_enter Tryz.func45,Tryz.ntmps45
 go_wp2
 go_region
 all_goals (go_wp2;go_ret;exact⟨rfl,zMi g _ (by rw[hf];simp[Value.ownBlock])⟩)
set_option maxHeartbeats 2000000 in
set_option maxRecDepth 100000 in
theorem zOE(b:Nat)(w:World)(f:List Nat)(h:zDM 76 5 b [] w f) :
  Calls Tryz.prog 45 #[.pointer (some ⟨b,0,none⟩)] w fun e w'=>e=.returned (.string ⟨#[]⟩)∧Fr w f w':=by
 obtain⟨p,v,_,hbk,hown,hne,hf⟩:=h
 have hd:Fr w f w.drew:=⟨rfl,rfl,rfl,Nat.le_refl _,fun _ _ _=>rfl⟩
 rcases hown.2 with ⟨hv,hz⟩ | ⟨g,cap,cur,hv,hg0,hg,_⟩
 ·subst hv
  have c1:w.drew.cell? ⟨b,1,none⟩=some (.slice none 0 0):=by
   have:w.drew.heap[b]?=some (.cells #[p,.slice none 0 0] 76 (0,0)):=hbk
   simp[World.cell?,this]
  have hSD:(Builtin.unsafeSliceData_ #[22] 111 #[.slice none 0 0]).run Tryz.prog w.drew=.ok (.pointer none) w.drew:=Lib.run_unsafeSliceData_nil _ _ _ _ _
  have hUS:(Builtin.unsafeString_ #[111,3] 9 #[.pointer none,.int .i64 0]).run Tryz.prog w.drew=.ok (.string .empty) w.drew:=Lib.run_unsafeString_none _ _ _ _ _
  go_enter Tryz.func45,Tryz.ntmps45
  go_wp2
  go_region
  all_goals (go_wp2;go_ret;exact⟨rfl,hd⟩)
 ·subst hv
  have hg':w.drew.heap[g]?=some (.cells cur 5 (0,0)):=hg
  have c1:w.drew.cell? ⟨b,1,none⟩=some (.slice (some ⟨g,0,none⟩) 0 cap):=by
   have:w.drew.heap[b]?=some (.cells #[p,.slice (some ⟨g,0,none⟩) 0 cap] 76 (0,0)):=hbk
   simp[World.cell?,this]
  by_cases hc:cap=0
  ·subst hc
   have hSD:(Builtin.unsafeSliceData_ #[22] 111 #[.slice (some ⟨g,0,none⟩) 0 0]).run Tryz.prog w.drew=.ok (.pointer (some ⟨w.drew.heap.size,0,none⟩)) (w.drew.alloc (.view ⟨g,0,none⟩ 5)):=
    Lib.run_unsafeSliceData_zero _ _ _ _ Tryz.underlying111 _ _ (5,cur.size) (by simp[World.shape?,hg'])
   have hUS:(Builtin.unsafeString_ #[111,3] 9 #[.pointer (some ⟨w.heap.size,0,none⟩),.int .i64 0]).run Tryz.prog (w.alloc (.view ⟨g,0,none⟩ 5)).drew=.ok (.string .empty) (w.alloc (.view ⟨g,0,none⟩ 5)).drew:=Lib.run_unsafeString_none _ _ _ _ _
   have c2:(w.alloc (.view ⟨g,0,none⟩ 5)).cell? ⟨b,1,none⟩=some (.slice (some ⟨g,0,none⟩) 0 0):=by
    have hlt:b < w.heap.size:=(Array.getElem?_eq_some_iff.1 hbk).1
    have:(w.alloc (.view ⟨g,0,none⟩ 5)).heap[b]?=w.heap[b]?:=zBe w _ hlt
    have h2:w.heap[b]?=some (.cells #[p,.slice (some ⟨g,0,none⟩) 0 0] 76 (0,0)):=hbk
    simp[World.cell?,this,h2]
   have hF:Fr w f (w.alloc (.view ⟨g,0,none⟩ 5)):=Fr.alloc (Fr.refl _ _) _
   have hF:Fr w f (w.alloc (.view ⟨g,0,none⟩ 5)).drew:=⟨hF.os,hF.tape,hF.output,hF.size,hF.block⟩
   go_enter Tryz.func45,Tryz.ntmps45
   go_wp2
   go_region
   all_goals (go_wp2;go_ret;exact⟨rfl,hF⟩)
  ·have hSD:(Builtin.unsafeSliceData_ #[22] 111 #[.slice (some ⟨g,0,none⟩) 0 cap]).run Tryz.prog w.drew=.ok (.pointer (some ⟨g,0,none⟩)) w.drew:=Lib.run_unsafeSliceData_row _ _ _ _ _ _ hc
   have hUS:(Builtin.unsafeString_ #[111,3] 9 #[.pointer (some ⟨g,0,none⟩),.int .i64 0]).run Tryz.prog w.drew=.ok (.string .empty) w.drew:=Lib.run_unsafeString_none _ _ _ _ _
   go_enter Tryz.func45,Tryz.ntmps45
   go_wp2
   go_region
   all_goals (go_wp2;go_ret;exact⟨rfl,hd⟩)
theorem zOD(b:Nat)(l:List UInt8)(w:World)(f:List Nat)(h:zDM 76 5 b l w f) :
  Calls Tryz.prog 45 #[.pointer (some ⟨b,0,none⟩)] w fun e w'=>e=.returned (.string ⟨l.toArray⟩)∧Fr w f w':=by
 by_cases h0:l=[]
 ·subst h0;exact zOE b w f h
 ·exact zQJ b l w f h h0
end
section
variable [zZ]
inductive It2 where
 | o (i:It)
 | bp (t off:Nat) (o:Own) (T:PTy)
end
end Go.Proofs.YtdmbfkooebldcaaGreatDoor
