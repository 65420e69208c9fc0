/-
  Part 38: contracts of functions, and the laws by which they are proved.
  Conditions: none.
-/
import Derived.Test.YthogljppoiekaaaGreatW5
set_option linter.unusedVariables false
set_option linter.unusedSimpArgs false
set_option linter.unusedSectionVars false
set_option maxRecDepth 100000
namespace Go.Proofs.YthogljppoiekaaaGreat
section
variable [zS]
inductive It2 where
 | o (i:It)
 | bp (t off:Nat) (o:Own) (T:PTy)
def zJo(S:St):List It2→Option (Prop × List PV)
 | []=>some (True,[])
 | .o i :: r=>(match zOu S [i],zJo S r with | some (o,ps),some (o',qs)=>some (o∧o',ps++qs) | _,_=>none)
 | .bp t off _ T :: r=>match lk S.Lp t with
  | some (.ptr h _)=>(match lk S.A h with
   | some (.box _ _ cs)=>(match cs[off]? with
    | some x=>(match zDY S.A T x,zJo S r with | some (o,p),some (o',ps)=>some (o∧o',p :: ps) | _,_=>none)
    | none=>none)
   | _=>none)
  | _=>none
def zDa:List It2→List Nat
 | []=>[]
 | .o i :: r=>zKS [i]++zDa r
 | .bp _ _ _ _ :: r=>zDa r
def zDR(S:St):List It2→List Nat
 | []=>[]
 | .o i :: r=>zDU S [i]++zDR S r
 | .bp t _ _ _ :: r=>match lk S.Lp t with | some (.ptr h _)=>h :: zDR S r | _=>zDR S r
def zGu(S:St):List It2→List Nat
 | []=>[]
 | .o i :: r=>zTc S [i]++zGu S r
 | .bp t off _ _ :: r=>(match lk S.Lp t with | some (.ptr h _)=>(match lk S.A h with | some (.box _ _ cs)=>zAZ (cs.eraseIdx off) | _=>[]) | _=>[])++zGu S r
def zGD(S:St)(its:List It2):List Nat:=
 zGu S its++hsL (zMt (zDa its) S.Lp)++hsA S.A (zDR S its) (hsL (zMt (zDa its) S.Lp))++hsA S.A (zDR S its) (hsA S.A (zDR S its) (hsL (zMt (zDa its) S.Lp)))
def zJr(S0 T:St):List It2→List PV→St
 | .o i :: r,p :: ps=>zJr S0 (zOw S0 T [i] [p]) r ps
 | .bp t off o ty :: r,p :: ps=>match lk S0.Lp t with
  | some (.ptr h _)=>(match lk S0.A h with
   | some (.box ow bt cs)=>zJr S0 ⟨T.Lp,[],(h,.box ow bt (cs.set off ((zU o noP 0 T.n [ty] [p]).1.headD .nilp))) :: ((zU o noP 0 T.n [ty] [p]).2.1++T.A),(zU o noP 0 T.n [ty] [p]).2.2⟩ r ps
   | _=>T)
  | _=>T
 | _,_=>T
def zJp(S:St)(its:List It2)(ps:List PV):St:=
 zJr S ⟨zMt (zDa its) S.Lp,[],gcA (zGD S its) (zDR S its) S.A,S.n⟩ its ps
def zJq(T S:St):List It2→List (Nat × Nat)
 | []=>[]
 | .o i :: r=>zOv T S [i]++zJq T S r
 | .bp t _ _ _ :: r=>(match lk T.Lp t with | some (.ptr h _)=>(match lk T.A h,lk S.A h with | some (.box _ _ xs),some (.box _ _ ys)=>mrs xs ys | _,_=>[]) | _=>[])++zJq T S r
def zMi(keep:List Nat)(n0:Nat)(S:St)(its:List It2)(Φ:List PV→Prop)(S':St):Prop:=
 match zJo S' its with
 | some (o,ps)=>o∧Φ ps∧ent keep n0 (zJq (zJp S its ps) S' its) S' (zJp S its ps)
 | none=>False
theorem zVp{keep:List Nat}{n0:Nat}{S S':St}{its:List It2}{Φ:List PV→Prop}(h:zMi keep n0 S its Φ S'):∃ps ρ,Φ ps∧ent keep n0 ρ S' (zJp S its ps):=by
 unfold zMi at h
 split at h
 ·exact⟨_,_,h.2.1,h.2.2⟩
 ·exact h.elim
def rndP(keep:List Nat)(n0:Nat)(S:St)(its:List It2)(Φ:List PV→Prop)(μ:List PV→Nat)(ys:List PV)(S':St):Prop:=∃y' ρ,Φ y'∧μ y' < μ ys∧ent keep n0 ρ S' (zJp S its y')
theorem zNn.loopS2{E:Env}{N:Nat}{keep:List Nat}{n0:Nat}{fin:St→Prop}{W:List KI→St→Prop}(hW:zNn E N keep n0 fin W)(c:Code)(k:List KI)(S:St)(its:List It2)(Φ:List PV→Prop)(μ:List PV→Nat)(h0:zMi keep n0 S its Φ S)
  (hr:∀ys,Φ ys→W (.code c :: .post (zMi keep n0 S its fun ps=>Φ ps∧μ ps < μ ys) :: .post (rndP keep n0 S its Φ μ ys) :: k) (zJp S its ys)):W (.code (.loop c) :: k) S:=by
 refine hW.loop c k S (List PV) (zJp S its) Φ μ (zVp h0) fun ys hy=>?_
 refine hW.cut [.code c] (.post (rndP keep n0 S its Φ μ ys) :: k) _ (zMi keep n0 S its fun ps=>Φ ps∧μ ps < μ ys) (hr ys hy) fun S' hS'=>?_
 refine hW.vc [] _ _ ?_
 unfold vcK
 obtain⟨ps,ρ,q1,q2⟩:=zVp hS'
 exact⟨ps,ρ,q1.1,q1.2,q2⟩
end
end Go.Proofs.YthogljppoiekaaaGreat
