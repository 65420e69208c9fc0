/-
  Part 12: contracts of functions, and the laws by which they are proved.
  Conditions: none.
-/
import Derived.Test.YtdmbfkooebldcaaGreatDoorW10
import Derived.Test.YtdmbfkooebldcaaGreatDoorW11
set_option linter.unusedVariables false
set_option linter.unusedSimpArgs false
set_option linter.unusedSectionVars false
set_option maxRecDepth 100000
namespace Go.Proofs.YtdmbfkooebldcaaGreatDoor
section
variable [zZ]
def zBd:zS:=⟨[(.bx,.box [.int .i64,.int .i64,.int .i64,.int .i64,.int .i64,.int .i64,.int .i64,.int .i64,.int .i64,.str,.list (.agg [.int .i64,.int .i64])]),(.rd,.int .i64),(.rd,.int .i64)],[],true,fun ps=>0≤(nth ps 1).I∧(nth ps 1).I≤(nth ps 2).I∧(nth ps 2).I≤(nth (nth ps 0).A 10).L.length∧(nth ps 2).I≤10000,fun _=>[],
 fun ps=>[.agg [nth (nth ps 0).A 0,nth (nth ps 0).A 1,nth (nth ps 0).A 2,nth (nth ps 0).A 3,nth (nth ps 0).A 4,nth (nth ps 0).A 5,nth (nth ps 0).A 6,nth (nth ps 0).A 7,nth (nth ps 0).A 8,nth (nth ps 0).A 9,.list (zB6 (nth (nth ps 0).A 10).L (nth ps 1).I.toNat (nth ps 2).I.toNat)]]⟩
theorem zMa:yQ Tryz.prog 87 zBd:=by
 refine zf [0,1,2,6] [] (zI (zF [])) zc Tryz.func87 rfl (by decide) rfl (by decide) rfl ?_
 intro ps hT hpre W hW
 simp only[zBd,TyA,Ty,Tys] at hT hpre
 obtain⟨_,_,rfl,⟨_,rfl,_,_,rfl,⟨w,rfl,hw⟩,_,_,rfl,⟨h,rfl,hh⟩,_,_,rfl,⟨x,rfl,hx⟩,_,_,rfl,⟨y,rfl,hy⟩,_,_,rfl,⟨look,rfl,hlook⟩,_,_,rfl,⟨top,rfl,htop⟩,_,_,rfl,⟨bot,rfl,hbot⟩,_,_,rfl,⟨sx,rfl,hsx⟩,_,_,rfl,⟨sy,rfl,hsy⟩,_,_,rfl,⟨tit,rfl,htit⟩,_,_,rfl,⟨cs,rfl,hcs,tcs⟩,rfl⟩,_,_,rfl,⟨a,rfl,ha⟩,_,_,rfl,⟨b,rfl,hb⟩,rfl⟩:=hT
 simp only[zE,zG,zBR,zBf,yu] at hpre
 refine hW.vc [] _ _ ?_
 simp[-List.getD_eq_getElem?_getD,zBd]
 refine hW.loopS _ _ _ [.bx 0 [.int .i64,.int .i64,.int .i64,.int .i64,.int .i64,.int .i64,.int .i64,.int .i64,.int .i64,.str,.list (.agg [.int .i64,.int .i64])],.sl 6 .dp (.int .i64)] (fun ys=>∃i:Nat,ys=[.agg [.int .i64 w,.int .i64 h,.int .i64 x,.int .i64 y,.int .i64 look,.int .i64 top,.int .i64 bot,.int .i64 sx,.int .i64 sy,.str tit,.list (zB6 cs a.toNat i)],.int .i64 i]∧a.toNat≤i∧(i:Int)≤b) (fun ys=>b.toNat - (nth ys 1).I.toNat) ?_ ?_
 ·simp[-List.getD_eq_getElem?_getD,zBd]
  exact⟨a.toNat,⟨zSs.symm,by omega⟩,by omega,by omega⟩
 ·rintro ys ⟨i,rfl,g0,g1⟩
  have w1:IntKind.i64.wrap ((i:Int)+1)=i+1:=zC (by omega)
  refine hW.vc [] _ _ ?_
  simp[-List.getD_eq_getElem?_getD,zBd,w1]
  refine⟨fun h=>⟨?_,⟨i+1,⟨zSt g0 (by omega),by omega⟩,by omega,by omega⟩,by omega⟩,fun h=>?_⟩
  ·rw[zA8 (by omega) g0];omega
  ·rw[show i=b.toNat by omega]
def zC0(H:List PV):Option (Option (List PV))→Hp
 | none=>[(3,.arr (.vw [5]) .str H (.sub 5 0))]
 | some none=>[(3,.arr .dp .str H .no)]
 | some (some e)=>[(3,.arr (.vw [6]) .str H (.sub 6 0)),(6,.arr .dp .str e .no)]
def zCu(s:SC):List SV:=[.int .i64 s.w,.int .i64 s.h,.int .i64 s.x,.int .i64 s.y,.int .i64 s.look,.int .i64 s.top,.int .i64 s.bot,.int .i64 s.sx,.int .i64 s.sy,.str s.tit,.sl 4,.sl 5]
def wst(ex:List (Nat × SV))(a b k:Int)(H:List PV)(m:Option (Option (List PV)))(s:SC):St:=
 ⟨[(0,.ptr 2 0),(1,.int .i64 a),(2,.int .i64 b),(3,.int .i64 k),(8,.ptr 2 0)]++ex,[],(2,.box true 0 (zCu s)) :: (4,.arr .dp (.agg [.int .i64,.int .i64]) s.cs .no) :: (5,.arr .dp .str s.hist .no) :: zC0 H m,7⟩
theorem zIN{E:Env}{N n0:Nat}{keep:List Nat}{fin:St→Prop}{W:List KI→St→Prop}(hR:zIm E N keep n0 fin W){c:Code}{k:List KI}{S:St}(Y:Type)(st:Y→St)(Φ:Y→Prop)(μ:Y→Nat)(h0:∃y ρ,Φ y∧ent keep n0 ρ S (st y))
  (h:∀y,Φ y→∀Q:St→Prop,(∀S' y' ρ,Φ y'→μ y' < μ y→ent keep n0 ρ S' (st y')→Q S')→W (.code c :: .post Q :: k) (st y)):W (.code (.loop c) :: k) S:=
 hR.loop c k S Y st Φ μ h0 fun y hy=>h y hy _ fun S' y' ρ a b c=>⟨y',ρ,a,b,c⟩
theorem two{G:Prop}{K:Type}{I:K→Prop}{k:K}(h1:I k→G)(h2:I k):G:=h1 h2
def zQ:zS:=⟨[(.bx,.box [.int .i64,.int .i64,.int .i64,.int .i64,.int .i64,.int .i64,.int .i64,.int .i64,.int .i64,.str,.list (.agg [.int .i64,.int .i64]),.list .str]),(.rd,.int .i64),(.rd,.int .i64),(.rd,.int .i64)],[],true,zO.pre,fun _=>[],
 fun ps=>[SC.pv { (if 0≤(nth ps 3).I then upN (nth ps 1).I (nth ps 2).I true (nth ps 3).I.toNat (zAj (nth ps 0).A) else dnN (nth ps 1).I (nth ps 2).I (-(nth ps 3).I).toNat (zAj (nth ps 0).A)) with hist:=(nth (nth ps 0).A 11).L }]⟩
set_option maxHeartbeats 0 in
theorem zG3:yQ Tryz.prog 88 zQ:=by
 have hE2:zCH Tryz.prog ⟨zr,_⟩:=zA (cs:=[]) zMa (zA (cs:=[]) zKH (zI (zF [])))
 refine zIY [0,1,2,3,8] [] (fun W=>(∃E N keep fin,zIp E N keep fin W)∧zPF Tryz.prog W) (fun C hC hP _ _=>⟨⟨_,_,_,_,zF2 hC⟩,hP ▸ zMc hC⟩) (zI (zF [])) zc Tryz.func88 rfl (by decide) rfl (by decide) rfl ?_
 intro ps hT hpre W hW hG
 obtain⟨⟨E0,N0,kp0,fin0,hG1⟩,hG2⟩:=hG
 simp only[zQ,TyA,Ty,Tys] at hT hpre
 obtain⟨_,_,rfl,⟨_,rfl,_,_,rfl,⟨w,rfl,hw⟩,_,_,rfl,⟨h,rfl,hh⟩,_,_,rfl,⟨x,rfl,hx⟩,_,_,rfl,⟨y,rfl,hy⟩,_,_,rfl,⟨look,rfl,hlook⟩,_,_,rfl,⟨top,rfl,htop⟩,_,_,rfl,⟨bot,rfl,hbot⟩,_,_,rfl,⟨sx,rfl,hsx⟩,_,_,rfl,⟨sy,rfl,hsy⟩,_,_,rfl,⟨tit,rfl,htit⟩,_,_,rfl,⟨cs,rfl,hcs,tcs⟩,_,_,rfl,⟨hist,rfl,hhist,thist⟩,rfl⟩,_,_,rfl,⟨a,rfl,ha⟩,_,_,rfl,⟨b,rfl,hb⟩,_,_,rfl,⟨k,rfl,hk⟩,rfl⟩:=hT
 simp only[zO,zE,zG,zBR,zBf,yu] at hpre
 obtain⟨hS,a0,ab,bh,k0,k1⟩:=hpre
 obtain⟨V,hV⟩:∃V:Nat,w=V:=⟨w.toNat,by have:=hS.w;simp only[zAj,zE,yu] at this;omega⟩
 obtain⟨A,hA⟩:∃A:Nat,a=A:=⟨a.toNat,by omega⟩
 obtain⟨B,hB⟩:∃B:Nat,b=B:=⟨b.toNat,by omega⟩
 subst hV hA hB
 obtain⟨S0,hS0⟩:∃S0:SC,S0=⟨V,h,x,y,look,top,bot,sx,sy,tit,cs,hist⟩:=⟨_,rfl⟩
 have hS:ScI S0:=by rw[hS0];exact hS
 have hw:=hS.w
 have hh:=hS.h
 have hw0:S0.w=V:=by rw[hS0]
 have hh0:S0.h=h:=by rw[hS0]
 rw[hw0] at hw
 rw[hh0] at hh
 have m1:B*V+V≤240:=by have:=Nat.mul_le_mul (show B+1≤10 by omega) (show V≤24 by omega);rw[Nat.add_mul,Nat.one_mul] at this;omega
 have m2:A*V≤B*V:=Nat.mul_le_mul_right _ (by omega)
 have m3:(B+1)*V≤h.toNat*V:=Nat.mul_le_mul_right _ (by omega)
 have m4:(B+1)*V=B*V+V:=by rw[Nat.add_mul,Nat.one_mul]
 have m5:(A+1)*V=A*V+V:=by rw[Nat.add_mul,Nat.one_mul]
 have i1:(A:Int)*V=((A*V:Nat):Int):=by simp
 have i2:(B:Int)*V=((B*V:Nat):Int):=by simp
 have w1:IntKind.i64.wrap ((A:Int)*V)=(A:Int)*V:=zC (by omega)
 have w2:IntKind.i64.wrap ((B:Int)*V)=(B:Int)*V:=zC (by omega)
 have w3:IntKind.i64.wrap ((B:Int)+1)=B+1:=zC (by omega)
 have w4:IntKind.i64.wrap ((A:Int)+1)=A+1:=zC (by omega)
 have j1:((B:Int)+1)*V=((B*V+V:Nat):Int):=by rw[Int.add_mul,Int.one_mul];simp
 have j2:((A:Int)+1)*V=((A*V+V:Nat):Int):=by rw[Int.add_mul,Int.one_mul];simp
 have w5:IntKind.i64.wrap (((B:Int)+1)*V)=((B:Int)+1)*V:=zC (by omega)
 have w6:IntKind.i64.wrap (((A:Int)+1)*V)=((A:Int)+1)*V:=zC (by omega)
 obtain⟨F,hF⟩:∃F:SC,F=if 0≤k then upN A B true k.toNat S0 else dnN A B (-k).toNat S0:=⟨_,rfl⟩
 have hsc:zAj [.int .i64 V,.int .i64 h,.int .i64 x,.int .i64 y,.int .i64 look,.int .i64 top,.int .i64 bot,.int .i64 sx,.int .i64 sy,.str tit,.list cs,.list hist]=S0:=by rw[hS0];rfl
 refine hW.vc [] _ _ ?_
 simp[-List.getD_eq_getElem?_getD,zQ,SC.pv]
 refine hG1.dup 8 _ _ ?_
 simp[-List.getD_eq_getElem?_getD,kDup]
 refine hG2.inl (E2:=⟨zr,_⟩) [0,1,2,3,8,9,10] _ _ _ _ _ [.ptr 2 0,.int .i64 A,.int .i64 B,.int .i64 k] Tryz.func89 rfl (by decide) rfl hE2 (by show(4:Nat)≤_;decide) (by show(List.range 4).all _=true;decide) rfl (by simp[-List.getD_eq_getElem?_getD,zNI]) (by simp[-List.getD_eq_getElem?_getD,zKd];exact⟨True,trivial⟩) ?_
 intro W2 hR hK
 refine hR.vc [] _ _ ?_
 simp[-List.getD_eq_getElem?_getD]
 by_cases hk:0≤k
 ·rw[if_pos hk] at hF
  have hif:∀(d:Decidable (0≤k)) (X Y:SC),@ite SC (0≤k) d X Y=X:=fun d X Y=>if_pos hk
  refine zIN hR (Option (Option (List PV)) × Nat × SC) (fun y=>wst [] A B y.2.1 hist y.1 y.2.2) (fun y=>y.2.1≤100∧ScI y.2.2∧y.2.2.w=V∧y.2.2.h=h∧F=upN A B true y.2.1 y.2.2) (fun y=>y.2.1) ⟨(none,k.toNat,S0),[(4,0),(5,1)],⟨by show k.toNat≤100;omega,hS,hw0,hh0,hF⟩,?_⟩ ?_
  ·simp[-List.getD_eq_getElem?_getD,wst,zCu,zC0]
   refine⟨by omega,?_⟩
   rw[hS0];and_intros<;>rfl
  ·rintro⟨m,n,s⟩ ⟨g1,g2,g3,g4,g5⟩ Q hQ
   simp only at g1 g2 g3 g4 g5
   obtain⟨w',h',x',y',look',top',bot',sx',sy',tit',cs',hist'⟩:=s
   simp only at g3 g4
   subst g3 g4
   have gn:=g2.nn
   have gm:=g2.m
   have gy:=g2.y
   simp only[Int.toNat_natCast] at gn gm gy
   have w7:IntKind.i64.wrap ((n:Int) - 1)=n - 1:=zC (by omega)
   apply two (K:=List KI) (I:=fun kk=>∀(m:Option (Option (List PV))) (HH:List PV),upS ⟨V,h',x',y',look',top',bot',sx',sy',tit',cs',hist'⟩ A B true=⟨V,h',x',y',look',top',bot',sx',sy',tit',upC cs' V A B,HH⟩→0 < n →
    W2 kk (wst [(9,.int .i64 ((A:Int)*V))] A B n hist m ⟨V,h',x',y',look',top',bot',sx',sy',tit',cs',HH⟩))
   ·intro inner
    have hUa:A=0→6 < (hist'.length:Int)+1→upS ⟨V,h',x',y',look',top',bot',sx',sy',tit',cs',hist'⟩ A B true=⟨V,h',x',y',look',top',bot',sx',sy',tit',upC cs' V A B,List.take hist'.length (hist'++[PV.str (zFi cs' V 0)]).tail⟩:=fun ha h6=>by
     have e:List.take hist'.length (hist'++[PV.str (zFi cs' V 0)]).tail=zL0 hist' (zFi cs' V 0):=by
      rw[zL0,if_pos (by omega),List.drop_one,List.take_of_length_le (by simp)]
     simp only[upS,Int.toNat_natCast]
     rw[if_pos ⟨by omega,trivial⟩,e]
    have hUb:A=0→(hist'.length:Int)+1≤6→upS ⟨V,h',x',y',look',top',bot',sx',sy',tit',cs',hist'⟩ A B true=⟨V,h',x',y',look',top',bot',sx',sy',tit',upC cs' V A B,hist'++[PV.str (zFi cs' V 0)]⟩:=fun ha h6=>by
     have e:hist'++[PV.str (zFi cs' V 0)]=zL0 hist' (zFi cs' V 0):=by
      rw[zL0,if_neg (by omega)]
     simp only[upS,Int.toNat_natCast]
     rw[if_pos ⟨by omega,trivial⟩,e]
    have hUc:¬A=0→upS ⟨V,h',x',y',look',top',bot',sx',sy',tit',cs',hist'⟩ A B true=⟨V,h',x',y',look',top',bot',sx',sy',tit',upC cs' V A B,hist'⟩:=fun ha=>by
     simp only[upS,Int.toNat_natCast]
     rw[if_neg (fun q=>ha (by omega))]
    rcases m with _ | _ | e
    ·refine hK.vcb [4] [(4,[10,13],.take 0 <| .take 1 <| .take 2 <| .take 3 <| .take 4 <| .take 5 <| .take 6 <| .take 7 <| .alt 8 (.alt 9 (.alt 10 (.take 11 <| .take 12 <| .alt 13 (.done) .stop) .stop) .stop) .stop),(10,[18],.take 0 <| .take 1 <| .take 2 <| .take 3 <| .take 4 <| .take 5 <| .take 6 <| .take 7 <| .take 8 <| .take 9 <| .take 10 <| .take 11 <| .take 12 <| .take 13 <| .take 14 <| .take 15 <| .take 16 <| .take 17 <| .alt 18 (.done) .stop),(11,[14],.take 0 <| .take 1 <| .take 2 <| .take 3 <| .take 4 <| .take 5 <| .take 6 <| .take 7 <| .take 8 <| .take 9 <| .take 10 <| .take 11 <| .take 12 <| .take 13 <| .alt 14 (.done) .stop),(17,[18],.take 0 <| .take 1 <| .take 2 <| .take 3 <| .take 4 <| .take 5 <| .take 6 <| .take 7 <| .take 8 <| .take 9 <| .take 10 <| .take 11 <| .take 12 <| .take 13 <| .take 14 <| .take 15 <| .take 16 <| .take 17 <| .alt 18 (.done) .stop),(18,[14],.take 0 <| .take 1 <| .take 2 <| .take 3 <| .take 4 <| .take 5 <| .take 6 <| .take 7 <| .take 8 <| .take 9 <| .take 10 <| .take 11 <| .take 12 <| .take 13 <| .alt 14 (.done) .stop)] _ _ ?_
     simp[-List.getD_eq_getElem?_getD,wst,zCu,zC0,w1]
     refine⟨fun hn=>⟨fun ha=>?_,fun ha=>?_⟩,fun hn=>?_⟩
     ·refine hK.drw 3 4 _ [10,13] (.take 0 <| .take 1 <| .take 2 <| .take 3 <| .take 4 <| .take 5 <| .take 6 <| .take 7 <| .alt 8 (.alt 9 (.alt 10 (.take 11 <| .take 12 <| .alt 13 (.done) .stop) .stop) .stop) .stop) _ _ (by decide +kernel) ?_
      simp[-List.getD_eq_getElem?_getD,zLD,kAt,zGL,zSb,zu]
      refine⟨⟨g2,by omega⟩,by omega,fun _=>⟨?_,?_⟩⟩
      ·refine hR.vc [] _ _ ?_
       simp[-List.getD_eq_getElem?_getD,w1]
       refine fun _=>⟨fun h6=>⟨by omega,fun _=>⟨by omega,?_⟩⟩,fun h6=>?_⟩
       ·refine hR.ent _ _ (wst [(9,.int .i64 ((A:Int)*V))] A B n hist (some (some (hist'++[PV.str (zFi cs' V 0)]))) ⟨V,h',x',y',look',top',bot',sx',sy',tit',cs',(List.take hist'.length (hist'++[PV.str (zFi cs' V 0)]).tail)⟩) [(5,11),(6,8)] ?_ (inner _ _ (hUa ha h6) (by omega))
        simp[-List.getD_eq_getElem?_getD,wst,zCu,zC0]
       ·refine hR.ent _ _ (wst [(9,.int .i64 ((A:Int)*V))] A B n hist none ⟨V,h',x',y',look',top',bot',sx',sy',tit',cs',(hist'++[PV.str (zFi cs' V 0)])⟩) [(5,8)] ?_ (inner _ _ (hUb ha h6) (by omega))
        simp[-List.getD_eq_getElem?_getD,wst,zCu,zC0]
      ·refine hR.vc [] _ _ ?_
       simp[-List.getD_eq_getElem?_getD,w1]
       refine fun _=>⟨fun h6=>⟨by omega,fun _=>⟨by omega,?_⟩⟩,fun h6=>?_⟩
       ·refine hR.ent _ _ (wst [(9,.int .i64 ((A:Int)*V))] A B n hist (some none) ⟨V,h',x',y',look',top',bot',sx',sy',tit',cs',(List.take hist'.length (hist'++[PV.str (zFi cs' V 0)]).tail)⟩) [(5,11)] ?_ (inner _ _ (hUa ha h6) (by omega))
        simp[-List.getD_eq_getElem?_getD,wst,zCu,zC0]
       ·refine hR.ent _ _ (wst [(9,.int .i64 ((A:Int)*V))] A B n hist (some none) ⟨V,h',x',y',look',top',bot',sx',sy',tit',cs',(hist'++[PV.str (zFi cs' V 0)])⟩) [(5,8)] ?_ (inner _ _ (hUb ha h6) (by omega))
        simp[-List.getD_eq_getElem?_getD,wst,zCu,zC0]
     ·refine hR.ent _ _ (wst [(9,.int .i64 ((A:Int)*V))] A B n hist none ⟨V,h',x',y',look',top',bot',sx',sy',tit',cs',hist'⟩) [] ?_ (inner _ _ (hUc ha) (by omega))
      simp[-List.getD_eq_getElem?_getD,wst,zCu,zC0]
     ·subst hn
      refine zIN hR Unit (fun _=>wst [] A B (0:Nat) hist none ⟨V,h',x',y',look',top',bot',sx',sy',tit',cs',hist'⟩) (fun _=>True) (fun _=>0) ⟨(),[],trivial,by simp[-List.getD_eq_getElem?_getD,wst,zCu,zC0]⟩ (fun _ _ Q2 hQ2=>?_)
      refine hR.vc [] _ _ ?_
      simp[-List.getD_eq_getElem?_getD,wst,zCu,zC0]
      refine hW.vc [] _ _ ?_
      simp[-List.getD_eq_getElem?_getD,zQ,SC.pv,hif,hsc,←hF,g5,upN]
    ·refine hR.vc [(4,[10,13],.take 0 <| .take 1 <| .take 2 <| .take 3 <| .take 4 <| .take 5 <| .take 6 <| .take 7 <| .alt 8 (.alt 9 (.alt 10 (.take 11 <| .take 12 <| .alt 13 (.done) .stop) .stop) .stop) .stop),(10,[18],.take 0 <| .take 1 <| .take 2 <| .take 3 <| .take 4 <| .take 5 <| .take 6 <| .take 7 <| .take 8 <| .take 9 <| .take 10 <| .take 11 <| .take 12 <| .take 13 <| .take 14 <| .take 15 <| .take 16 <| .take 17 <| .alt 18 (.done) .stop),(11,[14],.take 0 <| .take 1 <| .take 2 <| .take 3 <| .take 4 <| .take 5 <| .take 6 <| .take 7 <| .take 8 <| .take 9 <| .take 10 <| .take 11 <| .take 12 <| .take 13 <| .alt 14 (.done) .stop),(17,[18],.take 0 <| .take 1 <| .take 2 <| .take 3 <| .take 4 <| .take 5 <| .take 6 <| .take 7 <| .take 8 <| .take 9 <| .take 10 <| .take 11 <| .take 12 <| .take 13 <| .take 14 <| .take 15 <| .take 16 <| .take 17 <| .alt 18 (.done) .stop),(18,[14],.take 0 <| .take 1 <| .take 2 <| .take 3 <| .take 4 <| .take 5 <| .take 6 <| .take 7 <| .take 8 <| .take 9 <| .take 10 <| .take 11 <| .take 12 <| .take 13 <| .alt 14 (.done) .stop)] _ _ ?_
     simp[-List.getD_eq_getElem?_getD,wst,zCu,zC0,zu,w1]
     refine⟨fun hn=>⟨fun ha=>⟨by decide +kernel,⟨g2,by omega⟩,by omega,fun _ _=>⟨fun h6=>⟨by omega,fun _=>⟨by omega,?_⟩⟩,fun h6=>?_⟩⟩,fun ha=>?_⟩,fun hn=>?_⟩
     ·refine hR.ent _ _ (wst [(9,.int .i64 ((A:Int)*V))] A B n hist (some none) ⟨V,h',x',y',look',top',bot',sx',sy',tit',cs',(List.take hist'.length (hist'++[PV.str (zFi cs' V 0)]).tail)⟩) [(5,11)] ?_ (inner _ _ (hUa ha h6) (by omega))
      simp[-List.getD_eq_getElem?_getD,wst,zCu,zC0]
     ·refine hR.ent _ _ (wst [(9,.int .i64 ((A:Int)*V))] A B n hist (some none) ⟨V,h',x',y',look',top',bot',sx',sy',tit',cs',(hist'++[PV.str (zFi cs' V 0)])⟩) [(5,8)] ?_ (inner _ _ (hUb ha h6) (by omega))
      simp[-List.getD_eq_getElem?_getD,wst,zCu,zC0]
     ·refine hR.ent _ _ (wst [(9,.int .i64 ((A:Int)*V))] A B n hist (some none) ⟨V,h',x',y',look',top',bot',sx',sy',tit',cs',hist'⟩) [] ?_ (inner _ _ (hUc ha) (by omega))
      simp[-List.getD_eq_getElem?_getD,wst,zCu,zC0]
     ·subst hn
      refine zIN hR Unit (fun _=>wst [] A B (0:Nat) hist (some none) ⟨V,h',x',y',look',top',bot',sx',sy',tit',cs',hist'⟩) (fun _=>True) (fun _=>0) ⟨(),[],trivial,by simp[-List.getD_eq_getElem?_getD,wst,zCu,zC0]⟩ (fun _ _ Q2 hQ2=>?_)
      refine hR.vc [] _ _ ?_
      simp[-List.getD_eq_getElem?_getD,wst,zCu,zC0]
      refine hW.vc [] _ _ ?_
      simp[-List.getD_eq_getElem?_getD,zQ,SC.pv,hif,hsc,←hF,g5,upN]
    ·refine hR.vc [(4,[10,13],.take 0 <| .take 1 <| .take 2 <| .take 3 <| .take 4 <| .take 5 <| .take 6 <| .take 7 <| .alt 8 (.alt 9 (.alt 10 (.take 11 <| .take 12 <| .alt 13 (.done) .stop) .stop) .stop) .stop),(10,[18],.take 0 <| .take 1 <| .take 2 <| .take 3 <| .take 4 <| .take 5 <| .take 6 <| .take 7 <| .take 8 <| .take 9 <| .take 10 <| .take 11 <| .take 12 <| .take 13 <| .take 14 <| .take 15 <| .take 16 <| .take 17 <| .alt 18 (.done) .stop),(11,[14],.take 0 <| .take 1 <| .take 2 <| .take 3 <| .take 4 <| .take 5 <| .take 6 <| .take 7 <| .take 8 <| .take 9 <| .take 10 <| .take 11 <| .take 12 <| .take 13 <| .alt 14 (.done) .stop),(17,[18],.take 0 <| .take 1 <| .take 2 <| .take 3 <| .take 4 <| .take 5 <| .take 6 <| .take 7 <| .take 8 <| .take 9 <| .take 10 <| .take 11 <| .take 12 <| .take 13 <| .take 14 <| .take 15 <| .take 16 <| .take 17 <| .alt 18 (.done) .stop),(18,[14],.take 0 <| .take 1 <| .take 2 <| .take 3 <| .take 4 <| .take 5 <| .take 6 <| .take 7 <| .take 8 <| .take 9 <| .take 10 <| .take 11 <| .take 12 <| .take 13 <| .alt 14 (.done) .stop)] _ _ ?_
     simp[-List.getD_eq_getElem?_getD,wst,zCu,zC0,zu,w1]
     refine⟨fun hn=>⟨fun ha=>⟨by decide +kernel,⟨g2,by omega⟩,by omega,fun _ _=>⟨fun h6=>⟨by omega,fun _=>⟨by omega,?_⟩⟩,fun h6=>?_⟩⟩,fun ha=>?_⟩,fun hn=>?_⟩
     ·refine hR.ent _ _ (wst [(9,.int .i64 ((A:Int)*V))] A B n hist (some (some e)) ⟨V,h',x',y',look',top',bot',sx',sy',tit',cs',(List.take hist'.length (hist'++[PV.str (zFi cs' V 0)]).tail)⟩) [(5,11)] ?_ (inner _ _ (hUa ha h6) (by omega))
      simp[-List.getD_eq_getElem?_getD,wst,zCu,zC0]
     ·refine hR.ent _ _ (wst [(9,.int .i64 ((A:Int)*V))] A B n hist (some (some e)) ⟨V,h',x',y',look',top',bot',sx',sy',tit',cs',(hist'++[PV.str (zFi cs' V 0)])⟩) [(5,8)] ?_ (inner _ _ (hUb ha h6) (by omega))
      simp[-List.getD_eq_getElem?_getD,wst,zCu,zC0]
     ·refine hR.ent _ _ (wst [(9,.int .i64 ((A:Int)*V))] A B n hist (some (some e)) ⟨V,h',x',y',look',top',bot',sx',sy',tit',cs',hist'⟩) [] ?_ (inner _ _ (hUc ha) (by omega))
      simp[-List.getD_eq_getElem?_getD,wst,zCu,zC0]
     ·subst hn
      refine zIN hR Unit (fun _=>wst [] A B (0:Nat) hist (some (some e)) ⟨V,h',x',y',look',top',bot',sx',sy',tit',cs',hist'⟩) (fun _=>True) (fun _=>0) ⟨(),[],trivial,by simp[-List.getD_eq_getElem?_getD,wst,zCu,zC0]⟩ (fun _ _ Q2 hQ2=>?_)
      refine hR.vc [] _ _ ?_
      simp[-List.getD_eq_getElem?_getD,wst,zCu,zC0]
      refine hW.vc [] _ _ ?_
      simp[-List.getD_eq_getElem?_getD,zQ,SC.pv,hif,hsc,←hF,g5,upN]
   ·intro m HH hU hn
    have i1':(A:Int)*V=((A*V:Nat):Int):=by simp
    refine zIN hR Nat (fun i=>wst [(9,.int .i64 i)] A B n hist m ⟨V,h',x',y',look',top',bot',sx',sy',tit',shU cs' V (A*V) i,HH⟩) (fun i=>A*V≤i∧i≤B*V) (fun i=>B*V - i) ⟨A*V,[],⟨Nat.le_refl _,m2⟩,?_⟩ ?_
    ·rcases m with _ | _ | e
     all_goals
      simp[-List.getD_eq_getElem?_getD,wst,zCu,zC0]
      exact zNP.symm
    ·rintro i ⟨r1,r2⟩ Q2 hQ2
     have l1:=zDZ (cs:=cs') (w:=V) r1 (by omega)
     have w8:IntKind.i64.wrap ((i:Int)+1)=i+1:=zC (by omega)
     have w9:IntKind.i64.wrap ((i:Int)+V)=((i+V:Nat):Int):=by rw[zC (by omega)];simp
     obtain⟨p,hp⟩:∃p,p=i+V:=⟨_,rfl⟩
     rw[←hp] at w9
     have hB2:B*V+V≤cs'.length:=by omega
     have hcp:i < B*V→nth (shU cs' V (A*V) i) p=nth cs' p:=fun h=>by rw[zCe r1 (by omega) (by omega),if_neg (by omega),if_neg (by omega)]
     have hce:∀q,q < cs'.length→(.agg [.int .i64 (nth (nth cs' q).A 0).I,.int .i64 (nth (nth cs' q).A 1).I]:PV)=nth cs' q:=fun q hq=>by
      obtain⟨r,l,e,_⟩:=g2.c _ (yR hq)
      rw[e];rfl
     have hQ1:∀S' ρ,ent [0,1,2,3,8,9,10] 4 ρ S' (wst [] A B ((n:Int) - 1) hist m ⟨V,h',x',y',look',top',bot',sx',sy',tit',upC cs' V A B,HH⟩)→Q S':=by
      intro S' ρ he
      have e:((n - 1:Nat):Int)=(n:Int) - 1:=by omega
      rw[←e] at he
      have hI:ScI (upS ⟨V,h',x',y',look',top',bot',sx',sy',tit',cs',hist'⟩ A B true):=zRc g2 (by omega) (by omega) (by show(B:Int)≤h' - 1;omega)
      rw[hU] at hI
      refine hQ S' (m,n - 1,⟨V,h',x',y',look',top',bot',sx',sy',tit',upC cs' V A B,HH⟩) ρ ⟨by show n - 1≤100;omega,hI,rfl,rfl,?_⟩ (by show n - 1 < n;omega) he
      obtain⟨q,rfl⟩:∃q,n=q+1:=⟨n - 1,by omega⟩
      show F=upN A B true (q+1 - 1) _
      rw[←hU,g5];rfl
     have hQ3:i < B*V→∀S' ρ,ent [0,1,2,3,8,9,10] 4 ρ S' (wst [(9,.int .i64 ((i:Int)+1))] A B n hist m ⟨V,h',x',y',look',top',bot',sx',sy',tit',shU cs' V (A*V) (i+1),HH⟩)→Q2 S':=fun hi S' ρ he=>
      hQ2 S' (i+1) ρ ⟨by omega,by omega⟩ (by omega) (by simpa using he)
     rcases m with _ | _ | e
     all_goals
      refine hR.vc [(4,[10,13],.take 0 <| .take 1 <| .take 2 <| .take 3 <| .take 4 <| .take 5 <| .take 6 <| .take 7 <| .alt 8 (.alt 9 (.alt 10 (.take 11 <| .take 12 <| .alt 13 (.done) .stop) .stop) .stop) .stop),(10,[18],.take 0 <| .take 1 <| .take 2 <| .take 3 <| .take 4 <| .take 5 <| .take 6 <| .take 7 <| .take 8 <| .take 9 <| .take 10 <| .take 11 <| .take 12 <| .take 13 <| .take 14 <| .take 15 <| .take 16 <| .take 17 <| .alt 18 (.done) .stop),(11,[14],.take 0 <| .take 1 <| .take 2 <| .take 3 <| .take 4 <| .take 5 <| .take 6 <| .take 7 <| .take 8 <| .take 9 <| .take 10 <| .take 11 <| .take 12 <| .take 13 <| .alt 14 (.done) .stop),(17,[18],.take 0 <| .take 1 <| .take 2 <| .take 3 <| .take 4 <| .take 5 <| .take 6 <| .take 7 <| .take 8 <| .take 9 <| .take 10 <| .take 11 <| .take 12 <| .take 13 <| .take 14 <| .take 15 <| .take 16 <| .take 17 <| .alt 18 (.done) .stop),(18,[14],.take 0 <| .take 1 <| .take 2 <| .take 3 <| .take 4 <| .take 5 <| .take 6 <| .take 7 <| .take 8 <| .take 9 <| .take 10 <| .take 11 <| .take 12 <| .take 13 <| .alt 14 (.done) .stop)] _ _ ?_
      simp[-List.getD_eq_getElem?_getD,zBd,wst,zCu,zC0,w1,w2,w3,w5,w7,w8,w9]
      rw[i2,j1]
      refine⟨fun h=>⟨by decide +kernel,?_⟩,fun h=>⟨by decide +kernel,⟨by omega,by omega,by omega,by omega⟩,?_⟩⟩
      ·have h:i < B*V:=by omega
       have e:=zNQ (cs:=cs') (w:=V) r1 (by omega)
       rw[←hp,hcp h] at e
       rw[hcp h,hce p (by omega),e]
       refine⟨by omega,fun _ _ _ _=>⟨by omega,hQ3 h _ [] ?_⟩⟩
       simp[-List.getD_eq_getElem?_getD,wst,zCu,zC0]
      ·have ei:i=B*V:=by omega
       have e:zB6 (shU cs' V (A*V) i) ((B*V:Nat):Int).toNat ((B*V+V:Nat):Int).toNat=upC cs' V A B:=by
        rw[Int.toNat_natCast,Int.toNat_natCast,←m4,ei]
        exact zNK gn (by omega) (by omega)
       rw[e]
       refine hQ1 _ [(4,7)] ?_
       simp[-List.getD_eq_getElem?_getD,wst,zCu,zC0]
 ·rw[if_neg hk] at hF
  have hif:∀(d:Decidable (0≤k)) (X Y:SC),@ite SC (0≤k) d X Y=Y:=fun d X Y=>if_neg hk
  refine zIN hR Unit (fun _=>wst [] A B k hist none ⟨V,h,x,y,look,top,bot,sx,sy,tit,cs,hist⟩) (fun _=>True) (fun _=>0) ⟨(),[(4,0),(5,1)],trivial,?_⟩ (fun _ _ Q hQ=>?_)
  ·simp[-List.getD_eq_getElem?_getD,wst,zCu,zC0]
  refine hR.vc [] _ _ ?_
  simp[-List.getD_eq_getElem?_getD,wst,zCu,zC0]
  refine⟨by omega,fun _=>?_⟩
  refine zIN hR (Nat × SC) (fun y=>wst [] A B (-(y.1:Int)) hist none y.2) (fun y=>y.1≤100∧ScI y.2∧y.2.w=V∧y.2.h=h∧F=dnN A B y.1 y.2) (fun y=>y.1) ⟨((-k).toNat,S0),[],⟨by show(-k).toNat≤100;omega,hS,hw0,hh0,hF⟩,?_⟩ ?_
  ·simp[-List.getD_eq_getElem?_getD,wst,zCu,zC0]
   refine⟨by omega,?_⟩
   rw[hS0];and_intros<;>rfl
  ·rintro⟨m,s⟩ ⟨g1,g2,g3,g4,g5⟩ Q hQ
   simp only at g1 g2 g3 g4 g5
   have w7:IntKind.i64.wrap (-(m:Int)+1)=-(m:Int)+1:=zC (by omega)
   have gn:=g2.nn
   obtain⟨w',h',x',y',look',top',bot',sx',sy',tit',cs',hist'⟩:=s
   simp only at g3 g4 gn
   subst g3 g4
   simp only[Int.toNat_natCast] at gn
   have w10:IntKind.i64.wrap (((B:Int)+1)*V - 1)=((B:Int)+1)*V - 1:=zC (by omega)
   refine hR.vc [(4,[10,13],.take 0 <| .take 1 <| .take 2 <| .take 3 <| .take 4 <| .take 5 <| .take 6 <| .take 7 <| .alt 8 (.alt 9 (.alt 10 (.take 11 <| .take 12 <| .alt 13 (.done) .stop) .stop) .stop) .stop),(10,[18],.take 0 <| .take 1 <| .take 2 <| .take 3 <| .take 4 <| .take 5 <| .take 6 <| .take 7 <| .take 8 <| .take 9 <| .take 10 <| .take 11 <| .take 12 <| .take 13 <| .take 14 <| .take 15 <| .take 16 <| .take 17 <| .alt 18 (.done) .stop),(11,[14],.take 0 <| .take 1 <| .take 2 <| .take 3 <| .take 4 <| .take 5 <| .take 6 <| .take 7 <| .take 8 <| .take 9 <| .take 10 <| .take 11 <| .take 12 <| .take 13 <| .alt 14 (.done) .stop),(17,[18],.take 0 <| .take 1 <| .take 2 <| .take 3 <| .take 4 <| .take 5 <| .take 6 <| .take 7 <| .take 8 <| .take 9 <| .take 10 <| .take 11 <| .take 12 <| .take 13 <| .take 14 <| .take 15 <| .take 16 <| .take 17 <| .alt 18 (.done) .stop),(18,[14],.take 0 <| .take 1 <| .take 2 <| .take 3 <| .take 4 <| .take 5 <| .take 6 <| .take 7 <| .take 8 <| .take 9 <| .take 10 <| .take 11 <| .take 12 <| .take 13 <| .alt 14 (.done) .stop)] _ _ ?_
   simp[-List.getD_eq_getElem?_getD,wst,zCu,zC0,w1,w2,w3,w4,w5,w6,w7,w10]
   have hB2:B*V+V≤cs'.length:=by omega
   refine⟨fun hm=>?_,fun hm=>?_⟩
   ·refine zIN hR Nat (fun j=>wst [(10,.int .i64 ((j:Int) - 1))] A B (-(m:Int)) hist none ⟨V,h',x',y',look',top',bot',sx',sy',tit',shD cs' V (B*V+V) j,hist'⟩) (fun j=>A*V+V≤j∧j≤B*V+V) (fun j=>j) ⟨B*V+V,[],⟨by omega,by omega⟩,?_⟩ ?_
    ·simp[-List.getD_eq_getElem?_getD,wst,zCu,zC0]
     refine⟨?_,zSD.symm⟩
     rw[j1];simp
    ·rintro j ⟨r1,r2⟩ Q2 hQ2
     have l1:=zFd (cs:=cs') (w:=V) (hi:=B*V+V) r2 hB2
     have w8:IntKind.i64.wrap ((j:Int) - 1 - 1)=j - 1 - 1:=zC (by omega)
     have w9:IntKind.i64.wrap ((j:Int) - 1 - V)=j - 1 - V:=zC (by omega)
     have hQ1:∀S' ρ,ent [0,1,2,3,8,9,10] 4 ρ S' (wst [] A B (-(m:Int)+1) hist none ⟨V,h',x',y',look',top',bot',sx',sy',tit',dnC cs' V A B,hist'⟩)→Q S':=by
      intro S' ρ he
      have e:-((m - 1:Nat):Int)=-(m:Int)+1:=by omega
      rw[←e] at he
      have hI:ScI (dnS ⟨V,h',x',y',look',top',bot',sx',sy',tit',cs',hist'⟩ A B):=dn_I g2 (by omega) (by omega) (by show(B:Int)≤h' - 1;omega)
      have hU:dnS ⟨V,h',x',y',look',top',bot',sx',sy',tit',cs',hist'⟩ A B=⟨V,h',x',y',look',top',bot',sx',sy',tit',dnC cs' V A B,hist'⟩:=rfl
      rw[hU] at hI
      refine hQ S' (m - 1,⟨V,h',x',y',look',top',bot',sx',sy',tit',dnC cs' V A B,hist'⟩) ρ ⟨by show m - 1≤100;omega,hI,rfl,rfl,?_⟩ (by show m - 1 < m;omega) he
      obtain⟨q,rfl⟩:∃q,m=q+1:=⟨m - 1,by omega⟩
      show F=dnN A B (q+1 - 1) _
      rw[←hU,g5];rfl
     have hQ3:A*V+V < j→∀S' ρ,ent [0,1,2,3,8,9,10] 4 ρ S' (wst [(10,.int .i64 ((j:Int) - 1 - 1))] A B (-(m:Int)) hist none ⟨V,h',x',y',look',top',bot',sx',sy',tit',shD cs' V (B*V+V) (j - 1),hist'⟩)→Q2 S':=fun hi S' ρ he=>
      hQ2 S' (j - 1) ρ ⟨by omega,by omega⟩ (by omega) (by rw[show((j - 1:Nat):Int)=(j:Int) - 1 by omega];exact he)
     refine hR.vc [(4,[10,13],.take 0 <| .take 1 <| .take 2 <| .take 3 <| .take 4 <| .take 5 <| .take 6 <| .take 7 <| .alt 8 (.alt 9 (.alt 10 (.take 11 <| .take 12 <| .alt 13 (.done) .stop) .stop) .stop) .stop),(10,[18],.take 0 <| .take 1 <| .take 2 <| .take 3 <| .take 4 <| .take 5 <| .take 6 <| .take 7 <| .take 8 <| .take 9 <| .take 10 <| .take 11 <| .take 12 <| .take 13 <| .take 14 <| .take 15 <| .take 16 <| .take 17 <| .alt 18 (.done) .stop),(11,[14],.take 0 <| .take 1 <| .take 2 <| .take 3 <| .take 4 <| .take 5 <| .take 6 <| .take 7 <| .take 8 <| .take 9 <| .take 10 <| .take 11 <| .take 12 <| .take 13 <| .alt 14 (.done) .stop),(17,[18],.take 0 <| .take 1 <| .take 2 <| .take 3 <| .take 4 <| .take 5 <| .take 6 <| .take 7 <| .take 8 <| .take 9 <| .take 10 <| .take 11 <| .take 12 <| .take 13 <| .take 14 <| .take 15 <| .take 16 <| .take 17 <| .alt 18 (.done) .stop),(18,[14],.take 0 <| .take 1 <| .take 2 <| .take 3 <| .take 4 <| .take 5 <| .take 6 <| .take 7 <| .take 8 <| .take 9 <| .take 10 <| .take 11 <| .take 12 <| .take 13 <| .alt 14 (.done) .stop)] _ _ ?_
     simp[-List.getD_eq_getElem?_getD,zBd,wst,zCu,zC0,w1,w4,w6,w7,w8,w9]
     have hce:∀q,q < cs'.length→(.agg [.int .i64 (nth (nth cs' q).A 0).I,.int .i64 (nth (nth cs' q).A 1).I]:PV)=nth cs' q:=fun q hq=>by
      obtain⟨r,l,e,_⟩:=g2.c _ (yR hq)
      rw[e];rfl
     rw[j2,i1]
     refine⟨fun h=>⟨by decide +kernel,⟨by omega,by omega⟩,by omega,fun _ _ _ _=>⟨⟨by omega,by omega⟩,by omega,hQ3 (by omega) _ [] ?_⟩⟩,fun h=>⟨by decide +kernel,⟨by omega,by omega,by omega,by omega⟩,?_⟩⟩
     ·obtain⟨q,rfl⟩:∃q,j=q+1:=⟨j - 1,by omega⟩
      have e:=zSE (cs:=cs') (w:=V) (hi:=B*V+V) (j:=q) (by omega) (by omega) (by omega)
      have hcp:nth (shD cs' V (B*V+V) (q+1)) (q - V)=nth cs' (q - V):=by rw[zEZ (by omega) (by omega) (by omega) (by omega),if_pos (by omega)]
      rw[hcp] at e
      simp[-List.getD_eq_getElem?_getD,wst,zCu,zC0]
      rw[hcp,hce _ (by omega),e]
     ·have ej:j=A*V+V:=by omega
      have e:zB6 (shD cs' V (B*V+V) j) ((A*V:Nat):Int).toNat ((A*V+V:Nat):Int).toNat=dnC cs' V A B:=by
       rw[Int.toNat_natCast,Int.toNat_natCast,ej,←m5,←m4]
       exact zSg gn (by omega) (by omega)
      rw[e]
      refine hQ1 _ [(4,7)] ?_
      simp[-List.getD_eq_getElem?_getD,wst,zCu,zC0]
   ·subst hm
    refine hW.vc [] _ _ ?_
    simp[-List.getD_eq_getElem?_getD,zQ,SC.pv,hif,hsc,←hF,g5,dnN]
end
section
variable [zZ]
theorem zJk{es:List PV}{i:Nat}{o:Int}(h8:∀e∈es,∃m,e=.int .i64 m∧-1≤m∧m≤9999)(ho:0≤o∧o≤9999):0≤yi es i o∧yi es i o≤9999:=by
 unfold yi
 split
 ·exact ho
 ·rename_i hq
  obtain⟨m,hm,m1,m2⟩:=h8 _ (yR (show i < es.length by omega))
  rw[hm] at hq ⊢
  simp only[yu] at hq ⊢
  omega
theorem zDP{A B:SC}(h:A=B):A.w=B.w∧A.h=B.h∧A.x=B.x∧A.y=B.y∧A.look=B.look∧A.top=B.top∧A.bot=B.bot∧A.sx=B.sx∧A.sy=B.sy∧A.tit=B.tit∧A.cs=B.cs∧A.hist=B.hist:=by
 subst h;and_intros<;>rfl
theorem zIM:∀(as_:List PV) (l:Int) (a:PV),zKz l (as_++[a])=zKE (zKz l as_) (zCI 0 a.I)
 | [],_,_=>rfl
 | b :: as_,l,a=>by rw[List.cons_append,zKz,zIM as_];rfl
theorem luk_s{es:List PV}{i:Nat}{l:Int}(h:i < es.length):zKE (zKz l (es.take i)) (if 0 < (nth es i).I then (nth es i).I else 0)=zKz l (es.take (i+1)):=by
 rw[List.take_add_one,List.getElem?_eq_getElem h,Option.toList_some,zIM]
 have e:es[i]=nth es i:=by rw[nth,List.getD_eq_getElem?_getD,List.getElem?_eq_getElem h];rfl
 rw[e];rfl
theorem zPq{es:List PV}{i:Nat}(h:es.length≤140737488355328)(h2:i < es.length):IntKind.i64.wrap ((i:Int)+1)=((i+1:Nat):Int):=by rw[zC (by omega)];simp
theorem zSV{n i:Nat}(h:i < n):n - ((i+1:Nat):Int).toNat < n - i:=by omega
theorem zR9{a b:Int}{k k2:Bool}:∀(n:Nat) (s:SC) (H:List PV),({ upN a b k n { s with hist:=H } with hist:=[] }:SC)={ upN a b k2 n s with hist:=[] }
 | 0,_,_=>rfl
 | n+1,s,H=>by
  have e:upS { s with hist:=H } a b k={ upS s a b k2 with hist:=(upS { s with hist:=H } a b k).hist }:=rfl
  show({ upN a b k n (upS { s with hist:=H } a b k) with hist:=[] }:SC)={ upN a b k2 n (upS s a b k2) with hist:=[] }
  rw[e];exact zR9 n _ _
theorem zOq{a b:Int}:∀(n:Nat) (s:SC),(upN a b false n s).hist=s.hist
 | 0,_=>rfl
 | n+1,s=>by
  show(upN a b false n (upS s a b false)).hist=_
  rw[zOq n];simp[upS]
theorem upN_f{a b:Int}{n:Nat}{s:SC}:upN a b false n s={ upN a b true n s with hist:=s.hist }:=by
 have h:=zR9 (a:=a) (b:=b) (k:=false) (k2:=true) n s s.hist
 have h2:=congrArg (fun t:SC=>({ t with hist:=s.hist }:SC)) h
 have h3:=zOq (a:=a) (b:=b) n s
 have h4:upN a b false n s=({ upN a b false n s with hist:=s.hist }:SC):=by
  generalize upN a b false n s=t at h3
  cases t;simp only at h3;rw[h3]
 exact h4.trans h2
theorem zSh{a b:Int}:∀(n:Nat) (s:SC),(dnN a b n s).hist=s.hist
 | 0,_=>rfl
 | n+1,s=>by
  show(dnN a b n (dnS s a b)).hist=_
  rw[zSh n];rfl
theorem if_a{a b:Int}:(if a < b then b - a else 0)=zCI 0 (b - a):=by unfold zCI;split<;>split<;>omega
theorem if_b{a b:Int}:(if a < b then a else b)=yp b a:=by unfold yp;split<;>split<;>omega
theorem if_c{a b:Int}:(if a < b then a - 1 else b - 1)=yp (b - 1) (a - 1):=by unfold yp;split<;>split<;>omega
theorem zSR{n b y h m:Int}(h1:1≤n)(h2:y≤b)(hy:0≤y)(hb:b≤h - 1)(hh:h≤10)(h3:m=n∨m=b - y+1)(h4:m≤b - y+1):1≤m∧m≤10∧b < h:=by omega
theorem le_a{m:Int}(h:m≤10):m≤100:=by omega
theorem le_b{m:Int}(h:1≤m):-m≤100:=by omega
theorem le_c{m:Int}(h:1≤m):-100≤m:=by omega
theorem le_d{m:Int}(h:1≤m):¬m≤0:=by omega
theorem le_e{m:Int}(h:1≤m):0≤m:=by omega
theorem zSQ{n b y m:Int}(h1:1≤n)(h2:y≤b)(h3:m=n∨m=b - y+1):1≤m:=by omega
section
variable {s:SC} {la:List PV}
theorem zSq:csi s 65 la={ s with y:=zCI 0 (s.y - zCI 1 (yi la 0 1)) }:=by unfold csi;simp
theorem zSp:csi s 66 la={ s with y:=yp (s.h - 1) (s.y+zCI 1 (yi la 0 1)) }:=by unfold csi;simp
theorem zSo:csi s 67 la={ s with x:=yp (s.w - 1) (s.x+zCI 1 (yi la 0 1)) }:=by unfold csi;simp
theorem zSn:csi s 68 la={ s with x:=zCI 0 (yp s.x (s.w - 1) - zCI 1 (yi la 0 1)) }:=by unfold csi;simp
theorem zSm{k:Int}(h:k=72∨k=102):csi s k la={ s with y:=yp (s.h - 1) (zCI 1 (yi la 0 1) - 1),x:=yp (s.w - 1) (zCI 1 (yi la 1 1) - 1) }:=by rcases h with rfl | rfl<;>(unfold csi;simp)
theorem zQC(h:yi la 0 0=0):csi s 74 la={ s with cs:=zB6 s.cs (atS s) (s.w*s.h).toNat }:=by unfold csi;simp[h]
theorem zQB(h:yi la 0 0=1):csi s 74 la={ s with cs:=zB6 s.cs 0 (atS s+1) }:=by unfold csi;simp[h]
theorem zQA(h:yi la 0 0=2):csi s 74 la={ s with cs:=zB6 s.cs 0 (s.w*s.h).toNat }:=by unfold csi;simp[h]
theorem zP9(h0:¬yi la 0 0=0)(h1:¬yi la 0 0=1)(h2:¬yi la 0 0=2):csi s 74 la=s:=by unfold csi;simp[h0,h1,h2]
theorem zP8(h:yi la 0 0=0):csi s 75 la={ s with cs:=zB6 s.cs (atS s) ((s.y+1)*s.w).toNat }:=by unfold csi;simp[h]
theorem zP7(h:yi la 0 0=1):csi s 75 la={ s with cs:=zB6 s.cs (s.y*s.w).toNat (atS s+1) }:=by unfold csi;simp[h]
theorem zP6(h:yi la 0 0=2):csi s 75 la={ s with cs:=zB6 s.cs (s.y*s.w).toNat ((s.y+1)*s.w).toNat }:=by unfold csi;simp[h]
theorem zP5(h0:¬yi la 0 0=0)(h1:¬yi la 0 0=1)(h2:¬yi la 0 0=2):csi s 75 la=s:=by unfold csi;simp[h0,h1,h2]
theorem zSl(h:inB s.y s.top s.bot=true):csi s 76 la={ dnN s.y s.bot (yp (zCI 1 (yi la 0 1)) (s.bot - s.y+1)).toNat s with x:=0 }:=by unfold csi;simp[h]
theorem zP4(h:inB s.y s.top s.bot=false):csi s 76 la=s:=by unfold csi;simp[h]
theorem zSk(h:inB s.y s.top s.bot=true):csi s 77 la={ upN s.y s.bot true (yp (zCI 1 (yi la 0 1)) (s.bot - s.y+1)).toNat s with x:=0,hist:=s.hist }:=by unfold csi;simp[h,upN_f]
theorem zP3(h:inB s.y s.top s.bot=false):csi s 77 la=s:=by unfold csi;simp[h]
theorem zSj:csi s 83 la=upN s.top s.bot true (yp (zCI 1 (yi la 0 1)) (s.bot - s.top+1)).toNat s:=by unfold csi;simp
theorem zSi:csi s 84 la=dnN s.top s.bot (yp (zCI 1 (yi la 0 1)) (s.bot - s.top+1)).toNat s:=by unfold csi;simp
theorem zQE:csi s 109 la={ s with look:=zKz s.look la }:=by unfold csi;simp
theorem zQD(h:zCI 1 (yi la 0 1) < yp s.h (yi la 1 s.h)):csi s 114 la={ s with top:=zCI 1 (yi la 0 1) - 1,bot:=yp s.h (yi la 1 s.h) - 1,x:=0,y:=0 }:=by
 unfold csi;simp;omega
theorem zN6(h:yp s.h (yi la 1 s.h)≤zCI 1 (yi la 0 1)):csi s 114 la=s:=by
 unfold csi;simp;omega
theorem csi_X{k:Int}(d1:¬k=65)(d2:¬k=66)(d3:¬k=67)(d4:¬k=68)(d5:¬k=72)(d6:¬k=102)(d7:¬k=74)(d8:¬k=75)(d9:¬k=76)(d10:¬k=77)(d11:¬k=83)(d12:¬k=84)(d13:¬k=109)(d14:¬k=114):csi s k la=s:=by
 unfold csi;simp only[d1,d2,d3,d4,d5,d6,d7,d8,d9,d10,d11,d12,d13,d14,if_false,or_false]
end
end
section
variable [zZ]
def z8:zS:=⟨[(.bx,.box [.int .i64,.int .i64,.int .i64,.int .i64,.int .i64,.int .i64,.int .i64,.int .i64,.int .i64,.str,.list (.agg [.int .i64,.int .i64]),.list .str]),(.rd,.agg [.int .i64,.int .i64,.bool,.list (.int .i64),.str])],[],true,fun ps=>ScI (zAj (nth ps 0).A)∧acI (nth ps 1),fun _=>[],
 fun ps=>[SC.pv (cond (nth (nth ps 1).A 2).B (zAj (nth ps 0).A) (csi (zAj (nth ps 0).A) (nth (nth ps 1).A 1).I (nth (nth ps 1).A 3).L))]⟩
set_option pp.deepTerms true in
set_option pp.maxSteps 1000000 in
set_option maxHeartbeats 0 in
theorem zPt:yQ Tryz.prog 69 z8:=by
 refine zIY [0,1,3,4,5,6,7,8,9,39,134,171] [] _ (zNk (zA (cs:=[]) zKG (zA (cs:=[]) zFI (zA (cs:=[]) zG3 (zA (cs:=[]) zAU (zA (cs:=[]) zJP (zA (cs:=[]) zKK (zI (zF []))))))))) (zA (cs:=[]) zKG (zA (cs:=[]) zFI (zA (cs:=[]) zG3 (zA (cs:=[]) zAU (zA (cs:=[]) zJP (zA (cs:=[]) zKK (zI (zF [])))))))) zc Tryz.func69 rfl (by decide) rfl (by decide) rfl ?_
 intro ps hT hpre W hW hB
 simp only[z8,TyA,Ty,Tys] at hT hpre
 obtain⟨_,_,rfl,⟨_,rfl,_,_,rfl,⟨w,rfl,hw⟩,_,_,rfl,⟨h,rfl,hh⟩,_,_,rfl,⟨x,rfl,hx⟩,_,_,rfl,⟨y,rfl,hy⟩,_,_,rfl,⟨look,rfl,hlook⟩,_,_,rfl,⟨top,rfl,htop⟩,_,_,rfl,⟨bot,rfl,hbot⟩,_,_,rfl,⟨sx,rfl,hsx⟩,_,_,rfl,⟨sy,rfl,hsy⟩,_,_,rfl,⟨tit,rfl,htit⟩,_,_,rfl,⟨cs,rfl,hcs,tcs⟩,_,_,rfl,⟨hist,rfl,hhist,thist⟩,rfl⟩,_,_,rfl,⟨_,rfl,_,_,rfl,⟨kk,rfl,hkk⟩,_,_,rfl,⟨kn,rfl,hkn⟩,_,_,rfl,⟨kp,rfl⟩,_,_,rfl,⟨es,rfl,hes,tes⟩,_,_,rfl,⟨kt,rfl,hkt⟩,rfl⟩,rfl⟩:=hT
 simp only[zE,zG,zBR] at hpre
 obtain⟨hS,hA⟩:=hpre
 obtain⟨S0,hS0⟩:∃S0:SC,S0=⟨w,h,x,y,look,top,bot,sx,sy,tit,cs,hist⟩:=⟨_,rfl⟩
 have hS:ScI S0:=by rw[hS0];exact hS
 have hsc:zAj [.int .i64 w,.int .i64 h,.int .i64 x,.int .i64 y,.int .i64 look,.int .i64 top,.int .i64 bot,.int .i64 sx,.int .i64 sy,.str tit,.list cs,.list hist]=S0:=by rw[hS0];rfl
 have hw:=hS.w;have hh:=hS.h;have hx:=hS.x;have hy:=hS.y;have hb:=hS.b;have ht:=hS.t
 have hat:=zPA hS
 have ex:S0.x=x:=by rw[hS0]
 have ey:S0.y=y:=by rw[hS0]
 have ew:S0.w=w:=by rw[hS0]
 have eh:S0.h=h:=by rw[hS0]
 have et:S0.top=top:=by rw[hS0]
 have eb:S0.bot=bot:=by rw[hS0]
 have ec:S0.cs=cs:=by rw[hS0]
 rw[ew] at hw;rw[eh] at hh;rw[ex,ew] at hx;rw[ey,eh] at hy;rw[et,eb,eh] at hb;rw[et] at ht
 rw[ey,ew,eh,ec] at hat
 have p0:0≤y*w:=Int.mul_nonneg (by omega) (by omega)
 have p3:y*w≤9*24:=Int.mul_le_mul (by omega) (by omega) (by omega) (by omega)
 have p4:w*h≤24*10:=Int.mul_le_mul (by omega) (by omega) (by omega) (by omega)
 have p5:(y+1)*w=y*w+w:=by rw[Int.add_mul,Int.one_mul]
 have p6:0≤w*h:=Int.mul_nonneg (by omega) (by omega)
 have w1:IntKind.i64.wrap (w - 1)=w - 1:=zC (by omega)
 have w2:IntKind.i64.wrap (h - 1)=h - 1:=zC (by omega)
 have w3:IntKind.i64.wrap (y*w)=y*w:=zC (by omega)
 have w4:IntKind.i64.wrap (w*h)=w*h:=zC (by omega)
 have w5:IntKind.i64.wrap (y+1)=y+1:=zC (by omega)
 have w6:IntKind.i64.wrap ((y+1)*w)=(y+1)*w:=zC (by omega)
 have m1:(if w - 1 < x then w - 1 else x)=yp x (w - 1):=by unfold yp;split<;>split<;>omega
 have m2:=zAE (a:=x) (b:=w - 1)
 have a1:((atS S0:Nat):Int)=y*w+yp x (w - 1):=by rw[atS,ex,ey,ew];omega
 have w7:IntKind.i64.wrap (y*w+yp x (w - 1))=((atS S0:Nat):Int):=by rw[a1];exact zC (by omega)
 obtain⟨AT,hAT⟩:∃AT,AT=atS S0:=⟨_,rfl⟩
 rw[←hAT] at hat a1 w7
 have w8:IntKind.i64.wrap ((AT:Int)+1)=((AT+1:Nat):Int):=by rw[zC (by omega)];simp
 have j1:(AT:Int)≤w*h∧w*h≤(cs.length:Int)∧w*h≤10000:=by omega
 have j2:0≤(AT:Int)+1∧(AT:Int)+1≤(cs.length:Int)∧(AT:Int)+1≤10000:=by omega
 have l1:(AT:Int)≤(y+1)*w∧(y+1)*w≤(cs.length:Int)∧(y+1)*w≤10000:=by omega
 have l2:0≤y*w∧y*w≤(AT:Int)+1∧(AT:Int)+1≤(cs.length:Int)∧(AT:Int)+1≤10000:=by omega
 have l3:0≤y*w∧y*w≤(y+1)*w∧(y+1)*w≤(cs.length:Int)∧(y+1)*w≤10000:=by omega
 have j3:0≤w*h∧w*h≤(cs.length:Int)∧w*h≤10000:=by omega
 obtain⟨k',n',p',as',t',he,k1,k2,k3,n1,n2,l8,h8,t4⟩:=hA
 simp only[zE,zG,acV,PV.agg.injEq,List.cons.injEq,PV.int.injEq,PV.bool.injEq,PV.list.injEq,PV.str.injEq,true_and,and_true] at he
 obtain⟨rfl,rfl,rfl,rfl,rfl⟩:=he
 refine hW.vc [] _ _ ?_
 simp[-List.getD_eq_getElem?_getD,z8,zo,zY,zb,zQ,zO,zn,zJ,SC.pv,hsc]
 refine⟨fun q=>?_,fun q=>?_⟩
 ·rw[q,hS0];and_intros<;>first | rfl | trivial
 obtain⟨N,hN⟩:∃N,N=zCI 1 (yi es 0 1):=⟨_,rfl⟩
 have hN1:=zCj (a:=1) (b:=yi es 0 1)
 rw[←hN] at hN1
 have eN:(if 1 < yi es 0 1 then yi es 0 1 else 1)=N:=by rw[hN,zCI]
 obtain⟨R,hR⟩:∃R,R=csi S0 kn es:=⟨_,rfl⟩
 have b0:=zJk (es:=es) (i:=0) (o:=1) h8 (by omega)
 have b1:=zJk (es:=es) (i:=1) (o:=1) h8 (by omega)
 have bh:=zJk (es:=es) (i:=1) (o:=h) h8 (by omega)
 have hN9:1≤N∧N≤9999:=by omega
 obtain⟨M1,hM1⟩:∃M1,M1=zCI 1 (yi es 1 1):=⟨_,rfl⟩
 have hM2:=zCj (a:=1) (b:=yi es 1 1)
 rw[←hM1] at hM2
 have eM:(if 1 < yi es 1 1 then yi es 1 1 else 1)=M1:=by rw[hM1,zCI]
 obtain⟨MB,hMB⟩:∃MB,MB=yp N (bot - y+1):=⟨_,rfl⟩
 have hMB2:=zAE (a:=N) (b:=bot - y+1)
 rw[←hMB] at hMB2
 have eMB:(if bot - y+1 < N then bot - y+1 else N)=MB:=by rw[hMB];unfold yp;split<;>split<;>omega
 obtain⟨MT,hMT⟩:∃MT,MT=yp N (bot - top+1):=⟨_,rfl⟩
 have hMT2:=zAE (a:=N) (b:=bot - top+1)
 rw[←hMT] at hMT2
 have eMT:(if bot - top+1 < N then bot - top+1 else N)=MT:=by rw[hMT];unfold yp;split<;>split<;>omega
 have u1:IntKind.i64.wrap (bot - y)=bot - y:=zC (by omega)
 have u2:IntKind.i64.wrap (bot - y+1)=bot - y+1:=zC (by omega)
 have u3:IntKind.i64.wrap (bot - top)=bot - top:=zC (by omega)
 have u4:IntKind.i64.wrap (bot - top+1)=bot - top+1:=zC (by omega)
 have u5:IntKind.i64.wrap (-MB)=-MB:=zC (by omega)
 have u6:IntKind.i64.wrap (-MT)=-MT:=zC (by omega)
 have u7:IntKind.i64.wrap (y - N)=y - N:=zC (by omega)
 have u8:IntKind.i64.wrap (y+N)=y+N:=zC (by omega)
 have u9:IntKind.i64.wrap (x+N)=x+N:=zC (by omega)
 have v1:IntKind.i64.wrap (yp x (w - 1) - N)=yp x (w - 1) - N:=zC (by omega)
 have v2:IntKind.i64.wrap (N - 1)=N - 1:=zC (by omega)
 have v3:IntKind.i64.wrap (M1 - 1)=M1 - 1:=zC (by omega)
 obtain⟨MH,hMH⟩:∃MH,MH=yp h (yi es 1 h):=⟨_,rfl⟩
 have hMH2:=zAE (a:=h) (b:=yi es 1 h)
 rw[←hMH] at hMH2
 have eMH:(if yi es 1 h < h then yi es 1 h else h)=MH:=by rw[hMH];unfold yp;split<;>split<;>omega
 have v4:IntKind.i64.wrap (MH - 1)=MH - 1:=zC (by omega)
 have c1:(0≤MT)=True:=by simp;omega
 have c2:(0≤-MT)=False:=by simp;omega
 have k65:(if N < y then y - N else 0)=zCI 0 (y - N):=if_a
 have k66:(if y+N < h - 1 then y+N else h - 1)=yp (h - 1) (y+N):=if_b
 have k67:(if x+N < w - 1 then x+N else w - 1)=yp (w - 1) (x+N):=if_b
 have k68:(if N < yp x (w - 1) then yp x (w - 1) - N else 0)=zCI 0 (yp x (w - 1) - N):=if_a
 have k72:(if M1 < w then M1 - 1 else w - 1)=yp (w - 1) (M1 - 1):=if_c
 have k73:(if N < h then N - 1 else h - 1)=yp (h - 1) (N - 1):=if_c
 have e65:kn=65→(⟨w,h,x,(if N < y then y - N else 0),look,top,bot,sx,sy,tit,cs,hist⟩:SC)=R:=fun c=>by rw[hR,c,zSq,←hN,k65];subst hS0;rfl
 have e66:kn=66→(⟨w,h,x,(if y+N < h - 1 then y+N else h - 1),look,top,bot,sx,sy,tit,cs,hist⟩:SC)=R:=fun c=>by rw[hR,c,zSp,←hN,k66];subst hS0;rfl
 have e67:kn=67→(⟨w,h,(if x+N < w - 1 then x+N else w - 1),y,look,top,bot,sx,sy,tit,cs,hist⟩:SC)=R:=fun c=>by rw[hR,c,zSo,←hN,k67];subst hS0;rfl
 have e68:kn=68→(⟨w,h,(if N < yp x (w - 1) then yp x (w - 1) - N else 0),y,look,top,bot,sx,sy,tit,cs,hist⟩:SC)=R:=fun c=>by rw[hR,c,zSn,←hN,k68];subst hS0;rfl
 have e72:kn=72∨kn=102→(⟨w,h,(if M1 < w then M1 - 1 else w - 1),(if N < h then N - 1 else h - 1),look,top,bot,sx,sy,tit,cs,hist⟩:SC)=R:=fun c=>by rw[hR,zSm c,←hN,←hM1,k72,k73];subst hS0;rfl
 have e740:kn=74→yi es 0 0=0→({ S0 with cs:=zB6 cs AT (w*h).toNat }:SC)=R:=fun c d=>by rw[hR,c,zQC d,←hAT];subst hS0;rfl
 have e741:kn=74→yi es 0 0=1→({ S0 with cs:=zB6 cs 0 (AT+1) }:SC)=R:=fun c d=>by rw[hR,c,zQB d,←hAT];subst hS0;rfl
 have e742:kn=74→yi es 0 0=2→({ S0 with cs:=zB6 cs 0 (w*h).toNat }:SC)=R:=fun c d=>by rw[hR,c,zQA d];subst hS0;rfl
 have e743:kn=74→¬yi es 0 0=0→¬yi es 0 0=1→¬yi es 0 0=2→(⟨w,h,x,y,look,top,bot,sx,sy,tit,cs,hist⟩:SC)=R:=fun c d0 d1 d2=>by rw[hR,c,zP9 d0 d1 d2];subst hS0;rfl
 have e750:kn=75→yi es 0 0=0→({ S0 with cs:=zB6 cs AT ((y+1)*w).toNat }:SC)=R:=fun c d=>by rw[hR,c,zP8 d,←hAT];subst hS0;rfl
 have e751:kn=75→yi es 0 0=1→({ S0 with cs:=zB6 cs (y*w).toNat (AT+1) }:SC)=R:=fun c d=>by rw[hR,c,zP7 d,←hAT];subst hS0;rfl
 have e752:kn=75→yi es 0 0=2→({ S0 with cs:=zB6 cs (y*w).toNat ((y+1)*w).toNat }:SC)=R:=fun c d=>by rw[hR,c,zP6 d];subst hS0;rfl
 have e753:kn=75→¬yi es 0 0=0→¬yi es 0 0=1→¬yi es 0 0=2→(⟨w,h,x,y,look,top,bot,sx,sy,tit,cs,hist⟩:SC)=R:=fun c d0 d1 d2=>by rw[hR,c,zP5 d0 d1 d2];subst hS0;rfl
 have z0:inB y top bot=true→1≤MB∧MB≤10∧bot < h:=fun q=>zSR hN9.1 (zDp.1 q).2 hy.1 hb.2 hh.2 hMB2.2.2 hMB2.2.1
 have z00:1≤MT∧MT≤10∧bot < h:=zSR hN9.1 (Int.le_of_lt hb.1) ht hb.2 hh.2 hMT2.2.2 hMT2.2.1
 have z1:inB y top bot=true→0≤y∧y≤bot∧bot < h∧MB≤100∧-MB≤100:=fun q=>⟨hy.1,(zDp.1 q).2,(z0 q).2.2,le_a (z0 q).2.1,le_b (z0 q).1⟩
 have z2:inB y top bot=true→0≤y∧y≤bot∧bot < h∧-100≤MB∧MB≤100:=fun q=>⟨hy.1,(zDp.1 q).2,(z0 q).2.2,le_c (z0 q).1,le_a (z0 q).2.1⟩
 have z3:0≤top∧top≤bot∧bot < h∧-100≤MT∧MT≤100:=⟨ht,Int.le_of_lt hb.1,z00.2.2,le_c z00.1,le_a z00.2.1⟩
 have z4:0≤top∧top≤bot∧bot < h∧MT≤100∧-MT≤100:=⟨ht,Int.le_of_lt hb.1,z00.2.2,le_a z00.2.1,le_b z00.1⟩
 have hif0:inB y top bot=true→∀(d:Decidable (MB≤0)) (X Y:SC),@ite SC (MB≤0) d X Y=Y:=fun q d X Y=>if_neg (le_d (z0 q).1)
 have hif1:inB y top bot=true→∀(d:Decidable (0≤MB)) (X Y:SC),@ite SC (0≤MB) d X Y=X:=fun q d X Y=>if_pos (le_e (z0 q).1)
 have hif2:∀(d:Decidable (MT≤0)) (X Y:SC),@ite SC (MT≤0) d X Y=Y:=fun d X Y=>if_neg (le_d z00.1)
 have y9:inB y top bot=true→1≤MB:=fun q=>zSQ hN9.1 (zDp.1 q).2 hMB2.2.2
 have i76:inB S0.y S0.top S0.bot=inB y top bot:=by rw[ey,et,eb]
 have e76:kn=76→inB y top bot=true→({ dnN y bot MB.toNat S0 with x:=0,hist:=hist }:SC)=R:=fun c d=>by
  rw[hR,c,zSl (i76.trans d),←hN,eb,ey,←hMB]
  have hh:=zSh (a:=y) (b:=bot) MB.toNat S0
  have eh0:S0.hist=hist:=by rw[hS0]
  rw[eh0] at hh
  rw[←hh]
 have e760:kn=76→inB y top bot=false→(⟨w,h,x,y,look,top,bot,sx,sy,tit,cs,hist⟩:SC)=R:=fun c d=>by rw[hR,c,zP4 (i76.trans d)];subst hS0;rfl
 have e77:kn=77→inB y top bot=true→({ upN y bot true MB.toNat S0 with x:=0,hist:=hist }:SC)=R:=fun c d=>by
  rw[hR,c,zSk (i76.trans d),←hN,eb,ey,←hMB]
  have eh0:S0.hist=hist:=by rw[hS0]
  rw[eh0]
 have e770:kn=77→inB y top bot=false→(⟨w,h,x,y,look,top,bot,sx,sy,tit,cs,hist⟩:SC)=R:=fun c d=>by rw[hR,c,zP3 (i76.trans d)];subst hS0;rfl
 have e83:kn=83→upN top bot true MT.toNat S0=R:=fun c=>by rw[hR,c,zSj,←hN,et,eb,←hMT]
 have e84:kn=84→dnN top bot MT.toNat S0=R:=fun c=>by rw[hR,c,zSi,←hN,et,eb,←hMT]
 have e109:kn=109→(⟨w,h,x,y,zKz look es,top,bot,sx,sy,tit,cs,hist⟩:SC)=R:=fun c=>by rw[hR,c,zQE];subst hS0;rfl
 have e114:kn=114→N < MH→(⟨w,h,0,0,look,N - 1,MH - 1,sx,sy,tit,cs,hist⟩:SC)=R:=fun c d=>by rw[hR,c,zQD (by rw[←hN,eh,←hMH];exact d),←hN,eh,←hMH];subst hS0;rfl
 have e1140:kn=114→MH≤N→(⟨w,h,x,y,look,top,bot,sx,sy,tit,cs,hist⟩:SC)=R:=fun c d=>by rw[hR,c,zN6 (by rw[←hN,eh,←hMH];exact d)];subst hS0;rfl
 have eX:¬kn=65→¬kn=66→¬kn=67→¬kn=68→¬kn=72→¬kn=102→¬kn=74→¬kn=75→¬kn=76→¬kn=77→¬kn=83→¬kn=84→¬kn=109→¬kn=114→(⟨w,h,x,y,look,top,bot,sx,sy,tit,cs,hist⟩:SC)=R:=fun d1 d2 d3 d4 d5 d6 d7 d8 d9 d10 d11 d12 d13 d14=>by
  rw[hR,csi_X d1 d2 d3 d4 d5 d6 d7 d8 d9 d10 d11 d12 d13 d14];subst hS0;rfl
 refine hW.cutS [_] _ _ [.sl 6 .dp (.int .i64)] (fun ys=>ys=[.int .i64 AT]) ?_ ?_
 ·refine hW.vc [(4,[],tkN [0,1,2,3,4,5,6,7,8,9,10,11,12,13,14,15,16,17,18,19] (alS 20 .done))] _ _ ?_
  simp (maxSteps:=20000000) [-List.getD_eq_getElem?_getD,z8,zo,zY,zb,zQ,zO,zn,zJ,SC.pv,hsc,w1,w3,m1,w7]
  decide +kernel
 ·rintro _ rfl
  obtain⟨fin,hK⟩:=hB
  refine hK.vcb [7,9,11,13,16,19,27,36,43,45,47,51] [] _ _ ?_
  simp (maxSteps:=20000000) [-List.getD_eq_getElem?_getD,z8,zo,zY,zb,zQ,zO,zn,zJ]
  repeat' (first | contradiction | (refine⟨fun _=>?_,fun _=>?_⟩) | (refine fun _=>?_))
  all_goals (try contradiction)
  ·have hpq:kp=false:=q
   subst hpq
   refine hW.vc [] _ _ ?_
   simp (maxSteps:=20000000) [-List.getD_eq_getElem?_getD,z8,zo,zY,zb,zQ,zO,zn,zJ,SC.pv,hsc,w1,w2,w3,w4,w5,w6,w8,m1,eN,eM,eMB,eMT,u1,u2,u3,u4,u5,u6,u7,u8,u9,v1,v2,v3,eMH,v4,c1,c2,←hR]
   exact zDP (e65 ‹_›)
  ·have hpq:kp=false:=q
   subst hpq
   refine hW.vc [(9,[15],tkN [0,1,2,3,4,5,6,7,8,9,10,11,12,13,14] (alS 15 .done))] _ _ ?_
   simp (maxSteps:=20000000) [-List.getD_eq_getElem?_getD,z8,zo,zY,zb,zQ,zO,zn,zJ,SC.pv,hsc,w1,w2,w3,w4,w5,w6,w8,m1,eN,eM,eMB,eMT,u1,u2,u3,u4,u5,u6,u7,u8,u9,v1,v2,v3,eMH,v4,c1,c2,←hR]
   exact⟨by decide +kernel,zDP (e66 ‹_›)⟩
  ·have hpq:kp=false:=q
   subst hpq
   refine hW.vc [(11,[15],tkN [0,1,2,3,4,5,6,7,8,9,10,11,12,13,14] (alS 15 .done))] _ _ ?_
   simp (maxSteps:=20000000) [-List.getD_eq_getElem?_getD,z8,zo,zY,zb,zQ,zO,zn,zJ,SC.pv,hsc,w1,w2,w3,w4,w5,w6,w8,m1,eN,eM,eMB,eMT,u1,u2,u3,u4,u5,u6,u7,u8,u9,v1,v2,v3,eMH,v4,c1,c2,←hR]
   exact⟨by decide +kernel,zDP (e67 ‹_›)⟩
  ·have hpq:kp=false:=q
   subst hpq
   refine hW.vc [(13,[16],tkN [0,1,2,3,4,5,6,7,8,9,10,11,12,13,14,15] (alS 16 .done))] _ _ ?_
   simp (maxSteps:=20000000) [-List.getD_eq_getElem?_getD,z8,zo,zY,zb,zQ,zO,zn,zJ,SC.pv,hsc,w1,w2,w3,w4,w5,w6,w8,m1,eN,eM,eMB,eMT,u1,u2,u3,u4,u5,u6,u7,u8,u9,v1,v2,v3,eMH,v4,c1,c2,←hR]
   exact⟨by decide +kernel,zDP (e68 ‹_›)⟩
  ·have hpq:kp=false:=q
   subst hpq
   refine hW.vc [(17,[13],tkN [0,1,2,3,4,5,6] (alS 7 (tkN [8,9,10,11,12] (alS 13 .done))))] _ _ ?_
   simp (maxSteps:=20000000) [-List.getD_eq_getElem?_getD,z8,zo,zY,zb,zQ,zO,zn,zJ,SC.pv,hsc,w1,w2,w3,w4,w5,w6,w8,m1,eN,eM,eMB,eMT,u1,u2,u3,u4,u5,u6,u7,u8,u9,v1,v2,v3,eMH,v4,c1,c2,←hR]
   exact⟨by decide +kernel,zDP (e72 (.inl ‹_›))⟩
  ·have hpq:kp=false:=q
   subst hpq
   refine hW.vc [(17,[13],tkN [0,1,2,3,4,5,6] (alS 7 (tkN [8,9,10,11,12] (alS 13 .done))))] _ _ ?_
   simp (maxSteps:=20000000) [-List.getD_eq_getElem?_getD,z8,zo,zY,zb,zQ,zO,zn,zJ,SC.pv,hsc,w1,w2,w3,w4,w5,w6,w8,m1,eN,eM,eMB,eMT,u1,u2,u3,u4,u5,u6,u7,u8,u9,v1,v2,v3,eMH,v4,c1,c2,←hR]
   exact⟨by decide +kernel,zDP (e72 (.inr ‹_›))⟩
  ·have hpq:kp=false:=q
   subst hpq
   refine hK.vcb [21,23,24] [] _ _ ?_
   simp (maxSteps:=20000000) [-List.getD_eq_getElem?_getD,z8,zo,zY,zb,zQ,zO,zn,zJ,SC.pv,hsc,w1,w2,w3,w4,w5,w6,w8,m1,eN,eM,eMB,eMT,u1,u2,u3,u4,u5,u6,u7,u8,u9,v1,v2,v3,eMH,v4,c1,c2,←hR]
   refine⟨fun d0=>?_,fun d0=>⟨fun d1=>?_,fun d1=>?_⟩⟩
   ·refine hW.vc [(21,[11],tkN [0,1,2,3,4,5,6,7,8,9,10] (alS 11 .done))] _ _ ?_
    simp (maxSteps:=20000000) [-List.getD_eq_getElem?_getD,z8,zo,zY,zb,zQ,zO,zn,zJ,SC.pv,hsc,w1,w2,w3,w4,w5,w6,w8,m1,eN,eM,eMB,eMT,u1,u2,u3,u4,u5,u6,u7,u8,u9,v1,v2,v3,eMH,v4,c1,c2,←hR]
    exact⟨by decide +kernel,j1,zDP (e740 ‹_› d0)⟩
   ·refine hW.vc [] _ _ ?_
    simp (maxSteps:=20000000) [-List.getD_eq_getElem?_getD,z8,zo,zY,zb,zQ,zO,zn,zJ,SC.pv,hsc,w1,w2,w3,w4,w5,w6,w8,m1,eN,eM,eMB,eMT,u1,u2,u3,u4,u5,u6,u7,u8,u9,v1,v2,v3,eMH,v4,c1,c2,←hR]
    exact⟨j2,zDP (e741 ‹_› d1)⟩
   ·refine hW.vc [(25,[10],tkN [0,1,2,3,4,5,6,7,8,9] (alS 10 .done))] _ _ ?_
    simp (maxSteps:=20000000) [-List.getD_eq_getElem?_getD,z8,zo,zY,zb,zQ,zO,zn,zJ,SC.pv,hsc,w1,w2,w3,w4,w5,w6,w8,m1,eN,eM,eMB,eMT,u1,u2,u3,u4,u5,u6,u7,u8,u9,v1,v2,v3,eMH,v4,c1,c2,←hR]
    exact⟨fun d2=>⟨by decide +kernel,j3,zDP (e742 ‹_› d2)⟩,fun d2=>zDP (e743 ‹_› d0 d1 d2)⟩
  ·have hpq:kp=false:=q
   subst hpq
   refine hK.vcb [29,31,32] [] _ _ ?_
   simp (maxSteps:=20000000) [-List.getD_eq_getElem?_getD,z8,zo,zY,zb,zQ,zO,zn,zJ,SC.pv,hsc,w1,w2,w3,w4,w5,w6,w8,m1,eN,eM,eMB,eMT,u1,u2,u3,u4,u5,u6,u7,u8,u9,v1,v2,v3,eMH,v4,c1,c2,←hR]
   refine⟨fun d0=>?_,fun d0=>⟨fun d1=>?_,fun d1=>?_⟩⟩
   ·refine hW.vc [(29,[12],tkN [0,1,2,3,4,5,6,7,8,9,10,11] (alS 12 .done))] _ _ ?_
    simp (maxSteps:=20000000) [-List.getD_eq_getElem?_getD,z8,zo,zY,zb,zQ,zO,zn,zJ,SC.pv,hsc,w1,w2,w3,w4,w5,w6,w8,m1,eN,eM,eMB,eMT,u1,u2,u3,u4,u5,u6,u7,u8,u9,v1,v2,v3,eMH,v4,c1,c2,←hR]
    exact⟨by decide +kernel,l1,zDP (e750 ‹_› d0)⟩
   ·refine hW.vc [(31,[12],tkN [0,1,2,3,4,5,6,7,8,9,10,11] (alS 12 .done))] _ _ ?_
    simp (maxSteps:=20000000) [-List.getD_eq_getElem?_getD,z8,zo,zY,zb,zQ,zO,zn,zJ,SC.pv,hsc,w1,w2,w3,w4,w5,w6,w8,m1,eN,eM,eMB,eMT,u1,u2,u3,u4,u5,u6,u7,u8,u9,v1,v2,v3,eMH,v4,c1,c2,←hR]
    exact⟨by decide +kernel,l2,zDP (e751 ‹_› d1)⟩
   ·refine hW.vc [(33,[20],tkN [0,1,2,3,4,5,6,7,8,9,10,11,12,13,14,15,16,17,18,19] (alS 20 .done))] _ _ ?_
    simp (maxSteps:=20000000) [-List.getD_eq_getElem?_getD,z8,zo,zY,zb,zQ,zO,zn,zJ,SC.pv,hsc,w1,w2,w3,w4,w5,w6,w8,m1,eN,eM,eMB,eMT,u1,u2,u3,u4,u5,u6,u7,u8,u9,v1,v2,v3,eMH,v4,c1,c2,←hR]
    exact⟨fun d2=>⟨by decide +kernel,l3,zDP (e752 ‹_› d2)⟩,fun d2=>zDP (e753 ‹_› d0 d1 d2)⟩
  ·have hpq:kp=false:=q
   subst hpq
   refine hW.vc [(36,[],tkN [0,1,2,3,4,5,6,7,8,9,10,11] (alS 12 .done)),(37,[],tkN [0,1,2,3,4,5,6,7,8,9,10,11] (alS 12 .done)),(40,[10],tkN [0,1,2,3,4,5,6,7,8,9] (alS 10 .done))] _ _ ?_
   simp (maxSteps:=20000000) [-List.getD_eq_getElem?_getD,z8,zo,zY,zb,zQ,zO,zn,zJ,SC.pv,hsc,w1,w2,w3,w4,w5,w6,w8,m1,eN,eM,eMB,eMT,u1,u2,u3,u4,u5,u6,u7,u8,u9,v1,v2,v3,eMH,v4,c1,c2,←hR]
   refine⟨by decide +kernel,fun hq=>⟨by decide +kernel,fun _=>⟨by decide +kernel,⟨hS,z1 hq⟩,?_⟩,fun c=>absurd ‹kn=76› c⟩,fun hq=>zDP (e760 ‹_› hq)⟩
   simp only[hif0 hq];exact zDP (e76 ‹_› hq)
  ·have hpq:kp=false:=q
   subst hpq
   refine hW.vc [(36,[],tkN [0,1,2,3,4,5,6,7,8,9,10,11] (alS 12 .done)),(37,[],tkN [0,1,2,3,4,5,6,7,8,9,10,11] (alS 12 .done)),(40,[10],tkN [0,1,2,3,4,5,6,7,8,9] (alS 10 .done))] _ _ ?_
   simp (maxSteps:=20000000) [-List.getD_eq_getElem?_getD,z8,zo,zY,zb,zQ,zO,zn,zJ,SC.pv,hsc,w1,w2,w3,w4,w5,w6,w8,m1,eN,eM,eMB,eMT,u1,u2,u3,u4,u5,u6,u7,u8,u9,v1,v2,v3,eMH,v4,c1,c2,←hR]
   refine⟨by decide +kernel,fun hq=>⟨by decide +kernel,fun c=>absurd (c.symm.trans ‹kn=77›) (by decide),fun _=>⟨by decide +kernel,⟨hS,z2 hq⟩,?_⟩⟩,fun hq=>zDP (e770 ‹_› hq)⟩
   simp only[hif1 hq];exact zDP (e77 ‹_› hq)
  ·have hpq:kp=false:=q
   subst hpq
   refine hW.vc [(43,[21],tkN [0,1,2,3,4,5,6,7,8,9,10,11,12,13,14,15,16,17,18,19,20] (alS 21 .done))] _ _ ?_
   simp (maxSteps:=20000000) [-List.getD_eq_getElem?_getD,z8,zo,zY,zb,zQ,zO,zn,zJ,SC.pv,hsc,w1,w2,w3,w4,w5,w6,w8,m1,eN,eM,eMB,eMT,u1,u2,u3,u4,u5,u6,u7,u8,u9,v1,v2,v3,eMH,v4,c1,c2,←hR]
   exact⟨by decide +kernel,⟨hS,z3⟩,zDP (e83 ‹_›)⟩
  ·have hpq:kp=false:=q
   subst hpq
   refine hW.vc [(45,[22],tkN [0,1,2,3,4,5,6,7,8,9,10,11,12,13,14,15,16,17,18,19,20,21] (alS 22 .done))] _ _ ?_
   simp (maxSteps:=20000000) [-List.getD_eq_getElem?_getD,z8,zo,zY,zb,zQ,zO,zn,zJ,SC.pv,hsc,w1,w2,w3,w4,w5,w6,w8,m1,eN,eM,eMB,eMT,u1,u2,u3,u4,u5,u6,u7,u8,u9,v1,v2,v3,eMH,v4,c1,c2,←hR]
   refine⟨by decide +kernel,⟨hS,z4⟩,?_⟩
   simp only[hif2];exact zDP (e84 ‹_›)
  ·have hpq:kp=false:=q
   subst hpq
   refine hW.vc [] _ _ ?_
   simp (maxSteps:=20000000) [-List.getD_eq_getElem?_getD,z8,zo,zY,zb,zQ,zO,zn,zJ,SC.pv,hsc,w1,w2,w3,w4,w5,w6,w8,m1,eN,eM,eMB,eMT,u1,u2,u3,u4,u5,u6,u7,u8,u9,v1,v2,v3,eMH,v4,c1,c2,←hR]
   refine hW.loopS _ _ _ [.bx 0 [.int .i64,.int .i64,.int .i64,.int .i64,.int .i64,.int .i64,.int .i64,.int .i64,.int .i64,.str,.list (.agg [.int .i64,.int .i64]),.list .str],.sl 7 .dp (.int .i64)] (fun ys=>∃i:Nat,ys=[SC.pv ⟨w,h,x,y,zKz look (es.take i),top,bot,sx,sy,tit,cs,hist⟩,.int .i64 i]∧i≤es.length) (fun ys=>es.length - (nth ys 1).I.toNat) ?_ ?_
   ·simp (maxSteps:=20000000) [-List.getD_eq_getElem?_getD,z8,zo,zY,zb,zQ,zO,zn,zJ,SC.pv]
    exact⟨0,⟨by simp[zKz],rfl⟩,Nat.zero_le _⟩
   ·rintro ys ⟨i,rfl,r1⟩
    refine hW.vc [(4,[],tkN [0,1,2,3,4,5,6,7,8,9,10,11,12,13,14,15,16,17,18,19] (alS 20 .done)),(9,[15],tkN [0,1,2,3,4,5,6,7,8,9,10,11,12,13,14] (alS 15 .done)),(11,[15],tkN [0,1,2,3,4,5,6,7,8,9,10,11,12,13,14] (alS 15 .done)),(13,[16],tkN [0,1,2,3,4,5,6,7,8,9,10,11,12,13,14,15] (alS 16 .done)),(17,[13],tkN [0,1,2,3,4,5,6] (alS 7 (tkN [8,9,10,11,12] (alS 13 .done)))),(21,[11],tkN [0,1,2,3,4,5,6,7,8,9,10] (alS 11 .done)),(25,[10],tkN [0,1,2,3,4,5,6,7,8,9] (alS 10 .done)),(29,[12],tkN [0,1,2,3,4,5,6,7,8,9,10,11] (alS 12 .done)),(31,[12],tkN [0,1,2,3,4,5,6,7,8,9,10,11] (alS 12 .done)),(33,[20],tkN [0,1,2,3,4,5,6,7,8,9,10,11,12,13,14,15,16,17,18,19] (alS 20 .done)),(36,[],tkN [0,1,2,3,4,5,6,7,8,9,10,11] (alS 12 .done)),(37,[],tkN [0,1,2,3,4,5,6,7,8,9,10,11] (alS 12 .done)),(40,[10],tkN [0,1,2,3,4,5,6,7,8,9] (alS 10 .done)),(43,[21],tkN [0,1,2,3,4,5,6,7,8,9,10,11,12,13,14,15,16,17,18,19,20] (alS 21 .done)),(45,[22],tkN [0,1,2,3,4,5,6,7,8,9,10,11,12,13,14,15,16,17,18,19,20,21] (alS 22 .done)),(53,[],tkN [0,1,2,3,4,5,6,7,8] (alS 9 (tkN [10,11] (alS 12 .done))))] _ _ ?_
    simp (maxSteps:=20000000) [-List.getD_eq_getElem?_getD,z8,zo,zY,zb,zQ,zO,zn,zJ,SC.pv,zAj]
    refine fun hl=>⟨fun q=>?_,fun q=>?_⟩
    ·have hw9:IntKind.i64.wrap ((i:Int)+1)=((i+1:Nat):Int):=zPq hl q
     rw[hw9]
     exact⟨q,fun _=>⟨⟨i+1,⟨luk_s q,rfl⟩,q⟩,zSV q⟩⟩
    ·have hRR:csi ⟨w,h,x,y,look,top,bot,sx,sy,tit,cs,hist⟩ kn es=R:=by rw[hR,hS0]
     rw[List.take_of_length_le q,hRR]
     exact zDP (e109 ‹_›)
  ·have hpq:kp=false:=q
   subst hpq
   refine hW.vc [(53,[],tkN [0,1,2,3,4,5,6,7,8] (alS 9 (tkN [10,11] (alS 12 .done))))] _ _ ?_
   simp (maxSteps:=20000000) [-List.getD_eq_getElem?_getD,z8,zo,zY,zb,zQ,zO,zn,zJ,SC.pv,hsc,w1,w2,w3,w4,w5,w6,w8,m1,eN,eM,eMB,eMT,u1,u2,u3,u4,u5,u6,u7,u8,u9,v1,v2,v3,eMH,v4,c1,c2,←hR]
   exact⟨fun c=>⟨by decide +kernel,fun d=>zDP (e114 c d),fun d=>zDP (e1140 c d)⟩,fun d=>zDP (eX (by assumption) (by assumption) (by assumption) (by assumption) (by assumption) (by assumption) (by assumption) (by assumption) (by assumption) (by assumption) (by assumption) (by assumption) (by assumption) d)⟩
end
section
variable [zZ]
def zHA:zS:=⟨[(.bx,.box [.int .i64,.int .i64,.int .i64,.int .i64,.int .i64,.int .i64,.int .i64,.int .i64,.int .i64,.str,.list (.agg [.int .i64,.int .i64]),.list .str]),(.rd,.agg [.int .i64,.int .i64,.bool,.list (.int .i64),.str])],[],true,fun ps=>ScI (zAj (nth ps 0).A)∧acI (nth ps 1),fun _=>[],fun ps=>[SC.pv (doA (zAj (nth ps 0).A) (nth ps 1).A)]⟩
set_option maxHeartbeats 0 in
theorem zSZ:yQ Tryz.prog 51 zHA:=by
 refine zf [0,1,3,5] [] (zA (cs:=[]) zPt (zA (cs:=[]) zK2 (zA (cs:=[]) zJH (zA (cs:=[]) zMO (zI (zF [])))))) zc Tryz.func51 rfl (by decide) rfl (by decide) rfl ?_
 intro ps hT hpre W hW
 simp only[zHA,TyA,Ty,Tys] at hT hpre
 obtain⟨_,_,rfl,⟨_,rfl,_,_,rfl,⟨w,rfl,hw⟩,_,_,rfl,⟨h,rfl,hh⟩,_,_,rfl,⟨x,rfl,hx⟩,_,_,rfl,⟨y,rfl,hy⟩,_,_,rfl,⟨look,rfl,hlook⟩,_,_,rfl,⟨top,rfl,htop⟩,_,_,rfl,⟨bot,rfl,hbot⟩,_,_,rfl,⟨sx,rfl,hsx⟩,_,_,rfl,⟨sy,rfl,hsy⟩,_,_,rfl,⟨tit,rfl,htit⟩,_,_,rfl,⟨cs,rfl,hcs,tcs⟩,_,_,rfl,⟨hist,rfl,hhist,thist⟩,rfl⟩,_,_,rfl,⟨_,rfl,_,_,rfl,⟨kk,rfl,hkk⟩,_,_,rfl,⟨kn,rfl,hkn⟩,_,_,rfl,⟨kp,rfl⟩,_,_,rfl,⟨es,rfl,hes,tes⟩,_,_,rfl,⟨kt,rfl,hkt⟩,rfl⟩,rfl⟩:=hT
 simp only[zE,zG,zBR] at hpre
 obtain⟨hS,hA⟩:=hpre
 obtain⟨S0,hS0⟩:∃S0:SC,S0=⟨w,h,x,y,look,top,bot,sx,sy,tit,cs,hist⟩:=⟨_,rfl⟩
 have hS:ScI S0:=by rw[hS0];exact hS
 have hsc:zAj [.int .i64 w,.int .i64 h,.int .i64 x,.int .i64 y,.int .i64 look,.int .i64 top,.int .i64 bot,.int .i64 sx,.int .i64 sy,.str tit,.list cs,.list hist]=S0:=by rw[hS0];rfl
 obtain⟨R,hR⟩:∃R,R=doA S0 [.int .i64 kk,.int .i64 kn,.bool kp,.list es,.str kt]:=⟨_,rfl⟩
 have f1:kk=1→R=prt S0 kn:=fun e=>by rw[hR,e];rfl
 have f2:kk=2→R=ctl S0 kn:=fun e=>by rw[hR,e];rfl
 have f3:kk=3→R=esc S0 kn:=fun e=>by rw[hR,e];rfl
 have f4:kk=4→R=cond kp S0 (csi S0 kn es):=fun e=>by rw[hR,e];cases kp<;>rfl
 have f5:kk=5→R={ S0 with tit:=kt }:=fun e=>by rw[hR,e];rfl
 have f6:¬kk=1→¬kk=2→¬kk=3→¬kk=4→¬kk=5→R=S0:=fun e1 e2 e3 e4 e5=>by
  rw[hR,doA];simp only[zE,yu,e1,e2,e3,e4,e5,if_false]
 refine hW.vc [] _ _ ?_
 simp[-List.getD_eq_getElem?_getD,zHA,zEL,zCU,zC8,z8,SC.pv,hsc,←hR]
 have g5:kk=5→(⟨w,h,x,y,look,top,bot,sx,sy,kt,cs,hist⟩:SC)=R:=fun e=>by rw[f5 e,hS0]
 have g6:¬kk=1→¬kk=2→¬kk=3→¬kk=4→¬kk=5→(⟨w,h,x,y,look,top,bot,sx,sy,tit,cs,hist⟩:SC)=R:=fun e1 e2 e3 e4 e5=>by rw[f6 e1 e2 e3 e4 e5,hS0]
 exact⟨fun e=>⟨hS,zDP (f1 e).symm⟩,fun n1=>⟨fun e=>⟨hS,zDP (f2 e).symm⟩,fun n2=>⟨fun e=>⟨hS,zDP (f3 e).symm⟩,fun n3=>⟨fun e=>⟨⟨hS,hA⟩,zDP (f4 e).symm⟩,fun n4=>⟨fun e=>zDP (g5 e),fun n5=>zDP (g6 n1 n2 n3 n4 n5)⟩⟩⟩⟩⟩
theorem zKZ:∀(la:List PV) (s:SC) (a:PV),doL s (la++[a])=doA (doL s la) a.A
 | [],_,_=>rfl
 | b :: la,s,a=>by rw[List.cons_append,doL,zKZ la];rfl
theorem doL_s{la:List PV}{i:Nat}{s:SC}(h:i < la.length):doA (doL s (la.take i)) (nth la i).A=doL s (la.take (i+1)):=by
 rw[List.take_add_one,List.getElem?_eq_getElem h,Option.toList_some,zKZ]
 have e:la[i]=nth la i:=by rw[nth,List.getD_eq_getElem?_getD,List.getElem?_eq_getElem h];rfl
 rw[e]
theorem ScI.lim{s:SC}(h:ScI s):s.cs.length≤240∧s.hist.length≤6:=by
 have w:=h.w;have hh:=h.h
 have p:s.w*s.h≤24*10:=Int.mul_le_mul w.2 hh.2 (by omega) (by omega)
 exact⟨by rw[h.n];omega,h.m⟩
theorem zQP{a:PV}(h:acI a):(.agg [.int .i64 (nth a.A 0).I,.int .i64 (nth a.A 1).I,.bool (nth a.A 2).B,.list (nth a.A 3).L,.str (nth a.A 4).S]:PV)=a:=by
 obtain⟨k,n,p,la,t,rfl,_⟩:=h;rfl
def zDB:zS:=⟨[(.rd,.agg [.int .i64,.int .i64,.int .i64,.int .i64,.int .i64,.int .i64,.int .i64,.int .i64,.int .i64,.str,.list (.agg [.int .i64,.int .i64]),.list .str])],[.agg [.int .i64,.int .i64,.int .i64,.int .i64,.int .i64,.int .i64,.int .i64,.int .i64,.int .i64,.str,.list (.agg [.int .i64,.int .i64]),.list .str]],true,fun ps=>(nth (nth ps 0).A 10).L.length≤10000∧(nth (nth ps 0).A 11).L.length≤10000,fun ps=>[(zAj (nth ps 0).A).pv],fun _=>[]⟩
theorem zNr:yQ Tryz.prog 50 zDB:=by
 refine zf [0,1,2] [.cell 2 60] (zI (zF [])) zc Tryz.func50 rfl (by decide) rfl (by decide) rfl ?_
 intro ps hT hpre W hW
 simp only[zDB,TyA,Ty,Tys] at hT hpre
 obtain⟨_,_,rfl,⟨_,rfl,_,_,rfl,⟨w,rfl,hw⟩,_,_,rfl,⟨h,rfl,hh⟩,_,_,rfl,⟨x,rfl,hx⟩,_,_,rfl,⟨y,rfl,hy⟩,_,_,rfl,⟨look,rfl,hlook⟩,_,_,rfl,⟨top,rfl,htop⟩,_,_,rfl,⟨bot,rfl,hbot⟩,_,_,rfl,⟨sx,rfl,hsx⟩,_,_,rfl,⟨sy,rfl,hsy⟩,_,_,rfl,⟨tit,rfl,htit⟩,_,_,rfl,⟨cs,rfl,hcs,tcs⟩,_,_,rfl,⟨hist,rfl,hhist,thist⟩,rfl⟩,rfl⟩:=hT
 simp only[zE,zG,zBR,zBf,yu] at hpre
 refine hW.vc [] _ _ ?_
 simp[-List.getD_eq_getElem?_getD,zDB,SC.pv,zAj]
 omega
def zA2:zS:=⟨[(.rd,.agg [.int .i64,.int .i64,.int .i64,.int .i64,.int .i64,.int .i64,.int .i64,.int .i64,.int .i64,.str,.list (.agg [.int .i64,.int .i64]),.list .str]),(.rd,.agg [.int .i64,.list (.int .i64),.bool,.str,.str]),(.rd,.str)],[.agg [.int .i64,.int .i64,.int .i64,.int .i64,.int .i64,.int .i64,.int .i64,.int .i64,.int .i64,.str,.list (.agg [.int .i64,.int .i64]),.list .str],.agg [.int .i64,.list (.int .i64),.bool,.str,.str]],true,fun ps=>ScI (zAj (nth ps 0).A)∧zDr (zCR (nth ps 1).A)∧(nth ps 2).S.length≤10000,
 fun ps=>[(doL (zAj (nth ps 0).A) (zAg (zCR (nth ps 1).A) (nth ps 2).S []).2).pv,(zAg (zCR (nth ps 1).A) (nth ps 2).S []).1.pv],fun _=>[]⟩
set_option maxHeartbeats 0 in
theorem zMT:yQ Tryz.prog 34 zA2:=by
 refine zf [0,1,2,3,4,6,7,8,9,10,11] [.cell 6 60,.cell 7 64] (zA (cs:=[]) zSZ (zA (cs:=[]) zNr (zA (cs:=[]) zK6 (zI (zF []))))) zc Tryz.func34 rfl (by decide) rfl (by decide) rfl ?_
 intro ps hT hpre W hW
 simp only[zA2,TyA,Ty,Tys] at hT hpre
 obtain⟨_,_,rfl,⟨_,rfl,_,_,rfl,⟨w,rfl,hw⟩,_,_,rfl,⟨h,rfl,hh⟩,_,_,rfl,⟨x,rfl,hx⟩,_,_,rfl,⟨y,rfl,hy⟩,_,_,rfl,⟨look,rfl,hlook⟩,_,_,rfl,⟨top,rfl,htop⟩,_,_,rfl,⟨bot,rfl,hbot⟩,_,_,rfl,⟨sx,rfl,hsx⟩,_,_,rfl,⟨sy,rfl,hsy⟩,_,_,rfl,⟨tit,rfl,htit⟩,_,_,rfl,⟨cs,rfl,hcs,tcs⟩,_,_,rfl,⟨hist,rfl,hhist,thist⟩,rfl⟩,_,_,rfl,⟨_,rfl,_,_,rfl,⟨st,rfl,hst⟩,_,_,rfl,⟨ag,rfl,hag,tag⟩,_,_,rfl,⟨pr,rfl⟩,_,_,rfl,⟨tx,rfl,htx⟩,_,_,rfl,⟨ut,rfl,hut⟩,rfl⟩,_,_,rfl,⟨b,rfl,hb⟩,rfl⟩:=hT
 simp only[zE,zG,zBR,zE4] at hpre
 obtain⟨hS,hP,hb⟩:=hpre
 obtain⟨S0,hS0⟩:∃S0:SC,S0=⟨w,h,x,y,look,top,bot,sx,sy,tit,cs,hist⟩:=⟨_,rfl⟩
 have hS:ScI S0:=by rw[hS0];exact hS
 have hsc:zAj [.int .i64 w,.int .i64 h,.int .i64 x,.int .i64 y,.int .i64 look,.int .i64 top,.int .i64 bot,.int .i64 sx,.int .i64 sy,.str tit,.list cs,.list hist]=S0:=by rw[hS0];rfl
 have hpr:zCR [.int .i64 st,.list ag,.bool pr,.str tx,.str ut]=⟨st,ag,pr,tx,ut⟩:=rfl
 rw[hpr] at hP
 obtain⟨q,la,hq⟩:∃q la,zAg ⟨st,ag,pr,tx,ut⟩ b []=(q,la):=⟨_,_,rfl⟩
 have hG:=zHP (l:=b) (acc:=[]) hP (by simp)
 rw[hq] at hG
 obtain⟨g1,g2,g3⟩:=hG
 simp only[List.length_nil,Nat.zero_add] at g3
 have hm:=hS.lim
 have hm1:cs.length≤10000∧hist.length≤10000:=by rw[hS0] at hm;simp only at hm;omega
 refine hW.vc [(7,[6,7],tkN [0,1,2,3] (tkM [5] (alN [4,6,7] .done)))] _ _ ?_
 simp[-List.getD_eq_getElem?_getD,zA2,zAN,zDB,zHA,SC.pv,PR.pv,hsc,hpr,hq]
 refine⟨⟨hP,by omega⟩,hm1,?_⟩
 refine hW.loopS _ _ _ [.bx 10 [.int .i64,.int .i64,.int .i64,.int .i64,.int .i64,.int .i64,.int .i64,.int .i64,.int .i64,.str,.list (.agg [.int .i64,.int .i64]),.list .str],.sl 11 .dp (.int .i64)] (fun ys=>∃i:Nat,ys=[(doL S0 (la.take i)).pv,.int .i64 i]∧i≤la.length) (fun ys=>la.length - (nth ys 1).I.toNat) ?_ ?_
 ·simp[-List.getD_eq_getElem?_getD,zA2,zAN,zDB,zHA,SC.pv]
  exact⟨0,by and_intros<;>rfl,Nat.zero_le _⟩
 ·rintro ys ⟨i,rfl,r1⟩
  have hD:ScI (doL S0 (la.take i)):=zP0 hS fun a ha=>g2 a (List.mem_of_mem_take ha)
  obtain⟨D,hDD⟩:∃D,D=doL S0 (la.take i):=⟨_,rfl⟩
  rw[←hDD] at hD ⊢
  have hDs:zAj [.int .i64 D.w,.int .i64 D.h,.int .i64 D.x,.int .i64 D.y,.int .i64 D.look,.int .i64 D.top,.int .i64 D.bot,.int .i64 D.sx,.int .i64 D.sy,.str D.tit,.list D.cs,.list D.hist]=D:=rfl
  have hDm:=hD.lim
  have hDm1:D.cs.length≤10000∧D.hist.length≤10000:=by omega
  have hE:=fun h:i < la.length=>zQP (g2 _ (yR h))
  refine hW.vc [(7,[6,7],tkN [0,1,2,3] (tkM [5] (alN [4,6,7] .done)))] _ _ ?_
  simp[-List.getD_eq_getElem?_getD,zA2,zAN,zDB,zHA,SC.pv,PR.pv,hDs,hsc,hpr,hq]
  refine fun hl=>⟨fun h=>⟨h,fun _ _ _ _ _ _=>⟨⟨hD,by rw[hE h];exact g2 _ (yR h)⟩,⟨i+1,⟨zDP ?_,zPq hl h⟩,h⟩,by rw[zPq hl h];exact zSV h⟩⟩,fun h=>⟨by decide +kernel,hDm1,zDP ?_⟩⟩
  ·have:=congrArg PV.A (hE h)
   simp only[zBR] at this
   rw[this,hDD];exact doL_s h
  ·rw[hDD,List.take_of_length_le h]
end
section
variable [zZ]
structure Src where
 p:Int
 q:Int
@[simp] theorem Src.eta(s:Src):(⟨s.p,s.q⟩:Src)=s:=rfl
def zCK(p q k:Int):Prop:=0≤p∧p+k≤1000000000000000000∧0≤q∧q < 2147483648
def zGO(es:List PV):Prop:=∀e∈es,0≤e.I∧e.I≤255
theorem zAz{es:List PV}(h:∀e∈es,∃n,e=.int .u8 n∧inR .u8 n):zGO es:=by
 intro e he
 obtain⟨n,rfl,hn⟩:=h e he
 simpa[inR,IntKind.min,IntKind.max,IntKind.signed,IntKind.bits,PV.I] using hn
def zBx(es:List PV)(s:Src):Int × Src:=
 if s.p+1≤es.length then ((nth es s.p.toNat).I,⟨s.p+1,(s.q*31+(nth es s.p.toNat).I+7).tmod 2147483648⟩)
 else if 3000 < s.p+1 then (0,⟨s.p+1,s.q⟩)
 else (((((s.q*1103515245+12345).tmod 2147483648).tdiv 65536).tmod 256),⟨s.p+1,(s.q*1103515245+12345).tmod 2147483648⟩)
theorem zEW(a b:Int)(ha:0≤a)(hb:0 < b):0≤a.tmod b∧a.tmod b < b:=⟨Int.tmod_nonneg _ ha,Int.tmod_lt_of_pos _ hb⟩
theorem zEX{es:List PV}{s:Src}{k:Int}(hc:zGO es)(h:zCK s.p s.q k)(hk:1≤k):zCK (zBx es s).2.p (zBx es s).2.q (k - 1)∧0≤(zBx es s).1∧(zBx es s).1≤255:=by
 obtain⟨h1,h2,h3,h4⟩:=h
 unfold zBx
 split
 ·rename_i hl
  have:=hc _ (yR (show s.p.toNat < es.length by omega))
  have:=zEW (s.q*31+(nth es s.p.toNat).I+7) 2147483648 (by omega) (by omega)
  exact⟨⟨by simp only;omega,by simp only;omega,this.1,this.2⟩,by omega,by omega⟩
 ·split
  ·exact⟨⟨by simp only;omega,by simp only;omega,h3,h4⟩,by simp,by simp⟩
  ·have:=zEW (s.q*1103515245+12345) 2147483648 (by omega) (by omega)
   have h5:=zEW (((s.q*1103515245+12345).tmod 2147483648).tdiv 65536) 256 (Int.tdiv_nonneg this.1 (by omega)) (by omega)
   exact⟨⟨by simp only;omega,by simp only;omega,this.1,this.2⟩,h5.1,by simp only;omega⟩
def zHn(es:List PV)(s:Src)(n:Int):Int × Src:=
 if n≤1 then (0,s) else if n≤256 then ((zBx es s).1.tmod n,(zBx es s).2)
 else ((((zBx es s).1*65536+(zBx es (zBx es s).2).1*256+(zBx es (zBx es (zBx es s).2).2).1).tmod n),(zBx es (zBx es (zBx es s).2).2).2)
theorem zCK.mono{p q k k':Int}(h:zCK p q k)(hk:k'≤k):zCK p q k':=⟨h.1,by have:=h.2.1;omega,h.2.2⟩
theorem zHH{es:List PV}{s:Src}{n k:Int}(hc:zGO es)(h:zCK s.p s.q k)(hk:3≤k):zCK (zHn es s n).2.p (zHn es s n).2.q (k - 3)∧0≤(zHn es s n).1∧(1≤n→(zHn es s n).1 < n):=by
 obtain⟨a1,a2,a3⟩:=zEX hc h (by omega)
 unfold zHn
 split
 ·exact⟨h.mono (by omega),by simp,by simp only;omega⟩
 ·split
  ·have:=zEW (zBx es s).1 n a2 (by omega)
   exact⟨a1.mono (by omega),this.1,fun _=>this.2⟩
  ·obtain⟨b1,b2,b3⟩:=zEX hc a1 (by omega)
   obtain⟨c1,c2,c3⟩:=zEX hc b1 (by omega)
   have:=zEW ((zBx es s).1*65536+(zBx es (zBx es s).2).1*256+(zBx es (zBx es (zBx es s).2).2).1) n (by omega) (by omega)
   exact⟨c1.mono (by omega),this.1,fun _=>this.2⟩
def zEK:zS:=⟨[(.bs,.box [.list (.int .u8),.int .i64,.int .i64])],[.int .i64],true,fun ps=>zCK (nth (nth ps 0).A 1).I (nth (nth ps 0).A 2).I 1,
 fun ps=>[.int .i64 (zBx (nth (nth ps 0).A 0).L ⟨(nth (nth ps 0).A 1).I,(nth (nth ps 0).A 2).I⟩).1],
 fun ps=>[.agg [.list [],.int .i64 (zBx (nth (nth ps 0).A 0).L ⟨(nth (nth ps 0).A 1).I,(nth (nth ps 0).A 2).I⟩).2.p,.int .i64 (zBx (nth (nth ps 0).A 0).L ⟨(nth (nth ps 0).A 1).I,(nth (nth ps 0).A 2).I⟩).2.q]]⟩
theorem zMN:yQ Tryz.prog 70 zEK:=by
 refine zf [0,2] [.tmp 2] (zI (zF [])) zc Tryz.func70 rfl (by decide) rfl (by decide) rfl ?_
 intro ps hT hpre W hW
 simp only[zEK,TyA,Ty,Tys] at hT hpre
 obtain⟨_,_,rfl,⟨_,rfl,_,_,rfl,⟨es,rfl,hes,tes⟩,_,_,rfl,⟨p,rfl,hp⟩,_,_,rfl,⟨q,rfl,hq⟩,rfl⟩,rfl⟩:=hT
 simp only[zE,zG,zBR,yu] at hpre
 obtain⟨h1,h2,h3,h4⟩:=hpre
 refine hW.vc [(2,[],tkN [0,1,2,3,4,5,6,7,8,9] .done),(3,[23],tkN [0,1,2,3,4,5,6,7,8,9,10,11,12,13,14,15,16,17,18,19,20,21,22] (alS 23 .done)),(4,[],tkN [0,1,2,3,4,5,6,7,8,9,10,11] (alS 12 .done))] _ _ ?_
 simp[-List.getD_eq_getElem?_getD,zEK]
 have hc:=zAz ‹_›
 rw[zC (n:=p+1) (by omega),show p+1 - 1=p by omega,zC (n:=p) (by omega),zC (n:=q*31) (by omega),zC (n:=q*1103515245) (by omega),zC (n:=q*1103515245+12345) (by omega)]
 refine⟨by decide +kernel,fun _=>⟨fun h5=>⟨by decide +kernel,⟨by omega,by omega⟩,by omega,fun _=>⟨by decide +kernel,⟨by omega,by omega⟩,by omega,fun _=>?_⟩⟩,fun h5=>⟨fun h6=>?_,fun h6=>?_⟩⟩⟩
 ·have h7:=hc _ (yR (show p.toNat < es.length by omega))
  rw[zC (n:=(nth es p.toNat).I) (by omega),zC (n:=q*31+(nth es p.toNat).I) (by omega),zC (n:=q*31+(nth es p.toNat).I+7) (by omega)]
  simp[zBx,h5]
 ·simp[zBx,h6,show ¬p+1≤(es.length:Int) by omega]
 ·have h7:=zEW (q*1103515245+12345) 2147483648 (by omega) (by omega)
  have h8:=Int.tdiv_nonneg h7.1 (show(0:Int)≤65536 by omega)
  have h9:=Int.tdiv_le_self 65536 h7.1
  rw[zC (n:=((q*1103515245+12345).tmod 2147483648).tdiv 65536) (by omega)]
  simp[zBx,show ¬3000 < p+1 by omega,show ¬p+1≤(es.length:Int) by omega]
def zBa:zS:=⟨[(.bs,.box [.list (.int .u8),.int .i64,.int .i64]),(.rd,.int .i64)],[.int .i64],true,fun ps=>zCK (nth (nth ps 0).A 1).I (nth (nth ps 0).A 2).I 3,
 fun ps=>[.int .i64 (zHn (nth (nth ps 0).A 0).L ⟨(nth (nth ps 0).A 1).I,(nth (nth ps 0).A 2).I⟩ (nth ps 1).I).1],
 fun ps=>[.agg [.list [],.int .i64 (zHn (nth (nth ps 0).A 0).L ⟨(nth (nth ps 0).A 1).I,(nth (nth ps 0).A 2).I⟩ (nth ps 1).I).2.p,.int .i64 (zHn (nth (nth ps 0).A 0).L ⟨(nth (nth ps 0).A 1).I,(nth (nth ps 0).A 2).I⟩ (nth ps 1).I).2.q]]⟩
theorem zIP:yQ Tryz.prog 52 zBa:=by
 refine zf [0,1,4,5,6,7] [.tmp 4] (zA (cs:=[]) zMN (zI (zF []))) zc Tryz.func52 rfl (by decide) rfl (by decide) rfl ?_
 intro ps hT hpre W hW
 simp only[zBa,TyA,Ty,Tys] at hT hpre
 obtain⟨_,_,rfl,⟨_,rfl,_,_,rfl,⟨es,rfl,hes,tes⟩,_,_,rfl,⟨p,rfl,hp⟩,_,_,rfl,⟨q,rfl,hq⟩,rfl⟩,_,_,rfl,⟨n,rfl,hn⟩,rfl⟩:=hT
 simp only[zE,zG,zBR,yu] at hpre
 refine hW.vc [] _ _ ?_
 simp[-List.getD_eq_getElem?_getD,zBa,zEK]
 have hc:=zAz ‹_›
 have hb:=zEX (s:=⟨p,q⟩) hc hpre (by omega)
 have hb2:=zEX hc hb.1 (by omega)
 have hb3:=zEX hc hb2.1 (by omega)
 refine⟨fun h=>by simp[zHn,h],fun h=>⟨fun h2=>⟨hpre.mono (by omega),by omega,by simp[zHn,h2,show ¬n≤1 by omega]⟩,fun h2=>⟨hpre.mono (by omega),hb.1.mono (by omega),hb2.1.mono (by omega),by omega,?_⟩⟩⟩
 rw[zC (n:=(zBx es ⟨p,q⟩).1*65536) (by omega),zC (n:=(zBx es (zBx es ⟨p,q⟩).2).1*256) (by omega),zC (n:=(zBx es ⟨p,q⟩).1*65536+(zBx es (zBx es ⟨p,q⟩).2).1*256) (by omega),zC (n:=(zBx es ⟨p,q⟩).1*65536+(zBx es (zBx es ⟨p,q⟩).2).1*256+(zBx es (zBx es (zBx es ⟨p,q⟩).2).2).1) (by omega)]
 simp[zHn,show ¬n≤1 by omega,show ¬n≤256 by omega]
end
section
variable [zZ]
def zDe(es:List PV)(s:Src)(l:List PV):List UInt8 × Src:=if l.length=0 then ([],s) else ((nth l (zHn es s l.length).1.toNat).S,(zHn es s l.length).2)
theorem zJ6{es:List PV}{s:Src}{l:List PV}{k:Int}(hc:zGO es)(h:zCK s.p s.q k)(hk:3≤k):zCK (zDe es s l).2.p (zDe es s l).2.q (k - 3):=by
 unfold zDe
 split
 ·exact h.mono (by omega)
 ·exact(zHH hc h hk).1
def zEm:zS:=⟨[(.bs,.box [.list (.int .u8),.int .i64,.int .i64]),(.rd,.list .str)],[.str],true,fun ps=>zCK (nth (nth ps 0).A 1).I (nth (nth ps 0).A 2).I 3,fun ps=>[.str (zDe (nth (nth ps 0).A 0).L ⟨(nth (nth ps 0).A 1).I,(nth (nth ps 0).A 2).I⟩ (nth ps 1).L).1],fun ps=>[.agg [.list [],.int .i64 (zDe (nth (nth ps 0).A 0).L ⟨(nth (nth ps 0).A 1).I,(nth (nth ps 0).A 2).I⟩ (nth ps 1).L).2.p,.int .i64 (zDe (nth (nth ps 0).A 0).L ⟨(nth (nth ps 0).A 1).I,(nth (nth ps 0).A 2).I⟩ (nth ps 1).L).2.q]]⟩
theorem zPu:yQ Tryz.prog 53 zEm:=by
 refine zf [0,1,4] [.tmp 4] (zA (cs:=[]) zIP (zI (zF []))) zc Tryz.func53 rfl (by decide) rfl (by decide) rfl ?_
 intro ps hT hpre W hW
 simp only[zEm,TyA,Ty,Tys] at hT hpre
 obtain⟨_,_,rfl,⟨_,rfl,_,_,rfl,⟨es,rfl,hes,tes⟩,_,_,rfl,⟨p,rfl,hp⟩,_,_,rfl,⟨q,rfl,hq⟩,rfl⟩,_,_,rfl,⟨l,rfl,hl,tl⟩,rfl⟩:=hT
 simp only[zE,zG,zBR,yu] at hpre
 refine hW.vc [] _ _ ?_
 simp[-List.getD_eq_getElem?_getD,zEm,zBa]
 intro hl1
 have hc:=zAz tes
 refine⟨fun h=>by simp[zDe,h],fun h _=>?_⟩
 have h0:0 < l.length:=List.length_pos_iff.2 h
 have hn:=zHH (s:=⟨p,q⟩) (n:=l.length) hc hpre (by omega)
 have hn2:=hn.2.2 (by omega)
 exact⟨hpre,⟨hn.2.1,hn2⟩,by omega,fun _=>by simp[zDe,h]⟩
def zE5:List PV:=[.str [116,101,120,116],.str [97],.str [13,10],.str [10],.str [8],.str [9],.str [27,91,72],.str [27,91,50,74],.str [27,91,75],.str [27,91,49,59,51,49,109],.str [27,91,48,109],.str [27,91,51,59,50,72],.str [27,91,50,65],.str [27,91,66],.str [27,91,53,67],.str [27,91,68],.str [27,91,50,59,52,114],.str [27,91,114],.str [27,91,76],.str [27,91,50,77],.str [27,55],.str [27,56],.str [27,68],.str [27,77],.str [27,69],.str [27,99],.str [27,93,48,59,116,105,116,108,101,7],.str [27,93,120,27,92],.str [195,164],.str [226,130,172],.str [240,159,152,128],.str [128],.str [226,40],.str [27,91,63,50,53,104],.str [27,91,49,59,50,59,51,59,52,59,53,59,54,59,55,59,56,59,57,109],.str [27,91,57,57,57,57,57,65],.str [27,91,49,36,120],.str [7],.str [27,91,83],.str [27,91,84],.str [27,91,49,74],.str [27,91,49,75],.str [119,114,97,112,32,97,114,111,117,110,100,32,105,116]]
theorem zPg:([.str [116,101,120,116],.str [97],.str [13,10],.str [10],.str [8],.str [9],.str [27,91,72],.str [27,91,50,74],.str [27,91,75],.str [27,91,49,59,51,49,109],.str [27,91,48,109],.str [27,91,51,59,50,72],.str [27,91,50,65],.str [27,91,66],.str [27,91,53,67],.str [27,91,68],.str [27,91,50,59,52,114],.str [27,91,114],.str [27,91,76],.str [27,91,50,77],.str [27,55],.str [27,56],.str [27,68],.str [27,77],.str [27,69],.str [27,99],.str [27,93,48,59,116,105,116,108,101,7],.str [27,93,120,27,92],.str [195,164],.str [226,130,172],.str [240,159,152,128],.str [128],.str [226,40],.str [27,91,63,50,53,104],.str [27,91,49,59,50,59,51,59,52,59,53,59,54,59,55,59,56,59,57,109],.str [27,91,57,57,57,57,57,65],.str [27,91,49,36,120],.str [7],.str [27,91,83],.str [27,91,84],.str [27,91,49,74],.str [27,91,49,75],.str [119,114,97,112,32,97,114,111,117,110,100,32,105,116]]:List PV)=zE5:=rfl
theorem zPk{l:List PV}{i:Nat}(h:l.length≤i):nth l i=PV.d:=by simp[nth,List.getElem?_eq_none h]
theorem zL4:∀e∈zE5,e.S.length≤20:=by decide
def zO0(es:List PV):Nat→Src→List UInt8→List UInt8 × Src
 | 0,s,t=>(t,s)
 | n+1,s,t=>zO0 es n (zDe es s zE5).2 (t++(zDe es s zE5).1)
def zJ9(es:List PV)(s:Src):List UInt8 × Src:=zO0 es (1+(zHn es s 8).1).toNat (zHn es s 8).2 []
theorem zIF{es:List PV}{s:Src}:(zDe es s zE5).1.length≤20:=by
 unfold zDe
 split
 ·simp
 ·by_cases h:(zHn es s zE5.length).1.toNat < zE5.length
  ·exact zL4 _ (yR h)
  ·rw[zPk (by omega)];exact Nat.zero_le _
theorem zL6{es:List PV}(hc:zGO es):∀(n:Nat) (s:Src) (t:List UInt8) (k:Int),zCK s.p s.q k→3*n≤k→zCK (zO0 es n s t).2.p (zO0 es n s t).2.q (k - 3*n)∧(zO0 es n s t).1.length≤t.length+20*n
 | 0,s,t,k,h,_=>⟨h.mono (by omega),by simp[zO0]⟩
 | n+1,s,t,k,h,hk=>by
  have h1:=zJ6 (l:=zE5) hc h (by omega)
  obtain⟨a,b⟩:=zL6 hc n _ (t++(zDe es s zE5).1) (k - 3) h1 (by omega)
  have h2:=zIF (es:=es) (s:=s)
  refine⟨a.mono (by omega),Nat.le_trans b ?_⟩
  rw[List.length_append];omega
theorem zPh{es:List PV}{s:Src}{k:Int}(hc:zGO es)(h:zCK s.p s.q k)(hk:27≤k):zCK (zJ9 es s).2.p (zJ9 es s).2.q (k - 27)∧(zJ9 es s).1.length≤200:=by
 obtain⟨h1,h2,h3⟩:=zHH (n:=8) hc h (by omega)
 have h4:=h3 (by omega)
 obtain⟨a,b⟩:=zL6 hc (1+(zHn es s 8).1).toNat _ [] _ h1 (by omega)
 refine⟨a.mono (by omega),Nat.le_trans b ?_⟩
 simp only[List.length_nil];omega
def zBn:zS:=⟨[(.bs,.box [.list (.int .u8),.int .i64,.int .i64])],[.str],true,fun ps=>zCK (nth (nth ps 0).A 1).I (nth (nth ps 0).A 2).I 30,fun ps=>[.str (zJ9 (nth (nth ps 0).A 0).L ⟨(nth (nth ps 0).A 1).I,(nth (nth ps 0).A 2).I⟩).1],fun ps=>[.agg [.list [],.int .i64 (zJ9 (nth (nth ps 0).A 0).L ⟨(nth (nth ps 0).A 1).I,(nth (nth ps 0).A 2).I⟩).2.p,.int .i64 (zJ9 (nth (nth ps 0).A 0).L ⟨(nth (nth ps 0).A 1).I,(nth (nth ps 0).A 2).I⟩).2.q]]⟩
set_option maxHeartbeats 0 in
theorem zNn:yQ Tryz.prog 35 zBn:=by
 refine zf [0,2,3,4] [.tmp 2] (zA (cs:=[]) zPu (zA (cs:=[]) zIP (zI (zF [])))) zc Tryz.func35 rfl (by decide) rfl (by decide) rfl ?_
 intro ps hT hpre W hW
 simp only[zBn,TyA,Ty,Tys] at hT hpre
 obtain⟨_,_,rfl,⟨_,rfl,_,_,rfl,⟨es,rfl,hes,tes⟩,_,_,rfl,⟨p,rfl,hp⟩,_,_,rfl,⟨q,rfl,hq⟩,rfl⟩,rfl⟩:=hT
 simp only[zE,zG,zBR,yu] at hpre
 have hc:=zAz tes
 obtain⟨h1,h2,h3⟩:=zHH (s:=⟨p,q⟩) (n:=8) hc hpre (by omega)
 have h4:=h3 (by omega)
 obtain⟨R,hR⟩:∃R,R=zJ9 es ⟨p,q⟩:=⟨_,rfl⟩
 obtain⟨n,hn⟩:∃n,n=zHn es ⟨p,q⟩ 8:=⟨_,rfl⟩
 have hR2:R=zO0 es (1+n.1).toNat n.2 []:=by rw[hR,zJ9,hn]
 rw[←hn] at h1 h2 h4
 refine hW.vc [] _ _ ?_
 simp[-List.getD_eq_getElem?_getD,zBn,zBa,zEm,←hn]
 refine⟨hpre.mono (by omega),?_⟩
 rw[zC (n:=1+n.1) (by omega)]
 refine hW.loopS _ _ _ [.bs 0 [.list (.int .u8),.int .i64,.int .i64],.sl 3 .dp .str,.sl 4 .dp (.int .i64)] (fun ys=>∃(k:Nat) (s:Src) (t:List UInt8),ys=[.agg [.list es,.int .i64 s.p,.int .i64 s.q],.str t,.int .i64 k]∧k≤8∧zCK s.p s.q (3*k)∧t.length+20*k≤200∧R=zO0 es k s t) (fun ys=>(nth ys 2).I.toNat) ?_ ?_
 ·simp[-List.getD_eq_getElem?_getD,zBn,zBa,zEm]
  exact⟨(1+n.1).toNat,n.2,[],⟨⟨rfl,rfl⟩,rfl,by omega⟩,by omega,h1.mono (by omega),by simp;omega,hR2⟩
 ·rintro ys ⟨k,s,t,rfl,g0,g1,g2,g3⟩
  have w1:IntKind.i64.wrap ((k:Int) - 1)=k - 1:=zC (by omega)
  have hl:=zIF (es:=es) (s:=s)
  refine hW.vc [] _ _ ?_
  simp (maxSteps:=20000000) [-List.getD_eq_getElem?_getD,zBn,zBa,zEm,w1,←hR,zPg]
  refine⟨fun h=>⟨by decide,g1.mono (by omega),by omega,⟨k - 1,(zDe es s zE5).2,t++(zDe es s zE5).1,⟨⟨rfl,rfl⟩,rfl,by omega⟩,by omega,(zJ6 (l:=zE5) hc g1 (by omega)).mono (by omega),by rw[List.length_append];omega,?_⟩,by omega⟩,fun h=>?_⟩
  ·obtain⟨m,rfl⟩:∃m,k=m+1:=⟨k - 1,by omega⟩
   exact g3
  ·subst h
   rw[g3];exact⟨rfl,rfl,rfl⟩
end
section
variable [zZ]
theorem ite_W{P:SC→Prop}{c:Prop}[Decidable c]{a b:SC}(h1:c→P a)(h2:¬c→P b):P (if c then a else b):=by
 by_cases h:c
 ·rw[if_pos h];exact h1 h
 ·rw[if_neg h];exact h2 h
theorem zSf{s:SC}{a:PV}:(doA s a.A).w=s.w∧(doA s a.A).h=s.h:=by
 have up1:∀(b e:Int) (k:Bool) (s:SC),(upS s b e k).w=s.w∧(upS s b e k).h=s.h:=fun _ _ _ _=>⟨rfl,rfl⟩
 have dn1:∀(b e:Int) (s:SC),(dnS s b e).w=s.w∧(dnS s b e).h=s.h:=fun _ _ _=>⟨rfl,rfl⟩
 have upn:∀(b e:Int) (k:Bool) (n:Nat) (s:SC),(upN b e k n s).w=s.w∧(upN b e k n s).h=s.h:=fun b e k n s=>⟨(zJv (n:=n) (s:=s)).1,(zJv (n:=n) (s:=s)).2.1⟩
 have dnn:∀(b e:Int) (n:Nat) (s:SC),(dnN b e n s).w=s.w∧(dnN b e n s).h=s.h:=fun b e n s=>⟨(zKa (n:=n) (s:=s)).1,(zKa (n:=n) (s:=s)).2.1⟩
 have dw:∀s:SC,(dwn s).w=s.w∧(dwn s).h=s.h:=fun s=>⟨(zKY s).1,(zKY s).2.2⟩
 have uw:∀s:SC,(upw s).w=s.w∧(upw s).h=s.h:=fun s=>by unfold upw;split<;>exact⟨rfl,rfl⟩
 have pw:∀s:SC,(zGc s).w=s.w∧(zGc s).h=s.h:=fun s=>by unfold zGc;split<;>first | exact dw _ | exact⟨rfl,rfl⟩
 unfold doA
 split
 ·simp only[prt];exact pw s
 split
 ·unfold ctl;repeat' split
  all_goals first | exact⟨rfl,rfl⟩ | exact dw s
 split
 ·unfold esc;repeat' split
  all_goals first | exact⟨rfl,rfl⟩ | exact dw _ | exact uw s
 split
 ·split
  ·exact⟨rfl,rfl⟩
  ·simp only[csi]
   repeat' (refine ite_W (P:=fun r=>r.w=s.w∧r.h=s.h) (fun _=>?_) (fun _=>?_))
   all_goals first | exact⟨rfl,rfl⟩ | exact upn _ _ _ _ _ | exact dnn _ _ _ _
 split<;>exact⟨rfl,rfl⟩
theorem zO6:∀{la:List PV} {s:SC},(doL s la).w=s.w∧(doL s la).h=s.h
 | [],_=>⟨rfl,rfl⟩
 | a :: r,s=>by
  have h1:=zO6 (la:=r) (s:=doA s a.A)
  have h2:=zSf (s:=s) (a:=a)
  exact⟨h1.1.trans h2.1,h1.2.trans h2.2⟩
end
section
variable [zZ]
def zPT(es:List PV)(s:Src)(w h:Int):SC:=doL (zKy w h) (zAg .g (zJ9 es s).1 []).2
def zH3(es:List PV)(s:Src)(w h:Int):List PV × Src:=(zDJ (zPT es s w h),(zJ9 es s).2)
theorem zLm{es:List PV}{s:Src}{w h:Int}(hw:2≤w∧w≤24)(hh:2≤h∧h≤10):ScI (zPT es s w h)∧(zPT es s w h).w=w∧(zPT es s w h).h=h:=by
 have hG:=(zHP (l:=(zJ9 es s).1) (acc:=[]) zDr.g (by simp)).2.1
 have hwh:=zO6 (la:=(zAg .g (zJ9 es s).1 []).2) (s:=zKy w h)
 exact⟨zP0 (zMF hw hh) hG,hwh.1,hwh.2⟩
def zA0:zS:=⟨[(.bs,.box [.list (.int .u8),.int .i64,.int .i64]),(.rd,.int .i64),(.rd,.int .i64)],[.list .str],true,fun ps=>(zCK (nth (nth ps 0).A 1).I (nth (nth ps 0).A 2).I 30)∧(2≤(nth ps 1).I∧(nth ps 1).I≤24)∧2≤(nth ps 2).I∧(nth ps 2).I≤10,
 fun ps=>[.list (zH3 (nth (nth ps 0).A 0).L ⟨(nth (nth ps 0).A 1).I,(nth (nth ps 0).A 2).I⟩ (nth ps 1).I (nth ps 2).I).1],fun ps=>[.agg [.list [],.int .i64 (zH3 (nth (nth ps 0).A 0).L ⟨(nth (nth ps 0).A 1).I,(nth (nth ps 0).A 2).I⟩ (nth ps 1).I (nth ps 2).I).2.p,.int .i64 (zH3 (nth (nth ps 0).A 0).L ⟨(nth (nth ps 0).A 1).I,(nth (nth ps 0).A 2).I⟩ (nth ps 1).I (nth ps 2).I).2.q]]⟩
set_option maxHeartbeats 0 in
theorem zMM:yQ Tryz.prog 17 zA0:=by
 refine zf [0,1,2,6,7,8,9] [.tmp 6] (zA (cs:=[]) zK4 (zA (cs:=[]) zMT (zA (cs:=[]) zNn (zA (cs:=[]) zKI (zI (zF [])))))) zc Tryz.func17 rfl (by decide) rfl (by decide) rfl ?_
 intro ps hT hpre W hW
 simp only[zA0,TyA,Ty,Tys] at hT hpre
 obtain⟨_,_,rfl,⟨_,rfl,_,_,rfl,⟨es,rfl,hes,tes⟩,_,_,rfl,⟨p,rfl,hp⟩,_,_,rfl,⟨q,rfl,hq⟩,rfl⟩,_,_,rfl,⟨w,rfl,hw⟩,_,_,rfl,⟨h,rfl,hh⟩,rfl⟩:=hT
 simp only[zE,zG,zBR,yu] at hpre
 obtain⟨hs,hw,hh⟩:=hpre
 have hc:=zAz tes
 have hO:=zPh (s:=⟨p,q⟩) hc hs (by omega)
 obtain⟨D,hD⟩:∃D,D=zPT es ⟨p,q⟩ w h:=⟨_,rfl⟩
 have hD2:doL (zKy w h) (zAg .g (zJ9 es ⟨p,q⟩).1 []).2=D:=hD.symm
 have hDI:=zLm (es:=es) (s:=⟨p,q⟩) hw hh
 rw[←hD] at hDI
 obtain⟨hDI,hDw,hDh⟩:=hDI
 obtain⟨O,hOO⟩:∃O,O=zJ9 es ⟨p,q⟩:=⟨_,rfl⟩
 have hR:zH3 es ⟨p,q⟩ w h=(zDJ D,O.2):=by rw[zH3,←hD,hOO]
 rw[←hOO] at hO hD2
 have hg:zCR [.int .i64 0,.list [],.bool false,.str [],.str []]=PR.g:=rfl
 obtain⟨M,hM⟩:∃M,M=zKy w h:=⟨_,rfl⟩
 have hMI:ScI M:=by rw[hM];exact zMF hw hh
 have hMs:zAj [.int .i64 M.w,.int .i64 M.h,.int .i64 M.x,.int .i64 M.y,.int .i64 M.look,.int .i64 M.top,.int .i64 M.bot,.int .i64 M.sx,.int .i64 M.sy,.str M.tit,.list M.cs,.list M.hist]=M:=rfl
 have hDs:zAj [.int .i64 D.w,.int .i64 D.h,.int .i64 D.x,.int .i64 D.y,.int .i64 D.look,.int .i64 D.top,.int .i64 D.bot,.int .i64 D.sx,.int .i64 D.sy,.str D.tit,.list D.cs,.list D.hist]=D:=rfl
 rw[←hM] at hD2
 refine hW.vc [(2,[4,9],tkN [3] (.alt 0 (.alt 1 (tkM [2] (alN [4,5] (tkN [6,7] (.alt 8 (alS 9 .done) (alS 9 (tkN [8] .done)))))) (alN [4,1] (tkN [2] (alS 5 (tkN [6,7] (.alt 8 (alS 9 .done) (alS 9 (tkN [8] .done)))))))) (.alt 1 (tkM [2] (.alt 0 (alN [4,5] (tkN [6,7] (.alt 8 (alS 9 .done) (alS 9 (tkN [8] .done))))) (alS 4 (tkN [0] (alS 5 (tkN [6,7] (.alt 8 (alS 9 .done) (alS 9 (tkN [8] .done))))))))) (alS 4 (tkN [0] (alS 1 (tkN [2] (alS 5 (tkN [6,7] (.alt 8 (alS 9 .done) (alS 9 (tkN [8] .done))))))))))))] _ _ ?_
 simp[-List.reduceReplicate,-List.getD_eq_getElem?_getD,zA0,zCV,zBn,zA2,zAM,SC.pv,PR.pv,←hM,←hOO,hMs,hg,hD2,hR]
 refine⟨⟨hw.1,hw.2,hh.1,hh.2⟩,by decide +kernel,hs,⟨hMI,zDr.g,by omega⟩,?_⟩
 refine hW.loopS _ _ _ [.sl 8 .dp (.list .str),.sl 9 .dp (.int .i64)] (fun ys=>∃i:Nat,ys=[.list ((zDJ D).take i),.int .i64 i]∧i≤h.toNat) (fun ys=>h.toNat - (nth ys 1).I.toNat) ?_ ?_
 ·simp[-List.getD_eq_getElem?_getD,zA0,zCV,zBn,zA2,zAM]
  exact⟨0,⟨by simp,rfl⟩,Nat.zero_le _⟩
 ·rintro ys ⟨i,rfl,r1⟩
  have w1:IntKind.i64.wrap ((i:Int)+1)=((i+1:Nat):Int):=by rw[zC (by omega)];simp
  have hl:(zDJ D).length=h.toNat:=by rw[←hDh];exact(zHL hDI).2.1
  have hrs:i < h.toNat→(zDJ D).take (i+1)=(zDJ D).take i++[.str (zGa ((D.cs.drop (i*D.w.toNat)).take D.w.toNat))]:=fun q=>by
   rw[List.take_add_one,List.getElem?_eq_getElem (by omega),Option.toList_some]
   simp[zDJ]
  refine hW.vc [(2,[4,9],tkN [3] (.alt 0 (.alt 1 (tkM [2] (alN [4,5] (tkN [6,7] (.alt 8 (alS 9 .done) (alS 9 (tkN [8] .done)))))) (alN [4,1] (tkN [2] (alS 5 (tkN [6,7] (.alt 8 (alS 9 .done) (alS 9 (tkN [8] .done)))))))) (.alt 1 (tkM [2] (.alt 0 (alN [4,5] (tkN [6,7] (.alt 8 (alS 9 .done) (alS 9 (tkN [8] .done))))) (alS 4 (tkN [0] (alS 5 (tkN [6,7] (.alt 8 (alS 9 .done) (alS 9 (tkN [8] .done))))))))) (alS 4 (tkN [0] (alS 1 (tkN [2] (alS 5 (tkN [6,7] (.alt 8 (alS 9 .done) (alS 9 (tkN [8] .done))))))))))))] _ _ ?_
  simp[-List.reduceReplicate,-List.getD_eq_getElem?_getD,zA0,zCV,zBn,zA2,zAM,SC.pv,PR.pv,←hM,←hOO,hMs,hDs,hg,hD2,hR,w1]
  refine⟨fun q=>⟨⟨hDI,by omega⟩,by omega,fun _=>⟨⟨i+1,⟨(hrs (by omega)).symm,by simp⟩,by omega⟩,by omega⟩⟩,fun q=>List.take_of_length_le (by omega)⟩
def zDE:zS:=⟨[(.rd,.list (.int .u8)),(.rd,.int .i64),(.rd,.int .i64)],[.list .str],true,fun ps=>(2≤(nth ps 1).I∧(nth ps 1).I≤24)∧2≤(nth ps 2).I∧(nth ps 2).I≤10,fun ps=>[.list (zH3 (nth ps 0).L ⟨0,zCf (nth ps 0).L⟩ (nth ps 1).I (nth ps 2).I).1],fun _=>[]⟩
theorem zNu:yQ Tryz.prog 5 zDE:=by
 refine zIY [0,1,2,6] [.tmp 6] _ sG (zA (cs:=[]) zMM (zI (zF []))) zc Tryz.func5 rfl (by decide) rfl (by decide) rfl ?_
 intro ps hT hpre W hW hB
 simp only[zDE,TyA,Ty,Tys] at hT hpre
 obtain⟨_,_,rfl,⟨es,rfl,hes,tes⟩,_,_,rfl,⟨w,rfl,hw⟩,_,_,rfl,⟨h,rfl,hh⟩,rfl⟩:=hT
 simp only[zE,zG,zBR,yu] at hpre
 refine hW.vc [] _ _ ?_
 simp[-List.getD_eq_getElem?_getD,zDE,zA0]
 refine hB.src _ _ _ _ _ ?_
 simp[sRes,-List.getD_eq_getElem?_getD,zDE,zA0]
 refine hW.vc [] _ _ ?_
 simp[-List.getD_eq_getElem?_getD,zDE,zA0]
 have h:=zEW (es.length:Int) 1000 (by omega) (by omega)
 exact⟨⟨by omega,by omega,h.1,Int.lt_trans h.2 (by omega)⟩,hpre⟩
end
end Go.Proofs.YtdmbfkooebldcaaGreatDoor
