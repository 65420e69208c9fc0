/-
  Part 11: contracts of functions, and the laws by which they are proved.
  Conditions: none.
-/
import Derived.Test.YtdmbfkooebldcaaW10
set_option linter.unusedVariables false
set_option linter.unusedSimpArgs false
set_option linter.unusedSectionVars false
set_option maxRecDepth 100000
namespace Go.Proofs.Ytdmbfkooebldcaa
section
variable [ze]
def zO:zP:=⟨[(.bx,.box [.int .i64,.int .i64,.int .i64,.int .i64,.int .i64,.int .i64,.int .i64,.int .i64,.int .i64,.str,.list (.agg [.int .i64,.int .i64]),.list .str]),(.rd,.int .i64),(.rd,.int .i64),(.rd,.int .i64)],[],true,fun ps=>ScI (zAw (nth ps 0).A)∧0≤(nth ps 1).I∧(nth ps 1).I≤(nth ps 2).I∧(nth ps 2).I < (nth (nth ps 0).A 1).I∧-100≤(nth ps 3).I∧(nth ps 3).I≤100,fun _=>[],
 fun ps=>[SC.pv (if 0≤(nth ps 3).I then upN (nth ps 1).I (nth ps 2).I true (nth ps 3).I.toNat (zAw (nth ps 0).A) else dnN (nth ps 1).I (nth ps 2).I (-(nth ps 3).I).toNat (zAw (nth ps 0).A))]⟩
set_option maxHeartbeats 1000000 in
theorem zFb:yQ Try.prog 89 zO:=by
 refine zf [0,1,2,3,8,9,10] [] (zA (cs:=[]) zJm (zA (cs:=[]) zKe (zG (zD [])))) zb Try.func89 rfl (by decide) rfl (by decide) rfl ?_
 intro ps hT hpre W hW
 simp only[zO,TyA,Ty,Tys] at hT hpre
 obtain⟨_,_,rfl,⟨_,rfl,_,_,rfl,⟨w,rfl,hw⟩,_,_,rfl,⟨h,rfl,hh⟩,_,_,rfl,⟨x,rfl,hx⟩,_,_,rfl,⟨y,rfl,hy⟩,_,_,rfl,⟨look,rfl,hlook⟩,_,_,rfl,⟨top,rfl,htop⟩,_,_,rfl,⟨bot,rfl,hbot⟩,_,_,rfl,⟨sx,rfl,hsx⟩,_,_,rfl,⟨sy,rfl,hsy⟩,_,_,rfl,⟨tit,rfl,htit⟩,_,_,rfl,⟨cs,rfl,hcs,tcs⟩,_,_,rfl,⟨hist,rfl,hhist,thist⟩,rfl⟩,_,_,rfl,⟨a,rfl,ha⟩,_,_,rfl,⟨b,rfl,hb⟩,_,_,rfl,⟨k,rfl,hk⟩,rfl⟩:=hT
 simp only[zF,zK,zBp,zCk,zAS] at hpre
 obtain⟨hS,a0,ab,bh,k0,k1⟩:=hpre
 obtain⟨V,hV⟩:∃V:Nat,w=V:=⟨w.toNat,by have:=hS.w;simp only[zAw,zF,zAS] at this;omega⟩
 obtain⟨A,hA⟩:∃A:Nat,a=A:=⟨a.toNat,by omega⟩
 obtain⟨B,hB⟩:∃B:Nat,b=B:=⟨b.toNat,by omega⟩
 subst hV hA hB
 obtain⟨S0,hS0⟩:∃S0:SC,S0=⟨V,h,x,y,look,top,bot,sx,sy,tit,cs,hist⟩:=⟨_,rfl⟩
 have hS:ScI S0:=by rw[hS0];exact hS
 have hw:=hS.w
 have hh:=hS.h
 have hw0:S0.w=V:=by rw[hS0]
 have hh0:S0.h=h:=by rw[hS0]
 rw[hw0] at hw
 rw[hh0] at hh
 have m1:B*V+V≤240:=by have:=Nat.mul_le_mul (show B+1≤10 by omega) (show V≤24 by omega);rw[Nat.add_mul,Nat.one_mul] at this;omega
 have m2:A*V≤B*V:=Nat.mul_le_mul_right _ (by omega)
 have m3:(B+1)*V≤h.toNat*V:=Nat.mul_le_mul_right _ (by omega)
 have m4:(B+1)*V=B*V+V:=by rw[Nat.add_mul,Nat.one_mul]
 have m5:(A+1)*V=A*V+V:=by rw[Nat.add_mul,Nat.one_mul]
 have i1:(A:Int)*V=((A*V:Nat):Int):=by simp
 have i2:(B:Int)*V=((B*V:Nat):Int):=by simp
 have w1:IntKind.i64.wrap ((A:Int)*V)=(A:Int)*V:=zC (by omega)
 have w2:IntKind.i64.wrap ((B:Int)*V)=(B:Int)*V:=zC (by omega)
 have w3:IntKind.i64.wrap ((B:Int)+1)=B+1:=zC (by omega)
 have w4:IntKind.i64.wrap ((A:Int)+1)=A+1:=zC (by omega)
 have j1:((B:Int)+1)*V=((B*V+V:Nat):Int):=by rw[Int.add_mul,Int.one_mul];simp
 have j2:((A:Int)+1)*V=((A*V+V:Nat):Int):=by rw[Int.add_mul,Int.one_mul];simp
 have w5:IntKind.i64.wrap (((B:Int)+1)*V)=((B:Int)+1)*V:=zC (by omega)
 have w6:IntKind.i64.wrap (((A:Int)+1)*V)=((A:Int)+1)*V:=zC (by omega)
 obtain⟨F,hF⟩:∃F:SC,F=if 0≤k then upN A B true k.toNat S0 else dnN A B (-k).toNat S0:=⟨_,rfl⟩
 have hsc:zAw [.int .i64 V,.int .i64 h,.int .i64 x,.int .i64 y,.int .i64 look,.int .i64 top,.int .i64 bot,.int .i64 sx,.int .i64 sy,.str tit,.list cs,.list hist]=S0:=by rw[hS0];rfl
 refine hW.vc [] _ _ ?_
 simp[-List.getD_eq_getElem?_getD,zO,zv,zc,SC.pv]
 by_cases hk:0≤k
 ·rw[if_pos hk] at hF
  have hif:∀(d:Decidable (0≤k)) (X Y:SC),@ite SC (0≤k) d X Y=X:=fun d X Y=>if_pos hk
  refine hW.loopS _ _ _ [.bx 0 [.int .i64,.int .i64,.int .i64,.int .i64,.int .i64,.int .i64,.int .i64,.int .i64,.int .i64,.str,.list (.agg [.int .i64,.int .i64]),.list .str],.sl 3 .dp (.int .i64)] (fun ys=>∃(m:Nat) (s:SC),ys=[s.pv,.int .i64 m]∧m≤100∧ScI s∧s.w=V∧s.h=h∧F=upN A B true m s) (fun ys=>(nth ys 1).I.toNat) ?_ ?_
  ·simp[-List.getD_eq_getElem?_getD,zO,zv,zc,SC.pv]
   refine⟨k.toNat,S0,⟨?_,by omega⟩,by omega,hS,hw0,hh0,hF⟩
   rw[hS0];and_intros<;>rfl
  ·rintro ys ⟨m,s,rfl,g1,g2,g3,g4,g5⟩
   have w7:IntKind.i64.wrap ((m:Int) - 1)=m - 1:=zC (by omega)
   have gn:=g2.nn
   have gm:=g2.m
   have gy:=g2.y
   obtain⟨w',h',x',y',look',top',bot',sx',sy',tit',cs',hist'⟩:=s
   simp only at g3 g4 gn gm gy
   subst g3 g4
   simp only[Int.toNat_natCast] at gn
   refine hW.vc [(4,[10,13],tkN [0,1,2,3,4,5,6,7] (alN [8,9,10] (tkN [11,12] (alS 13 .done)))),(10,[18],tkN [0,1,2,3,4,5,6,7,8,9,10,11,12,13,14,15,16,17] (alS 18 .done)),(11,[14],tkN [0,1,2,3,4,5,6,7,8,9,10,11,12,13] (alS 14 .done)),(17,[18],tkN [0,1,2,3,4,5,6,7,8,9,10,11,12,13,14,15,16,17] (alS 18 .done)),(18,[14],tkN [0,1,2,3,4,5,6,7,8,9,10,11,12,13] (alS 14 .done))] _ _ ?_
   simp[-List.getD_eq_getElem?_getD,zO,zv,zc,SC.pv,hif,hsc,←hF,w1,w2,w3,w4,w5,w6,w7]
   refine⟨fun hm=>⟨fun ha=>⟨by decide +kernel,⟨g2,by omega⟩,by omega,fun _ _=>⟨fun h6=>⟨by omega,fun _=>⟨by omega,?_⟩⟩,fun h6=>?_⟩⟩,fun ha=>?_⟩,fun hm=>?_⟩
   ·obtain⟨HH,hHH⟩:∃HH,HH=List.take hist'.length (hist'++[PV.str (zFz cs' V 0)]).tail:=⟨_,rfl⟩
    rw[←hHH]
    have hU:upS ⟨V,h',x',y',look',top',bot',sx',sy',tit',cs',hist'⟩ A B true=⟨V,h',x',y',look',top',bot',sx',sy',tit',upC cs' V A B,HH⟩:=by
     have e:HH=zMW hist' (zFz cs' V 0):=by
      rw[hHH,zMW,if_pos (by omega),List.drop_one,List.take_of_length_le (by simp)]
     simp only[upS,Int.toNat_natCast]
     rw[if_pos ⟨by omega,trivial⟩,e]
    refine hW.loopS _ _ _ [.bx 0 [.int .i64,.int .i64,.int .i64,.int .i64,.int .i64,.int .i64,.int .i64,.int .i64,.int .i64,.str,.list (.agg [.int .i64,.int .i64]),.list .str],.sl 9 .dp (.int .i64)] (fun ys=>∃i:Nat,ys=[SC.pv ⟨V,h',x',y',look',top',bot',sx',sy',tit',shU cs' V (A*V) i,HH⟩,.int .i64 i]∧A*V≤i∧i≤B*V) (fun ys=>B*V - (nth ys 1).I.toNat) ?_ ?_
    ·simp[-List.getD_eq_getElem?_getD,zO,zv,zc,SC.pv]
     exact⟨A*V,⟨zNv.symm,by simp⟩,Nat.le_refl _,m2⟩
    ·rintro ys ⟨i,rfl,r1,r2⟩
     have l1:=zDm (cs:=cs') (w:=V) r1 (by omega)
     have w8:IntKind.i64.wrap ((i:Int)+1)=i+1:=zC (by omega)
     have w9:IntKind.i64.wrap ((i:Int)+V)=((i+V:Nat):Int):=by rw[zC (by omega)];simp
     obtain⟨p,hp⟩:∃p,p=i+V:=⟨_,rfl⟩
     rw[←hp] at w9
     refine hW.vc [(4,[10,13],tkN [0,1,2,3,4,5,6,7] (alN [8,9,10] (tkN [11,12] (alS 13 .done)))),(10,[18],tkN [0,1,2,3,4,5,6,7,8,9,10,11,12,13,14,15,16,17] (alS 18 .done)),(11,[14],tkN [0,1,2,3,4,5,6,7,8,9,10,11,12,13] (alS 14 .done)),(17,[18],tkN [0,1,2,3,4,5,6,7,8,9,10,11,12,13,14,15,16,17] (alS 18 .done)),(18,[14],tkN [0,1,2,3,4,5,6,7,8,9,10,11,12,13] (alS 14 .done))] _ _ ?_
     simp[-List.getD_eq_getElem?_getD,zO,zv,zc,SC.pv,zAw,w1,w2,w3,w5,w7,w8,w9]
     have hB2:B*V+V≤cs'.length:=by omega
     have hcp:i < B*V→nth (shU cs' V (A*V) i) p=nth cs' p:=fun h=>by rw[zCq r1 (by omega) (by omega),if_neg (by omega),if_neg (by omega)]
     have hce:∀q,q < cs'.length→(.agg [.int .i64 (nth (nth cs' q).A 0).I,.int .i64 (nth (nth cs' q).A 1).I]:PV)=nth cs' q:=fun q hq=>by
      obtain⟨r,l,e,_⟩:=g2.c _ (yJ hq)
      rw[e];rfl
     rw[i2,j1]
     refine⟨fun h=>⟨by decide +kernel,?_⟩,fun h=>⟨by decide +kernel,⟨by omega,by omega,by omega,by omega⟩,⟨m - 1,upS ⟨V,h',x',y',look',top',bot',sx',sy',tit',cs',hist'⟩ A B true,⟨?_,by omega⟩,by omega,zRy g2 (by omega) (by omega) (by show(B:Int)≤h' - 1;omega),rfl,rfl,?_⟩,by omega⟩⟩
     ·have h:i < B*V:=by omega
      have e:=zNw (cs:=cs') (w:=V) r1 (by omega)
      rw[←hp,hcp h] at e
      rw[hcp h,hce p (by omega)]
      exact⟨by omega,fun _ _ _ _=>⟨by omega,⟨i+1,⟨e,by omega⟩,by omega,by omega⟩,by omega⟩⟩
     ·have ei:i=B*V:=by omega
      have e:zCE (shU cs' V (A*V) i) ((B*V:Nat):Int).toNat ((B*V+V:Nat):Int).toNat=upC cs' V A B:=by
       rw[Int.toNat_natCast,Int.toNat_natCast,←m4,ei]
       exact zNq gn (by omega) (by omega)
      rw[hU,e]
      and_intros<;>rfl
     ·obtain⟨q,rfl⟩:∃q,m=q+1:=⟨m - 1,by omega⟩
      rw[g5];rfl
   ·obtain⟨HH,hHH⟩:∃HH,HH=hist'++[PV.str (zFz cs' V 0)]:=⟨_,rfl⟩
    rw[←hHH]
    have hU:upS ⟨V,h',x',y',look',top',bot',sx',sy',tit',cs',hist'⟩ A B true=⟨V,h',x',y',look',top',bot',sx',sy',tit',upC cs' V A B,HH⟩:=by
     have e:HH=zMW hist' (zFz cs' V 0):=by
      rw[hHH,zMW,if_neg (by omega)]
     simp only[upS,Int.toNat_natCast]
     rw[if_pos ⟨by omega,trivial⟩,e]
    refine hW.loopS _ _ _ [.bx 0 [.int .i64,.int .i64,.int .i64,.int .i64,.int .i64,.int .i64,.int .i64,.int .i64,.int .i64,.str,.list (.agg [.int .i64,.int .i64]),.list .str],.sl 9 .dp (.int .i64)] (fun ys=>∃i:Nat,ys=[SC.pv ⟨V,h',x',y',look',top',bot',sx',sy',tit',shU cs' V (A*V) i,HH⟩,.int .i64 i]∧A*V≤i∧i≤B*V) (fun ys=>B*V - (nth ys 1).I.toNat) ?_ ?_
    ·simp[-List.getD_eq_getElem?_getD,zO,zv,zc,SC.pv]
     exact⟨A*V,⟨zNv.symm,by simp⟩,Nat.le_refl _,m2⟩
    ·rintro ys ⟨i,rfl,r1,r2⟩
     have l1:=zDm (cs:=cs') (w:=V) r1 (by omega)
     have w8:IntKind.i64.wrap ((i:Int)+1)=i+1:=zC (by omega)
     have w9:IntKind.i64.wrap ((i:Int)+V)=((i+V:Nat):Int):=by rw[zC (by omega)];simp
     obtain⟨p,hp⟩:∃p,p=i+V:=⟨_,rfl⟩
     rw[←hp] at w9
     refine hW.vc [(4,[10,13],tkN [0,1,2,3,4,5,6,7] (alN [8,9,10] (tkN [11,12] (alS 13 .done)))),(10,[18],tkN [0,1,2,3,4,5,6,7,8,9,10,11,12,13,14,15,16,17] (alS 18 .done)),(11,[14],tkN [0,1,2,3,4,5,6,7,8,9,10,11,12,13] (alS 14 .done)),(17,[18],tkN [0,1,2,3,4,5,6,7,8,9,10,11,12,13,14,15,16,17] (alS 18 .done)),(18,[14],tkN [0,1,2,3,4,5,6,7,8,9,10,11,12,13] (alS 14 .done))] _ _ ?_
     simp[-List.getD_eq_getElem?_getD,zO,zv,zc,SC.pv,zAw,w1,w2,w3,w5,w7,w8,w9]
     have hB2:B*V+V≤cs'.length:=by omega
     have hcp:i < B*V→nth (shU cs' V (A*V) i) p=nth cs' p:=fun h=>by rw[zCq r1 (by omega) (by omega),if_neg (by omega),if_neg (by omega)]
     have hce:∀q,q < cs'.length→(.agg [.int .i64 (nth (nth cs' q).A 0).I,.int .i64 (nth (nth cs' q).A 1).I]:PV)=nth cs' q:=fun q hq=>by
      obtain⟨r,l,e,_⟩:=g2.c _ (yJ hq)
      rw[e];rfl
     rw[i2,j1]
     refine⟨fun h=>⟨by decide +kernel,?_⟩,fun h=>⟨by decide +kernel,⟨by omega,by omega,by omega,by omega⟩,⟨m - 1,upS ⟨V,h',x',y',look',top',bot',sx',sy',tit',cs',hist'⟩ A B true,⟨?_,by omega⟩,by omega,zRy g2 (by omega) (by omega) (by show(B:Int)≤h' - 1;omega),rfl,rfl,?_⟩,by omega⟩⟩
     ·have h:i < B*V:=by omega
      have e:=zNw (cs:=cs') (w:=V) r1 (by omega)
      rw[←hp,hcp h] at e
      rw[hcp h,hce p (by omega)]
      exact⟨by omega,fun _ _ _ _=>⟨by omega,⟨i+1,⟨e,by omega⟩,by omega,by omega⟩,by omega⟩⟩
     ·have ei:i=B*V:=by omega
      have e:zCE (shU cs' V (A*V) i) ((B*V:Nat):Int).toNat ((B*V+V:Nat):Int).toNat=upC cs' V A B:=by
       rw[Int.toNat_natCast,Int.toNat_natCast,←m4,ei]
       exact zNq gn (by omega) (by omega)
      rw[hU,e]
      and_intros<;>rfl
     ·obtain⟨q,rfl⟩:∃q,m=q+1:=⟨m - 1,by omega⟩
      rw[g5];rfl
   ·obtain⟨HH,hHH⟩:∃HH,HH=hist':=⟨_,rfl⟩
    have hU:upS ⟨V,h',x',y',look',top',bot',sx',sy',tit',cs',hist'⟩ A B true=⟨V,h',x',y',look',top',bot',sx',sy',tit',upC cs' V A B,HH⟩:=by
     simp only[upS,Int.toNat_natCast]
     rw[if_neg (fun q=>ha (by omega)),hHH]
    rw[←hHH]
    refine hW.loopS _ _ _ [.bx 0 [.int .i64,.int .i64,.int .i64,.int .i64,.int .i64,.int .i64,.int .i64,.int .i64,.int .i64,.str,.list (.agg [.int .i64,.int .i64]),.list .str],.sl 9 .dp (.int .i64)] (fun ys=>∃i:Nat,ys=[SC.pv ⟨V,h',x',y',look',top',bot',sx',sy',tit',shU cs' V (A*V) i,HH⟩,.int .i64 i]∧A*V≤i∧i≤B*V) (fun ys=>B*V - (nth ys 1).I.toNat) ?_ ?_
    ·simp[-List.getD_eq_getElem?_getD,zO,zv,zc,SC.pv]
     exact⟨A*V,⟨zNv.symm,by simp⟩,Nat.le_refl _,m2⟩
    ·rintro ys ⟨i,rfl,r1,r2⟩
     have l1:=zDm (cs:=cs') (w:=V) r1 (by omega)
     have w8:IntKind.i64.wrap ((i:Int)+1)=i+1:=zC (by omega)
     have w9:IntKind.i64.wrap ((i:Int)+V)=((i+V:Nat):Int):=by rw[zC (by omega)];simp
     obtain⟨p,hp⟩:∃p,p=i+V:=⟨_,rfl⟩
     rw[←hp] at w9
     refine hW.vc [(4,[10,13],tkN [0,1,2,3,4,5,6,7] (alN [8,9,10] (tkN [11,12] (alS 13 .done)))),(10,[18],tkN [0,1,2,3,4,5,6,7,8,9,10,11,12,13,14,15,16,17] (alS 18 .done)),(11,[14],tkN [0,1,2,3,4,5,6,7,8,9,10,11,12,13] (alS 14 .done)),(17,[18],tkN [0,1,2,3,4,5,6,7,8,9,10,11,12,13,14,15,16,17] (alS 18 .done)),(18,[14],tkN [0,1,2,3,4,5,6,7,8,9,10,11,12,13] (alS 14 .done))] _ _ ?_
     simp[-List.getD_eq_getElem?_getD,zO,zv,zc,SC.pv,zAw,w1,w2,w3,w5,w7,w8,w9]
     have hB2:B*V+V≤cs'.length:=by omega
     have hcp:i < B*V→nth (shU cs' V (A*V) i) p=nth cs' p:=fun h=>by rw[zCq r1 (by omega) (by omega),if_neg (by omega),if_neg (by omega)]
     have hce:∀q,q < cs'.length→(.agg [.int .i64 (nth (nth cs' q).A 0).I,.int .i64 (nth (nth cs' q).A 1).I]:PV)=nth cs' q:=fun q hq=>by
      obtain⟨r,l,e,_⟩:=g2.c _ (yJ hq)
      rw[e];rfl
     rw[i2,j1]
     refine⟨fun h=>⟨by decide +kernel,?_⟩,fun h=>⟨by decide +kernel,⟨by omega,by omega,by omega,by omega⟩,⟨m - 1,upS ⟨V,h',x',y',look',top',bot',sx',sy',tit',cs',hist'⟩ A B true,⟨?_,by omega⟩,by omega,zRy g2 (by omega) (by omega) (by show(B:Int)≤h' - 1;omega),rfl,rfl,?_⟩,by omega⟩⟩
     ·have h:i < B*V:=by omega
      have e:=zNw (cs:=cs') (w:=V) r1 (by omega)
      rw[←hp,hcp h] at e
      rw[hcp h,hce p (by omega)]
      exact⟨by omega,fun _ _ _ _=>⟨by omega,⟨i+1,⟨e,by omega⟩,by omega,by omega⟩,by omega⟩⟩
     ·have ei:i=B*V:=by omega
      have e:zCE (shU cs' V (A*V) i) ((B*V:Nat):Int).toNat ((B*V+V:Nat):Int).toNat=upC cs' V A B:=by
       rw[Int.toNat_natCast,Int.toNat_natCast,←m4,ei]
       exact zNq gn (by omega) (by omega)
      rw[hU,e]
      and_intros<;>rfl
     ·obtain⟨q,rfl⟩:∃q,m=q+1:=⟨m - 1,by omega⟩
      rw[g5];rfl
   ·have em:m=0:=by omega
    subst em
    refine hW.loopS _ _ _ [.sl 3 .dp (.int .i64)] (fun ys=>ys=[.int .i64 0]) (fun ys=>0) ?_ ?_
    ·simp[-List.getD_eq_getElem?_getD,zO,zv,zc,SC.pv]
    ·rintro ys rfl
     refine hW.vc [] _ _ ?_
     simp[-List.getD_eq_getElem?_getD,zO,zv,zc,SC.pv,hif,hsc,←hF,g5,upN]
 ·rw[if_neg hk] at hF
  have hif:∀(d:Decidable (0≤k)) (X Y:SC),@ite SC (0≤k) d X Y=Y:=fun d X Y=>if_neg hk
  refine hW.loopS _ _ _ [.sl 3 .dp (.int .i64)] (fun ys=>ys=[.int .i64 k]) (fun ys=>0) ?_ ?_
  ·simp[-List.getD_eq_getElem?_getD,zO,zv,zc,SC.pv]
  rintro _ rfl
  refine hW.vc [] _ _ ?_
  simp[-List.getD_eq_getElem?_getD,zO,zv,zc,SC.pv]
  refine⟨by omega,fun _=>?_⟩
  refine hW.loopS _ _ _ [.bx 0 [.int .i64,.int .i64,.int .i64,.int .i64,.int .i64,.int .i64,.int .i64,.int .i64,.int .i64,.str,.list (.agg [.int .i64,.int .i64]),.list .str],.sl 3 .dp (.int .i64)] (fun ys=>∃(m:Nat) (s:SC),ys=[s.pv,.int .i64 (-(m:Int))]∧m≤100∧ScI s∧s.w=V∧s.h=h∧F=dnN A B m s) (fun ys=>(-(nth ys 1).I).toNat) ?_ ?_
  ·simp[-List.getD_eq_getElem?_getD,zO,zv,zc,SC.pv]
   refine⟨(-k).toNat,S0,⟨?_,by omega⟩,by omega,hS,hw0,hh0,hF⟩
   rw[hS0];and_intros<;>rfl
  ·rintro ys ⟨m,s,rfl,g1,g2,g3,g4,g5⟩
   have w7:IntKind.i64.wrap (-(m:Int)+1)=-(m:Int)+1:=zC (by omega)
   have gn:=g2.nn
   obtain⟨w',h',x',y',look',top',bot',sx',sy',tit',cs',hist'⟩:=s
   simp only at g3 g4 gn
   subst g3 g4
   simp only[Int.toNat_natCast] at gn
   have w10:IntKind.i64.wrap (((B:Int)+1)*V - 1)=((B:Int)+1)*V - 1:=zC (by omega)
   refine hW.vc [(4,[10,13],tkN [0,1,2,3,4,5,6,7] (alN [8,9,10] (tkN [11,12] (alS 13 .done)))),(10,[18],tkN [0,1,2,3,4,5,6,7,8,9,10,11,12,13,14,15,16,17] (alS 18 .done)),(11,[14],tkN [0,1,2,3,4,5,6,7,8,9,10,11,12,13] (alS 14 .done)),(17,[18],tkN [0,1,2,3,4,5,6,7,8,9,10,11,12,13,14,15,16,17] (alS 18 .done)),(18,[14],tkN [0,1,2,3,4,5,6,7,8,9,10,11,12,13] (alS 14 .done))] _ _ ?_
   simp[-List.getD_eq_getElem?_getD,zO,zv,zc,SC.pv,hif,hsc,←hF,w1,w2,w3,w4,w5,w6,w7,w10]
   have hB2:B*V+V≤cs'.length:=by omega
   refine⟨fun hm=>?_,fun hm=>?_⟩
   ·refine hW.loopS _ _ _ [.bx 0 [.int .i64,.int .i64,.int .i64,.int .i64,.int .i64,.int .i64,.int .i64,.int .i64,.int .i64,.str,.list (.agg [.int .i64,.int .i64]),.list .str],.sl 10 .dp (.int .i64)] (fun ys=>∃j:Nat,ys=[SC.pv ⟨V,h',x',y',look',top',bot',sx',sy',tit',shD cs' V (B*V+V) j,hist'⟩,.int .i64 ((j:Int) - 1)]∧A*V+V≤j∧j≤B*V+V) (fun ys=>((nth ys 1).I+1).toNat) ?_ ?_
    ·simp[-List.getD_eq_getElem?_getD,zO,zv,zc,SC.pv]
     refine⟨B*V+V,⟨zSW.symm,?_⟩,by omega,by omega⟩
     rw[j1]
    ·rintro ys ⟨j,rfl,r1,r2⟩
     have l1:=zFv (cs:=cs') (w:=V) (hi:=B*V+V) r2 hB2
     have w8:IntKind.i64.wrap ((j:Int) - 1 - 1)=j - 1 - 1:=zC (by omega)
     have w9:IntKind.i64.wrap ((j:Int) - 1 - V)=j - 1 - V:=zC (by omega)
     refine hW.vc [(4,[10,13],tkN [0,1,2,3,4,5,6,7] (alN [8,9,10] (tkN [11,12] (alS 13 .done)))),(10,[18],tkN [0,1,2,3,4,5,6,7,8,9,10,11,12,13,14,15,16,17] (alS 18 .done)),(11,[14],tkN [0,1,2,3,4,5,6,7,8,9,10,11,12,13] (alS 14 .done)),(17,[18],tkN [0,1,2,3,4,5,6,7,8,9,10,11,12,13,14,15,16,17] (alS 18 .done)),(18,[14],tkN [0,1,2,3,4,5,6,7,8,9,10,11,12,13] (alS 14 .done))] _ _ ?_
     simp[-List.getD_eq_getElem?_getD,zO,zv,zc,SC.pv,zAw,w1,w4,w6,w7,w8,w9]
     have hce:∀q,q < cs'.length→(.agg [.int .i64 (nth (nth cs' q).A 0).I,.int .i64 (nth (nth cs' q).A 1).I]:PV)=nth cs' q:=fun q hq=>by
      obtain⟨r,l,e,_⟩:=g2.c _ (yJ hq)
      rw[e];rfl
     rw[j2,i1]
     refine⟨fun h=>⟨by decide +kernel,⟨by omega,by omega⟩,by omega,fun _ _ _ _=>⟨⟨by omega,by omega⟩,by omega,⟨j - 1,⟨?_,by omega⟩,by omega,by omega⟩,by omega⟩⟩,fun h=>⟨by decide +kernel,⟨by omega,by omega,by omega,by omega⟩,⟨m - 1,dnS ⟨V,h',x',y',look',top',bot',sx',sy',tit',cs',hist'⟩ A B,⟨?_,by omega⟩,by omega,dn_I g2 (by omega) (by omega) (by show(B:Int)≤h' - 1;omega),rfl,rfl,?_⟩,by omega⟩⟩
     ·obtain⟨q,rfl⟩:∃q,j=q+1:=⟨j - 1,by omega⟩
      have e:=zSX (cs:=cs') (w:=V) (hi:=B*V+V) (j:=q) (by omega) (by omega) (by omega)
      have hcp:nth (shD cs' V (B*V+V) (q+1)) (q - V)=nth cs' (q - V):=by rw[zEm (by omega) (by omega) (by omega) (by omega),if_pos (by omega)]
      rw[hcp] at e
      rw[Nat.add_sub_cancel,hcp,hce _ (by omega),e]
     ·have ej:j=A*V+V:=by omega
      have e:zCE (shD cs' V (B*V+V) j) ((A*V:Nat):Int).toNat ((A*V+V:Nat):Int).toNat=dnC cs' V A B:=by
       rw[Int.toNat_natCast,Int.toNat_natCast,ej,←m5,←m4]
       exact zS4 gn (by omega) (by omega)
      rw[e]
      and_intros<;>rfl
     ·obtain⟨q,rfl⟩:∃q,m=q+1:=⟨m - 1,by omega⟩
      rw[g5];rfl
   ·subst hm
    have e:F=⟨V,h',x',y',look',top',bot',sx',sy',tit',cs',hist'⟩:=g5
    rw[e]
    and_intros<;>rfl
end
section
variable [ze]
def zDN:zP:=⟨[(.bx,.box [.int .i64,.int .i64,.int .i64,.int .i64,.int .i64,.int .i64,.int .i64,.int .i64,.int .i64,.str,.list (.agg [.int .i64,.int .i64]),.list .str])],[],true,fun ps=>ScI (zAw (nth ps 0).A),fun _=>[],fun ps=>[SC.pv (dwn (zAw (nth ps 0).A))]⟩
theorem zHu:yQ Try.prog 84 zDN:=by
 refine zf [0] [] (zA (cs:=[]) zFb (zG (zD []))) zb Try.func84 rfl (by decide) rfl (by decide) rfl ?_
 intro ps hT hpre W hW
 simp only[zDN,TyA,Ty,Tys] at hT hpre
 obtain⟨_,_,rfl,⟨_,rfl,_,_,rfl,⟨w,rfl,hw⟩,_,_,rfl,⟨h,rfl,hh⟩,_,_,rfl,⟨x,rfl,hx⟩,_,_,rfl,⟨y,rfl,hy⟩,_,_,rfl,⟨look,rfl,hlook⟩,_,_,rfl,⟨top,rfl,htop⟩,_,_,rfl,⟨bot,rfl,hbot⟩,_,_,rfl,⟨sx,rfl,hsx⟩,_,_,rfl,⟨sy,rfl,hsy⟩,_,_,rfl,⟨tit,rfl,htit⟩,_,_,rfl,⟨cs,rfl,hcs,tcs⟩,_,_,rfl,⟨hist,rfl,hhist,thist⟩,rfl⟩,rfl⟩:=hT
 simp only[zF,zBp] at hpre
 obtain⟨S0,hS0⟩:∃S0:SC,S0=⟨w,h,x,y,look,top,bot,sx,sy,tit,cs,hist⟩:=⟨_,rfl⟩
 have hS:ScI S0:=by rw[hS0];exact hpre
 have hsc:zAw [.int .i64 w,.int .i64 h,.int .i64 x,.int .i64 y,.int .i64 look,.int .i64 top,.int .i64 bot,.int .i64 sx,.int .i64 sy,.str tit,.list cs,.list hist]=S0:=by rw[hS0];rfl
 refine hW.vc [(0,[],tkN [0,1,2,3,4,5,6,7,8,9,10] .done),(1,[11],tkN [0,1,2,3,4,5,6,7,8,9,10] (alS 11 .done)),(2,[17],tkN [0,1,2,3,4,5,6,7,8,9,10,11,12,13,14,15,16] (alS 17 .done))] _ _ ?_
 simp[-List.getD_eq_getElem?_getD,zDN,zO,SC.pv,hsc]
 have hw:=hS.w;have hh:=hS.h;have hy:=hS.y;have hb:=hS.b;have ht:=hS.t
 have ey:S0.y=y:=by rw[hS0]
 have eh:S0.h=h:=by rw[hS0]
 have eb:S0.bot=bot:=by rw[hS0]
 have et:S0.top=top:=by rw[hS0]
 rw[ey,eh] at hy;rw[eb,et,eh] at hb;rw[et] at ht;rw[eh] at hh
 rw[zC (n:=y+1) (by omega),zC (n:=h - 1) (by omega)]
 refine⟨by decide +kernel,fun q=>⟨by decide +kernel,⟨hS,by omega,by omega,by omega⟩,?_⟩,fun q=>⟨by decide +kernel,?_⟩⟩
 ·have e:dwn S0=upN top bot true 1 S0:=by rw[dwn,if_pos (by omega),et,eb];rfl
  rw[e];and_intros<;>first | rfl | trivial
 ·have e:dwn S0={ S0 with y:=if y+1 < h - 1 then y+1 else h - 1 }:=by
   rw[dwn,if_neg (by omega),zAD,eh,ey];congr 1
   split<;>split<;>omega
  rw[e,hS0];and_intros<;>first | rfl | trivial
def zK2:zP:=⟨[(.bx,.box [.int .i64,.int .i64,.int .i64,.int .i64,.int .i64,.int .i64,.int .i64,.int .i64,.int .i64,.str,.list (.agg [.int .i64,.int .i64]),.list .str])],[],true,fun ps=>ScI (zAw (nth ps 0).A),fun _=>[],fun ps=>[SC.pv (upw (zAw (nth ps 0).A))]⟩
theorem zSw:yQ Try.prog 85 zK2:=by
 refine zf [0] [] (zA (cs:=[]) zFb (zG (zD []))) zb Try.func85 rfl (by decide) rfl (by decide) rfl ?_
 intro ps hT hpre W hW
 simp only[zK2,TyA,Ty,Tys] at hT hpre
 obtain⟨_,_,rfl,⟨_,rfl,_,_,rfl,⟨w,rfl,hw⟩,_,_,rfl,⟨h,rfl,hh⟩,_,_,rfl,⟨x,rfl,hx⟩,_,_,rfl,⟨y,rfl,hy⟩,_,_,rfl,⟨look,rfl,hlook⟩,_,_,rfl,⟨top,rfl,htop⟩,_,_,rfl,⟨bot,rfl,hbot⟩,_,_,rfl,⟨sx,rfl,hsx⟩,_,_,rfl,⟨sy,rfl,hsy⟩,_,_,rfl,⟨tit,rfl,htit⟩,_,_,rfl,⟨cs,rfl,hcs,tcs⟩,_,_,rfl,⟨hist,rfl,hhist,thist⟩,rfl⟩,rfl⟩:=hT
 simp only[zF,zBp] at hpre
 obtain⟨S0,hS0⟩:∃S0:SC,S0=⟨w,h,x,y,look,top,bot,sx,sy,tit,cs,hist⟩:=⟨_,rfl⟩
 have hS:ScI S0:=by rw[hS0];exact hpre
 have hsc:zAw [.int .i64 w,.int .i64 h,.int .i64 x,.int .i64 y,.int .i64 look,.int .i64 top,.int .i64 bot,.int .i64 sx,.int .i64 sy,.str tit,.list cs,.list hist]=S0:=by rw[hS0];rfl
 refine hW.vc [(0,[],tkN [0,1,2,3,4,5,6,7,8,9,10] .done),(1,[11],tkN [0,1,2,3,4,5,6,7,8,9,10] (alS 11 .done))] _ _ ?_
 simp[-List.getD_eq_getElem?_getD,zK2,zO,SC.pv,hsc]
 have hw:=hS.w;have hh:=hS.h;have hy:=hS.y;have hb:=hS.b;have ht:=hS.t
 have ey:S0.y=y:=by rw[hS0]
 have eh:S0.h=h:=by rw[hS0]
 have eb:S0.bot=bot:=by rw[hS0]
 have et:S0.top=top:=by rw[hS0]
 rw[ey,eh] at hy;rw[eb,et,eh] at hb;rw[et] at ht;rw[eh] at hh
 rw[zC (n:=y - 1) (by omega)]
 refine⟨by decide +kernel,fun q=>⟨by decide +kernel,⟨hS,by omega,by omega,by omega⟩,?_⟩,fun q=>?_⟩
 ·have e:upw S0=dnN top bot 1 S0:=by rw[upw,if_pos (by omega),et,eb];rfl
  rw[e];and_intros<;>first | rfl | trivial
 ·have e:upw S0={ S0 with y:=if 0 < y - 1 then y - 1 else 0 }:=by
   rw[upw,if_neg (by omega),zCS,ey]
  rw[e,hS0];and_intros<;>first | rfl | trivial
theorem zPR{D:SC}(h:ScI D)(hx:D.x < D.w):IntKind.i64.wrap (IntKind.i64.wrap (D.y*D.w)+D.x)=D.y*D.w+D.x∧0≤D.y*D.w+D.x∧D.y*D.w+D.x < D.cs.length∧IntKind.i64.wrap (D.x+1)=D.x+1:=by
 have w:=h.w;have hh:=h.h;have x:=h.x;have y:=h.y;have n:=h.nn
 have p0:0≤D.y*D.w:=Int.mul_nonneg (by omega) (by omega)
 have p1:(D.y+1)*D.w≤D.h*D.w:=Int.mul_le_mul_of_nonneg_right (by omega) (by omega)
 have p2:(D.y+1)*D.w=D.y*D.w+D.w:=by rw[Int.add_mul,Int.one_mul]
 have p3:D.h*D.w≤10*24:=Int.mul_le_mul (by omega) (by omega) (by omega) (by omega)
 have p4:((D.h.toNat*D.w.toNat:Nat):Int)=D.h*D.w:=by rw[Int.natCast_mul,Int.toNat_of_nonneg (by omega),Int.toNat_of_nonneg (by omega)]
 rw[zC (n:=D.y*D.w) (by omega),zC (n:=D.y*D.w+D.x) (by omega),zC (n:=D.x+1) (by omega)]
 exact⟨rfl,by omega,by omega,rfl⟩
def zEZ:zP:=⟨[(.bx,.box [.int .i64,.int .i64,.int .i64,.int .i64,.int .i64,.int .i64,.int .i64,.int .i64,.int .i64,.str,.list (.agg [.int .i64,.int .i64]),.list .str]),(.rd,.int .i64)],[],true,fun ps=>ScI (zAw (nth ps 0).A),fun _=>[],fun ps=>[SC.pv (prt (zAw (nth ps 0).A) (nth ps 1).I)]⟩
theorem zMs:yQ Try.prog 67 zEZ:=by
 refine zf [0,1] [] (zA (cs:=[]) zHu (zG (zD []))) zb Try.func67 rfl (by decide) rfl (by decide) rfl ?_
 intro ps hT hpre W hW
 simp only[zEZ,TyA,Ty,Tys] at hT hpre
 obtain⟨_,_,rfl,⟨_,rfl,_,_,rfl,⟨w,rfl,hw⟩,_,_,rfl,⟨h,rfl,hh⟩,_,_,rfl,⟨x,rfl,hx⟩,_,_,rfl,⟨y,rfl,hy⟩,_,_,rfl,⟨look,rfl,hlook⟩,_,_,rfl,⟨top,rfl,htop⟩,_,_,rfl,⟨bot,rfl,hbot⟩,_,_,rfl,⟨sx,rfl,hsx⟩,_,_,rfl,⟨sy,rfl,hsy⟩,_,_,rfl,⟨tit,rfl,htit⟩,_,_,rfl,⟨cs,rfl,hcs,tcs⟩,_,_,rfl,⟨hist,rfl,hhist,thist⟩,rfl⟩,_,_,rfl,⟨r,rfl,hr⟩,rfl⟩:=hT
 simp only[zF,zBp] at hpre
 obtain⟨S0,hS0⟩:∃S0:SC,S0=⟨w,h,x,y,look,top,bot,sx,sy,tit,cs,hist⟩:=⟨_,rfl⟩
 have hS:ScI S0:=by rw[hS0];exact hpre
 have hsc:zAw [.int .i64 w,.int .i64 h,.int .i64 x,.int .i64 y,.int .i64 look,.int .i64 top,.int .i64 bot,.int .i64 sx,.int .i64 sy,.str tit,.list cs,.list hist]=S0:=by rw[hS0];rfl
 obtain⟨S1,hS1⟩:∃S1:SC,S1={ S0 with x:=0 }:=⟨_,rfl⟩
 have hsc1:zAw [.int .i64 w,.int .i64 h,.int .i64 0,.int .i64 y,.int .i64 look,.int .i64 top,.int .i64 bot,.int .i64 sx,.int .i64 sy,.str tit,.list cs,.list hist]=S1:=by rw[hS1,hS0];rfl
 have hw:=hS.w
 have hxx:=hS.x
 have h1:ScI S1:=by rw[hS1];exact hS.go (x:=0) (y:=S0.y) (by omega) hS.y
 obtain⟨D,hD⟩:∃D,D=dwn S1:=⟨_,rfl⟩
 have hDI:ScI D:=by rw[hD];exact zIv h1
 have hDw:=zKv S1
 have hDx:D.x < D.w:=by rw[hD,hDw.1,hDw.2.1,hS1];show(0:Int) < S0.w;omega
 obtain⟨d1,d2,d3,d4⟩:=zPR hDI hDx
 have ex:S0.x=x:=by rw[hS0]
 have ew:S0.w=w:=by rw[hS0]
 refine hW.vc [(0,[],tkN [0,1,2,3,4,5,6,7,8,9,10] .done),(3,[30],tkN [0,1,2,3,4,5,6,7,8,9,10,11,12,13,14,15,16,17,18,19,20,21,22,23,24,25,26,27,28,29] (alS 30 .done))] _ _ ?_
 simp[-List.getD_eq_getElem?_getD,zEZ,zDN,SC.pv,hsc,hsc1,←hD,d1,d4]
 refine⟨by decide +kernel,fun q=>⟨h1,by decide +kernel,⟨d2,d3⟩,by omega,?_⟩,fun q=>?_⟩
 ·have e:zGv S0=D:=by rw[zGv,if_pos (by omega),hD,hS1]
  have e2:prt S0 r={ D with cs:=D.cs.set (D.y*D.w+D.x).toNat (cel r D.look),x:=D.x+1 }:=by rw[prt,e]
  rw[e2];and_intros<;>first | rfl | trivial
 ·have hx2:S0.x < S0.w:=by omega
  obtain⟨f1,f2,f3,f4⟩:=zPR hS hx2
  have e:zGv S0=S0:=by rw[zGv,if_neg (by omega)]
  have e2:prt S0 r={ S0 with cs:=S0.cs.set (S0.y*S0.w+S0.x).toNat (cel r S0.look),x:=S0.x+1 }:=by rw[prt,e]
  rw[e2]
  rw[hS0] at f1 f2 f3 f4 ⊢
  simp only at f1 f2 f3 f4 ⊢
  rw[f1,f4]
  refine⟨by decide +kernel,⟨f2,f3⟩,by omega,?_⟩
  and_intros<;>first | rfl | trivial
def zCd:zP:=⟨[(.bx,.box [.int .i64,.int .i64,.int .i64,.int .i64,.int .i64,.int .i64,.int .i64,.int .i64,.int .i64,.str,.list (.agg [.int .i64,.int .i64]),.list .str]),(.rd,.int .i64)],[],true,fun ps=>ScI (zAw (nth ps 0).A),fun _=>[],fun ps=>[SC.pv (ctl (zAw (nth ps 0).A) (nth ps 1).I)]⟩
theorem zJc:yQ Try.prog 68 zCd:=by
 refine zf [0,1,4] [] (zA (cs:=[]) zHu (zG (zD []))) zb Try.func68 rfl (by decide) rfl (by decide) rfl ?_
 intro ps hT hpre W hW
 simp only[zCd,TyA,Ty,Tys] at hT hpre
 obtain⟨_,_,rfl,⟨_,rfl,_,_,rfl,⟨w,rfl,hw⟩,_,_,rfl,⟨h,rfl,hh⟩,_,_,rfl,⟨x,rfl,hx⟩,_,_,rfl,⟨y,rfl,hy⟩,_,_,rfl,⟨look,rfl,hlook⟩,_,_,rfl,⟨top,rfl,htop⟩,_,_,rfl,⟨bot,rfl,hbot⟩,_,_,rfl,⟨sx,rfl,hsx⟩,_,_,rfl,⟨sy,rfl,hsy⟩,_,_,rfl,⟨tit,rfl,htit⟩,_,_,rfl,⟨cs,rfl,hcs,tcs⟩,_,_,rfl,⟨hist,rfl,hhist,thist⟩,rfl⟩,_,_,rfl,⟨b,rfl,hb⟩,rfl⟩:=hT
 simp only[zF,zBp] at hpre
 obtain⟨S0,hS0⟩:∃S0:SC,S0=⟨w,h,x,y,look,top,bot,sx,sy,tit,cs,hist⟩:=⟨_,rfl⟩
 have hS:ScI S0:=by rw[hS0];exact hpre
 have hsc:zAw [.int .i64 w,.int .i64 h,.int .i64 x,.int .i64 y,.int .i64 look,.int .i64 top,.int .i64 bot,.int .i64 sx,.int .i64 sy,.str tit,.list cs,.list hist]=S0:=by rw[hS0];rfl
 refine hW.vc [(2,[18],tkN [0,1,2,3,4,5,6,7,8,9,10,11,12,13,14,15,16,17] (alS 18 .done)),(4,[19],tkN [0,1,2,3,4,5,6,7,8,9,10,11,12,13,14,15,16,17,18] (alS 19 .done))] _ _ ?_
 simp[-List.getD_eq_getElem?_getD,zCd,zDN,SC.pv,hsc]
 have hw:=hS.w;have hx:=hS.x
 have ex:S0.x=x:=by rw[hS0]
 have ew:S0.w=w:=by rw[hS0]
 rw[ex,ew] at hx;rw[ew] at hw
 have w1:IntKind.i64.wrap (w - 1)=w - 1:=zC (by omega)
 have hd:x.tdiv 8=x / 8:=Int.tdiv_eq_ediv_of_nonneg hx.1
 have d1:0≤x / 8∧x / 8≤3:=by omega
 rw[w1,hd,zC (n:=x / 8) (by omega),zC (n:=x / 8+1) (by omega),zC (n:=(x / 8+1)*8) (by omega)]
 refine⟨fun q=>⟨by decide +kernel,?_⟩,fun q=>⟨fun q1=>⟨by decide +kernel,?_⟩,fun q1=>⟨fun q2=>⟨hS,?_⟩,fun q2=>⟨fun q3=>?_,fun q3=>?_⟩⟩⟩⟩
 ·have m1:(if w - 1 < x then w - 1 else x)=zAD x (w - 1):=by unfold zAD;split<;>split<;>omega
  have m2:=zAU (a:=x) (b:=w - 1)
  rw[m1,zC (n:=zAD x (w - 1) - 1) (by omega)]
  have e:ctl S0 b={ S0 with x:=if 0 < zAD x (w - 1) - 1 then zAD x (w - 1) - 1 else 0 }:=by rw[ctl,if_pos q,ex,ew,zCS]
  rw[e,hS0];and_intros<;>first | rfl | trivial
 ·have e:ctl S0 b={ S0 with x:=if (x / 8+1)*8 < w - 1 then (x / 8+1)*8 else w - 1 }:=by
   rw[ctl,if_neg q,if_pos q1,ex,ew,zAD];congr 1
   split<;>split<;>omega
  rw[e,hS0];and_intros<;>first | rfl | trivial
 ·have e:ctl S0 b=dwn S0:=by rw[ctl,if_neg q,if_neg q1,if_pos q2]
  rw[e];and_intros<;>first | rfl | trivial
 ·have e:ctl S0 b={ S0 with x:=0 }:=by rw[ctl,if_neg q,if_neg q1,if_neg q2,if_pos q3]
  rw[e,hS0];and_intros<;>first | rfl | trivial
 ·have e:ctl S0 b=S0:=by rw[ctl,if_neg q,if_neg q1,if_neg q2,if_neg q3]
  rw[e,hS0];and_intros<;>first | rfl | trivial
def zDM:zP:=⟨[(.bx,.box [.int .i64,.int .i64,.int .i64,.int .i64,.int .i64,.int .i64,.int .i64,.int .i64,.int .i64,.str,.list (.agg [.int .i64,.int .i64]),.list .str]),(.rd,.int .i64)],[],true,fun ps=>ScI (zAw (nth ps 0).A),fun _=>[],fun ps=>[SC.pv (esc (zAw (nth ps 0).A) (nth ps 1).I)]⟩
theorem zLQ:yQ Try.prog 69 zDM:=by
 refine zf [0,1,4,5] [] (zA (cs:=[]) zKf (zA (cs:=[]) zSw (zA (cs:=[]) zHu (zG (zD []))))) zb Try.func69 rfl (by decide) rfl (by decide) rfl ?_
 intro ps hT hpre W hW
 simp only[zDM,TyA,Ty,Tys] at hT hpre
 obtain⟨_,_,rfl,⟨_,rfl,_,_,rfl,⟨w,rfl,hw⟩,_,_,rfl,⟨h,rfl,hh⟩,_,_,rfl,⟨x,rfl,hx⟩,_,_,rfl,⟨y,rfl,hy⟩,_,_,rfl,⟨look,rfl,hlook⟩,_,_,rfl,⟨top,rfl,htop⟩,_,_,rfl,⟨bot,rfl,hbot⟩,_,_,rfl,⟨sx,rfl,hsx⟩,_,_,rfl,⟨sy,rfl,hsy⟩,_,_,rfl,⟨tit,rfl,htit⟩,_,_,rfl,⟨cs,rfl,hcs,tcs⟩,_,_,rfl,⟨hist,rfl,hhist,thist⟩,rfl⟩,_,_,rfl,⟨b,rfl,hb⟩,rfl⟩:=hT
 simp only[zF,zBp] at hpre
 obtain⟨S0,hS0⟩:∃S0:SC,S0=⟨w,h,x,y,look,top,bot,sx,sy,tit,cs,hist⟩:=⟨_,rfl⟩
 have hS:ScI S0:=by rw[hS0];exact hpre
 have hsc:zAw [.int .i64 w,.int .i64 h,.int .i64 x,.int .i64 y,.int .i64 look,.int .i64 top,.int .i64 bot,.int .i64 sx,.int .i64 sy,.str tit,.list cs,.list hist]=S0:=by rw[hS0];rfl
 refine hW.vc [(16,[14],tkN [0,1,2,3,4,5,6,7,8,9,10] (alS 11 (tkN [12,13] (alS 14 .done))))] _ _ ?_
 obtain⟨S1,hS1⟩:∃S1:SC,S1={ S0 with x:=0 }:=⟨_,rfl⟩
 have hsc1:zAw [.int .i64 w,.int .i64 h,.int .i64 0,.int .i64 y,.int .i64 look,.int .i64 top,.int .i64 bot,.int .i64 sx,.int .i64 sy,.str tit,.list cs,.list hist]=S1:=by rw[hS1,hS0];rfl
 have hw:=hS.w
 have hh:=hS.h
 have h1:ScI S1:=by rw[hS1];exact hS.go (x:=0) (y:=S0.y) (by omega) hS.y
 have ew:S0.w=w:=by rw[hS0]
 have eh:S0.h=h:=by rw[hS0]
 rw[ew] at hw;rw[eh] at hh
 obtain⟨R,hR⟩:∃R,R=esc S0 b:=⟨_,rfl⟩
 simp[-List.reduceReplicate,-List.getD_eq_getElem?_getD,zDM,zDN,zK2,zCg,SC.pv,hsc,hsc1,←hR]
 refine⟨fun q=>?_,fun q=>⟨fun q1=>?_,fun q1=>⟨fun q2=>⟨hS,?_⟩,fun q2=>⟨fun q3=>⟨h1,?_⟩,fun q3=>⟨fun q4=>⟨hS,?_⟩,fun q4=>⟨fun q5=>?_,fun q5=>?_⟩⟩⟩⟩⟩⟩
 ·rw[hR,esc,if_pos q,hS0];and_intros<;>first | rfl | trivial
 ·rw[hR,esc,if_neg q,if_pos q1,hS0];and_intros<;>first | rfl | trivial
 ·rw[hR,esc,if_neg q,if_neg q1,if_pos q2];and_intros<;>first | rfl | trivial
 ·have e:R=dwn S1:=by rw[hR,esc,if_neg q,if_neg q1,if_neg q2,if_pos q3,hS1]
  rw[e];and_intros<;>first | rfl | trivial
 ·rw[hR,esc,if_neg q,if_neg q1,if_neg q2,if_neg q3,if_pos q4];and_intros<;>first | rfl | trivial
 ·have e:R={ zLM S0.w S0.h with hist:=S0.hist }:=by rw[hR,esc,if_neg q,if_neg q1,if_neg q2,if_neg q3,if_neg q4,if_pos q5]
  rw[e,ew,eh]
  exact⟨by decide +kernel,⟨by omega,by omega,by omega,by omega⟩,rfl,rfl,rfl,rfl,rfl,rfl,rfl,rfl,rfl,rfl,rfl,by rw[hS0]⟩
 ·rw[hR,esc,if_neg q,if_neg q1,if_neg q2,if_neg q3,if_neg q4,if_neg q5,hS0];and_intros<;>first | rfl | trivial
def zq:zP:=⟨[(.bx,.box [.int .i64,.int .i64,.int .i64,.int .i64,.int .i64,.int .i64,.int .i64,.int .i64,.int .i64,.str,.list (.agg [.int .i64,.int .i64]),.list .str]),(.rd,.int .i64)],[],true,fun ps=>True,fun _=>[],fun ps=>[SC.pv { zAw (nth ps 0).A with look:=zKa (nth (nth ps 0).A 4).I (nth ps 1).I }]⟩
theorem zKc:yQ Try.prog 90 zq:=by
 refine zf [0,1,4] [] (zA (cs:=[]) zAJ (zG (zD []))) zb Try.func90 rfl (by decide) rfl (by decide) rfl ?_
 intro ps hT hpre W hW
 simp only[zq,TyA,Ty,Tys] at hT hpre
 obtain⟨_,_,rfl,⟨_,rfl,_,_,rfl,⟨w,rfl,hw⟩,_,_,rfl,⟨h,rfl,hh⟩,_,_,rfl,⟨x,rfl,hx⟩,_,_,rfl,⟨y,rfl,hy⟩,_,_,rfl,⟨look,rfl,hlook⟩,_,_,rfl,⟨top,rfl,htop⟩,_,_,rfl,⟨bot,rfl,hbot⟩,_,_,rfl,⟨sx,rfl,hsx⟩,_,_,rfl,⟨sy,rfl,hsy⟩,_,_,rfl,⟨tit,rfl,htit⟩,_,_,rfl,⟨cs,rfl,hcs,tcs⟩,_,_,rfl,⟨hist,rfl,hhist,thist⟩,rfl⟩,_,_,rfl,⟨n,rfl,hn⟩,rfl⟩:=hT
 refine hW.vc [] _ _ ?_
 simp[-List.getD_eq_getElem?_getD,zq,zY,zJ,SC.pv,zAw]
 have w1:inB n 30 37=true→IntKind.i64.wrap (n - 29)=n - 29:=fun q=>by have:=zER.1 q;exact zC (by omega)
 refine⟨fun q=>by rw[zKa,if_pos q],fun q=>⟨fun q1=>by rw[zKa,if_neg q,if_pos q1],fun q1=>⟨fun q2=>by rw[zKa,if_neg q,if_neg q1,if_pos q2],fun q2=>⟨fun q3=>by rw[zKa,if_neg q,if_neg q1,if_neg q2,if_pos q3],fun q3=>⟨fun q4=>by rw[w1 q4,zKa,if_neg q,if_neg q1,if_neg q2,if_neg q3,if_pos q4],fun q4=>⟨fun q5=>?_,fun q5=>?_⟩⟩⟩⟩⟩⟩
 ·rw[zKa,if_neg q,if_neg q1,if_neg q2,if_neg q3,if_neg (by simp[q4]),if_pos q5]
 ·rw[zKa,if_neg q,if_neg q1,if_neg q2,if_neg q3,if_neg (by simp[q4]),if_neg q5]
def zr:zP:=⟨[(.rd,.agg [.int .i64,.int .i64,.bool,.list (.int .i64),.str]),(.rd,.int .i64),(.rd,.int .i64)],[.int .i64],true,fun ps=>0≤(nth ps 1).I,fun ps=>[.int .i64 (yx (nth (nth ps 0).A 3).L (nth ps 1).I.toNat (nth ps 2).I)],fun _=>[]⟩
theorem zKg:yQ Try.prog 86 zr:=by
 refine zf [0,1,2,3,6] [.tmp 6] (zG (zD [])) zb Try.func86 rfl (by decide) rfl (by decide) rfl ?_
 intro ps hT hpre W hW
 simp only[zr,TyA,Ty,Tys] at hT hpre
 obtain⟨_,_,rfl,⟨_,rfl,_,_,rfl,⟨k,rfl,hk⟩,_,_,rfl,⟨n,rfl,hn⟩,_,_,rfl,⟨p,rfl⟩,_,_,rfl,⟨es,rfl,hes,tes⟩,_,_,rfl,⟨t,rfl,ht⟩,rfl⟩,_,_,rfl,⟨i,rfl,hi⟩,_,_,rfl,⟨o,rfl,ho⟩,rfl⟩:=hT
 simp only[zF,zK,zAS] at hpre
 refine hW.vc [] _ _ ?_
 simp[-List.getD_eq_getElem?_getD,zr]
 refine fun _=>⟨fun q=>⟨q,hpre,q⟩,fun q=>⟨q,by omega⟩,fun _=>⟨fun q=>?_,fun q q1=>⟨⟨hpre,q⟩,by omega,fun _=>?_⟩⟩⟩
 ·rw[yx,if_pos (by omega)]
 ·rw[yx,if_neg (by omega)]
end
section
variable [ze]
theorem zNA{w h:Int}:∀{es:List PV} {i:Nat} {p:Int},p < i→(∀e∈es,zIP e.S w=true)→(i:Int)+es.length≤h→upB w h p (zAu i es)=true
 | [],_,_,_,_,_=>rfl
 | e :: es,i,p,hp,hr,hl=>by
  simp only[List.length_cons] at hl
  have ih:=zNA (es:=es) (i:=i+1) (p:=i) (h:=h) (by omega) (fun x hx=>hr x (List.mem_cons_of_mem _ hx)) (by omega)
  rw[zAu,upB]
  simp only[zBp,zF,zK,zAS,zCt,Bool.and_eq_true,zER,decide_eq_true_eq]
  exact⟨⟨⟨by omega,decide_eq_true hp⟩,hr e (List.mem_cons_self ..)⟩,ih⟩
theorem zJv{w h:Int}:∀{xs ys:List PV} {i:Nat} {p:Int},p < i→(∀e∈ys,zIP e.S w=true)→(i:Int)+ys.length≤h→upB w h p (yW i xs ys)=true
 | [],_,_,_,_,_,_=>by rw[yW];rfl;simp
 | x :: xs,[],_,_,_,_,_=>by rw[yW];rfl;simp
 | x :: xs,y :: ys,i,p,hp,hr,hl=>by
  simp only[List.length_cons] at hl
  have hr':∀e∈ys,zIP e.S w=true:=fun e he=>hr e (List.mem_cons_of_mem _ he)
  rw[yW]
  cases hq:x.S == y.S with
  | true=>exact zJv (by omega) hr' (by omega)
  | false=>
   have ih:=zJv (xs:=xs) (ys:=ys) (i:=i+1) (p:=i) (h:=h) (by omega) hr' (by omega)
   rw[cond_false,upB]
   simp only[zBp,zF,zK,zAS,zCt,Bool.and_eq_true,zER,decide_eq_true_eq]
   exact⟨⟨⟨by omega,decide_eq_true hp⟩,hr y (List.mem_cons_self ..)⟩,ih⟩
theorem zJL{es:List PV}{w h:Int}(hr:zBz es w h=true):(es.length:Int)=h∧∀e∈es,zIP e.S w=true:=by
 simpa[zBz] using hr
theorem zQT{n w h:Int}{es:List PV}(hn:0≤n∧n≤60)(hs:zBo w h=true)(hr:zBz es w h=true):zBd (VW.ls' ⟨n,0,true,w,h,zAu 0 es⟩)=true∧zFG n w h es=(⟨n,0,true,w,h,zAu 0 es⟩,0):=by
 obtain⟨h1,h2⟩:=zJL hr
 have hb:w≤24∧h≤10:=by simp[zBo,inB] at hs;omega
 refine⟨?_,?_⟩
 ·have hl:=zEy es 0
  simp only[zBd,VW.ls',zF,zK,zAS,zCk,zNj,zER.2 hn,hs,zNA (es:=es) (i:=0) (p:=-1) (h:=h) (w:=w) (by omega) h2 (by omega),leB,hl,h1,zMD]
  simp
 ·rw[zFG,if_neg (by omega),if_neg (zGE (zER.2 hn) hs),if_neg (by simp[hr])]
theorem zQZ{f n w h:Int}{la bs:List PV}(hf:0≤f∧f < n∧n≤60)(hs:zBo w h=true)(ha:zBz la w h=true)(hb:zBz bs w h=true):zBd (VW.ls' ⟨n,f,false,w,h,yW 0 la bs⟩)=true∧zDj f n w h la bs=(⟨n,f,false,w,h,yW 0 la bs⟩,0):=by
 obtain⟨h1,h2⟩:=zJL hb
 obtain⟨h3,h4⟩:=zJL ha
 have hz:w≤24∧h≤10:=by simp[zBo,inB] at hs;omega
 have hl:=zE3 la bs 0
 refine⟨?_,zPb (by omega) (by omega) (zER.2 (by omega)) hs (zER.2 (by omega)) ha hb⟩
 have e:leB ((yW 0 la bs).length:Int) h=true:=by simp only[leB,decide_eq_true_eq];omega
 simp only[zBd,VW.ls',zF,zK,zAS,zCk,zNj,zER.2 (show 0≤n∧n≤60 by omega),hs,zJv (xs:=la) (ys:=bs) (i:=0) (p:=-1) (h:=h) (w:=w) (by omega) h2 (by omega),e,zMD,zER.2 (show 0≤f∧f≤n - 1 by omega)]
 simp
theorem zNB:∀(es:List PV) (i:Nat),∀e∈zAu i es,rwT e
 | [],_,e,h=>by cases h
 | x :: es,i,e,h=>by
  rw[zAu] at h
  rcases List.mem_cons.1 h with z | z
  ·exact⟨_,_,z⟩
  ·exact zNB es (i+1) e z
theorem zJw:∀(xs ys:List PV) (i:Nat),∀e∈yW i xs ys,rwT e
 | [],ys,i,e,h=>by rw[yW] at h;cases h;simp
 | x :: xs,[],i,e,h=>by rw[yW] at h;cases h;simp
 | x :: xs,y :: ys,i,e,h=>by
  rw[yW] at h
  cases hq:x.S == y.S with
  | true=>rw[hq] at h;exact zJw xs ys (i+1) e h
  | false=>
   rw[hq,cond_false] at h
   rcases List.mem_cons.1 h with z | z
   ·exact⟨_,_,z⟩
   ·exact zJw xs ys (i+1) e z
end
end Go.Proofs.Ytdmbfkooebldcaa
