/-
  Part 12: contracts of functions, and the laws by which they are proved.
  Conditions: none.
-/
import Derived.Test.YthogljppoiekaaaGreatW10
import Derived.Test.YthogljppoiekaaaGreatW11
set_option linter.unusedVariables false
set_option linter.unusedSimpArgs false
set_option linter.unusedSectionVars false
set_option maxRecDepth 100000
namespace Go.Proofs.YthogljppoiekaaaGreat
section
variable [zS]
def zIr(t:Int)(p:Int):List PV→Bool
 | []=>true
 | e :: es=>leB (nth e.A 1).S.length 400&&inB (nth e.A 0).I 1 t&&leB p (nth e.A 0).I&&zIr t (nth e.A 0).I es
def pvE(es:List PV)(i:Nat):Int:=if i=0 then 0 else (nth (nth es (i - 1)).A 0).I
theorem zVZ(es:List PV)(i:Nat):pvE es (i+1)=(nth (nth es i).A 0).I:=by simp[pvE]
theorem zR2{es:List PV}{i:Nat}(h:0 < i):pvE es i=(nth (nth es (i - 1)).A 0).I:=by rw[pvE,if_neg (by omega)]
def zKl(t:Int)(es:List PV):Bool:=zIr t 0 es&&leB es.length 60
def stB(t v:Int)(es:List PV):Bool:=inB t 0 1000&&inB v (-1) 4&&zKl t es
def voB(n p:Int):List PV→Bool
 | []=>true
 | e :: es=>inB e.I 0 (n - 1)&&decide (p < e.I)&&voB n e.I es
def pvV(es:List PV)(i:Nat):Int:=if i=0 then -1 else (nth es (i - 1)).I
theorem zVY(es:List PV)(i:Nat):pvV es (i+1)=(nth es i).I:=by simp[pvV]
theorem zR1{es:List PV}{i:Nat}(h:0 < i):pvV es i=(nth es (i - 1)).I:=by rw[pvV,if_neg (by omega)]
def nmB(l:Int):List PV→List PV→Bool
 | x :: xs,m :: ms=>inB x.I 1 (l+1)&&inB m.I 0 (x.I - 1)&&nmB l xs ms
 | _,_=>true
structure ND where
 id:Int
 nodes:Int
 term:Int
 vote:Int
 role:Int
 up:Bool
 log:List PV
 com:Int
 ela:Int
 wt:Int
 vs:List PV
 nx:List PV
 ms:List PV
def ND.pv(n:ND):PV:=.agg [.int .i64 n.id,.int .i64 n.nodes,.int .i64 n.term,.int .i64 n.vote,.int .i64 n.role,.bool n.up,.list n.log,.int .i64 n.com,.int .i64 n.ela,.int .i64 n.wt,.list n.vs,.list n.nx,.list n.ms]
def z8(v:List PV):ND:=⟨(nth v 0).I,(nth v 1).I,(nth v 2).I,(nth v 3).I,(nth v 4).I,(nth v 5).B,(nth v 6).L,(nth v 7).I,(nth v 8).I,(nth v 9).I,(nth v 10).L,(nth v 11).L,(nth v 12).L⟩
def ND.no:ND:=⟨0,0,0,0,0,false,[],0,0,0,[],[],[]⟩
def ltB(a b:Int):Bool:=decide (a < b)
def zaq(n:ND):Bool:=inB n.nodes 1 5&&inB n.id 0 (n.nodes - 1)&&stB n.term n.vote n.log&&ltB n.vote n.nodes&&inB n.role 0 2&&(n.up || n.role == 0)&&inB n.com 0 n.log.length &&
 inB n.ela 0 1000&&inB n.wt 5 100&&(n.nx.length:Int) == n.nodes&&(n.ms.length:Int) == n.nodes
def zB9(n:ND):Bool:=zaq n&&voB n.nodes (-1) n.vs&&nmB n.log.length n.nx n.ms
def zEw:zJ:=⟨[(.rd,.list (.agg [.int .i64,.str])),(.rd,.int .i64)],[.bool],true,fun _=>True,fun ps=>[.bool (zKl (nth ps 1).I (nth ps 0).L)],fun _=>[]⟩
theorem zOj:zh Tryz.prog 166 zEw:=by
 refine zP [0,1,4,5,6,7,8,9] [.tmp 4] (zA (cs:=[]) zA9 (zD (zB []))) mixed Tryz.func166 rfl (by decide) rfl (by decide) rfl ?_
 intro ps hT hpre W hW
 simp only[zEw,TyA,Ty,Tys] at hT hpre
 obtain⟨_,_,rfl,⟨es,rfl,hes,tes⟩,_,_,rfl,⟨t,rfl,ht⟩,rfl⟩:=hT
 refine hW.vc [(4,[],tkN [0,1,2,3,4,5,6,7] (alS 8 (tkN [9,10,11,12,13,14,15,16,17,18,19,20,21,22,23,24,25] .done)))] _ _ ?_
 simp[-List.getD_eq_getElem?_getD,zEw,zT]
 refine fun h1=>hW.loopS _ _ _ [.sl 9 .dp (.int .i64)] (fun ys=>∃i:Nat,ys=[.int .i64 i]∧i≤es.length∧zIr t 0 es=zIr t (pvE es i) (es.drop i)) (fun ys=>es.length - (nth ys 0).I.toNat) ?_ ?_
 ·simp[-List.getD_eq_getElem?_getD,zEw,zT]
  exact⟨0,rfl,by simp,by simp[pvE]⟩
 ·rintro ys ⟨i,rfl,g1,g2⟩
  refine hW.vc [(4,[],tkN [0,1,2,3,4,5,6,7] (alS 8 (tkN [9,10,11,12,13,14,15,16,17,18,19,20,21,22,23,24,25] .done)))] _ _ ?_
  simp[-List.getD_eq_getElem?_getD,zEw,zT]
  have k2:0 < i→(IntKind.i64.wrap ((i:Int) - 1)).toNat=i - 1:=fun h=>by rw[zC (by omega)];omega
  have k3:0 < i→IntKind.i64.wrap ((i:Int) - 1)=i - 1:=fun h=>zC (by omega)
  refine⟨fun g3=>⟨g3,fun _ _ _=>⟨by decide +kernel,fun _=>⟨fun g4 g5 g6=>⟨⟨⟨g4,g5⟩,g6⟩,by rw[k3 g6];omega⟩,fun g4 g5 g6=>⟨⟨⟨g4,g5⟩,g6⟩,by rw[k2 g6];omega⟩,fun _=>⟨fun g4 g5=>⟨⟨g4,g5⟩,fun g6=>⟨⟨g4,g5⟩,g6⟩⟩,?_⟩⟩⟩⟩,?_⟩
  ·rw[zG g3,zIr] at g2
   refine⟨fun g4=>?_,fun g4 g6 g5=>?_⟩
   ·rw[zKl,g2]
    rcases g4 with (g4 | g4) | ⟨g4,g5⟩
    ·have:¬((nth (nth es i).A 1).S.length:Int)≤400:=by omega
     simp[this,leB]
    ·simp[g4]
    ·rw[k2 g4] at g5
     have:¬pvE es i≤(nth (nth es i).A 0).I:=by rw[zR2 g4];omega
     simp[this,leB]
   ·rw[zC (by omega)]
    have k5:pvE es i≤(nth (nth es i).A 0).I:=by
     by_cases h0:0 < i
     ·have:=g5 h0
      rw[k2 h0] at this
      rw[zR2 h0];exact this
     ·have:pvE es i=0:=by rw[pvE,if_pos (by omega)]
      rw[this]
      simp[inB] at g6;omega
    refine⟨⟨i+1,by omega,by omega,?_⟩,by omega⟩
    rw[g2,g6,zVZ]
    simp[k5,g4,leB]
  ·intro g3 _
   rw[List.drop_eq_nil_of_le g3,zIr] at g2
   rw[zKl,g2,Bool.true_and,leB]
def zAg:zJ:=⟨[(.rd,.agg [.int .i64,.int .i64,.list (.agg [.int .i64,.str])])],[.bool],true,fun _=>True,fun ps=>[.bool (stB (nth (nth ps 0).A 0).I (nth (nth ps 0).A 1).I (nth (nth ps 0).A 2).L)],fun _=>[]⟩
theorem zTX:zh Tryz.prog 164 zAg:=by
 refine zP [0,1,2] [.tmp 2] (zA (cs:=[]) zOj (zA (cs:=[]) zA9 (zD (zB [])))) mixed Tryz.func164 rfl (by decide) rfl (by decide) rfl ?_
 intro ps hT hpre W hW
 simp only[zAg,TyA,Ty,Tys] at hT hpre
 obtain⟨_,_,rfl,⟨_,rfl,_,_,rfl,⟨t,rfl,ht⟩,_,_,rfl,⟨v,rfl,hv⟩,_,_,rfl,⟨es,rfl,hes,tes⟩,rfl⟩,rfl⟩:=hT
 refine hW.vc [] _ _ ?_
 simp[-List.getD_eq_getElem?_getD,zAg,zT,zEw]
 exact⟨fun h=>by rcases h with h | h<;>simp[stB,h],fun h h'=>by simp[stB,h,h']⟩
theorem zXr{n0 n1 n2 n3 n4 n5 n6 n7:Int}{u:Bool}{es vs xs ms:List PV}
  (h:((((((((((inB n1 1 5=false∨inB n0 0 (n1 - 1)=false)∨stB n2 n3 es=false)∨n1≤n3)∨inB n4 0 2=false)∨u=false∧¬n4=0)∨inB n5 0 es.length=false)∨inB n6 0 1000=false)∨inB n7 5 100=false)∨¬(xs.length:Int)=n1)∨¬(ms.length:Int)=n1)) :
  zB9 ⟨n0,n1,n2,n3,n4,u,es,n5,n6,n7,vs,xs,ms⟩=false:=by
 have:zaq ⟨n0,n1,n2,n3,n4,u,es,n5,n6,n7,vs,xs,ms⟩=false:=by
  rcases h with (((((((((h | h) | h) | h) | h) | h) | h) | h) | h) | h) | h
  case inl.inl.inl.inl.inl.inl.inl.inr=>simp[zaq,ltB,Int.not_lt.2 h]
  all_goals simp[zaq,h]
 simp[zB9,this]
theorem zev{n0 n1 n2 n3 n4 n5 n6 n7:Int}{u:Bool}{es vs xs ms:List PV}
  (h1:inB n1 1 5=true) (h2:inB n0 0 (n1 - 1)=true) (h3:stB n2 n3 es=true) (h4:n3 < n1) (h5:inB n4 0 2=true) (h6:u=false→n4=0) (h7:inB n5 0 es.length=true) (h8:inB n6 0 1000=true) (h9:inB n7 5 100=true) (h10:(xs.length:Int)=n1) (h11:(ms.length:Int)=n1) :
  zB9 ⟨n0,n1,n2,n3,n4,u,es,n5,n6,n7,vs,xs,ms⟩=(voB n1 (-1) vs&&nmB es.length xs ms):=by
 have h12:(u || n4 == 0)=true:=by cases u<;>simp[h6]
 have:zaq ⟨n0,n1,n2,n3,n4,u,es,n5,n6,n7,vs,xs,ms⟩=true:=by
  simp only[zaq,ltB,h1,h2,h3,h5,h7,h8,h9,h10,h11,h12,Bool.true_and,decide_eq_true h4,beq_self_eq_true]
 rw[zB9,this]
 simp
def zo:zJ:=⟨[(.rd,.agg [.int .i64,.int .i64,.int .i64,.int .i64,.int .i64,.bool,.list (.agg [.int .i64,.str]),.int .i64,.int .i64,.int .i64,.list (.int .i64),.list (.int .i64),.list (.int .i64)])],[.bool],true,fun _=>True,fun ps=>[.bool (zB9 (z8 (nth ps 0).A))],fun _=>[]⟩
theorem zHa:zh Tryz.prog 117 zo:=by
 refine zP [0,1,2,3,4,5,6,7,94,95,96,123,124,125] [.tmp 2] (zA (cs:=[]) zTX (zA (cs:=[]) zA9 (zD (zB [])))) mixed Tryz.func117 rfl (by decide) rfl (by decide) rfl ?_
 intro ps hT hpre W hW
 simp only[zo,TyA,Ty,Tys] at hT hpre
 obtain⟨_,_,rfl,⟨_,rfl,_,_,rfl,⟨n0,rfl,hn0⟩,_,_,rfl,⟨n1,rfl,hn1⟩,_,_,rfl,⟨n2,rfl,hn2⟩,_,_,rfl,⟨n3,rfl,hn3⟩,_,_,rfl,⟨n4,rfl,hn4⟩,_,_,rfl,⟨u,rfl⟩,_,_,rfl,⟨es,rfl,hes,tes⟩,_,_,rfl,⟨n5,rfl,hn5⟩,_,_,rfl,⟨n6,rfl,hn6⟩,_,_,rfl,⟨n7,rfl,hn7⟩,_,_,rfl,⟨vs,rfl,hvs,tvs⟩,_,_,rfl,⟨xs,rfl,hxs,txs⟩,_,_,rfl,⟨ms,rfl,hms,tms⟩,rfl⟩,rfl⟩:=hT
 refine hW.vc [] _ _ ?_
 simp[-List.getD_eq_getElem?_getD,zo,zT,zAg,z8]
 refine fun h0=>⟨fun a b c d e=>⟨⟨⟨⟨⟨a,b⟩,c⟩,d⟩,e⟩,fun f=>⟨⟨⟨⟨⟨a,b⟩,c⟩,d⟩,e⟩,f⟩⟩,fun _ _=>⟨fun h=>?_,?_⟩⟩
 ·by_cases hb:inB n1 1 5=true
  ·rw[zC (n:=n1 - 1) (by simp[inB] at hb;omega)] at h
   exact zXr h
  ·exact zXr (by simp[hb])
 intro h1 h2 h3 h4 h5 h6 h7 h8 h9 h10 h11 h12
 have k1:IntKind.i64.wrap (n1 - 1)=n1 - 1:=zC (by simp[inB] at h1;omega)
 rw[k1] at h2
 have hq:=zev (vs:=vs) h1 h2 h3 h4 h5 h6 h7 h8 h9 h10 h11
 refine hW.loopS _ _ _ [.sl 96 .dp (.int .i64)] (fun ys=>∃i:Nat,ys=[.int .i64 i]∧i≤vs.length∧voB n1 (-1) vs=voB n1 (pvV vs i) (vs.drop i)) (fun ys=>vs.length - (nth ys 0).I.toNat) ?_ ?_
 ·simp[-List.getD_eq_getElem?_getD,zo,zT,zAg]
  exact⟨0,rfl,by simp,by simp[pvV]⟩
 ·rintro ys ⟨i,rfl,g1,g2⟩
  refine hW.vc [] _ _ ?_
  simp[-List.getD_eq_getElem?_getD,zo,zT,zAg,z8]
  rw[k1]
  have k2:0 < i→(IntKind.i64.wrap ((i:Int) - 1)).toNat=i - 1:=fun h=>by rw[zC (by omega)];omega
  have k3:0 < i→IntKind.i64.wrap ((i:Int) - 1)=i - 1:=fun h=>zC (by omega)
  refine⟨fun g3=>⟨g3,fun _=>⟨fun g4 g5=>⟨⟨g4,g5⟩,by rw[k3 g5];omega⟩,fun g4 g5=>⟨⟨g4,g5⟩,by rw[k2 g5];omega⟩,fun _=>⟨fun g4=>⟨g4,fun g5=>⟨g4,g5⟩⟩,?_⟩⟩⟩,?_⟩
  ·rw[zG g3,voB] at g2
   refine⟨fun g4=>?_,fun g4 g5=>?_⟩
   ·rw[hq,g2]
    rcases g4 with g4 | ⟨g4,g5⟩
    ·simp[g4]
    ·rw[k2 g4] at g5
     have:¬pvV vs i < (nth vs i).I:=by rw[zR1 g4];omega
     simp[this]
   ·rw[zC (by omega)]
    have k5:pvV vs i < (nth vs i).I:=by
     by_cases h0:0 < i
     ·have:=g5 h0
      rw[k2 h0] at this
      rw[zR1 h0];exact this
     ·have:pvV vs i=-1:=by rw[pvV,if_pos (by omega)]
      rw[this]
      simp[inB] at g4;omega
    refine⟨⟨i+1,by omega,by omega,?_⟩,by omega⟩
    rw[g2,g4,zVY]
    simp[k5]
  ·intro g3 g4
   rw[List.drop_eq_nil_of_le g3,voB] at g2
   rw[g2,Bool.true_and] at hq
   refine hW.loopS _ _ _ [.sl 125 .dp (.int .i64)] (fun ys=>∃j:Nat,ys=[.int .i64 j]∧j≤xs.length∧nmB es.length xs ms=nmB es.length (xs.drop j) (ms.drop j)) (fun ys=>xs.length - (nth ys 0).I.toNat) ?_ ?_
   ·simp[-List.getD_eq_getElem?_getD,zo,zT,zAg]
    exact⟨0,rfl,by simp,by simp⟩
   ·rintro ys ⟨j,rfl,q1,q2⟩
    refine hW.vc [] _ _ ?_
    simp[-List.getD_eq_getElem?_getD,zo,zT,zAg,z8]
    have k6:IntKind.i64.wrap ((es.length:Int)+1)=es.length+1:=zC (by rw[LIM] at hes;omega)
    have k7:inB (nth xs j).I 1 (es.length+1)=true→IntKind.i64.wrap ((nth xs j).I - 1)=(nth xs j).I - 1:=fun h=>zC (by rw[LIM] at hes;simp[inB] at h;omega)
    rw[k6]
    refine⟨fun q3=>⟨q3,fun _=>⟨fun q4=>⟨q4,by omega⟩,fun _=>⟨fun q4=>?_,fun q4 q5=>?_⟩⟩⟩,fun q3=>?_⟩
    ·rw[zG q3,zG (by omega:j < ms.length),nmB] at q2
     rw[hq,q2]
     by_cases q5:inB (nth xs j).I 1 (es.length+1)=true
     ·rw[k7 q5] at q4
      rcases q4 with q4 | q4<;>simp[q4]
     ·simp[q5]
    ·rw[zG q3,zG (by omega:j < ms.length),nmB] at q2
     rw[k7 q4] at q5
     rw[zC (by omega)]
     exact⟨⟨j+1,by omega,by omega,by rw[q2,q4,q5];simp⟩,by omega⟩
    ·rw[hq,q2,List.drop_eq_nil_of_le q3];simp[nmB]
def zKa:zJ:=⟨[(.rd,.list (.agg [.int .i64,.str]))],[.list (.agg [.int .i64,.str])],true,fun ps=>(nth ps 0).L.length≤1048576,fun ps=>[.list (nth ps 0).L],fun _=>[]⟩
theorem zPA:zh Tryz.prog 168 zKa:=by
 refine zP [0,2] [.tmp 2] (zD (zB [])) mixed Tryz.func168 rfl (by decide) rfl (by decide) rfl ?_
 intro ps hT hpre W hW
 simp only[zKa,TyA,Ty,Tys] at hT hpre
 obtain⟨_,_,rfl,⟨es,rfl,hes,tes⟩,rfl⟩:=hT
 simp only[zE,zAA] at hpre
 refine hW.vc [] _ _ ?_
 simp[-List.getD_eq_getElem?_getD,zKa]
 omega
def zPG:zJ:=⟨[(.rd,.list (.int .i64))],[.list (.int .i64)],true,fun ps=>(nth ps 0).L.length≤1048576,fun ps=>[.list (nth ps 0).L],fun _=>[]⟩
theorem zZl:zh Tryz.prog 169 zPG:=by
 refine zP [0,2] [.tmp 2] (zD (zB [])) mixed Tryz.func169 rfl (by decide) rfl (by decide) rfl ?_
 intro ps hT hpre W hW
 simp only[zPG,TyA,Ty,Tys] at hT hpre
 obtain⟨_,_,rfl,⟨es,rfl,hes,tes⟩,rfl⟩:=hT
 simp only[zE,zAA] at hpre
 refine hW.vc [] _ _ ?_
 simp[-List.getD_eq_getElem?_getD,zPG]
 omega
def yy:zJ:=zj
theorem zGt:zh Tryz.prog 126 yy:=by
 refine zP [0,1,2] [.cell 2 77] (zA (cs:=[]) zZl (zA (cs:=[]) zPA (zD (zB [])))) mixed Tryz.func126 rfl (by decide) rfl (by decide) rfl ?_
 intro ps hT hpre W hW
 simp only[yy,TyA,Ty,Tys] at hT hpre
 simp only[zj,TyA,Ty,Tys] at hT hpre
 obtain⟨_,_,rfl,⟨_,rfl,_,_,rfl,⟨n0,rfl,hn0⟩,_,_,rfl,⟨n1,rfl,hn1⟩,_,_,rfl,⟨n2,rfl,hn2⟩,_,_,rfl,⟨n3,rfl,hn3⟩,_,_,rfl,⟨n4,rfl,hn4⟩,_,_,rfl,⟨u,rfl⟩,_,_,rfl,⟨es,rfl,hes,tes⟩,_,_,rfl,⟨n5,rfl,hn5⟩,_,_,rfl,⟨n6,rfl,hn6⟩,_,_,rfl,⟨n7,rfl,hn7⟩,_,_,rfl,⟨vs,rfl,hvs,tvs⟩,_,_,rfl,⟨xs,rfl,hxs,txs⟩,_,_,rfl,⟨ms,rfl,hms,tms⟩,rfl⟩,rfl⟩:=hT
 simp only[zE,zF,zBE,zAA] at hpre
 refine hW.vc [(1,[13,15,17,19],tkN [0,1,3,4,6,7,9,10] (alS 2 (tkN [12] (alN [5,8,11,13] (tkN [14] (alS 15 (tkN [16] (alS 17 (tkN [18] (alS 19 .done))))))))))] _ _ ?_
 simp[-List.getD_eq_getElem?_getD,yy,zKa,zPG,zj]
 exact⟨by decide +kernel,hpre⟩
def zCI(es:List PV)(p:Int):Int:=if p=0 then 0 else (nth (nth es (p - 1).toNat).A 0).I
def zDc:zJ:=⟨[(.rd,.box [.int .i64,.int .i64,.int .i64,.int .i64,.int .i64,.bool,.list (.agg [.int .i64,.str]),.int .i64,.int .i64,.int .i64,.list (.int .i64),.list (.int .i64),.list (.int .i64)]),(.rd,.int .i64)],[.int .i64],true,fun ps=>0≤(nth ps 1).I∧(nth ps 1).I≤(nth (nth ps 0).A 6).L.length,fun ps=>[.int .i64 (zCI (nth (nth ps 0).A 6).L (nth ps 1).I)],fun _=>[]⟩
theorem zNR:zh Tryz.prog 226 zDc:=by
 refine zP [0,1,4] [.tmp 4] (zD (zB [])) mixed Tryz.func226 rfl (by decide) rfl (by decide) rfl ?_
 intro ps hT hpre W hW
 simp only[zDc,TyA,Ty,Tys] at hT hpre
 obtain⟨_,_,rfl,⟨_,rfl,_,_,rfl,⟨n0,rfl,hn0⟩,_,_,rfl,⟨n1,rfl,hn1⟩,_,_,rfl,⟨n2,rfl,hn2⟩,_,_,rfl,⟨n3,rfl,hn3⟩,_,_,rfl,⟨n4,rfl,hn4⟩,_,_,rfl,⟨u,rfl⟩,_,_,rfl,⟨es,rfl,hes,tes⟩,_,_,rfl,⟨n5,rfl,hn5⟩,_,_,rfl,⟨n6,rfl,hn6⟩,_,_,rfl,⟨n7,rfl,hn7⟩,_,_,rfl,⟨vs,rfl,hvs,tvs⟩,_,_,rfl,⟨xs,rfl,hxs,txs⟩,_,_,rfl,⟨ms,rfl,hms,tms⟩,rfl⟩,_,_,rfl,⟨p,rfl,hp⟩,rfl⟩:=hT
 simp only[zE,zF,zBE,zAA,yp] at hpre
 refine hW.vc [] _ _ ?_
 simp[-List.getD_eq_getElem?_getD,zDc]
 refine⟨fun h=>by rw[zCI,if_pos h],fun h=>?_⟩
 rw[LIM] at hes
 rw[zC (by omega)]
 exact⟨⟨by omega,by omega⟩,by omega,fun _=>by rw[zCI,if_neg h]⟩
def zCH:zJ:=⟨[(.rd,.box [.int .i64,.int .i64,.int .i64,.int .i64,.int .i64,.bool,.list (.agg [.int .i64,.str]),.int .i64,.int .i64,.int .i64,.list (.int .i64),.list (.int .i64),.list (.int .i64)]),(.rd,.int .i64),(.rd,.int .i64)],[.agg [.int .i64,.int .i64,.int .i64,.int .i64,.int .i64,.int .i64,.int .i64,.bool,.list (.agg [.int .i64,.str])]],true,fun _=>True,
 fun ps=>[.agg [.int .i64 (nth ps 1).I,.int .i64 (nth (nth ps 0).A 0).I,.int .i64 (nth ps 2).I,.int .i64 (nth (nth ps 0).A 2).I,.int .i64 0,.int .i64 0,.int .i64 0,.bool false,.list []]],fun _=>[]⟩
theorem zNS:zh Tryz.prog 216 zCH:=by
 refine zP [0,1,2,6] [.cell 6 120] (zD (zB [])) mixed Tryz.func216 rfl (by decide) rfl (by decide) rfl ?_
 intro ps hT hpre W hW
 simp only[zCH,TyA,Ty,Tys] at hT hpre
 obtain⟨_,_,rfl,⟨_,rfl,_,_,rfl,⟨n0,rfl,hn0⟩,_,_,rfl,⟨n1,rfl,hn1⟩,_,_,rfl,⟨n2,rfl,hn2⟩,_,_,rfl,⟨n3,rfl,hn3⟩,_,_,rfl,⟨n4,rfl,hn4⟩,_,_,rfl,⟨u,rfl⟩,_,_,rfl,⟨es,rfl,hes,tes⟩,_,_,rfl,⟨n5,rfl,hn5⟩,_,_,rfl,⟨n6,rfl,hn6⟩,_,_,rfl,⟨n7,rfl,hn7⟩,_,_,rfl,⟨vs,rfl,hvs,tvs⟩,_,_,rfl,⟨xs,rfl,hxs,txs⟩,_,_,rfl,⟨ms,rfl,hms,tms⟩,rfl⟩,_,_,rfl,⟨k,rfl,hk⟩,_,_,rfl,⟨to,rfl,hto⟩,rfl⟩:=hT
 refine hW.vc [(1,[11],tkN [0,1,2,3,4,5,6,7,8,9,10] (alS 11 .done))] _ _ ?_
 simp[-List.getD_eq_getElem?_getD,zCH]
 decide +kernel
def zan(n:ND)(to:Int):PV:=.agg [.int .i64 3,.int .i64 n.id,.int .i64 to,.int .i64 n.term,.int .i64 ((nth n.nx to.toNat).I - 1),.int .i64 (zCI n.log ((nth n.nx to.toNat).I - 1)),.int .i64 n.com,.bool false,.list (n.log.drop ((nth n.nx to.toNat).I.toNat - 1))]
def zUV(n:ND)(to:Int):Prop:=0≤to∧to < n.nx.length∧1≤(nth n.nx to.toNat).I∧(nth n.nx to.toNat).I≤n.log.length+1∧n.log.length≤1024
def zB1:zJ:=⟨[(.rd,.box [.int .i64,.int .i64,.int .i64,.int .i64,.int .i64,.bool,.list (.agg [.int .i64,.str]),.int .i64,.int .i64,.int .i64,.list (.int .i64),.list (.int .i64),.list (.int .i64)]),(.rd,.int .i64)],[.agg [.int .i64,.int .i64,.int .i64,.int .i64,.int .i64,.int .i64,.int .i64,.bool,.list (.agg [.int .i64,.str])]],true,fun ps=>zUV (z8 (nth ps 0).A) (nth ps 1).I,fun ps=>[zan (z8 (nth ps 0).A) (nth ps 1).I],fun _=>[]⟩
theorem zQJ:zh Tryz.prog 222 zB1:=by
 refine zP [0,1,4,5] [.cell 4 120] (zA (cs:=[]) zPA (zA (cs:=[]) zNR (zA (cs:=[]) zNS (zD (zB []))))) mixed Tryz.func222 rfl (by decide) rfl (by decide) rfl ?_
 intro ps hT hpre W hW
 simp only[zB1,TyA,Ty,Tys] at hT hpre
 obtain⟨_,_,rfl,⟨_,rfl,_,_,rfl,⟨n0,rfl,hn0⟩,_,_,rfl,⟨n1,rfl,hn1⟩,_,_,rfl,⟨n2,rfl,hn2⟩,_,_,rfl,⟨n3,rfl,hn3⟩,_,_,rfl,⟨n4,rfl,hn4⟩,_,_,rfl,⟨u,rfl⟩,_,_,rfl,⟨es,rfl,hes,tes⟩,_,_,rfl,⟨n5,rfl,hn5⟩,_,_,rfl,⟨n6,rfl,hn6⟩,_,_,rfl,⟨n7,rfl,hn7⟩,_,_,rfl,⟨vs,rfl,hvs,tvs⟩,_,_,rfl,⟨xs,rfl,hxs,txs⟩,_,_,rfl,⟨ms,rfl,hms,tms⟩,rfl⟩,_,_,rfl,⟨to,rfl,hto⟩,rfl⟩:=hT
 simp only[zE,zF,zBE,zAA,yp,z8,zUV] at hpre
 refine hW.vc [(5,[9],tkN [0,1,2,3,4,5,6] (alS 7 (tkN [8] (alS 9 .done))))] _ _ ?_
 simp[-List.getD_eq_getElem?_getD,zB1,zCH,zDc,zKa,z8,zan]
 obtain⟨p1,p2,p3,p4,p5⟩:=hpre
 rw[zC (n:=(nth xs to.toNat).I - 1) (by omega)]
 refine⟨⟨p1,p2⟩,by omega,fun _=>⟨⟨by omega,by omega⟩,by decide +kernel,⟨by omega,by omega⟩,fun _=>⟨by omega,rfl,rfl,?_⟩⟩⟩
 have e:((nth xs to.toNat).I - 1).toNat=(nth xs to.toNat).I.toNat - 1:=by omega
 rw[e,List.take_of_length_le (by simp)]
def zOc(n:ND)(to:Int):PV:=zan n to
def zAx(n:ND):Nat→List PV
 | 0=>[]
 | k+1=>zAx n k++(if (k:Int)=n.id then [] else [zOc n k])
theorem zN3(n:ND):∀k,(zAx n k).length≤k
 | 0=>Nat.le_refl _
 | k+1=>by
  have:=zN3 n k
  rw[zAx,List.length_append]
  split<;>simp<;>omega
def zKg(n:ND):Prop:=1≤n.nodes∧n.nodes≤5∧(∀i:Nat,(i:Int) < n.nodes→zUV n i)
def zBx:zJ:=⟨[(.rd,.box [.int .i64,.int .i64,.int .i64,.int .i64,.int .i64,.bool,.list (.agg [.int .i64,.str]),.int .i64,.int .i64,.int .i64,.list (.int .i64),.list (.int .i64),.list (.int .i64)])],[.list (.agg [.int .i64,.int .i64,.int .i64,.int .i64,.int .i64,.int .i64,.int .i64,.bool,.list (.agg [.int .i64,.str])])],true,fun ps=>zKg (z8 (nth ps 0).A),fun ps=>[.list (zAx (z8 (nth ps 0).A) (nth (nth ps 0).A 1).I.toNat)],fun _=>[]⟩
theorem zJP:zh Tryz.prog 195 zBx:=by
 refine zP [0,2,3,4,8,9] [.tmp 2] (zA (cs:=[]) zQJ (zD (zB []))) mixed Tryz.func195 rfl (by decide) rfl (by decide) rfl ?_
 intro ps hT hpre W hW
 simp only[zBx,TyA,Ty,Tys] at hT hpre
 obtain⟨_,_,rfl,⟨_,rfl,_,_,rfl,⟨n0,rfl,hn0⟩,_,_,rfl,⟨n1,rfl,hn1⟩,_,_,rfl,⟨n2,rfl,hn2⟩,_,_,rfl,⟨n3,rfl,hn3⟩,_,_,rfl,⟨n4,rfl,hn4⟩,_,_,rfl,⟨u,rfl⟩,_,_,rfl,⟨es,rfl,hes,tes⟩,_,_,rfl,⟨n5,rfl,hn5⟩,_,_,rfl,⟨n6,rfl,hn6⟩,_,_,rfl,⟨n7,rfl,hn7⟩,_,_,rfl,⟨vs,rfl,hvs,tvs⟩,_,_,rfl,⟨xs,rfl,hxs,txs⟩,_,_,rfl,⟨ms,rfl,hms,tms⟩,rfl⟩,rfl⟩:=hT
 simp only[zE,zF,zBE,zAA,yp,z8,zKg] at hpre
 refine hW.vc [] _ _ ?_
 simp[-List.getD_eq_getElem?_getD,zBx,zB1,z8,zan]
 obtain⟨p1,p2,p3⟩:=hpre
 refine hW.loopS _ _ _ [.sl 9 .dp (.int .i64),.sl 3 .dp (.list (.agg [.int .i64,.int .i64,.int .i64,.int .i64,.int .i64,.int .i64,.int .i64,.bool,.list (.agg [.int .i64,.str])]))] (fun ys=>∃i:Nat,ys=[.int .i64 i,.list (zAx ⟨n0,n1,n2,n3,n4,u,es,n5,n6,n7,vs,xs,ms⟩ i)]∧(i:Int)≤n1) (fun ys=>n1.toNat - (nth ys 0).I.toNat) ?_ ?_
 ·simp[-List.getD_eq_getElem?_getD,zBx,zB1]
  exact⟨0,⟨rfl,rfl⟩,by omega⟩
 ·rintro ys ⟨i,rfl,q1⟩
  refine hW.vc [] _ _ ?_
  simp[-List.getD_eq_getElem?_getD,zBx,zB1,z8,zan]
  have hl:=zN3 ⟨n0,n1,n2,n3,n4,u,es,n5,n6,n7,vs,xs,ms⟩ i
  rw[zC (n:=(i:Int)+1) (by omega)]
  refine⟨fun q2=>⟨fun q3=>⟨p3 i q2,by omega,fun _=>⟨⟨i+1,⟨rfl,?_⟩,by omega⟩,by omega⟩⟩,fun q3=>⟨⟨i+1,⟨rfl,?_⟩,by omega⟩,by omega⟩⟩,fun q2=>?_⟩
  ·rw[zAx,if_neg q3];rfl
  ·rw[zAx,if_pos q3,List.append_nil]
  ·have:i=n1.toNat:=by omega
   rw[this]
end
section
variable [zS]
def zQc(r:Nat):Nat:=if r % 2=1 then (r / 2) ^^^ 3988292384 else r / 2
def zFG:Nat→Nat→Nat
 | 0,r=>r
 | n+1,r=>zQc (zFG n r)
def zZy(l:List UInt8):Nat:=l.foldl (fun r b=>zFG 8 (r ^^^ b.toNat)) 4294967295
def zWx(l:List UInt8):Nat:=zZy l ^^^ 4294967295
theorem zPN{a b:Nat}(ha:a < 4294967296)(hb:b < 4294967296):a ^^^ b < 4294967296:=Nat.xor_lt_two_pow (n:=32) ha hb
theorem zYi{r:Nat}(h:r < 4294967296):zQc r < 4294967296:=by
 unfold zQc
 split
 ·exact zPN (by omega) (by omega)
 ·omega
theorem zLi{r:Nat}(h:r < 4294967296):∀n,zFG n r < 4294967296
 | 0=>h
 | n+1=>zYi (zLi h n)
theorem zYh:∀(l:List UInt8) (r:Nat),r < 4294967296→l.foldl (fun r b=>zFG 8 (r ^^^ b.toNat)) r < 4294967296
 | [],r,h=>h
 | b :: l,r,h=>zYh l _ (zLi (zPN h (by have:=b.toNat_lt;omega)) 8)
theorem zU3(l:List UInt8):zZy l < 4294967296:=zYh l _ (by decide)
theorem zYg(l:List UInt8):zWx l < 4294967296:=zPN (zU3 l) (by decide)
theorem zTq{l:List UInt8}{i:Nat}(h:i < l.length):zZy (l.take (i+1))=zFG 8 (zZy (l.take i) ^^^ (l.getD i 0).toNat):=by
 rw[List.take_succ_eq_append_getElem h,zZy,List.foldl_append,List.getD_eq_getElem?_getD,List.getElem?_eq_getElem h]
 rfl
def zMn(d:List UInt8):List UInt8:=nB d.length 3++(nB (zWx (nB d.length 3++d)) 4++d)
theorem zHb(d:List UInt8):(zMn d).length=7+d.length:=by
 simp only[zMn,List.length_append,zFB];omega
def zCB:Nat→List UInt8→List PV × Nat × Int
 | 0,_=>([],0,0)
 | k+1,r=>if r=[] then ([],0,0) else if r.length < 7 then ([],0,14) else if inB (zB6 (r.take 3)) 1 65536=false then ([],0,8) else
  if (r.length:Int) < 7+zB6 (r.take 3) then ([],0,14) else if zB6 ((r.drop 3).take 4)≠zWx (r.take 3++(r.drop 7).take (zB6 (r.take 3)).toNat) then ([],0,8) else
   (.str ((r.drop 7).take (zB6 (r.take 3)).toNat) :: (zCB k (r.drop (7+(zB6 (r.take 3)).toNat))).1,7+(zB6 (r.take 3)).toNat+(zCB k (r.drop (7+(zB6 (r.take 3)).toNat))).2.1,(zCB k (r.drop (7+(zB6 (r.take 3)).toNat))).2.2)
def zBw(b:List UInt8):List PV × Nat × Int:=zCB b.length b
theorem zFQ(k:Nat):zCB k []=([],0,0):=by cases k<;>simp[zCB]
theorem zST{k:Nat}{r:List UInt8}(h0:r≠[])(h:r.length < 7):zCB (k+1) r=([],0,14):=by simp[zCB,h0,h]
theorem zUy{k:Nat}{r:List UInt8}(h:7≤r.length)(h1:inB (zB6 (r.take 3)) 1 65536=false):zCB (k+1) r=([],0,8):=by
 have h0:r≠[]:=by intro e;subst e;simp at h
 rw[zCB,if_neg h0,if_neg (by omega),if_pos h1]
theorem zSS{k:Nat}{r:List UInt8}(h:7≤r.length)(h1:inB (zB6 (r.take 3)) 1 65536=true)(h2:(r.length:Int) < 7+zB6 (r.take 3)):zCB (k+1) r=([],0,14):=by
 have h0:r≠[]:=by intro e;subst e;simp at h
 rw[zCB,if_neg h0,if_neg (by omega),if_neg (by simp[h1]),if_pos h2]
theorem zUx{k:Nat}{r:List UInt8}(h:7≤r.length)(h1:inB (zB6 (r.take 3)) 1 65536=true)(h2:7+zB6 (r.take 3)≤(r.length:Int))(h3:zB6 ((r.drop 3).take 4)≠zWx (r.take 3++(r.drop 7).take (zB6 (r.take 3)).toNat)):zCB (k+1) r=([],0,8):=by
 have h0:r≠[]:=by intro e;subst e;simp at h
 rw[zCB,if_neg h0,if_neg (by omega),if_neg (by simp[h1]),if_neg (by omega),if_pos h3]
theorem zQV{k:Nat}{r:List UInt8}(h:7≤r.length)(h1:inB (zB6 (r.take 3)) 1 65536=true)(h2:7+zB6 (r.take 3)≤(r.length:Int))(h3:zB6 ((r.drop 3).take 4)=zWx (r.take 3++(r.drop 7).take (zB6 (r.take 3)).toNat)):zCB (k+1) r =
  (.str ((r.drop 7).take (zB6 (r.take 3)).toNat) :: (zCB k (r.drop (7+(zB6 (r.take 3)).toNat))).1,7+(zB6 (r.take 3)).toNat+(zCB k (r.drop (7+(zB6 (r.take 3)).toNat))).2.1,(zCB k (r.drop (7+(zB6 (r.take 3)).toNat))).2.2):=by
 have h0:r≠[]:=by intro e;subst e;simp at h
 rw[zCB,if_neg h0,if_neg (by omega),if_neg (by simp[h1]),if_neg (by omega),if_neg (by simp[h3])]
theorem zPt{n:Int}(h0:0≤n):∀{k:Nat},n < 256 ^ k→zB6 (nB n k)=n
 | 0,h=>by
  have:n=0:=by simp at h;omega
  subst this;rfl
 | k+1,h=>by
  have h1:=zPt (n:=n / 256) (by omega) (k:=k) (by rw[Int.pow_succ] at h;omega)
  rw[zXu,zNN,h1,zOS];omega
theorem zRc:∀{k l:Nat} {r:List UInt8},r.length≤k→r.length≤l→zCB k r=zCB l r
 | 0,l,r,h,_=>by
  have:r=[]:=List.eq_nil_of_length_eq_zero (by omega)
  rw[this,zFQ,zFQ]
 | k+1,0,r,_,h=>by
  have:r=[]:=List.eq_nil_of_length_eq_zero (by omega)
  rw[this,zFQ,zFQ]
 | k+1,l+1,r,h,h'=>by
  by_cases hr:r=[]
  ·rw[hr,zFQ,zFQ]
  have hp:0 < r.length:=List.length_pos_iff.2 hr
  have ih:=zRc (k:=k) (l:=l) (r:=r.drop (7+(zB6 (r.take 3)).toNat)) (by rw[List.length_drop];omega) (by rw[List.length_drop];omega)
  rw[zCB,zCB,ih]
theorem zTj{k:Nat}{r:List UInt8}(h:r.length≤k):zCB k r=zBw r:=zRc h (Nat.le_refl _)
theorem zPB:∀(k:Nat) (r:List UInt8),(zCB k r).2.1≤r.length∧(zCB k r).1.length≤(zCB k r).2.1
 | 0,r=>by simp[zCB]
 | k+1,r=>by
  rw[zCB]
  split
  ·simp
  split
  ·simp
  split
  ·simp
  split
  ·simp
  split
  ·simp
  ·rename_i h1 h2 h3 h4 h5
   have ih:=zPB k (r.drop (7+(zB6 (r.take 3)).toNat))
   rw[List.length_drop] at ih
   simp[inB] at h3
   simp only[List.length_cons]
   omega
theorem zTk:∀(k:Nat) (r:List UInt8),∀e∈(zCB k r).1,∃d,e=.str d∧1≤d.length∧d.length≤65536
 | 0,r,e,he=>by simp[zCB] at he
 | k+1,r,e,he=>by
  rw[zCB] at he
  split at he
  ·simp at he
  split at he
  ·simp at he
  split at he
  ·simp at he
  split at he
  ·simp at he
  split at he
  ·simp at he
  ·rename_i h1 h2 h3 h4 h5
   simp[inB] at h3
   rcases List.mem_cons.1 he with rfl | he
   ·refine⟨_,rfl,?_,?_⟩<;>rw[List.length_take,List.length_drop]<;>omega
   ·exact zTk k _ e he
theorem zUw:∀(k:Nat) {b t:List UInt8},b.length≤k→(zCB k b).2.1=b.length→zBw (b++t)=((zCB k b).1++(zBw t).1,b.length+(zBw t).2.1,(zBw t).2.2)
 | k,b,t,hk,h=>by
  by_cases hb:b=[]
  ·subst hb;rw[zFQ];simp
  have hp:0 < b.length:=List.length_pos_iff.2 hb
  obtain⟨k,rfl⟩:∃j,k=j+1:=⟨k - 1,by omega⟩
  by_cases h7:b.length < 7
  ·rw[zST hb h7] at h;simp at h;omega
  by_cases hr:inB (zB6 (b.take 3)) 1 65536=false
  ·rw[zUy (by omega) hr] at h;simp at h;omega
  have hr':inB (zB6 (b.take 3)) 1 65536=true:=by simpa using hr
  by_cases hl:(b.length:Int) < 7+zB6 (b.take 3)
  ·rw[zSS (by omega) hr' hl] at h;simp at h;omega
  by_cases hc:zB6 ((b.drop 3).take 4)=zWx (b.take 3++(b.drop 7).take (zB6 (b.take 3)).toNat)
  ·rw[zQV (by omega) hr' (by omega) hc] at h ⊢
   have hn:=(inB_ge hr').1
   have hd:(b.drop (7+(zB6 (b.take 3)).toNat)).length=b.length - (7+(zB6 (b.take 3)).toNat):=List.length_drop
   have ih:=zUw k (b:=b.drop (7+(zB6 (b.take 3)).toNat)) (t:=t) (by omega) (by simp only at h;omega)
   have e1:(b++t).take 3=b.take 3:=List.take_append_of_le_length (by omega)
   have e2:((b++t).drop 3).take 4=(b.drop 3).take 4:=by rw[List.drop_append_of_le_length (by omega),List.take_append_of_le_length (by rw[List.length_drop];omega)]
   have e3:((b++t).drop 7).take (zB6 (b.take 3)).toNat=(b.drop 7).take (zB6 (b.take 3)).toNat:=by rw[List.drop_append_of_le_length (by omega),List.take_append_of_le_length (by rw[List.length_drop];omega)]
   have e4:(b++t).drop (7+(zB6 (b.take 3)).toNat)=b.drop (7+(zB6 (b.take 3)).toNat)++t:=List.drop_append_of_le_length (by omega)
   have hlen:(b++t).length=(b++t).length - 1+1:=by rw[List.length_append];omega
   rw[zBw,hlen,zQV (by rw[List.length_append];omega) (by rw[e1];exact hr') (by rw[e1,List.length_append];omega) (by rw[e1,e2,e3];exact hc),e1,e3,e4]
   rw[zTj (by rw[List.length_append,List.length_append,hd];omega),ih]
   simp only[List.cons_append,Prod.mk.injEq,true_and,and_true]
   omega
  ·rw[zUx (by omega) hr' (by omega) hc] at h;simp at h;omega
where
 inB_ge {x a b:Int} (h:inB x a b=true):a≤x∧x≤b:=by simpa[inB] using h
def zLq(es:List PV):List UInt8:=es.flatMap fun e=>zMn e.S
theorem zPC:zLq []=[]:=rfl
theorem zNf(e:PV)(es:List PV):zLq (e :: es)=zMn e.S++zLq es:=rfl
def zYO(e:PV):Prop:=∃d,e=.str d∧1≤d.length∧d.length≤65536
theorem zSR{d:List UInt8}(h:d.length≤65536)(t:List UInt8):(zMn d++t).take 3=nB d.length 3∧((zMn d++t).drop 3).take 4=nB (zWx (nB d.length 3++d)) 4∧((zMn d++t).drop 7).take d.length=d∧(zMn d++t).drop (7+d.length)=t∧zB6 (nB d.length 3)=d.length:=by
 have e3:=zFB d.length 3
 have e4:=zFB (zWx (nB d.length 3++d)) 4
 unfold zMn
 generalize nB (zWx (nB d.length 3++d)) 4=y at *
 refine⟨?_,?_,?_,?_,zPt (by omega) (by simp;omega)⟩
 ·rw[List.append_assoc,List.take_append_of_le_length (by omega),List.take_of_length_le (by omega)]
 ·rw[List.append_assoc,List.drop_append_of_le_length (by omega),List.drop_of_length_le (by omega),List.nil_append,List.append_assoc,List.take_append_of_le_length (by omega),List.take_of_length_le (by omega)]
 ·have:nB d.length 3++(y++d)++t=(nB d.length 3++y)++(d++t):=by simp
  rw[this,List.drop_append_of_le_length (by rw[List.length_append];omega),List.drop_of_length_le (by rw[List.length_append];omega),List.nil_append,List.take_append_of_le_length (by omega),List.take_of_length_le (by omega)]
 ·have:nB d.length 3++(y++d)++t=(nB d.length 3++y++d)++t:=by simp
  rw[this,List.drop_append_of_le_length (by rw[List.length_append,List.length_append];omega),List.drop_of_length_le (by rw[List.length_append,List.length_append];omega),List.nil_append]
theorem zbu{d t:List UInt8}(h1:1≤d.length)(h2:d.length≤65536):zBw (zMn d++t)=(.str d :: (zBw t).1,7+d.length+(zBw t).2.1,(zBw t).2.2):=by
 obtain⟨a1,a2,a3,a4,a5⟩:=zSR h2 t
 have hl:(zMn d++t).length=7+d.length+t.length:=by rw[List.length_append,zHb]
 have hlen:(zMn d++t).length=(zMn d++t).length - 1+1:=by omega
 rw[zBw,hlen,zQV (by omega) (by rw[a1,a5];simp[inB];omega) (by rw[a1,a5];omega) (by rw[a1,a2,a5,Int.toNat_natCast,a3,zPt (by omega) (by have:=zYg (nB d.length 3++d);simp;omega)])]
 rw[a1,a5,Int.toNat_natCast,a3,a4,zTj (by omega)]
theorem zSQ:∀{es:List PV} (t:List UInt8),(∀e∈es,zYO e)→zBw (zLq es++t)=(es++(zBw t).1,(zLq es).length+(zBw t).2.1,(zBw t).2.2)
 | [],t,_=>by simp[zPC]
 | e :: es,t,h=>by
  obtain⟨d,rfl,h1,h2⟩:=h e (by simp)
  have ih:=zSQ (es:=es) t fun x hx=>h x (by simp[hx])
  rw[zNf,List.append_assoc,zEW,zbu h1 h2,ih]
  simp only[List.cons_append,List.length_append,zHb,Prod.mk.injEq,true_and,and_true]
  omega
theorem zZr{d:List UInt8}(h1:1≤d.length)(h2:d.length≤65536){n:Nat}(hn:n < 7+d.length):(zBw ((zMn d).take n)).1=[]∧(zBw ((zMn d).take n)).2.1=0∧((zBw ((zMn d).take n)).2.2=0∨(zBw ((zMn d).take n)).2.2=14):=by
 have hl:((zMn d).take n).length=n:=by rw[List.length_take,zHb];omega
 cases n with
 | zero=>simp[zBw,zCB]
 | succ n=>
  have hne:(zMn d).take (n+1)≠[]:=by intro e;rw[e] at hl;simp at hl
  rw[zBw,hl]
  by_cases h7:n+1 < 7
  ·rw[zST hne (by omega)];simp
  ·have a:=(zSR h2 []).1
   rw[List.append_nil] at a
   have a5:=(zSR h2 []).2.2.2.2
   have a1:((zMn d).take (n+1)).take 3=nB d.length 3:=by rw[List.take_take,Nat.min_eq_left (by omega),a]
   rw[zSS (by omega) (by rw[a1,a5];simp[inB];omega) (by rw[a1,a5];omega)];simp
theorem zTp:∀{es:List PV} {n:Nat},(∀e∈es,zYO e)→n≤(zLq es).length→∃j p,j≤es.length∧(zLq es).take n=zLq (es.take j)++p∧(zBw p).1=[]∧(zBw p).2.1=0∧((zBw p).2.2=0∨(zBw p).2.2=14)
 | [],n,_,hn=>⟨0,[],by simp,by simp[zPC],by simp[zBw,zCB]⟩
 | e :: es,n,h,hn=>by
  obtain⟨d,rfl,h1,h2⟩:=h e (by simp)
  rw[zNf,zEW] at hn ⊢
  by_cases hl:n < 7+d.length
  ·refine⟨0,(zMn d).take n,by simp,?_,zZr h1 h2 hl⟩
   rw[List.take_append_of_le_length (by rw[zHb];omega)];simp[zPC]
  ·rw[List.length_append,zHb] at hn
   obtain⟨j,p,q1,q2,q3⟩:=zTp (es:=es) (n:=n - (7+d.length)) (fun x hx=>h x (by simp[hx])) (by omega)
   refine⟨j+1,p,by simpa using q1,?_,q3⟩
   rw[List.take_append,List.take_of_length_le (by rw[zHb];omega),zHb,q2,List.take_succ_cons,zNf,zEW,List.append_assoc]
end
section
variable [zS]
theorem bv32{a:Nat}(h:a < 4294967296):(BitVec.ofInt 32 (a:Int)).toNat=a:=by
 rw[BitVec.ofInt_natCast,BitVec.toNat_ofNat];exact Nat.mod_eq_of_lt h
theorem bv64{a:Nat}(h:a < 4294967296):(BitVec.ofInt 64 (a:Int)).toNat=a:=by
 rw[BitVec.ofInt_natCast,BitVec.toNat_ofNat];exact Nat.mod_eq_of_lt (by omega)
theorem zUF{n:Int}(h:0≤n∧n < 4294967296):IntKind.u32.wrap n=n:=by
 simp[IntKind.wrap,IntKind.signed,IntKind.bits];omega
theorem xorU{a b:Nat}(ha:a < 4294967296)(hb:b < 4294967296):zWw .u32 (a:Int) (b:Int)=((a ^^^ b:Nat):Int):=by
 have h:zWw .u32 (a:Int) (b:Int)=IntKind.u32.wrap (((BitVec.ofInt 32 (a:Int) ^^^ BitVec.ofInt 32 (b:Int)).toNat:Nat):Int):=rfl
 rw[h,BitVec.toNat_xor,bv32 ha,bv32 hb]
 have:=zPN ha hb
 exact zUF (by omega)
theorem xorL{a b:Nat}(ha:a < 4294967296)(hb:b < 4294967296):zWw .i64 (a:Int) (b:Int)=((a ^^^ b:Nat):Int):=by
 have h:zWw .i64 (a:Int) (b:Int)=IntKind.i64.wrap (((BitVec.ofInt 64 (a:Int) ^^^ BitVec.ofInt 64 (b:Int)).toNat:Nat):Int):=rfl
 rw[h,BitVec.toNat_xor,bv64 ha,bv64 hb]
 have:=zPN ha hb
 exact zC (by omega)
theorem andU{a:Nat}(ha:a < 4294967296):andI .u32 (a:Int) 1=((a % 2:Nat):Int):=by
 have h:andI .u32 (a:Int) 1=IntKind.u32.wrap (((BitVec.ofInt 32 (a:Int) &&& BitVec.ofInt 32 ((1:Nat):Int)).toNat:Nat):Int):=rfl
 rw[h,BitVec.toNat_and,bv32 ha,bv32 (by omega),Nat.and_one_is_mod]
 exact zUF (by omega)
theorem shrU{a:Nat}:zam .u32 (a:Int) 1=((a / 2:Nat):Int):=by
 have:zam .u32 (a:Int) 1=(a:Int).fdiv 2:=rfl
 rw[this,Int.fdiv_eq_ediv_of_nonneg _ (by omega)];omega
theorem zeS{a:Nat}(ha:a < 4294967296):zWw .u32 (a:Int) 3988292384=((a ^^^ 3988292384:Nat):Int):=xorU ha (by decide)
theorem zeT{a:Nat}(ha:a < 4294967296):zWw .u32 4294967295 (a:Int)=((a ^^^ 4294967295:Nat):Int):=by
 have:=xorU (a:=4294967295) (b:=a) (by decide) ha
 rw[Nat.xor_comm] at this;exact this
theorem zeU{a:Nat}(ha:a < 4294967296):zWw .i64 (a:Int) 3988292384=((a ^^^ 3988292384:Nat):Int):=xorL ha (by decide)
theorem zeV{a:Nat}(ha:a < 4294967296):zWw .i64 (a:Int) 4294967295=((a ^^^ 4294967295:Nat):Int):=xorL ha (by decide)
theorem zRl:∀{s:List PV},(∀e∈s,∃n,e=PV.int IntKind.u8 n∧inR .u8 n)→zAN (zFD s)=s
 | [],_=>rfl
 | e :: s,h=>by
  obtain⟨n,rfl,hn⟩:=h e (by simp)
  have ih:=zRl (s:=s) fun x hx=>h x (by simp[hx])
  simp only[inR,IntKind.min,IntKind.max,IntKind.signed,IntKind.bits] at hn
  have:((UInt8.ofNat n.toNat).toNat:Int)=n:=by
   rw[UInt8.toNat_ofNat']
   have h0:0≤n:=hn.1
   have h1:n≤255:=hn.2
   omega
  simp only[zFD,zAN,List.map_cons,yp,this] at ih ⊢
  rw[ih]
theorem zXm{l:List UInt8}{i:Nat}(h:i < l.length):nth (zAN l) i=.int .u8 (l.getD i 0).toNat:=by
 simp[zAN,nth,h]
def zEv:zJ:=⟨[(.rd,.str)],[.int .i64],true,fun ps=>(nth ps 0).S.length≤1048576,fun ps=>[.int .i64 (zWx (nth ps 0).S)],fun _=>[]⟩
theorem zTZ:zh Tryz.prog 172 zEv:=by
 refine zP [0,2,3,4,5,7,8,17] [.tmp 2] (zD (zB [])) mixed Tryz.func172 rfl (by decide) rfl (by decide) rfl ?_
 intro ps hT hpre W hW
 simp only[zEv,TyA,Ty,Tys] at hT hpre
 obtain⟨_,_,rfl,⟨l,rfl,hl⟩,rfl⟩:=hT
 simp only[zE,zEW] at hpre
 refine hW.vc [] _ _ ?_
 simp[-List.getD_eq_getElem?_getD,zEv]
 refine fun _=>hW.loopS _ _ _ [.sl 3 .dp (.int .u32),.sl 8 .dp (.int .i64)] (fun ys=>∃i:Nat,ys=[.int .u32 (zZy (l.take i)),.int .i64 i]∧i≤l.length) (fun ys=>l.length - (nth ys 1).I.toNat) ?_ ?_
 ·simp[-List.getD_eq_getElem?_getD,zEv]
  exact⟨0,⟨rfl,rfl⟩,by omega⟩
 ·rintro ys ⟨i,rfl,h1⟩
  have hc:=zU3 (l.take i)
  refine hW.vc [] _ _ ?_
  simp[-List.getD_eq_getElem?_getD,zEv]
  refine⟨fun h2=>⟨h2,?_⟩,fun h2=>?_⟩
  ·have h8:=(l.getD i 0).toNat_lt
   have e1:IntKind.u32.wrap ((l.getD i 0).toNat:Int)=((l.getD i 0).toNat:Int):=zUF (by omega)
   rw[e1,xorU hc (by omega)]
   have hx:=zPN hc (show(l.getD i 0).toNat < 4294967296 by omega)
   have hs:=zTq h2
   generalize zZy (l.take i) ^^^ (l.getD i 0).toNat=x at *
   refine hW.loopS _ _ _ [.sl 3 .dp (.int .u32),.sl 17 .dp (.int .i64)] (fun ys=>∃j:Nat,ys=[.int .u32 (zFG j x),.int .i64 j]∧j≤8) (fun ys=>8 - (nth ys 1).I.toNat) ?_ ?_
   ·simp[-List.getD_eq_getElem?_getD,zEv]
    exact⟨0,⟨rfl,rfl⟩,by omega⟩
   ·rintro ys ⟨j,rfl,g1⟩
    have hb:=zLi hx j
    refine hW.vc [] _ _ ?_
    simp[-List.getD_eq_getElem?_getD,zEv]
    rw[andU hb,shrU,zeS (by omega),zC (n:=(j:Int)+1) (by omega),zC (n:=(i:Int)+1) (by omega)]
    refine⟨fun g2=>⟨fun g3=>⟨⟨j+1,⟨?_,by omega⟩,by omega⟩,by omega⟩,fun g3=>⟨⟨j+1,⟨?_,by omega⟩,by omega⟩,by omega⟩⟩,fun g2=>⟨⟨i+1,⟨?_,by omega⟩,by omega⟩,by omega⟩⟩
    ·rw[zFG,zQc,if_pos (by omega)]
    ·rw[zFG,zQc,if_neg (by omega)]
    ·rw[hs]
     have:j=8:=by omega
     rw[this]
  ·rw[List.take_of_length_le h2] at hc ⊢
   rw[zeT hc]
   have:=zYg l
   exact zC (by unfold zWx at this;omega)
def zDr:zJ:=⟨[(.rd,.list (.int .u8))],[.int .i64],true,fun ps=>(nth ps 0).L.length≤1048576,fun ps=>[.int .i64 (zWx (zFD (nth ps 0).L))],fun _=>[]⟩
theorem zRa:zh Tryz.prog 200 zDr:=by
 refine zP [0,2,3,4,5] [.tmp 2] (zD (zB [])) mixed Tryz.func200 rfl (by decide) rfl (by decide) rfl ?_
 intro ps hT hpre W hW
 simp only[zDr,TyA,Ty,Tys] at hT hpre
 obtain⟨_,_,rfl,⟨es,rfl,hes,tes⟩,rfl⟩:=hT
 simp only[zE,zAA] at hpre
 obtain⟨l,hl⟩:∃l,l=zFD es:=⟨_,rfl⟩
 have he:=zRl tes
 rw[←hl] at he
 subst he
 rw[zCo] at hpre
 refine hW.vc [] _ _ ?_
 simp[-List.getD_eq_getElem?_getD,zDr]
 refine hW.loopS _ _ _ [.sl 3 .dp (.int .i64),.sl 4 .dp (.int .i64)] (fun ys=>∃i:Nat,ys=[.int .i64 (zZy (l.take i)),.int .i64 i]∧i≤l.length) (fun ys=>l.length - (nth ys 1).I.toNat) ?_ ?_
 ·simp[-List.getD_eq_getElem?_getD,zDr]
  exact⟨0,⟨rfl,rfl⟩,by omega⟩
 ·rintro ys ⟨i,rfl,h1⟩
  have hc:=zU3 (l.take i)
  refine hW.vc [] _ _ ?_
  simp[-List.getD_eq_getElem?_getD,zDr]
  rw[zCo]
  refine fun _=>⟨fun h2=>⟨h2,fun _=>?_⟩,fun h2=>?_⟩
  ·have h8:=(l.getD i 0).toNat_lt
   rw[zXm h2,yp,zQe,xorL hc (by omega)]
   have hx:=zPN hc (show(l.getD i 0).toNat < 4294967296 by omega)
   have hs:=zTq h2
   generalize zZy (l.take i) ^^^ (l.getD i 0).toNat=x at *
   refine hW.loopS _ _ _ [.sl 3 .dp (.int .i64),.sl 5 .dp (.int .i64)] (fun ys=>∃j:Nat,ys=[.int .i64 (zFG j x),.int .i64 j]∧j≤8) (fun ys=>8 - (nth ys 1).I.toNat) ?_ ?_
   ·simp[-List.getD_eq_getElem?_getD,zDr]
    exact⟨0,⟨rfl,rfl⟩,by omega⟩
   ·rintro ys ⟨j,rfl,g1⟩
    have hb:=zLi hx j
    refine hW.vc [] _ _ ?_
    simp[-List.getD_eq_getElem?_getD,zDr]
    have e2:((zFG j x:Nat):Int).tmod 2=((zFG j x % 2:Nat):Int):=by rw[Int.tmod_eq_emod_of_nonneg (by omega)];omega
    have e3:((zFG j x:Nat):Int) / 2=((zFG j x / 2:Nat):Int):=by omega
    rw[e2,e3,zC (n:=((zFG j x / 2:Nat):Int)) (by omega),zeU (by omega),zC (n:=(j:Int)+1) (by omega),zC (n:=(i:Int)+1) (by omega)]
    refine⟨fun g2=>⟨fun g3=>⟨⟨j+1,⟨?_,by omega⟩,by omega⟩,by omega⟩,fun g3=>⟨⟨j+1,⟨?_,by omega⟩,by omega⟩,by omega⟩⟩,fun g2=>⟨⟨i+1,⟨?_,by omega⟩,by omega⟩,by omega⟩⟩
    ·rw[zFG,zQc,if_pos (by omega)]
    ·rw[zFG,zQc,if_neg (by omega)]
    ·rw[hs]
     have:j=8:=by omega
     rw[this]
  ·rw[List.take_of_length_le h2] at hc ⊢
   rw[zeV hc,zCW]
   rfl
end
end Go.Proofs.YthogljppoiekaaaGreat
