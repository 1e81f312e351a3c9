import Derived.Test.YtdlkgkkfpfglbaaGreatPha
namespace Go.Aw.Pl
open Go.IntKind (wrap)
open List (length)
open Go Go.Aw
set_option linter.unusedVariables false
set_option linter.unusedSimpArgs false
set_option maxHeartbeats 1000000
namespace eG
def pre(xs:List eO)(k:Int):Bool:=zW gF xs k
def pre2:=sN gF
def fn2:=aDr sK gF
def kY:=aDW (α:=eO)
noncomputable def cW(x1:Int)(x2:Int)(x3:(List eO)):Option (cL⊕(Int×((List eO)×Unit))):=
 if(decide (x2<((length x3:Nat):Int)))=true then
 if(decide ((0:Int)<=x2))=true then
 if(decide (x2<((length x3:Nat):Int)))=true then
 if(aE.pre (wrap .i64 (x1+(1:Int))))=true then
 if(decide ((0:Int)<=x2))=true then
 if(decide (x2<((length (List.modify x3 (Int.toNat x2) (fun z=>(x1,z.2))):Nat):Int)))=true then
 if(aE.pre (wrap .i64 ((wrap .i64 (x1+(1:Int)))+(1:Int))))=true then
 if(decide ((0:Int)<=x2))=true then
 if(decide (x2<((length (List.modify (List.modify x3 (Int.toNat x2) (fun z=>(x1,z.2))) (Int.toNat x2) (fun z=>(z.1,((aE (wrap .i64 (x1+(1:Int)))),z.2.2)))):Nat):Int)))=true then
 if(decide ((0:Int)<=x2))=true then
 if(decide (x2<((length (List.modify (List.modify (List.modify x3 (Int.toNat x2) (fun z=>(x1,z.2))) (Int.toNat x2) (fun z=>(z.1,((aE (wrap .i64 (x1+(1:Int)))),z.2.2)))) (Int.toNat x2) (fun z=>(z.1,(z.2.1,((aE (wrap .i64 ((wrap .i64 (x1+(1:Int)))+(1:Int)))),z.2.2.2))))):Nat):Int)))=true then
 if(decide ((0:Int)<=x2))=true then
 if(decide (x2<((length (List.modify (List.modify (List.modify (List.modify x3 (Int.toNat x2) (fun z=>(x1,z.2))) (Int.toNat x2) (fun z=>(z.1,((aE (wrap .i64 (x1+(1:Int)))),z.2.2)))) (Int.toNat x2) (fun z=>(z.1,(z.2.1,((aE (wrap .i64 ((wrap .i64 (x1+(1:Int)))+(1:Int)))),z.2.2.2))))) (Int.toNat x2) (fun z=>(z.1,(z.2.1,(z.2.2.1,((wrap .i64 ((wrap .i64 ((wrap .i64 (x1+(1:Int)))+(1:Int)))+(1:Int))),z.2.2.2.2)))))):Nat):Int)))=true then
 some (.inl ((wrap .i64 ((wrap .i64 ((wrap .i64 ((wrap .i64 ((wrap .i64 (x1+(1:Int)))+(1:Int)))+(1:Int)))+(1:Int)))+(1:Int))),((wrap .i64 (x2+(1:Int))),((List.modify (List.modify (List.modify (List.modify (List.modify x3 (Int.toNat x2) (fun z=>(x1,z.2))) (Int.toNat x2) (fun z=>(z.1,((aE (wrap .i64 (x1+(1:Int)))),z.2.2)))) (Int.toNat x2) (fun z=>(z.1,(z.2.1,((aE (wrap .i64 ((wrap .i64 (x1+(1:Int)))+(1:Int)))),z.2.2.2))))) (Int.toNat x2) (fun z=>(z.1,(z.2.1,(z.2.2.1,((wrap .i64 ((wrap .i64 ((wrap .i64 (x1+(1:Int)))+(1:Int)))+(1:Int))),z.2.2.2.2)))))) (Int.toNat x2) (fun z=>(z.1,(z.2.1,(z.2.2.1,(z.2.2.2.1,((wrap .i64 ((wrap .i64 ((wrap .i64 ((wrap .i64 (x1+(1:Int)))+(1:Int)))+(1:Int)))+(1:Int))),z.2.2.2.2.2))))))),()))))
 else
 none
 else
 none
 else
 none
 else
 none
 else
 none
 else
 none
 else
 none
 else
 none
 else
 none
 else
 none
 else
 none
 else
 none
 else
 some (.inr (x1,(x3,())))
abbrev wf(x0:(List eO))(x1:Int):Prop:=fW [(.mut (.sl 0 aHG)),(.val (.int .i64) .f)] (x0,(x1,()))
noncomputable def aR(x0:(List eO))(x1:Int):Option (((List eO)×Unit)×(Int×Unit)):=
 if(eG.pre2 (x1,((0:Int),(x0,()))))=true then
 letB (eG.fn2 (x1,((0:Int),(x0,())))) fun v1=>
 some (v1.2,(v1.1,()))
 else
 none
theorem qO(x1 x2:Int)(x3:List eO)(hp:pre2 (x1,(x2,(x3,())))=true):Rounds pre2 kY fn2 (x1,(x2,(x3,()))) (cW x1 x2 x3):=by
 unfold cW
 by_cases hlt:x2<(x3.length:Int)
 . obtain⟨h0,hk,hc,hn⟩:=sM nB hp hlt vZ
   generalize he:x3.getD x2.toNat vZ=e at hc
   simp only[gF] at hc
   have w0:wrap .i64 (x1+1)=x1+1:=iV (by omega) (by omega)
   have w1:wrap .i64 (x1+1+1)=x1+1+1:=iV (by omega) (by omega)
   have p1:aE.pre (x1+1)=true:=by simp only[aE.pre,Za];omega
   have w2:wrap .i64 (x1+1+1+1)=x1+1+1+1:=iV (by omega) (by omega)
   have p2:aE.pre (x1+1+1)=true:=by simp only[aE.pre,Za];omega
   have w3:wrap .i64 (x1+1+1+1+1)=x1+1+1+1+1:=iV (by omega) (by omega)
   have w4:wrap .i64 (x1+1+1+1+1+1)=x1+1+1+1+1+1:=iV (by omega) (by omega)
   simp only[letB,List.length_modify,List.modify_modify_eq,pG hn,Function.comp,hlt,h0,he,decide_true,if_true,w0,w1,p1,w2,p2,w3,w4]
   exact xN nB hp hlt vZ (by rw[he];simp only[gF];omega) (by rw[he];rfl)
 . rw[if_neg (by simp[hlt])];exact aAw hp hlt
theorem eq(x0:List eO)(x1:Int)(_:wf x0 x1)(hp:pre x0 x1=true):aR x0 x1=some (((eG x0 x1).1,()),((eG x0 x1).2,())):=by
 unfold aR
 rw[if_pos (show pre2 _=true from uI nB hp)]
 rfl
end eG
theorem aGU(xs:List eO)(k:Int):eG xs k=(pF sK gF xs k,k+bJ gF xs):=rfl
theorem aFn{xs:List eO}{k:Int}(h0:0<=k)(h1:k+bJ gF xs<=134217728):eG.pre xs k=true:=mL.2 ⟨h0,h1⟩
noncomputable def dV(xs:List eO)(k:Int):Int:=uZ (pF sK gF) (bJ gF) xs k
namespace dV
def pre(xs:List eO)(k:Int):Bool:=zW gF xs k
def pre2:=rG gF
noncomputable def fn2:=aBG sK gF
def kY:=aEv (α:=eO)
noncomputable def cW(x1:(List eO))(x2:Int)(x3:Int):Option (((List eO)×eN)⊕((Int×Unit)⊕(Int×Unit))):=
 if(decide (x3<((length x1:Nat):Int)))=true then
 if(decide ((0:Int)<=x3))=true then
 if(decide (x3<((length x1:Nat):Int)))=true then
 if(!(decide ((List.getD x1 (Int.toNat x3) vZ).1=x2)))=true then
 some (.inr (.inl ((-1:Int),())))
 else
 if(decide ((0:Int)<=x3))=true then
 if(decide (x3<((length x1:Nat):Int)))=true then
 if(aE.pre (wrap .i64 (x2+(1:Int))))=true then
 letB (aE (wrap .i64 (x2+(1:Int)))) fun v1=>
 if(!((List.getD x1 (Int.toNat x3) vZ).2.1==v1))=true then
 some (.inr (.inl ((-1:Int),())))
 else
 if(decide ((0:Int)<=x3))=true then
 if(decide (x3<((length x1:Nat):Int)))=true then
 if(aE.pre (wrap .i64 ((wrap .i64 (x2+(1:Int)))+(1:Int))))=true then
 letB (aE (wrap .i64 ((wrap .i64 (x2+(1:Int)))+(1:Int)))) fun v2=>
 if(!((List.getD x1 (Int.toNat x3) vZ).2.2.1==v2))=true then
 some (.inr (.inl ((-1:Int),())))
 else
 if(decide ((0:Int)<=x3))=true then
 if(decide (x3<((length x1:Nat):Int)))=true then
 if(!(decide ((List.getD x1 (Int.toNat x3) vZ).2.2.2.1=(wrap .i64 ((wrap .i64 ((wrap .i64 (x2+(1:Int)))+(1:Int)))+(1:Int))))))=true then
 some (.inr (.inl ((-1:Int),())))
 else
 if(decide ((0:Int)<=x3))=true then
 if(decide (x3<((length x1:Nat):Int)))=true then
 if(!(decide ((List.getD x1 (Int.toNat x3) vZ).2.2.2.2.1=(wrap .i64 ((wrap .i64 ((wrap .i64 ((wrap .i64 (x2+(1:Int)))+(1:Int)))+(1:Int)))+(1:Int))))))=true then
 some (.inr (.inl ((-1:Int),())))
 else
 some (.inl (x1,((wrap .i64 ((wrap .i64 ((wrap .i64 ((wrap .i64 ((wrap .i64 (x2+(1:Int)))+(1:Int)))+(1:Int)))+(1:Int)))+(1:Int))),((wrap .i64 (x3+(1:Int))),()))))
 else
 none
 else
 none
 else
 none
 else
 none
 else
 none
 else
 none
 else
 none
 else
 none
 else
 none
 else
 none
 else
 none
 else
 none
 else
 some (.inr (.inr (x2,())))
abbrev wf(x0:(List eO))(x1:Int):Prop:=fW [(.val (.sl 0 aHG) .f),(.val (.int .i64) .f)] (x0,(x1,()))
noncomputable def aR(x0:(List eO))(x1:Int):Option xT:=
 if(dV.pre2 (x0,(x1,((0:Int),()))))=true then
  letB (dV.fn2 (x0,(x1,((0:Int),())))) fun v1=>
  match v1 with
  |.inl y=>
   some ((),y)
  |.inr y=>
   some ((),y)
 else
  none
theorem qO(x1:List eO)(x2 x3:Int)(hp:pre2 (x1,(x2,(x3,())))=true):Rounds pre2 kY fn2 (x1,(x2,(x3,()))) (cW x1 x2 x3):=by
 unfold cW
 by_cases hlt:x3<(x1.length:Int)
 . obtain⟨h0,hk,hc⟩:=wU nB hp hlt vZ
   have xX:=aBq (m:=sK) (g:=gF) hp hlt vZ
   have good:=fun K hK=>zM nB (K:=K) hp hlt vZ hK
   generalize x1.getD x3.toNat vZ=e at *
   simp only[gF] at hc
   have w0:wrap .i64 (x2+1)=x2+1:=iV (by omega) (by omega)
   have w1:wrap .i64 (x2+1+1)=x2+1+1:=iV (by omega) (by omega)
   have p1:aE.pre (x2+1)=true:=by simp only[aE.pre,Za];omega
   have w2:wrap .i64 (x2+1+1+1)=x2+1+1+1:=iV (by omega) (by omega)
   have p2:aE.pre (x2+1+1)=true:=by simp only[aE.pre,Za];omega
   have w3:wrap .i64 (x2+1+1+1+1)=x2+1+1+1+1:=iV (by omega) (by omega)
   have w4:wrap .i64 (x2+1+1+1+1+1)=x2+1+1+1+1+1:=iV (by omega) (by omega)
   simp only[letB,hlt,h0,decide_true,if_true,w0,w1,p1,w2,p2,w3,w4]
   by_cases c0:e.1=x2
   case neg=>rw[if_pos (by simp[c0])];exact xX fun h=>c0 (congrArg (fun z:eO=>z.1) h)
   rw[if_neg (by simp[c0])]
   by_cases c1:e.2.1=aE (x2+1)
   case neg=>rw[if_pos (by simp[c1])];exact xX fun h=>c1 (congrArg (fun z:eO=>z.2.1) h)
   rw[if_neg (by simp[c1])]
   by_cases c2:e.2.2.1=aE (x2+1+1)
   case neg=>rw[if_pos (by simp[c2])];exact xX fun h=>c2 (congrArg (fun z:eO=>z.2.2.1) h)
   rw[if_neg (by simp[c2])]
   by_cases c3:e.2.2.2.1=x2+1+1+1
   case neg=>rw[if_pos (by simp[c3])];exact xX fun h=>c3 (congrArg (fun z:eO=>z.2.2.2.1) h)
   rw[if_neg (by simp[c3])]
   by_cases c4:e.2.2.2.2.1=x2+1+1+1+1
   case neg=>rw[if_pos (by simp[c4])];exact xX fun h=>c4 (congrArg (fun z:eO=>z.2.2.2.2.1) h)
   rw[if_neg (by simp[c4])]
   exact good _ (by simp only[gF];omega) (Prod.ext c0 (Prod.ext c1 (Prod.ext c2 (Prod.ext c3 (Prod.ext c4 rfl)))))
 . rw[if_neg (by simp[hlt])];exact aBz hp hlt
theorem eq(x0:List eO)(x1:Int)(_:wf x0 x1)(hp:pre x0 x1=true):aR x0 x1=some ((),(dV x0 x1,())):=by
 unfold aR
 rw[if_pos (show pre2 _=true from wV nB hp)]
 exact rV x0 x1
end dV
theorem aFi{xs:List eO}{k:Int}(h:xs=pF sK gF xs k):dV xs k=k+bJ gF xs:=mX h
theorem aFk{xs:List eO}{k:Int}(h:¬xs=pF sK gF xs k):dV xs k=-1:=kD h
theorem aFc{xs:List eO}{k:Int}(h0:0<=k)(h1:k+bJ gF xs<=134217728):dV.pre xs k=true:=mL.2 ⟨h0,h1⟩
def sT(x:cL)(k:Int):cL:=(k,(k+1,(pF sK gF x.2.2.1 (k+1+1),())))
def cK(x:cL):Int:=2+bJ gF x.2.2.1
theorem oG:aA1 sT cK:=by
 refine⟨fun x=>?_,fun x k=>?_,fun x k=>?_⟩
 . have n2:=gQ nB x.2.2.1
   simp only[cK];omega
 . simp only[cK,sT,lC nB]
 . simp only[sT,lC nB,uC nB]
noncomputable def nA(a b:cL):Bool:=same a b
namespace nA
abbrev wf(x0:cL)(x1:cL):Prop:=fW [(.val aAj .f),(.val aAj .f)] (x0,(x1,()))
noncomputable def aR(x0:cL)(x1:cL):Option kZ:=
 if(!(decide (x0.1=x1.1)))=true then
 some ((),(false,()))
 else
 if(!(decide (x0.2.1=x1.2.1)))=true then
 some ((),(false,()))
 else
 letB (iQ x0.2.2.1 x1.2.2.1) fun v1=>
 if(!v1)=true then
 some ((),(false,()))
 else
 some ((),(true,()))
theorem eq(x0 x1:cL)(_:wf x0 x1):aR x0 x1=some ((),(nA x0 x1,())):=by
 unfold aR nA
 try simp only[letB]
 by_cases c0:x0.1=x1.1
 case neg=>rw[if_pos (by simp[c0]),aQ.2 (fun h=>c0 (congrArg (fun z:cL=>z.1) h))]
 rw[if_neg (by simp[c0])]
 by_cases c1:x0.2.1=x1.2.1
 case neg=>rw[if_pos (by simp[c1]),aQ.2 (fun h=>c1 (congrArg (fun z:cL=>z.2.1) h))]
 rw[if_neg (by simp[c1])]
 by_cases c2:x0.2.2.1=x1.2.2.1
 case neg=>rw[if_pos (by rw[iQ,aQ.2 c2];rfl),aQ.2 (fun h=>c2 (congrArg (fun z:cL=>z.2.2.1) h))]
 rw[if_neg (by rw[iQ,bV.2 c2];simp)]
 rw[bV.2 (Prod.ext c0 (Prod.ext c1 (Prod.ext c2 rfl)))]
end nA
noncomputable def kB(a b:List cL):Bool:=same a b
namespace kB
def pre4:=sV (α:=cL)
noncomputable def fn4:=aA0 (α:=cL)
def qD:=aCF (α:=cL)
noncomputable def hJ(x1:(List cL))(x2:(List cL))(x3:Int):Option (((List cL)×((List cL)×(Int×Unit)))⊕((Bool×Unit)⊕Unit)):=
 if(decide (x3<((length x1:Nat):Int)))=true then
 if(decide ((0:Int)<=x3))=true then
 if(decide (x3<((length x1:Nat):Int)))=true then
 if(decide ((0:Int)<=x3))=true then
 if(decide (x3<((length x2:Nat):Int)))=true then
 letB (nA (List.getD x1 (Int.toNat x3) oR) (List.getD x2 (Int.toNat x3) oR)) fun v1=>
 if(!v1)=true then
 some (.inr (.inl (false,())))
 else
 some (.inl (x1,(x2,((wrap .i64 (x3+(1:Int))),()))))
 else
 none
 else
 none
 else
 none
 else
 none
 else
 some (.inr (.inr ()))
abbrev wf(x0:(List cL))(x1:(List cL)):Prop:=fW [(.val (.sl 0 aAj) .f),(.val (.sl 0 aAj) .f)] (x0,(x1,()))
noncomputable def aR(x0:(List cL))(x1:(List cL)):Option kZ:=
 if(!(decide (((length x0:Nat):Int)=((length x1:Nat):Int))))=true then
  some ((),(false,()))
 else
  if(kB.pre4 (x0,(x1,((0:Int),()))))=true then
   letB (kB.fn4 (x0,(x1,((0:Int),())))) fun v1=>
   match v1 with
   |.inl y=>
    some ((),y)
   |.inr y=>
    some ((),(true,()))
  else
   none
theorem zE(x1 x2:List cL)(x3:Int)(hp:pre4 (x1,(x2,(x3,())))=true):Rounds pre4 qD fn4 (x1,(x2,(x3,()))) (hJ x1 x2 x3):=by
 unfold hJ
 by_cases hlt:x3<(x1.length:Int)
 . obtain⟨h1,h2,h3,h4⟩:=vD hp hlt oR
   simp only[letB,hlt,h1,h2,decide_true,if_true]
   by_cases h:x1.getD x3.toNat oR=x2.getD x3.toNat oR
   . rw[if_neg (by rw[nA,bV.2 h];simp)];exact h3 h
   . rw[if_pos (by rw[nA,aQ.2 h];rfl)];exact h4 h
 . simp only[hlt,decide_false,Zj,if_false]
   exact zZ hp hlt
theorem eq(x0 x1:List cL)(hw:wf x0 x1):aR x0 x1=some ((),(kB x0 x1,())):=by
 have h1:x0.length<=maxLen:=hw.1.1
 unfold aR kB
 by_cases hl:(x0.length:Int)=(x1.length:Int)
 . rw[if_neg (by simp[hl]),if_pos (show pre4 _=true from sJ h1 hl)]
   unfold fn4
   by_cases he:x0=x1
   . rw[vN he,bV.2 he];rfl
   . rw[vO he,aQ.2 he];rfl
 . have:¬x0=x1:=fun h=>hl (by rw[h])
   rw[if_pos (by simp[hl]),aQ.2 this]
end kB
def eZ(xs:List cL)(k:Int):List cL×Int:=(pF sT cK xs k,k+bJ cK xs)
namespace eZ
def pre(xs:List cL)(k:Int):Bool:=zW cK xs k
def pre2:=sN cK
def fn2:=aDr sT cK
def kY:=aDW (α:=cL)
noncomputable def cW(x1:Int)(x2:Int)(x3:(List cL)):Option ((Int×(Int×((List cL)×Unit)))⊕(Int×((List cL)×Unit))):=
 if(decide (x2<((length x3:Nat):Int)))=true then
 if(decide ((0:Int)<=x2))=true then
 if(decide (x2<((length x3:Nat):Int)))=true then
 if(decide ((0:Int)<=x2))=true then
 if(decide (x2<((length (List.modify x3 (Int.toNat x2) (fun z=>(x1,z.2))):Nat):Int)))=true then
 if(decide ((0:Int)<=x2))=true then
 if(decide (x2<((length (List.modify (List.modify x3 (Int.toNat x2) (fun z=>(x1,z.2))) (Int.toNat x2) (fun z=>(z.1,((wrap .i64 (x1+(1:Int))),z.2.2)))):Nat):Int)))=true then
 if(eG.pre (List.getD (List.modify (List.modify x3 (Int.toNat x2) (fun z=>(x1,z.2))) (Int.toNat x2) (fun z=>(z.1,((wrap .i64 (x1+(1:Int))),z.2.2)))) (Int.toNat x2) oR).2.2.1 (wrap .i64 ((wrap .i64 (x1+(1:Int)))+(1:Int))))=true then
 letB (eG (List.getD (List.modify (List.modify x3 (Int.toNat x2) (fun z=>(x1,z.2))) (Int.toNat x2) (fun z=>(z.1,((wrap .i64 (x1+(1:Int))),z.2.2)))) (Int.toNat x2) oR).2.2.1 (wrap .i64 ((wrap .i64 (x1+(1:Int)))+(1:Int)))) fun v1=>
 some (.inl (v1.2,((wrap .i64 (x2+(1:Int))),((List.modify (List.modify (List.modify x3 (Int.toNat x2) (fun z=>(x1,z.2))) (Int.toNat x2) (fun z=>(z.1,((wrap .i64 (x1+(1:Int))),z.2.2)))) (Int.toNat x2) (fun z=>(z.1,(z.2.1,(v1.1,z.2.2.2))))),()))))
 else
 none
 else
 none
 else
 none
 else
 none
 else
 none
 else
 none
 else
 none
 else
 some (.inr (x1,(x3,())))
abbrev wf(x0:(List cL))(x1:Int):Prop:=fW [(.mut (.sl 0 aAj)),(.val (.int .i64) .f)] (x0,(x1,()))
noncomputable def aR(x0:(List cL))(x1:Int):Option (((List cL)×Unit)×(Int×Unit)):=
 if(eZ.pre2 (x1,((0:Int),(x0,()))))=true then
 letB (eZ.fn2 (x1,((0:Int),(x0,())))) fun v1=>
 some (v1.2,(v1.1,()))
 else
 none
theorem qO(x1 x2:Int)(x3:List cL)(hp:pre2 (x1,(x2,(x3,())))=true):Rounds pre2 kY fn2 (x1,(x2,(x3,()))) (cW x1 x2 x3):=by
 unfold cW
 by_cases hlt:x2<(x3.length:Int)
 . obtain⟨h0,hk,hc,hn⟩:=sM oG hp hlt oR
   generalize he:x3.getD x2.toNat oR=e at hc
   simp only[cK] at hc
   have n2:=gQ nB e.2.2.1
   have w0:wrap .i64 (x1+1)=x1+1:=iV (by omega) (by omega)
   have w1:wrap .i64 (x1+1+1)=x1+1+1:=iV (by omega) (by omega)
   have q2:eG.pre e.2.2.1 (x1+1+1)=true:=aFn (by omega) (by omega)
   simp only[letB,List.length_modify,List.modify_modify_eq,pG hn,Function.comp,hlt,h0,he,decide_true,if_true,w0,w1,q2,aGU]
   exact xN oG hp hlt oR (by rw[he];simp only[cK];omega) (by rw[he];rfl)
 . rw[if_neg (by simp[hlt])];exact aAw hp hlt
theorem eq(x0:List cL)(x1:Int)(_:wf x0 x1)(hp:pre x0 x1=true):aR x0 x1=some (((eZ x0 x1).1,()),((eZ x0 x1).2,())):=by
 unfold aR
 rw[if_pos (show pre2 _=true from uI oG hp)]
 rfl
end eZ
theorem aHF(xs:List cL)(k:Int):eZ xs k=(pF sT cK xs k,k+bJ cK xs):=rfl
theorem aGw{xs:List cL}{k:Int}(h0:0<=k)(h1:k+bJ cK xs<=134217728):eZ.pre xs k=true:=mL.2 ⟨h0,h1⟩
noncomputable def eK(xs:List cL)(k:Int):Int:=uZ (pF sT cK) (bJ cK) xs k
namespace eK
def pre(xs:List cL)(k:Int):Bool:=zW cK xs k
def pre2:=rG cK
noncomputable def fn2:=aBG sT cK
def kY:=aEv (α:=cL)
noncomputable def cW(x1:(List cL))(x2:Int)(x3:Int):Option (((List cL)×eN)⊕((Int×Unit)⊕(Int×Unit))):=
 if(decide (x3<((length x1:Nat):Int)))=true then
 if(decide ((0:Int)<=x3))=true then
 if(decide (x3<((length x1:Nat):Int)))=true then
 if(!(decide ((List.getD x1 (Int.toNat x3) oR).1=x2)))=true then
 some (.inr (.inl ((-1:Int),())))
 else
 if(decide ((0:Int)<=x3))=true then
 if(decide (x3<((length x1:Nat):Int)))=true then
 if(!(decide ((List.getD x1 (Int.toNat x3) oR).2.1=(wrap .i64 (x2+(1:Int))))))=true then
 some (.inr (.inl ((-1:Int),())))
 else
 if(decide ((0:Int)<=x3))=true then
 if(decide (x3<((length x1:Nat):Int)))=true then
 if(dV.pre (List.getD x1 (Int.toNat x3) oR).2.2.1 (wrap .i64 ((wrap .i64 (x2+(1:Int)))+(1:Int))))=true then
 letB (dV (List.getD x1 (Int.toNat x3) oR).2.2.1 (wrap .i64 ((wrap .i64 (x2+(1:Int)))+(1:Int)))) fun v1=>
 if(decide (v1<(0:Int)))=true then
 some (.inr (.inl ((-1:Int),())))
 else
 some (.inl (x1,(v1,((wrap .i64 (x3+(1:Int))),()))))
 else
 none
 else
 none
 else
 none
 else
 none
 else
 none
 else
 none
 else
 none
 else
 some (.inr (.inr (x2,())))
abbrev wf(x0:(List cL))(x1:Int):Prop:=fW [(.val (.sl 0 aAj) .f),(.val (.int .i64) .f)] (x0,(x1,()))
noncomputable def aR(x0:(List cL))(x1:Int):Option xT:=
 if(eK.pre2 (x0,(x1,((0:Int),()))))=true then
  letB (eK.fn2 (x0,(x1,((0:Int),())))) fun v1=>
  match v1 with
  |.inl y=>
   some ((),y)
  |.inr y=>
   some ((),y)
 else
  none
theorem qO(x1:List cL)(x2 x3:Int)(hp:pre2 (x1,(x2,(x3,())))=true):Rounds pre2 kY fn2 (x1,(x2,(x3,()))) (cW x1 x2 x3):=by
 unfold cW
 by_cases hlt:x3<(x1.length:Int)
 . obtain⟨h0,hk,hc⟩:=wU oG hp hlt oR
   have xX:=aBq (m:=sT) (g:=cK) hp hlt oR
   have good:=fun K hK=>zM oG (K:=K) hp hlt oR hK
   generalize x1.getD x3.toNat oR=e at *
   simp only[cK] at hc
   have n2:=gQ nB e.2.2.1
   have w0:wrap .i64 (x2+1)=x2+1:=iV (by omega) (by omega)
   have w1:wrap .i64 (x2+1+1)=x2+1+1:=iV (by omega) (by omega)
   have q2:dV.pre e.2.2.1 (x2+1+1)=true:=aFc (by omega) (by omega)
   simp only[letB,hlt,h0,decide_true,if_true,w0,w1,q2]
   by_cases c0:e.1=x2
   case neg=>rw[if_pos (by simp[c0])];exact xX fun h=>c0 (congrArg (fun z:cL=>z.1) h)
   rw[if_neg (by simp[c0])]
   by_cases c1:e.2.1=x2+1
   case neg=>rw[if_pos (by simp[c1])];exact xX fun h=>c1 (congrArg (fun z:cL=>z.2.1) h)
   rw[if_neg (by simp[c1])]
   by_cases c2:e.2.2.1=pF sK gF e.2.2.1 (x2+1+1)
   case neg=>rw[show dV e.2.2.1 (x2+1+1)=-1 from aFk c2,if_pos (by decide)];exact xX fun h=>c2 ((congrArg (fun z:cL=>z.2.2.1) h).trans (by simp only[sT]))
   rw[show dV e.2.2.1 (x2+1+1)=x2+1+1+bJ gF e.2.2.1 from aFi c2,if_neg (by rw[Za];omega)]
   exact good _ (by simp only[cK];omega) (Prod.ext c0 (Prod.ext c1 (Prod.ext c2 rfl)))
 . rw[if_neg (by simp[hlt])];exact aBz hp hlt
theorem eq(x0:List cL)(x1:Int)(_:wf x0 x1)(hp:pre x0 x1=true):aR x0 x1=some ((),(eK x0 x1,())):=by
 unfold aR
 rw[if_pos (show pre2 _=true from wV oG hp)]
 exact rV x0 x1
end eK
theorem aH1{xs:List cL}{k:Int}(h:xs=pF sT cK xs k):eK xs k=k+bJ cK xs:=mX h
theorem aH6{xs:List cL}{k:Int}(h:¬xs=pF sT cK xs k):eK xs k=-1:=kD h
theorem aGE{xs:List cL}{k:Int}(h0:0<=k)(h1:k+bJ cK xs<=134217728):eK.pre xs k=true:=mL.2 ⟨h0,h1⟩
def oL(x:aK)(k:Int):aK:=(k,(k+1,(k+1+1,(k+1+1+1,(pF sY gE x.2.2.2.2.1 (k+1+1+1+1),())))))
def bN(x:aK):Int:=4+bJ gE x.2.2.2.2.1
theorem lL:aA1 oL bN:=by
 refine⟨fun x=>?_,fun x k=>?_,fun x k=>?_⟩
 . have n4:=gQ mZ x.2.2.2.2.1
   simp only[bN];omega
 . simp only[bN,oL,lC mZ]
 . simp only[oL,lC mZ,uC mZ]
noncomputable def kK(a b:aK):Bool:=same a b
namespace kK
abbrev wf(x0:aK)(x1:aK):Prop:=fW [(.val aBr .f),(.val aBr .f)] (x0,(x1,()))
noncomputable def aR(x0:aK)(x1:aK):Option kZ:=
 if(!(decide (x0.1=x1.1)))=true then
 some ((),(false,()))
 else
 if(!(decide (x0.2.1=x1.2.1)))=true then
 some ((),(false,()))
 else
 if(!(decide (x0.2.2.1=x1.2.2.1)))=true then
 some ((),(false,()))
 else
 if(!(decide (x0.2.2.2.1=x1.2.2.2.1)))=true then
 some ((),(false,()))
 else
 letB (iP x0.2.2.2.2.1 x1.2.2.2.2.1) fun v1=>
 if(!v1)=true then
 some ((),(false,()))
 else
 some ((),(true,()))
theorem eq(x0 x1:aK)(_:wf x0 x1):aR x0 x1=some ((),(kK x0 x1,())):=by
 unfold aR kK
 try simp only[letB]
 by_cases c0:x0.1=x1.1
 case neg=>rw[if_pos (by simp[c0]),aQ.2 (fun h=>c0 (congrArg (fun z:aK=>z.1) h))]
 rw[if_neg (by simp[c0])]
 by_cases c1:x0.2.1=x1.2.1
 case neg=>rw[if_pos (by simp[c1]),aQ.2 (fun h=>c1 (congrArg (fun z:aK=>z.2.1) h))]
 rw[if_neg (by simp[c1])]
 by_cases c2:x0.2.2.1=x1.2.2.1
 case neg=>rw[if_pos (by simp[c2]),aQ.2 (fun h=>c2 (congrArg (fun z:aK=>z.2.2.1) h))]
 rw[if_neg (by simp[c2])]
 by_cases c3:x0.2.2.2.1=x1.2.2.2.1
 case neg=>rw[if_pos (by simp[c3]),aQ.2 (fun h=>c3 (congrArg (fun z:aK=>z.2.2.2.1) h))]
 rw[if_neg (by simp[c3])]
 by_cases c4:x0.2.2.2.2.1=x1.2.2.2.2.1
 case neg=>rw[if_pos (by rw[iP,aQ.2 c4];rfl),aQ.2 (fun h=>c4 (congrArg (fun z:aK=>z.2.2.2.2.1) h))]
 rw[if_neg (by rw[iP,bV.2 c4];simp)]
 rw[bV.2 (Prod.ext c0 (Prod.ext c1 (Prod.ext c2 (Prod.ext c3 (Prod.ext c4 rfl)))))]
end kK
noncomputable def hP(a b:List aK):Bool:=same a b
namespace hP
def pre4:=sV (α:=aK)
noncomputable def fn4:=aA0 (α:=aK)
def qD:=aCF (α:=aK)
noncomputable def hJ(x1:(List aK))(x2:(List aK))(x3:Int):Option (((List aK)×((List aK)×(Int×Unit)))⊕((Bool×Unit)⊕Unit)):=
 if(decide (x3<((length x1:Nat):Int)))=true then
 if(decide ((0:Int)<=x3))=true then
 if(decide (x3<((length x1:Nat):Int)))=true then
 if(decide ((0:Int)<=x3))=true then
 if(decide (x3<((length x2:Nat):Int)))=true then
 letB (kK (List.getD x1 (Int.toNat x3) rF) (List.getD x2 (Int.toNat x3) rF)) fun v1=>
 if(!v1)=true then
 some (.inr (.inl (false,())))
 else
 some (.inl (x1,(x2,((wrap .i64 (x3+(1:Int))),()))))
 else
 none
 else
 none
 else
 none
 else
 none
 else
 some (.inr (.inr ()))
abbrev wf(x0:(List aK))(x1:(List aK)):Prop:=fW [(.val (.sl 0 aBr) .f),(.val (.sl 0 aBr) .f)] (x0,(x1,()))
noncomputable def aR(x0:(List aK))(x1:(List aK)):Option kZ:=
 if(!(decide (((length x0:Nat):Int)=((length x1:Nat):Int))))=true then
  some ((),(false,()))
 else
  if(hP.pre4 (x0,(x1,((0:Int),()))))=true then
   letB (hP.fn4 (x0,(x1,((0:Int),())))) fun v1=>
   match v1 with
   |.inl y=>
    some ((),y)
   |.inr y=>
    some ((),(true,()))
  else
   none
theorem zE(x1 x2:List aK)(x3:Int)(hp:pre4 (x1,(x2,(x3,())))=true):Rounds pre4 qD fn4 (x1,(x2,(x3,()))) (hJ x1 x2 x3):=by
 unfold hJ
 by_cases hlt:x3<(x1.length:Int)
 . obtain⟨h1,h2,h3,h4⟩:=vD hp hlt rF
   simp only[letB,hlt,h1,h2,decide_true,if_true]
   by_cases h:x1.getD x3.toNat rF=x2.getD x3.toNat rF
   . rw[if_neg (by rw[kK,bV.2 h];simp)];exact h3 h
   . rw[if_pos (by rw[kK,aQ.2 h];rfl)];exact h4 h
 . simp only[hlt,decide_false,Zj,if_false]
   exact zZ hp hlt
theorem eq(x0 x1:List aK)(hw:wf x0 x1):aR x0 x1=some ((),(hP x0 x1,())):=by
 have h1:x0.length<=maxLen:=hw.1.1
 unfold aR hP
 by_cases hl:(x0.length:Int)=(x1.length:Int)
 . rw[if_neg (by simp[hl]),if_pos (show pre4 _=true from sJ h1 hl)]
   unfold fn4
   by_cases he:x0=x1
   . rw[vN he,bV.2 he];rfl
   . rw[vO he,aQ.2 he];rfl
 . have:¬x0=x1:=fun h=>hl (by rw[h])
   rw[if_pos (by simp[hl]),aQ.2 this]
end hP
def dQ(xs:List aK)(k:Int):List aK×Int:=(pF oL bN xs k,k+bJ bN xs)
namespace dQ
def pre(xs:List aK)(k:Int):Bool:=zW bN xs k
def pre2:=sN bN
def fn2:=aDr oL bN
def kY:=aDW (α:=aK)
noncomputable def cW(x1:Int)(x2:Int)(x3:(List aK)):Option ((Int×(Int×((List aK)×Unit)))⊕(Int×((List aK)×Unit))):=
 if(decide (x2<((length x3:Nat):Int)))=true then
 if(decide ((0:Int)<=x2))=true then
 if(decide (x2<((length x3:Nat):Int)))=true then
 if(decide ((0:Int)<=x2))=true then
 if(decide (x2<((length (List.modify x3 (Int.toNat x2) (fun z=>(x1,z.2))):Nat):Int)))=true then
 if(decide ((0:Int)<=x2))=true then
 if(decide (x2<((length (List.modify (List.modify x3 (Int.toNat x2) (fun z=>(x1,z.2))) (Int.toNat x2) (fun z=>(z.1,((wrap .i64 (x1+(1:Int))),z.2.2)))):Nat):Int)))=true then
 if(decide ((0:Int)<=x2))=true then
 if(decide (x2<((length (List.modify (List.modify (List.modify x3 (Int.toNat x2) (fun z=>(x1,z.2))) (Int.toNat x2) (fun z=>(z.1,((wrap .i64 (x1+(1:Int))),z.2.2)))) (Int.toNat x2) (fun z=>(z.1,(z.2.1,((wrap .i64 ((wrap .i64 (x1+(1:Int)))+(1:Int))),z.2.2.2))))):Nat):Int)))=true then
 if(decide ((0:Int)<=x2))=true then
 if(decide (x2<((length (List.modify (List.modify (List.modify (List.modify x3 (Int.toNat x2) (fun z=>(x1,z.2))) (Int.toNat x2) (fun z=>(z.1,((wrap .i64 (x1+(1:Int))),z.2.2)))) (Int.toNat x2) (fun z=>(z.1,(z.2.1,((wrap .i64 ((wrap .i64 (x1+(1:Int)))+(1:Int))),z.2.2.2))))) (Int.toNat x2) (fun z=>(z.1,(z.2.1,(z.2.2.1,((wrap .i64 ((wrap .i64 ((wrap .i64 (x1+(1:Int)))+(1:Int)))+(1:Int))),z.2.2.2.2)))))):Nat):Int)))=true then
 if(eF.pre (List.getD (List.modify (List.modify (List.modify (List.modify x3 (Int.toNat x2) (fun z=>(x1,z.2))) (Int.toNat x2) (fun z=>(z.1,((wrap .i64 (x1+(1:Int))),z.2.2)))) (Int.toNat x2) (fun z=>(z.1,(z.2.1,((wrap .i64 ((wrap .i64 (x1+(1:Int)))+(1:Int))),z.2.2.2))))) (Int.toNat x2) (fun z=>(z.1,(z.2.1,(z.2.2.1,((wrap .i64 ((wrap .i64 ((wrap .i64 (x1+(1:Int)))+(1:Int)))+(1:Int))),z.2.2.2.2)))))) (Int.toNat x2) rF).2.2.2.2.1 (wrap .i64 ((wrap .i64 ((wrap .i64 ((wrap .i64 (x1+(1:Int)))+(1:Int)))+(1:Int)))+(1:Int))))=true then
 letB (eF (List.getD (List.modify (List.modify (List.modify (List.modify x3 (Int.toNat x2) (fun z=>(x1,z.2))) (Int.toNat x2) (fun z=>(z.1,((wrap .i64 (x1+(1:Int))),z.2.2)))) (Int.toNat x2) (fun z=>(z.1,(z.2.1,((wrap .i64 ((wrap .i64 (x1+(1:Int)))+(1:Int))),z.2.2.2))))) (Int.toNat x2) (fun z=>(z.1,(z.2.1,(z.2.2.1,((wrap .i64 ((wrap .i64 ((wrap .i64 (x1+(1:Int)))+(1:Int)))+(1:Int))),z.2.2.2.2)))))) (Int.toNat x2) rF).2.2.2.2.1 (wrap .i64 ((wrap .i64 ((wrap .i64 ((wrap .i64 (x1+(1:Int)))+(1:Int)))+(1:Int)))+(1:Int)))) fun v1=>
 some (.inl (v1.2,((wrap .i64 (x2+(1:Int))),((List.modify (List.modify (List.modify (List.modify (List.modify x3 (Int.toNat x2) (fun z=>(x1,z.2))) (Int.toNat x2) (fun z=>(z.1,((wrap .i64 (x1+(1:Int))),z.2.2)))) (Int.toNat x2) (fun z=>(z.1,(z.2.1,((wrap .i64 ((wrap .i64 (x1+(1:Int)))+(1:Int))),z.2.2.2))))) (Int.toNat x2) (fun z=>(z.1,(z.2.1,(z.2.2.1,((wrap .i64 ((wrap .i64 ((wrap .i64 (x1+(1:Int)))+(1:Int)))+(1:Int))),z.2.2.2.2)))))) (Int.toNat x2) (fun z=>(z.1,(z.2.1,(z.2.2.1,(z.2.2.2.1,(v1.1,z.2.2.2.2.2))))))),()))))
 else
 none
 else
 none
 else
 none
 else
 none
 else
 none
 else
 none
 else
 none
 else
 none
 else
 none
 else
 none
 else
 none
 else
 some (.inr (x1,(x3,())))
abbrev wf(x0:(List aK))(x1:Int):Prop:=fW [(.mut (.sl 0 aBr)),(.val (.int .i64) .f)] (x0,(x1,()))
noncomputable def aR(x0:(List aK))(x1:Int):Option (((List aK)×Unit)×(Int×Unit)):=
 if(dQ.pre2 (x1,((0:Int),(x0,()))))=true then
 letB (dQ.fn2 (x1,((0:Int),(x0,())))) fun v1=>
 some (v1.2,(v1.1,()))
 else
 none
theorem qO(x1 x2:Int)(x3:List aK)(hp:pre2 (x1,(x2,(x3,())))=true):Rounds pre2 kY fn2 (x1,(x2,(x3,()))) (cW x1 x2 x3):=by
 unfold cW
 by_cases hlt:x2<(x3.length:Int)
 . obtain⟨h0,hk,hc,hn⟩:=sM lL hp hlt rF
   generalize he:x3.getD x2.toNat rF=e at hc
   simp only[bN] at hc
   have n4:=gQ mZ e.2.2.2.2.1
   have w0:wrap .i64 (x1+1)=x1+1:=iV (by omega) (by omega)
   have w1:wrap .i64 (x1+1+1)=x1+1+1:=iV (by omega) (by omega)
   have w2:wrap .i64 (x1+1+1+1)=x1+1+1+1:=iV (by omega) (by omega)
   have w3:wrap .i64 (x1+1+1+1+1)=x1+1+1+1+1:=iV (by omega) (by omega)
   have q4:eF.pre e.2.2.2.2.1 (x1+1+1+1+1)=true:=aF8 (by omega) (by omega)
   simp only[letB,List.length_modify,List.modify_modify_eq,pG hn,Function.comp,hlt,h0,he,decide_true,if_true,w0,w1,w2,w3,q4,aGe]
   exact xN lL hp hlt rF (by rw[he];simp only[bN];omega) (by rw[he];rfl)
 . rw[if_neg (by simp[hlt])];exact aAw hp hlt
theorem eq(x0:List aK)(x1:Int)(_:wf x0 x1)(hp:pre x0 x1=true):aR x0 x1=some (((dQ x0 x1).1,()),((dQ x0 x1).2,())):=by
 unfold aR
 rw[if_pos (show pre2 _=true from uI lL hp)]
 rfl
end dQ
theorem aFg(xs:List aK)(k:Int):dQ xs k=(pF oL bN xs k,k+bJ bN xs):=rfl
theorem aE1{xs:List aK}{k:Int}(h0:0<=k)(h1:k+bJ bN xs<=134217728):dQ.pre xs k=true:=mL.2 ⟨h0,h1⟩
noncomputable def dH(xs:List aK)(k:Int):Int:=uZ (pF oL bN) (bJ bN) xs k
namespace dH
def pre(xs:List aK)(k:Int):Bool:=zW bN xs k
def pre2:=rG bN
noncomputable def fn2:=aBG oL bN
def kY:=aEv (α:=aK)
noncomputable def cW(x1:(List aK))(x2:Int)(x3:Int):Option (((List aK)×eN)⊕((Int×Unit)⊕(Int×Unit))):=
 if(decide (x3<((length x1:Nat):Int)))=true then
 if(decide ((0:Int)<=x3))=true then
 if(decide (x3<((length x1:Nat):Int)))=true then
 if(!(decide ((List.getD x1 (Int.toNat x3) rF).1=x2)))=true then
 some (.inr (.inl ((-1:Int),())))
 else
 if(decide ((0:Int)<=x3))=true then
 if(decide (x3<((length x1:Nat):Int)))=true then
 if(!(decide ((List.getD x1 (Int.toNat x3) rF).2.1=(wrap .i64 (x2+(1:Int))))))=true then
 some (.inr (.inl ((-1:Int),())))
 else
 if(decide ((0:Int)<=x3))=true then
 if(decide (x3<((length x1:Nat):Int)))=true then
 if(!(decide ((List.getD x1 (Int.toNat x3) rF).2.2.1=(wrap .i64 ((wrap .i64 (x2+(1:Int)))+(1:Int))))))=true then
 some (.inr (.inl ((-1:Int),())))
 else
 if(decide ((0:Int)<=x3))=true then
 if(decide (x3<((length x1:Nat):Int)))=true then
 if(!(decide ((List.getD x1 (Int.toNat x3) rF).2.2.2.1=(wrap .i64 ((wrap .i64 ((wrap .i64 (x2+(1:Int)))+(1:Int)))+(1:Int))))))=true then
 some (.inr (.inl ((-1:Int),())))
 else
 if(decide ((0:Int)<=x3))=true then
 if(decide (x3<((length x1:Nat):Int)))=true then
 if(dU.pre (List.getD x1 (Int.toNat x3) rF).2.2.2.2.1 (wrap .i64 ((wrap .i64 ((wrap .i64 ((wrap .i64 (x2+(1:Int)))+(1:Int)))+(1:Int)))+(1:Int))))=true then
 letB (dU (List.getD x1 (Int.toNat x3) rF).2.2.2.2.1 (wrap .i64 ((wrap .i64 ((wrap .i64 ((wrap .i64 (x2+(1:Int)))+(1:Int)))+(1:Int)))+(1:Int)))) fun v1=>
 if(decide (v1<(0:Int)))=true then
 some (.inr (.inl ((-1:Int),())))
 else
 some (.inl (x1,(v1,((wrap .i64 (x3+(1:Int))),()))))
 else
 none
 else
 none
 else
 none
 else
 none
 else
 none
 else
 none
 else
 none
 else
 none
 else
 none
 else
 none
 else
 none
 else
 some (.inr (.inr (x2,())))
abbrev wf(x0:(List aK))(x1:Int):Prop:=fW [(.val (.sl 0 aBr) .f),(.val (.int .i64) .f)] (x0,(x1,()))
noncomputable def aR(x0:(List aK))(x1:Int):Option xT:=
 if(dH.pre2 (x0,(x1,((0:Int),()))))=true then
  letB (dH.fn2 (x0,(x1,((0:Int),())))) fun v1=>
  match v1 with
  |.inl y=>
   some ((),y)
  |.inr y=>
   some ((),y)
 else
  none
theorem qO(x1:List aK)(x2 x3:Int)(hp:pre2 (x1,(x2,(x3,())))=true):Rounds pre2 kY fn2 (x1,(x2,(x3,()))) (cW x1 x2 x3):=by
 unfold cW
 by_cases hlt:x3<(x1.length:Int)
 . obtain⟨h0,hk,hc⟩:=wU lL hp hlt rF
   have xX:=aBq (m:=oL) (g:=bN) hp hlt rF
   have good:=fun K hK=>zM lL (K:=K) hp hlt rF hK
   generalize x1.getD x3.toNat rF=e at *
   simp only[bN] at hc
   have n4:=gQ mZ e.2.2.2.2.1
   have w0:wrap .i64 (x2+1)=x2+1:=iV (by omega) (by omega)
   have w1:wrap .i64 (x2+1+1)=x2+1+1:=iV (by omega) (by omega)
   have w2:wrap .i64 (x2+1+1+1)=x2+1+1+1:=iV (by omega) (by omega)
   have w3:wrap .i64 (x2+1+1+1+1)=x2+1+1+1+1:=iV (by omega) (by omega)
   have q4:dU.pre e.2.2.2.2.1 (x2+1+1+1+1)=true:=aF4 (by omega) (by omega)
   simp only[letB,hlt,h0,decide_true,if_true,w0,w1,w2,w3,q4]
   by_cases c0:e.1=x2
   case neg=>rw[if_pos (by simp[c0])];exact xX fun h=>c0 (congrArg (fun z:aK=>z.1) h)
   rw[if_neg (by simp[c0])]
   by_cases c1:e.2.1=x2+1
   case neg=>rw[if_pos (by simp[c1])];exact xX fun h=>c1 (congrArg (fun z:aK=>z.2.1) h)
   rw[if_neg (by simp[c1])]
   by_cases c2:e.2.2.1=x2+1+1
   case neg=>rw[if_pos (by simp[c2])];exact xX fun h=>c2 (congrArg (fun z:aK=>z.2.2.1) h)
   rw[if_neg (by simp[c2])]
   by_cases c3:e.2.2.2.1=x2+1+1+1
   case neg=>rw[if_pos (by simp[c3])];exact xX fun h=>c3 (congrArg (fun z:aK=>z.2.2.2.1) h)
   rw[if_neg (by simp[c3])]
   by_cases c4:e.2.2.2.2.1=pF sY gE e.2.2.2.2.1 (x2+1+1+1+1)
   case neg=>rw[show dU e.2.2.2.2.1 (x2+1+1+1+1)=-1 from aFf c4,if_pos (by decide)];exact xX fun h=>c4 ((congrArg (fun z:aK=>z.2.2.2.2.1) h).trans (by simp only[oL]))
   rw[show dU e.2.2.2.2.1 (x2+1+1+1+1)=x2+1+1+1+1+bJ gE e.2.2.2.2.1 from aFe c4,if_neg (by rw[Za];omega)]
   exact good _ (by simp only[bN];omega) (Prod.ext c0 (Prod.ext c1 (Prod.ext c2 (Prod.ext c3 (Prod.ext c4 rfl)))))
 . rw[if_neg (by simp[hlt])];exact aBz hp hlt
theorem eq(x0:List aK)(x1:Int)(_:wf x0 x1)(hp:pre x0 x1=true):aR x0 x1=some ((),(dH x0 x1,())):=by
 unfold aR
 rw[if_pos (show pre2 _=true from wV lL hp)]
 exact rV x0 x1
end dH
theorem aDL{xs:List aK}{k:Int}(h:xs=pF oL bN xs k):dH xs k=k+bJ bN xs:=mX h
theorem aDU{xs:List aK}{k:Int}(h:¬xs=pF oL bN xs k):dH xs k=-1:=kD h
theorem aDK{xs:List aK}{k:Int}(h0:0<=k)(h1:k+bJ bN xs<=134217728):dH.pre xs k=true:=mL.2 ⟨h0,h1⟩
def oV(_:aM)(k:Int):aM:=(k,(k+1,(aE (k+1+1),(aE (k+1+1+1),()))))
def dL(_:aM):Int:=4
theorem kH:aA1 oV dL:=⟨fun _=>by simp only[dL];decide,fun _ _=>rfl,fun _ _=>rfl⟩
noncomputable def jL(a b:aM):Bool:=same a b
namespace jL
abbrev wf(x0:aM)(x1:aM):Prop:=fW [(.val aBw .f),(.val aBw .f)] (x0,(x1,()))
noncomputable def aR(x0:aM)(x1:aM):Option kZ:=
 if(!(decide (x0.1=x1.1)))=true then
 some ((),(false,()))
 else
 if(!(decide (x0.2.1=x1.2.1)))=true then
 some ((),(false,()))
 else
 if(!(x0.2.2.1==x1.2.2.1))=true then
 some ((),(false,()))
 else
 if(!(x0.2.2.2.1==x1.2.2.2.1))=true then
 some ((),(false,()))
 else
 some ((),(true,()))
theorem eq(x0 x1:aM)(_:wf x0 x1):aR x0 x1=some ((),(jL x0 x1,())):=by
 unfold aR jL
 try simp only[letB]
 by_cases c0:x0.1=x1.1
 case neg=>rw[if_pos (by simp[c0]),aQ.2 (fun h=>c0 (congrArg (fun z:aM=>z.1) h))]
 rw[if_neg (by simp[c0])]
 by_cases c1:x0.2.1=x1.2.1
 case neg=>rw[if_pos (by simp[c1]),aQ.2 (fun h=>c1 (congrArg (fun z:aM=>z.2.1) h))]
 rw[if_neg (by simp[c1])]
 by_cases c2:x0.2.2.1=x1.2.2.1
 case neg=>rw[if_pos (by simp[c2]),aQ.2 (fun h=>c2 (congrArg (fun z:aM=>z.2.2.1) h))]
 rw[if_neg (by simp[c2])]
 by_cases c3:x0.2.2.2.1=x1.2.2.2.1
 case neg=>rw[if_pos (by simp[c3]),aQ.2 (fun h=>c3 (congrArg (fun z:aM=>z.2.2.2.1) h))]
 rw[if_neg (by simp[c3])]
 rw[bV.2 (Prod.ext c0 (Prod.ext c1 (Prod.ext c2 (Prod.ext c3 rfl))))]
end jL
noncomputable def gG(a b:List aM):Bool:=same a b
namespace gG
def pre4:=sV (α:=aM)
noncomputable def fn4:=aA0 (α:=aM)
def qD:=aCF (α:=aM)
noncomputable def hJ(x1:(List aM))(x2:(List aM))(x3:Int):Option (((List aM)×((List aM)×(Int×Unit)))⊕((Bool×Unit)⊕Unit)):=
 if(decide (x3<((length x1:Nat):Int)))=true then
 if(decide ((0:Int)<=x3))=true then
 if(decide (x3<((length x1:Nat):Int)))=true then
 if(decide ((0:Int)<=x3))=true then
 if(decide (x3<((length x2:Nat):Int)))=true then
 letB (jL (List.getD x1 (Int.toNat x3) sI) (List.getD x2 (Int.toNat x3) sI)) fun v1=>
 if(!v1)=true then
 some (.inr (.inl (false,())))
 else
 some (.inl (x1,(x2,((wrap .i64 (x3+(1:Int))),()))))
 else
 none
 else
 none
 else
 none
 else
 none
 else
 some (.inr (.inr ()))
abbrev wf(x0:(List aM))(x1:(List aM)):Prop:=fW [(.val (.sl 0 aBw) .f),(.val (.sl 0 aBw) .f)] (x0,(x1,()))
noncomputable def aR(x0:(List aM))(x1:(List aM)):Option kZ:=
 if(!(decide (((length x0:Nat):Int)=((length x1:Nat):Int))))=true then
  some ((),(false,()))
 else
  if(gG.pre4 (x0,(x1,((0:Int),()))))=true then
   letB (gG.fn4 (x0,(x1,((0:Int),())))) fun v1=>
   match v1 with
   |.inl y=>
    some ((),y)
   |.inr y=>
    some ((),(true,()))
  else
   none
theorem zE(x1 x2:List aM)(x3:Int)(hp:pre4 (x1,(x2,(x3,())))=true):Rounds pre4 qD fn4 (x1,(x2,(x3,()))) (hJ x1 x2 x3):=by
 unfold hJ
 by_cases hlt:x3<(x1.length:Int)
 . obtain⟨h1,h2,h3,h4⟩:=vD hp hlt sI
   simp only[letB,hlt,h1,h2,decide_true,if_true]
   by_cases h:x1.getD x3.toNat sI=x2.getD x3.toNat sI
   . rw[if_neg (by rw[jL,bV.2 h];simp)];exact h3 h
   . rw[if_pos (by rw[jL,aQ.2 h];rfl)];exact h4 h
 . simp only[hlt,decide_false,Zj,if_false]
   exact zZ hp hlt
theorem eq(x0 x1:List aM)(hw:wf x0 x1):aR x0 x1=some ((),(gG x0 x1,())):=by
 have h1:x0.length<=maxLen:=hw.1.1
 unfold aR gG
 by_cases hl:(x0.length:Int)=(x1.length:Int)
 . rw[if_neg (by simp[hl]),if_pos (show pre4 _=true from sJ h1 hl)]
   unfold fn4
   by_cases he:x0=x1
   . rw[vN he,bV.2 he];rfl
   . rw[vO he,aQ.2 he];rfl
 . have:¬x0=x1:=fun h=>hl (by rw[h])
   rw[if_pos (by simp[hl]),aQ.2 this]
end gG
def dE(xs:List aM)(k:Int):List aM×Int:=(pF oV dL xs k,k+bJ dL xs)
namespace dE
def pre(xs:List aM)(k:Int):Bool:=zW dL xs k
def pre2:=sN dL
def fn2:=aDr oV dL
def kY:=aDW (α:=aM)
noncomputable def cW(x1:Int)(x2:Int)(x3:(List aM)):Option ((Int×(Int×((List aM)×Unit)))⊕(Int×((List aM)×Unit))):=
 if(decide (x2<((length x3:Nat):Int)))=true then
 if(decide ((0:Int)<=x2))=true then
 if(decide (x2<((length x3:Nat):Int)))=true then
 if(decide ((0:Int)<=x2))=true then
 if(decide (x2<((length (List.modify x3 (Int.toNat x2) (fun z=>(x1,z.2))):Nat):Int)))=true then
 if(aE.pre (wrap .i64 ((wrap .i64 (x1+(1:Int)))+(1:Int))))=true then
 if(decide ((0:Int)<=x2))=true then
 if(decide (x2<((length (List.modify (List.modify x3 (Int.toNat x2) (fun z=>(x1,z.2))) (Int.toNat x2) (fun z=>(z.1,((wrap .i64 (x1+(1:Int))),z.2.2)))):Nat):Int)))=true then
 if(aE.pre (wrap .i64 ((wrap .i64 ((wrap .i64 (x1+(1:Int)))+(1:Int)))+(1:Int))))=true then
 if(decide ((0:Int)<=x2))=true then
 if(decide (x2<((length (List.modify (List.modify (List.modify x3 (Int.toNat x2) (fun z=>(x1,z.2))) (Int.toNat x2) (fun z=>(z.1,((wrap .i64 (x1+(1:Int))),z.2.2)))) (Int.toNat x2) (fun z=>(z.1,(z.2.1,((aE (wrap .i64 ((wrap .i64 (x1+(1:Int)))+(1:Int)))),z.2.2.2))))):Nat):Int)))=true then
 some (.inl ((wrap .i64 ((wrap .i64 ((wrap .i64 ((wrap .i64 (x1+(1:Int)))+(1:Int)))+(1:Int)))+(1:Int))),((wrap .i64 (x2+(1:Int))),((List.modify (List.modify (List.modify (List.modify x3 (Int.toNat x2) (fun z=>(x1,z.2))) (Int.toNat x2) (fun z=>(z.1,((wrap .i64 (x1+(1:Int))),z.2.2)))) (Int.toNat x2) (fun z=>(z.1,(z.2.1,((aE (wrap .i64 ((wrap .i64 (x1+(1:Int)))+(1:Int)))),z.2.2.2))))) (Int.toNat x2) (fun z=>(z.1,(z.2.1,(z.2.2.1,((aE (wrap .i64 ((wrap .i64 ((wrap .i64 (x1+(1:Int)))+(1:Int)))+(1:Int)))),z.2.2.2.2)))))),()))))
 else
 none
 else
 none
 else
 none
 else
 none
 else
 none
 else
 none
 else
 none
 else
 none
 else
 none
 else
 none
 else
 some (.inr (x1,(x3,())))
abbrev wf(x0:(List aM))(x1:Int):Prop:=fW [(.mut (.sl 0 aBw)),(.val (.int .i64) .f)] (x0,(x1,()))
noncomputable def aR(x0:(List aM))(x1:Int):Option (((List aM)×Unit)×(Int×Unit)):=
 if(dE.pre2 (x1,((0:Int),(x0,()))))=true then
 letB (dE.fn2 (x1,((0:Int),(x0,())))) fun v1=>
 some (v1.2,(v1.1,()))
 else
 none
theorem qO(x1 x2:Int)(x3:List aM)(hp:pre2 (x1,(x2,(x3,())))=true):Rounds pre2 kY fn2 (x1,(x2,(x3,()))) (cW x1 x2 x3):=by
 unfold cW
 by_cases hlt:x2<(x3.length:Int)
 . obtain⟨h0,hk,hc,hn⟩:=sM kH hp hlt sI
   generalize he:x3.getD x2.toNat sI=e at hc
   simp only[dL] at hc
   have w0:wrap .i64 (x1+1)=x1+1:=iV (by omega) (by omega)
   have w1:wrap .i64 (x1+1+1)=x1+1+1:=iV (by omega) (by omega)
   have w2:wrap .i64 (x1+1+1+1)=x1+1+1+1:=iV (by omega) (by omega)
   have p2:aE.pre (x1+1+1)=true:=by simp only[aE.pre,Za];omega
   have w3:wrap .i64 (x1+1+1+1+1)=x1+1+1+1+1:=iV (by omega) (by omega)
   have p3:aE.pre (x1+1+1+1)=true:=by simp only[aE.pre,Za];omega
   simp only[letB,List.length_modify,List.modify_modify_eq,pG hn,Function.comp,hlt,h0,he,decide_true,if_true,w0,w1,w2,p2,w3,p3]
   exact xN kH hp hlt sI (by rw[he];simp only[dL];omega) (by rw[he];rfl)
 . rw[if_neg (by simp[hlt])];exact aAw hp hlt
theorem eq(x0:List aM)(x1:Int)(_:wf x0 x1)(hp:pre x0 x1=true):aR x0 x1=some (((dE x0 x1).1,()),((dE x0 x1).2,())):=by
 unfold aR
 rw[if_pos (show pre2 _=true from uI kH hp)]
 rfl
end dE
theorem aEf(xs:List aM)(k:Int):dE xs k=(pF oV dL xs k,k+bJ dL xs):=rfl
theorem aDs{xs:List aM}{k:Int}(h0:0<=k)(h1:k+bJ dL xs<=134217728):dE.pre xs k=true:=mL.2 ⟨h0,h1⟩
noncomputable def cY(xs:List aM)(k:Int):Int:=uZ (pF oV dL) (bJ dL) xs k
namespace cY
def pre(xs:List aM)(k:Int):Bool:=zW dL xs k
def pre2:=rG dL
noncomputable def fn2:=aBG oV dL
def kY:=aEv (α:=aM)
noncomputable def cW(x1:(List aM))(x2:Int)(x3:Int):Option (((List aM)×eN)⊕((Int×Unit)⊕(Int×Unit))):=
 if(decide (x3<((length x1:Nat):Int)))=true then
 if(decide ((0:Int)<=x3))=true then
 if(decide (x3<((length x1:Nat):Int)))=true then
 if(!(decide ((List.getD x1 (Int.toNat x3) sI).1=x2)))=true then
 some (.inr (.inl ((-1:Int),())))
 else
 if(decide ((0:Int)<=x3))=true then
 if(decide (x3<((length x1:Nat):Int)))=true then
 if(!(decide ((List.getD x1 (Int.toNat x3) sI).2.1=(wrap .i64 (x2+(1:Int))))))=true then
 some (.inr (.inl ((-1:Int),())))
 else
 if(decide ((0:Int)<=x3))=true then
 if(decide (x3<((length x1:Nat):Int)))=true then
 if(aE.pre (wrap .i64 ((wrap .i64 (x2+(1:Int)))+(1:Int))))=true then
 letB (aE (wrap .i64 ((wrap .i64 (x2+(1:Int)))+(1:Int)))) fun v1=>
 if(!((List.getD x1 (Int.toNat x3) sI).2.2.1==v1))=true then
 some (.inr (.inl ((-1:Int),())))
 else
 if(decide ((0:Int)<=x3))=true then
 if(decide (x3<((length x1:Nat):Int)))=true then
 if(aE.pre (wrap .i64 ((wrap .i64 ((wrap .i64 (x2+(1:Int)))+(1:Int)))+(1:Int))))=true then
 letB (aE (wrap .i64 ((wrap .i64 ((wrap .i64 (x2+(1:Int)))+(1:Int)))+(1:Int)))) fun v2=>
 if(!((List.getD x1 (Int.toNat x3) sI).2.2.2.1==v2))=true then
 some (.inr (.inl ((-1:Int),())))
 else
 some (.inl (x1,((wrap .i64 ((wrap .i64 ((wrap .i64 ((wrap .i64 (x2+(1:Int)))+(1:Int)))+(1:Int)))+(1:Int))),((wrap .i64 (x3+(1:Int))),()))))
 else
 none
 else
 none
 else
 none
 else
 none
 else
 none
 else
 none
 else
 none
 else
 none
 else
 none
 else
 none
 else
 some (.inr (.inr (x2,())))
abbrev wf(x0:(List aM))(x1:Int):Prop:=fW [(.val (.sl 0 aBw) .f),(.val (.int .i64) .f)] (x0,(x1,()))
noncomputable def aR(x0:(List aM))(x1:Int):Option xT:=
 if(cY.pre2 (x0,(x1,((0:Int),()))))=true then
  letB (cY.fn2 (x0,(x1,((0:Int),())))) fun v1=>
  match v1 with
  |.inl y=>
   some ((),y)
  |.inr y=>
   some ((),y)
 else
  none
theorem qO(x1:List aM)(x2 x3:Int)(hp:pre2 (x1,(x2,(x3,())))=true):Rounds pre2 kY fn2 (x1,(x2,(x3,()))) (cW x1 x2 x3):=by
 unfold cW
 by_cases hlt:x3<(x1.length:Int)
 . obtain⟨h0,hk,hc⟩:=wU kH hp hlt sI
   have xX:=aBq (m:=oV) (g:=dL) hp hlt sI
   have good:=fun K hK=>zM kH (K:=K) hp hlt sI hK
   generalize x1.getD x3.toNat sI=e at *
   simp only[dL] at hc
   have w0:wrap .i64 (x2+1)=x2+1:=iV (by omega) (by omega)
   have w1:wrap .i64 (x2+1+1)=x2+1+1:=iV (by omega) (by omega)
   have w2:wrap .i64 (x2+1+1+1)=x2+1+1+1:=iV (by omega) (by omega)
   have p2:aE.pre (x2+1+1)=true:=by simp only[aE.pre,Za];omega
   have w3:wrap .i64 (x2+1+1+1+1)=x2+1+1+1+1:=iV (by omega) (by omega)
   have p3:aE.pre (x2+1+1+1)=true:=by simp only[aE.pre,Za];omega
   simp only[letB,hlt,h0,decide_true,if_true,w0,w1,w2,p2,w3,p3]
   by_cases c0:e.1=x2
   case neg=>rw[if_pos (by simp[c0])];exact xX fun h=>c0 (congrArg (fun z:aM=>z.1) h)
   rw[if_neg (by simp[c0])]
   by_cases c1:e.2.1=x2+1
   case neg=>rw[if_pos (by simp[c1])];exact xX fun h=>c1 (congrArg (fun z:aM=>z.2.1) h)
   rw[if_neg (by simp[c1])]
   by_cases c2:e.2.2.1=aE (x2+1+1)
   case neg=>rw[if_pos (by simp[c2])];exact xX fun h=>c2 (congrArg (fun z:aM=>z.2.2.1) h)
   rw[if_neg (by simp[c2])]
   by_cases c3:e.2.2.2.1=aE (x2+1+1+1)
   case neg=>rw[if_pos (by simp[c3])];exact xX fun h=>c3 (congrArg (fun z:aM=>z.2.2.2.1) h)
   rw[if_neg (by simp[c3])]
   exact good _ (by simp only[dL];omega) (Prod.ext c0 (Prod.ext c1 (Prod.ext c2 (Prod.ext c3 rfl))))
 . rw[if_neg (by simp[hlt])];exact aBz hp hlt
theorem eq(x0:List aM)(x1:Int)(_:wf x0 x1)(hp:pre x0 x1=true):aR x0 x1=some ((),(cY x0 x1,())):=by
 unfold aR
 rw[if_pos (show pre2 _=true from wV kH hp)]
 exact rV x0 x1
end cY
theorem aDh{xs:List aM}{k:Int}(h:xs=pF oV dL xs k):cY xs k=k+bJ dL xs:=mX h
theorem aDj{xs:List aM}{k:Int}(h:¬xs=pF oV dL xs k):cY xs k=-1:=kD h
theorem aDm{xs:List aM}{k:Int}(h0:0<=k)(h1:k+bJ dL xs<=134217728):cY.pre xs k=true:=mL.2 ⟨h0,h1⟩
def nI(x:aJ)(k:Int):aJ:=(k,(pF qJ bO x.2.1 (k+1),(pF qJ bO x.2.2.1 (k+1+bJ bO x.2.1),(pF qJ bO x.2.2.2.1 (k+1+bJ bO x.2.1+bJ bO x.2.2.1),()))))
def bY(x:aJ):Int:=1+bJ bO x.2.1+bJ bO x.2.2.1+bJ bO x.2.2.2.1
theorem lR:aA1 nI bY:=by
 refine⟨fun x=>?_,fun x k=>?_,fun x k=>?_⟩
 . have n1:=gQ gP x.2.1
   have n2:=gQ gP x.2.2.1
   have n3:=gQ gP x.2.2.2.1
   simp only[bY];omega
 . simp only[bY,nI,lC gP]
 . simp only[nI,lC gP,uC gP]
noncomputable def kJ(a b:aJ):Bool:=same a b
namespace kJ
abbrev wf(x0:aJ)(x1:aJ):Prop:=fW [(.val aAh .f),(.val aAh .f)] (x0,(x1,()))
noncomputable def aR(x0:aJ)(x1:aJ):Option kZ:=
 if(!(decide (x0.1=x1.1)))=true then
 some ((),(false,()))
 else
 letB (dY x0.2.1 x1.2.1) fun v1=>
 if(!v1)=true then
 some ((),(false,()))
 else
 letB (dY x0.2.2.1 x1.2.2.1) fun v2=>
 if(!v2)=true then
 some ((),(false,()))
 else
 letB (dY x0.2.2.2.1 x1.2.2.2.1) fun v3=>
 if(!v3)=true then
 some ((),(false,()))
 else
 some ((),(true,()))
theorem eq(x0 x1:aJ)(_:wf x0 x1):aR x0 x1=some ((),(kJ x0 x1,())):=by
 unfold aR kJ
 try simp only[letB]
 by_cases c0:x0.1=x1.1
 case neg=>rw[if_pos (by simp[c0]),aQ.2 (fun h=>c0 (congrArg (fun z:aJ=>z.1) h))]
 rw[if_neg (by simp[c0])]
 by_cases c1:x0.2.1=x1.2.1
 case neg=>rw[if_pos (by rw[dY,aQ.2 c1];rfl),aQ.2 (fun h=>c1 (congrArg (fun z:aJ=>z.2.1) h))]
 rw[if_neg (by rw[dY,bV.2 c1];simp)]
 by_cases c2:x0.2.2.1=x1.2.2.1
 case neg=>rw[if_pos (by rw[dY,aQ.2 c2];rfl),aQ.2 (fun h=>c2 (congrArg (fun z:aJ=>z.2.2.1) h))]
 rw[if_neg (by rw[dY,bV.2 c2];simp)]
 by_cases c3:x0.2.2.2.1=x1.2.2.2.1
 case neg=>rw[if_pos (by rw[dY,aQ.2 c3];rfl),aQ.2 (fun h=>c3 (congrArg (fun z:aJ=>z.2.2.2.1) h))]
 rw[if_neg (by rw[dY,bV.2 c3];simp)]
 rw[bV.2 (Prod.ext c0 (Prod.ext c1 (Prod.ext c2 (Prod.ext c3 rfl))))]
end kJ
noncomputable def hZ(a b:List aJ):Bool:=same a b
namespace hZ
def pre4:=sV (α:=aJ)
noncomputable def fn4:=aA0 (α:=aJ)
def qD:=aCF (α:=aJ)
noncomputable def hJ(x1:(List aJ))(x2:(List aJ))(x3:Int):Option (((List aJ)×((List aJ)×(Int×Unit)))⊕((Bool×Unit)⊕Unit)):=
 if(decide (x3<((length x1:Nat):Int)))=true then
 if(decide ((0:Int)<=x3))=true then
 if(decide (x3<((length x1:Nat):Int)))=true then
 if(decide ((0:Int)<=x3))=true then
 if(decide (x3<((length x2:Nat):Int)))=true then
 letB (kJ (List.getD x1 (Int.toNat x3) vB) (List.getD x2 (Int.toNat x3) vB)) fun v1=>
 if(!v1)=true then
 some (.inr (.inl (false,())))
 else
 some (.inl (x1,(x2,((wrap .i64 (x3+(1:Int))),()))))
 else
 none
 else
 none
 else
 none
 else
 none
 else
 some (.inr (.inr ()))
abbrev wf(x0:(List aJ))(x1:(List aJ)):Prop:=fW [(.val (.sl 0 aAh) .f),(.val (.sl 0 aAh) .f)] (x0,(x1,()))
noncomputable def aR(x0:(List aJ))(x1:(List aJ)):Option kZ:=
 if(!(decide (((length x0:Nat):Int)=((length x1:Nat):Int))))=true then
  some ((),(false,()))
 else
  if(hZ.pre4 (x0,(x1,((0:Int),()))))=true then
   letB (hZ.fn4 (x0,(x1,((0:Int),())))) fun v1=>
   match v1 with
   |.inl y=>
    some ((),y)
   |.inr y=>
    some ((),(true,()))
  else
   none
theorem zE(x1 x2:List aJ)(x3:Int)(hp:pre4 (x1,(x2,(x3,())))=true):Rounds pre4 qD fn4 (x1,(x2,(x3,()))) (hJ x1 x2 x3):=by
 unfold hJ
 by_cases hlt:x3<(x1.length:Int)
 . obtain⟨h1,h2,h3,h4⟩:=vD hp hlt vB
   simp only[letB,hlt,h1,h2,decide_true,if_true]
   by_cases h:x1.getD x3.toNat vB=x2.getD x3.toNat vB
   . rw[if_neg (by rw[kJ,bV.2 h];simp)];exact h3 h
   . rw[if_pos (by rw[kJ,aQ.2 h];rfl)];exact h4 h
 . simp only[hlt,decide_false,Zj,if_false]
   exact zZ hp hlt
theorem eq(x0 x1:List aJ)(hw:wf x0 x1):aR x0 x1=some ((),(hZ x0 x1,())):=by
 have h1:x0.length<=maxLen:=hw.1.1
 unfold aR hZ
 by_cases hl:(x0.length:Int)=(x1.length:Int)
 . rw[if_neg (by simp[hl]),if_pos (show pre4 _=true from sJ h1 hl)]
   unfold fn4
   by_cases he:x0=x1
   . rw[vN he,bV.2 he];rfl
   . rw[vO he,aQ.2 he];rfl
 . have:¬x0=x1:=fun h=>hl (by rw[h])
   rw[if_pos (by simp[hl]),aQ.2 this]
end hZ
def dR(xs:List aJ)(k:Int):List aJ×Int:=(pF nI bY xs k,k+bJ bY xs)
namespace dR
def pre(xs:List aJ)(k:Int):Bool:=zW bY xs k
def pre2:=sN bY
def fn2:=aDr nI bY
def kY:=aDW (α:=aJ)
noncomputable def cW(x1:Int)(x2:Int)(x3:(List aJ)):Option ((Int×(Int×((List aJ)×Unit)))⊕(Int×((List aJ)×Unit))):=
 if(decide (x2<((length x3:Nat):Int)))=true then
 if(decide ((0:Int)<=x2))=true then
 if(decide (x2<((length x3:Nat):Int)))=true then
 if(decide ((0:Int)<=x2))=true then
 if(decide (x2<((length (List.modify x3 (Int.toNat x2) (fun z=>(x1,z.2))):Nat):Int)))=true then
 if(bP.pre (List.getD (List.modify x3 (Int.toNat x2) (fun z=>(x1,z.2))) (Int.toNat x2) vB).2.1 (wrap .i64 (x1+(1:Int))))=true then
 if(decide ((0:Int)<=x2))=true then
 if(decide (x2<((length (List.modify (List.modify x3 (Int.toNat x2) (fun z=>(x1,z.2))) (Int.toNat x2) (fun z=>(z.1,((bP (List.getD (List.modify x3 (Int.toNat x2) (fun z_1=>(x1,z_1.2))) (Int.toNat x2) vB).2.1 (wrap .i64 (x1+(1:Int)))).1,z.2.2)))):Nat):Int)))=true then
 letB (bP (List.getD (List.modify x3 (Int.toNat x2) (fun z=>(x1,z.2))) (Int.toNat x2) vB).2.1 (wrap .i64 (x1+(1:Int)))) fun v1=>
 if(bP.pre (List.getD (List.modify (List.modify x3 (Int.toNat x2) (fun z=>(x1,z.2))) (Int.toNat x2) (fun z=>(z.1,((bP (List.getD (List.modify x3 (Int.toNat x2) (fun z_1=>(x1,z_1.2))) (Int.toNat x2) vB).2.1 (wrap .i64 (x1+(1:Int)))).1,z.2.2)))) (Int.toNat x2) vB).2.2.1 v1.2)=true then
 if(decide ((0:Int)<=x2))=true then
 if(decide (x2<((length (List.modify (List.modify (List.modify x3 (Int.toNat x2) (fun z=>(x1,z.2))) (Int.toNat x2) (fun z=>(z.1,(v1.1,z.2.2)))) (Int.toNat x2) (fun z=>(z.1,(z.2.1,((bP (List.getD (List.modify (List.modify x3 (Int.toNat x2) (fun z_1=>(x1,z_1.2))) (Int.toNat x2) (fun z_1=>(z_1.1,(v1.1,z_1.2.2)))) (Int.toNat x2) vB).2.2.1 v1.2).1,z.2.2.2))))):Nat):Int)))=true then
 letB (bP (List.getD (List.modify (List.modify x3 (Int.toNat x2) (fun z=>(x1,z.2))) (Int.toNat x2) (fun z=>(z.1,(v1.1,z.2.2)))) (Int.toNat x2) vB).2.2.1 v1.2) fun v2=>
 if(bP.pre (List.getD (List.modify (List.modify (List.modify x3 (Int.toNat x2) (fun z=>(x1,z.2))) (Int.toNat x2) (fun z=>(z.1,(v1.1,z.2.2)))) (Int.toNat x2) (fun z=>(z.1,(z.2.1,((bP (List.getD (List.modify (List.modify x3 (Int.toNat x2) (fun z_1=>(x1,z_1.2))) (Int.toNat x2) (fun z_1=>(z_1.1,(v1.1,z_1.2.2)))) (Int.toNat x2) vB).2.2.1 v1.2).1,z.2.2.2))))) (Int.toNat x2) vB).2.2.2.1 v2.2)=true then
 letB (bP (List.getD (List.modify (List.modify (List.modify x3 (Int.toNat x2) (fun z=>(x1,z.2))) (Int.toNat x2) (fun z=>(z.1,(v1.1,z.2.2)))) (Int.toNat x2) (fun z=>(z.1,(z.2.1,(v2.1,z.2.2.2))))) (Int.toNat x2) vB).2.2.2.1 v2.2) fun v3=>
 some (.inl (v3.2,((wrap .i64 (x2+(1:Int))),((List.modify (List.modify (List.modify (List.modify x3 (Int.toNat x2) (fun z=>(x1,z.2))) (Int.toNat x2) (fun z=>(z.1,(v1.1,z.2.2)))) (Int.toNat x2) (fun z=>(z.1,(z.2.1,(v2.1,z.2.2.2))))) (Int.toNat x2) (fun z=>(z.1,(z.2.1,(z.2.2.1,(v3.1,z.2.2.2.2)))))),()))))
 else
 none
 else
 none
 else
 none
 else
 none
 else
 none
 else
 none
 else
 none
 else
 none
 else
 none
 else
 none
 else
 none
 else
 some (.inr (x1,(x3,())))
abbrev wf(x0:(List aJ))(x1:Int):Prop:=fW [(.mut (.sl 0 aAh)),(.val (.int .i64) .f)] (x0,(x1,()))
noncomputable def aR(x0:(List aJ))(x1:Int):Option (((List aJ)×Unit)×(Int×Unit)):=
 if(dR.pre2 (x1,((0:Int),(x0,()))))=true then
 letB (dR.fn2 (x1,((0:Int),(x0,())))) fun v1=>
 some (v1.2,(v1.1,()))
 else
 none
theorem qO(x1 x2:Int)(x3:List aJ)(hp:pre2 (x1,(x2,(x3,())))=true):Rounds pre2 kY fn2 (x1,(x2,(x3,()))) (cW x1 x2 x3):=by
 unfold cW
 by_cases hlt:x2<(x3.length:Int)
 . obtain⟨h0,hk,hc,hn⟩:=sM lR hp hlt vB
   generalize he:x3.getD x2.toNat vB=e at hc
   simp only[bY] at hc
   have n1:=gQ gP e.2.1
   have n2:=gQ gP e.2.2.1
   have n3:=gQ gP e.2.2.2.1
   have w0:wrap .i64 (x1+1)=x1+1:=iV (by omega) (by omega)
   have q1:bP.pre e.2.1 (x1+1)=true:=vR (by omega) (by omega)
   have q2:bP.pre e.2.2.1 (x1+1+bJ bO e.2.1)=true:=vR (by omega) (by omega)
   have q3:bP.pre e.2.2.2.1 (x1+1+bJ bO e.2.1+bJ bO e.2.2.1)=true:=vR (by omega) (by omega)
   simp only[letB,List.length_modify,List.modify_modify_eq,pG hn,Function.comp,hlt,h0,he,decide_true,if_true,w0,q1,q2,q3,aCU]
   exact xN lR hp hlt vB (by rw[he];simp only[bY];omega) (by rw[he];rfl)
 . rw[if_neg (by simp[hlt])];exact aAw hp hlt
theorem eq(x0:List aJ)(x1:Int)(_:wf x0 x1)(hp:pre x0 x1=true):aR x0 x1=some (((dR x0 x1).1,()),((dR x0 x1).2,())):=by
 unfold aR
 rw[if_pos (show pre2 _=true from uI lR hp)]
 rfl
end dR
theorem aFa(xs:List aJ)(k:Int):dR xs k=(pF nI bY xs k,k+bJ bY xs):=rfl
theorem aDX{xs:List aJ}{k:Int}(h0:0<=k)(h1:k+bJ bY xs<=134217728):dR.pre xs k=true:=mL.2 ⟨h0,h1⟩
noncomputable def dG(xs:List aJ)(k:Int):Int:=uZ (pF nI bY) (bJ bY) xs k
namespace dG
def pre(xs:List aJ)(k:Int):Bool:=zW bY xs k
def pre2:=rG bY
noncomputable def fn2:=aBG nI bY
def kY:=aEv (α:=aJ)
noncomputable def cW(x1:(List aJ))(x2:Int)(x3:Int):Option (((List aJ)×eN)⊕((Int×Unit)⊕(Int×Unit))):=
 if(decide (x3<((length x1:Nat):Int)))=true then
 if(decide ((0:Int)<=x3))=true then
 if(decide (x3<((length x1:Nat):Int)))=true then
 if(!(decide ((List.getD x1 (Int.toNat x3) vB).1=x2)))=true then
 some (.inr (.inl ((-1:Int),())))
 else
 if(decide ((0:Int)<=x3))=true then
 if(decide (x3<((length x1:Nat):Int)))=true then
 if(bK.pre (List.getD x1 (Int.toNat x3) vB).2.1 (wrap .i64 (x2+(1:Int))))=true then
 letB (bK (List.getD x1 (Int.toNat x3) vB).2.1 (wrap .i64 (x2+(1:Int)))) fun v1=>
 if(decide (v1<(0:Int)))=true then
 some (.inr (.inl ((-1:Int),())))
 else
 if(decide ((0:Int)<=x3))=true then
 if(decide (x3<((length x1:Nat):Int)))=true then
 if(bK.pre (List.getD x1 (Int.toNat x3) vB).2.2.1 v1)=true then
 letB (bK (List.getD x1 (Int.toNat x3) vB).2.2.1 v1) fun v2=>
 if(decide (v2<(0:Int)))=true then
 some (.inr (.inl ((-1:Int),())))
 else
 if(decide ((0:Int)<=x3))=true then
 if(decide (x3<((length x1:Nat):Int)))=true then
 if(bK.pre (List.getD x1 (Int.toNat x3) vB).2.2.2.1 v2)=true then
 letB (bK (List.getD x1 (Int.toNat x3) vB).2.2.2.1 v2) fun v3=>
 if(decide (v3<(0:Int)))=true then
 some (.inr (.inl ((-1:Int),())))
 else
 some (.inl (x1,(v3,((wrap .i64 (x3+(1:Int))),()))))
 else
 none
 else
 none
 else
 none
 else
 none
 else
 none
 else
 none
 else
 none
 else
 none
 else
 none
 else
 none
 else
 none
 else
 some (.inr (.inr (x2,())))
abbrev wf(x0:(List aJ))(x1:Int):Prop:=fW [(.val (.sl 0 aAh) .f),(.val (.int .i64) .f)] (x0,(x1,()))
noncomputable def aR(x0:(List aJ))(x1:Int):Option xT:=
 if(dG.pre2 (x0,(x1,((0:Int),()))))=true then
  letB (dG.fn2 (x0,(x1,((0:Int),())))) fun v1=>
  match v1 with
  |.inl y=>
   some ((),y)
  |.inr y=>
   some ((),y)
 else
  none
theorem qO(x1:List aJ)(x2 x3:Int)(hp:pre2 (x1,(x2,(x3,())))=true):Rounds pre2 kY fn2 (x1,(x2,(x3,()))) (cW x1 x2 x3):=by
 unfold cW
 by_cases hlt:x3<(x1.length:Int)
 . obtain⟨h0,hk,hc⟩:=wU lR hp hlt vB
   have xX:=aBq (m:=nI) (g:=bY) hp hlt vB
   have good:=fun K hK=>zM lR (K:=K) hp hlt vB hK
   generalize x1.getD x3.toNat vB=e at *
   simp only[bY] at hc
   have n1:=gQ gP e.2.1
   have n2:=gQ gP e.2.2.1
   have n3:=gQ gP e.2.2.2.1
   have w0:wrap .i64 (x2+1)=x2+1:=iV (by omega) (by omega)
   have q1:bK.pre e.2.1 (x2+1)=true:=vE (by omega) (by omega)
   have q2:bK.pre e.2.2.1 (x2+1+bJ bO e.2.1)=true:=vE (by omega) (by omega)
   have q3:bK.pre e.2.2.2.1 (x2+1+bJ bO e.2.1+bJ bO e.2.2.1)=true:=vE (by omega) (by omega)
   simp only[letB,hlt,h0,decide_true,if_true,w0,q1,q2,q3]
   by_cases c0:e.1=x2
   case neg=>rw[if_pos (by simp[c0])];exact xX fun h=>c0 (congrArg (fun z:aJ=>z.1) h)
   rw[if_neg (by simp[c0])]
   by_cases c1:e.2.1=pF qJ bO e.2.1 (x2+1)
   case neg=>rw[show bK e.2.1 (x2+1)=-1 from vS c1,if_pos (by decide)];exact xX fun h=>c1 ((congrArg (fun z:aJ=>z.2.1) h).trans (by simp only[nI]))
   rw[show bK e.2.1 (x2+1)=x2+1+bJ bO e.2.1 from vM c1,if_neg (by rw[Za];omega)]
   try simp only[if_true,w0,q1,q2,q3]
   by_cases c2:e.2.2.1=pF qJ bO e.2.2.1 (x2+1+bJ bO e.2.1)
   case neg=>rw[show bK e.2.2.1 (x2+1+bJ bO e.2.1)=-1 from vS c2,if_pos (by decide)];exact xX fun h=>c2 ((congrArg (fun z:aJ=>z.2.2.1) h).trans (by simp only[nI]))
   rw[show bK e.2.2.1 (x2+1+bJ bO e.2.1)=x2+1+bJ bO e.2.1+bJ bO e.2.2.1 from vM c2,if_neg (by rw[Za];omega)]
   try simp only[if_true,w0,q1,q2,q3]
   by_cases c3:e.2.2.2.1=pF qJ bO e.2.2.2.1 (x2+1+bJ bO e.2.1+bJ bO e.2.2.1)
   case neg=>rw[show bK e.2.2.2.1 (x2+1+bJ bO e.2.1+bJ bO e.2.2.1)=-1 from vS c3,if_pos (by decide)];exact xX fun h=>c3 ((congrArg (fun z:aJ=>z.2.2.2.1) h).trans (by simp only[nI]))
   rw[show bK e.2.2.2.1 (x2+1+bJ bO e.2.1+bJ bO e.2.2.1)=x2+1+bJ bO e.2.1+bJ bO e.2.2.1+bJ bO e.2.2.2.1 from vM c3,if_neg (by rw[Za];omega)]
   exact good _ (by simp only[bY];omega) (Prod.ext c0 (Prod.ext c1 (Prod.ext c2 (Prod.ext c3 rfl))))
 . rw[if_neg (by simp[hlt])];exact aBz hp hlt
theorem eq(x0:List aJ)(x1:Int)(_:wf x0 x1)(hp:pre x0 x1=true):aR x0 x1=some ((),(dG x0 x1,())):=by
 unfold aR
 rw[if_pos (show pre2 _=true from wV lR hp)]
 exact rV x0 x1
end dG
theorem aEk{xs:List aJ}{k:Int}(h:xs=pF nI bY xs k):dG xs k=k+bJ bY xs:=mX h
theorem aEL{xs:List aJ}{k:Int}(h:¬xs=pF nI bY xs k):dG xs k=-1:=kD h
theorem aEw{xs:List aJ}{k:Int}(h0:0<=k)(h1:k+bJ bY xs<=134217728):dG.pre xs k=true:=mL.2 ⟨h0,h1⟩
def oH(x:bI)(k:Int):bI:=(pF sT cK x.1 (k),(pF oL bN x.2.1 (k+bJ cK x.1),(pF nI bY x.2.2.1 (k+bJ cK x.1+bJ bN x.2.1),(x.2.2.2.1,(pF qJ bO x.2.2.2.2.1 (k+bJ cK x.1+bJ bN x.2.1+bJ bY x.2.2.1),(pF oV dL x.2.2.2.2.2.1 (k+bJ cK x.1+bJ bN x.2.1+bJ bY x.2.2.1+bJ bO x.2.2.2.2.1),()))))))
def fU(x:bI):Int:=bJ cK x.1+bJ bN x.2.1+bJ bY x.2.2.1+bJ bO x.2.2.2.2.1+bJ dL x.2.2.2.2.2.1
theorem aA4(x:bI):0<=fU x:=by
 have n0:=gQ oG x.1
 have n1:=gQ lL x.2.1
 have n2:=gQ lR x.2.2.1
 have n4:=gQ gP x.2.2.2.2.1
 have n5:=gQ kH x.2.2.2.2.2.1
 simp only[fU];omega
theorem aBf(x:bI)(k:Int):fU (oH x k)=fU x:=by simp only[fU,oH,lC kH,lC lR,lC gP,lC lL,lC oG]
theorem aFr(x:bI)(k:Int):oH (oH x k) k=oH x k:=by simp only[oH,lC kH,lC lR,lC gP,lC lL,lC oG,uC kH,uC lR,uC gP,uC lL,uC oG]
noncomputable def lW(a b:bI):Bool:=same a b
namespace lW
abbrev wf(x0:bI)(x1:bI):Prop:=fW [(.val zk1 .f),(.val zk1 .f)] (x0,(x1,()))
noncomputable def aR(x0:bI)(x1:bI):Option kZ:=
 letB (kB x0.1 x1.1) fun v1=>
 if(!v1)=true then
 some ((),(false,()))
 else
 letB (hP x0.2.1 x1.2.1) fun v2=>
 if(!v2)=true then
 some ((),(false,()))
 else
 letB (hZ x0.2.2.1 x1.2.2.1) fun v3=>
 if(!v3)=true then
 some ((),(false,()))
 else
 if(!(decide (x0.2.2.2.1=x1.2.2.2.1)))=true then
 some ((),(false,()))
 else
 letB (dY x0.2.2.2.2.1 x1.2.2.2.2.1) fun v4=>
 if(!v4)=true then
 some ((),(false,()))
 else
 letB (gG x0.2.2.2.2.2.1 x1.2.2.2.2.2.1) fun v5=>
 if(!v5)=true then
 some ((),(false,()))
 else
 some ((),(true,()))
theorem eq(x0 x1:bI)(_:wf x0 x1):aR x0 x1=some ((),(lW x0 x1,())):=by
 unfold aR lW
 try simp only[letB]
 by_cases c0:x0.1=x1.1
 case neg=>rw[if_pos (by rw[kB,aQ.2 c0];rfl),aQ.2 (fun h=>c0 (congrArg (fun z:bI=>z.1) h))]
 rw[if_neg (by rw[kB,bV.2 c0];simp)]
 by_cases c1:x0.2.1=x1.2.1
 case neg=>rw[if_pos (by rw[hP,aQ.2 c1];rfl),aQ.2 (fun h=>c1 (congrArg (fun z:bI=>z.2.1) h))]
 rw[if_neg (by rw[hP,bV.2 c1];simp)]
 by_cases c2:x0.2.2.1=x1.2.2.1
 case neg=>rw[if_pos (by rw[hZ,aQ.2 c2];rfl),aQ.2 (fun h=>c2 (congrArg (fun z:bI=>z.2.2.1) h))]
 rw[if_neg (by rw[hZ,bV.2 c2];simp)]
 by_cases c3:x0.2.2.2.1=x1.2.2.2.1
 case neg=>rw[if_pos (by simp[c3]),aQ.2 (fun h=>c3 (congrArg (fun z:bI=>z.2.2.2.1) h))]
 rw[if_neg (by simp[c3])]
 by_cases c4:x0.2.2.2.2.1=x1.2.2.2.2.1
 case neg=>rw[if_pos (by rw[dY,aQ.2 c4];rfl),aQ.2 (fun h=>c4 (congrArg (fun z:bI=>z.2.2.2.2.1) h))]
 rw[if_neg (by rw[dY,bV.2 c4];simp)]
 by_cases c5:x0.2.2.2.2.2.1=x1.2.2.2.2.2.1
 case neg=>rw[if_pos (by rw[gG,aQ.2 c5];rfl),aQ.2 (fun h=>c5 (congrArg (fun z:bI=>z.2.2.2.2.2.1) h))]
 rw[if_neg (by rw[gG,bV.2 c5];simp)]
 rw[bV.2 (Prod.ext c0 (Prod.ext c1 (Prod.ext c2 (Prod.ext c3 (Prod.ext c4 (Prod.ext c5 rfl))))))]
end lW
def fC(x:bI)(k:Int):bI×Int:=(oH x k,k+fU x)
namespace fC
def pre(x:bI)(k:Int):Bool:=decide (0<=k)&&decide (k+fU x<=134217728)
abbrev wf(x0:bI)(x1:Int):Prop:=fW [(.mut zk1),(.val (.int .i64) .f)] (x0,(x1,()))
noncomputable def aR(x0:bI)(x1:Int):Option ((bI×Unit)×(Int×Unit)):=
 if(eZ.pre x0.1 x1)=true then
 letB (eZ x0.1 x1) fun v1=>
 if(dQ.pre x0.2.1 v1.2)=true then
 letB (dQ x0.2.1 v1.2) fun v2=>
 if(dR.pre x0.2.2.1 v2.2)=true then
 letB (dR x0.2.2.1 v2.2) fun v3=>
 if(bP.pre x0.2.2.2.2.1 v3.2)=true then
 letB (bP x0.2.2.2.2.1 v3.2) fun v4=>
 if(dE.pre x0.2.2.2.2.2.1 v4.2)=true then
 letB (dE x0.2.2.2.2.2.1 v4.2) fun v5=>
 some (((v1.1,(v2.1,(v3.1,(x0.2.2.2.1,(v4.1,(v5.1,x0.2.2.2.2.2.2)))))),()),(v5.2,()))
 else
 none
 else
 none
 else
 none
 else
 none
 else
 none
theorem eq(x0:bI)(x1:Int)(_:wf x0 x1)(hp:pre x0 x1=true):aR x0 x1=some (((fC x0 x1).1,()),((fC x0 x1).2,())):=by
 simp only[pre,Zb,Za] at hp
 simp only[fU] at hp
 have n0:=gQ oG x0.1
 have n1:=gQ lL x0.2.1
 have n2:=gQ lR x0.2.2.1
 have n4:=gQ gP x0.2.2.2.2.1
 have n5:=gQ kH x0.2.2.2.2.2.1
 have q0:eZ.pre x0.1 (x1)=true:=aGw (by omega) (by omega)
 have q1:dQ.pre x0.2.1 (x1+bJ cK x0.1)=true:=aE1 (by omega) (by omega)
 have q2:dR.pre x0.2.2.1 (x1+bJ cK x0.1+bJ bN x0.2.1)=true:=aDX (by omega) (by omega)
 have q4:bP.pre x0.2.2.2.2.1 (x1+bJ cK x0.1+bJ bN x0.2.1+bJ bY x0.2.2.1)=true:=vR (by omega) (by omega)
 have q5:dE.pre x0.2.2.2.2.2.1 (x1+bJ cK x0.1+bJ bN x0.2.1+bJ bY x0.2.2.1+bJ bO x0.2.2.2.2.1)=true:=aDs (by omega) (by omega)
 unfold aR
 simp only[letB,if_true,q0,q1,q2,q4,q5,aEf,aFa,aCU,aFg,aHF]
 refine congrArg some (Prod.ext rfl (Prod.ext ?_ rfl))
 show _=_
 simp only[fC,fU];omega
end fC
theorem aIh(x:bI)(k:Int):fC x k=(oH x k,k+fU x):=rfl
theorem aHc{x:bI}{k:Int}(h0:0<=k)(h1:k+fU x<=134217728):fC.pre x k=true:=by simp[fC.pre,h0,h1]
noncomputable def eL(x:bI)(k:Int):Int:=uZ oH fU x k
namespace eL
def pre(x:bI)(k:Int):Bool:=decide (0<=k)&&decide (k+fU x<=134217728)
abbrev wf(x0:bI)(x1:Int):Prop:=fW [(.val zk1 .f),(.val (.int .i64) .f)] (x0,(x1,()))
noncomputable def aR(x0:bI)(x1:Int):Option xT:=
 if(eK.pre x0.1 x1)=true then
 letB (eK x0.1 x1) fun v1=>
 if(decide (v1<(0:Int)))=true then
 some ((),((-1:Int),()))
 else
 if(dH.pre x0.2.1 v1)=true then
 letB (dH x0.2.1 v1) fun v2=>
 if(decide (v2<(0:Int)))=true then
 some ((),((-1:Int),()))
 else
 if(dG.pre x0.2.2.1 v2)=true then
 letB (dG x0.2.2.1 v2) fun v3=>
 if(decide (v3<(0:Int)))=true then
 some ((),((-1:Int),()))
 else
 if(bK.pre x0.2.2.2.2.1 v3)=true then
 letB (bK x0.2.2.2.2.1 v3) fun v4=>
 if(decide (v4<(0:Int)))=true then
 some ((),((-1:Int),()))
 else
 if(cY.pre x0.2.2.2.2.2.1 v4)=true then
 letB (cY x0.2.2.2.2.2.1 v4) fun v5=>
 if(decide (v5<(0:Int)))=true then
 some ((),((-1:Int),()))
 else
 some ((),(v5,()))
 else
 none
 else
 none
 else
 none
 else
 none
 else
 none
theorem eq(x0:bI)(x1:Int)(_:wf x0 x1)(hp:pre x0 x1=true):aR x0 x1=some ((),(eL x0 x1,())):=by
 simp only[pre,Zb,Za] at hp
 simp only[fU] at hp
 have n0:=gQ oG x0.1
 have n1:=gQ lL x0.2.1
 have n2:=gQ lR x0.2.2.1
 have n4:=gQ gP x0.2.2.2.2.1
 have n5:=gQ kH x0.2.2.2.2.2.1
 have q0:eK.pre x0.1 (x1)=true:=aGE (by omega) (by omega)
 have q1:dH.pre x0.2.1 (x1+bJ cK x0.1)=true:=aDK (by omega) (by omega)
 have q2:dG.pre x0.2.2.1 (x1+bJ cK x0.1+bJ bN x0.2.1)=true:=aEw (by omega) (by omega)
 have q4:bK.pre x0.2.2.2.2.1 (x1+bJ cK x0.1+bJ bN x0.2.1+bJ bY x0.2.2.1)=true:=vE (by omega) (by omega)
 have q5:cY.pre x0.2.2.2.2.2.1 (x1+bJ cK x0.1+bJ bN x0.2.1+bJ bY x0.2.2.1+bJ bO x0.2.2.2.2.1)=true:=aDm (by omega) (by omega)
 unfold aR eL
 simp only[letB,if_true,q0,q1,q2,q4,q5]
 by_cases c0:x0.1=pF sT cK x0.1 (x1)
 case neg=>rw[show eK x0.1 (x1)=-1 from aH6 c0,if_pos (by decide),kD (fun h=>c0 (congrArg (fun z:bI=>z.1) h))]
 rw[show eK x0.1 (x1)=x1+bJ cK x0.1 from aH1 c0,if_neg (by rw[Za];omega)]
 try simp only[if_true,q0,q1,q2,q4,q5]
 by_cases c1:x0.2.1=pF oL bN x0.2.1 (x1+bJ cK x0.1)
 case neg=>rw[show dH x0.2.1 (x1+bJ cK x0.1)=-1 from aDU c1,if_pos (by decide),kD (fun h=>c1 (congrArg (fun z:bI=>z.2.1) h))]
 rw[show dH x0.2.1 (x1+bJ cK x0.1)=x1+bJ cK x0.1+bJ bN x0.2.1 from aDL c1,if_neg (by rw[Za];omega)]
 try simp only[if_true,q0,q1,q2,q4,q5]
 by_cases c2:x0.2.2.1=pF nI bY x0.2.2.1 (x1+bJ cK x0.1+bJ bN x0.2.1)
 case neg=>rw[show dG x0.2.2.1 (x1+bJ cK x0.1+bJ bN x0.2.1)=-1 from aEL c2,if_pos (by decide),kD (fun h=>c2 (congrArg (fun z:bI=>z.2.2.1) h))]
 rw[show dG x0.2.2.1 (x1+bJ cK x0.1+bJ bN x0.2.1)=x1+bJ cK x0.1+bJ bN x0.2.1+bJ bY x0.2.2.1 from aEk c2,if_neg (by rw[Za];omega)]
 try simp only[if_true,q0,q1,q2,q4,q5]
 by_cases c4:x0.2.2.2.2.1=pF qJ bO x0.2.2.2.2.1 (x1+bJ cK x0.1+bJ bN x0.2.1+bJ bY x0.2.2.1)
 case neg=>rw[show bK x0.2.2.2.2.1 (x1+bJ cK x0.1+bJ bN x0.2.1+bJ bY x0.2.2.1)=-1 from vS c4,if_pos (by decide),kD (fun h=>c4 (congrArg (fun z:bI=>z.2.2.2.2.1) h))]
 rw[show bK x0.2.2.2.2.1 (x1+bJ cK x0.1+bJ bN x0.2.1+bJ bY x0.2.2.1)=x1+bJ cK x0.1+bJ bN x0.2.1+bJ bY x0.2.2.1+bJ bO x0.2.2.2.2.1 from vM c4,if_neg (by rw[Za];omega)]
 try simp only[if_true,q0,q1,q2,q4,q5]
 by_cases c5:x0.2.2.2.2.2.1=pF oV dL x0.2.2.2.2.2.1 (x1+bJ cK x0.1+bJ bN x0.2.1+bJ bY x0.2.2.1+bJ bO x0.2.2.2.2.1)
 case neg=>rw[show cY x0.2.2.2.2.2.1 (x1+bJ cK x0.1+bJ bN x0.2.1+bJ bY x0.2.2.1+bJ bO x0.2.2.2.2.1)=-1 from aDj c5,if_pos (by decide),kD (fun h=>c5 (congrArg (fun z:bI=>z.2.2.2.2.2.1) h))]
 rw[show cY x0.2.2.2.2.2.1 (x1+bJ cK x0.1+bJ bN x0.2.1+bJ bY x0.2.2.1+bJ bO x0.2.2.2.2.1)=x1+bJ cK x0.1+bJ bN x0.2.1+bJ bY x0.2.2.1+bJ bO x0.2.2.2.2.1+bJ dL x0.2.2.2.2.2.1 from aDh c5,if_neg (by rw[Za];omega)]
 rw[mX (m:=oH) (g:=fU) (Prod.ext c0 (Prod.ext c1 (Prod.ext c2 (Prod.ext rfl (Prod.ext c4 (Prod.ext c5 rfl)))))),show x1+bJ cK x0.1+bJ bN x0.2.1+bJ bY x0.2.2.1+bJ bO x0.2.2.2.2.1+bJ dL x0.2.2.2.2.2.1=x1+fU x0 by simp only[fU];omega]
end eL
theorem aH7{x:bI}{k:Int}(h:x=oH x k):eL x k=k+fU x:=mX h
theorem aGf{x:bI}{k:Int}(h:¬x=oH x k):eL x k=-1:=kD h
theorem aGv{x:bI}{k:Int}(h0:0<=k)(h1:k+fU x<=134217728):eL.pre x k=true:=by simp[eL.pre,h0,h1]
def lB(x:jV)(k:Int):jV:=(x.1,(x.2.1,(rT x.2.2.1 (k),(oH x.2.2.2.1 (k+iU x.2.2.1),()))))
def fV(x:jV):Int:=iU x.2.2.1+fU x.2.2.2.1
theorem aH4(x:jV):0<=fV x:=by
 have n2:=aAm x.2.2.1
 have n3:=aA4 x.2.2.2.1
 simp only[fV];omega
theorem aBk(x:jV)(k:Int):fV (lB x k)=fV x:=by simp only[fV,lB,aBf,aC8]
theorem aF6(x:jV)(k:Int):lB (lB x k) k=lB x k:=by simp only[lB,aBf,aC8,aFr,aGp]
noncomputable def lN(a b:jV):Bool:=same a b
namespace lN
abbrev wf(x0:rL)(x1:rL):Prop:=fW [(.val aEM .f),(.val aEM .f)] (x0,(x1,()))
noncomputable def aR(x0:rL)(x1:rL):Option kZ:=
 if(!(decide (x0.1=x1.1)))=true then
 some ((),(false,()))
 else
 if(!(decide (x0.2.1=x1.2.1)))=true then
 some ((),(false,()))
 else
 letB (nD x0.2.2.1 x1.2.2.1) fun v1=>
 if(!v1)=true then
 some ((),(false,()))
 else
 letB (lW x0.2.2.2.1 x1.2.2.2.1) fun v2=>
 if(!v2)=true then
 some ((),(false,()))
 else
 some ((),(true,()))
theorem eq(x0 x1:jV)(_:wf x0 x1):aR x0 x1=some ((),(lN x0 x1,())):=by
 unfold aR lN
 try simp only[letB]
 by_cases c0:x0.1=x1.1
 case neg=>rw[if_pos (by simp[c0]),aQ.2 (fun h=>c0 (congrArg (fun z:jV=>z.1) h))]
 rw[if_neg (by simp[c0])]
 by_cases c1:x0.2.1=x1.2.1
 case neg=>rw[if_pos (by simp[c1]),aQ.2 (fun h=>c1 (congrArg (fun z:jV=>z.2.1) h))]
 rw[if_neg (by simp[c1])]
 by_cases c2:x0.2.2.1=x1.2.2.1
 case neg=>rw[if_pos (by rw[nD,aQ.2 c2];rfl),aQ.2 (fun h=>c2 (congrArg (fun z:jV=>z.2.2.1) h))]
 rw[if_neg (by rw[nD,bV.2 c2];simp)]
 by_cases c3:x0.2.2.2.1=x1.2.2.2.1
 case neg=>rw[if_pos (by rw[lW,aQ.2 c3];rfl),aQ.2 (fun h=>c3 (congrArg (fun z:jV=>z.2.2.2.1) h))]
 rw[if_neg (by rw[lW,bV.2 c3];simp)]
 rw[bV.2 (Prod.ext c0 (Prod.ext c1 (Prod.ext c2 (Prod.ext c3 rfl))))]
end lN
def fA(x:jV)(k:Int):jV×Int:=(lB x k,k+fV x)
namespace fA
def pre(x:jV)(k:Int):Bool:=decide (0<=k)&&decide (k+fV x<=134217728)
abbrev wf(x0:rL)(x1:Int):Prop:=fW [(.mut aEM),(.val (.int .i64) .f)] (x0,(x1,()))
noncomputable def aR(x0:rL)(x1:Int):Option ((rL×Unit)×(Int×Unit)):=
 if(gW.pre x0.2.2.1 x1)=true then
 letB (gW x0.2.2.1 x1) fun v1=>
 if(fC.pre x0.2.2.2.1 v1.2)=true then
 letB (fC x0.2.2.2.1 v1.2) fun v2=>
 some (((x0.1,(x0.2.1,((x0.2.2.1.1,(x0.2.2.1.2.1,(v1.1.2.2.1,x0.2.2.1.2.2.2))),((v2.1.1,(v2.1.2.1,(v2.1.2.2.1,(x0.2.2.2.1.2.2.2.1,(v2.1.2.2.2.2.1,(v2.1.2.2.2.2.2.1,x0.2.2.2.1.2.2.2.2.2.2)))))),x0.2.2.2.2)))),()),(v2.2,()))
 else
 none
 else
 none
theorem eq(x0:jV)(x1:Int)(_:wf x0 x1)(hp:pre x0 x1=true):aR x0 x1=some (((fA x0 x1).1,()),((fA x0 x1).2,())):=by
 simp only[pre,Zb,Za] at hp
 simp only[fV] at hp
 have n2:=aAm x0.2.2.1
 have n3:=aA4 x0.2.2.2.1
 have q2:gW.pre x0.2.2.1 (x1)=true:=aGJ (by omega) (by omega)
 have q3:fC.pre x0.2.2.2.1 (x1+iU x0.2.2.1)=true:=aHc (by omega) (by omega)
 unfold aR
 simp only[letB,if_true,q2,q3,aIh,aIX]
 refine congrArg some (Prod.ext rfl (Prod.ext ?_ rfl))
 show _=_
 simp only[fA,fV];omega
end fA
theorem aIu(x:jV)(k:Int):fA x k=(lB x k,k+fV x):=rfl
theorem aGy{x:jV}{k:Int}(h0:0<=k)(h1:k+fV x<=134217728):fA.pre x k=true:=by simp[fA.pre,h0,h1]
noncomputable def fJ(x:jV)(k:Int):Int:=uZ lB fV x k
namespace fJ
def pre(x:jV)(k:Int):Bool:=decide (0<=k)&&decide (k+fV x<=134217728)
abbrev wf(x0:rL)(x1:Int):Prop:=fW [(.val aEM .f),(.val (.int .i64) .f)] (x0,(x1,()))
noncomputable def aR(x0:rL)(x1:Int):Option xT:=
 if(eY.pre x0.2.2.1 x1)=true then
 letB (eY x0.2.2.1 x1) fun v1=>
 if(decide (v1<(0:Int)))=true then
 some ((),((-1:Int),()))
 else
 if(eL.pre x0.2.2.2.1 v1)=true then
 letB (eL x0.2.2.2.1 v1) fun v2=>
 if(decide (v2<(0:Int)))=true then
 some ((),((-1:Int),()))
 else
 some ((),(v2,()))
 else
 none
 else
 none
theorem eq(x0:jV)(x1:Int)(_:wf x0 x1)(hp:pre x0 x1=true):aR x0 x1=some ((),(fJ x0 x1,())):=by
 simp only[pre,Zb,Za] at hp
 simp only[fV] at hp
 have n2:=aAm x0.2.2.1
 have n3:=aA4 x0.2.2.2.1
 have q2:eY.pre x0.2.2.1 (x1)=true:=aG9 (by omega) (by omega)
 have q3:eL.pre x0.2.2.2.1 (x1+iU x0.2.2.1)=true:=aGv (by omega) (by omega)
 unfold aR fJ
 simp only[letB,if_true,q2,q3]
 by_cases c2:x0.2.2.1=rT x0.2.2.1 (x1)
 case neg=>rw[show eY x0.2.2.1 (x1)=-1 from aIi c2,if_pos (by decide),kD (fun h=>c2 (congrArg (fun z:jV=>z.2.2.1) h))]
 rw[show eY x0.2.2.1 (x1)=x1+iU x0.2.2.1 from aI7 c2 (by omega),if_neg (by rw[Za];omega)]
 try simp only[if_true,q2,q3]
 by_cases c3:x0.2.2.2.1=oH x0.2.2.2.1 (x1+iU x0.2.2.1)
 case neg=>rw[show eL x0.2.2.2.1 (x1+iU x0.2.2.1)=-1 from aGf c3,if_pos (by decide),kD (fun h=>c3 (congrArg (fun z:jV=>z.2.2.2.1) h))]
 rw[show eL x0.2.2.2.1 (x1+iU x0.2.2.1)=x1+iU x0.2.2.1+fU x0.2.2.2.1 from aH7 c3,if_neg (by rw[Za];omega)]
 rw[mX (m:=lB) (g:=fV) (Prod.ext rfl (Prod.ext rfl (Prod.ext c2 (Prod.ext c3 rfl)))),show x1+iU x0.2.2.1+fU x0.2.2.2.1=x1+fV x0 by simp only[fV];omega]
end fJ
theorem aGK{x:jV}{k:Int}(h0:0<=k)(h1:k+fV x<=134217728):fJ.pre x k=true:=by simp[fJ.pre,h0,h1]
theorem aFb(x:jV)(k:Int):fJ (lB x k) k=k+fV x:=aMM aBk aF6 x k
theorem aBK{b:List Int}{i:Int}(hb:bQ b=true)(h:(bG b i).2.2=true):
 0<=i/\i+5<=(bG b i).2.1/\(bG b i).2.1<=(b.length:Int):=by
 unfold bG ofV at *
 by_cases hn:(dM b i).2.2=true
 case neg=>rw[if_neg hn] at h;cases h
 rw[if_pos hn] at *
 obtain⟨g0,g1,g2,g3,g4,_⟩:=nG hb hn
 by_cases hl:(b.length:Int)-(dM b i).2.1-4<(dM b i).1
 . rw[if_pos hl] at h;cases h
 rw[if_neg hl] at *
 revert h
 simp only
 split
 . split
   . intro _;simp only;omega
   . intro h;cases h
 . intro h;cases h
theorem aHA(b:List Int)(i:Int):(bG b i).1.2.2.2.2.1.length<=40:=by
 unfold bG ofV
 split
 . split
   . simp[sZ]
   . simp only
     split
     . split
       . rename_i h
         simp only[aH8,Zb] at h
         exact(wR h.2.2).1
       . simp[sZ]
     . simp[sZ]
 . simp[sZ]
def notesW(g:Int->eE×(Int×Bool))(len:Nat)(i:Int)(ns:List eE):Int×List eE:=
 if(g i).2.2=true/\0<=i/\i<(g i).2.1/\i<(len:Int) then notesW g len (g i).2.1 (ns++[(g i).1]) else(i,ns)
termination_by len-i.toNat
decreasing_by omega
theorem aFZ{b:List Int}(hb:bQ b=true){i:Int}(h:(bG b i).2.2=true)(ns:List eE):
 notesW (bG b) b.length i ns=notesW (bG b) b.length (bG b i).2.1 (ns++[(bG b i).1]):=by
 have:=aBK hb h
 conv=>lhs;rw[notesW]
 rw[if_pos ⟨h,by omega,by omega,by omega⟩]
theorem aFN{b:List Int}{i:Int}(h:¬(bG b i).2.2=true)(ns:List eE):notesW (bG b) b.length i ns=(i,ns):=by
 rw[notesW,if_neg (fun g=>h g.1)]
theorem aEN{b:List Int}(hb:bQ b=true){i:Int}(h:(b.length:Int)<=i)(ns:List eE):notesW (bG b) b.length i ns=(i,ns):=by
 rw[notesW,if_neg (by omega)]
theorem aJu{b:List Int}(hb:bQ b=true)(n:Nat):∀(i:Int) (ns:List eE),b.length-i.toNat<=n->0<=i->i<=(b.length:Int)->5*(ns.length:Int)<=i->(∀r∈ns,r.2.2.2.2.1.length<=40)->
 5*((notesW (bG b) b.length i ns).2.length:Int)<=(b.length:Int)/\∀r∈(notesW (bG b) b.length i ns).2,r.2.2.2.2.1.length<=40:=by
 induction n with
 |zero=>
  intro i ns hn h0 h1 h2 h3
  rw[aEN hb (by omega)]
  exact⟨by simp only;omega,h3⟩
 |succ n ih=>
  intro i ns hn h0 h1 h2 h3
  by_cases h:(bG b i).2.2=true
  . have hp:=aBK hb h
    rw[aFZ hb h]
    refine ih _ _ (by omega) (by omega) (by omega) (by simp only[Zf,Zg,Zh];omega) ?_
    intro r hr
    rcases Zp.1 hr with hr|hr
    . exact h3 r hr
    . rw[Zq.1 hr];exact aHA b i
  . rw[aFN h]
    exact⟨by simp only;omega,h3⟩
abbrev NoS:=List Int×(Int×(List eE×Unit))
def aBl:NoS->Bool:=fun s=>bQ s.1&&(dI s.1&&(decide (0<=s.2.1)&&(decide (s.2.1<=(s.1.length:Int))&&decide (5*(s.2.2.1.length:Int)<=s.2.1))))
def aIY:NoS->Int×(List eE×Unit):=fun s=>((notesW (bG s.1) s.1.length s.2.1 s.2.2.1).1,((notesW (bG s.1) s.1.length s.2.1 s.2.2.1).2,()))
def aLC:NoS->Nat:=fun s=>s.1.length-s.2.1.toNat
theorem aDN{b:List Int}{i:Int}{ns:List eE}(hp:aBl (b,(i,(ns,())))=true):bQ b=true/\b.length<=16777216/\0<=i/\i<=(b.length:Int)/\5*(ns.length:Int)<=i:=by
 simpa only[aBl,Zb,Za,cC] using hp
theorem aNl{b:List Int}{i:Int}{ns:List eE}(hp:aBl (b,(i,(ns,())))=true)(h:(bG b i).2.2=true):
 Rounds aBl aLC aIY (b,(i,(ns,()))) (some (.inl (b,((bG b i).2.1,(ns++[(bG b i).1],()))))):=by
 obtain⟨hb,hs,h0,h1,h2⟩:=aDN hp
 have hq:=aBK hb h
 simp only[Rounds]
 refine⟨?_,by simp only[aLC];omega,?_⟩
 . simp only[aBl,Zb,Za,cC,Zf,Zg,Zh]
   exact⟨hb,hs,by omega,by omega,by omega⟩
 . simp only[aIY,aFZ hb h]
theorem aNg{b:List Int}{i:Int}{ns:List eE}(h:¬(bG b i).2.2=true):Rounds aBl aLC aIY (b,(i,(ns,()))) (some (.inr (i,(ns,())))):=by
 simp only[Rounds,aIY,aFN h]
def aBY(b:List Int):List eE×Int:=((notesW (bG b) b.length 0 []).2,(notesW (bG b) b.length 0 []).1)
abbrev kP:=aBY
abbrev kO:=aBY
theorem aHH{b:List Int}(hb:bQ b=true)(hs:dI b=true):aBl (b,((0:Int),(([]:List eE),())))=true:=by
 simp only[aBl,Zb,Za,Zh]
 exact⟨hb,hs,by omega,by omega,by omega⟩
namespace kP
def pre(b:List Int):Bool:=dI b
def pre3:=aBl
def fn3:=aIY
def mu3:=aLC
noncomputable def pK(x1:(List Int))(x2:Int)(x3:(List eE)):Option (((List Int)×(Int×((List eE)×Unit)))⊕(Int×((List eE)×Unit))):=
 if(decide (x2<((length x1:Nat):Int)))=true then
 if(bG.pre x1 x2)=true then
 letB (bG x1 x2) fun v1=>
 if(!v1.2.2)=true then
 some (.inr (x2,(x3,())))
 else
 if(decide (length x3+length (v1.1::([]:List eE))<=lT))=true then
 some (.inl (x1,(v1.2.1,((List.append x3 (v1.1::([]:List eE))),()))))
 else
 none
 else
 none
 else
 some (.inr (x2,(x3,())))
abbrev wf(x0:(List Int)):Prop:=fW [(.val wM .f)] (x0,())
noncomputable def aR(x0:(List Int)):Option (Unit×((List eE)×(Int×Unit))):=
 if(kP.pre3 (x0,((0:Int),(([]:List eE),()))))=true then
 letB (kP.fn3 (x0,((0:Int),(([]:List eE),())))) fun v1=>
 some ((),(v1.2.1,(v1.1,())))
 else
 none
theorem ok3(x1:List Int)(x2:Int)(x3:List eE)(hp:pre3 (x1,(x2,(x3,())))=true):Rounds pre3 mu3 fn3 (x1,(x2,(x3,()))) (pK x1 x2 x3):=by
 obtain⟨hb,hs,h0,h1,h2⟩:=aDN hp
 unfold pK
 simp only[letB]
 by_cases hlt:x2<(x1.length:Int)
 . rw[if_pos (by simp[hlt]),if_pos (show bG.pre _ _=true from rfl)]
   by_cases h:(bG x1 x2).2.2=true
   . rw[if_neg (by simp[h]),if_pos (by simp only[Za,lT,Zg,Zh];omega)]
     exact aNl hp h
   . rw[if_pos (by simp[h])]
     exact aNg h
 . rw[if_neg (by simp[hlt])]
   have:=aEN hb (i:=x2) (by omega) x3
   simp only[Rounds,fn3,aIY,this]
theorem eq(x0:List Int)(hw:wf x0)(hp:pre x0=true):aR x0=some ((),((kP x0).1,((kP x0).2,()))):=by
 have hb:bQ x0=true:=gN hw.1.2
 unfold aR
 rw[if_pos (show pre3 _=true from aHH hb hp)]
 rfl
end kP
namespace kO
def pre(b:List Int):Bool:=dI b
def pre3:=aBl
def fn3:=aIY
def mu3:=aLC
noncomputable def pK(x1:(List Int))(x2:Int)(x3:(List eE)):Option (((List Int)×(Int×((List eE)×Unit)))⊕(Int×((List eE)×Unit))):=
 if(gK.pre x1 x2)=true then
 letB (gK x1 x2) fun v1=>
 if(!v1.2.2)=true then
 some (.inr (x2,(x3,())))
 else
 if(decide (length x3+length (v1.1::([]:List eE))<=lT))=true then
 some (.inl (x1,(v1.2.1,((List.append x3 (v1.1::([]:List eE))),()))))
 else
 none
 else
 none
abbrev wf(x0:(List Int)):Prop:=fW [(.val wM .f)] (x0,())
noncomputable def aR(x0:(List Int)):Option (Unit×((List eE)×(Int×Unit))):=
 if(kO.pre3 (x0,((0:Int),(([]:List eE),()))))=true then
 letB (kO.fn3 (x0,((0:Int),(([]:List eE),())))) fun v1=>
 some ((),(v1.2.1,(v1.1,())))
 else
 none
theorem ok3(x1:List Int)(x2:Int)(x3:List eE)(hp:pre3 (x1,(x2,(x3,())))=true):Rounds pre3 mu3 fn3 (x1,(x2,(x3,()))) (pK x1 x2 x3):=by
 obtain⟨hb,hs,h0,h1,h2⟩:=aDN hp
 unfold pK
 simp only[letB]
 rw[if_pos (show gK.pre _ _=true from Zd (Int.le_refl _)),aHz x2 hb (by omega)]
 by_cases h:(bG x1 x2).2.2=true
 . rw[if_neg (by simp[h]),if_pos (by simp only[Za,lT,Zg,Zh];omega)]
   exact aNl hp h
 . rw[if_pos (by simp[h])]
   exact aNg h
theorem eq(x0:List Int)(hw:wf x0)(hp:pre x0=true):aR x0=some ((),((kO x0).1,((kO x0).2,()))):=by
 have hb:bQ x0=true:=gN hw.1.2
 unfold aR
 rw[if_pos (show pre3 _=true from aHH hb hp)]
 rfl
end kO
theorem aFw:(xs:List Int)->bJ oI xs=xs.length
 |[]=>rfl
 |a::r=>by simp only[bJ,oI,aFw r,Zg];omega
theorem aJd{xs:List Int}(h:xs.length<=16777216):eJ.pre xs=true:=by
 refine aIa ?_
 have hz:aIA aIS xs=0:=aFQ (fun _=>rfl) xs
 simp only[wL];omega
def dP(x:aW):Bool:=aB x.1 1 4&&(aB x.2.1 1 5&&(aB x.2.2.1 1 8&&aB x.2.2.2.1 0 60))
abbrev iG:=dP
abbrev iC:=dP
namespace iG
abbrev wf(x0:aW):Prop:=fW [(.val wG .f)] (x0,())
noncomputable def aR(x0:aW):Option kZ:=
 if(aB x0.1 (1:Int) (4:Int))=true then
 if(aB x0.2.1 (1:Int) (5:Int))=true then
 if(aB x0.2.2.1 (1:Int) (8:Int))=true then
 some ((),((aB x0.2.2.2.1 (0:Int) (60:Int)),()))
 else
 some ((),(false,()))
 else
 some ((),(false,()))
 else
 some ((),(false,()))
theorem eq(x0:aW)(_:wf x0):aR x0=some ((),(iG x0,())):=by
 unfold aR iG dP
 cases aB x0.1 1 4<;>cases aB x0.2.1 1 5<;>cases aB x0.2.2.1 1 8<;>simp
end iG
namespace iC
abbrev wf(x0:aW):Prop:=fW [(.val wG .f)] (x0,())
noncomputable def aR(x0:aW):Option kZ:=
 if(aB x0.1 (1:Int) (4:Int))=true then
 if(aB x0.2.1 (1:Int) (5:Int))=true then
 if(aB x0.2.2.1 (1:Int) (8:Int))=true then
 some ((),((aB x0.2.2.2.1 (0:Int) (60:Int)),()))
 else
 some ((),(false,()))
 else
 some ((),(false,()))
 else
 some ((),(false,()))
theorem eq(x0:aW)(_:wf x0):aR x0=some ((),(iC x0,())):=by
 unfold aR iC dP
 cases aB x0.1 1 4<;>cases aB x0.2.1 1 5<;>cases aB x0.2.2.1 1 8<;>simp
end iC
def mC(x:aW):aW:=x
namespace mC
abbrev wf(x0:aW):Prop:=fW [(.val wG .f)] (x0,())
noncomputable def aR(x0:aW):Option (Unit×(aW×Unit)):=
 some ((),(x0,()))
theorem eq(x0:aW)(_:wf x0):aR x0=some ((),(mC x0,())):=rfl
end mC
def pP(n:Int):aJ:=if aB n 1 4=true then(0,([],([],(List.replicate n.toNat 0,())))) else(0,([],([],([],()))))
abbrev jK:=pP
abbrev jM:=pP
namespace jK
def pre(_:Int):Bool:=true
abbrev wf(x0:Int):Prop:=fW [(.val (.int .i64) .f)] (x0,())
noncomputable def aR(x0:Int):Option (Unit×aAs):=
 letB (aB x0 (1:Int) (4:Int)) fun v1=>
 if(!v1)=true then
 some ((),(vB,()))
 else
 if(decide ((0:Int)<=x0))=true then
 if(decide (x0<=x0))=true then
 if(decide (x0<=(4294967296:Int)))=true then
 some ((),(((0:Int),(([]:List Int),(([]:List Int),((List.replicate (Int.toNat x0) (0:Int)),())))),()))
 else
 none
 else
 none
 else
 none
theorem eq(x0:Int)(_:wf x0)(_:pre x0=true):aR x0=some ((),(jK x0,())):=by
 unfold aR jK pP
 simp only[letB]
 by_cases h:aB x0 1 4=true
 . have:=tL h
   rw[if_neg (by simp[h]),if_pos (by simp only[Za];omega),if_pos (by simp),if_pos (by simp only[Za];omega),if_pos h]
 . rw[if_pos (by simp[h]),if_neg h]
end jK
namespace jM
def pre(_:Int):Bool:=true
abbrev wf(x0:Int):Prop:=fW [(.val (.int .i64) .f)] (x0,())
noncomputable def aR(x0:Int):Option (Unit×aAs):=
 letB (aB x0 (1:Int) (4:Int)) fun v1=>
 if(!v1)=true then
 some ((),(vB,()))
 else
 if(decide ((0:Int)<=x0))=true then
 if(decide (x0<=x0))=true then
 if(decide (x0<=(4294967296:Int)))=true then
 some ((),(((0:Int),(([]:List Int),(([]:List Int),((List.replicate (Int.toNat x0) (0:Int)),())))),()))
 else
 none
 else
 none
 else
 none
theorem eq(x0:Int)(_:wf x0)(_:pre x0=true):aR x0=some ((),(jM x0,())):=by
 unfold aR jM pP
 simp only[letB]
 by_cases h:aB x0 1 4=true
 . have:=tL h
   rw[if_neg (by simp[h]),if_pos (by simp only[Za];omega),if_pos (by simp),if_pos (by simp only[Za];omega),if_pos h]
 . rw[if_pos (by simp[h]),if_neg h]
end jM
def mN:bI:=([],([],([],(0,([],([],()))))))
def aGW(n:Int):bI:=(List.replicate n.toNat (0,(0,([],()))),([],(List.replicate 2 (pP n),(0,(List.replicate 4 0,(List.replicate 4 (0,(0,([],([],())))),()))))))
def uD(x:aW):bI:=if dP x=true then aGW x.1 else mN
abbrev jB:=uD
abbrev iY:=uD
abbrev KnT:=Int×(Unit×((List cL)×((List aK)×((List aJ)×((List Int)×((List aM)×aDp))))))
abbrev KnS:=Int×(aW×KnT)
def aAz:KnS->Bool:=fun s=>decide (0<=s.1)&&decide (s.2.2.2.2.2.2.2.2.2.2.2.2.2.1.length<=s.1.toNat)
def aKf:KnS->KnT:=fun(i,x,x3,x4,x5,x6,x7,x8,x9,x10,x11,x12,x13,x14,x15,x16,_)=>
 (x3,(x4,(x5,(x6,(x7,(x8,(x9,(x10,(x11,(x12,(x13,(x14++List.replicate (2-i).toNat (pP x.1),(x15,(x16,()))))))))))))))
def aLd:KnS->Nat:=fun s=>(2-s.1).toNat
theorem aNi{x1:Int}{x2:aW}{x3:Int}{x4:Unit}{x5:List cL}{x6:List aK}{x7:List aJ}{x8:List Int}{x9:List aM}{x10:Int}{x11:Unit}{x12:List cL}{x13:List aK}{x14:List aJ}{x15:List Int}{x16:List aM}
 (hp:aAz (x1,(x2,(x3,(x4,(x5,(x6,(x7,(x8,(x9,(x10,(x11,(x12,(x13,(x14,(x15,(x16,()))))))))))))))))=true) (hlt:x1<2):
 Rounds aAz aLd aKf (x1,(x2,(x3,(x4,(x5,(x6,(x7,(x8,(x9,(x10,(x11,(x12,(x13,(x14,(x15,(x16,()))))))))))))))))
  (some (.inl ((wrap .i64 (x1+1)),(x2,(x3,(x4,(x5,(x6,(x7,(x8,(x9,(x10,(x11,(x12,(x13,((List.append x14 [pP x2.1]),(x15,(x16,())))))))))))))))))):=by
 simp only[aAz,Zb,Za] at hp
 rw[iV (n:=x1+1) (by omega) (by omega)]
 simp only[Rounds]
 refine⟨?_,by simp only[aLd];omega,?_⟩
 . simp only[aAz,Zb,Za,List.append_eq,Zf,Zg,Zh];omega
 . simp only[aKf,List.append_eq]
   rw[show(2-x1).toNat=(2-(x1+1)).toNat+1 by omega,List.replicate_succ,Zk];rfl
theorem aLw{x1:Int}{x2:aW}{x3:Int}{x4:Unit}{x5:List cL}{x6:List aK}{x7:List aJ}{x8:List Int}{x9:List aM}{x10:Int}{x11:Unit}{x12:List cL}{x13:List aK}{x14:List aJ}{x15:List Int}{x16:List aM}(hlt:¬x1<2):
 Rounds aAz aLd aKf (x1,(x2,(x3,(x4,(x5,(x6,(x7,(x8,(x9,(x10,(x11,(x12,(x13,(x14,(x15,(x16,()))))))))))))))))
  (some (.inr (x3,(x4,(x5,(x6,(x7,(x8,(x9,(x10,(x11,(x12,(x13,(x14,(x15,(x16,())))))))))))))))):=by
 simp only[Rounds,aKf]
 rw[show(2-x1).toNat=0 by omega,List.replicate_zero,List.append_nil]
namespace jB
def pre(_:aW):Bool:=true
def pre5:=aAz
def fn5:=aKf
def mu5:=aLd
noncomputable def tX(x1:Int)(x2:aW)(x3:Int)(x4:Unit)(x5:(List cL))(x6:(List aK))(x7:(List aJ))(x8:(List Int))(x9:(List aM))(x10:Int)(x11:Unit)(x12:(List cL))(x13:(List aK))(x14:(List aJ))(x15:(List Int))(x16:(List aM)):Option ((Int×(aW×zt3))⊕zt3):=
 if(decide (x1<(2:Int)))=true then
 if(jK.pre x2.1)=true then
 letB (pP x2.1) fun v1=>
 if(decide (length x14+length (v1::([]:List aJ))<=lT))=true then
 some (.inl ((wrap .i64 (x1+(1:Int))),(x2,(x3,(x4,(x5,(x6,(x7,(x8,(x9,(x10,(x11,(x12,(x13,((List.append x14 (v1::([]:List aJ))),(x15,(x16,())))))))))))))))))
 else
 none
 else
 none
 else
 some (.inr (x3,(x4,(x5,(x6,(x7,(x8,(x9,(x10,(x11,(x12,(x13,(x14,(x15,(x16,())))))))))))))))
abbrev wf(x0:aW):Prop:=fW [(.val wG .f)] (x0,())
noncomputable def aR(x0:aW):Option (Unit×(bI×Unit)):=
 letB (dP x0) fun v1=>
 if(!v1)=true then
 some ((),(aBX,()))
 else
 if(decide ((0:Int)<=x0.1))=true then
 if(decide (x0.1<=x0.1))=true then
 if(decide (x0.1<=(4294967296:Int)))=true then
 if(decide ((0:Int)<=(4:Int)))=true then
 if(decide ((4:Int)<=(4:Int)))=true then
 if(decide ((4:Int)<=(4294967296:Int)))=true then
 if(decide ((0:Int)<=(4:Int)))=true then
 if(decide ((4:Int)<=(4:Int)))=true then
 if(decide ((4:Int)<=(4294967296:Int)))=true then
 if(jB.pre5 ((0:Int),(x0,((0:Int),((),(([]:List cL),(([]:List aK),(([]:List aJ),(([]:List Int),(([]:List aM),((0:Int),((),((List.replicate (Int.toNat x0.1) oR),(([]:List aK),(([]:List aJ),((List.replicate (Int.toNat (4:Int)) (0:Int)),((List.replicate (Int.toNat (4:Int)) sI),())))))))))))))))))=true then
 letB (jB.fn5 ((0:Int),(x0,((0:Int),((),(([]:List cL),(([]:List aK),(([]:List aJ),(([]:List Int),(([]:List aM),((0:Int),((),((List.replicate (Int.toNat x0.1) oR),(([]:List aK),(([]:List aJ),((List.replicate (Int.toNat (4:Int)) (0:Int)),((List.replicate (Int.toNat (4:Int)) sI),()))))))))))))))))) fun v2=>
 some ((),((v2.2.2.2.2.2.2.2.2.2.1,(v2.2.2.2.2.2.2.2.2.2.2.1,(v2.2.2.2.2.2.2.2.2.2.2.2.1,(v2.2.2.2.2.2.2.2.1,(v2.2.2.2.2.2.2.2.2.2.2.2.2.1,(v2.2.2.2.2.2.2.2.2.2.2.2.2.2.1,v2.2.2.2.2.2.2.2.2.1)))))),()))
 else
 none
 else
 none
 else
 none
 else
 none
 else
 none
 else
 none
 else
 none
 else
 none
 else
 none
 else
 none
theorem ok5(x1:Int)(x2:aW)(x3:Int)(x4:Unit)(x5:List cL)(x6:List aK)(x7:List aJ)(x8:List Int)(x9:List aM)(x10:Int)(x11:Unit)(x12:List cL)(x13:List aK)(x14:List aJ)(x15:List Int)(x16:List aM)
 (hp:pre5 (x1,(x2,(x3,(x4,(x5,(x6,(x7,(x8,(x9,(x10,(x11,(x12,(x13,(x14,(x15,(x16,()))))))))))))))))=true):
 Rounds pre5 mu5 fn5 (x1,(x2,(x3,(x4,(x5,(x6,(x7,(x8,(x9,(x10,(x11,(x12,(x13,(x14,(x15,(x16,())))))))))))))))) (tX x1 x2 x3 x4 x5 x6 x7 x8 x9 x10 x11 x12 x13 x14 x15 x16):=by
 unfold tX
 simp only[letB]
 by_cases hlt:x1<2
 . have hp2:=hp
   simp only[pre5,aAz,Zb,Za] at hp2
   rw[if_pos (by simp[hlt]),if_pos (show jK.pre _=true from rfl),if_pos (by simp only[Za,lT,Zg,Zh];omega)]
   exact aNi hp hlt
 . rw[if_neg (by simp[hlt])]
   exact aLw hlt
theorem eq(x0:aW)(_:wf x0)(_:pre x0=true):aR x0=some ((),(jB x0,())):=by
 unfold aR jB uD
 simp only[letB]
 by_cases h:dP x0=true
 case neg=>rw[if_pos (by simp[h]),if_neg h];rfl
 have hs:=h
 simp only[dP,Zb] at hs
 have:=tL hs.1
 rw[if_neg (by simp[h]),if_pos (by simp only[Za];omega),if_pos (by simp),if_pos (by simp only[Za];omega),if_pos (by decide),if_pos (by decide),if_pos (by decide),if_pos (by decide),if_pos (by decide),if_pos (by decide),
  if_pos (show pre5 _=true by simp[pre5,aAz]),if_pos h]
 rfl
end jB
namespace iY
def pre(_:aW):Bool:=true
def pre5:=aAz
def fn5:=aKf
def mu5:=aLd
noncomputable def tX(x1:Int)(x2:aW)(x3:Int)(x4:Unit)(x5:(List cL))(x6:(List aK))(x7:(List aJ))(x8:(List Int))(x9:(List aM))(x10:Int)(x11:Unit)(x12:(List cL))(x13:(List aK))(x14:(List aJ))(x15:(List Int))(x16:(List aM)):Option ((Int×(aW×zt3))⊕zt3):=
 if(decide (x1<(2:Int)))=true then
 if(jM.pre x2.1)=true then
 letB (pP x2.1) fun v1=>
 if(decide (length x14+length (v1::([]:List aJ))<=lT))=true then
 some (.inl ((wrap .i64 (x1+(1:Int))),(x2,(x3,(x4,(x5,(x6,(x7,(x8,(x9,(x10,(x11,(x12,(x13,((List.append x14 (v1::([]:List aJ))),(x15,(x16,())))))))))))))))))
 else
 none
 else
 none
 else
 some (.inr (x3,(x4,(x5,(x6,(x7,(x8,(x9,(x10,(x11,(x12,(x13,(x14,(x15,(x16,())))))))))))))))
abbrev wf(x0:aW):Prop:=fW [(.val wG .f)] (x0,())
noncomputable def aR(x0:aW):Option (Unit×(bI×Unit)):=
 letB (dP x0) fun v1=>
 if(!v1)=true then
 some ((),(aBX,()))
 else
 if(decide ((0:Int)<=x0.1))=true then
 if(decide (x0.1<=x0.1))=true then
 if(decide (x0.1<=(4294967296:Int)))=true then
 if(decide ((0:Int)<=(4:Int)))=true then
 if(decide ((4:Int)<=(4:Int)))=true then
 if(decide ((4:Int)<=(4294967296:Int)))=true then
 if(decide ((0:Int)<=(4:Int)))=true then
 if(decide ((4:Int)<=(4:Int)))=true then
 if(decide ((4:Int)<=(4294967296:Int)))=true then
 if(iY.pre5 ((0:Int),(x0,((0:Int),((),(([]:List cL),(([]:List aK),(([]:List aJ),(([]:List Int),(([]:List aM),((0:Int),((),((List.replicate (Int.toNat x0.1) oR),(([]:List aK),(([]:List aJ),((List.replicate (Int.toNat (4:Int)) (0:Int)),((List.replicate (Int.toNat (4:Int)) sI),())))))))))))))))))=true then
 letB (iY.fn5 ((0:Int),(x0,((0:Int),((),(([]:List cL),(([]:List aK),(([]:List aJ),(([]:List Int),(([]:List aM),((0:Int),((),((List.replicate (Int.toNat x0.1) oR),(([]:List aK),(([]:List aJ),((List.replicate (Int.toNat (4:Int)) (0:Int)),((List.replicate (Int.toNat (4:Int)) sI),()))))))))))))))))) fun v2=>
 some ((),((v2.2.2.2.2.2.2.2.2.2.1,(v2.2.2.2.2.2.2.2.2.2.2.1,(v2.2.2.2.2.2.2.2.2.2.2.2.1,(v2.2.2.2.2.2.2.2.1,(v2.2.2.2.2.2.2.2.2.2.2.2.2.1,(v2.2.2.2.2.2.2.2.2.2.2.2.2.2.1,v2.2.2.2.2.2.2.2.2.1)))))),()))
 else
 none
 else
 none
 else
 none
 else
 none
 else
 none
 else
 none
 else
 none
 else
 none
 else
 none
 else
 none
theorem ok5(x1:Int)(x2:aW)(x3:Int)(x4:Unit)(x5:List cL)(x6:List aK)(x7:List aJ)(x8:List Int)(x9:List aM)(x10:Int)(x11:Unit)(x12:List cL)(x13:List aK)(x14:List aJ)(x15:List Int)(x16:List aM)
 (hp:pre5 (x1,(x2,(x3,(x4,(x5,(x6,(x7,(x8,(x9,(x10,(x11,(x12,(x13,(x14,(x15,(x16,()))))))))))))))))=true):
 Rounds pre5 mu5 fn5 (x1,(x2,(x3,(x4,(x5,(x6,(x7,(x8,(x9,(x10,(x11,(x12,(x13,(x14,(x15,(x16,())))))))))))))))) (tX x1 x2 x3 x4 x5 x6 x7 x8 x9 x10 x11 x12 x13 x14 x15 x16):=by
 unfold tX
 simp only[letB]
 by_cases hlt:x1<2
 . have hp2:=hp
   simp only[pre5,aAz,Zb,Za] at hp2
   rw[if_pos (by simp[hlt]),if_pos (show jM.pre _=true from rfl),if_pos (by simp only[Za,lT,Zg,Zh];omega)]
   exact aNi hp hlt
 . rw[if_neg (by simp[hlt])]
   exact aLw hlt
theorem eq(x0:aW)(_:wf x0)(_:pre x0=true):aR x0=some ((),(iY x0,())):=by
 unfold aR iY uD
 simp only[letB]
 by_cases h:dP x0=true
 case neg=>rw[if_pos (by simp[h]),if_neg h];rfl
 have hs:=h
 simp only[dP,Zb] at hs
 have:=tL hs.1
 rw[if_neg (by simp[h]),if_pos (by simp only[Za];omega),if_pos (by simp),if_pos (by simp only[Za];omega),if_pos (by decide),if_pos (by decide),if_pos (by decide),if_pos (by decide),if_pos (by decide),if_pos (by decide),
  if_pos (show pre5 _=true by simp[pre5,aAz]),if_pos h]
 rfl
end iY
def pY(x:aW):jV:=if dP x=true then(0,(-1,((0,(0,([],()))),(uD x,())))) else(0,(0,((0,(0,([],()))),(mN,()))))
abbrev kI:=pY
abbrev kN:=pY
namespace kI
def pre(_:aW):Bool:=true
abbrev wf(x0:aW):Prop:=fW [(.val wG .f)] (x0,())
noncomputable def aR(x0:aW):Option (Unit×(rL×Unit)):=
 letB (dP x0) fun v1=>
 if(!v1)=true then
 some ((),(((0:Int),((0:Int),(aJl,(aBX,())))),()))
 else
 if(jB.pre x0)=true then
 letB (uD x0) fun v2=>
 some ((),(((0:Int),((-1:Int),(aJl,(v2,())))),()))
 else
 none
theorem eq(x0:aW)(_:wf x0)(_:pre x0=true):aR x0=some ((),(kI x0,())):=by
 unfold aR kI pY
 simp only[letB]
 by_cases h:dP x0=true
 . rw[if_neg (by simp[h]),if_pos (show jB.pre _=true from rfl),if_pos h]
 . rw[if_pos (by simp[h]),if_neg h];rfl
end kI
namespace kN
def pre(_:aW):Bool:=true
abbrev wf(x0:aW):Prop:=fW [(.val wG .f)] (x0,())
noncomputable def aR(x0:aW):Option (Unit×(rL×Unit)):=
 letB (dP x0) fun v1=>
 if(!v1)=true then
 some ((),(((0:Int),((0:Int),(aJl,(aBX,())))),()))
 else
 if(iY.pre x0)=true then
 letB (uD x0) fun v2=>
 some ((),(((0:Int),((-1:Int),(aJl,(v2,())))),()))
 else
 none
theorem eq(x0:aW)(_:wf x0)(_:pre x0=true):aR x0=some ((),(kN x0,())):=by
 unfold aR kN pY
 simp only[letB]
 by_cases h:dP x0=true
 . rw[if_neg (by simp[h]),if_pos (show iY.pre _=true from rfl),if_pos h]
 . rw[if_pos (by simp[h]),if_neg h];rfl
end kN
theorem aEq{α:Type}(g:α->Int)(a:α):(n:Nat)->bJ g (List.replicate n a)=n*g a
 |0=>by simp[bJ]
 |n+1=>by
  rw[List.replicate_succ,bJ,aEq g a n]
  push_cast
  rw[Int.add_mul];omega
theorem aGx(n:Int):bY (pP n)<=5:=by
 unfold pP
 split
 . rename_i h
   have:=tL h
   simp only[bY,aEq,bO,bJ];omega
 . simp only[bY,bJ];omega
theorem aHY(x:aW):fV (pY x)<=1000:=by
 unfold pY
 split
 . rename_i h
   unfold uD
   rw[if_pos h]
   simp only[dP,Zb] at h
   have:=tL h.1
   have hg:=aGx x.1
   simp only[fV,iU,fU,aGW,aEq,bJ,cK,bO,dL]
   omega
 . simp[fV,iU,fU,mN,bJ]
section
variable {S O:Type} {pre:S->Bool} {mu:S->Nat} {fn:S->O} {s:S}
theorem fO{c:Prop}[Decidable c]{A B:Option (S⊕O)}(h:c)(r:Rounds pre mu fn s A):Rounds pre mu fn s (if c then A else B):=by rw[if_pos h];exact r
theorem jC{c:Prop}[Decidable c]{A B:Option (S⊕O)}(h:¬c)(r:Rounds pre mu fn s B):Rounds pre mu fn s (if c then A else B):=by rw[if_neg h];exact r
theorem lV{α:Type}{a:α}{f:α->Option (S⊕O)}(r:Rounds pre mu fn s (f a)):Rounds pre mu fn s (letB a f):=r
end
section
variable {α β:Type}
theorem dS{c:Prop}[Decidable c]{A B:Option α}{v:Option α}(h:c)(r:A=v):(if c then A else B)=v:=by rw[if_pos h];exact r
theorem mF{c:Prop}[Decidable c]{A B:Option α}{v:Option α}(h:¬c)(r:B=v):(if c then A else B)=v:=by rw[if_neg h];exact r
theorem cU{a:β}{f:β->Option α}{v:Option α}(r:f a=v):letB a f=v:=r
def tI(q:α->Bool)(xs:List α)(n i:Int)(out:List α):Bool:=dI xs&&(xs.all q&&(decide (n=(xs.length:Int))&&(decide (0<=i)&&(decide (i<=(xs.length:Int))&&decide ((out.length:Int)<=i)))))
theorem aB8{q:α->Bool}{xs:List α}{n i:Int}{out:List α}:tI q xs n i out=true↔xs.length<=16777216/\xs.all q=true/\n=(xs.length:Int)/\0<=i/\i<=(xs.length:Int)/\(out.length:Int)<=i:=by
 simp only[tI,Zb,Za,cC]
theorem aAX{q:α->Bool}{xs:List α}{n i:Int}{out:List α}(d:α)(hp:tI q xs n i out=true)(hlt:i<n):
 q (xs.getD i.toNat d)=true/\0<=i/\i<(xs.length:Int)/\out.length+length (xs.getD i.toNat d::([]:List α))<=lT/\wrap .i64 (i+1)=i+1/\
  tI q xs n (i+1) (out++[xs.getD i.toNat d])=true/\(out++[xs.getD i.toNat d])++xs.drop (i+1).toNat=out++xs.drop i.toNat/\xs.length-(i+1).toNat<xs.length-i.toNat:=by
 obtain⟨h1,h2,h3,h4,h5,h6⟩:=aB8.1 hp
 have hn:i.toNat<xs.length:=by omega
 have e1:=Zn hn
 rw[eV hn]
 refine⟨Zu.1 h2 _ (List.getElem_mem _),h4,by omega,by simp only[Zg,Zh,lT];omega,iV (by omega) (by omega),?_,?_,by omega⟩
 . rw[aB8]
   exact⟨h1,h2,h3,by omega,by omega,by simp only[Zf,Zg,Zh];omega⟩
 . rw[show(i+1).toNat=i.toNat+1 by omega,e1,Zk];rfl
theorem aCB{q:α->Bool}{xs:List α}{n i:Int}{out:List α}(hp:tI q xs n i out=true)(hlt:¬i<n):out++xs.drop i.toNat=out:=by
 obtain⟨h1,h2,h3,h4,h5,h6⟩:=aB8.1 hp
 rw[Zt (by omega),List.append_nil]
theorem zB{q:α->Bool}{xs:List α}(h:dI xs=true)(ha:xs.all q=true):tI q xs ((length xs:Nat):Int) 0 []=true:=by
 rw[aB8];rw[cC] at h
 exact⟨h,ha,rfl,by omega,by omega,by simp⟩
theorem tY{xs:List α}(h:dI xs=true):([]:List β).length+xs.length<=lT:=by
 rw[cC] at h;simp only[Zh,lT];omega
end
def aN(x:iT):iT:=x
namespace aN
def pre(x:iT):Bool:=dI x.2.2.1
abbrev wf(x0:iT):Prop:=fW [(.val aAi .f)] (x0,())
noncomputable def aR(x0:iT):Option (Unit×(iT×Unit)):=
 if(decide (length ([]:List aL)+length x0.2.2.1<=lT))=true then
 some ((),((x0.1,(x0.2.1,((List.append ([]:List aL) x0.2.2.1),x0.2.2.2))),()))
 else
 none
theorem eq(x0:iT)(_:wf x0)(hp:pre x0=true):aR x0=some ((),(aN x0,())):=by
 unfold aR
 have hp:dI x0.2.2.1=true:=hp
 refine dS (Zd (tY hp)) ?_
 rfl
end aN
def aT(x:iT):iT:=x
namespace aT
def pre(x:iT):Bool:=dI x.2.2.1
abbrev wf(x0:iT):Prop:=fW [(.val aAi .f)] (x0,())
noncomputable def aR(x0:iT):Option (Unit×(iT×Unit)):=
 if(decide (length ([]:List aL)+length x0.2.2.1<=lT))=true then
 some ((),((x0.1,(x0.2.1,((List.append ([]:List aL) x0.2.2.1),()))),()))
 else
 none
theorem eq(x0:iT)(_:wf x0)(hp:pre x0=true):aR x0=some ((),(aT x0,())):=by
 unfold aR
 have hp:dI x0.2.2.1=true:=hp
 refine dS (Zd (tY hp)) ?_
 rfl
end aT
def iX(x:cL):cL:=x
namespace iX
def pre(x:cL):Bool:=dI x.2.2.1
abbrev wf(x0:cL):Prop:=fW [(.val aAj .f)] (x0,())
noncomputable def aR(x0:cL):Option (Unit×(cL×Unit)):=
 if(decide (length ([]:List eO)+length x0.2.2.1<=lT))=true then
 some ((),((x0.1,(x0.2.1,((List.append ([]:List eO) x0.2.2.1),x0.2.2.2))),()))
 else
 none
theorem eq(x0:cL)(_:wf x0)(hp:pre x0=true):aR x0=some ((),(iX x0,())):=by
 unfold aR
 have hp:dI x0.2.2.1=true:=hp
 refine dS (Zd (tY hp)) ?_
 rfl
end iX
def jX(x:cL):cL:=x
namespace jX
def pre(x:cL):Bool:=dI x.2.2.1
abbrev wf(x0:cL):Prop:=fW [(.val aAj .f)] (x0,())
noncomputable def aR(x0:cL):Option (Unit×(cL×Unit)):=
 if(decide (length ([]:List eO)+length x0.2.2.1<=lT))=true then
 some ((),((x0.1,(x0.2.1,((List.append ([]:List eO) x0.2.2.1),()))),()))
 else
 none
theorem eq(x0:cL)(_:wf x0)(hp:pre x0=true):aR x0=some ((),(jX x0,())):=by
 unfold aR
 have hp:dI x0.2.2.1=true:=hp
 refine dS (Zd (tY hp)) ?_
 rfl
end jX
def fS(x:aK):aK:=x
namespace fS
def pre(x:aK):Bool:=dI x.2.2.2.2.1
abbrev wf(x0:aK):Prop:=fW [(.val aBr .f)] (x0,())
noncomputable def aR(x0:aK):Option (Unit×(aK×Unit)):=
 if(decide (length ([]:List eN)+length x0.2.2.2.2.1<=lT))=true then
 some ((),((x0.1,(x0.2.1,(x0.2.2.1,(x0.2.2.2.1,((List.append ([]:List eN) x0.2.2.2.2.1),x0.2.2.2.2.2))))),()))
 else
 none
theorem eq(x0:aK)(_:wf x0)(hp:pre x0=true):aR x0=some ((),(fS x0,())):=by
 unfold aR
 have hp:dI x0.2.2.2.2.1=true:=hp
 refine dS (Zd (tY hp)) ?_
 rfl
end fS
def jZ(x:aK):aK:=x
namespace jZ
def pre(x:aK):Bool:=dI x.2.2.2.2.1
abbrev wf(x0:aK):Prop:=fW [(.val aBr .f)] (x0,())
noncomputable def aR(x0:aK):Option (Unit×(aK×Unit)):=
 if(decide (length ([]:List eN)+length x0.2.2.2.2.1<=lT))=true then
 some ((),((x0.1,(x0.2.1,(x0.2.2.1,(x0.2.2.2.1,((List.append ([]:List eN) x0.2.2.2.2.1),x0.2.2.2.2.2))))),()))
 else
 none
theorem eq(x0:aK)(_:wf x0)(hp:pre x0=true):aR x0=some ((),(jZ x0,())):=by
 unfold aR
 have hp:dI x0.2.2.2.2.1=true:=hp
 refine dS (Zd (tY hp)) ?_
 rfl
end jZ
def eD(x:List Int):List Int:=x
namespace eD
def pre(x:List Int):Bool:=dI x
abbrev wf(x0:(List Int)):Prop:=fW [(.val (.sl 0 (.int .i64)) .f)] (x0,())
noncomputable def aR(x0:(List Int)):Option (Unit×tG):=
 if(decide (length ([]:List Int)+length x0<=lT))=true then
 some ((),((List.append ([]:List Int) x0),()))
 else
 none
theorem eq(x0:List Int)(_:wf x0)(hp:pre x0=true):aR x0=some ((),(eD x0,())):=by
 unfold aR
 refine dS (Zd (tY hp)) ?_
 rfl
end eD
def oY(x:aJ):Bool:=dI x.2.1&&(dI x.2.2.1&&dI x.2.2.2.1)
def gD(x:aJ):aJ:=x
namespace gD
def pre(x:aJ):Bool:=oY x
abbrev wf(x0:aJ):Prop:=fW [(.val aAh .f)] (x0,())
noncomputable def aR(x0:aJ):Option (Unit×aAs):=
 if(eD.pre x0.2.1)=true then
 if(eD.pre x0.2.2.1)=true then
 if(eD.pre x0.2.2.2.1)=true then
 letB (eD x0.2.1) fun v1=>
 letB (eD x0.2.2.1) fun v2=>
 letB (eD x0.2.2.2.1) fun v3=>
 some ((),((x0.1,(v1,(v2,(v3,x0.2.2.2.2)))),()))
 else
 none
 else
 none
 else
 none
theorem eq(x0:aJ)(_:wf x0)(hp:pre x0=true):aR x0=some ((),(gD x0,())):=by
 simp only[pre,oY,Zb] at hp
 unfold aR
 refine dS hp.1 (dS hp.2.1 (dS hp.2.2 ?_))
 rfl
end gD
def jY(x:aJ):aJ:=x
namespace jY
def pre(x:aJ):Bool:=oY x
abbrev wf(x0:aJ):Prop:=fW [(.val aAh .f)] (x0,())
noncomputable def aR(x0:aJ):Option (Unit×aAs):=
 if(decide (length ([]:List Int)+length x0.2.1<=lT))=true then
 if(decide (length ([]:List Int)+length x0.2.2.1<=lT))=true then
 if(decide (length ([]:List Int)+length x0.2.2.2.1<=lT))=true then
 some ((),((x0.1,((List.append ([]:List Int) x0.2.1),((List.append ([]:List Int) x0.2.2.1),((List.append ([]:List Int) x0.2.2.2.1),())))),()))
 else
 none
 else
 none
 else
 none
theorem eq(x0:aJ)(_:wf x0)(hp:pre x0=true):aR x0=some ((),(jY x0,())):=by
 simp only[pre,oY,Zb] at hp
 unfold aR
 refine dS (Zd (tY hp.1)) (dS (Zd (tY hp.2.1)) (dS (Zd (tY hp.2.2)) ?_))
 rfl
end jY
def fF(x:List aK):List aK:=x
namespace fF
abbrev S3:Type:=((List aK)×(Int×(Int×((List aK)×Unit))))
abbrev O3:Type:=((List aK)×Unit)
def pre(x:List aK):Bool:=dI x&&x.all fS.pre
def pre3:S3->Bool:=fun(x1,x2,x3,x4,_)=>tI fS.pre x1 x2 x3 x4
def fn3:S3->O3:=fun(x1,_,x3,x4,_)=>(x4++x1.drop x3.toNat,())
def mu3:S3->Nat:=fun(x1,_,x3,_,_)=>x1.length-x3.toNat
noncomputable def pK(x1:(List aK))(x2:Int)(x3:Int)(x4:(List aK)):Option (((List aK)×(Int×(Int×((List aK)×Unit))))⊕((List aK)×Unit)):=
 if(decide (x3<x2))=true then
 if(decide ((0:Int)<=x3))=true then
 if(decide (x3<((length x1:Nat):Int)))=true then
 if(fS.pre (List.getD x1 (Int.toNat x3) rF))=true then
 letB (fS (List.getD x1 (Int.toNat x3) rF)) fun v1=>
 if(decide (length x4+length (v1::([]:List aK))<=lT))=true then
 some (.inl (x1,(x2,((wrap .i64 (x3+(1:Int))),((List.append x4 (v1::([]:List aK))),())))))
 else
 none
 else
 none
 else
 none
 else
 none
 else
 some (.inr (x4,()))
abbrev wf(x0:(List aK)):Prop:=fW [(.val (.sl 0 aBr) .f)] (x0,())
noncomputable def aR(x0:(List aK)):Option (Unit×((List aK)×Unit)):=
 if(fF.pre3 (x0,(((length x0:Nat):Int),((0:Int),(([]:List aK),())))))=true then
 letB (fF.fn3 (x0,(((length x0:Nat):Int),((0:Int),(([]:List aK),()))))) fun v1=>
 some ((),v1)
 else
 none
theorem ok3(x1 x2 x3 x4)(hp:pre3 (x1,(x2,(x3,(x4,()))))=true):Rounds pre3 mu3 fn3 (x1,(x2,(x3,(x4,())))) (pK x1 x2 x3 x4):=by
 have hp:tI fS.pre x1 x2 x3 x4=true:=hp
 unfold pK
 by_cases hlt:x3<x2
 . obtain⟨hq,h0,h1,h2,h3,h4,h5,h6⟩:=aAX rF hp hlt
   rw[h3]
   refine fO (Zd hlt) ?_
   refine fO (Zd h0) ?_
   refine fO (Zd h1) ?_
   refine fO hq ?_
   refine lV ?_
   refine fO (Zd h2) ?_
   exact⟨h4,h6,congrArg (fun z:List aK=>((z,()):O3)) h5⟩
 . refine jC (by rw[Za];exact hlt) ?_
   show _=_
   exact congrArg (fun z:List aK=>((z,()):O3)) (aCB hp hlt).symm
theorem eq(x0:List aK)(_:wf x0)(hp:pre x0=true):aR x0=some ((),(fF x0,())):=by
 simp only[pre,Zb] at hp
 unfold aR
 exact dS (show pre3 _=true from zB hp.1 hp.2) rfl
end fF
def fY(x:bI):bI:=x
namespace fY
abbrev S4:Type:=((List aJ)×((List cL)×(Int×(Int×aHk))))
abbrev O4:Type:=((List aJ)×aHk)
abbrev S9:Type:=((List aJ)×(Int×(Int×aHk)))
abbrev O9:Type:=aHk
def pre(x:bI):Bool:=dI x.1&&(x.1.all iX.pre&&(dI x.2.1&&(x.2.1.all fS.pre&&(dI x.2.2.1&&(x.2.2.1.all gD.pre&&(dI x.2.2.2.2.1&&dI x.2.2.2.2.2.1))))))
def pre4:S4->Bool:=fun(_,x2,x3,x4,_,_,x7,_,_,_,_,_,_,_,_,_)=>tI iX.pre x2 x3 x4 x7
def fn4:S4->O4:=fun(x1,x2,_,x4,x5,x6,x7,x8,x9,x10,x11,x12,x13,x14,x15,_)=>(x1,(x5,(x6,(x7++x2.drop x4.toNat,(x8,(x9,(x10,(x11,(x12,(x13,(x14,(x15,()))))))))))))
def qD:S4->Nat:=fun(_,x2,_,x4,_,_,_,_,_,_,_,_,_,_,_,_)=>x2.length-x4.toNat
def pre9:S9->Bool:=fun(x1,x2,x3,_,_,_,x7,_,_,_,_,_,_,_,_)=>tI gD.pre x1 x2 x3 x7
def fn9:S9->O9:=fun(x1,_,x3,x4,x5,x6,x7,x8,x9,x10,x11,x12,x13,x14,_)=>(x4,(x5,(x6,(x7++x1.drop x3.toNat,(x8,(x9,(x10,(x11,(x12,(x13,(x14,())))))))))))
def mu9:S9->Nat:=fun(x1,_,x3,_,_,_,_,_,_,_,_,_,_,_,_)=>x1.length-x3.toNat
noncomputable def hJ(x1:(List aJ))(x2:(List cL))(x3:Int)(x4:Int)(x5:(List aK))(x6:(Int×((List Int)×((List aM)×Unit))))(x7:(List cL))(x8:(List aJ))(x9:Int)(x10:Unit)(x11:(List cL))(x12:(List aK))(x13:(List aJ))(x14:(List Int))(x15:(List aM)):Option (((List aJ)×((List cL)×(Int×(Int×aHk))))⊕((List aJ)×aHk)):=
 if(decide (x4<x3))=true then
 if(decide ((0:Int)<=x4))=true then
 if(decide (x4<((length x2:Nat):Int)))=true then
 if(iX.pre (List.getD x2 (Int.toNat x4) oR))=true then
 letB (iX (List.getD x2 (Int.toNat x4) oR)) fun v1=>
 if(decide (length x7+length (v1::([]:List cL))<=lT))=true then
 some (.inl (x1,(x2,(x3,((wrap .i64 (x4+(1:Int))),(x5,(x6,((List.append x7 (v1::([]:List cL))),(x8,(x9,(x10,(x11,(x12,(x13,(x14,(x15,()))))))))))))))))
 else
 none
 else
 none
 else
 none
 else
 none
 else
 some (.inr (x1,(x5,(x6,(x7,(x8,(x9,(x10,(x11,(x12,(x13,(x14,(x15,())))))))))))))
noncomputable def aEd(x1:(List aJ))(x2:Int)(x3:Int)(x4:(List aK))(x5:(Int×((List Int)×((List aM)×Unit))))(x6:(List cL))(x7:(List aJ))(x8:Int)(x9:Unit)(x10:(List cL))(x11:(List aK))(x12:(List aJ))(x13:(List Int))(x14:(List aM)):Option (((List aJ)×(Int×(Int×aHk)))⊕aHk):=
 if(decide (x3<x2))=true then
 if(decide ((0:Int)<=x3))=true then
 if(decide (x3<((length x1:Nat):Int)))=true then
 if(gD.pre (List.getD x1 (Int.toNat x3) vB))=true then
 letB (gD (List.getD x1 (Int.toNat x3) vB)) fun v1=>
 if(decide (length x7+length (v1::([]:List aJ))<=lT))=true then
 some (.inl (x1,(x2,((wrap .i64 (x3+(1:Int))),(x4,(x5,(x6,((List.append x7 (v1::([]:List aJ))),(x8,(x9,(x10,(x11,(x12,(x13,(x14,())))))))))))))))
 else
 none
 else
 none
 else
 none
 else
 none
 else
 some (.inr (x4,(x5,(x6,(x7,(x8,(x9,(x10,(x11,(x12,(x13,(x14,()))))))))))))
abbrev wf(x0:bI):Prop:=fW [(.val zk1 .f)] (x0,())
noncomputable def aR(x0:bI):Option (Unit×(bI×Unit)):=
 if(fY.pre4 (x0.2.2.1,(x0.1,(((length x0.1:Nat):Int),((0:Int),(x0.2.1,(x0.2.2.2,(([]:List cL),(([]:List aJ),aN8)))))))))=true then
 letB (fY.fn4 (x0.2.2.1,(x0.1,(((length x0.1:Nat):Int),((0:Int),(x0.2.1,(x0.2.2.2,(([]:List cL),(([]:List aJ),aN8))))))))) fun v1=>
 if(fY.pre9 (v1.1,(((length v1.1:Nat):Int),((0:Int),v1.2))))=true then
 letB (fY.fn9 (v1.1,(((length v1.1:Nat):Int),((0:Int),v1.2)))) fun v2=>
 if(fF.pre v2.1)=true then
 if(eD.pre v2.2.1.2.1)=true then
 if(decide (length ([]:List aM)+length v2.2.1.2.2.1<=lT))=true then
 letB (fF v2.1) fun v3=>
 letB (eD v2.2.1.2.1) fun v4=>
 some ((),((v2.2.2.1,(v3,(v2.2.2.2.1,(v2.2.1.1,(v4,((List.append ([]:List aM) v2.2.1.2.2.1),v2.2.1.2.2.2)))))),()))
 else
 none
 else
 none
 else
 none
 else
 none
 else
 none
theorem zE(x1 x2 x3 x4 x5 x6 x7 x8 x9 x10 x11 x12 x13 x14 x15)(hp:pre4 (x1,(x2,(x3,(x4,(x5,(x6,(x7,(x8,(x9,(x10,(x11,(x12,(x13,(x14,(x15,())))))))))))))))=true):Rounds pre4 qD fn4 (x1,(x2,(x3,(x4,(x5,(x6,(x7,(x8,(x9,(x10,(x11,(x12,(x13,(x14,(x15,()))))))))))))))) (hJ x1 x2 x3 x4 x5 x6 x7 x8 x9 x10 x11 x12 x13 x14 x15):=by
 have hp:tI iX.pre x2 x3 x4 x7=true:=hp
 unfold hJ
 by_cases hlt:x4<x3
 . obtain⟨hq,h0,h1,h2,h3,h4,h5,h6⟩:=aAX oR hp hlt
   rw[h3]
   refine fO (Zd hlt) ?_
   refine fO (Zd h0) ?_
   refine fO (Zd h1) ?_
   refine fO hq ?_
   refine lV ?_
   refine fO (Zd h2) ?_
   exact⟨h4,h6,congrArg (fun z:List cL=>((x1,(x5,(x6,(z,(x8,(x9,(x10,(x11,(x12,(x13,(x14,(x15,())))))))))))):O4)) h5⟩
 . refine jC (by rw[Za];exact hlt) ?_
   show _=_
   exact congrArg (fun z:List cL=>((x1,(x5,(x6,(z,(x8,(x9,(x10,(x11,(x12,(x13,(x14,(x15,())))))))))))):O4)) (aCB hp hlt).symm
theorem ok9(x1 x2 x3 x4 x5 x6 x7 x8 x9 x10 x11 x12 x13 x14)(hp:pre9 (x1,(x2,(x3,(x4,(x5,(x6,(x7,(x8,(x9,(x10,(x11,(x12,(x13,(x14,()))))))))))))))=true):Rounds pre9 mu9 fn9 (x1,(x2,(x3,(x4,(x5,(x6,(x7,(x8,(x9,(x10,(x11,(x12,(x13,(x14,())))))))))))))) (aEd x1 x2 x3 x4 x5 x6 x7 x8 x9 x10 x11 x12 x13 x14):=by
 have hp:tI gD.pre x1 x2 x3 x7=true:=hp
 unfold aEd
 by_cases hlt:x3<x2
 . obtain⟨hq,h0,h1,h2,h3,h4,h5,h6⟩:=aAX vB hp hlt
   rw[h3]
   refine fO (Zd hlt) ?_
   refine fO (Zd h0) ?_
   refine fO (Zd h1) ?_
   refine fO hq ?_
   refine lV ?_
   refine fO (Zd h2) ?_
   exact⟨h4,h6,congrArg (fun z:List aJ=>((x4,(x5,(x6,(z,(x8,(x9,(x10,(x11,(x12,(x13,(x14,()))))))))))):O9)) h5⟩
 . refine jC (by rw[Za];exact hlt) ?_
   show _=_
   exact congrArg (fun z:List aJ=>((x4,(x5,(x6,(z,(x8,(x9,(x10,(x11,(x12,(x13,(x14,()))))))))))):O9)) (aCB hp hlt).symm
theorem eq(x0:bI)(_:wf x0)(hp:pre x0=true):aR x0=some ((),(fY x0,())):=by
 simp only[pre,Zb] at hp
 obtain⟨a1,a2,a3,a4,a5,a6,a7,a8⟩:=hp
 unfold aR
 refine dS (show pre4 _=true from zB a1 a2) (cU ?_)
 refine dS (show pre9 _=true from zB a5 a6) (cU ?_)
 refine dS (show fF.pre x0.2.1=true by rw[fF.pre,a3,a4];rfl) ?_
 refine dS (show eD.pre x0.2.2.2.2.1=true from a7) ?_
 exact dS (Zd (tY a8)) rfl
end fY
def gT(x:bI):bI:=x
namespace gT
abbrev S3:Type:=(Int×(bI×zt3))
abbrev O3:Type:=(bI×zt3)
abbrev S7:Type:=(Int×(bI×zt3))
abbrev O7:Type:=(bI×zt3)
abbrev S11:Type:=(Int×(bI×zt3))
abbrev O11:Type:=zt3
def pre(x:bI):Bool:=dI x.1&&(x.1.all jX.pre&&(dI x.2.1&&(x.2.1.all jZ.pre&&(dI x.2.2.1&&(x.2.2.1.all jY.pre&&(dI x.2.2.2.2.1&&dI x.2.2.2.2.2.1))))))
def pre3:S3->Bool:=fun(x1,x2,_,_,_,_,_,_,_,_,_,x12,_,_,_,_,_)=>tI jX.pre x2.1 ((length x2.1:Nat):Int) x1 x12
def fn3:S3->O3:=fun(x1,x2,x3,x4,x5,x6,x7,x8,x9,x10,x11,x12,x13,x14,x15,x16,_)=>(x2,(x3,(x4,(x5,(x6,(x7,(x8,(x9,(x10,(x11,(x12++x2.1.drop x1.toNat,(x13,(x14,(x15,(x16,())))))))))))))))
def mu3:S3->Nat:=fun(x1,x2,_,_,_,_,_,_,_,_,_,_,_,_,_,_,_)=>x2.1.length-x1.toNat
def pre7:S7->Bool:=fun(x1,x2,_,_,_,_,_,_,_,_,_,_,x13,_,_,_,_)=>tI jZ.pre x2.2.1 ((length x2.2.1:Nat):Int) x1 x13
def fn7:S7->O7:=fun(x1,x2,x3,x4,x5,x6,x7,x8,x9,x10,x11,x12,x13,x14,x15,x16,_)=>(x2,(x3,(x4,(x5,(x6,(x7,(x8,(x9,(x10,(x11,(x12,(x13++x2.2.1.drop x1.toNat,(x14,(x15,(x16,())))))))))))))))
def mu7:S7->Nat:=fun(x1,x2,_,_,_,_,_,_,_,_,_,_,_,_,_,_,_)=>x2.2.1.length-x1.toNat
def pre11:S11->Bool:=fun(x1,x2,_,_,_,_,_,_,_,_,_,_,_,x14,_,_,_)=>tI jY.pre x2.2.2.1 ((length x2.2.2.1:Nat):Int) x1 x14
def fn11:S11->O11:=fun(x1,x2,x3,x4,x5,x6,x7,x8,x9,x10,x11,x12,x13,x14,x15,x16,_)=>(x3,(x4,(x5,(x6,(x7,(x8,(x9,(x10,(x11,(x12,(x13,(x14++x2.2.2.1.drop x1.toNat,(x15,(x16,()))))))))))))))
def aKr:S11->Nat:=fun(x1,x2,_,_,_,_,_,_,_,_,_,_,_,_,_,_,_)=>x2.2.2.1.length-x1.toNat
noncomputable def pK(x1:Int)(x2:bI)(x3:Int)(x4:Unit)(x5:(List cL))(x6:(List aK))(x7:(List aJ))(x8:(List Int))(x9:(List aM))(x10:Int)(x11:Unit)(x12:(List cL))(x13:(List aK))(x14:(List aJ))(x15:(List Int))(x16:(List aM)):Option ((Int×(bI×zt3))⊕(bI×zt3)):=
 if(decide (x1<((length x2.1:Nat):Int)))=true then
 if(decide ((0:Int)<=x1))=true then
 if(decide (x1<((length x2.1:Nat):Int)))=true then
 if(jX.pre (List.getD x2.1 (Int.toNat x1) oR))=true then
 letB (jX (List.getD x2.1 (Int.toNat x1) oR)) fun v1=>
 if(decide (length x12+length (v1::([]:List cL))<=lT))=true then
 some (.inl ((wrap .i64 (x1+(1:Int))),(x2,(x3,(x4,(x5,(x6,(x7,(x8,(x9,(x10,(x11,((List.append x12 (v1::([]:List cL))),(x13,(x14,(x15,(x16,())))))))))))))))))
 else
 none
 else
 none
 else
 none
 else
 none
 else
 some (.inr (x2,(x3,(x4,(x5,(x6,(x7,(x8,(x9,(x10,(x11,(x12,(x13,(x14,(x15,(x16,()))))))))))))))))
noncomputable def aDV(x1:Int)(x2:bI)(x3:Int)(x4:Unit)(x5:(List cL))(x6:(List aK))(x7:(List aJ))(x8:(List Int))(x9:(List aM))(x10:Int)(x11:Unit)(x12:(List cL))(x13:(List aK))(x14:(List aJ))(x15:(List Int))(x16:(List aM)):Option ((Int×(bI×zt3))⊕(bI×zt3)):=
 if(decide (x1<((length x2.2.1:Nat):Int)))=true then
 if(decide ((0:Int)<=x1))=true then
 if(decide (x1<((length x2.2.1:Nat):Int)))=true then
 if(jZ.pre (List.getD x2.2.1 (Int.toNat x1) rF))=true then
 letB (jZ (List.getD x2.2.1 (Int.toNat x1) rF)) fun v1=>
 if(decide (length x13+length (v1::([]:List aK))<=lT))=true then
 some (.inl ((wrap .i64 (x1+(1:Int))),(x2,(x3,(x4,(x5,(x6,(x7,(x8,(x9,(x10,(x11,(x12,((List.append x13 (v1::([]:List aK))),(x14,(x15,(x16,())))))))))))))))))
 else
 none
 else
 none
 else
 none
 else
 none
 else
 some (.inr (x2,(x3,(x4,(x5,(x6,(x7,(x8,(x9,(x10,(x11,(x12,(x13,(x14,(x15,(x16,()))))))))))))))))
noncomputable def aDZ(x1:Int)(x2:bI)(x3:Int)(x4:Unit)(x5:(List cL))(x6:(List aK))(x7:(List aJ))(x8:(List Int))(x9:(List aM))(x10:Int)(x11:Unit)(x12:(List cL))(x13:(List aK))(x14:(List aJ))(x15:(List Int))(x16:(List aM)):Option ((Int×(bI×zt3))⊕zt3):=
 if(decide (x1<((length x2.2.2.1:Nat):Int)))=true then
 if(decide ((0:Int)<=x1))=true then
 if(decide (x1<((length x2.2.2.1:Nat):Int)))=true then
 if(jY.pre (List.getD x2.2.2.1 (Int.toNat x1) vB))=true then
 letB (jY (List.getD x2.2.2.1 (Int.toNat x1) vB)) fun v1=>
 if(decide (length x14+length (v1::([]:List aJ))<=lT))=true then
 some (.inl ((wrap .i64 (x1+(1:Int))),(x2,(x3,(x4,(x5,(x6,(x7,(x8,(x9,(x10,(x11,(x12,(x13,((List.append x14 (v1::([]:List aJ))),(x15,(x16,())))))))))))))))))
 else
 none
 else
 none
 else
 none
 else
 none
 else
 some (.inr (x3,(x4,(x5,(x6,(x7,(x8,(x9,(x10,(x11,(x12,(x13,(x14,(x15,(x16,())))))))))))))))
abbrev wf(x0:bI):Prop:=fW [(.val zk1 .f)] (x0,())
noncomputable def aR(x0:bI):Option (Unit×(bI×Unit)):=
 if(decide (length ([]:List Int)+length x0.2.2.2.2.1<=lT))=true then
 if(decide (length ([]:List aM)+length x0.2.2.2.2.2.1<=lT))=true then
 if(gT.pre3 ((0:Int),(x0,((0:Int),((),(([]:List cL),(([]:List aK),(([]:List aJ),(([]:List Int),(([]:List aM),(x0.2.2.2.1,((),(([]:List cL),(([]:List aK),(([]:List aJ),((List.append ([]:List Int) x0.2.2.2.2.1),((List.append ([]:List aM) x0.2.2.2.2.2.1),())))))))))))))))))=true then
 letB (gT.fn3 ((0:Int),(x0,((0:Int),((),(([]:List cL),(([]:List aK),(([]:List aJ),(([]:List Int),(([]:List aM),(x0.2.2.2.1,((),(([]:List cL),(([]:List aK),(([]:List aJ),((List.append ([]:List Int) x0.2.2.2.2.1),((List.append ([]:List aM) x0.2.2.2.2.2.1),()))))))))))))))))) fun v1=>
 if(gT.pre7 ((0:Int),v1))=true then
 letB (gT.fn7 ((0:Int),v1)) fun v2=>
 if(gT.pre11 ((0:Int),v2))=true then
 letB (gT.fn11 ((0:Int),v2)) fun v3=>
 some ((),((v3.2.2.2.2.2.2.2.2.2.1,(v3.2.2.2.2.2.2.2.2.2.2.1,(v3.2.2.2.2.2.2.2.2.2.2.2.1,(v3.2.2.2.2.2.2.2.1,(v3.2.2.2.2.2.2.2.2.2.2.2.2.1,(v3.2.2.2.2.2.2.2.2.2.2.2.2.2.1,v3.2.2.2.2.2.2.2.2.1)))))),()))
 else
 none
 else
 none
 else
 none
 else
 none
 else
 none
theorem ok3(x1 x2 x3 x4 x5 x6 x7 x8 x9 x10 x11 x12 x13 x14 x15 x16)(hp:pre3 (x1,(x2,(x3,(x4,(x5,(x6,(x7,(x8,(x9,(x10,(x11,(x12,(x13,(x14,(x15,(x16,()))))))))))))))))=true):Rounds pre3 mu3 fn3 (x1,(x2,(x3,(x4,(x5,(x6,(x7,(x8,(x9,(x10,(x11,(x12,(x13,(x14,(x15,(x16,())))))))))))))))) (pK x1 x2 x3 x4 x5 x6 x7 x8 x9 x10 x11 x12 x13 x14 x15 x16):=by
 have hp:tI jX.pre x2.1 ((length x2.1:Nat):Int) x1 x12=true:=hp
 unfold pK
 by_cases hlt:x1<((length x2.1:Nat):Int)
 . obtain⟨hq,h0,h1,h2,h3,h4,h5,h6⟩:=aAX oR hp hlt
   rw[h3]
   refine fO (Zd hlt) ?_
   refine fO (Zd h0) ?_
   refine fO (Zd h1) ?_
   refine fO hq ?_
   refine lV ?_
   refine fO (Zd h2) ?_
   exact⟨h4,h6,congrArg (fun z:List cL=>((x2,(x3,(x4,(x5,(x6,(x7,(x8,(x9,(x10,(x11,(z,(x13,(x14,(x15,(x16,()))))))))))))))):O3)) h5⟩
 . refine jC (by rw[Za];exact hlt) ?_
   show _=_
   exact congrArg (fun z:List cL=>((x2,(x3,(x4,(x5,(x6,(x7,(x8,(x9,(x10,(x11,(z,(x13,(x14,(x15,(x16,()))))))))))))))):O3)) (aCB hp hlt).symm
theorem ok7(x1 x2 x3 x4 x5 x6 x7 x8 x9 x10 x11 x12 x13 x14 x15 x16)(hp:pre7 (x1,(x2,(x3,(x4,(x5,(x6,(x7,(x8,(x9,(x10,(x11,(x12,(x13,(x14,(x15,(x16,()))))))))))))))))=true):Rounds pre7 mu7 fn7 (x1,(x2,(x3,(x4,(x5,(x6,(x7,(x8,(x9,(x10,(x11,(x12,(x13,(x14,(x15,(x16,())))))))))))))))) (aDV x1 x2 x3 x4 x5 x6 x7 x8 x9 x10 x11 x12 x13 x14 x15 x16):=by
 have hp:tI jZ.pre x2.2.1 ((length x2.2.1:Nat):Int) x1 x13=true:=hp
 unfold aDV
 by_cases hlt:x1<((length x2.2.1:Nat):Int)
 . obtain⟨hq,h0,h1,h2,h3,h4,h5,h6⟩:=aAX rF hp hlt
   rw[h3]
   refine fO (Zd hlt) ?_
   refine fO (Zd h0) ?_
   refine fO (Zd h1) ?_
   refine fO hq ?_
   refine lV ?_
   refine fO (Zd h2) ?_
   exact⟨h4,h6,congrArg (fun z:List aK=>((x2,(x3,(x4,(x5,(x6,(x7,(x8,(x9,(x10,(x11,(x12,(z,(x14,(x15,(x16,()))))))))))))))):O7)) h5⟩
 . refine jC (by rw[Za];exact hlt) ?_
   show _=_
   exact congrArg (fun z:List aK=>((x2,(x3,(x4,(x5,(x6,(x7,(x8,(x9,(x10,(x11,(x12,(z,(x14,(x15,(x16,()))))))))))))))):O7)) (aCB hp hlt).symm
theorem aO4(x1 x2 x3 x4 x5 x6 x7 x8 x9 x10 x11 x12 x13 x14 x15 x16)(hp:pre11 (x1,(x2,(x3,(x4,(x5,(x6,(x7,(x8,(x9,(x10,(x11,(x12,(x13,(x14,(x15,(x16,()))))))))))))))))=true):Rounds pre11 aKr fn11 (x1,(x2,(x3,(x4,(x5,(x6,(x7,(x8,(x9,(x10,(x11,(x12,(x13,(x14,(x15,(x16,())))))))))))))))) (aDZ x1 x2 x3 x4 x5 x6 x7 x8 x9 x10 x11 x12 x13 x14 x15 x16):=by
 have hp:tI jY.pre x2.2.2.1 ((length x2.2.2.1:Nat):Int) x1 x14=true:=hp
 unfold aDZ
 by_cases hlt:x1<((length x2.2.2.1:Nat):Int)
 . obtain⟨hq,h0,h1,h2,h3,h4,h5,h6⟩:=aAX vB hp hlt
   rw[h3]
   refine fO (Zd hlt) ?_
   refine fO (Zd h0) ?_
   refine fO (Zd h1) ?_
   refine fO hq ?_
   refine lV ?_
   refine fO (Zd h2) ?_
   exact⟨h4,h6,congrArg (fun z:List aJ=>((x3,(x4,(x5,(x6,(x7,(x8,(x9,(x10,(x11,(x12,(x13,(z,(x15,(x16,())))))))))))))):O11)) h5⟩
 . refine jC (by rw[Za];exact hlt) ?_
   show _=_
   exact congrArg (fun z:List aJ=>((x3,(x4,(x5,(x6,(x7,(x8,(x9,(x10,(x11,(x12,(x13,(z,(x15,(x16,())))))))))))))):O11)) (aCB hp hlt).symm
theorem eq(x0:bI)(_:wf x0)(hp:pre x0=true):aR x0=some ((),(gT x0,())):=by
 simp only[pre,Zb] at hp
 obtain⟨a1,a2,a3,a4,a5,a6,a7,a8⟩:=hp
 unfold aR
 refine dS (Zd (tY a7)) (dS (Zd (tY a8)) ?_)
 refine dS (show pre3 _=true from zB a1 a2) (cU ?_)
 refine dS (show pre7 _=true from zB a3 a4) (cU ?_)
 exact dS (show pre11 _=true from zB a5 a6) (cU rfl)
end gT
def cD(x:jV):jV:=x
namespace cD
def pre(x:jV):Bool:=aN.pre x.2.2.1&&fY.pre x.2.2.2.1
abbrev wf(x0:rL):Prop:=fW [(.val aEM .f)] (x0,())
noncomputable def aR(x0:rL):Option (Unit×(rL×Unit)):=
 if(aN.pre x0.2.2.1)=true then
 if(fY.pre x0.2.2.2.1)=true then
 letB (aN x0.2.2.1) fun v1=>
 letB (fY x0.2.2.2.1) fun v2=>
 some ((),((x0.1,(x0.2.1,(v1,(v2,x0.2.2.2.2)))),()))
 else
 none
 else
 none
theorem eq(x0:jV)(_:wf x0)(hp:pre x0=true):aR x0=some ((),(cD x0,())):=by
 simp only[pre,Zb] at hp
 unfold aR
 exact dS hp.1 (dS hp.2 rfl)
end cD
def gH(x:jV):jV:=x
namespace gH
def pre(x:jV):Bool:=aT.pre x.2.2.1&&gT.pre x.2.2.2.1
abbrev wf(x0:rL):Prop:=fW [(.val aEM .f)] (x0,())
noncomputable def aR(x0:rL):Option (Unit×(rL×Unit)):=
 if(aT.pre x0.2.2.1)=true then
 if(gT.pre x0.2.2.2.1)=true then
 letB (aT x0.2.2.1) fun v1=>
 letB (gT x0.2.2.2.1) fun v2=>
 some ((),((x0.1,(x0.2.1,(v1,(v2,())))),()))
 else
 none
 else
 none
theorem eq(x0:jV)(_:wf x0)(hp:pre x0=true):aR x0=some ((),(gH x0,())):=by
 simp only[pre,Zb] at hp
 unfold aR
 exact dS hp.1 (dS hp.2 rfl)
end gH
namespace lO
def pre(l:iT)(_:Int):Bool:=dI l.2.2.1
abbrev wf(x0:iT)(x1:Int):Prop:=fW [(.val aAi .f),(.val (.int .i64) .f)] (x0,(x1,()))
noncomputable def aR(x0:iT)(x1:Int):Option (Unit×(iT×Unit)):=
 if(aT.pre x0)=true then
 if(decide ((cG x0 x1)<(0:Int)))=true then
 some ((),((aT x0),()))
 else
 if(decide ((0:Int)<=(cG x0 x1)))=true then
 if(decide ((cG x0 x1)<((length x0.2.2.1:Nat):Int)))=true then
 if(decide ((0:Int)<=(wrap .i64 ((cG x0 x1)+(1:Int)))))=true then
 if(decide ((wrap .i64 ((cG x0 x1)+(1:Int)))<=((length x0.2.2.1:Nat):Int)))=true then
 if(decide (((length x0.2.2.1:Nat):Int)<=((length x0.2.2.1:Nat):Int)))=true then
 if(decide (length ([]:List aL)+length (bE (Int.toNat (wrap .i64 ((cG x0 x1)+(1:Int)))) (Int.toNat ((length x0.2.2.1:Nat):Int)) x0.2.2.1)<=lT))=true then
 some ((),((x1,((List.getD x0.2.2.1 (Int.toNat (cG x0 x1)) wX).1,((List.append ([]:List aL) (bE (Int.toNat (wrap .i64 ((cG x0 x1)+(1:Int)))) (Int.toNat ((length x0.2.2.1:Nat):Int)) x0.2.2.1)),()))),()))
 else
 none
 else
 none
 else
 none
 else
 none
 else
 none
 else
 none
 else
 none
theorem eq(x0:iT)(x1:Int)(_:wf x0 x1)(hp:pre x0 x1=true):aR x0 x1=some ((),(lO x0 x1,())):=by
 have hc:aT.pre x0=true:=hp
 rw[pre,cC] at hp
 unfold aR lO aBH aT
 by_cases h:cG x0 x1<0
 . simp[h,hc]
 . have hb:cG x0 x1<(x0.2.2.1.length:Int):=by
    have h':=h
    unfold cG at h' ⊢
    split at h'<;>rename_i hh
    . omega
    . rw[if_neg hh];omega
   have hl:=dropTake_len (Int.toNat (cG x0 x1+1)) x0.2.2.1.length x0.2.2.1
   have h0:0<=cG x0 x1:=by omega
   rw[iV (n:=cG x0 x1+1) (by omega) (by omega)]
   have h1:0<=cG x0 x1+1:=by omega
   have h2:cG x0 x1+1<=(x0.2.2.1.length:Int):=by omega
   rw[if_pos hc,if_neg (by simp[h]),if_pos (by simp[h0]),if_pos (by simp[hb]),if_pos (by simp[h1]),if_pos (by simp[h2]),if_pos (by simp),Int.toNat_natCast,if_pos (by simp only[Zh,Za,lT];omega),if_neg h,aCm]
   rw[show(cG x0 x1+1).toNat=(cG x0 x1).toNat+1 by omega]
   rfl
end lO
namespace lS
def pre(l:iT)(_:Int):Bool:=dI l.2.2.1
abbrev wf(x0:iT)(x1:Int):Prop:=fW [(.val aAi .f),(.val (.int .i64) .f)] (x0,(x1,()))
noncomputable def aR(x0:iT)(x1:Int):Option (Unit×(iT×Unit)):=
 if(!(aB x0.1 (0:Int) (300:Int)))=true then
 if(aN.pre x0)=true then
 some ((),((aN x0),()))
 else
 none
 else
 if(!(aB x1 (0:Int) (300:Int)))=true then
 if(aN.pre x0)=true then
 some ((),((aN x0),()))
 else
 none
 else
 if(decide (x1<=x0.1))=true then
 if(aN.pre x0)=true then
 some ((),((aN x0),()))
 else
 none
 else
 if(decide (((length x0.2.2.1:Nat):Int)<(wrap .i64 (x1-x0.1))))=true then
 if(aN.pre x0)=true then
 some ((),((aN x0),()))
 else
 none
 else
 if(decide ((0:Int)<=(wrap .i64 ((wrap .i64 (x1-x0.1))-(1:Int)))))=true then
 if(decide ((wrap .i64 ((wrap .i64 (x1-x0.1))-(1:Int)))<((length x0.2.2.1:Nat):Int)))=true then
 if(decide ((0:Int)<=(wrap .i64 (x1-x0.1))))=true then
 if(decide ((wrap .i64 (x1-x0.1))<=((length x0.2.2.1:Nat):Int)))=true then
 if(decide (((length x0.2.2.1:Nat):Int)<=((length x0.2.2.1:Nat):Int)))=true then
 if(decide (length ([]:List aL)+length (bE (Int.toNat (wrap .i64 (x1-x0.1))) (Int.toNat ((length x0.2.2.1:Nat):Int)) x0.2.2.1)<=lT))=true then
 some ((),((x1,((List.getD x0.2.2.1 (Int.toNat (wrap .i64 ((wrap .i64 (x1-x0.1))-(1:Int)))) wX).1,((List.append ([]:List aL) (bE (Int.toNat (wrap .i64 (x1-x0.1))) (Int.toNat ((length x0.2.2.1:Nat):Int)) x0.2.2.1)),()))),()))
 else
 none
 else
 none
 else
 none
 else
 none
 else
 none
 else
 none
theorem eq(x0:iT)(x1:Int)(_:wf x0 x1)(hp:pre x0 x1=true):aR x0 x1=some ((),(lS x0 x1,())):=by
 have hc:aN.pre x0=true:=hp
 rw[pre,cC] at hp
 unfold aR lS aBH aN cG
 simp only[hc,if_true,aB]
 by_cases h1:x1<=x0.1
 . have:¬(0<=x0.1/\x0.1<=300/\0<=x1/\x1<=300/\¬x1<=x0.1):=fun h=>h.2.2.2.2 h1
   simp[h1]
 by_cases h2:300<x1
 . have h2':¬x1<=300:=by omega
   simp[h1,h2,h2']
 by_cases h3:x0.1<0
 . have h3':¬0<=x0.1:=by omega
   simp[h1,h2,h3,h3']
 have g1:0<=x0.1:=by omega
 have g2:x0.1<=300:=by omega
 have g3:0<=x1:=by omega
 have g4:x1<=300:=by omega
 rw[iV (n:=x1-x0.1) (by omega) (by omega),iV (n:=x1-x0.1-1) (by omega) (by omega)]
 by_cases h4:(x0.2.2.1.length:Int)<=x1-x0.1-1
 . have h5:(x0.2.2.1.length:Int)<x1-x0.1:=by omega
   simp[h1,h2,h3,h4,h5,g1,g2,g3,g4]
 . have h5:¬(x0.2.2.1.length:Int)<x1-x0.1:=by omega
   have h6:0<=x1-x0.1-1:=by omega
   have h7:x1-x0.1-1<(x0.2.2.1.length:Int):=by omega
   have h8:0<=x1-x0.1:=by omega
   have h9:x1-x0.1<=(x0.2.2.1.length:Int):=by omega
   have hl:=dropTake_len (Int.toNat (x1-x0.1)) x0.2.2.1.length x0.2.2.1
   rw[if_neg (by simp[g1,g2]),if_neg (by simp[g3,g4]),if_neg (by simp[h1]),if_neg (by simp[h5]),if_pos (by rw[Za];exact h6),if_pos (by rw[Za];exact h7),if_pos (by rw[Za];exact h8),if_pos (by rw[Za];exact h9),if_pos (by simp),Int.toNat_natCast,
    if_pos (by simp only[Zh,Za,lT];omega),if_neg (show ¬(x1<=x0.1\/300<x1\/x0.1<0\/(x0.2.2.1.length:Int)<=x1-x0.1-1) by omega),aCm]
   rw[if_neg (show ¬x1-x0.1-1<0 by omega),show(x1-x0.1).toNat=(x1-x0.1-1).toNat+1 by omega]
   rfl
end lS
def rD(l:iT)(i:Int):Int:=if i=l.1 then l.2.1 else if cG l i<0 then -1 else(l.2.2.1.getD (cG l i).toNat E0).1
abbrev mS:=rD
abbrev mI:=rD
theorem aJN{l:iT}{i:Int}(h:¬cG l i<0):cG l i<(l.2.2.1.length:Int)/\cG l i=i-l.1-1/\0<=l.1/\i<=300/\l.1<i:=by
 unfold cG at h ⊢
 split at h<;>rename_i hh
 . omega
 . rw[if_neg hh];omega
namespace mI
abbrev wf(x0:iT)(x1:Int):Prop:=fW [(.val aAi .f),(.val (.int .i64) .f)] (x0,(x1,()))
noncomputable def aR(x0:iT)(x1:Int):Option xT:=
 if(decide (x1=x0.1))=true then
 some ((),(x0.2.1,()))
 else
 if(decide ((cG x0 x1)<(0:Int)))=true then
 some ((),((-1:Int),()))
 else
 if(decide ((0:Int)<=(cG x0 x1)))=true then
 if(decide ((cG x0 x1)<((length x0.2.2.1:Nat):Int)))=true then
 some ((),((List.getD x0.2.2.1 (Int.toNat (cG x0 x1)) wX).1,()))
 else
 none
 else
 none
theorem eq(x0:iT)(x1:Int)(_:wf x0 x1):aR x0 x1=some ((),(mI x0 x1,())):=by
 unfold aR mI rD
 by_cases h:x1=x0.1
 . simp[h]
 by_cases h2:cG x0 x1<0
 . simp[h,h2]
 . obtain⟨g1,_⟩:=aJN h2
   rw[if_neg (by simp[h]),if_neg (by simp[h2]),if_pos (by rw[Za];omega),if_pos (by rw[Za];exact g1),if_neg h,if_neg h2]
end mI
namespace mS
abbrev wf(x0:iT)(x1:Int):Prop:=fW [(.val aAi .f),(.val (.int .i64) .f)] (x0,(x1,()))
noncomputable def aR(x0:iT)(x1:Int):Option xT:=
 if(decide (x1=x0.1))=true then
 some ((),(x0.2.1,()))
 else
 if(!(aB x0.1 (0:Int) (300:Int)))=true then
 some ((),((-1:Int),()))
 else
 if(!(aB x1 (0:Int) (300:Int)))=true then
 some ((),((-1:Int),()))
 else
 if(!(aB (wrap .i64 (x1-x0.1)) (1:Int) ((length x0.2.2.1:Nat):Int)))=true then
 some ((),((-1:Int),()))
 else
 if(decide ((0:Int)<=(wrap .i64 ((wrap .i64 (x1-x0.1))-(1:Int)))))=true then
 if(decide ((wrap .i64 ((wrap .i64 (x1-x0.1))-(1:Int)))<((length x0.2.2.1:Nat):Int)))=true then
 some ((),((List.getD x0.2.2.1 (Int.toNat (wrap .i64 ((wrap .i64 (x1-x0.1))-(1:Int)))) wX).1,()))
 else
 none
 else
 none
theorem eq(x0:iT)(x1:Int)(_:wf x0 x1):aR x0 x1=some ((),(mS x0 x1,())):=by
 unfold aR mS rD cG aB
 by_cases h:x1=x0.1
 . simp[h]
 by_cases h1:0<=x0.1/\x0.1<=300
 case neg=>
  have hc:(!(decide (0<=x0.1)&&decide (x0.1<=300)))=true:=by
   simp only[Bool.not_eq_true',Bool.and_eq_false_iff,Zv];omega
  rw[if_neg (by simp[h]),if_pos hc,if_neg h]
  by_cases h2:x1<=x0.1\/300<x1\/x0.1<0\/(x0.2.2.1.length:Int)<=x1-x0.1-1
  . rw[if_pos h2];rfl
  . omega
 obtain⟨g1,g2⟩:=h1
 by_cases h3:0<=x1/\x1<=300
 case neg=>
  have hc:(!(decide (0<=x1)&&decide (x1<=300)))=true:=by
   simp only[Bool.not_eq_true',Bool.and_eq_false_iff,Zv];omega
  rw[if_neg (by simp[h]),if_neg (by simp[g1,g2]),if_pos hc,if_neg h]
  by_cases h2:x1<=x0.1\/300<x1\/x0.1<0\/(x0.2.2.1.length:Int)<=x1-x0.1-1
  . rw[if_pos h2];rfl
  . omega
 obtain⟨g3,g4⟩:=h3
 rw[iV (n:=x1-x0.1) (by omega) (by omega),iV (n:=x1-x0.1-1) (by omega) (by omega)]
 by_cases h5:1<=x1-x0.1/\x1-x0.1<=(x0.2.2.1.length:Int)
 case neg=>
  have hc:(!(decide (1<=x1-x0.1)&&decide (x1-x0.1<=(x0.2.2.1.length:Int))))=true:=by
   simp only[Bool.not_eq_true',Bool.and_eq_false_iff,Zv];omega
  rw[if_neg (by simp[h]),if_neg (by simp[g1,g2]),if_neg (by simp[g3,g4]),if_pos hc,if_neg h]
  by_cases h2:x1<=x0.1\/300<x1\/x0.1<0\/(x0.2.2.1.length:Int)<=x1-x0.1-1
  . rw[if_pos h2];rfl
  . omega
 obtain⟨g5,g6⟩:=h5
 have hn:¬(x1<=x0.1\/300<x1\/x0.1<0\/(x0.2.2.1.length:Int)<=x1-x0.1-1):=by omega
 have hc:¬(!(decide (1<=x1-x0.1)&&decide (x1-x0.1<=(x0.2.2.1.length:Int))))=true:=by
  rw[Zd g5,Zd g6];simp
 rw[if_neg (by simp[h]),if_neg (by simp[g1,g2]),if_neg (by simp[g3,g4]),if_neg hc,if_pos (by rw[Za];omega),if_pos (by rw[Za];omega),if_neg h,if_neg hn,if_neg (by omega)]
end mS
def aCS:List aL->List aL->Nat->List aL
 |[],out,_=>out
 |e::r,out,k=>if k<out.length/\(out.getD k E0).1=e.1 then aCS r out (k+1) else aCS r (out.take k++[e]) (k+1)
theorem aHx{x2 out:List aL}{i k:Nat}(hi:i<x2.length):aCS (x2.drop i) out k=
 if k<out.length/\(out.getD k E0).1=(x2.getD i E0).1 then aCS (x2.drop (i+1)) out (k+1) else aCS (x2.drop (i+1)) (out.take k++[x2.getD i E0]) (k+1):=by
 rw[Zn hi,eV hi]
 rfl
def wO(prev base i:Int):Nat:=(prev-base+i).toNat
def uU(l:iT)(prev term:Int)(xs:List aL):iT×Bool:=
 if rJ l=true then
  if term<0 then(l,false) else
  if rD l prev=term then
   if rJ (l.1,(l.2.1,(aCS xs l.2.2.1 (wO prev l.1 0),())))=true then((l.1,(l.2.1,(aCS xs l.2.2.1 (wO prev l.1 0),()))),true) else(l,false)
  else(l,false)
 else(aJl,false)
abbrev eA:=uU
abbrev eB:=uU
theorem zX{l:iT}(h:rJ l=true):0<=l.1/\l.1<=300/\(l.2.2.1.length:Int)<=300-l.1:=by
 simp only[rJ,Zb,Za] at h
 have:=tL h.1
 exact⟨this.1,this.2,h.2.2.1⟩
theorem aFB{l:iT}{i t:Int}(h:rD l i=t)(ht:¬t<0):0<=i-l.1/\i-l.1<=(l.2.2.1.length:Int):=by
 unfold rD at h
 split at h
 . omega
 . split at h
   . omega
   . rename_i h2
     obtain⟨g1,g2,_⟩:=aJN h2
     omega
namespace eA
def pre(l:iT)(_ _:Int)(xs:List aL):Bool:=dI l.2.2.1&&dI xs
abbrev S:=Int×(List aL×(Int×(Int×(iT×aMI))))
def pre7:S->Bool:=fun(x1,x2,x3,x4,x5,_,_,_,_,_,_,_,x13,_)=>
 decide (x2.length<=16777216)&&(decide (x13.length<=16777216+x4.toNat)&&(decide (x3=(x2.length:Int))&&(decide (0<=x4)&&(decide (x4<=(x2.length:Int))&&(decide (0<=x5.1)&&(decide (x5.1<=300)&&(decide (0<=x1-x5.1)&&decide (x1-x5.1+x4<=(x13.length:Int)))))))))
def fn7:S->iT×aMI:=fun(x1,x2,_,x4,x5,x6,x7,x8,x9,x10,x11,x12,x13,_)=>
 (x5,(x6,(x7,(x8,(x9,(x10,(x11,(x12,(aCS (x2.drop x4.toNat) x13 (wO x1 x5.1 x4),())))))))))
def mu7:S->Nat:=fun(_,x2,_,x4,_)=>x2.length-x4.toNat
noncomputable def aDV(x1:Int)(x2:(List aL))(x3:Int)(x4:Int)(x5:iT)(x6:Int)(x7:Int)(x8:Unit)(x9:(List aL))(x10:Int)(x11:Int)(x12:Unit)(x13:(List aL)):Option ((Int×((List aL)×(Int×(Int×aMX))))⊕aMX):=
 if(decide (x4<x3))=true then
 if(decide ((0:Int)<=x4))=true then
 if(decide (x4<((length x2:Nat):Int)))=true then
 if(decide ((wrap .i64 ((wrap .i64 (x1-x5.1))+x4))<((length x13:Nat):Int)))=true then
 if(decide ((0:Int)<=(wrap .i64 ((wrap .i64 (x1-x5.1))+x4))))=true then
 if(decide ((wrap .i64 ((wrap .i64 (x1-x5.1))+x4))<((length x13:Nat):Int)))=true then
 if(decide ((List.getD x13 (Int.toNat (wrap .i64 ((wrap .i64 (x1-x5.1))+x4))) wX).1=(List.getD x2 (Int.toNat x4) wX).1))=true then
 some (.inl (x1,(x2,(x3,((wrap .i64 (x4+(1:Int))),(x5,(x6,(x7,(x8,(x9,(x10,(x11,(x12,(x13,()))))))))))))))
 else
 if(decide ((0:Int)<=(0:Int)))=true then
 if(decide ((0:Int)<=(wrap .i64 ((wrap .i64 (x1-x5.1))+x4))))=true then
 if(decide ((wrap .i64 ((wrap .i64 (x1-x5.1))+x4))<=(wrap .i64 ((wrap .i64 (x1-x5.1))+x4))))=true then
 if(decide ((wrap .i64 ((wrap .i64 (x1-x5.1))+x4))<=((length x13:Nat):Int)))=true then
 if(decide (length (bE (Int.toNat (0:Int)) (Int.toNat (wrap .i64 ((wrap .i64 (x1-x5.1))+x4))) x13)+length ((List.getD x2 (Int.toNat x4) wX)::([]:List aL))<=lT))=true then
 some (.inl (x1,(x2,(x3,((wrap .i64 (x4+(1:Int))),(x5,(x6,(x7,(x8,(x9,(x10,(x11,(x12,((List.append (bE (Int.toNat (0:Int)) (Int.toNat (wrap .i64 ((wrap .i64 (x1-x5.1))+x4))) x13) ((List.getD x2 (Int.toNat x4) wX)::([]:List aL))),()))))))))))))))
 else
 none
 else
 none
 else
 none
 else
 none
 else
 none
 else
 none
 else
 none
 else
 if(decide ((0:Int)<=(0:Int)))=true then
 if(decide ((0:Int)<=(wrap .i64 ((wrap .i64 (x1-x5.1))+x4))))=true then
 if(decide ((wrap .i64 ((wrap .i64 (x1-x5.1))+x4))<=(wrap .i64 ((wrap .i64 (x1-x5.1))+x4))))=true then
 if(decide ((wrap .i64 ((wrap .i64 (x1-x5.1))+x4))<=((length x13:Nat):Int)))=true then
 if(decide (length (bE (Int.toNat (0:Int)) (Int.toNat (wrap .i64 ((wrap .i64 (x1-x5.1))+x4))) x13)+length ((List.getD x2 (Int.toNat x4) wX)::([]:List aL))<=lT))=true then
 some (.inl (x1,(x2,(x3,((wrap .i64 (x4+(1:Int))),(x5,(x6,(x7,(x8,(x9,(x10,(x11,(x12,((List.append (bE (Int.toNat (0:Int)) (Int.toNat (wrap .i64 ((wrap .i64 (x1-x5.1))+x4))) x13) ((List.getD x2 (Int.toNat x4) wX)::([]:List aL))),()))))))))))))))
 else
 none
 else
 none
 else
 none
 else
 none
 else
 none
 else
 none
 else
 none
 else
 some (.inr (x5,(x6,(x7,(x8,(x9,(x10,(x11,(x12,(x13,()))))))))))
abbrev wf(x0:iT)(x1:Int)(x2:Int)(x3:(List aL)):Prop:=fW [(.val aAi .f),(.val (.int .i64) .f),(.val (.int .i64) .f),(.val (.sl 0 zk2) .f)] (x0,(x1,(x2,(x3,()))))
noncomputable def aR(x0:iT)(x1:Int)(x2:Int)(x3:(List aL)):Option (Unit×(iT×(Bool×Unit))):=
 if(!(rJ x0))=true then
 some ((),(aJl,(false,())))
 else
 if(aN.pre x0)=true then
 if(decide (x2<(0:Int)))=true then
 some ((),((aN x0),(false,())))
 else
 if(!(decide ((rD x0 x1)=x2)))=true then
 some ((),((aN x0),(false,())))
 else
 if(eA.pre7 (x1,(x3,(((length x3:Nat):Int),((0:Int),(x0,((0:Int),((0:Int),((),(([]:List aL),((aN x0).1,((aN x0).2.1,((aN x0).2.2.2,(aN x0).2.2)))))))))))))=true then
 if(!(rJ ((eA.fn7 (x1,(x3,(((length x3:Nat):Int),((0:Int),(x0,((0:Int),((0:Int),((),(([]:List aL),((aN x0).1,((aN x0).2.1,((aN x0).2.2.2,(aN x0).2.2))))))))))))).2.2.2.2.2.1,((eA.fn7 (x1,(x3,(((length x3:Nat):Int),((0:Int),(x0,((0:Int),((0:Int),((),(([]:List aL),((aN x0).1,((aN x0).2.1,((aN x0).2.2.2,(aN x0).2.2))))))))))))).2.2.2.2.2.2.1,((eA.fn7 (x1,(x3,(((length x3:Nat):Int),((0:Int),(x0,((0:Int),((0:Int),((),(([]:List aL),((aN x0).1,((aN x0).2.1,((aN x0).2.2.2,(aN x0).2.2))))))))))))).2.2.2.2.2.2.2.2.1,(eA.fn7 (x1,(x3,(((length x3:Nat):Int),((0:Int),(x0,((0:Int),((0:Int),((),(([]:List aL),((aN x0).1,((aN x0).2.1,((aN x0).2.2.2,(aN x0).2.2))))))))))))).2.2.2.2.2.2.2.1)))))=true then
 if(aN.pre (eA.fn7 (x1,(x3,(((length x3:Nat):Int),((0:Int),(x0,((0:Int),((0:Int),((),(([]:List aL),((aN x0).1,((aN x0).2.1,((aN x0).2.2.2,(aN x0).2.2))))))))))))).1)=true then
 some ((),((aN (eA.fn7 (x1,(x3,(((length x3:Nat):Int),((0:Int),(x0,((0:Int),((0:Int),((),(([]:List aL),((aN x0).1,((aN x0).2.1,((aN x0).2.2.2,(aN x0).2.2))))))))))))).1),(false,())))
 else
 none
 else
 some ((),(((eA.fn7 (x1,(x3,(((length x3:Nat):Int),((0:Int),(x0,((0:Int),((0:Int),((),(([]:List aL),((aN x0).1,((aN x0).2.1,((aN x0).2.2.2,(aN x0).2.2))))))))))))).2.2.2.2.2.1,((eA.fn7 (x1,(x3,(((length x3:Nat):Int),((0:Int),(x0,((0:Int),((0:Int),((),(([]:List aL),((aN x0).1,((aN x0).2.1,((aN x0).2.2.2,(aN x0).2.2))))))))))))).2.2.2.2.2.2.1,((eA.fn7 (x1,(x3,(((length x3:Nat):Int),((0:Int),(x0,((0:Int),((0:Int),((),(([]:List aL),((aN x0).1,((aN x0).2.1,((aN x0).2.2.2,(aN x0).2.2))))))))))))).2.2.2.2.2.2.2.2.1,(eA.fn7 (x1,(x3,(((length x3:Nat):Int),((0:Int),(x0,((0:Int),((0:Int),((),(([]:List aL),((aN x0).1,((aN x0).2.1,((aN x0).2.2.2,(aN x0).2.2))))))))))))).2.2.2.2.2.2.2.1))),(true,())))
 else
 none
 else
 none
theorem ok7(x1:Int)(x2:List aL)(x3 x4:Int)(x5:iT)(x6 x7:Int)(x8:Unit)(x9:List aL)(x10 x11:Int)(x12:Unit)(x13:List aL)(hp:pre7 (x1,(x2,(x3,(x4,(x5,(x6,(x7,(x8,(x9,(x10,(x11,(x12,(x13,())))))))))))))=true):
 Rounds pre7 mu7 fn7 (x1,(x2,(x3,(x4,(x5,(x6,(x7,(x8,(x9,(x10,(x11,(x12,(x13,()))))))))))))) (aDV x1 x2 x3 x4 x5 x6 x7 x8 x9 x10 x11 x12 x13):=by
 simp only[pre7,Zb,Za] at hp
 obtain⟨h1,h2,rfl,h4,h5,h6,h7,h8,h9⟩:=hp
 unfold aDV
 by_cases hlt:x4<(x2.length:Int)
 . have hi:x4.toNat<x2.length:=by omega
   rw[iV (n:=x1-x5.1) (by omega) (by omega),iV (n:=x1-x5.1+x4) (by omega) (by omega),iV (n:=x4+1) (by omega) (by omega)]
   have hk:(x1-x5.1+x4).toNat=wO x1 x5.1 x4:=rfl
   have hk1:wO x1 x5.1 (x4+1)=wO x1 x5.1 x4+1:=by unfold wO;omega
   have hput:=aHx (x2:=x2) (out:=x13) (k:=wO x1 x5.1 x4) hi
   have h10:0<=x1-x5.1+x4:=by omega
   have hadd:(x4+1).toNat=x4.toNat+1:=by omega
   have keep:wO x1 x5.1 x4<x13.length/\(x13.getD (wO x1 x5.1 x4) E0).1=(x2.getD x4.toNat E0).1->
    Rounds pre7 mu7 fn7 (x1,x2,(x2.length:Int),x4,x5,x6,x7,x8,x9,x10,x11,x12,x13,())
     (some (.inl (x1,x2,(x2.length:Int),x4+1,x5,x6,x7,x8,x9,x10,x11,x12,x13,()))):=by
    intro hc
    simp only[Rounds]
    refine⟨?_,by simp only[mu7];omega,?_⟩
    . simp only[pre7,Zb,Za]
      unfold wO at hc
      obtain⟨hc1,_⟩:=hc
      exact⟨h1,by omega,trivial,by omega,by omega,h6,h7,h8,by omega⟩
    . simp only[fn7,hk1,hadd]
      rw[hput,if_pos hc]
   have cut:¬(wO x1 x5.1 x4<x13.length/\(x13.getD (wO x1 x5.1 x4) E0).1=(x2.getD x4.toNat E0).1)->
    Rounds pre7 mu7 fn7 (x1,x2,(x2.length:Int),x4,x5,x6,x7,x8,x9,x10,x11,x12,x13,())
     (some (.inl (x1,x2,(x2.length:Int),x4+1,x5,x6,x7,x8,x9,x10,x11,x12,x13.take (wO x1 x5.1 x4)++[x2.getD x4.toNat E0],()))):=by
    intro hc
    have hl:(x13.take (wO x1 x5.1 x4)++[x2.getD x4.toNat E0]).length=wO x1 x5.1 x4+1:=by
     simp only[Zf,Zr,Zg,Zh,wO];omega
    simp only[Rounds]
    refine⟨?_,by simp only[mu7];omega,?_⟩
    . simp only[pre7,Zb,Za,hl]
      have hkk:((wO x1 x5.1 x4:Nat):Int)=x1-x5.1+x4:=Int.toNat_of_nonneg h10
      exact⟨h1,by omega,trivial,by omega,by omega,h6,h7,h8,by push_cast;omega⟩
    . simp only[fn7,hk1,hadd]
      rw[hput,if_neg hc]
   have hkk:((wO x1 x5.1 x4:Nat):Int)=x1-x5.1+x4:=Int.toNat_of_nonneg h10
   have hdt:bE (Int.toNat 0) (wO x1 x5.1 x4) x13=x13.take (wO x1 x5.1 x4):=by simp[bE]
   have hlim:(x13.take (wO x1 x5.1 x4)).length+1<=lT:=by simp only[Zr,lT];omega
   simp only[hlt,h4,h10,h9,decide_true,if_true,hk,hdt,Int.le_refl,Zg,Zh,Nat.zero_add,hlim]
   by_cases hb:x1-x5.1+x4<(x13.length:Int)
   . rw[if_pos (by simp[hb])]
     by_cases ht:(x13.getD (wO x1 x5.1 x4) E0).1=(x2.getD x4.toNat E0).1
     . rw[if_pos (by simp[hb]),if_pos (by rw[Za];exact ht)]
       exact keep ⟨by omega,ht⟩
     . rw[if_pos (by simp[hb]),if_neg (by rw[Za];exact ht)]
       exact cut fun hc=>ht hc.2
   . rw[if_neg (by simp[hb])]
     exact cut fun hc=>hb (by omega)
 . simp only[hlt,decide_false,Zj,if_false,Rounds,fn7]
   rw[Zt (by omega)]
   rfl
theorem eq(x0:iT)(x1 x2:Int)(x3:List aL)(_:wf x0 x1 x2 x3)(hp:pre x0 x1 x2 x3=true):aR x0 x1 x2 x3=some ((),((eA x0 x1 x2 x3).1,((eA x0 x1 x2 x3).2,()))):=by
 simp only[pre,Zb] at hp
 have hc:aN.pre x0=true:=hp.1
 have hl:=cC.1 hp.1
 have hx:=cC.1 hp.2
 unfold aR eA uU aN
 by_cases h1:rJ x0=true
 case neg=>simp[h1]
 rw[if_neg (by simp[h1]),if_pos hc,if_pos h1]
 by_cases h2:x2<0
 . rw[if_pos (by simp[h2]),if_pos h2]
 rw[if_neg (by simp[h2]),if_neg h2]
 by_cases h3:rD x0 x1=x2
 case neg=>rw[if_pos (by simp[h3]),if_neg h3]
 rw[if_neg (by simp[h3]),if_pos h3]
 obtain⟨b1,b2,b3⟩:=zX h1
 obtain⟨t1,t2⟩:=aFB h3 h2
 have hpre:pre7 (x1,(x3,(((length x3:Nat):Int),((0:Int),(x0,((0:Int),((0:Int),((),(([]:List aL),(x0.1,(x0.2.1,(x0.2.2.2,x0.2.2))))))))))))=true:=by
  simp only[pre7,Zb,Za]
  exact⟨hx,(by show x0.2.2.1.length<=16777216+Int.toNat 0;omega),trivial,by omega,by omega,b1,b2,t1,(by show x1-x0.1+0<=(x0.2.2.1.length:Int);omega)⟩
 rw[if_pos hpre]
 have hfn:fn7 (x1,(x3,(((length x3:Nat):Int),((0:Int),(x0,((0:Int),((0:Int),((),(([]:List aL),(x0.1,(x0.2.1,(x0.2.2.2,x0.2.2))))))))))))=
  (x0,(0,(0,((),(([]:List aL),(x0.1,(x0.2.1,((),(aCS x3 x0.2.2.1 (wO x1 x0.1 0),()))))))))):=rfl
 simp only[hfn,hc]
 by_cases h4:rJ (x0.1,(x0.2.1,(aCS x3 x0.2.2.1 (wO x1 x0.1 0),())))=true
 . simp[h4]
 . simp[h4]
end eA
namespace eB
def pre(l:iT)(_ _:Int)(xs:List aL):Bool:=dI l.2.2.1&&dI xs
abbrev S:=Int×(List aL×(Int×(iT×aMI)))
def pre7:S->Bool:=fun(x1,x2,x4,x5,_,_,_,_,_,_,_,x13,_)=>
 decide (x2.length<=16777216)&&(decide (x13.length<=16777216+x4.toNat)&&(decide (0<=x4)&&(decide (x4<=(x2.length:Int))&&(decide (0<=x5.1)&&(decide (x5.1<=300)&&(decide (0<=x1-x5.1)&&decide (x1-x5.1+x4<=(x13.length:Int))))))))
def fn7:S->iT×aMI:=fun(x1,x2,x4,x5,x6,x7,x8,x9,x10,x11,x12,x13,_)=>
 (x5,(x6,(x7,(x8,(x9,(x10,(x11,(x12,(aCS (x2.drop x4.toNat) x13 (wO x1 x5.1 x4),())))))))))
def mu7:S->Nat:=fun(_,x2,x4,_)=>x2.length-x4.toNat
noncomputable def aDV(x1:Int)(x2:(List aL))(x3:Int)(x4:iT)(x5:Int)(x6:Int)(x7:Unit)(x8:(List aL))(x9:Int)(x10:Int)(x11:Unit)(x12:(List aL)):Option ((Int×((List aL)×(Int×aMX)))⊕aMX):=
 if(decide (x3<((length x2:Nat):Int)))=true then
 if(decide ((wrap .i64 ((wrap .i64 (x1-x4.1))+x3))<((length x12:Nat):Int)))=true then
 if(decide ((0:Int)<=(wrap .i64 ((wrap .i64 (x1-x4.1))+x3))))=true then
 if(decide ((wrap .i64 ((wrap .i64 (x1-x4.1))+x3))<((length x12:Nat):Int)))=true then
 if(decide ((0:Int)<=x3))=true then
 if(decide (x3<((length x2:Nat):Int)))=true then
 if(decide ((List.getD x12 (Int.toNat (wrap .i64 ((wrap .i64 (x1-x4.1))+x3))) wX).1=(List.getD x2 (Int.toNat x3) wX).1))=true then
 some (.inl (x1,(x2,((wrap .i64 (x3+(1:Int))),(x4,(x5,(x6,(x7,(x8,(x9,(x10,(x11,(x12,())))))))))))))
 else
 if(decide ((0:Int)<=(0:Int)))=true then
 if(decide ((0:Int)<=(wrap .i64 ((wrap .i64 (x1-x4.1))+x3))))=true then
 if(decide ((wrap .i64 ((wrap .i64 (x1-x4.1))+x3))<=((length x12:Nat):Int)))=true then
 if(decide (length ([]:List aL)+length (bE (Int.toNat (0:Int)) (Int.toNat (wrap .i64 ((wrap .i64 (x1-x4.1))+x3))) x12)<=lT))=true then
 if(decide ((0:Int)<=x3))=true then
 if(decide (x3<((length x2:Nat):Int)))=true then
 if(decide (length (List.append ([]:List aL) (bE (Int.toNat (0:Int)) (Int.toNat (wrap .i64 ((wrap .i64 (x1-x4.1))+x3))) x12))+length ((List.getD x2 (Int.toNat x3) wX)::([]:List aL))<=lT))=true then
 some (.inl (x1,(x2,((wrap .i64 (x3+(1:Int))),(x4,(x5,(x6,(x7,(x8,(x9,(x10,(x11,((List.append (List.append ([]:List aL) (bE (Int.toNat (0:Int)) (Int.toNat (wrap .i64 ((wrap .i64 (x1-x4.1))+x3))) x12)) ((List.getD x2 (Int.toNat x3) wX)::([]:List aL))),())))))))))))))
 else
 none
 else
 none
 else
 none
 else
 none
 else
 none
 else
 none
 else
 none
 else
 none
 else
 none
 else
 none
 else
 none
 else
 if(decide ((0:Int)<=x3))=true then
 if(decide (x3<((length x2:Nat):Int)))=true then
 if(decide (length x12+length ((List.getD x2 (Int.toNat x3) wX)::([]:List aL))<=lT))=true then
 some (.inl (x1,(x2,((wrap .i64 (x3+(1:Int))),(x4,(x5,(x6,(x7,(x8,(x9,(x10,(x11,((List.append x12 ((List.getD x2 (Int.toNat x3) wX)::([]:List aL))),())))))))))))))
 else
 none
 else
 none
 else
 none
 else
 some (.inr (x4,(x5,(x6,(x7,(x8,(x9,(x10,(x11,(x12,()))))))))))
abbrev wf(x0:iT)(x1:Int)(x2:Int)(x3:(List aL)):Prop:=fW [(.val aAi .f),(.val (.int .i64) .f),(.val (.int .i64) .f),(.val (.sl 0 zk2) .f)] (x0,(x1,(x2,(x3,()))))
noncomputable def aR(x0:iT)(x1:Int)(x2:Int)(x3:(List aL)):Option (Unit×(iT×(Bool×Unit))):=
 if(!(rJ x0))=true then
 some ((),(aJl,(false,())))
 else
 if(aT.pre x0)=true then
 if(decide (x2<(0:Int)))=true then
 some ((),((aT x0),(false,())))
 else
 if(!(decide ((rD x0 x1)=x2)))=true then
 some ((),((aT x0),(false,())))
 else
 if(eB.pre7 (x1,(x3,((0:Int),(x0,((0:Int),((0:Int),((),(([]:List aL),((aT x0).1,((aT x0).2.1,((aT x0).2.2.2,(aT x0).2.2))))))))))))=true then
 if(!(rJ ((eB.fn7 (x1,(x3,((0:Int),(x0,((0:Int),((0:Int),((),(([]:List aL),((aT x0).1,((aT x0).2.1,((aT x0).2.2.2,(aT x0).2.2)))))))))))).2.2.2.2.2.1,((eB.fn7 (x1,(x3,((0:Int),(x0,((0:Int),((0:Int),((),(([]:List aL),((aT x0).1,((aT x0).2.1,((aT x0).2.2.2,(aT x0).2.2)))))))))))).2.2.2.2.2.2.1,((eB.fn7 (x1,(x3,((0:Int),(x0,((0:Int),((0:Int),((),(([]:List aL),((aT x0).1,((aT x0).2.1,((aT x0).2.2.2,(aT x0).2.2)))))))))))).2.2.2.2.2.2.2.2.1,(eB.fn7 (x1,(x3,((0:Int),(x0,((0:Int),((0:Int),((),(([]:List aL),((aT x0).1,((aT x0).2.1,((aT x0).2.2.2,(aT x0).2.2)))))))))))).2.2.2.2.2.2.2.1)))))=true then
 if(aT.pre (eB.fn7 (x1,(x3,((0:Int),(x0,((0:Int),((0:Int),((),(([]:List aL),((aT x0).1,((aT x0).2.1,((aT x0).2.2.2,(aT x0).2.2)))))))))))).1)=true then
 some ((),((aT (eB.fn7 (x1,(x3,((0:Int),(x0,((0:Int),((0:Int),((),(([]:List aL),((aT x0).1,((aT x0).2.1,((aT x0).2.2.2,(aT x0).2.2)))))))))))).1),(false,())))
 else
 none
 else
 some ((),(((eB.fn7 (x1,(x3,((0:Int),(x0,((0:Int),((0:Int),((),(([]:List aL),((aT x0).1,((aT x0).2.1,((aT x0).2.2.2,(aT x0).2.2)))))))))))).2.2.2.2.2.1,((eB.fn7 (x1,(x3,((0:Int),(x0,((0:Int),((0:Int),((),(([]:List aL),((aT x0).1,((aT x0).2.1,((aT x0).2.2.2,(aT x0).2.2)))))))))))).2.2.2.2.2.2.1,((eB.fn7 (x1,(x3,((0:Int),(x0,((0:Int),((0:Int),((),(([]:List aL),((aT x0).1,((aT x0).2.1,((aT x0).2.2.2,(aT x0).2.2)))))))))))).2.2.2.2.2.2.2.2.1,(eB.fn7 (x1,(x3,((0:Int),(x0,((0:Int),((0:Int),((),(([]:List aL),((aT x0).1,((aT x0).2.1,((aT x0).2.2.2,(aT x0).2.2)))))))))))).2.2.2.2.2.2.2.1))),(true,())))
 else
 none
 else
 none
theorem ok7(x1:Int)(x2:List aL)(x4:Int)(x5:iT)(x6 x7:Int)(x8:Unit)(x9:List aL)(x10 x11:Int)(x12:Unit)(x13:List aL)(hp:pre7 (x1,x2,x4,x5,x6,x7,x8,x9,x10,x11,x12,x13,())=true):
 Rounds pre7 mu7 fn7 (x1,x2,x4,x5,x6,x7,x8,x9,x10,x11,x12,x13,()) (aDV x1 x2 x4 x5 x6 x7 x8 x9 x10 x11 x12 x13):=by
 simp only[pre7,Zb,Za] at hp
 obtain⟨h1,h2,h4,h5,h6,h7,h8,h9⟩:=hp
 unfold aDV
 by_cases hlt:x4<(x2.length:Int)
 . have hi:x4.toNat<x2.length:=by omega
   rw[iV (n:=x1-x5.1) (by omega) (by omega),iV (n:=x1-x5.1+x4) (by omega) (by omega),iV (n:=x4+1) (by omega) (by omega)]
   have hk:(x1-x5.1+x4).toNat=wO x1 x5.1 x4:=rfl
   have hk1:wO x1 x5.1 (x4+1)=wO x1 x5.1 x4+1:=by unfold wO;omega
   have hput:=aHx (x2:=x2) (out:=x13) (k:=wO x1 x5.1 x4) hi
   have h10:0<=x1-x5.1+x4:=by omega
   have hadd:(x4+1).toNat=x4.toNat+1:=by omega
   have hkk:((wO x1 x5.1 x4:Nat):Int)=x1-x5.1+x4:=Int.toNat_of_nonneg h10
   have keep:wO x1 x5.1 x4<x13.length/\(x13.getD (wO x1 x5.1 x4) E0).1=(x2.getD x4.toNat E0).1->
    Rounds pre7 mu7 fn7 (x1,x2,x4,x5,x6,x7,x8,x9,x10,x11,x12,x13,())
     (some (.inl (x1,x2,x4+1,x5,x6,x7,x8,x9,x10,x11,x12,x13,()))):=by
    intro hc
    simp only[Rounds]
    refine⟨?_,by simp only[mu7];omega,?_⟩
    . simp only[pre7,Zb,Za]
      obtain⟨hc1,_⟩:=hc
      exact⟨h1,by omega,by omega,by omega,h6,h7,h8,by omega⟩
    . simp only[fn7,hk1,hadd]
      rw[hput,if_pos hc]
   have cut:¬(wO x1 x5.1 x4<x13.length/\(x13.getD (wO x1 x5.1 x4) E0).1=(x2.getD x4.toNat E0).1)->
    Rounds pre7 mu7 fn7 (x1,x2,x4,x5,x6,x7,x8,x9,x10,x11,x12,x13,())
     (some (.inl (x1,x2,x4+1,x5,x6,x7,x8,x9,x10,x11,x12,x13.take (wO x1 x5.1 x4)++[x2.getD x4.toNat E0],()))):=by
    intro hc
    have hl:(x13.take (wO x1 x5.1 x4)++[x2.getD x4.toNat E0]).length=wO x1 x5.1 x4+1:=by
     simp only[Zf,Zr,Zg,Zh];omega
    simp only[Rounds]
    refine⟨?_,by simp only[mu7];omega,?_⟩
    . simp only[pre7,Zb,Za,hl]
      exact⟨h1,by omega,by omega,by omega,h6,h7,h8,by push_cast;omega⟩
    . simp only[fn7,hk1,hadd]
      rw[hput,if_neg hc]
   have hdt:bE (Int.toNat 0) (wO x1 x5.1 x4) x13=x13.take (wO x1 x5.1 x4):=by simp[bE]
   have hlim:(x13.take (wO x1 x5.1 x4)).length+1<=lT:=by simp only[Zr,lT];omega
   have hlim0:(x13.take (wO x1 x5.1 x4)).length<=lT:=by omega
   have hlim2:x13.length+1<=lT:=by simp only[lT];omega
   simp only[hlt,h4,h10,h9,decide_true,if_true,hk,hdt,Int.le_refl,List.append_eq,List.nil_append,Zg,Zh,Nat.zero_add,hlim,hlim0,hlim2]
   by_cases hb:x1-x5.1+x4<(x13.length:Int)
   . rw[if_pos (by simp[hb])]
     by_cases ht:(x13.getD (wO x1 x5.1 x4) E0).1=(x2.getD x4.toNat E0).1
     . rw[if_pos (by simp[hb]),if_pos (by rw[Za];exact ht)]
       exact keep ⟨by omega,ht⟩
     . rw[if_pos (by simp[hb]),if_neg (by rw[Za];exact ht)]
       exact cut fun hc=>ht hc.2
   . rw[if_neg (by simp[hb])]
     have hall:x13.take (wO x1 x5.1 x4)=x13:=List.take_of_length_le (by omega)
     have:=cut fun hc=>hb (by omega)
     rw[hall] at this
     exact this
 . simp only[hlt,decide_false,Zj,if_false,Rounds,fn7]
   rw[Zt (by omega)]
   rfl
theorem eq(x0:iT)(x1 x2:Int)(x3:List aL)(_:wf x0 x1 x2 x3)(hp:pre x0 x1 x2 x3=true):aR x0 x1 x2 x3=some ((),((eB x0 x1 x2 x3).1,((eB x0 x1 x2 x3).2,()))):=by
 simp only[pre,Zb] at hp
 have hc:aT.pre x0=true:=hp.1
 have hl:=cC.1 hp.1
 have hx:=cC.1 hp.2
 unfold aR eB uU aT
 by_cases h1:rJ x0=true
 case neg=>simp[h1]
 rw[if_neg (by simp[h1]),if_pos hc,if_pos h1]
 by_cases h2:x2<0
 . rw[if_pos (by simp[h2]),if_pos h2]
 rw[if_neg (by simp[h2]),if_neg h2]
 by_cases h3:rD x0 x1=x2
 case neg=>rw[if_pos (by simp[h3]),if_neg h3]
 rw[if_neg (by simp[h3]),if_pos h3]
 obtain⟨b1,b2,b3⟩:=zX h1
 obtain⟨t1,t2⟩:=aFB h3 h2
 have hpre:pre7 (x1,(x3,((0:Int),(x0,((0:Int),((0:Int),((),(([]:List aL),(x0.1,(x0.2.1,(x0.2.2.2,x0.2.2)))))))))))=true:=by
  simp only[pre7,Zb,Za]
  exact⟨hx,(by show x0.2.2.1.length<=16777216+Int.toNat 0;omega),by omega,by omega,b1,b2,t1,(by show x1-x0.1+0<=(x0.2.2.1.length:Int);omega)⟩
 rw[if_pos hpre]
 have hfn:fn7 (x1,(x3,((0:Int),(x0,((0:Int),((0:Int),((),(([]:List aL),(x0.1,(x0.2.1,(x0.2.2.2,x0.2.2)))))))))))=
  (x0,(0,(0,((),(([]:List aL),(x0.1,(x0.2.1,((),(aCS x3 x0.2.2.1 (wO x1 x0.1 0),()))))))))):=rfl
 simp only[hfn,hc]
 by_cases h4:rJ (x0.1,(x0.2.1,(aCS x3 x0.2.2.1 (wO x1 x0.1 0),())))=true
 . simp[h4]
 . simp[h4]
end eB
def qC(ok:Nat->Bool):Nat->Nat->Bool
 |_,0=>true
 |i,k+1=>ok i&&qC ok (i+1) k
theorem aI4{ok:Nat->Bool}:(k i:Nat)->(qC ok i k=true↔∀j,i<=j->j<i+k->ok j=true)
 |0,i=>by simp only[qC,true_iff];intro j h1 h2;omega
 |k+1,i=>by
  simp only[qC,Zb,aI4 k (i+1)]
  constructor
  . rintro⟨h1,h2⟩ j h3 h4
    rcases Nat.lt_or_ge i j with h|h
    . exact h2 j h (by omega)
    . rw[show j=i by omega];exact h1
  . intro h
    exact⟨h i (Nat.le_refl _) (by omega),fun j h1 h2=>h j (by omega) (by omega)⟩
theorem xW{ok:Nat->Bool}{n:Nat}:qC ok 0 n=true↔∀j,j<n->ok j=true:=by
 rw[aI4]
 exact⟨fun h j hj=>h j (Nat.zero_le _) (by omega),fun h j _ hj=>h j (by omega)⟩
theorem aDY{a b:Nat->Bool}:(k i:Nat)->qC (fun j=>a j&&b j) i k=(qC a i k&&qC b i k)
 |0,_=>rfl
 |k+1,i=>by
  simp only[qC,aDY k (i+1)]
  cases a i<;>cases b i<;>simp
theorem yW{α:Type}{p:α->Bool}{d:α}{xs:List α}:qC (fun j=>p (xs.getD j d)) 0 xs.length=xs.all p:=by
 rw[Bool.eq_iff_iff,xW,Zu]
 constructor
 . intro h x hx
   obtain⟨j,hj,rfl⟩:=List.mem_iff_getElem.1 hx
   have:=h j hj
   rwa [eV hj] at this
 . intro h j hj
   rw[eV hj]
   exact h _ (List.getElem_mem _)
theorem aC6{α:Type}{p:α->Bool}{xs:List α}(h:xs.all p=true){i:Nat}(hi:i<xs.length)(d:α):p (xs.getD i d)=true:=by
 rw[eV hi];exact Zu.1 h _ (List.getElem_mem _)
section
variable {α β:Type}
def pJ(n:Nat)(i:Int):Bool:=decide (n<=16777216)&&(decide (0<=i)&&decide (i<=(n:Int)))
def xP(ok:Nat->Bool)(n:Nat)(i:Int)(r:β):(Bool×Unit)⊕β:=cond (qC ok i.toNat (n-i.toNat)) (.inr r) (.inl (false,()))
theorem mV{n:Nat}{i:Int}(h:pJ n i=true):n<=16777216/\0<=i/\i<=(n:Int):=by
 simpa only[pJ,Zb,Za] using h
theorem rR{n:Nat}{i:Int}(h:pJ n i=true)(hlt:i<(n:Int)):
 wrap .i64 (i+1)=i+1/\pJ n (i+1)=true/\n-(i+1).toNat<n-i.toNat/\(i+1).toNat=i.toNat+1:=by
 obtain⟨h1,h2,h3⟩:=mV h
 refine⟨iV (by omega) (by omega),?_,by omega,by omega⟩
 simp only[pJ,Zb,Za];omega
theorem xM{n:Nat}{i:Int}(h:pJ n i=true)(h0:0<i):wrap .i64 (i-1)=i-1/\0<=i-1/\i-1<(n:Int)/\(i-1).toNat=i.toNat-1/\¬i.toNat=0:=by
 obtain⟨h1,h2,h3⟩:=mV h
 exact⟨iV (by omega) (by omega),by omega,by omega,by omega,by omega⟩
theorem rN{ok:Nat->Bool}{n:Nat}{i:Int}{r:β}(h:pJ n i=true)(hlt:i<(n:Int))(hk:ok i.toNat=true):xP ok n (i+1) r=xP ok n i r:=by
 obtain⟨h1,h2,h3⟩:=mV h
 unfold xP
 rw[show n-i.toNat=(n-(i+1).toNat)+1 by omega,qC,hk,Bool.true_and,show(i+1).toNat=i.toNat+1 by omega]
theorem rS{ok:Nat->Bool}{n:Nat}{i:Int}{r:β}(h:pJ n i=true)(hlt:i<(n:Int))(hk:ok i.toNat=false):.inl (false,())=xP ok n i r:=by
 obtain⟨h1,h2,h3⟩:=mV h
 unfold xP
 rw[show n-i.toNat=(n-(i+1).toNat)+1 by omega,qC,hk];rfl
theorem uV{ok:Nat->Bool}{n:Nat}{i:Int}{r:β}(h:pJ n i=true)(hlt:¬i<(n:Int)):.inr r=xP ok n i r:=by
 obtain⟨h1,h2,h3⟩:=mV h
 unfold xP
 rw[show n-i.toNat=0 by omega];rfl
theorem pO{n:Nat}(h:n<=16777216):pJ n 0=true:=by simp[pJ,h]
theorem uY{ok:Nat->Bool}{n:Nat}{r:β}:xP ok n 0 r=cond (qC ok 0 n) (.inr r) (.inl (false,())):=by simp[xP]
end
def aF7(e:eO):Bool:=gI e.2.1&&(gI e.2.2.1&&(aB e.2.2.2.1 0 3&&aB e.2.2.2.2.1 0 100000))
def wS(x:cL)(j:Nat):Bool:=aB (x.2.2.1.getD j vZ).1 x.1 (wrap .i64 (x.2.1-1))&&((decide (j=0)||decide ((x.2.2.1.getD (j-1) vZ).1<(x.2.2.1.getD j vZ).1))&&aF7 (x.2.2.1.getD j vZ))
def pN(x:cL):Bool:=aB x.1 0 x.2.1&&(decide (x.2.1<=100000)&&(decide ((x.2.2.1.length:Int)<=80)&&qC (wS x) 0 x.2.2.1.length))
abbrev lD:=pN
abbrev lE:=pN
namespace lD
abbrev S4:Type:=((List eO)×(Int×(Int×(cL×Unit))))
abbrev O4:Type:=((Bool×Unit)⊕Unit)
def pre(x:cL):Bool:=dI x.2.2.1
noncomputable def pre4:S4->Bool:=fun(x1,x2,x3,x4,_)=>same x1 x4.2.2.1&&(decide (x2=(x4.2.2.1.length:Int))&&pJ x4.2.2.1.length x3)
def fn4:S4->O4:=fun(_,_,x3,x4,_)=>xP (wS x4) x4.2.2.1.length x3 ()
def qD:S4->Nat:=fun(_,_,x3,x4,_)=>x4.2.2.1.length-x3.toNat
noncomputable def hJ(x1:(List eO))(x2:Int)(x3:Int)(x4:cL):Option (((List eO)×(Int×(Int×(cL×Unit))))⊕((Bool×Unit)⊕Unit)):=
 if(decide (x3<x2))=true then
 if(decide ((0:Int)<=x3))=true then
 if(decide (x3<((length x1:Nat):Int)))=true then
 letB (aB (List.getD x1 (Int.toNat x3) vZ).1 x4.1 (wrap .i64 (x4.2.1-(1:Int)))) fun v1=>
 if(!v1)=true then
 some (.inr (.inl (false,())))
 else
 if(decide ((0:Int)<x3))=true then
 if(decide ((0:Int)<=(wrap .i64 (x3-(1:Int)))))=true then
 if(decide ((wrap .i64 (x3-(1:Int)))<((length x4.2.2.1:Nat):Int)))=true then
 if(decide ((List.getD x1 (Int.toNat x3) vZ).1<=(List.getD x4.2.2.1 (Int.toNat (wrap .i64 (x3-(1:Int)))) vZ).1))=true then
 some (.inr (.inl (false,())))
 else
 letB (gI (List.getD x1 (Int.toNat x3) vZ).2.1) fun v2=>
 if(!v2)=true then
 some (.inr (.inl (false,())))
 else
 letB (gI (List.getD x1 (Int.toNat x3) vZ).2.2.1) fun v3=>
 if(!v3)=true then
 some (.inr (.inl (false,())))
 else
 letB (aB (List.getD x1 (Int.toNat x3) vZ).2.2.2.1 (0:Int) (3:Int)) fun v4=>
 if(!v4)=true then
 some (.inr (.inl (false,())))
 else
 letB (aB (List.getD x1 (Int.toNat x3) vZ).2.2.2.2.1 (0:Int) (100000:Int)) fun v5=>
 if(!v5)=true then
 some (.inr (.inl (false,())))
 else
 some (.inl (x1,(x2,((wrap .i64 (x3+(1:Int))),(x4,())))))
 else
 none
 else
 none
 else
 letB (gI (List.getD x1 (Int.toNat x3) vZ).2.1) fun v6=>
 if(!v6)=true then
 some (.inr (.inl (false,())))
 else
 letB (gI (List.getD x1 (Int.toNat x3) vZ).2.2.1) fun v7=>
 if(!v7)=true then
 some (.inr (.inl (false,())))
 else
 letB (aB (List.getD x1 (Int.toNat x3) vZ).2.2.2.1 (0:Int) (3:Int)) fun v8=>
 if(!v8)=true then
 some (.inr (.inl (false,())))
 else
 letB (aB (List.getD x1 (Int.toNat x3) vZ).2.2.2.2.1 (0:Int) (100000:Int)) fun v9=>
 if(!v9)=true then
 some (.inr (.inl (false,())))
 else
 some (.inl (x1,(x2,((wrap .i64 (x3+(1:Int))),(x4,())))))
 else
 none
 else
 none
 else
 some (.inr (.inr ()))
abbrev wf(x0:cL):Prop:=fW [(.val aAj .f)] (x0,())
noncomputable def aR(x0:cL):Option kZ:=
 letB (aB x0.1 (0:Int) x0.2.1) fun v1=>
 if(!v1)=true then
  some ((),(false,()))
 else
  if(decide ((100000:Int)<x0.2.1))=true then
   some ((),(false,()))
  else
   if(decide ((80:Int)<((length x0.2.2.1:Nat):Int)))=true then
    some ((),(false,()))
   else
    if(lD.pre4 (x0.2.2.1,(((length x0.2.2.1:Nat):Int),((0:Int),(x0,())))))=true then
     letB (lD.fn4 (x0.2.2.1,(((length x0.2.2.1:Nat):Int),((0:Int),(x0,()))))) fun v2=>
     match v2 with
     |.inl y=>
      some ((),y)
     |.inr y=>
      some ((),(true,()))
    else
     none
theorem zE(x1:List eO)(x2 x3:Int)(x4:cL)(hp:pre4 (x1,(x2,(x3,(x4,()))))=true):Rounds pre4 qD fn4 (x1,(x2,(x3,(x4,())))) (hJ x1 x2 x3 x4):=by
 simp only[pre4,Zb,Za,bV] at hp
 obtain⟨rfl,rfl,ha⟩:=hp
 obtain⟨h1,h2,h3⟩:=mV ha
 unfold hJ
 by_cases hlt:x3<(x4.2.2.1.length:Int)
 . obtain⟨n1,n2,n3,n4⟩:=rR ha hlt
   have nxt:wS x4 x3.toNat=true->Rounds pre4 qD fn4 (x4.2.2.1,((x4.2.2.1.length:Int),(x3,(x4,())))) (some (.inl (x4.2.2.1,((x4.2.2.1.length:Int),(x3+1,(x4,())))))):=
    fun h=>⟨by simp only[pre4,pT,n2];simp,n3,rN ha hlt h⟩
   have stp:wS x4 x3.toNat=false->Rounds pre4 qD fn4 (x4.2.2.1,((x4.2.2.1.length:Int),(x3,(x4,())))) (some (.inr (.inl (false,())))):=fun h=>rS ha hlt h
   simp only[letB,n1,hlt,h2,decide_true,if_true]
   by_cases h0:0<x3
   . obtain⟨p1,p2,p3,p4,p5⟩:=xM ha h0
     simp only[p1,p2,p3,p4,h0,decide_true,if_true]
     simp only[wS,aF7,p5,decide_false,Bool.false_or] at nxt stp
     generalize x4.2.2.1.getD x3.toNat vZ=e at *
     generalize x4.2.2.1.getD (x3.toNat-1) vZ=e' at *
     generalize aB e.1 x4.1 (wrap .i64 (x4.2.1-1))=b1 at *
     generalize gI e.2.1=b2 at *
     generalize gI e.2.2.1=b3 at *
     generalize aB e.2.2.2.1 0 3=b4 at *
     generalize aB e.2.2.2.2.1 0 100000=b5 at *
     by_cases hd:e.1<=e'.1
     . simp only[hd,show ¬e'.1<e.1 by omega,decide_true,decide_false,if_true] at *
       cases b1<;>exact stp rfl
     . simp only[hd,show e'.1<e.1 by omega,decide_true,decide_false] at *
       cases b1
       . exact stp rfl
       cases b2
       . exact stp rfl
       cases b3
       . exact stp rfl
       cases b4
       . exact stp rfl
       cases b5
       . exact stp rfl
       . exact nxt rfl
   . have p5:x3.toNat=0:=by omega
     simp only[h0,decide_false,Zj,if_false]
     simp only[wS,aF7,p5,decide_true,Bool.true_or,Bool.true_and] at nxt stp ⊢
     generalize x4.2.2.1.getD 0 vZ=e at *
     generalize aB e.1 x4.1 (wrap .i64 (x4.2.1-1))=b1 at *
     generalize gI e.2.1=b2 at *
     generalize gI e.2.2.1=b3 at *
     generalize aB e.2.2.2.1 0 3=b4 at *
     generalize aB e.2.2.2.2.1 0 100000=b5 at *
     cases b1
     . exact stp rfl
     cases b2
     . exact stp rfl
     cases b3
     . exact stp rfl
     cases b4
     . exact stp rfl
     cases b5
     . exact stp rfl
     . exact nxt rfl
 . rw[if_neg (by simp[hlt])]
   exact uV ha hlt
theorem eq(x0:cL)(_:wf x0)(hp:pre x0=true):aR x0=some ((),(lD x0,())):=by
 have hs:=cC.1 hp
 unfold aR lD pN
 simp only[letB]
 cases aB x0.1 0 x0.2.1
 . rfl
 by_cases h1:100000<x0.2.1
 . rw[if_neg (by decide),if_pos (Zd h1),decide_eq_false (p:=x0.2.1<=100000) (by omega)];rfl
 by_cases h2:80<(x0.2.2.1.length:Int)
 . rw[if_neg (by decide),if_neg (by simp[h1]),if_pos (Zd h2),Zd (p:=x0.2.1<=100000) (by omega),decide_eq_false (p:=(x0.2.2.1.length:Int)<=80) (by omega)];rfl
 rw[if_neg (by decide),if_neg (by simp[h1]),if_neg (by simp[h2]),Zd (p:=x0.2.1<=100000) (by omega),Zd (p:=(x0.2.2.1.length:Int)<=80) (by omega),
  if_pos (show pre4 _=true by simp only[pre4,pT,pO hs];simp)]
 rw[show fn4 (x0.2.2.1,((x0.2.2.1.length:Int),((0:Int),(x0,()))))=_ from uY]
 cases qC (wS x0) 0 x0.2.2.1.length<;>rfl
end lD
abbrev mK:=aF7
namespace mK
def pre(e:eO):Bool:=decide (e.1<=e.1)
abbrev wf(x0:eO):Prop:=fW [(.val aHG .f)] (x0,())
noncomputable def aR(x0:eO):Option kZ:=
 letB (gI x0.2.1) fun v1=>
 if v1=true then
 letB (gI x0.2.2.1) fun v2=>
 if v2=true then
 letB (aB x0.2.2.2.1 (0:Int) (3:Int)) fun v3=>
 if v3=true then
 letB (aB x0.2.2.2.2.1 (0:Int) (100000:Int)) fun v4=>
 some ((),(v4,()))
 else
 some ((),(false,()))
 else
 some ((),(false,()))
 else
 some ((),(false,()))
theorem eq(x0:eO)(_:wf x0)(_:pre x0=true):aR x0=some ((),(mK x0,())):=by
 unfold aR
 show _=some ((),(aF7 x0,()))
 unfold aF7
 simp only[letB]
 cases gI x0.2.1<;>cases gI x0.2.2.1<;>cases aB x0.2.2.2.1 0 3<;>simp
end mK
namespace lE
abbrev S2:Type:=(Int×(cL×Unit))
abbrev O2:Type:=((Bool×Unit)⊕(cL×Unit))
def pre(x:cL):Bool:=dI x.2.2.1
def pre2:S2->Bool:=fun(x1,x2,_)=>pJ x2.2.2.1.length x1
def fn2:S2->O2:=fun(x1,x2,_)=>xP (wS x2) x2.2.2.1.length x1 (x2,())
def kY:S2->Nat:=fun(x1,x2,_)=>x2.2.2.1.length-x1.toNat
noncomputable def cW(x1:Int)(x2:cL):Option ((Int×(cL×Unit))⊕((Bool×Unit)⊕(cL×Unit))):=
 if(decide (x1<((length x2.2.2.1:Nat):Int)))=true then
 if(decide ((0:Int)<=x1))=true then
 if(decide (x1<((length x2.2.2.1:Nat):Int)))=true then
 if(mK.pre (List.getD x2.2.2.1 (Int.toNat x1) vZ))=true then
 letB (aF7 (List.getD x2.2.2.1 (Int.toNat x1) vZ)) fun v1=>
 if(!v1)=true then
 some (.inr (.inl (false,())))
 else
 if(decide ((0:Int)<=x1))=true then
 if(decide (x1<((length x2.2.2.1:Nat):Int)))=true then
 letB (aB (List.getD x2.2.2.1 (Int.toNat x1) vZ).1 x2.1 (wrap .i64 (x2.2.1-(1:Int)))) fun v2=>
 if(!v2)=true then
 some (.inr (.inl (false,())))
 else
 if(decide ((0:Int)<x1))=true then
 if(decide ((0:Int)<=(wrap .i64 (x1-(1:Int)))))=true then
 if(decide ((wrap .i64 (x1-(1:Int)))<((length x2.2.2.1:Nat):Int)))=true then
 if(decide ((0:Int)<=x1))=true then
 if(decide (x1<((length x2.2.2.1:Nat):Int)))=true then
 if(decide ((List.getD x2.2.2.1 (Int.toNat x1) vZ).1<=(List.getD x2.2.2.1 (Int.toNat (wrap .i64 (x1-(1:Int)))) vZ).1))=true then
 some (.inr (.inl (false,())))
 else
 some (.inl ((wrap .i64 (x1+(1:Int))),(x2,())))
 else
 none
 else
 none
 else
 none
 else
 none
 else
 some (.inl ((wrap .i64 (x1+(1:Int))),(x2,())))
 else
 none
 else
 none
 else
 none
 else
 none
 else
 none
 else
 some (.inr (.inr (x2,())))
abbrev wf(x0:cL):Prop:=fW [(.val aAj .f)] (x0,())
noncomputable def aR(x0:cL):Option kZ:=
 if(lE.pre2 ((0:Int),(x0,())))=true then
  letB (lE.fn2 ((0:Int),(x0,()))) fun v1=>
  match v1 with
  |.inl y=>
   some ((),y)
  |.inr y=>
   letB (aB y.1.1 (0:Int) y.1.2.1) fun v2=>
   if v2=true then
    if(decide (y.1.2.1<=(100000:Int)))=true then
     some ((),((decide (((length y.1.2.2.1:Nat):Int)<=(80:Int))),()))
    else
     some ((),(false,()))
   else
    some ((),(false,()))
 else
  none
theorem qO(x1:Int)(x2:cL)(ha:pre2 (x1,(x2,()))=true):Rounds pre2 kY fn2 (x1,(x2,())) (cW x1 x2):=by
 have ha:pJ x2.2.2.1.length x1=true:=ha
 obtain⟨h1,h2,h3⟩:=mV ha
 unfold cW
 by_cases hlt:x1<(x2.2.2.1.length:Int)
 . obtain⟨n1,n2,n3,n4⟩:=rR ha hlt
   have nxt:wS x2 x1.toNat=true->Rounds pre2 kY fn2 (x1,(x2,())) (some (.inl (x1+1,(x2,())))):=fun h=>⟨n2,n3,rN ha hlt h⟩
   have stp:wS x2 x1.toNat=false->Rounds pre2 kY fn2 (x1,(x2,())) (some (.inr (.inl (false,())))):=fun h=>rS ha hlt h
   simp only[letB,n1,hlt,h2,decide_true,if_true,show mK.pre (x2.2.2.1.getD x1.toNat vZ)=true from Zd (Int.le_refl _)]
   by_cases h0:0<x1
   . obtain⟨p1,p2,p3,p4,p5⟩:=xM ha h0
     simp only[p1,p2,p3,p4,h0,decide_true,if_true]
     simp only[wS,p5,decide_false,Bool.false_or] at nxt stp
     generalize x2.2.2.1.getD x1.toNat vZ=e at *
     generalize x2.2.2.1.getD (x1.toNat-1) vZ=e' at *
     generalize aB e.1 x2.1 (wrap .i64 (x2.2.1-1))=b1 at *
     generalize aF7 e=b2 at *
     by_cases hd:e.1<=e'.1
     . simp only[hd,show ¬e'.1<e.1 by omega,decide_true,decide_false,if_true] at *
       cases b1<;>cases b2<;>exact stp rfl
     . simp only[hd,show e'.1<e.1 by omega,decide_true,decide_false] at *
       cases b1<;>cases b2
       . exact stp rfl
       . exact stp rfl
       . exact stp rfl
       . exact nxt rfl
   . have p5:x1.toNat=0:=by omega
     simp only[h0,decide_false,Zj,if_false]
     simp only[wS,p5,decide_true,Bool.true_or,Bool.true_and] at nxt stp ⊢
     generalize x2.2.2.1.getD 0 vZ=e at *
     generalize aB e.1 x2.1 (wrap .i64 (x2.2.1-1))=b1 at *
     generalize aF7 e=b2 at *
     cases b1<;>cases b2
     . exact stp rfl
     . exact stp rfl
     . exact stp rfl
     . exact nxt rfl
 . rw[if_neg (by simp[hlt])]
   exact uV ha hlt
theorem eq(x0:cL)(_:wf x0)(hp:pre x0=true):aR x0=some ((),(lE x0,())):=by
 have hs:=cC.1 hp
 unfold aR lE pN
 rw[if_pos (show pre2 ((0:Int),(x0,()))=true from pO hs),show fn2 ((0:Int),(x0,()))=_ from uY]
 simp only[letB]
 cases qC (wS x0) 0 x0.2.2.1.length
 . simp
 simp only[cond_true]
 cases aB x0.1 0 x0.2.1<;>cases decide (x0.2.1<=100000)<;>cases decide ((x0.2.2.1.length:Int)<=80)<;>rfl
end lE
def aE0(xs:List eN)(j:Nat):Bool:=decide (j=0)||decide ((xs.getD (j-1) nW).2.1<(xs.getD j nW).2.1)
def aCX(m:aK)(j:Nat):Bool:=decide ((m.2.2.2.2.1.getD j nW).1=wrap .i64 (wrap .i64 (wrap .i64 (m.2.2.2.1-(m.2.2.2.2.1.length:Int))+1)+(j:Int)))&&(aB (m.2.2.2.2.1.getD j nW).2.1 0 100000&&aE0 m.2.2.2.2.1 j)
def aCV(m:aK)(j:Nat):Bool:=decide ((m.2.2.2.2.1.getD j nW).1=wrap .i64 (m.2.2.2.1-wrap .i64 (wrap .i64 ((m.2.2.2.2.1.length:Int)-1)-(j:Int))))&&(aB (m.2.2.2.2.1.getD j nW).2.1 0 100000&&aE0 m.2.2.2.2.1 j)
def aAL(m:aK):Bool:=aB m.1 0 3&&(aB m.2.1 0 3&&(aB m.2.2.1 0 100000&&aB m.2.2.2.1 (-1) 100000))
def dF(m:aK)(w:Int):Bool:=aAL m&&(decide ((m.2.2.2.2.1.length:Int)<=w)&&((decide (m.2.2.2.1=-1)==decide ((m.2.2.2.2.1.length:Int)=0))&&qC (aCX m) 0 m.2.2.2.2.1.length))
def dC(m:aK)(w:Int):Bool:=qC (aCV m) 0 m.2.2.2.2.1.length&&(decide ((m.2.2.2.2.1.length:Int)<=w)&&(decide ((m.2.2.2.2.1.length:Int)<=wrap .i64 (m.2.2.2.1+1))&&(!(decide (0<=m.2.2.2.1)&&decide ((m.2.2.2.2.1.length:Int)=0))&&aAL m)))
namespace dF
abbrev S4:Type:=((List eN)×(Int×(Int×(aK×Unit))))
abbrev O4:Type:=((Bool×Unit)⊕Unit)
def pre(x:aK)(_:Int):Bool:=dI x.2.2.2.2.1
noncomputable def pre4:S4->Bool:=fun(x1,x2,x3,x4,_)=>same x1 x4.2.2.2.2.1&&(decide (x2=(x4.2.2.2.2.1.length:Int))&&pJ x4.2.2.2.2.1.length x3)
def fn4:S4->O4:=fun(_,_,x3,x4,_)=>xP (aCX x4) x4.2.2.2.2.1.length x3 ()
def qD:S4->Nat:=fun(_,_,x3,x4,_)=>x4.2.2.2.2.1.length-x3.toNat
noncomputable def hJ(x1:(List eN))(x2:Int)(x3:Int)(x4:aK):Option (((List eN)×(Int×(Int×(aK×Unit))))⊕((Bool×Unit)⊕Unit)):=
 if(decide (x3<x2))=true then
 if(decide ((0:Int)<=x3))=true then
 if(decide (x3<((length x1:Nat):Int)))=true then
 if(!(decide ((List.getD x1 (Int.toNat x3) nW).1=(wrap .i64 ((wrap .i64 ((wrap .i64 (x4.2.2.2.1-((length x4.2.2.2.2.1:Nat):Int)))+(1:Int)))+x3)))))=true then
 some (.inr (.inl (false,())))
 else
 letB (aB (List.getD x1 (Int.toNat x3) nW).2.1 (0:Int) (100000:Int)) fun v1=>
 if(!v1)=true then
 some (.inr (.inl (false,())))
 else
 if(decide ((0:Int)<x3))=true then
 if(decide ((0:Int)<=(wrap .i64 (x3-(1:Int)))))=true then
 if(decide ((wrap .i64 (x3-(1:Int)))<((length x4.2.2.2.2.1:Nat):Int)))=true then
 if(decide ((List.getD x1 (Int.toNat x3) nW).2.1<=(List.getD x4.2.2.2.2.1 (Int.toNat (wrap .i64 (x3-(1:Int)))) nW).2.1))=true then
 some (.inr (.inl (false,())))
 else
 some (.inl (x1,(x2,((wrap .i64 (x3+(1:Int))),(x4,())))))
 else
 none
 else
 none
 else
 some (.inl (x1,(x2,((wrap .i64 (x3+(1:Int))),(x4,())))))
 else
 none
 else
 none
 else
 some (.inr (.inr ()))
abbrev wf(x0:aK)(x1:Int):Prop:=fW [(.val aBr .f),(.val (.int .i64) .f)] (x0,(x1,()))
noncomputable def aR(x0:aK)(x1:Int):Option kZ:=
 letB (aB x0.1 (0:Int) (3:Int)) fun v1=>
 if(!v1)=true then
  some ((),(false,()))
 else
  letB (aB x0.2.1 (0:Int) (3:Int)) fun v2=>
  if(!v2)=true then
   some ((),(false,()))
  else
   letB (aB x0.2.2.1 (0:Int) (100000:Int)) fun v3=>
   if(!v3)=true then
    some ((),(false,()))
   else
    letB (aB x0.2.2.2.1 (-1:Int) (100000:Int)) fun v4=>
    if(!v4)=true then
     some ((),(false,()))
    else
     if(decide (x1<((length x0.2.2.2.2.1:Nat):Int)))=true then
      some ((),(false,()))
     else
      if(!((decide (x0.2.2.2.1=(-1:Int)))==(decide (((length x0.2.2.2.2.1:Nat):Int)=(0:Int)))))=true then
       some ((),(false,()))
      else
       if(dF.pre4 (x0.2.2.2.2.1,(((length x0.2.2.2.2.1:Nat):Int),((0:Int),(x0,())))))=true then
        letB (dF.fn4 (x0.2.2.2.2.1,(((length x0.2.2.2.2.1:Nat):Int),((0:Int),(x0,()))))) fun v5=>
        match v5 with
        |.inl y=>
         some ((),y)
        |.inr y=>
         some ((),(true,()))
       else
        none
theorem zE(x1:List eN)(x2 x3:Int)(x4:aK)(hp:pre4 (x1,(x2,(x3,(x4,()))))=true):Rounds pre4 qD fn4 (x1,(x2,(x3,(x4,())))) (hJ x1 x2 x3 x4):=by
 simp only[pre4,Zb,Za,bV] at hp
 obtain⟨rfl,rfl,ha⟩:=hp
 obtain⟨h1,h2,h3⟩:=mV ha
 unfold hJ
 by_cases hlt:x3<(x4.2.2.2.2.1.length:Int)
 . obtain⟨n1,n2,n3,n4⟩:=rR ha hlt
   have nxt:aCX x4 x3.toNat=true->Rounds pre4 qD fn4 (x4.2.2.2.2.1,((x4.2.2.2.2.1.length:Int),(x3,(x4,())))) (some (.inl (x4.2.2.2.2.1,((x4.2.2.2.2.1.length:Int),(x3+1,(x4,())))))):=
    fun h=>⟨by simp only[pre4,pT,n2];simp,n3,rN ha hlt h⟩
   have stp:aCX x4 x3.toNat=false->Rounds pre4 qD fn4 (x4.2.2.2.2.1,((x4.2.2.2.2.1.length:Int),(x3,(x4,())))) (some (.inr (.inl (false,())))):=fun h=>rS ha hlt h
   simp only[letB,n1,hlt,h2,decide_true,if_true]
   simp only[aCX,aE0,Int.toNat_of_nonneg h2] at nxt stp
   by_cases h0:0<x3
   . obtain⟨p1,p2,p3,p4,p5⟩:=xM ha h0
     simp only[p1,p2,p3,p4,h0,decide_true,if_true]
     simp only[p5,decide_false,Bool.false_or] at nxt stp
     generalize x4.2.2.2.2.1.getD x3.toNat nW=e at *
     generalize x4.2.2.2.2.1.getD (x3.toNat-1) nW=e' at *
     generalize decide (e.1=_)=b1 at *
     generalize aB e.2.1 0 100000=b2 at *
     by_cases hd:e.2.1<=e'.2.1
     . simp only[hd,show ¬e'.2.1<e.2.1 by omega,decide_true,decide_false,if_true] at *
       cases b1<;>cases b2<;>exact stp rfl
     . simp only[hd,show e'.2.1<e.2.1 by omega,decide_true,decide_false] at *
       cases b1<;>cases b2
       . exact stp rfl
       . exact stp rfl
       . exact stp rfl
       . exact nxt rfl
   . have p5:x3.toNat=0:=by omega
     simp only[h0,decide_false,Zj,if_false]
     simp only[p5,decide_true,Bool.true_or,Bool.and_true] at nxt stp ⊢
     generalize x4.2.2.2.2.1.getD 0 nW=e at *
     generalize decide (e.1=_)=b1 at *
     generalize aB e.2.1 0 100000=b2 at *
     cases b1<;>cases b2
     . exact stp rfl
     . exact stp rfl
     . exact stp rfl
     . exact nxt rfl
 . rw[if_neg (by simp[hlt])]
   exact uV ha hlt
theorem eq(x0:aK)(x1:Int)(_:wf x0 x1)(hp:pre x0 x1=true):aR x0 x1=some ((),(dF x0 x1,())):=by
 have hs:=cC.1 (show dI x0.2.2.2.2.1=true from hp)
 unfold aR dF aAL
 simp only[letB]
 rw[show pre4 (x0.2.2.2.2.1,((x0.2.2.2.2.1.length:Int),((0:Int),(x0,()))))=true by simp only[pre4,pT,pO hs];simp,
  show fn4 (x0.2.2.2.2.1,((x0.2.2.2.2.1.length:Int),((0:Int),(x0,()))))=_ from uY]
 generalize qC (aCX x0) 0 x0.2.2.2.2.1.length=b
 generalize (decide (x0.2.2.2.1=-1)==decide ((x0.2.2.2.2.1.length:Int)=0))=c
 by_cases h:x1<(x0.2.2.2.2.1.length:Int)
 . rw[Zd h,decide_eq_false (p:=(x0.2.2.2.2.1.length:Int)<=x1) (by omega)]
   cases aB x0.1 0 3<;>cases aB x0.2.1 0 3<;>cases aB x0.2.2.1 0 100000<;>cases aB x0.2.2.2.1 (-1) 100000<;>rfl
 . rw[decide_eq_false h,Zd (p:=(x0.2.2.2.2.1.length:Int)<=x1) (by omega)]
   cases aB x0.1 0 3<;>cases aB x0.2.1 0 3<;>cases aB x0.2.2.1 0 100000<;>cases aB x0.2.2.2.1 (-1) 100000<;>cases b<;>cases c<;>rfl
end dF
namespace dC
abbrev S2:Type:=(Int×(Int×(aK×Unit)))
abbrev O2:Type:=((Bool×Unit)⊕(Int×(aK×Unit)))
def pre(x:aK)(_:Int):Bool:=dI x.2.2.2.2.1
def pre2:S2->Bool:=fun(_,x2,x3,_)=>pJ x3.2.2.2.2.1.length x2
def fn2:S2->O2:=fun(x1,x2,x3,_)=>xP (aCV x3) x3.2.2.2.2.1.length x2 (x1,(x3,()))
def kY:S2->Nat:=fun(_,x2,x3,_)=>x3.2.2.2.2.1.length-x2.toNat
noncomputable def cW(x1:Int)(x2:Int)(x3:aK):Option ((Int×(Int×(aK×Unit)))⊕((Bool×Unit)⊕(Int×(aK×Unit)))):=
 if(decide (x2<((length x3.2.2.2.2.1:Nat):Int)))=true then
 if(decide ((0:Int)<=x2))=true then
 if(decide (x2<((length x3.2.2.2.2.1:Nat):Int)))=true then
 letB (aB (List.getD x3.2.2.2.2.1 (Int.toNat x2) nW).2.1 (0:Int) (100000:Int)) fun v1=>
 if(!v1)=true then
 some (.inr (.inl (false,())))
 else
 if(decide ((0:Int)<=x2))=true then
 if(decide (x2<((length x3.2.2.2.2.1:Nat):Int)))=true then
 if(!(decide ((List.getD x3.2.2.2.2.1 (Int.toNat x2) nW).1=(wrap .i64 (x3.2.2.2.1-(wrap .i64 ((wrap .i64 (((length x3.2.2.2.2.1:Nat):Int)-(1:Int)))-x2)))))))=true then
 some (.inr (.inl (false,())))
 else
 if(decide ((0:Int)<x2))=true then
 if(decide ((0:Int)<=(wrap .i64 (x2-(1:Int)))))=true then
 if(decide ((wrap .i64 (x2-(1:Int)))<((length x3.2.2.2.2.1:Nat):Int)))=true then
 if(decide ((0:Int)<=x2))=true then
 if(decide (x2<((length x3.2.2.2.2.1:Nat):Int)))=true then
 if(decide ((List.getD x3.2.2.2.2.1 (Int.toNat x2) nW).2.1<=(List.getD x3.2.2.2.2.1 (Int.toNat (wrap .i64 (x2-(1:Int)))) nW).2.1))=true then
 some (.inr (.inl (false,())))
 else
 some (.inl (x1,((wrap .i64 (x2+(1:Int))),(x3,()))))
 else
 none
 else
 none
 else
 none
 else
 none
 else
 some (.inl (x1,((wrap .i64 (x2+(1:Int))),(x3,()))))
 else
 none
 else
 none
 else
 none
 else
 none
 else
 some (.inr (.inr (x1,(x3,()))))
abbrev wf(x0:aK)(x1:Int):Prop:=fW [(.val aBr .f),(.val (.int .i64) .f)] (x0,(x1,()))
noncomputable def aR(x0:aK)(x1:Int):Option kZ:=
 if(dC.pre2 (x1,((0:Int),(x0,()))))=true then
  letB (dC.fn2 (x1,((0:Int),(x0,())))) fun v1=>
  match v1 with
  |.inl y=>
   some ((),y)
  |.inr y=>
   if(decide (y.1<((length y.2.1.2.2.2.2.1:Nat):Int)))=true then
    some ((),(false,()))
   else
    if(decide ((wrap .i64 (y.2.1.2.2.2.1+(1:Int)))<((length y.2.1.2.2.2.2.1:Nat):Int)))=true then
     some ((),(false,()))
    else
     if(decide ((0:Int)<=y.2.1.2.2.2.1))=true then
      if(decide (((length y.2.1.2.2.2.2.1:Nat):Int)=(0:Int)))=true then
       some ((),(false,()))
      else
       letB (aB y.2.1.1 (0:Int) (3:Int)) fun v2=>
       if v2=true then
        letB (aB y.2.1.2.1 (0:Int) (3:Int)) fun v3=>
        if v3=true then
         letB (aB y.2.1.2.2.1 (0:Int) (100000:Int)) fun v4=>
         if v4=true then
          letB (aB y.2.1.2.2.2.1 (-1:Int) (100000:Int)) fun v5=>
          some ((),(v5,()))
         else
          some ((),(false,()))
        else
         some ((),(false,()))
       else
        some ((),(false,()))
     else
      letB (aB y.2.1.1 (0:Int) (3:Int)) fun v6=>
      if v6=true then
       letB (aB y.2.1.2.1 (0:Int) (3:Int)) fun v7=>
       if v7=true then
        letB (aB y.2.1.2.2.1 (0:Int) (100000:Int)) fun v8=>
        if v8=true then
         letB (aB y.2.1.2.2.2.1 (-1:Int) (100000:Int)) fun v9=>
         some ((),(v9,()))
        else
         some ((),(false,()))
       else
        some ((),(false,()))
      else
       some ((),(false,()))
 else
  none
theorem qO(x1 x2:Int)(x3:aK)(ha:pre2 (x1,(x2,(x3,())))=true):Rounds pre2 kY fn2 (x1,(x2,(x3,()))) (cW x1 x2 x3):=by
 have ha:pJ x3.2.2.2.2.1.length x2=true:=ha
 obtain⟨h1,h2,h3⟩:=mV ha
 unfold cW
 by_cases hlt:x2<(x3.2.2.2.2.1.length:Int)
 . obtain⟨n1,n2,n3,n4⟩:=rR ha hlt
   have nxt:aCV x3 x2.toNat=true->Rounds pre2 kY fn2 (x1,(x2,(x3,()))) (some (.inl (x1,(x2+1,(x3,()))))):=fun h=>⟨n2,n3,rN ha hlt h⟩
   have stp:aCV x3 x2.toNat=false->Rounds pre2 kY fn2 (x1,(x2,(x3,()))) (some (.inr (.inl (false,())))):=fun h=>rS ha hlt h
   simp only[letB,n1,hlt,h2,decide_true,if_true]
   simp only[aCV,aE0,Int.toNat_of_nonneg h2] at nxt stp
   by_cases h0:0<x2
   . obtain⟨p1,p2,p3,p4,p5⟩:=xM ha h0
     simp only[p1,p2,p3,p4,h0,decide_true,if_true]
     simp only[p5,decide_false,Bool.false_or] at nxt stp
     generalize x3.2.2.2.2.1.getD x2.toNat nW=e at *
     generalize x3.2.2.2.2.1.getD (x2.toNat-1) nW=e' at *
     generalize decide (e.1=_)=b1 at *
     generalize aB e.2.1 0 100000=b2 at *
     by_cases hd:e.2.1<=e'.2.1
     . simp only[hd,show ¬e'.2.1<e.2.1 by omega,decide_true,decide_false,if_true] at *
       cases b1<;>cases b2<;>exact stp rfl
     . simp only[hd,show e'.2.1<e.2.1 by omega,decide_true,decide_false] at *
       cases b1<;>cases b2
       . exact stp rfl
       . exact stp rfl
       . exact stp rfl
       . exact nxt rfl
   . have p5:x2.toNat=0:=by omega
     simp only[h0,decide_false,Zj,if_false]
     simp only[p5,decide_true,Bool.true_or,Bool.and_true] at nxt stp ⊢
     generalize x3.2.2.2.2.1.getD 0 nW=e at *
     generalize decide (e.1=_)=b1 at *
     generalize aB e.2.1 0 100000=b2 at *
     cases b1<;>cases b2
     . exact stp rfl
     . exact stp rfl
     . exact stp rfl
     . exact nxt rfl
 . rw[if_neg (by simp[hlt])]
   exact uV ha hlt
theorem eq(x0:aK)(x1:Int)(_:wf x0 x1)(hp:pre x0 x1=true):aR x0 x1=some ((),(dC x0 x1,())):=by
 have hs:=cC.1 (show dI x0.2.2.2.2.1=true from hp)
 unfold aR dC aAL
 rw[if_pos (show pre2 (x1,((0:Int),(x0,())))=true from pO hs),show fn2 (x1,((0:Int),(x0,())))=_ from uY]
 simp only[letB]
 cases qC (aCV x0) 0 x0.2.2.2.2.1.length
 . rfl
 simp only[cond_true]
 by_cases h1:x1<(x0.2.2.2.2.1.length:Int)
 . rw[if_pos (Zd h1),decide_eq_false (p:=(x0.2.2.2.2.1.length:Int)<=x1) (by omega)];rfl
 rw[if_neg (by simp[h1]),Zd (p:=(x0.2.2.2.2.1.length:Int)<=x1) (by omega)]
 by_cases h2:wrap .i64 (x0.2.2.2.1+1)<(x0.2.2.2.2.1.length:Int)
 . rw[if_pos (Zd h2),decide_eq_false (p:=(x0.2.2.2.2.1.length:Int)<=wrap .i64 (x0.2.2.2.1+1)) (by omega)];rfl
 rw[if_neg (by simp[h2]),Zd (p:=(x0.2.2.2.2.1.length:Int)<=wrap .i64 (x0.2.2.2.1+1)) (by omega)]
 generalize decide (0<=x0.2.2.2.1)=c1
 generalize decide ((x0.2.2.2.2.1.length:Int)=0)=c2
 cases c1<;>cases c2<;>cases aB x0.1 0 3<;>cases aB x0.2.1 0 3<;>cases aB x0.2.2.1 0 100000<;>rfl
end dC
theorem aGN{α:Type}(x0:List α)(x1:(α->Bool)×(α->Bool)):
 (letB (aBN (x0,(x1.1,(x1.2,(((length x0:Nat):Int),((0:Int),())))))) fun v=>match v with|.inl y=>some ((),y)|.inr y=>some ((),((-1:Int),())))=some ((),(vI x1.2 x0 0,())):=by
 have hlo:=(aCq x1.2 x0 0 (by omega)).1
 by_cases h:vI x1.2 x0 0<0
 . rw[show aBN (x0,(x1.1,(x1.2,(((x0.length:Nat):Int),((0:Int),())))))=.inr () from if_pos h,show vI x1.2 x0 0=-1 by omega];rfl
 . rw[show aBN (x0,(x1.1,(x1.2,(((x0.length:Nat):Int),((0:Int),())))))=.inl (vI x1.2 x0 0,()) from if_neg h];rfl
theorem aGM{α:Type}(p:α->Bool)(x0:List α):decide (0<=vI p x0 0)=x0.any p:=by
 rw[Bool.eq_iff_iff,Za]
 exact(aCq p x0 0 (by omega)).2
def dB(xs:List Int)(p:(Int->Bool)×(Int->Bool)):Int:=vI p.2 xs 0
namespace dB
def pre(xs:List Int)(p:(Int->Bool)×(Int->Bool)):Bool:=xs.all p.1
def pre2:=tK (α:=Int)
def fn2:=aBN (α:=Int)
def kY:=aGg (α:=Int)
noncomputable def cW(x1:(List Int))(x2:(Int->Bool))(x3:(Int->Bool))(x4:Int)(x5:Int):Option (((List Int)×((Int->Bool)×((Int->Bool)×eN)))⊕((Int×Unit)⊕Unit)):=
 if(decide (x5<x4))=true then
 if(decide ((0:Int)<=x5))=true then
 if(decide (x5<((length x1:Nat):Int)))=true then
 if(x2 (List.getD x1 (Int.toNat x5) (0:Int)))=true then
 if(x3 (List.getD x1 (Int.toNat x5) (0:Int)))=true then
 some (.inr (.inl (x5,())))
 else
 some (.inl (x1,(x2,(x3,(x4,((wrap .i64 (x5+(1:Int))),()))))))
 else
 none
 else
 none
 else
 none
 else
 some (.inr (.inr ()))
abbrev wf(x0:(List Int))(x1:((Int->Bool)×(Int->Bool))):Prop:=fW [(.val (.sl 0 (.int .i64)) .f),(.fn (.int .i64) .bool)] (x0,(x1,()))
noncomputable def aR(x0:(List Int))(x1:((Int->Bool)×(Int->Bool))):Option xT:=
 if(dB.pre2 (x0,(x1.1,(x1.2,(((length x0:Nat):Int),((0:Int),()))))))=true then
  letB (dB.fn2 (x0,(x1.1,(x1.2,(((length x0:Nat):Int),((0:Int),())))))) fun v1=>
  match v1 with
  |.inl y=>
   some ((),y)
  |.inr y=>
   some ((),((-1:Int),()))
 else
  none
theorem qO(x1:List Int)(x2 x3:Int->Bool)(x4 x5:Int)(hp:pre2 (x1,(x2,(x3,(x4,(x5,())))))=true):Rounds pre2 kY fn2 (x1,(x2,(x3,(x4,(x5,()))))) (cW x1 x2 x3 x4 x5):=by
 unfold cW
 by_cases hlt:x5<x4
 . obtain⟨h1,h2,h3,h4,h5⟩:=aBU hp hlt (0:Int)
   simp only[hlt,h1,h2,h3,decide_true,if_true]
   split
   . rename_i h;exact h4 h
   . rename_i h;exact h5 h
 . simp only[hlt,decide_false,Zj,if_false]
   exact aDS hp hlt
theorem eq(x0:List Int)(x1:(Int->Bool)×(Int->Bool))(hw:wf x0 x1)(hp:pre x0 x1=true):aR x0 x1=some ((),(dB x0 x1,())):=by
 have h1:x0.length<=maxLen:=hw.1.1
 unfold aR
 rw[if_pos (show pre2 _=true by simp only[pre2,tK,Zb,Za];exact⟨h1,trivial,by omega,by simp,hp⟩)]
 exact aGN x0 x1
end dB
def cP(xs:List Int)(p:(Int->Bool)×(Int->Bool)):Bool:=xs.any p.2
namespace cP
def pre(xs:List Int)(p:(Int->Bool)×(Int->Bool)):Bool:=xs.all p.1
abbrev wf(x0:(List Int))(x1:((Int->Bool)×(Int->Bool))):Prop:=fW [(.val (.sl 0 (.int .i64)) .f),(.fn (.int .i64) .bool)] (x0,(x1,()))
noncomputable def aR(x0:(List Int))(x1:((Int->Bool)×(Int->Bool))):Option kZ:=
 if(dB.pre x0 x1)=true then
 letB (dB x0 x1) fun v1=>
 some ((),((decide ((0:Int)<=v1)),()))
 else
 none
theorem eq(x0:List Int)(x1:(Int->Bool)×(Int->Bool))(_:wf x0 x1)(hp:pre x0 x1=true):aR x0 x1=some ((),(cP x0 x1,())):=by
 unfold aR
 exact dS (show dB.pre _ _=true from hp) (congrArg (fun b=>some ((),(b,()))) (aGM x1.2 x0))
end cP
def dA(xs:List cL)(p:(cL->Bool)×(cL->Bool)):Int:=vI p.2 xs 0
namespace dA
def pre(xs:List cL)(p:(cL->Bool)×(cL->Bool)):Bool:=xs.all p.1
def pre2:=tK (α:=cL)
def fn2:=aBN (α:=cL)
def kY:=aGg (α:=cL)
noncomputable def cW(x1:(List cL))(x2:(cL->Bool))(x3:(cL->Bool))(x4:Int)(x5:Int):Option (((List cL)×((cL->Bool)×((cL->Bool)×eN)))⊕((Int×Unit)⊕Unit)):=
 if(decide (x5<x4))=true then
 if(decide ((0:Int)<=x5))=true then
 if(decide (x5<((length x1:Nat):Int)))=true then
 if(x2 (List.getD x1 (Int.toNat x5) oR))=true then
 if(x3 (List.getD x1 (Int.toNat x5) oR))=true then
 some (.inr (.inl (x5,())))
 else
 some (.inl (x1,(x2,(x3,(x4,((wrap .i64 (x5+(1:Int))),()))))))
 else
 none
 else
 none
 else
 none
 else
 some (.inr (.inr ()))
abbrev wf(x0:(List cL))(x1:((cL->Bool)×(cL->Bool))):Prop:=fW [(.val (.sl 0 aAj) .f),(.fn aAj .bool)] (x0,(x1,()))
noncomputable def aR(x0:(List cL))(x1:((cL->Bool)×(cL->Bool))):Option xT:=
 if(dA.pre2 (x0,(x1.1,(x1.2,(((length x0:Nat):Int),((0:Int),()))))))=true then
  letB (dA.fn2 (x0,(x1.1,(x1.2,(((length x0:Nat):Int),((0:Int),())))))) fun v1=>
  match v1 with
  |.inl y=>
   some ((),y)
  |.inr y=>
   some ((),((-1:Int),()))
 else
  none
theorem qO(x1:List cL)(x2 x3:cL->Bool)(x4 x5:Int)(hp:pre2 (x1,(x2,(x3,(x4,(x5,())))))=true):Rounds pre2 kY fn2 (x1,(x2,(x3,(x4,(x5,()))))) (cW x1 x2 x3 x4 x5):=by
 unfold cW
 by_cases hlt:x5<x4
 . obtain⟨h1,h2,h3,h4,h5⟩:=aBU hp hlt oR
   simp only[hlt,h1,h2,h3,decide_true,if_true]
   split
   . rename_i h;exact h4 h
   . rename_i h;exact h5 h
 . simp only[hlt,decide_false,Zj,if_false]
   exact aDS hp hlt
theorem eq(x0:List cL)(x1:(cL->Bool)×(cL->Bool))(hw:wf x0 x1)(hp:pre x0 x1=true):aR x0 x1=some ((),(dA x0 x1,())):=by
 have h1:x0.length<=maxLen:=hw.1.1
 unfold aR
 rw[if_pos (show pre2 _=true by simp only[pre2,tK,Zb,Za];exact⟨h1,trivial,by omega,by simp,hp⟩)]
 exact aGN x0 x1
end dA
def cQ(xs:List cL)(p:(cL->Bool)×(cL->Bool)):Bool:=xs.any p.2
namespace cQ
def pre(xs:List cL)(p:(cL->Bool)×(cL->Bool)):Bool:=xs.all p.1
abbrev wf(x0:(List cL))(x1:((cL->Bool)×(cL->Bool))):Prop:=fW [(.val (.sl 0 aAj) .f),(.fn aAj .bool)] (x0,(x1,()))
noncomputable def aR(x0:(List cL))(x1:((cL->Bool)×(cL->Bool))):Option kZ:=
 if(dA.pre x0 x1)=true then
 letB (dA x0 x1) fun v1=>
 some ((),((decide ((0:Int)<=v1)),()))
 else
 none
theorem eq(x0:List cL)(x1:(cL->Bool)×(cL->Bool))(_:wf x0 x1)(hp:pre x0 x1=true):aR x0 x1=some ((),(cQ x0 x1,())):=by
 unfold aR
 exact dS (show dA.pre _ _=true from hp) (congrArg (fun b=>some ((),(b,()))) (aGM x1.2 x0))
end cQ
def cN(xs:List aJ)(p:(aJ->Bool)×(aJ->Bool)):Int:=vI p.2 xs 0
namespace cN
def pre(xs:List aJ)(p:(aJ->Bool)×(aJ->Bool)):Bool:=xs.all p.1
def pre2:=tK (α:=aJ)
def fn2:=aBN (α:=aJ)
def kY:=aGg (α:=aJ)
noncomputable def cW(x1:(List aJ))(x2:(aJ->Bool))(x3:(aJ->Bool))(x4:Int)(x5:Int):Option (((List aJ)×((aJ->Bool)×((aJ->Bool)×eN)))⊕((Int×Unit)⊕Unit)):=
 if(decide (x5<x4))=true then
 if(decide ((0:Int)<=x5))=true then
 if(decide (x5<((length x1:Nat):Int)))=true then
 if(x2 (List.getD x1 (Int.toNat x5) vB))=true then
 if(x3 (List.getD x1 (Int.toNat x5) vB))=true then
 some (.inr (.inl (x5,())))
 else
 some (.inl (x1,(x2,(x3,(x4,((wrap .i64 (x5+(1:Int))),()))))))
 else
 none
 else
 none
 else
 none
 else
 some (.inr (.inr ()))
abbrev wf(x0:(List aJ))(x1:((aJ->Bool)×(aJ->Bool))):Prop:=fW [(.val (.sl 0 aAh) .f),(.fn aAh .bool)] (x0,(x1,()))
noncomputable def aR(x0:(List aJ))(x1:((aJ->Bool)×(aJ->Bool))):Option xT:=
 if(cN.pre2 (x0,(x1.1,(x1.2,(((length x0:Nat):Int),((0:Int),()))))))=true then
  letB (cN.fn2 (x0,(x1.1,(x1.2,(((length x0:Nat):Int),((0:Int),())))))) fun v1=>
  match v1 with
  |.inl y=>
   some ((),y)
  |.inr y=>
   some ((),((-1:Int),()))
 else
  none
theorem qO(x1:List aJ)(x2 x3:aJ->Bool)(x4 x5:Int)(hp:pre2 (x1,(x2,(x3,(x4,(x5,())))))=true):Rounds pre2 kY fn2 (x1,(x2,(x3,(x4,(x5,()))))) (cW x1 x2 x3 x4 x5):=by
 unfold cW
 by_cases hlt:x5<x4
 . obtain⟨h1,h2,h3,h4,h5⟩:=aBU hp hlt vB
   simp only[hlt,h1,h2,h3,decide_true,if_true]
   split
   . rename_i h;exact h4 h
   . rename_i h;exact h5 h
 . simp only[hlt,decide_false,Zj,if_false]
   exact aDS hp hlt
theorem eq(x0:List aJ)(x1:(aJ->Bool)×(aJ->Bool))(hw:wf x0 x1)(hp:pre x0 x1=true):aR x0 x1=some ((),(cN x0 x1,())):=by
 have h1:x0.length<=maxLen:=hw.1.1
 unfold aR
 rw[if_pos (show pre2 _=true by simp only[pre2,tK,Zb,Za];exact⟨h1,trivial,by omega,by simp,hp⟩)]
 exact aGN x0 x1
end cN
def cF(xs:List aJ)(p:(aJ->Bool)×(aJ->Bool)):Bool:=xs.any p.2
namespace cF
def pre(xs:List aJ)(p:(aJ->Bool)×(aJ->Bool)):Bool:=xs.all p.1
abbrev wf(x0:(List aJ))(x1:((aJ->Bool)×(aJ->Bool))):Prop:=fW [(.val (.sl 0 aAh) .f),(.fn aAh .bool)] (x0,(x1,()))
noncomputable def aR(x0:(List aJ))(x1:((aJ->Bool)×(aJ->Bool))):Option kZ:=
 if(cN.pre x0 x1)=true then
 letB (cN x0 x1) fun v1=>
 some ((),((decide ((0:Int)<=v1)),()))
 else
 none
theorem eq(x0:List aJ)(x1:(aJ->Bool)×(aJ->Bool))(_:wf x0 x1)(hp:pre x0 x1=true):aR x0 x1=some ((),(cF x0 x1,())):=by
 unfold aR
 exact dS (show cN.pre _ _=true from hp) (congrArg (fun b=>some ((),(b,()))) (aGM x1.2 x0))
end cF
def cJ(xs:List aM)(p:(aM->Bool)×(aM->Bool)):Int:=vI p.2 xs 0
namespace cJ
def pre(xs:List aM)(p:(aM->Bool)×(aM->Bool)):Bool:=xs.all p.1
def pre2:=tK (α:=aM)
def fn2:=aBN (α:=aM)
def kY:=aGg (α:=aM)
noncomputable def cW(x1:(List aM))(x2:(aM->Bool))(x3:(aM->Bool))(x4:Int)(x5:Int):Option (((List aM)×((aM->Bool)×((aM->Bool)×eN)))⊕((Int×Unit)⊕Unit)):=
 if(decide (x5<x4))=true then
 if(decide ((0:Int)<=x5))=true then
 if(decide (x5<((length x1:Nat):Int)))=true then
 if(x2 (List.getD x1 (Int.toNat x5) sI))=true then
 if(x3 (List.getD x1 (Int.toNat x5) sI))=true then
 some (.inr (.inl (x5,())))
 else
 some (.inl (x1,(x2,(x3,(x4,((wrap .i64 (x5+(1:Int))),()))))))
 else
 none
 else
 none
 else
 none
 else
 some (.inr (.inr ()))
abbrev wf(x0:(List aM))(x1:((aM->Bool)×(aM->Bool))):Prop:=fW [(.val (.sl 0 aBw) .f),(.fn aBw .bool)] (x0,(x1,()))
noncomputable def aR(x0:(List aM))(x1:((aM->Bool)×(aM->Bool))):Option xT:=
 if(cJ.pre2 (x0,(x1.1,(x1.2,(((length x0:Nat):Int),((0:Int),()))))))=true then
  letB (cJ.fn2 (x0,(x1.1,(x1.2,(((length x0:Nat):Int),((0:Int),())))))) fun v1=>
  match v1 with
  |.inl y=>
   some ((),y)
  |.inr y=>
   some ((),((-1:Int),()))
 else
  none
theorem qO(x1:List aM)(x2 x3:aM->Bool)(x4 x5:Int)(hp:pre2 (x1,(x2,(x3,(x4,(x5,())))))=true):Rounds pre2 kY fn2 (x1,(x2,(x3,(x4,(x5,()))))) (cW x1 x2 x3 x4 x5):=by
 unfold cW
 by_cases hlt:x5<x4
 . obtain⟨h1,h2,h3,h4,h5⟩:=aBU hp hlt sI
   simp only[hlt,h1,h2,h3,decide_true,if_true]
   split
   . rename_i h;exact h4 h
   . rename_i h;exact h5 h
 . simp only[hlt,decide_false,Zj,if_false]
   exact aDS hp hlt
theorem eq(x0:List aM)(x1:(aM->Bool)×(aM->Bool))(hw:wf x0 x1)(hp:pre x0 x1=true):aR x0 x1=some ((),(cJ x0 x1,())):=by
 have h1:x0.length<=maxLen:=hw.1.1
 unfold aR
 rw[if_pos (show pre2 _=true by simp only[pre2,tK,Zb,Za];exact⟨h1,trivial,by omega,by simp,hp⟩)]
 exact aGN x0 x1
end cJ
def bT(xs:List aM)(p:(aM->Bool)×(aM->Bool)):Bool:=xs.any p.2
namespace bT
def pre(xs:List aM)(p:(aM->Bool)×(aM->Bool)):Bool:=xs.all p.1
abbrev wf(x0:(List aM))(x1:((aM->Bool)×(aM->Bool))):Prop:=fW [(.val (.sl 0 aBw) .f),(.fn aBw .bool)] (x0,(x1,()))
noncomputable def aR(x0:(List aM))(x1:((aM->Bool)×(aM->Bool))):Option kZ:=
 if(cJ.pre x0 x1)=true then
 letB (cJ x0 x1) fun v1=>
 some ((),((decide ((0:Int)<=v1)),()))
 else
 none
theorem eq(x0:List aM)(x1:(aM->Bool)×(aM->Bool))(_:wf x0 x1)(hp:pre x0 x1=true):aR x0 x1=some ((),(bT x0 x1,())):=by
 unfold aR
 exact dS (show cJ.pre _ _=true from hp) (congrArg (fun b=>some ((),(b,()))) (aGM x1.2 x0))
end bT
def gL(n:Int):Bool:=aB n 0 3
namespace gL
def pre(n:Int):Bool:=decide (n<=n)
abbrev wf(x0:Int):Prop:=fW [(.val (.int .i64) .f)] (x0,())
noncomputable def aR(x0:Int):Option kZ:=
 letB (aB x0 (0:Int) (3:Int)) fun v1=>
 some ((),(v1,()))
theorem eq(x0:Int)(_:wf x0)(_:pre x0=true):aR x0=some ((),(gL x0,())):=rfl
end gL
def eW(n lo hi:Int):Bool:=!aB n lo hi
namespace eW
def pre(_ _ _:Int):Bool:=true
abbrev wf(x0:Int)(x1:Int)(x2:Int):Prop:=fW [(.val (.int .i64) .f),(.peek (.int .i64)),(.peek (.int .i64))] (x0,(x1,(x2,())))
noncomputable def aR(x0:Int)(x1:Int)(x2:Int):Option kZ:=
 letB (aB x0 x1 x2) fun v1=>
 some ((),((!v1),()))
theorem eq(x0 x1 x2:Int)(_:wf x0 x1 x2)(_:pre x0 x1 x2=true):aR x0 x1 x2=some ((),(eW x0 x1 x2,())):=rfl
end eW
def bD(xs:List Int)(lo hi:Int):Bool:=xs.all fun n=>aB n lo hi
namespace bD
def pre(_:List Int)(lo _:Int):Bool:=decide (lo<=lo)
abbrev wf(x0:(List Int))(x1:Int)(x2:Int):Prop:=fW [(.val (.sl 0 (.int .i64)) .f),(.val (.int .i64) .f),(.val (.int .i64) .f)] (x0,(x1,(x2,())))
noncomputable def aR(x0:(List Int))(x1:Int)(x2:Int):Option kZ:=
 if(cP.pre x0 ((fun x=>(eW.pre x x1 x2)),(fun x=>(eW x x1 x2))))=true then
 letB (cP x0 ((fun x=>(eW.pre x x1 x2)),(fun x=>(eW x x1 x2)))) fun v1=>
 some ((),((!v1),()))
 else
 none
theorem eq(x0:List Int)(x1 x2:Int)(_:wf x0 x1 x2)(_:pre x0 x1 x2=true):aR x0 x1 x2=some ((),(bD x0 x1 x2,())):=by
 unfold aR
 refine dS (show cP.pre _ _=true by simp[cP.pre,eW.pre]) (congrArg (fun b=>some ((),(b,()))) ?_)
 show(!x0.any fun x=>!aB x x1 x2)=_
 rw[aH3,Bool.not_not];rfl
end bD
def nJ(a:aM):Bool:=aB a.1 0 9&&(aB a.2.1 (-1) 100000&&(gI a.2.2.1&&gI a.2.2.2.1))
abbrev jI:=nJ
abbrev jJ:=nJ
namespace jI
def pre(a:aM):Bool:=decide (a.1<=a.1)
abbrev wf(x0:aM):Prop:=fW [(.val aBw .f)] (x0,())
noncomputable def aR(x0:aM):Option kZ:=
 letB (aB x0.1 (0:Int) (9:Int)) fun v1=>
 if v1=true then
 letB (aB x0.2.1 (-1:Int) (100000:Int)) fun v2=>
 if v2=true then
 letB (gI x0.2.2.1) fun v3=>
 if v3=true then
 letB (gI x0.2.2.2.1) fun v4=>
 some ((),(v4,()))
 else
 some ((),(false,()))
 else
 some ((),(false,()))
 else
 some ((),(false,()))
theorem eq(x0:aM)(_:wf x0)(_:pre x0=true):aR x0=some ((),(jI x0,())):=by
 unfold aR jI nJ
 simp only[letB]
 cases aB x0.1 0 9<;>cases aB x0.2.1 (-1) 100000<;>cases gI x0.2.2.1<;>simp
end jI
namespace jJ
def pre(a:aM):Bool:=decide (a.1<=a.1)
abbrev wf(x0:aM):Prop:=fW [(.val aBw .f)] (x0,())
noncomputable def aR(x0:aM):Option kZ:=
 letB (aB x0.1 (0:Int) (9:Int)) fun v1=>
 if v1=true then
 letB (aB x0.2.1 (-1:Int) (100000:Int)) fun v2=>
 if v2=true then
 letB (gI x0.2.2.1) fun v3=>
 if v3=true then
 letB (gI x0.2.2.2.1) fun v4=>
 some ((),(v4,()))
 else
 some ((),(false,()))
 else
 some ((),(false,()))
 else
 some ((),(false,()))
theorem eq(x0:aM)(_:wf x0)(_:pre x0=true):aR x0=some ((),(jJ x0,())):=by
 unfold aR jJ nJ
 simp only[letB]
 cases aB x0.1 0 9<;>cases aB x0.2.1 (-1) 100000<;>cases gI x0.2.2.1<;>simp
end jJ
abbrev wP:=gL
def yX(xs:List Int)(j:Nat):Bool:=wP (xs.getD j (0:Int))&&(decide (j=0)||decide (xs.getD (j-1) (0:Int)<xs.getD j (0:Int)))
def jS(g:aJ)(rows:Int):Bool:=decide ((g.2.2.1.length:Int)=(g.2.1.length:Int))&&(decide ((g.2.2.2.1.length:Int)=rows)&&(aB g.1 0 100000&&(qC (yX g.2.1) 0 g.2.1.length&&(bD g.2.2.1 0 100000&&bD g.2.2.2.1 0 100000))))
abbrev iZ:=jS
abbrev gY:=jS
namespace iZ
abbrev S2:Type:=(Int×((List Int)×(Int×(Int×aAs))))
abbrev O2:Type:=((Bool×Unit)⊕(Int×aAs))
def pre(g:aJ)(_:Int):Bool:=oY g
noncomputable def pre2:S2->Bool:=fun(_,x2,x3,x4,x5,_)=>same x2 x5.2.1&&(decide (x3=(x5.2.1.length:Int))&&pJ x5.2.1.length x4)
def fn2:S2->O2:=fun(x1,_,_,x4,x5,_)=>xP (yX x5.2.1) x5.2.1.length x4 (x1,(x5,()))
def kY:S2->Nat:=fun(_,_,_,x4,x5,_)=>x5.2.1.length-x4.toNat
noncomputable def cW(x1:Int)(x2:(List Int))(x3:Int)(x4:Int)(x5:aJ):Option ((Int×((List Int)×(Int×(Int×aAs))))⊕((Bool×Unit)⊕(Int×aAs))):=
 if(decide (x4<x3))=true then
 if(decide ((0:Int)<=x4))=true then
 if(decide (x4<((length x2:Nat):Int)))=true then
 if(gL.pre (List.getD x2 (Int.toNat x4) (0:Int)))=true then
 letB (wP (List.getD x2 (Int.toNat x4) (0:Int))) fun v1=>
 if(!v1)=true then
 some (.inr (.inl (false,())))
 else
 if(decide ((0:Int)<x4))=true then
 if(decide ((0:Int)<=(wrap .i64 (x4-(1:Int)))))=true then
 if(decide ((wrap .i64 (x4-(1:Int)))<((length x5.2.1:Nat):Int)))=true then
 if(decide ((List.getD x2 (Int.toNat x4) (0:Int))<=(List.getD x5.2.1 (Int.toNat (wrap .i64 (x4-(1:Int)))) (0:Int))))=true then
 some (.inr (.inl (false,())))
 else
 some (.inl (x1,(x2,(x3,((wrap .i64 (x4+(1:Int))),(x5,()))))))
 else
 none
 else
 none
 else
 some (.inl (x1,(x2,(x3,((wrap .i64 (x4+(1:Int))),(x5,()))))))
 else
 none
 else
 none
 else
 none
 else
 some (.inr (.inr (x1,(x5,()))))
abbrev wf(x0:aJ)(x1:Int):Prop:=fW [(.val aAh .f),(.val (.int .i64) .f)] (x0,(x1,()))
noncomputable def aR(x0:aJ)(x1:Int):Option kZ:=
 if(iZ.pre2 (x1,(x0.2.1,(((length x0.2.1:Nat):Int),((0:Int),(x0,()))))))=true then
  letB (iZ.fn2 (x1,(x0.2.1,(((length x0.2.1:Nat):Int),((0:Int),(x0,())))))) fun v1=>
  match v1 with
  |.inl y=>
   some ((),y)
  |.inr y=>
   letB (aB y.2.1.1 (0:Int) (100000:Int)) fun v2=>
   if v2=true then
    if(decide (((length y.2.1.2.2.1:Nat):Int)=((length y.2.1.2.1:Nat):Int)))=true then
     if(bD.pre y.2.1.2.2.1 (0:Int) (100000:Int))=true then
      letB (bD y.2.1.2.2.1 (0:Int) (100000:Int)) fun v3=>
      if v3=true then
       if(decide (((length y.2.1.2.2.2.1:Nat):Int)=y.1))=true then
        if(bD.pre y.2.1.2.2.2.1 (0:Int) (100000:Int))=true then
         letB (bD y.2.1.2.2.2.1 (0:Int) (100000:Int)) fun v4=>
         some ((),(v4,()))
        else
         none
       else
        some ((),(false,()))
      else
       some ((),(false,()))
     else
      none
    else
     some ((),(false,()))
   else
    some ((),(false,()))
 else
  none
theorem qO(x1:Int)(x2:List Int)(x3 x4:Int)(x5:aJ)(hp:pre2 (x1,(x2,(x3,(x4,(x5,())))))=true):Rounds pre2 kY fn2 (x1,(x2,(x3,(x4,(x5,()))))) (cW x1 x2 x3 x4 x5):=by
 simp only[pre2,Zb,Za,bV] at hp
 obtain⟨rfl,rfl,ha⟩:=hp
 obtain⟨h1,h2,h3⟩:=mV ha
 unfold cW
 by_cases hlt:x4<(x5.2.1.length:Int)
 . obtain⟨n1,n2,n3,n4⟩:=rR ha hlt
   have nxt:yX x5.2.1 x4.toNat=true->Rounds pre2 kY fn2 (x1,(x5.2.1,((x5.2.1.length:Int),(x4,(x5,()))))) (some (.inl (x1,(x5.2.1,((x5.2.1.length:Int),(x4+1,(x5,()))))))):=
    fun h=>⟨by simp only[pre2,pT,n2];simp,n3,rN ha hlt h⟩
   have stp:yX x5.2.1 x4.toNat=false->Rounds pre2 kY fn2 (x1,(x5.2.1,((x5.2.1.length:Int),(x4,(x5,()))))) (some (.inr (.inl (false,())))):=fun h=>rS ha hlt h
   simp only[letB,n1,hlt,h2,decide_true,if_true,show gL.pre (x5.2.1.getD x4.toNat (0:Int))=true from Zd (Int.le_refl _)]
   simp only[yX] at nxt stp
   by_cases h0:0<x4
   . obtain⟨p1,p2,p3,p4,p5⟩:=xM ha h0
     simp only[p1,p2,p3,p4,h0,decide_true,if_true]
     simp only[p5,decide_false,Bool.false_or] at nxt stp
     generalize x5.2.1.getD x4.toNat (0:Int)=e at *
     generalize x5.2.1.getD (x4.toNat-1) (0:Int)=e' at *
     generalize wP e=b1 at *
     by_cases hd:e<=e'
     . simp only[hd,show ¬e'<e by omega,decide_true,decide_false,if_true] at *
       cases b1<;>exact stp rfl
     . simp only[hd,show e'<e by omega,decide_true,decide_false] at *
       cases b1
       . exact stp rfl
       . exact nxt rfl
   . have p5:x4.toNat=0:=by omega
     simp only[h0,decide_false,Zj,if_false]
     simp only[p5,decide_true,Bool.true_or,Bool.and_true] at nxt stp ⊢
     generalize x5.2.1.getD 0 (0:Int)=e at *
     generalize wP e=b1 at *
     cases b1
     . exact stp rfl
     . exact nxt rfl
 . rw[if_neg (by simp[hlt])]
   exact uV ha hlt
theorem eq(x0:aJ)(x1:Int)(_:wf x0 x1)(hp:pre x0 x1=true):aR x0 x1=some ((),(iZ x0 x1,())):=by
 have hp:oY x0=true:=hp
 simp only[oY,Zb,cC] at hp
 unfold aR iZ jS
 rw[if_pos (show pre2 (x1,(x0.2.1,((x0.2.1.length:Int),((0:Int),(x0,())))))=true by simp only[pre2,pT,pO hp.1];simp),
  show fn2 (x1,(x0.2.1,((x0.2.1.length:Int),((0:Int),(x0,())))))=_ from uY]
 simp only[letB]
 cases qC (yX x0.2.1) 0 x0.2.1.length
 . simp
 simp only[cond_true,show ∀l:List Int,bD.pre l 0 100000=true from fun _=>rfl,if_true]
 cases aB x0.1 0 100000<;>cases decide ((x0.2.2.1.length:Int)=(x0.2.1.length:Int))<;>cases decide ((x0.2.2.2.1.length:Int)=x1)<;>cases bD x0.2.2.1 0 100000<;>rfl
end iZ
namespace gY
abbrev S4:Type:=(Int×aAs)
abbrev O4:Type:=((Bool×Unit)⊕aAs)
abbrev S9:Type:=(Int×aAs)
abbrev O9:Type:=((Bool×Unit)⊕Unit)
def pre(g:aJ)(_:Int):Bool:=oY g
def gAt(g:aJ)(j:Nat):Bool:=yX g.2.1 j&&aB (g.2.2.1.getD j (0:Int)) 0 100000
def oAt(g:aJ)(j:Nat):Bool:=aB (g.2.2.2.1.getD j (0:Int)) 0 100000
def pre4:S4->Bool:=fun(x1,x2,_)=>decide (x2.2.2.1.length=x2.2.1.length)&&(decide (x2.2.2.2.1.length<=16777216)&&pJ x2.2.1.length x1)
def fn4:S4->O4:=fun(x1,x2,_)=>xP (gAt x2) x2.2.1.length x1 (x2,())
def qD:S4->Nat:=fun(x1,x2,_)=>x2.2.1.length-x1.toNat
def pre9:S9->Bool:=fun(x1,x2,_)=>pJ x2.2.2.2.1.length x1
def fn9:S9->O9:=fun(x1,x2,_)=>xP (oAt x2) x2.2.2.2.1.length x1 ()
def mu9:S9->Nat:=fun(x1,x2,_)=>x2.2.2.2.1.length-x1.toNat
noncomputable def hJ(x1:Int)(x2:aJ):Option ((Int×aAs)⊕((Bool×Unit)⊕aAs)):=
 if(decide (x1<((length x2.2.1:Nat):Int)))=true then
 if(decide ((0:Int)<=x1))=true then
 if(decide (x1<((length x2.2.1:Nat):Int)))=true then
 letB (aB (List.getD x2.2.1 (Int.toNat x1) (0:Int)) (0:Int) (3:Int)) fun v1=>
 if(!v1)=true then
 some (.inr (.inl (false,())))
 else
 if(decide ((0:Int)<x1))=true then
 if(decide ((0:Int)<=(wrap .i64 (x1-(1:Int)))))=true then
 if(decide ((wrap .i64 (x1-(1:Int)))<((length x2.2.1:Nat):Int)))=true then
 if(decide ((0:Int)<=x1))=true then
 if(decide (x1<((length x2.2.1:Nat):Int)))=true then
 if(decide ((List.getD x2.2.1 (Int.toNat x1) (0:Int))<=(List.getD x2.2.1 (Int.toNat (wrap .i64 (x1-(1:Int)))) (0:Int))))=true then
 some (.inr (.inl (false,())))
 else
 if(decide ((0:Int)<=x1))=true then
 if(decide (x1<((length x2.2.2.1:Nat):Int)))=true then
 letB (aB (List.getD x2.2.2.1 (Int.toNat x1) (0:Int)) (0:Int) (100000:Int)) fun v2=>
 if(!v2)=true then
 some (.inr (.inl (false,())))
 else
 some (.inl ((wrap .i64 (x1+(1:Int))),(x2,())))
 else
 none
 else
 none
 else
 none
 else
 none
 else
 none
 else
 none
 else
 if(decide ((0:Int)<=x1))=true then
 if(decide (x1<((length x2.2.2.1:Nat):Int)))=true then
 letB (aB (List.getD x2.2.2.1 (Int.toNat x1) (0:Int)) (0:Int) (100000:Int)) fun v3=>
 if(!v3)=true then
 some (.inr (.inl (false,())))
 else
 some (.inl ((wrap .i64 (x1+(1:Int))),(x2,())))
 else
 none
 else
 none
 else
 none
 else
 none
 else
 some (.inr (.inr (x2,())))
noncomputable def aEd(x1:Int)(x2:aJ):Option ((Int×aAs)⊕((Bool×Unit)⊕Unit)):=
 if(decide (x1<((length x2.2.2.2.1:Nat):Int)))=true then
 if(decide ((0:Int)<=x1))=true then
 if(decide (x1<((length x2.2.2.2.1:Nat):Int)))=true then
 letB (aB (List.getD x2.2.2.2.1 (Int.toNat x1) (0:Int)) (0:Int) (100000:Int)) fun v1=>
 if(!v1)=true then
 some (.inr (.inl (false,())))
 else
 some (.inl ((wrap .i64 (x1+(1:Int))),(x2,())))
 else
 none
 else
 none
 else
 some (.inr (.inr ()))
abbrev wf(x0:aJ)(x1:Int):Prop:=fW [(.val aAh .f),(.val (.int .i64) .f)] (x0,(x1,()))
noncomputable def aR(x0:aJ)(x1:Int):Option kZ:=
 if(!(decide (((length x0.2.2.1:Nat):Int)=((length x0.2.1:Nat):Int))))=true then
  some ((),(false,()))
 else
  if(!(decide (((length x0.2.2.2.1:Nat):Int)=x1)))=true then
   some ((),(false,()))
  else
   letB (aB x0.1 (0:Int) (100000:Int)) fun v1=>
   if(!v1)=true then
    some ((),(false,()))
   else
    if(gY.pre4 ((0:Int),(x0,())))=true then
     letB (gY.fn4 ((0:Int),(x0,()))) fun v2=>
     match v2 with
     |.inl y=>
      some ((),y)
     |.inr y=>
      if(gY.pre9 ((0:Int),y))=true then
       letB (gY.fn9 ((0:Int),y)) fun v3=>
       match v3 with
       |.inl y_1=>
        some ((),y_1)
       |.inr y_1=>
        some ((),(true,()))
      else
       none
    else
     none
theorem zE(x1:Int)(x2:aJ)(hp:pre4 (x1,(x2,()))=true):Rounds pre4 qD fn4 (x1,(x2,())) (hJ x1 x2):=by
 simp only[pre4,Zb,Za] at hp
 obtain⟨hb,ho,ha⟩:=hp
 obtain⟨h1,h2,h3⟩:=mV ha
 unfold hJ
 by_cases hlt:x1<(x2.2.1.length:Int)
 . obtain⟨n1,n2,n3,n4⟩:=rR ha hlt
   have hlt':x1<(x2.2.2.1.length:Int):=by omega
   have nxt:gAt x2 x1.toNat=true->Rounds pre4 qD fn4 (x1,(x2,())) (some (.inl (x1+1,(x2,())))):=fun h=>⟨by simp only[pre4,n2,hb,ho];simp,n3,rN ha hlt h⟩
   have stp:gAt x2 x1.toNat=false->Rounds pre4 qD fn4 (x1,(x2,())) (some (.inr (.inl (false,())))):=fun h=>rS ha hlt h
   simp only[letB,n1,hlt,hlt',h2,decide_true,if_true]
   simp only[gAt,yX,wP,gL] at nxt stp
   generalize x2.2.2.1.getD x1.toNat (0:Int)=f at *
   generalize aB f 0 100000=b2 at *
   by_cases h0:0<x1
   . obtain⟨p1,p2,p3,p4,p5⟩:=xM ha h0
     simp only[p1,p2,p3,p4,h0,decide_true,if_true]
     simp only[p5,decide_false,Bool.false_or] at nxt stp
     generalize x2.2.1.getD x1.toNat (0:Int)=e at *
     generalize x2.2.1.getD (x1.toNat-1) (0:Int)=e' at *
     generalize aB e 0 3=b1 at *
     by_cases hd:e<=e'
     . simp only[hd,show ¬e'<e by omega,decide_true,decide_false,if_true] at *
       cases b1<;>exact stp rfl
     . simp only[hd,show e'<e by omega,decide_true,decide_false] at *
       cases b1<;>cases b2
       . exact stp rfl
       . exact stp rfl
       . exact stp rfl
       . exact nxt rfl
   . have p5:x1.toNat=0:=by omega
     simp only[h0,decide_false,Zj,if_false]
     simp only[p5,decide_true,Bool.true_or,Bool.and_true] at nxt stp ⊢
     generalize x2.2.1.getD 0 (0:Int)=e at *
     generalize aB e 0 3=b1 at *
     cases b1<;>cases b2
     . exact stp rfl
     . exact stp rfl
     . exact stp rfl
     . exact nxt rfl
 . rw[if_neg (by simp[hlt])]
   exact uV ha hlt
theorem ok9(x1:Int)(x2:aJ)(ha:pre9 (x1,(x2,()))=true):Rounds pre9 mu9 fn9 (x1,(x2,())) (aEd x1 x2):=by
 have ha:pJ x2.2.2.2.1.length x1=true:=ha
 obtain⟨h1,h2,h3⟩:=mV ha
 unfold aEd
 by_cases hlt:x1<(x2.2.2.2.1.length:Int)
 . obtain⟨n1,n2,n3,n4⟩:=rR ha hlt
   have nxt:oAt x2 x1.toNat=true->Rounds pre9 mu9 fn9 (x1,(x2,())) (some (.inl (x1+1,(x2,())))):=fun h=>⟨n2,n3,rN ha hlt h⟩
   have stp:oAt x2 x1.toNat=false->Rounds pre9 mu9 fn9 (x1,(x2,())) (some (.inr (.inl (false,())))):=fun h=>rS ha hlt h
   simp only[letB,n1,hlt,h2,decide_true,if_true]
   simp only[oAt] at nxt stp
   generalize x2.2.2.2.1.getD x1.toNat (0:Int)=f at *
   generalize aB f 0 100000=b2 at *
   cases b2
   . exact stp rfl
   . exact nxt rfl
 . rw[if_neg (by simp[hlt])]
   exact uV ha hlt
theorem eq(x0:aJ)(x1:Int)(_:wf x0 x1)(hp:pre x0 x1=true):aR x0 x1=some ((),(gY x0 x1,())):=by
 have hp:oY x0=true:=hp
 simp only[oY,Zb,cC] at hp
 unfold aR gY jS
 by_cases hb:(x0.2.2.1.length:Int)=(x0.2.1.length:Int)
 case neg=>rw[if_pos (by simp[hb]),decide_eq_false hb];rfl
 rw[if_neg (by simp[hb]),Zd hb]
 by_cases ho:(x0.2.2.2.1.length:Int)=x1
 case neg=>rw[if_pos (by simp[ho]),decide_eq_false ho];rfl
 rw[if_neg (by simp[ho]),Zd ho]
 simp only[letB]
 cases aB x0.1 0 100000
 . rfl
 rw[if_neg (by decide),if_pos (show pre4 ((0:Int),(x0,()))=true by simp only[pre4,pO hp.1,Zd (p:=x0.2.2.1.length=x0.2.1.length) (by omega),Zd hp.2.2];rfl),
  show fn4 ((0:Int),(x0,()))=_ from uY,show qC (gAt x0) 0 x0.2.1.length=(qC (yX x0.2.1) 0 x0.2.1.length&&bD x0.2.2.1 0 100000) by
   rw[show gAt x0=fun j=>yX x0.2.1 j&&aB (x0.2.2.1.getD j (0:Int)) 0 100000 from rfl,aDY,show x0.2.1.length=x0.2.2.1.length by omega]
   exact congrArg _ (yW (p:=fun n=>aB n 0 100000))]
 cases qC (yX x0.2.1) 0 x0.2.1.length
 . rfl
 cases bD x0.2.2.1 0 100000
 . rfl
 simp only[Bool.and_true,cond_true]
 rw[if_pos (show pre9 ((0:Int),(x0,()))=true from pO hp.2.2),show fn9 ((0:Int),(x0,()))=_ from uY,show qC (oAt x0) 0 x0.2.2.2.1.length=bD x0.2.2.2.1 0 100000 from yW (p:=fun n=>aB n 0 100000)]
 cases bD x0.2.2.2.1 0 100000<;>rfl
end gY
def fL(r:cL):Bool:=!pN r
namespace fL
def pre(r:cL):Bool:=dI r.2.2.1
abbrev wf(x0:cL):Prop:=fW [(.val aAj .f)] (x0,())
noncomputable def aR(x0:cL):Option kZ:=
 if(lD.pre x0)=true then
 letB (pN x0) fun v1=>
 some ((),((!v1),()))
 else
 none
theorem eq(x0:cL)(_:wf x0)(hp:pre x0=true):aR x0=some ((),(fL x0,())):=dS (show lD.pre x0=true from hp) rfl
end fL
def fM(g:aJ)(s:aW):Bool:=!jS g s.1
namespace fM
def pre(g:aJ)(_:aW):Bool:=oY g
abbrev wf(x0:aJ)(x1:aW):Prop:=fW [(.val aAh .f),(.peek wG)] (x0,(x1,()))
noncomputable def aR(x0:aJ)(x1:aW):Option kZ:=
 if(iZ.pre x0 x1.1)=true then
 letB (jS x0 x1.1) fun v1=>
 some ((),((!v1),()))
 else
 none
theorem eq(x0:aJ)(x1:aW)(_:wf x0 x1)(hp:pre x0 x1=true):aR x0 x1=some ((),(fM x0 x1,())):=dS (show iZ.pre x0 x1.1=true from hp) rfl
end fM
def fD(a:aM):Bool:=!nJ a
namespace fD
def pre(a:aM):Bool:=decide (a.1<=a.1)
abbrev wf(x0:aM):Prop:=fW [(.val aBw .f)] (x0,())
noncomputable def aR(x0:aM):Option kZ:=
 if(jI.pre x0)=true then
 letB (nJ x0) fun v1=>
 some ((),((!v1),()))
 else
 none
theorem eq(x0:aM)(_:wf x0)(_:pre x0=true):aR x0=some ((),(fD x0,())):=dS (show jI.pre x0=true from Zd (Int.le_refl _)) rfl
end fD
def uH(mk:aK->Int->Bool)(s:aW)(ms:List aK)(j:Nat):Bool:=
 mk (ms.getD j rF) s.2.1&&(decide ((ms.getD j rF).1<s.1)&&(decide (j=0)||(decide ((ms.getD (j-1) rF).1<=(ms.getD j rF).1)&&!(decide ((ms.getD (j-1) rF).1=(ms.getD j rF).1)&&decide ((ms.getD j rF).2.1<=(ms.getD (j-1) rF).2.1)))))
def wA(mk:aK->Int->Bool)(s:aW)(k:bI):Bool:=
 dP s&&(decide ((k.1.length:Int)=s.1)&&(decide ((k.2.2.1.length:Int)=2)&&(aB k.2.2.2.1 0 100000&&(decide ((k.2.2.2.2.1.length:Int)=4)&&(bD k.2.2.2.2.1 0 100000&&(decide ((k.2.2.2.2.2.1.length:Int)=4)&&
  (qC (uH mk s k.2.1) 0 k.2.1.length&&(k.1.all pN&&(k.2.2.1.all (fun g=>jS g s.1)&&k.2.2.2.2.2.1.all nJ)))))))))
def dO(s:aW)(k:bI):Bool:=wA dF s k
def bX(s:aW)(k:bI):Bool:=wA dC s k
theorem zK{α:Type}(f:α->Bool)(xs:List α):(!xs.any fun x=>!f x)=xs.all f:=by rw[aH3,Bool.not_not]
def tJ(x:bI):Bool:=dI x.1&&(x.1.all (fun r:cL=>dI r.2.2.1)&&(dI x.2.1&&(x.2.1.all (fun m:aK=>dI m.2.2.2.2.1)&&(dI x.2.2.1&&(x.2.2.1.all oY&&(dI x.2.2.2.2.1&&dI x.2.2.2.2.2.1))))))
end Go.Aw.Pl
