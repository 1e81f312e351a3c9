import Derived.Test.YtdlkgkkfpfglbaaGreatPha
namespace Go.Aw.Pl
open Go.IntKind (wrap)
open List (length)
open Go Go.Aw
set_option linter.unusedVariables false
set_option linter.unusedSimpArgs false
set_option maxHeartbeats 1000000
namespace eI
def pre(xs:List eS)(k:Int):Bool:=zZ gI xs k
def pre2:=sK gI
def fn2:=aDn sJ gI
def kX:=aER (α:=eS)
noncomputable def cU(x1:Int)(x2:Int)(x3:(List eS)):Option (cL⊕(Int×((List eS)×Unit))):=
 if(decide (x2<((length x3:Nat):Int)))=true then
 if(decide ((0:Int)<=x2))=true then
 if(decide (x2<((length x3:Nat):Int)))=true then
 if(aE.pre (wrap .i64 (x1+(1:Int))))=true then
 if(decide ((0:Int)<=x2))=true then
 if(decide (x2<((length (List.modify x3 (Int.toNat x2) (fun z=>(x1,z.2))):Nat):Int)))=true then
 if(aE.pre (wrap .i64 ((wrap .i64 (x1+(1:Int)))+(1:Int))))=true then
 if(decide ((0:Int)<=x2))=true then
 if(decide (x2<((length (List.modify (List.modify x3 (Int.toNat x2) (fun z=>(x1,z.2))) (Int.toNat x2) (fun z=>(z.1,((aE (wrap .i64 (x1+(1:Int)))),z.2.2)))):Nat):Int)))=true then
 if(decide ((0:Int)<=x2))=true then
 if(decide (x2<((length (List.modify (List.modify (List.modify x3 (Int.toNat x2) (fun z=>(x1,z.2))) (Int.toNat x2) (fun z=>(z.1,((aE (wrap .i64 (x1+(1:Int)))),z.2.2)))) (Int.toNat x2) (fun z=>(z.1,(z.2.1,((aE (wrap .i64 ((wrap .i64 (x1+(1:Int)))+(1:Int)))),z.2.2.2))))):Nat):Int)))=true then
 if(decide ((0:Int)<=x2))=true then
 if(decide (x2<((length (List.modify (List.modify (List.modify (List.modify x3 (Int.toNat x2) (fun z=>(x1,z.2))) (Int.toNat x2) (fun z=>(z.1,((aE (wrap .i64 (x1+(1:Int)))),z.2.2)))) (Int.toNat x2) (fun z=>(z.1,(z.2.1,((aE (wrap .i64 ((wrap .i64 (x1+(1:Int)))+(1:Int)))),z.2.2.2))))) (Int.toNat x2) (fun z=>(z.1,(z.2.1,(z.2.2.1,((wrap .i64 ((wrap .i64 ((wrap .i64 (x1+(1:Int)))+(1:Int)))+(1:Int))),z.2.2.2.2)))))):Nat):Int)))=true then
 some (.inl ((wrap .i64 ((wrap .i64 ((wrap .i64 ((wrap .i64 ((wrap .i64 (x1+(1:Int)))+(1:Int)))+(1:Int)))+(1:Int)))+(1:Int))),((wrap .i64 (x2+(1:Int))),((List.modify (List.modify (List.modify (List.modify (List.modify x3 (Int.toNat x2) (fun z=>(x1,z.2))) (Int.toNat x2) (fun z=>(z.1,((aE (wrap .i64 (x1+(1:Int)))),z.2.2)))) (Int.toNat x2) (fun z=>(z.1,(z.2.1,((aE (wrap .i64 ((wrap .i64 (x1+(1:Int)))+(1:Int)))),z.2.2.2))))) (Int.toNat x2) (fun z=>(z.1,(z.2.1,(z.2.2.1,((wrap .i64 ((wrap .i64 ((wrap .i64 (x1+(1:Int)))+(1:Int)))+(1:Int))),z.2.2.2.2)))))) (Int.toNat x2) (fun z=>(z.1,(z.2.1,(z.2.2.1,(z.2.2.2.1,((wrap .i64 ((wrap .i64 ((wrap .i64 ((wrap .i64 (x1+(1:Int)))+(1:Int)))+(1:Int)))+(1:Int))),z.2.2.2.2.2))))))),()))))
 else
 none
 else
 none
 else
 none
 else
 none
 else
 none
 else
 none
 else
 none
 else
 none
 else
 none
 else
 none
 else
 none
 else
 none
 else
 some (.inr (x1,(x3,())))
abbrev wf(x0:(List eS))(x1:Int):Prop:=fV [(.mut (.sl 0 aHB)),(.val (.int .i64) .f)] (x0,(x1,()))
noncomputable def aR(x0:(List eS))(x1:Int):Option (((List eS)×Unit)×(Int×Unit)):=
 if(eI.pre2 (x1,((0:Int),(x0,()))))=true then
 letB (eI.fn2 (x1,((0:Int),(x0,())))) fun v1=>
 some (v1.2,(v1.1,()))
 else
 none
theorem qG(x1 x2:Int)(x3:List eS)(hp:pre2 (x1,(x2,(x3,())))=true):Rounds pre2 kX fn2 (x1,(x2,(x3,()))) (cU x1 x2 x3):=by
 unfold cU
 by_cases hlt:x2<(x3.length:Int)
 . obtain⟨h0,hk,hc,hn⟩:=tD nG hp hlt wT
   generalize he:x3.getD x2.toNat wT=e at hc
   simp only[gI] at hc
   have w0:wrap .i64 (x1+1)=x1+1:=iX (by omega) (by omega)
   have w1:wrap .i64 (x1+1+1)=x1+1+1:=iX (by omega) (by omega)
   have p1:aE.pre (x1+1)=true:=by simp only[aE.pre,Za];omega
   have w2:wrap .i64 (x1+1+1+1)=x1+1+1+1:=iX (by omega) (by omega)
   have p2:aE.pre (x1+1+1)=true:=by simp only[aE.pre,Za];omega
   have w3:wrap .i64 (x1+1+1+1+1)=x1+1+1+1+1:=iX (by omega) (by omega)
   have w4:wrap .i64 (x1+1+1+1+1+1)=x1+1+1+1+1+1:=iX (by omega) (by omega)
   simp only[letB,List.length_modify,List.modify_modify_eq,pI hn,Function.comp,hlt,h0,he,decide_true,if_true,w0,w1,p1,w2,p2,w3,w4]
   exact xH nG hp hlt wT (by rw[he];simp only[gI];omega) (by rw[he];rfl)
 . rw[if_neg (by simp[hlt])];exact aAQ hp hlt
theorem eq(x0:List eS)(x1:Int)(_:wf x0 x1)(hp:pre x0 x1=true):aR x0 x1=some (((eI x0 x1).1,()),((eI x0 x1).2,())):=by
 unfold aR
 rw[if_pos (show pre2 _=true from uF nG hp)]
 rfl
end eI
theorem aGr(xs:List eS)(k:Int):eI xs k=(pF sJ gI xs k,k+bJ gI xs):=rfl
theorem aFk{xs:List eS}{k:Int}(h0:0<=k)(h1:k+bJ gI xs<=134217728):eI.pre xs k=true:=mL.2 ⟨h0,h1⟩
noncomputable def dV(xs:List eS)(k:Int):Int:=vA (pF sJ gI) (bJ gI) xs k
namespace dV
def pre(xs:List eS)(k:Int):Bool:=zZ gI xs k
def pre2:=rI gI
noncomputable def fn2:=aBx sJ gI
def kX:=aEO (α:=eS)
noncomputable def cU(x1:(List eS))(x2:Int)(x3:Int):Option (((List eS)×eQ)⊕((Int×Unit)⊕(Int×Unit))):=
 if(decide (x3<((length x1:Nat):Int)))=true then
 if(decide ((0:Int)<=x3))=true then
 if(decide (x3<((length x1:Nat):Int)))=true then
 if(!(decide ((List.getD x1 (Int.toNat x3) wT).1=x2)))=true then
 some (.inr (.inl ((-1:Int),())))
 else
 if(decide ((0:Int)<=x3))=true then
 if(decide (x3<((length x1:Nat):Int)))=true then
 if(aE.pre (wrap .i64 (x2+(1:Int))))=true then
 letB (aE (wrap .i64 (x2+(1:Int)))) fun v1=>
 if(!((List.getD x1 (Int.toNat x3) wT).2.1==v1))=true then
 some (.inr (.inl ((-1:Int),())))
 else
 if(decide ((0:Int)<=x3))=true then
 if(decide (x3<((length x1:Nat):Int)))=true then
 if(aE.pre (wrap .i64 ((wrap .i64 (x2+(1:Int)))+(1:Int))))=true then
 letB (aE (wrap .i64 ((wrap .i64 (x2+(1:Int)))+(1:Int)))) fun v2=>
 if(!((List.getD x1 (Int.toNat x3) wT).2.2.1==v2))=true then
 some (.inr (.inl ((-1:Int),())))
 else
 if(decide ((0:Int)<=x3))=true then
 if(decide (x3<((length x1:Nat):Int)))=true then
 if(!(decide ((List.getD x1 (Int.toNat x3) wT).2.2.2.1=(wrap .i64 ((wrap .i64 ((wrap .i64 (x2+(1:Int)))+(1:Int)))+(1:Int))))))=true then
 some (.inr (.inl ((-1:Int),())))
 else
 if(decide ((0:Int)<=x3))=true then
 if(decide (x3<((length x1:Nat):Int)))=true then
 if(!(decide ((List.getD x1 (Int.toNat x3) wT).2.2.2.2.1=(wrap .i64 ((wrap .i64 ((wrap .i64 ((wrap .i64 (x2+(1:Int)))+(1:Int)))+(1:Int)))+(1:Int))))))=true then
 some (.inr (.inl ((-1:Int),())))
 else
 some (.inl (x1,((wrap .i64 ((wrap .i64 ((wrap .i64 ((wrap .i64 ((wrap .i64 (x2+(1:Int)))+(1:Int)))+(1:Int)))+(1:Int)))+(1:Int))),((wrap .i64 (x3+(1:Int))),()))))
 else
 none
 else
 none
 else
 none
 else
 none
 else
 none
 else
 none
 else
 none
 else
 none
 else
 none
 else
 none
 else
 none
 else
 none
 else
 some (.inr (.inr (x2,())))
abbrev wf(x0:(List eS))(x1:Int):Prop:=fV [(.val (.sl 0 aHB) .f),(.val (.int .i64) .f)] (x0,(x1,()))
noncomputable def aR(x0:(List eS))(x1:Int):Option xS:=
 if(dV.pre2 (x0,(x1,((0:Int),()))))=true then
  letB (dV.fn2 (x0,(x1,((0:Int),())))) fun v1=>
  match v1 with
  |.inl y=>
   some ((),y)
  |.inr y=>
   some ((),y)
 else
  none
theorem qG(x1:List eS)(x2 x3:Int)(hp:pre2 (x1,(x2,(x3,())))=true):Rounds pre2 kX fn2 (x1,(x2,(x3,()))) (cU x1 x2 x3):=by
 unfold cU
 by_cases hlt:x3<(x1.length:Int)
 . obtain⟨h0,hk,hc⟩:=wN nG hp hlt wT
   have xX:=aBp (m:=sJ) (g:=gI) hp hlt wT
   have good:=fun K hK=>zU nG (K:=K) hp hlt wT hK
   generalize x1.getD x3.toNat wT=e at *
   simp only[gI] at hc
   have w0:wrap .i64 (x2+1)=x2+1:=iX (by omega) (by omega)
   have w1:wrap .i64 (x2+1+1)=x2+1+1:=iX (by omega) (by omega)
   have p1:aE.pre (x2+1)=true:=by simp only[aE.pre,Za];omega
   have w2:wrap .i64 (x2+1+1+1)=x2+1+1+1:=iX (by omega) (by omega)
   have p2:aE.pre (x2+1+1)=true:=by simp only[aE.pre,Za];omega
   have w3:wrap .i64 (x2+1+1+1+1)=x2+1+1+1+1:=iX (by omega) (by omega)
   have w4:wrap .i64 (x2+1+1+1+1+1)=x2+1+1+1+1+1:=iX (by omega) (by omega)
   simp only[letB,hlt,h0,decide_true,if_true,w0,w1,p1,w2,p2,w3,w4]
   by_cases c0:e.1=x2
   case neg=>rw[if_pos (by simp[c0])];exact xX fun h=>c0 (congrArg (fun z:eS=>z.1) h)
   rw[if_neg (by simp[c0])]
   by_cases c1:e.2.1=aE (x2+1)
   case neg=>rw[if_pos (by simp[c1])];exact xX fun h=>c1 (congrArg (fun z:eS=>z.2.1) h)
   rw[if_neg (by simp[c1])]
   by_cases c2:e.2.2.1=aE (x2+1+1)
   case neg=>rw[if_pos (by simp[c2])];exact xX fun h=>c2 (congrArg (fun z:eS=>z.2.2.1) h)
   rw[if_neg (by simp[c2])]
   by_cases c3:e.2.2.2.1=x2+1+1+1
   case neg=>rw[if_pos (by simp[c3])];exact xX fun h=>c3 (congrArg (fun z:eS=>z.2.2.2.1) h)
   rw[if_neg (by simp[c3])]
   by_cases c4:e.2.2.2.2.1=x2+1+1+1+1
   case neg=>rw[if_pos (by simp[c4])];exact xX fun h=>c4 (congrArg (fun z:eS=>z.2.2.2.2.1) h)
   rw[if_neg (by simp[c4])]
   exact good _ (by simp only[gI];omega) (Prod.ext c0 (Prod.ext c1 (Prod.ext c2 (Prod.ext c3 (Prod.ext c4 rfl)))))
 . rw[if_neg (by simp[hlt])];exact aBE hp hlt
theorem eq(x0:List eS)(x1:Int)(_:wf x0 x1)(hp:pre x0 x1=true):aR x0 x1=some ((),(dV x0 x1,())):=by
 unfold aR
 rw[if_pos (show pre2 _=true from wS nG hp)]
 exact rV x0 x1
end dV
theorem aF4{xs:List eS}{k:Int}(h:xs=pF sJ gI xs k):dV xs k=k+bJ gI xs:=mW h
theorem aFo{xs:List eS}{k:Int}(h:¬xs=pF sJ gI xs k):dV xs k=-1:=kD h
theorem aFn{xs:List eS}{k:Int}(h0:0<=k)(h1:k+bJ gI xs<=134217728):dV.pre xs k=true:=mL.2 ⟨h0,h1⟩
def tB(x:cL)(k:Int):cL:=(k,(k+1,(pF sJ gI x.2.2.1 (k+1+1),())))
def cK(x:cL):Int:=2+bJ gI x.2.2.1
theorem oH:aA4 tB cK:=by
 refine⟨fun x=>?_,fun x k=>?_,fun x k=>?_⟩
 . have n2:=gP nG x.2.2.1
   simp only[cK];omega
 . simp only[cK,tB,lH nG]
 . simp only[tB,lH nG,uB nG]
noncomputable def nE(a b:cL):Bool:=same a b
namespace nE
abbrev wf(x0:cL)(x1:cL):Prop:=fV [(.val aAi .f),(.val aAi .f)] (x0,(x1,()))
noncomputable def aR(x0:cL)(x1:cL):Option lA:=
 if(!(decide (x0.1=x1.1)))=true then
 some ((),(false,()))
 else
 if(!(decide (x0.2.1=x1.2.1)))=true then
 some ((),(false,()))
 else
 letB (jA x0.2.2.1 x1.2.2.1) fun v1=>
 if(!v1)=true then
 some ((),(false,()))
 else
 some ((),(true,()))
theorem eq(x0 x1:cL)(_:wf x0 x1):aR x0 x1=some ((),(nE x0 x1,())):=by
 unfold aR nE
 try simp only[letB]
 by_cases c0:x0.1=x1.1
 case neg=>rw[if_pos (by simp[c0]),aQ.2 (fun h=>c0 (congrArg (fun z:cL=>z.1) h))]
 rw[if_neg (by simp[c0])]
 by_cases c1:x0.2.1=x1.2.1
 case neg=>rw[if_pos (by simp[c1]),aQ.2 (fun h=>c1 (congrArg (fun z:cL=>z.2.1) h))]
 rw[if_neg (by simp[c1])]
 by_cases c2:x0.2.2.1=x1.2.2.1
 case neg=>rw[if_pos (by rw[jA,aQ.2 c2];rfl),aQ.2 (fun h=>c2 (congrArg (fun z:cL=>z.2.2.1) h))]
 rw[if_neg (by rw[jA,bV.2 c2];simp)]
 rw[bV.2 (Prod.ext c0 (Prod.ext c1 (Prod.ext c2 rfl)))]
end nE
noncomputable def jW(a b:List cL):Bool:=same a b
namespace jW
def pre4:=tE (α:=cL)
noncomputable def fn4:=aA8 (α:=cL)
def qD:=aCN (α:=cL)
noncomputable def hJ(x1:(List cL))(x2:(List cL))(x3:Int):Option (((List cL)×((List cL)×(Int×Unit)))⊕((Bool×Unit)⊕Unit)):=
 if(decide (x3<((length x1:Nat):Int)))=true then
 if(decide ((0:Int)<=x3))=true then
 if(decide (x3<((length x1:Nat):Int)))=true then
 if(decide ((0:Int)<=x3))=true then
 if(decide (x3<((length x2:Nat):Int)))=true then
 letB (nE (List.getD x1 (Int.toNat x3) oS) (List.getD x2 (Int.toNat x3) oS)) fun v1=>
 if(!v1)=true then
 some (.inr (.inl (false,())))
 else
 some (.inl (x1,(x2,((wrap .i64 (x3+(1:Int))),()))))
 else
 none
 else
 none
 else
 none
 else
 none
 else
 some (.inr (.inr ()))
abbrev wf(x0:(List cL))(x1:(List cL)):Prop:=fV [(.val (.sl 0 aAi) .f),(.val (.sl 0 aAi) .f)] (x0,(x1,()))
noncomputable def aR(x0:(List cL))(x1:(List cL)):Option lA:=
 if(!(decide (((length x0:Nat):Int)=((length x1:Nat):Int))))=true then
  some ((),(false,()))
 else
  if(jW.pre4 (x0,(x1,((0:Int),()))))=true then
   letB (jW.fn4 (x0,(x1,((0:Int),())))) fun v1=>
   match v1 with
   |.inl y=>
    some ((),y)
   |.inr y=>
    some ((),(true,()))
  else
   none
theorem yT(x1 x2:List cL)(x3:Int)(hp:pre4 (x1,(x2,(x3,())))=true):Rounds pre4 qD fn4 (x1,(x2,(x3,()))) (hJ x1 x2 x3):=by
 unfold hJ
 by_cases hlt:x3<(x1.length:Int)
 . obtain⟨h1,h2,h3,h4⟩:=vM hp hlt oS
   simp only[letB,hlt,h1,h2,decide_true,if_true]
   by_cases h:x1.getD x3.toNat oS=x2.getD x3.toNat oS
   . rw[if_neg (by rw[nE,bV.2 h];simp)];exact h3 h
   . rw[if_pos (by rw[nE,aQ.2 h];rfl)];exact h4 h
 . simp only[hlt,decide_false,Zj,if_false]
   exact zW hp hlt
theorem eq(x0 x1:List cL)(hw:wf x0 x1):aR x0 x1=some ((),(jW x0 x1,())):=by
 have h1:x0.length<=maxLen:=hw.1.1
 unfold aR jW
 by_cases hl:(x0.length:Int)=(x1.length:Int)
 . rw[if_neg (by simp[hl]),if_pos (show pre4 _=true from sQ h1 hl)]
   unfold fn4
   by_cases he:x0=x1
   . rw[vL he,bV.2 he];rfl
   . rw[vR he,aQ.2 he];rfl
 . have:¬x0=x1:=fun h=>hl (by rw[h])
   rw[if_pos (by simp[hl]),aQ.2 this]
end jW
def fE(xs:List cL)(k:Int):List cL×Int:=(pF tB cK xs k,k+bJ cK xs)
namespace fE
def pre(xs:List cL)(k:Int):Bool:=zZ cK xs k
def pre2:=sK cK
def fn2:=aDn tB cK
def kX:=aER (α:=cL)
noncomputable def cU(x1:Int)(x2:Int)(x3:(List cL)):Option ((Int×(Int×((List cL)×Unit)))⊕(Int×((List cL)×Unit))):=
 if(decide (x2<((length x3:Nat):Int)))=true then
 if(decide ((0:Int)<=x2))=true then
 if(decide (x2<((length x3:Nat):Int)))=true then
 if(decide ((0:Int)<=x2))=true then
 if(decide (x2<((length (List.modify x3 (Int.toNat x2) (fun z=>(x1,z.2))):Nat):Int)))=true then
 if(decide ((0:Int)<=x2))=true then
 if(decide (x2<((length (List.modify (List.modify x3 (Int.toNat x2) (fun z=>(x1,z.2))) (Int.toNat x2) (fun z=>(z.1,((wrap .i64 (x1+(1:Int))),z.2.2)))):Nat):Int)))=true then
 if(eI.pre (List.getD (List.modify (List.modify x3 (Int.toNat x2) (fun z=>(x1,z.2))) (Int.toNat x2) (fun z=>(z.1,((wrap .i64 (x1+(1:Int))),z.2.2)))) (Int.toNat x2) oS).2.2.1 (wrap .i64 ((wrap .i64 (x1+(1:Int)))+(1:Int))))=true then
 letB (eI (List.getD (List.modify (List.modify x3 (Int.toNat x2) (fun z=>(x1,z.2))) (Int.toNat x2) (fun z=>(z.1,((wrap .i64 (x1+(1:Int))),z.2.2)))) (Int.toNat x2) oS).2.2.1 (wrap .i64 ((wrap .i64 (x1+(1:Int)))+(1:Int)))) fun v1=>
 some (.inl (v1.2,((wrap .i64 (x2+(1:Int))),((List.modify (List.modify (List.modify x3 (Int.toNat x2) (fun z=>(x1,z.2))) (Int.toNat x2) (fun z=>(z.1,((wrap .i64 (x1+(1:Int))),z.2.2)))) (Int.toNat x2) (fun z=>(z.1,(z.2.1,(v1.1,z.2.2.2))))),()))))
 else
 none
 else
 none
 else
 none
 else
 none
 else
 none
 else
 none
 else
 none
 else
 some (.inr (x1,(x3,())))
abbrev wf(x0:(List cL))(x1:Int):Prop:=fV [(.mut (.sl 0 aAi)),(.val (.int .i64) .f)] (x0,(x1,()))
noncomputable def aR(x0:(List cL))(x1:Int):Option (((List cL)×Unit)×(Int×Unit)):=
 if(fE.pre2 (x1,((0:Int),(x0,()))))=true then
 letB (fE.fn2 (x1,((0:Int),(x0,())))) fun v1=>
 some (v1.2,(v1.1,()))
 else
 none
theorem qG(x1 x2:Int)(x3:List cL)(hp:pre2 (x1,(x2,(x3,())))=true):Rounds pre2 kX fn2 (x1,(x2,(x3,()))) (cU x1 x2 x3):=by
 unfold cU
 by_cases hlt:x2<(x3.length:Int)
 . obtain⟨h0,hk,hc,hn⟩:=tD oH hp hlt oS
   generalize he:x3.getD x2.toNat oS=e at hc
   simp only[cK] at hc
   have n2:=gP nG e.2.2.1
   have w0:wrap .i64 (x1+1)=x1+1:=iX (by omega) (by omega)
   have w1:wrap .i64 (x1+1+1)=x1+1+1:=iX (by omega) (by omega)
   have q2:eI.pre e.2.2.1 (x1+1+1)=true:=aFk (by omega) (by omega)
   simp only[letB,List.length_modify,List.modify_modify_eq,pI hn,Function.comp,hlt,h0,he,decide_true,if_true,w0,w1,q2,aGr]
   exact xH oH hp hlt oS (by rw[he];simp only[cK];omega) (by rw[he];rfl)
 . rw[if_neg (by simp[hlt])];exact aAQ hp hlt
theorem eq(x0:List cL)(x1:Int)(_:wf x0 x1)(hp:pre x0 x1=true):aR x0 x1=some (((fE x0 x1).1,()),((fE x0 x1).2,())):=by
 unfold aR
 rw[if_pos (show pre2 _=true from uF oH hp)]
 rfl
end fE
theorem aHS(xs:List cL)(k:Int):fE xs k=(pF tB cK xs k,k+bJ cK xs):=rfl
theorem aH0{xs:List cL}{k:Int}(h0:0<=k)(h1:k+bJ cK xs<=134217728):fE.pre xs k=true:=mL.2 ⟨h0,h1⟩
noncomputable def eM(xs:List cL)(k:Int):Int:=vA (pF tB cK) (bJ cK) xs k
namespace eM
def pre(xs:List cL)(k:Int):Bool:=zZ cK xs k
def pre2:=rI cK
noncomputable def fn2:=aBx tB cK
def kX:=aEO (α:=cL)
noncomputable def cU(x1:(List cL))(x2:Int)(x3:Int):Option (((List cL)×eQ)⊕((Int×Unit)⊕(Int×Unit))):=
 if(decide (x3<((length x1:Nat):Int)))=true then
 if(decide ((0:Int)<=x3))=true then
 if(decide (x3<((length x1:Nat):Int)))=true then
 if(!(decide ((List.getD x1 (Int.toNat x3) oS).1=x2)))=true then
 some (.inr (.inl ((-1:Int),())))
 else
 if(decide ((0:Int)<=x3))=true then
 if(decide (x3<((length x1:Nat):Int)))=true then
 if(!(decide ((List.getD x1 (Int.toNat x3) oS).2.1=(wrap .i64 (x2+(1:Int))))))=true then
 some (.inr (.inl ((-1:Int),())))
 else
 if(decide ((0:Int)<=x3))=true then
 if(decide (x3<((length x1:Nat):Int)))=true then
 if(dV.pre (List.getD x1 (Int.toNat x3) oS).2.2.1 (wrap .i64 ((wrap .i64 (x2+(1:Int)))+(1:Int))))=true then
 letB (dV (List.getD x1 (Int.toNat x3) oS).2.2.1 (wrap .i64 ((wrap .i64 (x2+(1:Int)))+(1:Int)))) fun v1=>
 if(decide (v1<(0:Int)))=true then
 some (.inr (.inl ((-1:Int),())))
 else
 some (.inl (x1,(v1,((wrap .i64 (x3+(1:Int))),()))))
 else
 none
 else
 none
 else
 none
 else
 none
 else
 none
 else
 none
 else
 none
 else
 some (.inr (.inr (x2,())))
abbrev wf(x0:(List cL))(x1:Int):Prop:=fV [(.val (.sl 0 aAi) .f),(.val (.int .i64) .f)] (x0,(x1,()))
noncomputable def aR(x0:(List cL))(x1:Int):Option xS:=
 if(eM.pre2 (x0,(x1,((0:Int),()))))=true then
  letB (eM.fn2 (x0,(x1,((0:Int),())))) fun v1=>
  match v1 with
  |.inl y=>
   some ((),y)
  |.inr y=>
   some ((),y)
 else
  none
theorem qG(x1:List cL)(x2 x3:Int)(hp:pre2 (x1,(x2,(x3,())))=true):Rounds pre2 kX fn2 (x1,(x2,(x3,()))) (cU x1 x2 x3):=by
 unfold cU
 by_cases hlt:x3<(x1.length:Int)
 . obtain⟨h0,hk,hc⟩:=wN oH hp hlt oS
   have xX:=aBp (m:=tB) (g:=cK) hp hlt oS
   have good:=fun K hK=>zU oH (K:=K) hp hlt oS hK
   generalize x1.getD x3.toNat oS=e at *
   simp only[cK] at hc
   have n2:=gP nG e.2.2.1
   have w0:wrap .i64 (x2+1)=x2+1:=iX (by omega) (by omega)
   have w1:wrap .i64 (x2+1+1)=x2+1+1:=iX (by omega) (by omega)
   have q2:dV.pre e.2.2.1 (x2+1+1)=true:=aFn (by omega) (by omega)
   simp only[letB,hlt,h0,decide_true,if_true,w0,w1,q2]
   by_cases c0:e.1=x2
   case neg=>rw[if_pos (by simp[c0])];exact xX fun h=>c0 (congrArg (fun z:cL=>z.1) h)
   rw[if_neg (by simp[c0])]
   by_cases c1:e.2.1=x2+1
   case neg=>rw[if_pos (by simp[c1])];exact xX fun h=>c1 (congrArg (fun z:cL=>z.2.1) h)
   rw[if_neg (by simp[c1])]
   by_cases c2:e.2.2.1=pF sJ gI e.2.2.1 (x2+1+1)
   case neg=>rw[show dV e.2.2.1 (x2+1+1)=-1 from aFo c2,if_pos (by decide)];exact xX fun h=>c2 ((congrArg (fun z:cL=>z.2.2.1) h).trans (by simp only[tB]))
   rw[show dV e.2.2.1 (x2+1+1)=x2+1+1+bJ gI e.2.2.1 from aF4 c2,if_neg (by rw[Za];omega)]
   exact good _ (by simp only[cK];omega) (Prod.ext c0 (Prod.ext c1 (Prod.ext c2 rfl)))
 . rw[if_neg (by simp[hlt])];exact aBE hp hlt
theorem eq(x0:List cL)(x1:Int)(_:wf x0 x1)(hp:pre x0 x1=true):aR x0 x1=some ((),(eM x0 x1,())):=by
 unfold aR
 rw[if_pos (show pre2 _=true from wS oH hp)]
 exact rV x0 x1
end eM
theorem aGO{xs:List cL}{k:Int}(h:xs=pF tB cK xs k):eM xs k=k+bJ cK xs:=mW h
theorem aGi{xs:List cL}{k:Int}(h:¬xs=pF tB cK xs k):eM xs k=-1:=kD h
theorem aGu{xs:List cL}{k:Int}(h0:0<=k)(h1:k+bJ cK xs<=134217728):eM.pre xs k=true:=mL.2 ⟨h0,h1⟩
def oM(x:aK)(k:Int):aK:=(k,(k+1,(k+1+1,(k+1+1+1,(pF sL gG x.2.2.2.2.1 (k+1+1+1+1),())))))
def bO(x:aK):Int:=4+bJ gG x.2.2.2.2.1
theorem lP:aA4 oM bO:=by
 refine⟨fun x=>?_,fun x k=>?_,fun x k=>?_⟩
 . have n4:=gP nA x.2.2.2.2.1
   simp only[bO];omega
 . simp only[bO,oM,lH nA]
 . simp only[oM,lH nA,uB nA]
noncomputable def kN(a b:aK):Bool:=same a b
namespace kN
abbrev wf(x0:aK)(x1:aK):Prop:=fV [(.val aBA .f),(.val aBA .f)] (x0,(x1,()))
noncomputable def aR(x0:aK)(x1:aK):Option lA:=
 if(!(decide (x0.1=x1.1)))=true then
 some ((),(false,()))
 else
 if(!(decide (x0.2.1=x1.2.1)))=true then
 some ((),(false,()))
 else
 if(!(decide (x0.2.2.1=x1.2.2.1)))=true then
 some ((),(false,()))
 else
 if(!(decide (x0.2.2.2.1=x1.2.2.2.1)))=true then
 some ((),(false,()))
 else
 letB (jB x0.2.2.2.2.1 x1.2.2.2.2.1) fun v1=>
 if(!v1)=true then
 some ((),(false,()))
 else
 some ((),(true,()))
theorem eq(x0 x1:aK)(_:wf x0 x1):aR x0 x1=some ((),(kN x0 x1,())):=by
 unfold aR kN
 try simp only[letB]
 by_cases c0:x0.1=x1.1
 case neg=>rw[if_pos (by simp[c0]),aQ.2 (fun h=>c0 (congrArg (fun z:aK=>z.1) h))]
 rw[if_neg (by simp[c0])]
 by_cases c1:x0.2.1=x1.2.1
 case neg=>rw[if_pos (by simp[c1]),aQ.2 (fun h=>c1 (congrArg (fun z:aK=>z.2.1) h))]
 rw[if_neg (by simp[c1])]
 by_cases c2:x0.2.2.1=x1.2.2.1
 case neg=>rw[if_pos (by simp[c2]),aQ.2 (fun h=>c2 (congrArg (fun z:aK=>z.2.2.1) h))]
 rw[if_neg (by simp[c2])]
 by_cases c3:x0.2.2.2.1=x1.2.2.2.1
 case neg=>rw[if_pos (by simp[c3]),aQ.2 (fun h=>c3 (congrArg (fun z:aK=>z.2.2.2.1) h))]
 rw[if_neg (by simp[c3])]
 by_cases c4:x0.2.2.2.2.1=x1.2.2.2.2.1
 case neg=>rw[if_pos (by rw[jB,aQ.2 c4];rfl),aQ.2 (fun h=>c4 (congrArg (fun z:aK=>z.2.2.2.2.1) h))]
 rw[if_neg (by rw[jB,bV.2 c4];simp)]
 rw[bV.2 (Prod.ext c0 (Prod.ext c1 (Prod.ext c2 (Prod.ext c3 (Prod.ext c4 rfl)))))]
end kN
noncomputable def hP(a b:List aK):Bool:=same a b
namespace hP
def pre4:=tE (α:=aK)
noncomputable def fn4:=aA8 (α:=aK)
def qD:=aCN (α:=aK)
noncomputable def hJ(x1:(List aK))(x2:(List aK))(x3:Int):Option (((List aK)×((List aK)×(Int×Unit)))⊕((Bool×Unit)⊕Unit)):=
 if(decide (x3<((length x1:Nat):Int)))=true then
 if(decide ((0:Int)<=x3))=true then
 if(decide (x3<((length x1:Nat):Int)))=true then
 if(decide ((0:Int)<=x3))=true then
 if(decide (x3<((length x2:Nat):Int)))=true then
 letB (kN (List.getD x1 (Int.toNat x3) rF) (List.getD x2 (Int.toNat x3) rF)) fun v1=>
 if(!v1)=true then
 some (.inr (.inl (false,())))
 else
 some (.inl (x1,(x2,((wrap .i64 (x3+(1:Int))),()))))
 else
 none
 else
 none
 else
 none
 else
 none
 else
 some (.inr (.inr ()))
abbrev wf(x0:(List aK))(x1:(List aK)):Prop:=fV [(.val (.sl 0 aBA) .f),(.val (.sl 0 aBA) .f)] (x0,(x1,()))
noncomputable def aR(x0:(List aK))(x1:(List aK)):Option lA:=
 if(!(decide (((length x0:Nat):Int)=((length x1:Nat):Int))))=true then
  some ((),(false,()))
 else
  if(hP.pre4 (x0,(x1,((0:Int),()))))=true then
   letB (hP.fn4 (x0,(x1,((0:Int),())))) fun v1=>
   match v1 with
   |.inl y=>
    some ((),y)
   |.inr y=>
    some ((),(true,()))
  else
   none
theorem yT(x1 x2:List aK)(x3:Int)(hp:pre4 (x1,(x2,(x3,())))=true):Rounds pre4 qD fn4 (x1,(x2,(x3,()))) (hJ x1 x2 x3):=by
 unfold hJ
 by_cases hlt:x3<(x1.length:Int)
 . obtain⟨h1,h2,h3,h4⟩:=vM hp hlt rF
   simp only[letB,hlt,h1,h2,decide_true,if_true]
   by_cases h:x1.getD x3.toNat rF=x2.getD x3.toNat rF
   . rw[if_neg (by rw[kN,bV.2 h];simp)];exact h3 h
   . rw[if_pos (by rw[kN,aQ.2 h];rfl)];exact h4 h
 . simp only[hlt,decide_false,Zj,if_false]
   exact zW hp hlt
theorem eq(x0 x1:List aK)(hw:wf x0 x1):aR x0 x1=some ((),(hP x0 x1,())):=by
 have h1:x0.length<=maxLen:=hw.1.1
 unfold aR hP
 by_cases hl:(x0.length:Int)=(x1.length:Int)
 . rw[if_neg (by simp[hl]),if_pos (show pre4 _=true from sQ h1 hl)]
   unfold fn4
   by_cases he:x0=x1
   . rw[vL he,bV.2 he];rfl
   . rw[vR he,aQ.2 he];rfl
 . have:¬x0=x1:=fun h=>hl (by rw[h])
   rw[if_pos (by simp[hl]),aQ.2 this]
end hP
def dS(xs:List aK)(k:Int):List aK×Int:=(pF oM bO xs k,k+bJ bO xs)
namespace dS
def pre(xs:List aK)(k:Int):Bool:=zZ bO xs k
def pre2:=sK bO
def fn2:=aDn oM bO
def kX:=aER (α:=aK)
noncomputable def cU(x1:Int)(x2:Int)(x3:(List aK)):Option ((Int×(Int×((List aK)×Unit)))⊕(Int×((List aK)×Unit))):=
 if(decide (x2<((length x3:Nat):Int)))=true then
 if(decide ((0:Int)<=x2))=true then
 if(decide (x2<((length x3:Nat):Int)))=true then
 if(decide ((0:Int)<=x2))=true then
 if(decide (x2<((length (List.modify x3 (Int.toNat x2) (fun z=>(x1,z.2))):Nat):Int)))=true then
 if(decide ((0:Int)<=x2))=true then
 if(decide (x2<((length (List.modify (List.modify x3 (Int.toNat x2) (fun z=>(x1,z.2))) (Int.toNat x2) (fun z=>(z.1,((wrap .i64 (x1+(1:Int))),z.2.2)))):Nat):Int)))=true then
 if(decide ((0:Int)<=x2))=true then
 if(decide (x2<((length (List.modify (List.modify (List.modify x3 (Int.toNat x2) (fun z=>(x1,z.2))) (Int.toNat x2) (fun z=>(z.1,((wrap .i64 (x1+(1:Int))),z.2.2)))) (Int.toNat x2) (fun z=>(z.1,(z.2.1,((wrap .i64 ((wrap .i64 (x1+(1:Int)))+(1:Int))),z.2.2.2))))):Nat):Int)))=true then
 if(decide ((0:Int)<=x2))=true then
 if(decide (x2<((length (List.modify (List.modify (List.modify (List.modify x3 (Int.toNat x2) (fun z=>(x1,z.2))) (Int.toNat x2) (fun z=>(z.1,((wrap .i64 (x1+(1:Int))),z.2.2)))) (Int.toNat x2) (fun z=>(z.1,(z.2.1,((wrap .i64 ((wrap .i64 (x1+(1:Int)))+(1:Int))),z.2.2.2))))) (Int.toNat x2) (fun z=>(z.1,(z.2.1,(z.2.2.1,((wrap .i64 ((wrap .i64 ((wrap .i64 (x1+(1:Int)))+(1:Int)))+(1:Int))),z.2.2.2.2)))))):Nat):Int)))=true then
 if(eJ.pre (List.getD (List.modify (List.modify (List.modify (List.modify x3 (Int.toNat x2) (fun z=>(x1,z.2))) (Int.toNat x2) (fun z=>(z.1,((wrap .i64 (x1+(1:Int))),z.2.2)))) (Int.toNat x2) (fun z=>(z.1,(z.2.1,((wrap .i64 ((wrap .i64 (x1+(1:Int)))+(1:Int))),z.2.2.2))))) (Int.toNat x2) (fun z=>(z.1,(z.2.1,(z.2.2.1,((wrap .i64 ((wrap .i64 ((wrap .i64 (x1+(1:Int)))+(1:Int)))+(1:Int))),z.2.2.2.2)))))) (Int.toNat x2) rF).2.2.2.2.1 (wrap .i64 ((wrap .i64 ((wrap .i64 ((wrap .i64 (x1+(1:Int)))+(1:Int)))+(1:Int)))+(1:Int))))=true then
 letB (eJ (List.getD (List.modify (List.modify (List.modify (List.modify x3 (Int.toNat x2) (fun z=>(x1,z.2))) (Int.toNat x2) (fun z=>(z.1,((wrap .i64 (x1+(1:Int))),z.2.2)))) (Int.toNat x2) (fun z=>(z.1,(z.2.1,((wrap .i64 ((wrap .i64 (x1+(1:Int)))+(1:Int))),z.2.2.2))))) (Int.toNat x2) (fun z=>(z.1,(z.2.1,(z.2.2.1,((wrap .i64 ((wrap .i64 ((wrap .i64 (x1+(1:Int)))+(1:Int)))+(1:Int))),z.2.2.2.2)))))) (Int.toNat x2) rF).2.2.2.2.1 (wrap .i64 ((wrap .i64 ((wrap .i64 ((wrap .i64 (x1+(1:Int)))+(1:Int)))+(1:Int)))+(1:Int)))) fun v1=>
 some (.inl (v1.2,((wrap .i64 (x2+(1:Int))),((List.modify (List.modify (List.modify (List.modify (List.modify x3 (Int.toNat x2) (fun z=>(x1,z.2))) (Int.toNat x2) (fun z=>(z.1,((wrap .i64 (x1+(1:Int))),z.2.2)))) (Int.toNat x2) (fun z=>(z.1,(z.2.1,((wrap .i64 ((wrap .i64 (x1+(1:Int)))+(1:Int))),z.2.2.2))))) (Int.toNat x2) (fun z=>(z.1,(z.2.1,(z.2.2.1,((wrap .i64 ((wrap .i64 ((wrap .i64 (x1+(1:Int)))+(1:Int)))+(1:Int))),z.2.2.2.2)))))) (Int.toNat x2) (fun z=>(z.1,(z.2.1,(z.2.2.1,(z.2.2.2.1,(v1.1,z.2.2.2.2.2))))))),()))))
 else
 none
 else
 none
 else
 none
 else
 none
 else
 none
 else
 none
 else
 none
 else
 none
 else
 none
 else
 none
 else
 none
 else
 some (.inr (x1,(x3,())))
abbrev wf(x0:(List aK))(x1:Int):Prop:=fV [(.mut (.sl 0 aBA)),(.val (.int .i64) .f)] (x0,(x1,()))
noncomputable def aR(x0:(List aK))(x1:Int):Option (((List aK)×Unit)×(Int×Unit)):=
 if(dS.pre2 (x1,((0:Int),(x0,()))))=true then
 letB (dS.fn2 (x1,((0:Int),(x0,())))) fun v1=>
 some (v1.2,(v1.1,()))
 else
 none
theorem qG(x1 x2:Int)(x3:List aK)(hp:pre2 (x1,(x2,(x3,())))=true):Rounds pre2 kX fn2 (x1,(x2,(x3,()))) (cU x1 x2 x3):=by
 unfold cU
 by_cases hlt:x2<(x3.length:Int)
 . obtain⟨h0,hk,hc,hn⟩:=tD lP hp hlt rF
   generalize he:x3.getD x2.toNat rF=e at hc
   simp only[bO] at hc
   have n4:=gP nA e.2.2.2.2.1
   have w0:wrap .i64 (x1+1)=x1+1:=iX (by omega) (by omega)
   have w1:wrap .i64 (x1+1+1)=x1+1+1:=iX (by omega) (by omega)
   have w2:wrap .i64 (x1+1+1+1)=x1+1+1+1:=iX (by omega) (by omega)
   have w3:wrap .i64 (x1+1+1+1+1)=x1+1+1+1+1:=iX (by omega) (by omega)
   have q4:eJ.pre e.2.2.2.2.1 (x1+1+1+1+1)=true:=aFl (by omega) (by omega)
   simp only[letB,List.length_modify,List.modify_modify_eq,pI hn,Function.comp,hlt,h0,he,decide_true,if_true,w0,w1,w2,w3,q4,aGm]
   exact xH lP hp hlt rF (by rw[he];simp only[bO];omega) (by rw[he];rfl)
 . rw[if_neg (by simp[hlt])];exact aAQ hp hlt
theorem eq(x0:List aK)(x1:Int)(_:wf x0 x1)(hp:pre x0 x1=true):aR x0 x1=some (((dS x0 x1).1,()),((dS x0 x1).2,())):=by
 unfold aR
 rw[if_pos (show pre2 _=true from uF lP hp)]
 rfl
end dS
theorem aFe(xs:List aK)(k:Int):dS xs k=(pF oM bO xs k,k+bJ bO xs):=rfl
theorem aEy{xs:List aK}{k:Int}(h0:0<=k)(h1:k+bJ bO xs<=134217728):dS.pre xs k=true:=mL.2 ⟨h0,h1⟩
noncomputable def dH(xs:List aK)(k:Int):Int:=vA (pF oM bO) (bJ bO) xs k
namespace dH
def pre(xs:List aK)(k:Int):Bool:=zZ bO xs k
def pre2:=rI bO
noncomputable def fn2:=aBx oM bO
def kX:=aEO (α:=aK)
noncomputable def cU(x1:(List aK))(x2:Int)(x3:Int):Option (((List aK)×eQ)⊕((Int×Unit)⊕(Int×Unit))):=
 if(decide (x3<((length x1:Nat):Int)))=true then
 if(decide ((0:Int)<=x3))=true then
 if(decide (x3<((length x1:Nat):Int)))=true then
 if(!(decide ((List.getD x1 (Int.toNat x3) rF).1=x2)))=true then
 some (.inr (.inl ((-1:Int),())))
 else
 if(decide ((0:Int)<=x3))=true then
 if(decide (x3<((length x1:Nat):Int)))=true then
 if(!(decide ((List.getD x1 (Int.toNat x3) rF).2.1=(wrap .i64 (x2+(1:Int))))))=true then
 some (.inr (.inl ((-1:Int),())))
 else
 if(decide ((0:Int)<=x3))=true then
 if(decide (x3<((length x1:Nat):Int)))=true then
 if(!(decide ((List.getD x1 (Int.toNat x3) rF).2.2.1=(wrap .i64 ((wrap .i64 (x2+(1:Int)))+(1:Int))))))=true then
 some (.inr (.inl ((-1:Int),())))
 else
 if(decide ((0:Int)<=x3))=true then
 if(decide (x3<((length x1:Nat):Int)))=true then
 if(!(decide ((List.getD x1 (Int.toNat x3) rF).2.2.2.1=(wrap .i64 ((wrap .i64 ((wrap .i64 (x2+(1:Int)))+(1:Int)))+(1:Int))))))=true then
 some (.inr (.inl ((-1:Int),())))
 else
 if(decide ((0:Int)<=x3))=true then
 if(decide (x3<((length x1:Nat):Int)))=true then
 if(dU.pre (List.getD x1 (Int.toNat x3) rF).2.2.2.2.1 (wrap .i64 ((wrap .i64 ((wrap .i64 ((wrap .i64 (x2+(1:Int)))+(1:Int)))+(1:Int)))+(1:Int))))=true then
 letB (dU (List.getD x1 (Int.toNat x3) rF).2.2.2.2.1 (wrap .i64 ((wrap .i64 ((wrap .i64 ((wrap .i64 (x2+(1:Int)))+(1:Int)))+(1:Int)))+(1:Int)))) fun v1=>
 if(decide (v1<(0:Int)))=true then
 some (.inr (.inl ((-1:Int),())))
 else
 some (.inl (x1,(v1,((wrap .i64 (x3+(1:Int))),()))))
 else
 none
 else
 none
 else
 none
 else
 none
 else
 none
 else
 none
 else
 none
 else
 none
 else
 none
 else
 none
 else
 none
 else
 some (.inr (.inr (x2,())))
abbrev wf(x0:(List aK))(x1:Int):Prop:=fV [(.val (.sl 0 aBA) .f),(.val (.int .i64) .f)] (x0,(x1,()))
noncomputable def aR(x0:(List aK))(x1:Int):Option xS:=
 if(dH.pre2 (x0,(x1,((0:Int),()))))=true then
  letB (dH.fn2 (x0,(x1,((0:Int),())))) fun v1=>
  match v1 with
  |.inl y=>
   some ((),y)
  |.inr y=>
   some ((),y)
 else
  none
theorem qG(x1:List aK)(x2 x3:Int)(hp:pre2 (x1,(x2,(x3,())))=true):Rounds pre2 kX fn2 (x1,(x2,(x3,()))) (cU x1 x2 x3):=by
 unfold cU
 by_cases hlt:x3<(x1.length:Int)
 . obtain⟨h0,hk,hc⟩:=wN lP hp hlt rF
   have xX:=aBp (m:=oM) (g:=bO) hp hlt rF
   have good:=fun K hK=>zU lP (K:=K) hp hlt rF hK
   generalize x1.getD x3.toNat rF=e at *
   simp only[bO] at hc
   have n4:=gP nA e.2.2.2.2.1
   have w0:wrap .i64 (x2+1)=x2+1:=iX (by omega) (by omega)
   have w1:wrap .i64 (x2+1+1)=x2+1+1:=iX (by omega) (by omega)
   have w2:wrap .i64 (x2+1+1+1)=x2+1+1+1:=iX (by omega) (by omega)
   have w3:wrap .i64 (x2+1+1+1+1)=x2+1+1+1+1:=iX (by omega) (by omega)
   have q4:dU.pre e.2.2.2.2.1 (x2+1+1+1+1)=true:=aF8 (by omega) (by omega)
   simp only[letB,hlt,h0,decide_true,if_true,w0,w1,w2,w3,q4]
   by_cases c0:e.1=x2
   case neg=>rw[if_pos (by simp[c0])];exact xX fun h=>c0 (congrArg (fun z:aK=>z.1) h)
   rw[if_neg (by simp[c0])]
   by_cases c1:e.2.1=x2+1
   case neg=>rw[if_pos (by simp[c1])];exact xX fun h=>c1 (congrArg (fun z:aK=>z.2.1) h)
   rw[if_neg (by simp[c1])]
   by_cases c2:e.2.2.1=x2+1+1
   case neg=>rw[if_pos (by simp[c2])];exact xX fun h=>c2 (congrArg (fun z:aK=>z.2.2.1) h)
   rw[if_neg (by simp[c2])]
   by_cases c3:e.2.2.2.1=x2+1+1+1
   case neg=>rw[if_pos (by simp[c3])];exact xX fun h=>c3 (congrArg (fun z:aK=>z.2.2.2.1) h)
   rw[if_neg (by simp[c3])]
   by_cases c4:e.2.2.2.2.1=pF sL gG e.2.2.2.2.1 (x2+1+1+1+1)
   case neg=>rw[show dU e.2.2.2.2.1 (x2+1+1+1+1)=-1 from aFj c4,if_pos (by decide)];exact xX fun h=>c4 ((congrArg (fun z:aK=>z.2.2.2.2.1) h).trans (by simp only[oM]))
   rw[show dU e.2.2.2.2.1 (x2+1+1+1+1)=x2+1+1+1+1+bJ gG e.2.2.2.2.1 from aFp c4,if_neg (by rw[Za];omega)]
   exact good _ (by simp only[bO];omega) (Prod.ext c0 (Prod.ext c1 (Prod.ext c2 (Prod.ext c3 (Prod.ext c4 rfl)))))
 . rw[if_neg (by simp[hlt])];exact aBE hp hlt
theorem eq(x0:List aK)(x1:Int)(_:wf x0 x1)(hp:pre x0 x1=true):aR x0 x1=some ((),(dH x0 x1,())):=by
 unfold aR
 rw[if_pos (show pre2 _=true from wS lP hp)]
 exact rV x0 x1
end dH
theorem aDP{xs:List aK}{k:Int}(h:xs=pF oM bO xs k):dH xs k=k+bJ bO xs:=mW h
theorem aEK{xs:List aK}{k:Int}(h:¬xs=pF oM bO xs k):dH xs k=-1:=kD h
theorem aE5{xs:List aK}{k:Int}(h0:0<=k)(h1:k+bJ bO xs<=134217728):dH.pre xs k=true:=mL.2 ⟨h0,h1⟩
def oU(_:aM)(k:Int):aM:=(k,(k+1,(aE (k+1+1),(aE (k+1+1+1),()))))
def dK(_:aM):Int:=4
theorem kM:aA4 oU dK:=⟨fun _=>by simp only[dK];decide,fun _ _=>rfl,fun _ _=>rfl⟩
noncomputable def jM(a b:aM):Bool:=same a b
namespace jM
abbrev wf(x0:aM)(x1:aM):Prop:=fV [(.val aBw .f),(.val aBw .f)] (x0,(x1,()))
noncomputable def aR(x0:aM)(x1:aM):Option lA:=
 if(!(decide (x0.1=x1.1)))=true then
 some ((),(false,()))
 else
 if(!(decide (x0.2.1=x1.2.1)))=true then
 some ((),(false,()))
 else
 if(!(x0.2.2.1==x1.2.2.1))=true then
 some ((),(false,()))
 else
 if(!(x0.2.2.2.1==x1.2.2.2.1))=true then
 some ((),(false,()))
 else
 some ((),(true,()))
theorem eq(x0 x1:aM)(_:wf x0 x1):aR x0 x1=some ((),(jM x0 x1,())):=by
 unfold aR jM
 try simp only[letB]
 by_cases c0:x0.1=x1.1
 case neg=>rw[if_pos (by simp[c0]),aQ.2 (fun h=>c0 (congrArg (fun z:aM=>z.1) h))]
 rw[if_neg (by simp[c0])]
 by_cases c1:x0.2.1=x1.2.1
 case neg=>rw[if_pos (by simp[c1]),aQ.2 (fun h=>c1 (congrArg (fun z:aM=>z.2.1) h))]
 rw[if_neg (by simp[c1])]
 by_cases c2:x0.2.2.1=x1.2.2.1
 case neg=>rw[if_pos (by simp[c2]),aQ.2 (fun h=>c2 (congrArg (fun z:aM=>z.2.2.1) h))]
 rw[if_neg (by simp[c2])]
 by_cases c3:x0.2.2.2.1=x1.2.2.2.1
 case neg=>rw[if_pos (by simp[c3]),aQ.2 (fun h=>c3 (congrArg (fun z:aM=>z.2.2.2.1) h))]
 rw[if_neg (by simp[c3])]
 rw[bV.2 (Prod.ext c0 (Prod.ext c1 (Prod.ext c2 (Prod.ext c3 rfl))))]
end jM
noncomputable def gF(a b:List aM):Bool:=same a b
namespace gF
def pre4:=tE (α:=aM)
noncomputable def fn4:=aA8 (α:=aM)
def qD:=aCN (α:=aM)
noncomputable def hJ(x1:(List aM))(x2:(List aM))(x3:Int):Option (((List aM)×((List aM)×(Int×Unit)))⊕((Bool×Unit)⊕Unit)):=
 if(decide (x3<((length x1:Nat):Int)))=true then
 if(decide ((0:Int)<=x3))=true then
 if(decide (x3<((length x1:Nat):Int)))=true then
 if(decide ((0:Int)<=x3))=true then
 if(decide (x3<((length x2:Nat):Int)))=true then
 letB (jM (List.getD x1 (Int.toNat x3) sI) (List.getD x2 (Int.toNat x3) sI)) fun v1=>
 if(!v1)=true then
 some (.inr (.inl (false,())))
 else
 some (.inl (x1,(x2,((wrap .i64 (x3+(1:Int))),()))))
 else
 none
 else
 none
 else
 none
 else
 none
 else
 some (.inr (.inr ()))
abbrev wf(x0:(List aM))(x1:(List aM)):Prop:=fV [(.val (.sl 0 aBw) .f),(.val (.sl 0 aBw) .f)] (x0,(x1,()))
noncomputable def aR(x0:(List aM))(x1:(List aM)):Option lA:=
 if(!(decide (((length x0:Nat):Int)=((length x1:Nat):Int))))=true then
  some ((),(false,()))
 else
  if(gF.pre4 (x0,(x1,((0:Int),()))))=true then
   letB (gF.fn4 (x0,(x1,((0:Int),())))) fun v1=>
   match v1 with
   |.inl y=>
    some ((),y)
   |.inr y=>
    some ((),(true,()))
  else
   none
theorem yT(x1 x2:List aM)(x3:Int)(hp:pre4 (x1,(x2,(x3,())))=true):Rounds pre4 qD fn4 (x1,(x2,(x3,()))) (hJ x1 x2 x3):=by
 unfold hJ
 by_cases hlt:x3<(x1.length:Int)
 . obtain⟨h1,h2,h3,h4⟩:=vM hp hlt sI
   simp only[letB,hlt,h1,h2,decide_true,if_true]
   by_cases h:x1.getD x3.toNat sI=x2.getD x3.toNat sI
   . rw[if_neg (by rw[jM,bV.2 h];simp)];exact h3 h
   . rw[if_pos (by rw[jM,aQ.2 h];rfl)];exact h4 h
 . simp only[hlt,decide_false,Zj,if_false]
   exact zW hp hlt
theorem eq(x0 x1:List aM)(hw:wf x0 x1):aR x0 x1=some ((),(gF x0 x1,())):=by
 have h1:x0.length<=maxLen:=hw.1.1
 unfold aR gF
 by_cases hl:(x0.length:Int)=(x1.length:Int)
 . rw[if_neg (by simp[hl]),if_pos (show pre4 _=true from sQ h1 hl)]
   unfold fn4
   by_cases he:x0=x1
   . rw[vL he,bV.2 he];rfl
   . rw[vR he,aQ.2 he];rfl
 . have:¬x0=x1:=fun h=>hl (by rw[h])
   rw[if_pos (by simp[hl]),aQ.2 this]
end gF
def dE(xs:List aM)(k:Int):List aM×Int:=(pF oU dK xs k,k+bJ dK xs)
namespace dE
def pre(xs:List aM)(k:Int):Bool:=zZ dK xs k
def pre2:=sK dK
def fn2:=aDn oU dK
def kX:=aER (α:=aM)
noncomputable def cU(x1:Int)(x2:Int)(x3:(List aM)):Option ((Int×(Int×((List aM)×Unit)))⊕(Int×((List aM)×Unit))):=
 if(decide (x2<((length x3:Nat):Int)))=true then
 if(decide ((0:Int)<=x2))=true then
 if(decide (x2<((length x3:Nat):Int)))=true then
 if(decide ((0:Int)<=x2))=true then
 if(decide (x2<((length (List.modify x3 (Int.toNat x2) (fun z=>(x1,z.2))):Nat):Int)))=true then
 if(aE.pre (wrap .i64 ((wrap .i64 (x1+(1:Int)))+(1:Int))))=true then
 if(decide ((0:Int)<=x2))=true then
 if(decide (x2<((length (List.modify (List.modify x3 (Int.toNat x2) (fun z=>(x1,z.2))) (Int.toNat x2) (fun z=>(z.1,((wrap .i64 (x1+(1:Int))),z.2.2)))):Nat):Int)))=true then
 if(aE.pre (wrap .i64 ((wrap .i64 ((wrap .i64 (x1+(1:Int)))+(1:Int)))+(1:Int))))=true then
 if(decide ((0:Int)<=x2))=true then
 if(decide (x2<((length (List.modify (List.modify (List.modify x3 (Int.toNat x2) (fun z=>(x1,z.2))) (Int.toNat x2) (fun z=>(z.1,((wrap .i64 (x1+(1:Int))),z.2.2)))) (Int.toNat x2) (fun z=>(z.1,(z.2.1,((aE (wrap .i64 ((wrap .i64 (x1+(1:Int)))+(1:Int)))),z.2.2.2))))):Nat):Int)))=true then
 some (.inl ((wrap .i64 ((wrap .i64 ((wrap .i64 ((wrap .i64 (x1+(1:Int)))+(1:Int)))+(1:Int)))+(1:Int))),((wrap .i64 (x2+(1:Int))),((List.modify (List.modify (List.modify (List.modify x3 (Int.toNat x2) (fun z=>(x1,z.2))) (Int.toNat x2) (fun z=>(z.1,((wrap .i64 (x1+(1:Int))),z.2.2)))) (Int.toNat x2) (fun z=>(z.1,(z.2.1,((aE (wrap .i64 ((wrap .i64 (x1+(1:Int)))+(1:Int)))),z.2.2.2))))) (Int.toNat x2) (fun z=>(z.1,(z.2.1,(z.2.2.1,((aE (wrap .i64 ((wrap .i64 ((wrap .i64 (x1+(1:Int)))+(1:Int)))+(1:Int)))),z.2.2.2.2)))))),()))))
 else
 none
 else
 none
 else
 none
 else
 none
 else
 none
 else
 none
 else
 none
 else
 none
 else
 none
 else
 none
 else
 some (.inr (x1,(x3,())))
abbrev wf(x0:(List aM))(x1:Int):Prop:=fV [(.mut (.sl 0 aBw)),(.val (.int .i64) .f)] (x0,(x1,()))
noncomputable def aR(x0:(List aM))(x1:Int):Option (((List aM)×Unit)×(Int×Unit)):=
 if(dE.pre2 (x1,((0:Int),(x0,()))))=true then
 letB (dE.fn2 (x1,((0:Int),(x0,())))) fun v1=>
 some (v1.2,(v1.1,()))
 else
 none
theorem qG(x1 x2:Int)(x3:List aM)(hp:pre2 (x1,(x2,(x3,())))=true):Rounds pre2 kX fn2 (x1,(x2,(x3,()))) (cU x1 x2 x3):=by
 unfold cU
 by_cases hlt:x2<(x3.length:Int)
 . obtain⟨h0,hk,hc,hn⟩:=tD kM hp hlt sI
   generalize he:x3.getD x2.toNat sI=e at hc
   simp only[dK] at hc
   have w0:wrap .i64 (x1+1)=x1+1:=iX (by omega) (by omega)
   have w1:wrap .i64 (x1+1+1)=x1+1+1:=iX (by omega) (by omega)
   have w2:wrap .i64 (x1+1+1+1)=x1+1+1+1:=iX (by omega) (by omega)
   have p2:aE.pre (x1+1+1)=true:=by simp only[aE.pre,Za];omega
   have w3:wrap .i64 (x1+1+1+1+1)=x1+1+1+1+1:=iX (by omega) (by omega)
   have p3:aE.pre (x1+1+1+1)=true:=by simp only[aE.pre,Za];omega
   simp only[letB,List.length_modify,List.modify_modify_eq,pI hn,Function.comp,hlt,h0,he,decide_true,if_true,w0,w1,w2,p2,w3,p3]
   exact xH kM hp hlt sI (by rw[he];simp only[dK];omega) (by rw[he];rfl)
 . rw[if_neg (by simp[hlt])];exact aAQ hp hlt
theorem eq(x0:List aM)(x1:Int)(_:wf x0 x1)(hp:pre x0 x1=true):aR x0 x1=some (((dE x0 x1).1,()),((dE x0 x1).2,())):=by
 unfold aR
 rw[if_pos (show pre2 _=true from uF kM hp)]
 rfl
end dE
theorem aDR(xs:List aM)(k:Int):dE xs k=(pF oU dK xs k,k+bJ dK xs):=rfl
theorem aDk{xs:List aM}{k:Int}(h0:0<=k)(h1:k+bJ dK xs<=134217728):dE.pre xs k=true:=mL.2 ⟨h0,h1⟩
noncomputable def cY(xs:List aM)(k:Int):Int:=vA (pF oU dK) (bJ dK) xs k
namespace cY
def pre(xs:List aM)(k:Int):Bool:=zZ dK xs k
def pre2:=rI dK
noncomputable def fn2:=aBx oU dK
def kX:=aEO (α:=aM)
noncomputable def cU(x1:(List aM))(x2:Int)(x3:Int):Option (((List aM)×eQ)⊕((Int×Unit)⊕(Int×Unit))):=
 if(decide (x3<((length x1:Nat):Int)))=true then
 if(decide ((0:Int)<=x3))=true then
 if(decide (x3<((length x1:Nat):Int)))=true then
 if(!(decide ((List.getD x1 (Int.toNat x3) sI).1=x2)))=true then
 some (.inr (.inl ((-1:Int),())))
 else
 if(decide ((0:Int)<=x3))=true then
 if(decide (x3<((length x1:Nat):Int)))=true then
 if(!(decide ((List.getD x1 (Int.toNat x3) sI).2.1=(wrap .i64 (x2+(1:Int))))))=true then
 some (.inr (.inl ((-1:Int),())))
 else
 if(decide ((0:Int)<=x3))=true then
 if(decide (x3<((length x1:Nat):Int)))=true then
 if(aE.pre (wrap .i64 ((wrap .i64 (x2+(1:Int)))+(1:Int))))=true then
 letB (aE (wrap .i64 ((wrap .i64 (x2+(1:Int)))+(1:Int)))) fun v1=>
 if(!((List.getD x1 (Int.toNat x3) sI).2.2.1==v1))=true then
 some (.inr (.inl ((-1:Int),())))
 else
 if(decide ((0:Int)<=x3))=true then
 if(decide (x3<((length x1:Nat):Int)))=true then
 if(aE.pre (wrap .i64 ((wrap .i64 ((wrap .i64 (x2+(1:Int)))+(1:Int)))+(1:Int))))=true then
 letB (aE (wrap .i64 ((wrap .i64 ((wrap .i64 (x2+(1:Int)))+(1:Int)))+(1:Int)))) fun v2=>
 if(!((List.getD x1 (Int.toNat x3) sI).2.2.2.1==v2))=true then
 some (.inr (.inl ((-1:Int),())))
 else
 some (.inl (x1,((wrap .i64 ((wrap .i64 ((wrap .i64 ((wrap .i64 (x2+(1:Int)))+(1:Int)))+(1:Int)))+(1:Int))),((wrap .i64 (x3+(1:Int))),()))))
 else
 none
 else
 none
 else
 none
 else
 none
 else
 none
 else
 none
 else
 none
 else
 none
 else
 none
 else
 none
 else
 some (.inr (.inr (x2,())))
abbrev wf(x0:(List aM))(x1:Int):Prop:=fV [(.val (.sl 0 aBw) .f),(.val (.int .i64) .f)] (x0,(x1,()))
noncomputable def aR(x0:(List aM))(x1:Int):Option xS:=
 if(cY.pre2 (x0,(x1,((0:Int),()))))=true then
  letB (cY.fn2 (x0,(x1,((0:Int),())))) fun v1=>
  match v1 with
  |.inl y=>
   some ((),y)
  |.inr y=>
   some ((),y)
 else
  none
theorem qG(x1:List aM)(x2 x3:Int)(hp:pre2 (x1,(x2,(x3,())))=true):Rounds pre2 kX fn2 (x1,(x2,(x3,()))) (cU x1 x2 x3):=by
 unfold cU
 by_cases hlt:x3<(x1.length:Int)
 . obtain⟨h0,hk,hc⟩:=wN kM hp hlt sI
   have xX:=aBp (m:=oU) (g:=dK) hp hlt sI
   have good:=fun K hK=>zU kM (K:=K) hp hlt sI hK
   generalize x1.getD x3.toNat sI=e at *
   simp only[dK] at hc
   have w0:wrap .i64 (x2+1)=x2+1:=iX (by omega) (by omega)
   have w1:wrap .i64 (x2+1+1)=x2+1+1:=iX (by omega) (by omega)
   have w2:wrap .i64 (x2+1+1+1)=x2+1+1+1:=iX (by omega) (by omega)
   have p2:aE.pre (x2+1+1)=true:=by simp only[aE.pre,Za];omega
   have w3:wrap .i64 (x2+1+1+1+1)=x2+1+1+1+1:=iX (by omega) (by omega)
   have p3:aE.pre (x2+1+1+1)=true:=by simp only[aE.pre,Za];omega
   simp only[letB,hlt,h0,decide_true,if_true,w0,w1,w2,p2,w3,p3]
   by_cases c0:e.1=x2
   case neg=>rw[if_pos (by simp[c0])];exact xX fun h=>c0 (congrArg (fun z:aM=>z.1) h)
   rw[if_neg (by simp[c0])]
   by_cases c1:e.2.1=x2+1
   case neg=>rw[if_pos (by simp[c1])];exact xX fun h=>c1 (congrArg (fun z:aM=>z.2.1) h)
   rw[if_neg (by simp[c1])]
   by_cases c2:e.2.2.1=aE (x2+1+1)
   case neg=>rw[if_pos (by simp[c2])];exact xX fun h=>c2 (congrArg (fun z:aM=>z.2.2.1) h)
   rw[if_neg (by simp[c2])]
   by_cases c3:e.2.2.2.1=aE (x2+1+1+1)
   case neg=>rw[if_pos (by simp[c3])];exact xX fun h=>c3 (congrArg (fun z:aM=>z.2.2.2.1) h)
   rw[if_neg (by simp[c3])]
   exact good _ (by simp only[dK];omega) (Prod.ext c0 (Prod.ext c1 (Prod.ext c2 (Prod.ext c3 rfl))))
 . rw[if_neg (by simp[hlt])];exact aBE hp hlt
theorem eq(x0:List aM)(x1:Int)(_:wf x0 x1)(hp:pre x0 x1=true):aR x0 x1=some ((),(cY x0 x1,())):=by
 unfold aR
 rw[if_pos (show pre2 _=true from wS kM hp)]
 exact rV x0 x1
end cY
theorem aDh{xs:List aM}{k:Int}(h:xs=pF oU dK xs k):cY xs k=k+bJ dK xs:=mW h
theorem aDm{xs:List aM}{k:Int}(h:¬xs=pF oU dK xs k):cY xs k=-1:=kD h
theorem aDr{xs:List aM}{k:Int}(h0:0<=k)(h1:k+bJ dK xs<=134217728):cY.pre xs k=true:=mL.2 ⟨h0,h1⟩
def nH(x:aJ)(k:Int):aJ:=(k,(pF qH bP x.2.1 (k+1),(pF qH bP x.2.2.1 (k+1+bJ bP x.2.1),(pF qH bP x.2.2.2.1 (k+1+bJ bP x.2.1+bJ bP x.2.2.1),()))))
def bZ(x:aJ):Int:=1+bJ bP x.2.1+bJ bP x.2.2.1+bJ bP x.2.2.2.1
theorem lR:aA4 nH bZ:=by
 refine⟨fun x=>?_,fun x k=>?_,fun x k=>?_⟩
 . have n1:=gP gQ x.2.1
   have n2:=gP gQ x.2.2.1
   have n3:=gP gQ x.2.2.2.1
   simp only[bZ];omega
 . simp only[bZ,nH,lH gQ]
 . simp only[nH,lH gQ,uB gQ]
noncomputable def kJ(a b:aJ):Bool:=same a b
namespace kJ
abbrev wf(x0:aJ)(x1:aJ):Prop:=fV [(.val aAk .f),(.val aAk .f)] (x0,(x1,()))
noncomputable def aR(x0:aJ)(x1:aJ):Option lA:=
 if(!(decide (x0.1=x1.1)))=true then
 some ((),(false,()))
 else
 letB (eB x0.2.1 x1.2.1) fun v1=>
 if(!v1)=true then
 some ((),(false,()))
 else
 letB (eB x0.2.2.1 x1.2.2.1) fun v2=>
 if(!v2)=true then
 some ((),(false,()))
 else
 letB (eB x0.2.2.2.1 x1.2.2.2.1) fun v3=>
 if(!v3)=true then
 some ((),(false,()))
 else
 some ((),(true,()))
theorem eq(x0 x1:aJ)(_:wf x0 x1):aR x0 x1=some ((),(kJ x0 x1,())):=by
 unfold aR kJ
 try simp only[letB]
 by_cases c0:x0.1=x1.1
 case neg=>rw[if_pos (by simp[c0]),aQ.2 (fun h=>c0 (congrArg (fun z:aJ=>z.1) h))]
 rw[if_neg (by simp[c0])]
 by_cases c1:x0.2.1=x1.2.1
 case neg=>rw[if_pos (by rw[eB,aQ.2 c1];rfl),aQ.2 (fun h=>c1 (congrArg (fun z:aJ=>z.2.1) h))]
 rw[if_neg (by rw[eB,bV.2 c1];simp)]
 by_cases c2:x0.2.2.1=x1.2.2.1
 case neg=>rw[if_pos (by rw[eB,aQ.2 c2];rfl),aQ.2 (fun h=>c2 (congrArg (fun z:aJ=>z.2.2.1) h))]
 rw[if_neg (by rw[eB,bV.2 c2];simp)]
 by_cases c3:x0.2.2.2.1=x1.2.2.2.1
 case neg=>rw[if_pos (by rw[eB,aQ.2 c3];rfl),aQ.2 (fun h=>c3 (congrArg (fun z:aJ=>z.2.2.2.1) h))]
 rw[if_neg (by rw[eB,bV.2 c3];simp)]
 rw[bV.2 (Prod.ext c0 (Prod.ext c1 (Prod.ext c2 (Prod.ext c3 rfl))))]
end kJ
noncomputable def hY(a b:List aJ):Bool:=same a b
namespace hY
def pre4:=tE (α:=aJ)
noncomputable def fn4:=aA8 (α:=aJ)
def qD:=aCN (α:=aJ)
noncomputable def hJ(x1:(List aJ))(x2:(List aJ))(x3:Int):Option (((List aJ)×((List aJ)×(Int×Unit)))⊕((Bool×Unit)⊕Unit)):=
 if(decide (x3<((length x1:Nat):Int)))=true then
 if(decide ((0:Int)<=x3))=true then
 if(decide (x3<((length x1:Nat):Int)))=true then
 if(decide ((0:Int)<=x3))=true then
 if(decide (x3<((length x2:Nat):Int)))=true then
 letB (kJ (List.getD x1 (Int.toNat x3) vB) (List.getD x2 (Int.toNat x3) vB)) fun v1=>
 if(!v1)=true then
 some (.inr (.inl (false,())))
 else
 some (.inl (x1,(x2,((wrap .i64 (x3+(1:Int))),()))))
 else
 none
 else
 none
 else
 none
 else
 none
 else
 some (.inr (.inr ()))
abbrev wf(x0:(List aJ))(x1:(List aJ)):Prop:=fV [(.val (.sl 0 aAk) .f),(.val (.sl 0 aAk) .f)] (x0,(x1,()))
noncomputable def aR(x0:(List aJ))(x1:(List aJ)):Option lA:=
 if(!(decide (((length x0:Nat):Int)=((length x1:Nat):Int))))=true then
  some ((),(false,()))
 else
  if(hY.pre4 (x0,(x1,((0:Int),()))))=true then
   letB (hY.fn4 (x0,(x1,((0:Int),())))) fun v1=>
   match v1 with
   |.inl y=>
    some ((),y)
   |.inr y=>
    some ((),(true,()))
  else
   none
theorem yT(x1 x2:List aJ)(x3:Int)(hp:pre4 (x1,(x2,(x3,())))=true):Rounds pre4 qD fn4 (x1,(x2,(x3,()))) (hJ x1 x2 x3):=by
 unfold hJ
 by_cases hlt:x3<(x1.length:Int)
 . obtain⟨h1,h2,h3,h4⟩:=vM hp hlt vB
   simp only[letB,hlt,h1,h2,decide_true,if_true]
   by_cases h:x1.getD x3.toNat vB=x2.getD x3.toNat vB
   . rw[if_neg (by rw[kJ,bV.2 h];simp)];exact h3 h
   . rw[if_pos (by rw[kJ,aQ.2 h];rfl)];exact h4 h
 . simp only[hlt,decide_false,Zj,if_false]
   exact zW hp hlt
theorem eq(x0 x1:List aJ)(hw:wf x0 x1):aR x0 x1=some ((),(hY x0 x1,())):=by
 have h1:x0.length<=maxLen:=hw.1.1
 unfold aR hY
 by_cases hl:(x0.length:Int)=(x1.length:Int)
 . rw[if_neg (by simp[hl]),if_pos (show pre4 _=true from sQ h1 hl)]
   unfold fn4
   by_cases he:x0=x1
   . rw[vL he,bV.2 he];rfl
   . rw[vR he,aQ.2 he];rfl
 . have:¬x0=x1:=fun h=>hl (by rw[h])
   rw[if_pos (by simp[hl]),aQ.2 this]
end hY
def dR(xs:List aJ)(k:Int):List aJ×Int:=(pF nH bZ xs k,k+bJ bZ xs)
namespace dR
def pre(xs:List aJ)(k:Int):Bool:=zZ bZ xs k
def pre2:=sK bZ
def fn2:=aDn nH bZ
def kX:=aER (α:=aJ)
noncomputable def cU(x1:Int)(x2:Int)(x3:(List aJ)):Option ((Int×(Int×((List aJ)×Unit)))⊕(Int×((List aJ)×Unit))):=
 if(decide (x2<((length x3:Nat):Int)))=true then
 if(decide ((0:Int)<=x2))=true then
 if(decide (x2<((length x3:Nat):Int)))=true then
 if(decide ((0:Int)<=x2))=true then
 if(decide (x2<((length (List.modify x3 (Int.toNat x2) (fun z=>(x1,z.2))):Nat):Int)))=true then
 if(bQ.pre (List.getD (List.modify x3 (Int.toNat x2) (fun z=>(x1,z.2))) (Int.toNat x2) vB).2.1 (wrap .i64 (x1+(1:Int))))=true then
 if(decide ((0:Int)<=x2))=true then
 if(decide (x2<((length (List.modify (List.modify x3 (Int.toNat x2) (fun z=>(x1,z.2))) (Int.toNat x2) (fun z=>(z.1,((bQ (List.getD (List.modify x3 (Int.toNat x2) (fun z_1=>(x1,z_1.2))) (Int.toNat x2) vB).2.1 (wrap .i64 (x1+(1:Int)))).1,z.2.2)))):Nat):Int)))=true then
 letB (bQ (List.getD (List.modify x3 (Int.toNat x2) (fun z=>(x1,z.2))) (Int.toNat x2) vB).2.1 (wrap .i64 (x1+(1:Int)))) fun v1=>
 if(bQ.pre (List.getD (List.modify (List.modify x3 (Int.toNat x2) (fun z=>(x1,z.2))) (Int.toNat x2) (fun z=>(z.1,((bQ (List.getD (List.modify x3 (Int.toNat x2) (fun z_1=>(x1,z_1.2))) (Int.toNat x2) vB).2.1 (wrap .i64 (x1+(1:Int)))).1,z.2.2)))) (Int.toNat x2) vB).2.2.1 v1.2)=true then
 if(decide ((0:Int)<=x2))=true then
 if(decide (x2<((length (List.modify (List.modify (List.modify x3 (Int.toNat x2) (fun z=>(x1,z.2))) (Int.toNat x2) (fun z=>(z.1,(v1.1,z.2.2)))) (Int.toNat x2) (fun z=>(z.1,(z.2.1,((bQ (List.getD (List.modify (List.modify x3 (Int.toNat x2) (fun z_1=>(x1,z_1.2))) (Int.toNat x2) (fun z_1=>(z_1.1,(v1.1,z_1.2.2)))) (Int.toNat x2) vB).2.2.1 v1.2).1,z.2.2.2))))):Nat):Int)))=true then
 letB (bQ (List.getD (List.modify (List.modify x3 (Int.toNat x2) (fun z=>(x1,z.2))) (Int.toNat x2) (fun z=>(z.1,(v1.1,z.2.2)))) (Int.toNat x2) vB).2.2.1 v1.2) fun v2=>
 if(bQ.pre (List.getD (List.modify (List.modify (List.modify x3 (Int.toNat x2) (fun z=>(x1,z.2))) (Int.toNat x2) (fun z=>(z.1,(v1.1,z.2.2)))) (Int.toNat x2) (fun z=>(z.1,(z.2.1,((bQ (List.getD (List.modify (List.modify x3 (Int.toNat x2) (fun z_1=>(x1,z_1.2))) (Int.toNat x2) (fun z_1=>(z_1.1,(v1.1,z_1.2.2)))) (Int.toNat x2) vB).2.2.1 v1.2).1,z.2.2.2))))) (Int.toNat x2) vB).2.2.2.1 v2.2)=true then
 letB (bQ (List.getD (List.modify (List.modify (List.modify x3 (Int.toNat x2) (fun z=>(x1,z.2))) (Int.toNat x2) (fun z=>(z.1,(v1.1,z.2.2)))) (Int.toNat x2) (fun z=>(z.1,(z.2.1,(v2.1,z.2.2.2))))) (Int.toNat x2) vB).2.2.2.1 v2.2) fun v3=>
 some (.inl (v3.2,((wrap .i64 (x2+(1:Int))),((List.modify (List.modify (List.modify (List.modify x3 (Int.toNat x2) (fun z=>(x1,z.2))) (Int.toNat x2) (fun z=>(z.1,(v1.1,z.2.2)))) (Int.toNat x2) (fun z=>(z.1,(z.2.1,(v2.1,z.2.2.2))))) (Int.toNat x2) (fun z=>(z.1,(z.2.1,(z.2.2.1,(v3.1,z.2.2.2.2)))))),()))))
 else
 none
 else
 none
 else
 none
 else
 none
 else
 none
 else
 none
 else
 none
 else
 none
 else
 none
 else
 none
 else
 none
 else
 some (.inr (x1,(x3,())))
abbrev wf(x0:(List aJ))(x1:Int):Prop:=fV [(.mut (.sl 0 aAk)),(.val (.int .i64) .f)] (x0,(x1,()))
noncomputable def aR(x0:(List aJ))(x1:Int):Option (((List aJ)×Unit)×(Int×Unit)):=
 if(dR.pre2 (x1,((0:Int),(x0,()))))=true then
 letB (dR.fn2 (x1,((0:Int),(x0,())))) fun v1=>
 some (v1.2,(v1.1,()))
 else
 none
theorem qG(x1 x2:Int)(x3:List aJ)(hp:pre2 (x1,(x2,(x3,())))=true):Rounds pre2 kX fn2 (x1,(x2,(x3,()))) (cU x1 x2 x3):=by
 unfold cU
 by_cases hlt:x2<(x3.length:Int)
 . obtain⟨h0,hk,hc,hn⟩:=tD lR hp hlt vB
   generalize he:x3.getD x2.toNat vB=e at hc
   simp only[bZ] at hc
   have n1:=gP gQ e.2.1
   have n2:=gP gQ e.2.2.1
   have n3:=gP gQ e.2.2.2.1
   have w0:wrap .i64 (x1+1)=x1+1:=iX (by omega) (by omega)
   have q1:bQ.pre e.2.1 (x1+1)=true:=vK (by omega) (by omega)
   have q2:bQ.pre e.2.2.1 (x1+1+bJ bP e.2.1)=true:=vK (by omega) (by omega)
   have q3:bQ.pre e.2.2.2.1 (x1+1+bJ bP e.2.1+bJ bP e.2.2.1)=true:=vK (by omega) (by omega)
   simp only[letB,List.length_modify,List.modify_modify_eq,pI hn,Function.comp,hlt,h0,he,decide_true,if_true,w0,q1,q2,q3,aD0]
   exact xH lR hp hlt vB (by rw[he];simp only[bZ];omega) (by rw[he];rfl)
 . rw[if_neg (by simp[hlt])];exact aAQ hp hlt
theorem eq(x0:List aJ)(x1:Int)(_:wf x0 x1)(hp:pre x0 x1=true):aR x0 x1=some (((dR x0 x1).1,()),((dR x0 x1).2,())):=by
 unfold aR
 rw[if_pos (show pre2 _=true from uF lR hp)]
 rfl
end dR
theorem aFb(xs:List aJ)(k:Int):dR xs k=(pF nH bZ xs k,k+bJ bZ xs):=rfl
theorem aEt{xs:List aJ}{k:Int}(h0:0<=k)(h1:k+bJ bZ xs<=134217728):dR.pre xs k=true:=mL.2 ⟨h0,h1⟩
noncomputable def dI(xs:List aJ)(k:Int):Int:=vA (pF nH bZ) (bJ bZ) xs k
namespace dI
def pre(xs:List aJ)(k:Int):Bool:=zZ bZ xs k
def pre2:=rI bZ
noncomputable def fn2:=aBx nH bZ
def kX:=aEO (α:=aJ)
noncomputable def cU(x1:(List aJ))(x2:Int)(x3:Int):Option (((List aJ)×eQ)⊕((Int×Unit)⊕(Int×Unit))):=
 if(decide (x3<((length x1:Nat):Int)))=true then
 if(decide ((0:Int)<=x3))=true then
 if(decide (x3<((length x1:Nat):Int)))=true then
 if(!(decide ((List.getD x1 (Int.toNat x3) vB).1=x2)))=true then
 some (.inr (.inl ((-1:Int),())))
 else
 if(decide ((0:Int)<=x3))=true then
 if(decide (x3<((length x1:Nat):Int)))=true then
 if(bK.pre (List.getD x1 (Int.toNat x3) vB).2.1 (wrap .i64 (x2+(1:Int))))=true then
 letB (bK (List.getD x1 (Int.toNat x3) vB).2.1 (wrap .i64 (x2+(1:Int)))) fun v1=>
 if(decide (v1<(0:Int)))=true then
 some (.inr (.inl ((-1:Int),())))
 else
 if(decide ((0:Int)<=x3))=true then
 if(decide (x3<((length x1:Nat):Int)))=true then
 if(bK.pre (List.getD x1 (Int.toNat x3) vB).2.2.1 v1)=true then
 letB (bK (List.getD x1 (Int.toNat x3) vB).2.2.1 v1) fun v2=>
 if(decide (v2<(0:Int)))=true then
 some (.inr (.inl ((-1:Int),())))
 else
 if(decide ((0:Int)<=x3))=true then
 if(decide (x3<((length x1:Nat):Int)))=true then
 if(bK.pre (List.getD x1 (Int.toNat x3) vB).2.2.2.1 v2)=true then
 letB (bK (List.getD x1 (Int.toNat x3) vB).2.2.2.1 v2) fun v3=>
 if(decide (v3<(0:Int)))=true then
 some (.inr (.inl ((-1:Int),())))
 else
 some (.inl (x1,(v3,((wrap .i64 (x3+(1:Int))),()))))
 else
 none
 else
 none
 else
 none
 else
 none
 else
 none
 else
 none
 else
 none
 else
 none
 else
 none
 else
 none
 else
 none
 else
 some (.inr (.inr (x2,())))
abbrev wf(x0:(List aJ))(x1:Int):Prop:=fV [(.val (.sl 0 aAk) .f),(.val (.int .i64) .f)] (x0,(x1,()))
noncomputable def aR(x0:(List aJ))(x1:Int):Option xS:=
 if(dI.pre2 (x0,(x1,((0:Int),()))))=true then
  letB (dI.fn2 (x0,(x1,((0:Int),())))) fun v1=>
  match v1 with
  |.inl y=>
   some ((),y)
  |.inr y=>
   some ((),y)
 else
  none
theorem qG(x1:List aJ)(x2 x3:Int)(hp:pre2 (x1,(x2,(x3,())))=true):Rounds pre2 kX fn2 (x1,(x2,(x3,()))) (cU x1 x2 x3):=by
 unfold cU
 by_cases hlt:x3<(x1.length:Int)
 . obtain⟨h0,hk,hc⟩:=wN lR hp hlt vB
   have xX:=aBp (m:=nH) (g:=bZ) hp hlt vB
   have good:=fun K hK=>zU lR (K:=K) hp hlt vB hK
   generalize x1.getD x3.toNat vB=e at *
   simp only[bZ] at hc
   have n1:=gP gQ e.2.1
   have n2:=gP gQ e.2.2.1
   have n3:=gP gQ e.2.2.2.1
   have w0:wrap .i64 (x2+1)=x2+1:=iX (by omega) (by omega)
   have q1:bK.pre e.2.1 (x2+1)=true:=vO (by omega) (by omega)
   have q2:bK.pre e.2.2.1 (x2+1+bJ bP e.2.1)=true:=vO (by omega) (by omega)
   have q3:bK.pre e.2.2.2.1 (x2+1+bJ bP e.2.1+bJ bP e.2.2.1)=true:=vO (by omega) (by omega)
   simp only[letB,hlt,h0,decide_true,if_true,w0,q1,q2,q3]
   by_cases c0:e.1=x2
   case neg=>rw[if_pos (by simp[c0])];exact xX fun h=>c0 (congrArg (fun z:aJ=>z.1) h)
   rw[if_neg (by simp[c0])]
   by_cases c1:e.2.1=pF qH bP e.2.1 (x2+1)
   case neg=>rw[show bK e.2.1 (x2+1)=-1 from vH c1,if_pos (by decide)];exact xX fun h=>c1 ((congrArg (fun z:aJ=>z.2.1) h).trans (by simp only[nH]))
   rw[show bK e.2.1 (x2+1)=x2+1+bJ bP e.2.1 from vE c1,if_neg (by rw[Za];omega)]
   try simp only[if_true,w0,q1,q2,q3]
   by_cases c2:e.2.2.1=pF qH bP e.2.2.1 (x2+1+bJ bP e.2.1)
   case neg=>rw[show bK e.2.2.1 (x2+1+bJ bP e.2.1)=-1 from vH c2,if_pos (by decide)];exact xX fun h=>c2 ((congrArg (fun z:aJ=>z.2.2.1) h).trans (by simp only[nH]))
   rw[show bK e.2.2.1 (x2+1+bJ bP e.2.1)=x2+1+bJ bP e.2.1+bJ bP e.2.2.1 from vE c2,if_neg (by rw[Za];omega)]
   try simp only[if_true,w0,q1,q2,q3]
   by_cases c3:e.2.2.2.1=pF qH bP e.2.2.2.1 (x2+1+bJ bP e.2.1+bJ bP e.2.2.1)
   case neg=>rw[show bK e.2.2.2.1 (x2+1+bJ bP e.2.1+bJ bP e.2.2.1)=-1 from vH c3,if_pos (by decide)];exact xX fun h=>c3 ((congrArg (fun z:aJ=>z.2.2.2.1) h).trans (by simp only[nH]))
   rw[show bK e.2.2.2.1 (x2+1+bJ bP e.2.1+bJ bP e.2.2.1)=x2+1+bJ bP e.2.1+bJ bP e.2.2.1+bJ bP e.2.2.2.1 from vE c3,if_neg (by rw[Za];omega)]
   exact good _ (by simp only[bZ];omega) (Prod.ext c0 (Prod.ext c1 (Prod.ext c2 (Prod.ext c3 rfl))))
 . rw[if_neg (by simp[hlt])];exact aBE hp hlt
theorem eq(x0:List aJ)(x1:Int)(_:wf x0 x1)(hp:pre x0 x1=true):aR x0 x1=some ((),(dI x0 x1,())):=by
 unfold aR
 rw[if_pos (show pre2 _=true from wS lR hp)]
 exact rV x0 x1
end dI
theorem aEQ{xs:List aJ}{k:Int}(h:xs=pF nH bZ xs k):dI xs k=k+bJ bZ xs:=mW h
theorem aDI{xs:List aJ}{k:Int}(h:¬xs=pF nH bZ xs k):dI xs k=-1:=kD h
theorem aEM{xs:List aJ}{k:Int}(h0:0<=k)(h1:k+bJ bZ xs<=134217728):dI.pre xs k=true:=mL.2 ⟨h0,h1⟩
def oK(x:bI)(k:Int):bI:=(pF tB cK x.1 (k),(pF oM bO x.2.1 (k+bJ cK x.1),(pF nH bZ x.2.2.1 (k+bJ cK x.1+bJ bO x.2.1),(x.2.2.2.1,(pF qH bP x.2.2.2.2.1 (k+bJ cK x.1+bJ bO x.2.1+bJ bZ x.2.2.1),(pF oU dK x.2.2.2.2.2.1 (k+bJ cK x.1+bJ bO x.2.1+bJ bZ x.2.2.1+bJ bP x.2.2.2.2.1),()))))))
def fU(x:bI):Int:=bJ cK x.1+bJ bO x.2.1+bJ bZ x.2.2.1+bJ bP x.2.2.2.2.1+bJ dK x.2.2.2.2.2.1
theorem zQ(x:bI):0<=fU x:=by
 have n0:=gP oH x.1
 have n1:=gP lP x.2.1
 have n2:=gP lR x.2.2.1
 have n4:=gP gQ x.2.2.2.2.1
 have n5:=gP kM x.2.2.2.2.2.1
 simp only[fU];omega
theorem aBk(x:bI)(k:Int):fU (oK x k)=fU x:=by simp only[fU,oK,lH kM,lH lR,lH gQ,lH lP,lH oH]
theorem aF6(x:bI)(k:Int):oK (oK x k) k=oK x k:=by simp only[oK,lH kM,lH lR,lH gQ,lH lP,lH oH,uB kM,uB lR,uB gQ,uB lP,uB oH]
noncomputable def lS(a b:bI):Bool:=same a b
namespace lS
abbrev wf(x0:bI)(x1:bI):Prop:=fV [(.val zk1 .f),(.val zk1 .f)] (x0,(x1,()))
noncomputable def aR(x0:bI)(x1:bI):Option lA:=
 letB (jW x0.1 x1.1) fun v1=>
 if(!v1)=true then
 some ((),(false,()))
 else
 letB (hP x0.2.1 x1.2.1) fun v2=>
 if(!v2)=true then
 some ((),(false,()))
 else
 letB (hY x0.2.2.1 x1.2.2.1) fun v3=>
 if(!v3)=true then
 some ((),(false,()))
 else
 if(!(decide (x0.2.2.2.1=x1.2.2.2.1)))=true then
 some ((),(false,()))
 else
 letB (eB x0.2.2.2.2.1 x1.2.2.2.2.1) fun v4=>
 if(!v4)=true then
 some ((),(false,()))
 else
 letB (gF x0.2.2.2.2.2.1 x1.2.2.2.2.2.1) fun v5=>
 if(!v5)=true then
 some ((),(false,()))
 else
 some ((),(true,()))
theorem eq(x0 x1:bI)(_:wf x0 x1):aR x0 x1=some ((),(lS x0 x1,())):=by
 unfold aR lS
 try simp only[letB]
 by_cases c0:x0.1=x1.1
 case neg=>rw[if_pos (by rw[jW,aQ.2 c0];rfl),aQ.2 (fun h=>c0 (congrArg (fun z:bI=>z.1) h))]
 rw[if_neg (by rw[jW,bV.2 c0];simp)]
 by_cases c1:x0.2.1=x1.2.1
 case neg=>rw[if_pos (by rw[hP,aQ.2 c1];rfl),aQ.2 (fun h=>c1 (congrArg (fun z:bI=>z.2.1) h))]
 rw[if_neg (by rw[hP,bV.2 c1];simp)]
 by_cases c2:x0.2.2.1=x1.2.2.1
 case neg=>rw[if_pos (by rw[hY,aQ.2 c2];rfl),aQ.2 (fun h=>c2 (congrArg (fun z:bI=>z.2.2.1) h))]
 rw[if_neg (by rw[hY,bV.2 c2];simp)]
 by_cases c3:x0.2.2.2.1=x1.2.2.2.1
 case neg=>rw[if_pos (by simp[c3]),aQ.2 (fun h=>c3 (congrArg (fun z:bI=>z.2.2.2.1) h))]
 rw[if_neg (by simp[c3])]
 by_cases c4:x0.2.2.2.2.1=x1.2.2.2.2.1
 case neg=>rw[if_pos (by rw[eB,aQ.2 c4];rfl),aQ.2 (fun h=>c4 (congrArg (fun z:bI=>z.2.2.2.2.1) h))]
 rw[if_neg (by rw[eB,bV.2 c4];simp)]
 by_cases c5:x0.2.2.2.2.2.1=x1.2.2.2.2.2.1
 case neg=>rw[if_pos (by rw[gF,aQ.2 c5];rfl),aQ.2 (fun h=>c5 (congrArg (fun z:bI=>z.2.2.2.2.2.1) h))]
 rw[if_neg (by rw[gF,bV.2 c5];simp)]
 rw[bV.2 (Prod.ext c0 (Prod.ext c1 (Prod.ext c2 (Prod.ext c3 (Prod.ext c4 (Prod.ext c5 rfl))))))]
end lS
def fC(x:bI)(k:Int):bI×Int:=(oK x k,k+fU x)
namespace fC
def pre(x:bI)(k:Int):Bool:=decide (0<=k)&&decide (k+fU x<=134217728)
abbrev wf(x0:bI)(x1:Int):Prop:=fV [(.mut zk1),(.val (.int .i64) .f)] (x0,(x1,()))
noncomputable def aR(x0:bI)(x1:Int):Option ((bI×Unit)×(Int×Unit)):=
 if(fE.pre x0.1 x1)=true then
 letB (fE x0.1 x1) fun v1=>
 if(dS.pre x0.2.1 v1.2)=true then
 letB (dS x0.2.1 v1.2) fun v2=>
 if(dR.pre x0.2.2.1 v2.2)=true then
 letB (dR x0.2.2.1 v2.2) fun v3=>
 if(bQ.pre x0.2.2.2.2.1 v3.2)=true then
 letB (bQ x0.2.2.2.2.1 v3.2) fun v4=>
 if(dE.pre x0.2.2.2.2.2.1 v4.2)=true then
 letB (dE x0.2.2.2.2.2.1 v4.2) fun v5=>
 some (((v1.1,(v2.1,(v3.1,(x0.2.2.2.1,(v4.1,(v5.1,x0.2.2.2.2.2.2)))))),()),(v5.2,()))
 else
 none
 else
 none
 else
 none
 else
 none
 else
 none
theorem eq(x0:bI)(x1:Int)(_:wf x0 x1)(hp:pre x0 x1=true):aR x0 x1=some (((fC x0 x1).1,()),((fC x0 x1).2,())):=by
 simp only[pre,Zb,Za] at hp
 simp only[fU] at hp
 have n0:=gP oH x0.1
 have n1:=gP lP x0.2.1
 have n2:=gP lR x0.2.2.1
 have n4:=gP gQ x0.2.2.2.2.1
 have n5:=gP kM x0.2.2.2.2.2.1
 have q0:fE.pre x0.1 (x1)=true:=aH0 (by omega) (by omega)
 have q1:dS.pre x0.2.1 (x1+bJ cK x0.1)=true:=aEy (by omega) (by omega)
 have q2:dR.pre x0.2.2.1 (x1+bJ cK x0.1+bJ bO x0.2.1)=true:=aEt (by omega) (by omega)
 have q4:bQ.pre x0.2.2.2.2.1 (x1+bJ cK x0.1+bJ bO x0.2.1+bJ bZ x0.2.2.1)=true:=vK (by omega) (by omega)
 have q5:dE.pre x0.2.2.2.2.2.1 (x1+bJ cK x0.1+bJ bO x0.2.1+bJ bZ x0.2.2.1+bJ bP x0.2.2.2.2.1)=true:=aDk (by omega) (by omega)
 unfold aR
 simp only[letB,if_true,q0,q1,q2,q4,q5,aDR,aFb,aD0,aFe,aHS]
 refine congrArg some (Prod.ext rfl (Prod.ext ?_ rfl))
 show _=_
 simp only[fC,fU];omega
end fC
theorem aI5(x:bI)(k:Int):fC x k=(oK x k,k+fU x):=rfl
theorem aGD{x:bI}{k:Int}(h0:0<=k)(h1:k+fU x<=134217728):fC.pre x k=true:=by simp[fC.pre,h0,h1]
noncomputable def eO(x:bI)(k:Int):Int:=vA oK fU x k
namespace eO
def pre(x:bI)(k:Int):Bool:=decide (0<=k)&&decide (k+fU x<=134217728)
abbrev wf(x0:bI)(x1:Int):Prop:=fV [(.val zk1 .f),(.val (.int .i64) .f)] (x0,(x1,()))
noncomputable def aR(x0:bI)(x1:Int):Option xS:=
 if(eM.pre x0.1 x1)=true then
 letB (eM x0.1 x1) fun v1=>
 if(decide (v1<(0:Int)))=true then
 some ((),((-1:Int),()))
 else
 if(dH.pre x0.2.1 v1)=true then
 letB (dH x0.2.1 v1) fun v2=>
 if(decide (v2<(0:Int)))=true then
 some ((),((-1:Int),()))
 else
 if(dI.pre x0.2.2.1 v2)=true then
 letB (dI x0.2.2.1 v2) fun v3=>
 if(decide (v3<(0:Int)))=true then
 some ((),((-1:Int),()))
 else
 if(bK.pre x0.2.2.2.2.1 v3)=true then
 letB (bK x0.2.2.2.2.1 v3) fun v4=>
 if(decide (v4<(0:Int)))=true then
 some ((),((-1:Int),()))
 else
 if(cY.pre x0.2.2.2.2.2.1 v4)=true then
 letB (cY x0.2.2.2.2.2.1 v4) fun v5=>
 if(decide (v5<(0:Int)))=true then
 some ((),((-1:Int),()))
 else
 some ((),(v5,()))
 else
 none
 else
 none
 else
 none
 else
 none
 else
 none
theorem eq(x0:bI)(x1:Int)(_:wf x0 x1)(hp:pre x0 x1=true):aR x0 x1=some ((),(eO x0 x1,())):=by
 simp only[pre,Zb,Za] at hp
 simp only[fU] at hp
 have n0:=gP oH x0.1
 have n1:=gP lP x0.2.1
 have n2:=gP lR x0.2.2.1
 have n4:=gP gQ x0.2.2.2.2.1
 have n5:=gP kM x0.2.2.2.2.2.1
 have q0:eM.pre x0.1 (x1)=true:=aGu (by omega) (by omega)
 have q1:dH.pre x0.2.1 (x1+bJ cK x0.1)=true:=aE5 (by omega) (by omega)
 have q2:dI.pre x0.2.2.1 (x1+bJ cK x0.1+bJ bO x0.2.1)=true:=aEM (by omega) (by omega)
 have q4:bK.pre x0.2.2.2.2.1 (x1+bJ cK x0.1+bJ bO x0.2.1+bJ bZ x0.2.2.1)=true:=vO (by omega) (by omega)
 have q5:cY.pre x0.2.2.2.2.2.1 (x1+bJ cK x0.1+bJ bO x0.2.1+bJ bZ x0.2.2.1+bJ bP x0.2.2.2.2.1)=true:=aDr (by omega) (by omega)
 unfold aR eO
 simp only[letB,if_true,q0,q1,q2,q4,q5]
 by_cases c0:x0.1=pF tB cK x0.1 (x1)
 case neg=>rw[show eM x0.1 (x1)=-1 from aGi c0,if_pos (by decide),kD (fun h=>c0 (congrArg (fun z:bI=>z.1) h))]
 rw[show eM x0.1 (x1)=x1+bJ cK x0.1 from aGO c0,if_neg (by rw[Za];omega)]
 try simp only[if_true,q0,q1,q2,q4,q5]
 by_cases c1:x0.2.1=pF oM bO x0.2.1 (x1+bJ cK x0.1)
 case neg=>rw[show dH x0.2.1 (x1+bJ cK x0.1)=-1 from aEK c1,if_pos (by decide),kD (fun h=>c1 (congrArg (fun z:bI=>z.2.1) h))]
 rw[show dH x0.2.1 (x1+bJ cK x0.1)=x1+bJ cK x0.1+bJ bO x0.2.1 from aDP c1,if_neg (by rw[Za];omega)]
 try simp only[if_true,q0,q1,q2,q4,q5]
 by_cases c2:x0.2.2.1=pF nH bZ x0.2.2.1 (x1+bJ cK x0.1+bJ bO x0.2.1)
 case neg=>rw[show dI x0.2.2.1 (x1+bJ cK x0.1+bJ bO x0.2.1)=-1 from aDI c2,if_pos (by decide),kD (fun h=>c2 (congrArg (fun z:bI=>z.2.2.1) h))]
 rw[show dI x0.2.2.1 (x1+bJ cK x0.1+bJ bO x0.2.1)=x1+bJ cK x0.1+bJ bO x0.2.1+bJ bZ x0.2.2.1 from aEQ c2,if_neg (by rw[Za];omega)]
 try simp only[if_true,q0,q1,q2,q4,q5]
 by_cases c4:x0.2.2.2.2.1=pF qH bP x0.2.2.2.2.1 (x1+bJ cK x0.1+bJ bO x0.2.1+bJ bZ x0.2.2.1)
 case neg=>rw[show bK x0.2.2.2.2.1 (x1+bJ cK x0.1+bJ bO x0.2.1+bJ bZ x0.2.2.1)=-1 from vH c4,if_pos (by decide),kD (fun h=>c4 (congrArg (fun z:bI=>z.2.2.2.2.1) h))]
 rw[show bK x0.2.2.2.2.1 (x1+bJ cK x0.1+bJ bO x0.2.1+bJ bZ x0.2.2.1)=x1+bJ cK x0.1+bJ bO x0.2.1+bJ bZ x0.2.2.1+bJ bP x0.2.2.2.2.1 from vE c4,if_neg (by rw[Za];omega)]
 try simp only[if_true,q0,q1,q2,q4,q5]
 by_cases c5:x0.2.2.2.2.2.1=pF oU dK x0.2.2.2.2.2.1 (x1+bJ cK x0.1+bJ bO x0.2.1+bJ bZ x0.2.2.1+bJ bP x0.2.2.2.2.1)
 case neg=>rw[show cY x0.2.2.2.2.2.1 (x1+bJ cK x0.1+bJ bO x0.2.1+bJ bZ x0.2.2.1+bJ bP x0.2.2.2.2.1)=-1 from aDm c5,if_pos (by decide),kD (fun h=>c5 (congrArg (fun z:bI=>z.2.2.2.2.2.1) h))]
 rw[show cY x0.2.2.2.2.2.1 (x1+bJ cK x0.1+bJ bO x0.2.1+bJ bZ x0.2.2.1+bJ bP x0.2.2.2.2.1)=x1+bJ cK x0.1+bJ bO x0.2.1+bJ bZ x0.2.2.1+bJ bP x0.2.2.2.2.1+bJ dK x0.2.2.2.2.2.1 from aDh c5,if_neg (by rw[Za];omega)]
 rw[mW (m:=oK) (g:=fU) (Prod.ext c0 (Prod.ext c1 (Prod.ext c2 (Prod.ext rfl (Prod.ext c4 (Prod.ext c5 rfl)))))),show x1+bJ cK x0.1+bJ bO x0.2.1+bJ bZ x0.2.2.1+bJ bP x0.2.2.2.2.1+bJ dK x0.2.2.2.2.2.1=x1+fU x0 by simp only[fU];omega]
end eO
theorem aGj{x:bI}{k:Int}(h:x=oK x k):eO x k=k+fU x:=mW h
theorem aGx{x:bI}{k:Int}(h:¬x=oK x k):eO x k=-1:=kD h
theorem aGU{x:bI}{k:Int}(h0:0<=k)(h1:k+fU x<=134217728):eO.pre x k=true:=by simp[eO.pre,h0,h1]
def lG(x:jV)(k:Int):jV:=(x.1,(x.2.1,(rT x.2.2.1 (k),(oK x.2.2.2.1 (k+iV x.2.2.1),()))))
def fW(x:jV):Int:=iV x.2.2.1+fU x.2.2.2.1
theorem aGL(x:jV):0<=fW x:=by
 have n2:=aAC x.2.2.1
 have n3:=zQ x.2.2.2.1
 simp only[fW];omega
theorem aBh(x:jV)(k:Int):fW (lG x k)=fW x:=by simp only[fW,lG,aBk,aC4]
theorem aFi(x:jV)(k:Int):lG (lG x k) k=lG x k:=by simp only[lG,aBk,aC4,aF6,aGQ]
noncomputable def lW(a b:jV):Bool:=same a b
namespace lW
abbrev wf(x0:rL)(x1:rL):Prop:=fV [(.val aF1 .f),(.val aF1 .f)] (x0,(x1,()))
noncomputable def aR(x0:rL)(x1:rL):Option lA:=
 if(!(decide (x0.1=x1.1)))=true then
 some ((),(false,()))
 else
 if(!(decide (x0.2.1=x1.2.1)))=true then
 some ((),(false,()))
 else
 letB (nB x0.2.2.1 x1.2.2.1) fun v1=>
 if(!v1)=true then
 some ((),(false,()))
 else
 letB (lS x0.2.2.2.1 x1.2.2.2.1) fun v2=>
 if(!v2)=true then
 some ((),(false,()))
 else
 some ((),(true,()))
theorem eq(x0 x1:jV)(_:wf x0 x1):aR x0 x1=some ((),(lW x0 x1,())):=by
 unfold aR lW
 try simp only[letB]
 by_cases c0:x0.1=x1.1
 case neg=>rw[if_pos (by simp[c0]),aQ.2 (fun h=>c0 (congrArg (fun z:jV=>z.1) h))]
 rw[if_neg (by simp[c0])]
 by_cases c1:x0.2.1=x1.2.1
 case neg=>rw[if_pos (by simp[c1]),aQ.2 (fun h=>c1 (congrArg (fun z:jV=>z.2.1) h))]
 rw[if_neg (by simp[c1])]
 by_cases c2:x0.2.2.1=x1.2.2.1
 case neg=>rw[if_pos (by rw[nB,aQ.2 c2];rfl),aQ.2 (fun h=>c2 (congrArg (fun z:jV=>z.2.2.1) h))]
 rw[if_neg (by rw[nB,bV.2 c2];simp)]
 by_cases c3:x0.2.2.2.1=x1.2.2.2.1
 case neg=>rw[if_pos (by rw[lS,aQ.2 c3];rfl),aQ.2 (fun h=>c3 (congrArg (fun z:jV=>z.2.2.2.1) h))]
 rw[if_neg (by rw[lS,bV.2 c3];simp)]
 rw[bV.2 (Prod.ext c0 (Prod.ext c1 (Prod.ext c2 (Prod.ext c3 rfl))))]
end lW
def fD(x:jV)(k:Int):jV×Int:=(lG x k,k+fW x)
namespace fD
def pre(x:jV)(k:Int):Bool:=decide (0<=k)&&decide (k+fW x<=134217728)
abbrev wf(x0:rL)(x1:Int):Prop:=fV [(.mut aF1),(.val (.int .i64) .f)] (x0,(x1,()))
noncomputable def aR(x0:rL)(x1:Int):Option ((rL×Unit)×(Int×Unit)):=
 if(gW.pre x0.2.2.1 x1)=true then
 letB (gW x0.2.2.1 x1) fun v1=>
 if(fC.pre x0.2.2.2.1 v1.2)=true then
 letB (fC x0.2.2.2.1 v1.2) fun v2=>
 some (((x0.1,(x0.2.1,((x0.2.2.1.1,(x0.2.2.1.2.1,(v1.1.2.2.1,x0.2.2.1.2.2.2))),((v2.1.1,(v2.1.2.1,(v2.1.2.2.1,(x0.2.2.2.1.2.2.2.1,(v2.1.2.2.2.2.1,(v2.1.2.2.2.2.2.1,x0.2.2.2.1.2.2.2.2.2.2)))))),x0.2.2.2.2)))),()),(v2.2,()))
 else
 none
 else
 none
theorem eq(x0:jV)(x1:Int)(_:wf x0 x1)(hp:pre x0 x1=true):aR x0 x1=some (((fD x0 x1).1,()),((fD x0 x1).2,())):=by
 simp only[pre,Zb,Za] at hp
 simp only[fW] at hp
 have n2:=aAC x0.2.2.1
 have n3:=zQ x0.2.2.2.1
 have q2:gW.pre x0.2.2.1 (x1)=true:=aH4 (by omega) (by omega)
 have q3:fC.pre x0.2.2.2.1 (x1+iV x0.2.2.1)=true:=aGD (by omega) (by omega)
 unfold aR
 simp only[letB,if_true,q2,q3,aI5,aJi]
 refine congrArg some (Prod.ext rfl (Prod.ext ?_ rfl))
 show _=_
 simp only[fD,fW];omega
end fD
theorem aIp(x:jV)(k:Int):fD x k=(lG x k,k+fW x):=rfl
theorem aH5{x:jV}{k:Int}(h0:0<=k)(h1:k+fW x<=134217728):fD.pre x k=true:=by simp[fD.pre,h0,h1]
noncomputable def fI(x:jV)(k:Int):Int:=vA lG fW x k
namespace fI
def pre(x:jV)(k:Int):Bool:=decide (0<=k)&&decide (k+fW x<=134217728)
abbrev wf(x0:rL)(x1:Int):Prop:=fV [(.val aF1 .f),(.val (.int .i64) .f)] (x0,(x1,()))
noncomputable def aR(x0:rL)(x1:Int):Option xS:=
 if(fA.pre x0.2.2.1 x1)=true then
 letB (fA x0.2.2.1 x1) fun v1=>
 if(decide (v1<(0:Int)))=true then
 some ((),((-1:Int),()))
 else
 if(eO.pre x0.2.2.2.1 v1)=true then
 letB (eO x0.2.2.2.1 v1) fun v2=>
 if(decide (v2<(0:Int)))=true then
 some ((),((-1:Int),()))
 else
 some ((),(v2,()))
 else
 none
 else
 none
theorem eq(x0:jV)(x1:Int)(_:wf x0 x1)(hp:pre x0 x1=true):aR x0 x1=some ((),(fI x0 x1,())):=by
 simp only[pre,Zb,Za] at hp
 simp only[fW] at hp
 have n2:=aAC x0.2.2.1
 have n3:=zQ x0.2.2.2.1
 have q2:fA.pre x0.2.2.1 (x1)=true:=aGT (by omega) (by omega)
 have q3:eO.pre x0.2.2.2.1 (x1+iV x0.2.2.1)=true:=aGU (by omega) (by omega)
 unfold aR fI
 simp only[letB,if_true,q2,q3]
 by_cases c2:x0.2.2.1=rT x0.2.2.1 (x1)
 case neg=>rw[show fA x0.2.2.1 (x1)=-1 from aIf c2,if_pos (by decide),kD (fun h=>c2 (congrArg (fun z:jV=>z.2.2.1) h))]
 rw[show fA x0.2.2.1 (x1)=x1+iV x0.2.2.1 from aHm c2 (by omega),if_neg (by rw[Za];omega)]
 try simp only[if_true,q2,q3]
 by_cases c3:x0.2.2.2.1=oK x0.2.2.2.1 (x1+iV x0.2.2.1)
 case neg=>rw[show eO x0.2.2.2.1 (x1+iV x0.2.2.1)=-1 from aGx c3,if_pos (by decide),kD (fun h=>c3 (congrArg (fun z:jV=>z.2.2.2.1) h))]
 rw[show eO x0.2.2.2.1 (x1+iV x0.2.2.1)=x1+iV x0.2.2.1+fU x0.2.2.2.1 from aGj c3,if_neg (by rw[Za];omega)]
 rw[mW (m:=lG) (g:=fW) (Prod.ext rfl (Prod.ext rfl (Prod.ext c2 (Prod.ext c3 rfl)))),show x1+iV x0.2.2.1+fU x0.2.2.2.1=x1+fW x0 by simp only[fW];omega]
end fI
theorem aG9{x:jV}{k:Int}(h0:0<=k)(h1:k+fW x<=134217728):fI.pre x k=true:=by simp[fI.pre,h0,h1]
theorem aFd(x:jV)(k:Int):fI (lG x k) k=k+fW x:=aMK aBh aFi x k
theorem aBr{b:List Int}{i:Int}(hb:bR b=true)(h:(bG b i).2.2=true):
 0<=i/\i+5<=(bG b i).2.1/\(bG b i).2.1<=(b.length:Int):=by
 unfold bG ofV at *
 by_cases hn:(dN b i).2.2=true
 case neg=>rw[if_neg hn] at h;cases h
 rw[if_pos hn] at *
 obtain⟨g0,g1,g2,g3,g4,_⟩:=nC hb hn
 by_cases hl:(b.length:Int)-(dN b i).2.1-4<(dN b i).1
 . rw[if_pos hl] at h;cases h
 rw[if_neg hl] at *
 revert h
 simp only
 split
 . split
   . intro _;simp only;omega
   . intro h;cases h
 . intro h;cases h
theorem aHY(b:List Int)(i:Int):(bG b i).1.2.2.2.2.1.length<=40:=by
 unfold bG ofV
 split
 . split
   . simp[sU]
   . simp only
     split
     . split
       . rename_i h
         simp only[aGH,Zb] at h
         exact(wP h.2.2).1
       . simp[sU]
     . simp[sU]
 . simp[sU]
def notesW(g:Int->eF×(Int×Bool))(len:Nat)(i:Int)(ns:List eF):Int×List eF:=
 if(g i).2.2=true/\0<=i/\i<(g i).2.1/\i<(len:Int) then notesW g len (g i).2.1 (ns++[(g i).1]) else(i,ns)
termination_by len-i.toNat
decreasing_by omega
theorem aFx{b:List Int}(hb:bR b=true){i:Int}(h:(bG b i).2.2=true)(ns:List eF):
 notesW (bG b) b.length i ns=notesW (bG b) b.length (bG b i).2.1 (ns++[(bG b i).1]):=by
 have:=aBr hb h
 conv=>lhs;rw[notesW]
 rw[if_pos ⟨h,by omega,by omega,by omega⟩]
theorem aFW{b:List Int}{i:Int}(h:¬(bG b i).2.2=true)(ns:List eF):notesW (bG b) b.length i ns=(i,ns):=by
 rw[notesW,if_neg (fun g=>h g.1)]
theorem aEg{b:List Int}(hb:bR b=true){i:Int}(h:(b.length:Int)<=i)(ns:List eF):notesW (bG b) b.length i ns=(i,ns):=by
 rw[notesW,if_neg (by omega)]
theorem aJs{b:List Int}(hb:bR b=true)(n:Nat):∀(i:Int) (ns:List eF),b.length-i.toNat<=n->0<=i->i<=(b.length:Int)->5*(ns.length:Int)<=i->(∀r∈ns,r.2.2.2.2.1.length<=40)->
 5*((notesW (bG b) b.length i ns).2.length:Int)<=(b.length:Int)/\∀r∈(notesW (bG b) b.length i ns).2,r.2.2.2.2.1.length<=40:=by
 induction n with
 |zero=>
  intro i ns hn h0 h1 h2 h3
  rw[aEg hb (by omega)]
  exact⟨by simp only;omega,h3⟩
 |succ n ih=>
  intro i ns hn h0 h1 h2 h3
  by_cases h:(bG b i).2.2=true
  . have hp:=aBr hb h
    rw[aFx hb h]
    refine ih _ _ (by omega) (by omega) (by omega) (by simp only[Zf,Zg,Zh];omega) ?_
    intro r hr
    rcases Zp.1 hr with hr|hr
    . exact h3 r hr
    . rw[Zq.1 hr];exact aHY b i
  . rw[aFW h]
    exact⟨by simp only;omega,h3⟩
abbrev NoS:=List Int×(Int×(List eF×Unit))
def aBg:NoS->Bool:=fun s=>bR s.1&&(dJ s.1&&(decide (0<=s.2.1)&&(decide (s.2.1<=(s.1.length:Int))&&decide (5*(s.2.2.1.length:Int)<=s.2.1))))
def aIZ:NoS->Int×(List eF×Unit):=fun s=>((notesW (bG s.1) s.1.length s.2.1 s.2.2.1).1,((notesW (bG s.1) s.1.length s.2.1 s.2.2.1).2,()))
def aLp:NoS->Nat:=fun s=>s.1.length-s.2.1.toNat
theorem aDH{b:List Int}{i:Int}{ns:List eF}(hp:aBg (b,(i,(ns,())))=true):bR b=true/\b.length<=16777216/\0<=i/\i<=(b.length:Int)/\5*(ns.length:Int)<=i:=by
 simpa only[aBg,Zb,Za,cC] using hp
theorem aNl{b:List Int}{i:Int}{ns:List eF}(hp:aBg (b,(i,(ns,())))=true)(h:(bG b i).2.2=true):
 Rounds aBg aLp aIZ (b,(i,(ns,()))) (some (.inl (b,((bG b i).2.1,(ns++[(bG b i).1],()))))):=by
 obtain⟨hb,hs,h0,h1,h2⟩:=aDH hp
 have hq:=aBr hb h
 simp only[Rounds]
 refine⟨?_,by simp only[aLp];omega,?_⟩
 . simp only[aBg,Zb,Za,cC,Zf,Zg,Zh]
   exact⟨hb,hs,by omega,by omega,by omega⟩
 . simp only[aIZ,aFx hb h]
theorem aNs{b:List Int}{i:Int}{ns:List eF}(h:¬(bG b i).2.2=true):Rounds aBg aLp aIZ (b,(i,(ns,()))) (some (.inr (i,(ns,())))):=by
 simp only[Rounds,aIZ,aFW h]
def aC8(b:List Int):List eF×Int:=((notesW (bG b) b.length 0 []).2,(notesW (bG b) b.length 0 []).1)
abbrev kR:=aC8
abbrev kP:=aC8
theorem aHs{b:List Int}(hb:bR b=true)(hs:dJ b=true):aBg (b,((0:Int),(([]:List eF),())))=true:=by
 simp only[aBg,Zb,Za,Zh]
 exact⟨hb,hs,by omega,by omega,by omega⟩
namespace kR
def pre(b:List Int):Bool:=dJ b
def pre3:=aBg
def fn3:=aIZ
def mu3:=aLp
noncomputable def pK(x1:(List Int))(x2:Int)(x3:(List eF)):Option (((List Int)×(Int×((List eF)×Unit)))⊕(Int×((List eF)×Unit))):=
 if(decide (x2<((length x1:Nat):Int)))=true then
 if(bG.pre x1 x2)=true then
 letB (bG x1 x2) fun v1=>
 if(!v1.2.2)=true then
 some (.inr (x2,(x3,())))
 else
 if(decide (length x3+length (v1.1::([]:List eF))<=lV))=true then
 some (.inl (x1,(v1.2.1,((List.append x3 (v1.1::([]:List eF))),()))))
 else
 none
 else
 none
 else
 some (.inr (x2,(x3,())))
abbrev wf(x0:(List Int)):Prop:=fV [(.val wQ .f)] (x0,())
noncomputable def aR(x0:(List Int)):Option (Unit×((List eF)×(Int×Unit))):=
 if(kR.pre3 (x0,((0:Int),(([]:List eF),()))))=true then
 letB (kR.fn3 (x0,((0:Int),(([]:List eF),())))) fun v1=>
 some ((),(v1.2.1,(v1.1,())))
 else
 none
theorem ok3(x1:List Int)(x2:Int)(x3:List eF)(hp:pre3 (x1,(x2,(x3,())))=true):Rounds pre3 mu3 fn3 (x1,(x2,(x3,()))) (pK x1 x2 x3):=by
 obtain⟨hb,hs,h0,h1,h2⟩:=aDH hp
 unfold pK
 simp only[letB]
 by_cases hlt:x2<(x1.length:Int)
 . rw[if_pos (by simp[hlt]),if_pos (show bG.pre _ _=true from rfl)]
   by_cases h:(bG x1 x2).2.2=true
   . rw[if_neg (by simp[h]),if_pos (by simp only[Za,lV,Zg,Zh];omega)]
     exact aNl hp h
   . rw[if_pos (by simp[h])]
     exact aNs h
 . rw[if_neg (by simp[hlt])]
   have:=aEg hb (i:=x2) (by omega) x3
   simp only[Rounds,fn3,aIZ,this]
theorem eq(x0:List Int)(hw:wf x0)(hp:pre x0=true):aR x0=some ((),((kR x0).1,((kR x0).2,()))):=by
 have hb:bR x0=true:=gL hw.1.2
 unfold aR
 rw[if_pos (show pre3 _=true from aHs hb hp)]
 rfl
end kR
namespace kP
def pre(b:List Int):Bool:=dJ b
def pre3:=aBg
def fn3:=aIZ
def mu3:=aLp
noncomputable def pK(x1:(List Int))(x2:Int)(x3:(List eF)):Option (((List Int)×(Int×((List eF)×Unit)))⊕(Int×((List eF)×Unit))):=
 if(gH.pre x1 x2)=true then
 letB (gH x1 x2) fun v1=>
 if(!v1.2.2)=true then
 some (.inr (x2,(x3,())))
 else
 if(decide (length x3+length (v1.1::([]:List eF))<=lV))=true then
 some (.inl (x1,(v1.2.1,((List.append x3 (v1.1::([]:List eF))),()))))
 else
 none
 else
 none
abbrev wf(x0:(List Int)):Prop:=fV [(.val wQ .f)] (x0,())
noncomputable def aR(x0:(List Int)):Option (Unit×((List eF)×(Int×Unit))):=
 if(kP.pre3 (x0,((0:Int),(([]:List eF),()))))=true then
 letB (kP.fn3 (x0,((0:Int),(([]:List eF),())))) fun v1=>
 some ((),(v1.2.1,(v1.1,())))
 else
 none
theorem ok3(x1:List Int)(x2:Int)(x3:List eF)(hp:pre3 (x1,(x2,(x3,())))=true):Rounds pre3 mu3 fn3 (x1,(x2,(x3,()))) (pK x1 x2 x3):=by
 obtain⟨hb,hs,h0,h1,h2⟩:=aDH hp
 unfold pK
 simp only[letB]
 rw[if_pos (show gH.pre _ _=true from Zd (Int.le_refl _)),aIe x2 hb (by omega)]
 by_cases h:(bG x1 x2).2.2=true
 . rw[if_neg (by simp[h]),if_pos (by simp only[Za,lV,Zg,Zh];omega)]
   exact aNl hp h
 . rw[if_pos (by simp[h])]
   exact aNs h
theorem eq(x0:List Int)(hw:wf x0)(hp:pre x0=true):aR x0=some ((),((kP x0).1,((kP x0).2,()))):=by
 have hb:bR x0=true:=gL hw.1.2
 unfold aR
 rw[if_pos (show pre3 _=true from aHs hb hp)]
 rfl
end kP
theorem aFP:(xs:List Int)->bJ oI xs=xs.length
 |[]=>rfl
 |a::r=>by simp only[bJ,oI,aFP r,Zg];omega
theorem aIM{xs:List Int}(h:xs.length<=16777216):eP.pre xs=true:=by
 refine aIj ?_
 have hz:aI3 aIS xs=0:=aFC (fun _=>rfl) xs
 simp only[wL];omega
def dQ(x:aW):Bool:=aB x.1 1 4&&(aB x.2.1 1 5&&(aB x.2.2.1 1 8&&aB x.2.2.2.1 0 60))
abbrev iC:=dQ
abbrev iE:=dQ
namespace iC
abbrev wf(x0:aW):Prop:=fV [(.val wI .f)] (x0,())
noncomputable def aR(x0:aW):Option lA:=
 if(aB x0.1 (1:Int) (4:Int))=true then
 if(aB x0.2.1 (1:Int) (5:Int))=true then
 if(aB x0.2.2.1 (1:Int) (8:Int))=true then
 some ((),((aB x0.2.2.2.1 (0:Int) (60:Int)),()))
 else
 some ((),(false,()))
 else
 some ((),(false,()))
 else
 some ((),(false,()))
theorem eq(x0:aW)(_:wf x0):aR x0=some ((),(iC x0,())):=by
 unfold aR iC dQ
 cases aB x0.1 1 4<;>cases aB x0.2.1 1 5<;>cases aB x0.2.2.1 1 8<;>simp
end iC
namespace iE
abbrev wf(x0:aW):Prop:=fV [(.val wI .f)] (x0,())
noncomputable def aR(x0:aW):Option lA:=
 if(aB x0.1 (1:Int) (4:Int))=true then
 if(aB x0.2.1 (1:Int) (5:Int))=true then
 if(aB x0.2.2.1 (1:Int) (8:Int))=true then
 some ((),((aB x0.2.2.2.1 (0:Int) (60:Int)),()))
 else
 some ((),(false,()))
 else
 some ((),(false,()))
 else
 some ((),(false,()))
theorem eq(x0:aW)(_:wf x0):aR x0=some ((),(iE x0,())):=by
 unfold aR iE dQ
 cases aB x0.1 1 4<;>cases aB x0.2.1 1 5<;>cases aB x0.2.2.1 1 8<;>simp
end iE
def mC(x:aW):aW:=x
namespace mC
abbrev wf(x0:aW):Prop:=fV [(.val wI .f)] (x0,())
noncomputable def aR(x0:aW):Option (Unit×(aW×Unit)):=
 some ((),(x0,()))
theorem eq(x0:aW)(_:wf x0):aR x0=some ((),(mC x0,())):=rfl
end mC
def pQ(n:Int):aJ:=if aB n 1 4=true then(0,([],([],(List.replicate n.toNat 0,())))) else(0,([],([],([],()))))
abbrev jK:=pQ
abbrev jL:=pQ
namespace jK
def pre(_:Int):Bool:=true
abbrev wf(x0:Int):Prop:=fV [(.val (.int .i64) .f)] (x0,())
noncomputable def aR(x0:Int):Option (Unit×aAx):=
 letB (aB x0 (1:Int) (4:Int)) fun v1=>
 if(!v1)=true then
 some ((),(vB,()))
 else
 if(decide ((0:Int)<=x0))=true then
 if(decide (x0<=x0))=true then
 if(decide (x0<=(4294967296:Int)))=true then
 some ((),(((0:Int),(([]:List Int),(([]:List Int),((List.replicate (Int.toNat x0) (0:Int)),())))),()))
 else
 none
 else
 none
 else
 none
theorem eq(x0:Int)(_:wf x0)(_:pre x0=true):aR x0=some ((),(jK x0,())):=by
 unfold aR jK pQ
 simp only[letB]
 by_cases h:aB x0 1 4=true
 . have:=tR h
   rw[if_neg (by simp[h]),if_pos (by simp only[Za];omega),if_pos (by simp),if_pos (by simp only[Za];omega),if_pos h]
 . rw[if_pos (by simp[h]),if_neg h]
end jK
namespace jL
def pre(_:Int):Bool:=true
abbrev wf(x0:Int):Prop:=fV [(.val (.int .i64) .f)] (x0,())
noncomputable def aR(x0:Int):Option (Unit×aAx):=
 letB (aB x0 (1:Int) (4:Int)) fun v1=>
 if(!v1)=true then
 some ((),(vB,()))
 else
 if(decide ((0:Int)<=x0))=true then
 if(decide (x0<=x0))=true then
 if(decide (x0<=(4294967296:Int)))=true then
 some ((),(((0:Int),(([]:List Int),(([]:List Int),((List.replicate (Int.toNat x0) (0:Int)),())))),()))
 else
 none
 else
 none
 else
 none
theorem eq(x0:Int)(_:wf x0)(_:pre x0=true):aR x0=some ((),(jL x0,())):=by
 unfold aR jL pQ
 simp only[letB]
 by_cases h:aB x0 1 4=true
 . have:=tR h
   rw[if_neg (by simp[h]),if_pos (by simp only[Za];omega),if_pos (by simp),if_pos (by simp only[Za];omega),if_pos h]
 . rw[if_pos (by simp[h]),if_neg h]
end jL
def mD:bI:=([],([],([],(0,([],([],()))))))
def aGn(n:Int):bI:=(List.replicate n.toNat (0,(0,([],()))),([],(List.replicate 2 (pQ n),(0,(List.replicate 4 0,(List.replicate 4 (0,(0,([],([],())))),()))))))
def uC(x:aW):bI:=if dQ x=true then aGn x.1 else mD
abbrev iR:=uC
abbrev iU:=uC
abbrev KnT:=Int×(Unit×((List cL)×((List aK)×((List aJ)×((List Int)×((List aM)×aDl))))))
abbrev KnS:=Int×(aW×KnT)
def aAu:KnS->Bool:=fun s=>decide (0<=s.1)&&decide (s.2.2.2.2.2.2.2.2.2.2.2.2.2.1.length<=s.1.toNat)
def aKJ:KnS->KnT:=fun(i,x,x3,x4,x5,x6,x7,x8,x9,x10,x11,x12,x13,x14,x15,x16,_)=>
 (x3,(x4,(x5,(x6,(x7,(x8,(x9,(x10,(x11,(x12,(x13,(x14++List.replicate (2-i).toNat (pQ x.1),(x15,(x16,()))))))))))))))
def aM3:KnS->Nat:=fun s=>(2-s.1).toNat
theorem aNk{x1:Int}{x2:aW}{x3:Int}{x4:Unit}{x5:List cL}{x6:List aK}{x7:List aJ}{x8:List Int}{x9:List aM}{x10:Int}{x11:Unit}{x12:List cL}{x13:List aK}{x14:List aJ}{x15:List Int}{x16:List aM}
 (hp:aAu (x1,(x2,(x3,(x4,(x5,(x6,(x7,(x8,(x9,(x10,(x11,(x12,(x13,(x14,(x15,(x16,()))))))))))))))))=true) (hlt:x1<2):
 Rounds aAu aM3 aKJ (x1,(x2,(x3,(x4,(x5,(x6,(x7,(x8,(x9,(x10,(x11,(x12,(x13,(x14,(x15,(x16,()))))))))))))))))
  (some (.inl ((wrap .i64 (x1+1)),(x2,(x3,(x4,(x5,(x6,(x7,(x8,(x9,(x10,(x11,(x12,(x13,((List.append x14 [pQ x2.1]),(x15,(x16,())))))))))))))))))):=by
 simp only[aAu,Zb,Za] at hp
 rw[iX (n:=x1+1) (by omega) (by omega)]
 simp only[Rounds]
 refine⟨?_,by simp only[aM3];omega,?_⟩
 . simp only[aAu,Zb,Za,List.append_eq,Zf,Zg,Zh];omega
 . simp only[aKJ,List.append_eq]
   rw[show(2-x1).toNat=(2-(x1+1)).toNat+1 by omega,List.replicate_succ,Zk];rfl
theorem aLF{x1:Int}{x2:aW}{x3:Int}{x4:Unit}{x5:List cL}{x6:List aK}{x7:List aJ}{x8:List Int}{x9:List aM}{x10:Int}{x11:Unit}{x12:List cL}{x13:List aK}{x14:List aJ}{x15:List Int}{x16:List aM}(hlt:¬x1<2):
 Rounds aAu aM3 aKJ (x1,(x2,(x3,(x4,(x5,(x6,(x7,(x8,(x9,(x10,(x11,(x12,(x13,(x14,(x15,(x16,()))))))))))))))))
  (some (.inr (x3,(x4,(x5,(x6,(x7,(x8,(x9,(x10,(x11,(x12,(x13,(x14,(x15,(x16,())))))))))))))))):=by
 simp only[Rounds,aKJ]
 rw[show(2-x1).toNat=0 by omega,List.replicate_zero,List.append_nil]
namespace iR
def pre(_:aW):Bool:=true
def pre5:=aAu
def fn5:=aKJ
def mu5:=aM3
noncomputable def tS(x1:Int)(x2:aW)(x3:Int)(x4:Unit)(x5:(List cL))(x6:(List aK))(x7:(List aJ))(x8:(List Int))(x9:(List aM))(x10:Int)(x11:Unit)(x12:(List cL))(x13:(List aK))(x14:(List aJ))(x15:(List Int))(x16:(List aM)):Option ((Int×(aW×zt3))⊕zt3):=
 if(decide (x1<(2:Int)))=true then
 if(jK.pre x2.1)=true then
 letB (pQ x2.1) fun v1=>
 if(decide (length x14+length (v1::([]:List aJ))<=lV))=true then
 some (.inl ((wrap .i64 (x1+(1:Int))),(x2,(x3,(x4,(x5,(x6,(x7,(x8,(x9,(x10,(x11,(x12,(x13,((List.append x14 (v1::([]:List aJ))),(x15,(x16,())))))))))))))))))
 else
 none
 else
 none
 else
 some (.inr (x3,(x4,(x5,(x6,(x7,(x8,(x9,(x10,(x11,(x12,(x13,(x14,(x15,(x16,())))))))))))))))
abbrev wf(x0:aW):Prop:=fV [(.val wI .f)] (x0,())
noncomputable def aR(x0:aW):Option (Unit×(bI×Unit)):=
 letB (dQ x0) fun v1=>
 if(!v1)=true then
 some ((),(aCs,()))
 else
 if(decide ((0:Int)<=x0.1))=true then
 if(decide (x0.1<=x0.1))=true then
 if(decide (x0.1<=(4294967296:Int)))=true then
 if(decide ((0:Int)<=(4:Int)))=true then
 if(decide ((4:Int)<=(4:Int)))=true then
 if(decide ((4:Int)<=(4294967296:Int)))=true then
 if(decide ((0:Int)<=(4:Int)))=true then
 if(decide ((4:Int)<=(4:Int)))=true then
 if(decide ((4:Int)<=(4294967296:Int)))=true then
 if(iR.pre5 ((0:Int),(x0,((0:Int),((),(([]:List cL),(([]:List aK),(([]:List aJ),(([]:List Int),(([]:List aM),((0:Int),((),((List.replicate (Int.toNat x0.1) oS),(([]:List aK),(([]:List aJ),((List.replicate (Int.toNat (4:Int)) (0:Int)),((List.replicate (Int.toNat (4:Int)) sI),())))))))))))))))))=true then
 letB (iR.fn5 ((0:Int),(x0,((0:Int),((),(([]:List cL),(([]:List aK),(([]:List aJ),(([]:List Int),(([]:List aM),((0:Int),((),((List.replicate (Int.toNat x0.1) oS),(([]:List aK),(([]:List aJ),((List.replicate (Int.toNat (4:Int)) (0:Int)),((List.replicate (Int.toNat (4:Int)) sI),()))))))))))))))))) fun v2=>
 some ((),((v2.2.2.2.2.2.2.2.2.2.1,(v2.2.2.2.2.2.2.2.2.2.2.1,(v2.2.2.2.2.2.2.2.2.2.2.2.1,(v2.2.2.2.2.2.2.2.1,(v2.2.2.2.2.2.2.2.2.2.2.2.2.1,(v2.2.2.2.2.2.2.2.2.2.2.2.2.2.1,v2.2.2.2.2.2.2.2.2.1)))))),()))
 else
 none
 else
 none
 else
 none
 else
 none
 else
 none
 else
 none
 else
 none
 else
 none
 else
 none
 else
 none
theorem ok5(x1:Int)(x2:aW)(x3:Int)(x4:Unit)(x5:List cL)(x6:List aK)(x7:List aJ)(x8:List Int)(x9:List aM)(x10:Int)(x11:Unit)(x12:List cL)(x13:List aK)(x14:List aJ)(x15:List Int)(x16:List aM)
 (hp:pre5 (x1,(x2,(x3,(x4,(x5,(x6,(x7,(x8,(x9,(x10,(x11,(x12,(x13,(x14,(x15,(x16,()))))))))))))))))=true):
 Rounds pre5 mu5 fn5 (x1,(x2,(x3,(x4,(x5,(x6,(x7,(x8,(x9,(x10,(x11,(x12,(x13,(x14,(x15,(x16,())))))))))))))))) (tS x1 x2 x3 x4 x5 x6 x7 x8 x9 x10 x11 x12 x13 x14 x15 x16):=by
 unfold tS
 simp only[letB]
 by_cases hlt:x1<2
 . have hp2:=hp
   simp only[pre5,aAu,Zb,Za] at hp2
   rw[if_pos (by simp[hlt]),if_pos (show jK.pre _=true from rfl),if_pos (by simp only[Za,lV,Zg,Zh];omega)]
   exact aNk hp hlt
 . rw[if_neg (by simp[hlt])]
   exact aLF hlt
theorem eq(x0:aW)(_:wf x0)(_:pre x0=true):aR x0=some ((),(iR x0,())):=by
 unfold aR iR uC
 simp only[letB]
 by_cases h:dQ x0=true
 case neg=>rw[if_pos (by simp[h]),if_neg h];rfl
 have hs:=h
 simp only[dQ,Zb] at hs
 have:=tR hs.1
 rw[if_neg (by simp[h]),if_pos (by simp only[Za];omega),if_pos (by simp),if_pos (by simp only[Za];omega),if_pos (by decide),if_pos (by decide),if_pos (by decide),if_pos (by decide),if_pos (by decide),if_pos (by decide),
  if_pos (show pre5 _=true by simp[pre5,aAu]),if_pos h]
 rfl
end iR
namespace iU
def pre(_:aW):Bool:=true
def pre5:=aAu
def fn5:=aKJ
def mu5:=aM3
noncomputable def tS(x1:Int)(x2:aW)(x3:Int)(x4:Unit)(x5:(List cL))(x6:(List aK))(x7:(List aJ))(x8:(List Int))(x9:(List aM))(x10:Int)(x11:Unit)(x12:(List cL))(x13:(List aK))(x14:(List aJ))(x15:(List Int))(x16:(List aM)):Option ((Int×(aW×zt3))⊕zt3):=
 if(decide (x1<(2:Int)))=true then
 if(jL.pre x2.1)=true then
 letB (pQ x2.1) fun v1=>
 if(decide (length x14+length (v1::([]:List aJ))<=lV))=true then
 some (.inl ((wrap .i64 (x1+(1:Int))),(x2,(x3,(x4,(x5,(x6,(x7,(x8,(x9,(x10,(x11,(x12,(x13,((List.append x14 (v1::([]:List aJ))),(x15,(x16,())))))))))))))))))
 else
 none
 else
 none
 else
 some (.inr (x3,(x4,(x5,(x6,(x7,(x8,(x9,(x10,(x11,(x12,(x13,(x14,(x15,(x16,())))))))))))))))
abbrev wf(x0:aW):Prop:=fV [(.val wI .f)] (x0,())
noncomputable def aR(x0:aW):Option (Unit×(bI×Unit)):=
 letB (dQ x0) fun v1=>
 if(!v1)=true then
 some ((),(aCs,()))
 else
 if(decide ((0:Int)<=x0.1))=true then
 if(decide (x0.1<=x0.1))=true then
 if(decide (x0.1<=(4294967296:Int)))=true then
 if(decide ((0:Int)<=(4:Int)))=true then
 if(decide ((4:Int)<=(4:Int)))=true then
 if(decide ((4:Int)<=(4294967296:Int)))=true then
 if(decide ((0:Int)<=(4:Int)))=true then
 if(decide ((4:Int)<=(4:Int)))=true then
 if(decide ((4:Int)<=(4294967296:Int)))=true then
 if(iU.pre5 ((0:Int),(x0,((0:Int),((),(([]:List cL),(([]:List aK),(([]:List aJ),(([]:List Int),(([]:List aM),((0:Int),((),((List.replicate (Int.toNat x0.1) oS),(([]:List aK),(([]:List aJ),((List.replicate (Int.toNat (4:Int)) (0:Int)),((List.replicate (Int.toNat (4:Int)) sI),())))))))))))))))))=true then
 letB (iU.fn5 ((0:Int),(x0,((0:Int),((),(([]:List cL),(([]:List aK),(([]:List aJ),(([]:List Int),(([]:List aM),((0:Int),((),((List.replicate (Int.toNat x0.1) oS),(([]:List aK),(([]:List aJ),((List.replicate (Int.toNat (4:Int)) (0:Int)),((List.replicate (Int.toNat (4:Int)) sI),()))))))))))))))))) fun v2=>
 some ((),((v2.2.2.2.2.2.2.2.2.2.1,(v2.2.2.2.2.2.2.2.2.2.2.1,(v2.2.2.2.2.2.2.2.2.2.2.2.1,(v2.2.2.2.2.2.2.2.1,(v2.2.2.2.2.2.2.2.2.2.2.2.2.1,(v2.2.2.2.2.2.2.2.2.2.2.2.2.2.1,v2.2.2.2.2.2.2.2.2.1)))))),()))
 else
 none
 else
 none
 else
 none
 else
 none
 else
 none
 else
 none
 else
 none
 else
 none
 else
 none
 else
 none
theorem ok5(x1:Int)(x2:aW)(x3:Int)(x4:Unit)(x5:List cL)(x6:List aK)(x7:List aJ)(x8:List Int)(x9:List aM)(x10:Int)(x11:Unit)(x12:List cL)(x13:List aK)(x14:List aJ)(x15:List Int)(x16:List aM)
 (hp:pre5 (x1,(x2,(x3,(x4,(x5,(x6,(x7,(x8,(x9,(x10,(x11,(x12,(x13,(x14,(x15,(x16,()))))))))))))))))=true):
 Rounds pre5 mu5 fn5 (x1,(x2,(x3,(x4,(x5,(x6,(x7,(x8,(x9,(x10,(x11,(x12,(x13,(x14,(x15,(x16,())))))))))))))))) (tS x1 x2 x3 x4 x5 x6 x7 x8 x9 x10 x11 x12 x13 x14 x15 x16):=by
 unfold tS
 simp only[letB]
 by_cases hlt:x1<2
 . have hp2:=hp
   simp only[pre5,aAu,Zb,Za] at hp2
   rw[if_pos (by simp[hlt]),if_pos (show jL.pre _=true from rfl),if_pos (by simp only[Za,lV,Zg,Zh];omega)]
   exact aNk hp hlt
 . rw[if_neg (by simp[hlt])]
   exact aLF hlt
theorem eq(x0:aW)(_:wf x0)(_:pre x0=true):aR x0=some ((),(iU x0,())):=by
 unfold aR iU uC
 simp only[letB]
 by_cases h:dQ x0=true
 case neg=>rw[if_pos (by simp[h]),if_neg h];rfl
 have hs:=h
 simp only[dQ,Zb] at hs
 have:=tR hs.1
 rw[if_neg (by simp[h]),if_pos (by simp only[Za];omega),if_pos (by simp),if_pos (by simp only[Za];omega),if_pos (by decide),if_pos (by decide),if_pos (by decide),if_pos (by decide),if_pos (by decide),if_pos (by decide),
  if_pos (show pre5 _=true by simp[pre5,aAu]),if_pos h]
 rfl
end iU
def pZ(x:aW):jV:=if dQ x=true then(0,(-1,((0,(0,([],()))),(uC x,())))) else(0,(0,((0,(0,([],()))),(mD,()))))
abbrev kI:=pZ
abbrev kH:=pZ
namespace kI
def pre(_:aW):Bool:=true
abbrev wf(x0:aW):Prop:=fV [(.val wI .f)] (x0,())
noncomputable def aR(x0:aW):Option (Unit×(rL×Unit)):=
 letB (dQ x0) fun v1=>
 if(!v1)=true then
 some ((),(((0:Int),((0:Int),(aJj,(aCs,())))),()))
 else
 if(iR.pre x0)=true then
 letB (uC x0) fun v2=>
 some ((),(((0:Int),((-1:Int),(aJj,(v2,())))),()))
 else
 none
theorem eq(x0:aW)(_:wf x0)(_:pre x0=true):aR x0=some ((),(kI x0,())):=by
 unfold aR kI pZ
 simp only[letB]
 by_cases h:dQ x0=true
 . rw[if_neg (by simp[h]),if_pos (show iR.pre _=true from rfl),if_pos h]
 . rw[if_pos (by simp[h]),if_neg h];rfl
end kI
namespace kH
def pre(_:aW):Bool:=true
abbrev wf(x0:aW):Prop:=fV [(.val wI .f)] (x0,())
noncomputable def aR(x0:aW):Option (Unit×(rL×Unit)):=
 letB (dQ x0) fun v1=>
 if(!v1)=true then
 some ((),(((0:Int),((0:Int),(aJj,(aCs,())))),()))
 else
 if(iU.pre x0)=true then
 letB (uC x0) fun v2=>
 some ((),(((0:Int),((-1:Int),(aJj,(v2,())))),()))
 else
 none
theorem eq(x0:aW)(_:wf x0)(_:pre x0=true):aR x0=some ((),(kH x0,())):=by
 unfold aR kH pZ
 simp only[letB]
 by_cases h:dQ x0=true
 . rw[if_neg (by simp[h]),if_pos (show iU.pre _=true from rfl),if_pos h]
 . rw[if_pos (by simp[h]),if_neg h];rfl
end kH
theorem aDJ{α:Type}(g:α->Int)(a:α):(n:Nat)->bJ g (List.replicate n a)=n*g a
 |0=>by simp[bJ]
 |n+1=>by
  rw[List.replicate_succ,bJ,aDJ g a n]
  push_cast
  rw[Int.add_mul];omega
theorem aGC(n:Int):bZ (pQ n)<=5:=by
 unfold pQ
 split
 . rename_i h
   have:=tR h
   simp only[bZ,aDJ,bP,bJ];omega
 . simp only[bZ,bJ];omega
theorem aI8(x:aW):fW (pZ x)<=1000:=by
 unfold pZ
 split
 . rename_i h
   unfold uC
   rw[if_pos h]
   simp only[dQ,Zb] at h
   have:=tR h.1
   have hg:=aGC x.1
   simp only[fW,iV,fU,aGn,aDJ,bJ,cK,bP,dK]
   omega
 . simp[fW,iV,fU,mD,bJ]
section
variable {S O:Type} {pre:S->Bool} {mu:S->Nat} {fn:S->O} {s:S}
theorem fN{c:Prop}[Decidable c]{A B:Option (S⊕O)}(h:c)(r:Rounds pre mu fn s A):Rounds pre mu fn s (if c then A else B):=by rw[if_pos h];exact r
theorem jC{c:Prop}[Decidable c]{A B:Option (S⊕O)}(h:¬c)(r:Rounds pre mu fn s B):Rounds pre mu fn s (if c then A else B):=by rw[if_neg h];exact r
theorem lO{α:Type}{a:α}{f:α->Option (S⊕O)}(r:Rounds pre mu fn s (f a)):Rounds pre mu fn s (letB a f):=r
end
section
variable {α β:Type}
theorem dT{c:Prop}[Decidable c]{A B:Option α}{v:Option α}(h:c)(r:A=v):(if c then A else B)=v:=by rw[if_pos h];exact r
theorem mH{c:Prop}[Decidable c]{A B:Option α}{v:Option α}(h:¬c)(r:B=v):(if c then A else B)=v:=by rw[if_neg h];exact r
theorem cV{a:β}{f:β->Option α}{v:Option α}(r:f a=v):letB a f=v:=r
def tJ(q:α->Bool)(xs:List α)(n i:Int)(out:List α):Bool:=dJ xs&&(xs.all q&&(decide (n=(xs.length:Int))&&(decide (0<=i)&&(decide (i<=(xs.length:Int))&&decide ((out.length:Int)<=i)))))
theorem aAZ{q:α->Bool}{xs:List α}{n i:Int}{out:List α}:tJ q xs n i out=true↔xs.length<=16777216/\xs.all q=true/\n=(xs.length:Int)/\0<=i/\i<=(xs.length:Int)/\(out.length:Int)<=i:=by
 simp only[tJ,Zb,Za,cC]
theorem aAW{q:α->Bool}{xs:List α}{n i:Int}{out:List α}(d:α)(hp:tJ q xs n i out=true)(hlt:i<n):
 q (xs.getD i.toNat d)=true/\0<=i/\i<(xs.length:Int)/\out.length+length (xs.getD i.toNat d::([]:List α))<=lV/\wrap .i64 (i+1)=i+1/\
  tJ q xs n (i+1) (out++[xs.getD i.toNat d])=true/\(out++[xs.getD i.toNat d])++xs.drop (i+1).toNat=out++xs.drop i.toNat/\xs.length-(i+1).toNat<xs.length-i.toNat:=by
 obtain⟨h1,h2,h3,h4,h5,h6⟩:=aAZ.1 hp
 have hn:i.toNat<xs.length:=by omega
 have e1:=Zn hn
 rw[eZ hn]
 refine⟨Zu.1 h2 _ (List.getElem_mem _),h4,by omega,by simp only[Zg,Zh,lV];omega,iX (by omega) (by omega),?_,?_,by omega⟩
 . rw[aAZ]
   exact⟨h1,h2,h3,by omega,by omega,by simp only[Zf,Zg,Zh];omega⟩
 . rw[show(i+1).toNat=i.toNat+1 by omega,e1,Zk];rfl
theorem aCF{q:α->Bool}{xs:List α}{n i:Int}{out:List α}(hp:tJ q xs n i out=true)(hlt:¬i<n):out++xs.drop i.toNat=out:=by
 obtain⟨h1,h2,h3,h4,h5,h6⟩:=aAZ.1 hp
 rw[Zt (by omega),List.append_nil]
theorem yZ{q:α->Bool}{xs:List α}(h:dJ xs=true)(ha:xs.all q=true):tJ q xs ((length xs:Nat):Int) 0 []=true:=by
 rw[aAZ];rw[cC] at h
 exact⟨h,ha,rfl,by omega,by omega,by simp⟩
theorem tN{xs:List α}(h:dJ xs=true):([]:List β).length+xs.length<=lV:=by
 rw[cC] at h;simp only[Zh,lV];omega
end
def aN(x:iQ):iQ:=x
namespace aN
def pre(x:iQ):Bool:=dJ x.2.2.1
abbrev wf(x0:iQ):Prop:=fV [(.val aAj .f)] (x0,())
noncomputable def aR(x0:iQ):Option (Unit×(iQ×Unit)):=
 if(decide (length ([]:List aL)+length x0.2.2.1<=lV))=true then
 some ((),((x0.1,(x0.2.1,((List.append ([]:List aL) x0.2.2.1),x0.2.2.2))),()))
 else
 none
theorem eq(x0:iQ)(_:wf x0)(hp:pre x0=true):aR x0=some ((),(aN x0,())):=by
 unfold aR
 have hp:dJ x0.2.2.1=true:=hp
 refine dT (Zd (tN hp)) ?_
 rfl
end aN
def aU(x:iQ):iQ:=x
namespace aU
def pre(x:iQ):Bool:=dJ x.2.2.1
abbrev wf(x0:iQ):Prop:=fV [(.val aAj .f)] (x0,())
noncomputable def aR(x0:iQ):Option (Unit×(iQ×Unit)):=
 if(decide (length ([]:List aL)+length x0.2.2.1<=lV))=true then
 some ((),((x0.1,(x0.2.1,((List.append ([]:List aL) x0.2.2.1),()))),()))
 else
 none
theorem eq(x0:iQ)(_:wf x0)(hp:pre x0=true):aR x0=some ((),(aU x0,())):=by
 unfold aR
 have hp:dJ x0.2.2.1=true:=hp
 refine dT (Zd (tN hp)) ?_
 rfl
end aU
def iZ(x:cL):cL:=x
namespace iZ
def pre(x:cL):Bool:=dJ x.2.2.1
abbrev wf(x0:cL):Prop:=fV [(.val aAi .f)] (x0,())
noncomputable def aR(x0:cL):Option (Unit×(cL×Unit)):=
 if(decide (length ([]:List eS)+length x0.2.2.1<=lV))=true then
 some ((),((x0.1,(x0.2.1,((List.append ([]:List eS) x0.2.2.1),x0.2.2.2))),()))
 else
 none
theorem eq(x0:cL)(_:wf x0)(hp:pre x0=true):aR x0=some ((),(iZ x0,())):=by
 unfold aR
 have hp:dJ x0.2.2.1=true:=hp
 refine dT (Zd (tN hp)) ?_
 rfl
end iZ
def kC(x:cL):cL:=x
namespace kC
def pre(x:cL):Bool:=dJ x.2.2.1
abbrev wf(x0:cL):Prop:=fV [(.val aAi .f)] (x0,())
noncomputable def aR(x0:cL):Option (Unit×(cL×Unit)):=
 if(decide (length ([]:List eS)+length x0.2.2.1<=lV))=true then
 some ((),((x0.1,(x0.2.1,((List.append ([]:List eS) x0.2.2.1),()))),()))
 else
 none
theorem eq(x0:cL)(_:wf x0)(hp:pre x0=true):aR x0=some ((),(kC x0,())):=by
 unfold aR
 have hp:dJ x0.2.2.1=true:=hp
 refine dT (Zd (tN hp)) ?_
 rfl
end kC
def fS(x:aK):aK:=x
namespace fS
def pre(x:aK):Bool:=dJ x.2.2.2.2.1
abbrev wf(x0:aK):Prop:=fV [(.val aBA .f)] (x0,())
noncomputable def aR(x0:aK):Option (Unit×(aK×Unit)):=
 if(decide (length ([]:List eQ)+length x0.2.2.2.2.1<=lV))=true then
 some ((),((x0.1,(x0.2.1,(x0.2.2.1,(x0.2.2.2.1,((List.append ([]:List eQ) x0.2.2.2.2.1),x0.2.2.2.2.2))))),()))
 else
 none
theorem eq(x0:aK)(_:wf x0)(hp:pre x0=true):aR x0=some ((),(fS x0,())):=by
 unfold aR
 have hp:dJ x0.2.2.2.2.1=true:=hp
 refine dT (Zd (tN hp)) ?_
 rfl
end fS
def jY(x:aK):aK:=x
namespace jY
def pre(x:aK):Bool:=dJ x.2.2.2.2.1
abbrev wf(x0:aK):Prop:=fV [(.val aBA .f)] (x0,())
noncomputable def aR(x0:aK):Option (Unit×(aK×Unit)):=
 if(decide (length ([]:List eQ)+length x0.2.2.2.2.1<=lV))=true then
 some ((),((x0.1,(x0.2.1,(x0.2.2.1,(x0.2.2.2.1,((List.append ([]:List eQ) x0.2.2.2.2.1),x0.2.2.2.2.2))))),()))
 else
 none
theorem eq(x0:aK)(_:wf x0)(hp:pre x0=true):aR x0=some ((),(jY x0,())):=by
 unfold aR
 have hp:dJ x0.2.2.2.2.1=true:=hp
 refine dT (Zd (tN hp)) ?_
 rfl
end jY
def eE(x:List Int):List Int:=x
namespace eE
def pre(x:List Int):Bool:=dJ x
abbrev wf(x0:(List Int)):Prop:=fV [(.val (.sl 0 (.int .i64)) .f)] (x0,())
noncomputable def aR(x0:(List Int)):Option (Unit×tH):=
 if(decide (length ([]:List Int)+length x0<=lV))=true then
 some ((),((List.append ([]:List Int) x0),()))
 else
 none
theorem eq(x0:List Int)(_:wf x0)(hp:pre x0=true):aR x0=some ((),(eE x0,())):=by
 unfold aR
 refine dT (Zd (tN hp)) ?_
 rfl
end eE
def oW(x:aJ):Bool:=dJ x.2.1&&(dJ x.2.2.1&&dJ x.2.2.2.1)
def gJ(x:aJ):aJ:=x
namespace gJ
def pre(x:aJ):Bool:=oW x
abbrev wf(x0:aJ):Prop:=fV [(.val aAk .f)] (x0,())
noncomputable def aR(x0:aJ):Option (Unit×aAx):=
 if(eE.pre x0.2.1)=true then
 if(eE.pre x0.2.2.1)=true then
 if(eE.pre x0.2.2.2.1)=true then
 letB (eE x0.2.1) fun v1=>
 letB (eE x0.2.2.1) fun v2=>
 letB (eE x0.2.2.2.1) fun v3=>
 some ((),((x0.1,(v1,(v2,(v3,x0.2.2.2.2)))),()))
 else
 none
 else
 none
 else
 none
theorem eq(x0:aJ)(_:wf x0)(hp:pre x0=true):aR x0=some ((),(gJ x0,())):=by
 simp only[pre,oW,Zb] at hp
 unfold aR
 refine dT hp.1 (dT hp.2.1 (dT hp.2.2 ?_))
 rfl
end gJ
def jX(x:aJ):aJ:=x
namespace jX
def pre(x:aJ):Bool:=oW x
abbrev wf(x0:aJ):Prop:=fV [(.val aAk .f)] (x0,())
noncomputable def aR(x0:aJ):Option (Unit×aAx):=
 if(decide (length ([]:List Int)+length x0.2.1<=lV))=true then
 if(decide (length ([]:List Int)+length x0.2.2.1<=lV))=true then
 if(decide (length ([]:List Int)+length x0.2.2.2.1<=lV))=true then
 some ((),((x0.1,((List.append ([]:List Int) x0.2.1),((List.append ([]:List Int) x0.2.2.1),((List.append ([]:List Int) x0.2.2.2.1),())))),()))
 else
 none
 else
 none
 else
 none
theorem eq(x0:aJ)(_:wf x0)(hp:pre x0=true):aR x0=some ((),(jX x0,())):=by
 simp only[pre,oW,Zb] at hp
 unfold aR
 refine dT (Zd (tN hp.1)) (dT (Zd (tN hp.2.1)) (dT (Zd (tN hp.2.2)) ?_))
 rfl
end jX
def fH(x:List aK):List aK:=x
namespace fH
abbrev S3:Type:=((List aK)×(Int×(Int×((List aK)×Unit))))
abbrev O3:Type:=((List aK)×Unit)
def pre(x:List aK):Bool:=dJ x&&x.all fS.pre
def pre3:S3->Bool:=fun(x1,x2,x3,x4,_)=>tJ fS.pre x1 x2 x3 x4
def fn3:S3->O3:=fun(x1,_,x3,x4,_)=>(x4++x1.drop x3.toNat,())
def mu3:S3->Nat:=fun(x1,_,x3,_,_)=>x1.length-x3.toNat
noncomputable def pK(x1:(List aK))(x2:Int)(x3:Int)(x4:(List aK)):Option (((List aK)×(Int×(Int×((List aK)×Unit))))⊕((List aK)×Unit)):=
 if(decide (x3<x2))=true then
 if(decide ((0:Int)<=x3))=true then
 if(decide (x3<((length x1:Nat):Int)))=true then
 if(fS.pre (List.getD x1 (Int.toNat x3) rF))=true then
 letB (fS (List.getD x1 (Int.toNat x3) rF)) fun v1=>
 if(decide (length x4+length (v1::([]:List aK))<=lV))=true then
 some (.inl (x1,(x2,((wrap .i64 (x3+(1:Int))),((List.append x4 (v1::([]:List aK))),())))))
 else
 none
 else
 none
 else
 none
 else
 none
 else
 some (.inr (x4,()))
abbrev wf(x0:(List aK)):Prop:=fV [(.val (.sl 0 aBA) .f)] (x0,())
noncomputable def aR(x0:(List aK)):Option (Unit×((List aK)×Unit)):=
 if(fH.pre3 (x0,(((length x0:Nat):Int),((0:Int),(([]:List aK),())))))=true then
 letB (fH.fn3 (x0,(((length x0:Nat):Int),((0:Int),(([]:List aK),()))))) fun v1=>
 some ((),v1)
 else
 none
theorem ok3(x1 x2 x3 x4)(hp:pre3 (x1,(x2,(x3,(x4,()))))=true):Rounds pre3 mu3 fn3 (x1,(x2,(x3,(x4,())))) (pK x1 x2 x3 x4):=by
 have hp:tJ fS.pre x1 x2 x3 x4=true:=hp
 unfold pK
 by_cases hlt:x3<x2
 . obtain⟨hq,h0,h1,h2,h3,h4,h5,h6⟩:=aAW rF hp hlt
   rw[h3]
   refine fN (Zd hlt) ?_
   refine fN (Zd h0) ?_
   refine fN (Zd h1) ?_
   refine fN hq ?_
   refine lO ?_
   refine fN (Zd h2) ?_
   exact⟨h4,h6,congrArg (fun z:List aK=>((z,()):O3)) h5⟩
 . refine jC (by rw[Za];exact hlt) ?_
   show _=_
   exact congrArg (fun z:List aK=>((z,()):O3)) (aCF hp hlt).symm
theorem eq(x0:List aK)(_:wf x0)(hp:pre x0=true):aR x0=some ((),(fH x0,())):=by
 simp only[pre,Zb] at hp
 unfold aR
 exact dT (show pre3 _=true from yZ hp.1 hp.2) rfl
end fH
def fY(x:bI):bI:=x
namespace fY
abbrev S4:Type:=((List aJ)×((List cL)×(Int×(Int×aHE))))
abbrev O4:Type:=((List aJ)×aHE)
abbrev S9:Type:=((List aJ)×(Int×(Int×aHE)))
abbrev O9:Type:=aHE
def pre(x:bI):Bool:=dJ x.1&&(x.1.all iZ.pre&&(dJ x.2.1&&(x.2.1.all fS.pre&&(dJ x.2.2.1&&(x.2.2.1.all gJ.pre&&(dJ x.2.2.2.2.1&&dJ x.2.2.2.2.2.1))))))
def pre4:S4->Bool:=fun(_,x2,x3,x4,_,_,x7,_,_,_,_,_,_,_,_,_)=>tJ iZ.pre x2 x3 x4 x7
def fn4:S4->O4:=fun(x1,x2,_,x4,x5,x6,x7,x8,x9,x10,x11,x12,x13,x14,x15,_)=>(x1,(x5,(x6,(x7++x2.drop x4.toNat,(x8,(x9,(x10,(x11,(x12,(x13,(x14,(x15,()))))))))))))
def qD:S4->Nat:=fun(_,x2,_,x4,_,_,_,_,_,_,_,_,_,_,_,_)=>x2.length-x4.toNat
def pre9:S9->Bool:=fun(x1,x2,x3,_,_,_,x7,_,_,_,_,_,_,_,_)=>tJ gJ.pre x1 x2 x3 x7
def fn9:S9->O9:=fun(x1,_,x3,x4,x5,x6,x7,x8,x9,x10,x11,x12,x13,x14,_)=>(x4,(x5,(x6,(x7++x1.drop x3.toNat,(x8,(x9,(x10,(x11,(x12,(x13,(x14,())))))))))))
def mu9:S9->Nat:=fun(x1,_,x3,_,_,_,_,_,_,_,_,_,_,_,_)=>x1.length-x3.toNat
noncomputable def hJ(x1:(List aJ))(x2:(List cL))(x3:Int)(x4:Int)(x5:(List aK))(x6:(Int×((List Int)×((List aM)×Unit))))(x7:(List cL))(x8:(List aJ))(x9:Int)(x10:Unit)(x11:(List cL))(x12:(List aK))(x13:(List aJ))(x14:(List Int))(x15:(List aM)):Option (((List aJ)×((List cL)×(Int×(Int×aHE))))⊕((List aJ)×aHE)):=
 if(decide (x4<x3))=true then
 if(decide ((0:Int)<=x4))=true then
 if(decide (x4<((length x2:Nat):Int)))=true then
 if(iZ.pre (List.getD x2 (Int.toNat x4) oS))=true then
 letB (iZ (List.getD x2 (Int.toNat x4) oS)) fun v1=>
 if(decide (length x7+length (v1::([]:List cL))<=lV))=true then
 some (.inl (x1,(x2,(x3,((wrap .i64 (x4+(1:Int))),(x5,(x6,((List.append x7 (v1::([]:List cL))),(x8,(x9,(x10,(x11,(x12,(x13,(x14,(x15,()))))))))))))))))
 else
 none
 else
 none
 else
 none
 else
 none
 else
 some (.inr (x1,(x5,(x6,(x7,(x8,(x9,(x10,(x11,(x12,(x13,(x14,(x15,())))))))))))))
noncomputable def aEd(x1:(List aJ))(x2:Int)(x3:Int)(x4:(List aK))(x5:(Int×((List Int)×((List aM)×Unit))))(x6:(List cL))(x7:(List aJ))(x8:Int)(x9:Unit)(x10:(List cL))(x11:(List aK))(x12:(List aJ))(x13:(List Int))(x14:(List aM)):Option (((List aJ)×(Int×(Int×aHE)))⊕aHE):=
 if(decide (x3<x2))=true then
 if(decide ((0:Int)<=x3))=true then
 if(decide (x3<((length x1:Nat):Int)))=true then
 if(gJ.pre (List.getD x1 (Int.toNat x3) vB))=true then
 letB (gJ (List.getD x1 (Int.toNat x3) vB)) fun v1=>
 if(decide (length x7+length (v1::([]:List aJ))<=lV))=true then
 some (.inl (x1,(x2,((wrap .i64 (x3+(1:Int))),(x4,(x5,(x6,((List.append x7 (v1::([]:List aJ))),(x8,(x9,(x10,(x11,(x12,(x13,(x14,())))))))))))))))
 else
 none
 else
 none
 else
 none
 else
 none
 else
 some (.inr (x4,(x5,(x6,(x7,(x8,(x9,(x10,(x11,(x12,(x13,(x14,()))))))))))))
abbrev wf(x0:bI):Prop:=fV [(.val zk1 .f)] (x0,())
noncomputable def aR(x0:bI):Option (Unit×(bI×Unit)):=
 if(fY.pre4 (x0.2.2.1,(x0.1,(((length x0.1:Nat):Int),((0:Int),(x0.2.1,(x0.2.2.2,(([]:List cL),(([]:List aJ),aN5)))))))))=true then
 letB (fY.fn4 (x0.2.2.1,(x0.1,(((length x0.1:Nat):Int),((0:Int),(x0.2.1,(x0.2.2.2,(([]:List cL),(([]:List aJ),aN5))))))))) fun v1=>
 if(fY.pre9 (v1.1,(((length v1.1:Nat):Int),((0:Int),v1.2))))=true then
 letB (fY.fn9 (v1.1,(((length v1.1:Nat):Int),((0:Int),v1.2)))) fun v2=>
 if(fH.pre v2.1)=true then
 if(eE.pre v2.2.1.2.1)=true then
 if(decide (length ([]:List aM)+length v2.2.1.2.2.1<=lV))=true then
 letB (fH v2.1) fun v3=>
 letB (eE v2.2.1.2.1) fun v4=>
 some ((),((v2.2.2.1,(v3,(v2.2.2.2.1,(v2.2.1.1,(v4,((List.append ([]:List aM) v2.2.1.2.2.1),v2.2.1.2.2.2)))))),()))
 else
 none
 else
 none
 else
 none
 else
 none
 else
 none
theorem yT(x1 x2 x3 x4 x5 x6 x7 x8 x9 x10 x11 x12 x13 x14 x15)(hp:pre4 (x1,(x2,(x3,(x4,(x5,(x6,(x7,(x8,(x9,(x10,(x11,(x12,(x13,(x14,(x15,())))))))))))))))=true):Rounds pre4 qD fn4 (x1,(x2,(x3,(x4,(x5,(x6,(x7,(x8,(x9,(x10,(x11,(x12,(x13,(x14,(x15,()))))))))))))))) (hJ x1 x2 x3 x4 x5 x6 x7 x8 x9 x10 x11 x12 x13 x14 x15):=by
 have hp:tJ iZ.pre x2 x3 x4 x7=true:=hp
 unfold hJ
 by_cases hlt:x4<x3
 . obtain⟨hq,h0,h1,h2,h3,h4,h5,h6⟩:=aAW oS hp hlt
   rw[h3]
   refine fN (Zd hlt) ?_
   refine fN (Zd h0) ?_
   refine fN (Zd h1) ?_
   refine fN hq ?_
   refine lO ?_
   refine fN (Zd h2) ?_
   exact⟨h4,h6,congrArg (fun z:List cL=>((x1,(x5,(x6,(z,(x8,(x9,(x10,(x11,(x12,(x13,(x14,(x15,())))))))))))):O4)) h5⟩
 . refine jC (by rw[Za];exact hlt) ?_
   show _=_
   exact congrArg (fun z:List cL=>((x1,(x5,(x6,(z,(x8,(x9,(x10,(x11,(x12,(x13,(x14,(x15,())))))))))))):O4)) (aCF hp hlt).symm
theorem ok9(x1 x2 x3 x4 x5 x6 x7 x8 x9 x10 x11 x12 x13 x14)(hp:pre9 (x1,(x2,(x3,(x4,(x5,(x6,(x7,(x8,(x9,(x10,(x11,(x12,(x13,(x14,()))))))))))))))=true):Rounds pre9 mu9 fn9 (x1,(x2,(x3,(x4,(x5,(x6,(x7,(x8,(x9,(x10,(x11,(x12,(x13,(x14,())))))))))))))) (aEd x1 x2 x3 x4 x5 x6 x7 x8 x9 x10 x11 x12 x13 x14):=by
 have hp:tJ gJ.pre x1 x2 x3 x7=true:=hp
 unfold aEd
 by_cases hlt:x3<x2
 . obtain⟨hq,h0,h1,h2,h3,h4,h5,h6⟩:=aAW vB hp hlt
   rw[h3]
   refine fN (Zd hlt) ?_
   refine fN (Zd h0) ?_
   refine fN (Zd h1) ?_
   refine fN hq ?_
   refine lO ?_
   refine fN (Zd h2) ?_
   exact⟨h4,h6,congrArg (fun z:List aJ=>((x4,(x5,(x6,(z,(x8,(x9,(x10,(x11,(x12,(x13,(x14,()))))))))))):O9)) h5⟩
 . refine jC (by rw[Za];exact hlt) ?_
   show _=_
   exact congrArg (fun z:List aJ=>((x4,(x5,(x6,(z,(x8,(x9,(x10,(x11,(x12,(x13,(x14,()))))))))))):O9)) (aCF hp hlt).symm
theorem eq(x0:bI)(_:wf x0)(hp:pre x0=true):aR x0=some ((),(fY x0,())):=by
 simp only[pre,Zb] at hp
 obtain⟨a1,a2,a3,a4,a5,a6,a7,a8⟩:=hp
 unfold aR
 refine dT (show pre4 _=true from yZ a1 a2) (cV ?_)
 refine dT (show pre9 _=true from yZ a5 a6) (cV ?_)
 refine dT (show fH.pre x0.2.1=true by rw[fH.pre,a3,a4];rfl) ?_
 refine dT (show eE.pre x0.2.2.2.2.1=true from a7) ?_
 exact dT (Zd (tN a8)) rfl
end fY
def gU(x:bI):bI:=x
namespace gU
abbrev S3:Type:=(Int×(bI×zt3))
abbrev O3:Type:=(bI×zt3)
abbrev S7:Type:=(Int×(bI×zt3))
abbrev O7:Type:=(bI×zt3)
abbrev S11:Type:=(Int×(bI×zt3))
abbrev O11:Type:=zt3
def pre(x:bI):Bool:=dJ x.1&&(x.1.all kC.pre&&(dJ x.2.1&&(x.2.1.all jY.pre&&(dJ x.2.2.1&&(x.2.2.1.all jX.pre&&(dJ x.2.2.2.2.1&&dJ x.2.2.2.2.2.1))))))
def pre3:S3->Bool:=fun(x1,x2,_,_,_,_,_,_,_,_,_,x12,_,_,_,_,_)=>tJ kC.pre x2.1 ((length x2.1:Nat):Int) x1 x12
def fn3:S3->O3:=fun(x1,x2,x3,x4,x5,x6,x7,x8,x9,x10,x11,x12,x13,x14,x15,x16,_)=>(x2,(x3,(x4,(x5,(x6,(x7,(x8,(x9,(x10,(x11,(x12++x2.1.drop x1.toNat,(x13,(x14,(x15,(x16,())))))))))))))))
def mu3:S3->Nat:=fun(x1,x2,_,_,_,_,_,_,_,_,_,_,_,_,_,_,_)=>x2.1.length-x1.toNat
def pre7:S7->Bool:=fun(x1,x2,_,_,_,_,_,_,_,_,_,_,x13,_,_,_,_)=>tJ jY.pre x2.2.1 ((length x2.2.1:Nat):Int) x1 x13
def fn7:S7->O7:=fun(x1,x2,x3,x4,x5,x6,x7,x8,x9,x10,x11,x12,x13,x14,x15,x16,_)=>(x2,(x3,(x4,(x5,(x6,(x7,(x8,(x9,(x10,(x11,(x12,(x13++x2.2.1.drop x1.toNat,(x14,(x15,(x16,())))))))))))))))
def mu7:S7->Nat:=fun(x1,x2,_,_,_,_,_,_,_,_,_,_,_,_,_,_,_)=>x2.2.1.length-x1.toNat
def pre11:S11->Bool:=fun(x1,x2,_,_,_,_,_,_,_,_,_,_,_,x14,_,_,_)=>tJ jX.pre x2.2.2.1 ((length x2.2.2.1:Nat):Int) x1 x14
def fn11:S11->O11:=fun(x1,x2,x3,x4,x5,x6,x7,x8,x9,x10,x11,x12,x13,x14,x15,x16,_)=>(x3,(x4,(x5,(x6,(x7,(x8,(x9,(x10,(x11,(x12,(x13,(x14++x2.2.2.1.drop x1.toNat,(x15,(x16,()))))))))))))))
def aKp:S11->Nat:=fun(x1,x2,_,_,_,_,_,_,_,_,_,_,_,_,_,_,_)=>x2.2.2.1.length-x1.toNat
noncomputable def pK(x1:Int)(x2:bI)(x3:Int)(x4:Unit)(x5:(List cL))(x6:(List aK))(x7:(List aJ))(x8:(List Int))(x9:(List aM))(x10:Int)(x11:Unit)(x12:(List cL))(x13:(List aK))(x14:(List aJ))(x15:(List Int))(x16:(List aM)):Option ((Int×(bI×zt3))⊕(bI×zt3)):=
 if(decide (x1<((length x2.1:Nat):Int)))=true then
 if(decide ((0:Int)<=x1))=true then
 if(decide (x1<((length x2.1:Nat):Int)))=true then
 if(kC.pre (List.getD x2.1 (Int.toNat x1) oS))=true then
 letB (kC (List.getD x2.1 (Int.toNat x1) oS)) fun v1=>
 if(decide (length x12+length (v1::([]:List cL))<=lV))=true then
 some (.inl ((wrap .i64 (x1+(1:Int))),(x2,(x3,(x4,(x5,(x6,(x7,(x8,(x9,(x10,(x11,((List.append x12 (v1::([]:List cL))),(x13,(x14,(x15,(x16,())))))))))))))))))
 else
 none
 else
 none
 else
 none
 else
 none
 else
 some (.inr (x2,(x3,(x4,(x5,(x6,(x7,(x8,(x9,(x10,(x11,(x12,(x13,(x14,(x15,(x16,()))))))))))))))))
noncomputable def aEW(x1:Int)(x2:bI)(x3:Int)(x4:Unit)(x5:(List cL))(x6:(List aK))(x7:(List aJ))(x8:(List Int))(x9:(List aM))(x10:Int)(x11:Unit)(x12:(List cL))(x13:(List aK))(x14:(List aJ))(x15:(List Int))(x16:(List aM)):Option ((Int×(bI×zt3))⊕(bI×zt3)):=
 if(decide (x1<((length x2.2.1:Nat):Int)))=true then
 if(decide ((0:Int)<=x1))=true then
 if(decide (x1<((length x2.2.1:Nat):Int)))=true then
 if(jY.pre (List.getD x2.2.1 (Int.toNat x1) rF))=true then
 letB (jY (List.getD x2.2.1 (Int.toNat x1) rF)) fun v1=>
 if(decide (length x13+length (v1::([]:List aK))<=lV))=true then
 some (.inl ((wrap .i64 (x1+(1:Int))),(x2,(x3,(x4,(x5,(x6,(x7,(x8,(x9,(x10,(x11,(x12,((List.append x13 (v1::([]:List aK))),(x14,(x15,(x16,())))))))))))))))))
 else
 none
 else
 none
 else
 none
 else
 none
 else
 some (.inr (x2,(x3,(x4,(x5,(x6,(x7,(x8,(x9,(x10,(x11,(x12,(x13,(x14,(x15,(x16,()))))))))))))))))
noncomputable def aDS(x1:Int)(x2:bI)(x3:Int)(x4:Unit)(x5:(List cL))(x6:(List aK))(x7:(List aJ))(x8:(List Int))(x9:(List aM))(x10:Int)(x11:Unit)(x12:(List cL))(x13:(List aK))(x14:(List aJ))(x15:(List Int))(x16:(List aM)):Option ((Int×(bI×zt3))⊕zt3):=
 if(decide (x1<((length x2.2.2.1:Nat):Int)))=true then
 if(decide ((0:Int)<=x1))=true then
 if(decide (x1<((length x2.2.2.1:Nat):Int)))=true then
 if(jX.pre (List.getD x2.2.2.1 (Int.toNat x1) vB))=true then
 letB (jX (List.getD x2.2.2.1 (Int.toNat x1) vB)) fun v1=>
 if(decide (length x14+length (v1::([]:List aJ))<=lV))=true then
 some (.inl ((wrap .i64 (x1+(1:Int))),(x2,(x3,(x4,(x5,(x6,(x7,(x8,(x9,(x10,(x11,(x12,(x13,((List.append x14 (v1::([]:List aJ))),(x15,(x16,())))))))))))))))))
 else
 none
 else
 none
 else
 none
 else
 none
 else
 some (.inr (x3,(x4,(x5,(x6,(x7,(x8,(x9,(x10,(x11,(x12,(x13,(x14,(x15,(x16,())))))))))))))))
abbrev wf(x0:bI):Prop:=fV [(.val zk1 .f)] (x0,())
noncomputable def aR(x0:bI):Option (Unit×(bI×Unit)):=
 if(decide (length ([]:List Int)+length x0.2.2.2.2.1<=lV))=true then
 if(decide (length ([]:List aM)+length x0.2.2.2.2.2.1<=lV))=true then
 if(gU.pre3 ((0:Int),(x0,((0:Int),((),(([]:List cL),(([]:List aK),(([]:List aJ),(([]:List Int),(([]:List aM),(x0.2.2.2.1,((),(([]:List cL),(([]:List aK),(([]:List aJ),((List.append ([]:List Int) x0.2.2.2.2.1),((List.append ([]:List aM) x0.2.2.2.2.2.1),())))))))))))))))))=true then
 letB (gU.fn3 ((0:Int),(x0,((0:Int),((),(([]:List cL),(([]:List aK),(([]:List aJ),(([]:List Int),(([]:List aM),(x0.2.2.2.1,((),(([]:List cL),(([]:List aK),(([]:List aJ),((List.append ([]:List Int) x0.2.2.2.2.1),((List.append ([]:List aM) x0.2.2.2.2.2.1),()))))))))))))))))) fun v1=>
 if(gU.pre7 ((0:Int),v1))=true then
 letB (gU.fn7 ((0:Int),v1)) fun v2=>
 if(gU.pre11 ((0:Int),v2))=true then
 letB (gU.fn11 ((0:Int),v2)) fun v3=>
 some ((),((v3.2.2.2.2.2.2.2.2.2.1,(v3.2.2.2.2.2.2.2.2.2.2.1,(v3.2.2.2.2.2.2.2.2.2.2.2.1,(v3.2.2.2.2.2.2.2.1,(v3.2.2.2.2.2.2.2.2.2.2.2.2.1,(v3.2.2.2.2.2.2.2.2.2.2.2.2.2.1,v3.2.2.2.2.2.2.2.2.1)))))),()))
 else
 none
 else
 none
 else
 none
 else
 none
 else
 none
theorem ok3(x1 x2 x3 x4 x5 x6 x7 x8 x9 x10 x11 x12 x13 x14 x15 x16)(hp:pre3 (x1,(x2,(x3,(x4,(x5,(x6,(x7,(x8,(x9,(x10,(x11,(x12,(x13,(x14,(x15,(x16,()))))))))))))))))=true):Rounds pre3 mu3 fn3 (x1,(x2,(x3,(x4,(x5,(x6,(x7,(x8,(x9,(x10,(x11,(x12,(x13,(x14,(x15,(x16,())))))))))))))))) (pK x1 x2 x3 x4 x5 x6 x7 x8 x9 x10 x11 x12 x13 x14 x15 x16):=by
 have hp:tJ kC.pre x2.1 ((length x2.1:Nat):Int) x1 x12=true:=hp
 unfold pK
 by_cases hlt:x1<((length x2.1:Nat):Int)
 . obtain⟨hq,h0,h1,h2,h3,h4,h5,h6⟩:=aAW oS hp hlt
   rw[h3]
   refine fN (Zd hlt) ?_
   refine fN (Zd h0) ?_
   refine fN (Zd h1) ?_
   refine fN hq ?_
   refine lO ?_
   refine fN (Zd h2) ?_
   exact⟨h4,h6,congrArg (fun z:List cL=>((x2,(x3,(x4,(x5,(x6,(x7,(x8,(x9,(x10,(x11,(z,(x13,(x14,(x15,(x16,()))))))))))))))):O3)) h5⟩
 . refine jC (by rw[Za];exact hlt) ?_
   show _=_
   exact congrArg (fun z:List cL=>((x2,(x3,(x4,(x5,(x6,(x7,(x8,(x9,(x10,(x11,(z,(x13,(x14,(x15,(x16,()))))))))))))))):O3)) (aCF hp hlt).symm
theorem ok7(x1 x2 x3 x4 x5 x6 x7 x8 x9 x10 x11 x12 x13 x14 x15 x16)(hp:pre7 (x1,(x2,(x3,(x4,(x5,(x6,(x7,(x8,(x9,(x10,(x11,(x12,(x13,(x14,(x15,(x16,()))))))))))))))))=true):Rounds pre7 mu7 fn7 (x1,(x2,(x3,(x4,(x5,(x6,(x7,(x8,(x9,(x10,(x11,(x12,(x13,(x14,(x15,(x16,())))))))))))))))) (aEW x1 x2 x3 x4 x5 x6 x7 x8 x9 x10 x11 x12 x13 x14 x15 x16):=by
 have hp:tJ jY.pre x2.2.1 ((length x2.2.1:Nat):Int) x1 x13=true:=hp
 unfold aEW
 by_cases hlt:x1<((length x2.2.1:Nat):Int)
 . obtain⟨hq,h0,h1,h2,h3,h4,h5,h6⟩:=aAW rF hp hlt
   rw[h3]
   refine fN (Zd hlt) ?_
   refine fN (Zd h0) ?_
   refine fN (Zd h1) ?_
   refine fN hq ?_
   refine lO ?_
   refine fN (Zd h2) ?_
   exact⟨h4,h6,congrArg (fun z:List aK=>((x2,(x3,(x4,(x5,(x6,(x7,(x8,(x9,(x10,(x11,(x12,(z,(x14,(x15,(x16,()))))))))))))))):O7)) h5⟩
 . refine jC (by rw[Za];exact hlt) ?_
   show _=_
   exact congrArg (fun z:List aK=>((x2,(x3,(x4,(x5,(x6,(x7,(x8,(x9,(x10,(x11,(x12,(z,(x14,(x15,(x16,()))))))))))))))):O7)) (aCF hp hlt).symm
theorem aNN(x1 x2 x3 x4 x5 x6 x7 x8 x9 x10 x11 x12 x13 x14 x15 x16)(hp:pre11 (x1,(x2,(x3,(x4,(x5,(x6,(x7,(x8,(x9,(x10,(x11,(x12,(x13,(x14,(x15,(x16,()))))))))))))))))=true):Rounds pre11 aKp fn11 (x1,(x2,(x3,(x4,(x5,(x6,(x7,(x8,(x9,(x10,(x11,(x12,(x13,(x14,(x15,(x16,())))))))))))))))) (aDS x1 x2 x3 x4 x5 x6 x7 x8 x9 x10 x11 x12 x13 x14 x15 x16):=by
 have hp:tJ jX.pre x2.2.2.1 ((length x2.2.2.1:Nat):Int) x1 x14=true:=hp
 unfold aDS
 by_cases hlt:x1<((length x2.2.2.1:Nat):Int)
 . obtain⟨hq,h0,h1,h2,h3,h4,h5,h6⟩:=aAW vB hp hlt
   rw[h3]
   refine fN (Zd hlt) ?_
   refine fN (Zd h0) ?_
   refine fN (Zd h1) ?_
   refine fN hq ?_
   refine lO ?_
   refine fN (Zd h2) ?_
   exact⟨h4,h6,congrArg (fun z:List aJ=>((x3,(x4,(x5,(x6,(x7,(x8,(x9,(x10,(x11,(x12,(x13,(z,(x15,(x16,())))))))))))))):O11)) h5⟩
 . refine jC (by rw[Za];exact hlt) ?_
   show _=_
   exact congrArg (fun z:List aJ=>((x3,(x4,(x5,(x6,(x7,(x8,(x9,(x10,(x11,(x12,(x13,(z,(x15,(x16,())))))))))))))):O11)) (aCF hp hlt).symm
theorem eq(x0:bI)(_:wf x0)(hp:pre x0=true):aR x0=some ((),(gU x0,())):=by
 simp only[pre,Zb] at hp
 obtain⟨a1,a2,a3,a4,a5,a6,a7,a8⟩:=hp
 unfold aR
 refine dT (Zd (tN a7)) (dT (Zd (tN a8)) ?_)
 refine dT (show pre3 _=true from yZ a1 a2) (cV ?_)
 refine dT (show pre7 _=true from yZ a3 a4) (cV ?_)
 exact dT (show pre11 _=true from yZ a5 a6) (cV rfl)
end gU
def cD(x:jV):jV:=x
namespace cD
def pre(x:jV):Bool:=aN.pre x.2.2.1&&fY.pre x.2.2.2.1
abbrev wf(x0:rL):Prop:=fV [(.val aF1 .f)] (x0,())
noncomputable def aR(x0:rL):Option (Unit×(rL×Unit)):=
 if(aN.pre x0.2.2.1)=true then
 if(fY.pre x0.2.2.2.1)=true then
 letB (aN x0.2.2.1) fun v1=>
 letB (fY x0.2.2.2.1) fun v2=>
 some ((),((x0.1,(x0.2.1,(v1,(v2,x0.2.2.2.2)))),()))
 else
 none
 else
 none
theorem eq(x0:jV)(_:wf x0)(hp:pre x0=true):aR x0=some ((),(cD x0,())):=by
 simp only[pre,Zb] at hp
 unfold aR
 exact dT hp.1 (dT hp.2 rfl)
end cD
def gC(x:jV):jV:=x
namespace gC
def pre(x:jV):Bool:=aU.pre x.2.2.1&&gU.pre x.2.2.2.1
abbrev wf(x0:rL):Prop:=fV [(.val aF1 .f)] (x0,())
noncomputable def aR(x0:rL):Option (Unit×(rL×Unit)):=
 if(aU.pre x0.2.2.1)=true then
 if(gU.pre x0.2.2.2.1)=true then
 letB (aU x0.2.2.1) fun v1=>
 letB (gU x0.2.2.2.1) fun v2=>
 some ((),((x0.1,(x0.2.1,(v1,(v2,())))),()))
 else
 none
 else
 none
theorem eq(x0:jV)(_:wf x0)(hp:pre x0=true):aR x0=some ((),(gC x0,())):=by
 simp only[pre,Zb] at hp
 unfold aR
 exact dT hp.1 (dT hp.2 rfl)
end gC
namespace lT
def pre(l:iQ)(_:Int):Bool:=dJ l.2.2.1
abbrev wf(x0:iQ)(x1:Int):Prop:=fV [(.val aAj .f),(.val (.int .i64) .f)] (x0,(x1,()))
noncomputable def aR(x0:iQ)(x1:Int):Option (Unit×(iQ×Unit)):=
 if(aU.pre x0)=true then
 if(decide ((cG x0 x1)<(0:Int)))=true then
 some ((),((aU x0),()))
 else
 if(decide ((0:Int)<=(cG x0 x1)))=true then
 if(decide ((cG x0 x1)<((length x0.2.2.1:Nat):Int)))=true then
 if(decide ((0:Int)<=(wrap .i64 ((cG x0 x1)+(1:Int)))))=true then
 if(decide ((wrap .i64 ((cG x0 x1)+(1:Int)))<=((length x0.2.2.1:Nat):Int)))=true then
 if(decide (((length x0.2.2.1:Nat):Int)<=((length x0.2.2.1:Nat):Int)))=true then
 if(decide (length ([]:List aL)+length (bF (Int.toNat (wrap .i64 ((cG x0 x1)+(1:Int)))) (Int.toNat ((length x0.2.2.1:Nat):Int)) x0.2.2.1)<=lV))=true then
 some ((),((x1,((List.getD x0.2.2.1 (Int.toNat (cG x0 x1)) wX).1,((List.append ([]:List aL) (bF (Int.toNat (wrap .i64 ((cG x0 x1)+(1:Int)))) (Int.toNat ((length x0.2.2.1:Nat):Int)) x0.2.2.1)),()))),()))
 else
 none
 else
 none
 else
 none
 else
 none
 else
 none
 else
 none
 else
 none
theorem eq(x0:iQ)(x1:Int)(_:wf x0 x1)(hp:pre x0 x1=true):aR x0 x1=some ((),(lT x0 x1,())):=by
 have hc:aU.pre x0=true:=hp
 rw[pre,cC] at hp
 unfold aR lT aBJ aU
 by_cases h:cG x0 x1<0
 . simp[h,hc]
 . have hb:cG x0 x1<(x0.2.2.1.length:Int):=by
    have h':=h
    unfold cG at h' ⊢
    split at h'<;>rename_i hh
    . omega
    . rw[if_neg hh];omega
   have hl:=dropTake_len (Int.toNat (cG x0 x1+1)) x0.2.2.1.length x0.2.2.1
   have h0:0<=cG x0 x1:=by omega
   rw[iX (n:=cG x0 x1+1) (by omega) (by omega)]
   have h1:0<=cG x0 x1+1:=by omega
   have h2:cG x0 x1+1<=(x0.2.2.1.length:Int):=by omega
   rw[if_pos hc,if_neg (by simp[h]),if_pos (by simp[h0]),if_pos (by simp[hb]),if_pos (by simp[h1]),if_pos (by simp[h2]),if_pos (by simp),Int.toNat_natCast,if_pos (by simp only[Zh,Za,lV];omega),if_neg h,aBU]
   rw[show(cG x0 x1+1).toNat=(cG x0 x1).toNat+1 by omega]
   rfl
end lT
namespace lQ
def pre(l:iQ)(_:Int):Bool:=dJ l.2.2.1
abbrev wf(x0:iQ)(x1:Int):Prop:=fV [(.val aAj .f),(.val (.int .i64) .f)] (x0,(x1,()))
noncomputable def aR(x0:iQ)(x1:Int):Option (Unit×(iQ×Unit)):=
 if(!(aB x0.1 (0:Int) (300:Int)))=true then
 if(aN.pre x0)=true then
 some ((),((aN x0),()))
 else
 none
 else
 if(!(aB x1 (0:Int) (300:Int)))=true then
 if(aN.pre x0)=true then
 some ((),((aN x0),()))
 else
 none
 else
 if(decide (x1<=x0.1))=true then
 if(aN.pre x0)=true then
 some ((),((aN x0),()))
 else
 none
 else
 if(decide (((length x0.2.2.1:Nat):Int)<(wrap .i64 (x1-x0.1))))=true then
 if(aN.pre x0)=true then
 some ((),((aN x0),()))
 else
 none
 else
 if(decide ((0:Int)<=(wrap .i64 ((wrap .i64 (x1-x0.1))-(1:Int)))))=true then
 if(decide ((wrap .i64 ((wrap .i64 (x1-x0.1))-(1:Int)))<((length x0.2.2.1:Nat):Int)))=true then
 if(decide ((0:Int)<=(wrap .i64 (x1-x0.1))))=true then
 if(decide ((wrap .i64 (x1-x0.1))<=((length x0.2.2.1:Nat):Int)))=true then
 if(decide (((length x0.2.2.1:Nat):Int)<=((length x0.2.2.1:Nat):Int)))=true then
 if(decide (length ([]:List aL)+length (bF (Int.toNat (wrap .i64 (x1-x0.1))) (Int.toNat ((length x0.2.2.1:Nat):Int)) x0.2.2.1)<=lV))=true then
 some ((),((x1,((List.getD x0.2.2.1 (Int.toNat (wrap .i64 ((wrap .i64 (x1-x0.1))-(1:Int)))) wX).1,((List.append ([]:List aL) (bF (Int.toNat (wrap .i64 (x1-x0.1))) (Int.toNat ((length x0.2.2.1:Nat):Int)) x0.2.2.1)),()))),()))
 else
 none
 else
 none
 else
 none
 else
 none
 else
 none
 else
 none
theorem eq(x0:iQ)(x1:Int)(_:wf x0 x1)(hp:pre x0 x1=true):aR x0 x1=some ((),(lQ x0 x1,())):=by
 have hc:aN.pre x0=true:=hp
 rw[pre,cC] at hp
 unfold aR lQ aBJ aN cG
 simp only[hc,if_true,aB]
 by_cases h1:x1<=x0.1
 . have:¬(0<=x0.1/\x0.1<=300/\0<=x1/\x1<=300/\¬x1<=x0.1):=fun h=>h.2.2.2.2 h1
   simp[h1]
 by_cases h2:300<x1
 . have h2':¬x1<=300:=by omega
   simp[h1,h2,h2']
 by_cases h3:x0.1<0
 . have h3':¬0<=x0.1:=by omega
   simp[h1,h2,h3,h3']
 have g1:0<=x0.1:=by omega
 have g2:x0.1<=300:=by omega
 have g3:0<=x1:=by omega
 have g4:x1<=300:=by omega
 rw[iX (n:=x1-x0.1) (by omega) (by omega),iX (n:=x1-x0.1-1) (by omega) (by omega)]
 by_cases h4:(x0.2.2.1.length:Int)<=x1-x0.1-1
 . have h5:(x0.2.2.1.length:Int)<x1-x0.1:=by omega
   simp[h1,h2,h3,h4,h5,g1,g2,g3,g4]
 . have h5:¬(x0.2.2.1.length:Int)<x1-x0.1:=by omega
   have h6:0<=x1-x0.1-1:=by omega
   have h7:x1-x0.1-1<(x0.2.2.1.length:Int):=by omega
   have h8:0<=x1-x0.1:=by omega
   have h9:x1-x0.1<=(x0.2.2.1.length:Int):=by omega
   have hl:=dropTake_len (Int.toNat (x1-x0.1)) x0.2.2.1.length x0.2.2.1
   rw[if_neg (by simp[g1,g2]),if_neg (by simp[g3,g4]),if_neg (by simp[h1]),if_neg (by simp[h5]),if_pos (by rw[Za];exact h6),if_pos (by rw[Za];exact h7),if_pos (by rw[Za];exact h8),if_pos (by rw[Za];exact h9),if_pos (by simp),Int.toNat_natCast,
    if_pos (by simp only[Zh,Za,lV];omega),if_neg (show ¬(x1<=x0.1\/300<x1\/x0.1<0\/(x0.2.2.1.length:Int)<=x1-x0.1-1) by omega),aBU]
   rw[if_neg (show ¬x1-x0.1-1<0 by omega),show(x1-x0.1).toNat=(x1-x0.1-1).toNat+1 by omega]
   rfl
end lQ
def rE(l:iQ)(i:Int):Int:=if i=l.1 then l.2.1 else if cG l i<0 then -1 else(l.2.2.1.getD (cG l i).toNat E0).1
abbrev mP:=rE
abbrev mI:=rE
theorem aJw{l:iQ}{i:Int}(h:¬cG l i<0):cG l i<(l.2.2.1.length:Int)/\cG l i=i-l.1-1/\0<=l.1/\i<=300/\l.1<i:=by
 unfold cG at h ⊢
 split at h<;>rename_i hh
 . omega
 . rw[if_neg hh];omega
namespace mI
abbrev wf(x0:iQ)(x1:Int):Prop:=fV [(.val aAj .f),(.val (.int .i64) .f)] (x0,(x1,()))
noncomputable def aR(x0:iQ)(x1:Int):Option xS:=
 if(decide (x1=x0.1))=true then
 some ((),(x0.2.1,()))
 else
 if(decide ((cG x0 x1)<(0:Int)))=true then
 some ((),((-1:Int),()))
 else
 if(decide ((0:Int)<=(cG x0 x1)))=true then
 if(decide ((cG x0 x1)<((length x0.2.2.1:Nat):Int)))=true then
 some ((),((List.getD x0.2.2.1 (Int.toNat (cG x0 x1)) wX).1,()))
 else
 none
 else
 none
theorem eq(x0:iQ)(x1:Int)(_:wf x0 x1):aR x0 x1=some ((),(mI x0 x1,())):=by
 unfold aR mI rE
 by_cases h:x1=x0.1
 . simp[h]
 by_cases h2:cG x0 x1<0
 . simp[h,h2]
 . obtain⟨g1,_⟩:=aJw h2
   rw[if_neg (by simp[h]),if_neg (by simp[h2]),if_pos (by rw[Za];omega),if_pos (by rw[Za];exact g1),if_neg h,if_neg h2]
end mI
namespace mP
abbrev wf(x0:iQ)(x1:Int):Prop:=fV [(.val aAj .f),(.val (.int .i64) .f)] (x0,(x1,()))
noncomputable def aR(x0:iQ)(x1:Int):Option xS:=
 if(decide (x1=x0.1))=true then
 some ((),(x0.2.1,()))
 else
 if(!(aB x0.1 (0:Int) (300:Int)))=true then
 some ((),((-1:Int),()))
 else
 if(!(aB x1 (0:Int) (300:Int)))=true then
 some ((),((-1:Int),()))
 else
 if(!(aB (wrap .i64 (x1-x0.1)) (1:Int) ((length x0.2.2.1:Nat):Int)))=true then
 some ((),((-1:Int),()))
 else
 if(decide ((0:Int)<=(wrap .i64 ((wrap .i64 (x1-x0.1))-(1:Int)))))=true then
 if(decide ((wrap .i64 ((wrap .i64 (x1-x0.1))-(1:Int)))<((length x0.2.2.1:Nat):Int)))=true then
 some ((),((List.getD x0.2.2.1 (Int.toNat (wrap .i64 ((wrap .i64 (x1-x0.1))-(1:Int)))) wX).1,()))
 else
 none
 else
 none
theorem eq(x0:iQ)(x1:Int)(_:wf x0 x1):aR x0 x1=some ((),(mP x0 x1,())):=by
 unfold aR mP rE cG aB
 by_cases h:x1=x0.1
 . simp[h]
 by_cases h1:0<=x0.1/\x0.1<=300
 case neg=>
  have hc:(!(decide (0<=x0.1)&&decide (x0.1<=300)))=true:=by
   simp only[Bool.not_eq_true',Bool.and_eq_false_iff,Zv];omega
  rw[if_neg (by simp[h]),if_pos hc,if_neg h]
  by_cases h2:x1<=x0.1\/300<x1\/x0.1<0\/(x0.2.2.1.length:Int)<=x1-x0.1-1
  . rw[if_pos h2];rfl
  . omega
 obtain⟨g1,g2⟩:=h1
 by_cases h3:0<=x1/\x1<=300
 case neg=>
  have hc:(!(decide (0<=x1)&&decide (x1<=300)))=true:=by
   simp only[Bool.not_eq_true',Bool.and_eq_false_iff,Zv];omega
  rw[if_neg (by simp[h]),if_neg (by simp[g1,g2]),if_pos hc,if_neg h]
  by_cases h2:x1<=x0.1\/300<x1\/x0.1<0\/(x0.2.2.1.length:Int)<=x1-x0.1-1
  . rw[if_pos h2];rfl
  . omega
 obtain⟨g3,g4⟩:=h3
 rw[iX (n:=x1-x0.1) (by omega) (by omega),iX (n:=x1-x0.1-1) (by omega) (by omega)]
 by_cases h5:1<=x1-x0.1/\x1-x0.1<=(x0.2.2.1.length:Int)
 case neg=>
  have hc:(!(decide (1<=x1-x0.1)&&decide (x1-x0.1<=(x0.2.2.1.length:Int))))=true:=by
   simp only[Bool.not_eq_true',Bool.and_eq_false_iff,Zv];omega
  rw[if_neg (by simp[h]),if_neg (by simp[g1,g2]),if_neg (by simp[g3,g4]),if_pos hc,if_neg h]
  by_cases h2:x1<=x0.1\/300<x1\/x0.1<0\/(x0.2.2.1.length:Int)<=x1-x0.1-1
  . rw[if_pos h2];rfl
  . omega
 obtain⟨g5,g6⟩:=h5
 have hn:¬(x1<=x0.1\/300<x1\/x0.1<0\/(x0.2.2.1.length:Int)<=x1-x0.1-1):=by omega
 have hc:¬(!(decide (1<=x1-x0.1)&&decide (x1-x0.1<=(x0.2.2.1.length:Int))))=true:=by
  rw[Zd g5,Zd g6];simp
 rw[if_neg (by simp[h]),if_neg (by simp[g1,g2]),if_neg (by simp[g3,g4]),if_neg hc,if_pos (by rw[Za];omega),if_pos (by rw[Za];omega),if_neg h,if_neg hn,if_neg (by omega)]
end mP
def aCw:List aL->List aL->Nat->List aL
 |[],out,_=>out
 |e::r,out,k=>if k<out.length/\(out.getD k E0).1=e.1 then aCw r out (k+1) else aCw r (out.take k++[e]) (k+1)
theorem aI4{x2 out:List aL}{i k:Nat}(hi:i<x2.length):aCw (x2.drop i) out k=
 if k<out.length/\(out.getD k E0).1=(x2.getD i E0).1 then aCw (x2.drop (i+1)) out (k+1) else aCw (x2.drop (i+1)) (out.take k++[x2.getD i E0]) (k+1):=by
 rw[Zn hi,eZ hi]
 rfl
def wO(prev base i:Int):Nat:=(prev-base+i).toNat
def uV(l:iQ)(prev term:Int)(xs:List aL):iQ×Bool:=
 if rK l=true then
  if term<0 then(l,false) else
  if rE l prev=term then
   if rK (l.1,(l.2.1,(aCw xs l.2.2.1 (wO prev l.1 0),())))=true then((l.1,(l.2.1,(aCw xs l.2.2.1 (wO prev l.1 0),()))),true) else(l,false)
  else(l,false)
 else(aJj,false)
abbrev dZ:=uV
abbrev eC:=uV
theorem aA5{l:iQ}(h:rK l=true):0<=l.1/\l.1<=300/\(l.2.2.1.length:Int)<=300-l.1:=by
 simp only[rK,Zb,Za] at h
 have:=tR h.1
 exact⟨this.1,this.2,h.2.2.1⟩
theorem aFE{l:iQ}{i t:Int}(h:rE l i=t)(ht:¬t<0):0<=i-l.1/\i-l.1<=(l.2.2.1.length:Int):=by
 unfold rE at h
 split at h
 . omega
 . split at h
   . omega
   . rename_i h2
     obtain⟨g1,g2,_⟩:=aJw h2
     omega
namespace dZ
def pre(l:iQ)(_ _:Int)(xs:List aL):Bool:=dJ l.2.2.1&&dJ xs
abbrev S:=Int×(List aL×(Int×(Int×(iQ×aMw))))
def pre7:S->Bool:=fun(x1,x2,x3,x4,x5,_,_,_,_,_,_,_,x13,_)=>
 decide (x2.length<=16777216)&&(decide (x13.length<=16777216+x4.toNat)&&(decide (x3=(x2.length:Int))&&(decide (0<=x4)&&(decide (x4<=(x2.length:Int))&&(decide (0<=x5.1)&&(decide (x5.1<=300)&&(decide (0<=x1-x5.1)&&decide (x1-x5.1+x4<=(x13.length:Int)))))))))
def fn7:S->iQ×aMw:=fun(x1,x2,_,x4,x5,x6,x7,x8,x9,x10,x11,x12,x13,_)=>
 (x5,(x6,(x7,(x8,(x9,(x10,(x11,(x12,(aCw (x2.drop x4.toNat) x13 (wO x1 x5.1 x4),())))))))))
def mu7:S->Nat:=fun(_,x2,_,x4,_)=>x2.length-x4.toNat
noncomputable def aEW(x1:Int)(x2:(List aL))(x3:Int)(x4:Int)(x5:iQ)(x6:Int)(x7:Int)(x8:Unit)(x9:(List aL))(x10:Int)(x11:Int)(x12:Unit)(x13:(List aL)):Option ((Int×((List aL)×(Int×(Int×aMU))))⊕aMU):=
 if(decide (x4<x3))=true then
 if(decide ((0:Int)<=x4))=true then
 if(decide (x4<((length x2:Nat):Int)))=true then
 if(decide ((wrap .i64 ((wrap .i64 (x1-x5.1))+x4))<((length x13:Nat):Int)))=true then
 if(decide ((0:Int)<=(wrap .i64 ((wrap .i64 (x1-x5.1))+x4))))=true then
 if(decide ((wrap .i64 ((wrap .i64 (x1-x5.1))+x4))<((length x13:Nat):Int)))=true then
 if(decide ((List.getD x13 (Int.toNat (wrap .i64 ((wrap .i64 (x1-x5.1))+x4))) wX).1=(List.getD x2 (Int.toNat x4) wX).1))=true then
 some (.inl (x1,(x2,(x3,((wrap .i64 (x4+(1:Int))),(x5,(x6,(x7,(x8,(x9,(x10,(x11,(x12,(x13,()))))))))))))))
 else
 if(decide ((0:Int)<=(0:Int)))=true then
 if(decide ((0:Int)<=(wrap .i64 ((wrap .i64 (x1-x5.1))+x4))))=true then
 if(decide ((wrap .i64 ((wrap .i64 (x1-x5.1))+x4))<=(wrap .i64 ((wrap .i64 (x1-x5.1))+x4))))=true then
 if(decide ((wrap .i64 ((wrap .i64 (x1-x5.1))+x4))<=((length x13:Nat):Int)))=true then
 if(decide (length (bF (Int.toNat (0:Int)) (Int.toNat (wrap .i64 ((wrap .i64 (x1-x5.1))+x4))) x13)+length ((List.getD x2 (Int.toNat x4) wX)::([]:List aL))<=lV))=true then
 some (.inl (x1,(x2,(x3,((wrap .i64 (x4+(1:Int))),(x5,(x6,(x7,(x8,(x9,(x10,(x11,(x12,((List.append (bF (Int.toNat (0:Int)) (Int.toNat (wrap .i64 ((wrap .i64 (x1-x5.1))+x4))) x13) ((List.getD x2 (Int.toNat x4) wX)::([]:List aL))),()))))))))))))))
 else
 none
 else
 none
 else
 none
 else
 none
 else
 none
 else
 none
 else
 none
 else
 if(decide ((0:Int)<=(0:Int)))=true then
 if(decide ((0:Int)<=(wrap .i64 ((wrap .i64 (x1-x5.1))+x4))))=true then
 if(decide ((wrap .i64 ((wrap .i64 (x1-x5.1))+x4))<=(wrap .i64 ((wrap .i64 (x1-x5.1))+x4))))=true then
 if(decide ((wrap .i64 ((wrap .i64 (x1-x5.1))+x4))<=((length x13:Nat):Int)))=true then
 if(decide (length (bF (Int.toNat (0:Int)) (Int.toNat (wrap .i64 ((wrap .i64 (x1-x5.1))+x4))) x13)+length ((List.getD x2 (Int.toNat x4) wX)::([]:List aL))<=lV))=true then
 some (.inl (x1,(x2,(x3,((wrap .i64 (x4+(1:Int))),(x5,(x6,(x7,(x8,(x9,(x10,(x11,(x12,((List.append (bF (Int.toNat (0:Int)) (Int.toNat (wrap .i64 ((wrap .i64 (x1-x5.1))+x4))) x13) ((List.getD x2 (Int.toNat x4) wX)::([]:List aL))),()))))))))))))))
 else
 none
 else
 none
 else
 none
 else
 none
 else
 none
 else
 none
 else
 none
 else
 some (.inr (x5,(x6,(x7,(x8,(x9,(x10,(x11,(x12,(x13,()))))))))))
abbrev wf(x0:iQ)(x1:Int)(x2:Int)(x3:(List aL)):Prop:=fV [(.val aAj .f),(.val (.int .i64) .f),(.val (.int .i64) .f),(.val (.sl 0 zk2) .f)] (x0,(x1,(x2,(x3,()))))
noncomputable def aR(x0:iQ)(x1:Int)(x2:Int)(x3:(List aL)):Option (Unit×(iQ×(Bool×Unit))):=
 if(!(rK x0))=true then
 some ((),(aJj,(false,())))
 else
 if(aN.pre x0)=true then
 if(decide (x2<(0:Int)))=true then
 some ((),((aN x0),(false,())))
 else
 if(!(decide ((rE x0 x1)=x2)))=true then
 some ((),((aN x0),(false,())))
 else
 if(dZ.pre7 (x1,(x3,(((length x3:Nat):Int),((0:Int),(x0,((0:Int),((0:Int),((),(([]:List aL),((aN x0).1,((aN x0).2.1,((aN x0).2.2.2,(aN x0).2.2)))))))))))))=true then
 if(!(rK ((dZ.fn7 (x1,(x3,(((length x3:Nat):Int),((0:Int),(x0,((0:Int),((0:Int),((),(([]:List aL),((aN x0).1,((aN x0).2.1,((aN x0).2.2.2,(aN x0).2.2))))))))))))).2.2.2.2.2.1,((dZ.fn7 (x1,(x3,(((length x3:Nat):Int),((0:Int),(x0,((0:Int),((0:Int),((),(([]:List aL),((aN x0).1,((aN x0).2.1,((aN x0).2.2.2,(aN x0).2.2))))))))))))).2.2.2.2.2.2.1,((dZ.fn7 (x1,(x3,(((length x3:Nat):Int),((0:Int),(x0,((0:Int),((0:Int),((),(([]:List aL),((aN x0).1,((aN x0).2.1,((aN x0).2.2.2,(aN x0).2.2))))))))))))).2.2.2.2.2.2.2.2.1,(dZ.fn7 (x1,(x3,(((length x3:Nat):Int),((0:Int),(x0,((0:Int),((0:Int),((),(([]:List aL),((aN x0).1,((aN x0).2.1,((aN x0).2.2.2,(aN x0).2.2))))))))))))).2.2.2.2.2.2.2.1)))))=true then
 if(aN.pre (dZ.fn7 (x1,(x3,(((length x3:Nat):Int),((0:Int),(x0,((0:Int),((0:Int),((),(([]:List aL),((aN x0).1,((aN x0).2.1,((aN x0).2.2.2,(aN x0).2.2))))))))))))).1)=true then
 some ((),((aN (dZ.fn7 (x1,(x3,(((length x3:Nat):Int),((0:Int),(x0,((0:Int),((0:Int),((),(([]:List aL),((aN x0).1,((aN x0).2.1,((aN x0).2.2.2,(aN x0).2.2))))))))))))).1),(false,())))
 else
 none
 else
 some ((),(((dZ.fn7 (x1,(x3,(((length x3:Nat):Int),((0:Int),(x0,((0:Int),((0:Int),((),(([]:List aL),((aN x0).1,((aN x0).2.1,((aN x0).2.2.2,(aN x0).2.2))))))))))))).2.2.2.2.2.1,((dZ.fn7 (x1,(x3,(((length x3:Nat):Int),((0:Int),(x0,((0:Int),((0:Int),((),(([]:List aL),((aN x0).1,((aN x0).2.1,((aN x0).2.2.2,(aN x0).2.2))))))))))))).2.2.2.2.2.2.1,((dZ.fn7 (x1,(x3,(((length x3:Nat):Int),((0:Int),(x0,((0:Int),((0:Int),((),(([]:List aL),((aN x0).1,((aN x0).2.1,((aN x0).2.2.2,(aN x0).2.2))))))))))))).2.2.2.2.2.2.2.2.1,(dZ.fn7 (x1,(x3,(((length x3:Nat):Int),((0:Int),(x0,((0:Int),((0:Int),((),(([]:List aL),((aN x0).1,((aN x0).2.1,((aN x0).2.2.2,(aN x0).2.2))))))))))))).2.2.2.2.2.2.2.1))),(true,())))
 else
 none
 else
 none
theorem ok7(x1:Int)(x2:List aL)(x3 x4:Int)(x5:iQ)(x6 x7:Int)(x8:Unit)(x9:List aL)(x10 x11:Int)(x12:Unit)(x13:List aL)(hp:pre7 (x1,(x2,(x3,(x4,(x5,(x6,(x7,(x8,(x9,(x10,(x11,(x12,(x13,())))))))))))))=true):
 Rounds pre7 mu7 fn7 (x1,(x2,(x3,(x4,(x5,(x6,(x7,(x8,(x9,(x10,(x11,(x12,(x13,()))))))))))))) (aEW x1 x2 x3 x4 x5 x6 x7 x8 x9 x10 x11 x12 x13):=by
 simp only[pre7,Zb,Za] at hp
 obtain⟨h1,h2,rfl,h4,h5,h6,h7,h8,h9⟩:=hp
 unfold aEW
 by_cases hlt:x4<(x2.length:Int)
 . have hi:x4.toNat<x2.length:=by omega
   rw[iX (n:=x1-x5.1) (by omega) (by omega),iX (n:=x1-x5.1+x4) (by omega) (by omega),iX (n:=x4+1) (by omega) (by omega)]
   have hk:(x1-x5.1+x4).toNat=wO x1 x5.1 x4:=rfl
   have hk1:wO x1 x5.1 (x4+1)=wO x1 x5.1 x4+1:=by unfold wO;omega
   have hput:=aI4 (x2:=x2) (out:=x13) (k:=wO x1 x5.1 x4) hi
   have h10:0<=x1-x5.1+x4:=by omega
   have hadd:(x4+1).toNat=x4.toNat+1:=by omega
   have keep:wO x1 x5.1 x4<x13.length/\(x13.getD (wO x1 x5.1 x4) E0).1=(x2.getD x4.toNat E0).1->
    Rounds pre7 mu7 fn7 (x1,x2,(x2.length:Int),x4,x5,x6,x7,x8,x9,x10,x11,x12,x13,())
     (some (.inl (x1,x2,(x2.length:Int),x4+1,x5,x6,x7,x8,x9,x10,x11,x12,x13,()))):=by
    intro hc
    simp only[Rounds]
    refine⟨?_,by simp only[mu7];omega,?_⟩
    . simp only[pre7,Zb,Za]
      unfold wO at hc
      obtain⟨hc1,_⟩:=hc
      exact⟨h1,by omega,trivial,by omega,by omega,h6,h7,h8,by omega⟩
    . simp only[fn7,hk1,hadd]
      rw[hput,if_pos hc]
   have cut:¬(wO x1 x5.1 x4<x13.length/\(x13.getD (wO x1 x5.1 x4) E0).1=(x2.getD x4.toNat E0).1)->
    Rounds pre7 mu7 fn7 (x1,x2,(x2.length:Int),x4,x5,x6,x7,x8,x9,x10,x11,x12,x13,())
     (some (.inl (x1,x2,(x2.length:Int),x4+1,x5,x6,x7,x8,x9,x10,x11,x12,x13.take (wO x1 x5.1 x4)++[x2.getD x4.toNat E0],()))):=by
    intro hc
    have hl:(x13.take (wO x1 x5.1 x4)++[x2.getD x4.toNat E0]).length=wO x1 x5.1 x4+1:=by
     simp only[Zf,Zr,Zg,Zh,wO];omega
    simp only[Rounds]
    refine⟨?_,by simp only[mu7];omega,?_⟩
    . simp only[pre7,Zb,Za,hl]
      have hkk:((wO x1 x5.1 x4:Nat):Int)=x1-x5.1+x4:=Int.toNat_of_nonneg h10
      exact⟨h1,by omega,trivial,by omega,by omega,h6,h7,h8,by push_cast;omega⟩
    . simp only[fn7,hk1,hadd]
      rw[hput,if_neg hc]
   have hkk:((wO x1 x5.1 x4:Nat):Int)=x1-x5.1+x4:=Int.toNat_of_nonneg h10
   have hdt:bF (Int.toNat 0) (wO x1 x5.1 x4) x13=x13.take (wO x1 x5.1 x4):=by simp[bF]
   have hlim:(x13.take (wO x1 x5.1 x4)).length+1<=lV:=by simp only[Zr,lV];omega
   simp only[hlt,h4,h10,h9,decide_true,if_true,hk,hdt,Int.le_refl,Zg,Zh,Nat.zero_add,hlim]
   by_cases hb:x1-x5.1+x4<(x13.length:Int)
   . rw[if_pos (by simp[hb])]
     by_cases ht:(x13.getD (wO x1 x5.1 x4) E0).1=(x2.getD x4.toNat E0).1
     . rw[if_pos (by simp[hb]),if_pos (by rw[Za];exact ht)]
       exact keep ⟨by omega,ht⟩
     . rw[if_pos (by simp[hb]),if_neg (by rw[Za];exact ht)]
       exact cut fun hc=>ht hc.2
   . rw[if_neg (by simp[hb])]
     exact cut fun hc=>hb (by omega)
 . simp only[hlt,decide_false,Zj,if_false,Rounds,fn7]
   rw[Zt (by omega)]
   rfl
theorem eq(x0:iQ)(x1 x2:Int)(x3:List aL)(_:wf x0 x1 x2 x3)(hp:pre x0 x1 x2 x3=true):aR x0 x1 x2 x3=some ((),((dZ x0 x1 x2 x3).1,((dZ x0 x1 x2 x3).2,()))):=by
 simp only[pre,Zb] at hp
 have hc:aN.pre x0=true:=hp.1
 have hl:=cC.1 hp.1
 have hx:=cC.1 hp.2
 unfold aR dZ uV aN
 by_cases h1:rK x0=true
 case neg=>simp[h1]
 rw[if_neg (by simp[h1]),if_pos hc,if_pos h1]
 by_cases h2:x2<0
 . rw[if_pos (by simp[h2]),if_pos h2]
 rw[if_neg (by simp[h2]),if_neg h2]
 by_cases h3:rE x0 x1=x2
 case neg=>rw[if_pos (by simp[h3]),if_neg h3]
 rw[if_neg (by simp[h3]),if_pos h3]
 obtain⟨b1,b2,b3⟩:=aA5 h1
 obtain⟨t1,t2⟩:=aFE h3 h2
 have hpre:pre7 (x1,(x3,(((length x3:Nat):Int),((0:Int),(x0,((0:Int),((0:Int),((),(([]:List aL),(x0.1,(x0.2.1,(x0.2.2.2,x0.2.2))))))))))))=true:=by
  simp only[pre7,Zb,Za]
  exact⟨hx,(by show x0.2.2.1.length<=16777216+Int.toNat 0;omega),trivial,by omega,by omega,b1,b2,t1,(by show x1-x0.1+0<=(x0.2.2.1.length:Int);omega)⟩
 rw[if_pos hpre]
 have hfn:fn7 (x1,(x3,(((length x3:Nat):Int),((0:Int),(x0,((0:Int),((0:Int),((),(([]:List aL),(x0.1,(x0.2.1,(x0.2.2.2,x0.2.2))))))))))))=
  (x0,(0,(0,((),(([]:List aL),(x0.1,(x0.2.1,((),(aCw x3 x0.2.2.1 (wO x1 x0.1 0),()))))))))):=rfl
 simp only[hfn,hc]
 by_cases h4:rK (x0.1,(x0.2.1,(aCw x3 x0.2.2.1 (wO x1 x0.1 0),())))=true
 . simp[h4]
 . simp[h4]
end dZ
namespace eC
def pre(l:iQ)(_ _:Int)(xs:List aL):Bool:=dJ l.2.2.1&&dJ xs
abbrev S:=Int×(List aL×(Int×(iQ×aMw)))
def pre7:S->Bool:=fun(x1,x2,x4,x5,_,_,_,_,_,_,_,x13,_)=>
 decide (x2.length<=16777216)&&(decide (x13.length<=16777216+x4.toNat)&&(decide (0<=x4)&&(decide (x4<=(x2.length:Int))&&(decide (0<=x5.1)&&(decide (x5.1<=300)&&(decide (0<=x1-x5.1)&&decide (x1-x5.1+x4<=(x13.length:Int))))))))
def fn7:S->iQ×aMw:=fun(x1,x2,x4,x5,x6,x7,x8,x9,x10,x11,x12,x13,_)=>
 (x5,(x6,(x7,(x8,(x9,(x10,(x11,(x12,(aCw (x2.drop x4.toNat) x13 (wO x1 x5.1 x4),())))))))))
def mu7:S->Nat:=fun(_,x2,x4,_)=>x2.length-x4.toNat
noncomputable def aEW(x1:Int)(x2:(List aL))(x3:Int)(x4:iQ)(x5:Int)(x6:Int)(x7:Unit)(x8:(List aL))(x9:Int)(x10:Int)(x11:Unit)(x12:(List aL)):Option ((Int×((List aL)×(Int×aMU)))⊕aMU):=
 if(decide (x3<((length x2:Nat):Int)))=true then
 if(decide ((wrap .i64 ((wrap .i64 (x1-x4.1))+x3))<((length x12:Nat):Int)))=true then
 if(decide ((0:Int)<=(wrap .i64 ((wrap .i64 (x1-x4.1))+x3))))=true then
 if(decide ((wrap .i64 ((wrap .i64 (x1-x4.1))+x3))<((length x12:Nat):Int)))=true then
 if(decide ((0:Int)<=x3))=true then
 if(decide (x3<((length x2:Nat):Int)))=true then
 if(decide ((List.getD x12 (Int.toNat (wrap .i64 ((wrap .i64 (x1-x4.1))+x3))) wX).1=(List.getD x2 (Int.toNat x3) wX).1))=true then
 some (.inl (x1,(x2,((wrap .i64 (x3+(1:Int))),(x4,(x5,(x6,(x7,(x8,(x9,(x10,(x11,(x12,())))))))))))))
 else
 if(decide ((0:Int)<=(0:Int)))=true then
 if(decide ((0:Int)<=(wrap .i64 ((wrap .i64 (x1-x4.1))+x3))))=true then
 if(decide ((wrap .i64 ((wrap .i64 (x1-x4.1))+x3))<=((length x12:Nat):Int)))=true then
 if(decide (length ([]:List aL)+length (bF (Int.toNat (0:Int)) (Int.toNat (wrap .i64 ((wrap .i64 (x1-x4.1))+x3))) x12)<=lV))=true then
 if(decide ((0:Int)<=x3))=true then
 if(decide (x3<((length x2:Nat):Int)))=true then
 if(decide (length (List.append ([]:List aL) (bF (Int.toNat (0:Int)) (Int.toNat (wrap .i64 ((wrap .i64 (x1-x4.1))+x3))) x12))+length ((List.getD x2 (Int.toNat x3) wX)::([]:List aL))<=lV))=true then
 some (.inl (x1,(x2,((wrap .i64 (x3+(1:Int))),(x4,(x5,(x6,(x7,(x8,(x9,(x10,(x11,((List.append (List.append ([]:List aL) (bF (Int.toNat (0:Int)) (Int.toNat (wrap .i64 ((wrap .i64 (x1-x4.1))+x3))) x12)) ((List.getD x2 (Int.toNat x3) wX)::([]:List aL))),())))))))))))))
 else
 none
 else
 none
 else
 none
 else
 none
 else
 none
 else
 none
 else
 none
 else
 none
 else
 none
 else
 none
 else
 none
 else
 if(decide ((0:Int)<=x3))=true then
 if(decide (x3<((length x2:Nat):Int)))=true then
 if(decide (length x12+length ((List.getD x2 (Int.toNat x3) wX)::([]:List aL))<=lV))=true then
 some (.inl (x1,(x2,((wrap .i64 (x3+(1:Int))),(x4,(x5,(x6,(x7,(x8,(x9,(x10,(x11,((List.append x12 ((List.getD x2 (Int.toNat x3) wX)::([]:List aL))),())))))))))))))
 else
 none
 else
 none
 else
 none
 else
 some (.inr (x4,(x5,(x6,(x7,(x8,(x9,(x10,(x11,(x12,()))))))))))
abbrev wf(x0:iQ)(x1:Int)(x2:Int)(x3:(List aL)):Prop:=fV [(.val aAj .f),(.val (.int .i64) .f),(.val (.int .i64) .f),(.val (.sl 0 zk2) .f)] (x0,(x1,(x2,(x3,()))))
noncomputable def aR(x0:iQ)(x1:Int)(x2:Int)(x3:(List aL)):Option (Unit×(iQ×(Bool×Unit))):=
 if(!(rK x0))=true then
 some ((),(aJj,(false,())))
 else
 if(aU.pre x0)=true then
 if(decide (x2<(0:Int)))=true then
 some ((),((aU x0),(false,())))
 else
 if(!(decide ((rE x0 x1)=x2)))=true then
 some ((),((aU x0),(false,())))
 else
 if(eC.pre7 (x1,(x3,((0:Int),(x0,((0:Int),((0:Int),((),(([]:List aL),((aU x0).1,((aU x0).2.1,((aU x0).2.2.2,(aU x0).2.2))))))))))))=true then
 if(!(rK ((eC.fn7 (x1,(x3,((0:Int),(x0,((0:Int),((0:Int),((),(([]:List aL),((aU x0).1,((aU x0).2.1,((aU x0).2.2.2,(aU x0).2.2)))))))))))).2.2.2.2.2.1,((eC.fn7 (x1,(x3,((0:Int),(x0,((0:Int),((0:Int),((),(([]:List aL),((aU x0).1,((aU x0).2.1,((aU x0).2.2.2,(aU x0).2.2)))))))))))).2.2.2.2.2.2.1,((eC.fn7 (x1,(x3,((0:Int),(x0,((0:Int),((0:Int),((),(([]:List aL),((aU x0).1,((aU x0).2.1,((aU x0).2.2.2,(aU x0).2.2)))))))))))).2.2.2.2.2.2.2.2.1,(eC.fn7 (x1,(x3,((0:Int),(x0,((0:Int),((0:Int),((),(([]:List aL),((aU x0).1,((aU x0).2.1,((aU x0).2.2.2,(aU x0).2.2)))))))))))).2.2.2.2.2.2.2.1)))))=true then
 if(aU.pre (eC.fn7 (x1,(x3,((0:Int),(x0,((0:Int),((0:Int),((),(([]:List aL),((aU x0).1,((aU x0).2.1,((aU x0).2.2.2,(aU x0).2.2)))))))))))).1)=true then
 some ((),((aU (eC.fn7 (x1,(x3,((0:Int),(x0,((0:Int),((0:Int),((),(([]:List aL),((aU x0).1,((aU x0).2.1,((aU x0).2.2.2,(aU x0).2.2)))))))))))).1),(false,())))
 else
 none
 else
 some ((),(((eC.fn7 (x1,(x3,((0:Int),(x0,((0:Int),((0:Int),((),(([]:List aL),((aU x0).1,((aU x0).2.1,((aU x0).2.2.2,(aU x0).2.2)))))))))))).2.2.2.2.2.1,((eC.fn7 (x1,(x3,((0:Int),(x0,((0:Int),((0:Int),((),(([]:List aL),((aU x0).1,((aU x0).2.1,((aU x0).2.2.2,(aU x0).2.2)))))))))))).2.2.2.2.2.2.1,((eC.fn7 (x1,(x3,((0:Int),(x0,((0:Int),((0:Int),((),(([]:List aL),((aU x0).1,((aU x0).2.1,((aU x0).2.2.2,(aU x0).2.2)))))))))))).2.2.2.2.2.2.2.2.1,(eC.fn7 (x1,(x3,((0:Int),(x0,((0:Int),((0:Int),((),(([]:List aL),((aU x0).1,((aU x0).2.1,((aU x0).2.2.2,(aU x0).2.2)))))))))))).2.2.2.2.2.2.2.1))),(true,())))
 else
 none
 else
 none
theorem ok7(x1:Int)(x2:List aL)(x4:Int)(x5:iQ)(x6 x7:Int)(x8:Unit)(x9:List aL)(x10 x11:Int)(x12:Unit)(x13:List aL)(hp:pre7 (x1,x2,x4,x5,x6,x7,x8,x9,x10,x11,x12,x13,())=true):
 Rounds pre7 mu7 fn7 (x1,x2,x4,x5,x6,x7,x8,x9,x10,x11,x12,x13,()) (aEW x1 x2 x4 x5 x6 x7 x8 x9 x10 x11 x12 x13):=by
 simp only[pre7,Zb,Za] at hp
 obtain⟨h1,h2,h4,h5,h6,h7,h8,h9⟩:=hp
 unfold aEW
 by_cases hlt:x4<(x2.length:Int)
 . have hi:x4.toNat<x2.length:=by omega
   rw[iX (n:=x1-x5.1) (by omega) (by omega),iX (n:=x1-x5.1+x4) (by omega) (by omega),iX (n:=x4+1) (by omega) (by omega)]
   have hk:(x1-x5.1+x4).toNat=wO x1 x5.1 x4:=rfl
   have hk1:wO x1 x5.1 (x4+1)=wO x1 x5.1 x4+1:=by unfold wO;omega
   have hput:=aI4 (x2:=x2) (out:=x13) (k:=wO x1 x5.1 x4) hi
   have h10:0<=x1-x5.1+x4:=by omega
   have hadd:(x4+1).toNat=x4.toNat+1:=by omega
   have hkk:((wO x1 x5.1 x4:Nat):Int)=x1-x5.1+x4:=Int.toNat_of_nonneg h10
   have keep:wO x1 x5.1 x4<x13.length/\(x13.getD (wO x1 x5.1 x4) E0).1=(x2.getD x4.toNat E0).1->
    Rounds pre7 mu7 fn7 (x1,x2,x4,x5,x6,x7,x8,x9,x10,x11,x12,x13,())
     (some (.inl (x1,x2,x4+1,x5,x6,x7,x8,x9,x10,x11,x12,x13,()))):=by
    intro hc
    simp only[Rounds]
    refine⟨?_,by simp only[mu7];omega,?_⟩
    . simp only[pre7,Zb,Za]
      obtain⟨hc1,_⟩:=hc
      exact⟨h1,by omega,by omega,by omega,h6,h7,h8,by omega⟩
    . simp only[fn7,hk1,hadd]
      rw[hput,if_pos hc]
   have cut:¬(wO x1 x5.1 x4<x13.length/\(x13.getD (wO x1 x5.1 x4) E0).1=(x2.getD x4.toNat E0).1)->
    Rounds pre7 mu7 fn7 (x1,x2,x4,x5,x6,x7,x8,x9,x10,x11,x12,x13,())
     (some (.inl (x1,x2,x4+1,x5,x6,x7,x8,x9,x10,x11,x12,x13.take (wO x1 x5.1 x4)++[x2.getD x4.toNat E0],()))):=by
    intro hc
    have hl:(x13.take (wO x1 x5.1 x4)++[x2.getD x4.toNat E0]).length=wO x1 x5.1 x4+1:=by
     simp only[Zf,Zr,Zg,Zh];omega
    simp only[Rounds]
    refine⟨?_,by simp only[mu7];omega,?_⟩
    . simp only[pre7,Zb,Za,hl]
      exact⟨h1,by omega,by omega,by omega,h6,h7,h8,by push_cast;omega⟩
    . simp only[fn7,hk1,hadd]
      rw[hput,if_neg hc]
   have hdt:bF (Int.toNat 0) (wO x1 x5.1 x4) x13=x13.take (wO x1 x5.1 x4):=by simp[bF]
   have hlim:(x13.take (wO x1 x5.1 x4)).length+1<=lV:=by simp only[Zr,lV];omega
   have hlim0:(x13.take (wO x1 x5.1 x4)).length<=lV:=by omega
   have hlim2:x13.length+1<=lV:=by simp only[lV];omega
   simp only[hlt,h4,h10,h9,decide_true,if_true,hk,hdt,Int.le_refl,List.append_eq,List.nil_append,Zg,Zh,Nat.zero_add,hlim,hlim0,hlim2]
   by_cases hb:x1-x5.1+x4<(x13.length:Int)
   . rw[if_pos (by simp[hb])]
     by_cases ht:(x13.getD (wO x1 x5.1 x4) E0).1=(x2.getD x4.toNat E0).1
     . rw[if_pos (by simp[hb]),if_pos (by rw[Za];exact ht)]
       exact keep ⟨by omega,ht⟩
     . rw[if_pos (by simp[hb]),if_neg (by rw[Za];exact ht)]
       exact cut fun hc=>ht hc.2
   . rw[if_neg (by simp[hb])]
     have hall:x13.take (wO x1 x5.1 x4)=x13:=List.take_of_length_le (by omega)
     have:=cut fun hc=>hb (by omega)
     rw[hall] at this
     exact this
 . simp only[hlt,decide_false,Zj,if_false,Rounds,fn7]
   rw[Zt (by omega)]
   rfl
theorem eq(x0:iQ)(x1 x2:Int)(x3:List aL)(_:wf x0 x1 x2 x3)(hp:pre x0 x1 x2 x3=true):aR x0 x1 x2 x3=some ((),((eC x0 x1 x2 x3).1,((eC x0 x1 x2 x3).2,()))):=by
 simp only[pre,Zb] at hp
 have hc:aU.pre x0=true:=hp.1
 have hl:=cC.1 hp.1
 have hx:=cC.1 hp.2
 unfold aR eC uV aU
 by_cases h1:rK x0=true
 case neg=>simp[h1]
 rw[if_neg (by simp[h1]),if_pos hc,if_pos h1]
 by_cases h2:x2<0
 . rw[if_pos (by simp[h2]),if_pos h2]
 rw[if_neg (by simp[h2]),if_neg h2]
 by_cases h3:rE x0 x1=x2
 case neg=>rw[if_pos (by simp[h3]),if_neg h3]
 rw[if_neg (by simp[h3]),if_pos h3]
 obtain⟨b1,b2,b3⟩:=aA5 h1
 obtain⟨t1,t2⟩:=aFE h3 h2
 have hpre:pre7 (x1,(x3,((0:Int),(x0,((0:Int),((0:Int),((),(([]:List aL),(x0.1,(x0.2.1,(x0.2.2.2,x0.2.2)))))))))))=true:=by
  simp only[pre7,Zb,Za]
  exact⟨hx,(by show x0.2.2.1.length<=16777216+Int.toNat 0;omega),by omega,by omega,b1,b2,t1,(by show x1-x0.1+0<=(x0.2.2.1.length:Int);omega)⟩
 rw[if_pos hpre]
 have hfn:fn7 (x1,(x3,((0:Int),(x0,((0:Int),((0:Int),((),(([]:List aL),(x0.1,(x0.2.1,(x0.2.2.2,x0.2.2)))))))))))=
  (x0,(0,(0,((),(([]:List aL),(x0.1,(x0.2.1,((),(aCw x3 x0.2.2.1 (wO x1 x0.1 0),()))))))))):=rfl
 simp only[hfn,hc]
 by_cases h4:rK (x0.1,(x0.2.1,(aCw x3 x0.2.2.1 (wO x1 x0.1 0),())))=true
 . simp[h4]
 . simp[h4]
end eC
def qF(ok:Nat->Bool):Nat->Nat->Bool
 |_,0=>true
 |i,k+1=>ok i&&qF ok (i+1) k
theorem aIg{ok:Nat->Bool}:(k i:Nat)->(qF ok i k=true↔∀j,i<=j->j<i+k->ok j=true)
 |0,i=>by simp only[qF,true_iff];intro j h1 h2;omega
 |k+1,i=>by
  simp only[qF,Zb,aIg k (i+1)]
  constructor
  . rintro⟨h1,h2⟩ j h3 h4
    rcases Nat.lt_or_ge i j with h|h
    . exact h2 j h (by omega)
    . rw[show j=i by omega];exact h1
  . intro h
    exact⟨h i (Nat.le_refl _) (by omega),fun j h1 h2=>h j (by omega) (by omega)⟩
theorem xW{ok:Nat->Bool}{n:Nat}:qF ok 0 n=true↔∀j,j<n->ok j=true:=by
 rw[aIg]
 exact⟨fun h j hj=>h j (Nat.zero_le _) (by omega),fun h j _ hj=>h j (by omega)⟩
theorem aEV{a b:Nat->Bool}:(k i:Nat)->qF (fun j=>a j&&b j) i k=(qF a i k&&qF b i k)
 |0,_=>rfl
 |k+1,i=>by
  simp only[qF,aEV k (i+1)]
  cases a i<;>cases b i<;>simp
theorem yP{α:Type}{p:α->Bool}{d:α}{xs:List α}:qF (fun j=>p (xs.getD j d)) 0 xs.length=xs.all p:=by
 rw[Bool.eq_iff_iff,xW,Zu]
 constructor
 . intro h x hx
   obtain⟨j,hj,rfl⟩:=List.mem_iff_getElem.1 hx
   have:=h j hj
   rwa [eZ hj] at this
 . intro h j hj
   rw[eZ hj]
   exact h _ (List.getElem_mem _)
theorem aC0{α:Type}{p:α->Bool}{xs:List α}(h:xs.all p=true){i:Nat}(hi:i<xs.length)(d:α):p (xs.getD i d)=true:=by
 rw[eZ hi];exact Zu.1 h _ (List.getElem_mem _)
section
variable {α β:Type}
def pJ(n:Nat)(i:Int):Bool:=decide (n<=16777216)&&(decide (0<=i)&&decide (i<=(n:Int)))
def xV(ok:Nat->Bool)(n:Nat)(i:Int)(r:β):(Bool×Unit)⊕β:=cond (qF ok i.toNat (n-i.toNat)) (.inr r) (.inl (false,()))
theorem mO{n:Nat}{i:Int}(h:pJ n i=true):n<=16777216/\0<=i/\i<=(n:Int):=by
 simpa only[pJ,Zb,Za] using h
theorem rS{n:Nat}{i:Int}(h:pJ n i=true)(hlt:i<(n:Int)):
 wrap .i64 (i+1)=i+1/\pJ n (i+1)=true/\n-(i+1).toNat<n-i.toNat/\(i+1).toNat=i.toNat+1:=by
 obtain⟨h1,h2,h3⟩:=mO h
 refine⟨iX (by omega) (by omega),?_,by omega,by omega⟩
 simp only[pJ,Zb,Za];omega
theorem xE{n:Nat}{i:Int}(h:pJ n i=true)(h0:0<i):wrap .i64 (i-1)=i-1/\0<=i-1/\i-1<(n:Int)/\(i-1).toNat=i.toNat-1/\¬i.toNat=0:=by
 obtain⟨h1,h2,h3⟩:=mO h
 exact⟨iX (by omega) (by omega),by omega,by omega,by omega,by omega⟩
theorem rO{ok:Nat->Bool}{n:Nat}{i:Int}{r:β}(h:pJ n i=true)(hlt:i<(n:Int))(hk:ok i.toNat=true):xV ok n (i+1) r=xV ok n i r:=by
 obtain⟨h1,h2,h3⟩:=mO h
 unfold xV
 rw[show n-i.toNat=(n-(i+1).toNat)+1 by omega,qF,hk,Bool.true_and,show(i+1).toNat=i.toNat+1 by omega]
theorem rR{ok:Nat->Bool}{n:Nat}{i:Int}{r:β}(h:pJ n i=true)(hlt:i<(n:Int))(hk:ok i.toNat=false):.inl (false,())=xV ok n i r:=by
 obtain⟨h1,h2,h3⟩:=mO h
 unfold xV
 rw[show n-i.toNat=(n-(i+1).toNat)+1 by omega,qF,hk];rfl
theorem uT{ok:Nat->Bool}{n:Nat}{i:Int}{r:β}(h:pJ n i=true)(hlt:¬i<(n:Int)):.inr r=xV ok n i r:=by
 obtain⟨h1,h2,h3⟩:=mO h
 unfold xV
 rw[show n-i.toNat=0 by omega];rfl
theorem pO{n:Nat}(h:n<=16777216):pJ n 0=true:=by simp[pJ,h]
theorem uR{ok:Nat->Bool}{n:Nat}{r:β}:xV ok n 0 r=cond (qF ok 0 n) (.inr r) (.inl (false,())):=by simp[xV]
end
def aFr(e:eS):Bool:=gK e.2.1&&(gK e.2.2.1&&(aB e.2.2.2.1 0 3&&aB e.2.2.2.2.1 0 100000))
def wJ(x:cL)(j:Nat):Bool:=aB (x.2.2.1.getD j wT).1 x.1 (wrap .i64 (x.2.1-1))&&((decide (j=0)||decide ((x.2.2.1.getD (j-1) wT).1<(x.2.2.1.getD j wT).1))&&aFr (x.2.2.1.getD j wT))
def pP(x:cL):Bool:=aB x.1 0 x.2.1&&(decide (x.2.1<=100000)&&(decide ((x.2.2.1.length:Int)<=80)&&qF (wJ x) 0 x.2.2.1.length))
abbrev lE:=pP
abbrev lC:=pP
namespace lE
abbrev S4:Type:=((List eS)×(Int×(Int×(cL×Unit))))
abbrev O4:Type:=((Bool×Unit)⊕Unit)
def pre(x:cL):Bool:=dJ x.2.2.1
noncomputable def pre4:S4->Bool:=fun(x1,x2,x3,x4,_)=>same x1 x4.2.2.1&&(decide (x2=(x4.2.2.1.length:Int))&&pJ x4.2.2.1.length x3)
def fn4:S4->O4:=fun(_,_,x3,x4,_)=>xV (wJ x4) x4.2.2.1.length x3 ()
def qD:S4->Nat:=fun(_,_,x3,x4,_)=>x4.2.2.1.length-x3.toNat
noncomputable def hJ(x1:(List eS))(x2:Int)(x3:Int)(x4:cL):Option (((List eS)×(Int×(Int×(cL×Unit))))⊕((Bool×Unit)⊕Unit)):=
 if(decide (x3<x2))=true then
 if(decide ((0:Int)<=x3))=true then
 if(decide (x3<((length x1:Nat):Int)))=true then
 letB (aB (List.getD x1 (Int.toNat x3) wT).1 x4.1 (wrap .i64 (x4.2.1-(1:Int)))) fun v1=>
 if(!v1)=true then
 some (.inr (.inl (false,())))
 else
 if(decide ((0:Int)<x3))=true then
 if(decide ((0:Int)<=(wrap .i64 (x3-(1:Int)))))=true then
 if(decide ((wrap .i64 (x3-(1:Int)))<((length x4.2.2.1:Nat):Int)))=true then
 if(decide ((List.getD x1 (Int.toNat x3) wT).1<=(List.getD x4.2.2.1 (Int.toNat (wrap .i64 (x3-(1:Int)))) wT).1))=true then
 some (.inr (.inl (false,())))
 else
 letB (gK (List.getD x1 (Int.toNat x3) wT).2.1) fun v2=>
 if(!v2)=true then
 some (.inr (.inl (false,())))
 else
 letB (gK (List.getD x1 (Int.toNat x3) wT).2.2.1) fun v3=>
 if(!v3)=true then
 some (.inr (.inl (false,())))
 else
 letB (aB (List.getD x1 (Int.toNat x3) wT).2.2.2.1 (0:Int) (3:Int)) fun v4=>
 if(!v4)=true then
 some (.inr (.inl (false,())))
 else
 letB (aB (List.getD x1 (Int.toNat x3) wT).2.2.2.2.1 (0:Int) (100000:Int)) fun v5=>
 if(!v5)=true then
 some (.inr (.inl (false,())))
 else
 some (.inl (x1,(x2,((wrap .i64 (x3+(1:Int))),(x4,())))))
 else
 none
 else
 none
 else
 letB (gK (List.getD x1 (Int.toNat x3) wT).2.1) fun v6=>
 if(!v6)=true then
 some (.inr (.inl (false,())))
 else
 letB (gK (List.getD x1 (Int.toNat x3) wT).2.2.1) fun v7=>
 if(!v7)=true then
 some (.inr (.inl (false,())))
 else
 letB (aB (List.getD x1 (Int.toNat x3) wT).2.2.2.1 (0:Int) (3:Int)) fun v8=>
 if(!v8)=true then
 some (.inr (.inl (false,())))
 else
 letB (aB (List.getD x1 (Int.toNat x3) wT).2.2.2.2.1 (0:Int) (100000:Int)) fun v9=>
 if(!v9)=true then
 some (.inr (.inl (false,())))
 else
 some (.inl (x1,(x2,((wrap .i64 (x3+(1:Int))),(x4,())))))
 else
 none
 else
 none
 else
 some (.inr (.inr ()))
abbrev wf(x0:cL):Prop:=fV [(.val aAi .f)] (x0,())
noncomputable def aR(x0:cL):Option lA:=
 letB (aB x0.1 (0:Int) x0.2.1) fun v1=>
 if(!v1)=true then
  some ((),(false,()))
 else
  if(decide ((100000:Int)<x0.2.1))=true then
   some ((),(false,()))
  else
   if(decide ((80:Int)<((length x0.2.2.1:Nat):Int)))=true then
    some ((),(false,()))
   else
    if(lE.pre4 (x0.2.2.1,(((length x0.2.2.1:Nat):Int),((0:Int),(x0,())))))=true then
     letB (lE.fn4 (x0.2.2.1,(((length x0.2.2.1:Nat):Int),((0:Int),(x0,()))))) fun v2=>
     match v2 with
     |.inl y=>
      some ((),y)
     |.inr y=>
      some ((),(true,()))
    else
     none
theorem yT(x1:List eS)(x2 x3:Int)(x4:cL)(hp:pre4 (x1,(x2,(x3,(x4,()))))=true):Rounds pre4 qD fn4 (x1,(x2,(x3,(x4,())))) (hJ x1 x2 x3 x4):=by
 simp only[pre4,Zb,Za,bV] at hp
 obtain⟨rfl,rfl,ha⟩:=hp
 obtain⟨h1,h2,h3⟩:=mO ha
 unfold hJ
 by_cases hlt:x3<(x4.2.2.1.length:Int)
 . obtain⟨n1,n2,n3,n4⟩:=rS ha hlt
   have nxt:wJ x4 x3.toNat=true->Rounds pre4 qD fn4 (x4.2.2.1,((x4.2.2.1.length:Int),(x3,(x4,())))) (some (.inl (x4.2.2.1,((x4.2.2.1.length:Int),(x3+1,(x4,())))))):=
    fun h=>⟨by simp only[pre4,pS,n2];simp,n3,rO ha hlt h⟩
   have stp:wJ x4 x3.toNat=false->Rounds pre4 qD fn4 (x4.2.2.1,((x4.2.2.1.length:Int),(x3,(x4,())))) (some (.inr (.inl (false,())))):=fun h=>rR ha hlt h
   simp only[letB,n1,hlt,h2,decide_true,if_true]
   by_cases h0:0<x3
   . obtain⟨p1,p2,p3,p4,p5⟩:=xE ha h0
     simp only[p1,p2,p3,p4,h0,decide_true,if_true]
     simp only[wJ,aFr,p5,decide_false,Bool.false_or] at nxt stp
     generalize x4.2.2.1.getD x3.toNat wT=e at *
     generalize x4.2.2.1.getD (x3.toNat-1) wT=e' at *
     generalize aB e.1 x4.1 (wrap .i64 (x4.2.1-1))=b1 at *
     generalize gK e.2.1=b2 at *
     generalize gK e.2.2.1=b3 at *
     generalize aB e.2.2.2.1 0 3=b4 at *
     generalize aB e.2.2.2.2.1 0 100000=b5 at *
     by_cases hd:e.1<=e'.1
     . simp only[hd,show ¬e'.1<e.1 by omega,decide_true,decide_false,if_true] at *
       cases b1<;>exact stp rfl
     . simp only[hd,show e'.1<e.1 by omega,decide_true,decide_false] at *
       cases b1
       . exact stp rfl
       cases b2
       . exact stp rfl
       cases b3
       . exact stp rfl
       cases b4
       . exact stp rfl
       cases b5
       . exact stp rfl
       . exact nxt rfl
   . have p5:x3.toNat=0:=by omega
     simp only[h0,decide_false,Zj,if_false]
     simp only[wJ,aFr,p5,decide_true,Bool.true_or,Bool.true_and] at nxt stp ⊢
     generalize x4.2.2.1.getD 0 wT=e at *
     generalize aB e.1 x4.1 (wrap .i64 (x4.2.1-1))=b1 at *
     generalize gK e.2.1=b2 at *
     generalize gK e.2.2.1=b3 at *
     generalize aB e.2.2.2.1 0 3=b4 at *
     generalize aB e.2.2.2.2.1 0 100000=b5 at *
     cases b1
     . exact stp rfl
     cases b2
     . exact stp rfl
     cases b3
     . exact stp rfl
     cases b4
     . exact stp rfl
     cases b5
     . exact stp rfl
     . exact nxt rfl
 . rw[if_neg (by simp[hlt])]
   exact uT ha hlt
theorem eq(x0:cL)(_:wf x0)(hp:pre x0=true):aR x0=some ((),(lE x0,())):=by
 have hs:=cC.1 hp
 unfold aR lE pP
 simp only[letB]
 cases aB x0.1 0 x0.2.1
 . rfl
 by_cases h1:100000<x0.2.1
 . rw[if_neg (by decide),if_pos (Zd h1),decide_eq_false (p:=x0.2.1<=100000) (by omega)];rfl
 by_cases h2:80<(x0.2.2.1.length:Int)
 . rw[if_neg (by decide),if_neg (by simp[h1]),if_pos (Zd h2),Zd (p:=x0.2.1<=100000) (by omega),decide_eq_false (p:=(x0.2.2.1.length:Int)<=80) (by omega)];rfl
 rw[if_neg (by decide),if_neg (by simp[h1]),if_neg (by simp[h2]),Zd (p:=x0.2.1<=100000) (by omega),Zd (p:=(x0.2.2.1.length:Int)<=80) (by omega),
  if_pos (show pre4 _=true by simp only[pre4,pS,pO hs];simp)]
 rw[show fn4 (x0.2.2.1,((x0.2.2.1.length:Int),((0:Int),(x0,()))))=_ from uR]
 cases qF (wJ x0) 0 x0.2.2.1.length<;>rfl
end lE
abbrev mV:=aFr
namespace mV
def pre(e:eS):Bool:=decide (e.1<=e.1)
abbrev wf(x0:eS):Prop:=fV [(.val aHB .f)] (x0,())
noncomputable def aR(x0:eS):Option lA:=
 letB (gK x0.2.1) fun v1=>
 if v1=true then
 letB (gK x0.2.2.1) fun v2=>
 if v2=true then
 letB (aB x0.2.2.2.1 (0:Int) (3:Int)) fun v3=>
 if v3=true then
 letB (aB x0.2.2.2.2.1 (0:Int) (100000:Int)) fun v4=>
 some ((),(v4,()))
 else
 some ((),(false,()))
 else
 some ((),(false,()))
 else
 some ((),(false,()))
theorem eq(x0:eS)(_:wf x0)(_:pre x0=true):aR x0=some ((),(mV x0,())):=by
 unfold aR
 show _=some ((),(aFr x0,()))
 unfold aFr
 simp only[letB]
 cases gK x0.2.1<;>cases gK x0.2.2.1<;>cases aB x0.2.2.2.1 0 3<;>simp
end mV
namespace lC
abbrev S2:Type:=(Int×(cL×Unit))
abbrev O2:Type:=((Bool×Unit)⊕(cL×Unit))
def pre(x:cL):Bool:=dJ x.2.2.1
def pre2:S2->Bool:=fun(x1,x2,_)=>pJ x2.2.2.1.length x1
def fn2:S2->O2:=fun(x1,x2,_)=>xV (wJ x2) x2.2.2.1.length x1 (x2,())
def kX:S2->Nat:=fun(x1,x2,_)=>x2.2.2.1.length-x1.toNat
noncomputable def cU(x1:Int)(x2:cL):Option ((Int×(cL×Unit))⊕((Bool×Unit)⊕(cL×Unit))):=
 if(decide (x1<((length x2.2.2.1:Nat):Int)))=true then
 if(decide ((0:Int)<=x1))=true then
 if(decide (x1<((length x2.2.2.1:Nat):Int)))=true then
 if(mV.pre (List.getD x2.2.2.1 (Int.toNat x1) wT))=true then
 letB (aFr (List.getD x2.2.2.1 (Int.toNat x1) wT)) fun v1=>
 if(!v1)=true then
 some (.inr (.inl (false,())))
 else
 if(decide ((0:Int)<=x1))=true then
 if(decide (x1<((length x2.2.2.1:Nat):Int)))=true then
 letB (aB (List.getD x2.2.2.1 (Int.toNat x1) wT).1 x2.1 (wrap .i64 (x2.2.1-(1:Int)))) fun v2=>
 if(!v2)=true then
 some (.inr (.inl (false,())))
 else
 if(decide ((0:Int)<x1))=true then
 if(decide ((0:Int)<=(wrap .i64 (x1-(1:Int)))))=true then
 if(decide ((wrap .i64 (x1-(1:Int)))<((length x2.2.2.1:Nat):Int)))=true then
 if(decide ((0:Int)<=x1))=true then
 if(decide (x1<((length x2.2.2.1:Nat):Int)))=true then
 if(decide ((List.getD x2.2.2.1 (Int.toNat x1) wT).1<=(List.getD x2.2.2.1 (Int.toNat (wrap .i64 (x1-(1:Int)))) wT).1))=true then
 some (.inr (.inl (false,())))
 else
 some (.inl ((wrap .i64 (x1+(1:Int))),(x2,())))
 else
 none
 else
 none
 else
 none
 else
 none
 else
 some (.inl ((wrap .i64 (x1+(1:Int))),(x2,())))
 else
 none
 else
 none
 else
 none
 else
 none
 else
 none
 else
 some (.inr (.inr (x2,())))
abbrev wf(x0:cL):Prop:=fV [(.val aAi .f)] (x0,())
noncomputable def aR(x0:cL):Option lA:=
 if(lC.pre2 ((0:Int),(x0,())))=true then
  letB (lC.fn2 ((0:Int),(x0,()))) fun v1=>
  match v1 with
  |.inl y=>
   some ((),y)
  |.inr y=>
   letB (aB y.1.1 (0:Int) y.1.2.1) fun v2=>
   if v2=true then
    if(decide (y.1.2.1<=(100000:Int)))=true then
     some ((),((decide (((length y.1.2.2.1:Nat):Int)<=(80:Int))),()))
    else
     some ((),(false,()))
   else
    some ((),(false,()))
 else
  none
theorem qG(x1:Int)(x2:cL)(ha:pre2 (x1,(x2,()))=true):Rounds pre2 kX fn2 (x1,(x2,())) (cU x1 x2):=by
 have ha:pJ x2.2.2.1.length x1=true:=ha
 obtain⟨h1,h2,h3⟩:=mO ha
 unfold cU
 by_cases hlt:x1<(x2.2.2.1.length:Int)
 . obtain⟨n1,n2,n3,n4⟩:=rS ha hlt
   have nxt:wJ x2 x1.toNat=true->Rounds pre2 kX fn2 (x1,(x2,())) (some (.inl (x1+1,(x2,())))):=fun h=>⟨n2,n3,rO ha hlt h⟩
   have stp:wJ x2 x1.toNat=false->Rounds pre2 kX fn2 (x1,(x2,())) (some (.inr (.inl (false,())))):=fun h=>rR ha hlt h
   simp only[letB,n1,hlt,h2,decide_true,if_true,show mV.pre (x2.2.2.1.getD x1.toNat wT)=true from Zd (Int.le_refl _)]
   by_cases h0:0<x1
   . obtain⟨p1,p2,p3,p4,p5⟩:=xE ha h0
     simp only[p1,p2,p3,p4,h0,decide_true,if_true]
     simp only[wJ,p5,decide_false,Bool.false_or] at nxt stp
     generalize x2.2.2.1.getD x1.toNat wT=e at *
     generalize x2.2.2.1.getD (x1.toNat-1) wT=e' at *
     generalize aB e.1 x2.1 (wrap .i64 (x2.2.1-1))=b1 at *
     generalize aFr e=b2 at *
     by_cases hd:e.1<=e'.1
     . simp only[hd,show ¬e'.1<e.1 by omega,decide_true,decide_false,if_true] at *
       cases b1<;>cases b2<;>exact stp rfl
     . simp only[hd,show e'.1<e.1 by omega,decide_true,decide_false] at *
       cases b1<;>cases b2
       . exact stp rfl
       . exact stp rfl
       . exact stp rfl
       . exact nxt rfl
   . have p5:x1.toNat=0:=by omega
     simp only[h0,decide_false,Zj,if_false]
     simp only[wJ,p5,decide_true,Bool.true_or,Bool.true_and] at nxt stp ⊢
     generalize x2.2.2.1.getD 0 wT=e at *
     generalize aB e.1 x2.1 (wrap .i64 (x2.2.1-1))=b1 at *
     generalize aFr e=b2 at *
     cases b1<;>cases b2
     . exact stp rfl
     . exact stp rfl
     . exact stp rfl
     . exact nxt rfl
 . rw[if_neg (by simp[hlt])]
   exact uT ha hlt
theorem eq(x0:cL)(_:wf x0)(hp:pre x0=true):aR x0=some ((),(lC x0,())):=by
 have hs:=cC.1 hp
 unfold aR lC pP
 rw[if_pos (show pre2 ((0:Int),(x0,()))=true from pO hs),show fn2 ((0:Int),(x0,()))=_ from uR]
 simp only[letB]
 cases qF (wJ x0) 0 x0.2.2.1.length
 . simp
 simp only[cond_true]
 cases aB x0.1 0 x0.2.1<;>cases decide (x0.2.1<=100000)<;>cases decide ((x0.2.2.1.length:Int)<=80)<;>rfl
end lC
def aEu(xs:List eQ)(j:Nat):Bool:=decide (j=0)||decide ((xs.getD (j-1) nT).2.1<(xs.getD j nT).2.1)
def aCY(m:aK)(j:Nat):Bool:=decide ((m.2.2.2.2.1.getD j nT).1=wrap .i64 (wrap .i64 (wrap .i64 (m.2.2.2.1-(m.2.2.2.2.1.length:Int))+1)+(j:Int)))&&(aB (m.2.2.2.2.1.getD j nT).2.1 0 100000&&aEu m.2.2.2.2.1 j)
def aDb(m:aK)(j:Nat):Bool:=decide ((m.2.2.2.2.1.getD j nT).1=wrap .i64 (m.2.2.2.1-wrap .i64 (wrap .i64 ((m.2.2.2.2.1.length:Int)-1)-(j:Int))))&&(aB (m.2.2.2.2.1.getD j nT).2.1 0 100000&&aEu m.2.2.2.2.1 j)
def aAK(m:aK):Bool:=aB m.1 0 3&&(aB m.2.1 0 3&&(aB m.2.2.1 0 100000&&aB m.2.2.2.1 (-1) 100000))
def dG(m:aK)(w:Int):Bool:=aAK m&&(decide ((m.2.2.2.2.1.length:Int)<=w)&&((decide (m.2.2.2.1=-1)==decide ((m.2.2.2.2.1.length:Int)=0))&&qF (aCY m) 0 m.2.2.2.2.1.length))
def dA(m:aK)(w:Int):Bool:=qF (aDb m) 0 m.2.2.2.2.1.length&&(decide ((m.2.2.2.2.1.length:Int)<=w)&&(decide ((m.2.2.2.2.1.length:Int)<=wrap .i64 (m.2.2.2.1+1))&&(!(decide (0<=m.2.2.2.1)&&decide ((m.2.2.2.2.1.length:Int)=0))&&aAK m)))
namespace dG
abbrev S4:Type:=((List eQ)×(Int×(Int×(aK×Unit))))
abbrev O4:Type:=((Bool×Unit)⊕Unit)
def pre(x:aK)(_:Int):Bool:=dJ x.2.2.2.2.1
noncomputable def pre4:S4->Bool:=fun(x1,x2,x3,x4,_)=>same x1 x4.2.2.2.2.1&&(decide (x2=(x4.2.2.2.2.1.length:Int))&&pJ x4.2.2.2.2.1.length x3)
def fn4:S4->O4:=fun(_,_,x3,x4,_)=>xV (aCY x4) x4.2.2.2.2.1.length x3 ()
def qD:S4->Nat:=fun(_,_,x3,x4,_)=>x4.2.2.2.2.1.length-x3.toNat
noncomputable def hJ(x1:(List eQ))(x2:Int)(x3:Int)(x4:aK):Option (((List eQ)×(Int×(Int×(aK×Unit))))⊕((Bool×Unit)⊕Unit)):=
 if(decide (x3<x2))=true then
 if(decide ((0:Int)<=x3))=true then
 if(decide (x3<((length x1:Nat):Int)))=true then
 if(!(decide ((List.getD x1 (Int.toNat x3) nT).1=(wrap .i64 ((wrap .i64 ((wrap .i64 (x4.2.2.2.1-((length x4.2.2.2.2.1:Nat):Int)))+(1:Int)))+x3)))))=true then
 some (.inr (.inl (false,())))
 else
 letB (aB (List.getD x1 (Int.toNat x3) nT).2.1 (0:Int) (100000:Int)) fun v1=>
 if(!v1)=true then
 some (.inr (.inl (false,())))
 else
 if(decide ((0:Int)<x3))=true then
 if(decide ((0:Int)<=(wrap .i64 (x3-(1:Int)))))=true then
 if(decide ((wrap .i64 (x3-(1:Int)))<((length x4.2.2.2.2.1:Nat):Int)))=true then
 if(decide ((List.getD x1 (Int.toNat x3) nT).2.1<=(List.getD x4.2.2.2.2.1 (Int.toNat (wrap .i64 (x3-(1:Int)))) nT).2.1))=true then
 some (.inr (.inl (false,())))
 else
 some (.inl (x1,(x2,((wrap .i64 (x3+(1:Int))),(x4,())))))
 else
 none
 else
 none
 else
 some (.inl (x1,(x2,((wrap .i64 (x3+(1:Int))),(x4,())))))
 else
 none
 else
 none
 else
 some (.inr (.inr ()))
abbrev wf(x0:aK)(x1:Int):Prop:=fV [(.val aBA .f),(.val (.int .i64) .f)] (x0,(x1,()))
noncomputable def aR(x0:aK)(x1:Int):Option lA:=
 letB (aB x0.1 (0:Int) (3:Int)) fun v1=>
 if(!v1)=true then
  some ((),(false,()))
 else
  letB (aB x0.2.1 (0:Int) (3:Int)) fun v2=>
  if(!v2)=true then
   some ((),(false,()))
  else
   letB (aB x0.2.2.1 (0:Int) (100000:Int)) fun v3=>
   if(!v3)=true then
    some ((),(false,()))
   else
    letB (aB x0.2.2.2.1 (-1:Int) (100000:Int)) fun v4=>
    if(!v4)=true then
     some ((),(false,()))
    else
     if(decide (x1<((length x0.2.2.2.2.1:Nat):Int)))=true then
      some ((),(false,()))
     else
      if(!((decide (x0.2.2.2.1=(-1:Int)))==(decide (((length x0.2.2.2.2.1:Nat):Int)=(0:Int)))))=true then
       some ((),(false,()))
      else
       if(dG.pre4 (x0.2.2.2.2.1,(((length x0.2.2.2.2.1:Nat):Int),((0:Int),(x0,())))))=true then
        letB (dG.fn4 (x0.2.2.2.2.1,(((length x0.2.2.2.2.1:Nat):Int),((0:Int),(x0,()))))) fun v5=>
        match v5 with
        |.inl y=>
         some ((),y)
        |.inr y=>
         some ((),(true,()))
       else
        none
theorem yT(x1:List eQ)(x2 x3:Int)(x4:aK)(hp:pre4 (x1,(x2,(x3,(x4,()))))=true):Rounds pre4 qD fn4 (x1,(x2,(x3,(x4,())))) (hJ x1 x2 x3 x4):=by
 simp only[pre4,Zb,Za,bV] at hp
 obtain⟨rfl,rfl,ha⟩:=hp
 obtain⟨h1,h2,h3⟩:=mO ha
 unfold hJ
 by_cases hlt:x3<(x4.2.2.2.2.1.length:Int)
 . obtain⟨n1,n2,n3,n4⟩:=rS ha hlt
   have nxt:aCY x4 x3.toNat=true->Rounds pre4 qD fn4 (x4.2.2.2.2.1,((x4.2.2.2.2.1.length:Int),(x3,(x4,())))) (some (.inl (x4.2.2.2.2.1,((x4.2.2.2.2.1.length:Int),(x3+1,(x4,())))))):=
    fun h=>⟨by simp only[pre4,pS,n2];simp,n3,rO ha hlt h⟩
   have stp:aCY x4 x3.toNat=false->Rounds pre4 qD fn4 (x4.2.2.2.2.1,((x4.2.2.2.2.1.length:Int),(x3,(x4,())))) (some (.inr (.inl (false,())))):=fun h=>rR ha hlt h
   simp only[letB,n1,hlt,h2,decide_true,if_true]
   simp only[aCY,aEu,Int.toNat_of_nonneg h2] at nxt stp
   by_cases h0:0<x3
   . obtain⟨p1,p2,p3,p4,p5⟩:=xE ha h0
     simp only[p1,p2,p3,p4,h0,decide_true,if_true]
     simp only[p5,decide_false,Bool.false_or] at nxt stp
     generalize x4.2.2.2.2.1.getD x3.toNat nT=e at *
     generalize x4.2.2.2.2.1.getD (x3.toNat-1) nT=e' at *
     generalize decide (e.1=_)=b1 at *
     generalize aB e.2.1 0 100000=b2 at *
     by_cases hd:e.2.1<=e'.2.1
     . simp only[hd,show ¬e'.2.1<e.2.1 by omega,decide_true,decide_false,if_true] at *
       cases b1<;>cases b2<;>exact stp rfl
     . simp only[hd,show e'.2.1<e.2.1 by omega,decide_true,decide_false] at *
       cases b1<;>cases b2
       . exact stp rfl
       . exact stp rfl
       . exact stp rfl
       . exact nxt rfl
   . have p5:x3.toNat=0:=by omega
     simp only[h0,decide_false,Zj,if_false]
     simp only[p5,decide_true,Bool.true_or,Bool.and_true] at nxt stp ⊢
     generalize x4.2.2.2.2.1.getD 0 nT=e at *
     generalize decide (e.1=_)=b1 at *
     generalize aB e.2.1 0 100000=b2 at *
     cases b1<;>cases b2
     . exact stp rfl
     . exact stp rfl
     . exact stp rfl
     . exact nxt rfl
 . rw[if_neg (by simp[hlt])]
   exact uT ha hlt
theorem eq(x0:aK)(x1:Int)(_:wf x0 x1)(hp:pre x0 x1=true):aR x0 x1=some ((),(dG x0 x1,())):=by
 have hs:=cC.1 (show dJ x0.2.2.2.2.1=true from hp)
 unfold aR dG aAK
 simp only[letB]
 rw[show pre4 (x0.2.2.2.2.1,((x0.2.2.2.2.1.length:Int),((0:Int),(x0,()))))=true by simp only[pre4,pS,pO hs];simp,
  show fn4 (x0.2.2.2.2.1,((x0.2.2.2.2.1.length:Int),((0:Int),(x0,()))))=_ from uR]
 generalize qF (aCY x0) 0 x0.2.2.2.2.1.length=b
 generalize (decide (x0.2.2.2.1=-1)==decide ((x0.2.2.2.2.1.length:Int)=0))=c
 by_cases h:x1<(x0.2.2.2.2.1.length:Int)
 . rw[Zd h,decide_eq_false (p:=(x0.2.2.2.2.1.length:Int)<=x1) (by omega)]
   cases aB x0.1 0 3<;>cases aB x0.2.1 0 3<;>cases aB x0.2.2.1 0 100000<;>cases aB x0.2.2.2.1 (-1) 100000<;>rfl
 . rw[decide_eq_false h,Zd (p:=(x0.2.2.2.2.1.length:Int)<=x1) (by omega)]
   cases aB x0.1 0 3<;>cases aB x0.2.1 0 3<;>cases aB x0.2.2.1 0 100000<;>cases aB x0.2.2.2.1 (-1) 100000<;>cases b<;>cases c<;>rfl
end dG
namespace dA
abbrev S2:Type:=(Int×(Int×(aK×Unit)))
abbrev O2:Type:=((Bool×Unit)⊕(Int×(aK×Unit)))
def pre(x:aK)(_:Int):Bool:=dJ x.2.2.2.2.1
def pre2:S2->Bool:=fun(_,x2,x3,_)=>pJ x3.2.2.2.2.1.length x2
def fn2:S2->O2:=fun(x1,x2,x3,_)=>xV (aDb x3) x3.2.2.2.2.1.length x2 (x1,(x3,()))
def kX:S2->Nat:=fun(_,x2,x3,_)=>x3.2.2.2.2.1.length-x2.toNat
noncomputable def cU(x1:Int)(x2:Int)(x3:aK):Option ((Int×(Int×(aK×Unit)))⊕((Bool×Unit)⊕(Int×(aK×Unit)))):=
 if(decide (x2<((length x3.2.2.2.2.1:Nat):Int)))=true then
 if(decide ((0:Int)<=x2))=true then
 if(decide (x2<((length x3.2.2.2.2.1:Nat):Int)))=true then
 letB (aB (List.getD x3.2.2.2.2.1 (Int.toNat x2) nT).2.1 (0:Int) (100000:Int)) fun v1=>
 if(!v1)=true then
 some (.inr (.inl (false,())))
 else
 if(decide ((0:Int)<=x2))=true then
 if(decide (x2<((length x3.2.2.2.2.1:Nat):Int)))=true then
 if(!(decide ((List.getD x3.2.2.2.2.1 (Int.toNat x2) nT).1=(wrap .i64 (x3.2.2.2.1-(wrap .i64 ((wrap .i64 (((length x3.2.2.2.2.1:Nat):Int)-(1:Int)))-x2)))))))=true then
 some (.inr (.inl (false,())))
 else
 if(decide ((0:Int)<x2))=true then
 if(decide ((0:Int)<=(wrap .i64 (x2-(1:Int)))))=true then
 if(decide ((wrap .i64 (x2-(1:Int)))<((length x3.2.2.2.2.1:Nat):Int)))=true then
 if(decide ((0:Int)<=x2))=true then
 if(decide (x2<((length x3.2.2.2.2.1:Nat):Int)))=true then
 if(decide ((List.getD x3.2.2.2.2.1 (Int.toNat x2) nT).2.1<=(List.getD x3.2.2.2.2.1 (Int.toNat (wrap .i64 (x2-(1:Int)))) nT).2.1))=true then
 some (.inr (.inl (false,())))
 else
 some (.inl (x1,((wrap .i64 (x2+(1:Int))),(x3,()))))
 else
 none
 else
 none
 else
 none
 else
 none
 else
 some (.inl (x1,((wrap .i64 (x2+(1:Int))),(x3,()))))
 else
 none
 else
 none
 else
 none
 else
 none
 else
 some (.inr (.inr (x1,(x3,()))))
abbrev wf(x0:aK)(x1:Int):Prop:=fV [(.val aBA .f),(.val (.int .i64) .f)] (x0,(x1,()))
noncomputable def aR(x0:aK)(x1:Int):Option lA:=
 if(dA.pre2 (x1,((0:Int),(x0,()))))=true then
  letB (dA.fn2 (x1,((0:Int),(x0,())))) fun v1=>
  match v1 with
  |.inl y=>
   some ((),y)
  |.inr y=>
   if(decide (y.1<((length y.2.1.2.2.2.2.1:Nat):Int)))=true then
    some ((),(false,()))
   else
    if(decide ((wrap .i64 (y.2.1.2.2.2.1+(1:Int)))<((length y.2.1.2.2.2.2.1:Nat):Int)))=true then
     some ((),(false,()))
    else
     if(decide ((0:Int)<=y.2.1.2.2.2.1))=true then
      if(decide (((length y.2.1.2.2.2.2.1:Nat):Int)=(0:Int)))=true then
       some ((),(false,()))
      else
       letB (aB y.2.1.1 (0:Int) (3:Int)) fun v2=>
       if v2=true then
        letB (aB y.2.1.2.1 (0:Int) (3:Int)) fun v3=>
        if v3=true then
         letB (aB y.2.1.2.2.1 (0:Int) (100000:Int)) fun v4=>
         if v4=true then
          letB (aB y.2.1.2.2.2.1 (-1:Int) (100000:Int)) fun v5=>
          some ((),(v5,()))
         else
          some ((),(false,()))
        else
         some ((),(false,()))
       else
        some ((),(false,()))
     else
      letB (aB y.2.1.1 (0:Int) (3:Int)) fun v6=>
      if v6=true then
       letB (aB y.2.1.2.1 (0:Int) (3:Int)) fun v7=>
       if v7=true then
        letB (aB y.2.1.2.2.1 (0:Int) (100000:Int)) fun v8=>
        if v8=true then
         letB (aB y.2.1.2.2.2.1 (-1:Int) (100000:Int)) fun v9=>
         some ((),(v9,()))
        else
         some ((),(false,()))
       else
        some ((),(false,()))
      else
       some ((),(false,()))
 else
  none
theorem qG(x1 x2:Int)(x3:aK)(ha:pre2 (x1,(x2,(x3,())))=true):Rounds pre2 kX fn2 (x1,(x2,(x3,()))) (cU x1 x2 x3):=by
 have ha:pJ x3.2.2.2.2.1.length x2=true:=ha
 obtain⟨h1,h2,h3⟩:=mO ha
 unfold cU
 by_cases hlt:x2<(x3.2.2.2.2.1.length:Int)
 . obtain⟨n1,n2,n3,n4⟩:=rS ha hlt
   have nxt:aDb x3 x2.toNat=true->Rounds pre2 kX fn2 (x1,(x2,(x3,()))) (some (.inl (x1,(x2+1,(x3,()))))):=fun h=>⟨n2,n3,rO ha hlt h⟩
   have stp:aDb x3 x2.toNat=false->Rounds pre2 kX fn2 (x1,(x2,(x3,()))) (some (.inr (.inl (false,())))):=fun h=>rR ha hlt h
   simp only[letB,n1,hlt,h2,decide_true,if_true]
   simp only[aDb,aEu,Int.toNat_of_nonneg h2] at nxt stp
   by_cases h0:0<x2
   . obtain⟨p1,p2,p3,p4,p5⟩:=xE ha h0
     simp only[p1,p2,p3,p4,h0,decide_true,if_true]
     simp only[p5,decide_false,Bool.false_or] at nxt stp
     generalize x3.2.2.2.2.1.getD x2.toNat nT=e at *
     generalize x3.2.2.2.2.1.getD (x2.toNat-1) nT=e' at *
     generalize decide (e.1=_)=b1 at *
     generalize aB e.2.1 0 100000=b2 at *
     by_cases hd:e.2.1<=e'.2.1
     . simp only[hd,show ¬e'.2.1<e.2.1 by omega,decide_true,decide_false,if_true] at *
       cases b1<;>cases b2<;>exact stp rfl
     . simp only[hd,show e'.2.1<e.2.1 by omega,decide_true,decide_false] at *
       cases b1<;>cases b2
       . exact stp rfl
       . exact stp rfl
       . exact stp rfl
       . exact nxt rfl
   . have p5:x2.toNat=0:=by omega
     simp only[h0,decide_false,Zj,if_false]
     simp only[p5,decide_true,Bool.true_or,Bool.and_true] at nxt stp ⊢
     generalize x3.2.2.2.2.1.getD 0 nT=e at *
     generalize decide (e.1=_)=b1 at *
     generalize aB e.2.1 0 100000=b2 at *
     cases b1<;>cases b2
     . exact stp rfl
     . exact stp rfl
     . exact stp rfl
     . exact nxt rfl
 . rw[if_neg (by simp[hlt])]
   exact uT ha hlt
theorem eq(x0:aK)(x1:Int)(_:wf x0 x1)(hp:pre x0 x1=true):aR x0 x1=some ((),(dA x0 x1,())):=by
 have hs:=cC.1 (show dJ x0.2.2.2.2.1=true from hp)
 unfold aR dA aAK
 rw[if_pos (show pre2 (x1,((0:Int),(x0,())))=true from pO hs),show fn2 (x1,((0:Int),(x0,())))=_ from uR]
 simp only[letB]
 cases qF (aDb x0) 0 x0.2.2.2.2.1.length
 . rfl
 simp only[cond_true]
 by_cases h1:x1<(x0.2.2.2.2.1.length:Int)
 . rw[if_pos (Zd h1),decide_eq_false (p:=(x0.2.2.2.2.1.length:Int)<=x1) (by omega)];rfl
 rw[if_neg (by simp[h1]),Zd (p:=(x0.2.2.2.2.1.length:Int)<=x1) (by omega)]
 by_cases h2:wrap .i64 (x0.2.2.2.1+1)<(x0.2.2.2.2.1.length:Int)
 . rw[if_pos (Zd h2),decide_eq_false (p:=(x0.2.2.2.2.1.length:Int)<=wrap .i64 (x0.2.2.2.1+1)) (by omega)];rfl
 rw[if_neg (by simp[h2]),Zd (p:=(x0.2.2.2.2.1.length:Int)<=wrap .i64 (x0.2.2.2.1+1)) (by omega)]
 generalize decide (0<=x0.2.2.2.1)=c1
 generalize decide ((x0.2.2.2.2.1.length:Int)=0)=c2
 cases c1<;>cases c2<;>cases aB x0.1 0 3<;>cases aB x0.2.1 0 3<;>cases aB x0.2.2.1 0 100000<;>rfl
end dA
theorem aH6{α:Type}(x0:List α)(x1:(α->Bool)×(α->Bool)):
 (letB (aC3 (x0,(x1.1,(x1.2,(((length x0:Nat):Int),((0:Int),())))))) fun v=>match v with|.inl y=>some ((),y)|.inr y=>some ((),((-1:Int),())))=some ((),(vS x1.2 x0 0,())):=by
 have hlo:=(aBQ x1.2 x0 0 (by omega)).1
 by_cases h:vS x1.2 x0 0<0
 . rw[show aC3 (x0,(x1.1,(x1.2,(((x0.length:Nat):Int),((0:Int),())))))=.inr () from if_pos h,show vS x1.2 x0 0=-1 by omega];rfl
 . rw[show aC3 (x0,(x1.1,(x1.2,(((x0.length:Nat):Int),((0:Int),())))))=.inl (vS x1.2 x0 0,()) from if_neg h];rfl
theorem aGM{α:Type}(p:α->Bool)(x0:List α):decide (0<=vS p x0 0)=x0.any p:=by
 rw[Bool.eq_iff_iff,Za]
 exact(aBQ p x0 0 (by omega)).2
def dC(xs:List Int)(p:(Int->Bool)×(Int->Bool)):Int:=vS p.2 xs 0
namespace dC
def pre(xs:List Int)(p:(Int->Bool)×(Int->Bool)):Bool:=xs.all p.1
def pre2:=tI (α:=Int)
def fn2:=aC3 (α:=Int)
def kX:=aHa (α:=Int)
noncomputable def cU(x1:(List Int))(x2:(Int->Bool))(x3:(Int->Bool))(x4:Int)(x5:Int):Option (((List Int)×((Int->Bool)×((Int->Bool)×eQ)))⊕((Int×Unit)⊕Unit)):=
 if(decide (x5<x4))=true then
 if(decide ((0:Int)<=x5))=true then
 if(decide (x5<((length x1:Nat):Int)))=true then
 if(x2 (List.getD x1 (Int.toNat x5) (0:Int)))=true then
 if(x3 (List.getD x1 (Int.toNat x5) (0:Int)))=true then
 some (.inr (.inl (x5,())))
 else
 some (.inl (x1,(x2,(x3,(x4,((wrap .i64 (x5+(1:Int))),()))))))
 else
 none
 else
 none
 else
 none
 else
 some (.inr (.inr ()))
abbrev wf(x0:(List Int))(x1:((Int->Bool)×(Int->Bool))):Prop:=fV [(.val (.sl 0 (.int .i64)) .f),(.fn (.int .i64) .bool)] (x0,(x1,()))
noncomputable def aR(x0:(List Int))(x1:((Int->Bool)×(Int->Bool))):Option xS:=
 if(dC.pre2 (x0,(x1.1,(x1.2,(((length x0:Nat):Int),((0:Int),()))))))=true then
  letB (dC.fn2 (x0,(x1.1,(x1.2,(((length x0:Nat):Int),((0:Int),())))))) fun v1=>
  match v1 with
  |.inl y=>
   some ((),y)
  |.inr y=>
   some ((),((-1:Int),()))
 else
  none
theorem qG(x1:List Int)(x2 x3:Int->Bool)(x4 x5:Int)(hp:pre2 (x1,(x2,(x3,(x4,(x5,())))))=true):Rounds pre2 kX fn2 (x1,(x2,(x3,(x4,(x5,()))))) (cU x1 x2 x3 x4 x5):=by
 unfold cU
 by_cases hlt:x5<x4
 . obtain⟨h1,h2,h3,h4,h5⟩:=aCi hp hlt (0:Int)
   simp only[hlt,h1,h2,h3,decide_true,if_true]
   split
   . rename_i h;exact h4 h
   . rename_i h;exact h5 h
 . simp only[hlt,decide_false,Zj,if_false]
   exact aDZ hp hlt
theorem eq(x0:List Int)(x1:(Int->Bool)×(Int->Bool))(hw:wf x0 x1)(hp:pre x0 x1=true):aR x0 x1=some ((),(dC x0 x1,())):=by
 have h1:x0.length<=maxLen:=hw.1.1
 unfold aR
 rw[if_pos (show pre2 _=true by simp only[pre2,tI,Zb,Za];exact⟨h1,trivial,by omega,by simp,hp⟩)]
 exact aH6 x0 x1
end dC
def cR(xs:List Int)(p:(Int->Bool)×(Int->Bool)):Bool:=xs.any p.2
namespace cR
def pre(xs:List Int)(p:(Int->Bool)×(Int->Bool)):Bool:=xs.all p.1
abbrev wf(x0:(List Int))(x1:((Int->Bool)×(Int->Bool))):Prop:=fV [(.val (.sl 0 (.int .i64)) .f),(.fn (.int .i64) .bool)] (x0,(x1,()))
noncomputable def aR(x0:(List Int))(x1:((Int->Bool)×(Int->Bool))):Option lA:=
 if(dC.pre x0 x1)=true then
 letB (dC x0 x1) fun v1=>
 some ((),((decide ((0:Int)<=v1)),()))
 else
 none
theorem eq(x0:List Int)(x1:(Int->Bool)×(Int->Bool))(_:wf x0 x1)(hp:pre x0 x1=true):aR x0 x1=some ((),(cR x0 x1,())):=by
 unfold aR
 exact dT (show dC.pre _ _=true from hp) (congrArg (fun b=>some ((),(b,()))) (aGM x1.2 x0))
end cR
def dB(xs:List cL)(p:(cL->Bool)×(cL->Bool)):Int:=vS p.2 xs 0
namespace dB
def pre(xs:List cL)(p:(cL->Bool)×(cL->Bool)):Bool:=xs.all p.1
def pre2:=tI (α:=cL)
def fn2:=aC3 (α:=cL)
def kX:=aHa (α:=cL)
noncomputable def cU(x1:(List cL))(x2:(cL->Bool))(x3:(cL->Bool))(x4:Int)(x5:Int):Option (((List cL)×((cL->Bool)×((cL->Bool)×eQ)))⊕((Int×Unit)⊕Unit)):=
 if(decide (x5<x4))=true then
 if(decide ((0:Int)<=x5))=true then
 if(decide (x5<((length x1:Nat):Int)))=true then
 if(x2 (List.getD x1 (Int.toNat x5) oS))=true then
 if(x3 (List.getD x1 (Int.toNat x5) oS))=true then
 some (.inr (.inl (x5,())))
 else
 some (.inl (x1,(x2,(x3,(x4,((wrap .i64 (x5+(1:Int))),()))))))
 else
 none
 else
 none
 else
 none
 else
 some (.inr (.inr ()))
abbrev wf(x0:(List cL))(x1:((cL->Bool)×(cL->Bool))):Prop:=fV [(.val (.sl 0 aAi) .f),(.fn aAi .bool)] (x0,(x1,()))
noncomputable def aR(x0:(List cL))(x1:((cL->Bool)×(cL->Bool))):Option xS:=
 if(dB.pre2 (x0,(x1.1,(x1.2,(((length x0:Nat):Int),((0:Int),()))))))=true then
  letB (dB.fn2 (x0,(x1.1,(x1.2,(((length x0:Nat):Int),((0:Int),())))))) fun v1=>
  match v1 with
  |.inl y=>
   some ((),y)
  |.inr y=>
   some ((),((-1:Int),()))
 else
  none
theorem qG(x1:List cL)(x2 x3:cL->Bool)(x4 x5:Int)(hp:pre2 (x1,(x2,(x3,(x4,(x5,())))))=true):Rounds pre2 kX fn2 (x1,(x2,(x3,(x4,(x5,()))))) (cU x1 x2 x3 x4 x5):=by
 unfold cU
 by_cases hlt:x5<x4
 . obtain⟨h1,h2,h3,h4,h5⟩:=aCi hp hlt oS
   simp only[hlt,h1,h2,h3,decide_true,if_true]
   split
   . rename_i h;exact h4 h
   . rename_i h;exact h5 h
 . simp only[hlt,decide_false,Zj,if_false]
   exact aDZ hp hlt
theorem eq(x0:List cL)(x1:(cL->Bool)×(cL->Bool))(hw:wf x0 x1)(hp:pre x0 x1=true):aR x0 x1=some ((),(dB x0 x1,())):=by
 have h1:x0.length<=maxLen:=hw.1.1
 unfold aR
 rw[if_pos (show pre2 _=true by simp only[pre2,tI,Zb,Za];exact⟨h1,trivial,by omega,by simp,hp⟩)]
 exact aH6 x0 x1
end dB
def cQ(xs:List cL)(p:(cL->Bool)×(cL->Bool)):Bool:=xs.any p.2
namespace cQ
def pre(xs:List cL)(p:(cL->Bool)×(cL->Bool)):Bool:=xs.all p.1
abbrev wf(x0:(List cL))(x1:((cL->Bool)×(cL->Bool))):Prop:=fV [(.val (.sl 0 aAi) .f),(.fn aAi .bool)] (x0,(x1,()))
noncomputable def aR(x0:(List cL))(x1:((cL->Bool)×(cL->Bool))):Option lA:=
 if(dB.pre x0 x1)=true then
 letB (dB x0 x1) fun v1=>
 some ((),((decide ((0:Int)<=v1)),()))
 else
 none
theorem eq(x0:List cL)(x1:(cL->Bool)×(cL->Bool))(_:wf x0 x1)(hp:pre x0 x1=true):aR x0 x1=some ((),(cQ x0 x1,())):=by
 unfold aR
 exact dT (show dB.pre _ _=true from hp) (congrArg (fun b=>some ((),(b,()))) (aGM x1.2 x0))
end cQ
def cN(xs:List aJ)(p:(aJ->Bool)×(aJ->Bool)):Int:=vS p.2 xs 0
namespace cN
def pre(xs:List aJ)(p:(aJ->Bool)×(aJ->Bool)):Bool:=xs.all p.1
def pre2:=tI (α:=aJ)
def fn2:=aC3 (α:=aJ)
def kX:=aHa (α:=aJ)
noncomputable def cU(x1:(List aJ))(x2:(aJ->Bool))(x3:(aJ->Bool))(x4:Int)(x5:Int):Option (((List aJ)×((aJ->Bool)×((aJ->Bool)×eQ)))⊕((Int×Unit)⊕Unit)):=
 if(decide (x5<x4))=true then
 if(decide ((0:Int)<=x5))=true then
 if(decide (x5<((length x1:Nat):Int)))=true then
 if(x2 (List.getD x1 (Int.toNat x5) vB))=true then
 if(x3 (List.getD x1 (Int.toNat x5) vB))=true then
 some (.inr (.inl (x5,())))
 else
 some (.inl (x1,(x2,(x3,(x4,((wrap .i64 (x5+(1:Int))),()))))))
 else
 none
 else
 none
 else
 none
 else
 some (.inr (.inr ()))
abbrev wf(x0:(List aJ))(x1:((aJ->Bool)×(aJ->Bool))):Prop:=fV [(.val (.sl 0 aAk) .f),(.fn aAk .bool)] (x0,(x1,()))
noncomputable def aR(x0:(List aJ))(x1:((aJ->Bool)×(aJ->Bool))):Option xS:=
 if(cN.pre2 (x0,(x1.1,(x1.2,(((length x0:Nat):Int),((0:Int),()))))))=true then
  letB (cN.fn2 (x0,(x1.1,(x1.2,(((length x0:Nat):Int),((0:Int),())))))) fun v1=>
  match v1 with
  |.inl y=>
   some ((),y)
  |.inr y=>
   some ((),((-1:Int),()))
 else
  none
theorem qG(x1:List aJ)(x2 x3:aJ->Bool)(x4 x5:Int)(hp:pre2 (x1,(x2,(x3,(x4,(x5,())))))=true):Rounds pre2 kX fn2 (x1,(x2,(x3,(x4,(x5,()))))) (cU x1 x2 x3 x4 x5):=by
 unfold cU
 by_cases hlt:x5<x4
 . obtain⟨h1,h2,h3,h4,h5⟩:=aCi hp hlt vB
   simp only[hlt,h1,h2,h3,decide_true,if_true]
   split
   . rename_i h;exact h4 h
   . rename_i h;exact h5 h
 . simp only[hlt,decide_false,Zj,if_false]
   exact aDZ hp hlt
theorem eq(x0:List aJ)(x1:(aJ->Bool)×(aJ->Bool))(hw:wf x0 x1)(hp:pre x0 x1=true):aR x0 x1=some ((),(cN x0 x1,())):=by
 have h1:x0.length<=maxLen:=hw.1.1
 unfold aR
 rw[if_pos (show pre2 _=true by simp only[pre2,tI,Zb,Za];exact⟨h1,trivial,by omega,by simp,hp⟩)]
 exact aH6 x0 x1
end cN
def cF(xs:List aJ)(p:(aJ->Bool)×(aJ->Bool)):Bool:=xs.any p.2
namespace cF
def pre(xs:List aJ)(p:(aJ->Bool)×(aJ->Bool)):Bool:=xs.all p.1
abbrev wf(x0:(List aJ))(x1:((aJ->Bool)×(aJ->Bool))):Prop:=fV [(.val (.sl 0 aAk) .f),(.fn aAk .bool)] (x0,(x1,()))
noncomputable def aR(x0:(List aJ))(x1:((aJ->Bool)×(aJ->Bool))):Option lA:=
 if(cN.pre x0 x1)=true then
 letB (cN x0 x1) fun v1=>
 some ((),((decide ((0:Int)<=v1)),()))
 else
 none
theorem eq(x0:List aJ)(x1:(aJ->Bool)×(aJ->Bool))(_:wf x0 x1)(hp:pre x0 x1=true):aR x0 x1=some ((),(cF x0 x1,())):=by
 unfold aR
 exact dT (show cN.pre _ _=true from hp) (congrArg (fun b=>some ((),(b,()))) (aGM x1.2 x0))
end cF
def cJ(xs:List aM)(p:(aM->Bool)×(aM->Bool)):Int:=vS p.2 xs 0
namespace cJ
def pre(xs:List aM)(p:(aM->Bool)×(aM->Bool)):Bool:=xs.all p.1
def pre2:=tI (α:=aM)
def fn2:=aC3 (α:=aM)
def kX:=aHa (α:=aM)
noncomputable def cU(x1:(List aM))(x2:(aM->Bool))(x3:(aM->Bool))(x4:Int)(x5:Int):Option (((List aM)×((aM->Bool)×((aM->Bool)×eQ)))⊕((Int×Unit)⊕Unit)):=
 if(decide (x5<x4))=true then
 if(decide ((0:Int)<=x5))=true then
 if(decide (x5<((length x1:Nat):Int)))=true then
 if(x2 (List.getD x1 (Int.toNat x5) sI))=true then
 if(x3 (List.getD x1 (Int.toNat x5) sI))=true then
 some (.inr (.inl (x5,())))
 else
 some (.inl (x1,(x2,(x3,(x4,((wrap .i64 (x5+(1:Int))),()))))))
 else
 none
 else
 none
 else
 none
 else
 some (.inr (.inr ()))
abbrev wf(x0:(List aM))(x1:((aM->Bool)×(aM->Bool))):Prop:=fV [(.val (.sl 0 aBw) .f),(.fn aBw .bool)] (x0,(x1,()))
noncomputable def aR(x0:(List aM))(x1:((aM->Bool)×(aM->Bool))):Option xS:=
 if(cJ.pre2 (x0,(x1.1,(x1.2,(((length x0:Nat):Int),((0:Int),()))))))=true then
  letB (cJ.fn2 (x0,(x1.1,(x1.2,(((length x0:Nat):Int),((0:Int),())))))) fun v1=>
  match v1 with
  |.inl y=>
   some ((),y)
  |.inr y=>
   some ((),((-1:Int),()))
 else
  none
theorem qG(x1:List aM)(x2 x3:aM->Bool)(x4 x5:Int)(hp:pre2 (x1,(x2,(x3,(x4,(x5,())))))=true):Rounds pre2 kX fn2 (x1,(x2,(x3,(x4,(x5,()))))) (cU x1 x2 x3 x4 x5):=by
 unfold cU
 by_cases hlt:x5<x4
 . obtain⟨h1,h2,h3,h4,h5⟩:=aCi hp hlt sI
   simp only[hlt,h1,h2,h3,decide_true,if_true]
   split
   . rename_i h;exact h4 h
   . rename_i h;exact h5 h
 . simp only[hlt,decide_false,Zj,if_false]
   exact aDZ hp hlt
theorem eq(x0:List aM)(x1:(aM->Bool)×(aM->Bool))(hw:wf x0 x1)(hp:pre x0 x1=true):aR x0 x1=some ((),(cJ x0 x1,())):=by
 have h1:x0.length<=maxLen:=hw.1.1
 unfold aR
 rw[if_pos (show pre2 _=true by simp only[pre2,tI,Zb,Za];exact⟨h1,trivial,by omega,by simp,hp⟩)]
 exact aH6 x0 x1
end cJ
def bU(xs:List aM)(p:(aM->Bool)×(aM->Bool)):Bool:=xs.any p.2
namespace bU
def pre(xs:List aM)(p:(aM->Bool)×(aM->Bool)):Bool:=xs.all p.1
abbrev wf(x0:(List aM))(x1:((aM->Bool)×(aM->Bool))):Prop:=fV [(.val (.sl 0 aBw) .f),(.fn aBw .bool)] (x0,(x1,()))
noncomputable def aR(x0:(List aM))(x1:((aM->Bool)×(aM->Bool))):Option lA:=
 if(cJ.pre x0 x1)=true then
 letB (cJ x0 x1) fun v1=>
 some ((),((decide ((0:Int)<=v1)),()))
 else
 none
theorem eq(x0:List aM)(x1:(aM->Bool)×(aM->Bool))(_:wf x0 x1)(hp:pre x0 x1=true):aR x0 x1=some ((),(bU x0 x1,())):=by
 unfold aR
 exact dT (show cJ.pre _ _=true from hp) (congrArg (fun b=>some ((),(b,()))) (aGM x1.2 x0))
end bU
def gN(n:Int):Bool:=aB n 0 3
namespace gN
def pre(n:Int):Bool:=decide (n<=n)
abbrev wf(x0:Int):Prop:=fV [(.val (.int .i64) .f)] (x0,())
noncomputable def aR(x0:Int):Option lA:=
 letB (aB x0 (0:Int) (3:Int)) fun v1=>
 some ((),(v1,()))
theorem eq(x0:Int)(_:wf x0)(_:pre x0=true):aR x0=some ((),(gN x0,())):=rfl
end gN
def eY(n lo hi:Int):Bool:=!aB n lo hi
namespace eY
def pre(_ _ _:Int):Bool:=true
abbrev wf(x0:Int)(x1:Int)(x2:Int):Prop:=fV [(.val (.int .i64) .f),(.peek (.int .i64)),(.peek (.int .i64))] (x0,(x1,(x2,())))
noncomputable def aR(x0:Int)(x1:Int)(x2:Int):Option lA:=
 letB (aB x0 x1 x2) fun v1=>
 some ((),((!v1),()))
theorem eq(x0 x1 x2:Int)(_:wf x0 x1 x2)(_:pre x0 x1 x2=true):aR x0 x1 x2=some ((),(eY x0 x1 x2,())):=rfl
end eY
def bD(xs:List Int)(lo hi:Int):Bool:=xs.all fun n=>aB n lo hi
namespace bD
def pre(_:List Int)(lo _:Int):Bool:=decide (lo<=lo)
abbrev wf(x0:(List Int))(x1:Int)(x2:Int):Prop:=fV [(.val (.sl 0 (.int .i64)) .f),(.val (.int .i64) .f),(.val (.int .i64) .f)] (x0,(x1,(x2,())))
noncomputable def aR(x0:(List Int))(x1:Int)(x2:Int):Option lA:=
 if(cR.pre x0 ((fun x=>(eY.pre x x1 x2)),(fun x=>(eY x x1 x2))))=true then
 letB (cR x0 ((fun x=>(eY.pre x x1 x2)),(fun x=>(eY x x1 x2)))) fun v1=>
 some ((),((!v1),()))
 else
 none
theorem eq(x0:List Int)(x1 x2:Int)(_:wf x0 x1 x2)(_:pre x0 x1 x2=true):aR x0 x1 x2=some ((),(bD x0 x1 x2,())):=by
 unfold aR
 refine dT (show cR.pre _ _=true by simp[cR.pre,eY.pre]) (congrArg (fun b=>some ((),(b,()))) ?_)
 show(!x0.any fun x=>!aB x x1 x2)=_
 rw[aGR,Bool.not_not];rfl
end bD
def nI(a:aM):Bool:=aB a.1 0 9&&(aB a.2.1 (-1) 100000&&(gK a.2.2.1&&gK a.2.2.2.1))
abbrev jN:=nI
abbrev jJ:=nI
namespace jN
def pre(a:aM):Bool:=decide (a.1<=a.1)
abbrev wf(x0:aM):Prop:=fV [(.val aBw .f)] (x0,())
noncomputable def aR(x0:aM):Option lA:=
 letB (aB x0.1 (0:Int) (9:Int)) fun v1=>
 if v1=true then
 letB (aB x0.2.1 (-1:Int) (100000:Int)) fun v2=>
 if v2=true then
 letB (gK x0.2.2.1) fun v3=>
 if v3=true then
 letB (gK x0.2.2.2.1) fun v4=>
 some ((),(v4,()))
 else
 some ((),(false,()))
 else
 some ((),(false,()))
 else
 some ((),(false,()))
theorem eq(x0:aM)(_:wf x0)(_:pre x0=true):aR x0=some ((),(jN x0,())):=by
 unfold aR jN nI
 simp only[letB]
 cases aB x0.1 0 9<;>cases aB x0.2.1 (-1) 100000<;>cases gK x0.2.2.1<;>simp
end jN
namespace jJ
def pre(a:aM):Bool:=decide (a.1<=a.1)
abbrev wf(x0:aM):Prop:=fV [(.val aBw .f)] (x0,())
noncomputable def aR(x0:aM):Option lA:=
 letB (aB x0.1 (0:Int) (9:Int)) fun v1=>
 if v1=true then
 letB (aB x0.2.1 (-1:Int) (100000:Int)) fun v2=>
 if v2=true then
 letB (gK x0.2.2.1) fun v3=>
 if v3=true then
 letB (gK x0.2.2.2.1) fun v4=>
 some ((),(v4,()))
 else
 some ((),(false,()))
 else
 some ((),(false,()))
 else
 some ((),(false,()))
theorem eq(x0:aM)(_:wf x0)(_:pre x0=true):aR x0=some ((),(jJ x0,())):=by
 unfold aR jJ nI
 simp only[letB]
 cases aB x0.1 0 9<;>cases aB x0.2.1 (-1) 100000<;>cases gK x0.2.2.1<;>simp
end jJ
abbrev wG:=gN
def yM(xs:List Int)(j:Nat):Bool:=wG (xs.getD j (0:Int))&&(decide (j=0)||decide (xs.getD (j-1) (0:Int)<xs.getD j (0:Int)))
def jQ(g:aJ)(rows:Int):Bool:=decide ((g.2.2.1.length:Int)=(g.2.1.length:Int))&&(decide ((g.2.2.2.1.length:Int)=rows)&&(aB g.1 0 100000&&(qF (yM g.2.1) 0 g.2.1.length&&(bD g.2.2.1 0 100000&&bD g.2.2.2.1 0 100000))))
abbrev iY:=jQ
abbrev gZ:=jQ
namespace iY
abbrev S2:Type:=(Int×((List Int)×(Int×(Int×aAx))))
abbrev O2:Type:=((Bool×Unit)⊕(Int×aAx))
def pre(g:aJ)(_:Int):Bool:=oW g
noncomputable def pre2:S2->Bool:=fun(_,x2,x3,x4,x5,_)=>same x2 x5.2.1&&(decide (x3=(x5.2.1.length:Int))&&pJ x5.2.1.length x4)
def fn2:S2->O2:=fun(x1,_,_,x4,x5,_)=>xV (yM x5.2.1) x5.2.1.length x4 (x1,(x5,()))
def kX:S2->Nat:=fun(_,_,_,x4,x5,_)=>x5.2.1.length-x4.toNat
noncomputable def cU(x1:Int)(x2:(List Int))(x3:Int)(x4:Int)(x5:aJ):Option ((Int×((List Int)×(Int×(Int×aAx))))⊕((Bool×Unit)⊕(Int×aAx))):=
 if(decide (x4<x3))=true then
 if(decide ((0:Int)<=x4))=true then
 if(decide (x4<((length x2:Nat):Int)))=true then
 if(gN.pre (List.getD x2 (Int.toNat x4) (0:Int)))=true then
 letB (wG (List.getD x2 (Int.toNat x4) (0:Int))) fun v1=>
 if(!v1)=true then
 some (.inr (.inl (false,())))
 else
 if(decide ((0:Int)<x4))=true then
 if(decide ((0:Int)<=(wrap .i64 (x4-(1:Int)))))=true then
 if(decide ((wrap .i64 (x4-(1:Int)))<((length x5.2.1:Nat):Int)))=true then
 if(decide ((List.getD x2 (Int.toNat x4) (0:Int))<=(List.getD x5.2.1 (Int.toNat (wrap .i64 (x4-(1:Int)))) (0:Int))))=true then
 some (.inr (.inl (false,())))
 else
 some (.inl (x1,(x2,(x3,((wrap .i64 (x4+(1:Int))),(x5,()))))))
 else
 none
 else
 none
 else
 some (.inl (x1,(x2,(x3,((wrap .i64 (x4+(1:Int))),(x5,()))))))
 else
 none
 else
 none
 else
 none
 else
 some (.inr (.inr (x1,(x5,()))))
abbrev wf(x0:aJ)(x1:Int):Prop:=fV [(.val aAk .f),(.val (.int .i64) .f)] (x0,(x1,()))
noncomputable def aR(x0:aJ)(x1:Int):Option lA:=
 if(iY.pre2 (x1,(x0.2.1,(((length x0.2.1:Nat):Int),((0:Int),(x0,()))))))=true then
  letB (iY.fn2 (x1,(x0.2.1,(((length x0.2.1:Nat):Int),((0:Int),(x0,())))))) fun v1=>
  match v1 with
  |.inl y=>
   some ((),y)
  |.inr y=>
   letB (aB y.2.1.1 (0:Int) (100000:Int)) fun v2=>
   if v2=true then
    if(decide (((length y.2.1.2.2.1:Nat):Int)=((length y.2.1.2.1:Nat):Int)))=true then
     if(bD.pre y.2.1.2.2.1 (0:Int) (100000:Int))=true then
      letB (bD y.2.1.2.2.1 (0:Int) (100000:Int)) fun v3=>
      if v3=true then
       if(decide (((length y.2.1.2.2.2.1:Nat):Int)=y.1))=true then
        if(bD.pre y.2.1.2.2.2.1 (0:Int) (100000:Int))=true then
         letB (bD y.2.1.2.2.2.1 (0:Int) (100000:Int)) fun v4=>
         some ((),(v4,()))
        else
         none
       else
        some ((),(false,()))
      else
       some ((),(false,()))
     else
      none
    else
     some ((),(false,()))
   else
    some ((),(false,()))
 else
  none
theorem qG(x1:Int)(x2:List Int)(x3 x4:Int)(x5:aJ)(hp:pre2 (x1,(x2,(x3,(x4,(x5,())))))=true):Rounds pre2 kX fn2 (x1,(x2,(x3,(x4,(x5,()))))) (cU x1 x2 x3 x4 x5):=by
 simp only[pre2,Zb,Za,bV] at hp
 obtain⟨rfl,rfl,ha⟩:=hp
 obtain⟨h1,h2,h3⟩:=mO ha
 unfold cU
 by_cases hlt:x4<(x5.2.1.length:Int)
 . obtain⟨n1,n2,n3,n4⟩:=rS ha hlt
   have nxt:yM x5.2.1 x4.toNat=true->Rounds pre2 kX fn2 (x1,(x5.2.1,((x5.2.1.length:Int),(x4,(x5,()))))) (some (.inl (x1,(x5.2.1,((x5.2.1.length:Int),(x4+1,(x5,()))))))):=
    fun h=>⟨by simp only[pre2,pS,n2];simp,n3,rO ha hlt h⟩
   have stp:yM x5.2.1 x4.toNat=false->Rounds pre2 kX fn2 (x1,(x5.2.1,((x5.2.1.length:Int),(x4,(x5,()))))) (some (.inr (.inl (false,())))):=fun h=>rR ha hlt h
   simp only[letB,n1,hlt,h2,decide_true,if_true,show gN.pre (x5.2.1.getD x4.toNat (0:Int))=true from Zd (Int.le_refl _)]
   simp only[yM] at nxt stp
   by_cases h0:0<x4
   . obtain⟨p1,p2,p3,p4,p5⟩:=xE ha h0
     simp only[p1,p2,p3,p4,h0,decide_true,if_true]
     simp only[p5,decide_false,Bool.false_or] at nxt stp
     generalize x5.2.1.getD x4.toNat (0:Int)=e at *
     generalize x5.2.1.getD (x4.toNat-1) (0:Int)=e' at *
     generalize wG e=b1 at *
     by_cases hd:e<=e'
     . simp only[hd,show ¬e'<e by omega,decide_true,decide_false,if_true] at *
       cases b1<;>exact stp rfl
     . simp only[hd,show e'<e by omega,decide_true,decide_false] at *
       cases b1
       . exact stp rfl
       . exact nxt rfl
   . have p5:x4.toNat=0:=by omega
     simp only[h0,decide_false,Zj,if_false]
     simp only[p5,decide_true,Bool.true_or,Bool.and_true] at nxt stp ⊢
     generalize x5.2.1.getD 0 (0:Int)=e at *
     generalize wG e=b1 at *
     cases b1
     . exact stp rfl
     . exact nxt rfl
 . rw[if_neg (by simp[hlt])]
   exact uT ha hlt
theorem eq(x0:aJ)(x1:Int)(_:wf x0 x1)(hp:pre x0 x1=true):aR x0 x1=some ((),(iY x0 x1,())):=by
 have hp:oW x0=true:=hp
 simp only[oW,Zb,cC] at hp
 unfold aR iY jQ
 rw[if_pos (show pre2 (x1,(x0.2.1,((x0.2.1.length:Int),((0:Int),(x0,())))))=true by simp only[pre2,pS,pO hp.1];simp),
  show fn2 (x1,(x0.2.1,((x0.2.1.length:Int),((0:Int),(x0,())))))=_ from uR]
 simp only[letB]
 cases qF (yM x0.2.1) 0 x0.2.1.length
 . simp
 simp only[cond_true,show ∀l:List Int,bD.pre l 0 100000=true from fun _=>rfl,if_true]
 cases aB x0.1 0 100000<;>cases decide ((x0.2.2.1.length:Int)=(x0.2.1.length:Int))<;>cases decide ((x0.2.2.2.1.length:Int)=x1)<;>cases bD x0.2.2.1 0 100000<;>rfl
end iY
namespace gZ
abbrev S4:Type:=(Int×aAx)
abbrev O4:Type:=((Bool×Unit)⊕aAx)
abbrev S9:Type:=(Int×aAx)
abbrev O9:Type:=((Bool×Unit)⊕Unit)
def pre(g:aJ)(_:Int):Bool:=oW g
def gAt(g:aJ)(j:Nat):Bool:=yM g.2.1 j&&aB (g.2.2.1.getD j (0:Int)) 0 100000
def oAt(g:aJ)(j:Nat):Bool:=aB (g.2.2.2.1.getD j (0:Int)) 0 100000
def pre4:S4->Bool:=fun(x1,x2,_)=>decide (x2.2.2.1.length=x2.2.1.length)&&(decide (x2.2.2.2.1.length<=16777216)&&pJ x2.2.1.length x1)
def fn4:S4->O4:=fun(x1,x2,_)=>xV (gAt x2) x2.2.1.length x1 (x2,())
def qD:S4->Nat:=fun(x1,x2,_)=>x2.2.1.length-x1.toNat
def pre9:S9->Bool:=fun(x1,x2,_)=>pJ x2.2.2.2.1.length x1
def fn9:S9->O9:=fun(x1,x2,_)=>xV (oAt x2) x2.2.2.2.1.length x1 ()
def mu9:S9->Nat:=fun(x1,x2,_)=>x2.2.2.2.1.length-x1.toNat
noncomputable def hJ(x1:Int)(x2:aJ):Option ((Int×aAx)⊕((Bool×Unit)⊕aAx)):=
 if(decide (x1<((length x2.2.1:Nat):Int)))=true then
 if(decide ((0:Int)<=x1))=true then
 if(decide (x1<((length x2.2.1:Nat):Int)))=true then
 letB (aB (List.getD x2.2.1 (Int.toNat x1) (0:Int)) (0:Int) (3:Int)) fun v1=>
 if(!v1)=true then
 some (.inr (.inl (false,())))
 else
 if(decide ((0:Int)<x1))=true then
 if(decide ((0:Int)<=(wrap .i64 (x1-(1:Int)))))=true then
 if(decide ((wrap .i64 (x1-(1:Int)))<((length x2.2.1:Nat):Int)))=true then
 if(decide ((0:Int)<=x1))=true then
 if(decide (x1<((length x2.2.1:Nat):Int)))=true then
 if(decide ((List.getD x2.2.1 (Int.toNat x1) (0:Int))<=(List.getD x2.2.1 (Int.toNat (wrap .i64 (x1-(1:Int)))) (0:Int))))=true then
 some (.inr (.inl (false,())))
 else
 if(decide ((0:Int)<=x1))=true then
 if(decide (x1<((length x2.2.2.1:Nat):Int)))=true then
 letB (aB (List.getD x2.2.2.1 (Int.toNat x1) (0:Int)) (0:Int) (100000:Int)) fun v2=>
 if(!v2)=true then
 some (.inr (.inl (false,())))
 else
 some (.inl ((wrap .i64 (x1+(1:Int))),(x2,())))
 else
 none
 else
 none
 else
 none
 else
 none
 else
 none
 else
 none
 else
 if(decide ((0:Int)<=x1))=true then
 if(decide (x1<((length x2.2.2.1:Nat):Int)))=true then
 letB (aB (List.getD x2.2.2.1 (Int.toNat x1) (0:Int)) (0:Int) (100000:Int)) fun v3=>
 if(!v3)=true then
 some (.inr (.inl (false,())))
 else
 some (.inl ((wrap .i64 (x1+(1:Int))),(x2,())))
 else
 none
 else
 none
 else
 none
 else
 none
 else
 some (.inr (.inr (x2,())))
noncomputable def aEd(x1:Int)(x2:aJ):Option ((Int×aAx)⊕((Bool×Unit)⊕Unit)):=
 if(decide (x1<((length x2.2.2.2.1:Nat):Int)))=true then
 if(decide ((0:Int)<=x1))=true then
 if(decide (x1<((length x2.2.2.2.1:Nat):Int)))=true then
 letB (aB (List.getD x2.2.2.2.1 (Int.toNat x1) (0:Int)) (0:Int) (100000:Int)) fun v1=>
 if(!v1)=true then
 some (.inr (.inl (false,())))
 else
 some (.inl ((wrap .i64 (x1+(1:Int))),(x2,())))
 else
 none
 else
 none
 else
 some (.inr (.inr ()))
abbrev wf(x0:aJ)(x1:Int):Prop:=fV [(.val aAk .f),(.val (.int .i64) .f)] (x0,(x1,()))
noncomputable def aR(x0:aJ)(x1:Int):Option lA:=
 if(!(decide (((length x0.2.2.1:Nat):Int)=((length x0.2.1:Nat):Int))))=true then
  some ((),(false,()))
 else
  if(!(decide (((length x0.2.2.2.1:Nat):Int)=x1)))=true then
   some ((),(false,()))
  else
   letB (aB x0.1 (0:Int) (100000:Int)) fun v1=>
   if(!v1)=true then
    some ((),(false,()))
   else
    if(gZ.pre4 ((0:Int),(x0,())))=true then
     letB (gZ.fn4 ((0:Int),(x0,()))) fun v2=>
     match v2 with
     |.inl y=>
      some ((),y)
     |.inr y=>
      if(gZ.pre9 ((0:Int),y))=true then
       letB (gZ.fn9 ((0:Int),y)) fun v3=>
       match v3 with
       |.inl y_1=>
        some ((),y_1)
       |.inr y_1=>
        some ((),(true,()))
      else
       none
    else
     none
theorem yT(x1:Int)(x2:aJ)(hp:pre4 (x1,(x2,()))=true):Rounds pre4 qD fn4 (x1,(x2,())) (hJ x1 x2):=by
 simp only[pre4,Zb,Za] at hp
 obtain⟨hb,ho,ha⟩:=hp
 obtain⟨h1,h2,h3⟩:=mO ha
 unfold hJ
 by_cases hlt:x1<(x2.2.1.length:Int)
 . obtain⟨n1,n2,n3,n4⟩:=rS ha hlt
   have hlt':x1<(x2.2.2.1.length:Int):=by omega
   have nxt:gAt x2 x1.toNat=true->Rounds pre4 qD fn4 (x1,(x2,())) (some (.inl (x1+1,(x2,())))):=fun h=>⟨by simp only[pre4,n2,hb,ho];simp,n3,rO ha hlt h⟩
   have stp:gAt x2 x1.toNat=false->Rounds pre4 qD fn4 (x1,(x2,())) (some (.inr (.inl (false,())))):=fun h=>rR ha hlt h
   simp only[letB,n1,hlt,hlt',h2,decide_true,if_true]
   simp only[gAt,yM,wG,gN] at nxt stp
   generalize x2.2.2.1.getD x1.toNat (0:Int)=f at *
   generalize aB f 0 100000=b2 at *
   by_cases h0:0<x1
   . obtain⟨p1,p2,p3,p4,p5⟩:=xE ha h0
     simp only[p1,p2,p3,p4,h0,decide_true,if_true]
     simp only[p5,decide_false,Bool.false_or] at nxt stp
     generalize x2.2.1.getD x1.toNat (0:Int)=e at *
     generalize x2.2.1.getD (x1.toNat-1) (0:Int)=e' at *
     generalize aB e 0 3=b1 at *
     by_cases hd:e<=e'
     . simp only[hd,show ¬e'<e by omega,decide_true,decide_false,if_true] at *
       cases b1<;>exact stp rfl
     . simp only[hd,show e'<e by omega,decide_true,decide_false] at *
       cases b1<;>cases b2
       . exact stp rfl
       . exact stp rfl
       . exact stp rfl
       . exact nxt rfl
   . have p5:x1.toNat=0:=by omega
     simp only[h0,decide_false,Zj,if_false]
     simp only[p5,decide_true,Bool.true_or,Bool.and_true] at nxt stp ⊢
     generalize x2.2.1.getD 0 (0:Int)=e at *
     generalize aB e 0 3=b1 at *
     cases b1<;>cases b2
     . exact stp rfl
     . exact stp rfl
     . exact stp rfl
     . exact nxt rfl
 . rw[if_neg (by simp[hlt])]
   exact uT ha hlt
theorem ok9(x1:Int)(x2:aJ)(ha:pre9 (x1,(x2,()))=true):Rounds pre9 mu9 fn9 (x1,(x2,())) (aEd x1 x2):=by
 have ha:pJ x2.2.2.2.1.length x1=true:=ha
 obtain⟨h1,h2,h3⟩:=mO ha
 unfold aEd
 by_cases hlt:x1<(x2.2.2.2.1.length:Int)
 . obtain⟨n1,n2,n3,n4⟩:=rS ha hlt
   have nxt:oAt x2 x1.toNat=true->Rounds pre9 mu9 fn9 (x1,(x2,())) (some (.inl (x1+1,(x2,())))):=fun h=>⟨n2,n3,rO ha hlt h⟩
   have stp:oAt x2 x1.toNat=false->Rounds pre9 mu9 fn9 (x1,(x2,())) (some (.inr (.inl (false,())))):=fun h=>rR ha hlt h
   simp only[letB,n1,hlt,h2,decide_true,if_true]
   simp only[oAt] at nxt stp
   generalize x2.2.2.2.1.getD x1.toNat (0:Int)=f at *
   generalize aB f 0 100000=b2 at *
   cases b2
   . exact stp rfl
   . exact nxt rfl
 . rw[if_neg (by simp[hlt])]
   exact uT ha hlt
theorem eq(x0:aJ)(x1:Int)(_:wf x0 x1)(hp:pre x0 x1=true):aR x0 x1=some ((),(gZ x0 x1,())):=by
 have hp:oW x0=true:=hp
 simp only[oW,Zb,cC] at hp
 unfold aR gZ jQ
 by_cases hb:(x0.2.2.1.length:Int)=(x0.2.1.length:Int)
 case neg=>rw[if_pos (by simp[hb]),decide_eq_false hb];rfl
 rw[if_neg (by simp[hb]),Zd hb]
 by_cases ho:(x0.2.2.2.1.length:Int)=x1
 case neg=>rw[if_pos (by simp[ho]),decide_eq_false ho];rfl
 rw[if_neg (by simp[ho]),Zd ho]
 simp only[letB]
 cases aB x0.1 0 100000
 . rfl
 rw[if_neg (by decide),if_pos (show pre4 ((0:Int),(x0,()))=true by simp only[pre4,pO hp.1,Zd (p:=x0.2.2.1.length=x0.2.1.length) (by omega),Zd hp.2.2];rfl),
  show fn4 ((0:Int),(x0,()))=_ from uR,show qF (gAt x0) 0 x0.2.1.length=(qF (yM x0.2.1) 0 x0.2.1.length&&bD x0.2.2.1 0 100000) by
   rw[show gAt x0=fun j=>yM x0.2.1 j&&aB (x0.2.2.1.getD j (0:Int)) 0 100000 from rfl,aEV,show x0.2.1.length=x0.2.2.1.length by omega]
   exact congrArg _ (yP (p:=fun n=>aB n 0 100000))]
 cases qF (yM x0.2.1) 0 x0.2.1.length
 . rfl
 cases bD x0.2.2.1 0 100000
 . rfl
 simp only[Bool.and_true,cond_true]
 rw[if_pos (show pre9 ((0:Int),(x0,()))=true from pO hp.2.2),show fn9 ((0:Int),(x0,()))=_ from uR,show qF (oAt x0) 0 x0.2.2.2.1.length=bD x0.2.2.2.1 0 100000 from yP (p:=fun n=>aB n 0 100000)]
 cases bD x0.2.2.2.1 0 100000<;>rfl
end gZ
def fP(r:cL):Bool:=!pP r
namespace fP
def pre(r:cL):Bool:=dJ r.2.2.1
abbrev wf(x0:cL):Prop:=fV [(.val aAi .f)] (x0,())
noncomputable def aR(x0:cL):Option lA:=
 if(lE.pre x0)=true then
 letB (pP x0) fun v1=>
 some ((),((!v1),()))
 else
 none
theorem eq(x0:cL)(_:wf x0)(hp:pre x0=true):aR x0=some ((),(fP x0,())):=dT (show lE.pre x0=true from hp) rfl
end fP
def fO(g:aJ)(s:aW):Bool:=!jQ g s.1
namespace fO
def pre(g:aJ)(_:aW):Bool:=oW g
abbrev wf(x0:aJ)(x1:aW):Prop:=fV [(.val aAk .f),(.peek wI)] (x0,(x1,()))
noncomputable def aR(x0:aJ)(x1:aW):Option lA:=
 if(iY.pre x0 x1.1)=true then
 letB (jQ x0 x1.1) fun v1=>
 some ((),((!v1),()))
 else
 none
theorem eq(x0:aJ)(x1:aW)(_:wf x0 x1)(hp:pre x0 x1=true):aR x0 x1=some ((),(fO x0 x1,())):=dT (show iY.pre x0 x1.1=true from hp) rfl
end fO
def fB(a:aM):Bool:=!nI a
namespace fB
def pre(a:aM):Bool:=decide (a.1<=a.1)
abbrev wf(x0:aM):Prop:=fV [(.val aBw .f)] (x0,())
noncomputable def aR(x0:aM):Option lA:=
 if(jN.pre x0)=true then
 letB (nI x0) fun v1=>
 some ((),((!v1),()))
 else
 none
theorem eq(x0:aM)(_:wf x0)(_:pre x0=true):aR x0=some ((),(fB x0,())):=dT (show jN.pre x0=true from Zd (Int.le_refl _)) rfl
end fB
def uM(mk:aK->Int->Bool)(s:aW)(ms:List aK)(j:Nat):Bool:=
 mk (ms.getD j rF) s.2.1&&(decide ((ms.getD j rF).1<s.1)&&(decide (j=0)||(decide ((ms.getD (j-1) rF).1<=(ms.getD j rF).1)&&!(decide ((ms.getD (j-1) rF).1=(ms.getD j rF).1)&&decide ((ms.getD j rF).2.1<=(ms.getD (j-1) rF).2.1)))))
def vY(mk:aK->Int->Bool)(s:aW)(k:bI):Bool:=
 dQ s&&(decide ((k.1.length:Int)=s.1)&&(decide ((k.2.2.1.length:Int)=2)&&(aB k.2.2.2.1 0 100000&&(decide ((k.2.2.2.2.1.length:Int)=4)&&(bD k.2.2.2.2.1 0 100000&&(decide ((k.2.2.2.2.2.1.length:Int)=4)&&
  (qF (uM mk s k.2.1) 0 k.2.1.length&&(k.1.all pP&&(k.2.2.1.all (fun g=>jQ g s.1)&&k.2.2.2.2.2.1.all nI)))))))))
def dO(s:aW)(k:bI):Bool:=vY dG s k
def bX(s:aW)(k:bI):Bool:=vY dA s k
theorem zR{α:Type}(f:α->Bool)(xs:List α):(!xs.any fun x=>!f x)=xs.all f:=by rw[aGR,Bool.not_not]
def tK(x:bI):Bool:=dJ x.1&&(x.1.all (fun r:cL=>dJ r.2.2.1)&&(dJ x.2.1&&(x.2.1.all (fun m:aK=>dJ m.2.2.2.2.1)&&(dJ x.2.2.1&&(x.2.2.1.all oW&&(dJ x.2.2.2.2.1&&dJ x.2.2.2.2.2.1))))))
end Go.Aw.Pl
