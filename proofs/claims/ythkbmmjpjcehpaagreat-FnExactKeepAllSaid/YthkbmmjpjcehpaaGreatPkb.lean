import Derived.Test.YthkbmmjpjcehpaaGreatPka
namespace Go.Aw.Pl
open Go.IntKind (wrap)
open List (length)
open Go Go.Aw
set_option linter.unusedVariables false
set_option linter.unusedSimpArgs false
set_option maxHeartbeats 1000000
namespace bT
def pre(xs:List aF)(p:(aF->Bool)×(aF->Bool)):Bool:=xs.all p.1
abbrev wf(x0:(List aF))(x1:((aF->Bool)×(aF->Bool))):Prop:=hN [(.val (.sl 0 aAT) .f),(.fn aAT .bool)] (x0,(x1,()))
noncomputable def aQ(x0:(List aF))(x1:((aF->Bool)×(aF->Bool))):Option mO:=
 if(cG.pre x0 x1)=true then
 letB (cG x0 x1) fun v1=>
 some ((),((decide ((0:Int)<=v1)),()))
 else
 none
theorem eq(x0:List aF)(x1:(aF->Bool)×(aF->Bool))(_:wf x0 x1)(hp:pre x0 x1=true):aQ x0 x1=some ((),(bT x0 x1,())):=by
 unfold aQ
 exact bV (show cG.pre _ _=true from hp) (congrArg (fun b=>some ((),(b,()))) (aD6 x1.2 x0))
end bT
def dJ(n:Int):Bool:=aA n 0 3
namespace dJ
def pre(n:Int):Bool:=decide (n<=n)
abbrev wf(x0:Int):Prop:=hN [(.val (.int .i64) .f)] (x0,())
noncomputable def aQ(x0:Int):Option mO:=
 letB (aA x0 (0:Int) (3:Int)) fun v1=>
 some ((),(v1,()))
theorem eq(x0:Int)(_:wf x0)(_:pre x0=true):aQ x0=some ((),(dJ x0,())):=rfl
end dJ
def eI(n lo hi:Int):Bool:=!aA n lo hi
namespace eI
def pre(_ _ _:Int):Bool:=true
abbrev wf(x0:Int)(x1:Int)(x2:Int):Prop:=hN [(.val (.int .i64) .f),(.peek (.int .i64)),(.peek (.int .i64))] (x0,(x1,(x2,())))
noncomputable def aQ(x0:Int)(x1:Int)(x2:Int):Option mO:=
 letB (aA x0 x1 x2) fun v1=>
 some ((),((!v1),()))
theorem eq(x0 x1 x2:Int)(_:wf x0 x1 x2)(_:pre x0 x1 x2=true):aQ x0 x1 x2=some ((),(eI x0 x1 x2,())):=rfl
end eI
def bZ(xs:List Int)(lo hi:Int):Bool:=xs.all fun n=>aA n lo hi
namespace bZ
def pre(_:List Int)(lo _:Int):Bool:=decide (lo<=lo)
abbrev wf(x0:(List Int))(x1:Int)(x2:Int):Prop:=hN [(.val (.sl 0 (.int .i64)) .f),(.val (.int .i64) .f),(.val (.int .i64) .f)] (x0,(x1,(x2,())))
noncomputable def aQ(x0:(List Int))(x1:Int)(x2:Int):Option mO:=
 if(cR.pre x0 ((fun x=>(eI.pre x x1 x2)),(fun x=>(eI x x1 x2))))=true then
 letB (cR x0 ((fun x=>(eI.pre x x1 x2)),(fun x=>(eI x x1 x2)))) fun v1=>
 some ((),((!v1),()))
 else
 none
theorem eq(x0:List Int)(x1 x2:Int)(_:wf x0 x1 x2)(_:pre x0 x1 x2=true):aQ x0 x1 x2=some ((),(bZ x0 x1 x2,())):=by
 unfold aQ
 refine bV (show cR.pre _ _=true by simp[cR.pre,eI.pre]) (congrArg (fun b=>some ((),(b,()))) ?_)
 show(!x0.any fun x=>!aA x x1 x2)=_
 rw[aI2,Bool.not_not];rfl
end bZ
def gL(a:aF):Bool:=aA a.1 0 9&&(aA a.2.1 (-1) 100000&&(fT a.2.2.1&&fT a.2.2.2.1))
abbrev iU:=gL
namespace iU
def pre(a:aF):Bool:=decide (a.1<=a.1)
abbrev wf(x0:aF):Prop:=hN [(.val aAT .f)] (x0,())
noncomputable def aQ(x0:aF):Option mO:=
 letB (aA x0.1 (0:Int) (9:Int)) fun v1=>
 if v1=true then
 letB (aA x0.2.1 (-1:Int) (100000:Int)) fun v2=>
 if v2=true then
 letB (fT x0.2.2.1) fun v3=>
 if v3=true then
 letB (fT x0.2.2.2.1) fun v4=>
 some ((),(v4,()))
 else
 some ((),(false,()))
 else
 some ((),(false,()))
 else
 some ((),(false,()))
theorem eq(x0:aF)(_:wf x0)(_:pre x0=true):aQ x0=some ((),(iU x0,())):=by
 unfold aQ iU gL
 simp only[letB]
 cases aA x0.1 0 9<;>cases aA x0.2.1 (-1) 100000<;>cases fT x0.2.2.1<;>simp
end iU
abbrev wU:=dJ
def aC1(xs:List Int)(j:Nat):Bool:=wU (xs.getD j (0:Int))&&(decide (j=0)||decide (xs.getD (j-1) (0:Int)<xs.getD j (0:Int)))
def iX(g:aD)(rows:Int):Bool:=decide ((g.2.2.1.length:Int)=(g.2.1.length:Int))&&(decide ((g.2.2.2.1.length:Int)=rows)&&(aA g.1 0 100000&&(xI (aC1 g.2.1) 0 g.2.1.length&&(bZ g.2.2.1 0 100000&&bZ g.2.2.2.1 0 100000))))
abbrev iJ:=iX
namespace iJ
abbrev S2:Type:=(Int×((List Int)×(Int×(Int×(aD×Unit)))))
abbrev O2:Type:=((Bool×Unit)⊕(Int×(aD×Unit)))
def pre(g:aD)(_:Int):Bool:=gU g
noncomputable def pre2:S2->Bool:=fun(_,x2,x3,x4,x5,_)=>same x2 x5.2.1&&(decide (x3=(x5.2.1.length:Int))&&sX x5.2.1.length x4)
def fn2:S2->O2:=fun(x1,_,_,x4,x5,_)=>aB1 (aC1 x5.2.1) x5.2.1.length x4 (x1,(x5,()))
def mA:S2->Nat:=fun(_,_,_,x4,x5,_)=>x5.2.1.length-x4.toNat
noncomputable def dT(x1:Int)(x2:(List Int))(x3:Int)(x4:Int)(x5:aD):Option ((Int×((List Int)×(Int×(Int×(aD×Unit)))))⊕((Bool×Unit)⊕(Int×(aD×Unit)))):=
 if(decide (x4<x3))=true then
 if(decide ((0:Int)<=x4))=true then
 if(decide (x4<((length x2:Nat):Int)))=true then
 if(dJ.pre (List.getD x2 (Int.toNat x4) (0:Int)))=true then
 letB (wU (List.getD x2 (Int.toNat x4) (0:Int))) fun v1=>
 if(!v1)=true then
 some (.inr (.inl (false,())))
 else
 if(decide ((0:Int)<x4))=true then
 if(decide ((0:Int)<=(wrap .i64 (x4-(1:Int)))))=true then
 if(decide ((wrap .i64 (x4-(1:Int)))<((length x5.2.1:Nat):Int)))=true then
 if(decide ((List.getD x2 (Int.toNat x4) (0:Int))<=(List.getD x5.2.1 (Int.toNat (wrap .i64 (x4-(1:Int)))) (0:Int))))=true then
 some (.inr (.inl (false,())))
 else
 some (.inl (x1,(x2,(x3,((wrap .i64 (x4+(1:Int))),(x5,()))))))
 else
 none
 else
 none
 else
 some (.inl (x1,(x2,(x3,((wrap .i64 (x4+(1:Int))),(x5,()))))))
 else
 none
 else
 none
 else
 none
 else
 some (.inr (.inr (x1,(x5,()))))
abbrev wf(x0:aD)(x1:Int):Prop:=hN [(.val qT .f),(.val (.int .i64) .f)] (x0,(x1,()))
noncomputable def aQ(x0:aD)(x1:Int):Option mO:=
 if(iJ.pre2 (x1,(x0.2.1,(((length x0.2.1:Nat):Int),((0:Int),(x0,()))))))=true then
  letB (iJ.fn2 (x1,(x0.2.1,(((length x0.2.1:Nat):Int),((0:Int),(x0,())))))) fun v1=>
  match v1 with
  |.inl y=>
   some ((),y)
  |.inr y=>
   letB (aA y.2.1.1 (0:Int) (100000:Int)) fun v2=>
   if v2=true then
    if(decide (((length y.2.1.2.2.1:Nat):Int)=((length y.2.1.2.1:Nat):Int)))=true then
     if(bZ.pre y.2.1.2.2.1 (0:Int) (100000:Int))=true then
      letB (bZ y.2.1.2.2.1 (0:Int) (100000:Int)) fun v3=>
      if v3=true then
       if(decide (((length y.2.1.2.2.2.1:Nat):Int)=y.1))=true then
        if(bZ.pre y.2.1.2.2.2.1 (0:Int) (100000:Int))=true then
         letB (bZ y.2.1.2.2.2.1 (0:Int) (100000:Int)) fun v4=>
         some ((),(v4,()))
        else
         none
       else
        some ((),(false,()))
      else
       some ((),(false,()))
     else
      none
    else
     some ((),(false,()))
   else
    some ((),(false,()))
 else
  none
theorem rR(x1:Int)(x2:List Int)(x3 x4:Int)(x5:aD)(hp:pre2 (x1,(x2,(x3,(x4,(x5,())))))=true):Rounds pre2 mA fn2 (x1,(x2,(x3,(x4,(x5,()))))) (dT x1 x2 x3 x4 x5):=by
 simp only[pre2,Zb,Za,cF] at hp
 obtain⟨rfl,rfl,ha⟩:=hp
 obtain⟨h1,h2,h3⟩:=pV ha
 unfold dT
 by_cases hlt:x4<(x5.2.1.length:Int)
 . obtain⟨n1,n2,n3,n4⟩:=aAK ha hlt
   have nxt:aC1 x5.2.1 x4.toNat=true->Rounds pre2 mA fn2 (x1,(x5.2.1,((x5.2.1.length:Int),(x4,(x5,()))))) (some (.inl (x1,(x5.2.1,((x5.2.1.length:Int),(x4+1,(x5,()))))))):=
    fun h=>⟨by simp only[pre2,mH,n2];simp,n3,aB9 ha hlt h⟩
   have stp:aC1 x5.2.1 x4.toNat=false->Rounds pre2 mA fn2 (x1,(x5.2.1,((x5.2.1.length:Int),(x4,(x5,()))))) (some (.inr (.inl (false,())))):=fun h=>aBk ha hlt h
   simp only[letB,n1,hlt,h2,decide_true,if_true,show dJ.pre (x5.2.1.getD x4.toNat (0:Int))=true from Zd (Int.le_refl _)]
   simp only[aC1] at nxt stp
   by_cases h0:0<x4
   . obtain⟨p1,p2,p3,p4,p5⟩:=aAV ha h0
     simp only[p1,p2,p3,p4,h0,decide_true,if_true]
     simp only[p5,decide_false,Bool.false_or] at nxt stp
     generalize x5.2.1.getD x4.toNat (0:Int)=e at *
     generalize x5.2.1.getD (x4.toNat-1) (0:Int)=e' at *
     generalize wU e=b1 at *
     by_cases hd:e<=e'
     . simp only[hd,show ¬e'<e by omega,decide_true,decide_false,if_true] at *
       cases b1<;>exact stp rfl
     . simp only[hd,show e'<e by omega,decide_true,decide_false] at *
       cases b1
       . exact stp rfl
       . exact nxt rfl
   . have p5:x4.toNat=0:=by omega
     simp only[h0,decide_false,Zj,if_false]
     simp only[p5,decide_true,Bool.true_or,Bool.and_true] at nxt stp ⊢
     generalize x5.2.1.getD 0 (0:Int)=e at *
     generalize wU e=b1 at *
     cases b1
     . exact stp rfl
     . exact nxt rfl
 . rw[if_neg (by simp[hlt])]
   exact aDp ha hlt
theorem eq(x0:aD)(x1:Int)(_:wf x0 x1)(hp:pre x0 x1=true):aQ x0 x1=some ((),(iJ x0 x1,())):=by
 have hp:gU x0=true:=hp
 simp only[gU,Zb,bW] at hp
 unfold aQ iJ iX
 rw[if_pos (show pre2 (x1,(x0.2.1,((x0.2.1.length:Int),((0:Int),(x0,())))))=true by simp only[pre2,mH,zG hp.1];simp),
  show fn2 (x1,(x0.2.1,((x0.2.1.length:Int),((0:Int),(x0,())))))=_ from aCt]
 simp only[letB]
 cases xI (aC1 x0.2.1) 0 x0.2.1.length
 . simp
 simp only[cond_true,show ∀l:List Int,bZ.pre l 0 100000=true from fun _=>rfl,if_true]
 cases aA x0.1 0 100000<;>cases decide ((x0.2.2.1.length:Int)=(x0.2.1.length:Int))<;>cases decide ((x0.2.2.2.1.length:Int)=x1)<;>cases bZ x0.2.2.1 0 100000<;>rfl
end iJ
def eR(r:bS):Bool:=!fN r
namespace eR
def pre(r:bS):Bool:=cH r.2.2.1
abbrev wf(x0:bS):Prop:=hN [(.val sZ .f)] (x0,())
noncomputable def aQ(x0:bS):Option mO:=
 if(dW.pre x0)=true then
 letB (fN x0) fun v1=>
 some ((),((!v1),()))
 else
 none
theorem eq(x0:bS)(_:wf x0)(hp:pre x0=true):aQ x0=some ((),(eR x0,())):=bV (show dW.pre x0=true from hp) rfl
end eR
def eY(g:aD)(s:aW):Bool:=!iX g s.1
namespace eY
def pre(g:aD)(_:aW):Bool:=gU g
abbrev wf(x0:aD)(x1:aW):Prop:=hN [(.val qT .f),(.peek wW)] (x0,(x1,()))
noncomputable def aQ(x0:aD)(x1:aW):Option mO:=
 if(iJ.pre x0 x1.1)=true then
 letB (iX x0 x1.1) fun v1=>
 some ((),((!v1),()))
 else
 none
theorem eq(x0:aD)(x1:aW)(_:wf x0 x1)(hp:pre x0 x1=true):aQ x0 x1=some ((),(eY x0 x1,())):=bV (show iJ.pre x0 x1.1=true from hp) rfl
end eY
def eK(a:aF):Bool:=!gL a
namespace eK
def pre(a:aF):Bool:=decide (a.1<=a.1)
abbrev wf(x0:aF):Prop:=hN [(.val aAT .f)] (x0,())
noncomputable def aQ(x0:aF):Option mO:=
 if(iU.pre x0)=true then
 letB (gL x0) fun v1=>
 some ((),((!v1),()))
 else
 none
theorem eq(x0:aF)(_:wf x0)(_:pre x0=true):aQ x0=some ((),(eK x0,())):=bV (show iU.pre x0=true from Zd (Int.le_refl _)) rfl
end eK
def aAh(mk:aC->Int->Bool)(s:aW)(ms:List aC)(j:Nat):Bool:=
 mk (ms.getD j jY) s.2.1&&(decide ((ms.getD j jY).1<s.1)&&(decide (j=0)||(decide ((ms.getD (j-1) jY).1<=(ms.getD j jY).1)&&!(decide ((ms.getD (j-1) jY).1=(ms.getD j jY).1)&&decide ((ms.getD j jY).2.1<=(ms.getD (j-1) jY).2.1)))))
def aD0(mk:aC->Int->Bool)(s:aW)(k:bA):Bool:=
 fD s&&(decide ((k.1.length:Int)=s.1)&&(decide ((k.2.2.1.length:Int)=2)&&(aA k.2.2.2.1 0 100000&&(decide ((k.2.2.2.2.1.length:Int)=4)&&(bZ k.2.2.2.2.1 0 100000&&(decide ((k.2.2.2.2.2.1.length:Int)=4)&&
  (xI (aAh mk s k.2.1) 0 k.2.1.length&&(k.1.all fN&&(k.2.2.1.all (fun g=>iX g s.1)&&k.2.2.2.2.2.1.all gL)))))))))
def fY(s:aW)(k:bA):Bool:=aD0 dR s k
theorem xX{α:Type}(f:α->Bool)(xs:List α):(!xs.any fun x=>!f x)=xs.all f:=by rw[aI2,Bool.not_not]
def aEq(x:bA):Bool:=cH x.1&&(x.1.all (fun r:bS=>cH r.2.2.1)&&(cH x.2.1&&(x.2.1.all (fun m:aC=>cH m.2.2.2.2.1)&&(cH x.2.2.1&&(x.2.2.1.all gU&&(cH x.2.2.2.2.1&&cH x.2.2.2.2.2.1))))))
namespace fY
abbrev S4:Type:=((List aC)×(Int×(Int×(aW×(bA×Unit)))))
abbrev O4:Type:=((Bool×Unit)⊕(aW×(bA×Unit)))
def pre(_:aW)(k:bA):Bool:=aEq k
noncomputable def pre4:S4->Bool:=fun(x1,x2,x3,_,x5,_)=>same x1 x5.2.1&&(decide (x2=(x5.2.1.length:Int))&&(x5.2.1.all (fun m:aC=>cH m.2.2.2.2.1)&&sX x5.2.1.length x3))
def fn4:S4->O4:=fun(_,_,x3,x4,x5,_)=>aB1 (aAh dR x4 x5.2.1) x5.2.1.length x3 (x4,(x5,()))
def lN:S4->Nat:=fun(_,_,x3,_,x5,_)=>x5.2.1.length-x3.toNat
noncomputable def eA(x1:(List aC))(x2:Int)(x3:Int)(x4:aW)(x5:bA):Option (((List aC)×(Int×(Int×(aW×(bA×Unit)))))⊕((Bool×Unit)⊕(aW×(bA×Unit)))):=
 if(decide (x3<x2))=true then
 if(decide ((0:Int)<=x3))=true then
 if(decide (x3<((length x1:Nat):Int)))=true then
 if(dR.pre (List.getD x1 (Int.toNat x3) jY) x4.2.1)=true then
 letB (dR (List.getD x1 (Int.toNat x3) jY) x4.2.1) fun v1=>
 if(!v1)=true then
 some (.inr (.inl (false,())))
 else
 if(decide (x4.1<=(List.getD x1 (Int.toNat x3) jY).1))=true then
 some (.inr (.inl (false,())))
 else
 if(decide ((0:Int)<x3))=true then
 if(decide ((0:Int)<=(wrap .i64 (x3-(1:Int)))))=true then
 if(decide ((wrap .i64 (x3-(1:Int)))<((length x5.2.1:Nat):Int)))=true then
 if(decide ((List.getD x1 (Int.toNat x3) jY).1<(List.getD x5.2.1 (Int.toNat (wrap .i64 (x3-(1:Int)))) jY).1))=true then
 some (.inr (.inl (false,())))
 else
 if(decide ((0:Int)<=(wrap .i64 (x3-(1:Int)))))=true then
 if(decide ((wrap .i64 (x3-(1:Int)))<((length x5.2.1:Nat):Int)))=true then
 if(decide ((List.getD x5.2.1 (Int.toNat (wrap .i64 (x3-(1:Int)))) jY).1=(List.getD x1 (Int.toNat x3) jY).1))=true then
 if(decide ((0:Int)<=(wrap .i64 (x3-(1:Int)))))=true then
 if(decide ((wrap .i64 (x3-(1:Int)))<((length x5.2.1:Nat):Int)))=true then
 if(decide ((List.getD x1 (Int.toNat x3) jY).2.1<=(List.getD x5.2.1 (Int.toNat (wrap .i64 (x3-(1:Int)))) jY).2.1))=true then
 some (.inr (.inl (false,())))
 else
 some (.inl (x1,(x2,((wrap .i64 (x3+(1:Int))),(x4,(x5,()))))))
 else
 none
 else
 none
 else
 some (.inl (x1,(x2,((wrap .i64 (x3+(1:Int))),(x4,(x5,()))))))
 else
 none
 else
 none
 else
 none
 else
 none
 else
 some (.inl (x1,(x2,((wrap .i64 (x3+(1:Int))),(x4,(x5,()))))))
 else
 none
 else
 none
 else
 none
 else
 some (.inr (.inr (x4,(x5,()))))
abbrev wf(x0:aW)(x1:bA):Prop:=hN [(.val wW .f),(.val zk1 .f)] (x0,(x1,()))
noncomputable def aQ(x0:aW)(x1:bA):Option mO:=
 letB (fD x0) fun v1=>
 if(!v1)=true then
  some ((),(false,()))
 else
  if(!(decide (((length x1.1:Nat):Int)=x0.1)))=true then
   some ((),(false,()))
  else
   if(!(decide (((length x1.2.2.1:Nat):Int)=(2:Int))))=true then
    some ((),(false,()))
   else
    letB (aA x1.2.2.2.1 (0:Int) (100000:Int)) fun v2=>
    if(!v2)=true then
     some ((),(false,()))
    else
     if(!(decide (((length x1.2.2.2.2.1:Nat):Int)=(4:Int))))=true then
      some ((),(false,()))
     else
      if(bZ.pre x1.2.2.2.2.1 (0:Int) (100000:Int))=true then
       letB (bZ x1.2.2.2.2.1 (0:Int) (100000:Int)) fun v3=>
       if(!v3)=true then
        some ((),(false,()))
       else
        if(!(decide (((length x1.2.2.2.2.2.1:Nat):Int)=(4:Int))))=true then
         some ((),(false,()))
        else
         if(fY.pre4 (x1.2.1,(((length x1.2.1:Nat):Int),((0:Int),(x0,(x1,()))))))=true then
          letB (fY.fn4 (x1.2.1,(((length x1.2.1:Nat):Int),((0:Int),(x0,(x1,())))))) fun v4=>
          match v4 with
          |.inl y=>
           some ((),y)
          |.inr y=>
           if(cS.pre y.2.1.1 ((fun x=>(eR.pre x)),(fun x=>(eR x))))=true then
            if(cE.pre y.2.1.2.2.1 ((fun x=>(eY.pre x y.1)),(fun x=>(eY x y.1))))=true then
             if(bT.pre y.2.1.2.2.2.2.2.1 ((fun x=>(eK.pre x)),(fun x=>(eK x))))=true then
              letB (cS y.2.1.1 ((fun x=>(eR.pre x)),(fun x=>(eR x)))) fun v5=>
              if(!v5)=true then
               letB (cE y.2.1.2.2.1 ((fun x=>(eY.pre x y.1)),(fun x=>(eY x y.1)))) fun v6=>
               if(!v6)=true then
                letB (bT y.2.1.2.2.2.2.2.1 ((fun x=>(eK.pre x)),(fun x=>(eK x)))) fun v7=>
                some ((),((!v7),()))
               else
                some ((),(false,()))
              else
               some ((),(false,()))
             else
              none
            else
             none
           else
            none
         else
          none
      else
       none
theorem uM(x1:List aC)(x2 x3:Int)(x4:aW)(x5:bA)(hp:pre4 (x1,(x2,(x3,(x4,(x5,())))))=true):Rounds pre4 lN fn4 (x1,(x2,(x3,(x4,(x5,()))))) (eA x1 x2 x3 x4 x5):=by
 simp only[pre4,Zb,Za,cF] at hp
 obtain⟨rfl,rfl,hs,ha⟩:=hp
 obtain⟨h1,h2,h3⟩:=pV ha
 unfold eA
 by_cases hlt:x3<(x5.2.1.length:Int)
 . obtain⟨n1,n2,n3,n4⟩:=aAK ha hlt
   have nxt:aAh dR x4 x5.2.1 x3.toNat=true->Rounds pre4 lN fn4 (x5.2.1,((x5.2.1.length:Int),(x3,(x4,(x5,()))))) (some (.inl (x5.2.1,((x5.2.1.length:Int),(x3+1,(x4,(x5,()))))))):=
    fun h=>⟨by simp only[pre4,mH,n2,hs];simp,n3,aB9 ha hlt h⟩
   have stp:aAh dR x4 x5.2.1 x3.toNat=false->Rounds pre4 lN fn4 (x5.2.1,((x5.2.1.length:Int),(x3,(x4,(x5,()))))) (some (.inr (.inl (false,())))):=fun h=>aBk ha hlt h
   have hq:dR.pre (x5.2.1.getD x3.toNat jY) x4.2.1=true:=aJC hs (show x3.toNat<x5.2.1.length by omega) _
   simp only[letB,n1,hlt,h2,hq,decide_true,if_true]
   simp only[aAh] at nxt stp
   generalize dR (x5.2.1.getD x3.toNat jY) x4.2.1=b1 at *
   by_cases h0:0<x3
   . obtain⟨p1,p2,p3,p4,p5⟩:=aAV ha h0
     simp only[p1,p2,p3,p4,h0,decide_true,if_true]
     simp only[p5,decide_false,Bool.false_or] at nxt stp
     generalize x5.2.1.getD x3.toNat jY=e at *
     generalize x5.2.1.getD (x3.toNat-1) jY=e' at *
     cases b1
     . exact stp rfl
     by_cases c1:x4.1<=e.1
     . simp only[c1,show ¬e.1<x4.1 by omega,decide_true,decide_false] at *
       exact stp rfl
     by_cases c2:e.1<e'.1
     . simp only[c1,c2,show e.1<x4.1 by omega,show ¬e'.1<=e.1 by omega,decide_true,decide_false] at *
       exact stp rfl
     by_cases c3:e'.1=e.1
     . by_cases c4:e.2.1<=e'.2.1
       . simp only[c1,c2,c3,c4,show e.1<x4.1 by omega,show e'.1<=e.1 by omega,Int.le_refl,Int.lt_irrefl,decide_true,decide_false] at *
         exact stp rfl
       . simp only[c1,c2,c3,c4,show e.1<x4.1 by omega,show e'.1<=e.1 by omega,Int.le_refl,Int.lt_irrefl,decide_true,decide_false] at *
         exact nxt rfl
     . simp only[c1,c2,c3,show e.1<x4.1 by omega,show e'.1<=e.1 by omega,decide_true,decide_false] at *
       exact nxt rfl
   . have p5:x3.toNat=0:=by omega
     simp only[h0,decide_false,Zj,if_false]
     simp only[p5,decide_true,Bool.true_or,Bool.and_true] at nxt stp ⊢
     generalize x5.2.1.getD 0 jY=e at *
     cases b1
     . exact stp rfl
     by_cases c1:x4.1<=e.1
     . simp only[c1,show ¬e.1<x4.1 by omega,decide_true,decide_false] at *
       exact stp rfl
     . simp only[c1,show e.1<x4.1 by omega,decide_true,decide_false] at *
       exact nxt rfl
 . rw[if_neg (by simp[hlt])]
   exact aDp ha hlt
theorem eq(x0:aW)(x1:bA)(_:wf x0 x1)(hp:pre x0 x1=true):aQ x0 x1=some ((),(fY x0 x1,())):=by
 have hp:aEq x1=true:=hp
 simp only[aEq,Zb] at hp
 obtain⟨a1,a2,a3,a4,a5,a6,a7,a8⟩:=hp
 unfold aQ fY aD0
 simp only[letB]
 cases fD x0
 . rfl
 by_cases b1:(x1.1.length:Int)=x0.1
 case neg=>rw[if_neg (by decide),if_pos (by simp[b1]),decide_eq_false b1];rfl
 rw[if_neg (by decide),if_neg (by simp[b1]),Zd b1]
 by_cases b2:(x1.2.2.1.length:Int)=2
 case neg=>rw[if_pos (by simp[b2]),decide_eq_false b2];rfl
 rw[if_neg (by simp[b2]),Zd b2]
 cases aA x1.2.2.2.1 0 100000
 . rfl
 by_cases b3:(x1.2.2.2.2.1.length:Int)=4
 case neg=>rw[if_neg (by decide),if_pos (by simp[b3]),decide_eq_false b3];rfl
 rw[if_neg (by decide),if_neg (by simp[b3]),Zd b3,if_pos (show bZ.pre x1.2.2.2.2.1 0 100000=true from rfl)]
 cases bZ x1.2.2.2.2.1 0 100000
 . rfl
 by_cases b4:(x1.2.2.2.2.2.1.length:Int)=4
 case neg=>rw[if_neg (by decide),if_pos (by simp[b4]),decide_eq_false b4];rfl
 rw[if_neg (by decide),if_neg (by simp[b4]),Zd b4,
  if_pos (show pre4 (x1.2.1,((x1.2.1.length:Int),((0:Int),(x0,(x1,())))))=true by simp only[pre4,mH,zG (bW.1 a3),a4];simp),
  show fn4 (x1.2.1,((x1.2.1.length:Int),((0:Int),(x0,(x1,())))))=_ from aCt]
 cases xI (aAh dR x0 x1.2.1) 0 x1.2.1.length
 . rfl
 simp only[cond_true]
 rw[if_pos (show cS.pre x1.1 ((fun x=>eR.pre x),fun x=>eR x)=true from a2),
  if_pos (show cE.pre x1.2.2.1 ((fun x=>eY.pre x x0),fun x=>eY x x0)=true from a6),
  if_pos (show bT.pre x1.2.2.2.2.2.1 ((fun x=>eK.pre x),fun x=>eK x)=true by simp[bT.pre,eK.pre]),
  show(!cS x1.1 ((fun x=>eR.pre x),fun x=>eR x))=x1.1.all fN from xX _ _,
  show(!cE x1.2.2.1 ((fun x=>eY.pre x x0),fun x=>eY x x0))=x1.2.2.1.all (fun g=>iX g x0.1) from xX (fun g=>iX g x0.1) _,
  show(!bT x1.2.2.2.2.2.1 ((fun x=>eK.pre x),fun x=>eK x))=x1.2.2.2.2.2.1.all gL from xX _ _]
 cases x1.1.all fN
 . rfl
 cases x1.2.2.1.all (fun g=>iX g x0.1)<;>rfl
end fY
def Wp{α:Type}(m:Option α)(Q:α->Prop):Prop:=∃a,m=some a/\Q a
section
variable {α β:Type} {Q:α->Prop}
theorem aN{a:α}(h:Q a):Wp (some a) Q:=⟨a,rfl,h⟩
theorem aL{c:Prop}[Decidable c]{A B:Option α}(h:c)(r:Wp A Q):Wp (if c then A else B) Q:=by rw[if_pos h];exact r
theorem fP{c:Prop}[Decidable c]{A B:Option α}(h:¬c)(r:Wp B Q):Wp (if c then A else B) Q:=by rw[if_neg h];exact r
theorem eG{c:Prop}[Decidable c]{A B:Option α}(h1:c->Wp A Q)(h2:¬c->Wp B Q):Wp (if c then A else B) Q:=by
 by_cases h:c
 . exact aL h (h1 h)
 . exact fP h (h2 h)
theorem dB{a:β}{f:β->Option α}(r:Wp (f a) Q):Wp (letB a f) Q:=r
theorem uJ{P:β->Prop}{a:β}{f:β->Option α}(h:P a)(r:∀b,P b->Wp (f b) Q):Wp (letB a f) Q:=r a h
end
section
variable {S O:Type} [Inhabited O]
noncomputable def aC7(aQ:S->Option (S⊕O)):Nat->S->O
 |0,_=>default
 |n+1,s=>match aQ s with
  |some (.inl t)=>aC7 aQ n t
  |some (.inr o)=>o
  |none=>default
noncomputable def aCa(aQ:S->Option (S⊕O))(mu:S->Nat)(s:S):O:=aC7 aQ (mu s+1) s
def iW(pre:S->Bool)(mu:S->Nat)(Q:S->O->Prop)(s:S)(r:S⊕O):Prop:=match r with
 |.inl t=>pre t=true/\mu t<mu s/\∀o,Q t o->Q s o
 |.inr o=>Q s o
variable {pre:S->Bool} {mu:S->Nat} {Q:S->O->Prop} {aQ:S->Option (S⊕O)}
theorem aEo(h:∀s,pre s=true->Wp (aQ s) (iW pre mu Q s)):(n m:Nat)->(s:S)->pre s=true->mu s<n->mu s<m->aC7 aQ n s=aC7 aQ m s
 |n+1,m+1,s,hp,h1,h2=>by
  obtain⟨r,e,hr⟩:=h s hp
  simp only[aC7,e]
  cases r with
  |inl t=>exact aEo h n m t hr.1 (by have:=hr.2.1;omega) (by have:=hr.2.1;omega)
  |inr o=>rfl
 |0,_,_,_,h1,_=>by omega
 |_+1,0,_,_,_,h2=>by omega
theorem aJ2(h:∀s,pre s=true->Wp (aQ s) (iW pre mu Q s)):(n:Nat)->(s:S)->pre s=true->mu s<n->Q s (aC7 aQ n s)
 |n+1,s,hp,h1=>by
  obtain⟨r,e,hr⟩:=h s hp
  simp only[aC7,e]
  cases r with
  |inl t=>exact hr.2.2 _ (aJ2 h n t hr.1 (by have:=hr.2.1;omega))
  |inr o=>exact hr
 |0,_,_,h1=>by omega
theorem vO(h:∀s,pre s=true->Wp (aQ s) (iW pre mu Q s)){s:S}(hp:pre s=true):Q s (aCa aQ mu s):=aJ2 h _ s hp (Nat.lt_succ_self _)
theorem sP(h:∀s,pre s=true->Wp (aQ s) (iW pre mu Q s)){s:S}(hp:pre s=true):Rounds pre mu (aCa aQ mu) s (aQ s):=by
 obtain⟨r,e,hr⟩:=h s hp
 rw[e]
 cases r with
 |inl t=>
  refine⟨hr.1,hr.2.1,?_⟩
  show aC7 aQ _ t=aC7 aQ (mu s+1) s
  simp only[aC7,e]
  exact aEo h _ _ t hr.1 (Nat.lt_succ_self _) hr.2.1
 |inr o=>
  show o=aC7 aQ (mu s+1) s
  simp only[aC7,e]
end
section
variable {S A B:Type} [Inhabited A]
noncomputable def aKx(aQ:S->Option (S⊕(A⊕B)))(mu:S->Nat)(s:S):A⊕B:=@aCa S (A⊕B) ⟨.inl default⟩ aQ mu s
variable {pre:S->Bool} {mu:S->Nat} {Q:S->(A⊕B)->Prop} {aQ:S->Option (S⊕(A⊕B))}
theorem aKd(h:∀s,pre s=true->Wp (aQ s) (iW pre mu Q s)){s:S}(hp:pre s=true):Q s (aKx aQ mu s):=@vO S (A⊕B) ⟨.inl default⟩ pre mu Q aQ h s hp
theorem aI1(h:∀s,pre s=true->Wp (aQ s) (iW pre mu Q s)){s:S}(hp:pre s=true):Rounds pre mu (aKx aQ mu) s (aQ s):=@sP S (A⊕B) ⟨.inl default⟩ pre mu Q aQ h s hp
end
theorem aET{β:Type}{m:Option (Unit×(β×Unit))}{v:β}(h:Wp m fun r=>r.2.1=v):m=some ((),(v,())):=by
 obtain⟨a,rfl,rfl⟩:=h
 rfl
theorem jS{g:aD}:gU g=true↔g.2.1.length<=16777216/\g.2.2.1.length<=16777216/\g.2.2.2.1.length<=16777216:=by
 simp only[gU,Zb,bW]
def upG(n:Int):Int:=if 100000<=n then n else n+1
namespace jI
def pre(n:Int):Bool:=decide (n<=n)
abbrev wf(x0:Int):Prop:=hN [(.val (.int .i64) .f)] (x0,())
noncomputable def aQ(x0:Int):Option uK:=
 if(decide ((100000:Int)<=x0))=true then
 some ((),(x0,()))
 else
 some ((),((wrap .i64 (x0+(1:Int))),()))
theorem eq(x0:Int)(hw:wf x0)(_:pre x0=true):aQ x0=some ((),(upG x0,())):=by
 have h:=aLa.1 hw.1
 unfold aQ upG
 by_cases h1:100000<=x0
 . rw[if_pos (Zd h1),if_pos h1]
 . rw[if_neg (by simpa using h1),if_neg h1,lF (by omega) (by omega)]
end jI
abbrev jI:=upG
def mP(g:aD)(i:Int):aD:=(g.1,(g.2.1.eraseIdx i.toNat,(g.2.2.1.eraseIdx i.toNat,g.2.2.2)))
theorem aC5{α:Type}{xs:List α}{i:Int}(h0:0<=i)(h1:i<(xs.length:Int))(h2:xs.length<=16777216):
 List.append (List.append ([]:List α) (aX (Int.toNat 0) i.toNat xs)) (aX (wrap .i64 (i+1)).toNat ((xs.length:Int)).toNat xs)=xs.eraseIdx i.toNat:=by
 rw[lF (n:=i+1) (by omega) (by omega)]
 show List.take (i.toNat-0) (List.drop 0 xs)++List.take (((xs.length:Int)).toNat-(i+1).toNat) (List.drop (i+1).toNat xs)=_
 rw[List.take_of_length_le (l:=List.drop (i+1).toNat xs) (by rw[Zs];omega),List.drop_zero,List.eraseIdx_eq_take_drop_succ,show(i+1).toNat=i.toNat+1 by omega];rfl
namespace eF
def pre(g:aD)(i:Int):Bool:=gU g&&(decide (0<=i)&&decide (i<(g.2.1.length:Int)))
abbrev wf(x0:aD)(x1:Int):Prop:=hN [(.val qT .f),(.val (.int .i64) .f)] (x0,(x1,()))
noncomputable def aQ(x0:aD)(x1:Int):Option aDo:=
 if(aU.pre x0)=true then
 if(decide ((0:Int)<=(0:Int)))=true then
 if(decide ((0:Int)<=x1))=true then
 if(decide (x1<=((length x0.2.1:Nat):Int)))=true then
 if(decide (length ([]:List Int)+length (aX (Int.toNat (0:Int)) (Int.toNat x1) x0.2.1)<=hY))=true then
 if(decide ((0:Int)<=(wrap .i64 (x1+(1:Int)))))=true then
 if(decide ((wrap .i64 (x1+(1:Int)))<=((length x0.2.1:Nat):Int)))=true then
 if(decide (((length x0.2.1:Nat):Int)<=((length x0.2.1:Nat):Int)))=true then
 if(decide (length (List.append ([]:List Int) (aX (Int.toNat (0:Int)) (Int.toNat x1) x0.2.1))+length (aX (Int.toNat (wrap .i64 (x1+(1:Int)))) (Int.toNat ((length x0.2.1:Nat):Int)) x0.2.1)<=hY))=true then
 if(decide (x1<((length x0.2.2.1:Nat):Int)))=true then
 if(decide ((0:Int)<=(0:Int)))=true then
 if(decide ((0:Int)<=x1))=true then
 if(decide (x1<=((length x0.2.2.1:Nat):Int)))=true then
 if(decide (length ([]:List Int)+length (aX (Int.toNat (0:Int)) (Int.toNat x1) x0.2.2.1)<=hY))=true then
 if(decide ((0:Int)<=(wrap .i64 (x1+(1:Int)))))=true then
 if(decide ((wrap .i64 (x1+(1:Int)))<=((length x0.2.2.1:Nat):Int)))=true then
 if(decide (((length x0.2.2.1:Nat):Int)<=((length x0.2.2.1:Nat):Int)))=true then
 if(decide (length (List.append ([]:List Int) (aX (Int.toNat (0:Int)) (Int.toNat x1) x0.2.2.1))+length (aX (Int.toNat (wrap .i64 (x1+(1:Int)))) (Int.toNat ((length x0.2.2.1:Nat):Int)) x0.2.2.1)<=hY))=true then
 letB (aU x0) fun v1=>
 some ((),((v1.1,((List.append (List.append ([]:List Int) (aX (Int.toNat (0:Int)) (Int.toNat x1) x0.2.1)) (aX (Int.toNat (wrap .i64 (x1+(1:Int)))) (Int.toNat ((length x0.2.1:Nat):Int)) x0.2.1)),((List.append (List.append ([]:List Int) (aX (Int.toNat (0:Int)) (Int.toNat x1) x0.2.2.1)) (aX (Int.toNat (wrap .i64 (x1+(1:Int)))) (Int.toNat ((length x0.2.2.1:Nat):Int)) x0.2.2.1)),v1.2.2.2))),()))
 else
 none
 else
 none
 else
 none
 else
 none
 else
 none
 else
 none
 else
 none
 else
 none
 else
 letB (aU x0) fun v2=>
 some ((),((v2.1,((List.append (List.append ([]:List Int) (aX (Int.toNat (0:Int)) (Int.toNat x1) x0.2.1)) (aX (Int.toNat (wrap .i64 (x1+(1:Int)))) (Int.toNat ((length x0.2.1:Nat):Int)) x0.2.1)),v2.2.2)),()))
 else
 none
 else
 none
 else
 none
 else
 none
 else
 none
 else
 none
 else
 none
 else
 none
 else
 none
theorem eq(x0:aD)(x1:Int)(_:wf x0 x1)(hp:pre x0 x1=true):aQ x0 x1=some ((),(mP x0 x1,())):=by
 simp only[pre,Zb,Za] at hp
 obtain⟨hs,h1,h2⟩:=hp
 have hg:=jS.1 hs
 have e:=lF (n:=x1+1) (by omega) (by omega)
 unfold aQ mP
 rw[aC5 h1 h2 hg.1,e]
 refine bV (show aU.pre x0=true from hs) ?_
 repeat (first|(with_reducible refine eN ?_)|(with_reducible refine bV ?hs ?_;case hs=>(first|assumption|(simp only[Za,Bool.not_eq_true',Zv,Bool.not_eq_true,Zf,List.append_eq,Zg,Zh,aX,Zr,Zs,List.length_modify,List.length_eraseIdx,hY];omega)|(simp only[Za];omega)))|(with_reducible refine dM ?hs ?_;case hs=>(first|assumption|(simp only[Za,Bool.not_eq_true',Zv,Bool.not_eq_true,Zf,List.append_eq,Zg,Zh,aX,Zr,Zs,List.length_modify,List.length_eraseIdx,hY];omega)|(simp only[Za];omega))))
 by_cases h3:x1<(x0.2.2.1.length:Int)
 . rw[<-e,aC5 h1 h3 hg.2.1,e]
   repeat (first|(with_reducible refine eN ?_)|(with_reducible refine bV ?hs ?_;case hs=>(first|assumption|(simp only[Za,Bool.not_eq_true',Zv,Bool.not_eq_true,Zf,List.append_eq,Zg,Zh,aX,Zr,Zs,List.length_modify,List.length_eraseIdx,hY];omega)|(simp only[Za];omega)))|(with_reducible refine dM ?hs ?_;case hs=>(first|assumption|(simp only[Za,Bool.not_eq_true',Zv,Bool.not_eq_true,Zf,List.append_eq,Zg,Zh,aX,Zr,Zs,List.length_modify,List.length_eraseIdx,hY];omega)|(simp only[Za];omega))))
   rfl
 . rw[List.eraseIdx_of_length_le (l:=x0.2.2.1) (by omega)]
   repeat (first|(with_reducible refine eN ?_)|(with_reducible refine bV ?hs ?_;case hs=>(first|assumption|(simp only[Za,Bool.not_eq_true',Zv,Bool.not_eq_true,Zf,List.append_eq,Zg,Zh,aX,Zr,Zs,List.length_modify,List.length_eraseIdx,hY];omega)|(simp only[Za];omega)))|(with_reducible refine dM ?hs ?_;case hs=>(first|assumption|(simp only[Za,Bool.not_eq_true',Zv,Bool.not_eq_true,Zf,List.append_eq,Zg,Zh,aX,Zr,Zs,List.length_modify,List.length_eraseIdx,hY];omega)|(simp only[Za];omega))))
   rfl
end eF
abbrev eF:=mP
theorem zJ{g:aD}{i:Int}(h:gU g=true):gU (mP g i)=true:=by
 rw[jS] at h ⊢
 have h1:(g.2.1.eraseIdx i.toNat).length<=g.2.1.length:=List.length_eraseIdx_le _ _
 have h2:(g.2.2.1.eraseIdx i.toNat).length<=g.2.2.1.length:=List.length_eraseIdx_le _ _
 exact⟨Nat.le_trans h1 h.1,Nat.le_trans h2 h.2.1,h.2.2⟩
def kD(who:Int):List Int->Int->Int
 |[],_=>-1
 |m::r,i=>if m=who then i else kD who r (i+1)
theorem vW{who:Int}:(l:List Int)->(i:Int)->0<=i->0<=kD who l i->i<=kD who l i/\kD who l i<i+l.length
 |[],_,_,h=>by simp only[kD] at h;omega
 |m::r,i,h0,h=>by
  simp only[kD,Zg] at h ⊢
  by_cases e:m=who
  . rw[if_pos e];omega
  . rw[if_neg e] at h ⊢
    have:=vW r (i+1) (by omega) h
    omega
theorem aBt{who:Int}:(l:List Int)->(i:Int)->0<=i->-1<=kD who l i
 |[],_,_=>by simp only[kD];omega
 |m::r,i,h0=>by
  simp only[kD]
  split
  . omega
  . exact aBt r (i+1) (by omega)
def atG(g:aD)(who:Int):Int:=kD who g.2.1 0
namespace kR
abbrev S2:Type:=(Int×(Int×(aD×Unit)))
abbrev O2:Type:=((Int×Unit)⊕Unit)
def pre2:S2->Bool:=fun(_,x2,x3,_)=>decide (0<=x2)&&(decide (x2<=(x3.2.1.length:Int))&&decide (x3.2.1.length<=16777216))
def fn2:S2->O2:=fun(x1,x2,x3,_)=>if 0<=kD x1 (x3.2.1.drop x2.toNat) x2 then .inl (kD x1 (x3.2.1.drop x2.toNat) x2,()) else .inr ()
def mA:S2->Nat:=fun(_,x2,x3,_)=>x3.2.1.length-x2.toNat
noncomputable def dT(x1:Int)(x2:Int)(x3:aD):Option ((Int×(Int×(aD×Unit)))⊕((Int×Unit)⊕Unit)):=
 if(decide (x2<((length x3.2.1:Nat):Int)))=true then
 if(decide ((0:Int)<=x2))=true then
 if(decide (x2<((length x3.2.1:Nat):Int)))=true then
 if(decide ((List.getD x3.2.1 (Int.toNat x2) (0:Int))=x1))=true then
 some (.inr (.inl (x2,())))
 else
 some (.inl (x1,((wrap .i64 (x2+(1:Int))),(x3,()))))
 else
 none
 else
 none
 else
 some (.inr (.inr ()))
abbrev wf(x0:aD)(x1:Int):Prop:=hN [(.val qT .f),(.val (.int .i64) .f)] (x0,(x1,()))
noncomputable def aQ(x0:aD)(x1:Int):Option uK:=
 if(kR.pre2 (x1,((0:Int),(x0,()))))=true then
  letB (kR.fn2 (x1,((0:Int),(x0,())))) fun v1=>
  match v1 with
  |.inl y=>
   some ((),y)
  |.inr y=>
   some ((),((-1:Int),()))
 else
  none
theorem rR(x1 x2:Int)(x3:aD)(hp:pre2 (x1,(x2,(x3,())))=true):Rounds pre2 mA fn2 (x1,(x2,(x3,()))) (dT x1 x2 x3):=by
 simp only[pre2,Zb,Za] at hp
 obtain⟨h1,h2,h3⟩:=hp
 unfold dT
 by_cases hlt:x2<(x3.2.1.length:Int)
 . have hn:x2.toNat<x3.2.1.length:=by omega
   have e1:=Zn hn
   refine eQ (Zd hlt) (eQ (Zd h1) (eQ (Zd hlt) ?_))
   rw[cX hn,lF (n:=x2+1) (by omega) (by omega)]
   by_cases he:x3.2.1[x2.toNat]=x1
   . refine eQ (Zd he) ?_
     show _=(if 0<=kD x1 (x3.2.1.drop x2.toNat) x2 then _ else _)
     rw[e1]
     simp only[kD,he,if_true]
     rw[if_pos h1]
   . refine jJ (by rw[Za];exact he) ⟨?_,by simp only[mA];omega,?_⟩
     . simp only[pre2,Zb,Za];omega
     . show(if 0<=kD x1 (x3.2.1.drop (x2+1).toNat) (x2+1) then _ else _)=(if 0<=kD x1 (x3.2.1.drop x2.toNat) x2 then _ else _)
       rw[e1,show(x2+1).toNat=x2.toNat+1 by omega]
       simp only[kD,he,if_false]
 . refine jJ (by rw[Za];exact hlt) ?_
   show _=(if 0<=kD x1 (x3.2.1.drop x2.toNat) x2 then _ else _)
   rw[Zt (by omega)]
   rfl
def pre(g:aD)(_:Int):Bool:=gU g
theorem eq(x0:aD)(x1:Int)(_:wf x0 x1)(hp:pre x0 x1=true):aQ x0 x1=some ((),(atG x0 x1,())):=by
 have hg:=jS.1 (show gU x0=true from hp)
 unfold aQ
 refine bV (show pre2 (x1,((0:Int),(x0,())))=true by simp only[pre2,Zb,Za];omega) (eN ?_)
 have hd:fn2 (x1,((0:Int),(x0,())))=if 0<=atG x0 x1 then .inl (atG x0 x1,()) else .inr ():=rfl
 rw[hd]
 have:=aBt (who:=x1) x0.2.1 0 (Int.le_refl _)
 by_cases h:0<=atG x0 x1
 . rw[if_pos h]
 . rw[if_neg h,show atG x0 x1=-1 by unfold atG at h ⊢;omega]
end kR
abbrev kR:=atG
def rU(t:Int):List Int->List Int->List Int
 |m::ms,b::bs=>if b<t-50 then rU t ms bs else m::rU t ms bs
 |_,_=>[]
def rW(t:Int):List Int->List Int
 |[]=>[]
 |b::bs=>if b<t-50 then rW t bs else b::rW t bs
def sU(t:Int)(bs:List Int):Bool:=bs.any fun b=>decide (b<t-50)
def mW(g:aD)(t:Int):aD:=(cond (sU t g.2.2.1) (upG g.1) g.1,(rU t g.2.1 g.2.2.1,(rW t g.2.2.1,g.2.2.2)))
theorem aAE{t m b:Int}:(ms bs:List Int)->ms.length=bs.length->rU t (ms++[m]) (bs++[b])=rU t ms bs++(if b<t-50 then[] else[m])
 |[],[],_=>by simp only[List.nil_append,rU]
 |_::ms,_::bs,h=>by
  simp only[List.cons_append,rU,aAE ms bs (by simpa using h)]
  split<;>rfl
 |[],_::_,h=>by cases h
 |_::_,[],h=>by cases h
theorem aAC{t b:Int}:(bs:List Int)->rW t (bs++[b])=rW t bs++(if b<t-50 then[] else[b])
 |[]=>by simp only[List.nil_append,rW]
 |_::bs=>by
  simp only[List.cons_append,rW,aAC bs]
  split<;>rfl
theorem mY{α:Type}{xs:List α}{n:Nat}(h:n<xs.length)(d:α):xs.take (n+1)=xs.take n++[xs.getD n d]:=by
 rw[List.take_add_one,cX h,Zm h];rfl
def qU(g:aD)(t:Int):Bool:=gU g&&(decide (g.2.2.1.length=g.2.1.length)&&(decide (0<=t)&&(decide (t<=100000)&&g.2.2.1.all fun b=>decide (0<=b)&&decide (b<=100000))))
theorem tN{g:aD}{t:Int}:qU g t=true↔gU g=true/\g.2.2.1.length=g.2.1.length/\0<=t/\t<=100000/\∀b∈g.2.2.1,0<=b/\b<=100000:=by
 simp only[qU,Zb,Za,Zu]
namespace gS
abbrev S4:Type:=(Int×(Bool×(Int×(aD×aCe))))
abbrev O4:Type:=(Bool×(aD×aCe))
noncomputable def pre4:S4->Bool:=fun(x1,_,x3,x4,_,_,_,_,_,_,_,x12,x13,x14,_)=>qU x4 x1&&(gU (0,(x12,(x13,(x14,()))))&&(decide (-1<=x3)&&(decide (x3<(x4.2.1.length:Int))&&(decide (x3<(x12.length:Int))&&(same (x12.take (x3+1).toNat) (x4.2.1.take (x3+1).toNat)&&(decide (x13.length=x12.length)&&same (x13.take (x3+1).toNat) (x4.2.2.1.take (x3+1).toNat)))))))
def lN:S4->Nat:=fun(_,_,x3,_)=>(x3+1).toNat
def Q4(s:S4)(o:O4):Prop:=match s,o with
 |(x1,x2,x3,x4,_,_,_,_,_,x10,_,x12,x13,x14,_),(o1,o4,_,_,_,_,_,o10,_,o12,o13,o14,_)=>
  o4=x4/\o10=x10/\o14=x14/\o1=(x2||sU x1 (x4.2.2.1.take (x3+1).toNat))/\o12=rU x1 (x4.2.1.take (x3+1).toNat) (x4.2.2.1.take (x3+1).toNat)++x12.drop (x3+1).toNat/\o13=rW x1 (x4.2.2.1.take (x3+1).toNat)++x13.drop (x3+1).toNat
noncomputable def eA(x1:Int)(x2:Bool)(x3:Int)(x4:aD)(x5:Int)(x6:Unit)(x7:(List Int))(x8:(List Int))(x9:(List Int))(x10:Int)(x11:Unit)(x12:(List Int))(x13:(List Int))(x14:(List Int)):Option ((Int×(Bool×(Int×(aD×aCe))))⊕(Bool×(aD×aCe))):=
 if(decide ((0:Int)<=x3))=true then
 if(decide (x3<((length x4.2.2.1:Nat):Int)))=true then
 if(decide ((0:Int)<=x3))=true then
 if(decide (x3<((length x4.2.2.1:Nat):Int)))=true then
 if(decide ((List.getD x4.2.2.1 (Int.toNat x3) (0:Int))<x1))=true then
 if(decide ((0:Int)<=x3))=true then
 if(decide (x3<((length x4.2.2.1:Nat):Int)))=true then
 if(decide ((50:Int)<(wrap .i64 (x1-(List.getD x4.2.2.1 (Int.toNat x3) (0:Int))))))=true then
 if(eF.pre (x10,(x12,(x13,(x14,x11)))) x3)=true then
 letB (mP (x10,(x12,(x13,(x14,x11)))) x3) fun v1=>
 some (.inl (x1,(true,((wrap .i64 (x3-(1:Int))),(x4,(x5,(x6,(x7,(x8,(x9,(v1.1,(v1.2.2.2.2,v1.2))))))))))))
 else
 none
 else
 if(decide ((0:Int)<=x3))=true then
 if(decide (x3<((length x4.2.2.1:Nat):Int)))=true then
 if(decide ((wrap .i64 (x1-(List.getD x4.2.2.1 (Int.toNat x3) (0:Int))))<(0:Int)))=true then
 if(eF.pre (x10,(x12,(x13,(x14,x11)))) x3)=true then
 letB (mP (x10,(x12,(x13,(x14,x11)))) x3) fun v2=>
 some (.inl (x1,(true,((wrap .i64 (x3-(1:Int))),(x4,(x5,(x6,(x7,(x8,(x9,(v2.1,(v2.2.2.2.2,v2.2))))))))))))
 else
 none
 else
 some (.inl (x1,(x2,((wrap .i64 (x3-(1:Int))),(x4,(x5,(x6,(x7,(x8,(x9,(x10,(x11,(x12,(x13,(x14,())))))))))))))))
 else
 none
 else
 none
 else
 none
 else
 none
 else
 some (.inl (x1,(x2,((wrap .i64 (x3-(1:Int))),(x4,(x5,(x6,(x7,(x8,(x9,(x10,(x11,(x12,(x13,(x14,())))))))))))))))
 else
 none
 else
 none
 else
 some (.inl (x1,(x2,((wrap .i64 (x3-(1:Int))),(x4,(x5,(x6,(x7,(x8,(x9,(x10,(x11,(x12,(x13,(x14,())))))))))))))))
 else
 some (.inr (x2,(x4,(x5,(x6,(x7,(x8,(x9,(x10,(x11,(x12,(x13,(x14,())))))))))))))
theorem wp4:∀s,pre4 s=true->Wp ((fun(x:S4)=>eA x.1 x.2.1 x.2.2.1 x.2.2.2.1 x.2.2.2.2.1 x.2.2.2.2.2.1 x.2.2.2.2.2.2.1 x.2.2.2.2.2.2.2.1 x.2.2.2.2.2.2.2.2.1 x.2.2.2.2.2.2.2.2.2.1 x.2.2.2.2.2.2.2.2.2.2.1 x.2.2.2.2.2.2.2.2.2.2.2.1 x.2.2.2.2.2.2.2.2.2.2.2.2.1 x.2.2.2.2.2.2.2.2.2.2.2.2.2.1) s) (iW pre4 lN Q4 s):=by
 rintro⟨x1,x2,x3,x4,x5,⟨⟩,x7,x8,x9,x10,⟨⟩,x12,x13,x14,⟨⟩⟩ hp
 simp only[pre4,Zb,Za,cF] at hp
 obtain⟨htp,hgs,h3,h4,h5,h6,h7,h8⟩:=hp
 obtain⟨t1,t2,t3,t4,t5⟩:=tN.1 htp
 have hg:=jS.1 hgs
 have ht:=jS.1 t1
 simp only[] at hg
 show Wp (eA x1 x2 x3 x4 x5 () x7 x8 x9 x10 () x12 x13 x14) _
 unfold eA
 by_cases h0:0<=x3
 . have hn1:x3.toNat<x4.2.1.length:=by omega
   have hn2:x3.toNat<x4.2.2.1.length:=by omega
   have hn3:x3.toNat<x12.length:=by omega
   have hn4:x3.toNat<x13.length:=by omega
   have es:(x3+1).toNat=x3.toNat+1:=by omega
   have e1:=lF (n:=x3-1) (by omega) (by omega)
   have em:(x3-1+1).toNat=x3.toNat:=by omega
   have hb:=t5 _ (List.getElem_mem hn2)
   have eb:x4.2.2.1.getD x3.toNat (0:Int)=x4.2.2.1[x3.toNat]:=cX hn2
   rw[es] at h6 h8
   have k12:x12.take x3.toNat=x4.2.1.take x3.toNat:=by
    have:=congrArg (List.take x3.toNat) h6
    rwa [List.take_take,List.take_take,Nat.min_eq_left (by omega)] at this
   have k13:x13.take x3.toNat=x4.2.2.1.take x3.toNat:=by
    have:=congrArg (List.take x3.toNat) h8
    rwa [List.take_take,List.take_take,Nat.min_eq_left (by omega)] at this
   have ew:=lF (n:=x1-x4.2.2.1[x3.toNat]) (by omega) (by omega)
   have hl:(x4.2.1.take x3.toNat).length=(x4.2.2.1.take x3.toNat).length:=by rw[Zr,Zr];omega
   -- kept
   have stay:¬x4.2.2.1[x3.toNat]<x1-50->iW pre4 lN Q4 (x1,x2,x3,x4,x5,(),x7,x8,x9,x10,(),x12,x13,x14,()) (.inl (x1,(x2,((wrap .i64 (x3-1)),(x4,(x5,((),(x7,(x8,(x9,(x10,((),(x12,(x13,(x14,()))))))))))))))):=by
    intro hk
    rw[e1]
    refine⟨?_,by simp only[lN];omega,?_⟩
    . simp only[pre4,Zb,Za,cF,em]
      exact⟨htp,hgs,by omega,by omega,by omega,k12,h7,k13⟩
    . rintro⟨o1,o4,o5,⟨⟩,o7,o8,o9,o10,⟨⟩,o12,o13,o14,⟨⟩⟩ ⟨q1,q2,q3,q4,q5,q6⟩
      refine⟨q1,q2,q3,?_,?_,?_⟩
      . rw[q4,em,es,mY hn2 0,eb]
        simp only[sU,List.any_append,List.any_cons,List.any_nil,decide_eq_false hk,Bool.or_false]
      . rw[q5,em,es,mY hn2 0,mY hn1 0,aAE _ _ hl,eb,if_neg hk,Zk,Zn hn3]
        have:x12[x3.toNat]=x4.2.1.getD x3.toNat 0:=by
         have:(x12.take (x3.toNat+1)).getD x3.toNat 0=(x4.2.1.take (x3.toNat+1)).getD x3.toNat 0:=by rw[h6]
         rw[mY hn3 0,mY hn1 0,k12,cX hn3] at this
         have hlen:(x4.2.1.take x3.toNat).length=x3.toNat:=by rw[Zr];omega
         simpa [List.getD_eq_getElem?_getD,List.getElem?_append_right,hlen] using this
        rw[this];rfl
      . rw[q6,em,es,mY hn2 0,aAC,eb,if_neg hk,Zk,Zn hn4]
        have:x13[x3.toNat]=x4.2.2.1[x3.toNat]:=by
         have:(x13.take (x3.toNat+1)).getD x3.toNat 0=(x4.2.2.1.take (x3.toNat+1)).getD x3.toNat 0:=by rw[h8]
         rw[mY hn4 0,mY hn2 0,k13,cX hn4] at this
         have hlen:(x4.2.2.1.take x3.toNat).length=x3.toNat:=by rw[Zr];omega
         rw[eb] at this
         rw[<-eb]
         simpa [List.getD_eq_getElem?_getD,List.getElem?_append_right,hlen] using this
        rw[this];rfl
   -- taken out
   have take:x4.2.2.1[x3.toNat]<x1-50->iW pre4 lN Q4 (x1,x2,x3,x4,x5,(),x7,x8,x9,x10,(),x12,x13,x14,()) (.inl (x1,(true,((wrap .i64 (x3-1)),(x4,(x5,((),(x7,(x8,(x9,((mP (x10,(x12,(x13,(x14,())))) x3).1,((mP (x10,(x12,(x13,(x14,())))) x3).2.2.2.2,(mP (x10,(x12,(x13,(x14,())))) x3).2)))))))))))):=by
    intro hk
    rw[e1]
    have gs':gU (mP (0,(x12,(x13,(x14,())))) x3)=true:=zJ hgs
    refine⟨?_,by simp only[lN];omega,?_⟩
    . show pre4 (x1,(true,(x3-1,(x4,(x5,((),(x7,(x8,(x9,(x10,((),(x12.eraseIdx x3.toNat,(x13.eraseIdx x3.toNat,(x14,()))))))))))))))=true
      simp only[pre4,Zb,Za,cF,em]
      refine⟨htp,gs',by omega,by omega,?_,?_,?_,?_⟩
      . rw[List.length_eraseIdx_of_lt hn3];omega
      . rw[List.eraseIdx_eq_take_drop_succ,List.take_append_of_le_length (by rw[Zr];omega),List.take_take,Nat.min_self];exact k12
      . rw[List.length_eraseIdx_of_lt hn3,List.length_eraseIdx_of_lt hn4];omega
      . rw[List.eraseIdx_eq_take_drop_succ,List.take_append_of_le_length (by rw[Zr];omega),List.take_take,Nat.min_self];exact k13
    . rintro⟨o1,o4,o5,⟨⟩,o7,o8,o9,o10,⟨⟩,o12,o13,o14,⟨⟩⟩ ⟨q1,q2,q3,q4,q5,q6⟩
      refine⟨q1,q2,q3,?_,?_,?_⟩
      . rw[q4,em,es,mY hn2 0,eb]
        simp only[sU,List.any_append,List.any_cons,List.any_nil,Zd hk,Bool.or_true,Bool.true_or]
      . rw[q5,em,es,mY hn2 0,mY hn1 0,aAE _ _ hl,eb,if_pos hk,List.append_nil]
        show _++List.drop x3.toNat (x12.eraseIdx x3.toNat)=_
        rw[List.eraseIdx_eq_take_drop_succ,List.drop_append_of_le_length (by rw[Zr];omega),List.drop_take,Nat.sub_self];rfl
      . rw[q6,em,es,mY hn2 0,aAC,eb,if_pos hk,List.append_nil]
        show _++List.drop x3.toNat (x13.eraseIdx x3.toNat)=_
        rw[List.eraseIdx_eq_take_drop_succ,List.drop_append_of_le_length (by rw[Zr];omega),List.drop_take,Nat.sub_self];rfl
   have hpw:eF.pre (x10,(x12,(x13,(x14,())))) x3=true:=by
    simp only[eF.pre,Zb,Za]
    exact⟨hgs,h0,by omega⟩
   rw[eb]
   refine aL (Zd h0) (aL (Zd (by omega)) (aL (Zd h0) (aL (Zd (by omega)) (eG (fun c=>?_) fun c=>?_))))
   . rw[Za] at c
     refine aL (Zd h0) (aL (Zd (by omega)) (eG (fun d=>?_) fun d=>?_))
     . rw[Za,ew] at d
       exact aL hpw (dB (aN (take (by omega))))
     . rw[Za,ew] at d
       exact aL (Zd h0) (aL (Zd (by omega)) (fP (by rw[Za,ew];omega) (aN (stay (by omega)))))
   . rw[Za] at c
     exact aN (stay (by omega))
 . refine fP (by rw[Za];exact h0) (aN ?_)
   have:(x3+1).toNat=0:=by omega
   simp only[iW,Q4,this,List.take_zero,List.drop_zero]
   exact⟨trivial,trivial,trivial,by simp[sU],rfl,rfl⟩
noncomputable def fn4:S4->O4:=aCa (fun(x:S4)=>eA x.1 x.2.1 x.2.2.1 x.2.2.2.1 x.2.2.2.2.1 x.2.2.2.2.2.1 x.2.2.2.2.2.2.1 x.2.2.2.2.2.2.2.1 x.2.2.2.2.2.2.2.2.1 x.2.2.2.2.2.2.2.2.2.1 x.2.2.2.2.2.2.2.2.2.2.1 x.2.2.2.2.2.2.2.2.2.2.2.1 x.2.2.2.2.2.2.2.2.2.2.2.2.1 x.2.2.2.2.2.2.2.2.2.2.2.2.2.1) lN
theorem uM(x1:Int)(x2:Bool)(x3:Int)(x4:aD)(x5:Int)(x6:Unit)(x7 x8 x9:List Int)(x10:Int)(x11:Unit)(x12 x13 x14:List Int)(hp:pre4 (x1,(x2,(x3,(x4,(x5,(x6,(x7,(x8,(x9,(x10,(x11,(x12,(x13,(x14,()))))))))))))))=true):
 Rounds pre4 lN fn4 (x1,(x2,(x3,(x4,(x5,(x6,(x7,(x8,(x9,(x10,(x11,(x12,(x13,(x14,())))))))))))))) (eA x1 x2 x3 x4 x5 x6 x7 x8 x9 x10 x11 x12 x13 x14):=sP wp4 hp
def pre(g:aD)(t:Int):Bool:=qU g t
abbrev wf(x0:aD)(x1:Int):Prop:=hN [(.val qT .f),(.val (.int .i64) .f)] (x0,(x1,()))
noncomputable def aQ(x0:aD)(x1:Int):Option aDo:=
 if(aU.pre x0)=true then
 letB (aU x0) fun v1=>
 if(gS.pre4 (x1,(false,((wrap .i64 (((length x0.2.1:Nat):Int)-(1:Int))),(x0,((0:Int),((),(([]:List Int),(([]:List Int),(([]:List Int),(v1.1,(v1.2.2.2.2,v1.2))))))))))))=true then
 letB (gS.fn4 (x1,(false,((wrap .i64 (((length x0.2.1:Nat):Int)-(1:Int))),(x0,((0:Int),((),(([]:List Int),(([]:List Int),(([]:List Int),(v1.1,(v1.2.2.2.2,v1.2)))))))))))) fun v2=>
 if v2.1=true then
 if(jI.pre v2.2.1.1)=true then
 letB (upG v2.2.1.1) fun v3=>
 some ((),((v3,(v2.2.2.2.2.2.2.2.2.2.1,(v2.2.2.2.2.2.2.2.2.2.2.1,(v2.2.2.2.2.2.2.2.2.2.2.2.1,v2.2.2.2.2.2.2.2.2.1)))),()))
 else
 none
 else
 some ((),((v2.2.2.2.2.2.2.2.1,(v2.2.2.2.2.2.2.2.2.2.1,(v2.2.2.2.2.2.2.2.2.2.2.1,(v2.2.2.2.2.2.2.2.2.2.2.2.1,v2.2.2.2.2.2.2.2.2.1)))),()))
 else
 none
 else
 none
theorem eq(x0:aD)(x1:Int)(_:wf x0 x1)(hp:pre x0 x1=true):aQ x0 x1=some ((),(mW x0 x1,())):=by
 obtain⟨t1,t2,t3,t4,t5⟩:=tN.1 (show qU x0 x1=true from hp)
 have hg:=jS.1 t1
 refine aET ?_
 unfold aQ
 have e1:=lF (n:=(x0.2.1.length:Int)-1) (by omega) (by omega)
 have en:((x0.2.1.length:Int)-1+1).toNat=x0.2.1.length:=by omega
 have hq:pre4 (x1,(false,((wrap .i64 ((x0.2.1.length:Int)-1)),(x0,((0:Int),((),(([]:List Int),(([]:List Int),(([]:List Int),((aU x0).1,((aU x0).2.2.2.2,(aU x0).2)))))))))))=true:=by
  rw[e1]
  show(qU x0 x1&&(gU (0,(x0.2.1,(x0.2.2.1,(x0.2.2.2.1,()))))&&(decide (-1<=(x0.2.1.length:Int)-1)&&(decide ((x0.2.1.length:Int)-1<(x0.2.1.length:Int))&&(decide ((x0.2.1.length:Int)-1<(x0.2.1.length:Int))&&(same (x0.2.1.take ((x0.2.1.length:Int)-1+1).toNat) (x0.2.1.take ((x0.2.1.length:Int)-1+1).toNat)&&(decide (x0.2.2.1.length=x0.2.1.length)&&same (x0.2.2.1.take ((x0.2.1.length:Int)-1+1).toNat) (x0.2.2.1.take ((x0.2.1.length:Int)-1+1).toNat))))))))=true
  simp only[mH,Bool.and_true,Zb,Za,Bool.true_and]
  exact⟨hp,t1,by omega,by omega,by omega,t2⟩
 refine aL (show aU.pre x0=true from t1) (dB (aL hq (uJ (vO wp4 hq:Q4 _ (fn4 _)) ?_)))
 rintro⟨o1,o4,o5,⟨⟩,o7,o8,o9,o10,⟨⟩,o12,o13,o14,⟨⟩⟩ ⟨q1,q2,q3,q4,q5,q6⟩
 simp only[e1,en] at q4 q5 q6
 have q4:o1=sU x1 x0.2.2.1:=by rw[q4,Bool.false_or,List.take_of_length_le (by omega)]
 have q5:o12=rU x1 x0.2.1 x0.2.2.1:=by rw[q5,List.take_of_length_le (Nat.le_refl _),List.take_of_length_le (by omega)];show _++x0.2.1.drop _=_;rw[Zt (Nat.le_refl _),List.append_nil]
 have q6:o13=rW x1 x0.2.2.1:=by rw[q6,List.take_of_length_le (by omega)];show _++x0.2.2.1.drop _=_;rw[Zt (by omega),List.append_nil]
 have q3:o14=x0.2.2.2.1:=q3
 have q2:o10=x0.1:=q2
 subst q2 q3 q4 q5 q6
 rw[q1]
 unfold mW
 cases sU x1 x0.2.2.1
 . exact fP Bool.false_ne_true (aN rfl)
 . exact aL rfl (aL (show jI.pre _=true from Zd (Int.le_refl _)) (aN rfl))
end gS
abbrev gS:=mW
def pJ(who:Int):List Int->List Int->Nat
 |m::ms,_::bs=>if m<who then pJ who ms bs+1 else 0
 |_,_=>0
theorem aBc{who:Int}:(ms bs:List Int)->pJ who ms bs<=ms.length/\pJ who ms bs<=bs.length
 |[],_=>⟨Nat.zero_le _,Nat.zero_le _⟩
 |_::_,[]=>⟨Nat.zero_le _,Nat.zero_le _⟩
 |m::ms,b::bs=>by
  have:=aBc (who:=who) ms bs
  simp only[pJ,Zg]
  split<;>omega
def aAD(k:Nat)(x:Int)(l:List Int):List Int:=l.take k++x::l.drop k
def jA(g:aD)(who t:Int):aD:=
 if aA who 0 3=true then
  if 0<=atG g who then(if atG g who<(g.2.2.1.length:Int) then(g.1,(g.2.1,(g.2.2.1.modify (atG g who).toNat (fun _=>t),g.2.2.2))) else g)
  else(upG g.1,(aAD (pJ who g.2.1 g.2.2.1) who g.2.1,(aAD (pJ who g.2.1 g.2.2.1) t g.2.2.1,g.2.2.2)))
 else g
namespace gD
abbrev S10:Type:=(Int×(Int×(Int×(aD×aCe))))
abbrev O10:Type:=(Int×(Int×(Int×(aD×aCe))))
def pre10:S10->Bool:=fun(_,_,x3,x4,_)=>gU x4&&(decide (0<=x3)&&(decide (x3<=(x4.2.1.length:Int))&&decide (x3<=(x4.2.2.1.length:Int))))
def fn10:S10->O10:=fun(x1,x2,x3,x4,x5)=>(x1,x2,x3+(pJ x1 (x4.2.1.drop x3.toNat) (x4.2.2.1.drop x3.toNat):Int),x4,x5)
def aKH:S10->Nat:=fun(_,_,x3,x4,_)=>x4.2.1.length-x3.toNat
def pre(g:aD)(_ _:Int):Bool:=gU g
noncomputable def aJG(x1:Int)(x2:Int)(x3:Int)(x4:aD)(x5:Int)(x6:Unit)(x7:(List Int))(x8:(List Int))(x9:(List Int))(x10:Int)(x11:Unit)(x12:(List Int))(x13:(List Int))(x14:(List Int)):Option ((Int×(Int×(Int×(aD×aCe))))⊕(Int×(Int×(Int×(aD×aCe))))):=
 if(decide (x3<((length x4.2.1:Nat):Int)))=true then
 if(decide (x3<((length x4.2.2.1:Nat):Int)))=true then
 if(decide ((0:Int)<=x3))=true then
 if(decide (x3<((length x4.2.1:Nat):Int)))=true then
 if(decide ((List.getD x4.2.1 (Int.toNat x3) (0:Int))<x1))=true then
 some (.inl (x1,(x2,((wrap .i64 (x3+(1:Int))),(x4,(x5,(x6,(x7,(x8,(x9,(x10,(x11,(x12,(x13,(x14,())))))))))))))))
 else
 some (.inr (x1,(x2,(x3,(x4,(x5,(x6,(x7,(x8,(x9,(x10,(x11,(x12,(x13,(x14,())))))))))))))))
 else
 none
 else
 none
 else
 some (.inr (x1,(x2,(x3,(x4,(x5,(x6,(x7,(x8,(x9,(x10,(x11,(x12,(x13,(x14,())))))))))))))))
 else
 some (.inr (x1,(x2,(x3,(x4,(x5,(x6,(x7,(x8,(x9,(x10,(x11,(x12,(x13,(x14,())))))))))))))))
abbrev wf(x0:aD)(x1:Int)(x2:Int):Prop:=hN [(.val qT .f),(.val (.int .i64) .f),(.val (.int .i64) .f)] (x0,(x1,(x2,())))
noncomputable def aQ(x0:aD)(x1:Int)(x2:Int):Option aDo:=
 if(aU.pre x0)=true then
 letB (aA x1 (0:Int) (3:Int)) fun v1=>
 if(!v1)=true then
 letB (aU x0) fun v2=>
 some ((),(v2,()))
 else
 if(kR.pre x0 x1)=true then
 letB (atG x0 x1) fun v3=>
 if(decide ((0:Int)<=v3))=true then
 letB (aU x0) fun v4=>
 if(decide (v3<((length v4.2.2.1:Nat):Int)))=true then
 if(decide ((0:Int)<=v3))=true then
 if(decide (v3<((length v4.2.2.1:Nat):Int)))=true then
 some ((),((v4.1,(v4.2.1,((List.modify v4.2.2.1 (Int.toNat v3) (fun z=>x2)),v4.2.2.2))),()))
 else
 none
 else
 none
 else
 some ((),(v4,()))
 else
 letB (aU x0) fun v5=>
 if(gD.pre10 (x1,(x2,((0:Int),(x0,((0:Int),((),(([]:List Int),(([]:List Int),(([]:List Int),(v5.1,(v5.2.2.2.2,v5.2))))))))))))=true then
 if(decide ((0:Int)<=(0:Int)))=true then
 letB (gD.fn10 (x1,(x2,((0:Int),(x0,((0:Int),((),(([]:List Int),(([]:List Int),(([]:List Int),(v5.1,(v5.2.2.2.2,v5.2)))))))))))) fun v6=>
 if(decide ((0:Int)<=v6.2.2.1))=true then
 if(decide (v6.2.2.1<=((length v6.2.2.2.1.2.1:Nat):Int)))=true then
 if(decide (length ([]:List Int)+length (aX (Int.toNat (0:Int)) (Int.toNat v6.2.2.1) v6.2.2.2.1.2.1)<=hY))=true then
 if(decide (length (List.append ([]:List Int) (aX (Int.toNat (0:Int)) (Int.toNat v6.2.2.1) v6.2.2.2.1.2.1))+length (v6.1::([]:List Int))<=hY))=true then
 if(decide ((0:Int)<=v6.2.2.1))=true then
 if(decide (v6.2.2.1<=((length v6.2.2.2.1.2.1:Nat):Int)))=true then
 if(decide (((length v6.2.2.2.1.2.1:Nat):Int)<=((length v6.2.2.2.1.2.1:Nat):Int)))=true then
 if(decide (length (List.append (List.append ([]:List Int) (aX (Int.toNat (0:Int)) (Int.toNat v6.2.2.1) v6.2.2.2.1.2.1)) (v6.1::([]:List Int)))+length (aX (Int.toNat v6.2.2.1) (Int.toNat ((length v6.2.2.2.1.2.1:Nat):Int)) v6.2.2.2.1.2.1)<=hY))=true then
 if(decide ((0:Int)<=(0:Int)))=true then
 if(decide ((0:Int)<=v6.2.2.1))=true then
 if(decide (v6.2.2.1<=((length v6.2.2.2.1.2.2.1:Nat):Int)))=true then
 if(decide (length ([]:List Int)+length (aX (Int.toNat (0:Int)) (Int.toNat v6.2.2.1) v6.2.2.2.1.2.2.1)<=hY))=true then
 if(decide (length (List.append ([]:List Int) (aX (Int.toNat (0:Int)) (Int.toNat v6.2.2.1) v6.2.2.2.1.2.2.1))+length (v6.2.1::([]:List Int))<=hY))=true then
 if(decide ((0:Int)<=v6.2.2.1))=true then
 if(decide (v6.2.2.1<=((length v6.2.2.2.1.2.2.1:Nat):Int)))=true then
 if(decide (((length v6.2.2.2.1.2.2.1:Nat):Int)<=((length v6.2.2.2.1.2.2.1:Nat):Int)))=true then
 if(decide (length (List.append (List.append ([]:List Int) (aX (Int.toNat (0:Int)) (Int.toNat v6.2.2.1) v6.2.2.2.1.2.2.1)) (v6.2.1::([]:List Int)))+length (aX (Int.toNat v6.2.2.1) (Int.toNat ((length v6.2.2.2.1.2.2.1:Nat):Int)) v6.2.2.2.1.2.2.1)<=hY))=true then
 if(jI.pre v6.2.2.2.1.1)=true then
 letB (upG v6.2.2.2.1.1) fun v7=>
 some ((),((v7,((List.append (List.append (List.append ([]:List Int) (aX (Int.toNat (0:Int)) (Int.toNat v6.2.2.1) v6.2.2.2.1.2.1)) (v6.1::([]:List Int))) (aX (Int.toNat v6.2.2.1) (Int.toNat ((length v6.2.2.2.1.2.1:Nat):Int)) v6.2.2.2.1.2.1)),((List.append (List.append (List.append ([]:List Int) (aX (Int.toNat (0:Int)) (Int.toNat v6.2.2.1) v6.2.2.2.1.2.2.1)) (v6.2.1::([]:List Int))) (aX (Int.toNat v6.2.2.1) (Int.toNat ((length v6.2.2.2.1.2.2.1:Nat):Int)) v6.2.2.2.1.2.2.1)),(v6.2.2.2.2.2.2.2.2.2.2.2.2.2.1,v6.2.2.2.2.2.2.2.2.2.2.1)))),()))
 else
 none
 else
 none
 else
 none
 else
 none
 else
 none
 else
 none
 else
 none
 else
 none
 else
 none
 else
 none
 else
 none
 else
 none
 else
 none
 else
 none
 else
 none
 else
 none
 else
 none
 else
 none
 else
 none
 else
 none
 else
 none
 else
 none
theorem aMg(x1 x2 x3:Int)(x4:aD)(x5:Int)(x6:Unit)(x7 x8 x9:List Int)(x10:Int)(x11:Unit)(x12 x13 x14:List Int)(hp:pre10 (x1,(x2,(x3,(x4,(x5,(x6,(x7,(x8,(x9,(x10,(x11,(x12,(x13,(x14,()))))))))))))))=true):
 Rounds pre10 aKH fn10 (x1,(x2,(x3,(x4,(x5,(x6,(x7,(x8,(x9,(x10,(x11,(x12,(x13,(x14,())))))))))))))) (aJG x1 x2 x3 x4 x5 x6 x7 x8 x9 x10 x11 x12 x13 x14):=by
 simp only[pre10,Zb,Za] at hp
 obtain⟨hs,h1,h2,h3⟩:=hp
 have hg:=jS.1 hs
 have stop:(pJ x1 (x4.2.1.drop x3.toNat) (x4.2.2.1.drop x3.toNat))=0->Rounds pre10 aKH fn10 (x1,(x2,(x3,(x4,(x5,(x6,(x7,(x8,(x9,(x10,(x11,(x12,(x13,(x14,())))))))))))))) (some (.inr (x1,(x2,(x3,(x4,(x5,(x6,(x7,(x8,(x9,(x10,(x11,(x12,(x13,(x14,())))))))))))))))):=by
  intro h
  simp only[Rounds,fn10,h]
  simp
 unfold aJG
 by_cases a1:x3<(x4.2.1.length:Int)
 . by_cases a2:x3<(x4.2.2.1.length:Int)
   . have hn:x3.toNat<x4.2.1.length:=by omega
     have hn2:x3.toNat<x4.2.2.1.length:=by omega
     have e1:=Zn hn
     have e2:=Zn hn2
     refine eQ (Zd a1) (eQ (Zd a2) (eQ (Zd h1) (eQ (Zd a1) ?_)))
     rw[cX hn,lF (n:=x3+1) (by omega) (by omega)]
     by_cases c:x4.2.1[x3.toNat]<x1
     . refine eQ (Zd c) ⟨?_,by simp only[aKH];omega,?_⟩
       . simp only[pre10,Zb,Za];exact⟨hs,by omega,by omega,by omega⟩
       . simp only[fn10]
         rw[e1,e2,show(x3+1).toNat=x3.toNat+1 by omega]
         simp only[pJ,c,if_true]
         rw[show x3+1+((pJ x1 (List.drop (x3.toNat+1) x4.2.1) (List.drop (x3.toNat+1) x4.2.2.1):Nat):Int)=x3+((pJ x1 (List.drop (x3.toNat+1) x4.2.1) (List.drop (x3.toNat+1) x4.2.2.1)+1:Nat):Int) by omega]
     . refine jJ (by rw[Za];exact c) (stop ?_)
       rw[e1,e2]
       simp only[pJ,c,if_false]
   . refine eQ (Zd a1) (jJ (by rw[Za];exact a2) (stop ?_))
     rw[show x4.2.2.1.drop x3.toNat=[] from Zt (by omega)]
     cases x4.2.1.drop x3.toNat<;>rfl
 . refine jJ (by rw[Za];exact a1) (stop ?_)
   rw[show x4.2.1.drop x3.toNat=[] from Zt (by omega)]
   rfl
theorem aEy{l:List Int}{x:Int}{k:Nat}:List.append (List.append (List.append ([]:List Int) (aX (Int.toNat 0) k l)) (x::([]:List Int))) (aX k ((l.length:Int)).toNat l)=aAD k x l:=by
 show(List.take (k-0) (List.drop 0 l)++[x])++List.take (((l.length:Int)).toNat-k) (List.drop k l)=_
 rw[List.take_of_length_le (l:=List.drop k l) (by rw[Zs];omega),Zk];rfl
theorem eq(x0:aD)(x1 x2:Int)(_:wf x0 x1 x2)(hp:pre x0 x1 x2=true):aQ x0 x1 x2=some ((),(jA x0 x1 x2,())):=by
 have hs:gU x0=true:=hp
 have hg:=jS.1 hs
 unfold aQ jA
 refine bV (show aU.pre x0=true from hs) (eN ?_)
 cases hin:aA x1 0 3
 . rfl
 refine dM (by decide) (bV (show kR.pre x0 x1=true from hs) (eN ?_))
 rw[if_pos rfl]
 by_cases h0:0<=atG x0 x1
 . have:=vW (who:=x1) x0.2.1 0 (Int.le_refl _) h0
   refine bV (Zd h0) (eN ?_)
   rw[if_pos h0]
   by_cases h1:atG x0 x1<(x0.2.2.1.length:Int)
   . rw[if_pos h1]
     exact bV (Zd h1) (bV (Zd h0) (bV (Zd h1) rfl))
   . rw[if_neg h1]
     exact dM (by rw[Za];exact h1) rfl
 . rw[if_neg h0]
   refine dM (by rw[Za];exact h0) (eN (bV (show pre10 _=true by simp only[pre10,Zb,Za];exact⟨hs,by omega,by omega,by omega⟩) (bV (by decide) (eN ?_))))
   have hl:=aBc (who:=x1) x0.2.1 x0.2.2.1
   generalize hk:pJ x1 x0.2.1 x0.2.2.1=k at hl ⊢
   have hf:fn10 (x1,(x2,((0:Int),(x0,((0:Int),((),(([]:List Int),(([]:List Int),(([]:List Int),((aU x0).1,((aU x0).2.2.2.2,(aU x0).2)))))))))))=(x1,(x2,((k:Int),(x0,((0:Int),((),(([]:List Int),(([]:List Int),(([]:List Int),(x0.1,((),(x0.2.1,(x0.2.2.1,(x0.2.2.2.1,())))))))))))))):=by
    simp only[fn10,Int.toNat_zero,List.drop_zero,hk,Int.zero_add];rfl
   rw[hf]
   simp only[]
   rw[aEy,aEy]
   refine bV (Zd (by omega)) (bV (Zd (by omega)) ?_)
   repeat (first|(with_reducible refine eN ?_)|(with_reducible refine bV ?hs ?_;case hs=>(first|assumption|(simp only[Za,Bool.not_eq_true',Zv,Bool.not_eq_true,Zf,List.append_eq,Zg,Zh,aX,Zr,Zs,List.length_modify,List.length_eraseIdx,hY];omega)|(simp only[Za];omega)))|(with_reducible refine dM ?hs ?_;case hs=>(first|assumption|(simp only[Za,Bool.not_eq_true',Zv,Bool.not_eq_true,Zf,List.append_eq,Zg,Zh,aX,Zr,Zs,List.length_modify,List.length_eraseIdx,hY];omega)|(simp only[Za];omega))))
   refine bV (show jI.pre _=true from Zd (Int.le_refl _)) (eN ?_)
   rfl
end gD
abbrev gD:=jA
def fE(g:aD)(who:Int):aD:=if 0<=atG g who/\aA who 0 3=true then(upG g.1,(mP g (atG g who)).2) else g
namespace iT
def pre(g:aD)(_:Int):Bool:=gU g
abbrev wf(x0:aD)(x1:Int):Prop:=hN [(.val qT .f),(.val (.int .i64) .f)] (x0,(x1,()))
noncomputable def aQ(x0:aD)(x1:Int):Option aDo:=
 if(kR.pre x0 x1)=true then
 letB (atG x0 x1) fun v1=>
 if(decide (v1<(0:Int)))=true then
 if(aU.pre x0)=true then
 letB (aU x0) fun v2=>
 some ((),(v2,()))
 else
 none
 else
 letB (aA x1 (0:Int) (3:Int)) fun v3=>
 if(!v3)=true then
 if(aU.pre x0)=true then
 letB (aU x0) fun v4=>
 some ((),(v4,()))
 else
 none
 else
 if(eF.pre x0 v1)=true then
 if(jI.pre x0.1)=true then
 letB (upG x0.1) fun v5=>
 letB (mP x0 v1) fun v6=>
 some ((),((v5,v6.2),()))
 else
 none
 else
 none
 else
 none
theorem eq(x0:aD)(x1:Int)(_:wf x0 x1)(hp:pre x0 x1=true):aQ x0 x1=some ((),(fE x0 x1,())):=by
 have hs:gU x0=true:=hp
 unfold aQ
 refine bV (show kR.pre x0 x1=true from hs) (eN ?_)
 by_cases h0:0<=atG x0 x1
 . have:=vW (who:=x1) x0.2.1 0 (Int.le_refl _) h0
   refine dM (by rw[Za];omega) (eN ?_)
   cases hin:aA x1 0 3
   . rw[show fE x0 x1=x0 from if_neg (by rw[hin];simp)]
     exact bV rfl (bV (show aU.pre x0=true from hs) rfl)
   . rw[show fE x0 x1=_ from if_pos ⟨h0,hin⟩]
     refine dM (by decide) (bV (show eF.pre x0 _=true by simp only[eF.pre,Zb,Za];exact⟨hs,h0,by unfold atG at *;omega⟩) (bV (show jI.pre _=true from Zd (Int.le_refl _)) rfl))
 . rw[show fE x0 x1=x0 from if_neg (fun h=>h0 h.1)]
   exact bV (by rw[Za];omega) (bV (show aU.pre x0=true from hs) rfl)
end iT
abbrev iT:=fE
def oR(g:aD)(row:Int):Int:=if(g.2.1.length:Int)=0\/row<0 then -1 else g.2.1.getD (Int.tmod row (g.2.1.length:Int)).toNat 0
namespace lJ
def pre(g:aD)(_:Int):Bool:=gU g
abbrev wf(x0:aD)(x1:Int):Prop:=hN [(.val qT .f),(.val (.int .i64) .f)] (x0,(x1,()))
noncomputable def aQ(x0:aD)(x1:Int):Option uK:=
 if(decide (((length x0.2.1:Nat):Int)=(0:Int)))=true then
 some ((),((-1:Int),()))
 else
 if(decide (x1<(0:Int)))=true then
 some ((),((-1:Int),()))
 else
 if(!(decide (((length x0.2.1:Nat):Int)=(0:Int))))=true then
 if(decide ((0:Int)<=(Int.tmod x1 ((length x0.2.1:Nat):Int))))=true then
 if(decide ((Int.tmod x1 ((length x0.2.1:Nat):Int))<((length x0.2.1:Nat):Int)))=true then
 some ((),((List.getD x0.2.1 (Int.toNat (Int.tmod x1 ((length x0.2.1:Nat):Int))) (0:Int)),()))
 else
 none
 else
 none
 else
 none
theorem eq(x0:aD)(x1:Int)(_:wf x0 x1)(_:pre x0 x1=true):aQ x0 x1=some ((),(oR x0 x1,())):=by
 unfold aQ
 by_cases h1:(x0.2.1.length:Int)=0
 . rw[show oR x0 x1=-1 from if_pos (Or.inl h1)]
   exact bV (Zd h1) rfl
 by_cases h2:x1<0
 . rw[show oR x0 x1=-1 from if_pos (Or.inr h2)]
   exact dM (by rw[Za];exact h1) (bV (Zd h2) rfl)
 rw[show oR x0 x1=_ from if_neg (fun h=>h.elim h1 h2)]
 have t1:=Int.tmod_nonneg (x0.2.1.length:Int) (show 0<=x1 by omega)
 have t2:=Int.tmod_lt_of_pos x1 (show 0<(x0.2.1.length:Int) by omega)
 exact dM (by rw[Za];exact h1) (dM (by rw[Za];exact h2) (bV (by simp only[Bool.not_eq_true',Zv];exact h1) (bV (Zd t1) (bV (Zd t2) rfl))))
end lJ
abbrev lJ:=oR
def sK(g:aD)(who gen row off:Int):Bool:=decide (gen=g.1)&&(aA row 0 ((g.2.2.2.1.length:Int)-1)&&(decide (oR g row=who)&&decide (g.2.2.2.1.getD row.toNat 0<=off)))
def gZ(g:aD)(who gen row off:Int):aD×Bool:=if sK g who gen row off=true then((g.1,(g.2.1,(g.2.2.1,(g.2.2.2.1.modify row.toNat (fun _=>off),())))),true) else(g,false)
namespace iN
def pre(g:aD)(_ _ _ _:Int):Bool:=gU g
abbrev wf(x0:aD)(x1:Int)(x2:Int)(x3:Int)(x4:Int):Prop:=hN [(.val qT .f),(.val (.int .i64) .f),(.val (.int .i64) .f),(.val (.int .i64) .f),(.val (.int .i64) .f)] (x0,(x1,(x2,(x3,(x4,())))))
noncomputable def aQ(x0:aD)(x1:Int)(x2:Int)(x3:Int)(x4:Int):Option (Unit×(aD×(Bool×Unit))):=
 if(aU.pre x0)=true then
 if(!(decide (x2=x0.1)))=true then
 letB (aU x0) fun v1=>
 some ((),(v1,(false,())))
 else
 letB (aA x3 (0:Int) (wrap .i64 (((length x0.2.2.2.1:Nat):Int)-(1:Int)))) fun v2=>
 if(!v2)=true then
 letB (aU x0) fun v3=>
 some ((),(v3,(false,())))
 else
 if(lJ.pre x0 x3)=true then
 letB (oR x0 x3) fun v4=>
 if(!(decide (v4=x1)))=true then
 letB (aU x0) fun v5=>
 some ((),(v5,(false,())))
 else
 if(decide ((0:Int)<=x3))=true then
 if(decide (x3<((length x0.2.2.2.1:Nat):Int)))=true then
 if(decide (x4<(List.getD x0.2.2.2.1 (Int.toNat x3) (0:Int))))=true then
 letB (aU x0) fun v6=>
 some ((),(v6,(false,())))
 else
 if(decide ((0:Int)<=x3))=true then
 letB (aU x0) fun v7=>
 if(decide (x3<((length v7.2.2.2.1:Nat):Int)))=true then
 some ((),((v7.1,(v7.2.1,(v7.2.2.1,((List.modify v7.2.2.2.1 (Int.toNat x3) (fun z=>x4)),v7.2.2.2.2)))),(true,())))
 else
 none
 else
 none
 else
 none
 else
 none
 else
 none
 else
 none
theorem eq(x0:aD)(x1 x2 x3 x4:Int)(_:wf x0 x1 x2 x3 x4)(hp:pre x0 x1 x2 x3 x4=true):aQ x0 x1 x2 x3 x4=some ((),((gZ x0 x1 x2 x3 x4).1,((gZ x0 x1 x2 x3 x4).2,()))):=by
 have hs:gU x0=true:=hp
 have hg:=jS.1 hs
 unfold aQ
 have no:sK x0 x1 x2 x3 x4=false->gZ x0 x1 x2 x3 x4=(x0,false):=fun h=>if_neg (by rw[h];simp)
 rw[lF (n:=(x0.2.2.2.1.length:Int)-1) (by omega) (by omega)]
 refine bV (show aU.pre x0=true from hs) ?_
 by_cases h1:x2=x0.1
 case neg=>
  rw[no (by simp[sK,h1]),decide_eq_false h1];rfl
 rw[Zd h1]
 refine dM (by decide) (eN ?_)
 cases hin:aA x3 0 ((x0.2.2.2.1.length:Int)-1)
 . rw[no (by simp[sK,hin])];rfl
 have hw:=qI hin
 refine dM (by decide) (bV (show lJ.pre x0 x3=true from hs) (eN ?_))
 by_cases h2:oR x0 x3=x1
 case neg=>rw[no (by simp[sK,h2]),decide_eq_false h2];rfl
 rw[Zd h2]
 refine dM (by decide) (bV (Zd hw.1) (bV (Zd (by omega)) ?_))
 by_cases h3:x4<x0.2.2.2.1.getD x3.toNat 0
 . rw[no (by simp only[sK,decide_eq_false (p:=x0.2.2.2.1.getD x3.toNat 0<=x4) (by omega),Bool.and_false])]
   exact bV (Zd h3) rfl
 . rw[show gZ x0 x1 x2 x3 x4=_ from if_pos (by simp only[sK,Zd (p:=x0.2.2.2.1.getD x3.toNat 0<=x4) (by omega),Zd h1,Zd h2,hin];rfl)]
   exact dM (by rw[Za];exact h3) (bV (Zd hw.1) (eN (bV (Zd (show x3<(x0.2.2.2.1.length:Int) by omega)) rfl)))
end iN
abbrev iN:=gZ
theorem yN{β γ:Type}{m:Option (Unit×(β×(γ×Unit)))}{v:β×γ}(h:Wp m fun r=>(r.2.1,r.2.2.1)=v):m=some ((),(v.1,(v.2,()))):=by
 obtain⟨a,rfl,rfl⟩:=h
 rfl
def lT(row who:Int)(m:aC):Bool:=decide (m.1=row)&&decide (m.2.1=who)
def kL(xs:List aC)(row who:Int):aC:=(xs.find? (lT row who)).getD (row,(who,((0:Int),((-1:Int),(([]:List aY),())))))
def xR(xs:List aC):Bool:=cH xs&&xs.all fun m=>cH m.2.2.2.2.1
theorem sV{xs:List aC}:xR xs=true↔xs.length<=16777216/\∀m∈xs,m.2.2.2.2.1.length<=16777216:=by
 simp only[xR,Zb,bW,Zu]
namespace gB
abbrev S2:Type:=((List aC)×(Int×(Int×(Int×aC6))))
abbrev O2:Type:=(aC6⊕(Int×(Int×aC6)))
def pre2:S2->Bool:=fun(x1,_,_,x4,_)=>xR x1&&(decide (0<=x4)&&decide (x4<=(x1.length:Int)))
def mA:S2->Nat:=fun(x1,_,_,x4,_)=>x1.length-x4.toNat
def Q2(s:S2)(o:O2):Prop:=match o with
 |.inl y=>((s.1.drop s.2.2.2.1.toNat).find? (lT s.2.1 s.2.2.1))=some (y.1,(y.2.1,(y.2.2.1,(y.2.2.2.1,(y.2.2.2.2.2.1,())))))
 |.inr y=>((s.1.drop s.2.2.2.1.toNat).find? (lT s.2.1 s.2.2.1))=none/\y.1=s.2.1/\y.2.1=s.2.2.1
noncomputable def dT(x1:(List aC))(x2:Int)(x3:Int)(x4:Int)(x5:Int)(x6:Int)(x7:Int)(x8:Int)(x9:Unit)(x10:(List aY)):Option (((List aC)×(Int×(Int×(Int×aC6))))⊕(aC6⊕(Int×(Int×aC6)))):=
 if(decide (x4<((length x1:Nat):Int)))=true then
 if(decide ((0:Int)<=x4))=true then
 if(decide (x4<((length x1:Nat):Int)))=true then
 if(decide ((List.getD x1 (Int.toNat x4) jY).1=x2))=true then
 if(decide ((0:Int)<=x4))=true then
 if(decide (x4<((length x1:Nat):Int)))=true then
 if(decide ((List.getD x1 (Int.toNat x4) jY).2.1=x3))=true then
 if(decide ((0:Int)<=x4))=true then
 if(decide (x4<((length x1:Nat):Int)))=true then
 if(aK.pre (List.getD x1 (Int.toNat x4) jY))=true then
 letB (aK (List.getD x1 (Int.toNat x4) jY)) fun v1=>
 some (.inr (.inl (v1.1,(v1.2.1,(v1.2.2.1,(v1.2.2.2.1,(v1.2.2.2.2.2,v1.2.2.2.2)))))))
 else
 none
 else
 none
 else
 none
 else
 some (.inl (x1,(x2,(x3,((wrap .i64 (x4+(1:Int))),(x5,(x6,(x7,(x8,(x9,(x10,())))))))))))
 else
 none
 else
 none
 else
 some (.inl (x1,(x2,(x3,((wrap .i64 (x4+(1:Int))),(x5,(x6,(x7,(x8,(x9,(x10,())))))))))))
 else
 none
 else
 none
 else
 some (.inr (.inr (x2,(x3,(x5,(x6,(x7,(x8,(x9,(x10,()))))))))))
theorem wp2:∀s,pre2 s=true->Wp ((fun(x:S2)=>dT x.1 x.2.1 x.2.2.1 x.2.2.2.1 x.2.2.2.2.1 x.2.2.2.2.2.1 x.2.2.2.2.2.2.1 x.2.2.2.2.2.2.2.1 x.2.2.2.2.2.2.2.2.1 x.2.2.2.2.2.2.2.2.2.1) s) (iW pre2 mA Q2 s):=by
 rintro⟨x1,x2,x3,x4,x5,x6,x7,x8,⟨⟩,x10,⟨⟩⟩ hp
 simp only[pre2,Zb,Za] at hp
 obtain⟨hs,h1,h2⟩:=hp
 have hm:=sV.1 hs
 show Wp (dT x1 x2 x3 x4 x5 x6 x7 x8 () x10) _
 unfold dT
 by_cases hlt:x4<(x1.length:Int)
 . have hn:x4.toNat<x1.length:=by omega
   have e1:=Zn hn
   rw[cX hn,lF (n:=x4+1) (by omega) (by omega)]
   have nxt:lT x2 x3 x1[x4.toNat]=false->iW pre2 mA Q2 (x1,x2,x3,x4,x5,x6,x7,x8,(),x10,()) (.inl (x1,(x2,(x3,((x4+1),(x5,(x6,(x7,(x8,((),(x10,()))))))))))):=by
    intro hk
    refine⟨?_,by simp only[mA];omega,fun o ho=>?_⟩
    . simp only[pre2,Zb,Za];exact⟨hs,by omega,by omega⟩
    . have e:(x1.drop x4.toNat).find? (lT x2 x3)=(x1.drop (x4+1).toNat).find? (lT x2 x3):=by
       rw[e1,show(x4+1).toNat=x4.toNat+1 by omega,List.find?_cons,hk]
      cases o with
      |inl y=>exact e.trans ho
      |inr y=>exact⟨e.trans ho.1,ho.2⟩
   refine aL (Zd hlt) (aL (Zd h1) (aL (Zd hlt) (eG (fun a=>aL (Zd h1) (aL (Zd hlt) (eG (fun b=>?_) fun b=>?_))) fun a=>?_)))
   . rw[Za] at a b
     refine aL (Zd h1) (aL (Zd hlt) (aL (show aK.pre _=true from bW.2 (hm.2 _ (List.getElem_mem hn))) (dB (aN ?_))))
     show(x1.drop x4.toNat).find? (lT x2 x3)=some x1[x4.toNat]
     rw[e1,List.find?_cons,show lT x2 x3 x1[x4.toNat]=true by simp[lT,a,b]]
   . rw[Za] at b
     exact aN (nxt (by simp[lT,b]))
   . rw[Za] at a
     exact aN (nxt (by simp[lT,a]))
 . refine fP (by rw[Za];exact hlt) (aN ?_)
   refine⟨?_,rfl,rfl⟩
   show(x1.drop x4.toNat).find? _=none
   rw[Zt (by omega)];rfl
noncomputable def fn2:S2->O2:=aKx (fun(x:S2)=>dT x.1 x.2.1 x.2.2.1 x.2.2.2.1 x.2.2.2.2.1 x.2.2.2.2.2.1 x.2.2.2.2.2.2.1 x.2.2.2.2.2.2.2.1 x.2.2.2.2.2.2.2.2.1 x.2.2.2.2.2.2.2.2.2.1) mA
theorem rR(x1:List aC)(x2 x3 x4 x5 x6 x7 x8:Int)(x9:Unit)(x10:List aY)(hp:pre2 (x1,(x2,(x3,(x4,(x5,(x6,(x7,(x8,(x9,(x10,()))))))))))=true):
 Rounds pre2 mA fn2 (x1,(x2,(x3,(x4,(x5,(x6,(x7,(x8,(x9,(x10,())))))))))) (dT x1 x2 x3 x4 x5 x6 x7 x8 x9 x10):=aI1 wp2 hp
def pre(xs:List aC)(_ _:Int):Bool:=xR xs
abbrev wf(x0:(List aC))(x1:Int)(x2:Int):Prop:=hN [(.val (.sl 0 vJ) .f),(.val (.int .i64) .f),(.val (.int .i64) .f)] (x0,(x1,(x2,())))
noncomputable def aQ(x0:(List aC))(x1:Int)(x2:Int):Option (Unit×(aC×Unit)):=
 if(gB.pre2 (x0,(x1,(x2,aJ4))))=true then
  letB (gB.fn2 (x0,(x1,(x2,aJ4)))) fun v1=>
  match v1 with
  |.inl y=>
   some ((),((y.1,(y.2.1,(y.2.2.1,(y.2.2.2.1,(y.2.2.2.2.2.1,y.2.2.2.2.1))))),()))
  |.inr y=>
   some ((),((y.1,(y.2.1,((0:Int),((-1:Int),(([]:List aY),()))))),()))
 else
  none
theorem eq(x0:List aC)(x1 x2:Int)(_:wf x0 x1 x2)(hp:pre x0 x1 x2=true):aQ x0 x1 x2=some ((),(kL x0 x1 x2,())):=by
 have hs:xR x0=true:=hp
 refine aET ?_
 unfold aQ kL
 have hq:pre2 (x0,(x1,(x2,aJ4)))=true:=by
  simp only[pre2,Zb,Za];exact⟨hs,by omega,by omega⟩
 refine aL hq (uJ (aKd wp2 hq:Q2 _ (fn2 _)) fun o ho=>?_)
 cases o with
 |inl y=>
  have:x0.find? (lT x1 x2)=some (y.1,(y.2.1,(y.2.2.1,(y.2.2.2.1,(y.2.2.2.2.2.1,()))))):=ho
  rw[this]
  exact aN rfl
 |inr y=>
  obtain⟨h1,h2,h3⟩:=ho
  have:x0.find? (lT x1 x2)=none:=h1
  rw[this]
  simp only[] at h2 h3
  refine aN ?_
  show(y.1,(y.2.1,_))=_
  rw[h2,h3];rfl
end gB
abbrev gB:=kL
def dA(m:aC)(epoch seq:Int):Int×Int:=
 if epoch<m.2.2.1 then(4,0)
 else if m.2.2.1<epoch then(if seq=0 then(0,0) else(3,0))
 else if m.2.2.2.1<seq then(if wrap .i64 (seq-1)=m.2.2.2.1 then(0,0) else(3,0))
 else match m.2.2.2.2.1.find? (fun x=>decide (x.1=seq)) with
  |some x=>(1,x.2.1)
  |none=>(2,0)
namespace eS
abbrev S12:Type:=(Int×(Int×(aC×Unit)))
abbrev O12:Type:=(aY⊕Unit)
def pre12:S12->Bool:=fun(_,x2,x3,_)=>cH x3.2.2.2.2.1&&(decide (0<=x2)&&decide (x2<=(x3.2.2.2.2.1.length:Int)))
def aGY:S12->Nat:=fun(_,x2,x3,_)=>x3.2.2.2.2.1.length-x2.toNat
def fn12:S12->O12:=fun(x1,x2,x3,_)=>match(x3.2.2.2.2.1.drop x2.toNat).find? (fun x=>decide (x.1=x1)) with
 |some x=>.inl (1,x.2)
 |none=>.inr ()
noncomputable def aCL(x1:Int)(x2:Int)(x3:aC):Option ((Int×(Int×(aC×Unit)))⊕(aY⊕Unit)):=
 if(decide (x2<((length x3.2.2.2.2.1:Nat):Int)))=true then
 if(decide ((0:Int)<=x2))=true then
 if(decide (x2<((length x3.2.2.2.2.1:Nat):Int)))=true then
 if(decide ((List.getD x3.2.2.2.2.1 (Int.toNat x2) nW).1=x1))=true then
 if(decide ((0:Int)<=x2))=true then
 if(decide (x2<((length x3.2.2.2.2.1:Nat):Int)))=true then
 some (.inr (.inl ((1:Int),(List.getD x3.2.2.2.2.1 (Int.toNat x2) nW).2)))
 else
 none
 else
 none
 else
 some (.inl (x1,((wrap .i64 (x2+(1:Int))),(x3,()))))
 else
 none
 else
 none
 else
 some (.inr (.inr ()))
abbrev wf(x0:aC)(x1:Int)(x2:Int):Prop:=hN [(.val vJ .f),(.val (.int .i64) .f),(.val (.int .i64) .f)] (x0,(x1,(x2,())))
noncomputable def aQ(x0:aC)(x1:Int)(x2:Int):Option (Unit×aY):=
 if(decide (x1<x0.2.2.1))=true then
  some ((),((4:Int),((0:Int),())))
 else
  if(decide (x0.2.2.1<x1))=true then
   if(decide (x2=(0:Int)))=true then
    some ((),nW)
   else
    some ((),((3:Int),((0:Int),())))
  else
   if(decide (x0.2.2.2.1<x2))=true then
    if(decide ((wrap .i64 (x2-(1:Int)))=x0.2.2.2.1))=true then
     some ((),nW)
    else
     some ((),((3:Int),((0:Int),())))
   else
    if(eS.pre12 (x2,((0:Int),(x0,()))))=true then
     letB (eS.fn12 (x2,((0:Int),(x0,())))) fun v1=>
     match v1 with
     |.inl y=>
      some ((),y)
     |.inr y=>
      some ((),((2:Int),((0:Int),())))
    else
     none
theorem aL9(x1 x2:Int)(x3:aC)(hp:pre12 (x1,(x2,(x3,())))=true):Rounds pre12 aGY fn12 (x1,(x2,(x3,()))) (aCL x1 x2 x3):=by
 simp only[pre12,Zb,Za] at hp
 obtain⟨hs,h1,h2⟩:=hp
 have hs':=bW.1 hs
 unfold aCL
 by_cases hlt:x2<(x3.2.2.2.2.1.length:Int)
 . have hn:x2.toNat<x3.2.2.2.2.1.length:=by omega
   have e1:=Zn hn
   refine eQ (Zd hlt) (eQ (Zd h1) (eQ (Zd hlt) ?_))
   rw[cX hn,lF (n:=x2+1) (by omega) (by omega)]
   by_cases c:x3.2.2.2.2.1[x2.toNat].1=x1
   . refine eQ (Zd c) (eQ (Zd h1) (eQ (Zd hlt) ?_))
     simp only[Rounds,fn12]
     rw[e1,List.find?_cons,Zd c]
   . refine jJ (by rw[Za];exact c) ⟨?_,by simp only[aGY];omega,?_⟩
     . simp only[pre12,Zb,Za];exact⟨hs,by omega,by omega⟩
     . simp only[fn12]
       rw[e1,List.find?_cons,decide_eq_false c,show(x2+1).toNat=x2.toNat+1 by omega]
 . refine jJ (by rw[Za];exact hlt) ?_
   simp only[Rounds,fn12]
   rw[Zt (by omega)];rfl
def pre(m:aC)(_ _:Int):Bool:=cH m.2.2.2.2.1
theorem eq(x0:aC)(x1 x2:Int)(_:wf x0 x1 x2)(hp:pre x0 x1 x2=true):aQ x0 x1 x2=some ((),((dA x0 x1 x2).1,((dA x0 x1 x2).2,()))):=by
 have hs:cH x0.2.2.2.2.1=true:=hp
 have q:pre12 (x2,((0:Int),(x0,())))=true:=by
  simp only[pre12,Zb,Za];exact⟨hs,by omega,by omega⟩
 refine yN ?_
 unfold aQ dA
 by_cases c1:x1<x0.2.2.1
 . rw[if_pos (Zd c1),if_pos c1];exact aN rfl
 rw[if_neg (by rw[Za];exact c1),if_neg c1]
 by_cases c2:x0.2.2.1<x1
 . rw[if_pos (Zd c2),if_pos c2]
   by_cases c3:x2=0
   . rw[if_pos (Zd c3),if_pos c3];exact aN rfl
   . rw[if_neg (by rw[Za];exact c3),if_neg c3];exact aN rfl
 rw[if_neg (by rw[Za];exact c2),if_neg c2]
 by_cases c4:x0.2.2.2.1<x2
 . rw[if_pos (Zd c4),if_pos c4]
   by_cases c5:wrap .i64 (x2-1)=x0.2.2.2.1
   . rw[if_pos (Zd c5),if_pos c5];exact aN rfl
   . rw[if_neg (by rw[Za];exact c5),if_neg c5];exact aN rfl
 rw[if_neg (by rw[Za];exact c4),if_neg c4]
 refine aL q (dB ?_)
 simp only[fn12,Int.toNat_zero,List.drop_zero]
 cases x0.2.2.2.2.1.find? (fun x=>decide (x.1=x2))<;>exact aN rfl
end eS
abbrev eS:=dA
def qS(a b:Int):Int:=if b<a then a else b
namespace qB
abbrev wf(x0:Int)(x1:Int):Prop:=hN [(.val (.int .i64) .f),(.val (.int .i64) .f)] (x0,(x1,()))
noncomputable def aQ(x0:Int)(x1:Int):Option uK:=
 if(decide (x1<x0))=true then
 some ((),(x0,()))
 else
 some ((),(x1,()))
theorem eq(x0 x1:Int)(_:wf x0 x1):aQ x0 x1=some ((),(qS x0 x1,())):=by
 unfold aQ qS
 by_cases h:x1<x0
 . rw[if_pos (Zd h),if_pos h]
 . rw[if_neg (by rw[Za];exact h),if_neg h]
end qB
abbrev qB:=qS
def pK(w:Int)(l:List aY):List aY:=l.drop (l.length-(qS w 0).toNat)
def jC(m:aC)(w epoch seq off:Int):aC:=
 if(dA m epoch seq).1=0 then(m.1,(m.2.1,(epoch,(seq,(pK w ((if m.2.2.1<epoch then[] else m.2.2.2.2.1)++[(seq,(off,()))]),()))))) else m
theorem aAm{α:Type}{l:List α}{k:Int}(h0:0<=k):List.append ([]:List α) (aX k.toNat ((l.length:Int)).toNat l)=l.drop k.toNat:=by
 show List.take (((l.length:Int)).toNat-k.toNat) (List.drop k.toNat l)=_
 exact List.take_of_length_le (by rw[Zs];omega)
namespace kF
def pre(m:aC)(_ _ _ _:Int):Bool:=cH m.2.2.2.2.1
abbrev wf(x0:aC)(x1:Int)(x2:Int)(x3:Int)(x4:Int):Prop:=hN [(.val vJ .f),(.val (.int .i64) .f),(.val (.int .i64) .f),(.val (.int .i64) .f),(.val (.int .i64) .f)] (x0,(x1,(x2,(x3,(x4,())))))
noncomputable def aQ(x0:aC)(x1:Int)(x2:Int)(x3:Int)(x4:Int):Option (Unit×(aC×Unit)):=
 if(aK.pre x0)=true then
 if(eS.pre x0 x2 x3)=true then
 letB (dA x0 x2 x3) fun v1=>
 if(!(decide (v1.1=(0:Int))))=true then
 letB (aK x0) fun v2=>
 some ((),(v2,()))
 else
 if(decide (x0.2.2.1<x2))=true then
 if(decide (length ([]:List aY)+length ((x3,(x4,()))::([]:List aY))<=hY))=true then
 letB (qS x1 (0:Int)) fun v3=>
 if(decide (v3<((length (List.append ([]:List aY) ((x3,(x4,()))::([]:List aY))):Nat):Int)))=true then
 if(decide ((0:Int)<=(wrap .i64 (((length (List.append ([]:List aY) ((x3,(x4,()))::([]:List aY))):Nat):Int)-v3))))=true then
 if(decide ((wrap .i64 (((length (List.append ([]:List aY) ((x3,(x4,()))::([]:List aY))):Nat):Int)-v3))<=((length (List.append ([]:List aY) ((x3,(x4,()))::([]:List aY))):Nat):Int)))=true then
 if(decide (((length (List.append ([]:List aY) ((x3,(x4,()))::([]:List aY))):Nat):Int)<=((length (List.append ([]:List aY) ((x3,(x4,()))::([]:List aY))):Nat):Int)))=true then
 if(decide (length ([]:List aY)+length (aX (Int.toNat (wrap .i64 (((length (List.append ([]:List aY) ((x3,(x4,()))::([]:List aY))):Nat):Int)-v3))) (Int.toNat ((length (List.append ([]:List aY) ((x3,(x4,()))::([]:List aY))):Nat):Int)) (List.append ([]:List aY) ((x3,(x4,()))::([]:List aY))))<=hY))=true then
 letB (aK x0) fun v4=>
 some ((),((v4.1,(v4.2.1,(x2,(x3,((List.append ([]:List aY) (aX (Int.toNat (wrap .i64 (((length (List.append ([]:List aY) ((x3,(x4,()))::([]:List aY))):Nat):Int)-v3))) (Int.toNat ((length (List.append ([]:List aY) ((x3,(x4,()))::([]:List aY))):Nat):Int)) (List.append ([]:List aY) ((x3,(x4,()))::([]:List aY))))),v4.2.2.2.2.2))))),()))
 else
 none
 else
 none
 else
 none
 else
 none
 else
 letB (aK x0) fun v5=>
 some ((),((v5.1,(v5.2.1,(x2,(x3,((List.append ([]:List aY) ((x3,(x4,()))::([]:List aY))),v5.2.2.2.2.2))))),()))
 else
 none
 else
 letB (aK x0) fun v6=>
 if(decide (length v6.2.2.2.2.1+length ((x3,(x4,()))::([]:List aY))<=hY))=true then
 letB (qS x1 (0:Int)) fun v7=>
 if(decide (v7<((length (List.append v6.2.2.2.2.1 ((x3,(x4,()))::([]:List aY))):Nat):Int)))=true then
 if(decide ((0:Int)<=(wrap .i64 (((length (List.append v6.2.2.2.2.1 ((x3,(x4,()))::([]:List aY))):Nat):Int)-v7))))=true then
 if(decide ((wrap .i64 (((length (List.append v6.2.2.2.2.1 ((x3,(x4,()))::([]:List aY))):Nat):Int)-v7))<=((length (List.append v6.2.2.2.2.1 ((x3,(x4,()))::([]:List aY))):Nat):Int)))=true then
 if(decide (((length (List.append v6.2.2.2.2.1 ((x3,(x4,()))::([]:List aY))):Nat):Int)<=((length (List.append v6.2.2.2.2.1 ((x3,(x4,()))::([]:List aY))):Nat):Int)))=true then
 if(decide (length ([]:List aY)+length (aX (Int.toNat (wrap .i64 (((length (List.append v6.2.2.2.2.1 ((x3,(x4,()))::([]:List aY))):Nat):Int)-v7))) (Int.toNat ((length (List.append v6.2.2.2.2.1 ((x3,(x4,()))::([]:List aY))):Nat):Int)) (List.append v6.2.2.2.2.1 ((x3,(x4,()))::([]:List aY))))<=hY))=true then
 some ((),((v6.1,(v6.2.1,(x2,(x3,((List.append ([]:List aY) (aX (Int.toNat (wrap .i64 (((length (List.append v6.2.2.2.2.1 ((x3,(x4,()))::([]:List aY))):Nat):Int)-v7))) (Int.toNat ((length (List.append v6.2.2.2.2.1 ((x3,(x4,()))::([]:List aY))):Nat):Int)) (List.append v6.2.2.2.2.1 ((x3,(x4,()))::([]:List aY))))),v6.2.2.2.2.2))))),()))
 else
 none
 else
 none
 else
 none
 else
 none
 else
 some ((),((v6.1,(v6.2.1,(x2,(x3,((List.append v6.2.2.2.2.1 ((x3,(x4,()))::([]:List aY))),v6.2.2.2.2.2))))),()))
 else
 none
 else
 none
 else
 none
theorem eq(x0:aC)(x1 x2 x3 x4:Int)(_:wf x0 x1 x2 x3 x4)(hp:pre x0 x1 x2 x3 x4=true):aQ x0 x1 x2 x3 x4=some ((),(jC x0 x1 x2 x3 x4,())):=by
 have hs:cH x0.2.2.2.2.1=true:=hp
 have hs':=bW.1 hs
 have fin:∀l:List aY,l.length<=16777217->
  (¬qS x1 0<(l.length:Int)->pK x1 l=l)/\(qS x1 0<(l.length:Int)->wrap .i64 ((l.length:Int)-qS x1 0)=(l.length:Int)-qS x1 0/\0<=(l.length:Int)-qS x1 0/\(l.length:Int)-qS x1 0<=(l.length:Int)/\List.append ([]:List aY) (aX ((l.length:Int)-qS x1 0).toNat ((l.length:Int)).toNat l)=pK x1 l):=by
  intro l hl
  have hm:0<=qS x1 0:=by unfold qS;split<;>omega
  refine⟨fun h=>?_,fun h=>⟨lF (by omega) (by omega),by omega,by omega,?_⟩⟩
  . unfold pK
    rw[show l.length-(qS x1 0).toNat=0 by omega,List.drop_zero]
  . rw[aAm (by omega)]
    unfold pK
    rw[show((l.length:Int)-qS x1 0).toNat=l.length-(qS x1 0).toNat by omega]
 unfold aQ
 rw[show aK x0=x0 from rfl]
 refine bV (show aK.pre x0=true from hs) (bV (show eS.pre x0 x2 x3=true from hs) (eN ?_))
 by_cases c1:(dA x0 x2 x3).1=0
 case neg=>
  rw[show jC x0 x1 x2 x3 x4=x0 from if_neg c1]
  exact bV (by simp only[Bool.not_eq_true',Zv];exact c1) rfl
 refine dM (by simp only[Bool.not_eq_true',Zv,Decidable.not_not];exact c1) ?_
 rw[show jC x0 x1 x2 x3 x4=_ from if_pos c1]
 by_cases c2:x0.2.2.1<x2
 . rw[if_pos c2]
   refine bV (Zd c2) (bV (by simp only[Za,Zg,Zh,hY];omega) (eN ?_))
   have hf:=fin (List.append ([]:List aY) [(x3,(x4,()))]) (by simp)
   have hll:(List.append ([]:List aY) [(x3,(x4,()))]).length<=16777217:=by simp
   show _=some ((),((x0.1,(x0.2.1,(x2,(x3,(pK x1 (List.append ([]:List aY) [(x3,(x4,()))]),()))))),()))
   generalize List.append ([]:List aY) [(x3,(x4,()))]=l at *
   by_cases c3:qS x1 0<(l.length:Int)
   . obtain⟨f1,f2,f3,f4⟩:=hf.2 c3
     rw[f1,<-f4]
     exact bV (Zd c3) (bV (Zd f2) (bV (Zd f3) (bV (Zd (Int.le_refl _)) (bV (by simp only[Za,Zh,aX,Zr,Zs,hY];omega) rfl))))
   . rw[hf.1 c3]
     exact dM (by rw[Za];exact c3) rfl
 . rw[if_neg c2]
   refine dM (by rw[Za];exact c2) (eN (bV (by simp only[Za,Zg,Zh,hY];exact Nat.le_trans (Nat.add_le_add_right hs' 1) (by decide)) (eN ?_)))
   have hll:(List.append x0.2.2.2.2.1 [(x3,(x4,()))]).length<=16777217:=by rw[List.append_eq,Zf,Zg,Zh];omega
   have hf:=fin (List.append x0.2.2.2.2.1 [(x3,(x4,()))]) hll
   show _=some ((),((x0.1,(x0.2.1,(x2,(x3,(pK x1 (List.append x0.2.2.2.2.1 [(x3,(x4,()))]),()))))),()))
   generalize List.append x0.2.2.2.2.1 [(x3,(x4,()))]=l at *
   by_cases c3:qS x1 0<(l.length:Int)
   . obtain⟨f1,f2,f3,f4⟩:=hf.2 c3
     rw[f1,<-f4]
     exact bV (Zd c3) (bV (Zd f2) (bV (Zd f3) (bV (Zd (Int.le_refl _)) (bV (by simp only[Za,Zh,aX,Zr,Zs,hY];omega) rfl))))
   . rw[hf.1 c3]
     exact dM (by rw[Za];exact c3) rfl
end kF
abbrev kF:=jC
def pO(x m:aC):Bool:=decide (m.1<x.1)||(decide (x.1=m.1)&&decide (m.2.1<x.2.1))
def iL(m:aC):Bool->List aC->List aC
 |p,[]=>cond p [] [m]
 |p,x::r=>cond (lT m.1 m.2.1 x) (cond p (iL m p r) (m::iL m true r)) (cond (!p&&pO x m) (m::x::iL m true r) (x::iL m p r))
def oG(xs:List aC)(m:aC):List aC:=iL m false xs
namespace gI
abbrev S4:Type:=((List aC)×(Bool×(Int×(aC×yJ))))
abbrev O4:Type:=(Bool×(aC×yJ))
def pre4:S4->Bool:=fun(x1,_,x3,x4,x5,_)=>xR x1&&(cH x4.2.2.2.2.1&&(decide (0<=x3)&&(decide (x3<=(x1.length:Int))&&decide (x5.length<=2*x3.toNat))))
def lN:S4->Nat:=fun(x1,_,x3,_)=>x1.length-x3.toNat
def Q4(s:S4)(o:O4):Prop:=o.2.1=s.2.2.2.1/\o.2.2.1++cond o.1 [] [s.2.2.2.1]=s.2.2.2.2.1++iL s.2.2.2.1 s.2.1 (s.1.drop s.2.2.1.toNat)/\o.2.2.1.length<=2*s.1.length
noncomputable def eA(x1:(List aC))(x2:Bool)(x3:Int)(x4:aC)(x5:(List aC)):Option (((List aC)×(Bool×(Int×(aC×yJ))))⊕(Bool×(aC×yJ))):=
 if(decide (x3<((length x1:Nat):Int)))=true then
 if(decide ((0:Int)<=x3))=true then
 if(decide (x3<((length x1:Nat):Int)))=true then
 if(decide ((List.getD x1 (Int.toNat x3) jY).1=x4.1))=true then
 if(decide ((List.getD x1 (Int.toNat x3) jY).2.1=x4.2.1))=true then
 if(!x2)=true then
 if(aK.pre x4)=true then
 letB (aK x4) fun v1=>
 if(decide (length x5+length (v1::([]:List aC))<=hY))=true then
 some (.inl (x1,(true,((wrap .i64 (x3+(1:Int))),(x4,((List.append x5 (v1::([]:List aC))),()))))))
 else
 none
 else
 none
 else
 some (.inl (x1,(x2,((wrap .i64 (x3+(1:Int))),(x4,(x5,()))))))
 else
 if(!x2)=true then
 if(decide (x4.1<(List.getD x1 (Int.toNat x3) jY).1))=true then
 if(aK.pre x4)=true then
 letB (aK x4) fun v2=>
 if(decide (length x5+length (v2::([]:List aC))<=hY))=true then
 if(aK.pre (List.getD x1 (Int.toNat x3) jY))=true then
 letB (aK (List.getD x1 (Int.toNat x3) jY)) fun v3=>
 if(decide (length (List.append x5 (v2::([]:List aC)))+length (v3::([]:List aC))<=hY))=true then
 some (.inl (x1,(true,((wrap .i64 (x3+(1:Int))),(x4,((List.append (List.append x5 (v2::([]:List aC))) (v3::([]:List aC))),()))))))
 else
 none
 else
 none
 else
 none
 else
 none
 else
 if(decide ((List.getD x1 (Int.toNat x3) jY).1=x4.1))=true then
 if(decide (x4.2.1<(List.getD x1 (Int.toNat x3) jY).2.1))=true then
 if(aK.pre x4)=true then
 letB (aK x4) fun v4=>
 if(decide (length x5+length (v4::([]:List aC))<=hY))=true then
 if(aK.pre (List.getD x1 (Int.toNat x3) jY))=true then
 letB (aK (List.getD x1 (Int.toNat x3) jY)) fun v5=>
 if(decide (length (List.append x5 (v4::([]:List aC)))+length (v5::([]:List aC))<=hY))=true then
 some (.inl (x1,(true,((wrap .i64 (x3+(1:Int))),(x4,((List.append (List.append x5 (v4::([]:List aC))) (v5::([]:List aC))),()))))))
 else
 none
 else
 none
 else
 none
 else
 none
 else
 if(aK.pre (List.getD x1 (Int.toNat x3) jY))=true then
 letB (aK (List.getD x1 (Int.toNat x3) jY)) fun v6=>
 if(decide (length x5+length (v6::([]:List aC))<=hY))=true then
 some (.inl (x1,(x2,((wrap .i64 (x3+(1:Int))),(x4,((List.append x5 (v6::([]:List aC))),()))))))
 else
 none
 else
 none
 else
 if(aK.pre (List.getD x1 (Int.toNat x3) jY))=true then
 letB (aK (List.getD x1 (Int.toNat x3) jY)) fun v7=>
 if(decide (length x5+length (v7::([]:List aC))<=hY))=true then
 some (.inl (x1,(x2,((wrap .i64 (x3+(1:Int))),(x4,((List.append x5 (v7::([]:List aC))),()))))))
 else
 none
 else
 none
 else
 if(aK.pre (List.getD x1 (Int.toNat x3) jY))=true then
 letB (aK (List.getD x1 (Int.toNat x3) jY)) fun v8=>
 if(decide (length x5+length (v8::([]:List aC))<=hY))=true then
 some (.inl (x1,(x2,((wrap .i64 (x3+(1:Int))),(x4,((List.append x5 (v8::([]:List aC))),()))))))
 else
 none
 else
 none
 else
 if(!x2)=true then
 if(decide (x4.1<(List.getD x1 (Int.toNat x3) jY).1))=true then
 if(aK.pre x4)=true then
 letB (aK x4) fun v9=>
 if(decide (length x5+length (v9::([]:List aC))<=hY))=true then
 if(aK.pre (List.getD x1 (Int.toNat x3) jY))=true then
 letB (aK (List.getD x1 (Int.toNat x3) jY)) fun v10=>
 if(decide (length (List.append x5 (v9::([]:List aC)))+length (v10::([]:List aC))<=hY))=true then
 some (.inl (x1,(true,((wrap .i64 (x3+(1:Int))),(x4,((List.append (List.append x5 (v9::([]:List aC))) (v10::([]:List aC))),()))))))
 else
 none
 else
 none
 else
 none
 else
 none
 else
 if(decide ((List.getD x1 (Int.toNat x3) jY).1=x4.1))=true then
 if(decide (x4.2.1<(List.getD x1 (Int.toNat x3) jY).2.1))=true then
 if(aK.pre x4)=true then
 letB (aK x4) fun v11=>
 if(decide (length x5+length (v11::([]:List aC))<=hY))=true then
 if(aK.pre (List.getD x1 (Int.toNat x3) jY))=true then
 letB (aK (List.getD x1 (Int.toNat x3) jY)) fun v12=>
 if(decide (length (List.append x5 (v11::([]:List aC)))+length (v12::([]:List aC))<=hY))=true then
 some (.inl (x1,(true,((wrap .i64 (x3+(1:Int))),(x4,((List.append (List.append x5 (v11::([]:List aC))) (v12::([]:List aC))),()))))))
 else
 none
 else
 none
 else
 none
 else
 none
 else
 if(aK.pre (List.getD x1 (Int.toNat x3) jY))=true then
 letB (aK (List.getD x1 (Int.toNat x3) jY)) fun v13=>
 if(decide (length x5+length (v13::([]:List aC))<=hY))=true then
 some (.inl (x1,(x2,((wrap .i64 (x3+(1:Int))),(x4,((List.append x5 (v13::([]:List aC))),()))))))
 else
 none
 else
 none
 else
 if(aK.pre (List.getD x1 (Int.toNat x3) jY))=true then
 letB (aK (List.getD x1 (Int.toNat x3) jY)) fun v14=>
 if(decide (length x5+length (v14::([]:List aC))<=hY))=true then
 some (.inl (x1,(x2,((wrap .i64 (x3+(1:Int))),(x4,((List.append x5 (v14::([]:List aC))),()))))))
 else
 none
 else
 none
 else
 if(aK.pre (List.getD x1 (Int.toNat x3) jY))=true then
 letB (aK (List.getD x1 (Int.toNat x3) jY)) fun v15=>
 if(decide (length x5+length (v15::([]:List aC))<=hY))=true then
 some (.inl (x1,(x2,((wrap .i64 (x3+(1:Int))),(x4,((List.append x5 (v15::([]:List aC))),()))))))
 else
 none
 else
 none
 else
 none
 else
 none
 else
 some (.inr (x2,(x4,(x5,()))))
theorem wp4:∀s,pre4 s=true->Wp ((fun(x:S4)=>eA x.1 x.2.1 x.2.2.1 x.2.2.2.1 x.2.2.2.2.1) s) (iW pre4 lN Q4 s):=by
 rintro⟨x1,x2,x3,x4,x5,⟨⟩⟩ hp
 simp only[pre4,Zb,Za] at hp
 obtain⟨hs,hx,h1,h2,h3⟩:=hp
 have hm:=sV.1 hs
 have hx':=bW.1 hx
 show Wp (eA x1 x2 x3 x4 x5) _
 unfold eA
 by_cases hlt:x3<(x1.length:Int)
 . have hn:x3.toNat<x1.length:=by omega
   have e1:=Zn hn
   rw[cX hn,lF (n:=x3+1) (by omega) (by omega)]
   have hxe:=hm.2 _ (List.getElem_mem hn)
   generalize hge:x1[x3.toNat]=e at *
   have cp1:aK.pre x4=true:=hx
   have cp2:aK.pre e=true:=bW.2 hxe
   have nx:∀(p:Bool) (y:List aC),y.length<=2->iL x4 x2 (x1.drop x3.toNat)=y++iL x4 p (x1.drop (x3.toNat+1))->
    iW pre4 lN Q4 (x1,x2,x3,x4,x5,()) (.inl (x1,(p,((x3+1),(x4,(x5++y,())))))):=by
    intro p y hy he
    refine⟨?_,by simp only[lN];omega,?_⟩
    . simp only[pre4,Zb,Za,Zf]
      exact⟨hs,hx,by omega,by omega,by omega⟩
    . rintro⟨o1,o2,o3,⟨⟩⟩ ⟨q1,q2,q3⟩
      refine⟨q1,q2.trans ?_,q3⟩
      show(x5++y)++iL x4 p (x1.drop (x3+1).toNat)=x5++iL x4 x2 (x1.drop x3.toNat)
      rw[he,show(x3+1).toNat=x3.toNat+1 by omega,Zk]
   have l1:∀a:aC,decide (x5.length+(a::([]:List aC)).length<=hY)=true:=fun a=>by
    simp only[Za,Zg,Zh,hY];omega
   have l2:∀a b:aC,decide ((List.append x5 (a::([]:List aC))).length+(b::([]:List aC)).length<=hY)=true:=fun a b=>by
    simp only[Za,List.append_eq,Zf,Zg,Zh,hY];omega
   have set1:lT x4.1 x4.2.1 e=true->x2=false->iL x4 x2 (x1.drop x3.toNat)=[x4]++iL x4 true (x1.drop (x3.toNat+1)):=by
    intro a b;rw[e1,b];simp only[iL,a,cond_true,cond_false];rfl
   have set2:lT x4.1 x4.2.1 e=true->x2=true->iL x4 x2 (x1.drop x3.toNat)=[]++iL x4 x2 (x1.drop (x3.toNat+1)):=by
    intro a b;rw[e1,b];simp only[iL,a,cond_true];rfl
   have set3:lT x4.1 x4.2.1 e=false->x2=false->pO e x4=true->iL x4 x2 (x1.drop x3.toNat)=[x4,e]++iL x4 true (x1.drop (x3.toNat+1)):=by
    intro a b c;rw[e1,b];simp only[iL,a,c,cond_false,Bool.not_false,Bool.and_self,cond_true];rfl
   have set4:lT x4.1 x4.2.1 e=false->(!x2&&pO e x4)=false->iL x4 x2 (x1.drop x3.toNat)=[e]++iL x4 x2 (x1.drop (x3.toNat+1)):=by
    intro a b;rw[e1];simp only[iL,a,b,cond_false];rfl
   have fA:∀{p:Bool},(!p)=true->p=false:=by intro p h;cases p<;>simp_all
   have fB:∀{p:Bool},¬(!p)=true->p=true:=by intro p h;cases p<;>simp_all
   have keep1:∀(_:iL x4 x2 (x1.drop x3.toNat)=[e]++iL x4 x2 (x1.drop (x3.toNat+1))),
    Wp (if aK.pre e=true then letB (aK e) fun v=>if decide (x5.length+(v::([]:List aC)).length<=hY)=true then some (.inl (x1,(x2,((x3+1),(x4,(List.append x5 (v::([]:List aC)),())))))) else none else none) (iW pre4 lN Q4 (x1,x2,x3,x4,x5,())):=
    fun h=>aL cp2 (dB (aL (l1 _) (aN (nx x2 [e] (by simp) h))))
   refine aL (Zd hlt) (aL (Zd h1) (aL (Zd hlt) (eG (fun a=>?_) fun a=>?_)))
   . rw[Za] at a
     refine eG (fun b=>?_) fun b=>?_
     . rw[Za] at b
       have hk:lT x4.1 x4.2.1 e=true:=by simp[lT,a,b]
       refine eG (fun c=>aL cp1 (dB (aL (l1 _) (aN (nx true [x4] (by simp) (set1 hk (fA c))))))) fun c=>aN ?_
       have:=nx x2 [] (by simp) (set2 hk (fB c))
       rwa [List.append_nil] at this
     . rw[Za] at b
       have hk:lT x4.1 x4.2.1 e=false:=by simp[lT,b]
       refine eG (fun c=>?_) fun c=>?_
       . refine eG (fun d=>?_) fun d=>?_
         . rw[Za] at d
           omega
         . refine eG (fun _=>eG (fun f=>?_) fun f=>?_) fun f=>?_
           . rw[Za] at f
             exact aL cp1 (dB (aL (l1 _) (aL cp2 (dB (aL (l2 _ _) (aN (by have:=nx true [x4,e] (by simp) (set3 hk (fA c) (by simp[pO,a,f]));simpa [aK] using this)))))))
           . rw[Za] at f
             exact keep1 (set4 hk (by simp[pO,a,f]))
           . exact absurd (Zd a) f
       . exact keep1 (set4 hk (by rw[fB c];rfl))
   . rw[Za] at a
     have hk:lT x4.1 x4.2.1 e=false:=by simp[lT,a]
     refine eG (fun c=>?_) fun c=>?_
     . refine eG (fun d=>?_) fun d=>?_
       . rw[Za] at d
         exact aL cp1 (dB (aL (l1 _) (aL cp2 (dB (aL (l2 _ _) (aN (by have:=nx true [x4,e] (by simp) (set3 hk (fA c) (by simp[pO,d]));simpa [aK] using this)))))))
       . rw[Za] at d
         refine fP (by rw[Za];exact a) (keep1 (set4 hk (by simp[pO,a,d])))
     . exact keep1 (set4 hk (by rw[fB c];rfl))
 . refine fP (by rw[Za];exact hlt) (aN ⟨rfl,?_,by show x5.length<=2*x1.length;omega⟩)
   show x5++cond x2 [] [x4]=x5++iL x4 x2 (x1.drop x3.toNat)
   rw[Zt (by omega)];rfl
noncomputable def fn4:S4->O4:=aCa (fun(x:S4)=>eA x.1 x.2.1 x.2.2.1 x.2.2.2.1 x.2.2.2.2.1) lN
theorem uM(x1:List aC)(x2:Bool)(x3:Int)(x4:aC)(x5:List aC)(hp:pre4 (x1,(x2,(x3,(x4,(x5,())))))=true):Rounds pre4 lN fn4 (x1,(x2,(x3,(x4,(x5,()))))) (eA x1 x2 x3 x4 x5):=sP wp4 hp
def pre(xs:List aC)(m:aC):Bool:=xR xs&&cH m.2.2.2.2.1
abbrev wf(x0:(List aC))(x1:aC):Prop:=hN [(.val (.sl 0 vJ) .f),(.val vJ .f)] (x0,(x1,()))
noncomputable def aQ(x0:(List aC))(x1:aC):Option (Unit×yJ):=
 if(gI.pre4 (x0,(false,((0:Int),(x1,(([]:List aC),()))))))=true then
 letB (gI.fn4 (x0,(false,((0:Int),(x1,(([]:List aC),())))))) fun v1=>
 if(!v1.1)=true then
 if(aK.pre v1.2.1)=true then
 letB (aK v1.2.1) fun v2=>
 if(decide (length v1.2.2.1+length (v2::([]:List aC))<=hY))=true then
 some ((),((List.append v1.2.2.1 (v2::([]:List aC))),()))
 else
 none
 else
 none
 else
 some ((),v1.2.2)
 else
 none
theorem eq(x0:List aC)(x1:aC)(_:wf x0 x1)(hp:pre x0 x1=true):aQ x0 x1=some ((),(oG x0 x1,())):=by
 simp only[pre,Zb] at hp
 have hm:=sV.1 hp.1
 refine aET ?_
 unfold aQ
 have hq:pre4 (x0,(false,((0:Int),(x1,(([]:List aC),())))))=true:=by
  simp only[pre4,Zb,Za,Zh];exact⟨hp.1,hp.2,by omega,by omega,by omega⟩
 refine aL hq (uJ (vO wp4 hq:Q4 _ (fn4 _)) ?_)
 rintro⟨o1,o2,o3,⟨⟩⟩ ⟨q1,q2,q3⟩
 have q1:o2=x1:=q1
 have q2:o3++cond o1 [] [x1]=oG x0 x1:=q2
 have q3:o3.length<=2*x0.length:=q3
 subst q1
 cases o1
 . refine aL rfl (aL (show aK.pre o2=true from hp.2) (dB (aL (by simp only[Za,Zg,Zh,hY];omega) (aN q2))))
 . refine fP Bool.false_ne_true (aN ?_)
   rw[<-q2]
   exact(List.append_nil _).symm
end gI
abbrev gI:=oG
def newRow(x:bS)(key text:List UInt8)(who t:Int):bS:=(x.1,(wrap .i64 (x.2.1+1),(List.append x.2.2.1 ((x.2.1,(key,(text,(who,(t,())))))::([]:List aP)),x.2.2.2)))
def oE(x:bS)(key text:List UInt8)(who t:Int):bS×(Int×Bool):=
 if(fN x&&fN (newRow x key text who t))=true then(newRow x key text who t,(x.2.1,true)) else(x,(0,false))
theorem aLM{β γ δ:Type}{m:Option (Unit×(β×(γ×(δ×Unit))))}{v:β×(γ×δ)}(h:Wp m fun r=>(r.2.1,(r.2.2.1,r.2.2.2.1))=v):m=some ((),(v.1,(v.2.1,(v.2.2,())))):=by
 obtain⟨a,rfl,rfl⟩:=h
 rfl
def aFR{α:Type}(xs:List α):Bool:=decide (xs.length<=16777000)
theorem aAP{α:Type}{xs:List α}:aFR xs=true↔xs.length<=16777000:=by simp[aFR]
theorem aCx{α:Type}{xs:List α}(h:aFR xs=true):cH xs=true:=by rw[bW];rw[aAP] at h;omega
namespace kV
def pre(x:bS)(_ _:List UInt8)(_ _:Int):Bool:=aFR x.2.2.1
abbrev wf(x0:bS)(x1:(List UInt8))(x2:(List UInt8))(x3:Int)(x4:Int):Prop:=hN [(.val sZ .f),(.val .str .f),(.val .str .f),(.val (.int .i64) .f),(.val (.int .i64) .f)] (x0,(x1,(x2,(x3,(x4,())))))
noncomputable def aQ(x0:bS)(x1:(List UInt8))(x2:(List UInt8))(x3:Int)(x4:Int):Option (Unit×(bS×(Int×(Bool×Unit)))):=
 if(bP.pre x0)=true then
 if(eP.pre x0)=true then
 letB (fN x0) fun v1=>
 if(!v1)=true then
 letB (bP x0) fun v2=>
 some ((),(v2,((0:Int),(false,()))))
 else
 letB (bP x0) fun v3=>
 if(decide (length v3.2.2.1+length ((x0.2.1,(x1,(x2,(x3,(x4,())))))::([]:List aP))<=hY))=true then
 if(eP.pre (v3.1,((wrap .i64 (x0.2.1+(1:Int))),((List.append v3.2.2.1 ((x0.2.1,(x1,(x2,(x3,(x4,())))))::([]:List aP))),v3.2.2.2))))=true then
 letB (fN (v3.1,((wrap .i64 (x0.2.1+(1:Int))),((List.append v3.2.2.1 ((x0.2.1,(x1,(x2,(x3,(x4,())))))::([]:List aP))),v3.2.2.2)))) fun v4=>
 if(!v4)=true then
 if(bP.pre x0)=true then
 some ((),(v3,((0:Int),(false,()))))
 else
 none
 else
 some ((),((v3.1,((wrap .i64 (x0.2.1+(1:Int))),((List.append v3.2.2.1 ((x0.2.1,(x1,(x2,(x3,(x4,())))))::([]:List aP))),v3.2.2.2))),(x0.2.1,(true,()))))
 else
 none
 else
 none
 else
 none
 else
 none
theorem eq(x0:bS)(x1 x2:List UInt8)(x3 x4:Int)(_:wf x0 x1 x2 x3 x4)(hp:pre x0 x1 x2 x3 x4=true):aQ x0 x1 x2 x3 x4=some ((),((oE x0 x1 x2 x3 x4).1,((oE x0 x1 x2 x3 x4).2.1,((oE x0 x1 x2 x3 x4).2.2,())))):=by
 have hs:aFR x0.2.2.1=true:=hp
 have hs':=aAP.1 hs
 have h0:=aCx hs
 refine aLM ?_
 unfold aQ
 rw[show bP x0=x0 from rfl]
 have hn:eP.pre (newRow x0 x1 x2 x3 x4)=true:=by
  show cH (List.append x0.2.2.1 _)=true
  rw[bW,List.append_eq,Zf,Zg,Zh];omega
 refine aL (show bP.pre x0=true from h0) (aL (show eP.pre x0=true from h0) (dB (eG (fun c=>?_) fun c=>?_)))
 . refine dB (aN ?_)
   show(x0,((0:Int),false))=_
   exact(if_neg (by cases h:fN x0<;>simp_all)).symm
 . refine dB (aL (by simp only[Za,Zg,Zh,hY];exact Nat.le_trans (Nat.add_le_add_right hs' 1) (by decide)) (aL hn (dB (eG (fun d=>?_) fun d=>?_))))
   . refine aL (show bP.pre x0=true from h0) (aN ?_)
     show(x0,((0:Int),false))=_
     refine(if_neg (fun h=>?_)).symm
     rw[Zb] at h
     have d:(!fN (newRow x0 x1 x2 x3 x4))=true:=d
     rw[h.2] at d
     cases d
   . refine aN ?_
     refine(if_pos ?_).symm
     have c:fN x0=true:=by cases h:fN x0<;>simp_all
     have d:fN (newRow x0 x1 x2 x3 x4)=true:=by
      cases h:fN (newRow x0 x1 x2 x3 x4)
      . exact absurd (show(!fN (newRow x0 x1 x2 x3 x4))=true by rw[h];rfl) d
      . rfl
     rw[c,d];rfl
end kV
abbrev kV:=oE
def aL5:aP:=lL
def lH(x:bS)(off:Int):aP×Int:=
 if off<x.1 then(aL5,1) else match x.2.2.1.find? (fun it=>decide (off<=it.1)) with
  |some it=>(it,0)
  |none=>(aL5,2)
namespace kB
abbrev S4:Type:=(Int×(Int×(bS×(aP×Unit))))
abbrev O4:Type:=((Int×(aP×Unit))⊕(aP×Unit))
def pre4:S4->Bool:=fun(_,x2,x3,_)=>cH x3.2.2.1&&(decide (0<=x2)&&decide (x2<=(x3.2.2.1.length:Int)))
def lN:S4->Nat:=fun(_,x2,x3,_)=>x3.2.2.1.length-x2.toNat
def fn4:S4->O4:=fun(x1,x2,x3,x4,_)=>match(x3.2.2.1.drop x2.toNat).find? (fun it=>decide (x1<=it.1)) with
 |some it=>.inl (0,(it,()))
 |none=>.inr (x4,())
noncomputable def eA(x1:Int)(x2:Int)(x3:bS)(x4:aP):Option ((Int×(Int×(bS×(aP×Unit))))⊕((Int×(aP×Unit))⊕(aP×Unit))):=
 if(decide (x2<((length x3.2.2.1:Nat):Int)))=true then
 if(decide ((0:Int)<=x2))=true then
 if(decide (x2<((length x3.2.2.1:Nat):Int)))=true then
 if(decide (x1<=(List.getD x3.2.2.1 (Int.toNat x2) lL).1))=true then
 if(decide ((0:Int)<=x2))=true then
 if(decide (x2<((length x3.2.2.1:Nat):Int)))=true then
 some (.inr (.inl ((0:Int),((List.getD x3.2.2.1 (Int.toNat x2) lL),()))))
 else
 none
 else
 none
 else
 some (.inl (x1,((wrap .i64 (x2+(1:Int))),(x3,(x4,())))))
 else
 none
 else
 none
 else
 some (.inr (.inr (x4,())))
abbrev wf(x0:bS)(x1:Int):Prop:=hN [(.val sZ .f),(.val (.int .i64) .f)] (x0,(x1,()))
noncomputable def aQ(x0:bS)(x1:Int):Option (Unit×(aP×(Int×Unit))):=
 if(decide (x1<x0.1))=true then
  some ((),(lL,((1:Int),())))
 else
  if(kB.pre4 (x1,((0:Int),(x0,(lL,())))))=true then
   letB (kB.fn4 (x1,((0:Int),(x0,(lL,()))))) fun v1=>
   match v1 with
   |.inl y=>
    some ((),(y.2.1,(y.1,())))
   |.inr y=>
    some ((),(lL,((2:Int),())))
  else
   none
theorem uM(x1 x2:Int)(x3:bS)(x4:aP)(hp:pre4 (x1,(x2,(x3,(x4,()))))=true):Rounds pre4 lN fn4 (x1,(x2,(x3,(x4,())))) (eA x1 x2 x3 x4):=by
 simp only[pre4,Zb,Za] at hp
 obtain⟨hs,h1,h2⟩:=hp
 have hs':=bW.1 hs
 unfold eA
 by_cases hlt:x2<(x3.2.2.1.length:Int)
 . have hn:x2.toNat<x3.2.2.1.length:=by omega
   have e1:=Zn hn
   refine eQ (Zd hlt) (eQ (Zd h1) (eQ (Zd hlt) ?_))
   rw[cX hn,lF (n:=x2+1) (by omega) (by omega)]
   by_cases c:x1<=x3.2.2.1[x2.toNat].1
   . refine eQ (Zd c) (eQ (Zd h1) (eQ (Zd hlt) ?_))
     simp only[Rounds,fn4]
     rw[e1,List.find?_cons,Zd c]
   . refine jJ (by rw[Za];exact c) ⟨?_,by simp only[lN];omega,?_⟩
     . simp only[pre4,Zb,Za];exact⟨hs,by omega,by omega⟩
     . simp only[fn4]
       rw[e1,List.find?_cons,decide_eq_false c,show(x2+1).toNat=x2.toNat+1 by omega]
 . refine jJ (by rw[Za];exact hlt) ?_
   simp only[Rounds,fn4]
   rw[Zt (by omega)];rfl
def pre(x:bS)(_:Int):Bool:=cH x.2.2.1
theorem eq(x0:bS)(x1:Int)(_:wf x0 x1)(hp:pre x0 x1=true):aQ x0 x1=some ((),((lH x0 x1).1,((lH x0 x1).2,()))):=by
 have hs:cH x0.2.2.1=true:=hp
 refine yN ?_
 unfold aQ lH
 by_cases c1:x1<x0.1
 . rw[if_pos (Zd c1),if_pos c1];exact aN rfl
 rw[if_neg (by rw[Za];exact c1),if_neg c1]
 refine aL (show pre4 _=true by simp only[pre4,Zb,Za];exact⟨hs,by omega,by omega⟩) (dB ?_)
 simp only[fn4,Int.toNat_zero,List.drop_zero]
 cases x0.2.2.1.find? (fun it=>decide (x1<=it.1))<;>exact aN rfl
end kB
abbrev kB:=lH
def cY(n len:Int):Int:=wrap .i64 (Int.tdiv n len)
def oH(len keep lastB:Int):Nat->Int->List aP->Int×List aP
 |n+1,st,it::r=>if keep<((it::r).length:Int)/\¬cY it.1 len=lastB then oH len keep lastB n (wrap .i64 (wrap .i64 (cY it.1 len+1)*len)) ((it::r).dropWhile fun y=>decide (cY y.1 len=cY it.1 len)) else(st,it::r)
 |_,st,l=>(st,l)
def kG(x:bS)(len keep:Int):bS:=
 if(decide (1<=len)&&(decide (0<=keep)&&fN x))=true then
  ((oH len keep (cY (wrap .i64 (x.2.1-1)) len) x.2.2.1.length x.1 x.2.2.1).1,(x.2.1,((oH len keep (cY (wrap .i64 (x.2.1-1)) len) x.2.2.1.length x.1 x.2.2.1).2,())))
 else x
theorem tW{α:Type}{p:α->Bool}:(l:List α)->l.drop (l.takeWhile p).length=l.dropWhile p
 |[]=>rfl
 |a::r=>by
  cases h:p a<;>simp[List.takeWhile_cons,List.dropWhile_cons,h,tW r]
theorem sM{α:Type}{p:α->Bool}:(l:List α)->(l.dropWhile p).length<=l.length
 |[]=>Nat.le_refl _
 |a::r=>by
  cases h:p a
  . simp[List.dropWhile_cons,h]
  . have:=sM (p:=p) r
    simp only[List.dropWhile_cons,h,if_true,Zg];omega
theorem aAB{len keep lastB:Int}:(n m:Nat)->(st:Int)->(l:List aP)->l.length<=n->l.length<=m->oH len keep lastB n st l=oH len keep lastB m st l
 |0,0,_,_,_,_=>rfl
 |0,m+1,st,[],_,_=>rfl
 |n+1,0,st,[],_,_=>rfl
 |n+1,m+1,st,[],_,_=>rfl
 |n+1,m+1,st,it::r,h1,h2=>by
  simp only[oH]
  split
  . refine aAB n m _ _ ?_ ?_
    all_goals
     rw[List.dropWhile_cons,if_pos (by simp)]
     have:=sM (p:=fun y:aP=>decide (cY y.1 len=cY it.1 len)) r
     simp only[Zg] at h1 h2
     omega
  . rfl
 |0,_+1,_,_::_,h,_=>by simp at h
 |_+1,0,_,_::_,_,h=>by simp at h
namespace iG
abbrev S9:Type:=(Int×(Int×aDV))
abbrev O9:Type:=(Int×(Int×aDV))
abbrev S4:Type:=aDV
abbrev O4:Type:=((Int×(Int×(Unit×((List aP)×Unit))))⊕aDA)
def pre9:S9->Bool:=fun(x1,_,_,x4,_,_,_,_,_,_,_,_,x13,_)=>decide (1<=x1)&&(cH x13&&(decide (0<=x4)&&decide (x4<=(x13.length:Int))))
def mu9:S9->Nat:=fun(_,_,_,x4,_,_,_,_,_,_,_,_,x13,_)=>x13.length-x4.toNat
def fn9:S9->O9:=fun(x1,x2,x3,x4,x5,x6,x7,x8,x9,x10,x11,x12,x13,x14)=>(x1,x2,x3,x4+(((x13.drop x4.toNat).takeWhile fun y=>decide (cY y.1 x1=x3)).length:Int),x5,x6,x7,x8,x9,x10,x11,x12,x13,x14)
noncomputable def aHA(x1:Int)(x2:Int)(x3:Int)(x4:Int)(x5:bS)(x6:Int)(x7:Int)(x8:Unit)(x9:(List aP))(x10:Int)(x11:Int)(x12:Unit)(x13:(List aP)):Option ((Int×(Int×aDV))⊕(Int×(Int×aDV))):=
 if(decide (x4<((length x13:Nat):Int)))=true then
 if(decide ((0:Int)<=x4))=true then
 if(decide (x4<((length x13:Nat):Int)))=true then
 if(!(decide (x1=(0:Int))))=true then
 if(decide ((wrap .i64 (Int.tdiv (List.getD x13 (Int.toNat x4) lL).1 x1))=x3))=true then
 some (.inl (x1,(x2,(x3,((wrap .i64 (x4+(1:Int))),(x5,(x6,(x7,(x8,(x9,(x10,(x11,(x12,(x13,()))))))))))))))
 else
 some (.inr (x1,(x2,(x3,(x4,(x5,(x6,(x7,(x8,(x9,(x10,(x11,(x12,(x13,()))))))))))))))
 else
 none
 else
 none
 else
 none
 else
 some (.inr (x1,(x2,(x3,(x4,(x5,(x6,(x7,(x8,(x9,(x10,(x11,(x12,(x13,()))))))))))))))
theorem ok9(x1 x2 x3 x4:Int)(x5:bS)(x6 x7:Int)(x8:Unit)(x9:List aP)(x10 x11:Int)(x12:Unit)(x13:List aP)(hp:pre9 (x1,(x2,(x3,(x4,(x5,(x6,(x7,(x8,(x9,(x10,(x11,(x12,(x13,())))))))))))))=true):
 Rounds pre9 mu9 fn9 (x1,(x2,(x3,(x4,(x5,(x6,(x7,(x8,(x9,(x10,(x11,(x12,(x13,()))))))))))))) (aHA x1 x2 x3 x4 x5 x6 x7 x8 x9 x10 x11 x12 x13):=by
 simp only[pre9,Zb,Za] at hp
 obtain⟨h0,hs,h1,h2⟩:=hp
 have hs':=bW.1 hs
 unfold aHA
 by_cases hlt:x4<(x13.length:Int)
 . have hn:x4.toNat<x13.length:=by omega
   have e1:=Zn hn
   refine eQ (Zd hlt) (eQ (Zd h1) (eQ (Zd hlt) (eQ (by simp only[Bool.not_eq_true',Zv];omega) ?_)))
   rw[cX hn,lF (n:=x4+1) (by omega) (by omega)]
   by_cases c:cY x13[x4.toNat].1 x1=x3
   . refine eQ (Zd c) ⟨?_,by simp only[mu9];omega,?_⟩
     . simp only[pre9,Zb,Za];exact⟨h0,hs,by omega,by omega⟩
     . simp only[fn9]
       rw[e1,List.takeWhile_cons,Zd c,show(x4+1).toNat=x4.toNat+1 by omega]
       simp only[if_true,Zg]
       rw[show ∀n:Nat,x4+1+(n:Int)=x4+((n+1:Nat):Int) from fun n=>by omega]
   . refine jJ (by rw[Za];exact c) ?_
     simp only[Rounds,fn9]
     rw[e1,List.takeWhile_cons,decide_eq_false c]
     simp
 . refine jJ (by rw[Za];exact hlt) ?_
   simp only[Rounds,fn9]
   rw[Zt (by omega)]
   simp
def pre4:S4->Bool:=fun(x1,x2,_,_,_,_,_,_,_,_,x11,_)=>decide (1<=x1)&&(decide (0<=x2)&&cH x11)
def lN:S4->Nat:=fun(_,_,_,_,_,_,_,_,_,_,x11,_)=>x11.length
def Q4(s:S4)(o:O4):Prop:=match s,o with
 |(x1,x2,x3,_,_,_,_,x8,x9,_,x11,_),.inl (y1,y2,_,y4,_)=>y2=x9/\(y1,y4)=oH x1 x2 (cY (wrap .i64 (x3.2.1-1)) x1) x11.length x8 x11
 |(x1,x2,x3,_,_,_,_,x8,x9,_,x11,_),.inr (_,_,_,_,y5,y6,_,y8,_)=>y6=x9/\(y5,y8)=oH x1 x2 (cY (wrap .i64 (x3.2.1-1)) x1) x11.length x8 x11
noncomputable def eA(x1:Int)(x2:Int)(x3:bS)(x4:Int)(x5:Int)(x6:Unit)(x7:(List aP))(x8:Int)(x9:Int)(x10:Unit)(x11:(List aP)):Option (aDV⊕((Int×(Int×(Unit×((List aP)×Unit))))⊕aDA)):=
 if(decide (x2<((length x11:Nat):Int)))=true then
 if(decide ((0:Int)<=(0:Int)))=true then
 if(decide ((0:Int)<((length x11:Nat):Int)))=true then
 if(!(decide (x1=(0:Int))))=true then
 if(!(decide (x1=(0:Int))))=true then
 if(decide ((wrap .i64 (Int.tdiv (List.getD x11 (Int.toNat (0:Int)) lL).1 x1))=(wrap .i64 (Int.tdiv (wrap .i64 (x3.2.1-(1:Int))) x1))))=true then
 some (.inr (.inl (x8,(x9,(x10,(x11,()))))))
 else
 if(iG.pre9 (x1,(x2,((wrap .i64 (Int.tdiv (List.getD x11 (Int.toNat (0:Int)) lL).1 x1)),((0:Int),(x3,(x4,(x5,(x6,(x7,(x8,(x9,(x10,(x11,()))))))))))))))=true then
 letB (iG.fn9 (x1,(x2,((wrap .i64 (Int.tdiv (List.getD x11 (Int.toNat (0:Int)) lL).1 x1)),((0:Int),(x3,(x4,(x5,(x6,(x7,(x8,(x9,(x10,(x11,())))))))))))))) fun v1=>
 if(decide ((0:Int)<=v1.2.2.2.1))=true then
 if(decide (v1.2.2.2.1<=((length v1.2.2.2.2.2.2.2.2.2.2.2.2.1:Nat):Int)))=true then
 if(decide (((length v1.2.2.2.2.2.2.2.2.2.2.2.2.1:Nat):Int)<=((length v1.2.2.2.2.2.2.2.2.2.2.2.2.1:Nat):Int)))=true then
 if(decide (length ([]:List aP)+length (aX (Int.toNat v1.2.2.2.1) (Int.toNat ((length v1.2.2.2.2.2.2.2.2.2.2.2.2.1:Nat):Int)) v1.2.2.2.2.2.2.2.2.2.2.2.2.1)<=hY))=true then
 some (.inl (v1.1,(v1.2.1,(v1.2.2.2.2.1,(v1.2.2.2.2.2.1,(v1.2.2.2.2.2.2.1,(v1.2.2.2.2.2.2.2.1,(v1.2.2.2.2.2.2.2.2.1,((wrap .i64 ((wrap .i64 (v1.2.2.1+(1:Int)))*v1.1)),(v1.2.2.2.2.2.2.2.2.2.2.1,(v1.2.2.2.2.2.2.2.2.2.2.2.1,((List.append ([]:List aP) (aX (Int.toNat v1.2.2.2.1) (Int.toNat ((length v1.2.2.2.2.2.2.2.2.2.2.2.2.1:Nat):Int)) v1.2.2.2.2.2.2.2.2.2.2.2.2.1)),()))))))))))))
 else
 none
 else
 none
 else
 none
 else
 none
 else
 none
 else
 none
 else
 none
 else
 none
 else
 none
 else
 some (.inr (.inr (x4,(x5,(x6,(x7,(x8,(x9,(x10,(x11,()))))))))))
theorem wp4:∀s,pre4 s=true->Wp ((fun(x:S4)=>eA x.1 x.2.1 x.2.2.1 x.2.2.2.1 x.2.2.2.2.1 x.2.2.2.2.2.1 x.2.2.2.2.2.2.1 x.2.2.2.2.2.2.2.1 x.2.2.2.2.2.2.2.2.1 x.2.2.2.2.2.2.2.2.2.1 x.2.2.2.2.2.2.2.2.2.2.1) s) (iW pre4 lN Q4 s):=by
 rintro⟨x1,x2,x3,x4,x5,⟨⟩,x7,x8,x9,⟨⟩,x11,⟨⟩⟩ hp
 simp only[pre4,Zb,Za] at hp
 obtain⟨h0,h1,hs⟩:=hp
 have hs':=bW.1 hs
 show Wp (eA x1 x2 x3 x4 x5 () x7 x8 x9 () x11) _
 unfold eA
 have hz:(!decide (x1=0))=true:=by simp only[Bool.not_eq_true',Zv];omega
 by_cases hlt:x2<(x11.length:Int)
 . match x11,hs,hs',hlt with
   |[],_,_,hlt=>simp only[Zh] at hlt;omega
   |it::r,hs,hs',hlt=>
    refine aL (Zd hlt) (aL (by decide) (aL (by simp only[Za,Zg];omega) (aL hz (aL hz (eG (fun c=>?_) fun c=>?_)))))
    . rw[Za] at c
      refine aN ⟨rfl,?_⟩
      simp only[Zg,oH]
      rw[if_neg (fun h=>h.2 c)]
    . rw[Za] at c
      have c:¬cY it.1 x1=cY (wrap .i64 (x3.2.1-1)) x1:=c
      have hq:pre9 (x1,(x2,(cY it.1 x1,((0:Int),(x3,(x4,(x5,((),(x7,(x8,(x9,((),(it::r,())))))))))))))=true:=by
       simp only[pre9,Zb,Za];exact⟨h0,hs,by omega,by omega⟩
      refine aL hq (dB ?_)
      have hf:fn9 (x1,(x2,(wrap .i64 (Int.tdiv ((it::r).getD (Int.toNat 0) lL).1 x1),((0:Int),(x3,(x4,(x5,((),(x7,(x8,(x9,((),(it::r,())))))))))))))=(x1,(x2,(cY it.1 x1,((((it::r).takeWhile fun y=>decide (cY y.1 x1=cY it.1 x1)).length:Int),(x3,(x4,(x5,((),(x7,(x8,(x9,((),(it::r,()))))))))))))):=by
       show(x1,(x2,(cY it.1 x1,(0+_,_))))=_
       rw[Int.zero_add];rfl
      rw[hf]
      have hl:((it::r).takeWhile fun y=>decide (cY y.1 x1=cY it.1 x1)).length<=(it::r).length:=(List.takeWhile_sublist _).length_le
      simp only[]
      rw[aAm (by omega)]
      refine aL (Zd (by omega)) (aL (Zd (by omega)) (aL (Zd (Int.le_refl _)) (aL ?_ (aN ?_))))
      . simp only[Za,Zh,aX,Zr,Zs,hY];omega
      . rw[show(((List.takeWhile (fun y=>decide (cY y.1 x1=cY it.1 x1)) (it::r)).length:Nat):Int).toNat=(List.takeWhile (fun y=>decide (cY y.1 x1=cY it.1 x1)) (it::r)).length from Int.toNat_natCast _,tW]
        have hd:((it::r).dropWhile fun y=>decide (cY y.1 x1=cY it.1 x1)).length<=r.length:=by
         rw[List.dropWhile_cons,if_pos (by simp)]
         exact sM r
        have hs2:r.length+1<=16777216:=by simpa using hs'
        have key:oH x1 x2 (cY (wrap .i64 (x3.2.1-1)) x1) ((it::r).dropWhile fun y=>decide (cY y.1 x1=cY it.1 x1)).length (wrap .i64 (wrap .i64 (cY it.1 x1+1)*x1)) ((it::r).dropWhile fun y=>decide (cY y.1 x1=cY it.1 x1))=oH x1 x2 (cY (wrap .i64 (x3.2.1-1)) x1) (it::r).length x8 (it::r):=by
         rw[Zg]
         conv=>rhs;unfold oH
         rw[if_pos ⟨hlt,c⟩]
         exact aAB _ _ _ _ (Nat.le_refl _) hd
        refine⟨?_,?_,fun o ho=>?_⟩
        . simp only[pre4,Zb,Za,bW];exact⟨h0,h1,by omega⟩
        . show length _<(it::r).length
          simp only[Zg];omega
        . cases o with
          |inl y=>exact⟨ho.1,ho.2.trans key⟩
          |inr y=>exact⟨ho.1,ho.2.trans key⟩
 . refine fP (by rw[Za];exact hlt) (aN ⟨rfl,?_⟩)
   match x11,hlt with
   |[],_=>rfl
   |it::r,hlt=>
    simp only[Zg,oH]
    rw[if_neg (fun h=>hlt h.1)]
noncomputable def fn4:S4->O4:=aKx (fun(x:S4)=>eA x.1 x.2.1 x.2.2.1 x.2.2.2.1 x.2.2.2.2.1 x.2.2.2.2.2.1 x.2.2.2.2.2.2.1 x.2.2.2.2.2.2.2.1 x.2.2.2.2.2.2.2.2.1 x.2.2.2.2.2.2.2.2.2.1 x.2.2.2.2.2.2.2.2.2.2.1) lN
theorem uM(x1 x2:Int)(x3:bS)(x4 x5:Int)(x6:Unit)(x7:List aP)(x8 x9:Int)(x10:Unit)(x11:List aP)(hp:pre4 (x1,(x2,(x3,(x4,(x5,(x6,(x7,(x8,(x9,(x10,(x11,())))))))))))=true):
 Rounds pre4 lN fn4 (x1,(x2,(x3,(x4,(x5,(x6,(x7,(x8,(x9,(x10,(x11,()))))))))))) (eA x1 x2 x3 x4 x5 x6 x7 x8 x9 x10 x11):=aI1 wp4 hp
def pre(x:bS)(_ _:Int):Bool:=cH x.2.2.1
abbrev wf(x0:bS)(x1:Int)(x2:Int):Prop:=hN [(.val sZ .f),(.val (.int .i64) .f),(.val (.int .i64) .f)] (x0,(x1,(x2,())))
noncomputable def aQ(x0:bS)(x1:Int)(x2:Int):Option (Unit×(bS×Unit)):=
 if(bP.pre x0)=true then
  if(decide (x1<(1:Int)))=true then
   letB (bP x0) fun v1=>
   some ((),(v1,()))
  else
   if(decide (x2<(0:Int)))=true then
    letB (bP x0) fun v2=>
    some ((),(v2,()))
   else
    if(eP.pre x0)=true then
     letB (fN x0) fun v3=>
     if(!v3)=true then
      letB (bP x0) fun v4=>
      some ((),(v4,()))
     else
      letB (bP x0) fun v5=>
      if(iG.pre4 (x1,(x2,(x0,((0:Int),((0:Int),((),(([]:List aP),(v5.1,(v5.2.1,(v5.2.2.2,v5.2.2)))))))))))=true then
       letB (iG.fn4 (x1,(x2,(x0,((0:Int),((0:Int),((),(([]:List aP),(v5.1,(v5.2.1,(v5.2.2.2,v5.2.2))))))))))) fun v6=>
       match v6 with
       |.inl y=>
        some ((),((y.1,(y.2.1,(y.2.2.2.1,y.2.2.1))),()))
       |.inr y=>
        some ((),((y.2.2.2.2.1,(y.2.2.2.2.2.1,(y.2.2.2.2.2.2.2.1,y.2.2.2.2.2.2.1))),()))
      else
       none
    else
     none
 else
  none
theorem eq(x0:bS)(x1 x2:Int)(_:wf x0 x1 x2)(hp:pre x0 x1 x2=true):aQ x0 x1 x2=some ((),(kG x0 x1 x2,())):=by
 have hs:cH x0.2.2.1=true:=hp
 refine aET ?_
 unfold aQ
 rw[show bP x0=x0 from rfl]
 refine aL (show bP.pre x0=true from hs) ?_
 have no:(decide (1<=x1)&&(decide (0<=x2)&&fN x0))=false->kG x0 x1 x2=x0:=fun h=>if_neg (by rw[h];exact Bool.false_ne_true)
 by_cases c1:x1<1
 . exact aL (Zd c1) (dB (aN (no (by rw[decide_eq_false (p:=1<=x1) (by omega)];rfl)).symm))
 refine fP (by rw[Za];exact c1) ?_
 by_cases c2:x2<0
 . exact aL (Zd c2) (dB (aN (no (by rw[decide_eq_false (p:=0<=x2) (by omega),Bool.false_and,Bool.and_false])).symm))
 refine fP (by rw[Za];exact c2) (aL (show eP.pre x0=true from hs) (dB ?_))
 cases c3:fN x0
 . exact aL rfl (dB (aN (no (by rw[c3,Bool.and_false,Bool.and_false])).symm))
 refine fP (by decide) (dB ?_)
 have hq:pre4 (x1,(x2,(x0,((0:Int),((0:Int),((),(([]:List aP),(x0.1,(x0.2.1,(x0.2.2.2,x0.2.2))))))))))=true:=by
  simp only[pre4,Zb,Za];exact⟨by omega,by omega,hs⟩
 rw[show kG x0 x1 x2=_ from if_pos (by rw[c3,Zd (p:=1<=x1) (by omega),Zd (p:=0<=x2) (by omega)];rfl)]
 refine aL hq (uJ (aKd wp4 hq:Q4 _ (fn4 _)) fun o ho=>?_)
 cases o with
 |inl y=>
  obtain⟨y1,y2,y3,y4,⟨⟩⟩:=y
  obtain⟨q1,q2⟩:=ho
  refine aN ?_
  show(y1,(y2,(y4,())))=_
  rw[<-q2,q1]
 |inr y=>
  obtain⟨_,_,_,_,y5,y6,⟨⟩,y8,⟨⟩⟩:=y
  obtain⟨q1,q2⟩:=ho
  refine aN ?_
  show(y5,(y6,(y8,())))=_
  rw[<-q2,q1]
end iG
abbrev iG:=kG
def vK(x:bS)(i:Int):Bool:=(x.2.2.1.drop (i.toNat+1)).any fun y=>y.2.1==(x.2.2.1.getD i.toNat lL).2.1
namespace gX
abbrev S2:Type:=(Int×(Int×(bS×Unit)))
abbrev O2:Type:=((Bool×Unit)⊕Unit)
def pre2:S2->Bool:=fun(x1,x2,x3,_)=>cH x3.2.2.1&&(decide (0<=x1)&&(decide (x1<(x3.2.2.1.length:Int))&&(decide (0<=x2)&&decide (x2<=(x3.2.2.1.length:Int)))))
def mA:S2->Nat:=fun(_,x2,x3,_)=>x3.2.2.1.length-x2.toNat
def fn2:S2->O2:=fun(x1,x2,x3,_)=>cond ((x3.2.2.1.drop x2.toNat).any fun y=>y.2.1==(x3.2.2.1.getD x1.toNat lL).2.1) (.inl (true,())) (.inr ())
noncomputable def dT(x1:Int)(x2:Int)(x3:bS):Option ((Int×(Int×(bS×Unit)))⊕((Bool×Unit)⊕Unit)):=
 if(decide (x2<((length x3.2.2.1:Nat):Int)))=true then
 if(decide ((0:Int)<=x2))=true then
 if(decide (x2<((length x3.2.2.1:Nat):Int)))=true then
 if(decide ((0:Int)<=x1))=true then
 if(decide (x1<((length x3.2.2.1:Nat):Int)))=true then
 if((List.getD x3.2.2.1 (Int.toNat x2) lL).2.1==(List.getD x3.2.2.1 (Int.toNat x1) lL).2.1)=true then
 some (.inr (.inl (true,())))
 else
 some (.inl (x1,((wrap .i64 (x2+(1:Int))),(x3,()))))
 else
 none
 else
 none
 else
 none
 else
 none
 else
 some (.inr (.inr ()))
abbrev wf(x0:bS)(x1:Int):Prop:=hN [(.val sZ .f),(.val (.int .i64) .f)] (x0,(x1,()))
noncomputable def aQ(x0:bS)(x1:Int):Option mO:=
 if(gX.pre2 (x1,((wrap .i64 (x1+(1:Int))),(x0,()))))=true then
  letB (gX.fn2 (x1,((wrap .i64 (x1+(1:Int))),(x0,())))) fun v1=>
  match v1 with
  |.inl y=>
   some ((),y)
  |.inr y=>
   some ((),(false,()))
 else
  none
theorem rR(x1 x2:Int)(x3:bS)(hp:pre2 (x1,(x2,(x3,())))=true):Rounds pre2 mA fn2 (x1,(x2,(x3,()))) (dT x1 x2 x3):=by
 simp only[pre2,Zb,Za] at hp
 obtain⟨hs,k0,k1,h1,h2⟩:=hp
 have hs':=bW.1 hs
 unfold dT
 by_cases hlt:x2<(x3.2.2.1.length:Int)
 . have hn:x2.toNat<x3.2.2.1.length:=by omega
   have e1:=Zn hn
   refine eQ (Zd hlt) (eQ (Zd h1) (eQ (Zd hlt) (eQ (Zd k0) (eQ (Zd k1) ?_))))
   rw[cX hn,lF (n:=x2+1) (by omega) (by omega)]
   cases c:(x3.2.2.1[x2.toNat].2.1==(x3.2.2.1.getD x1.toNat lL).2.1)
   . refine jJ (by decide) ⟨?_,by simp only[mA];omega,?_⟩
     . simp only[pre2,Zb,Za];exact⟨hs,k0,k1,by omega,by omega⟩
     . simp only[fn2]
       rw[e1,List.any_cons,c,Bool.false_or,show(x2+1).toNat=x2.toNat+1 by omega]
   . refine eQ rfl ?_
     simp only[Rounds,fn2]
     rw[e1,List.any_cons,c,Bool.true_or];rfl
 . refine jJ (by rw[Za];exact hlt) ?_
   simp only[Rounds,fn2]
   rw[Zt (by omega)];rfl
def pre(x:bS)(i:Int):Bool:=cH x.2.2.1&&(decide (0<=i)&&decide (i<(x.2.2.1.length:Int)))
theorem eq(x0:bS)(x1:Int)(_:wf x0 x1)(hp:pre x0 x1=true):aQ x0 x1=some ((),(vK x0 x1,())):=by
 simp only[pre,Zb,Za] at hp
 obtain⟨hs,k0,k1⟩:=hp
 have hs':=bW.1 hs
 unfold aQ vK
 rw[lF (n:=x1+1) (by omega) (by omega)]
 refine bV (show pre2 _=true by simp only[pre2,Zb,Za];exact⟨hs,k0,k1,by omega,by omega⟩) (eN ?_)
 simp only[fn2]
 rw[show(x1+1).toNat=x1.toNat+1 by omega]
 cases(x0.2.2.1.drop (x1.toNat+1)).any fun y=>y.2.1==(x0.2.2.1.getD x1.toNat lL).2.1<;>rfl
end gX
abbrev gX:=vK
def wC(len lastB:Int):List aP->List aP
 |[]=>[]
 |it::r=>cond (it.2.1==([]:List UInt8)||(!(r.any fun y=>y.2.1==it.2.1)||decide (cY it.1 len=lastB))) (it::wC len lastB r) (wC len lastB r)
theorem tZ{len lastB:Int}{it:aP}{r:List aP}:wC len lastB (it::r)=cond (it.2.1==([]:List UInt8)||(!(r.any fun y=>y.2.1==it.2.1)||decide (cY it.1 len=lastB))) (it::wC len lastB r) (wC len lastB r):=rfl
def kN(x:bS)(len:Int):bS:=
 if(decide (1<=len)&&fN x)=true then(x.1,(x.2.1,(wC len (cY (wrap .i64 (x.2.1-1)) len) x.2.2.1,()))) else x
namespace jM
abbrev S5:Type:=aDV
abbrev O5:Type:=aDA
def pre5:S5->Bool:=fun(x1,x2,x3,_,_,_,_,_,_,_,x11,_)=>decide (1<=x1)&&(cH x3.2.2.1&&(decide (0<=x2)&&(decide (x2<=(x3.2.2.1.length:Int))&&decide ((x11.length:Int)<=x2))))
def mu5:S5->Nat:=fun(_,x2,x3,_)=>x3.2.2.1.length-x2.toNat
def Q5(s:S5)(o:O5):Prop:=match s,o with
 |(x1,x2,x3,_,_,_,_,x8,x9,_,x11,_),(_,_,_,_,y5,y6,_,y8,_)=>y5=x8/\y6=x9/\y8=x11++wC x1 (cY (wrap .i64 (x3.2.1-1)) x1) (x3.2.2.1.drop x2.toNat)
noncomputable def rA(x1:Int)(x2:Int)(x3:bS)(x4:Int)(x5:Int)(x6:Unit)(x7:(List aP))(x8:Int)(x9:Int)(x10:Unit)(x11:(List aP)):Option (aDV⊕aDA):=
 if(decide (x2<((length x3.2.2.1:Nat):Int)))=true then
 if(decide ((0:Int)<=x2))=true then
 if(decide (x2<((length x3.2.2.1:Nat):Int)))=true then
 if((List.getD x3.2.2.1 (Int.toNat x2) lL).2.1==([]:List UInt8))=true then
 if(decide (length x11+length ((List.getD x3.2.2.1 (Int.toNat x2) lL)::([]:List aP))<=hY))=true then
 some (.inl (x1,((wrap .i64 (x2+(1:Int))),(x3,(x4,(x5,(x6,(x7,(x8,(x9,(x10,((List.append x11 ((List.getD x3.2.2.1 (Int.toNat x2) lL)::([]:List aP))),()))))))))))))
 else
 none
 else
 if(gX.pre x3 x2)=true then
 letB (vK x3 x2) fun v1=>
 if(!v1)=true then
 if(decide (length x11+length ((List.getD x3.2.2.1 (Int.toNat x2) lL)::([]:List aP))<=hY))=true then
 some (.inl (x1,((wrap .i64 (x2+(1:Int))),(x3,(x4,(x5,(x6,(x7,(x8,(x9,(x10,((List.append x11 ((List.getD x3.2.2.1 (Int.toNat x2) lL)::([]:List aP))),()))))))))))))
 else
 none
 else
 if(!(decide (x1=(0:Int))))=true then
 if(!(decide (x1=(0:Int))))=true then
 if(decide ((wrap .i64 (Int.tdiv (List.getD x3.2.2.1 (Int.toNat x2) lL).1 x1))=(wrap .i64 (Int.tdiv (wrap .i64 (x3.2.1-(1:Int))) x1))))=true then
 if(decide (length x11+length ((List.getD x3.2.2.1 (Int.toNat x2) lL)::([]:List aP))<=hY))=true then
 some (.inl (x1,((wrap .i64 (x2+(1:Int))),(x3,(x4,(x5,(x6,(x7,(x8,(x9,(x10,((List.append x11 ((List.getD x3.2.2.1 (Int.toNat x2) lL)::([]:List aP))),()))))))))))))
 else
 none
 else
 some (.inl (x1,((wrap .i64 (x2+(1:Int))),(x3,(x4,(x5,(x6,(x7,(x8,(x9,(x10,(x11,()))))))))))))
 else
 none
 else
 none
 else
 none
 else
 none
 else
 none
 else
 some (.inr (x4,(x5,(x6,(x7,(x8,(x9,(x10,(x11,())))))))))
theorem wp5:∀s,pre5 s=true->Wp ((fun(x:S5)=>rA x.1 x.2.1 x.2.2.1 x.2.2.2.1 x.2.2.2.2.1 x.2.2.2.2.2.1 x.2.2.2.2.2.2.1 x.2.2.2.2.2.2.2.1 x.2.2.2.2.2.2.2.2.1 x.2.2.2.2.2.2.2.2.2.1 x.2.2.2.2.2.2.2.2.2.2.1) s) (iW pre5 mu5 Q5 s):=by
 rintro⟨x1,x2,x3,x4,x5,⟨⟩,x7,x8,x9,⟨⟩,x11,⟨⟩⟩ hp
 simp only[pre5,Zb,Za] at hp
 obtain⟨h0,hs,h1,h2,h3⟩:=hp
 have hs':=bW.1 hs
 show Wp (rA x1 x2 x3 x4 x5 () x7 x8 x9 () x11) _
 unfold rA
 by_cases hlt:x2<(x3.2.2.1.length:Int)
 . have hn:x2.toNat<x3.2.2.1.length:=by omega
   have e1:=Zn hn
   have bh:vK x3 x2=(x3.2.2.1.drop (x2.toNat+1)).any fun y=>y.2.1==x3.2.2.1[x2.toNat].2.1:=by unfold vK;rw[cX hn]
   rw[cX hn,lF (n:=x2+1) (by omega) (by omega)]
   have hz:(!decide (x1=0))=true:=by simp only[Bool.not_eq_true',Zv];omega
   have hl:decide (x11.length+(x3.2.2.1[x2.toNat]::([]:List aP)).length<=hY)=true:=by
    simp only[Za,Zg,Zh,hY];omega
   have nx:∀y:List aP,y.length<=1->wC x1 (cY (wrap .i64 (x3.2.1-1)) x1) (x3.2.2.1.drop x2.toNat)=y++wC x1 (cY (wrap .i64 (x3.2.1-1)) x1) (x3.2.2.1.drop (x2.toNat+1))->
    iW pre5 mu5 Q5 (x1,x2,x3,x4,x5,(),x7,x8,x9,(),x11,()) (.inl (x1,((x2+1),(x3,(x4,(x5,((),(x7,(x8,(x9,((),(x11++y,())))))))))))):=by
    intro y hy he
    refine⟨?_,by simp only[mu5];omega,?_⟩
    . simp only[pre5,Zb,Za,Zf];exact⟨h0,hs,by omega,by omega,by omega⟩
    . rintro⟨_,_,_,_,y5,y6,⟨⟩,y8,⟨⟩⟩ ⟨q1,q2,q3⟩
      refine⟨q1,q2,q3.trans ?_⟩
      rw[he,show(x2+1).toNat=x2.toNat+1 by omega,Zk]
   have nx1:(x3.2.2.1[x2.toNat].2.1==([]:List UInt8)||(!vK x3 x2||decide (cY x3.2.2.1[x2.toNat].1 x1=cY (wrap .i64 (x3.2.1-1)) x1)))=true->
    iW pre5 mu5 Q5 (x1,x2,x3,x4,x5,(),x7,x8,x9,(),x11,()) (.inl (x1,((x2+1),(x3,(x4,(x5,((),(x7,(x8,(x9,((),(List.append x11 (x3.2.2.1[x2.toNat]::([]:List aP)),())))))))))))):=fun h=>
    nx [x3.2.2.1[x2.toNat]] (by simp) (by rw[bh] at h;rw[e1,tZ,h];rfl)
   have nx0:(x3.2.2.1[x2.toNat].2.1==([]:List UInt8)||(!vK x3 x2||decide (cY x3.2.2.1[x2.toNat].1 x1=cY (wrap .i64 (x3.2.1-1)) x1)))=false->
    iW pre5 mu5 Q5 (x1,x2,x3,x4,x5,(),x7,x8,x9,(),x11,()) (.inl (x1,((x2+1),(x3,(x4,(x5,((),(x7,(x8,(x9,((),(x11,())))))))))))):=fun h=>by
    have:=nx [] (by simp) (by rw[bh] at h;rw[e1,tZ,h];rfl)
    rwa [List.append_nil] at this
   refine aL (Zd hlt) (aL (Zd h1) (aL (Zd hlt) (eG (fun c=>?_) fun c=>?_)))
   . exact aL hl (aN (nx1 (by rw[c];rfl)))
   . have c:(x3.2.2.1[x2.toNat].2.1==([]:List UInt8))=false:=by cases h:(x3.2.2.1[x2.toNat].2.1==([]:List UInt8))<;>simp_all
     refine aL (show gX.pre x3 x2=true by simp only[gX.pre,Zb,Za];exact⟨hs,h1,hlt⟩) (dB (eG (fun d=>?_) fun d=>?_))
     . exact aL hl (aN (nx1 (by rw[c,d];rfl)))
     . have d:vK x3 x2=true:=by cases h:vK x3 x2<;>simp_all
       refine aL hz (aL hz (eG (fun f=>?_) fun f=>?_))
       . exact aL hl (aN (nx1 (by rw[c,d];exact f)))
       . rw[Za] at f
         have f:¬cY x3.2.2.1[x2.toNat].1 x1=cY (wrap .i64 (x3.2.1-1)) x1:=f
         exact aN (nx0 (by rw[c,d,decide_eq_false f];rfl))
 . refine fP (by rw[Za];exact hlt) (aN ⟨rfl,rfl,?_⟩)
   rw[Zt (by omega)]
   exact(List.append_nil _).symm
noncomputable def fn5:S5->O5:=aCa (fun(x:S5)=>rA x.1 x.2.1 x.2.2.1 x.2.2.2.1 x.2.2.2.2.1 x.2.2.2.2.2.1 x.2.2.2.2.2.2.1 x.2.2.2.2.2.2.2.1 x.2.2.2.2.2.2.2.2.1 x.2.2.2.2.2.2.2.2.2.1 x.2.2.2.2.2.2.2.2.2.2.1) mu5
theorem ok5(x1 x2:Int)(x3:bS)(x4 x5:Int)(x6:Unit)(x7:List aP)(x8 x9:Int)(x10:Unit)(x11:List aP)(hp:pre5 (x1,(x2,(x3,(x4,(x5,(x6,(x7,(x8,(x9,(x10,(x11,())))))))))))=true):
 Rounds pre5 mu5 fn5 (x1,(x2,(x3,(x4,(x5,(x6,(x7,(x8,(x9,(x10,(x11,()))))))))))) (rA x1 x2 x3 x4 x5 x6 x7 x8 x9 x10 x11):=sP wp5 hp
def pre(x:bS)(_:Int):Bool:=cH x.2.2.1
abbrev wf(x0:bS)(x1:Int):Prop:=hN [(.val sZ .f),(.val (.int .i64) .f)] (x0,(x1,()))
noncomputable def aQ(x0:bS)(x1:Int):Option (Unit×(bS×Unit)):=
 if(decide (x1<(1:Int)))=true then
 if(bP.pre x0)=true then
 letB (bP x0) fun v1=>
 some ((),(v1,()))
 else
 none
 else
 if(eP.pre x0)=true then
 letB (fN x0) fun v2=>
 if(!v2)=true then
 if(bP.pre x0)=true then
 letB (bP x0) fun v3=>
 some ((),(v3,()))
 else
 none
 else
 if(jM.pre5 (x1,((0:Int),(x0,((0:Int),((0:Int),((),(([]:List aP),(x0.1,(x0.2.1,((),(([]:List aP),()))))))))))))=true then
 letB (jM.fn5 (x1,((0:Int),(x0,((0:Int),((0:Int),((),(([]:List aP),(x0.1,(x0.2.1,((),(([]:List aP),())))))))))))) fun v4=>
 some ((),((v4.2.2.2.2.1,(v4.2.2.2.2.2.1,(v4.2.2.2.2.2.2.2.1,v4.2.2.2.2.2.2.1))),()))
 else
 none
 else
 none
theorem eq(x0:bS)(x1:Int)(_:wf x0 x1)(hp:pre x0 x1=true):aQ x0 x1=some ((),(kN x0 x1,())):=by
 have hs:cH x0.2.2.1=true:=hp
 refine aET ?_
 unfold aQ
 have no:(decide (1<=x1)&&fN x0)=false->kN x0 x1=x0:=fun h=>if_neg (by rw[h];exact Bool.false_ne_true)
 by_cases c1:x1<1
 . exact aL (Zd c1) (aL (show bP.pre x0=true from hs) (dB (aN (no (by rw[decide_eq_false (p:=1<=x1) (by omega)];rfl)).symm)))
 refine fP (by rw[Za];exact c1) (aL (show eP.pre x0=true from hs) (dB ?_))
 cases c3:fN x0
 . exact aL rfl (aL (show bP.pre x0=true from hs) (dB (aN (no (by rw[c3,Bool.and_false])).symm)))
 have hq:pre5 (x1,((0:Int),(x0,((0:Int),((0:Int),((),(([]:List aP),(x0.1,(x0.2.1,((),(([]:List aP),())))))))))))=true:=by
  simp only[pre5,Zb,Za,Zh];exact⟨by omega,hs,by omega,by omega,by omega⟩
 rw[show kN x0 x1=_ from if_pos (by rw[c3,Zd (p:=1<=x1) (by omega)];rfl)]
 refine fP (by decide) (aL hq (uJ (vO wp5 hq:Q5 _ (fn5 _)) ?_))
 rintro⟨_,_,_,_,y5,y6,⟨⟩,y8,⟨⟩⟩ ⟨q1,q2,q3⟩
 refine aN ?_
 show(y5,(y6,(y8,())))=_
 rw[q1,q2,q3];rfl
end jM
abbrev jM:=kN
theorem mL{α:Type}{xs:List α}{j:Nat}(h:j<xs.length)(d:α):xs.getD j d∈xs:=by
 rw[cX h];exact List.getElem_mem _
theorem aDq{α:Type}{xs:List α}{x:α}(h:x∈xs)(d:α):∃j,j<xs.length/\xs.getD j d=x:=by
 obtain⟨j,hj,rfl⟩:=List.mem_iff_getElem.1 h
 exact⟨j,hj,cX hj⟩
theorem wO{α:Type}{R:α->α->Prop}(tr:∀a b c,R a b->R b c->R a c)(d:α):(xs:List α)->(∀j,0<j->j<xs.length->R (xs.getD (j-1) d) (xs.getD j d))->xs.Pairwise R
 |[],_=>List.Pairwise.nil
 |[a],_=>List.pairwise_singleton _ _
 |a::b::r,h=>by
  have ih:=wO tr d (b::r) fun j h0 h1=>by
   have:=h (j+1) (by omega) (by simpa using h1)
   match j,h0 with
   |j+1,_=>exact this
  have hab:R a b:=h 1 (by omega) (by simp)
  refine List.pairwise_cons.2 ⟨fun c hc=>?_,ih⟩
  rcases List.mem_cons.1 hc with rfl|hc
  . exact hab
  . exact tr _ _ _ hab ((List.pairwise_cons.1 ih).1 c hc)
theorem aA6{α:Type}{R:α->α->Prop}{d:α}{xs:List α}(h:xs.Pairwise R){j:Nat}(h0:0<j)(h1:j<xs.length):R (xs.getD (j-1) d) (xs.getD j d):=by
 rw[cX h1,cX (show j-1<xs.length by omega)]
 exact List.pairwise_iff_getElem.1 h _ _ _ _ (by omega)
theorem nN{x:bS}:fN x=true↔(0<=x.1/\x.1<=x.2.1/\x.2.1<=100000/\x.2.2.1.length<=80)/\(∀it∈x.2.2.1,x.1<=it.1/\it.1<x.2.1/\aDK it=true)/\x.2.2.1.Pairwise (fun a b=>a.1<b.1):=by
 constructor
 . intro h
   simp only[fN,Zb,Za,aA,aBI,uA,Bool.or_eq_true] at h
   obtain⟨⟨h1,h2⟩,h3,h4,h5⟩:=h
   rw[lF (n:=x.2.1-1) (by omega) (by omega)] at h5
   refine⟨⟨h1,h2,h3,by omega⟩,fun it hit=>?_,wO (R:=fun(a b:aP)=>a.1<b.1) (fun _ _ _=>Int.lt_trans) lL _ fun j h0 h1=>?_⟩
   . obtain⟨j,hj,rfl⟩:=aDq hit lL
     have:=h5 j hj
     exact⟨this.1.1,by have:=this.1.2;omega,this.2.2⟩
   . have:=(h5 j h1).2.1
     rcases this with h|h
     . omega
     . exact h
 . rintro⟨⟨h1,h2,h3,h4⟩,h5,h6⟩
   simp only[fN,Zb,Za,aA,aBI,uA,Bool.or_eq_true]
   rw[lF (n:=x.2.1-1) (by omega) (by omega)]
   refine⟨⟨h1,h2⟩,h3,by omega,fun j hj=>?_⟩
   have:=h5 _ (mL hj lL)
   refine⟨⟨this.1,by have:=this.2.1;omega⟩,?_,this.2.2⟩
   rcases Nat.eq_zero_or_pos j with h|h
   . exact .inl h
   . exact .inr (aA6 h6 h hj)
theorem aBK{len lastB:Int}:(l:List aP)->(wC len lastB l).Sublist l
 |[]=>List.Sublist.slnil
 |it::r=>by
  rw[tZ]
  cases(it.2.1==([]:List UInt8)||(!(r.any fun y=>y.2.1==it.2.1)||decide (cY it.1 len=lastB)))
  . exact(aBK r).cons _
  . exact(aBK r).cons_cons _
theorem aGP{x:bS}{len:Int}(h:fN x=true):fN (kN x len)=true/\(kN x len).2.1=x.2.1:=by
 unfold kN
 split
 . obtain⟨⟨h1,h2,h3,h4⟩,h5,h6⟩:=nN.1 h
   have hs:=aBK (len:=len) (lastB:=cY (wrap .i64 (x.2.1-1)) len) x.2.2.1
   exact⟨nN.2 ⟨⟨h1,h2,h3,Nat.le_trans hs.length_le h4⟩,fun it hit=>h5 it (hs.mem hit),h6.sublist hs⟩,rfl⟩
 . exact⟨h,rfl⟩
theorem zA{n len:Int}(h0:0<=n)(h1:n<=100000)(h2:1<=len):cY n len=n/len:=by
 unfold cY
 rw[Int.tdiv_eq_ediv_of_nonneg h0]
 have a:=Int.ediv_nonneg h0 (show 0<=len by omega)
 have b:=Int.ediv_le_self len h0
 rw[lF (by omega) (by omega)]
theorem aEh{a n len:Int}(hl:1<=len)(h1:a/len<n/len):(a/len+1)*len<=n:=by
 have h2:(a/len+1)*len<=n/len*len:=Int.mul_le_mul_of_nonneg_right (by omega) (by omega)
 have h3:n/len*len<=n:=Int.ediv_mul_le n (by omega)
 omega
theorem vQ{α:Type}{p:α->Bool}(l:List α):(l.dropWhile p).Sublist l:=by
 rw[<-tW];exact List.drop_sublist _ _
theorem zC{α:Type}{p:α->Bool}:(l:List α)->(a:α)->(r:List α)->l.dropWhile p=a::r->p a=false
 |b::l,a,r,h=>by
  cases hb:p b
  . rw[List.dropWhile_cons,if_neg (by rw[hb];decide)] at h
    cases h;exact hb
  . rw[List.dropWhile_cons,if_pos hb] at h
    exact zC l a r h
 |[],_,_,h=>by cases h
theorem aIp{len:Int}{it:aP}{r:List aP}(hl:1<=len)(hb:∀y∈it::r,0<=y.1/\y.1<=100000)(hp:(it::r).Pairwise (fun a b=>a.1<b.1)):
 ∀y∈(it::r).dropWhile (fun y=>decide (cY y.1 len=cY it.1 len)),(it.1/len+1)*len<=y.1:=by
 intro y hy
 have hs:=vQ (p:=fun y:aP=>decide (cY y.1 len=cY it.1 len)) (it::r)
 cases hd:(it::r).dropWhile (fun y=>decide (cY y.1 len=cY it.1 len)) with
 |nil=>rw[hd] at hy;cases hy
 |cons a q=>
  have ha:=zC _ _ _ hd
  rw[hd] at hy hs
  have ham:a∈it::r:=hs.mem List.mem_cons_self
  have hpq:=hp.sublist hs
  have h1:=hb a ham
  have h0:=hb it List.mem_cons_self
  simp only[Zv] at ha
  rw[zA h1.1 h1.2 hl,zA h0.1 h0.2 hl] at ha
  have hle:it.1<=a.1:=by
   rcases List.mem_cons.1 ham with rfl|h
   . omega
   . exact Int.le_of_lt ((List.pairwise_cons.1 hp).1 a h)
  have hlt:it.1/len<a.1/len:=by
   have:=Int.ediv_le_ediv (show 0<len by omega) hle
   omega
  have:=aEh hl hlt
  rcases List.mem_cons.1 hy with rfl|h
  . exact this
  . have:=(List.pairwise_cons.1 hpq).1 y h
    omega
theorem aGj{len keep next:Int}(hl:1<=len)(hl8:len<=8)(hn:next<=100000):(n:Nat)->(st:Int)->(l:List aP)->0<=st->st<=next->(∀y∈l,st<=y.1/\y.1<next)->l.Pairwise (fun a b=>a.1<b.1)->
 (0<=(oH len keep (cY (wrap .i64 (next-1)) len) n st l).1/\(oH len keep (cY (wrap .i64 (next-1)) len) n st l).1<=next)/\(∀y∈(oH len keep (cY (wrap .i64 (next-1)) len) n st l).2,(oH len keep (cY (wrap .i64 (next-1)) len) n st l).1<=y.1)/\(oH len keep (cY (wrap .i64 (next-1)) len) n st l).2.Sublist l
 |0,st,l,h0,h1,h2,h3=>by simp only[oH];exact⟨⟨h0,h1⟩,fun y hy=>(h2 y hy).1,List.Sublist.refl _⟩
 |n+1,st,[],h0,h1,h2,h3=>by simp only[oH];exact⟨⟨h0,h1⟩,fun y hy=>(h2 y hy).1,List.Sublist.refl _⟩
 |n+1,st,it::r,h0,h1,h2,h3=>by
  simp only[oH]
  split
  . rename_i hc
    have hit:=h2 it List.mem_cons_self
    have hb:∀y∈it::r,0<=y.1/\y.1<=100000:=fun y hy=>by have:=h2 y hy;omega
    have e1:cY it.1 len=it.1/len:=zA (by omega) (by omega) hl
    have hw:wrap .i64 (next-1)=next-1:=lF (by omega) (by omega)
    have e2:cY (wrap .i64 (next-1)) len=(next-1)/len:=by rw[hw];exact zA (by omega) (by omega) hl
    have hne:=hc.2
    rw[e1,e2] at hne
    have hlt:it.1/len<(next-1)/len:=by
     have:=Int.ediv_le_ediv (show 0<len by omega) (show it.1<=next-1 by omega)
     omega
    have hnx:=aEh hl hlt
    have q0:=Int.ediv_nonneg (show 0<=it.1 by omega) (show 0<=len by omega)
    have q1:=Int.ediv_le_self len (show 0<=it.1 by omega)
    have q2:0<=(it.1/len+1)*len:=Int.mul_nonneg (by omega) (by omega)
    have ew:wrap .i64 (wrap .i64 (cY it.1 len+1)*len)=(it.1/len+1)*len:=by
     rw[e1,lF (n:=it.1/len+1) (by omega) (by omega),lF (by omega) (by omega)]
    rw[ew]
    have hs:=vQ (p:=fun y:aP=>decide (cY y.1 len=cY it.1 len)) (it::r)
    have hr:=aIp hl hb h3
    have ih:=aGj (keep:=keep) hl hl8 hn n ((it.1/len+1)*len) _ q2 (by omega) (fun y hy=>⟨hr y hy,(h2 y (hs.mem hy)).2⟩) (h3.sublist hs)
    exact⟨ih.1,ih.2.1,ih.2.2.trans hs⟩
  . exact⟨⟨h0,h1⟩,fun y hy=>(h2 y hy).1,List.Sublist.refl _⟩
theorem aH0{x:bS}{len keep:Int}(h:fN x=true)(hl8:len<=8):fN (kG x len keep)=true/\(kG x len keep).2.1=x.2.1:=by
 unfold kG
 split
 . rename_i hc
   simp only[Zb,Za] at hc
   obtain⟨⟨h1,h2,h3,h4⟩,h5,h6⟩:=nN.1 h
   have ht:=aGj (keep:=keep) hc.1 hl8 h3 x.2.2.1.length x.1 x.2.2.1 h1 h2 (fun y hy=>⟨(h5 y hy).1,(h5 y hy).2.1⟩) h6
   refine⟨nN.2 ⟨⟨ht.1.1,ht.1.2,h3,Nat.le_trans ht.2.2.length_le h4⟩,fun it hit=>⟨ht.2.1 it hit,(h5 it (ht.2.2.mem hit)).2⟩,h6.sublist ht.2.2⟩,rfl⟩
 . exact⟨h,rfl⟩
theorem gM{g:aD}{rows:Int}:iX g rows=true↔(g.2.2.1.length=g.2.1.length/\(g.2.2.2.1.length:Int)=rows/\0<=g.1/\g.1<=100000)/\(∀m∈g.2.1,0<=m/\m<=3)/\g.2.1.Pairwise (·< ·)/\(∀b∈g.2.2.1,0<=b/\b<=100000)/\(∀o∈g.2.2.2.1,0<=o/\o<=100000):=by
 constructor
 . intro h
   simp only[iX,Zb,Za,aA,aBI,aC1,Bool.or_eq_true,bZ,Zu,wU,dJ] at h
   obtain⟨h1,h2,⟨h3,h4⟩,h5,h6,h7⟩:=h
   refine⟨⟨by omega,h2,h3,h4⟩,fun m hm=>?_,wO (R:=fun(a b:Int)=>a<b) (fun _ _ _=>Int.lt_trans) (0:Int) _ fun j j0 j1=>?_,h6,h7⟩
   . obtain⟨j,hj,rfl⟩:=aDq hm (0:Int)
     exact(h5 j hj).1
   . rcases(h5 j j1).2 with h|h
     . omega
     . exact h
 . rintro⟨⟨h1,h2,h3,h4⟩,h5,h6,h7,h8⟩
   simp only[iX,Zb,Za,aA,aBI,aC1,Bool.or_eq_true,bZ,Zu,wU,dJ]
   refine⟨by omega,h2,⟨h3,h4⟩,fun j hj=>⟨h5 _ (mL hj _),?_⟩,h7,h8⟩
   rcases Nat.eq_zero_or_pos j with h|h
   . exact .inl h
   . exact .inr (aA6 h6 h hj)
theorem aHH:(l:List Int)->(a:Int)->(∀m∈l,a<=m/\m<=3)->l.Pairwise (·< ·)->l.length<=(4-a).toNat
 |[],_,_,_=>Nat.zero_le _
 |m::r,a,h,hp=>by
  have h1:=h m List.mem_cons_self
  have:=aHH r (m+1) (fun x hx=>by have:=(List.pairwise_cons.1 hp).1 x hx;have:=h x (Zo _ hx);omega) (List.pairwise_cons.1 hp).2
  simp only[Zg];omega
theorem aA2{g:aD}{rows:Int}(h:iX g rows=true)(hr:rows<=4):gU g=true/\g.2.1.length<=4:=by
 obtain⟨⟨h1,h2,h3,h4⟩,h5,h6,h7,h8⟩:=gM.1 h
 have:=aHH g.2.1 0 h5 h6
 rw[jS]
 omega
theorem aH8{n:Int}(h0:0<=n)(h1:n<=100000):0<=upG n/\upG n<=100000:=by
 unfold upG;split<;>omega
theorem aBw{t:Int}:(ms bs:List Int)->(rU t ms bs).Sublist ms
 |[],_=>List.nil_sublist _
 |_::_,[]=>List.nil_sublist _
 |m::ms,b::bs=>by
  simp only[rU]
  split
  . exact(aBw ms bs).cons _
  . exact(aBw ms bs).cons_cons _
theorem aBr{t:Int}:(bs:List Int)->(rW t bs).Sublist bs
 |[]=>List.Sublist.slnil
 |b::bs=>by
  simp only[rW]
  split
  . exact(aBr bs).cons _
  . exact(aBr bs).cons_cons _
theorem aG6{t:Int}:(ms bs:List Int)->bs.length=ms.length->(rW t bs).length=(rU t ms bs).length
 |[],[],_=>rfl
 |m::ms,b::bs,h=>by
  simp only[rU,rW]
  have:=aG6 (t:=t) ms bs (by simpa using h)
  split
  . exact this
  . simp only[Zg,this]
 |[],_::_,h=>by cases h
 |_::_,[],h=>by cases h
theorem aEL{g:aD}{rows t:Int}(h:iX g rows=true):iX (mW g t) rows=true:=by
 obtain⟨⟨h1,h2,h3,h4⟩,h5,h6,h7,h8⟩:=gM.1 h
 have s1:=aBw (t:=t) g.2.1 g.2.2.1
 have s2:=aBr (t:=t) g.2.2.1
 have hu:=aH8 h3 h4
 refine gM.2 ⟨⟨aG6 _ _ h1,h2,?_,?_⟩,fun m hm=>h5 m (s1.mem hm),h6.sublist s1,fun b hb=>h7 b (s2.mem hb),h8⟩
 . show 0<=cond (sU t g.2.2.1) (upG g.1) g.1
   cases sU t g.2.2.1
   . exact h3
   . exact hu.1
 . show cond (sU t g.2.2.1) (upG g.1) g.1<=100000
   cases sU t g.2.2.1
   . exact h4
   . exact hu.2
theorem aBM{who:Int}:(l:List Int)->(i:Int)->0<=i->¬0<=kD who l i->who∉l
 |[],_,_,_=>List.not_mem_nil
 |m::r,i,h0,h=>by
  simp only[kD] at h
  split at h
  . omega
  . rename_i hm
    rw[List.mem_cons]
    rintro(e|e)
    . exact hm e.symm
    . exact aBM r (i+1) (by omega) h e
theorem aBY{who:Int}:(ms bs:List Int)->bs.length=ms.length->ms.Pairwise (·< ·)->who∉ms->(∀m∈ms.take (pJ who ms bs),m<who)/\(∀m∈ms.drop (pJ who ms bs),who<m)
 |[],bs,_,_,_=>by simp
 |m::ms,b::bs,h,hp,hn=>by
  simp only[pJ]
  have hp':=List.pairwise_cons.1 hp
  rw[List.mem_cons,not_or] at hn
  split
  . rename_i hm
    have ih:=aBY ms bs (by simpa using h) hp'.2 hn.2
    simp only[List.take_succ_cons,List.drop_succ_cons]
    exact⟨fun x hx=>by rcases List.mem_cons.1 hx with rfl|hx;exact hm;exact ih.1 x hx,ih.2⟩
  . rename_i hm
    simp only[List.take_zero,List.drop_zero]
    refine⟨fun x hx=>(by cases hx),fun x hx=>?_⟩
    have h1:who<m:=by have:=hn.1;omega
    rcases List.mem_cons.1 hx with rfl|hx
    . exact h1
    . exact Int.lt_trans h1 (hp'.1 x hx)
 |_::_,[],h,_,_=>by cases h
theorem aFK{k:Nat}{x y:Int}{l:List Int}(h:y∈aAD k x l):y=x\/y∈l:=by
 unfold aAD at h
 rcases Zp.1 h with h|h
 . exact .inr (List.mem_of_mem_take h)
 . rcases List.mem_cons.1 h with h|h
   . exact .inl h
   . exact .inr (List.mem_of_mem_drop h)
theorem aFG{k:Nat}{x:Int}{l:List Int}(h:k<=l.length):(aAD k x l).length=l.length+1:=by
 unfold aAD
 rw[Zf,Zg,Zr,Zs];omega
theorem sE{α:Type}{l:List α}{i:Nat}{v y:α}(h:y∈l.modify i (fun _=>v)):y=v\/y∈l:=by
 rw[nY] at h
 rcases List.mem_or_eq_of_mem_set h with h|h
 . exact .inr h
 . exact .inl h
theorem aBm{g:aD}{rows who t:Int}(h:iX g rows=true)(h0:0<=t)(h1:t<=100000):iX (jA g who t) rows=true:=by
 obtain⟨⟨g1,g2,g3,g4⟩,g5,g6,g7,g8⟩:=gM.1 h
 unfold jA
 split
 . rename_i hw
   have hw:=qI hw
   split
   . split
     . refine gM.2 ⟨⟨by rw[List.length_modify];exact g1,g2,g3,g4⟩,g5,g6,fun b hb=>?_,g8⟩
       rcases sE hb with rfl|hb
       . exact⟨h0,h1⟩
       . exact g7 b hb
     . exact h
   . rename_i hf
     have hn:=aBM _ _ (Int.le_refl 0) (show ¬0<=kD who g.2.1 0 from hf)
     have hs:=aBY g.2.1 g.2.2.1 g1 g6 hn
     have hl:=aBc (who:=who) g.2.1 g.2.2.1
     have hu:=aH8 g3 g4
     refine gM.2 ⟨⟨?_,g2,hu.1,hu.2⟩,fun m hm=>?_,?_,fun b hb=>?_,g8⟩
     . show(aAD _ _ _).length=(aAD _ _ _).length
       rw[aFG hl.2,aFG hl.1,g1]
     . rcases aFK hm with rfl|hm
       . exact hw
       . exact g5 m hm
     . show(aAD _ _ _).Pairwise _
       unfold aAD
       rw[List.pairwise_append]
       refine⟨g6.sublist (List.take_sublist _ _),List.pairwise_cons.2 ⟨hs.2,g6.sublist (List.drop_sublist _ _)⟩,fun a ha b hb=>?_⟩
       have:=hs.1 a ha
       rcases List.mem_cons.1 hb with rfl|hb
       . exact this
       . exact Int.lt_trans this (hs.2 b hb)
     . rcases aFK hb with rfl|hb
       . exact⟨h0,h1⟩
       . exact g7 b hb
 . exact h
theorem aAj{g:aD}{rows who:Int}(h:iX g rows=true):iX (fE g who) rows=true:=by
 obtain⟨⟨g1,g2,g3,g4⟩,g5,g6,g7,g8⟩:=gM.1 h
 unfold fE
 split
 . rename_i hf
   have hl:=vW (who:=who) g.2.1 0 (Int.le_refl _) hf.1
   have hu:=aH8 g3 g4
   have s1:=List.eraseIdx_sublist g.2.1 (atG g who).toNat
   have s2:=List.eraseIdx_sublist g.2.2.1 (atG g who).toNat
   refine gM.2 ⟨⟨?_,g2,hu.1,hu.2⟩,fun m hm=>g5 m (s1.mem hm),g6.sublist s1,fun b hb=>g7 b (s2.mem hb),g8⟩
   show(g.2.2.1.eraseIdx _).length=(g.2.1.eraseIdx _).length
   rw[List.length_eraseIdx,List.length_eraseIdx,g1]
 . exact h
theorem aED{g:aD}{rows who gen row off:Int}(h:iX g rows=true)(h0:0<=off)(h1:off<=100000):iX (gZ g who gen row off).1 rows=true:=by
 obtain⟨⟨g1,g2,g3,g4⟩,g5,g6,g7,g8⟩:=gM.1 h
 unfold gZ
 split
 . refine gM.2 ⟨⟨g1,by show((g.2.2.2.1.modify _ _).length:Int)=rows;rw[List.length_modify];exact g2,g3,g4⟩,g5,g6,g7,fun o ho=>?_⟩
   rcases sE ho with rfl|ho
   . exact⟨h0,h1⟩
   . exact g8 o ho
 . exact h
def aKN(m:aC)(w:Int):Prop:=0<=m.1/\m.1<=3/\0<=m.2.1/\m.2.1<=3/\0<=m.2.2.1/\m.2.2.1<=100000/\-1<=m.2.2.2.1/\m.2.2.2.1<=100000/\(m.2.2.2.2.1.length:Int)<=w/\(m.2.2.2.2.1.length:Int)<=m.2.2.2.1+1/\(0<=m.2.2.2.1->0<m.2.2.2.2.1.length)
def makerP(m:aC)(w:Int):Prop:=aKN m w/\(∀j,j<m.2.2.2.2.1.length->(m.2.2.2.2.1.getD j nW).1=m.2.2.2.1-((m.2.2.2.2.1.length:Int)-1-j))/\(∀x∈m.2.2.2.2.1,0<=x.2.1/\x.2.1<=100000)/\m.2.2.2.2.1.Pairwise (fun a b=>a.2.1<b.2.1)
theorem aII{xs:List aY}:(∀j,j<xs.length->aFP xs j=true)↔xs.Pairwise (fun a b=>a.2.1<b.2.1):=by
 constructor
 . intro h
   refine wO (R:=fun(a b:aY)=>a.2.1<b.2.1) (fun _ _ _=>Int.lt_trans) nW _ fun j h0 h1=>?_
   have:=h j h1
   simp only[aFP,Bool.or_eq_true,Za] at this
   rcases this with h|h
   . omega
   . exact h
 . intro h j hj
   simp only[aFP,Bool.or_eq_true,Za]
   rcases Nat.eq_zero_or_pos j with h0|h0
   . exact .inl h0
   . exact .inr (aA6 h h0 hj)
theorem aGs{m:aC}{w:Int}(hw:w<=1000000)(h:makerP m w):dR m w=true:=by
 obtain⟨⟨h5,h6,h7,h8,h9,h10,h11,h12,h2,h3,h4⟩,k1,k2,k3⟩:=h
 simp only[dR,Zb,Za,aHi,aA,aBI,aDx]
 refine⟨⟨⟨h5,h6⟩,⟨h7,h8⟩,⟨h9,h10⟩,h11,h12⟩,h2,?_,fun j hj=>⟨?_,k2 _ (mL hj _),aII.2 k3 j hj⟩⟩
 . by_cases e:m.2.2.2.1=-1
   . rw[Zd e,Zd (p:=(m.2.2.2.2.1.length:Int)=0) (by omega)];rfl
   . rw[decide_eq_false e,decide_eq_false (p:=(m.2.2.2.2.1.length:Int)=0) (by have:=h4 (by omega);omega)];rfl
 . rw[lF (n:=m.2.2.2.1-(m.2.2.2.2.1.length:Int)) (by omega) (by omega),lF (n:=m.2.2.2.1-(m.2.2.2.2.1.length:Int)+1) (by omega) (by omega),lF (by omega) (by omega)]
   have:=k1 j hj
   omega
theorem aAa{xs:List aC}{row who w:Int}(h:∀m∈xs,makerP m w)(hr:0<=row/\row<=3)(hq:0<=who/\who<=3)(hw:0<=w):
 makerP (kL xs row who) w/\(kL xs row who).1=row/\(kL xs row who).2.1=who/\(kL xs row who∈xs\/(kL xs row who).2.2.2.2.1=[]):=by
 unfold kL
 cases hf:xs.find? (lT row who) with
 |none=>
  have hz:makerP (row,(who,((0:Int),((-1:Int),(([]:List aY),()))))) w:=⟨⟨hr.1,hr.2,hq.1,hq.2,Int.le_refl _,by show(0:Int)<=100000;omega,Int.le_refl _,by show(-1:Int)<=100000;omega,hw,by show(0:Int)<=-1+1;omega,fun h=>absurd h (by show ¬(0:Int)<=-1;omega)⟩,fun j hj=>absurd hj (Nat.not_lt_zero _),fun x hx=>absurd hx List.not_mem_nil,List.Pairwise.nil⟩
  exact⟨hz,rfl,rfl,.inr rfl⟩
 |some m=>
  have hm:=List.mem_of_find?_eq_some hf
  have hp:=List.find?_some hf
  simp only[lT,Zb,Za] at hp
  exact⟨h m hm,hp.1,hp.2,.inl hm⟩
theorem aCR{α:Type}{a b:List α}{j:Nat}{d:α}(h:j<a.length):(a++b).getD j d=a.getD j d:=by
 rw[List.getD_eq_getElem?_getD,List.getD_eq_getElem?_getD,List.getElem?_append_left h]
theorem aCZ{α:Type}{a:List α}{x d:α}:(a++[x]).getD a.length d=x:=by
 rw[List.getD_eq_getElem?_getD,List.getElem?_append_right (Nat.le_refl _),Nat.sub_self];rfl
theorem aIq{α:Type}{a:List α}{k j:Nat}{d:α}:(a.drop k).getD j d=a.getD (k+j) d:=by
 rw[List.getD_eq_getElem?_getD,List.getD_eq_getElem?_getD,List.getElem?_drop]
theorem aHR{m:aC}{w:Int}(h1:1<=w)(hm:0<m.2.2.2.2.1.length)(h:makerP m (m.2.2.2.2.1.length:Int)):makerP (m.1,(m.2.1,(m.2.2.1,(m.2.2.2.1,(pK w m.2.2.2.2.1,()))))) w:=by
 obtain⟨⟨h5,h6,h7,h8,h9,h10,h11,h12,h2,h3,h4⟩,k1,k2,k3⟩:=h
 have e:qS w 0=w:=by unfold qS;rw[if_pos (by omega)]
 have hl:(pK w m.2.2.2.2.1).length=m.2.2.2.2.1.length-(m.2.2.2.2.1.length-w.toNat):=by unfold pK;rw[e,Zs]
 refine⟨⟨h5,h6,h7,h8,h9,h10,h11,h12,?_,?_,fun _=>?_⟩,fun j hj=>?_,fun x hx=>k2 x (List.mem_of_mem_drop hx),k3.sublist (List.drop_sublist _ _)⟩
 . show((pK w m.2.2.2.2.1).length:Int)<=w;omega
 . show((pK w m.2.2.2.2.1).length:Int)<=m.2.2.2.1+1;omega
 . show 0<(pK w m.2.2.2.2.1).length;omega
 . show((pK w m.2.2.2.2.1).getD j _).1=m.2.2.2.1-(((pK w m.2.2.2.2.1).length:Int)-1-j)
   have hj:j<(pK w m.2.2.2.2.1).length:=hj
   rw[hl] at hj ⊢
   unfold pK
   rw[e,aIq,k1 _ (by omega)]
   omega
theorem aHz{m:aC}{w epoch seq off:Int}(h:makerP m w)(hw:1<=w)(he:epoch<=100000)(hq:0<=seq/\seq<=100000)(ho:0<=off/\off<=100000)(hlt:∀x∈m.2.2.2.2.1,x.2.1<off)(ha:(dA m epoch seq).1=0):
 makerP (jC m w epoch seq off) w/\(jC m w epoch seq off).1=m.1/\(jC m w epoch seq off).2.1=m.2.1/\∀x∈(jC m w epoch seq off).2.2.2.2.1,x.2.1<=off:=by
 obtain⟨⟨h5,h6,h7,h8,h9,h10,h11,h12,h2,h3,h4⟩,k1,k2,k3⟩:=h
 rw[show jC m w epoch seq off=_ from if_pos ha]
 unfold dA at ha
 by_cases c1:epoch<m.2.2.1
 . rw[if_pos c1] at ha;cases ha
 rw[if_neg c1] at ha
 by_cases c2:m.2.2.1<epoch
 . rw[if_pos c2] at ha
   by_cases c3:seq=0
   . rw[if_pos c2]
     subst c3
     refine⟨aHR (m:=(m.1,(m.2.1,(epoch,((0:Int),([((0:Int),(off,()))],())))))) hw (by show 0<1;omega) ⟨⟨h5,h6,h7,h8,by show 0<=epoch;omega,he,by show(-1:Int)<=0;omega,by show(0:Int)<=100000;omega,Int.le_refl _,by show((1:Nat):Int)<=0+1;omega,fun _=>by show 0<1;omega⟩,fun j hj=>?_,fun x hx=>?_,List.pairwise_singleton _ _⟩,rfl,rfl,fun x hx=>?_⟩
     . have:j=0:=by have:j<1:=hj;omega
       subst this;rfl
     . rw[Zq] at hx;subst hx;exact ho
     . have:=List.mem_of_mem_drop hx
       rw[List.nil_append,Zq] at this;subst this;exact Int.le_refl _
   . rw[if_neg c3] at ha;cases ha
 rw[if_neg c2] at ha
 have hee:epoch=m.2.2.1:=by omega
 by_cases c4:m.2.2.2.1<seq
 . rw[if_pos c4] at ha
   by_cases c5:wrap .i64 (seq-1)=m.2.2.2.1
   . rw[lF (by omega) (by omega)] at c5
     rw[if_neg c2]
     subst hee
     have hm:∀x∈m.2.2.2.2.1++[(seq,(off,()))],(0<=x.2.1/\x.2.1<=100000)/\x.2.1<=off:=by
      intro x hx
      rcases Zp.1 hx with hx|hx
      . exact⟨k2 x hx,Int.le_of_lt (hlt x hx)⟩
      . rw[Zq] at hx;subst hx;exact⟨ho,Int.le_refl _⟩
     refine⟨aHR (m:=(m.1,(m.2.1,(m.2.2.1,(seq,(m.2.2.2.2.1++[(seq,(off,()))],())))))) hw (by simp) ⟨⟨h5,h6,h7,h8,h9,h10,by show -1<=seq;omega,hq.2,Int.le_refl _,?_,fun _=>by simp⟩,fun j hj=>?_,fun x hx=>(hm x hx).1,?_⟩,rfl,rfl,fun x hx=>(hm x (List.mem_of_mem_drop hx)).2⟩
     . show((m.2.2.2.2.1++[(seq,(off,()))]).length:Int)<=seq+1
       rw[Zf,Zg,Zh];omega
     . show((m.2.2.2.2.1++[(seq,(off,()))]).getD j _).1=seq-(((m.2.2.2.2.1++[(seq,(off,()))]).length:Int)-1-j)
       have hj:j<(m.2.2.2.2.1++[(seq,(off,()))]).length:=hj
       rw[Zf,Zg,Zh] at hj ⊢
       by_cases c:j<m.2.2.2.2.1.length
       . rw[aCR c,k1 j c];omega
       . rw[show j=m.2.2.2.2.1.length by omega,aCZ];show seq=_;omega
     . show(m.2.2.2.2.1++[(seq,(off,()))]).Pairwise _
       rw[List.pairwise_append]
       refine⟨k3,List.pairwise_singleton _ _,fun a ha b hb=>?_⟩
       rw[Zq] at hb;subst hb
       exact hlt a ha
   . rw[if_neg c5] at ha;cases ha
 . rw[if_neg c4] at ha
   split at ha<;>cases ha
def ltM(a b:aC):Prop:=a.1<b.1\/(a.1=b.1/\a.2.1<b.2.1)
theorem aAH{m:aC}:(r:List aC)->(∀x∈r,ltM m x)->iL m true r=r
 |[],_=>rfl
 |x::r,h=>by
  have hx:=h x List.mem_cons_self
  have hk:lT m.1 m.2.1 x=false:=by
   simp only[lT,Bool.and_eq_false_iff,Zv]
   rcases hx with hx|hx<;>omega
  simp only[iL,hk,cond_false,Bool.not_true,Bool.false_and]
  rw[aAH r fun y hy=>h y (Zo _ hy)]
theorem aCC{m:aC}:(xs:List aC)->xs.Pairwise ltM->(iL m false xs).Pairwise ltM/\∀x∈iL m false xs,x=m\/x∈xs
 |[],_=>⟨List.pairwise_singleton _ _,fun x hx=>.inl (Zq.1 hx)⟩
 |x::r,h=>by
  have hp:=List.pairwise_cons.1 h
  simp only[iL,cond_false,Bool.not_false,Bool.true_and]
  cases hk:lT m.1 m.2.1 x
  . cases hl:pO x m
    . have hxm:ltM x m:=by
       simp only[lT,Bool.and_eq_false_iff,Zv] at hk
       simp only[pO,Bool.or_eq_false_iff,Bool.and_eq_false_iff,Zv] at hl
       unfold ltM
       omega
      have ih:=aCC (m:=m) r hp.2
      refine⟨List.pairwise_cons.2 ⟨fun y hy=>?_,ih.1⟩,fun y hy=>?_⟩
      . rcases ih.2 y hy with rfl|hy
        . exact hxm
        . exact hp.1 y hy
      . rcases List.mem_cons.1 hy with rfl|hy
        . exact .inr List.mem_cons_self
        . rcases ih.2 y hy with h|h
          . exact .inl h
          . exact .inr (Zo _ h)
    . have hmx:ltM m x:=by
       simp only[pO,Bool.or_eq_true,Zb,Za] at hl
       unfold ltM
       omega
      have hall:∀y∈r,ltM m y:=fun y hy=>by
       have:=hp.1 y hy
       unfold ltM at *
       omega
      simp only[cond_true,cond_false]
      rw[aAH r hall]
      refine⟨List.pairwise_cons.2 ⟨fun y hy=>?_,h⟩,fun y hy=>?_⟩
      . rcases List.mem_cons.1 hy with rfl|hy
        . exact hmx
        . exact hall y hy
      . rcases List.mem_cons.1 hy with h|h
        . exact .inl h
        . exact .inr h
  . simp only[lT,Zb,Za] at hk
    have hall:∀y∈r,ltM m y:=fun y hy=>by
     have:=hp.1 y hy
     unfold ltM at *
     omega
    simp only[cond_true]
    rw[aAH r hall]
    refine⟨List.pairwise_cons.2 ⟨hall,hp.2⟩,fun y hy=>?_⟩
    rcases List.mem_cons.1 hy with h|h
    . exact .inl h
    . exact .inr (Zo _ h)
theorem aIA{mk:aC->Int->Bool}{s:aW}{ms:List aC}:xI (aAh mk s ms) 0 ms.length=true↔(∀m∈ms,mk m s.2.1=true/\m.1<s.1)/\ms.Pairwise ltM:=by
 rw[aBI]
 constructor
 . intro h
   refine⟨fun m hm=>?_,wO (R:=ltM) (fun a b c=>by unfold ltM;omega) jY _ fun j h0 h1=>?_⟩
   . obtain⟨j,hj,rfl⟩:=aDq hm jY
     have:=h j hj
     simp only[aAh,Zb,Za] at this
     exact⟨this.1,this.2.1⟩
   . have:=h j h1
     simp only[aAh,Zb,Bool.or_eq_true,Za,Bool.not_eq_true',Bool.and_eq_false_iff,Zv] at this
     unfold ltM
     omega
 . rintro⟨h1,h2⟩ j hj
   have ha:=h1 _ (mL hj jY)
   simp only[aAh,Zb,Bool.or_eq_true,Za,Bool.not_eq_true',Bool.and_eq_false_iff,Zv]
   refine⟨ha.1,ha.2,?_⟩
   rcases Nat.eq_zero_or_pos j with h0|h0
   . exact .inl h0
   . have:=aA6 (d:=jY) h2 h0 hj
     unfold ltM at this
     omega
open Classical in
noncomputable def B(p:Prop):Bool:=decide p
theorem kZ{p:Prop}:B p=true↔p:=by simp[B]
def aJo(s:aW)(rows:List bS)(ms:List aC):Prop:=(∀m∈ms,makerP m s.2.1/\m.1<s.1/\∀x∈m.2.2.2.2.1,x.2.1<(rows.getD m.1.toNat pF).2.1)/\ms.Pairwise ltM
def mK(s:aW)(k:bA):Prop:=
 (fD s=true/\(k.1.length:Int)=s.1/\k.2.2.1.length=2/\k.2.2.2.2.1.length=4/\k.2.2.2.2.2.1.length=4/\0<=k.2.2.2.1/\k.2.2.2.1<=100000)/\(∀r∈k.1,fN r=true)/\(∀g∈k.2.2.1,iX g s.1=true)/\(∀d∈k.2.2.2.2.1,0<=d/\d<=100000)/\(∀a∈k.2.2.2.2.2.1,gL a=true)/\aJo s k.1 k.2.1
theorem iM{s:aW}(h:fD s=true):1<=s.1/\s.1<=4/\1<=s.2.1/\s.2.1<=5/\1<=s.2.2.1/\s.2.2.1<=8/\0<=s.2.2.2.1/\s.2.2.2.1<=60:=by
 simp only[fD,aA,Zb,Za] at h
 omega
theorem jX{c:eO}(h:rX c=true)(h0:0<=c.1):c.1<=3/\(1<=c.2.1/\c.2.1<=100000)/\(1<=c.2.2.1/\c.2.2.1<=10)/\(0<=c.2.2.2.1/\c.2.2.2.1<=100000)/\(0<=c.2.2.2.2.1/\c.2.2.2.2.1<=100000)/\(0<=c.2.2.2.2.2.1/\c.2.2.2.2.2.1<=100000)/\fT c.2.2.2.2.2.2.1=true/\fT c.2.2.2.2.2.2.2.1=true:=by
 unfold rX at h
 rw[if_neg (by omega)] at h
 simp only[aA,Zb,Za] at h
 obtain⟨⟨_,h1⟩,h2,h3,h4,h5,h6,h7,h8⟩:=h
 exact⟨h1,h2,h3,h4,h5,h6,h7,h8⟩
theorem aFn{s:aW}{k:bA}{mk:aC->Int->Bool}(hm:∀m w,w<=1000000->makerP m w->mk m w=true)(h:mK s k):aD0 mk s k=true:=by
 obtain⟨⟨h0,h1,h2,h3,h4,h5,h6⟩,k1,k2,k3,k4,k5,k6⟩:=h
 have hs:=iM h0
 simp only[aD0,Zb,Za,aA,bZ,Zu]
 refine⟨h0,h1,by omega,⟨h5,h6⟩,by omega,k3,by omega,aIA.2 ⟨fun m hm'=>⟨hm _ _ (by omega) (k5 m hm').1,(k5 m hm').2.1⟩,k6⟩,k1,k2,k4⟩
theorem aIx{s:aW}{k:bA}(h:mK s k):fY s k=true:=aFn (fun _ _ hw h=>aGs hw h) h
theorem aCs{α:Type}{f:α->Int}{n:Int}:(l:List α)->(a:Int)->(∀m∈l,a<=f m/\f m<n)->l.Pairwise (fun x y=>f x<f y)->l.length<=(n-a).toNat
 |[],_,_,_=>Nat.zero_le _
 |m::r,a,h,hp=>by
  have h1:=h m List.mem_cons_self
  have:=aCs (f:=f) (n:=n) r (f m+1) (fun x hx=>by have h2:f m<f x:=(List.pairwise_cons.1 hp).1 x hx;have:=h x (Zo _ hx);omega) (List.pairwise_cons.1 hp).2
  simp only[Zg];omega
theorem aI6{s:aW}{rows:List bS}{ms:List aC}(h:aJo s rows ms):ms.length<=16:=by
 have:=aCs (f:=fun m:aC=>4*m.1+m.2.1) (n:=16) ms 0 (fun m hm=>by
  obtain⟨⟨⟨h1,h2,h3,h4,_⟩,_⟩,_⟩:=h.1 m hm
  omega) (List.Pairwise.imp_of_mem (fun{a b} ha hb hab=>by
   obtain⟨⟨⟨h1,h2,h3,h4,_⟩,_⟩,_⟩:=h.1 a ha
   obtain⟨⟨⟨g1,g2,g3,g4,_⟩,_⟩,_⟩:=h.1 b hb
   unfold ltM at hab
   omega) h.2)
 omega
theorem aGm{s:aW}{rows:List bS}{ms:List aC}(hs:s.2.1<=5)(h:aJo s rows ms):xR ms=true:=by
 rw[sV]
 have:=aI6 h
 refine⟨by omega,fun m hm=>?_⟩
 obtain⟨⟨⟨_,_,_,_,_,_,_,_,h2,_⟩,_⟩,_⟩:=h.1 m hm
 omega
theorem aG9{r:bS}(h:fN r=true):aFR r.2.2.1=true/\cH r.2.2.1=true:=by
 have:=(nN.1 h).1.2.2.2
 rw[aAP,bW];omega
theorem aH5{s:aW}{k:bA}(h:mK s k):aEq k=true:=by
 obtain⟨⟨h0,h1,h2,h3,h4,h5,h6⟩,k1,k2,k3,k4,k5⟩:=h
 have hs:=iM h0
 have hm:=sV.1 (aGm (by omega) k5)
 simp only[aEq,Zb,Zu,bW]
 exact⟨by omega,fun r hr=>bW.1 (aG9 (k1 r hr)).2,hm.1,hm.2,by omega,fun g hg=>(aA2 (k2 g hg) hs.2.1).1,by omega,by omega⟩
def nM(code n:Int):aF:=(code,(n,(([]:List UInt8),(([]:List UInt8),()))))
theorem pP{code n:Int}(h0:0<=code)(h1:code<=9)(h2:-1<=n)(h3:n<=100000):gL (nM code n)=true:=by
 have hw:fT []=true:=by decide
 show gL (code,(n,(([]:List UInt8),(([]:List UInt8),()))))=true
 simp only[gL,aA,Zb,Za,hw]
 exact⟨⟨h0,h1⟩,⟨h2,h3⟩,trivial,trivial⟩
def sW(k:bA)(i:Int)(g:aD):bA:=(k.1,(k.2.1,(k.2.2.1.modify i.toNat (fun _=>g),k.2.2.2)))
def lE(k:bA)(c:eO):aD:=k.2.2.1.getD c.2.2.2.1.toNat oB
def oT(s:aW)(k:bA)(c:eO):bA×aF:=
 if c.2.2.1=4 then(sW k c.2.2.2.1 (jA (lE k c) c.1 k.2.2.2.1),nM 0 (jA (lE k c) c.1 k.2.2.2.1).1)
 else if c.2.2.1=5 then(sW k c.2.2.2.1 (fE (lE k c) c.1),nM 0 (fE (lE k c) c.1).1)
 else if c.2.2.1=6 then cond (gZ (lE k c) c.1 (lE k c).1 c.2.2.2.2.1 c.2.2.2.2.2.1).2 (sW k c.2.2.2.1 (gZ (lE k c) c.1 (lE k c).1 c.2.2.2.2.1 c.2.2.2.2.2.1).1,nM 0 c.2.2.2.2.2.1) (k,nM 9 0)
 else if s.1<=c.2.2.2.2.1 then(k,nM 5 0) else(k,nM 0 ((lE k c).2.2.2.1.getD c.2.2.2.2.1.toNat 0))
theorem oK{α:Type}{l:List α}{i:Nat}{v d:α}(h:i<l.length):(l.modify i (fun _=>v)).getD i d=v:=by
 rw[nY,List.getD_eq_getElem?_getD,List.getElem?_set_self h];rfl
theorem aCN{α:Type}{l:List α}{i j:Nat}{v d:α}(h:i≠j):(l.modify i (fun _=>v)).getD j d=l.getD j d:=by
 rw[nY,List.getD_eq_getElem?_getD,List.getD_eq_getElem?_getD,List.getElem?_set_ne h]
def aAf(s:aW)(k:bA)(c:eO):Prop:=mK s k/\rX c=true/\0<=c.1
namespace lK
noncomputable def pre(s:aW)(k:bA)(c:eO):Bool:=B (aAf s k c/\c.2.2.2.1<2)
abbrev wf(x0:aW)(x1:bA)(x2:eO):Prop:=hN [(.val wW .f),(.val zk1 .o),(.val zk6 .f)] (x0,(x1,(x2,())))
noncomputable def aQ(x0:aW)(x1:bA)(x2:eO):Option (Unit×(bA×yI)):=
 if(decide ((0:Int)<=x2.2.2.2.1))=true then
 if(decide (x2.2.2.2.1<((length x1.2.2.1:Nat):Int)))=true then
 if(decide (x2.2.2.1=(4:Int)))=true then
 if(gD.pre (List.getD x1.2.2.1 (Int.toNat x2.2.2.2.1) oB) x2.1 x1.2.2.2.1)=true then
 if(decide ((0:Int)<=x2.2.2.2.1))=true then
 if(decide (x2.2.2.2.1<((length x1.2.2.1:Nat):Int)))=true then
 if(decide ((0:Int)<=x2.2.2.2.1))=true then
 if(decide (x2.2.2.2.1<((length (List.modify x1.2.2.1 (Int.toNat x2.2.2.2.1) (fun z=>(jA (List.getD x1.2.2.1 (Int.toNat x2.2.2.2.1) oB) x2.1 x1.2.2.2.1))):Nat):Int)))=true then
 some ((),((x1.1,(x1.2.1,((List.modify x1.2.2.1 (Int.toNat x2.2.2.2.1) (fun z=>(jA (List.getD x1.2.2.1 (Int.toNat x2.2.2.2.1) oB) x2.1 x1.2.2.2.1))),x1.2.2.2))),(((0:Int),((List.getD (List.modify x1.2.2.1 (Int.toNat x2.2.2.2.1) (fun z=>(jA (List.getD x1.2.2.1 (Int.toNat x2.2.2.2.1) oB) x2.1 x1.2.2.2.1))) (Int.toNat x2.2.2.2.1) oB).1,(([]:List UInt8),(([]:List UInt8),())))),())))
 else
 none
 else
 none
 else
 none
 else
 none
 else
 none
 else
 if(decide (x2.2.2.1=(5:Int)))=true then
 if(iT.pre (List.getD x1.2.2.1 (Int.toNat x2.2.2.2.1) oB) x2.1)=true then
 if(decide ((0:Int)<=x2.2.2.2.1))=true then
 if(decide (x2.2.2.2.1<((length x1.2.2.1:Nat):Int)))=true then
 if(decide ((0:Int)<=x2.2.2.2.1))=true then
 if(decide (x2.2.2.2.1<((length (List.modify x1.2.2.1 (Int.toNat x2.2.2.2.1) (fun z=>(fE (List.getD x1.2.2.1 (Int.toNat x2.2.2.2.1) oB) x2.1))):Nat):Int)))=true then
 some ((),((x1.1,(x1.2.1,((List.modify x1.2.2.1 (Int.toNat x2.2.2.2.1) (fun z=>(fE (List.getD x1.2.2.1 (Int.toNat x2.2.2.2.1) oB) x2.1))),x1.2.2.2))),(((0:Int),((List.getD (List.modify x1.2.2.1 (Int.toNat x2.2.2.2.1) (fun z=>(fE (List.getD x1.2.2.1 (Int.toNat x2.2.2.2.1) oB) x2.1))) (Int.toNat x2.2.2.2.1) oB).1,(([]:List UInt8),(([]:List UInt8),())))),())))
 else
 none
 else
 none
 else
 none
 else
 none
 else
 none
 else
 if(decide (x2.2.2.1=(6:Int)))=true then
 if(iN.pre (List.getD x1.2.2.1 (Int.toNat x2.2.2.2.1) oB) x2.1 (List.getD x1.2.2.1 (Int.toNat x2.2.2.2.1) oB).1 x2.2.2.2.2.1 x2.2.2.2.2.2.1)=true then
 letB (gZ (List.getD x1.2.2.1 (Int.toNat x2.2.2.2.1) oB) x2.1 (List.getD x1.2.2.1 (Int.toNat x2.2.2.2.1) oB).1 x2.2.2.2.2.1 x2.2.2.2.2.2.1) fun v1=>
 if(!v1.2)=true then
 some ((),(x1,(((9:Int),pQ),())))
 else
 if(decide ((0:Int)<=x2.2.2.2.1))=true then
 if(decide (x2.2.2.2.1<((length x1.2.2.1:Nat):Int)))=true then
 some ((),((x1.1,(x1.2.1,((List.modify x1.2.2.1 (Int.toNat x2.2.2.2.1) (fun z=>v1.1)),x1.2.2.2))),(((0:Int),(x2.2.2.2.2.2.1,(([]:List UInt8),(([]:List UInt8),())))),())))
 else
 none
 else
 none
 else
 none
 else
 if(decide (x0.1<=x2.2.2.2.2.1))=true then
 some ((),(x1,(((5:Int),pQ),())))
 else
 if(decide ((0:Int)<=x2.2.2.2.2.1))=true then
 if(decide (x2.2.2.2.2.1<((length (List.getD x1.2.2.1 (Int.toNat x2.2.2.2.1) oB).2.2.2.1:Nat):Int)))=true then
 some ((),(x1,(((0:Int),((List.getD (List.getD x1.2.2.1 (Int.toNat x2.2.2.2.1) oB).2.2.2.1 (Int.toNat x2.2.2.2.2.1) (0:Int)),(([]:List UInt8),(([]:List UInt8),())))),())))
 else
 none
 else
 none
 else
 none
 else
 none
theorem eq(x0:aW)(x1:bA)(x2:eO)(_:wf x0 x1 x2)(hp:pre x0 x1 x2=true):aQ x0 x1 x2=some ((),((oT x0 x1 x2).1,((oT x0 x1 x2).2,()))):=by
 obtain⟨⟨hk,hc,hw⟩,hA⟩:=kZ.1 hp
 obtain⟨⟨h0,h1,h2,h3,h4,h5,h6⟩,k1,k2,k3,k4,k5⟩:=hk
 have hs:=iM h0
 have cf:=jX hc hw
 have hA0:=cf.2.2.2.1.1
 have hAl:x2.2.2.2.1<(x1.2.2.1.length:Int):=by omega
 have hn:x2.2.2.2.1.toNat<x1.2.2.1.length:=by omega
 have hg:iX (lE x1 x2) x0.1=true:=k2 _ (mL hn _)
 have hgs:=(aA2 hg hs.2.1).1
 have ho:=(gM.1 hg).1.2.1
 refine yN ?_
 unfold aQ oT
 refine aL (Zd hA0) (aL (Zd hAl) ?_)
 show Wp (if decide (x2.2.2.1=4)=true then(if gD.pre (lE x1 x2) x2.1 x1.2.2.2.1=true then _ else none) else _) _
 have ml:∀g:aD,decide (x2.2.2.2.1<(((x1.2.2.1.modify x2.2.2.2.1.toNat (fun _=>g)).length:Nat):Int))=true:=fun g=>by rw[List.length_modify];exact Zd hAl
 by_cases c1:x2.2.2.1=4
 . rw[if_pos c1]
   refine aL (Zd c1) (aL (show gD.pre _ _ _=true from hgs) (aL (Zd hA0) (aL (Zd hAl) (aL (Zd hA0) (aL (ml _) (aN ?_))))))
   show(sW x1 x2.2.2.2.1 (jA (lE x1 x2) x2.1 x1.2.2.2.1),nM 0 ((x1.2.2.1.modify x2.2.2.2.1.toNat (fun _=>jA (lE x1 x2) x2.1 x1.2.2.2.1)).getD x2.2.2.2.1.toNat oB).1)=_
   rw[oK hn]
 rw[if_neg c1]
 refine fP (by rw[Za];exact c1) ?_
 by_cases c2:x2.2.2.1=5
 . rw[if_pos c2]
   refine aL (Zd c2) (aL (show iT.pre _ _=true from hgs) (aL (Zd hA0) (aL (Zd hAl) (aL (Zd hA0) (aL (ml _) (aN ?_))))))
   show(sW x1 x2.2.2.2.1 (fE (lE x1 x2) x2.1),nM 0 ((x1.2.2.1.modify x2.2.2.2.1.toNat (fun _=>fE (lE x1 x2) x2.1)).getD x2.2.2.2.1.toNat oB).1)=_
   rw[oK hn]
 rw[if_neg c2]
 refine fP (by rw[Za];exact c2) ?_
 by_cases c3:x2.2.2.1=6
 . rw[if_pos c3]
   refine aL (Zd c3) (aL (show iN.pre (lE x1 x2) _ _ _ _=true from hgs) (dB ?_))
   show Wp (if(!(gZ (lE x1 x2) x2.1 (lE x1 x2).1 x2.2.2.2.2.1 x2.2.2.2.2.2.1).2)=true then _ else _) _
   cases h:(gZ (lE x1 x2) x2.1 (lE x1 x2).1 x2.2.2.2.2.1 x2.2.2.2.2.2.1).2
   . exact aL rfl (aN rfl)
   . exact fP (by decide) (aL (Zd hA0) (aL (Zd hAl) (aN rfl)))
 rw[if_neg c3]
 refine fP (by rw[Za];exact c3) ?_
 by_cases c4:x0.1<=x2.2.2.2.2.1
 . rw[if_pos c4]
   exact aL (Zd c4) (aN rfl)
 . rw[if_neg c4]
   exact fP (by rw[Za];exact c4) (aL (Zd cf.2.2.2.2.1.1) (aL (Zd (show x2.2.2.2.2.1<((lE x1 x2).2.2.2.1.length:Int) by omega)) (aN rfl)))
end lK
abbrev lK:=oT
theorem yX{s:aW}{k:bA}{i:Int}{g:aD}(h:mK s k)(hg:iX g s.1=true):mK s (sW k i g):=by
 obtain⟨⟨h0,h1,h2,h3,h4,h5,h6⟩,k1,k2,k3⟩:=h
 refine⟨⟨h0,h1,?_,h3,h4,h5,h6⟩,k1,fun x hx=>?_,k3⟩
 . show(k.2.2.1.modify _ _).length=2
   rw[List.length_modify];exact h2
 . rcases sE hx with rfl|hx
   . exact hg
   . exact k2 x hx
theorem aGV{s:aW}{k:bA}{c:eO}(h:aAf s k c)(hA:c.2.2.2.1<2):mK s (oT s k c).1/\gL (oT s k c).2=true:=by
 obtain⟨hk,hc,hw⟩:=h
 have hk':=hk
 obtain⟨⟨h0,h1,h2,h3,h4,h5,h6⟩,k1,k2,k3,k4,k5⟩:=hk'
 have cf:=jX hc hw
 have hg:iX (lE k c) s.1=true:=k2 _ (mL (by omega) _)
 have gen:∀g:aD,iX g s.1=true->gL (nM 0 g.1)=true:=fun g hg=>by
  have:=(gM.1 hg).1
  exact pP (by omega) (by omega) (by omega) (by omega)
 unfold oT
 split
 . exact⟨yX hk (aBm hg h5 h6),gen _ (aBm hg h5 h6)⟩
 split
 . exact⟨yX hk (aAj hg),gen _ (aAj hg)⟩
 split
 . cases(gZ (lE k c) c.1 (lE k c).1 c.2.2.2.2.1 c.2.2.2.2.2.1).2
   . exact⟨hk,pP (by omega) (by omega) (by omega) (by omega)⟩
   . exact⟨yX hk (aED hg cf.2.2.2.2.2.1.1 cf.2.2.2.2.2.1.2),pP (by omega) (by omega) (by have:=cf.2.2.2.2.2.1;omega) cf.2.2.2.2.2.1.2⟩
 split
 . exact⟨hk,pP (by omega) (by omega) (by omega) (by omega)⟩
 . rename_i hB
   have hgo:=gM.1 hg
   have:=hgo.2.2.2.2 _ (mL (show c.2.2.2.2.1.toNat<(lE k c).2.2.2.1.length by have:=cf.2.2.2.2.1;have:=hgo.1.2.1;omega) 0)
   exact⟨hk,pP (by omega) (by omega) (by omega) (by omega)⟩
def gK(k:bA)(c:eO):bS:=k.1.getD c.2.2.2.1.toNat pF
def aAp(k:bA)(i:Int)(r:bS):bA:=(k.1.modify i.toNat (fun _=>r),k.2)
def pL(s:aW)(k:bA)(c:eO):bS×(Int×Bool):=oE (gK k c) c.2.2.2.2.2.2.1 c.2.2.2.2.2.2.2.1 c.1 k.2.2.2.1
def nZ(k:bA)(c:eO):aC:=kL k.2.1 c.2.2.2.1 c.1
def wA(s:aW)(k:bA)(c:eO):bA×aF:=
 if(dA (nZ k c) c.2.2.2.2.2.1 c.2.2.2.2.1).1=1 then(k,nM 1 (dA (nZ k c) c.2.2.2.2.2.1 c.2.2.2.2.1).2)
 else if(dA (nZ k c) c.2.2.2.2.2.1 c.2.2.2.2.1).1=2 then(k,nM 2 0)
 else if(dA (nZ k c) c.2.2.2.2.2.1 c.2.2.2.2.1).1=3 then(k,nM 3 0)
 else if(dA (nZ k c) c.2.2.2.2.2.1 c.2.2.2.2.1).1=4 then(k,nM 4 0)
 else cond (pL s k c).2.2 ((k.1.modify c.2.2.2.1.toNat (fun _=>(pL s k c).1),(oG k.2.1 (jC (nZ k c) s.2.1 c.2.2.2.2.2.1 c.2.2.2.2.1 (pL s k c).2.1),k.2.2)),nM 0 (pL s k c).2.1) (k,nM 8 0)
theorem zS{xs:List aC}{row who:Int}(h:xR xs=true):cH (kL xs row who).2.2.2.2.1=true:=by
 unfold kL
 cases hf:xs.find? (lT row who) with
 |none=>rfl
 |some m=>exact bW.2 ((sV.1 h).2 m (List.mem_of_find?_eq_some hf))
theorem aDC{m:aC}{w e q o:Int}(h:m.2.2.2.2.1.length<=1000):cH (jC m w e q o).2.2.2.2.1=true:=by
 rw[bW]
 unfold jC
 split
 . have h1:(pK w ((if m.2.2.1<e then[] else m.2.2.2.2.1)++[(q,(o,()))])).length<=((if m.2.2.1<e then[] else m.2.2.2.2.1)++[(q,(o,()))]).length:=by
    unfold pK;rw[Zs];omega
   have h2:((if m.2.2.1<e then[] else m.2.2.2.2.1)++[(q,(o,()))]).length<=1001:=by
    rw[Zf]
    split
    . simp
    . simp;omega
   show(pK _ _).length<=_
   omega
 . omega
namespace mJ
noncomputable def pre(s:aW)(k:bA)(c:eO):Bool:=B (aAf s k c/\c.2.2.2.1<s.1)
abbrev wf(x0:aW)(x1:bA)(x2:eO):Prop:=hN [(.val wW .f),(.val zk1 .o),(.val zk6 .f)] (x0,(x1,(x2,())))
noncomputable def aQ(x0:aW)(x1:bA)(x2:eO):Option (Unit×(bA×yI)):=
 if(gB.pre x1.2.1 x2.2.2.2.1 x2.1)=true then
 letB (kL x1.2.1 x2.2.2.2.1 x2.1) fun v1=>
 if(eS.pre v1 x2.2.2.2.2.2.1 x2.2.2.2.2.1)=true then
 letB (dA v1 x2.2.2.2.2.2.1 x2.2.2.2.2.1) fun v2=>
 if(decide (v2.1=(1:Int)))=true then
 some ((),(x1,(((1:Int),(v2.2,(([]:List UInt8),(([]:List UInt8),())))),())))
 else
 if(decide (v2.1=(2:Int)))=true then
 some ((),(x1,(((2:Int),pQ),())))
 else
 if(decide (v2.1=(3:Int)))=true then
 some ((),(x1,(((3:Int),pQ),())))
 else
 if(decide (v2.1=(4:Int)))=true then
 some ((),(x1,(((4:Int),pQ),())))
 else
 if(decide ((0:Int)<=x2.2.2.2.1))=true then
 if(decide (x2.2.2.2.1<((length x1.1:Nat):Int)))=true then
 if(kV.pre (List.getD x1.1 (Int.toNat x2.2.2.2.1) pF) x2.2.2.2.2.2.2.1 x2.2.2.2.2.2.2.2.1 x2.1 x1.2.2.2.1)=true then
 letB (oE (List.getD x1.1 (Int.toNat x2.2.2.2.1) pF) x2.2.2.2.2.2.2.1 x2.2.2.2.2.2.2.2.1 x2.1 x1.2.2.2.1) fun v3=>
 if(!v3.2.2)=true then
 some ((),(x1,(((8:Int),pQ),())))
 else
 if(decide ((0:Int)<=x2.2.2.2.1))=true then
 if(decide (x2.2.2.2.1<((length x1.1:Nat):Int)))=true then
 if(kF.pre v1 x0.2.1 x2.2.2.2.2.2.1 x2.2.2.2.2.1 v3.2.1)=true then
 letB (jC v1 x0.2.1 x2.2.2.2.2.2.1 x2.2.2.2.2.1 v3.2.1) fun v4=>
 if(gI.pre x1.2.1 v4)=true then
 letB (oG x1.2.1 v4) fun v5=>
 some ((),(((List.modify x1.1 (Int.toNat x2.2.2.2.1) (fun z=>v3.1)),(v5,x1.2.2)),(((0:Int),(v3.2.1,(([]:List UInt8),(([]:List UInt8),())))),())))
 else
 none
 else
 none
 else
 none
 else
 none
 else
 none
 else
 none
 else
 none
 else
 none
 else
 none
theorem eq(x0:aW)(x1:bA)(x2:eO)(_:wf x0 x1 x2)(hp:pre x0 x1 x2=true):aQ x0 x1 x2=some ((),((wA x0 x1 x2).1,((wA x0 x1 x2).2,()))):=by
 obtain⟨⟨hk,hc,hw⟩,hA⟩:=kZ.1 hp
 obtain⟨⟨h0,h1,h2,h3,h4,h5,h6⟩,k1,k2,k3,k4,k5⟩:=hk
 have hs:=iM h0
 have cf:=jX hc hw
 have hA0:=cf.2.2.2.1.1
 have hAl:x2.2.2.2.1<(x1.1.length:Int):=by omega
 have hr:fN (gK x1 x2)=true:=k1 _ (mL (by omega) _)
 have hms:=aGm (by omega) k5
 have hmk:=aAa (row:=x2.2.2.2.1) (who:=x2.1) (w:=x0.2.1) (fun m hm=>(k5.1 m hm).1) ⟨hA0,by omega⟩ ⟨hw,cf.1⟩ (by omega)
 refine yN ?_
 unfold aQ
 refine aL (show gB.pre _ _ _=true from hms) (dB (aL (show eS.pre _ _ _=true from zS hms) (dB ?_)))
 show Wp (if decide ((dA (nZ x1 x2) x2.2.2.2.2.2.1 x2.2.2.2.2.1).1=1)=true then some ((),(x1,(nM 1 (dA (nZ x1 x2) x2.2.2.2.2.2.1 x2.2.2.2.2.1).2,()))) else _) (fun r=>(r.2.1,r.2.2.1)=wA x0 x1 x2)
 unfold wA
 refine eG (fun c1=>?_) fun c1=>?_
 . rw[Za] at c1;rw[if_pos c1];exact aN rfl
 rw[Za] at c1;rw[if_neg c1]
 refine eG (fun c2=>?_) fun c2=>?_
 . rw[Za] at c2
   rw[if_pos (show(dA (nZ x1 x2) x2.2.2.2.2.2.1 x2.2.2.2.2.1).1=2 from c2)];exact aN rfl
 rw[Za] at c2;rw[if_neg (show ¬(dA (nZ x1 x2) x2.2.2.2.2.2.1 x2.2.2.2.2.1).1=2 from c2)]
 refine eG (fun c3=>?_) fun c3=>?_
 . rw[Za] at c3
   rw[if_pos (show(dA (nZ x1 x2) x2.2.2.2.2.2.1 x2.2.2.2.2.1).1=3 from c3)];exact aN rfl
 rw[Za] at c3;rw[if_neg (show ¬(dA (nZ x1 x2) x2.2.2.2.2.2.1 x2.2.2.2.2.1).1=3 from c3)]
 refine eG (fun c4=>?_) fun c4=>?_
 . rw[Za] at c4
   rw[if_pos (show(dA (nZ x1 x2) x2.2.2.2.2.2.1 x2.2.2.2.2.1).1=4 from c4)];exact aN rfl
 rw[Za] at c4;rw[if_neg (show ¬(dA (nZ x1 x2) x2.2.2.2.2.2.1 x2.2.2.2.2.1).1=4 from c4)]
 refine aL (Zd hA0) (aL (Zd hAl) (aL (show kV.pre (gK x1 x2) _ _ _ _=true from(aG9 hr).1) (dB ?_)))
 show Wp (if(!(pL x0 x1 x2).2.2)=true then _ else _) _
 cases hb:(pL x0 x1 x2).2.2
 . exact aL rfl (aN rfl)
 refine fP (by decide) (aL (Zd hA0) (aL (Zd hAl) (aL (show kF.pre (nZ x1 x2) _ _ _ _=true from zS hms) (dB (aL ?_ (dB (aN rfl)))))))
 show(xR x1.2.1&&cH (jC (nZ x1 x2) x0.2.1 x2.2.2.2.2.2.1 x2.2.2.2.2.1 (pL x0 x1 x2).2.1).2.2.2.2.1)=true
 rw[hms,aDC];rfl
 have:=hmk.1.1.2.2.2.2.2.2.2.2.1
 show(kL _ _ _).2.2.2.2.1.length<=1000
 omega
end mJ
abbrev mJ:=wA
theorem aIe{s:aW}{rows rows':List bS}{ms:List aC}(h:aJo s rows ms)(hr:∀j,(rows.getD j pF).2.1<=(rows'.getD j pF).2.1):aJo s rows' ms:=
 ⟨fun m hm=>⟨(h.1 m hm).1,(h.1 m hm).2.1,fun x hx=>Int.lt_of_lt_of_le ((h.1 m hm).2.2 x hx) (hr _)⟩,h.2⟩
theorem aBu{s:aW}{k:bA}{i:Int}{r:bS}(h:mK s k)(hi:0<=i)(hl:i<s.1)(hr:fN r=true)(hn:(k.1.getD i.toNat pF).2.1<=r.2.1):mK s (aAp k i r):=by
 obtain⟨⟨h0,h1,h2,h3,h4,h5,h6⟩,k1,k2,k3,k4,k5⟩:=h
 refine⟨⟨h0,by show((k.1.modify _ _).length:Int)=s.1;rw[List.length_modify];exact h1,h2,h3,h4,h5,h6⟩,fun x hx=>?_,k2,k3,k4,aIe k5 fun j=>?_⟩
 . rcases sE hx with rfl|hx
   . exact hr
   . exact k1 x hx
 . show _<=((k.1.modify i.toNat (fun _=>r)).getD j pF).2.1
   by_cases e:i.toNat=j
   . subst e
     rw[oK (by omega)];exact hn
   . rw[aCN e];exact Int.le_refl _
theorem aFa{x:bS}{key text:List UInt8}{who t:Int}(hx:fN x=true)(h:(oE x key text who t).2.2=true):(oE x key text who t).2.1=x.2.1/\fN (oE x key text who t).1=true/\(oE x key text who t).1.2.1=x.2.1+1/\0<=x.2.1/\x.2.1<100000:=by
 unfold oE at h ⊢
 split at h
 . rename_i hc
   rw[if_pos hc]
   rw[Zb] at hc
   have h1:=(nN.1 hx).1
   have h2:=(nN.1 hc.2).1
   have e:(newRow x key text who t).2.1=x.2.1+1:=lF (n:=x.2.1+1) (by omega) (by omega)
   rw[e] at h2
   exact⟨rfl,hc.2,e,by omega,by omega⟩
 . cases h
theorem aLh{m:aC}{w e q:Int}(h:makerP m w)(h1:(dA m e q).1=1):0<=(dA m e q).2/\(dA m e q).2<=100000:=by
 unfold dA at h1 ⊢
 repeat' split
 all_goals first
  |exact⟨by decide,by decide⟩
  |skip
 rename_i x hx
 exact h.2.2.1 x (List.mem_of_find?_eq_some hx)
theorem aJx{s:aW}{k:bA}{c:eO}(h:aAf s k c)(hA:c.2.2.2.1<s.1):mK s (wA s k c).1/\gL (wA s k c).2=true:=by
 obtain⟨hk,hc,hw⟩:=h
 have hk':=hk
 obtain⟨⟨h0,h1,h2,h3,h4,h5,h6⟩,k1,k2,k3,k4,k5⟩:=hk'
 have hs:=iM h0
 have cf:=jX hc hw
 have hA0:=cf.2.2.2.1.1
 have hn:c.2.2.2.1.toNat<k.1.length:=by omega
 have hr:fN (gK k c)=true:=k1 _ (mL hn _)
 have hmk:=aAa (row:=c.2.2.2.1) (who:=c.1) (w:=s.2.1) (fun m hm=>(k5.1 m hm).1) ⟨hA0,by omega⟩ ⟨hw,cf.1⟩ (by omega)
 have a0:∀{x:Int},0<=x->x<=9->gL (nM x 0)=true:=fun h1 h2=>pP h1 h2 (by omega) (by omega)
 unfold wA
 split
 . rename_i c1
   have:=aLh hmk.1 c1
   exact⟨hk,pP (by omega) (by omega) (by unfold nZ;omega) this.2⟩
 split
 . exact⟨hk,a0 (by omega) (by omega)⟩
 split
 . exact⟨hk,a0 (by omega) (by omega)⟩
 split
 . exact⟨hk,a0 (by omega) (by omega)⟩
 rename_i c1 c2 c3 c4
 have hask:(dA (nZ k c) c.2.2.2.2.2.1 c.2.2.2.2.1).1=0:=by
  unfold dA at c1 c2 c3 c4 ⊢
  repeat' split
  all_goals first
   |rfl
   |(exfalso;simp_all)
 cases hb:(pL s k c).2.2
 . exact⟨hk,a0 (by omega) (by omega)⟩
 . have hf:=aFa (who:=c.1) (t:=k.2.2.2.1) (key:=c.2.2.2.2.2.2.1) (text:=c.2.2.2.2.2.2.2.1) hr hb
   have hf1:(pL s k c).2.1=(gK k c).2.1:=hf.1
   have hf2:fN (pL s k c).1=true:=hf.2.1
   have hf3:(pL s k c).1.2.1=(gK k c).2.1+1:=hf.2.2.1
   have hlt:∀x∈(nZ k c).2.2.2.2.1,x.2.1<(gK k c).2.1:=by
    intro x hx
    rcases hmk.2.2.2 with h|h
    . have:=(k5.1 _ h).2.2 x hx
      rw[hmk.2.1] at this
      exact this
    . rw[show(nZ k c).2.2.2.2.1=[] from h] at hx;cases hx
   have hp:=aHz (m:=nZ k c) (w:=s.2.1) (epoch:=c.2.2.2.2.2.1) (seq:=c.2.2.2.2.1) (off:=(gK k c).2.1) hmk.1 (by omega) cf.2.2.2.2.2.1.2 cf.2.2.2.2.1 ⟨hf.2.2.2.1,by have:=hf.2.2.2.2;omega⟩ hlt hask
   simp only[cond_true]
   rw[hf1]
   refine⟨?_,pP (by omega) (by omega) (by have:=hf.2.2.2.1;unfold gK;unfold gK at this;omega) (by have:=hf.2.2.2.2;unfold gK;unfold gK at this;omega)⟩
   have hset:=aCC (m:=jC (nZ k c) s.2.1 c.2.2.2.2.2.1 c.2.2.2.2.1 (gK k c).2.1) k.2.1 k5.2
   have hk2:=aBu (i:=c.2.2.2.1) (r:=(pL s k c).1) hk hA0 hA hf2 (by show(gK k c).2.1<=_;omega)
   obtain⟨g0,g1,g2,g3,g4,g5⟩:=hk2
   refine⟨g0,g1,g2,g3,g4,fun m hm=>?_,hset.1⟩
   rcases hset.2 m hm with rfl|hm
   . refine⟨hp.1,by rw[hp.2.1];show(kL _ _ _).1<s.1;rw[hmk.2.1];exact hA,fun x hx=>?_⟩
     have h1:=hp.2.2.2 x hx
     have e:(jC (nZ k c) s.2.1 c.2.2.2.2.2.1 c.2.2.2.2.1 (gK k c).2.1).1=c.2.2.2.1:=by rw[hp.2.1];exact hmk.2.1
     rw[e]
     show x.2.1<((k.1.modify c.2.2.2.1.toNat (fun _=>(pL s k c).1)).getD c.2.2.2.1.toNat pF).2.1
     rw[oK hn,hf3]
     omega
   . exact g5.1 m hm
def pX(k:bA)(c:eO):bA×aF:=
 if c.2.2.2.2.1<=(nZ k c).2.2.1 then(k,nM 4 (nZ k c).2.2.1) else((k.1,(oG k.2.1 (c.2.2.2.1,(c.1,(c.2.2.2.2.1,((-1:Int),(([]:List aY),()))))),k.2.2)),nM 0 c.2.2.2.2.1)
namespace kJ
def pre(k:bA)(_:eO):Bool:=xR k.2.1
abbrev wf(x0:bA)(x1:eO):Prop:=hN [(.val zk1 .o),(.val zk6 .f)] (x0,(x1,()))
noncomputable def aQ(x0:bA)(x1:eO):Option (Unit×(bA×yI)):=
 if(gB.pre x0.2.1 x1.2.2.2.1 x1.1)=true then
 letB (kL x0.2.1 x1.2.2.2.1 x1.1) fun v1=>
 if(decide (x1.2.2.2.2.1<=v1.2.2.1))=true then
 some ((),(x0,(((4:Int),(v1.2.2.1,(([]:List UInt8),(([]:List UInt8),())))),())))
 else
 if(gI.pre x0.2.1 (x1.2.2.2.1,(x1.1,(x1.2.2.2.2.1,((-1:Int),(([]:List aY),()))))))=true then
 letB (oG x0.2.1 (x1.2.2.2.1,(x1.1,(x1.2.2.2.2.1,((-1:Int),(([]:List aY),())))))) fun v2=>
 some ((),((x0.1,(v2,x0.2.2)),(((0:Int),(x1.2.2.2.2.1,(([]:List UInt8),(([]:List UInt8),())))),())))
 else
 none
 else
 none
theorem eq(x0:bA)(x1:eO)(_:wf x0 x1)(hp:pre x0 x1=true):aQ x0 x1=some ((),((pX x0 x1).1,((pX x0 x1).2,()))):=by
 have hp:xR x0.2.1=true:=hp
 refine yN ?_
 unfold aQ
 refine aL (show gB.pre _ _ _=true from hp) (dB ?_)
 show Wp (if decide (x1.2.2.2.2.1<=(nZ x0 x1).2.2.1)=true then some ((),(x0,(nM 4 (nZ x0 x1).2.2.1,()))) else _) (fun r=>(r.2.1,r.2.2.1)=pX x0 x1)
 unfold pX
 refine eG (fun c1=>?_) fun c1=>?_
 . rw[Za] at c1;rw[if_pos c1];exact aN rfl
 . rw[Za] at c1;rw[if_neg c1]
   exact aL (show(xR x0.2.1&&cH ([]:List aY))=true by rw[hp];rfl) (dB (aN rfl))
end kJ
abbrev kJ:=pX
theorem aGW{s:aW}{k:bA}{c:eO}(h:aAf s k c)(hA:c.2.2.2.1<s.1):mK s (pX k c).1/\gL (pX k c).2=true:=by
 obtain⟨hk,hc,hw⟩:=h
 have hk':=hk
 obtain⟨⟨h0,h1,h2,h3,h4,h5,h6⟩,k1,k2,k3,k4,k5⟩:=hk'
 have hs:=iM h0
 have cf:=jX hc hw
 have hA0:=cf.2.2.2.1.1
 have hmk:=aAa (row:=c.2.2.2.1) (who:=c.1) (w:=s.2.1) (fun m hm=>(k5.1 m hm).1) ⟨hA0,by omega⟩ ⟨hw,cf.1⟩ (by omega)
 have he:=hmk.1.1
 unfold pX
 split
 . obtain⟨_,_,_,_,e1,e2,_⟩:=he
   exact⟨hk,pP (by omega) (by omega) (by show -1<=(kL _ _ _).2.2.1;omega) e2⟩
 . refine⟨?_,pP (by omega) (by omega) (by have:=cf.2.2.2.2.1;show -1<=c.2.2.2.2.1;omega) cf.2.2.2.2.1.2⟩
   have hset:=aCC (m:=(c.2.2.2.1,(c.1,(c.2.2.2.2.1,((-1:Int),(([]:List aY),())))))) k.2.1 k5.2
   refine⟨⟨h0,h1,h2,h3,h4,h5,h6⟩,k1,k2,k3,k4,fun m hm=>?_,hset.1⟩
   rcases hset.2 m hm with rfl|hm
   . refine⟨⟨⟨hA0,by show c.2.2.2.1<=3;omega,hw,cf.1,cf.2.2.2.2.1.1,cf.2.2.2.2.1.2,Int.le_refl _,by show(-1:Int)<=100000;omega,by show(0:Int)<=s.2.1;omega,by show(0:Int)<=-1+1;omega,fun h=>absurd h (by show ¬(0:Int)<=-1;omega)⟩,fun j hj=>absurd hj (Nat.not_lt_zero _),fun x hx=>absurd hx List.not_mem_nil,List.Pairwise.nil⟩,hA,fun x hx=>absurd hx List.not_mem_nil⟩
   . exact k5.1 m hm
def vT(s:aW)(k:bA)(c:eO):bA×aF:=
 if c.2.2.1=1 then wA s k c
 else if c.2.2.1=3 then pX k c
 else if c.2.2.1=2 then(if(lH (gK k c) c.2.2.2.2.1).2=1 then(k,nM 6 0) else if(lH (gK k c) c.2.2.2.2.1).2=2 then(k,nM 7 0)
  else(k,(0,((lH (gK k c) c.2.2.2.2.1).1.1,((lH (gK k c) c.2.2.2.2.1).1.2.1,((lH (gK k c) c.2.2.2.2.1).1.2.2.1,()))))))
 else if c.2.2.1=9 then(aAp k c.2.2.2.1 (kG (gK k c) s.2.2.1 s.2.2.2.1),nM 0 (kG (gK k c) s.2.2.1 s.2.2.2.1).1)
 else(aAp k c.2.2.2.1 (kN (gK k c) s.2.2.1),nM 0 (kN (gK k c) s.2.2.1).1)
namespace nF
noncomputable def pre(s:aW)(k:bA)(c:eO):Bool:=B (aAf s k c/\c.2.2.2.1<s.1)
abbrev wf(x0:aW)(x1:bA)(x2:eO):Prop:=hN [(.val wW .f),(.val zk1 .o),(.val zk6 .f)] (x0,(x1,(x2,())))
noncomputable def aQ(x0:aW)(x1:bA)(x2:eO):Option (Unit×(bA×yI)):=
 if(decide (x2.2.2.1=(1:Int)))=true then
 if(mJ.pre x0 x1 x2)=true then
 letB (wA x0 x1 x2) fun v1=>
 some ((),(v1.1,(v1.2,())))
 else
 none
 else
 if(decide (x2.2.2.1=(3:Int)))=true then
 if(kJ.pre x1 x2)=true then
 letB (pX x1 x2) fun v2=>
 some ((),(v2.1,(v2.2,())))
 else
 none
 else
 if(decide (x2.2.2.1=(2:Int)))=true then
 if(decide ((0:Int)<=x2.2.2.2.1))=true then
 if(decide (x2.2.2.2.1<((length x1.1:Nat):Int)))=true then
 if(kB.pre (List.getD x1.1 (Int.toNat x2.2.2.2.1) pF) x2.2.2.2.2.1)=true then
 letB (lH (List.getD x1.1 (Int.toNat x2.2.2.2.1) pF) x2.2.2.2.2.1) fun v3=>
 if(decide (v3.2=(1:Int)))=true then
 some ((),(x1,(((6:Int),pQ),())))
 else
 if(decide (v3.2=(2:Int)))=true then
 some ((),(x1,(((7:Int),pQ),())))
 else
 some ((),(x1,(((0:Int),(v3.1.1,(v3.1.2.1,(v3.1.2.2.1,())))),())))
 else
 none
 else
 none
 else
 none
 else
 if(decide (x2.2.2.1=(9:Int)))=true then
 if(decide ((0:Int)<=x2.2.2.2.1))=true then
 if(decide (x2.2.2.2.1<((length x1.1:Nat):Int)))=true then
 if(iG.pre (List.getD x1.1 (Int.toNat x2.2.2.2.1) pF) x0.2.2.1 x0.2.2.2.1)=true then
 if(decide ((0:Int)<=x2.2.2.2.1))=true then
 if(decide (x2.2.2.2.1<((length x1.1:Nat):Int)))=true then
 if(decide ((0:Int)<=x2.2.2.2.1))=true then
 if(decide (x2.2.2.2.1<((length (List.modify x1.1 (Int.toNat x2.2.2.2.1) (fun z=>(kG (List.getD x1.1 (Int.toNat x2.2.2.2.1) pF) x0.2.2.1 x0.2.2.2.1))):Nat):Int)))=true then
 some ((),(((List.modify x1.1 (Int.toNat x2.2.2.2.1) (fun z=>(kG (List.getD x1.1 (Int.toNat x2.2.2.2.1) pF) x0.2.2.1 x0.2.2.2.1))),x1.2),(((0:Int),((List.getD (List.modify x1.1 (Int.toNat x2.2.2.2.1) (fun z=>(kG (List.getD x1.1 (Int.toNat x2.2.2.2.1) pF) x0.2.2.1 x0.2.2.2.1))) (Int.toNat x2.2.2.2.1) pF).1,(([]:List UInt8),(([]:List UInt8),())))),())))
 else
 none
 else
 none
 else
 none
 else
 none
 else
 none
 else
 none
 else
 none
 else
 if(decide ((0:Int)<=x2.2.2.2.1))=true then
 if(decide (x2.2.2.2.1<((length x1.1:Nat):Int)))=true then
 if(jM.pre (List.getD x1.1 (Int.toNat x2.2.2.2.1) pF) x0.2.2.1)=true then
 if(decide ((0:Int)<=x2.2.2.2.1))=true then
 if(decide (x2.2.2.2.1<((length x1.1:Nat):Int)))=true then
 if(decide ((0:Int)<=x2.2.2.2.1))=true then
 if(decide (x2.2.2.2.1<((length (List.modify x1.1 (Int.toNat x2.2.2.2.1) (fun z=>(kN (List.getD x1.1 (Int.toNat x2.2.2.2.1) pF) x0.2.2.1))):Nat):Int)))=true then
 some ((),(((List.modify x1.1 (Int.toNat x2.2.2.2.1) (fun z=>(kN (List.getD x1.1 (Int.toNat x2.2.2.2.1) pF) x0.2.2.1))),x1.2),(((0:Int),((List.getD (List.modify x1.1 (Int.toNat x2.2.2.2.1) (fun z=>(kN (List.getD x1.1 (Int.toNat x2.2.2.2.1) pF) x0.2.2.1))) (Int.toNat x2.2.2.2.1) pF).1,(([]:List UInt8),(([]:List UInt8),())))),())))
 else
 none
 else
 none
 else
 none
 else
 none
 else
 none
 else
 none
 else
 none
theorem eq(x0:aW)(x1:bA)(x2:eO)(_:wf x0 x1 x2)(hp:pre x0 x1 x2=true):aQ x0 x1 x2=some ((),((vT x0 x1 x2).1,((vT x0 x1 x2).2,()))):=by
 obtain⟨⟨hk,hc,hw⟩,hA⟩:=kZ.1 hp
 obtain⟨⟨h0,h1,h2,h3,h4,h5,h6⟩,k1,k2,k3,k4,k5⟩:=hk
 have hs:=iM h0
 have cf:=jX hc hw
 have hA0:=cf.2.2.2.1.1
 have hAl:x2.2.2.2.1<(x1.1.length:Int):=by omega
 have hn:x2.2.2.2.1.toNat<x1.1.length:=by omega
 have hr:fN (gK x1 x2)=true:=k1 _ (mL hn _)
 have hrs:=(aG9 hr).2
 have ml:∀g:bS,decide (x2.2.2.2.1<(((x1.1.modify x2.2.2.2.1.toNat (fun _=>g)).length:Nat):Int))=true:=fun g=>by rw[List.length_modify];exact Zd hAl
 refine yN ?_
 unfold aQ vT
 refine eG (fun c1=>?_) fun c1=>?_
 . rw[Za] at c1;rw[if_pos c1]
   exact aL (show mJ.pre x0 x1 x2=true from hp) (dB (aN rfl))
 rw[Za] at c1;rw[if_neg c1]
 refine eG (fun c2=>?_) fun c2=>?_
 . rw[Za] at c2;rw[if_pos c2]
   exact aL (show kJ.pre x1 x2=true from aGm (by omega) k5) (dB (aN rfl))
 rw[Za] at c2;rw[if_neg c2]
 refine eG (fun c3=>?_) fun c3=>?_
 . rw[Za] at c3;rw[if_pos c3]
   refine aL (Zd hA0) (aL (Zd hAl) (aL (show kB.pre (gK x1 x2) _=true from hrs) (dB (eG (fun d1=>?_) fun d1=>?_))))
   . rw[Za] at d1;rw[if_pos (show(lH (gK x1 x2) x2.2.2.2.2.1).2=1 from d1)];exact aN rfl
   rw[Za] at d1;rw[if_neg (show ¬(lH (gK x1 x2) x2.2.2.2.2.1).2=1 from d1)]
   refine eG (fun d2=>?_) fun d2=>?_
   . rw[Za] at d2;rw[if_pos (show(lH (gK x1 x2) x2.2.2.2.2.1).2=2 from d2)];exact aN rfl
   rw[Za] at d2;rw[if_neg (show ¬(lH (gK x1 x2) x2.2.2.2.2.1).2=2 from d2)]
   exact aN rfl
 rw[Za] at c3;rw[if_neg c3]
 refine eG (fun c4=>?_) fun c4=>?_
 . rw[Za] at c4;rw[if_pos c4]
   refine aL (Zd hA0) (aL (Zd hAl) (aL (show iG.pre (gK x1 x2) _ _=true from hrs) (aL (Zd hA0) (aL (Zd hAl) (aL (Zd hA0) (aL (ml _) (aN ?_)))))))
   show(aAp x1 x2.2.2.2.1 (kG (gK x1 x2) x0.2.2.1 x0.2.2.2.1),nM 0 ((x1.1.modify x2.2.2.2.1.toNat (fun _=>kG (gK x1 x2) x0.2.2.1 x0.2.2.2.1)).getD x2.2.2.2.1.toNat pF).1)=_
   rw[oK hn]
 . rw[Za] at c4;rw[if_neg c4]
   refine aL (Zd hA0) (aL (Zd hAl) (aL (show jM.pre (gK x1 x2) _=true from hrs) (aL (Zd hA0) (aL (Zd hAl) (aL (Zd hA0) (aL (ml _) (aN ?_)))))))
   show(aAp x1 x2.2.2.2.1 (kN (gK x1 x2) x0.2.2.1),nM 0 ((x1.1.modify x2.2.2.2.1.toNat (fun _=>kN (gK x1 x2) x0.2.2.1)).getD x2.2.2.2.1.toNat pF).1)=_
   rw[oK hn]
end nF
abbrev nF:=vT
theorem aGb{x:bS}{off:Int}(h1:¬(lH x off).2=1)(h2:¬(lH x off).2=2):(lH x off).1∈x.2.2.1:=by
 unfold lH at h1 h2 ⊢
 split at h1
 . exact absurd rfl h1
 . rename_i hc
   rw[if_neg hc] at h2 ⊢
   cases hf:x.2.2.1.find? (fun it=>decide (off<=it.1)) with
   |none=>rw[hf] at h2;exact absurd rfl h2
   |some it=>exact List.mem_of_find?_eq_some hf
theorem aJz{s:aW}{k:bA}{c:eO}(h:aAf s k c)(hA:c.2.2.2.1<s.1):mK s (vT s k c).1/\gL (vT s k c).2=true:=by
 have h':=h
 obtain⟨hk,hc,hw⟩:=h'
 have hk':=hk
 obtain⟨⟨h0,h1,h2,h3,h4,h5,h6⟩,k1,k2,k3,k4,k5⟩:=hk'
 have hs:=iM h0
 have cf:=jX hc hw
 have hA0:=cf.2.2.2.1.1
 have hr:fN (gK k c)=true:=k1 _ (mL (by omega) _)
 have hr':=nN.1 hr
 have st:∀r:bS,fN r=true->gL (nM 0 r.1)=true:=fun r hr=>by
  have:=(nN.1 hr).1
  exact pP (by omega) (by omega) (by omega) (by omega)
 unfold vT
 split
 . exact aJx h hA
 split
 . exact aGW h hA
 split
 . split
   . exact⟨hk,pP (by omega) (by omega) (by omega) (by omega)⟩
   split
   . exact⟨hk,pP (by omega) (by omega) (by omega) (by omega)⟩
   . rename_i d1 d2
     have hit:=hr'.2.1 _ (aGb d1 d2)
     have hi:=hit.2.2
     simp only[aDK,Zb] at hi
     refine⟨hk,?_⟩
     simp only[gL,aA,Zb,Za]
     exact⟨⟨by omega,by omega⟩,⟨by have:=hr'.1;omega,by have:=hr'.1;omega⟩,hi.1,hi.2.1⟩
 split
 . have ht:=aH0 (keep:=s.2.2.2.1) hr hs.2.2.2.2.2.1
   exact⟨aBu hk hA0 hA ht.1 (by show(gK k c).2.1<=_;rw[ht.2];exact Int.le_refl _),st _ ht.1⟩
 . have ht:=aGP (len:=s.2.2.1) hr
   exact⟨aBu hk hA0 hA ht.1 (by show(gK k c).2.1<=_;rw[ht.2];exact Int.le_refl _),st _ ht.1⟩
def aHc(a b:Int):Int:=if a<b then a else b
namespace qD
abbrev wf(x0:Int)(x1:Int):Prop:=hN [(.val (.int .i64) .f),(.val (.int .i64) .f)] (x0,(x1,()))
noncomputable def aQ(x0:Int)(x1:Int):Option uK:=
 if(decide (x0<x1))=true then
 some ((),(x0,()))
 else
 some ((),(x1,()))
theorem eq(x0 x1:Int)(_:wf x0 x1):aQ x0 x1=some ((),(aHc x0 x1,())):=by
 unfold aQ aHc
 by_cases h:x0<x1
 . rw[if_pos (Zd h),if_pos h]
 . rw[if_neg (by rw[Za];exact h),if_neg h]
end qD
abbrev qD:=aHc
def aAi(k:bA)(c:eO):Int:=aHc 100000 (k.2.2.2.1+c.2.2.2.1)
def oU(s:aW)(k:bA)(c:eO):bA×aF:=
 if c.2.2.1=8 then((k.1,(k.2.1,(k.2.2.1.map (fun g=>mW g (aAi k c)),(aAi k c,k.2.2.2.2)))),nM 0 (aAi k c))
 else if aA c.2.2.1 4 7=true then(if 2<=c.2.2.2.1 then(k,nM 9 0) else oT s k c)
 else if s.1<=c.2.2.2.1 then(k,nM 5 0) else vT s k c
theorem aCY{s:aW}{k:bA}{c:eO}(h:aAf s k c):0<=aAi k c/\aAi k c<=100000:=by
 obtain⟨⟨⟨h0,h1,h2,h3,h4,h5,h6⟩,_⟩,hc,hw⟩:=h
 have:=(jX hc hw).2.2.2.1
 unfold aAi aHc
 split<;>omega
theorem aFS{g:aD}{rows t:Int}(h:iX g rows=true)(hr:rows<=4)(h0:0<=t)(h1:t<=100000):qU g t=true:=by
 have hg:=gM.1 h
 exact tN.2 ⟨(aA2 h hr).1,hg.1.1,h0,h1,hg.2.2.2.1⟩
namespace lG
abbrev S4:Type:=(Int×aKm)
abbrev O4:Type:=aKm
def pre4:S4->Bool:=fun(x1,x2,_,_,_,x6,_)=>decide (0<=x1)&&(decide (x1<=(x6.length:Int))&&(decide (x6.length<=1000)&&(x6.drop x1.toNat).all fun g=>qU g x2))
def lN:S4->Nat:=fun(x1,_,_,_,_,x6,_)=>x6.length-x1.toNat
def fn4:S4->O4:=fun(x1,x2,x3,x4,x5,x6,x7)=>(x2,x3,x4,x5,x6.take x1.toNat++(x6.drop x1.toNat).map (fun g=>mW g x2),x7)
noncomputable def eA(x1:Int)(x2:Int)(x3:Unit)(x4:(List bS))(x5:(List aC))(x6:(List aD))(x7:(List Int))(x8:(List aF))(x9:Int)(x10:Unit)(x11:(List bS))(x12:(List aC))(x13:(List aD))(x14:(List Int))(x15:(List aF))(x16:aF):Option ((Int×aKm)⊕aKm):=
 if(decide (x1<((length x6:Nat):Int)))=true then
 if(decide ((0:Int)<=x1))=true then
 if(decide (x1<((length x6:Nat):Int)))=true then
 if(gS.pre (List.getD x6 (Int.toNat x1) oB) x2)=true then
 if(decide ((0:Int)<=x1))=true then
 if(decide (x1<((length x6:Nat):Int)))=true then
 some (.inl ((wrap .i64 (x1+(1:Int))),(x2,(x3,(x4,(x5,((List.modify x6 (Int.toNat x1) (fun z=>(mW (List.getD x6 (Int.toNat x1) oB) x2))),(x7,(x8,(x9,(x10,(x11,(x12,(x13,(x14,(x15,(x16,())))))))))))))))))
 else
 none
 else
 none
 else
 none
 else
 none
 else
 none
 else
 some (.inr (x2,(x3,(x4,(x5,(x6,(x7,(x8,(x9,(x10,(x11,(x12,(x13,(x14,(x15,(x16,()))))))))))))))))
abbrev wf(x0:aW)(x1:bA)(x2:eO):Prop:=hN [(.val wW .f),(.val zk1 .o),(.val zk6 .f)] (x0,(x1,(x2,())))
noncomputable def aQ(x0:aW)(x1:bA)(x2:eO):Option (Unit×(bA×yI)):=
 if(decide (x2.2.2.1=(8:Int)))=true then
 letB (aHc (100000:Int) (wrap .i64 (x1.2.2.2.1+x2.2.2.2.1))) fun v1=>
 if(lG.pre4 ((0:Int),(v1,(x1.2.2.2.2.2.2,(x1.1,(x1.2.1,(x1.2.2.1,(x1.2.2.2.2.1,(x1.2.2.2.2.2.1,((0:Int),((),(([]:List bS),(([]:List aC),(([]:List aD),(([]:List Int),(([]:List aF),(((0:Int),pQ),())))))))))))))))))=true then
 letB (lG.fn4 ((0:Int),(v1,(x1.2.2.2.2.2.2,(x1.1,(x1.2.1,(x1.2.2.1,(x1.2.2.2.2.1,(x1.2.2.2.2.2.1,((0:Int),((),(([]:List bS),(([]:List aC),(([]:List aD),(([]:List Int),(([]:List aF),(((0:Int),pQ),()))))))))))))))))) fun v2=>
 some ((),((v2.2.2.1,(v2.2.2.2.1,(v2.2.2.2.2.1,(v2.1,(v2.2.2.2.2.2.1,(v2.2.2.2.2.2.2.1,v2.2.1)))))),(((0:Int),(v2.1,(([]:List UInt8),(([]:List UInt8),())))),())))
 else
 none
 else
 letB (aA x2.2.2.1 (4:Int) (7:Int)) fun v3=>
 if v3=true then
 if(decide ((2:Int)<=x2.2.2.2.1))=true then
 some ((),(x1,(((9:Int),pQ),())))
 else
 if(lK.pre x0 x1 x2)=true then
 letB (oT x0 x1 x2) fun v4=>
 some ((),(v4.1,(v4.2,())))
 else
 none
 else
 if(decide (x0.1<=x2.2.2.2.1))=true then
 some ((),(x1,(((5:Int),pQ),())))
 else
 if(nF.pre x0 x1 x2)=true then
 letB (vT x0 x1 x2) fun v5=>
 some ((),(v5.1,(v5.2,())))
 else
 none
theorem uM(x1 x2:Int)(x3:Unit)(x4:List bS)(x5:List aC)(x6:List aD)(x7:List Int)(x8:List aF)(x9:Int)(x10:Unit)(x11:List bS)(x12:List aC)(x13:List aD)(x14:List Int)(x15:List aF)(x16:aF)(hp:pre4 (x1,(x2,(x3,(x4,(x5,(x6,(x7,(x8,(x9,(x10,(x11,(x12,(x13,(x14,(x15,(x16,()))))))))))))))))=true):
 Rounds pre4 lN fn4 (x1,(x2,(x3,(x4,(x5,(x6,(x7,(x8,(x9,(x10,(x11,(x12,(x13,(x14,(x15,(x16,())))))))))))))))) (eA x1 x2 x3 x4 x5 x6 x7 x8 x9 x10 x11 x12 x13 x14 x15 x16):=by
 simp only[pre4,Zb,Za,Zu] at hp
 obtain⟨h1,h2,h3,h4⟩:=hp
 unfold eA
 by_cases hlt:x1<(x6.length:Int)
 . have hn:x1.toNat<x6.length:=by omega
   have e1:=Zn hn
   have ht:qU x6[x1.toNat] x2=true:=h4 _ (by rw[e1];exact List.mem_cons_self)
   have es:(x1+1).toNat=x1.toNat+1:=by omega
   rw[cX hn,lF (n:=x1+1) (by omega) (by omega),nY]
   refine eQ (Zd hlt) (eQ (Zd h1) (eQ (Zd hlt) (eQ (show gS.pre _ _=true from ht) (eQ (Zd h1) (eQ (Zd hlt) ⟨?_,?_,?_⟩)))))
   . simp only[pre4,Zb,Za,Zu,List.length_set,es]
     refine⟨by omega,by omega,h3,fun g hg=>h4 g ?_⟩
     rw[List.drop_set_of_lt (by omega)] at hg
     rw[e1];exact Zo _ hg
   . simp only[lN,List.length_set];omega
   . simp only[fn4,es]
     rw[List.drop_set_of_lt (by omega),e1,List.take_add_one,List.getElem?_set_self hn,List.take_set_of_le (Nat.le_refl _)]
     simp only[Option.toList,List.map_cons,Zk,List.cons_append,List.nil_append]
 . refine jJ (by rw[Za];exact hlt) ?_
   simp only[Rounds,fn4]
   rw[Zt (by omega),List.take_of_length_le (by omega)]
   simp
noncomputable def pre(s:aW)(k:bA)(c:eO):Bool:=B (aAf s k c)
theorem eq(x0:aW)(x1:bA)(x2:eO)(_:wf x0 x1 x2)(hp:pre x0 x1 x2=true):aQ x0 x1 x2=some ((),((oU x0 x1 x2).1,((oU x0 x1 x2).2,()))):=by
 have hcp:=kZ.1 hp
 obtain⟨hk,hc,hw⟩:=hcp
 obtain⟨⟨h0,h1,h2,h3,h4,h5,h6⟩,k1,k2,k3,k4,k5⟩:=hk
 have hs:=iM h0
 have cf:=jX hc hw
 have tk:=aCY (kZ.1 hp)
 refine yN ?_
 unfold aQ oU
 rw[lF (n:=x1.2.2.2.1+x2.2.2.2.1) (by omega) (by omega)]
 refine eG (fun c1=>?_) fun c1=>?_
 . rw[Za] at c1;rw[if_pos c1]
   refine dB (aL ?_ (dB (aN rfl)))
   show(decide ((0:Int)<=0)&&(decide ((0:Int)<=(x1.2.2.1.length:Int))&&(decide (x1.2.2.1.length<=1000)&&(x1.2.2.1.drop (Int.toNat 0)).all fun g=>qU g (aAi x1 x2))))=true
   simp only[Zb,Za,Zu]
   exact⟨by omega,by omega,by omega,fun g hg=>aFS (k2 g hg) hs.2.1 tk.1 tk.2⟩
 rw[Za] at c1;rw[if_neg c1]
 refine dB (eG (fun c2=>?_) fun c2=>?_)
 . rw[if_pos c2]
   refine eG (fun c3=>?_) fun c3=>?_
   . rw[Za] at c3;rw[if_pos c3];exact aN rfl
   . rw[Za] at c3;rw[if_neg c3]
     exact aL (kZ.2 ⟨kZ.1 hp,by omega⟩) (dB (aN rfl))
 . rw[if_neg c2]
   refine eG (fun c3=>?_) fun c3=>?_
   . rw[Za] at c3;rw[if_pos c3];exact aN rfl
   . rw[Za] at c3;rw[if_neg c3]
     exact aL (kZ.2 ⟨kZ.1 hp,by omega⟩) (dB (aN rfl))
end lG
abbrev lG:=oU
theorem aDg{s:aW}{k:bA}{c:eO}(h:aAf s k c):mK s (oU s k c).1/\gL (oU s k c).2=true:=by
 have h':=h
 obtain⟨hk,hc,hw⟩:=h'
 have hk':=hk
 obtain⟨⟨h0,h1,h2,h3,h4,h5,h6⟩,k1,k2,k3,k4,k5⟩:=hk'
 have tk:=aCY h
 unfold oU
 split
 . refine⟨⟨⟨h0,h1,by show(k.2.2.1.map _).length=2;rw[List.length_map];exact h2,h3,h4,tk.1,tk.2⟩,k1,fun g hg=>?_,k3,k4,k5⟩,pP (by omega) (by omega) (by omega) tk.2⟩
   obtain⟨g0,hg0,rfl⟩:=List.mem_map.1 hg
   exact aEL (k2 g0 hg0)
 split
 . split
   . exact⟨hk,pP (by omega) (by omega) (by omega) (by omega)⟩
   . exact aGV h (by omega)
 split
 . exact⟨hk,pP (by omega) (by omega) (by omega) (by omega)⟩
 . exact aJz h (by omega)
def aK1:aF:=((0:Int),pQ)
def aKY(k:bA)(c:eO)(a:aF):bA:=(k.1,(k.2.1,(k.2.2.1,(k.2.2.2.1,(k.2.2.2.2.1.modify c.1.toNat (fun _=>c.2.1),(k.2.2.2.2.2.1.modify c.1.toNat (fun _=>a),k.2.2.2.2.2.2))))))
def vB(s:aW)(k:bA)(c:eO):bA×aF:=
 if c.1<0 then(k,aK1)
 else if c.2.1<=k.2.2.2.2.1.getD c.1.toNat 0 then(k,k.2.2.2.2.2.1.getD c.1.toNat ((0:Int),pQ))
 else(aKY (oU s k c).1 c (oU s k c).2,(oU s k c).2)
theorem aFb:gL aK1=true:=by decide
theorem aK8{s:aW}{k:bA}{c:eO}{a:aF}(h:mK s k)(hc:rX c=true)(hw:0<=c.1)(ha:gL a=true):mK s (aKY k c a):=by
 obtain⟨⟨h0,h1,h2,h3,h4,h5,h6⟩,k1,k2,k3,k4,k5⟩:=h
 have cf:=jX hc hw
 refine⟨⟨h0,h1,h2,by show(k.2.2.2.2.1.modify _ _).length=4;rw[List.length_modify];exact h3,by show(k.2.2.2.2.2.1.modify _ _).length=4;rw[List.length_modify];exact h4,h5,h6⟩,k1,k2,fun d hd=>?_,fun x hx=>?_,k5⟩
 . rcases sE hd with rfl|hd
   . have:=cf.2.1;omega
   . exact k3 d hd
 . rcases sE hx with rfl|hx
   . exact ha
   . exact k4 x hx
theorem aFJ{c:eO}(h:rX c=true):c.1=-1\/0<=c.1:=by
 unfold rX at h
 split at h
 . exact .inl ‹_›
 . simp only[Zb] at h
   exact .inr (qI h.1).1
theorem aJA{s:aW}{k:bA}{c:eO}(hk:mK s k)(hc:rX c=true):mK s (vB s k c).1/\gL (vB s k c).2=true:=by
 unfold vB
 split
 . exact⟨hk,aFb⟩
 have hw:0<=c.1:=by rcases aFJ hc with h|h<;>omega
 have cf:=jX hc hw
 split
 . have hk':=hk
   obtain⟨⟨h0,h1,h2,h3,h4,h5,h6⟩,k1,k2,k3,k4,k5⟩:=hk'
   exact⟨hk,k4 _ (mL (by omega) _)⟩
 . have:=aDg ⟨hk,hc,hw⟩
   exact⟨aK8 this.1 hc hw this.2,this.2⟩
theorem aK5{s:aW}{k:bA}(h:mK s k):eE.pre k=true:=aH5 h
namespace nS
noncomputable def pre(s:aW)(k:bA)(c:eO):Bool:=B (mK s k/\rX c=true)
abbrev wf(x0:aW)(x1:bA)(x2:eO):Prop:=hN [(.val wW .f),(.val zk1 .f),(.val zk6 .f)] (x0,(x1,(x2,())))
noncomputable def aQ(x0:aW)(x1:bA)(x2:eO):Option (Unit×(bA×yI)):=
 if(decide (x2.1<(0:Int)))=true then
 if(eE.pre x1)=true then
 letB (eE x1) fun v1=>
 some ((),(v1,(((0:Int),pQ),())))
 else
 none
 else
 if(decide ((0:Int)<=x2.1))=true then
 if(decide (x2.1<((length x1.2.2.2.2.1:Nat):Int)))=true then
 if(decide (x2.2.1<=(List.getD x1.2.2.2.2.1 (Int.toNat x2.1) (0:Int))))=true then
 if(eE.pre x1)=true then
 if(decide ((0:Int)<=x2.1))=true then
 if(decide (x2.1<((length x1.2.2.2.2.2.1:Nat):Int)))=true then
 letB (eE x1) fun v2=>
 some ((),(v2,((List.getD x1.2.2.2.2.2.1 (Int.toNat x2.1) ((0:Int),pQ)),())))
 else
 none
 else
 none
 else
 none
 else
 if(eE.pre x1)=true then
 letB (eE x1) fun v3=>
 if(lG.pre x0 v3 x2)=true then
 if(decide ((0:Int)<=x2.1))=true then
 letB (oU x0 v3 x2) fun v4=>
 if(decide (x2.1<((length v4.1.2.2.2.2.1:Nat):Int)))=true then
 if(decide ((0:Int)<=x2.1))=true then
 if(decide (x2.1<((length v4.1.2.2.2.2.2.1:Nat):Int)))=true then
 some ((),((v4.1.1,(v4.1.2.1,(v4.1.2.2.1,(v4.1.2.2.2.1,((List.modify v4.1.2.2.2.2.1 (Int.toNat x2.1) (fun z=>x2.2.1)),((List.modify v4.1.2.2.2.2.2.1 (Int.toNat x2.1) (fun z=>v4.2)),v4.1.2.2.2.2.2.2)))))),(v4.2,())))
 else
 none
 else
 none
 else
 none
 else
 none
 else
 none
 else
 none
 else
 none
 else
 none
theorem eq(x0:aW)(x1:bA)(x2:eO)(_:wf x0 x1 x2)(hp:pre x0 x1 x2=true):aQ x0 x1 x2=some ((),((vB x0 x1 x2).1,((vB x0 x1 x2).2,()))):=by
 obtain⟨hk,hc⟩:=kZ.1 hp
 have cp:=aK5 hk
 refine yN ?_
 unfold aQ vB
 rw[show eE x1=x1 from rfl]
 refine eG (fun c1=>?_) fun c1=>?_
 . rw[Za] at c1;rw[if_pos c1]
   exact aL cp (dB (aN rfl))
 rw[Za] at c1;rw[if_neg c1]
 have hw:0<=x2.1:=by omega
 have cf:=jX hc hw
 have hd:x2.1<(x1.2.2.2.2.1.length:Int):=by have:=hk.1.2.2.2.1;omega
 have hl:x2.1<(x1.2.2.2.2.2.1.length:Int):=by have:=hk.1.2.2.2.2.1;omega
 have hcp:aAf x0 x1 x2:=⟨hk,hc,hw⟩
 have hn:=(aDg hcp).1.1
 refine aL (Zd hw) (aL (Zd hd) (eG (fun c2=>?_) fun c2=>?_))
 . rw[Za] at c2;rw[if_pos c2]
   exact aL cp (aL (Zd hw) (aL (Zd hl) (dB (aN rfl))))
 . rw[Za] at c2;rw[if_neg c2]
   refine aL cp (dB (aL (show lG.pre x0 x1 x2=true from kZ.2 hcp) (aL (Zd hw) (dB (aL (Zd (show x2.1<((oU x0 x1 x2).1.2.2.2.2.1.length:Int) by have:=hn.2.2.2.1;omega)) (aL (Zd hw) (aL (Zd (show x2.1<((oU x0 x1 x2).1.2.2.2.2.2.1.length:Int) by have:=hn.2.2.2.2.1;omega)) (aN rfl))))))))
end nS
abbrev nS:=vB
theorem not_true{b:Bool}(h:¬b=true):b=false:=by
 cases b
 . rfl
 . exact absurd rfl h
theorem aA3{s:aW}(h:fD s=true):mK s (gW s):=by
 have hs:=iM h
 rw[show gW s=aHW s.1 from if_pos h]
 refine⟨⟨h,by show((List.replicate _ _).length:Int)=s.1;rw[List.length_replicate];omega,by rfl,by rfl,by rfl,Int.le_refl _,by show(0:Int)<=100000;omega⟩,fun r hr=>?_,fun g hg=>?_,fun d hd=>?_,fun a ha=>?_,fun m hm=>absurd hm List.not_mem_nil,List.Pairwise.nil⟩
 . rw[List.eq_of_mem_replicate hr];decide
 . rw[List.eq_of_mem_replicate hg]
   unfold pT
   rw[if_pos (by simp only[aA,Zb,Za];omega)]
   refine gM.2 ⟨⟨rfl,by show((List.replicate _ _).length:Int)=s.1;rw[List.length_replicate];omega,by omega,by omega⟩,fun m hm=>absurd hm List.not_mem_nil,List.Pairwise.nil,fun b hb=>absurd hb List.not_mem_nil,fun o ho=>?_⟩
   rw[List.eq_of_mem_replicate ho];omega
 . rw[List.eq_of_mem_replicate hd];omega
 . rw[List.eq_of_mem_replicate ha];decide
def qN(s:aW)(k:bA)(c:eO):bA×aF:=cond (fD s&&rX c) (vB s k c) (k,aK1)
def xA(s:aW):bA->List aF->List eO->bA×List aF
 |k,out,[]=>(k,out)
 |k,out,c::r=>xA s (qN s k c).1 (out++[(qN s k c).2]) r
def nL(s:aW)(l:List eO):bA×List aF:=xA s (gW s) [] l
theorem aD4{s:aW}{k:bA}{c:eO}(h:fD s=true->mK s k):(fD s=true->mK s (qN s k c).1)/\gL (qN s k c).2=true:=by
 unfold qN
 cases h1:fD s
 . exact⟨fun h=>(by cases h),aFb⟩
 cases h2:rX c
 . exact⟨fun _=>h h1,aFb⟩
 . have:=aJA (h h1) h2
   exact⟨fun _=>this.1,this.2⟩
theorem aHE{s:aW}:(l:List eO)->(k:bA)->(out:List aF)->(fD s=true->mK s k)->out.all gL=true->(fD s=true->mK s (xA s k out l).1)/\(xA s k out l).2.all gL=true/\(xA s k out l).2.length=out.length+l.length
 |[],k,out,h,ho=>⟨h,ho,rfl⟩
 |c::r,k,out,h,ho=>by
  have hc:=aD4 (c:=c) h
  have:=aHE r (qN s k c).1 (out++[(qN s k c).2]) hc.1 (by rw[List.all_append,ho];simp[hc.2])
  simp only[xA]
  refine⟨this.1,this.2.1,?_⟩
  rw[this.2.2,Zf,Zg,Zg,Zh];omega
theorem aDO{s:aW}{l:List eO}:(fD s=true->mK s (nL s l).1)/\(nL s l).2.all gL=true/\(nL s l).2.length=l.length:=by
 have:=aHE (s:=s) l (gW s) [] aA3 rfl
 refine⟨this.1,this.2.1,?_⟩
 rw[show nL s l=xA s (gW s) [] l from rfl,this.2.2,Zh];omega
namespace gQ
abbrev S4:Type:=((List eO)×(Int×(aW×aKk)))
abbrev O4:Type:=aKk
noncomputable def pre4:S4->Bool:=fun(x1,x2,x3,_,_,_,_,_,_,_,x11,x12,x13,x14,x15,x16,x17,x18,_)=>cH x1&&(decide (0<=x2)&&(decide (x2<=(x1.length:Int))&&(decide ((x11.length:Int)=x2)&&B (fD x3=true->mK x3 (x14,(x15,(x16,(x12,(x17,(x18,x13))))))))))
def lN:S4->Nat:=fun(x1,x2,_)=>x1.length-x2.toNat
def Q4(s:S4)(o:O4):Prop:=match s,o with
 |(x1,x2,x3,_,_,_,_,_,_,_,x11,x12,x13,x14,x15,x16,x17,x18,_),(_,_,_,_,_,_,_,o11,o12,o13,o14,o15,o16,o17,o18,_)=>
  ((o14,(o15,(o16,(o12,(o17,(o18,o13)))))),o11)=xA x3 (x14,(x15,(x16,(x12,(x17,(x18,x13)))))) x11 (x1.drop x2.toNat)
noncomputable def eA(x1:(List eO))(x2:Int)(x3:aW)(x4:Int)(x5:Unit)(x6:(List bS))(x7:(List aC))(x8:(List aD))(x9:(List Int))(x10:(List aF))(x11:(List aF))(x12:Int)(x13:Unit)(x14:(List bS))(x15:(List aC))(x16:(List aD))(x17:(List Int))(x18:(List aF)):Option (((List eO)×(Int×(aW×aKk)))⊕aKk):=
 if(decide (x2<((length x1:Nat):Int)))=true then
 letB (fD x3) fun v1=>
 if v1=true then
 if(decide ((0:Int)<=x2))=true then
 if(decide (x2<((length x1:Nat):Int)))=true then
 letB (rX (List.getD x1 (Int.toNat x2) sH)) fun v2=>
 if v2=true then
 if(decide ((0:Int)<=x2))=true then
 if(decide (x2<((length x1:Nat):Int)))=true then
 if(nS.pre x3 (x14,(x15,(x16,(x12,(x17,(x18,x13)))))) (List.getD x1 (Int.toNat x2) sH))=true then
 letB (vB x3 (x14,(x15,(x16,(x12,(x17,(x18,x13)))))) (List.getD x1 (Int.toNat x2) sH)) fun v3=>
 if(decide (length x11+length (v3.2::([]:List aF))<=hY))=true then
 some (.inl (x1,((wrap .i64 (x2+(1:Int))),(x3,(x4,(x5,(x6,(x7,(x8,(x9,(x10,((List.append x11 (v3.2::([]:List aF))),(v3.1.2.2.2.1,(v3.1.2.2.2.2.2.2,(v3.1.1,(v3.1.2.1,(v3.1.2.2.1,v3.1.2.2.2.2)))))))))))))))))
 else
 none
 else
 none
 else
 none
 else
 none
 else
 if(decide (length x11+length (((0:Int),pQ)::([]:List aF))<=hY))=true then
 some (.inl (x1,((wrap .i64 (x2+(1:Int))),(x3,(x4,(x5,(x6,(x7,(x8,(x9,(x10,((List.append x11 (((0:Int),pQ)::([]:List aF))),(x12,(x13,(x14,(x15,(x16,(x17,(x18,())))))))))))))))))))
 else
 none
 else
 none
 else
 none
 else
 if(decide (length x11+length (((0:Int),pQ)::([]:List aF))<=hY))=true then
 some (.inl (x1,((wrap .i64 (x2+(1:Int))),(x3,(x4,(x5,(x6,(x7,(x8,(x9,(x10,((List.append x11 (((0:Int),pQ)::([]:List aF))),(x12,(x13,(x14,(x15,(x16,(x17,(x18,())))))))))))))))))))
 else
 none
 else
 some (.inr (x4,(x5,(x6,(x7,(x8,(x9,(x10,(x11,(x12,(x13,(x14,(x15,(x16,(x17,(x18,()))))))))))))))))
theorem wp4:∀s,pre4 s=true->Wp ((fun(x:S4)=>eA x.1 x.2.1 x.2.2.1 x.2.2.2.1 x.2.2.2.2.1 x.2.2.2.2.2.1 x.2.2.2.2.2.2.1 x.2.2.2.2.2.2.2.1 x.2.2.2.2.2.2.2.2.1 x.2.2.2.2.2.2.2.2.2.1 x.2.2.2.2.2.2.2.2.2.2.1 x.2.2.2.2.2.2.2.2.2.2.2.1 x.2.2.2.2.2.2.2.2.2.2.2.2.1 x.2.2.2.2.2.2.2.2.2.2.2.2.2.1 x.2.2.2.2.2.2.2.2.2.2.2.2.2.2.1 x.2.2.2.2.2.2.2.2.2.2.2.2.2.2.2.1 x.2.2.2.2.2.2.2.2.2.2.2.2.2.2.2.2.1 x.2.2.2.2.2.2.2.2.2.2.2.2.2.2.2.2.2.1) s) (iW pre4 lN Q4 s):=by
 rintro⟨x1,x2,x3,x4,x5,x6,x7,x8,x9,x10,x11,x12,x13,x14,x15,x16,x17,x18,⟨⟩⟩ hp
 simp only[pre4,Zb,Za,kZ] at hp
 obtain⟨hs,h1,h2,h3,hk⟩:=hp
 have hs':=bW.1 hs
 show Wp (eA x1 x2 x3 x4 x5 x6 x7 x8 x9 x10 x11 x12 x13 x14 x15 x16 x17 x18) _
 unfold eA
 generalize hK:((x14,(x15,(x16,(x12,(x17,(x18,x13)))))):bA)=K at hk ⊢
 have q14:x14=K.1:=by rw[<-hK]
 have q15:x15=K.2.1:=by rw[<-hK]
 have q16:x16=K.2.2.1:=by rw[<-hK]
 have q12:x12=K.2.2.2.1:=by rw[<-hK]
 have q17:x17=K.2.2.2.2.1:=by rw[<-hK]
 have q18:x18=K.2.2.2.2.2.1:=by rw[<-hK]
 clear hK
 subst q14 q15 q16 q12 q17 q18
 by_cases hlt:x2<(x1.length:Int)
 . have hn:x2.toNat<x1.length:=by omega
   have e1:=Zn hn
   rw[cX hn,lF (n:=x2+1) (by omega) (by omega)]
   have hl:∀a:aF,decide (x11.length+(a::([]:List aF)).length<=hY)=true:=fun a=>by
    simp only[Za,Zg,Zh,hY];omega
   have nx:∀(K':bA) (a:aF),qN x3 K x1[x2.toNat]=(K',a)->iW pre4 lN Q4 (x1,x2,x3,x4,x5,x6,x7,x8,x9,x10,x11,K.2.2.2.1,x13,K.1,K.2.1,K.2.2.1,K.2.2.2.2.1,K.2.2.2.2.2.1,())
    (.inl (x1,((x2+1),(x3,(x4,(x5,(x6,(x7,(x8,(x9,(x10,((List.append x11 (a::([]:List aF))),(K'.2.2.2.1,((),(K'.1,(K'.2.1,(K'.2.2.1,(K'.2.2.2.2.1,(K'.2.2.2.2.2.1,()))))))))))))))))))):=by
    intro K' a he
    have hok:=(aD4 (c:=x1[x2.toNat]) hk).1
    rw[he] at hok
    refine⟨?_,by simp only[lN];omega,?_⟩
    . simp only[pre4,Zb,Za,kZ,List.append_eq,Zf,Zg,Zh]
      exact⟨hs,by omega,by omega,by omega,hok⟩
    . rintro⟨_,_,_,_,_,_,_,o11,o12,o13,o14,o15,o16,o17,o18,⟨⟩⟩ ho
      refine ho.trans ?_
      show xA x3 K' (x11++[a]) (x1.drop (x2+1).toNat)=xA x3 K x11 (x1.drop x2.toNat)
      rw[e1,show(x2+1).toNat=x2.toNat+1 by omega]
      simp only[xA,he]
   refine aL (Zd hlt) (dB (eG (fun c1=>?_) fun c1=>?_))
   . refine aL (Zd h1) (aL (Zd hlt) (dB (eG (fun c2=>?_) fun c2=>?_)))
     . refine aL (Zd h1) (aL (Zd hlt) (aL (show nS.pre x3 K x1[x2.toNat]=true from kZ.2 ⟨hk c1,c2⟩) (dB (aL (hl _) (aN (nx (vB x3 K x1[x2.toNat]).1 (vB x3 K x1[x2.toNat]).2 ?_))))))
       unfold qN;rw[c1,c2];rfl
     . refine aL (hl _) (aN (nx K aK1 ?_))
       unfold qN
       rw[not_true c2,Bool.and_false];rfl
   . refine aL (hl _) (aN (nx K aK1 ?_))
     unfold qN
     rw[not_true c1,Bool.false_and];rfl
 . refine fP (by rw[Za];exact hlt) (aN ?_)
   show(K,x11)=xA x3 K x11 (x1.drop x2.toNat)
   rw[Zt (by omega)];rfl
noncomputable def fn4:S4->O4:=aCa (fun(x:S4)=>eA x.1 x.2.1 x.2.2.1 x.2.2.2.1 x.2.2.2.2.1 x.2.2.2.2.2.1 x.2.2.2.2.2.2.1 x.2.2.2.2.2.2.2.1 x.2.2.2.2.2.2.2.2.1 x.2.2.2.2.2.2.2.2.2.1 x.2.2.2.2.2.2.2.2.2.2.1 x.2.2.2.2.2.2.2.2.2.2.2.1 x.2.2.2.2.2.2.2.2.2.2.2.2.1 x.2.2.2.2.2.2.2.2.2.2.2.2.2.1 x.2.2.2.2.2.2.2.2.2.2.2.2.2.2.1 x.2.2.2.2.2.2.2.2.2.2.2.2.2.2.2.1 x.2.2.2.2.2.2.2.2.2.2.2.2.2.2.2.2.1 x.2.2.2.2.2.2.2.2.2.2.2.2.2.2.2.2.2.1) lN
theorem uM(x1:List eO)(x2:Int)(x3:aW)(x4:Int)(x5:Unit)(x6:List bS)(x7:List aC)(x8:List aD)(x9:List Int)(x10 x11:List aF)(x12:Int)(x13:Unit)(x14:List bS)(x15:List aC)(x16:List aD)(x17:List Int)(x18:List aF)(hp:pre4 (x1,(x2,(x3,(x4,(x5,(x6,(x7,(x8,(x9,(x10,(x11,(x12,(x13,(x14,(x15,(x16,(x17,(x18,()))))))))))))))))))=true):
 Rounds pre4 lN fn4 (x1,(x2,(x3,(x4,(x5,(x6,(x7,(x8,(x9,(x10,(x11,(x12,(x13,(x14,(x15,(x16,(x17,(x18,())))))))))))))))))) (eA x1 x2 x3 x4 x5 x6 x7 x8 x9 x10 x11 x12 x13 x14 x15 x16 x17 x18):=sP wp4 hp
def pre(_:aW)(l:List eO):Bool:=cH l
abbrev wf(x0:aW)(x1:(List eO)):Prop:=hN [(.val wW .f),(.val (.sl 0 zk6) .f)] (x0,(x1,()))
noncomputable def aQ(x0:aW)(x1:(List eO)):Option (Unit×(bA×((List aF)×Unit))):=
 if(iE.pre x0)=true then
 letB (gW x0) fun v1=>
 if(gQ.pre4 (x1,((0:Int),(x0,((0:Int),((),(([]:List bS),(([]:List aC),(([]:List aD),(([]:List Int),(([]:List aF),(([]:List aF),(v1.2.2.2.1,(v1.2.2.2.2.2.2,(v1.1,(v1.2.1,(v1.2.2.1,v1.2.2.2.2)))))))))))))))))=true then
 letB (gQ.fn4 (x1,((0:Int),(x0,((0:Int),((),(([]:List bS),(([]:List aC),(([]:List aD),(([]:List Int),(([]:List aF),(([]:List aF),(v1.2.2.2.1,(v1.2.2.2.2.2.2,(v1.1,(v1.2.1,(v1.2.2.1,v1.2.2.2.2))))))))))))))))) fun v2=>
 some ((),((v2.2.2.2.2.2.2.2.2.2.2.1,(v2.2.2.2.2.2.2.2.2.2.2.2.1,(v2.2.2.2.2.2.2.2.2.2.2.2.2.1,(v2.2.2.2.2.2.2.2.2.1,(v2.2.2.2.2.2.2.2.2.2.2.2.2.2.1,(v2.2.2.2.2.2.2.2.2.2.2.2.2.2.2.1,v2.2.2.2.2.2.2.2.2.2.1)))))),(v2.2.2.2.2.2.2.2.1,())))
 else
 none
 else
 none
theorem eq(x0:aW)(x1:List eO)(_:wf x0 x1)(hp:pre x0 x1=true):aQ x0 x1=some ((),((nL x0 x1).1,((nL x0 x1).2,()))):=by
 have hs:cH x1=true:=hp
 refine yN ?_
 unfold aQ
 have hq:pre4 (x1,((0:Int),(x0,((0:Int),((),(([]:List bS),(([]:List aC),(([]:List aD),(([]:List Int),(([]:List aF),(([]:List aF),((gW x0).2.2.2.1,((gW x0).2.2.2.2.2.2,((gW x0).1,((gW x0).2.1,((gW x0).2.2.1,(gW x0).2.2.2.2))))))))))))))))=true:=by
  show(cH x1&&(decide ((0:Int)<=0)&&(decide ((0:Int)<=(x1.length:Int))&&(decide (((([]:List aF).length:Nat):Int)=0)&&B (fD x0=true->mK x0 (gW x0))))))=true
  simp only[Zb,Za,kZ]
  exact⟨hs,by omega,by omega,rfl,aA3⟩
 refine aL (show iE.pre x0=true from rfl) (dB (aL hq (uJ (vO wp4 hq:Q4 _ (fn4 _)) ?_)))
 rintro⟨_,_,_,_,_,_,_,o11,o12,o13,o14,o15,o16,o17,o18,⟨⟩⟩ ho
 exact aN ho
end gQ
abbrev gQ:=nL
def lastB(p:Int×aF):List Int:=aMn [p.1,p.2.1,wrap .i64 (p.2.2.1+1)]++(aHD p.2.2.2.1++aHD p.2.2.2.2.1)
def kC(l:List Int)(i:Int)(m:List Int):List Int:=l.take i.toNat++m++l.drop i.toNat
namespace kC
def pre(l:List Int)(i:Int)(m:List Int):Bool:=decide (0<=i)&&(decide (i<=(l.length:Int))&&(decide (0<m.length)&&decide ((l.length+m.length)*8<=140737488355328)))
end kC
def nC(l:List Int)(i j:Int):List Int:=l.take i.toNat++l.drop j.toNat
namespace nC
def pre(l:List Int)(i j:Int):Bool:=decide (0<=i)&&(decide (i<=j)&&decide (j<=(l.length:Int)))
end nC
theorem aHB{l:List Int}{i x:Int}{k:Nat}(h:i=(k:Int)):kC l i (x::([]:List Int))=aAD k x l:=by
 subst h
 unfold kC aAD
 rw[Int.toNat_natCast,Zk];rfl
theorem aFd{l:List Int}{i:Int}(h0:0<=i)(h1:i<=1000000000):nC l i (wrap .i64 (i+1))=l.eraseIdx i.toNat:=by
 rw[lF (n:=i+1) (by omega) (by omega)]
 unfold nC
 rw[List.eraseIdx_eq_take_drop_succ,show(i+1).toNat=i.toNat+1 by omega]
theorem aIb{l:List Int}{i x:Int}(h0:0<=i)(h1:i<=(l.length:Int))(h2:l.length<=16777216):kC.pre l i (x::([]:List Int))=true:=by
 simp only[kC.pre,Zb,Za,Zg,Zh]
 omega
theorem aI4{l:List Int}{i:Int}(h0:0<=i)(h1:i<(l.length:Int))(h2:l.length<=16777216):nC.pre l i (wrap .i64 (i+1))=true:=by
 rw[lF (n:=i+1) (by omega) (by omega)]
 simp only[nC.pre,Zb,Za]
 omega
def fS(g:aD):aD:=(upG g.1,g.2)
namespace fS
def pre(g:aD):Bool:=decide (g.1=g.1)
abbrev wf(x0:aD):Prop:=hN [(.ref qT .o)] (x0,())
noncomputable def aQ(x0:aD):Option ((aD×Unit)×Unit):=
 if(decide (x0.1<(100000:Int)))=true then
 some ((((wrap .i64 (x0.1+(1:Int))),x0.2),()),())
 else
 some ((x0,()),())
theorem eq(x0:aD)(hw:wf x0)(_:pre x0=true):aQ x0=some ((fS x0,()),()):=by
 have h:-9223372036854775808<=x0.1/\x0.1<=9223372036854775807:=aLa.1 hw.1.1
 unfold aQ fS upG
 by_cases h1:100000<=x0.1
 . rw[if_pos h1]
   exact dM (by rw[Za];omega) rfl
 . rw[if_neg h1]
   refine bV (Zd (by omega)) ?_
   rw[lF (by omega) (by omega)]
end fS
abbrev iA:aD->Int->aD:=mP
namespace iA
def pre(g:aD)(i:Int):Bool:=gU g&&(decide (0<=i)&&decide (i<(g.2.1.length:Int)))
abbrev wf(x0:aD)(x1:Int):Prop:=hN [(.ref qT .o),(.val (.int .i64) .f)] (x0,(x1,()))
noncomputable def aQ(x0:aD)(x1:Int):Option ((aD×Unit)×Unit):=
 if(nC.pre x0.2.1 x1 (wrap .i64 (x1+(1:Int))))=true then
 if(decide (x1<((length x0.2.2.1:Nat):Int)))=true then
 if(nC.pre x0.2.2.1 x1 (wrap .i64 (x1+(1:Int))))=true then
 letB (nC x0.2.1 x1 (wrap .i64 (x1+(1:Int)))) fun v1=>
 letB (nC x0.2.2.1 x1 (wrap .i64 (x1+(1:Int)))) fun v2=>
 some (((x0.1,(v1,(v2,x0.2.2.2))),()),())
 else
 none
 else
 letB (nC x0.2.1 x1 (wrap .i64 (x1+(1:Int)))) fun v3=>
 some (((x0.1,(v3,x0.2.2)),()),())
 else
 none
theorem eq(x0:aD)(x1:Int)(_:wf x0 x1)(hp:pre x0 x1=true):aQ x0 x1=some ((mP x0 x1,()),()):=by
 simp only[pre,Zb,Za] at hp
 obtain⟨hs,h1,h2⟩:=hp
 have hg:=jS.1 hs
 unfold aQ mP
 refine bV (aI4 h1 h2 hg.1) ?_
 by_cases h3:x1<(x0.2.2.1.length:Int)
 . refine bV (Zd h3) (bV (aI4 h1 h3 hg.2.1) (eN (eN ?_)))
   rw[aFd h1 (by omega),aFd h1 (by omega)]
 . refine dM (by rw[Za];exact h3) (eN ?_)
   rw[aFd h1 (by omega),List.eraseIdx_of_length_le (l:=x0.2.2.1) (by omega)]
end iA
def bU(l:List Int)(v:Int):Int:=kD v l 0
namespace bU
abbrev S2:Type:=((List Int)×(Int×aY))
abbrev O2:Type:=((Int×Unit)⊕Unit)
def pre2:S2->Bool:=fun(x1,_,x3,x4,_)=>decide (x3=(x1.length:Int))&&(decide (0<=x4)&&(decide (x4<=(x1.length:Int))&&decide (x1.length<=16777216)))
def fn2:S2->O2:=fun(x1,x2,_,x4,_)=>if 0<=kD x2 (x1.drop x4.toNat) x4 then .inl (kD x2 (x1.drop x4.toNat) x4,()) else .inr ()
def mA:S2->Nat:=fun(x1,_,_,x4,_)=>x1.length-x4.toNat
noncomputable def dT(x1:(List Int))(x2:Int)(x3:Int)(x4:Int):Option (((List Int)×(Int×aY))⊕((Int×Unit)⊕Unit)):=
 if(decide (x4<x3))=true then
 if(decide ((0:Int)<=x4))=true then
 if(decide (x4<((length x1:Nat):Int)))=true then
 if(decide (x2=(List.getD x1 (Int.toNat x4) (0:Int))))=true then
 some (.inr (.inl (x4,())))
 else
 some (.inl (x1,(x2,(x3,((wrap .i64 (x4+(1:Int))),())))))
 else
 none
 else
 none
 else
 some (.inr (.inr ()))
abbrev wf(x0:(List Int))(x1:Int):Prop:=hN [(.val (.sl 0 (.int .i64)) .f),(.val (.int .i64) .f)] (x0,(x1,()))
noncomputable def aQ(x0:(List Int))(x1:Int):Option uK:=
 if(bU.pre2 (x0,(x1,(((length x0:Nat):Int),((0:Int),())))))=true then
  letB (bU.fn2 (x0,(x1,(((length x0:Nat):Int),((0:Int),()))))) fun v1=>
  match v1 with
  |.inl y=>
   some ((),y)
  |.inr y=>
   some ((),((-1:Int),()))
 else
  none
theorem rR(x1:List Int)(x2 x3 x4:Int)(hp:pre2 (x1,(x2,(x3,(x4,()))))=true):Rounds pre2 mA fn2 (x1,(x2,(x3,(x4,())))) (dT x1 x2 x3 x4):=by
 simp only[pre2,Zb,Za] at hp
 obtain⟨rfl,h1,h2,h3⟩:=hp
 unfold dT
 by_cases hlt:x4<(x1.length:Int)
 . have hn:x4.toNat<x1.length:=by omega
   have e1:=Zn hn
   refine eQ (Zd hlt) (eQ (Zd h1) (eQ (Zd hlt) ?_))
   rw[cX hn,lF (n:=x4+1) (by omega) (by omega)]
   by_cases he:x1[x4.toNat]=x2
   . refine eQ (Zd he.symm) ?_
     show _=(if 0<=kD x2 (x1.drop x4.toNat) x4 then _ else _)
     rw[e1]
     simp only[kD,he,if_true]
     rw[if_pos h1]
   . refine jJ (by rw[Za];exact fun h=>he h.symm) ⟨?_,by simp only[mA];omega,?_⟩
     . simp only[pre2,Zb,Za];exact⟨trivial,by omega,by omega,h3⟩
     . show(if 0<=kD x2 (x1.drop (x4+1).toNat) (x4+1) then _ else _)=(if 0<=kD x2 (x1.drop x4.toNat) x4 then _ else _)
       rw[e1,show(x4+1).toNat=x4.toNat+1 by omega]
       simp only[kD,he,if_false]
 . refine jJ (by rw[Za];exact hlt) ?_
   show _=(if 0<=kD x2 (x1.drop x4.toNat) x4 then _ else _)
   rw[Zt (by omega)]
   rfl
def pre(l:List Int)(_:Int):Bool:=cH l
theorem eq(x0:List Int)(x1:Int)(_:wf x0 x1)(hp:pre x0 x1=true):aQ x0 x1=some ((),(bU x0 x1,())):=by
 have hg:=bW.1 (show cH x0=true from hp)
 unfold aQ
 refine bV (show pre2 (x0,(x1,((x0.length:Int),((0:Int),()))))=true by simp only[pre2,Zb,Za];exact⟨trivial,by omega,by omega,hg⟩) (eN ?_)
 have hd:fn2 (x0,(x1,((x0.length:Int),((0:Int),()))))=if 0<=bU x0 x1 then .inl (bU x0 x1,()) else .inr ():=rfl
 rw[hd]
 have:=aBt (who:=x1) x0 0 (Int.le_refl _)
 by_cases h:0<=bU x0 x1
 . rw[if_pos h]
 . rw[if_neg h,show bU x0 x1=-1 by unfold bU at h ⊢;omega]
end bU
def bR(x who:Int):Bool:=decide (who<=x)
namespace bR
def pre(x _:Int):Bool:=decide (x=x)
abbrev wf(x0:Int)(x1:Int):Prop:=hN [(.val (.int .i64) .f),(.peek (.int .i64))] (x0,(x1,()))
noncomputable def aQ(x0:Int)(x1:Int):Option mO:=
 some ((),((decide (x1<=x0)),()))
theorem eq(x0 x1:Int)(_:wf x0 x1)(_:pre x0 x1=true):aQ x0 x1=some ((),(bR x0 x1,())):=rfl
end bR
theorem aF4{who:Int}:(ms bs:List Int)->(i:Int)->0<=i->(mU (fun x=>bR x who) ms i<0->pJ who ms bs=min ms.length bs.length)/\
 (0<=mU (fun x=>bR x who) ms i->i<=mU (fun x=>bR x who) ms i/\mU (fun x=>bR x who) ms i<=i+ms.length/\(pJ who ms bs:Int)=min (mU (fun x=>bR x who) ms i-i) (bs.length:Int))
 |[],bs,i,h0=>by
  have e:pJ who [] bs=0:=by cases bs<;>rfl
  rw[e]
  simp only[mU,Zh]
  omega
 |m::ms,[],i,h0=>by
  have e:pJ who (m::ms) []=0:=rfl
  have ih:=(aF4 (who:=who) ms [] (i+1) (by omega)).2
  rw[e]
  simp only[mU,Zh,Zg]
  split
  . omega
  . refine⟨fun _=>by omega,fun h=>?_⟩
    have:=ih h
    omega
 |m::ms,b::bs,i,h0=>by
  have ih:=aF4 (who:=who) ms bs (i+1) (by omega)
  have hd:bR m who=decide (who<=m):=rfl
  simp only[mU,pJ,Zg]
  by_cases c:m<who
  . rw[if_neg (show ¬bR m who=true by rw[hd,Za];omega),if_pos c]
    refine⟨fun h=>?_,fun h=>?_⟩
    . have:=ih.1 h;omega
    . have:=ih.2 h;omega
  . rw[if_pos (show bR m who=true by rw[hd,Za];omega),if_neg c]
    refine⟨fun h=>by omega,fun h=>by omega⟩
abbrev iO:aD->Int->Int->aD:=jA
namespace iO
def pre(g:aD)(_ _:Int):Bool:=gU g
abbrev wf(x0:aD)(x1:Int)(x2:Int):Prop:=hN [(.val qT .f),(.val (.int .i64) .f),(.val (.int .i64) .f)] (x0,(x1,(x2,())))
noncomputable def aQ(x0:aD)(x1:Int)(x2:Int):Option aDo:=
 if(aT.pre x0)=true then
 if(dJ.pre x1)=true then
 letB (dJ x1) fun v1=>
 if(!v1)=true then
 letB (aT x0) fun v2=>
 some ((),(v2,()))
 else
 letB (aT x0) fun v3=>
 if(bU.pre v3.2.1 x1)=true then
 letB (bU v3.2.1 x1) fun v4=>
 if(decide ((0:Int)<=v4))=true then
 if(decide (v4<((length v3.2.2.1:Nat):Int)))=true then
 if(decide ((0:Int)<=v4))=true then
 if(decide (v4<((length v3.2.2.1:Nat):Int)))=true then
 some ((),((v3.1,(v3.2.1,((List.modify v3.2.2.1 (Int.toNat v4) (fun z=>x2)),v3.2.2.2))),()))
 else
 none
 else
 none
 else
 some ((),(v3,()))
 else
 if(bF.pre v3.2.1 ((fun x=>(bR.pre x x1)),(fun x=>(bR x x1))))=true then
 letB (bF v3.2.1 ((fun x=>(bR.pre x x1)),(fun x=>(bR x x1)))) fun v5=>
 if(decide (v5<(0:Int)))=true then
 if(kC.pre v3.2.1 (if(decide (((length v3.2.2.1:Nat):Int)<((length v3.2.1:Nat):Int)))=true then((length v3.2.2.1:Nat):Int) else((length v3.2.1:Nat):Int)) (x1::([]:List Int)))=true then
 if(kC.pre v3.2.2.1 (if(decide (((length v3.2.2.1:Nat):Int)<((length v3.2.1:Nat):Int)))=true then((length v3.2.2.1:Nat):Int) else((length v3.2.1:Nat):Int)) (x2::([]:List Int)))=true then
 letB (kC v3.2.1 (if(decide (((length v3.2.2.1:Nat):Int)<((length v3.2.1:Nat):Int)))=true then((length v3.2.2.1:Nat):Int) else((length v3.2.1:Nat):Int)) (x1::([]:List Int))) fun v6=>
 letB (kC v3.2.2.1 (if(decide (((length v3.2.2.1:Nat):Int)<((length v3.2.1:Nat):Int)))=true then((length v3.2.2.1:Nat):Int) else((length v3.2.1:Nat):Int)) (x2::([]:List Int))) fun v7=>
 if(fS.pre (v3.1,(v6,(v7,v3.2.2.2))))=true then
 letB (fS (v3.1,(v6,(v7,v3.2.2.2)))) fun v8=>
 some ((),(v8,()))
 else
 none
 else
 none
 else
 none
 else
 if(kC.pre v3.2.1 (if(decide (((length v3.2.2.1:Nat):Int)<v5))=true then((length v3.2.2.1:Nat):Int) else v5) (x1::([]:List Int)))=true then
 if(kC.pre v3.2.2.1 (if(decide (((length v3.2.2.1:Nat):Int)<v5))=true then((length v3.2.2.1:Nat):Int) else v5) (x2::([]:List Int)))=true then
 letB (kC v3.2.1 (if(decide (((length v3.2.2.1:Nat):Int)<v5))=true then((length v3.2.2.1:Nat):Int) else v5) (x1::([]:List Int))) fun v9=>
 letB (kC v3.2.2.1 (if(decide (((length v3.2.2.1:Nat):Int)<v5))=true then((length v3.2.2.1:Nat):Int) else v5) (x2::([]:List Int))) fun v10=>
 if(fS.pre (v3.1,(v9,(v10,v3.2.2.2))))=true then
 letB (fS (v3.1,(v9,(v10,v3.2.2.2)))) fun v11=>
 some ((),(v11,()))
 else
 none
 else
 none
 else
 none
 else
 none
 else
 none
 else
 none
 else
 none
theorem eq(x0:aD)(x1 x2:Int)(_:wf x0 x1 x2)(hp:pre x0 x1 x2=true):aQ x0 x1 x2=some ((),(jA x0 x1 x2,())):=by
 have hs:gU x0=true:=hp
 have hg:=jS.1 hs
 unfold aQ jA
 refine bV (show aT.pre x0=true from hs) (bV (by first|rfl|decide|exact Zd (Int.le_refl _)) (eN ?_))
 show(if(!aA x1 0 3)=true then _ else _)=_
 cases hin:aA x1 0 3
 . rfl
 refine dM (by decide) (eN ?_)
 rw[show aT x0=x0 from rfl]
 refine bV (show bU.pre x0.2.1 x1=true from bW.2 hg.1) (eN ?_)
 rw[if_pos rfl]
 show(if decide (0<=atG x0 x1)=true then _ else _)=_
 by_cases h0:0<=atG x0 x1
 . refine bV (Zd h0) ?_
   rw[if_pos h0]
   show(if decide (atG x0 x1<(x0.2.2.1.length:Int))=true then _ else _)=_
   by_cases h1:atG x0 x1<(x0.2.2.1.length:Int)
   . rw[if_pos h1]
     exact bV (Zd h1) (bV (Zd h0) (bV (Zd h1) rfl))
   . rw[if_neg h1]
     exact dM (by rw[Za];exact h1) rfl
 . rw[if_neg h0]
   have hi:=aF4 (who:=x1) x0.2.1 x0.2.2.1 0 (Int.le_refl _)
   have hl:=aBc (who:=x1) x0.2.1 x0.2.2.1
   refine dM (by rw[Za];exact h0) (bV (show bF.pre x0.2.1 _=true by simp[bF.pre,bR.pre]) (eN ?_))
   obtain⟨k,hk⟩:∃k,k=pJ x1 x0.2.1 x0.2.2.1:=⟨_,rfl⟩
   rw[<-hk] at hi hl ⊢
   obtain⟨v,hv⟩:∃v,v=mU (fun x=>bR x x1) x0.2.1 0:=⟨_,rfl⟩
   rw[<-hv] at hi
   show(if decide (bF x0.2.1 _<0)=true then _ else _)=_
   rw[show bF x0.2.1 (fun x=>bR.pre x x1,fun x=>bR x x1)=v from hv.symm]
   have fin:∀e:Int,e=(k:Int)->(if kC.pre x0.2.1 e (x1::([]:List Int))=true then if kC.pre x0.2.2.1 e (x2::([]:List Int))=true then letB (kC x0.2.1 e (x1::([]:List Int))) fun v6=>letB (kC x0.2.2.1 e (x2::([]:List Int))) fun v7=>
    if fS.pre (x0.1,(v6,(v7,x0.2.2.2)))=true then letB (fS (x0.1,(v6,(v7,x0.2.2.2)))) fun v8=>some ((),(v8,())) else none else none else none)=some ((),((upG x0.1,(aAD k x1 x0.2.1,(aAD k x2 x0.2.2.1,x0.2.2.2))),())):=by
    intro e he
    refine bV (aIb (by omega) (by omega) hg.1) (bV (aIb (by omega) (by omega) hg.2.1) (eN (eN (bV (Zd rfl) (eN ?_)))))
    rw[aHB he,aHB he];rfl
   by_cases hneg:v<0
   . refine bV (Zd hneg) (fin _ ?_)
     have:=hi.1 hneg
     split
     . rename_i h;rw[Za] at h;omega
     . rename_i h;rw[Za] at h;omega
   . refine dM (by rw[Za];exact hneg) (fin _ ?_)
     have:=hi.2 (by omega)
     split
     . rename_i h;rw[Za] at h;omega
     . rename_i h;rw[Za] at h;omega
end iO
abbrev iQ:aD->Int->aD:=fE
namespace iQ
def pre(g:aD)(_:Int):Bool:=gU g
abbrev wf(x0:aD)(x1:Int):Prop:=hN [(.val qT .f),(.val (.int .i64) .f)] (x0,(x1,()))
noncomputable def aQ(x0:aD)(x1:Int):Option aDo:=
 if(aT.pre x0)=true then
 letB (aT x0) fun v1=>
 if(bU.pre v1.2.1 x1)=true then
 letB (bU v1.2.1 x1) fun v2=>
 if(decide ((0:Int)<=v2))=true then
 if(dJ.pre x1)=true then
 letB (dJ x1) fun v3=>
 if v3=true then
 if(iA.pre v1 v2)=true then
 letB (iA v1 v2) fun v4=>
 if(fS.pre v4)=true then
 letB (fS v4) fun v5=>
 some ((),(v5,()))
 else
 none
 else
 none
 else
 some ((),(v1,()))
 else
 none
 else
 some ((),(v1,()))
 else
 none
 else
 none
theorem eq(x0:aD)(x1:Int)(_:wf x0 x1)(hp:pre x0 x1=true):aQ x0 x1=some ((),(fE x0 x1,())):=by
 have hs:gU x0=true:=hp
 have hg:=jS.1 hs
 unfold aQ
 refine bV (show aT.pre x0=true from hs) (eN (bV (show bU.pre x0.2.1 x1=true from bW.2 hg.1) (eN ?_)))
 show(if decide (0<=atG x0 x1)=true then _ else _)=_
 by_cases h0:0<=atG x0 x1
 . have:=vW (who:=x1) x0.2.1 0 (Int.le_refl _) h0
   refine bV (Zd h0) (bV (by first|rfl|decide|exact Zd (Int.le_refl _)) (eN ?_))
   show(if aA x1 0 3=true then _ else _)=_
   cases hin:aA x1 0 3
   . rw[show fE x0 x1=x0 from if_neg (by rw[hin];simp)]
     rfl
   . rw[show fE x0 x1=_ from if_pos ⟨h0,hin⟩]
     refine bV rfl (bV (show iA.pre x0 (atG x0 x1)=true by simp only[iA.pre,Zb,Za];exact⟨hs,h0,by unfold atG at *;omega⟩) (eN (bV (Zd rfl) rfl)))
 . rw[show fE x0 x1=x0 from if_neg (fun h=>h0 h.1)]
   exact dM (by rw[Za];exact h0) rfl
end iQ
abbrev kP:aD->Int->Int:=oR
end Go.Aw.Pl
