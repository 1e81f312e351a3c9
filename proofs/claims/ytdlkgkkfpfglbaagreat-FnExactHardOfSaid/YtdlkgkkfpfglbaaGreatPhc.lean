import Derived.Test.YtdlkgkkfpfglbaaGreatPhb
namespace Go.Aw.Pl
open Go.IntKind (wrap)
open List (length)
open Go Go.Aw
set_option linter.unusedVariables false
set_option linter.unusedSimpArgs false
set_option maxHeartbeats 1000000
namespace dO
abbrev S4:Type:=((List aK)×(Int×(Int×aFf)))
abbrev O4:Type:=((Bool×Unit)⊕aFf)
def pre(_:aW)(k:bI):Bool:=tK k
noncomputable def pre4:S4->Bool:=fun(x1,x2,x3,_,x5,_)=>same x1 x5.2.1&&(decide (x2=(x5.2.1.length:Int))&&(x5.2.1.all (fun m:aK=>dJ m.2.2.2.2.1)&&pJ x5.2.1.length x3))
def fn4:S4->O4:=fun(_,_,x3,x4,x5,_)=>xV (uM dG x4 x5.2.1) x5.2.1.length x3 (x4,(x5,()))
def qD:S4->Nat:=fun(_,_,x3,_,x5,_)=>x5.2.1.length-x3.toNat
noncomputable def hJ(x1:(List aK))(x2:Int)(x3:Int)(x4:aW)(x5:bI):Option (((List aK)×(Int×(Int×aFf)))⊕((Bool×Unit)⊕aFf)):=
 if(decide (x3<x2))=true then
 if(decide ((0:Int)<=x3))=true then
 if(decide (x3<((length x1:Nat):Int)))=true then
 if(dG.pre (List.getD x1 (Int.toNat x3) rF) x4.2.1)=true then
 letB (dG (List.getD x1 (Int.toNat x3) rF) x4.2.1) fun v1=>
 if(!v1)=true then
 some (.inr (.inl (false,())))
 else
 if(decide (x4.1<=(List.getD x1 (Int.toNat x3) rF).1))=true then
 some (.inr (.inl (false,())))
 else
 if(decide ((0:Int)<x3))=true then
 if(decide ((0:Int)<=(wrap .i64 (x3-(1:Int)))))=true then
 if(decide ((wrap .i64 (x3-(1:Int)))<((length x5.2.1:Nat):Int)))=true then
 if(decide ((List.getD x1 (Int.toNat x3) rF).1<(List.getD x5.2.1 (Int.toNat (wrap .i64 (x3-(1:Int)))) rF).1))=true then
 some (.inr (.inl (false,())))
 else
 if(decide ((0:Int)<=(wrap .i64 (x3-(1:Int)))))=true then
 if(decide ((wrap .i64 (x3-(1:Int)))<((length x5.2.1:Nat):Int)))=true then
 if(decide ((List.getD x5.2.1 (Int.toNat (wrap .i64 (x3-(1:Int)))) rF).1=(List.getD x1 (Int.toNat x3) rF).1))=true then
 if(decide ((0:Int)<=(wrap .i64 (x3-(1:Int)))))=true then
 if(decide ((wrap .i64 (x3-(1:Int)))<((length x5.2.1:Nat):Int)))=true then
 if(decide ((List.getD x1 (Int.toNat x3) rF).2.1<=(List.getD x5.2.1 (Int.toNat (wrap .i64 (x3-(1:Int)))) rF).2.1))=true then
 some (.inr (.inl (false,())))
 else
 some (.inl (x1,(x2,((wrap .i64 (x3+(1:Int))),(x4,(x5,()))))))
 else
 none
 else
 none
 else
 some (.inl (x1,(x2,((wrap .i64 (x3+(1:Int))),(x4,(x5,()))))))
 else
 none
 else
 none
 else
 none
 else
 none
 else
 some (.inl (x1,(x2,((wrap .i64 (x3+(1:Int))),(x4,(x5,()))))))
 else
 none
 else
 none
 else
 none
 else
 some (.inr (.inr (x4,(x5,()))))
abbrev wf(x0:aW)(x1:bI):Prop:=fV [(.val wI .f),(.val zk1 .f)] (x0,(x1,()))
noncomputable def aR(x0:aW)(x1:bI):Option lA:=
 letB (dQ x0) fun v1=>
 if(!v1)=true then
  some ((),(false,()))
 else
  if(!(decide (((length x1.1:Nat):Int)=x0.1)))=true then
   some ((),(false,()))
  else
   if(!(decide (((length x1.2.2.1:Nat):Int)=(2:Int))))=true then
    some ((),(false,()))
   else
    letB (aB x1.2.2.2.1 (0:Int) (100000:Int)) fun v2=>
    if(!v2)=true then
     some ((),(false,()))
    else
     if(!(decide (((length x1.2.2.2.2.1:Nat):Int)=(4:Int))))=true then
      some ((),(false,()))
     else
      if(bD.pre x1.2.2.2.2.1 (0:Int) (100000:Int))=true then
       letB (bD x1.2.2.2.2.1 (0:Int) (100000:Int)) fun v3=>
       if(!v3)=true then
        some ((),(false,()))
       else
        if(!(decide (((length x1.2.2.2.2.2.1:Nat):Int)=(4:Int))))=true then
         some ((),(false,()))
        else
         if(dO.pre4 (x1.2.1,(((length x1.2.1:Nat):Int),((0:Int),(x0,(x1,()))))))=true then
          letB (dO.fn4 (x1.2.1,(((length x1.2.1:Nat):Int),((0:Int),(x0,(x1,())))))) fun v4=>
          match v4 with
          |.inl y=>
           some ((),y)
          |.inr y=>
           if(cQ.pre y.2.1.1 ((fun x=>(fP.pre x)),(fun x=>(fP x))))=true then
            if(cF.pre y.2.1.2.2.1 ((fun x=>(fO.pre x y.1)),(fun x=>(fO x y.1))))=true then
             if(bU.pre y.2.1.2.2.2.2.2.1 ((fun x=>(fB.pre x)),(fun x=>(fB x))))=true then
              letB (cQ y.2.1.1 ((fun x=>(fP.pre x)),(fun x=>(fP x)))) fun v5=>
              if(!v5)=true then
               letB (cF y.2.1.2.2.1 ((fun x=>(fO.pre x y.1)),(fun x=>(fO x y.1)))) fun v6=>
               if(!v6)=true then
                letB (bU y.2.1.2.2.2.2.2.1 ((fun x=>(fB.pre x)),(fun x=>(fB x)))) fun v7=>
                some ((),((!v7),()))
               else
                some ((),(false,()))
              else
               some ((),(false,()))
             else
              none
            else
             none
           else
            none
         else
          none
      else
       none
theorem yT(x1:List aK)(x2 x3:Int)(x4:aW)(x5:bI)(hp:pre4 (x1,(x2,(x3,(x4,(x5,())))))=true):Rounds pre4 qD fn4 (x1,(x2,(x3,(x4,(x5,()))))) (hJ x1 x2 x3 x4 x5):=by
 simp only[pre4,Zb,Za,bV] at hp
 obtain⟨rfl,rfl,hs,ha⟩:=hp
 obtain⟨h1,h2,h3⟩:=mO ha
 unfold hJ
 by_cases hlt:x3<(x5.2.1.length:Int)
 . obtain⟨n1,n2,n3,n4⟩:=rS ha hlt
   have nxt:uM dG x4 x5.2.1 x3.toNat=true->Rounds pre4 qD fn4 (x5.2.1,((x5.2.1.length:Int),(x3,(x4,(x5,()))))) (some (.inl (x5.2.1,((x5.2.1.length:Int),(x3+1,(x4,(x5,()))))))):=
    fun h=>⟨by simp only[pre4,pS,n2,hs];simp,n3,rO ha hlt h⟩
   have stp:uM dG x4 x5.2.1 x3.toNat=false->Rounds pre4 qD fn4 (x5.2.1,((x5.2.1.length:Int),(x3,(x4,(x5,()))))) (some (.inr (.inl (false,())))):=fun h=>rR ha hlt h
   have hq:dG.pre (x5.2.1.getD x3.toNat rF) x4.2.1=true:=aC0 hs (show x3.toNat<x5.2.1.length by omega) _
   simp only[letB,n1,hlt,h2,hq,decide_true,if_true]
   simp only[uM] at nxt stp
   generalize dG (x5.2.1.getD x3.toNat rF) x4.2.1=b1 at *
   by_cases h0:0<x3
   . obtain⟨p1,p2,p3,p4,p5⟩:=xE ha h0
     simp only[p1,p2,p3,p4,h0,decide_true,if_true]
     simp only[p5,decide_false,Bool.false_or] at nxt stp
     generalize x5.2.1.getD x3.toNat rF=e at *
     generalize x5.2.1.getD (x3.toNat-1) rF=e' at *
     cases b1
     . exact stp rfl
     by_cases c1:x4.1<=e.1
     . simp only[c1,show ¬e.1<x4.1 by omega,decide_true,decide_false] at *
       exact stp rfl
     by_cases c2:e.1<e'.1
     . simp only[c1,c2,show e.1<x4.1 by omega,show ¬e'.1<=e.1 by omega,decide_true,decide_false] at *
       exact stp rfl
     by_cases c3:e'.1=e.1
     . by_cases c4:e.2.1<=e'.2.1
       . simp only[c1,c2,c3,c4,show e.1<x4.1 by omega,show e'.1<=e.1 by omega,Int.le_refl,Int.lt_irrefl,decide_true,decide_false] at *
         exact stp rfl
       . simp only[c1,c2,c3,c4,show e.1<x4.1 by omega,show e'.1<=e.1 by omega,Int.le_refl,Int.lt_irrefl,decide_true,decide_false] at *
         exact nxt rfl
     . simp only[c1,c2,c3,show e.1<x4.1 by omega,show e'.1<=e.1 by omega,decide_true,decide_false] at *
       exact nxt rfl
   . have p5:x3.toNat=0:=by omega
     simp only[h0,decide_false,Zj,if_false]
     simp only[p5,decide_true,Bool.true_or,Bool.and_true] at nxt stp ⊢
     generalize x5.2.1.getD 0 rF=e at *
     cases b1
     . exact stp rfl
     by_cases c1:x4.1<=e.1
     . simp only[c1,show ¬e.1<x4.1 by omega,decide_true,decide_false] at *
       exact stp rfl
     . simp only[c1,show e.1<x4.1 by omega,decide_true,decide_false] at *
       exact nxt rfl
 . rw[if_neg (by simp[hlt])]
   exact uT ha hlt
theorem eq(x0:aW)(x1:bI)(_:wf x0 x1)(hp:pre x0 x1=true):aR x0 x1=some ((),(dO x0 x1,())):=by
 have hp:tK x1=true:=hp
 simp only[tK,Zb] at hp
 obtain⟨a1,a2,a3,a4,a5,a6,a7,a8⟩:=hp
 unfold aR dO vY
 simp only[letB]
 cases dQ x0
 . rfl
 by_cases b1:(x1.1.length:Int)=x0.1
 case neg=>rw[if_neg (by decide),if_pos (by simp[b1]),decide_eq_false b1];rfl
 rw[if_neg (by decide),if_neg (by simp[b1]),Zd b1]
 by_cases b2:(x1.2.2.1.length:Int)=2
 case neg=>rw[if_pos (by simp[b2]),decide_eq_false b2];rfl
 rw[if_neg (by simp[b2]),Zd b2]
 cases aB x1.2.2.2.1 0 100000
 . rfl
 by_cases b3:(x1.2.2.2.2.1.length:Int)=4
 case neg=>rw[if_neg (by decide),if_pos (by simp[b3]),decide_eq_false b3];rfl
 rw[if_neg (by decide),if_neg (by simp[b3]),Zd b3,if_pos (show bD.pre x1.2.2.2.2.1 0 100000=true from rfl)]
 cases bD x1.2.2.2.2.1 0 100000
 . rfl
 by_cases b4:(x1.2.2.2.2.2.1.length:Int)=4
 case neg=>rw[if_neg (by decide),if_pos (by simp[b4]),decide_eq_false b4];rfl
 rw[if_neg (by decide),if_neg (by simp[b4]),Zd b4,
  if_pos (show pre4 (x1.2.1,((x1.2.1.length:Int),((0:Int),(x0,(x1,())))))=true by simp only[pre4,pS,pO (cC.1 a3),a4];simp),
  show fn4 (x1.2.1,((x1.2.1.length:Int),((0:Int),(x0,(x1,())))))=_ from uR]
 cases qF (uM dG x0 x1.2.1) 0 x1.2.1.length
 . rfl
 simp only[cond_true]
 rw[if_pos (show cQ.pre x1.1 ((fun x=>fP.pre x),fun x=>fP x)=true from a2),
  if_pos (show cF.pre x1.2.2.1 ((fun x=>fO.pre x x0),fun x=>fO x x0)=true from a6),
  if_pos (show bU.pre x1.2.2.2.2.2.1 ((fun x=>fB.pre x),fun x=>fB x)=true by simp[bU.pre,fB.pre]),
  show(!cQ x1.1 ((fun x=>fP.pre x),fun x=>fP x))=x1.1.all pP from zR _ _,
  show(!cF x1.2.2.1 ((fun x=>fO.pre x x0),fun x=>fO x x0))=x1.2.2.1.all (fun g=>jQ g x0.1) from zR (fun g=>jQ g x0.1) _,
  show(!bU x1.2.2.2.2.2.1 ((fun x=>fB.pre x),fun x=>fB x))=x1.2.2.2.2.2.1.all nI from zR _ _]
 cases x1.1.all pP
 . rfl
 cases x1.2.2.1.all (fun g=>jQ g x0.1)<;>rfl
end dO
def fJ(s:aW)(ms:List aK):Bool:=qF (uM dA s ms) 0 ms.length
namespace fJ
abbrev S2:Type:=((List aK)×(Int×(aW×Unit)))
abbrev O2:Type:=((Bool×Unit)⊕Unit)
def pre(_:aW)(ms:List aK):Bool:=dJ ms&&ms.all (fun m:aK=>dJ m.2.2.2.2.1)
def pre2:S2->Bool:=fun(x1,x2,_,_)=>x1.all (fun m:aK=>dJ m.2.2.2.2.1)&&pJ x1.length x2
def fn2:S2->O2:=fun(x1,x2,x3,_)=>xV (uM dA x3 x1) x1.length x2 ()
def kX:S2->Nat:=fun(x1,x2,_,_)=>x1.length-x2.toNat
noncomputable def cU(x1:(List aK))(x2:Int)(x3:aW):Option (((List aK)×(Int×(aW×Unit)))⊕((Bool×Unit)⊕Unit)):=
 if(decide (x2<((length x1:Nat):Int)))=true then
 if(decide ((0:Int)<=x2))=true then
 if(decide (x2<((length x1:Nat):Int)))=true then
 if(dA.pre (List.getD x1 (Int.toNat x2) rF) x3.2.1)=true then
 letB (dA (List.getD x1 (Int.toNat x2) rF) x3.2.1) fun v1=>
 if(!v1)=true then
 some (.inr (.inl (false,())))
 else
 if(decide (x3.1<=(List.getD x1 (Int.toNat x2) rF).1))=true then
 some (.inr (.inl (false,())))
 else
 if(decide ((0:Int)<x2))=true then
 if(decide ((0:Int)<=(wrap .i64 (x2-(1:Int)))))=true then
 if(decide ((wrap .i64 (x2-(1:Int)))<((length x1:Nat):Int)))=true then
 if(decide ((List.getD x1 (Int.toNat x2) rF).1<(List.getD x1 (Int.toNat (wrap .i64 (x2-(1:Int)))) rF).1))=true then
 some (.inr (.inl (false,())))
 else
 if(decide ((0:Int)<=(wrap .i64 (x2-(1:Int)))))=true then
 if(decide ((wrap .i64 (x2-(1:Int)))<((length x1:Nat):Int)))=true then
 if(decide ((List.getD x1 (Int.toNat (wrap .i64 (x2-(1:Int)))) rF).1=(List.getD x1 (Int.toNat x2) rF).1))=true then
 if(decide ((0:Int)<=(wrap .i64 (x2-(1:Int)))))=true then
 if(decide ((wrap .i64 (x2-(1:Int)))<((length x1:Nat):Int)))=true then
 if(decide ((List.getD x1 (Int.toNat x2) rF).2.1<=(List.getD x1 (Int.toNat (wrap .i64 (x2-(1:Int)))) rF).2.1))=true then
 some (.inr (.inl (false,())))
 else
 some (.inl (x1,((wrap .i64 (x2+(1:Int))),(x3,()))))
 else
 none
 else
 none
 else
 some (.inl (x1,((wrap .i64 (x2+(1:Int))),(x3,()))))
 else
 none
 else
 none
 else
 none
 else
 none
 else
 some (.inl (x1,((wrap .i64 (x2+(1:Int))),(x3,()))))
 else
 none
 else
 none
 else
 none
 else
 some (.inr (.inr ()))
abbrev wf(x0:aW)(x1:(List aK)):Prop:=fV [(.val wI .f),(.val (.sl 0 aBA) .f)] (x0,(x1,()))
noncomputable def aR(x0:aW)(x1:(List aK)):Option lA:=
 if(fJ.pre2 (x1,((0:Int),(x0,()))))=true then
  letB (fJ.fn2 (x1,((0:Int),(x0,())))) fun v1=>
  match v1 with
  |.inl y=>
   some ((),y)
  |.inr y=>
   some ((),(true,()))
 else
  none
theorem qG(x1:List aK)(x2:Int)(x3:aW)(hp:pre2 (x1,(x2,(x3,())))=true):Rounds pre2 kX fn2 (x1,(x2,(x3,()))) (cU x1 x2 x3):=by
 simp only[pre2,Zb] at hp
 obtain⟨hs,ha⟩:=hp
 obtain⟨h1,h2,h3⟩:=mO ha
 unfold cU
 by_cases hlt:x2<(x1.length:Int)
 . obtain⟨n1,n2,n3,n4⟩:=rS ha hlt
   have nxt:uM dA x3 x1 x2.toNat=true->Rounds pre2 kX fn2 (x1,(x2,(x3,()))) (some (.inl (x1,(x2+1,(x3,()))))):=
    fun h=>⟨by simp only[pre2,n2,hs];simp,n3,rO ha hlt h⟩
   have stp:uM dA x3 x1 x2.toNat=false->Rounds pre2 kX fn2 (x1,(x2,(x3,()))) (some (.inr (.inl (false,())))):=fun h=>rR ha hlt h
   have hq:dA.pre (x1.getD x2.toNat rF) x3.2.1=true:=aC0 hs (show x2.toNat<x1.length by omega) _
   simp only[letB,n1,hlt,h2,hq,decide_true,if_true]
   simp only[uM] at nxt stp
   generalize dA (x1.getD x2.toNat rF) x3.2.1=b1 at *
   by_cases h0:0<x2
   . obtain⟨p1,p2,p3,p4,p5⟩:=xE ha h0
     simp only[p1,p2,p3,p4,h0,decide_true,if_true]
     simp only[p5,decide_false,Bool.false_or] at nxt stp
     generalize x1.getD x2.toNat rF=e at *
     generalize x1.getD (x2.toNat-1) rF=e' at *
     cases b1
     . exact stp rfl
     by_cases c1:x3.1<=e.1
     . simp only[c1,show ¬e.1<x3.1 by omega,decide_true,decide_false] at *
       exact stp rfl
     by_cases c2:e.1<e'.1
     . simp only[c1,c2,show e.1<x3.1 by omega,show ¬e'.1<=e.1 by omega,decide_true,decide_false] at *
       exact stp rfl
     by_cases c3:e'.1=e.1
     . by_cases c4:e.2.1<=e'.2.1
       . simp only[c1,c2,c3,c4,show e.1<x3.1 by omega,show e'.1<=e.1 by omega,Int.le_refl,Int.lt_irrefl,decide_true,decide_false] at *
         exact stp rfl
       . simp only[c1,c2,c3,c4,show e.1<x3.1 by omega,show e'.1<=e.1 by omega,Int.le_refl,Int.lt_irrefl,decide_true,decide_false] at *
         exact nxt rfl
     . simp only[c1,c2,c3,show e.1<x3.1 by omega,show e'.1<=e.1 by omega,decide_true,decide_false] at *
       exact nxt rfl
   . have p5:x2.toNat=0:=by omega
     simp only[h0,decide_false,Zj,if_false]
     simp only[p5,decide_true,Bool.true_or,Bool.and_true] at nxt stp ⊢
     generalize x1.getD 0 rF=e at *
     cases b1
     . exact stp rfl
     by_cases c1:x3.1<=e.1
     . simp only[c1,show ¬e.1<x3.1 by omega,decide_true,decide_false] at *
       exact stp rfl
     . simp only[c1,show e.1<x3.1 by omega,decide_true,decide_false] at *
       exact nxt rfl
 . rw[if_neg (by simp[hlt])]
   exact uT ha hlt
theorem eq(x0:aW)(x1:List aK)(_:wf x0 x1)(hp:pre x0 x1=true):aR x0 x1=some ((),(fJ x0 x1,())):=by
 simp only[pre,Zb] at hp
 unfold aR fJ
 rw[if_pos (show pre2 (x1,((0:Int),(x0,())))=true by simp only[pre2,hp.2,pO (cC.1 hp.1)];rfl),show fn2 (x1,((0:Int),(x0,())))=_ from uR]
 cases qF (uM dA x0 x1) 0 x1.length<;>rfl
end fJ
namespace bX
abbrev S4:Type:=(Int×aFf)
abbrev O4:Type:=((Bool×Unit)⊕aFf)
abbrev S9:Type:=(Int×aFf)
abbrev O9:Type:=((Bool×Unit)⊕(bI×Unit))
abbrev S14:Type:=(Int×(bI×Unit))
abbrev O14:Type:=((Bool×Unit)⊕Unit)
def pre(_:aW)(k:bI):Bool:=tK k
def dAt(k:bI)(j:Nat):Bool:=aB (k.2.2.2.2.1.getD j (0:Int)) 0 100000&&nI (k.2.2.2.2.2.1.getD j sI)
def pre4:S4->Bool:=fun(x1,x2,x3,_)=>decide ((x3.1.length:Int)=x2.1)&&(x3.1.all (fun r:cL=>dJ r.2.2.1)&&pJ x3.1.length x1)
def fn4:S4->O4:=fun(x1,x2,x3,_)=>xV (fun j=>pP (x3.1.getD j oS)) x3.1.length x1 (x2,(x3,()))
def qD:S4->Nat:=fun(x1,_,x3,_)=>x3.1.length-x1.toNat
def pre9:S9->Bool:=fun(x1,_,x3,_)=>decide ((x3.2.2.1.length:Int)=2)&&(x3.2.2.1.all oW&&pJ x3.2.2.1.length x1)
def fn9:S9->O9:=fun(x1,x2,x3,_)=>xV (fun j=>jQ (x3.2.2.1.getD j vB) x2.1) x3.2.2.1.length x1 (x3,())
def mu9:S9->Nat:=fun(x1,_,x3,_)=>x3.2.2.1.length-x1.toNat
def pre14:S14->Bool:=fun(x1,x2,_)=>decide ((x2.2.2.2.2.1.length:Int)=4)&&(decide ((x2.2.2.2.2.2.1.length:Int)=4)&&pJ x2.2.2.2.2.1.length x1)
def fn14:S14->O14:=fun(x1,x2,_)=>xV (dAt x2) x2.2.2.2.2.1.length x1 ()
def aN0:S14->Nat:=fun(x1,x2,_)=>x2.2.2.2.2.1.length-x1.toNat
noncomputable def hJ(x1:Int)(x2:aW)(x3:bI):Option ((Int×aFf)⊕((Bool×Unit)⊕aFf)):=
 if(decide (x1<x2.1))=true then
 if(decide ((0:Int)<=x1))=true then
 if(decide (x1<((length x3.1:Nat):Int)))=true then
 if(lC.pre (List.getD x3.1 (Int.toNat x1) oS))=true then
 letB (pP (List.getD x3.1 (Int.toNat x1) oS)) fun v1=>
 if(!v1)=true then
 some (.inr (.inl (false,())))
 else
 some (.inl ((wrap .i64 (x1+(1:Int))),(x2,(x3,()))))
 else
 none
 else
 none
 else
 none
 else
 some (.inr (.inr (x2,(x3,()))))
noncomputable def aEd(x1:Int)(x2:aW)(x3:bI):Option ((Int×aFf)⊕((Bool×Unit)⊕(bI×Unit))):=
 if(decide (x1<(2:Int)))=true then
 if(decide ((0:Int)<=x1))=true then
 if(decide (x1<((length x3.2.2.1:Nat):Int)))=true then
 if(gZ.pre (List.getD x3.2.2.1 (Int.toNat x1) vB) x2.1)=true then
 letB (jQ (List.getD x3.2.2.1 (Int.toNat x1) vB) x2.1) fun v1=>
 if(!v1)=true then
 some (.inr (.inl (false,())))
 else
 some (.inl ((wrap .i64 (x1+(1:Int))),(x2,(x3,()))))
 else
 none
 else
 none
 else
 none
 else
 some (.inr (.inr (x3,())))
noncomputable def aL9(x1:Int)(x2:bI):Option ((Int×(bI×Unit))⊕((Bool×Unit)⊕Unit)):=
 if(decide (x1<(4:Int)))=true then
 if(decide ((0:Int)<=x1))=true then
 if(decide (x1<((length x2.2.2.2.2.1:Nat):Int)))=true then
 letB (aB (List.getD x2.2.2.2.2.1 (Int.toNat x1) (0:Int)) (0:Int) (100000:Int)) fun v1=>
 if(!v1)=true then
 some (.inr (.inl (false,())))
 else
 if(decide ((0:Int)<=x1))=true then
 if(decide (x1<((length x2.2.2.2.2.2.1:Nat):Int)))=true then
 if(jJ.pre (List.getD x2.2.2.2.2.2.1 (Int.toNat x1) sI))=true then
 letB (nI (List.getD x2.2.2.2.2.2.1 (Int.toNat x1) sI)) fun v2=>
 if(!v2)=true then
 some (.inr (.inl (false,())))
 else
 some (.inl ((wrap .i64 (x1+(1:Int))),(x2,())))
 else
 none
 else
 none
 else
 none
 else
 none
 else
 none
 else
 some (.inr (.inr ()))
abbrev wf(x0:aW)(x1:bI):Prop:=fV [(.val wI .f),(.val zk1 .f)] (x0,(x1,()))
noncomputable def aR(x0:aW)(x1:bI):Option lA:=
 letB (dQ x0) fun v1=>
 if(!v1)=true then
  some ((),(false,()))
 else
  if(!(decide (((length x1.1:Nat):Int)=x0.1)))=true then
   some ((),(false,()))
  else
   if(!(decide (((length x1.2.2.1:Nat):Int)=(2:Int))))=true then
    some ((),(false,()))
   else
    if(!(decide (((length x1.2.2.2.2.1:Nat):Int)=(4:Int))))=true then
     some ((),(false,()))
    else
     if(!(decide (((length x1.2.2.2.2.2.1:Nat):Int)=(4:Int))))=true then
      some ((),(false,()))
     else
      letB (aB x1.2.2.2.1 (0:Int) (100000:Int)) fun v2=>
      if(!v2)=true then
       some ((),(false,()))
      else
       if(fJ.pre x0 x1.2.1)=true then
        letB (fJ x0 x1.2.1) fun v3=>
        if(!v3)=true then
         some ((),(false,()))
        else
         if(bX.pre4 ((0:Int),(x0,(x1,()))))=true then
          letB (bX.fn4 ((0:Int),(x0,(x1,())))) fun v4=>
          match v4 with
          |.inl y=>
           some ((),y)
          |.inr y=>
           if(bX.pre9 ((0:Int),y))=true then
            letB (bX.fn9 ((0:Int),y)) fun v5=>
            match v5 with
            |.inl y_1=>
             some ((),y_1)
            |.inr y_1=>
             if(bX.pre14 ((0:Int),y_1))=true then
              letB (bX.fn14 ((0:Int),y_1)) fun v6=>
              match v6 with
              |.inl y_2=>
               some ((),y_2)
              |.inr y_2=>
               some ((),(true,()))
             else
              none
           else
            none
         else
          none
       else
        none
theorem yT(x1:Int)(x2:aW)(x3:bI)(hp:pre4 (x1,(x2,(x3,())))=true):Rounds pre4 qD fn4 (x1,(x2,(x3,()))) (hJ x1 x2 x3):=by
 simp only[pre4,Zb,Za] at hp
 obtain⟨hl,hs,ha⟩:=hp
 obtain⟨h1,h2,h3⟩:=mO ha
 unfold hJ
 by_cases hlt:x1<(x3.1.length:Int)
 . obtain⟨n1,n2,n3,n4⟩:=rS ha hlt
   have hlt':x1<x2.1:=by omega
   have nxt:pP (x3.1.getD x1.toNat oS)=true->Rounds pre4 qD fn4 (x1,(x2,(x3,()))) (some (.inl (x1+1,(x2,(x3,()))))):=
    fun h=>⟨by simp only[pre4,n2,hs,hl];simp,n3,rO (ok:=fun j=>pP (x3.1.getD j oS)) ha hlt h⟩
   have stp:pP (x3.1.getD x1.toNat oS)=false->Rounds pre4 qD fn4 (x1,(x2,(x3,()))) (some (.inr (.inl (false,())))):=fun h=>rR (ok:=fun j=>pP (x3.1.getD j oS)) ha hlt h
   have hq:lC.pre (x3.1.getD x1.toNat oS)=true:=aC0 hs (show x1.toNat<x3.1.length by omega) _
   simp only[letB,n1,hlt,hlt',h2,hq,decide_true,if_true]
   generalize pP (x3.1.getD x1.toNat oS)=b at *
   cases b
   . exact stp rfl
   . exact nxt rfl
 . rw[if_neg (by rw[Za];omega)]
   exact uT ha hlt
theorem ok9(x1:Int)(x2:aW)(x3:bI)(hp:pre9 (x1,(x2,(x3,())))=true):Rounds pre9 mu9 fn9 (x1,(x2,(x3,()))) (aEd x1 x2 x3):=by
 simp only[pre9,Zb,Za] at hp
 obtain⟨hl,hs,ha⟩:=hp
 obtain⟨h1,h2,h3⟩:=mO ha
 unfold aEd
 by_cases hlt:x1<(x3.2.2.1.length:Int)
 . obtain⟨n1,n2,n3,n4⟩:=rS ha hlt
   have hlt':x1<2:=by omega
   have nxt:jQ (x3.2.2.1.getD x1.toNat vB) x2.1=true->Rounds pre9 mu9 fn9 (x1,(x2,(x3,()))) (some (.inl (x1+1,(x2,(x3,()))))):=
    fun h=>⟨by simp only[pre9,n2,hs,hl];simp,n3,rO (ok:=fun j=>jQ (x3.2.2.1.getD j vB) x2.1) ha hlt h⟩
   have stp:jQ (x3.2.2.1.getD x1.toNat vB) x2.1=false->Rounds pre9 mu9 fn9 (x1,(x2,(x3,()))) (some (.inr (.inl (false,())))):=fun h=>rR (ok:=fun j=>jQ (x3.2.2.1.getD j vB) x2.1) ha hlt h
   have hq:gZ.pre (x3.2.2.1.getD x1.toNat vB) x2.1=true:=aC0 hs (show x1.toNat<x3.2.2.1.length by omega) _
   simp only[letB,n1,hlt,hlt',h2,hq,decide_true,if_true]
   generalize jQ (x3.2.2.1.getD x1.toNat vB) x2.1=b at *
   cases b
   . exact stp rfl
   . exact nxt rfl
 . rw[if_neg (by rw[Za];omega)]
   exact uT ha hlt
theorem aPh(x1:Int)(x2:bI)(hp:pre14 (x1,(x2,()))=true):Rounds pre14 aN0 fn14 (x1,(x2,())) (aL9 x1 x2):=by
 simp only[pre14,Zb,Za] at hp
 obtain⟨hl,hs,ha⟩:=hp
 obtain⟨h1,h2,h3⟩:=mO ha
 unfold aL9
 by_cases hlt:x1<(x2.2.2.2.2.1.length:Int)
 . obtain⟨n1,n2,n3,n4⟩:=rS ha hlt
   have hlt':x1<4:=by omega
   have hlt2:x1<(x2.2.2.2.2.2.1.length:Int):=by omega
   have nxt:dAt x2 x1.toNat=true->Rounds pre14 aN0 fn14 (x1,(x2,())) (some (.inl (x1+1,(x2,())))):=
    fun h=>⟨by simp only[pre14,n2,hs,hl];simp,n3,rO ha hlt h⟩
   have stp:dAt x2 x1.toNat=false->Rounds pre14 aN0 fn14 (x1,(x2,())) (some (.inr (.inl (false,())))):=fun h=>rR ha hlt h
   have hq:jJ.pre (x2.2.2.2.2.2.1.getD x1.toNat sI)=true:=Zd (Int.le_refl _)
   simp only[letB,n1,hlt,hlt',hlt2,h2,hq,decide_true,if_true]
   simp only[dAt] at nxt stp
   generalize nI (x2.2.2.2.2.2.1.getD x1.toNat sI)=b at *
   generalize aB (x2.2.2.2.2.1.getD x1.toNat (0:Int)) 0 100000=c at *
   cases c<;>cases b
   . exact stp rfl
   . exact stp rfl
   . exact stp rfl
   . exact nxt rfl
 . rw[if_neg (by rw[Za];omega)]
   exact uT ha hlt
theorem eq(x0:aW)(x1:bI)(_:wf x0 x1)(hp:pre x0 x1=true):aR x0 x1=some ((),(bX x0 x1,())):=by
 have hp:tK x1=true:=hp
 simp only[tK,Zb] at hp
 obtain⟨a1,a2,a3,a4,a5,a6,a7,a8⟩:=hp
 unfold aR bX vY
 simp only[letB]
 cases dQ x0
 . rfl
 by_cases b1:(x1.1.length:Int)=x0.1
 case neg=>rw[if_neg (by decide),if_pos (by simp[b1]),decide_eq_false b1];rfl
 rw[if_neg (by decide),if_neg (by simp[b1]),Zd b1]
 by_cases b2:(x1.2.2.1.length:Int)=2
 case neg=>rw[if_pos (by simp[b2]),decide_eq_false b2];rfl
 rw[if_neg (by simp[b2]),Zd b2]
 by_cases b3:(x1.2.2.2.2.1.length:Int)=4
 case neg=>rw[if_pos (by simp[b3]),decide_eq_false b3];cases aB x1.2.2.2.1 0 100000<;>rfl
 rw[if_neg (by simp[b3]),Zd b3]
 by_cases b4:(x1.2.2.2.2.2.1.length:Int)=4
 case neg=>rw[if_pos (by simp[b4]),decide_eq_false b4];cases aB x1.2.2.2.1 0 100000<;>cases bD x1.2.2.2.2.1 0 100000<;>rfl
 rw[if_neg (by simp[b4]),Zd b4]
 cases aB x1.2.2.2.1 0 100000
 . rfl
 rw[if_neg (by decide),if_pos (show fJ.pre x0 x1.2.1=true by simp only[fJ.pre,a3,a4];rfl)]
 unfold fJ
 cases qF (uM dA x0 x1.2.1) 0 x1.2.1.length
 . cases bD x1.2.2.2.2.1 0 100000<;>rfl
 rw[if_neg (by decide),if_pos (show pre4 ((0:Int),(x0,(x1,())))=true by simp only[pre4,pO (cC.1 a1),a2,Zd b1];rfl),
  show fn4 ((0:Int),(x0,(x1,())))=_ from uR,show qF (fun j=>pP (x1.1.getD j oS)) 0 x1.1.length=x1.1.all pP from yP]
 cases x1.1.all pP
 . cases bD x1.2.2.2.2.1 0 100000<;>rfl
 simp only[cond_true]
 rw[if_pos (show pre9 ((0:Int),(x0,(x1,())))=true by simp only[pre9,pO (cC.1 a5),a6,Zd b2];rfl),
  show fn9 ((0:Int),(x0,(x1,())))=_ from uR,show qF (fun j=>jQ (x1.2.2.1.getD j vB) x0.1) 0 x1.2.2.1.length=x1.2.2.1.all (fun g=>jQ g x0.1) from yP (p:=fun g=>jQ g x0.1)]
 cases x1.2.2.1.all (fun g=>jQ g x0.1)
 . cases bD x1.2.2.2.2.1 0 100000<;>rfl
 simp only[cond_true]
 rw[if_pos (show pre14 ((0:Int),(x1,()))=true by simp only[pre14,pO (cC.1 a7),Zd b3,Zd b4];rfl),
  show fn14 ((0:Int),(x1,()))=_ from uR,show qF (dAt x1) 0 x1.2.2.2.2.1.length=(bD x1.2.2.2.2.1 0 100000&&x1.2.2.2.2.2.1.all nI) by
   rw[show dAt x1=fun j=>aB (x1.2.2.2.2.1.getD j (0:Int)) 0 100000&&nI (x1.2.2.2.2.2.1.getD j sI) from rfl,aEV]
   refine congr (congrArg _ (yP (p:=fun n=>aB n 0 100000))) ?_
   rw[show x1.2.2.2.2.1.length=x1.2.2.2.2.2.1.length by omega]
   exact yP]
 cases bD x1.2.2.2.2.1 0 100000<;>cases x1.2.2.2.2.2.1.all nI<;>rfl
end bX
def uQ(ko:aW->bI->Bool)(p:aW)(h:jV):Bool:=aB h.1 0 300&&(aB h.2.1 (-1) 4&&(rK h.2.2.1&&(decide ((zO h.2.2.1).2<=h.1)&&ko p h.2.2.2.1)))
def cM(p:aW)(h:jV):Bool:=uQ dO p h
def cO(p:aW)(h:jV):Bool:=uQ bX p h
namespace cM
def pre(_:aW)(h:jV):Bool:=tK h.2.2.2.1
abbrev wf(x0:aW)(x1:rL):Prop:=fV [(.val wI .f),(.val aF1 .f)] (x0,(x1,()))
noncomputable def aR(x0:aW)(x1:rL):Option lA:=
 letB (aB x1.1 (0:Int) (300:Int)) fun v1=>
 if v1=true then
 letB (aB x1.2.1 (-1:Int) (4:Int)) fun v2=>
 if v2=true then
 letB (rK x1.2.2.1) fun v3=>
 if v3=true then
 letB (zO x1.2.2.1) fun v4=>
 if(decide (v4.2<=x1.1))=true then
 if(dO.pre x0 x1.2.2.2.1)=true then
 letB (dO x0 x1.2.2.2.1) fun v5=>
 some ((),(v5,()))
 else
 none
 else
 some ((),(false,()))
 else
 some ((),(false,()))
 else
 some ((),(false,()))
 else
 some ((),(false,()))
theorem eq(x0:aW)(x1:jV)(_:wf x0 x1)(hp:pre x0 x1=true):aR x0 x1=some ((),(cM x0 x1,())):=by
 unfold aR cM uQ
 rw[show dO.pre x0 x1.2.2.2.1=true from hp]
 simp only[letB]
 cases aB x1.1 0 300<;>cases aB x1.2.1 (-1) 4<;>cases rK x1.2.2.1<;>cases decide ((zO x1.2.2.1).2<=x1.1)<;>rfl
end cM
namespace cO
def pre(_:aW)(h:jV):Bool:=tK h.2.2.2.1
abbrev wf(x0:aW)(x1:rL):Prop:=fV [(.val wI .f),(.val aF1 .f)] (x0,(x1,()))
noncomputable def aR(x0:aW)(x1:rL):Option lA:=
 letB (aB x1.1 (0:Int) (300:Int)) fun v1=>
 if v1=true then
 letB (aB x1.2.1 (-1:Int) (4:Int)) fun v2=>
 if v2=true then
 letB (rK x1.2.2.1) fun v3=>
 if v3=true then
 letB (zO x1.2.2.1) fun v4=>
 if(decide (v4.2<=x1.1))=true then
 if(bX.pre x0 x1.2.2.2.1)=true then
 letB (bX x0 x1.2.2.2.1) fun v5=>
 some ((),(v5,()))
 else
 none
 else
 some ((),(false,()))
 else
 some ((),(false,()))
 else
 some ((),(false,()))
 else
 some ((),(false,()))
theorem eq(x0:aW)(x1:jV)(_:wf x0 x1)(hp:pre x0 x1=true):aR x0 x1=some ((),(cO x0 x1,())):=by
 unfold aR cO uQ
 rw[show bX.pre x0 x1.2.2.2.1=true from hp]
 simp only[letB]
 cases aB x1.1 0 300<;>cases aB x1.2.1 (-1) 4<;>cases rK x1.2.2.1<;>cases decide ((zO x1.2.2.1).2<=x1.1)<;>rfl
end cO
theorem aIW{g:aJ}:oW g=true↔g.2.1.length<=16777216/\g.2.2.1.length<=16777216/\g.2.2.2.1.length<=16777216:=by
 simp only[oW,Zb,cC]
def aO8{α:Type}(xs:List α):Bool:=decide (xs.length<=16777000)
theorem aLT{α:Type}{xs:List α}:aO8 xs=true↔xs.length<=16777000:=by simp[aO8]
theorem zD{α:Type}{xs:List α}{j:Nat}(h:j<xs.length)(d:α):xs.getD j d∈xs:=by
 rw[eZ h];exact List.getElem_mem _
theorem aAL{α:Type}{xs:List α}{x:α}(h:x∈xs)(d:α):∃j,j<xs.length/\xs.getD j d=x:=by
 obtain⟨j,hj,rfl⟩:=List.mem_iff_getElem.1 h
 exact⟨j,hj,eZ hj⟩
theorem yI{α:Type}{R:α->α->Prop}(tr:∀a b c,R a b->R b c->R a c)(d:α):(xs:List α)->(∀j,0<j->j<xs.length->R (xs.getD (j-1) d) (xs.getD j d))->xs.Pairwise R
 |[],_=>List.Pairwise.nil
 |[a],_=>List.pairwise_singleton _ _
 |a::b::r,h=>by
  have ih:=yI tr d (b::r) fun j h0 h1=>by
   have:=h (j+1) (by omega) (by simpa using h1)
   match j,h0 with
   |j+1,_=>exact this
  have hab:R a b:=h 1 (by omega) (by simp)
  refine List.pairwise_cons.2 ⟨fun c hc=>?_,ih⟩
  rcases List.mem_cons.1 hc with rfl|hc
  . exact hab
  . exact tr _ _ _ hab ((List.pairwise_cons.1 ih).1 c hc)
theorem aAU{α:Type}{R:α->α->Prop}{d:α}{xs:List α}(h:xs.Pairwise R){j:Nat}(h0:0<j)(h1:j<xs.length):R (xs.getD (j-1) d) (xs.getD j d):=by
 rw[eZ h1,eZ (show j-1<xs.length by omega)]
 exact List.pairwise_iff_getElem.1 h _ _ _ _ (by omega)
theorem aG4{x:cL}:pP x=true↔(0<=x.1/\x.1<=x.2.1/\x.2.1<=100000/\x.2.2.1.length<=80)/\(∀it∈x.2.2.1,x.1<=it.1/\it.1<x.2.1/\aFr it=true)/\x.2.2.1.Pairwise (fun a b=>a.1<b.1):=by
 constructor
 . intro h
   simp only[pP,Zb,Za,aB,xW,wJ,Bool.or_eq_true] at h
   obtain⟨⟨h1,h2⟩,h3,h4,h5⟩:=h
   rw[iX (n:=x.2.1-1) (by omega) (by omega)] at h5
   refine⟨⟨h1,h2,h3,by omega⟩,fun it hit=>?_,yI (R:=fun(a b:eS)=>a.1<b.1) (fun _ _ _=>Int.lt_trans) wT _ fun j h0 h1=>?_⟩
   . obtain⟨j,hj,rfl⟩:=aAL hit wT
     have:=h5 j hj
     exact⟨this.1.1,by have:=this.1.2;omega,this.2.2⟩
   . have:=(h5 j h1).2.1
     rcases this with h|h
     . omega
     . exact h
 . rintro⟨⟨h1,h2,h3,h4⟩,h5,h6⟩
   simp only[pP,Zb,Za,aB,xW,wJ,Bool.or_eq_true]
   rw[iX (n:=x.2.1-1) (by omega) (by omega)]
   refine⟨⟨h1,h2⟩,h3,by omega,fun j hj=>?_⟩
   have:=h5 _ (zD hj wT)
   refine⟨⟨this.1,by have:=this.2.1;omega⟩,?_,this.2.2⟩
   rcases Nat.eq_zero_or_pos j with h|h
   . exact .inl h
   . exact .inr (aAU h6 h hj)
theorem aAn{g:aJ}{rows:Int}:jQ g rows=true↔(g.2.2.1.length=g.2.1.length/\(g.2.2.2.1.length:Int)=rows/\0<=g.1/\g.1<=100000)/\(∀m∈g.2.1,0<=m/\m<=3)/\g.2.1.Pairwise (·< ·)/\(∀b∈g.2.2.1,0<=b/\b<=100000)/\(∀o∈g.2.2.2.1,0<=o/\o<=100000):=by
 constructor
 . intro h
   simp only[jQ,Zb,Za,aB,xW,yM,Bool.or_eq_true,bD,Zu,wG,gN] at h
   obtain⟨h1,h2,⟨h3,h4⟩,h5,h6,h7⟩:=h
   refine⟨⟨by omega,h2,h3,h4⟩,fun m hm=>?_,yI (R:=fun(a b:Int)=>a<b) (fun _ _ _=>Int.lt_trans) (0:Int) _ fun j j0 j1=>?_,h6,h7⟩
   . obtain⟨j,hj,rfl⟩:=aAL hm (0:Int)
     exact(h5 j hj).1
   . rcases(h5 j j1).2 with h|h
     . omega
     . exact h
 . rintro⟨⟨h1,h2,h3,h4⟩,h5,h6,h7,h8⟩
   simp only[jQ,Zb,Za,aB,xW,yM,Bool.or_eq_true,bD,Zu,wG,gN]
   refine⟨by omega,h2,⟨h3,h4⟩,fun j hj=>⟨h5 _ (zD hj _),?_⟩,h7,h8⟩
   rcases Nat.eq_zero_or_pos j with h|h
   . exact .inl h
   . exact .inr (aAU h6 h hj)
theorem aK0:(l:List Int)->(a:Int)->(∀m∈l,a<=m/\m<=3)->l.Pairwise (·< ·)->l.length<=(4-a).toNat
 |[],_,_,_=>Nat.zero_le _
 |m::r,a,h,hp=>by
  have h1:=h m List.mem_cons_self
  have:=aK0 r (m+1) (fun x hx=>by have:=(List.pairwise_cons.1 hp).1 x hx;have:=h x (Zo _ hx);omega) (List.pairwise_cons.1 hp).2
  simp only[Zg];omega
theorem aKP{g:aJ}{rows:Int}(h:jQ g rows=true)(hr:rows<=4):oW g=true/\g.2.1.length<=4:=by
 obtain⟨⟨h1,h2,h3,h4⟩,h5,h6,h7,h8⟩:=aAn.1 h
 have:=aK0 g.2.1 0 h5 h6
 rw[aIW]
 omega
def aN2(m:aK)(w:Int):Prop:=0<=m.1/\m.1<=3/\0<=m.2.1/\m.2.1<=3/\0<=m.2.2.1/\m.2.2.1<=100000/\-1<=m.2.2.2.1/\m.2.2.2.1<=100000/\(m.2.2.2.2.1.length:Int)<=w/\(m.2.2.2.2.1.length:Int)<=m.2.2.2.1+1/\(0<=m.2.2.2.1->0<m.2.2.2.2.1.length)
def aBG(m:aK)(w:Int):Prop:=aN2 m w/\(∀j,j<m.2.2.2.2.1.length->(m.2.2.2.2.1.getD j nT).1=m.2.2.2.1-((m.2.2.2.2.1.length:Int)-1-j))/\(∀x∈m.2.2.2.2.1,0<=x.2.1/\x.2.1<=100000)/\m.2.2.2.2.1.Pairwise (fun a b=>a.2.1<b.2.1)
theorem aAT{xs:List eQ}:(∀j,j<xs.length->aEu xs j=true)↔xs.Pairwise (fun a b=>a.2.1<b.2.1):=by
 constructor
 . intro h
   refine yI (R:=fun(a b:eQ)=>a.2.1<b.2.1) (fun _ _ _=>Int.lt_trans) nT _ fun j h0 h1=>?_
   have:=h j h1
   simp only[aEu,Bool.or_eq_true,Za] at this
   rcases this with h|h
   . omega
   . exact h
 . intro h j hj
   simp only[aEu,Bool.or_eq_true,Za]
   rcases Nat.eq_zero_or_pos j with h0|h0
   . exact .inl h0
   . exact .inr (aAU h h0 hj)
theorem uL{m:aK}{w:Int}(hw:w<=1000000):dA m w=true↔aBG m w:=by
 constructor
 . intro h
   simp only[dA,Zb,Za,aAK,aB,xW,aDb,Bool.not_eq_true',Bool.and_eq_false_iff,Zv] at h
   obtain⟨h1,h2,h3,h4,⟨h5,h6⟩,⟨h7,h8⟩,⟨h9,h10⟩,h11,h12⟩:=h
   rw[iX (n:=m.2.2.2.1+1) (by omega) (by omega)] at h3
   refine⟨⟨h5,h6,h7,h8,h9,h10,h11,h12,h2,h3,fun h=>by omega⟩,fun j hj=>?_,fun x hx=>?_,aAT.1 fun j hj=>(h1 j hj).2.2⟩
   . have:=(h1 j hj).1
     rw[iX (n:=(m.2.2.2.2.1.length:Int)-1) (by omega) (by omega),iX (n:=(m.2.2.2.2.1.length:Int)-1-j) (by omega) (by omega),iX (by omega) (by omega)] at this
     exact this
   . obtain⟨j,hj,rfl⟩:=aAL hx nT
     exact(h1 j hj).2.1
 . rintro⟨⟨h5,h6,h7,h8,h9,h10,h11,h12,h2,h3,h4⟩,k1,k2,k3⟩
   simp only[dA,Zb,Za,aAK,aB,xW,aDb,Bool.not_eq_true',Bool.and_eq_false_iff,Zv]
   rw[iX (n:=m.2.2.2.1+1) (by omega) (by omega)]
   refine⟨fun j hj=>⟨?_,k2 _ (zD hj _),aAT.2 k3 j hj⟩,h2,h3,by omega,⟨h5,h6⟩,⟨h7,h8⟩,⟨h9,h10⟩,h11,h12⟩
   rw[iX (n:=(m.2.2.2.2.1.length:Int)-1) (by omega) (by omega),iX (n:=(m.2.2.2.2.1.length:Int)-1-j) (by omega) (by omega),iX (by omega) (by omega)]
   exact k1 j hj
theorem aD7{m:aK}{w:Int}(hw:w<=1000000)(h:aBG m w):dG m w=true:=by
 obtain⟨⟨h5,h6,h7,h8,h9,h10,h11,h12,h2,h3,h4⟩,k1,k2,k3⟩:=h
 simp only[dG,Zb,Za,aAK,aB,xW,aCY]
 refine⟨⟨⟨h5,h6⟩,⟨h7,h8⟩,⟨h9,h10⟩,h11,h12⟩,h2,?_,fun j hj=>⟨?_,k2 _ (zD hj _),aAT.2 k3 j hj⟩⟩
 . by_cases e:m.2.2.2.1=-1
   . rw[Zd e,Zd (p:=(m.2.2.2.2.1.length:Int)=0) (by omega)];rfl
   . rw[decide_eq_false e,decide_eq_false (p:=(m.2.2.2.2.1.length:Int)=0) (by have:=h4 (by omega);omega)];rfl
 . rw[iX (n:=m.2.2.2.1-(m.2.2.2.2.1.length:Int)) (by omega) (by omega),iX (n:=m.2.2.2.1-(m.2.2.2.2.1.length:Int)+1) (by omega) (by omega),iX (by omega) (by omega)]
   have:=k1 j hj
   omega
def ltM(a b:aK):Prop:=a.1<b.1\/(a.1=b.1/\a.2.1<b.2.1)
theorem tL{mk:aK->Int->Bool}{s:aW}{ms:List aK}:qF (uM mk s ms) 0 ms.length=true↔(∀m∈ms,mk m s.2.1=true/\m.1<s.1)/\ms.Pairwise ltM:=by
 rw[xW]
 constructor
 . intro h
   refine⟨fun m hm=>?_,yI (R:=ltM) (fun a b c=>by unfold ltM;omega) rF _ fun j h0 h1=>?_⟩
   . obtain⟨j,hj,rfl⟩:=aAL hm rF
     have:=h j hj
     simp only[uM,Zb,Za] at this
     exact⟨this.1,this.2.1⟩
   . have:=h j h1
     simp only[uM,Zb,Bool.or_eq_true,Za,Bool.not_eq_true',Bool.and_eq_false_iff,Zv] at this
     unfold ltM
     omega
 . rintro⟨h1,h2⟩ j hj
   have ha:=h1 _ (zD hj rF)
   simp only[uM,Zb,Bool.or_eq_true,Za,Bool.not_eq_true',Bool.and_eq_false_iff,Zv]
   refine⟨ha.1,ha.2,?_⟩
   rcases Nat.eq_zero_or_pos j with h0|h0
   . exact .inl h0
   . have:=aAU (d:=rF) h2 h0 hj
     unfold ltM at this
     omega
open Classical in
noncomputable def B(p:Prop):Bool:=decide p
def aOK(s:aW)(rows:List cL)(ms:List aK):Prop:=(∀m∈ms,aBG m s.2.1/\m.1<s.1/\∀x∈m.2.2.2.2.1,x.2.1<(rows.getD m.1.toNat oS).2.1)/\ms.Pairwise ltM
def aHK(s:aW)(k:bI):Prop:=
 (dQ s=true/\(k.1.length:Int)=s.1/\k.2.2.1.length=2/\k.2.2.2.2.1.length=4/\k.2.2.2.2.2.1.length=4/\0<=k.2.2.2.1/\k.2.2.2.1<=100000)/\(∀r∈k.1,pP r=true)/\(∀g∈k.2.2.1,jQ g s.1=true)/\(∀d∈k.2.2.2.2.1,0<=d/\d<=100000)/\(∀a∈k.2.2.2.2.2.1,nI a=true)/\aOK s k.1 k.2.1
theorem mG{s:aW}(h:dQ s=true):1<=s.1/\s.1<=4/\1<=s.2.1/\s.2.1<=5/\1<=s.2.2.1/\s.2.2.1<=8/\0<=s.2.2.2.1/\s.2.2.2.1<=60:=by
 simp only[dQ,aB,Zb,Za] at h
 omega
theorem aDw{s:aW}{k:bI}{mk:aK->Int->Bool}(hm:∀m w,w<=1000000->aBG m w->mk m w=true)(h:aHK s k):vY mk s k=true:=by
 obtain⟨⟨h0,h1,h2,h3,h4,h5,h6⟩,k1,k2,k3,k4,k5,k6⟩:=h
 have hs:=mG h0
 simp only[vY,Zb,Za,aB,bD,Zu]
 refine⟨h0,h1,by omega,⟨h5,h6⟩,by omega,k3,by omega,tL.2 ⟨fun m hm'=>⟨hm _ _ (by omega) (k5 m hm').1,(k5 m hm').2.1⟩,k6⟩,k1,k2,k4⟩
theorem aKg{s:aW}{k:bI}(h:aHK s k):bX s k=true:=aDw (fun _ _ hw h=>(uL hw).2 h) h
theorem aKy{s:aW}{k:bI}(h:aHK s k):dO s k=true:=aDw (fun _ _ hw h=>aD7 hw h) h
theorem aEx{α:Type}{f:α->Int}{n:Int}:(l:List α)->(a:Int)->(∀m∈l,a<=f m/\f m<n)->l.Pairwise (fun x y=>f x<f y)->l.length<=(n-a).toNat
 |[],_,_,_=>Nat.zero_le _
 |m::r,a,h,hp=>by
  have h1:=h m List.mem_cons_self
  have:=aEx (f:=f) (n:=n) r (f m+1) (fun x hx=>by have h2:f m<f x:=(List.pairwise_cons.1 hp).1 x hx;have:=h x (Zo _ hx);omega) (List.pairwise_cons.1 hp).2
  simp only[Zg];omega
theorem aOq{r:cL}(h:pP r=true):aO8 r.2.2.1=true/\dJ r.2.2.1=true:=by
 have:=(aG4.1 h).1.2.2.2
 rw[aLT,cC];omega
theorem not_true{b:Bool}(h:¬b=true):b=false:=by
 cases b
 . rfl
 . exact absurd rfl h
theorem aKd{s:aW}(h:dQ s=true):aHK s (uC s):=by
 have hs:=mG h
 rw[show uC s=aGn s.1 from if_pos h]
 refine⟨⟨h,by show((List.replicate _ _).length:Int)=s.1;rw[List.length_replicate];omega,by rfl,by rfl,by rfl,Int.le_refl _,by show(0:Int)<=100000;omega⟩,fun r hr=>?_,fun g hg=>?_,fun d hd=>?_,fun a ha=>?_,fun m hm=>absurd hm List.not_mem_nil,List.Pairwise.nil⟩
 . rw[List.eq_of_mem_replicate hr];decide
 . rw[List.eq_of_mem_replicate hg]
   unfold pQ
   rw[if_pos (by simp only[aB,Zb,Za];omega)]
   refine aAn.2 ⟨⟨rfl,by show((List.replicate _ _).length:Int)=s.1;rw[List.length_replicate];omega,by omega,by omega⟩,fun m hm=>absurd hm List.not_mem_nil,List.Pairwise.nil,fun b hb=>absurd hb List.not_mem_nil,fun o ho=>?_⟩
   rw[List.eq_of_mem_replicate ho];omega
 . rw[List.eq_of_mem_replicate hd];omega
 . rw[List.eq_of_mem_replicate ha];decide
def aJZ(s:aW)(k:bI):Prop:=
 (dQ s=true/\(k.1.length:Int)=s.1/\k.2.2.1.length=2/\k.2.2.2.2.1.length=4/\k.2.2.2.2.2.1.length=4/\0<=k.2.2.2.1/\k.2.2.2.1<=100000)/\(∀r∈k.1,pP r=true)/\(∀g∈k.2.2.1,jQ g s.1=true)/\(∀d∈k.2.2.2.2.1,0<=d/\d<=100000)/\(∀a∈k.2.2.2.2.2.1,nI a=true)/\(∀m∈k.2.1,aBG m s.2.1/\m.1<s.1)/\k.2.1.Pairwise ltM
theorem aKt{s:aW}{k:bI}:bX s k=true↔aJZ s k:=by
 constructor
 . intro h
   simp only[bX,vY,Zb,Za,aB,bD,Zu] at h
   obtain⟨h0,h1,h2,h3,h4,h5,h6,h7,h8,h9,h10⟩:=h
   have hs:=mG h0
   have hm:=tL.1 h7
   exact⟨⟨h0,h1,by omega,by omega,by omega,h3.1,h3.2⟩,h8,h9,h5,h10,fun m hm'=>⟨(uL (by omega)).1 (hm.1 m hm').1,(hm.1 m hm').2⟩,hm.2⟩
 . rintro⟨⟨h0,h1,h2,h3,h4,h5,h6⟩,k1,k2,k3,k4,k5,k6⟩
   have hs:=mG h0
   simp only[bX,vY,Zb,Za,aB,bD,Zu]
   exact⟨h0,h1,by omega,⟨h5,h6⟩,by omega,k3,by omega,tL.2 ⟨fun m hm=>⟨(uL (by omega)).2 (k5 m hm).1,(k5 m hm).2⟩,k6⟩,k1,k2,k4⟩
theorem aMC{s:aW}{k:bI}(h:aHK s k):aJZ s k:=⟨h.1,h.2.1,h.2.2.1,h.2.2.2.1,h.2.2.2.2.1,fun m hm=>⟨(h.2.2.2.2.2.1 m hm).1,(h.2.2.2.2.2.1 m hm).2.1⟩,h.2.2.2.2.2.2⟩
theorem aIr{w:Int}{ms:List aK}(h:∀m∈ms,aBG m w)(hp:ms.Pairwise ltM):ms.length<=16:=by
 have:=aEx (f:=fun m:aK=>4*m.1+m.2.1) (n:=16) ms 0 (fun m hm=>by
  obtain⟨⟨h1,h2,h3,h4,_⟩,_⟩:=h m hm
  omega) (List.Pairwise.imp_of_mem (fun{a b} ha hb hab=>by
   obtain⟨⟨h1,h2,h3,h4,_⟩,_⟩:=h a ha
   obtain⟨⟨g1,g2,g3,g4,_⟩,_⟩:=h b hb
   unfold ltM at hab
   omega) hp)
 omega
theorem aMq{s:aW}{k:bI}(h:aJZ s k):tK k=true/\k.2.1.length<=16:=by
 obtain⟨⟨h0,h1,h2,h3,h4,h5,h6⟩,k1,k2,k3,k4,k5,k6⟩:=h
 have hs:=mG h0
 have hm:=aIr (fun m hm=>(k5 m hm).1) k6
 simp only[tK,Zb,Zu,cC]
 refine⟨⟨by omega,fun r hr=>cC.1 (aOq (k1 r hr)).2,by omega,fun m hm=>?_,by omega,fun g hg=>(aKP (k2 g hg) hs.2.1).1,by omega,by omega⟩,hm⟩
 obtain⟨⟨⟨_,_,_,_,_,_,_,_,h2,_⟩,_⟩,_⟩:=k5 m hm
 omega
theorem aHl{b:List Int}:bR b=true↔∀x∈b,0<=x/\x<=255:=by
 simp only[bR,Zu,Zb,Za]
theorem aFu(t:List UInt8):bR (fT t)=true:=by
 rw[aHl]
 intro x hx
 obtain⟨c,_,rfl⟩:=List.mem_map.1 hx
 have:=c.toNat_lt
 omega
theorem aFq{α β:Type}{a b:β}{f:β->Option α}{v:Option α}(h:a=b)(r:f b=v):letB a f=v:=by subst h;exact r
theorem qN{α:Type}{g:α->Int}{c:Int}:(xs:List α)->(∀x∈xs,g x<=c)->bJ g xs<=xs.length*c
 |[],_=>by simp[bJ]
 |a::r,h=>by
  have h1:=h a List.mem_cons_self
  have h2:=qN r fun x hx=>h x (Zo _ hx)
  have e:((r.length+1:Nat):Int)*c=r.length*c+c:=by
   rw[Int.natCast_add,Int.add_mul];simp
  simp only[bJ,Zg]
  rw[e];omega
theorem aOT{l:List Int}(h:l.Pairwise (·< ·))(h2:∀m∈l,0<=m/\m<=3):l.length<=4:=by
 have:=aEx (f:=fun m:Int=>m) (n:=4) l 0 (fun m hm=>by have:=h2 m hm;omega) h
 omega
section
variable {α β:Type}
def bd(f:R->R×α)(g:α->R->R×β):R->R×β:=fun s=>g (f s).2 (f s).1
def rt(x:α):R->R×α:=fun s=>(s,x)
def kY(one:β->R->R×β)(good:Bool):Nat->β->R->R×β
 |0,b,s=>(s,b)
 |n+1,b,s=>if s.2.2.1=good then kY one good n (one b s).2 (one b s).1 else(s,b)
def aAh(one:β->R->R×β):Nat->β->R->R×β
 |0,b,s=>(s,b)
 |n+1,b,s=>aAh one n (one b s).2 (one b s).1
theorem uP(one:β->R->R×β)(good:Bool)(s:R)(b:β){n i:Int}(h:¬i<n):(s,b)=kY one good (n-i).toNat b s:=by
 rw[show(n-i).toNat=0 by omega];rfl
theorem tO(one:β->R->R×β)(good:Bool)(s:R)(b:β)(n:Nat)(h:¬s.2.2.1=good):(s,b)=kY one good n b s:=by
 cases n with
 |zero=>rfl
 |succ n=>exact(if_neg h).symm
theorem aAe(one:β->R->R×β)(good:Bool)(s:R)(b:β){n i:Int}(h:i<n)(hf:s.2.2.1=good):kY one good (n-(i+1)).toNat (one b s).2 (one b s).1=kY one good (n-i).toNat b s:=by
 rw[show(n-i).toNat=(n-(i+1)).toNat+1 by omega,kY,if_pos hf]
theorem aGq(one:β->R->R×β)(s:R)(b:β){n i:Int}(h:¬i<n):(s,b)=aAh one (n-i).toNat b s:=by
 rw[show(n-i).toNat=0 by omega];rfl
theorem aK8(one:β->R->R×β)(s:R)(b:β){n i:Int}(h:i<n):aAh one (n-(i+1)).toNat (one b s).2 (one b s).1=aAh one (n-i).toNat b s:=by
 rw[show(n-i).toNat=(n-(i+1)).toNat+1 by omega,aAh]
def lp(n i:Int)(c:Nat):Bool:=decide (n<=2147483647)&&(decide (0<=i)&&decide ((c:Int)<=i+1000))
theorem aEs{n i:Int}{c:Nat}(h:lp n i c=true):n<=2147483647/\0<=i/\(c:Int)<=i+1000:=by
 simpa only[lp,Zb,Za] using h
theorem aBa{n i:Int}{c:Nat}(h:lp n i c=true)(hlt:i<n):wrap .i64 (i+1)=i+1:=by
 have:=aEs h
 exact iX (by omega) (by omega)
theorem yY{n i:Int}{xs:List α}(h:lp n i xs.length=true)(_:i<n)(a:α):lp n (i+1) (xs++[a]).length=true:=by
 have:=aEs h
 simp only[lp,Zb,Za,Zf,Zg,Zh];omega
theorem aHU{n i:Int}{c:Nat}(h:lp n i c=true)(hlt:i<n):c<=4000000000:=by
 have:=aEs h
 omega
theorem aD6{xs:List α}(h:xs.length<=4000000000)(a:α):xs.length+length (a::([]:List α))<=lV:=by
 simp only[Zg,Zh,lV];omega
theorem aCG{n i:Int}{xs:List α}(h:lp n i xs.length=true)(hlt:i<n)(a:α):xs.length+length (a::([]:List α))<=lV:=aD6 (aHU h hlt) a
theorem aBb{n i:Int}(hlt:i<n):(n-(i+1)).toNat<(n-i).toNat:=by omega
theorem yB{n:Int}{c:Nat}(h:n<=2147483647)(hc:c<=1000):lp n 0 c=true:=by
 simp only[lp,Zb,Za];omega
theorem qI{a b:Bool}(h1:a=true)(h2:b=true):(a&&b)=true:=by rw[h1,h2];rfl
end
def Inb(s:R):Prop:=bR s.1=true/\s.1.length<=16777000/\0<=s.2.1/\s.2.1<=(s.1.length:Int)
def Adv(s t:R):Prop:=t.1=s.1/\(Inb s->Inb t/\s.2.1<=t.2.1)/\(t.2.2.1=true->s.2.2.1=true)
theorem aKF{s t u:R}(h1:Adv s t)(h2:Adv t u):Adv s u:=
 ⟨h2.1.trans h1.1,fun h=>⟨(h2.2.1 (h1.2.1 h).1).1,Int.le_trans (h1.2.1 h).2 (h2.2.1 (h1.2.1 h).1).2⟩,fun h=>h1.2.2 (h2.2.2 h)⟩
section
variable {α β:Type}
def Rk(f' f:R->R×α):Prop:=∀s,Adv s (f s).1/\(s.1.length<=16777000->f' (oZ s)=(oZ (f s).1,(f s).2))
def Fw(f:R->R×α):Prop:=∀s,Inb s->(f s).1.2.2.1=true->s.2.1<(f s).1.2.1
theorem zM(x:α):Rk (rt x) (rt x):=fun _=>⟨⟨rfl,fun h=>⟨h,Int.le_refl _⟩,id⟩,fun _=>rfl⟩
variable {f' f:R->R×α} {g' g:α->R->R×β}
theorem oG(h:Rk f' f)(hg:∀a,Rk (g' a) (g a)):Rk (bd f' g') (bd f g):=fun s=>by
 obtain⟨h1,h2⟩:=h s
 obtain⟨g1,g2⟩:=hg (f s).2 (f s).1
 refine⟨aKF h1 g1,fun hl=>?_⟩
 show g' (f' (oZ s)).2 (f' (oZ s)).1=_
 rw[h2 hl]
 exact g2 (by rw[h1.1];exact hl)
theorem aF9(h:Fw f)(hk:Rk f' f)(hg:∀a,Rk (g' a) (g a)):Fw (bd f g):=fun s hs ht=>by
 obtain⟨h1,_⟩:=hk s
 obtain⟨g1,_⟩:=hg (f s).2 (f s).1
 exact Int.lt_of_lt_of_le (h s hs (g1.2.2 ht)) (g1.2.1 (h1.2.1 hs).1).2
end
section
variable {β:Type} {one' one:β->R->R×β}
theorem aLO(h:∀b,Rk (one' b) (one b)):(n:Nat)->(b:β)->Rk (kY one' false n b) (kY one true n b)
 |0,b=>fun s=>zM b s
 |n+1,b=>fun s=>by
  by_cases hf:s.2.2.1=true
  . have e1:kY one true (n+1) b s=bd (one b) (kY one true n) s:=if_pos hf
    have e2:kY one' false (n+1) b (oZ s)=bd (one' b) (kY one' false n) (oZ s):=if_pos (by simp[oZ,hf])
    rw[e1,e2]
    exact oG (h b) (aLO h n) s
  . have e1:kY one true (n+1) b s=rt b s:=if_neg hf
    have e2:kY one' false (n+1) b (oZ s)=rt b (oZ s):=if_neg (by simpa [oZ] using hf)
    rw[e1,e2]
    exact zM b s
theorem aJA(h:∀b,Rk (one' b) (one b)):(n:Nat)->(b:β)->Rk (aAh one' n b) (aAh one n b)
 |0,b=>fun s=>zM b s
 |n+1,b=>fun s=>oG (h b) (aJA h n) s
theorem aHv{good:Bool}{P:β->Prop}(hp:∀b s,P b->P (one b s).2):(n:Nat)->(b:β)->(s:R)->P b->P (kY one good n b s).2
 |0,_,_,h=>h
 |n+1,b,s,h=>by
  by_cases hf:s.2.2.1=good
  . rw[show kY one good (n+1) b s=kY one good n (one b s).2 (one b s).1 from if_pos hf]
    exact aHv hp n _ _ (hp b s h)
  . rw[show kY one good (n+1) b s=(s,b) from if_neg hf]
    exact h
theorem aGA{P:β->Prop}(hp:∀b s,P b->P (one b s).2):(n:Nat)->(b:β)->(s:R)->P b->P (aAh one n b s).2
 |0,_,_,h=>h
 |n+1,b,s,h=>aGA hp n _ _ (hp b s h)
theorem aDD{c:β->Nat}(hc:∀b s,c (one b s).2<=c b+1):(n:Nat)->(b:β)->(s:R)->c (aAh one n b s).2<=c b+n
 |0,_,_=>Nat.le_refl _
 |n+1,b,s=>by
  have h1:=hc b s
  have h2:=aDD hc n (one b s).2 (one b s).1
  rw[aAh];omega
theorem aIt(hk:∀b,Rk (one' b) (one b)){P:β->Prop}(hp:∀b s,Inb s->P b->P (one b s).2):(n:Nat)->(b:β)->(s:R)->Inb s->P b->P (kY one true n b s).2
 |0,_,_,_,h=>h
 |n+1,b,s,hi,h=>by
  by_cases hf:s.2.2.1=true
  . rw[show kY one true (n+1) b s=kY one true n (one b s).2 (one b s).1 from if_pos hf]
    exact aIt hk hp n _ _ ((hk b s).1.2.1 hi).1 (hp b s hi h)
  . rw[show kY one true (n+1) b s=(s,b) from if_neg hf]
    exact h
theorem aHg(hk:∀b,Rk (one' b) (one b))(hw:∀b,Fw (one b)){c:β->Nat}(hc:∀b s,c (one b s).2<=c b+1):(n:Nat)->(b:β)->(s:R)->Inb s->(c (kY one true n b s).2:Int)<=c b+((s.1.length:Int)-s.2.1)+1
 |0,b,s,h=>by
  have:=h.2.2.2
  show(c b:Int)<=_
  omega
 |n+1,b,s,h=>by
  have h4:=h.2.2.2
  by_cases hf:s.2.2.1=true
  . rw[show kY one true (n+1) b s=kY one true n (one b s).2 (one b s).1 from if_pos hf]
    have h1:=hc b s
    obtain⟨a1,a2,a3⟩:=(hk b s).1
    obtain⟨i1,i2⟩:=a2 h
    by_cases hg:(one b s).1.2.2.1=true
    . have:=aHg hk hw hc n (one b s).2 (one b s).1 i1
      have h2:=hw b s h hg
      rw[a1] at this
      omega
    . rw[<-tO one true (one b s).1 (one b s).2 n hg]
      show(c (one b s).2:Int)<=_
      omega
  . rw[show kY one true (n+1) b s=(s,b) from if_neg hf]
    show(c b:Int)<=_
    omega
end
theorem wM(s:R):Adv s (aA s).1/\(Inb s->(aA s).1.2.2.1=true->s.2.1<(aA s).1.2.1):=by
 unfold aA aDQ
 split
 . rename_i h
   refine⟨⟨rfl,fun hs=>?_,fun _=>h.1⟩,fun hs _=>?_⟩
   . obtain⟨g0,g1,g2,g3,g4,g5⟩:=nC hs.1 h.2
     exact⟨⟨hs.1,hs.2.1,by show 0<=(dN s.1 s.2.1).2.1;omega,g4⟩,by show s.2.1<=(dN s.1 s.2.1).2.1;omega⟩
   . obtain⟨g0,g1,g2,g3,g4,g5⟩:=nC hs.1 h.2
     exact g3
 . exact⟨⟨rfl,fun hs=>⟨hs,Int.le_refl _⟩,fun h=>absurd h Bool.false_ne_true⟩,fun _ h=>absurd h Bool.false_ne_true⟩
theorem mX:Rk aC aA:=fun s=>⟨(wM s).1,fun h=>aC1 (by omega)⟩
theorem aG7:Fw aA:=fun s=>(wM s).2
theorem aFD:Rk aV aP:=fun s=>by
 refine⟨?_,fun h=>aEC (by omega)⟩
 unfold aP aE1
 split
 case isFalse=>exact⟨rfl,fun hs=>⟨hs,Int.le_refl _⟩,fun h=>absurd h Bool.false_ne_true⟩
 rename_i h
 refine⟨rfl,fun hs=>?_,fun _=>h.1⟩
 obtain⟨_,h⟩:=h
 unfold aDs at *
 by_cases hn:(dN s.1 s.2.1).2.2=true
 case neg=>rw[if_neg hn] at h;cases h
 rw[if_pos hn] at *
 obtain⟨g0,g1,g2,g3,g4,g5⟩:=nC hs.1 hn
 by_cases hl:(s.1.length:Int)-(dN s.1 s.2.1).2.1<(dN s.1 s.2.1).1
 . rw[if_pos hl] at h;cases h
 rw[if_neg hl]
 exact⟨⟨hs.1,hs.2.1,by show 0<=(dN s.1 s.2.1).2.1+(dN s.1 s.2.1).1;omega,by show(dN s.1 s.2.1).2.1+(dN s.1 s.2.1).1<=(s.1.length:Int);omega⟩,by show s.2.1<=(dN s.1 s.2.1).2.1+(dN s.1 s.2.1).1;omega⟩
section
variable (num:R->R×Int) (txt:R->R×List UInt8) (good:Bool)
def gS{β:Type}(one:β->R->R×β)(b:β):R->R×β:=bd num fun n=>kY one good (n-0).toNat b
def aK3:R->R×eS:=bd num fun a=>bd txt fun b=>bd txt fun c=>bd num fun d=>bd num fun e=>rt (a,(b,(c,(d,(e,())))))
def qA(x:cL):R->R×cL:=bd (aK3 num txt) fun e=>rt (x.1,(x.2.1,(x.2.2.1++[e],x.2.2.2)))
def aJh:R->R×cL:=bd num fun a=>bd num fun b=>gS num good (qA num txt) (a,(b,([],())))
def qB(m:aK):R->R×aK:=bd num fun a=>bd num fun b=>rt (m.1,(m.2.1,(m.2.2.1,(m.2.2.2.1,(m.2.2.2.2.1++[(a,(b,()))],m.2.2.2.2.2)))))
def aAM:R->R×aK:=bd num fun a=>bd num fun b=>bd num fun c=>bd num fun d=>gS num good (qB num) (a,(b,(c,(wrap .i64 (d-1),([],())))))
def nV(g:aJ):R->R×aJ:=bd num fun a=>bd num fun b=>rt (g.1,(g.2.1++[a],(g.2.2.1++[b],g.2.2.2)))
def uU(g:aJ):R->R×aJ:=bd num fun a=>rt (g.1,(g.2.1,(g.2.2.1,(g.2.2.2.1++[a],g.2.2.2.2))))
def aBD(rows:Int):R->R×aJ:=bd num fun a=>bd (gS num good (nV num) (a,([],([],([],()))))) fun g=>aAh (uU num) (rows-0).toNat g
def lX(k:bI):R->R×bI:=bd (aJh num txt good) fun r=>rt (k.1++[r],k.2)
def gR(k:bI):R->R×bI:=bd (aAM num good) fun m=>rt (k.1,(k.2.1++[m],k.2.2))
def fZ(rows:Int)(k:bI):R->R×bI:=bd (aBD num good rows) fun g=>rt (k.1,(k.2.1,(k.2.2.1++[g],k.2.2.2)))
def qY(k:bI):R->R×bI:=bd num fun a=>bd num fun b=>bd num fun c=>bd txt fun d=>bd txt fun e=>
 rt (k.1,(k.2.1,(k.2.2.1,(k.2.2.2.1,(k.2.2.2.2.1++[a],(k.2.2.2.2.2.1++[(b,(wrap .i64 (c-1),(d,(e,()))))],k.2.2.2.2.2.2))))))
def aCI(k:bI):R->R×bI:=bd num fun t=>aAh (qY num txt) (4-0:Int).toNat (k.1,(k.2.1,(k.2.2.1,(t,k.2.2.2.2))))
def aE6(rows:Int)(k:bI):R->R×bI:=bd (gS num good (fZ num good rows) k) (aCI num txt)
def aEw(rows:Int)(k:bI):R->R×bI:=bd (gS num good (gR num good) k) (aE6 num txt good rows)
def aDL(rows:Int):R->R×bI:=bd (gS num good (lX num txt good) mD) (aEw num txt good rows)
end
theorem uA{β:Type}{one' one:β->R->R×β}(h:∀b,Rk (one' b) (one b))(b:β):Rk (gS aC false one' b) (gS aA true one b):=oG mX fun _=>aLO h _ b
theorem aM5:Rk (aK3 aC aV) (aK3 aA aP):=oG mX fun _=>oG aFD fun _=>oG aFD fun _=>oG mX fun _=>oG mX fun _=>zM _
theorem aO9:Fw (aK3 aA aP):=aF9 aG7 mX fun _=>oG aFD fun _=>oG aFD fun _=>oG mX fun _=>oG mX fun _=>zM _
theorem aCH(x:cL):Rk (qA aC aV x) (qA aA aP x):=oG aM5 fun _=>zM _
theorem aKb(x:cL):Fw (qA aA aP x):=aF9 aO9 aM5 fun _=>zM _
theorem aNn:Rk (aJh aC aV false) (aJh aA aP true):=oG mX fun _=>oG mX fun _=>uA aCH _
theorem aOA:Fw (aJh aA aP true):=aF9 aG7 mX fun _=>oG mX fun _=>uA aCH _
theorem aB6(m:aK):Rk (qB aC m) (qB aA m):=oG mX fun _=>oG mX fun _=>zM _
theorem aKE(m:aK):Fw (qB aA m):=aF9 aG7 mX fun _=>oG mX fun _=>zM _
theorem aJx:Rk (aAM aC false) (aAM aA true):=oG mX fun _=>oG mX fun _=>oG mX fun _=>oG mX fun _=>uA aB6 _
theorem aME:Fw (aAM aA true):=aF9 aG7 mX fun _=>oG mX fun _=>oG mX fun _=>oG mX fun _=>uA aB6 _
theorem aCj(g:aJ):Rk (nV aC g) (nV aA g):=oG mX fun _=>oG mX fun _=>zM _
theorem aI9(g:aJ):Fw (nV aA g):=aF9 aG7 mX fun _=>oG mX fun _=>zM _
theorem aHo(g:aJ):Rk (uU aC g) (uU aA g):=oG mX fun _=>zM _
theorem aJX(rows:Int):Rk (aBD aC false rows) (aBD aA true rows):=oG mX fun _=>oG (uA aCj _) fun _=>aJA aHo _ _
theorem aMJ(rows:Int):Fw (aBD aA true rows):=aF9 aG7 mX fun _=>oG (uA aCj _) fun _=>aJA aHo _ _
theorem aAs(k:bI):Rk (lX aC aV false k) (lX aA aP true k):=oG aNn fun _=>zM _
theorem aLu(k:bI):Fw (lX aA aP true k):=aF9 aOA aNn fun _=>zM _
theorem wV(k:bI):Rk (gR aC false k) (gR aA true k):=oG aJx fun _=>zM _
theorem aIG(k:bI):Fw (gR aA true k):=aF9 aME aJx fun _=>zM _
theorem aBM(rows:Int)(k:bI):Rk (fZ aC false rows k) (fZ aA true rows k):=oG (aJX rows) fun _=>zM _
theorem aIK(rows:Int)(k:bI):Fw (fZ aA true rows k):=aF9 (aMJ rows) (aJX rows) fun _=>zM _
theorem aKw(k:bI):Rk (qY aC aV k) (qY aA aP k):=oG mX fun _=>oG mX fun _=>oG mX fun _=>oG aFD fun _=>oG aFD fun _=>zM _
theorem aNz(rows:Int):Rk (aDL aC aV false rows) (aDL aA aP true rows):=
 oG (uA aAs _) fun _=>oG (uA wV _) fun _=>oG (uA (aBM rows) _) fun _=>oG mX fun _=>aJA aKw _ _
section
variable {β:Type} {one' one:β->R->R×β}
theorem wR(hk:∀b,Rk (one' b) (one b))(hw:∀b,Fw (one b)){c:β->Nat}(hc:∀b s,c (one b s).2<=c b+1)(b:β)(s:R)(hs:Inb s):c (gS aA true one b s).2<=c b+16777001:=by
 have h1:=((wM s).1.2.1 hs).1
 have:=aHg hk hw hc ((aA s).2-0).toNat b (aA s).1 h1
 show c (kY one true ((aA s).2-0).toNat b (aA s).1).2<=_
 obtain⟨_,h2,h3,_⟩:=h1
 omega
theorem aCe(hk:∀b,Rk (one' b) (one b)){P:β->Prop}(hp:∀b s,Inb s->P b->P (one b s).2)(b:β)(s:R)(hs:Inb s)(h:P b):P (gS aA true one b s).2:=
 aIt hk hp _ b _ ((wM s).1.2.1 hs).1 h
theorem sT{num:R->R×Int}{good:Bool}{P:β->Prop}(hp:∀b s,P b->P (one b s).2)(b:β)(s:R)(h:P b):P (gS num good one b s).2:=aHv hp _ b _ h
end
theorem aFh{α:Type}(xs:List α)(a:α):(xs++[a]).length<=xs.length+1:=by simp
theorem aOh{s:R}(h:Inb s):dJ (aJh aA aP true s).2.2.2.1=true:=by
 have h1:=((wM s).1.2.1 h).1
 have h2:=((wM (aA s).1).1.2.1 h1).1
 have:=wR aCH aKb (c:=fun x:cL=>x.2.2.1.length) (fun b s=>aFh _ _) ((aA s).2,((aA (aA s).1).2,([],()))) (aA (aA s).1).1 h2
 exact cC.2 (Nat.le_trans this (by show 0+16777001<=16777216;decide))
theorem aNc{s:R}(h:Inb s):dJ (aAM aA true s).2.2.2.2.2.1=true/\∀x∈(aAM aA true s).2.2.2.2.2.1,0<=x.1:=by
 have h1:=((wM s).1.2.1 h).1
 have h2:=((wM (aA s).1).1.2.1 h1).1
 have h3:=((wM (aA (aA s).1).1).1.2.1 h2).1
 have h4:=((wM (aA (aA (aA s).1).1).1).1.2.1 h3).1
 refine⟨cC.2 (Nat.le_trans (wR aB6 aKE (c:=fun x:aK=>x.2.2.2.2.1.length) (fun b s=>aFh _ _) _ _ h4) (by show 0+16777001<=16777216;decide)),?_⟩
 refine aCe aB6 (P:=fun x:aK=>∀y∈x.2.2.2.2.1,0<=y.1) (fun b s hs hb y hy=>?_) _ _ h4 (fun y hy=>absurd hy List.not_mem_nil)
 rcases Zp.1 hy with hy|hy
 . exact hb y hy
 . rw[Zq.1 hy]
   exact(kG hs.1).1
theorem aMQ{s:R}{rows:Int}(hr:rows<=1000)(h:Inb s):oW (aBD aA true rows s).2=true:=by
 have h1:=((wM s).1.2.1 h).1
 have c1:=wR aCj aI9 (c:=fun g:aJ=>g.2.1.length) (fun b s=>aFh _ _) ((aA s).2,([],([],([],())))) (aA s).1 h1
 have c2:=wR aCj aI9 (c:=fun g:aJ=>g.2.2.1.length) (fun b s=>aFh _ _) ((aA s).2,([],([],([],())))) (aA s).1 h1
 have c3:=sT (num:=aA) (good:=true) (one:=nV aA) (P:=fun g:aJ=>g.2.2.2.1=[]) (fun _ _ h=>h) ((aA s).2,([],([],([],())))) (aA s).1 rfl
 show oW (aAh (uU aA) (rows-0).toNat (gS aA true (nV aA) ((aA s).2,([],([],([],())))) (aA s).1).2 (gS aA true (nV aA) ((aA s).2,([],([],([],())))) (aA s).1).1).2=true
 generalize gS aA true (nV aA) ((aA s).2,([],([],([],())))) (aA s).1=v at *
 have d1:=aGA (one:=uU aA) (P:=fun g:aJ=>g.2.1=v.2.2.1/\g.2.2.1=v.2.2.2.1) (fun _ _ h=>h) (rows-0).toNat v.2 v.1 ⟨rfl,rfl⟩
 have d2:=aDD (one:=uU aA) (c:=fun g:aJ=>g.2.2.2.1.length) (fun b s=>aFh _ _) (rows-0).toNat v.2 v.1
 simp only[c3,Zh] at d2
 simp only[oW,Zb,cC,d1.1,d1.2]
 simp only[Zh] at c1 c2
 exact⟨by omega,by omega,by omega⟩
theorem aNI{s:R}{rows:Int}(hr:rows<=1000)(h:Inb s):tK (aDL aA aP true rows s).2=true/\∀m∈(aDL aA aP true rows s).2.2.1,∀x∈m.2.2.2.2.1,0<=x.1:=by
 have a1:=wR aAs aLu (c:=fun k:bI=>k.1.length) (fun b s=>aFh _ _) mD s h
 have a2:=aCe aAs (P:=fun k:bI=>(∀r∈k.1,dJ r.2.2.1=true)/\k.2=mD.2) (fun b t ht hb=>⟨fun r hr=>by
  rcases Zp.1 hr with hr|hr
  . exact hb.1 r hr
  . rw[Zq.1 hr];exact aOh ht,hb.2⟩) mD s h ⟨fun r hr=>absurd hr List.not_mem_nil,rfl⟩
 have a3:=((uA aAs mD s).1.2.1 h).1
 unfold aDL bd
 generalize gS aA true (lX aA aP true) mD s=v1 at *
 have b1:=wR wV aIG (c:=fun k:bI=>k.2.1.length) (fun b s=>aFh _ _) v1.2 v1.1 a3
 have b2:=aCe wV (P:=fun k:bI=>k.1=v1.2.1/\(∀m∈k.2.1,dJ m.2.2.2.2.1=true/\∀x∈m.2.2.2.2.1,0<=x.1)/\k.2.2=mD.2.2) (fun b t ht hb=>⟨hb.1,fun r hr=>by
  rcases Zp.1 hr with hr|hr
  . exact hb.2.1 r hr
  . rw[Zq.1 hr];exact aNc ht,hb.2.2⟩) v1.2 v1.1 a3 ⟨rfl,fun r hr=>by rw[a2.2] at hr;exact absurd hr List.not_mem_nil,by rw[a2.2]⟩
 have b3:=((uA wV v1.2 v1.1).1.2.1 a3).1
 unfold aEw bd
 rw[a2.2] at b1
 generalize gS aA true (gR aA true) v1.2 v1.1=v2 at *
 have c1:=wR (aBM rows) (aIK rows) (c:=fun k:bI=>k.2.2.1.length) (fun b s=>aFh _ _) v2.2 v2.1 b3
 have c2:=aCe (aBM rows) (P:=fun k:bI=>k.1=v2.2.1/\k.2.1=v2.2.2.1/\(∀g∈k.2.2.1,oW g=true)/\k.2.2.2=mD.2.2.2) (fun b t ht hb=>⟨hb.1,hb.2.1,fun r hr0=>by
  rcases Zp.1 hr0 with hr'|hr'
  . exact hb.2.2.1 r hr'
  . rw[Zq.1 hr'];exact aMQ hr ht,hb.2.2.2⟩) v2.2 v2.1 b3 ⟨rfl,rfl,fun r hr=>by rw[b2.2.2] at hr;exact absurd hr List.not_mem_nil,by rw[b2.2.2]⟩
 rw[b2.2.2] at c1
 unfold aE6 bd
 generalize gS aA true (fZ aA true rows) v2.2 v2.1=v3 at *
 simp only[aCI,bd]
 generalize (aA v3.1).2=t
 have d1:=aGA (one:=qY aA aP) (P:=fun k:bI=>k.1=v3.2.1/\k.2.1=v3.2.2.1/\k.2.2.1=v3.2.2.2.1) (fun _ _ h=>h) (4-0:Int).toNat (v3.2.1,(v3.2.2.1,(v3.2.2.2.1,(t,v3.2.2.2.2.2)))) (aA v3.1).1 ⟨rfl,rfl,rfl⟩
 have d2:=aDD (one:=qY aA aP) (c:=fun k:bI=>k.2.2.2.2.1.length) (fun b s=>aFh _ _) (4-0:Int).toNat (v3.2.1,(v3.2.2.1,(v3.2.2.2.1,(t,v3.2.2.2.2.2)))) (aA v3.1).1
 have d3:=aDD (one:=qY aA aP) (c:=fun k:bI=>k.2.2.2.2.2.1.length) (fun b s=>aFh _ _) (4-0:Int).toNat (v3.2.1,(v3.2.2.1,(v3.2.2.2.1,(t,v3.2.2.2.2.2)))) (aA v3.1).1
 have z1:v3.2.2.2.2.2=mD.2.2.2.2:=congrArg Prod.snd c2.2.2.2
 have z2:v3.2.2.2.2.2.1.length=0:=by rw[z1];rfl
 have z3:v3.2.2.2.2.2.2.1.length=0:=by rw[z1];rfl
 simp only[z2,z3] at d2 d3
 generalize aAh (qY aA aP) (4-0:Int).toNat (v3.2.1,(v3.2.2.1,(v3.2.2.2.1,(t,v3.2.2.2.2.2)))) (aA v3.1).1=w at *
 obtain⟨d4,d5,d6⟩:=d1
 rw[c2.1,b2.1] at d4
 rw[c2.2.1] at d5
 rw[d5]
 refine⟨?_,fun m hm=>(b2.2.1 m hm).2⟩
 simp only[tK,Zb,Zu,d4,d5,d6,cC]
 exact⟨Nat.le_trans a1 (by decide),fun r hr=>cC.1 (a2.1 r hr),Nat.le_trans b1 (by decide),fun m hm=>cC.1 (b2.2.1 m hm).1,Nat.le_trans c1 (by decide),c2.2.2.1,Nat.le_trans d2 (by decide),Nat.le_trans d3 (by decide)⟩
def mB(s:R):R×cL:=aJh aA aP true s
namespace mB
abbrev S6:Type:=(Int×(Int×(jT×(Int×(Int×(Unit×((List eS)×aHz)))))))
abbrev O6:Type:=(jT×(Int×(Int×(Unit×((List eS)×aHz)))))
def F6(x4:Int)(x5:Int)(x6:Unit)(x7:List eS)(v:R×cL):O6:=(v.1,(x4,(x5,(x6,(x7,(v.2.1,(v.2.2.1,(v.2.2.2.2,(v.2.2.2.1,())))))))))
def pre6:S6->Bool:=fun(x1,x2,_,_,_,_,_,_,_,_,x11,_)=>lp x1 x2 x11.length
def fn6:S6->O6:=fun(x1,x2,x3,x4,x5,x6,x7,x8,x9,x10,x11,_)=>F6 x4 x5 x6 x7 (kY (qA aA aP) true (x1-x2).toNat (x8,(x9,(x11,x10))) x3)
def mu6:S6->Nat:=fun(x1,x2,_,_,_,_,_,_,_,_,_,_)=>(x1-x2).toNat
noncomputable def aNG(x1:Int)(x2:Int)(x3:jT)(x4:Int)(x5:Int)(x6:Unit)(x7:(List eS))(x8:Int)(x9:Int)(x10:Unit)(x11:(List eS)):Option ((Int×(Int×(jT×(Int×(Int×(Unit×((List eS)×aHz)))))))⊕(jT×(Int×(Int×(Unit×((List eS)×aHz)))))):=
 if(decide (x2<x1))=true then
 if x3.2.2.1=true then
 letB (aA x3) fun v1=>
 letB (aP v1.1) fun v2=>
 letB (aP v2.1) fun v3=>
 letB (aA v3.1) fun v4=>
 letB (aA v4.1) fun v5=>
 if(decide (length x11+length ((v1.2,(v2.2,(v3.2,(v4.2,(v5.2,())))))::([]:List eS))<=lV))=true then
 some (.inl (x1,((wrap .i64 (x2+(1:Int))),(v5.1,(x4,(x5,(x6,(x7,(x8,(x9,(x10,((List.append x11 ((v1.2,(v2.2,(v3.2,(v4.2,(v5.2,())))))::([]:List eS))),()))))))))))))
 else
 none
 else
 some (.inr (x3,(x4,(x5,(x6,(x7,(x8,(x9,(x10,(x11,()))))))))))
 else
 some (.inr (x3,(x4,(x5,(x6,(x7,(x8,(x9,(x10,(x11,()))))))))))
abbrev wf(x0:jT):Prop:=fV [(.ref oR .f)] (x0,())
noncomputable def aR(x0:jT):Option ((jT×Unit)×(cL×Unit)):=
 letB (aA x0) fun v1=>
 letB (aA v1.1) fun v2=>
 letB (aA v2.1) fun v3=>
 if(mB.pre6 (v3.2,((0:Int),(v3.1,((0:Int),((0:Int),((),(([]:List eS),(v1.2,(v2.2,((),(([]:List eS),()))))))))))))=true then
 letB (mB.fn6 (v3.2,((0:Int),(v3.1,((0:Int),((0:Int),((),(([]:List eS),(v1.2,(v2.2,((),(([]:List eS),())))))))))))) fun v4=>
 some ((v4.1,()),((v4.2.2.2.2.2.1,(v4.2.2.2.2.2.2.1,(v4.2.2.2.2.2.2.2.2.1,v4.2.2.2.2.2.2.2.1))),()))
 else
 none
theorem ok6(x1 x2 x3 x4 x5 x6 x7 x8 x9 x10 x11)(hp:pre6 (x1,(x2,(x3,(x4,(x5,(x6,(x7,(x8,(x9,(x10,(x11,())))))))))))=true):Rounds pre6 mu6 fn6 (x1,(x2,(x3,(x4,(x5,(x6,(x7,(x8,(x9,(x10,(x11,()))))))))))) (aNG x1 x2 x3 x4 x5 x6 x7 x8 x9 x10 x11):=by
 have h1:lp x1 x2 x11.length=true:=hp
 unfold aNG
 by_cases hlt:x2<x1
 case neg=>exact jC (by rw[Za];exact hlt) (congrArg (F6 x4 x5 x6 x7) (uP (qA aA aP) true x3 (x8,(x9,(x11,x10))) hlt))
 by_cases hf:x3.2.2.1=true
 case neg=>exact fN (Zd hlt) (jC hf (congrArg (F6 x4 x5 x6 x7) (tO (qA aA aP) true x3 (x8,(x9,(x11,x10))) _ hf)))
 rw[aBa h1 hlt]
 exact fN (Zd hlt) (fN hf (lO (lO (lO (lO (lO (fN (Zd (aCG h1 hlt _)) ⟨yY h1 hlt _,aBb hlt,congrArg (F6 x4 x5 x6 x7) (aAe (qA aA aP) true x3 (x8,(x9,(x11,x10))) hlt hf)⟩)))))))
theorem eq(x0:R)(hw:wf x0):aR x0=some (((mB x0).1,()),((mB x0).2,())):=by
 have hb:bR x0.1=true:=gL hw.1.1.2
 have hn:=kG (s:=(aA (aA x0).1).1) (by simp only[cH];exact hb)
 unfold aR
 exact cV (cV (cV (dT (show pre6 _=true from yB hn.2 (Nat.zero_le _)) (cV rfl))))
end mB
def yQ(s:R)(x:cL):R×cL:=qA aC aV x s
namespace yQ
def pre(_:R)(x:cL):Bool:=decide (x.2.2.1.length<=4000000000)
abbrev wf(x0:jT)(x1:cL):Prop:=fV [(.cell 1 oR),(.ref oR .f),(.ref aAi .o)] (x0,(x1,()))
noncomputable def aR(x0:jT)(x1:cL):Option ((jT×(cL×Unit))×Unit):=
 letB (aC x0) fun v1=>
 letB (aV v1.1) fun v2=>
 letB (aV v2.1) fun v3=>
 letB (aC v3.1) fun v4=>
 letB (aC v4.1) fun v5=>
 if(decide (length x1.2.2.1+length ((v1.2,(v2.2,(v3.2,(v4.2,(v5.2,())))))::([]:List eS))<=lV))=true then
 some ((v5.1,((x1.1,(x1.2.1,((List.append x1.2.2.1 ((v1.2,(v2.2,(v3.2,(v4.2,(v5.2,())))))::([]:List eS))),x1.2.2.2))),())),())
 else
 none
theorem eq(x0:R)(x1:cL)(_:wf x0 x1)(hp:pre x0 x1=true):aR x0 x1=some (((yQ x0 x1).1,((yQ x0 x1).2,())),()):=by
 unfold aR
 exact cV (cV (cV (cV (cV (dT (Zd (aD6 (Ze hp) _)) rfl)))))
end yQ
def jU(s:R)(x:cL):R×cL:=gS aC false (qA aC aV) x s
namespace jU
abbrev S2:Type:=(Int×(Int×(jT×aHz)))
abbrev O2:Type:=(jT×aHz)
def pre(_:R)(x:cL):Bool:=decide (x.2.2.1.length<=1000)
def F2(v:R×cL):O2:=(v.1,(v.2.1,(v.2.2.1,(v.2.2.2.2,(v.2.2.2.1,())))))
def pre2:S2->Bool:=fun(x1,x2,_,_,_,_,x7,_)=>lp x1 x2 x7.length
def fn2:S2->O2:=fun(x1,x2,x3,x4,x5,x6,x7,_)=>F2 (kY (qA aC aV) false (x1-x2).toNat (x4,(x5,(x7,x6))) x3)
def kX:S2->Nat:=fun(x1,x2,_,_,_,_,_,_)=>(x1-x2).toNat
noncomputable def cU(x1:Int)(x2:Int)(x3:jT)(x4:Int)(x5:Int)(x6:Unit)(x7:(List eS)):Option ((Int×(Int×(jT×aHz)))⊕(jT×aHz)):=
 if(decide (x2<x1))=true then
 if(!x3.2.2.1)=true then
 if(yQ.pre x3 (x4,(x5,(x7,x6))))=true then
 letB (yQ x3 (x4,(x5,(x7,x6)))) fun v1=>
 some (.inl (x1,((wrap .i64 (x2+(1:Int))),(v1.1,(v1.2.1,(v1.2.2.1,(v1.2.2.2.2,v1.2.2.2)))))))
 else
 none
 else
 some (.inr (x3,(x4,(x5,(x6,(x7,()))))))
 else
 some (.inr (x3,(x4,(x5,(x6,(x7,()))))))
abbrev wf(x0:jT)(x1:cL):Prop:=fV [(.ref oR .f),(.cell 0 oR),(.ref aAi .o)] (x0,(x1,()))
noncomputable def aR(x0:jT)(x1:cL):Option ((jT×(cL×Unit))×Unit):=
 letB (aC x0) fun v1=>
 if(jU.pre2 (v1.2,((0:Int),(v1.1,(x1.1,(x1.2.1,(x1.2.2.2,x1.2.2)))))))=true then
 letB (jU.fn2 (v1.2,((0:Int),(v1.1,(x1.1,(x1.2.1,(x1.2.2.2,x1.2.2))))))) fun v2=>
 some ((v2.1,((v2.2.1,(v2.2.2.1,(v2.2.2.2.2.1,v2.2.2.2.1))),())),())
 else
 none
theorem qG(x1 x2 x3 x4 x5 x6 x7)(hp:pre2 (x1,(x2,(x3,(x4,(x5,(x6,(x7,())))))))=true):Rounds pre2 kX fn2 (x1,(x2,(x3,(x4,(x5,(x6,(x7,()))))))) (cU x1 x2 x3 x4 x5 x6 x7):=by
 have h1:lp x1 x2 x7.length=true:=hp
 unfold cU
 by_cases hlt:x2<x1
 case neg=>exact jC (by rw[Za];exact hlt) (congrArg (F2) (uP (qA aC aV) false x3 (x4,(x5,(x7,x6))) hlt))
 by_cases hf:x3.2.2.1=false
 case neg=>exact fN (Zd hlt) (jC (by simpa using hf) (congrArg (F2) (tO (qA aC aV) false x3 (x4,(x5,(x7,x6))) _ hf)))
 rw[aBa h1 hlt]
 exact fN (Zd hlt) (fN (by rw[hf];rfl) (fN (Zd (aHU h1 hlt)) (lO ⟨yY h1 hlt _,aBb hlt,congrArg (F2) (aAe (qA aC aV) false x3 (x4,(x5,(x7,x6))) hlt hf)⟩)))
theorem eq(x0:R)(x1:cL)(hw:wf x0 x1)(hp:pre x0 x1=true):aR x0 x1=some (((jU x0 x1).1,((jU x0 x1).2,())),()):=by
 have hn:=oO (s:=x0) (gL hw.1.1.2)
 unfold aR
 exact cV (dT (show pre2 _=true from yB hn.2 (Ze hp)) (cV rfl))
end jU
def nZ(s:R):R×cL:=aJh aC aV false s
namespace nZ
abbrev wf(x0:jT):Prop:=fV [(.ref oR .f)] (x0,())
noncomputable def aR(x0:jT):Option ((jT×Unit)×(cL×Unit)):=
 letB (aC x0) fun v1=>
 letB (aC v1.1) fun v2=>
 if(jU.pre v2.1 (v1.2,(v2.2,(([]:List eS),()))))=true then
 letB (jU v2.1 (v1.2,(v2.2,(([]:List eS),())))) fun v3=>
 some ((v3.1,()),(v3.2,()))
 else
 none
theorem eq(x0:R)(_:wf x0):aR x0=some (((nZ x0).1,()),((nZ x0).2,())):=by
 unfold aR
 exact cV (cV (dT (show jU.pre _ _=true from rfl) (cV rfl)))
end nZ
def jR(s:R):R×aK:=aAM aA true s
namespace jR
abbrev S8:Type:=(Int×(Int×aN8))
abbrev O8:Type:=aN8
def F8(x4:Int)(x5:Int)(x6:Int)(x7:Int)(x8:Unit)(x9:List eQ)(v:R×aK):O8:=(v.1,(x4,(x5,(x6,(x7,(x8,(x9,(v.2.1,(v.2.2.1,(v.2.2.2.1,(v.2.2.2.2.1,(v.2.2.2.2.2.2,(v.2.2.2.2.2.1,())))))))))))))
def pre8:S8->Bool:=fun(x1,x2,_,_,_,_,_,_,_,_,_,_,_,_,x15,_)=>lp x1 x2 x15.length
def fn8:S8->O8:=fun(x1,x2,x3,x4,x5,x6,x7,x8,x9,x10,x11,x12,x13,x14,x15,_)=>F8 x4 x5 x6 x7 x8 x9 (kY (qB aA) true (x1-x2).toNat (x10,(x11,(x12,(x13,(x15,x14))))) x3)
def mu8:S8->Nat:=fun(x1,x2,_,_,_,_,_,_,_,_,_,_,_,_,_,_)=>(x1-x2).toNat
noncomputable def aJr(x1:Int)(x2:Int)(x3:jT)(x4:Int)(x5:Int)(x6:Int)(x7:Int)(x8:Unit)(x9:(List eQ))(x10:Int)(x11:Int)(x12:Int)(x13:Int)(x14:Unit)(x15:(List eQ)):Option ((Int×(Int×aN8))⊕aN8):=
 if(decide (x2<x1))=true then
 if x3.2.2.1=true then
 letB (aA x3) fun v1=>
 letB (aA v1.1) fun v2=>
 if(decide (length x15+length ((v1.2,(v2.2,()))::([]:List eQ))<=lV))=true then
 some (.inl (x1,((wrap .i64 (x2+(1:Int))),(v2.1,(x4,(x5,(x6,(x7,(x8,(x9,(x10,(x11,(x12,(x13,(x14,((List.append x15 ((v1.2,(v2.2,()))::([]:List eQ))),()))))))))))))))))
 else
 none
 else
 some (.inr (x3,(x4,(x5,(x6,(x7,(x8,(x9,(x10,(x11,(x12,(x13,(x14,(x15,()))))))))))))))
 else
 some (.inr (x3,(x4,(x5,(x6,(x7,(x8,(x9,(x10,(x11,(x12,(x13,(x14,(x15,()))))))))))))))
abbrev wf(x0:jT):Prop:=fV [(.ref oR .f)] (x0,())
noncomputable def aR(x0:jT):Option ((jT×Unit)×(aK×Unit)):=
 letB (aA x0) fun v1=>
 letB (aA v1.1) fun v2=>
 letB (aA v2.1) fun v3=>
 letB (aA v3.1) fun v4=>
 letB (aA v4.1) fun v5=>
 if(jR.pre8 (v5.2,((0:Int),(v5.1,((0:Int),((0:Int),((0:Int),((0:Int),((),(([]:List eQ),(v1.2,(v2.2,(v3.2,((wrap .i64 (v4.2-(1:Int))),((),(([]:List eQ),()))))))))))))))))=true then
 letB (jR.fn8 (v5.2,((0:Int),(v5.1,((0:Int),((0:Int),((0:Int),((0:Int),((),(([]:List eQ),(v1.2,(v2.2,(v3.2,((wrap .i64 (v4.2-(1:Int))),((),(([]:List eQ),())))))))))))))))) fun v6=>
 some ((v6.1,()),((v6.2.2.2.2.2.2.2.1,(v6.2.2.2.2.2.2.2.2.1,(v6.2.2.2.2.2.2.2.2.2.1,(v6.2.2.2.2.2.2.2.2.2.2.1,(v6.2.2.2.2.2.2.2.2.2.2.2.2.1,v6.2.2.2.2.2.2.2.2.2.2.2.1))))),()))
 else
 none
theorem ok8(x1 x2 x3 x4 x5 x6 x7 x8 x9 x10 x11 x12 x13 x14 x15)(hp:pre8 (x1,(x2,(x3,(x4,(x5,(x6,(x7,(x8,(x9,(x10,(x11,(x12,(x13,(x14,(x15,())))))))))))))))=true):Rounds pre8 mu8 fn8 (x1,(x2,(x3,(x4,(x5,(x6,(x7,(x8,(x9,(x10,(x11,(x12,(x13,(x14,(x15,()))))))))))))))) (aJr x1 x2 x3 x4 x5 x6 x7 x8 x9 x10 x11 x12 x13 x14 x15):=by
 have h1:lp x1 x2 x15.length=true:=hp
 unfold aJr
 by_cases hlt:x2<x1
 case neg=>exact jC (by rw[Za];exact hlt) (congrArg (F8 x4 x5 x6 x7 x8 x9) (uP (qB aA) true x3 (x10,(x11,(x12,(x13,(x15,x14))))) hlt))
 by_cases hf:x3.2.2.1=true
 case neg=>exact fN (Zd hlt) (jC hf (congrArg (F8 x4 x5 x6 x7 x8 x9) (tO (qB aA) true x3 (x10,(x11,(x12,(x13,(x15,x14))))) _ hf)))
 rw[aBa h1 hlt]
 exact fN (Zd hlt) (fN hf (lO (lO (fN (Zd (aCG h1 hlt _)) ⟨yY h1 hlt _,aBb hlt,congrArg (F8 x4 x5 x6 x7 x8 x9) (aAe (qB aA) true x3 (x10,(x11,(x12,(x13,(x15,x14))))) hlt hf)⟩))))
theorem eq(x0:R)(hw:wf x0):aR x0=some (((jR x0).1,()),((jR x0).2,())):=by
 have hb:bR x0.1=true:=gL hw.1.1.2
 have hn:=kG (s:=(aA (aA (aA (aA x0).1).1).1).1) (by simp only[cH];exact hb)
 unfold aR
 exact cV (cV (cV (cV (cV (dT (show pre8 _=true from yB hn.2 (Nat.zero_le _)) (cV rfl))))))
end jR
def rA(s:R)(x:aK):R×aK:=qB aC x s
namespace rA
def pre(_:R)(x:aK):Bool:=decide (x.2.2.2.2.1.length<=4000000000)
abbrev wf(x0:jT)(x1:aK):Prop:=fV [(.cell 1 oR),(.ref oR .f),(.ref aBA .o)] (x0,(x1,()))
noncomputable def aR(x0:jT)(x1:aK):Option ((jT×(aK×Unit))×Unit):=
 letB (aC x0) fun v1=>
 letB (aC v1.1) fun v2=>
 if(decide (length x1.2.2.2.2.1+length ((v1.2,(v2.2,()))::([]:List eQ))<=lV))=true then
 some ((v2.1,((x1.1,(x1.2.1,(x1.2.2.1,(x1.2.2.2.1,((List.append x1.2.2.2.2.1 ((v1.2,(v2.2,()))::([]:List eQ))),x1.2.2.2.2.2))))),())),())
 else
 none
theorem eq(x0:R)(x1:aK)(_:wf x0 x1)(hp:pre x0 x1=true):aR x0 x1=some (((rA x0 x1).1,((rA x0 x1).2,())),()):=by
 unfold aR
 exact cV (cV (dT (Zd (aD6 (Ze hp) _)) rfl))
end rA
def gX(s:R)(x:aK):R×aK:=gS aC false (qB aC) x s
namespace gX
abbrev S2:Type:=(Int×(Int×(jT×aLr)))
abbrev O2:Type:=(jT×aLr)
def pre(_:R)(x:aK):Bool:=decide (x.2.2.2.2.1.length<=1000)
def F2(v:R×aK):O2:=(v.1,(v.2.1,(v.2.2.1,(v.2.2.2.1,(v.2.2.2.2.1,(v.2.2.2.2.2.2,(v.2.2.2.2.2.1,())))))))
def pre2:S2->Bool:=fun(x1,x2,_,_,_,_,_,_,x9,_)=>lp x1 x2 x9.length
def fn2:S2->O2:=fun(x1,x2,x3,x4,x5,x6,x7,x8,x9,_)=>F2 (kY (qB aC) false (x1-x2).toNat (x4,(x5,(x6,(x7,(x9,x8))))) x3)
def kX:S2->Nat:=fun(x1,x2,_,_,_,_,_,_,_,_)=>(x1-x2).toNat
noncomputable def cU(x1:Int)(x2:Int)(x3:jT)(x4:Int)(x5:Int)(x6:Int)(x7:Int)(x8:Unit)(x9:(List eQ)):Option ((Int×(Int×(jT×aLr)))⊕(jT×aLr)):=
 if(decide (x2<x1))=true then
 if(!x3.2.2.1)=true then
 if(rA.pre x3 (x4,(x5,(x6,(x7,(x9,x8))))))=true then
 letB (rA x3 (x4,(x5,(x6,(x7,(x9,x8)))))) fun v1=>
 some (.inl (x1,((wrap .i64 (x2+(1:Int))),(v1.1,(v1.2.1,(v1.2.2.1,(v1.2.2.2.1,(v1.2.2.2.2.1,(v1.2.2.2.2.2.2,v1.2.2.2.2.2)))))))))
 else
 none
 else
 some (.inr (x3,(x4,(x5,(x6,(x7,(x8,(x9,()))))))))
 else
 some (.inr (x3,(x4,(x5,(x6,(x7,(x8,(x9,()))))))))
abbrev wf(x0:jT)(x1:aK):Prop:=fV [(.ref oR .f),(.cell 0 oR),(.ref aBA .o)] (x0,(x1,()))
noncomputable def aR(x0:jT)(x1:aK):Option ((jT×(aK×Unit))×Unit):=
 letB (aC x0) fun v1=>
 if(gX.pre2 (v1.2,((0:Int),(v1.1,(x1.1,(x1.2.1,(x1.2.2.1,(x1.2.2.2.1,(x1.2.2.2.2.2,x1.2.2.2.2)))))))))=true then
 letB (gX.fn2 (v1.2,((0:Int),(v1.1,(x1.1,(x1.2.1,(x1.2.2.1,(x1.2.2.2.1,(x1.2.2.2.2.2,x1.2.2.2.2))))))))) fun v2=>
 some ((v2.1,((v2.2.1,(v2.2.2.1,(v2.2.2.2.1,(v2.2.2.2.2.1,(v2.2.2.2.2.2.2.1,v2.2.2.2.2.2.1))))),())),())
 else
 none
theorem qG(x1 x2 x3 x4 x5 x6 x7 x8 x9)(hp:pre2 (x1,(x2,(x3,(x4,(x5,(x6,(x7,(x8,(x9,())))))))))=true):Rounds pre2 kX fn2 (x1,(x2,(x3,(x4,(x5,(x6,(x7,(x8,(x9,()))))))))) (cU x1 x2 x3 x4 x5 x6 x7 x8 x9):=by
 have h1:lp x1 x2 x9.length=true:=hp
 unfold cU
 by_cases hlt:x2<x1
 case neg=>exact jC (by rw[Za];exact hlt) (congrArg (F2) (uP (qB aC) false x3 (x4,(x5,(x6,(x7,(x9,x8))))) hlt))
 by_cases hf:x3.2.2.1=false
 case neg=>exact fN (Zd hlt) (jC (by simpa using hf) (congrArg (F2) (tO (qB aC) false x3 (x4,(x5,(x6,(x7,(x9,x8))))) _ hf)))
 rw[aBa h1 hlt]
 exact fN (Zd hlt) (fN (by rw[hf];rfl) (fN (Zd (aHU h1 hlt)) (lO ⟨yY h1 hlt _,aBb hlt,congrArg (F2) (aAe (qB aC) false x3 (x4,(x5,(x6,(x7,(x9,x8))))) hlt hf)⟩)))
theorem eq(x0:R)(x1:aK)(hw:wf x0 x1)(hp:pre x0 x1=true):aR x0 x1=some (((gX x0 x1).1,((gX x0 x1).2,())),()):=by
 have hn:=oO (s:=x0) (gL hw.1.1.2)
 unfold aR
 exact cV (dT (show pre2 _=true from yB hn.2 (Ze hp)) (cV rfl))
end gX
def lI(s:R):R×aK:=aAM aC false s
namespace lI
abbrev wf(x0:jT):Prop:=fV [(.ref oR .f)] (x0,())
noncomputable def aR(x0:jT):Option ((jT×Unit)×(aK×Unit)):=
 letB (aC x0) fun v1=>
 letB (aC v1.1) fun v2=>
 letB (aC v2.1) fun v3=>
 letB (aC v3.1) fun v4=>
 if(gX.pre v4.1 (v1.2,(v2.2,(v3.2,((wrap .i64 (v4.2-(1:Int))),(([]:List eQ),()))))))=true then
 letB (gX v4.1 (v1.2,(v2.2,(v3.2,((wrap .i64 (v4.2-(1:Int))),(([]:List eQ),())))))) fun v5=>
 some ((v5.1,()),(v5.2,()))
 else
 none
theorem eq(x0:R)(_:wf x0):aR x0=some (((lI x0).1,()),((lI x0).2,())):=by
 unfold aR
 exact cV (cV (cV (cV (dT (show gX.pre _ _=true from rfl) (cV rfl)))))
end lI
def gE(s:R)(rows:Int):R×aJ:=aBD aA true rows s
namespace gE
abbrev S5:Type:=(Int×(Int×(Int×aDq)))
abbrev O5:Type:=(Int×aDq)
abbrev S12:Type:=(Int×(Int×aDq))
abbrev O12:Type:=aDq
def pre(_:R)(rows:Int):Bool:=decide (rows<=1000)
def F5(x1:Int)(x5:Int)(x6:Unit)(x7:List Int)(x8:List Int)(x9:List Int)(v:R×aJ):O5:=(x1,(v.1,(x5,(x6,(x7,(x8,(x9,(v.2.1,(v.2.2.2.2.2,(v.2.2.1,(v.2.2.2.1,(v.2.2.2.2.1,()))))))))))))
def pre5:S5->Bool:=fun(_,x2,x3,_,_,_,_,_,_,_,_,x12,x13,_,_)=>lp x2 x3 x12.length&&(lp x2 x3 x13.length)
def fn5:S5->O5:=fun(x1,x2,x3,x4,x5,x6,x7,x8,x9,x10,x11,x12,x13,x14,_)=>F5 x1 x5 x6 x7 x8 x9 (kY (nV aA) true (x2-x3).toNat (x10,(x12,(x13,(x14,x11)))) x4)
def mu5:S5->Nat:=fun(_,x2,x3,_,_,_,_,_,_,_,_,_,_,_,_)=>(x2-x3).toNat
def F12(x4:Int)(x5:Unit)(x6:List Int)(x7:List Int)(x8:List Int)(v:R×aJ):O12:=(v.1,(x4,(x5,(x6,(x7,(x8,(v.2.1,(v.2.2.2.2.2,(v.2.2.1,(v.2.2.2.1,(v.2.2.2.2.1,())))))))))))
def pre12:S12->Bool:=fun(x1,x2,_,_,_,_,_,_,_,_,_,_,x13,_)=>lp x1 x2 x13.length
def fn12:S12->O12:=fun(x1,x2,x3,x4,x5,x6,x7,x8,x9,x10,x11,x12,x13,_)=>F12 x4 x5 x6 x7 x8 (aAh (uU aA) (x1-x2).toNat (x9,(x11,(x12,(x13,x10)))) x3)
def aOn:S12->Nat:=fun(x1,x2,_,_,_,_,_,_,_,_,_,_,_,_)=>(x1-x2).toNat
noncomputable def tS(x1:Int)(x2:Int)(x3:Int)(x4:jT)(x5:Int)(x6:Unit)(x7:(List Int))(x8:(List Int))(x9:(List Int))(x10:Int)(x11:Unit)(x12:(List Int))(x13:(List Int))(x14:(List Int)):Option ((Int×(Int×(Int×aDq)))⊕(Int×aDq)):=
 if(decide (x3<x2))=true then
 if x4.2.2.1=true then
 letB (aA x4) fun v1=>
 if(decide (length x12+length (v1.2::([]:List Int))<=lV))=true then
 letB (aA v1.1) fun v2=>
 if(decide (length x13+length (v2.2::([]:List Int))<=lV))=true then
 some (.inl (x1,(x2,((wrap .i64 (x3+(1:Int))),(v2.1,(x5,(x6,(x7,(x8,(x9,(x10,(x11,((List.append x12 (v1.2::([]:List Int))),((List.append x13 (v2.2::([]:List Int))),(x14,())))))))))))))))
 else
 none
 else
 none
 else
 some (.inr (x1,(x4,(x5,(x6,(x7,(x8,(x9,(x10,(x11,(x12,(x13,(x14,())))))))))))))
 else
 some (.inr (x1,(x4,(x5,(x6,(x7,(x8,(x9,(x10,(x11,(x12,(x13,(x14,())))))))))))))
noncomputable def aLn(x1:Int)(x2:Int)(x3:jT)(x4:Int)(x5:Unit)(x6:(List Int))(x7:(List Int))(x8:(List Int))(x9:Int)(x10:Unit)(x11:(List Int))(x12:(List Int))(x13:(List Int)):Option ((Int×(Int×aDq))⊕aDq):=
 if(decide (x2<x1))=true then
 letB (aA x3) fun v1=>
 if(decide (length x13+length (v1.2::([]:List Int))<=lV))=true then
 some (.inl (x1,((wrap .i64 (x2+(1:Int))),(v1.1,(x4,(x5,(x6,(x7,(x8,(x9,(x10,(x11,(x12,((List.append x13 (v1.2::([]:List Int))),()))))))))))))))
 else
 none
 else
 some (.inr (x3,(x4,(x5,(x6,(x7,(x8,(x9,(x10,(x11,(x12,(x13,()))))))))))))
abbrev wf(x0:jT)(x1:Int):Prop:=fV [(.ref oR .f),(.val (.int .i64) .f)] (x0,(x1,()))
noncomputable def aR(x0:jT)(x1:Int):Option ((jT×Unit)×aAx):=
 letB (aA x0) fun v1=>
 letB (aA v1.1) fun v2=>
 if(gE.pre5 (x1,(v2.2,((0:Int),(v2.1,((0:Int),((),(([]:List Int),(([]:List Int),(([]:List Int),(v1.2,((),(([]:List Int),(([]:List Int),(([]:List Int),())))))))))))))))=true then
 letB (gE.fn5 (x1,(v2.2,((0:Int),(v2.1,((0:Int),((),(([]:List Int),(([]:List Int),(([]:List Int),(v1.2,((),(([]:List Int),(([]:List Int),(([]:List Int),()))))))))))))))) fun v3=>
 if(gE.pre12 (v3.1,((0:Int),v3.2)))=true then
 letB (gE.fn12 (v3.1,((0:Int),v3.2))) fun v4=>
 some ((v4.1,()),((v4.2.2.2.2.2.2.1,(v4.2.2.2.2.2.2.2.2.1,(v4.2.2.2.2.2.2.2.2.2.1,(v4.2.2.2.2.2.2.2.2.2.2.1,v4.2.2.2.2.2.2.2.1)))),()))
 else
 none
 else
 none
theorem ok5(x1 x2 x3 x4 x5 x6 x7 x8 x9 x10 x11 x12 x13 x14)(hp:pre5 (x1,(x2,(x3,(x4,(x5,(x6,(x7,(x8,(x9,(x10,(x11,(x12,(x13,(x14,()))))))))))))))=true):Rounds pre5 mu5 fn5 (x1,(x2,(x3,(x4,(x5,(x6,(x7,(x8,(x9,(x10,(x11,(x12,(x13,(x14,())))))))))))))) (tS x1 x2 x3 x4 x5 x6 x7 x8 x9 x10 x11 x12 x13 x14):=by
 have hp:(lp x2 x3 x12.length&&(lp x2 x3 x13.length))=true:=hp
 simp only[Zb] at hp
 obtain⟨h1,h2⟩:=hp
 unfold tS
 by_cases hlt:x3<x2
 case neg=>exact jC (by rw[Za];exact hlt) (congrArg (F5 x1 x5 x6 x7 x8 x9) (uP (nV aA) true x4 (x10,(x12,(x13,(x14,x11)))) hlt))
 by_cases hf:x4.2.2.1=true
 case neg=>exact fN (Zd hlt) (jC hf (congrArg (F5 x1 x5 x6 x7 x8 x9) (tO (nV aA) true x4 (x10,(x12,(x13,(x14,x11)))) _ hf)))
 rw[aBa h1 hlt]
 exact fN (Zd hlt) (fN hf (lO (fN (Zd (aCG h1 hlt _)) (lO (fN (Zd (aCG h2 hlt _)) ⟨qI (yY h1 hlt _) (yY h2 hlt _),aBb hlt,congrArg (F5 x1 x5 x6 x7 x8 x9) (aAe (nV aA) true x4 (x10,(x12,(x13,(x14,x11)))) hlt hf)⟩)))))
theorem aP3(x1 x2 x3 x4 x5 x6 x7 x8 x9 x10 x11 x12 x13)(hp:pre12 (x1,(x2,(x3,(x4,(x5,(x6,(x7,(x8,(x9,(x10,(x11,(x12,(x13,())))))))))))))=true):Rounds pre12 aOn fn12 (x1,(x2,(x3,(x4,(x5,(x6,(x7,(x8,(x9,(x10,(x11,(x12,(x13,()))))))))))))) (aLn x1 x2 x3 x4 x5 x6 x7 x8 x9 x10 x11 x12 x13):=by
 have h1:lp x1 x2 x13.length=true:=hp
 unfold aLn
 by_cases hlt:x2<x1
 case neg=>exact jC (by rw[Za];exact hlt) (congrArg (F12 x4 x5 x6 x7 x8) (aGq (uU aA) x3 (x9,(x11,(x12,(x13,x10)))) hlt))
 rw[aBa h1 hlt]
 exact fN (Zd hlt) (lO (fN (Zd (aCG h1 hlt _)) ⟨yY h1 hlt _,aBb hlt,congrArg (F12 x4 x5 x6 x7 x8) (aK8 (uU aA) x3 (x9,(x11,(x12,(x13,x10)))) hlt)⟩))
theorem eq(x0:R)(x1:Int)(hw:wf x0 x1)(hp:pre x0 x1=true):aR x0 x1=some (((gE x0 x1).1,()),((gE x0 x1).2,())):=by
 have hr:x1<=1000:=Ze hp
 have hb:bR x0.1=true:=gL hw.1.1.2
 have hn:=kG (s:=(aA x0).1) (by simp only[cH];exact hb)
 have s1:=sT (num:=aA) (good:=true) (one:=nV aA) (P:=fun g:aJ=>g.2.2.2.1=[]) (fun _ _ h=>h) ((aA x0).2,([],([],([],())))) (aA x0).1 rfl
 unfold aR
 refine cV (cV (dT (show pre5 _=true from qI (yB hn.2 (Nat.zero_le _)) (yB hn.2 (Nat.zero_le _))) (cV (dT (show pre12 _=true from yB (c:=(gS aA true (nV aA) ((aA x0).2,([],([],([],())))) (aA x0).1).2.2.2.2.1.length) (show x1<=2147483647 by omega) (by rw[s1];exact Nat.zero_le _)) (cV ?_)))))
 rfl
end gE
def qX(g:aJ)(s:R):aJ×R:=((nV aC g s).2,(nV aC g s).1)
namespace qX
def pre(g:aJ)(_:R):Bool:=decide (g.2.1.length<=4000000000)&&decide (g.2.2.1.length<=4000000000)
abbrev wf(x0:aJ)(x1:jT):Prop:=fV [(.ref aAk .o),(.cell 2 oR),(.ref oR .f)] (x0,(x1,()))
noncomputable def aR(x0:aJ)(x1:jT):Option ((aJ×(jT×Unit))×Unit):=
 letB (aC x1) fun v1=>
 if(decide (length x0.2.1+length (v1.2::([]:List Int))<=lV))=true then
 letB (aC v1.1) fun v2=>
 if(decide (length x0.2.2.1+length (v2.2::([]:List Int))<=lV))=true then
 some (((x0.1,((List.append x0.2.1 (v1.2::([]:List Int))),((List.append x0.2.2.1 (v2.2::([]:List Int))),x0.2.2.2))),(v2.1,())),())
 else
 none
 else
 none
theorem eq(x0:aJ)(x1:R)(_:wf x0 x1)(hp:pre x0 x1=true):aR x0 x1=some (((qX x0 x1).1,((qX x0 x1).2,())),()):=by
 simp only[pre,Zb,Za] at hp
 unfold aR
 exact cV (dT (Zd (aD6 hp.1 _)) (cV (dT (Zd (aD6 hp.2 _)) rfl)))
end qX
def gY(s:R)(g:aJ):R×aJ:=gS aC false (nV aC) g s
namespace gY
abbrev S2:Type:=(Int×(Int×aMv))
abbrev O2:Type:=aMv
def pre(_:R)(g:aJ):Bool:=decide (g.2.1.length<=1000)&&decide (g.2.2.1.length<=1000)
def F2(v:R×aJ):O2:=(v.1,(v.2.1,(v.2.2.2.2.2,(v.2.2.1,(v.2.2.2.1,(v.2.2.2.2.1,()))))))
def pre2:S2->Bool:=fun(x1,x2,_,_,_,x6,x7,_,_)=>lp x1 x2 x6.length&&(lp x1 x2 x7.length)
def fn2:S2->O2:=fun(x1,x2,x3,x4,x5,x6,x7,x8,_)=>F2 (kY (nV aC) false (x1-x2).toNat (x4,(x6,(x7,(x8,x5)))) x3)
def kX:S2->Nat:=fun(x1,x2,_,_,_,_,_,_,_)=>(x1-x2).toNat
noncomputable def cU(x1:Int)(x2:Int)(x3:jT)(x4:Int)(x5:Unit)(x6:(List Int))(x7:(List Int))(x8:(List Int)):Option ((Int×(Int×aMv))⊕aMv):=
 if(decide (x2<x1))=true then
 if(!x3.2.2.1)=true then
 if(qX.pre (x4,(x6,(x7,(x8,x5)))) x3)=true then
 letB (qX (x4,(x6,(x7,(x8,x5)))) x3) fun v1=>
 some (.inl (x1,((wrap .i64 (x2+(1:Int))),(v1.2,(v1.1.1,(v1.1.2.2.2.2,v1.1.2))))))
 else
 none
 else
 some (.inr (x3,(x4,(x5,(x6,(x7,(x8,())))))))
 else
 some (.inr (x3,(x4,(x5,(x6,(x7,(x8,())))))))
abbrev wf(x0:jT)(x1:aJ):Prop:=fV [(.ref oR .f),(.ref aAk .o),(.cell 0 oR)] (x0,(x1,()))
noncomputable def aR(x0:jT)(x1:aJ):Option ((jT×aAx)×Unit):=
 letB (aC x0) fun v1=>
 if(gY.pre2 (v1.2,((0:Int),(v1.1,(x1.1,(x1.2.2.2.2,x1.2))))))=true then
 letB (gY.fn2 (v1.2,((0:Int),(v1.1,(x1.1,(x1.2.2.2.2,x1.2)))))) fun v2=>
 some ((v2.1,((v2.2.1,(v2.2.2.2.1,(v2.2.2.2.2.1,(v2.2.2.2.2.2.1,v2.2.2.1)))),())),())
 else
 none
theorem qG(x1 x2 x3 x4 x5 x6 x7 x8)(hp:pre2 (x1,(x2,(x3,(x4,(x5,(x6,(x7,(x8,()))))))))=true):Rounds pre2 kX fn2 (x1,(x2,(x3,(x4,(x5,(x6,(x7,(x8,())))))))) (cU x1 x2 x3 x4 x5 x6 x7 x8):=by
 have hp:(lp x1 x2 x6.length&&(lp x1 x2 x7.length))=true:=hp
 simp only[Zb] at hp
 obtain⟨h1,h2⟩:=hp
 unfold cU
 by_cases hlt:x2<x1
 case neg=>exact jC (by rw[Za];exact hlt) (congrArg (F2) (uP (nV aC) false x3 (x4,(x6,(x7,(x8,x5)))) hlt))
 by_cases hf:x3.2.2.1=false
 case neg=>exact fN (Zd hlt) (jC (by simpa using hf) (congrArg (F2) (tO (nV aC) false x3 (x4,(x6,(x7,(x8,x5)))) _ hf)))
 rw[aBa h1 hlt]
 exact fN (Zd hlt) (fN (by rw[hf];rfl) (fN (qI (Zd (aHU h1 hlt)) (Zd (aHU h2 hlt))) (lO ⟨qI (yY h1 hlt _) (yY h2 hlt _),aBb hlt,congrArg (F2) (aAe (nV aC) false x3 (x4,(x6,(x7,(x8,x5)))) hlt hf)⟩)))
theorem eq(x0:R)(x1:aJ)(hw:wf x0 x1)(hp:pre x0 x1=true):aR x0 x1=some (((gY x0 x1).1,((gY x0 x1).2,())),()):=by
 have hn:=oO (s:=x0) (gL hw.1.1.2)
 simp only[pre,Zb,Za] at hp
 unfold aR
 exact cV (dT (show pre2 _=true from qI (yB hn.2 hp.1) (yB hn.2 hp.2)) (cV rfl))
end gY
def gV(s:R)(rows:Int):R×aJ:=aBD aC false rows s
namespace gV
abbrev S4:Type:=(Int×(Int×aDq))
abbrev O4:Type:=aDq
def pre(_:R)(rows:Int):Bool:=decide (rows<=1000)
def F4(x4:Int)(x5:Unit)(x6:List Int)(x7:List Int)(x8:List Int)(v:R×aJ):O4:=(v.1,(x4,(x5,(x6,(x7,(x8,(v.2.1,(v.2.2.2.2.2,(v.2.2.1,(v.2.2.2.1,(v.2.2.2.2.1,())))))))))))
def pre4:S4->Bool:=fun(x1,x2,_,_,_,_,_,_,_,_,_,_,x13,_)=>lp x1 x2 x13.length
def fn4:S4->O4:=fun(x1,x2,x3,x4,x5,x6,x7,x8,x9,x10,x11,x12,x13,_)=>F4 x4 x5 x6 x7 x8 (aAh (uU aC) (x1-x2).toNat (x9,(x11,(x12,(x13,x10)))) x3)
def qD:S4->Nat:=fun(x1,x2,_,_,_,_,_,_,_,_,_,_,_,_)=>(x1-x2).toNat
noncomputable def hJ(x1:Int)(x2:Int)(x3:jT)(x4:Int)(x5:Unit)(x6:(List Int))(x7:(List Int))(x8:(List Int))(x9:Int)(x10:Unit)(x11:(List Int))(x12:(List Int))(x13:(List Int)):Option ((Int×(Int×aDq))⊕aDq):=
 if(decide (x2<x1))=true then
 letB (aC x3) fun v1=>
 if(decide (length x13+length (v1.2::([]:List Int))<=lV))=true then
 some (.inl (x1,((wrap .i64 (x2+(1:Int))),(v1.1,(x4,(x5,(x6,(x7,(x8,(x9,(x10,(x11,(x12,((List.append x13 (v1.2::([]:List Int))),()))))))))))))))
 else
 none
 else
 some (.inr (x3,(x4,(x5,(x6,(x7,(x8,(x9,(x10,(x11,(x12,(x13,()))))))))))))
abbrev wf(x0:jT)(x1:Int):Prop:=fV [(.ref oR .f),(.val (.int .i64) .f)] (x0,(x1,()))
noncomputable def aR(x0:jT)(x1:Int):Option ((jT×Unit)×aAx):=
 letB (aC x0) fun v1=>
 if(gY.pre v1.1 (v1.2,(([]:List Int),(([]:List Int),(([]:List Int),())))))=true then
 letB (gY v1.1 (v1.2,(([]:List Int),(([]:List Int),(([]:List Int),()))))) fun v2=>
 if(gV.pre4 (x1,((0:Int),(v2.1,((0:Int),((),(([]:List Int),(([]:List Int),(([]:List Int),(v2.2.1,(v2.2.2.2.2.2,v2.2.2)))))))))))=true then
 letB (gV.fn4 (x1,((0:Int),(v2.1,((0:Int),((),(([]:List Int),(([]:List Int),(([]:List Int),(v2.2.1,(v2.2.2.2.2.2,v2.2.2))))))))))) fun v3=>
 some ((v3.1,()),((v3.2.2.2.2.2.2.1,(v3.2.2.2.2.2.2.2.2.1,(v3.2.2.2.2.2.2.2.2.2.1,(v3.2.2.2.2.2.2.2.2.2.2.1,v3.2.2.2.2.2.2.2.1)))),()))
 else
 none
 else
 none
theorem yT(x1 x2 x3 x4 x5 x6 x7 x8 x9 x10 x11 x12 x13)(hp:pre4 (x1,(x2,(x3,(x4,(x5,(x6,(x7,(x8,(x9,(x10,(x11,(x12,(x13,())))))))))))))=true):Rounds pre4 qD fn4 (x1,(x2,(x3,(x4,(x5,(x6,(x7,(x8,(x9,(x10,(x11,(x12,(x13,()))))))))))))) (hJ x1 x2 x3 x4 x5 x6 x7 x8 x9 x10 x11 x12 x13):=by
 have h1:lp x1 x2 x13.length=true:=hp
 unfold hJ
 by_cases hlt:x2<x1
 case neg=>exact jC (by rw[Za];exact hlt) (congrArg (F4 x4 x5 x6 x7 x8) (aGq (uU aC) x3 (x9,(x11,(x12,(x13,x10)))) hlt))
 rw[aBa h1 hlt]
 exact fN (Zd hlt) (lO (fN (Zd (aCG h1 hlt _)) ⟨yY h1 hlt _,aBb hlt,congrArg (F4 x4 x5 x6 x7 x8) (aK8 (uU aC) x3 (x9,(x11,(x12,(x13,x10)))) hlt)⟩))
theorem eq(x0:R)(x1:Int)(_:wf x0 x1)(hp:pre x0 x1=true):aR x0 x1=some (((gV x0 x1).1,()),((gV x0 x1).2,())):=by
 have hr:x1<=1000:=Ze hp
 have s1:=sT (num:=aC) (good:=false) (one:=nV aC) (P:=fun g:aJ=>g.2.2.2.1=[]) (fun _ _ h=>h) ((aC x0).2,([],([],([],())))) (aC x0).1 rfl
 unfold aR
 refine cV (dT (show gY.pre _ _=true from rfl) (cV (dT (show pre4 _=true from yB (c:=(gS aC false (nV aC) ((aC x0).2,([],([],([],())))) (aC x0).1).2.2.2.2.1.length) (show x1<=2147483647 by omega) (by rw[s1];exact Nat.zero_le _)) (cV ?_))))
 rfl
end gV
def eR(s:R)(rows:Int):R×bI:=aDL aA aP true rows s
namespace eR
abbrev S4:Type:=(Int×(Int×aDi))
abbrev O4:Type:=aDi
abbrev S10:Type:=(Int×(Int×aDi))
abbrev O10:Type:=aDi
abbrev S16:Type:=(Int×(Int×aDi))
abbrev O16:Type:=(jT×zt3)
abbrev S22:Type:=aDi
abbrev O22:Type:=(jT×zt3)
def pre(_:R)(rows:Int):Bool:=decide (rows<=1000)
def F4(x1:Int)(x5:Int)(x6:Unit)(x7:List cL)(x8:List aK)(x9:List aJ)(x10:List Int)(x11:List aM)(v:R×bI):O4:=(x1,(v.1,(x5,(x6,(x7,(x8,(x9,(x10,(x11,(v.2.2.2.2.1,(v.2.2.2.2.2.2.2,(v.2.1,(v.2.2.1,(v.2.2.2.1,(v.2.2.2.2.2.1,(v.2.2.2.2.2.2.1,()))))))))))))))))
def pre4:S4->Bool:=fun(_,x2,x3,_,_,_,_,_,_,_,_,_,_,x14,_,_,_,_,_)=>lp x2 x3 x14.length
def fn4:S4->O4:=fun(x1,x2,x3,x4,x5,x6,x7,x8,x9,x10,x11,x12,x13,x14,x15,x16,x17,x18,_)=>F4 x1 x5 x6 x7 x8 x9 x10 x11 (kY (lX aA aP true) true (x2-x3).toNat (x14,(x15,(x16,(x12,(x17,(x18,x13)))))) x4)
def qD:S4->Nat:=fun(_,x2,x3,_,_,_,_,_,_,_,_,_,_,_,_,_,_,_,_)=>(x2-x3).toNat
def F10(x1:Int)(x5:Int)(x6:Unit)(x7:List cL)(x8:List aK)(x9:List aJ)(x10:List Int)(x11:List aM)(v:R×bI):O10:=(x1,(v.1,(x5,(x6,(x7,(x8,(x9,(x10,(x11,(v.2.2.2.2.1,(v.2.2.2.2.2.2.2,(v.2.1,(v.2.2.1,(v.2.2.2.1,(v.2.2.2.2.2.1,(v.2.2.2.2.2.2.1,()))))))))))))))))
def pre10:S10->Bool:=fun(_,x2,x3,_,_,_,_,_,_,_,_,_,_,_,x15,_,_,_,_)=>lp x2 x3 x15.length
def fn10:S10->O10:=fun(x1,x2,x3,x4,x5,x6,x7,x8,x9,x10,x11,x12,x13,x14,x15,x16,x17,x18,_)=>F10 x1 x5 x6 x7 x8 x9 x10 x11 (kY (gR aA true) true (x2-x3).toNat (x14,(x15,(x16,(x12,(x17,(x18,x13)))))) x4)
def aLY:S10->Nat:=fun(_,x2,x3,_,_,_,_,_,_,_,_,_,_,_,_,_,_,_,_)=>(x2-x3).toNat
def F16(x5:Int)(x6:Unit)(x7:List cL)(x8:List aK)(x9:List aJ)(x10:List Int)(x11:List aM)(v:R×bI):O16:=(v.1,(x5,(x6,(x7,(x8,(x9,(x10,(x11,(v.2.2.2.2.1,(v.2.2.2.2.2.2.2,(v.2.1,(v.2.2.1,(v.2.2.2.1,(v.2.2.2.2.2.1,(v.2.2.2.2.2.2.1,())))))))))))))))
def pre16:S16->Bool:=fun(x1,x2,x3,_,_,_,_,_,_,_,_,_,_,_,_,x16,_,_,_)=>decide (x1<=1000)&&(lp x2 x3 x16.length)
def fn16:S16->O16:=fun(x1,x2,x3,x4,x5,x6,x7,x8,x9,x10,x11,x12,x13,x14,x15,x16,x17,x18,_)=>F16 x5 x6 x7 x8 x9 x10 x11 (kY (fZ aA true x1) true (x2-x3).toNat (x14,(x15,(x16,(x12,(x17,(x18,x13)))))) x4)
def aOB:S16->Nat:=fun(_,x2,x3,_,_,_,_,_,_,_,_,_,_,_,_,_,_,_,_)=>(x2-x3).toNat
def F22(x3:Int)(x4:Unit)(x5:List cL)(x6:List aK)(x7:List aJ)(x8:List Int)(x9:List aM)(v:R×bI):O22:=(v.1,(x3,(x4,(x5,(x6,(x7,(x8,(x9,(v.2.2.2.2.1,(v.2.2.2.2.2.2.2,(v.2.1,(v.2.2.1,(v.2.2.2.1,(v.2.2.2.2.2.1,(v.2.2.2.2.2.2.1,())))))))))))))))
def pre22:S22->Bool:=fun(x1,_,_,_,_,_,_,_,_,_,_,_,_,_,x15,x16,_)=>lp 4 x1 x15.length&&(lp 4 x1 x16.length)
def fn22:S22->O22:=fun(x1,x2,x3,x4,x5,x6,x7,x8,x9,x10,x11,x12,x13,x14,x15,x16,_)=>F22 x3 x4 x5 x6 x7 x8 x9 (aAh (qY aA aP) (4-x1).toNat (x12,(x13,(x14,(x10,(x15,(x16,x11)))))) x2)
def aOf:S22->Nat:=fun(x1,_,_,_,_,_,_,_,_,_,_,_,_,_,_,_,_)=>(4-x1).toNat
noncomputable def hJ(x1:Int)(x2:Int)(x3:Int)(x4:jT)(x5:Int)(x6:Unit)(x7:(List cL))(x8:(List aK))(x9:(List aJ))(x10:(List Int))(x11:(List aM))(x12:Int)(x13:Unit)(x14:(List cL))(x15:(List aK))(x16:(List aJ))(x17:(List Int))(x18:(List aM)):Option ((Int×(Int×aDi))⊕aDi):=
 if(decide (x3<x2))=true then
 if x4.2.2.1=true then
 letB (mB x4) fun v1=>
 if(decide (length x14+length (v1.2::([]:List cL))<=lV))=true then
 some (.inl (x1,(x2,((wrap .i64 (x3+(1:Int))),(v1.1,(x5,(x6,(x7,(x8,(x9,(x10,(x11,(x12,(x13,((List.append x14 (v1.2::([]:List cL))),(x15,(x16,(x17,(x18,())))))))))))))))))))
 else
 none
 else
 some (.inr (x1,(x4,(x5,(x6,(x7,(x8,(x9,(x10,(x11,(x12,(x13,(x14,(x15,(x16,(x17,(x18,())))))))))))))))))
 else
 some (.inr (x1,(x4,(x5,(x6,(x7,(x8,(x9,(x10,(x11,(x12,(x13,(x14,(x15,(x16,(x17,(x18,())))))))))))))))))
noncomputable def aEG(x1:Int)(x2:Int)(x3:Int)(x4:jT)(x5:Int)(x6:Unit)(x7:(List cL))(x8:(List aK))(x9:(List aJ))(x10:(List Int))(x11:(List aM))(x12:Int)(x13:Unit)(x14:(List cL))(x15:(List aK))(x16:(List aJ))(x17:(List Int))(x18:(List aM)):Option ((Int×(Int×aDi))⊕aDi):=
 if(decide (x3<x2))=true then
 if x4.2.2.1=true then
 letB (jR x4) fun v1=>
 if(decide (length x15+length (v1.2::([]:List aK))<=lV))=true then
 some (.inl (x1,(x2,((wrap .i64 (x3+(1:Int))),(v1.1,(x5,(x6,(x7,(x8,(x9,(x10,(x11,(x12,(x13,(x14,((List.append x15 (v1.2::([]:List aK))),(x16,(x17,(x18,())))))))))))))))))))
 else
 none
 else
 some (.inr (x1,(x4,(x5,(x6,(x7,(x8,(x9,(x10,(x11,(x12,(x13,(x14,(x15,(x16,(x17,(x18,())))))))))))))))))
 else
 some (.inr (x1,(x4,(x5,(x6,(x7,(x8,(x9,(x10,(x11,(x12,(x13,(x14,(x15,(x16,(x17,(x18,())))))))))))))))))
noncomputable def aLX(x1:Int)(x2:Int)(x3:Int)(x4:jT)(x5:Int)(x6:Unit)(x7:(List cL))(x8:(List aK))(x9:(List aJ))(x10:(List Int))(x11:(List aM))(x12:Int)(x13:Unit)(x14:(List cL))(x15:(List aK))(x16:(List aJ))(x17:(List Int))(x18:(List aM)):Option ((Int×(Int×aDi))⊕(jT×zt3)):=
 if(decide (x3<x2))=true then
 if x4.2.2.1=true then
 if(gE.pre x4 x1)=true then
 letB (gE x4 x1) fun v1=>
 if(decide (length x16+length (v1.2::([]:List aJ))<=lV))=true then
 some (.inl (x1,(x2,((wrap .i64 (x3+(1:Int))),(v1.1,(x5,(x6,(x7,(x8,(x9,(x10,(x11,(x12,(x13,(x14,(x15,((List.append x16 (v1.2::([]:List aJ))),(x17,(x18,())))))))))))))))))))
 else
 none
 else
 none
 else
 some (.inr (x4,(x5,(x6,(x7,(x8,(x9,(x10,(x11,(x12,(x13,(x14,(x15,(x16,(x17,(x18,()))))))))))))))))
 else
 some (.inr (x4,(x5,(x6,(x7,(x8,(x9,(x10,(x11,(x12,(x13,(x14,(x15,(x16,(x17,(x18,()))))))))))))))))
noncomputable def aLq(x1:Int)(x2:jT)(x3:Int)(x4:Unit)(x5:(List cL))(x6:(List aK))(x7:(List aJ))(x8:(List Int))(x9:(List aM))(x10:Int)(x11:Unit)(x12:(List cL))(x13:(List aK))(x14:(List aJ))(x15:(List Int))(x16:(List aM)):Option (aDi⊕(jT×zt3)):=
 if(decide (x1<(4:Int)))=true then
 letB (aA x2) fun v1=>
 if(decide (length x15+length (v1.2::([]:List Int))<=lV))=true then
 letB (aA v1.1) fun v2=>
 letB (aA v2.1) fun v3=>
 letB (aP v3.1) fun v4=>
 letB (aP v4.1) fun v5=>
 if(decide (length x16+length ((v2.2,((wrap .i64 (v3.2-(1:Int))),(v4.2,(v5.2,()))))::([]:List aM))<=lV))=true then
 some (.inl ((wrap .i64 (x1+(1:Int))),(v5.1,(x3,(x4,(x5,(x6,(x7,(x8,(x9,(x10,(x11,(x12,(x13,(x14,((List.append x15 (v1.2::([]:List Int))),((List.append x16 ((v2.2,((wrap .i64 (v3.2-(1:Int))),(v4.2,(v5.2,()))))::([]:List aM))),())))))))))))))))))
 else
 none
 else
 none
 else
 some (.inr (x2,(x3,(x4,(x5,(x6,(x7,(x8,(x9,(x10,(x11,(x12,(x13,(x14,(x15,(x16,()))))))))))))))))
abbrev wf(x0:jT)(x1:Int):Prop:=fV [(.ref oR .f),(.val (.int .i64) .f)] (x0,(x1,()))
noncomputable def aR(x0:jT)(x1:Int):Option ((jT×Unit)×(bI×Unit)):=
 letB (aA x0) fun v1=>
 if(eR.pre4 (x1,(v1.2,((0:Int),(v1.1,((0:Int),((),(([]:List cL),(([]:List aK),(([]:List aJ),(([]:List Int),(([]:List aM),aN5))))))))))))=true then
 letB (eR.fn4 (x1,(v1.2,((0:Int),(v1.1,((0:Int),((),(([]:List cL),(([]:List aK),(([]:List aJ),(([]:List Int),(([]:List aM),aN5)))))))))))) fun v2=>
 letB (aA v2.2.1) fun v3=>
 if(eR.pre10 (v2.1,(v3.2,((0:Int),(v3.1,v2.2.2)))))=true then
 letB (eR.fn10 (v2.1,(v3.2,((0:Int),(v3.1,v2.2.2))))) fun v4=>
 letB (aA v4.2.1) fun v5=>
 if(eR.pre16 (v4.1,(v5.2,((0:Int),(v5.1,v4.2.2)))))=true then
 letB (eR.fn16 (v4.1,(v5.2,((0:Int),(v5.1,v4.2.2))))) fun v6=>
 letB (aA v6.1) fun v7=>
 if(eR.pre22 ((0:Int),(v7.1,(v6.2.1,(v6.2.2.1,(v6.2.2.2.1,(v6.2.2.2.2.1,(v6.2.2.2.2.2.1,(v6.2.2.2.2.2.2.1,(v6.2.2.2.2.2.2.2.1,(v7.2,v6.2.2.2.2.2.2.2.2.2)))))))))))=true then
 letB (eR.fn22 ((0:Int),(v7.1,(v6.2.1,(v6.2.2.1,(v6.2.2.2.1,(v6.2.2.2.2.1,(v6.2.2.2.2.2.1,(v6.2.2.2.2.2.2.1,(v6.2.2.2.2.2.2.2.1,(v7.2,v6.2.2.2.2.2.2.2.2.2))))))))))) fun v8=>
 some ((v8.1,()),((v8.2.2.2.2.2.2.2.2.2.2.1,(v8.2.2.2.2.2.2.2.2.2.2.2.1,(v8.2.2.2.2.2.2.2.2.2.2.2.2.1,(v8.2.2.2.2.2.2.2.2.1,(v8.2.2.2.2.2.2.2.2.2.2.2.2.2.1,(v8.2.2.2.2.2.2.2.2.2.2.2.2.2.2.1,v8.2.2.2.2.2.2.2.2.2.1)))))),()))
 else
 none
 else
 none
 else
 none
 else
 none
theorem yT(x1 x2 x3 x4 x5 x6 x7 x8 x9 x10 x11 x12 x13 x14 x15 x16 x17 x18)(hp:pre4 (x1,(x2,(x3,(x4,(x5,(x6,(x7,(x8,(x9,(x10,(x11,(x12,(x13,(x14,(x15,(x16,(x17,(x18,()))))))))))))))))))=true):Rounds pre4 qD fn4 (x1,(x2,(x3,(x4,(x5,(x6,(x7,(x8,(x9,(x10,(x11,(x12,(x13,(x14,(x15,(x16,(x17,(x18,())))))))))))))))))) (hJ x1 x2 x3 x4 x5 x6 x7 x8 x9 x10 x11 x12 x13 x14 x15 x16 x17 x18):=by
 have h1:lp x2 x3 x14.length=true:=hp
 unfold hJ
 by_cases hlt:x3<x2
 case neg=>exact jC (by rw[Za];exact hlt) (congrArg (F4 x1 x5 x6 x7 x8 x9 x10 x11) (uP (lX aA aP true) true x4 (x14,(x15,(x16,(x12,(x17,(x18,x13)))))) hlt))
 by_cases hf:x4.2.2.1=true
 case neg=>exact fN (Zd hlt) (jC hf (congrArg (F4 x1 x5 x6 x7 x8 x9 x10 x11) (tO (lX aA aP true) true x4 (x14,(x15,(x16,(x12,(x17,(x18,x13)))))) _ hf)))
 rw[aBa h1 hlt]
 exact fN (Zd hlt) (fN hf (lO (fN (Zd (aCG h1 hlt _)) ⟨yY h1 hlt _,aBb hlt,congrArg (F4 x1 x5 x6 x7 x8 x9 x10 x11) (aAe (lX aA aP true) true x4 (x14,(x15,(x16,(x12,(x17,(x18,x13)))))) hlt hf)⟩)))
theorem aO0(x1 x2 x3 x4 x5 x6 x7 x8 x9 x10 x11 x12 x13 x14 x15 x16 x17 x18)(hp:pre10 (x1,(x2,(x3,(x4,(x5,(x6,(x7,(x8,(x9,(x10,(x11,(x12,(x13,(x14,(x15,(x16,(x17,(x18,()))))))))))))))))))=true):Rounds pre10 aLY fn10 (x1,(x2,(x3,(x4,(x5,(x6,(x7,(x8,(x9,(x10,(x11,(x12,(x13,(x14,(x15,(x16,(x17,(x18,())))))))))))))))))) (aEG x1 x2 x3 x4 x5 x6 x7 x8 x9 x10 x11 x12 x13 x14 x15 x16 x17 x18):=by
 have h1:lp x2 x3 x15.length=true:=hp
 unfold aEG
 by_cases hlt:x3<x2
 case neg=>exact jC (by rw[Za];exact hlt) (congrArg (F10 x1 x5 x6 x7 x8 x9 x10 x11) (uP (gR aA true) true x4 (x14,(x15,(x16,(x12,(x17,(x18,x13)))))) hlt))
 by_cases hf:x4.2.2.1=true
 case neg=>exact fN (Zd hlt) (jC hf (congrArg (F10 x1 x5 x6 x7 x8 x9 x10 x11) (tO (gR aA true) true x4 (x14,(x15,(x16,(x12,(x17,(x18,x13)))))) _ hf)))
 rw[aBa h1 hlt]
 exact fN (Zd hlt) (fN hf (lO (fN (Zd (aCG h1 hlt _)) ⟨yY h1 hlt _,aBb hlt,congrArg (F10 x1 x5 x6 x7 x8 x9 x10 x11) (aAe (gR aA true) true x4 (x14,(x15,(x16,(x12,(x17,(x18,x13)))))) hlt hf)⟩)))
theorem aOP(x1 x2 x3 x4 x5 x6 x7 x8 x9 x10 x11 x12 x13 x14 x15 x16 x17 x18)(hp:pre16 (x1,(x2,(x3,(x4,(x5,(x6,(x7,(x8,(x9,(x10,(x11,(x12,(x13,(x14,(x15,(x16,(x17,(x18,()))))))))))))))))))=true):Rounds pre16 aOB fn16 (x1,(x2,(x3,(x4,(x5,(x6,(x7,(x8,(x9,(x10,(x11,(x12,(x13,(x14,(x15,(x16,(x17,(x18,())))))))))))))))))) (aLX x1 x2 x3 x4 x5 x6 x7 x8 x9 x10 x11 x12 x13 x14 x15 x16 x17 x18):=by
 have hp:(decide (x1<=1000)&&(lp x2 x3 x16.length))=true:=hp
 simp only[Zb] at hp
 obtain⟨he,h1⟩:=hp
 unfold aLX
 by_cases hlt:x3<x2
 case neg=>exact jC (by rw[Za];exact hlt) (congrArg (F16 x5 x6 x7 x8 x9 x10 x11) (uP (fZ aA true x1) true x4 (x14,(x15,(x16,(x12,(x17,(x18,x13)))))) hlt))
 by_cases hf:x4.2.2.1=true
 case neg=>exact fN (Zd hlt) (jC hf (congrArg (F16 x5 x6 x7 x8 x9 x10 x11) (tO (fZ aA true x1) true x4 (x14,(x15,(x16,(x12,(x17,(x18,x13)))))) _ hf)))
 rw[aBa h1 hlt]
 exact fN (Zd hlt) (fN hf (fN he (lO (fN (Zd (aCG h1 hlt _)) ⟨qI he (yY h1 hlt _),aBb hlt,congrArg (F16 x5 x6 x7 x8 x9 x10 x11) (aAe (fZ aA true x1) true x4 (x14,(x15,(x16,(x12,(x17,(x18,x13)))))) hlt hf)⟩))))
theorem aON(x1 x2 x3 x4 x5 x6 x7 x8 x9 x10 x11 x12 x13 x14 x15 x16)(hp:pre22 (x1,(x2,(x3,(x4,(x5,(x6,(x7,(x8,(x9,(x10,(x11,(x12,(x13,(x14,(x15,(x16,()))))))))))))))))=true):Rounds pre22 aOf fn22 (x1,(x2,(x3,(x4,(x5,(x6,(x7,(x8,(x9,(x10,(x11,(x12,(x13,(x14,(x15,(x16,())))))))))))))))) (aLq x1 x2 x3 x4 x5 x6 x7 x8 x9 x10 x11 x12 x13 x14 x15 x16):=by
 have hp:(lp 4 x1 x15.length&&(lp 4 x1 x16.length))=true:=hp
 simp only[Zb] at hp
 obtain⟨h1,h2⟩:=hp
 unfold aLq
 by_cases hlt:x1<4
 case neg=>exact jC (by rw[Za];exact hlt) (congrArg (F22 x3 x4 x5 x6 x7 x8 x9) (aGq (qY aA aP) x2 (x12,(x13,(x14,(x10,(x15,(x16,x11)))))) hlt))
 rw[aBa h1 hlt]
 exact fN (Zd hlt) (lO (fN (Zd (aCG h1 hlt _)) (lO (lO (lO (lO (fN (Zd (aCG h2 hlt _)) ⟨qI (yY h1 hlt _) (yY h2 hlt _),aBb hlt,congrArg (F22 x3 x4 x5 x6 x7 x8 x9) (aK8 (qY aA aP) x2 (x12,(x13,(x14,(x10,(x15,(x16,x11)))))) hlt)⟩)))))))
theorem eq(x0:R)(x1:Int)(hw:wf x0 x1)(hp:pre x0 x1=true):aR x0 x1=some (((eR x0 x1).1,()),((eR x0 x1).2,())):=by
 have hb:bR x0.1=true:=gL hw.1.1.2
 have n1:=(kG hb).2
 unfold aR
 refine cV (dT (show pre4 _=true from yB n1 (Nat.zero_le _)) (aFq (show fn4 _=F4 x1 0 () [] [] [] [] [] (gS aA true (lX aA aP true) mD x0) from rfl) ?_))
 show _=some (((aEw aA aP true x1 (gS aA true (lX aA aP true) mD x0).2 (gS aA true (lX aA aP true) mD x0).1).1,()),((aEw aA aP true x1 (gS aA true (lX aA aP true) mD x0).2 (gS aA true (lX aA aP true) mD x0).1).2,()))
 have e1:=(uA aAs mD x0).1.1
 have s1:=sT (num:=aA) (good:=true) (one:=lX aA aP true) (P:=fun k:bI=>k.2=mD.2) (fun _ _ h=>h) mD x0 rfl
 generalize gS aA true (lX aA aP true) mD x0=v1 at *
 have hb1:bR v1.1.1=true:=by rw[e1];exact hb
 have n2:=(kG hb1).2
 refine cV (dT (show pre10 _=true from yB (c:=v1.2.2.1.length) n2 (by rw[s1];exact Nat.zero_le _)) (aFq (show fn10 _=F10 x1 0 () [] [] [] [] [] (gS aA true (gR aA true) v1.2 v1.1) from rfl) ?_))
 show _=some (((aE6 aA aP true x1 (gS aA true (gR aA true) v1.2 v1.1).2 (gS aA true (gR aA true) v1.2 v1.1).1).1,()),((aE6 aA aP true x1 (gS aA true (gR aA true) v1.2 v1.1).2 (gS aA true (gR aA true) v1.2 v1.1).1).2,()))
 have e2:=(uA wV v1.2 v1.1).1.1
 have s2:=sT (num:=aA) (good:=true) (one:=gR aA true) (P:=fun k:bI=>k.2.2=mD.2.2) (fun _ _ h=>h) v1.2 v1.1 (by rw[s1])
 generalize gS aA true (gR aA true) v1.2 v1.1=v2 at *
 have hb2:bR v2.1.1=true:=by rw[e2];exact hb1
 have n3:=(kG hb2).2
 refine cV (dT (show pre16 _=true from qI hp (yB (c:=v2.2.2.2.1.length) n3 (by rw[s2];exact Nat.zero_le _))) (aFq (show fn16 _=F16 0 () [] [] [] [] [] (gS aA true (fZ aA true x1) v2.2 v2.1) from rfl) ?_))
 show _=some (((aCI aA aP (gS aA true (fZ aA true x1) v2.2 v2.1).2 (gS aA true (fZ aA true x1) v2.2 v2.1).1).1,()),((aCI aA aP (gS aA true (fZ aA true x1) v2.2 v2.1).2 (gS aA true (fZ aA true x1) v2.2 v2.1).1).2,()))
 have s3:=sT (num:=aA) (good:=true) (one:=fZ aA true x1) (P:=fun k:bI=>k.2.2.2=mD.2.2.2) (fun _ _ h=>h) v2.2 v2.1 (by rw[s2])
 generalize gS aA true (fZ aA true x1) v2.2 v2.1=v3 at *
 have z1:v3.2.2.2.2.2=mD.2.2.2.2:=congrArg Prod.snd s3
 exact cV (dT (show pre22 _=true from qI (yB (c:=v3.2.2.2.2.2.1.length) (by decide) (by rw[z1];exact Nat.zero_le _)) (yB (c:=v3.2.2.2.2.2.2.1.length) (by decide) (by rw[z1];exact Nat.zero_le _))) (cV rfl))
end eR
def pB(k:bI)(s:R):bI×R:=((lX aC aV false k s).2,(lX aC aV false k s).1)
namespace pB
def pre(k:bI)(_:R):Bool:=decide (k.1.length<=4000000000)
abbrev wf(x0:bI)(x1:jT):Prop:=fV [(.ref zk1 .o),(.cell 2 oR),(.ref oR .f)] (x0,(x1,()))
noncomputable def aR(x0:bI)(x1:jT):Option ((bI×(jT×Unit))×Unit):=
 letB (nZ x1) fun v1=>
 if(decide (length x0.1+length (v1.2::([]:List cL))<=lV))=true then
 some ((((List.append x0.1 (v1.2::([]:List cL))),x0.2),(v1.1,())),())
 else
 none
theorem eq(x0:bI)(x1:R)(_:wf x0 x1)(hp:pre x0 x1=true):aR x0 x1=some (((pB x0 x1).1,((pB x0 x1).2,())),()):=by
 unfold aR
 exact cV (dT (Zd (aD6 (Ze hp) _)) rfl)
end pB
def fK(s:R)(k:bI):R×bI:=gS aC false (lX aC aV false) k s
namespace fK
abbrev S2:Type:=(Int×(Int×(jT×aDl)))
abbrev O2:Type:=(jT×aDl)
def pre(_:R)(k:bI):Bool:=decide (k.1.length<=1000)
def F2(v:R×bI):O2:=(v.1,(v.2.2.2.2.1,(v.2.2.2.2.2.2.2,(v.2.1,(v.2.2.1,(v.2.2.2.1,(v.2.2.2.2.2.1,(v.2.2.2.2.2.2.1,()))))))))
def pre2:S2->Bool:=fun(x1,x2,_,_,_,x6,_,_,_,_,_)=>lp x1 x2 x6.length
def fn2:S2->O2:=fun(x1,x2,x3,x4,x5,x6,x7,x8,x9,x10,_)=>F2 (kY (lX aC aV false) false (x1-x2).toNat (x6,(x7,(x8,(x4,(x9,(x10,x5)))))) x3)
def kX:S2->Nat:=fun(x1,x2,_,_,_,_,_,_,_,_,_)=>(x1-x2).toNat
noncomputable def cU(x1:Int)(x2:Int)(x3:jT)(x4:Int)(x5:Unit)(x6:(List cL))(x7:(List aK))(x8:(List aJ))(x9:(List Int))(x10:(List aM)):Option ((Int×(Int×(jT×aDl)))⊕(jT×aDl)):=
 if(decide (x2<x1))=true then
 if(!x3.2.2.1)=true then
 if(pB.pre (x6,(x7,(x8,(x4,(x9,(x10,x5)))))) x3)=true then
 letB (pB (x6,(x7,(x8,(x4,(x9,(x10,x5)))))) x3) fun v1=>
 some (.inl (x1,((wrap .i64 (x2+(1:Int))),(v1.2,(v1.1.2.2.2.1,(v1.1.2.2.2.2.2.2,(v1.1.1,(v1.1.2.1,(v1.1.2.2.1,v1.1.2.2.2.2)))))))))
 else
 none
 else
 some (.inr (x3,(x4,(x5,(x6,(x7,(x8,(x9,(x10,())))))))))
 else
 some (.inr (x3,(x4,(x5,(x6,(x7,(x8,(x9,(x10,())))))))))
abbrev wf(x0:jT)(x1:bI):Prop:=fV [(.ref oR .f),(.ref zk1 .o),(.cell 0 oR)] (x0,(x1,()))
noncomputable def aR(x0:jT)(x1:bI):Option ((jT×(bI×Unit))×Unit):=
 letB (aC x0) fun v1=>
 if(fK.pre2 (v1.2,((0:Int),(v1.1,(x1.2.2.2.1,(x1.2.2.2.2.2.2,(x1.1,(x1.2.1,(x1.2.2.1,x1.2.2.2.2)))))))))=true then
 letB (fK.fn2 (v1.2,((0:Int),(v1.1,(x1.2.2.2.1,(x1.2.2.2.2.2.2,(x1.1,(x1.2.1,(x1.2.2.1,x1.2.2.2.2))))))))) fun v2=>
 some ((v2.1,((v2.2.2.2.1,(v2.2.2.2.2.1,(v2.2.2.2.2.2.1,(v2.2.1,(v2.2.2.2.2.2.2.1,(v2.2.2.2.2.2.2.2.1,v2.2.2.1)))))),())),())
 else
 none
theorem qG(x1 x2 x3 x4 x5 x6 x7 x8 x9 x10)(hp:pre2 (x1,(x2,(x3,(x4,(x5,(x6,(x7,(x8,(x9,(x10,()))))))))))=true):Rounds pre2 kX fn2 (x1,(x2,(x3,(x4,(x5,(x6,(x7,(x8,(x9,(x10,())))))))))) (cU x1 x2 x3 x4 x5 x6 x7 x8 x9 x10):=by
 have h1:lp x1 x2 x6.length=true:=hp
 unfold cU
 by_cases hlt:x2<x1
 case neg=>exact jC (by rw[Za];exact hlt) (congrArg (F2) (uP (lX aC aV false) false x3 (x6,(x7,(x8,(x4,(x9,(x10,x5)))))) hlt))
 by_cases hf:x3.2.2.1=false
 case neg=>exact fN (Zd hlt) (jC (by simpa using hf) (congrArg (F2) (tO (lX aC aV false) false x3 (x6,(x7,(x8,(x4,(x9,(x10,x5)))))) _ hf)))
 rw[aBa h1 hlt]
 exact fN (Zd hlt) (fN (by rw[hf];rfl) (fN (Zd (aHU h1 hlt)) (lO ⟨yY h1 hlt _,aBb hlt,congrArg (F2) (aAe (lX aC aV false) false x3 (x6,(x7,(x8,(x4,(x9,(x10,x5)))))) hlt hf)⟩)))
theorem eq(x0:R)(x1:bI)(hw:wf x0 x1)(hp:pre x0 x1=true):aR x0 x1=some (((fK x0 x1).1,((fK x0 x1).2,())),()):=by
 have hn:=oO (s:=x0) (gL hw.1.1.2)
 unfold aR
 exact cV (dT (show pre2 _=true from yB hn.2 (Ze hp)) (cV rfl))
end fK
def pC(k:bI)(s:R):bI×R:=((gR aC false k s).2,(gR aC false k s).1)
namespace pC
def pre(k:bI)(_:R):Bool:=decide (k.2.1.length<=4000000000)
abbrev wf(x0:bI)(x1:jT):Prop:=fV [(.ref zk1 .o),(.cell 2 oR),(.ref oR .f)] (x0,(x1,()))
noncomputable def aR(x0:bI)(x1:jT):Option ((bI×(jT×Unit))×Unit):=
 letB (lI x1) fun v1=>
 if(decide (length x0.2.1+length (v1.2::([]:List aK))<=lV))=true then
 some (((x0.1,((List.append x0.2.1 (v1.2::([]:List aK))),x0.2.2)),(v1.1,())),())
 else
 none
theorem eq(x0:bI)(x1:R)(_:wf x0 x1)(hp:pre x0 x1=true):aR x0 x1=some (((pC x0 x1).1,((pC x0 x1).2,())),()):=by
 unfold aR
 exact cV (dT (Zd (aD6 (Ze hp) _)) rfl)
end pC
def fL(s:R)(k:bI):R×bI:=gS aC false (gR aC false) k s
namespace fL
abbrev S2:Type:=(Int×(Int×(jT×aDl)))
abbrev O2:Type:=(jT×aDl)
def pre(_:R)(k:bI):Bool:=decide (k.2.1.length<=1000)
def F2(v:R×bI):O2:=(v.1,(v.2.2.2.2.1,(v.2.2.2.2.2.2.2,(v.2.1,(v.2.2.1,(v.2.2.2.1,(v.2.2.2.2.2.1,(v.2.2.2.2.2.2.1,()))))))))
def pre2:S2->Bool:=fun(x1,x2,_,_,_,_,x7,_,_,_,_)=>lp x1 x2 x7.length
def fn2:S2->O2:=fun(x1,x2,x3,x4,x5,x6,x7,x8,x9,x10,_)=>F2 (kY (gR aC false) false (x1-x2).toNat (x6,(x7,(x8,(x4,(x9,(x10,x5)))))) x3)
def kX:S2->Nat:=fun(x1,x2,_,_,_,_,_,_,_,_,_)=>(x1-x2).toNat
noncomputable def cU(x1:Int)(x2:Int)(x3:jT)(x4:Int)(x5:Unit)(x6:(List cL))(x7:(List aK))(x8:(List aJ))(x9:(List Int))(x10:(List aM)):Option ((Int×(Int×(jT×aDl)))⊕(jT×aDl)):=
 if(decide (x2<x1))=true then
 if(!x3.2.2.1)=true then
 if(pC.pre (x6,(x7,(x8,(x4,(x9,(x10,x5)))))) x3)=true then
 letB (pC (x6,(x7,(x8,(x4,(x9,(x10,x5)))))) x3) fun v1=>
 some (.inl (x1,((wrap .i64 (x2+(1:Int))),(v1.2,(v1.1.2.2.2.1,(v1.1.2.2.2.2.2.2,(v1.1.1,(v1.1.2.1,(v1.1.2.2.1,v1.1.2.2.2.2)))))))))
 else
 none
 else
 some (.inr (x3,(x4,(x5,(x6,(x7,(x8,(x9,(x10,())))))))))
 else
 some (.inr (x3,(x4,(x5,(x6,(x7,(x8,(x9,(x10,())))))))))
abbrev wf(x0:jT)(x1:bI):Prop:=fV [(.ref oR .f),(.ref zk1 .o),(.cell 0 oR)] (x0,(x1,()))
noncomputable def aR(x0:jT)(x1:bI):Option ((jT×(bI×Unit))×Unit):=
 letB (aC x0) fun v1=>
 if(fL.pre2 (v1.2,((0:Int),(v1.1,(x1.2.2.2.1,(x1.2.2.2.2.2.2,(x1.1,(x1.2.1,(x1.2.2.1,x1.2.2.2.2)))))))))=true then
 letB (fL.fn2 (v1.2,((0:Int),(v1.1,(x1.2.2.2.1,(x1.2.2.2.2.2.2,(x1.1,(x1.2.1,(x1.2.2.1,x1.2.2.2.2))))))))) fun v2=>
 some ((v2.1,((v2.2.2.2.1,(v2.2.2.2.2.1,(v2.2.2.2.2.2.1,(v2.2.1,(v2.2.2.2.2.2.2.1,(v2.2.2.2.2.2.2.2.1,v2.2.2.1)))))),())),())
 else
 none
theorem qG(x1 x2 x3 x4 x5 x6 x7 x8 x9 x10)(hp:pre2 (x1,(x2,(x3,(x4,(x5,(x6,(x7,(x8,(x9,(x10,()))))))))))=true):Rounds pre2 kX fn2 (x1,(x2,(x3,(x4,(x5,(x6,(x7,(x8,(x9,(x10,())))))))))) (cU x1 x2 x3 x4 x5 x6 x7 x8 x9 x10):=by
 have h1:lp x1 x2 x7.length=true:=hp
 unfold cU
 by_cases hlt:x2<x1
 case neg=>exact jC (by rw[Za];exact hlt) (congrArg (F2) (uP (gR aC false) false x3 (x6,(x7,(x8,(x4,(x9,(x10,x5)))))) hlt))
 by_cases hf:x3.2.2.1=false
 case neg=>exact fN (Zd hlt) (jC (by simpa using hf) (congrArg (F2) (tO (gR aC false) false x3 (x6,(x7,(x8,(x4,(x9,(x10,x5)))))) _ hf)))
 rw[aBa h1 hlt]
 exact fN (Zd hlt) (fN (by rw[hf];rfl) (fN (Zd (aHU h1 hlt)) (lO ⟨yY h1 hlt _,aBb hlt,congrArg (F2) (aAe (gR aC false) false x3 (x6,(x7,(x8,(x4,(x9,(x10,x5)))))) hlt hf)⟩)))
theorem eq(x0:R)(x1:bI)(hw:wf x0 x1)(hp:pre x0 x1=true):aR x0 x1=some (((fL x0 x1).1,((fL x0 x1).2,())),()):=by
 have hn:=oO (s:=x0) (gL hw.1.1.2)
 unfold aR
 exact cV (dT (show pre2 _=true from yB hn.2 (Ze hp)) (cV rfl))
end fL
def nS(k:bI)(s:R)(p:aW):bI×(R×aW):=((fZ aC false p.1 k s).2,((fZ aC false p.1 k s).1,p))
namespace nS
def pre(k:bI)(_:R)(p:aW):Bool:=decide (p.1<=1000)&&decide (k.2.2.1.length<=4000000000)
abbrev wf(x0:bI)(x1:jT)(x2:aW):Prop:=fV [(.ref zk1 .o),(.cell 2 oR),(.ref oR .f),(.ref wI .o)] (x0,(x1,(x2,())))
noncomputable def aR(x0:bI)(x1:jT)(x2:aW):Option ((bI×(jT×(aW×Unit)))×Unit):=
 if(gV.pre x1 x2.1)=true then
 letB (gV x1 x2.1) fun v1=>
 if(decide (length x0.2.2.1+length (v1.2::([]:List aJ))<=lV))=true then
 some (((x0.1,(x0.2.1,((List.append x0.2.2.1 (v1.2::([]:List aJ))),x0.2.2.2))),(v1.1,(x2,()))),())
 else
 none
 else
 none
theorem eq(x0:bI)(x1:R)(x2:aW)(_:wf x0 x1 x2)(hp:pre x0 x1 x2=true):aR x0 x1 x2=some (((nS x0 x1 x2).1,((nS x0 x1 x2).2.1,((nS x0 x1 x2).2.2,()))),()):=by
 simp only[pre,Zb,Za] at hp
 unfold aR
 exact dT (show gV.pre _ _=true from Zd hp.1) (cV (dT (Zd (aD6 hp.2 _)) rfl))
end nS
def eL(s:R)(k:bI)(p:aW):R×(bI×aW):=((gS aC false (fZ aC false p.1) k s).1,((gS aC false (fZ aC false p.1) k s).2,p))
namespace eL
abbrev S2:Type:=(Int×(Int×aMB))
abbrev O2:Type:=aMB
def pre(_:R)(k:bI)(p:aW):Bool:=decide (p.1<=1000)&&decide (k.2.2.1.length<=1000)
def F2(x11:aW)(v:R×bI):O2:=(v.1,(v.2.2.2.2.1,(v.2.2.2.2.2.2.2,(v.2.1,(v.2.2.1,(v.2.2.2.1,(v.2.2.2.2.2.1,(v.2.2.2.2.2.2.1,(x11,())))))))))
def pre2:S2->Bool:=fun(x1,x2,_,_,_,_,_,x8,_,_,x11,_)=>decide (x11.1<=1000)&&(lp x1 x2 x8.length)
def fn2:S2->O2:=fun(x1,x2,x3,x4,x5,x6,x7,x8,x9,x10,x11,_)=>F2 x11 (kY (fZ aC false x11.1) false (x1-x2).toNat (x6,(x7,(x8,(x4,(x9,(x10,x5)))))) x3)
def kX:S2->Nat:=fun(x1,x2,_,_,_,_,_,_,_,_,_,_)=>(x1-x2).toNat
noncomputable def cU(x1:Int)(x2:Int)(x3:jT)(x4:Int)(x5:Unit)(x6:(List cL))(x7:(List aK))(x8:(List aJ))(x9:(List Int))(x10:(List aM))(x11:aW):Option ((Int×(Int×aMB))⊕aMB):=
 if(decide (x2<x1))=true then
 if(!x3.2.2.1)=true then
 if(nS.pre (x6,(x7,(x8,(x4,(x9,(x10,x5)))))) x3 x11)=true then
 letB (nS (x6,(x7,(x8,(x4,(x9,(x10,x5)))))) x3 x11) fun v1=>
 some (.inl (x1,((wrap .i64 (x2+(1:Int))),(v1.2.1,(v1.1.2.2.2.1,(v1.1.2.2.2.2.2.2,(v1.1.1,(v1.1.2.1,(v1.1.2.2.1,(v1.1.2.2.2.2.1,(v1.1.2.2.2.2.2.1,(v1.2.2,()))))))))))))
 else
 none
 else
 some (.inr (x3,(x4,(x5,(x6,(x7,(x8,(x9,(x10,(x11,()))))))))))
 else
 some (.inr (x3,(x4,(x5,(x6,(x7,(x8,(x9,(x10,(x11,()))))))))))
abbrev wf(x0:jT)(x1:bI)(x2:aW):Prop:=fV [(.ref oR .f),(.ref zk1 .o),(.cell 0 oR),(.ref wI .o)] (x0,(x1,(x2,())))
noncomputable def aR(x0:jT)(x1:bI)(x2:aW):Option ((jT×(bI×(aW×Unit)))×Unit):=
 letB (aC x0) fun v1=>
 if(eL.pre2 (v1.2,((0:Int),(v1.1,(x1.2.2.2.1,(x1.2.2.2.2.2.2,(x1.1,(x1.2.1,(x1.2.2.1,(x1.2.2.2.2.1,(x1.2.2.2.2.2.1,(x2,()))))))))))))=true then
 letB (eL.fn2 (v1.2,((0:Int),(v1.1,(x1.2.2.2.1,(x1.2.2.2.2.2.2,(x1.1,(x1.2.1,(x1.2.2.1,(x1.2.2.2.2.1,(x1.2.2.2.2.2.1,(x2,())))))))))))) fun v2=>
 some ((v2.1,((v2.2.2.2.1,(v2.2.2.2.2.1,(v2.2.2.2.2.2.1,(v2.2.1,(v2.2.2.2.2.2.2.1,(v2.2.2.2.2.2.2.2.1,v2.2.2.1)))))),v2.2.2.2.2.2.2.2.2)),())
 else
 none
theorem qG(x1 x2 x3 x4 x5 x6 x7 x8 x9 x10 x11)(hp:pre2 (x1,(x2,(x3,(x4,(x5,(x6,(x7,(x8,(x9,(x10,(x11,())))))))))))=true):Rounds pre2 kX fn2 (x1,(x2,(x3,(x4,(x5,(x6,(x7,(x8,(x9,(x10,(x11,()))))))))))) (cU x1 x2 x3 x4 x5 x6 x7 x8 x9 x10 x11):=by
 have hp:(decide (x11.1<=1000)&&(lp x1 x2 x8.length))=true:=hp
 simp only[Zb] at hp
 obtain⟨he,h1⟩:=hp
 unfold cU
 by_cases hlt:x2<x1
 case neg=>exact jC (by rw[Za];exact hlt) (congrArg (F2 x11) (uP (fZ aC false x11.1) false x3 (x6,(x7,(x8,(x4,(x9,(x10,x5)))))) hlt))
 by_cases hf:x3.2.2.1=false
 case neg=>exact fN (Zd hlt) (jC (by simpa using hf) (congrArg (F2 x11) (tO (fZ aC false x11.1) false x3 (x6,(x7,(x8,(x4,(x9,(x10,x5)))))) _ hf)))
 rw[aBa h1 hlt]
 exact fN (Zd hlt) (fN (by rw[hf];rfl) (fN (qI he (Zd (aHU h1 hlt))) (lO ⟨qI he (yY h1 hlt _),aBb hlt,congrArg (F2 x11) (aAe (fZ aC false x11.1) false x3 (x6,(x7,(x8,(x4,(x9,(x10,x5)))))) hlt hf)⟩)))
theorem eq(x0:R)(x1:bI)(x2:aW)(hw:wf x0 x1 x2)(hp:pre x0 x1 x2=true):aR x0 x1 x2=some (((eL x0 x1 x2).1,((eL x0 x1 x2).2.1,((eL x0 x1 x2).2.2,()))),()):=by
 have hn:=oO (s:=x0) (gL hw.1.1.2)
 simp only[pre,Zb,Za] at hp
 unfold aR
 exact cV (dT (show pre2 _=true from qI (Zd hp.1) (yB hn.2 hp.2)) (cV rfl))
end eL
theorem aHf{m:aK}{w:Int}(hw:w<=1000000)(hn:∀x∈m.2.2.2.2.1,0<=x.1)(h:dG m w=true):aBG m w:=by
 simp only[dG,Zb,Za,aAK,aB,xW,aCY,beq_iff_eq,decide_eq_decide] at h
 obtain⟨⟨⟨h5,h6⟩,⟨h7,h8⟩,⟨h9,h10⟩,h11,h12⟩,h2,h3,h1⟩:=h
 have hq:∀j,j<m.2.2.2.2.1.length->(m.2.2.2.2.1.getD j nT).1=m.2.2.2.1-(m.2.2.2.2.1.length:Int)+1+(j:Int):=fun j hj=>by
  have:=(h1 j hj).1
  rw[iX (n:=m.2.2.2.1-(m.2.2.2.2.1.length:Int)) (by omega) (by omega),iX (n:=m.2.2.2.1-(m.2.2.2.2.1.length:Int)+1) (by omega) (by omega),iX (by omega) (by omega)] at this
  exact this
 have hl:(m.2.2.2.2.1.length:Int)<=m.2.2.2.1+1:=by
  by_cases h0:0<m.2.2.2.2.1.length
  . have e1:=hq 0 h0
    have e2:=hn _ (zD h0 nT)
    omega
  . omega
 refine⟨⟨h5,h6,h7,h8,h9,h10,h11,h12,h2,hl,fun h=>by omega⟩,fun j hj=>(hq j hj).trans (by omega),fun x hx=>?_,aAT.1 fun j hj=>(h1 j hj).2.2⟩
 obtain⟨j,hj,rfl⟩:=aAL hx nT
 exact(h1 j hj).2.1
theorem aD1{s:aW}{k:bI}(hn:∀m∈k.2.1,∀x∈m.2.2.2.2.1,0<=x.1):dO s k=bX s k:=by
 rw[Bool.eq_iff_iff]
 simp only[dO,bX,vY,Zb]
 constructor
 . rintro⟨h0,h1,h2,h3,h4,h5,h6,h7,hr⟩
   have hs:=mG h0
   have hm:=tL.1 h7
   exact⟨h0,h1,h2,h3,h4,h5,h6,tL.2 ⟨fun m hm'=>⟨(uL (by omega)).2 (aHf (by omega) (hn m hm') (hm.1 m hm').1),(hm.1 m hm').2⟩,hm.2⟩,hr⟩
 . rintro⟨h0,h1,h2,h3,h4,h5,h6,h7,hr⟩
   have hs:=mG h0
   have hm:=tL.1 h7
   exact⟨h0,h1,h2,h3,h4,h5,h6,tL.2 ⟨fun m hm'=>⟨aD7 (by omega) ((uL (by omega)).1 (hm.1 m hm').1),(hm.1 m hm').2⟩,hm.2⟩,hr⟩
def aBf(rows:Int)(b:List Int):R×bI:=aDL aA aP true rows (b,(0,(true,())))
def aGY(s:aW)(b:List Int)(w:R×bI):Bool:=w.1.2.2.1&&(decide (w.1.2.1=(b.length:Int))&&bX s w.2)
def pV(s:aW)(b:List Int):bI×Bool:=if dQ s=true then(if aGY s b (aBf s.1 b)=true then((aBf s.1 b).2,true) else(mD,false)) else(mD,false)
abbrev kA:=pV
abbrev iO:=pV
def bOk(b:List Int):Bool:=bR b&&decide (b.length<=16777000)
theorem aMa{b:List Int}(h:bOk b=true)(f:Bool):Inb (b,(0,(f,()))):=by
 simp only[bOk,Zb,Za] at h
 exact⟨h.1,h.2,Int.le_refl _,Int.natCast_nonneg _⟩
theorem aH7{s:aW}{b:List Int}(hb:bOk b=true)(hs:dQ s=true):tK (aBf s.1 b).2=true/\∀m∈(aBf s.1 b).2.2.1,∀x∈m.2.2.2.2.1,0<=x.1:=by
 have:=mG hs
 exact aNI (by omega) (aMa hb true)
theorem aLf{s:aW}{b:List Int}(hb:bOk b=true)(h:(pV s b).2=true):tK (pV s b).1=true/\dO s (pV s b).1=bX s (pV s b).1:=by
 unfold pV at *
 by_cases hs:dQ s=true
 case neg=>rw[if_neg hs] at h;cases h
 rw[if_pos hs] at *
 by_cases hk:aGY s b (aBf s.1 b)=true
 case neg=>rw[if_neg hk] at h;cases h
 rw[if_pos hk]
 obtain⟨k1,k2⟩:=aH7 hb hs
 exact⟨k1,aD1 k2⟩
namespace kA
def pre(_:aW)(b:List Int):Bool:=bOk b
abbrev wf(x0:aW)(x1:(List Int)):Prop:=fV [(.val wI .f),(.val wQ .f)] (x0,(x1,()))
noncomputable def aR(x0:aW)(x1:(List Int)):Option (Unit×(bI×(Bool×Unit))):=
 letB (dQ x0) fun v1=>
 if(!v1)=true then
 some ((),(aCs,(false,())))
 else
 if(eR.pre (x1,((0:Int),(true,()))) x0.1)=true then
 letB (eR (x1,((0:Int),(true,()))) x0.1) fun v2=>
 if(!v2.1.2.2.1)=true then
 some ((),(aCs,(false,())))
 else
 if(!(decide (v2.1.2.1=((length x1:Nat):Int))))=true then
 some ((),(aCs,(false,())))
 else
 if(bX.pre x0 v2.2)=true then
 letB (bX x0 v2.2) fun v3=>
 if(!v3)=true then
 some ((),(aCs,(false,())))
 else
 some ((),(v2.2,(true,())))
 else
 none
 else
 none
theorem eq(x0:aW)(x1:List Int)(_:wf x0 x1)(hp:pre x0 x1=true):aR x0 x1=some ((),((kA x0 x1).1,((kA x0 x1).2,()))):=by
 unfold aR kA pV
 refine cV ?_
 by_cases hs:dQ x0=true
 case neg=>rw[if_neg hs];exact dT (by simp[hs]) rfl
 have hf:=mG hs
 have hk:=(aH7 hp hs).1
 rw[if_pos hs]
 refine mH (by simp[hs]) (dT (show eR.pre _ _=true from Zd (by omega)) (aFq (show eR _ _=aBf x0.1 x1 from rfl) ?_))
 unfold aGY
 generalize aBf x0.1 x1=w at *
 obtain⟨⟨b,i,f,_⟩,k⟩:=w
 cases f
 . exact dT rfl rfl
 refine mH Bool.false_ne_true ?_
 by_cases hi:i=(x1.length:Int)
 case neg=>rw[decide_eq_false hi];exact dT (by simp[hi]) rfl
 rw[Zd hi]
 refine mH (by simp[hi]) (dT (show bX.pre _ _=true from hk) (cV ?_))
 show(if(!bX x0 k)=true then _ else _)=_
 cases bX x0 k
 . exact dT rfl rfl
 . exact mH Bool.false_ne_true rfl
end kA
namespace iO
abbrev S10:Type:=((List Int)×(Int×aMG))
abbrev O10:Type:=((List Int)×aMG)
def pre(_:aW)(b:List Int):Bool:=bOk b
def F10(x1:List Int)(x3:aW)(x4:Int)(x5:Unit)(x6:List cL)(x7:List aK)(x8:List aJ)(x9:List Int)(x10:List aM)(v:R×bI):O10:=(x1,(x3,(x4,(x5,(x6,(x7,(x8,(x9,(x10,(v.1,(v.2.2.2.2.1,(v.2.2.2.2.2.2.2,(v.2.1,(v.2.2.1,(v.2.2.2.1,(v.2.2.2.2.2.1,(v.2.2.2.2.2.2.1,())))))))))))))))))
def pre10:S10->Bool:=fun(_,x2,_,_,_,_,_,_,_,_,_,_,_,_,_,_,x17,x18,_)=>lp 4 x2 x17.length&&(lp 4 x2 x18.length)
def fn10:S10->O10:=fun(x1,x2,x3,x4,x5,x6,x7,x8,x9,x10,x11,x12,x13,x14,x15,x16,x17,x18,_)=>F10 x1 x3 x4 x5 x6 x7 x8 x9 x10 (aAh (qY aC aV) (4-x2).toNat (x14,(x15,(x16,(x12,(x17,(x18,x13)))))) x11)
def aLY:S10->Nat:=fun(_,x2,_,_,_,_,_,_,_,_,_,_,_,_,_,_,_,_,_)=>(4-x2).toNat
noncomputable def aEG(x1:(List Int))(x2:Int)(x3:aW)(x4:Int)(x5:Unit)(x6:(List cL))(x7:(List aK))(x8:(List aJ))(x9:(List Int))(x10:(List aM))(x11:jT)(x12:Int)(x13:Unit)(x14:(List cL))(x15:(List aK))(x16:(List aJ))(x17:(List Int))(x18:(List aM)):Option (((List Int)×(Int×aMG))⊕((List Int)×aMG)):=
 if(decide (x2<(4:Int)))=true then
 letB (aC x11) fun v1=>
 if(decide (length x17+length (v1.2::([]:List Int))<=lV))=true then
 letB (aC v1.1) fun v2=>
 letB (aC v2.1) fun v3=>
 letB (aV v3.1) fun v4=>
 letB (aV v4.1) fun v5=>
 if(decide (length x18+length ((v2.2,((wrap .i64 (v3.2-(1:Int))),(v4.2,(v5.2,()))))::([]:List aM))<=lV))=true then
 some (.inl (x1,((wrap .i64 (x2+(1:Int))),(x3,(x4,(x5,(x6,(x7,(x8,(x9,(x10,(v5.1,(x12,(x13,(x14,(x15,(x16,((List.append x17 (v1.2::([]:List Int))),((List.append x18 ((v2.2,((wrap .i64 (v3.2-(1:Int))),(v4.2,(v5.2,()))))::([]:List aM))),())))))))))))))))))))
 else
 none
 else
 none
 else
 some (.inr (x1,(x3,(x4,(x5,(x6,(x7,(x8,(x9,(x10,(x11,(x12,(x13,(x14,(x15,(x16,(x17,(x18,()))))))))))))))))))
abbrev wf(x0:aW)(x1:(List Int)):Prop:=fV [(.val wI .f),(.val wQ .f)] (x0,(x1,()))
noncomputable def aR(x0:aW)(x1:(List Int)):Option (Unit×(bI×(Bool×Unit))):=
 letB (dQ x0) fun v1=>
 if(!v1)=true then
 some ((),(aCs,(false,())))
 else
 if(fK.pre (x1,tG) aCs)=true then
 letB (fK (x1,tG) aCs) fun v2=>
 if(fL.pre v2.1 v2.2)=true then
 letB (fL v2.1 v2.2) fun v3=>
 if(eL.pre v3.1 v3.2 x0)=true then
 letB (eL v3.1 v3.2 x0) fun v4=>
 letB (aC v4.1) fun v5=>
 if(iO.pre10 (x1,((0:Int),(v4.2.2,((0:Int),((),(([]:List cL),(([]:List aK),(([]:List aJ),(([]:List Int),(([]:List aM),(v5.1,(v5.2,(v4.2.1.2.2.2.2.2.2,(v4.2.1.1,(v4.2.1.2.1,(v4.2.1.2.2.1,v4.2.1.2.2.2.2)))))))))))))))))=true then
 letB (iO.fn10 (x1,((0:Int),(v4.2.2,((0:Int),((),(([]:List cL),(([]:List aK),(([]:List aJ),(([]:List Int),(([]:List aM),(v5.1,(v5.2,(v4.2.1.2.2.2.2.2.2,(v4.2.1.1,(v4.2.1.2.1,(v4.2.1.2.2.1,v4.2.1.2.2.2.2))))))))))))))))) fun v6=>
 if v6.2.2.2.2.2.2.2.2.2.1.2.2.1=true then
 some ((),(aCs,(false,())))
 else
 if(!(decide (v6.2.2.2.2.2.2.2.2.2.1.2.1=((length v6.1:Nat):Int))))=true then
 some ((),(aCs,(false,())))
 else
 if(dO.pre v6.2.1 (v6.2.2.2.2.2.2.2.2.2.2.2.2.1,(v6.2.2.2.2.2.2.2.2.2.2.2.2.2.1,(v6.2.2.2.2.2.2.2.2.2.2.2.2.2.2.1,(v6.2.2.2.2.2.2.2.2.2.2.1,(v6.2.2.2.2.2.2.2.2.2.2.2.2.2.2.2.1,(v6.2.2.2.2.2.2.2.2.2.2.2.2.2.2.2.2.1,v6.2.2.2.2.2.2.2.2.2.2.2.1)))))))=true then
 letB (dO v6.2.1 (v6.2.2.2.2.2.2.2.2.2.2.2.2.1,(v6.2.2.2.2.2.2.2.2.2.2.2.2.2.1,(v6.2.2.2.2.2.2.2.2.2.2.2.2.2.2.1,(v6.2.2.2.2.2.2.2.2.2.2.1,(v6.2.2.2.2.2.2.2.2.2.2.2.2.2.2.2.1,(v6.2.2.2.2.2.2.2.2.2.2.2.2.2.2.2.2.1,v6.2.2.2.2.2.2.2.2.2.2.2.1))))))) fun v7=>
 if(!v7)=true then
 some ((),(aCs,(false,())))
 else
 some ((),((v6.2.2.2.2.2.2.2.2.2.2.2.2.1,(v6.2.2.2.2.2.2.2.2.2.2.2.2.2.1,(v6.2.2.2.2.2.2.2.2.2.2.2.2.2.2.1,(v6.2.2.2.2.2.2.2.2.2.2.1,(v6.2.2.2.2.2.2.2.2.2.2.2.2.2.2.2.1,(v6.2.2.2.2.2.2.2.2.2.2.2.2.2.2.2.2.1,v6.2.2.2.2.2.2.2.2.2.2.2.1)))))),(true,())))
 else
 none
 else
 none
 else
 none
 else
 none
 else
 none
theorem aO0(x1 x2 x3 x4 x5 x6 x7 x8 x9 x10 x11 x12 x13 x14 x15 x16 x17 x18)(hp:pre10 (x1,(x2,(x3,(x4,(x5,(x6,(x7,(x8,(x9,(x10,(x11,(x12,(x13,(x14,(x15,(x16,(x17,(x18,()))))))))))))))))))=true):Rounds pre10 aLY fn10 (x1,(x2,(x3,(x4,(x5,(x6,(x7,(x8,(x9,(x10,(x11,(x12,(x13,(x14,(x15,(x16,(x17,(x18,())))))))))))))))))) (aEG x1 x2 x3 x4 x5 x6 x7 x8 x9 x10 x11 x12 x13 x14 x15 x16 x17 x18):=by
 have hp:(lp 4 x2 x17.length&&(lp 4 x2 x18.length))=true:=hp
 simp only[Zb] at hp
 obtain⟨h1,h2⟩:=hp
 unfold aEG
 by_cases hlt:x2<4
 case neg=>exact jC (by rw[Za];exact hlt) (congrArg (F10 x1 x3 x4 x5 x6 x7 x8 x9 x10) (aGq (qY aC aV) x11 (x14,(x15,(x16,(x12,(x17,(x18,x13)))))) hlt))
 rw[aBa h1 hlt]
 exact fN (Zd hlt) (lO (fN (Zd (aCG h1 hlt _)) (lO (lO (lO (lO (fN (Zd (aCG h2 hlt _)) ⟨qI (yY h1 hlt _) (yY h2 hlt _),aBb hlt,congrArg (F10 x1 x3 x4 x5 x6 x7 x8 x9 x10) (aK8 (qY aC aV) x11 (x14,(x15,(x16,(x12,(x17,(x18,x13)))))) hlt)⟩)))))))
theorem eq(x0:aW)(x1:List Int)(_:wf x0 x1)(hp:pre x0 x1=true):aR x0 x1=some ((),((iO x0 x1).1,((iO x0 x1).2,()))):=by
 unfold aR iO pV
 refine cV ?_
 by_cases hs:dQ x0=true
 case neg=>rw[if_neg hs];exact dT (by simp[hs]) rfl
 have hf:=mG hs
 obtain⟨hk,hq⟩:=aH7 hp hs
 have hi:=aD1 (s:=x0) hq
 have H:aEw aC aV false x0.1 (gS aC false (lX aC aV false) mD (x1,(0,(false,())))).2 (gS aC false (lX aC aV false) mD (x1,(0,(false,())))).1=(oZ (aBf x0.1 x1).1,(aBf x0.1 x1).2):=
  (aNz x0.1 (x1,(0,(true,())))).2 (aMa hp true).2.1
 rw[if_pos hs]
 unfold aGY
 generalize aBf x0.1 x1=w at *
 have s1:=sT (num:=aC) (good:=false) (one:=lX aC aV false) (P:=fun k:bI=>k.2=mD.2) (fun _ _ h=>h) mD (x1,(0,(false,()))) rfl
 refine mH (by simp[hs]) (dT (show fK.pre _ _=true from rfl) (aFq (show fK _ _=gS aC false (lX aC aV false) mD (x1,(0,(false,()))) from rfl) ?_))
 generalize gS aC false (lX aC aV false) mD (x1,(0,(false,())))=v1 at *
 have H:aE6 aC aV false x0.1 (gS aC false (gR aC false) v1.2 v1.1).2 (gS aC false (gR aC false) v1.2 v1.1).1=(oZ w.1,w.2):=H
 have s2:=sT (num:=aC) (good:=false) (one:=gR aC false) (P:=fun k:bI=>k.2.2=mD.2.2) (fun _ _ h=>h) v1.2 v1.1 (by rw[s1])
 refine dT (show fL.pre _ _=true from Zd (by rw[s1];exact Nat.zero_le _)) (aFq (show fL _ _=gS aC false (gR aC false) v1.2 v1.1 from rfl) ?_)
 generalize gS aC false (gR aC false) v1.2 v1.1=v2 at *
 have H:aCI aC aV (gS aC false (fZ aC false x0.1) v2.2 v2.1).2 (gS aC false (fZ aC false x0.1) v2.2 v2.1).1=(oZ w.1,w.2):=H
 have s3:=sT (num:=aC) (good:=false) (one:=fZ aC false x0.1) (P:=fun k:bI=>k.2.2.2=mD.2.2.2) (fun _ _ h=>h) v2.2 v2.1 (by rw[s2])
 refine dT (show eL.pre _ _ _=true from qI (Zd (by omega)) (Zd (by rw[s2];exact Nat.zero_le _))) (aFq (show eL _ _ _=((gS aC false (fZ aC false x0.1) v2.2 v2.1).1,((gS aC false (fZ aC false x0.1) v2.2 v2.1).2,x0)) from rfl) ?_)
 generalize gS aC false (fZ aC false x0.1) v2.2 v2.1=v3 at *
 have z1:v3.2.2.2.2.2=mD.2.2.2.2:=congrArg Prod.snd s3
 refine cV (dT (show pre10 _=true from qI (yB (c:=v3.2.2.2.2.2.1.length) (by decide) (by rw[z1];exact Nat.zero_le _)) (yB (c:=v3.2.2.2.2.2.2.1.length) (by decide) (by rw[z1];exact Nat.zero_le _))) (aFq ((show fn10 _=F10 x1 x0 0 () [] [] [] [] [] (aCI aC aV v3.2 v3.1) from rfl).trans (congrArg (F10 x1 x0 0 () [] [] [] [] []) H)) ?_))
 obtain⟨⟨b,i,f,_⟩,k⟩:=w
 cases f
 . exact dT rfl rfl
 refine mH (show ¬(false=true) from Bool.false_ne_true) ?_
 by_cases hi':i=(x1.length:Int)
 case neg=>rw[decide_eq_false hi'];exact dT (show(!decide (i=(x1.length:Int)))=true by simp[hi']) rfl
 rw[Zd hi']
 refine mH (show ¬(!decide (i=(x1.length:Int)))=true by simp[hi']) (dT (show dO.pre x0 k=true from hk) (aFq (show dO x0 k=bX x0 k from hi) ?_))
 cases bX x0 k
 . exact dT rfl rfl
 . exact mH Bool.false_ne_true rfl
end iO
theorem aDY{r:eF}(h:jG r=true):bOk (fT r.2.2.2.2.2.1)=true:=by
 have:=(wP h).2
 have e:(fT r.2.2.2.2.2.1).length=r.2.2.2.2.2.1.length:=List.length_map ..
 unfold bOk
 rw[aFu,Bool.true_and,Za,e]
 omega
def iA(p:aW)(h:jV)(r:eF):jV:=
 if r.1=1 then(r.2.1,(r.2.2.1,h.2.2))
 else if r.1=2 then
  (if(uV h.2.2.1 r.2.2.2.1 r.2.1 r.2.2.2.2.1).2=true then(h.1,(h.2.1,((uV h.2.2.1 r.2.2.2.1 r.2.1 r.2.2.2.2.1).1,h.2.2.2))) else h)
 else if r.1=3 then
  (if(pV p (fT r.2.2.2.2.2.1)).2=true then
   (if r.2.2.2.1<=h.2.2.1.1 then h else
    if rE h.2.2.1 r.2.2.2.1=r.2.1 then(h.1,(h.2.1,(aBJ h.2.2.1 r.2.2.2.1,((pV p (fT r.2.2.2.2.2.1)).1,h.2.2.2.2))))
    else(h.1,(h.2.1,((r.2.2.2.1,(r.2.1,([],()))),((pV p (fT r.2.2.2.2.2.1)).1,h.2.2.2.2)))))
   else h)
 else h
abbrev nD:=iA
namespace nD
def pre(_:aW)(h:jV)(r:eF):Bool:=dJ h.2.2.1.2.2.1&&jG r
abbrev wf(x0:aW)(x1:rL)(x2:eF):Prop:=fV [(.val wI .f),(.val aF1 .o),(.val aIc .f)] (x0,(x1,(x2,())))
noncomputable def aR(x0:aW)(x1:rL)(x2:eF):Option (Unit×(rL×Unit)):=
 if(decide (x2.1=(1:Int)))=true then
 some ((),((x2.2.1,(x2.2.2.1,x1.2.2)),()))
 else
 if(decide (x2.1=(2:Int)))=true then
 if(eC.pre x1.2.2.1 x2.2.2.2.1 x2.2.1 x2.2.2.2.2.1)=true then
 letB (uV x1.2.2.1 x2.2.2.2.1 x2.2.1 x2.2.2.2.2.1) fun v1=>
 if v1.2=true then
 some ((),((x1.1,(x1.2.1,(v1.1,x1.2.2.2))),()))
 else
 some ((),(x1,()))
 else
 none
 else
 if(decide (x2.1=(3:Int)))=true then
 if(decide (length x2.2.2.2.2.2.1<=lV))=true then
 if(kA.pre x0 (fT x2.2.2.2.2.2.1))=true then
 letB (pV x0 (fT x2.2.2.2.2.2.1)) fun v2=>
 if(!v2.2)=true then
 some ((),(x1,()))
 else
 if(decide (x2.2.2.2.1<=x1.2.2.1.1))=true then
 some ((),(x1,()))
 else
 letB (rE x1.2.2.1 x2.2.2.2.1) fun v3=>
 if(decide (v3=x2.2.1))=true then
 if(lT.pre x1.2.2.1 x2.2.2.2.1)=true then
 letB (aBJ x1.2.2.1 x2.2.2.2.1) fun v4=>
 some ((),((x1.1,(x1.2.1,(v4,(v2.1,x1.2.2.2.2)))),()))
 else
 none
 else
 some ((),((x1.1,(x1.2.1,((x2.2.2.2.1,(x2.2.1,(([]:List aL),()))),(v2.1,x1.2.2.2.2)))),()))
 else
 none
 else
 none
 else
 some ((),(x1,()))
theorem eq(x0:aW)(x1:jV)(x2:eF)(_:wf x0 x1 x2)(hp:pre x0 x1 x2=true):aR x0 x1 x2=some ((),(nD x0 x1 x2,())):=by
 simp only[pre,Zb] at hp
 obtain⟨hs,hn⟩:=hp
 obtain⟨hl,ht⟩:=wP hn
 have hb:=aDY hn
 unfold aR nD iA
 by_cases c1:x2.1=1
 . rw[if_pos c1];exact dT (Zd c1) rfl
 rw[if_neg c1]
 refine mH (by rw[Za];exact c1) ?_
 by_cases c2:x2.1=2
 . rw[if_pos c2]
   refine dT (Zd c2) (dT (show eC.pre _ _ _ _=true from qI hs (cC.2 (by omega))) (cV ?_))
   by_cases c:(uV x1.2.2.1 x2.2.2.2.1 x2.2.1 x2.2.2.2.2.1).2=true
   . simp only[if_pos c]
   . simp only[if_neg c]
 rw[if_neg c2]
 refine mH (by rw[Za];exact c2) ?_
 by_cases c3:x2.1=3
 case neg=>rw[if_neg c3];exact mH (by rw[Za];exact c3) rfl
 rw[if_pos c3]
 refine dT (Zd c3) (dT (Zd (show _<=lV by simp only[lV];omega)) (dT (show kA.pre _ _=true from hb) (cV ?_)))
 by_cases c:(pV x0 (fT x2.2.2.2.2.2.1)).2=true
 case neg=>rw[if_neg c];exact dT (by rw[Bool.not_eq_true',<-Bool.not_eq_true];exact c) rfl
 rw[if_pos c]
 refine mH (by rw[c];exact Bool.false_ne_true) ?_
 by_cases d:x2.2.2.2.1<=x1.2.2.1.1
 . rw[if_pos d];exact dT (Zd d) rfl
 rw[if_neg d]
 refine mH (by rw[Za];exact d) (cV ?_)
 by_cases t:rE x1.2.2.1 x2.2.2.2.1=x2.2.1
 . rw[if_pos t];exact dT (Zd t) (dT (show lT.pre _ _=true from hs) (cV rfl))
 . rw[if_neg t];exact mH (by rw[Za];exact t) rfl
end nD
def aCB(p:aW)(h:jV):Bool:=dJ h.2.2.1.2.2.1&&(tK h.2.2.2.1&&(!dQ p||(cO p h&&cM p h)))
theorem uN{p:aW}{h:jV}:aCB p h=true↔dJ h.2.2.1.2.2.1=true/\tK h.2.2.2.1=true/\(dQ p=true->cO p h=true/\cM p h=true):=by
 unfold aCB
 cases dQ p<;>simp
theorem aFw{mk:aK->Int->Bool}{p:aW}{h:jV}(hs:dQ p=false):uQ (vY mk) p h=false:=by
 unfold uQ vY
 rw[hs]
 simp
def nU(p:aW)(h:jV)(r:eF):jV:=if dQ p=true/\jG r=true/\cO p (iA p h r)=true then iA p h r else h
abbrev mQ:=nU
abbrev mJ:=nU
theorem tT{p:aW}{h:jV}{r:eF}(hc:dQ p=false\/jG r=false\/iA p h r=h):nU p h r=h:=by
 unfold nU
 rcases hc with hc|hc|hc
 . exact if_neg (by rw[hc];exact fun h=>Bool.false_ne_true h.1)
 . exact if_neg (by rw[hc];exact fun h=>Bool.false_ne_true h.2.1)
 . rw[hc];split<;>rfl
theorem aFS{p:aW}{h:jV}{r:eF}(hs:dQ p=true)(hn:jG r=true):nU p h r=if cO p (iA p h r)=true then iA p h r else h:=by
 unfold nU
 by_cases hq:cO p (iA p h r)=true
 . rw[if_pos ⟨hs,hn,hq⟩,if_pos hq]
 . rw[if_neg fun h=>hq h.2.2,if_neg hq]
theorem aJk{p:aW}{h:jV}{r:eF}(hs:dQ p=true)(hn:jG r=true)(hi:aCB p h=true):tK (iA p h r).2.2.2.1=true/\cM p (iA p h r)=cO p (iA p h r):=by
 obtain⟨h1,h2,h3⟩:=uN.1 hi
 have key:(iA p h r).2.2.2.1=h.2.2.2.1\/((pV p (fT r.2.2.2.2.2.1)).2=true/\(iA p h r).2.2.2.1=(pV p (fT r.2.2.2.2.2.1)).1):=by
  unfold iA
  repeat' split
  all_goals first|exact .inl rfl|exact .inr ⟨by assumption,rfl⟩
 have e:tK (iA p h r).2.2.2.1=true/\dO p (iA p h r).2.2.2.1=bX p (iA p h r).2.2.2.1:=by
  rcases key with k|⟨c,k⟩
  . rw[k]
    obtain⟨g1,g2⟩:=h3 hs
    simp only[cO,cM,uQ,Zb] at g1 g2
    exact⟨h2,by rw[g1.2.2.2.2,g2.2.2.2.2]⟩
  . rw[k]
    exact aLf (aDY hn) c
 refine⟨e.1,?_⟩
 unfold cM cO uQ
 rw[e.2]
theorem aEj{p:aW}{h:jV}{r:eF}(hi:aCB p h=true):aCB p (nU p h r)=true:=by
 by_cases hc:dQ p=true/\jG r=true/\cO p (iA p h r)=true
 case neg=>rw[show nU p h r=h from if_neg hc];exact hi
 rw[show nU p h r=iA p h r from if_pos hc]
 obtain⟨c1,c2,c3⟩:=hc
 obtain⟨k1,k2⟩:=aJk c1 c2 hi
 refine uN.2 ⟨?_,k1,fun _=>⟨c3,by rw[k2];exact c3⟩⟩
 simp only[cO,uQ,Zb] at c3
 have:=aA5 c3.2.2.1
 rw[cC]
 omega
namespace mQ
def pre(p:aW)(h:jV)(_:eF):Bool:=aCB p h
abbrev wf(x0:aW)(x1:rL)(x2:eF):Prop:=fV [(.val wI .f),(.val aF1 .f),(.val aIc .f)] (x0,(x1,(x2,())))
noncomputable def aR(x0:aW)(x1:rL)(x2:eF):Option (Unit×(rL×Unit)):=
 if(cO.pre x0 x1)=true then
 letB (cO x0 x1) fun v1=>
 if(!v1)=true then
 if(gC.pre x1)=true then
 letB (gC x1) fun v2=>
 some ((),(v2,()))
 else
 none
 else
 letB (jG x2) fun v3=>
 if(!v3)=true then
 if(gC.pre x1)=true then
 letB (gC x1) fun v4=>
 some ((),(v4,()))
 else
 none
 else
 if(gC.pre x1)=true then
 letB (gC x1) fun v5=>
 if(nD.pre x0 v5 x2)=true then
 letB (iA x0 v5 x2) fun v6=>
 if(cO.pre x0 v6)=true then
 letB (cO x0 v6) fun v7=>
 if(!v7)=true then
 if(gC.pre x1)=true then
 some ((),(v5,()))
 else
 none
 else
 some ((),(v6,()))
 else
 none
 else
 none
 else
 none
 else
 none
theorem eq(x0:aW)(x1:jV)(x2:eF)(_:wf x0 x1 x2)(hp:pre x0 x1 x2=true):aR x0 x1 x2=some ((),(mQ x0 x1 x2,())):=by
 obtain⟨h1,h2,h3⟩:=uN.1 hp
 have hc:gC.pre x1=true:=qI h1 h2
 show _=some ((),(nU x0 x1 x2,()))
 unfold aR
 refine dT (show cO.pre _ _=true from h2) (cV ?_)
 cases hs:dQ x0
 . rw[tT (.inl hs)]
   exact dT (by rw[show cO x0 x1=false from aFw hs];rfl) (dT hc (cV rfl))
 refine mH (by rw[(h3 hs).1];exact Bool.false_ne_true) (cV ?_)
 cases hn:jG x2
 . rw[tT (.inr (.inl hn))]
   exact dT rfl (dT hc (cV rfl))
 rw[aFS hs hn]
 refine mH Bool.false_ne_true (dT hc (cV (dT (show nD.pre _ _ _=true from qI h1 hn) (cV ?_))))
 refine dT (show cO.pre _ _=true from(aJk hs hn hp).1) (cV ?_)
 show(if(!cO x0 (iA x0 x1 x2))=true then _ else _)=_
 cases hq:cO x0 (iA x0 x1 x2)
 . exact dT rfl (dT hc rfl)
 . exact mH Bool.false_ne_true rfl
end mQ
theorem aES{p:aW}{h out:jV}{r:eF}(hi:aCB p h=true)(hs:dQ p=true)(hn:jG r=true)(e:iA p h r=out):
 (if cM.pre p out=true then letB (cM p out) fun v=>if(!v)=true then(if cD.pre h=true then some ((),(h,())) else none) else some ((),(out,())) else none)=some ((),(nU p h r,())):=by
 subst e
 obtain⟨h1,h2,_⟩:=uN.1 hi
 obtain⟨k1,k2⟩:=aJk hs hn hi
 refine dT (show cM.pre _ _=true from k1) (aFq k2 ?_)
 rw[aFS hs hn]
 cases hq:cO p (iA p h r)
 . exact dT rfl (dT (show cD.pre h=true from qI h1 h2) rfl)
 . exact mH Bool.false_ne_true rfl
theorem aNS{r:eF}(h:jG r=true)(c1:¬r.1=1)(c2:¬r.1=2):r.1=3:=by
 simp only[jG,aH9,Zb] at h
 rw[if_neg c1,if_neg c2] at h
 by_cases c3:r.1=3
 . exact c3
 . rw[if_neg c3] at h;exact absurd h.2.2.2.2 Bool.false_ne_true
namespace mJ
def pre(p:aW)(h:jV)(_:eF):Bool:=aCB p h
abbrev wf(x0:aW)(x1:rL)(x2:eF):Prop:=fV [(.val wI .f),(.val aF1 .f),(.val aIc .f)] (x0,(x1,(x2,())))
noncomputable def aR(x0:aW)(x1:rL)(x2:eF):Option (Unit×(rL×Unit)):=
 if(cM.pre x0 x1)=true then
 letB (cM x0 x1) fun v1=>
 if(!v1)=true then
 if(cD.pre x1)=true then
 letB (cD x1) fun v2=>
 some ((),(v2,()))
 else
 none
 else
 letB (jG x2) fun v3=>
 if(!v3)=true then
 if(cD.pre x1)=true then
 letB (cD x1) fun v4=>
 some ((),(v4,()))
 else
 none
 else
 if(cD.pre x1)=true then
 if(decide (x2.1=(1:Int)))=true then
 letB (cD x1) fun v5=>
 if(cM.pre x0 (x2.2.1,(x2.2.2.1,v5.2.2)))=true then
 letB (cM x0 (x2.2.1,(x2.2.2.1,v5.2.2))) fun v6=>
 if(!v6)=true then
 if(cD.pre x1)=true then
 some ((),(v5,()))
 else
 none
 else
 some ((),((x2.2.1,(x2.2.2.1,v5.2.2)),()))
 else
 none
 else
 if(decide (x2.1=(2:Int)))=true then
 if(dZ.pre x1.2.2.1 x2.2.2.2.1 x2.2.1 x2.2.2.2.2.1)=true then
 letB (uV x1.2.2.1 x2.2.2.2.1 x2.2.1 x2.2.2.2.2.1) fun v7=>
 if v7.2=true then
 letB (cD x1) fun v8=>
 if(cM.pre x0 (v8.1,(v8.2.1,(v7.1,v8.2.2.2))))=true then
 letB (cM x0 (v8.1,(v8.2.1,(v7.1,v8.2.2.2)))) fun v9=>
 if(!v9)=true then
 if(cD.pre x1)=true then
 some ((),(v8,()))
 else
 none
 else
 some ((),((v8.1,(v8.2.1,(v7.1,v8.2.2.2))),()))
 else
 none
 else
 letB (cD x1) fun v10=>
 if(cM.pre x0 v10)=true then
 letB (cM x0 v10) fun v11=>
 if(!v11)=true then
 if(cD.pre x1)=true then
 some ((),(v10,()))
 else
 none
 else
 some ((),(v10,()))
 else
 none
 else
 none
 else
 if(decide (length x2.2.2.2.2.2.1<=lV))=true then
 if(iO.pre x0 (fT x2.2.2.2.2.2.1))=true then
 letB (pV x0 (fT x2.2.2.2.2.2.1)) fun v12=>
 if(!v12.2)=true then
 letB (cD x1) fun v13=>
 some ((),(v13,()))
 else
 if(decide (x2.2.2.2.1<=x1.2.2.1.1))=true then
 letB (cD x1) fun v14=>
 some ((),(v14,()))
 else
 letB (rE x1.2.2.1 x2.2.2.2.1) fun v15=>
 if(decide (v15=x2.2.1))=true then
 if(lQ.pre x1.2.2.1 x2.2.2.2.1)=true then
 letB (cD x1) fun v16=>
 letB (aBJ x1.2.2.1 x2.2.2.2.1) fun v17=>
 if(cM.pre x0 (v16.1,(v16.2.1,(v17,(v12.1,v16.2.2.2.2)))))=true then
 letB (cM x0 (v16.1,(v16.2.1,(v17,(v12.1,v16.2.2.2.2))))) fun v18=>
 if(!v18)=true then
 if(cD.pre x1)=true then
 some ((),(v16,()))
 else
 none
 else
 some ((),((v16.1,(v16.2.1,(v17,(v12.1,v16.2.2.2.2)))),()))
 else
 none
 else
 none
 else
 letB (cD x1) fun v19=>
 if(cM.pre x0 (v19.1,(v19.2.1,((x2.2.2.2.1,(x2.2.1,(([]:List aL),()))),(v12.1,v19.2.2.2.2)))))=true then
 letB (cM x0 (v19.1,(v19.2.1,((x2.2.2.2.1,(x2.2.1,(([]:List aL),()))),(v12.1,v19.2.2.2.2))))) fun v20=>
 if(!v20)=true then
 if(cD.pre x1)=true then
 some ((),(v19,()))
 else
 none
 else
 some ((),((v19.1,(v19.2.1,((x2.2.2.2.1,(x2.2.1,(([]:List aL),()))),(v12.1,v19.2.2.2.2)))),()))
 else
 none
 else
 none
 else
 none
 else
 none
 else
 none
theorem eq(x0:aW)(x1:jV)(x2:eF)(_:wf x0 x1 x2)(hp:pre x0 x1 x2=true):aR x0 x1 x2=some ((),(mJ x0 x1 x2,())):=by
 obtain⟨h1,h2,h3⟩:=uN.1 hp
 have hc:cD.pre x1=true:=qI h1 h2
 show _=some ((),(nU x0 x1 x2,()))
 unfold aR
 refine dT (show cM.pre _ _=true from h2) (cV ?_)
 cases hs:dQ x0
 . rw[tT (.inl hs)]
   exact dT (by rw[show cM x0 x1=false from aFw hs];rfl) (dT hc (cV rfl))
 refine mH (by rw[(h3 hs).2];exact Bool.false_ne_true) (cV ?_)
 cases hn:jG x2
 . rw[tT (.inr (.inl hn))]
   exact dT rfl (dT hc (cV rfl))
 obtain⟨hl,ht⟩:=wP hn
 have hb:=aDY hn
 refine mH Bool.false_ne_true (dT hc ?_)
 by_cases c1:x2.1=1
 . exact dT (Zd c1) (cV (aES (out:=(x2.2.1,(x2.2.2.1,x1.2.2))) hp hs hn (if_pos c1)))
 refine mH (by rw[Za];exact c1) ?_
 by_cases c2:x2.1=2
 . have e0:iA x0 x1 x2=(if(uV x1.2.2.1 x2.2.2.2.1 x2.2.1 x2.2.2.2.2.1).2=true then(x1.1,(x1.2.1,((uV x1.2.2.1 x2.2.2.2.1 x2.2.1 x2.2.2.2.2.1).1,x1.2.2.2))) else x1):=(if_neg c1).trans (if_pos c2)
   refine dT (Zd c2) (dT (show dZ.pre _ _ _ _=true from qI h1 (cC.2 (by omega))) (cV ?_))
   by_cases c:(uV x1.2.2.1 x2.2.2.2.1 x2.2.1 x2.2.2.2.2.1).2=true
   . rw[if_pos c] at e0
     exact dT c (cV (aES hp hs hn e0))
   . rw[if_neg c] at e0
     exact mH c (cV (aES hp hs hn e0))
 have c3:=aNS hn c1 c2
 have e0:iA x0 x1 x2=_:=(if_neg c1).trans ((if_neg c2).trans (if_pos c3))
 refine mH (by rw[Za];exact c2) (dT (Zd (show _<=lV by simp only[lV];omega)) (dT (show iO.pre _ _=true from hb) (cV ?_)))
 by_cases c:(pV x0 (fT x2.2.2.2.2.2.1)).2=true
 case neg=>
  rw[if_neg c] at e0
  rw[tT (.inr (.inr e0))]
  exact dT (by rw[Bool.not_eq_true',<-Bool.not_eq_true];exact c) (cV rfl)
 rw[if_pos c] at e0
 refine mH (by rw[c];exact Bool.false_ne_true) ?_
 by_cases d:x2.2.2.2.1<=x1.2.2.1.1
 . rw[if_pos d] at e0
   rw[tT (.inr (.inr e0))]
   exact dT (Zd d) (cV rfl)
 rw[if_neg d] at e0
 refine mH (by rw[Za];exact d) (cV ?_)
 by_cases t:rE x1.2.2.1 x2.2.2.2.1=x2.2.1
 . rw[if_pos t] at e0
   exact dT (Zd t) (dT (show lQ.pre _ _=true from h1) (cV (cV (aES hp hs hn e0))))
 . rw[if_neg t] at e0
   exact mH (by rw[Za];exact t) (cV (aES hp hs hn e0))
end mJ
def aAJ(p:aW)(b:List Int):jV:=List.foldl (nU p) (pZ p) (aC8 b).1
abbrev kW:=aAJ
abbrev kB:=aAJ
def aBi(p:aW)(h:jV)(i:Int)(l:List eF):Bool:=aCB p h&&(decide (l.length<=16777216)&&decide (0<=i))
theorem aLS{p:aW}{h:jV}{i:Int}{l:List eF}(hlt:¬i<(l.length:Int)):h=List.foldl (nU p) h (l.drop i.toNat):=by
 rw[Zt (by omega)];rfl
theorem aNq{i:Int}{l:List eF}(h0:0<=i)(hlt:i<(l.length:Int)):l.length-(i+1).toNat<l.length-i.toNat:=by omega
theorem aNp{p:aW}{h:jV}{i:Int}{l:List eF}(hp:aBi p h i l=true)(hlt:i<(l.length:Int)):
 0<=i/\aCB p h=true/\wrap .i64 (i+1)=i+1/\aBi p (nU p h (l.getD i.toNat aBe)) (i+1) l=true/\
  List.foldl (nU p) (nU p h (l.getD i.toNat aBe)) (l.drop (i+1).toNat)=List.foldl (nU p) h (l.drop i.toNat):=by
 simp only[aBi,Zb,Za] at hp
 obtain⟨h1,h2,h3⟩:=hp
 refine⟨h3,h1,iX (by omega) (by omega),?_,?_⟩
 . simp only[aBi,Zb,Za]
   exact⟨aEj h1,h2,by omega⟩
 . have hn:i.toNat<l.length:=by omega
   rw[Zn hn,eZ hn,show(i+1).toNat=i.toNat+1 by omega]
   rfl
theorem aD4(p:aW):aCB p (pZ p)=true:=by
 unfold pZ
 by_cases hs:dQ p=true
 . rw[if_pos hs]
   have hk:=aKd hs
   refine uN.2 ⟨rfl,(aMq (aMC hk)).1,fun _=>⟨?_,?_⟩⟩
   . simp only[cO,uQ,Zb]
     exact⟨rfl,rfl,rfl,rfl,aKg hk⟩
   . simp only[cM,uQ,Zb]
     exact⟨rfl,rfl,rfl,rfl,aKy hk⟩
 . rw[if_neg hs]
   exact uN.2 ⟨rfl,rfl,fun h=>absurd h hs⟩
theorem aI7{p:aW}:(l:List eF)->(h:jV)->aCB p h=true->aCB p (List.foldl (nU p) h l)=true
 |[],_,hi=>hi
 |_::l,_,hi=>aI7 l _ (aEj hi)
theorem aL0{b:List Int}(hb:bR b=true):5*((aC8 b).1.length:Int)<=(b.length:Int):=(aJs hb b.length 0 [] (by simp) (by omega) (by omega) (by simp) (by simp)).1
theorem aHh{p:aW}{b:List Int}(h:bOk b=true):aBi p (pZ p) 0 (aC8 b).1=true:=by
 simp only[bOk,Zb,Za] at h
 have:=aL0 h.1
 simp only[aBi,Zb,Za]
 exact⟨aD4 p,by omega,Int.le_refl _⟩
theorem aFG{b:List Int}(h:bOk b=true):dJ b=true:=by
 simp only[bOk,Zb,Za] at h
 rw[cC];omega
namespace kW
abbrev S4:Type:=aMp
abbrev O4:Type:=aMy
def pre(_:aW)(b:List Int):Bool:=bOk b
def F4(x3:Int)(x4:Int)(x5:Int)(x6:Int)(x7:Unit)(x8:Int)(x9:Unit)(x10:Unit)(x11:List aL)(x12:List cL)(x13:List aK)(x14:List aJ)(x15:List Int)(x16:List aM)(v:jV):O4:=(x3,(x4,(x5,(x6,(x7,(x8,(x9,(x10,(x11,(x12,(x13,(x14,(x15,(x16,(v.1,(v.2.1,(v.2.2.1.1,(v.2.2.1.2.1,(v.2.2.1.2.2.2,(v.2.2.2.1.2.2.2.1,(v.2.2.2.1.2.2.2.2.2.2,(v.2.2.2.2,(v.2.2.1.2.2.1,(v.2.2.2.1.1,(v.2.2.2.1.2.1,(v.2.2.2.1.2.2.1,(v.2.2.2.1.2.2.2.2.1,(v.2.2.2.1.2.2.2.2.2.1,()))))))))))))))))))))))))))))
def pre4:S4->Bool:=fun(x1,x2,_,_,_,_,_,_,_,_,_,_,_,_,_,_,x17,x18,x19,x20,x21,x22,x23,x24,x25,x26,x27,x28,x29,x30,x31,_)=>aBi x2 (x17,(x18,((x19,(x20,(x25,x21))),((x26,(x27,(x28,(x22,(x29,(x30,x23)))))),x24)))) x1 x31
def fn4:S4->O4:=fun(x1,x2,x3,x4,x5,x6,x7,x8,x9,x10,x11,x12,x13,x14,x15,x16,x17,x18,x19,x20,x21,x22,x23,x24,x25,x26,x27,x28,x29,x30,x31,_)=>F4 x3 x4 x5 x6 x7 x8 x9 x10 x11 x12 x13 x14 x15 x16 (List.foldl (nU x2) (x17,(x18,((x19,(x20,(x25,x21))),((x26,(x27,(x28,(x22,(x29,(x30,x23)))))),x24)))) (x31.drop x1.toNat))
def qD:S4->Nat:=fun(x1,_,_,_,_,_,_,_,_,_,_,_,_,_,_,_,_,_,_,_,_,_,_,_,_,_,_,_,_,_,x31,_)=>x31.length-x1.toNat
noncomputable def hJ(x1:Int)(x2:aW)(x3:Int)(x4:Int)(x5:Int)(x6:Int)(x7:Unit)(x8:Int)(x9:Unit)(x10:Unit)(x11:(List aL))(x12:(List cL))(x13:(List aK))(x14:(List aJ))(x15:(List Int))(x16:(List aM))(x17:Int)(x18:Int)(x19:Int)(x20:Int)(x21:Unit)(x22:Int)(x23:Unit)(x24:Unit)(x25:(List aL))(x26:(List cL))(x27:(List aK))(x28:(List aJ))(x29:(List Int))(x30:(List aM))(x31:(List eF)):Option (aMp⊕aMy):=
 if(decide (x1<((length x31:Nat):Int)))=true then
 if(decide ((0:Int)<=x1))=true then
 if(decide (x1<((length x31:Nat):Int)))=true then
 if(mQ.pre x2 (x17,(x18,((x19,(x20,(x25,x21))),((x26,(x27,(x28,(x22,(x29,(x30,x23)))))),x24)))) (List.getD x31 (Int.toNat x1) aBe))=true then
 letB (mQ x2 (x17,(x18,((x19,(x20,(x25,x21))),((x26,(x27,(x28,(x22,(x29,(x30,x23)))))),x24)))) (List.getD x31 (Int.toNat x1) aBe)) fun v1=>
 some (.inl ((wrap .i64 (x1+(1:Int))),(x2,(x3,(x4,(x5,(x6,(x7,(x8,(x9,(x10,(x11,(x12,(x13,(x14,(x15,(x16,(v1.1,(v1.2.1,(v1.2.2.1.1,(v1.2.2.1.2.1,(v1.2.2.1.2.2.2,(v1.2.2.2.1.2.2.2.1,(v1.2.2.2.1.2.2.2.2.2.2,(v1.2.2.2.2,(v1.2.2.1.2.2.1,(v1.2.2.2.1.1,(v1.2.2.2.1.2.1,(v1.2.2.2.1.2.2.1,(v1.2.2.2.1.2.2.2.2.1,(v1.2.2.2.1.2.2.2.2.2.1,(x31,()))))))))))))))))))))))))))))))))
 else
 none
 else
 none
 else
 none
 else
 some (.inr (x3,(x4,(x5,(x6,(x7,(x8,(x9,(x10,(x11,(x12,(x13,(x14,(x15,(x16,(x17,(x18,(x19,(x20,(x21,(x22,(x23,(x24,(x25,(x26,(x27,(x28,(x29,(x30,())))))))))))))))))))))))))))))
abbrev wf(x0:aW)(x1:(List Int)):Prop:=fV [(.val wI .f),(.val wQ .f)] (x0,(x1,()))
noncomputable def aR(x0:aW)(x1:(List Int)):Option (Unit×(rL×Unit)):=
 if(kI.pre x0)=true then
 if(kR.pre x1)=true then
 letB (pZ x0) fun v1=>
 letB (aC8 x1) fun v2=>
 if(kW.pre4 ((0:Int),(x0,((0:Int),((0:Int),((0:Int),((0:Int),((),((0:Int),((),((),(([]:List aL),(([]:List cL),(([]:List aK),(([]:List aJ),(([]:List Int),(([]:List aM),(v1.1,(v1.2.1,(v1.2.2.1.1,(v1.2.2.1.2.1,(v1.2.2.1.2.2.2,(v1.2.2.2.1.2.2.2.1,(v1.2.2.2.1.2.2.2.2.2.2,(v1.2.2.2.2,(v1.2.2.1.2.2.1,(v1.2.2.2.1.1,(v1.2.2.2.1.2.1,(v1.2.2.2.1.2.2.1,(v1.2.2.2.1.2.2.2.2.1,(v1.2.2.2.1.2.2.2.2.2.1,(v2.1,()))))))))))))))))))))))))))))))))=true then
 letB (kW.fn4 ((0:Int),(x0,((0:Int),((0:Int),((0:Int),((0:Int),((),((0:Int),((),((),(([]:List aL),(([]:List cL),(([]:List aK),(([]:List aJ),(([]:List Int),(([]:List aM),(v1.1,(v1.2.1,(v1.2.2.1.1,(v1.2.2.1.2.1,(v1.2.2.1.2.2.2,(v1.2.2.2.1.2.2.2.1,(v1.2.2.2.1.2.2.2.2.2.2,(v1.2.2.2.2,(v1.2.2.1.2.2.1,(v1.2.2.2.1.1,(v1.2.2.2.1.2.1,(v1.2.2.2.1.2.2.1,(v1.2.2.2.1.2.2.2.2.1,(v1.2.2.2.1.2.2.2.2.2.1,(v2.1,())))))))))))))))))))))))))))))))) fun v3=>
 some ((),((v3.2.2.2.2.2.2.2.2.2.2.2.2.2.2.1,(v3.2.2.2.2.2.2.2.2.2.2.2.2.2.2.2.1,((v3.2.2.2.2.2.2.2.2.2.2.2.2.2.2.2.2.1,(v3.2.2.2.2.2.2.2.2.2.2.2.2.2.2.2.2.2.1,(v3.2.2.2.2.2.2.2.2.2.2.2.2.2.2.2.2.2.2.2.2.2.2.1,v3.2.2.2.2.2.2.2.2.2.2.2.2.2.2.2.2.2.2.1))),((v3.2.2.2.2.2.2.2.2.2.2.2.2.2.2.2.2.2.2.2.2.2.2.2.1,(v3.2.2.2.2.2.2.2.2.2.2.2.2.2.2.2.2.2.2.2.2.2.2.2.2.1,(v3.2.2.2.2.2.2.2.2.2.2.2.2.2.2.2.2.2.2.2.2.2.2.2.2.2.1,(v3.2.2.2.2.2.2.2.2.2.2.2.2.2.2.2.2.2.2.2.1,(v3.2.2.2.2.2.2.2.2.2.2.2.2.2.2.2.2.2.2.2.2.2.2.2.2.2.2.1,(v3.2.2.2.2.2.2.2.2.2.2.2.2.2.2.2.2.2.2.2.2.2.2.2.2.2.2.2.1,v3.2.2.2.2.2.2.2.2.2.2.2.2.2.2.2.2.2.2.2.2.1)))))),v3.2.2.2.2.2.2.2.2.2.2.2.2.2.2.2.2.2.2.2.2.2.1)))),()))
 else
 none
 else
 none
 else
 none
theorem yT(x1 x2 x3 x4 x5 x6 x7 x8 x9 x10 x11 x12 x13 x14 x15 x16 x17 x18 x19 x20 x21 x22 x23 x24 x25 x26 x27 x28 x29 x30 x31)(hp:pre4 (x1,(x2,(x3,(x4,(x5,(x6,(x7,(x8,(x9,(x10,(x11,(x12,(x13,(x14,(x15,(x16,(x17,(x18,(x19,(x20,(x21,(x22,(x23,(x24,(x25,(x26,(x27,(x28,(x29,(x30,(x31,())))))))))))))))))))))))))))))))=true):Rounds pre4 qD fn4 (x1,(x2,(x3,(x4,(x5,(x6,(x7,(x8,(x9,(x10,(x11,(x12,(x13,(x14,(x15,(x16,(x17,(x18,(x19,(x20,(x21,(x22,(x23,(x24,(x25,(x26,(x27,(x28,(x29,(x30,(x31,()))))))))))))))))))))))))))))))) (hJ x1 x2 x3 x4 x5 x6 x7 x8 x9 x10 x11 x12 x13 x14 x15 x16 x17 x18 x19 x20 x21 x22 x23 x24 x25 x26 x27 x28 x29 x30 x31):=by
 have hq:(aBi x2 (x17,(x18,((x19,(x20,(x25,x21))),((x26,(x27,(x28,(x22,(x29,(x30,x23)))))),x24)))) x1 x31)=true:=hp
 unfold hJ
 by_cases hlt:x1<((length x31:Nat):Int)
 case neg=>exact jC (by rw[Za];exact hlt) (congrArg (F4 x3 x4 x5 x6 x7 x8 x9 x10 x11 x12 x13 x14 x15 x16) (aLS (p:=x2) (h:=(x17,(x18,((x19,(x20,(x25,x21))),((x26,(x27,(x28,(x22,(x29,(x30,x23)))))),x24))))) hlt))
 obtain⟨h1,h2,h3,h4,h5⟩:=aNp (p:=x2) (h:=(x17,(x18,((x19,(x20,(x25,x21))),((x26,(x27,(x28,(x22,(x29,(x30,x23)))))),x24))))) (i:=x1) (l:=x31) hq hlt
 rw[h3]
 exact fN (Zd hlt) (fN (Zd h1) (fN (Zd hlt) (fN h2 (lO ⟨h4,aNq h1 hlt,congrArg (F4 x3 x4 x5 x6 x7 x8 x9 x10 x11 x12 x13 x14 x15 x16) h5⟩))))
theorem eq(x0:aW)(x1:List Int)(_:wf x0 x1)(hp:pre x0 x1=true):aR x0 x1=some ((),(kW x0 x1,())):=by
 unfold aR
 exact dT (show kI.pre _=true from rfl) (dT (show kR.pre _=true from aFG hp) (cV (cV (dT (show pre4 _=true from aHh hp) (cV rfl)))))
end kW
namespace kB
abbrev S4:Type:=(Int×aMp)
abbrev O4:Type:=aMy
def pre(_:aW)(b:List Int):Bool:=bOk b
def F4(x4:Int)(x5:Int)(x6:Int)(x7:Int)(x8:Unit)(x9:Int)(x10:Unit)(x11:Unit)(x12:List aL)(x13:List cL)(x14:List aK)(x15:List aJ)(x16:List Int)(x17:List aM)(v:jV):O4:=(x4,(x5,(x6,(x7,(x8,(x9,(x10,(x11,(x12,(x13,(x14,(x15,(x16,(x17,(v.1,(v.2.1,(v.2.2.1.1,(v.2.2.1.2.1,(v.2.2.1.2.2.2,(v.2.2.2.1.2.2.2.1,(v.2.2.2.1.2.2.2.2.2.2,(v.2.2.2.2,(v.2.2.1.2.2.1,(v.2.2.2.1.1,(v.2.2.2.1.2.1,(v.2.2.2.1.2.2.1,(v.2.2.2.1.2.2.2.2.1,(v.2.2.2.1.2.2.2.2.2.1,()))))))))))))))))))))))))))))
def pre4:S4->Bool:=fun(x1,x2,x3,_,_,_,_,_,_,_,_,_,_,_,_,_,_,x18,x19,x20,x21,x22,x23,x24,x25,x26,x27,x28,x29,x30,x31,x32,_)=>decide (x1=((length x32:Nat):Int))&&aBi x3 (x18,(x19,((x20,(x21,(x26,x22))),((x27,(x28,(x29,(x23,(x30,(x31,x24)))))),x25)))) x2 x32
def fn4:S4->O4:=fun(_,x2,x3,x4,x5,x6,x7,x8,x9,x10,x11,x12,x13,x14,x15,x16,x17,x18,x19,x20,x21,x22,x23,x24,x25,x26,x27,x28,x29,x30,x31,x32,_)=>F4 x4 x5 x6 x7 x8 x9 x10 x11 x12 x13 x14 x15 x16 x17 (List.foldl (nU x3) (x18,(x19,((x20,(x21,(x26,x22))),((x27,(x28,(x29,(x23,(x30,(x31,x24)))))),x25)))) (x32.drop x2.toNat))
def qD:S4->Nat:=fun(_,x2,_,_,_,_,_,_,_,_,_,_,_,_,_,_,_,_,_,_,_,_,_,_,_,_,_,_,_,_,_,x32,_)=>x32.length-x2.toNat
noncomputable def hJ(x1:Int)(x2:Int)(x3:aW)(x4:Int)(x5:Int)(x6:Int)(x7:Int)(x8:Unit)(x9:Int)(x10:Unit)(x11:Unit)(x12:(List aL))(x13:(List cL))(x14:(List aK))(x15:(List aJ))(x16:(List Int))(x17:(List aM))(x18:Int)(x19:Int)(x20:Int)(x21:Int)(x22:Unit)(x23:Int)(x24:Unit)(x25:Unit)(x26:(List aL))(x27:(List cL))(x28:(List aK))(x29:(List aJ))(x30:(List Int))(x31:(List aM))(x32:(List eF)):Option ((Int×aMp)⊕aMy):=
 if(decide (x2<x1))=true then
 if(decide ((0:Int)<=x2))=true then
 if(decide (x2<((length x32:Nat):Int)))=true then
 if(mJ.pre x3 (x18,(x19,((x20,(x21,(x26,x22))),((x27,(x28,(x29,(x23,(x30,(x31,x24)))))),x25)))) (List.getD x32 (Int.toNat x2) aBe))=true then
 letB (mJ x3 (x18,(x19,((x20,(x21,(x26,x22))),((x27,(x28,(x29,(x23,(x30,(x31,x24)))))),x25)))) (List.getD x32 (Int.toNat x2) aBe)) fun v1=>
 some (.inl (x1,((wrap .i64 (x2+(1:Int))),(x3,(x4,(x5,(x6,(x7,(x8,(x9,(x10,(x11,(x12,(x13,(x14,(x15,(x16,(x17,(v1.1,(v1.2.1,(v1.2.2.1.1,(v1.2.2.1.2.1,(v1.2.2.1.2.2.2,(v1.2.2.2.1.2.2.2.1,(v1.2.2.2.1.2.2.2.2.2.2,(v1.2.2.2.2,(v1.2.2.1.2.2.1,(v1.2.2.2.1.1,(v1.2.2.2.1.2.1,(v1.2.2.2.1.2.2.1,(v1.2.2.2.1.2.2.2.2.1,(v1.2.2.2.1.2.2.2.2.2.1,(x32,())))))))))))))))))))))))))))))))))
 else
 none
 else
 none
 else
 none
 else
 some (.inr (x4,(x5,(x6,(x7,(x8,(x9,(x10,(x11,(x12,(x13,(x14,(x15,(x16,(x17,(x18,(x19,(x20,(x21,(x22,(x23,(x24,(x25,(x26,(x27,(x28,(x29,(x30,(x31,())))))))))))))))))))))))))))))
abbrev wf(x0:aW)(x1:(List Int)):Prop:=fV [(.val wI .f),(.val wQ .f)] (x0,(x1,()))
noncomputable def aR(x0:aW)(x1:(List Int)):Option (Unit×(rL×Unit)):=
 if(kH.pre x0)=true then
 if(kP.pre x1)=true then
 letB (aC8 x1) fun v1=>
 letB (pZ x0) fun v2=>
 if(kB.pre4 (((length v1.1:Nat):Int),((0:Int),(x0,((0:Int),((0:Int),((0:Int),((0:Int),((),((0:Int),((),((),(([]:List aL),(([]:List cL),(([]:List aK),(([]:List aJ),(([]:List Int),(([]:List aM),(v2.1,(v2.2.1,(v2.2.2.1.1,(v2.2.2.1.2.1,(v2.2.2.1.2.2.2,(v2.2.2.2.1.2.2.2.1,(v2.2.2.2.1.2.2.2.2.2.2,(v2.2.2.2.2,(v2.2.2.1.2.2.1,(v2.2.2.2.1.1,(v2.2.2.2.1.2.1,(v2.2.2.2.1.2.2.1,(v2.2.2.2.1.2.2.2.2.1,(v2.2.2.2.1.2.2.2.2.2.1,(v1.1,())))))))))))))))))))))))))))))))))=true then
 letB (kB.fn4 (((length v1.1:Nat):Int),((0:Int),(x0,((0:Int),((0:Int),((0:Int),((0:Int),((),((0:Int),((),((),(([]:List aL),(([]:List cL),(([]:List aK),(([]:List aJ),(([]:List Int),(([]:List aM),(v2.1,(v2.2.1,(v2.2.2.1.1,(v2.2.2.1.2.1,(v2.2.2.1.2.2.2,(v2.2.2.2.1.2.2.2.1,(v2.2.2.2.1.2.2.2.2.2.2,(v2.2.2.2.2,(v2.2.2.1.2.2.1,(v2.2.2.2.1.1,(v2.2.2.2.1.2.1,(v2.2.2.2.1.2.2.1,(v2.2.2.2.1.2.2.2.2.1,(v2.2.2.2.1.2.2.2.2.2.1,(v1.1,()))))))))))))))))))))))))))))))))) fun v3=>
 some ((),((v3.2.2.2.2.2.2.2.2.2.2.2.2.2.2.1,(v3.2.2.2.2.2.2.2.2.2.2.2.2.2.2.2.1,((v3.2.2.2.2.2.2.2.2.2.2.2.2.2.2.2.2.1,(v3.2.2.2.2.2.2.2.2.2.2.2.2.2.2.2.2.2.1,(v3.2.2.2.2.2.2.2.2.2.2.2.2.2.2.2.2.2.2.2.2.2.2.1,v3.2.2.2.2.2.2.2.2.2.2.2.2.2.2.2.2.2.2.1))),((v3.2.2.2.2.2.2.2.2.2.2.2.2.2.2.2.2.2.2.2.2.2.2.2.1,(v3.2.2.2.2.2.2.2.2.2.2.2.2.2.2.2.2.2.2.2.2.2.2.2.2.1,(v3.2.2.2.2.2.2.2.2.2.2.2.2.2.2.2.2.2.2.2.2.2.2.2.2.2.1,(v3.2.2.2.2.2.2.2.2.2.2.2.2.2.2.2.2.2.2.2.1,(v3.2.2.2.2.2.2.2.2.2.2.2.2.2.2.2.2.2.2.2.2.2.2.2.2.2.2.1,(v3.2.2.2.2.2.2.2.2.2.2.2.2.2.2.2.2.2.2.2.2.2.2.2.2.2.2.2.1,v3.2.2.2.2.2.2.2.2.2.2.2.2.2.2.2.2.2.2.2.2.1)))))),v3.2.2.2.2.2.2.2.2.2.2.2.2.2.2.2.2.2.2.2.2.2.1)))),()))
 else
 none
 else
 none
 else
 none
theorem yT(x1 x2 x3 x4 x5 x6 x7 x8 x9 x10 x11 x12 x13 x14 x15 x16 x17 x18 x19 x20 x21 x22 x23 x24 x25 x26 x27 x28 x29 x30 x31 x32)(hp:pre4 (x1,(x2,(x3,(x4,(x5,(x6,(x7,(x8,(x9,(x10,(x11,(x12,(x13,(x14,(x15,(x16,(x17,(x18,(x19,(x20,(x21,(x22,(x23,(x24,(x25,(x26,(x27,(x28,(x29,(x30,(x31,(x32,()))))))))))))))))))))))))))))))))=true):Rounds pre4 qD fn4 (x1,(x2,(x3,(x4,(x5,(x6,(x7,(x8,(x9,(x10,(x11,(x12,(x13,(x14,(x15,(x16,(x17,(x18,(x19,(x20,(x21,(x22,(x23,(x24,(x25,(x26,(x27,(x28,(x29,(x30,(x31,(x32,())))))))))))))))))))))))))))))))) (hJ x1 x2 x3 x4 x5 x6 x7 x8 x9 x10 x11 x12 x13 x14 x15 x16 x17 x18 x19 x20 x21 x22 x23 x24 x25 x26 x27 x28 x29 x30 x31 x32):=by
 have hq:(decide (x1=((length x32:Nat):Int))&&aBi x3 (x18,(x19,((x20,(x21,(x26,x22))),((x27,(x28,(x29,(x23,(x30,(x31,x24)))))),x25)))) x2 x32)=true:=hp
 simp only[Zb,Za] at hq
 obtain⟨rfl,hq⟩:=hq
 unfold hJ
 by_cases hlt:x2<((length x32:Nat):Int)
 case neg=>exact jC (by rw[Za];exact hlt) (congrArg (F4 x4 x5 x6 x7 x8 x9 x10 x11 x12 x13 x14 x15 x16 x17) (aLS (p:=x3) (h:=(x18,(x19,((x20,(x21,(x26,x22))),((x27,(x28,(x29,(x23,(x30,(x31,x24)))))),x25))))) hlt))
 obtain⟨h1,h2,h3,h4,h5⟩:=aNp (p:=x3) (h:=(x18,(x19,((x20,(x21,(x26,x22))),((x27,(x28,(x29,(x23,(x30,(x31,x24)))))),x25))))) (i:=x2) (l:=x32) hq hlt
 rw[h3]
 exact fN (Zd hlt) (fN (Zd h1) (fN (Zd hlt) (fN h2 (lO ⟨qI (Zd rfl) h4,aNq h1 hlt,congrArg (F4 x4 x5 x6 x7 x8 x9 x10 x11 x12 x13 x14 x15 x16 x17) h5⟩))))
theorem eq(x0:aW)(x1:List Int)(_:wf x0 x1)(hp:pre x0 x1=true):aR x0 x1=some ((),(kB x0 x1,())):=by
 unfold aR
 exact dT (show kH.pre _=true from rfl) (dT (show kP.pre _=true from aFG hp) (cV (cV (dT (show pre4 _=true from qI (Zd rfl) (aHh hp)) (cV rfl)))))
end kB
theorem aKX{s:aW}{k:bI}(h:aJZ s k):fU k<=10000:=by
 obtain⟨⟨h0,h1,h2,h3,h4,h5,h6⟩,k1,k2,k3,k4,k5,k6⟩:=h
 have hs:=mG h0
 have hm:=aIr (fun m hm=>(k5 m hm).1) k6
 have r1:∀r∈k.1,cK r<=500:=fun r hr=>by
  have:=(aG4.1 (k1 r hr)).1.2.2.2
  have h1:=qN (g:=gI) (c:=5) r.2.2.1 fun _ _=>Int.le_refl _
  simp only[cK];omega
 have m1:∀m∈k.2.1,bO m<=50:=fun m hm=>by
  obtain⟨⟨⟨_,_,_,_,_,_,_,_,h9,_⟩,_⟩,_⟩:=k5 m hm
  have h1:=qN (g:=gG) (c:=2) m.2.2.2.2.1 fun _ _=>Int.le_refl _
  simp only[bO];omega
 have g1:∀g∈k.2.2.1,bZ g<=50:=fun g hg=>by
  have hg':=aAn.1 (k2 g hg)
  have hl:=aOT hg'.2.2.1 hg'.2.1
  have e1:=qN (g:=bP) (c:=1) g.2.1 fun _ _=>Int.le_refl _
  have e2:=qN (g:=bP) (c:=1) g.2.2.1 fun _ _=>Int.le_refl _
  have e3:=qN (g:=bP) (c:=1) g.2.2.2.1 fun _ _=>Int.le_refl _
  have e4:=hg'.1.1
  have e5:=hg'.1.2.1
  simp only[bZ];omega
 have b1:=qN k.1 r1
 have b2:=qN k.2.1 m1
 have b3:=qN k.2.2.1 g1
 have b4:=qN (g:=bP) (c:=1) k.2.2.2.2.1 fun _ _=>Int.le_refl _
 have b5:=qN (g:=dK) (c:=4) k.2.2.2.2.2.1 fun _ _=>Int.le_refl _
 simp only[fU]
 omega
theorem aJN{p:aW}(hs:dQ p=false):(l:List eF)->(h:jV)->List.foldl (nU p) h l=h
 |[],_=>rfl
 |r::l,h=>by rw[List.foldl_cons,tT (.inl hs),aJN hs l h]
theorem aJt(p:aW)(b:List Int):fW (aAJ p b)<=20000:=by
 cases hs:dQ p
 . have:=aI8 p
   rw[show aAJ p b=pZ p from aJN hs _ _]
   omega
 . have c:=((uN.1 (aI7 (aC8 b).1 _ (aD4 p))).2.2 hs).1
   simp only[cO,uQ,Zb] at c
   have h1:=aA5 c.2.2.1
   have h2:=aKX (aKt.1 c.2.2.2.2)
   show fW (List.foldl (nU p) (pZ p) (aC8 b).1)<=20000
   simp only[fW,iV,wH]
   omega
def jI(_:aW)(_:List Int):Bool:=true
namespace jI
abbrev wf(x0:aW)(x1:(List Int)):Prop:=fV [(.val wI .f),(.val wQ .f)] (x0,(x1,()))
noncomputable def aR(x0:aW)(x1:(List Int)):Option lA:=
 if(decide ((1048576:Int)<((length x1:Nat):Int)))=true then
 some ((),(true,()))
 else
 if(eP.pre x1)=true then
 letB (mC x0) fun v1=>
 letB (eP x1) fun v2=>
 if(kW.pre v1 v2)=true then
 if(eP.pre x1)=true then
 if(kB.pre v1 v2)=true then
 letB (aAJ v1 v2) fun v3=>
 letB (aAJ v1 v2) fun v4=>
 letB (lW v3 v4) fun v5=>
 if(!v5)=true then
 some ((),(false,()))
 else
 if(eP.pre x1)=true then
 letB (jS v2 v2) fun v6=>
 if(!v6)=true then
 some ((),(false,()))
 else
 if(eH.pre v2 (1:Int))=true then
 letB (eH v2 (1:Int)) fun v7=>
 if(decide (v7.2<(0:Int)))=true then
 some ((),(false,()))
 else
 if(!v5)=true then
 some ((),(false,()))
 else
 if(fD.pre v3 (1:Int))=true then
 letB (fD v3 (1:Int)) fun v8=>
 if(fI.pre (v3.1,(v3.2.1,((v3.2.2.1.1,(v3.2.2.1.2.1,(v8.1.2.2.1.2.2.1,v3.2.2.1.2.2.2))),((v8.1.2.2.2.1.1,(v8.1.2.2.2.1.2.1,(v8.1.2.2.2.1.2.2.1,(v3.2.2.2.1.2.2.2.1,(v8.1.2.2.2.1.2.2.2.2.1,(v8.1.2.2.2.1.2.2.2.2.2.1,v3.2.2.2.1.2.2.2.2.2.2)))))),v3.2.2.2.2)))) (1:Int))=true then
 letB (fI (v3.1,(v3.2.1,((v3.2.2.1.1,(v3.2.2.1.2.1,(v8.1.2.2.1.2.2.1,v3.2.2.1.2.2.2))),((v8.1.2.2.2.1.1,(v8.1.2.2.2.1.2.1,(v8.1.2.2.2.1.2.2.1,(v3.2.2.2.1.2.2.2.1,(v8.1.2.2.2.1.2.2.2.2.1,(v8.1.2.2.2.1.2.2.2.2.2.1,v3.2.2.2.1.2.2.2.2.2.2)))))),v3.2.2.2.2)))) (1:Int)) fun v9=>
 if(decide (v9<(0:Int)))=true then
 some ((),(false,()))
 else
 if(!(decide (v9=v8.2)))=true then
 some ((),(false,()))
 else
 if(eP.pre x1)=true then
 if(kB.pre v1 v2)=true then
 letB (aAJ v1 v2) fun v10=>
 letB (lW v10 v4) fun v11=>
 if(!v11)=true then
 some ((),(false,()))
 else
 if(fI.pre (v3.1,(v3.2.1,((v3.2.2.1.1,(v3.2.2.1.2.1,(v8.1.2.2.1.2.2.1,v3.2.2.1.2.2.2))),((v8.1.2.2.2.1.1,(v8.1.2.2.2.1.2.1,(v8.1.2.2.2.1.2.2.1,(v3.2.2.2.1.2.2.2.1,(v8.1.2.2.2.1.2.2.2.2.1,(v8.1.2.2.2.1.2.2.2.2.2.1,v3.2.2.2.1.2.2.2.2.2.2)))))),v3.2.2.2.2)))) (1:Int))=true then
 if(decide (v9<(0:Int)))=true then
 some ((),(false,()))
 else
 if(!(decide (v9=v8.2)))=true then
 some ((),(false,()))
 else
 some ((),(true,()))
 else
 none
 else
 none
 else
 none
 else
 none
 else
 none
 else
 none
 else
 none
 else
 none
 else
 none
 else
 none
 else
 none
theorem eq(x0:aW)(x1:List Int)(hw:wf x0 x1):aR x0 x1=some ((),(jI x0 x1,())):=by
 unfold aR
 simp only[letB]
 by_cases h:(1048576:Int)<(x1.length:Int)
 . rw[if_pos (Zd h)];rfl
 have hb:bR x1=true:=gL hw.2.1.2
 have hO:bOk x1=true:=by
  simp only[bOk,Zb,Za]
  exact⟨hb,by omega⟩
 have p1:eP.pre x1=true:=aIM (by omega)
 have e0:eP x1=x1:=rfl
 have e1:mC x0=x0:=rfl
 have p2:kW.pre x0 x1=true:=hO
 have p3:kB.pre x0 x1=true:=hO
 have hcb:=aFP x1
 have p5:eH.pre x1 1=true:=aFt (by omega) (by omega)
 have n2:¬1+bJ oI x1<0:=by omega
 have hc:=aJt x0 x1
 rw[if_neg (by rw[Za];exact h)]
 simp only[p1,e0,e1,p2,p3,p5,n2,aGd,if_true]
 generalize aAJ x0 x1=v at *
 have hc0:=aGL v
 have p6:fD.pre v 1=true:=aH5 (by omega) (by omega)
 have em:(v.1,(v.2.1,((v.2.2.1.1,(v.2.2.1.2.1,((lG v 1).2.2.1.2.2.1,v.2.2.1.2.2.2))),(((lG v 1).2.2.2.1.1,((lG v 1).2.2.2.1.2.1,((lG v 1).2.2.2.1.2.2.1,(v.2.2.2.1.2.2.2.1,((lG v 1).2.2.2.1.2.2.2.2.1,((lG v 1).2.2.2.1.2.2.2.2.2.1,v.2.2.2.1.2.2.2.2.2.2)))))),v.2.2.2.2))))=lG v 1:=rfl
 have p7:fI.pre (lG v 1) 1=true:=aG9 (by omega) (by rw[aBh];omega)
 have e3:=aFd v 1
 have n1:¬1+fW v<0:=by omega
 simp only[p6,p7,e3,n1,em,aIp,lW,jS,pS,decide_true,decide_false,Bool.not_true,Zj,if_true,if_false]
 rfl
end jI
end Go.Aw.Pl
