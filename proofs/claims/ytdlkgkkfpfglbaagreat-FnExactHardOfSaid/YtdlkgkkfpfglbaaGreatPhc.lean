import Derived.Test.YtdlkgkkfpfglbaaGreatPhb
namespace Go.Aw.Pl
open Go.IntKind (wrap)
open List (length)
open Go Go.Aw
set_option linter.unusedVariables false
set_option linter.unusedSimpArgs false
set_option maxHeartbeats 1000000
namespace dO
abbrev S4:Type:=((List aK)×(Int×(Int×aF9)))
abbrev O4:Type:=((Bool×Unit)⊕aF9)
def pre(_:aW)(k:bI):Bool:=tJ k
noncomputable def pre4:S4->Bool:=fun(x1,x2,x3,_,x5,_)=>same x1 x5.2.1&&(decide (x2=(x5.2.1.length:Int))&&(x5.2.1.all (fun m:aK=>dI m.2.2.2.2.1)&&pJ x5.2.1.length x3))
def fn4:S4->O4:=fun(_,_,x3,x4,x5,_)=>xP (uH dF x4 x5.2.1) x5.2.1.length x3 (x4,(x5,()))
def qD:S4->Nat:=fun(_,_,x3,_,x5,_)=>x5.2.1.length-x3.toNat
noncomputable def hJ(x1:(List aK))(x2:Int)(x3:Int)(x4:aW)(x5:bI):Option (((List aK)×(Int×(Int×aF9)))⊕((Bool×Unit)⊕aF9)):=
 if(decide (x3<x2))=true then
 if(decide ((0:Int)<=x3))=true then
 if(decide (x3<((length x1:Nat):Int)))=true then
 if(dF.pre (List.getD x1 (Int.toNat x3) rF) x4.2.1)=true then
 letB (dF (List.getD x1 (Int.toNat x3) rF) x4.2.1) fun v1=>
 if(!v1)=true then
 some (.inr (.inl (false,())))
 else
 if(decide (x4.1<=(List.getD x1 (Int.toNat x3) rF).1))=true then
 some (.inr (.inl (false,())))
 else
 if(decide ((0:Int)<x3))=true then
 if(decide ((0:Int)<=(wrap .i64 (x3-(1:Int)))))=true then
 if(decide ((wrap .i64 (x3-(1:Int)))<((length x5.2.1:Nat):Int)))=true then
 if(decide ((List.getD x1 (Int.toNat x3) rF).1<(List.getD x5.2.1 (Int.toNat (wrap .i64 (x3-(1:Int)))) rF).1))=true then
 some (.inr (.inl (false,())))
 else
 if(decide ((0:Int)<=(wrap .i64 (x3-(1:Int)))))=true then
 if(decide ((wrap .i64 (x3-(1:Int)))<((length x5.2.1:Nat):Int)))=true then
 if(decide ((List.getD x5.2.1 (Int.toNat (wrap .i64 (x3-(1:Int)))) rF).1=(List.getD x1 (Int.toNat x3) rF).1))=true then
 if(decide ((0:Int)<=(wrap .i64 (x3-(1:Int)))))=true then
 if(decide ((wrap .i64 (x3-(1:Int)))<((length x5.2.1:Nat):Int)))=true then
 if(decide ((List.getD x1 (Int.toNat x3) rF).2.1<=(List.getD x5.2.1 (Int.toNat (wrap .i64 (x3-(1:Int)))) rF).2.1))=true then
 some (.inr (.inl (false,())))
 else
 some (.inl (x1,(x2,((wrap .i64 (x3+(1:Int))),(x4,(x5,()))))))
 else
 none
 else
 none
 else
 some (.inl (x1,(x2,((wrap .i64 (x3+(1:Int))),(x4,(x5,()))))))
 else
 none
 else
 none
 else
 none
 else
 none
 else
 some (.inl (x1,(x2,((wrap .i64 (x3+(1:Int))),(x4,(x5,()))))))
 else
 none
 else
 none
 else
 none
 else
 some (.inr (.inr (x4,(x5,()))))
abbrev wf(x0:aW)(x1:bI):Prop:=fW [(.val wG .f),(.val zk1 .f)] (x0,(x1,()))
noncomputable def aR(x0:aW)(x1:bI):Option kZ:=
 letB (dP x0) fun v1=>
 if(!v1)=true then
  some ((),(false,()))
 else
  if(!(decide (((length x1.1:Nat):Int)=x0.1)))=true then
   some ((),(false,()))
  else
   if(!(decide (((length x1.2.2.1:Nat):Int)=(2:Int))))=true then
    some ((),(false,()))
   else
    letB (aB x1.2.2.2.1 (0:Int) (100000:Int)) fun v2=>
    if(!v2)=true then
     some ((),(false,()))
    else
     if(!(decide (((length x1.2.2.2.2.1:Nat):Int)=(4:Int))))=true then
      some ((),(false,()))
     else
      if(bD.pre x1.2.2.2.2.1 (0:Int) (100000:Int))=true then
       letB (bD x1.2.2.2.2.1 (0:Int) (100000:Int)) fun v3=>
       if(!v3)=true then
        some ((),(false,()))
       else
        if(!(decide (((length x1.2.2.2.2.2.1:Nat):Int)=(4:Int))))=true then
         some ((),(false,()))
        else
         if(dO.pre4 (x1.2.1,(((length x1.2.1:Nat):Int),((0:Int),(x0,(x1,()))))))=true then
          letB (dO.fn4 (x1.2.1,(((length x1.2.1:Nat):Int),((0:Int),(x0,(x1,())))))) fun v4=>
          match v4 with
          |.inl y=>
           some ((),y)
          |.inr y=>
           if(cQ.pre y.2.1.1 ((fun x=>(fL.pre x)),(fun x=>(fL x))))=true then
            if(cF.pre y.2.1.2.2.1 ((fun x=>(fM.pre x y.1)),(fun x=>(fM x y.1))))=true then
             if(bT.pre y.2.1.2.2.2.2.2.1 ((fun x=>(fD.pre x)),(fun x=>(fD x))))=true then
              letB (cQ y.2.1.1 ((fun x=>(fL.pre x)),(fun x=>(fL x)))) fun v5=>
              if(!v5)=true then
               letB (cF y.2.1.2.2.1 ((fun x=>(fM.pre x y.1)),(fun x=>(fM x y.1)))) fun v6=>
               if(!v6)=true then
                letB (bT y.2.1.2.2.2.2.2.1 ((fun x=>(fD.pre x)),(fun x=>(fD x)))) fun v7=>
                some ((),((!v7),()))
               else
                some ((),(false,()))
              else
               some ((),(false,()))
             else
              none
            else
             none
           else
            none
         else
          none
      else
       none
theorem zE(x1:List aK)(x2 x3:Int)(x4:aW)(x5:bI)(hp:pre4 (x1,(x2,(x3,(x4,(x5,())))))=true):Rounds pre4 qD fn4 (x1,(x2,(x3,(x4,(x5,()))))) (hJ x1 x2 x3 x4 x5):=by
 simp only[pre4,Zb,Za,bV] at hp
 obtain⟨rfl,rfl,hs,ha⟩:=hp
 obtain⟨h1,h2,h3⟩:=mV ha
 unfold hJ
 by_cases hlt:x3<(x5.2.1.length:Int)
 . obtain⟨n1,n2,n3,n4⟩:=rR ha hlt
   have nxt:uH dF x4 x5.2.1 x3.toNat=true->Rounds pre4 qD fn4 (x5.2.1,((x5.2.1.length:Int),(x3,(x4,(x5,()))))) (some (.inl (x5.2.1,((x5.2.1.length:Int),(x3+1,(x4,(x5,()))))))):=
    fun h=>⟨by simp only[pre4,pT,n2,hs];simp,n3,rN ha hlt h⟩
   have stp:uH dF x4 x5.2.1 x3.toNat=false->Rounds pre4 qD fn4 (x5.2.1,((x5.2.1.length:Int),(x3,(x4,(x5,()))))) (some (.inr (.inl (false,())))):=fun h=>rS ha hlt h
   have hq:dF.pre (x5.2.1.getD x3.toNat rF) x4.2.1=true:=aC6 hs (show x3.toNat<x5.2.1.length by omega) _
   simp only[letB,n1,hlt,h2,hq,decide_true,if_true]
   simp only[uH] at nxt stp
   generalize dF (x5.2.1.getD x3.toNat rF) x4.2.1=b1 at *
   by_cases h0:0<x3
   . obtain⟨p1,p2,p3,p4,p5⟩:=xM ha h0
     simp only[p1,p2,p3,p4,h0,decide_true,if_true]
     simp only[p5,decide_false,Bool.false_or] at nxt stp
     generalize x5.2.1.getD x3.toNat rF=e at *
     generalize x5.2.1.getD (x3.toNat-1) rF=e' at *
     cases b1
     . exact stp rfl
     by_cases c1:x4.1<=e.1
     . simp only[c1,show ¬e.1<x4.1 by omega,decide_true,decide_false] at *
       exact stp rfl
     by_cases c2:e.1<e'.1
     . simp only[c1,c2,show e.1<x4.1 by omega,show ¬e'.1<=e.1 by omega,decide_true,decide_false] at *
       exact stp rfl
     by_cases c3:e'.1=e.1
     . by_cases c4:e.2.1<=e'.2.1
       . simp only[c1,c2,c3,c4,show e.1<x4.1 by omega,show e'.1<=e.1 by omega,Int.le_refl,Int.lt_irrefl,decide_true,decide_false] at *
         exact stp rfl
       . simp only[c1,c2,c3,c4,show e.1<x4.1 by omega,show e'.1<=e.1 by omega,Int.le_refl,Int.lt_irrefl,decide_true,decide_false] at *
         exact nxt rfl
     . simp only[c1,c2,c3,show e.1<x4.1 by omega,show e'.1<=e.1 by omega,decide_true,decide_false] at *
       exact nxt rfl
   . have p5:x3.toNat=0:=by omega
     simp only[h0,decide_false,Zj,if_false]
     simp only[p5,decide_true,Bool.true_or,Bool.and_true] at nxt stp ⊢
     generalize x5.2.1.getD 0 rF=e at *
     cases b1
     . exact stp rfl
     by_cases c1:x4.1<=e.1
     . simp only[c1,show ¬e.1<x4.1 by omega,decide_true,decide_false] at *
       exact stp rfl
     . simp only[c1,show e.1<x4.1 by omega,decide_true,decide_false] at *
       exact nxt rfl
 . rw[if_neg (by simp[hlt])]
   exact uV ha hlt
theorem eq(x0:aW)(x1:bI)(_:wf x0 x1)(hp:pre x0 x1=true):aR x0 x1=some ((),(dO x0 x1,())):=by
 have hp:tJ x1=true:=hp
 simp only[tJ,Zb] at hp
 obtain⟨a1,a2,a3,a4,a5,a6,a7,a8⟩:=hp
 unfold aR dO wA
 simp only[letB]
 cases dP x0
 . rfl
 by_cases b1:(x1.1.length:Int)=x0.1
 case neg=>rw[if_neg (by decide),if_pos (by simp[b1]),decide_eq_false b1];rfl
 rw[if_neg (by decide),if_neg (by simp[b1]),Zd b1]
 by_cases b2:(x1.2.2.1.length:Int)=2
 case neg=>rw[if_pos (by simp[b2]),decide_eq_false b2];rfl
 rw[if_neg (by simp[b2]),Zd b2]
 cases aB x1.2.2.2.1 0 100000
 . rfl
 by_cases b3:(x1.2.2.2.2.1.length:Int)=4
 case neg=>rw[if_neg (by decide),if_pos (by simp[b3]),decide_eq_false b3];rfl
 rw[if_neg (by decide),if_neg (by simp[b3]),Zd b3,if_pos (show bD.pre x1.2.2.2.2.1 0 100000=true from rfl)]
 cases bD x1.2.2.2.2.1 0 100000
 . rfl
 by_cases b4:(x1.2.2.2.2.2.1.length:Int)=4
 case neg=>rw[if_neg (by decide),if_pos (by simp[b4]),decide_eq_false b4];rfl
 rw[if_neg (by decide),if_neg (by simp[b4]),Zd b4,
  if_pos (show pre4 (x1.2.1,((x1.2.1.length:Int),((0:Int),(x0,(x1,())))))=true by simp only[pre4,pT,pO (cC.1 a3),a4];simp),
  show fn4 (x1.2.1,((x1.2.1.length:Int),((0:Int),(x0,(x1,())))))=_ from uY]
 cases qC (uH dF x0 x1.2.1) 0 x1.2.1.length
 . rfl
 simp only[cond_true]
 rw[if_pos (show cQ.pre x1.1 ((fun x=>fL.pre x),fun x=>fL x)=true from a2),
  if_pos (show cF.pre x1.2.2.1 ((fun x=>fM.pre x x0),fun x=>fM x x0)=true from a6),
  if_pos (show bT.pre x1.2.2.2.2.2.1 ((fun x=>fD.pre x),fun x=>fD x)=true by simp[bT.pre,fD.pre]),
  show(!cQ x1.1 ((fun x=>fL.pre x),fun x=>fL x))=x1.1.all pN from zK _ _,
  show(!cF x1.2.2.1 ((fun x=>fM.pre x x0),fun x=>fM x x0))=x1.2.2.1.all (fun g=>jS g x0.1) from zK (fun g=>jS g x0.1) _,
  show(!bT x1.2.2.2.2.2.1 ((fun x=>fD.pre x),fun x=>fD x))=x1.2.2.2.2.2.1.all nJ from zK _ _]
 cases x1.1.all pN
 . rfl
 cases x1.2.2.1.all (fun g=>jS g x0.1)<;>rfl
end dO
def fI(s:aW)(ms:List aK):Bool:=qC (uH dC s ms) 0 ms.length
namespace fI
abbrev S2:Type:=((List aK)×(Int×(aW×Unit)))
abbrev O2:Type:=((Bool×Unit)⊕Unit)
def pre(_:aW)(ms:List aK):Bool:=dI ms&&ms.all (fun m:aK=>dI m.2.2.2.2.1)
def pre2:S2->Bool:=fun(x1,x2,_,_)=>x1.all (fun m:aK=>dI m.2.2.2.2.1)&&pJ x1.length x2
def fn2:S2->O2:=fun(x1,x2,x3,_)=>xP (uH dC x3 x1) x1.length x2 ()
def kY:S2->Nat:=fun(x1,x2,_,_)=>x1.length-x2.toNat
noncomputable def cW(x1:(List aK))(x2:Int)(x3:aW):Option (((List aK)×(Int×(aW×Unit)))⊕((Bool×Unit)⊕Unit)):=
 if(decide (x2<((length x1:Nat):Int)))=true then
 if(decide ((0:Int)<=x2))=true then
 if(decide (x2<((length x1:Nat):Int)))=true then
 if(dC.pre (List.getD x1 (Int.toNat x2) rF) x3.2.1)=true then
 letB (dC (List.getD x1 (Int.toNat x2) rF) x3.2.1) fun v1=>
 if(!v1)=true then
 some (.inr (.inl (false,())))
 else
 if(decide (x3.1<=(List.getD x1 (Int.toNat x2) rF).1))=true then
 some (.inr (.inl (false,())))
 else
 if(decide ((0:Int)<x2))=true then
 if(decide ((0:Int)<=(wrap .i64 (x2-(1:Int)))))=true then
 if(decide ((wrap .i64 (x2-(1:Int)))<((length x1:Nat):Int)))=true then
 if(decide ((List.getD x1 (Int.toNat x2) rF).1<(List.getD x1 (Int.toNat (wrap .i64 (x2-(1:Int)))) rF).1))=true then
 some (.inr (.inl (false,())))
 else
 if(decide ((0:Int)<=(wrap .i64 (x2-(1:Int)))))=true then
 if(decide ((wrap .i64 (x2-(1:Int)))<((length x1:Nat):Int)))=true then
 if(decide ((List.getD x1 (Int.toNat (wrap .i64 (x2-(1:Int)))) rF).1=(List.getD x1 (Int.toNat x2) rF).1))=true then
 if(decide ((0:Int)<=(wrap .i64 (x2-(1:Int)))))=true then
 if(decide ((wrap .i64 (x2-(1:Int)))<((length x1:Nat):Int)))=true then
 if(decide ((List.getD x1 (Int.toNat x2) rF).2.1<=(List.getD x1 (Int.toNat (wrap .i64 (x2-(1:Int)))) rF).2.1))=true then
 some (.inr (.inl (false,())))
 else
 some (.inl (x1,((wrap .i64 (x2+(1:Int))),(x3,()))))
 else
 none
 else
 none
 else
 some (.inl (x1,((wrap .i64 (x2+(1:Int))),(x3,()))))
 else
 none
 else
 none
 else
 none
 else
 none
 else
 some (.inl (x1,((wrap .i64 (x2+(1:Int))),(x3,()))))
 else
 none
 else
 none
 else
 none
 else
 some (.inr (.inr ()))
abbrev wf(x0:aW)(x1:(List aK)):Prop:=fW [(.val wG .f),(.val (.sl 0 aBr) .f)] (x0,(x1,()))
noncomputable def aR(x0:aW)(x1:(List aK)):Option kZ:=
 if(fI.pre2 (x1,((0:Int),(x0,()))))=true then
  letB (fI.fn2 (x1,((0:Int),(x0,())))) fun v1=>
  match v1 with
  |.inl y=>
   some ((),y)
  |.inr y=>
   some ((),(true,()))
 else
  none
theorem qO(x1:List aK)(x2:Int)(x3:aW)(hp:pre2 (x1,(x2,(x3,())))=true):Rounds pre2 kY fn2 (x1,(x2,(x3,()))) (cW x1 x2 x3):=by
 simp only[pre2,Zb] at hp
 obtain⟨hs,ha⟩:=hp
 obtain⟨h1,h2,h3⟩:=mV ha
 unfold cW
 by_cases hlt:x2<(x1.length:Int)
 . obtain⟨n1,n2,n3,n4⟩:=rR ha hlt
   have nxt:uH dC x3 x1 x2.toNat=true->Rounds pre2 kY fn2 (x1,(x2,(x3,()))) (some (.inl (x1,(x2+1,(x3,()))))):=
    fun h=>⟨by simp only[pre2,n2,hs];simp,n3,rN ha hlt h⟩
   have stp:uH dC x3 x1 x2.toNat=false->Rounds pre2 kY fn2 (x1,(x2,(x3,()))) (some (.inr (.inl (false,())))):=fun h=>rS ha hlt h
   have hq:dC.pre (x1.getD x2.toNat rF) x3.2.1=true:=aC6 hs (show x2.toNat<x1.length by omega) _
   simp only[letB,n1,hlt,h2,hq,decide_true,if_true]
   simp only[uH] at nxt stp
   generalize dC (x1.getD x2.toNat rF) x3.2.1=b1 at *
   by_cases h0:0<x2
   . obtain⟨p1,p2,p3,p4,p5⟩:=xM ha h0
     simp only[p1,p2,p3,p4,h0,decide_true,if_true]
     simp only[p5,decide_false,Bool.false_or] at nxt stp
     generalize x1.getD x2.toNat rF=e at *
     generalize x1.getD (x2.toNat-1) rF=e' at *
     cases b1
     . exact stp rfl
     by_cases c1:x3.1<=e.1
     . simp only[c1,show ¬e.1<x3.1 by omega,decide_true,decide_false] at *
       exact stp rfl
     by_cases c2:e.1<e'.1
     . simp only[c1,c2,show e.1<x3.1 by omega,show ¬e'.1<=e.1 by omega,decide_true,decide_false] at *
       exact stp rfl
     by_cases c3:e'.1=e.1
     . by_cases c4:e.2.1<=e'.2.1
       . simp only[c1,c2,c3,c4,show e.1<x3.1 by omega,show e'.1<=e.1 by omega,Int.le_refl,Int.lt_irrefl,decide_true,decide_false] at *
         exact stp rfl
       . simp only[c1,c2,c3,c4,show e.1<x3.1 by omega,show e'.1<=e.1 by omega,Int.le_refl,Int.lt_irrefl,decide_true,decide_false] at *
         exact nxt rfl
     . simp only[c1,c2,c3,show e.1<x3.1 by omega,show e'.1<=e.1 by omega,decide_true,decide_false] at *
       exact nxt rfl
   . have p5:x2.toNat=0:=by omega
     simp only[h0,decide_false,Zj,if_false]
     simp only[p5,decide_true,Bool.true_or,Bool.and_true] at nxt stp ⊢
     generalize x1.getD 0 rF=e at *
     cases b1
     . exact stp rfl
     by_cases c1:x3.1<=e.1
     . simp only[c1,show ¬e.1<x3.1 by omega,decide_true,decide_false] at *
       exact stp rfl
     . simp only[c1,show e.1<x3.1 by omega,decide_true,decide_false] at *
       exact nxt rfl
 . rw[if_neg (by simp[hlt])]
   exact uV ha hlt
theorem eq(x0:aW)(x1:List aK)(_:wf x0 x1)(hp:pre x0 x1=true):aR x0 x1=some ((),(fI x0 x1,())):=by
 simp only[pre,Zb] at hp
 unfold aR fI
 rw[if_pos (show pre2 (x1,((0:Int),(x0,())))=true by simp only[pre2,hp.2,pO (cC.1 hp.1)];rfl),show fn2 (x1,((0:Int),(x0,())))=_ from uY]
 cases qC (uH dC x0 x1) 0 x1.length<;>rfl
end fI
namespace bX
abbrev S4:Type:=(Int×aF9)
abbrev O4:Type:=((Bool×Unit)⊕aF9)
abbrev S9:Type:=(Int×aF9)
abbrev O9:Type:=((Bool×Unit)⊕(bI×Unit))
abbrev S14:Type:=(Int×(bI×Unit))
abbrev O14:Type:=((Bool×Unit)⊕Unit)
def pre(_:aW)(k:bI):Bool:=tJ k
def dAt(k:bI)(j:Nat):Bool:=aB (k.2.2.2.2.1.getD j (0:Int)) 0 100000&&nJ (k.2.2.2.2.2.1.getD j sI)
def pre4:S4->Bool:=fun(x1,x2,x3,_)=>decide ((x3.1.length:Int)=x2.1)&&(x3.1.all (fun r:cL=>dI r.2.2.1)&&pJ x3.1.length x1)
def fn4:S4->O4:=fun(x1,x2,x3,_)=>xP (fun j=>pN (x3.1.getD j oR)) x3.1.length x1 (x2,(x3,()))
def qD:S4->Nat:=fun(x1,_,x3,_)=>x3.1.length-x1.toNat
def pre9:S9->Bool:=fun(x1,_,x3,_)=>decide ((x3.2.2.1.length:Int)=2)&&(x3.2.2.1.all oY&&pJ x3.2.2.1.length x1)
def fn9:S9->O9:=fun(x1,x2,x3,_)=>xP (fun j=>jS (x3.2.2.1.getD j vB) x2.1) x3.2.2.1.length x1 (x3,())
def mu9:S9->Nat:=fun(x1,_,x3,_)=>x3.2.2.1.length-x1.toNat
def pre14:S14->Bool:=fun(x1,x2,_)=>decide ((x2.2.2.2.2.1.length:Int)=4)&&(decide ((x2.2.2.2.2.2.1.length:Int)=4)&&pJ x2.2.2.2.2.1.length x1)
def fn14:S14->O14:=fun(x1,x2,_)=>xP (dAt x2) x2.2.2.2.2.1.length x1 ()
def aMq:S14->Nat:=fun(x1,x2,_)=>x2.2.2.2.2.1.length-x1.toNat
noncomputable def hJ(x1:Int)(x2:aW)(x3:bI):Option ((Int×aF9)⊕((Bool×Unit)⊕aF9)):=
 if(decide (x1<x2.1))=true then
 if(decide ((0:Int)<=x1))=true then
 if(decide (x1<((length x3.1:Nat):Int)))=true then
 if(lE.pre (List.getD x3.1 (Int.toNat x1) oR))=true then
 letB (pN (List.getD x3.1 (Int.toNat x1) oR)) fun v1=>
 if(!v1)=true then
 some (.inr (.inl (false,())))
 else
 some (.inl ((wrap .i64 (x1+(1:Int))),(x2,(x3,()))))
 else
 none
 else
 none
 else
 none
 else
 some (.inr (.inr (x2,(x3,()))))
noncomputable def aEd(x1:Int)(x2:aW)(x3:bI):Option ((Int×aF9)⊕((Bool×Unit)⊕(bI×Unit))):=
 if(decide (x1<(2:Int)))=true then
 if(decide ((0:Int)<=x1))=true then
 if(decide (x1<((length x3.2.2.1:Nat):Int)))=true then
 if(gY.pre (List.getD x3.2.2.1 (Int.toNat x1) vB) x2.1)=true then
 letB (jS (List.getD x3.2.2.1 (Int.toNat x1) vB) x2.1) fun v1=>
 if(!v1)=true then
 some (.inr (.inl (false,())))
 else
 some (.inl ((wrap .i64 (x1+(1:Int))),(x2,(x3,()))))
 else
 none
 else
 none
 else
 none
 else
 some (.inr (.inr (x3,())))
noncomputable def aLk(x1:Int)(x2:bI):Option ((Int×(bI×Unit))⊕((Bool×Unit)⊕Unit)):=
 if(decide (x1<(4:Int)))=true then
 if(decide ((0:Int)<=x1))=true then
 if(decide (x1<((length x2.2.2.2.2.1:Nat):Int)))=true then
 letB (aB (List.getD x2.2.2.2.2.1 (Int.toNat x1) (0:Int)) (0:Int) (100000:Int)) fun v1=>
 if(!v1)=true then
 some (.inr (.inl (false,())))
 else
 if(decide ((0:Int)<=x1))=true then
 if(decide (x1<((length x2.2.2.2.2.2.1:Nat):Int)))=true then
 if(jJ.pre (List.getD x2.2.2.2.2.2.1 (Int.toNat x1) sI))=true then
 letB (nJ (List.getD x2.2.2.2.2.2.1 (Int.toNat x1) sI)) fun v2=>
 if(!v2)=true then
 some (.inr (.inl (false,())))
 else
 some (.inl ((wrap .i64 (x1+(1:Int))),(x2,())))
 else
 none
 else
 none
 else
 none
 else
 none
 else
 none
 else
 some (.inr (.inr ()))
abbrev wf(x0:aW)(x1:bI):Prop:=fW [(.val wG .f),(.val zk1 .f)] (x0,(x1,()))
noncomputable def aR(x0:aW)(x1:bI):Option kZ:=
 letB (dP x0) fun v1=>
 if(!v1)=true then
  some ((),(false,()))
 else
  if(!(decide (((length x1.1:Nat):Int)=x0.1)))=true then
   some ((),(false,()))
  else
   if(!(decide (((length x1.2.2.1:Nat):Int)=(2:Int))))=true then
    some ((),(false,()))
   else
    if(!(decide (((length x1.2.2.2.2.1:Nat):Int)=(4:Int))))=true then
     some ((),(false,()))
    else
     if(!(decide (((length x1.2.2.2.2.2.1:Nat):Int)=(4:Int))))=true then
      some ((),(false,()))
     else
      letB (aB x1.2.2.2.1 (0:Int) (100000:Int)) fun v2=>
      if(!v2)=true then
       some ((),(false,()))
      else
       if(fI.pre x0 x1.2.1)=true then
        letB (fI x0 x1.2.1) fun v3=>
        if(!v3)=true then
         some ((),(false,()))
        else
         if(bX.pre4 ((0:Int),(x0,(x1,()))))=true then
          letB (bX.fn4 ((0:Int),(x0,(x1,())))) fun v4=>
          match v4 with
          |.inl y=>
           some ((),y)
          |.inr y=>
           if(bX.pre9 ((0:Int),y))=true then
            letB (bX.fn9 ((0:Int),y)) fun v5=>
            match v5 with
            |.inl y_1=>
             some ((),y_1)
            |.inr y_1=>
             if(bX.pre14 ((0:Int),y_1))=true then
              letB (bX.fn14 ((0:Int),y_1)) fun v6=>
              match v6 with
              |.inl y_2=>
               some ((),y_2)
              |.inr y_2=>
               some ((),(true,()))
             else
              none
           else
            none
         else
          none
       else
        none
theorem zE(x1:Int)(x2:aW)(x3:bI)(hp:pre4 (x1,(x2,(x3,())))=true):Rounds pre4 qD fn4 (x1,(x2,(x3,()))) (hJ x1 x2 x3):=by
 simp only[pre4,Zb,Za] at hp
 obtain⟨hl,hs,ha⟩:=hp
 obtain⟨h1,h2,h3⟩:=mV ha
 unfold hJ
 by_cases hlt:x1<(x3.1.length:Int)
 . obtain⟨n1,n2,n3,n4⟩:=rR ha hlt
   have hlt':x1<x2.1:=by omega
   have nxt:pN (x3.1.getD x1.toNat oR)=true->Rounds pre4 qD fn4 (x1,(x2,(x3,()))) (some (.inl (x1+1,(x2,(x3,()))))):=
    fun h=>⟨by simp only[pre4,n2,hs,hl];simp,n3,rN (ok:=fun j=>pN (x3.1.getD j oR)) ha hlt h⟩
   have stp:pN (x3.1.getD x1.toNat oR)=false->Rounds pre4 qD fn4 (x1,(x2,(x3,()))) (some (.inr (.inl (false,())))):=fun h=>rS (ok:=fun j=>pN (x3.1.getD j oR)) ha hlt h
   have hq:lE.pre (x3.1.getD x1.toNat oR)=true:=aC6 hs (show x1.toNat<x3.1.length by omega) _
   simp only[letB,n1,hlt,hlt',h2,hq,decide_true,if_true]
   generalize pN (x3.1.getD x1.toNat oR)=b at *
   cases b
   . exact stp rfl
   . exact nxt rfl
 . rw[if_neg (by rw[Za];omega)]
   exact uV ha hlt
theorem ok9(x1:Int)(x2:aW)(x3:bI)(hp:pre9 (x1,(x2,(x3,())))=true):Rounds pre9 mu9 fn9 (x1,(x2,(x3,()))) (aEd x1 x2 x3):=by
 simp only[pre9,Zb,Za] at hp
 obtain⟨hl,hs,ha⟩:=hp
 obtain⟨h1,h2,h3⟩:=mV ha
 unfold aEd
 by_cases hlt:x1<(x3.2.2.1.length:Int)
 . obtain⟨n1,n2,n3,n4⟩:=rR ha hlt
   have hlt':x1<2:=by omega
   have nxt:jS (x3.2.2.1.getD x1.toNat vB) x2.1=true->Rounds pre9 mu9 fn9 (x1,(x2,(x3,()))) (some (.inl (x1+1,(x2,(x3,()))))):=
    fun h=>⟨by simp only[pre9,n2,hs,hl];simp,n3,rN (ok:=fun j=>jS (x3.2.2.1.getD j vB) x2.1) ha hlt h⟩
   have stp:jS (x3.2.2.1.getD x1.toNat vB) x2.1=false->Rounds pre9 mu9 fn9 (x1,(x2,(x3,()))) (some (.inr (.inl (false,())))):=fun h=>rS (ok:=fun j=>jS (x3.2.2.1.getD j vB) x2.1) ha hlt h
   have hq:gY.pre (x3.2.2.1.getD x1.toNat vB) x2.1=true:=aC6 hs (show x1.toNat<x3.2.2.1.length by omega) _
   simp only[letB,n1,hlt,hlt',h2,hq,decide_true,if_true]
   generalize jS (x3.2.2.1.getD x1.toNat vB) x2.1=b at *
   cases b
   . exact stp rfl
   . exact nxt rfl
 . rw[if_neg (by rw[Za];omega)]
   exact uV ha hlt
theorem aPf(x1:Int)(x2:bI)(hp:pre14 (x1,(x2,()))=true):Rounds pre14 aMq fn14 (x1,(x2,())) (aLk x1 x2):=by
 simp only[pre14,Zb,Za] at hp
 obtain⟨hl,hs,ha⟩:=hp
 obtain⟨h1,h2,h3⟩:=mV ha
 unfold aLk
 by_cases hlt:x1<(x2.2.2.2.2.1.length:Int)
 . obtain⟨n1,n2,n3,n4⟩:=rR ha hlt
   have hlt':x1<4:=by omega
   have hlt2:x1<(x2.2.2.2.2.2.1.length:Int):=by omega
   have nxt:dAt x2 x1.toNat=true->Rounds pre14 aMq fn14 (x1,(x2,())) (some (.inl (x1+1,(x2,())))):=
    fun h=>⟨by simp only[pre14,n2,hs,hl];simp,n3,rN ha hlt h⟩
   have stp:dAt x2 x1.toNat=false->Rounds pre14 aMq fn14 (x1,(x2,())) (some (.inr (.inl (false,())))):=fun h=>rS ha hlt h
   have hq:jJ.pre (x2.2.2.2.2.2.1.getD x1.toNat sI)=true:=Zd (Int.le_refl _)
   simp only[letB,n1,hlt,hlt',hlt2,h2,hq,decide_true,if_true]
   simp only[dAt] at nxt stp
   generalize nJ (x2.2.2.2.2.2.1.getD x1.toNat sI)=b at *
   generalize aB (x2.2.2.2.2.1.getD x1.toNat (0:Int)) 0 100000=c at *
   cases c<;>cases b
   . exact stp rfl
   . exact stp rfl
   . exact stp rfl
   . exact nxt rfl
 . rw[if_neg (by rw[Za];omega)]
   exact uV ha hlt
theorem eq(x0:aW)(x1:bI)(_:wf x0 x1)(hp:pre x0 x1=true):aR x0 x1=some ((),(bX x0 x1,())):=by
 have hp:tJ x1=true:=hp
 simp only[tJ,Zb] at hp
 obtain⟨a1,a2,a3,a4,a5,a6,a7,a8⟩:=hp
 unfold aR bX wA
 simp only[letB]
 cases dP x0
 . rfl
 by_cases b1:(x1.1.length:Int)=x0.1
 case neg=>rw[if_neg (by decide),if_pos (by simp[b1]),decide_eq_false b1];rfl
 rw[if_neg (by decide),if_neg (by simp[b1]),Zd b1]
 by_cases b2:(x1.2.2.1.length:Int)=2
 case neg=>rw[if_pos (by simp[b2]),decide_eq_false b2];rfl
 rw[if_neg (by simp[b2]),Zd b2]
 by_cases b3:(x1.2.2.2.2.1.length:Int)=4
 case neg=>rw[if_pos (by simp[b3]),decide_eq_false b3];cases aB x1.2.2.2.1 0 100000<;>rfl
 rw[if_neg (by simp[b3]),Zd b3]
 by_cases b4:(x1.2.2.2.2.2.1.length:Int)=4
 case neg=>rw[if_pos (by simp[b4]),decide_eq_false b4];cases aB x1.2.2.2.1 0 100000<;>cases bD x1.2.2.2.2.1 0 100000<;>rfl
 rw[if_neg (by simp[b4]),Zd b4]
 cases aB x1.2.2.2.1 0 100000
 . rfl
 rw[if_neg (by decide),if_pos (show fI.pre x0 x1.2.1=true by simp only[fI.pre,a3,a4];rfl)]
 unfold fI
 cases qC (uH dC x0 x1.2.1) 0 x1.2.1.length
 . cases bD x1.2.2.2.2.1 0 100000<;>rfl
 rw[if_neg (by decide),if_pos (show pre4 ((0:Int),(x0,(x1,())))=true by simp only[pre4,pO (cC.1 a1),a2,Zd b1];rfl),
  show fn4 ((0:Int),(x0,(x1,())))=_ from uY,show qC (fun j=>pN (x1.1.getD j oR)) 0 x1.1.length=x1.1.all pN from yW]
 cases x1.1.all pN
 . cases bD x1.2.2.2.2.1 0 100000<;>rfl
 simp only[cond_true]
 rw[if_pos (show pre9 ((0:Int),(x0,(x1,())))=true by simp only[pre9,pO (cC.1 a5),a6,Zd b2];rfl),
  show fn9 ((0:Int),(x0,(x1,())))=_ from uY,show qC (fun j=>jS (x1.2.2.1.getD j vB) x0.1) 0 x1.2.2.1.length=x1.2.2.1.all (fun g=>jS g x0.1) from yW (p:=fun g=>jS g x0.1)]
 cases x1.2.2.1.all (fun g=>jS g x0.1)
 . cases bD x1.2.2.2.2.1 0 100000<;>rfl
 simp only[cond_true]
 rw[if_pos (show pre14 ((0:Int),(x1,()))=true by simp only[pre14,pO (cC.1 a7),Zd b3,Zd b4];rfl),
  show fn14 ((0:Int),(x1,()))=_ from uY,show qC (dAt x1) 0 x1.2.2.2.2.1.length=(bD x1.2.2.2.2.1 0 100000&&x1.2.2.2.2.2.1.all nJ) by
   rw[show dAt x1=fun j=>aB (x1.2.2.2.2.1.getD j (0:Int)) 0 100000&&nJ (x1.2.2.2.2.2.1.getD j sI) from rfl,aDY]
   refine congr (congrArg _ (yW (p:=fun n=>aB n 0 100000))) ?_
   rw[show x1.2.2.2.2.1.length=x1.2.2.2.2.2.1.length by omega]
   exact yW]
 cases bD x1.2.2.2.2.1 0 100000<;>cases x1.2.2.2.2.2.1.all nJ<;>rfl
end bX
def uO(ko:aW->bI->Bool)(p:aW)(h:jV):Bool:=aB h.1 0 300&&(aB h.2.1 (-1) 4&&(rJ h.2.2.1&&(decide ((aA6 h.2.2.1).2<=h.1)&&ko p h.2.2.2.1)))
def cM(p:aW)(h:jV):Bool:=uO dO p h
def cO(p:aW)(h:jV):Bool:=uO bX p h
namespace cM
def pre(_:aW)(h:jV):Bool:=tJ h.2.2.2.1
abbrev wf(x0:aW)(x1:rL):Prop:=fW [(.val wG .f),(.val aEM .f)] (x0,(x1,()))
noncomputable def aR(x0:aW)(x1:rL):Option kZ:=
 letB (aB x1.1 (0:Int) (300:Int)) fun v1=>
 if v1=true then
 letB (aB x1.2.1 (-1:Int) (4:Int)) fun v2=>
 if v2=true then
 letB (rJ x1.2.2.1) fun v3=>
 if v3=true then
 letB (aA6 x1.2.2.1) fun v4=>
 if(decide (v4.2<=x1.1))=true then
 if(dO.pre x0 x1.2.2.2.1)=true then
 letB (dO x0 x1.2.2.2.1) fun v5=>
 some ((),(v5,()))
 else
 none
 else
 some ((),(false,()))
 else
 some ((),(false,()))
 else
 some ((),(false,()))
 else
 some ((),(false,()))
theorem eq(x0:aW)(x1:jV)(_:wf x0 x1)(hp:pre x0 x1=true):aR x0 x1=some ((),(cM x0 x1,())):=by
 unfold aR cM uO
 rw[show dO.pre x0 x1.2.2.2.1=true from hp]
 simp only[letB]
 cases aB x1.1 0 300<;>cases aB x1.2.1 (-1) 4<;>cases rJ x1.2.2.1<;>cases decide ((aA6 x1.2.2.1).2<=x1.1)<;>rfl
end cM
namespace cO
def pre(_:aW)(h:jV):Bool:=tJ h.2.2.2.1
abbrev wf(x0:aW)(x1:rL):Prop:=fW [(.val wG .f),(.val aEM .f)] (x0,(x1,()))
noncomputable def aR(x0:aW)(x1:rL):Option kZ:=
 letB (aB x1.1 (0:Int) (300:Int)) fun v1=>
 if v1=true then
 letB (aB x1.2.1 (-1:Int) (4:Int)) fun v2=>
 if v2=true then
 letB (rJ x1.2.2.1) fun v3=>
 if v3=true then
 letB (aA6 x1.2.2.1) fun v4=>
 if(decide (v4.2<=x1.1))=true then
 if(bX.pre x0 x1.2.2.2.1)=true then
 letB (bX x0 x1.2.2.2.1) fun v5=>
 some ((),(v5,()))
 else
 none
 else
 some ((),(false,()))
 else
 some ((),(false,()))
 else
 some ((),(false,()))
 else
 some ((),(false,()))
theorem eq(x0:aW)(x1:jV)(_:wf x0 x1)(hp:pre x0 x1=true):aR x0 x1=some ((),(cO x0 x1,())):=by
 unfold aR cO uO
 rw[show bX.pre x0 x1.2.2.2.1=true from hp]
 simp only[letB]
 cases aB x1.1 0 300<;>cases aB x1.2.1 (-1) 4<;>cases rJ x1.2.2.1<;>cases decide ((aA6 x1.2.2.1).2<=x1.1)<;>rfl
end cO
theorem aIK{g:aJ}:oY g=true↔g.2.1.length<=16777216/\g.2.2.1.length<=16777216/\g.2.2.2.1.length<=16777216:=by
 simp only[oY,Zb,cC]
def aO1{α:Type}(xs:List α):Bool:=decide (xs.length<=16777000)
theorem aLX{α:Type}{xs:List α}:aO1 xs=true↔xs.length<=16777000:=by simp[aO1]
theorem yK{α:Type}{xs:List α}{j:Nat}(h:j<xs.length)(d:α):xs.getD j d∈xs:=by
 rw[eV h];exact List.getElem_mem _
theorem aAn{α:Type}{xs:List α}{x:α}(h:x∈xs)(d:α):∃j,j<xs.length/\xs.getD j d=x:=by
 obtain⟨j,hj,rfl⟩:=List.mem_iff_getElem.1 h
 exact⟨j,hj,eV hj⟩
theorem yO{α:Type}{R:α->α->Prop}(tr:∀a b c,R a b->R b c->R a c)(d:α):(xs:List α)->(∀j,0<j->j<xs.length->R (xs.getD (j-1) d) (xs.getD j d))->xs.Pairwise R
 |[],_=>List.Pairwise.nil
 |[a],_=>List.pairwise_singleton _ _
 |a::b::r,h=>by
  have ih:=yO tr d (b::r) fun j h0 h1=>by
   have:=h (j+1) (by omega) (by simpa using h1)
   match j,h0 with
   |j+1,_=>exact this
  have hab:R a b:=h 1 (by omega) (by simp)
  refine List.pairwise_cons.2 ⟨fun c hc=>?_,ih⟩
  rcases List.mem_cons.1 hc with rfl|hc
  . exact hab
  . exact tr _ _ _ hab ((List.pairwise_cons.1 ih).1 c hc)
theorem aAW{α:Type}{R:α->α->Prop}{d:α}{xs:List α}(h:xs.Pairwise R){j:Nat}(h0:0<j)(h1:j<xs.length):R (xs.getD (j-1) d) (xs.getD j d):=by
 rw[eV h1,eV (show j-1<xs.length by omega)]
 exact List.pairwise_iff_getElem.1 h _ _ _ _ (by omega)
theorem aFL{x:cL}:pN x=true↔(0<=x.1/\x.1<=x.2.1/\x.2.1<=100000/\x.2.2.1.length<=80)/\(∀it∈x.2.2.1,x.1<=it.1/\it.1<x.2.1/\aF7 it=true)/\x.2.2.1.Pairwise (fun a b=>a.1<b.1):=by
 constructor
 . intro h
   simp only[pN,Zb,Za,aB,xW,wS,Bool.or_eq_true] at h
   obtain⟨⟨h1,h2⟩,h3,h4,h5⟩:=h
   rw[iV (n:=x.2.1-1) (by omega) (by omega)] at h5
   refine⟨⟨h1,h2,h3,by omega⟩,fun it hit=>?_,yO (R:=fun(a b:eO)=>a.1<b.1) (fun _ _ _=>Int.lt_trans) vZ _ fun j h0 h1=>?_⟩
   . obtain⟨j,hj,rfl⟩:=aAn hit vZ
     have:=h5 j hj
     exact⟨this.1.1,by have:=this.1.2;omega,this.2.2⟩
   . have:=(h5 j h1).2.1
     rcases this with h|h
     . omega
     . exact h
 . rintro⟨⟨h1,h2,h3,h4⟩,h5,h6⟩
   simp only[pN,Zb,Za,aB,xW,wS,Bool.or_eq_true]
   rw[iV (n:=x.2.1-1) (by omega) (by omega)]
   refine⟨⟨h1,h2⟩,h3,by omega,fun j hj=>?_⟩
   have:=h5 _ (yK hj vZ)
   refine⟨⟨this.1,by have:=this.2.1;omega⟩,?_,this.2.2⟩
   rcases Nat.eq_zero_or_pos j with h|h
   . exact .inl h
   . exact .inr (aAW h6 h hj)
theorem aAG{g:aJ}{rows:Int}:jS g rows=true↔(g.2.2.1.length=g.2.1.length/\(g.2.2.2.1.length:Int)=rows/\0<=g.1/\g.1<=100000)/\(∀m∈g.2.1,0<=m/\m<=3)/\g.2.1.Pairwise (·< ·)/\(∀b∈g.2.2.1,0<=b/\b<=100000)/\(∀o∈g.2.2.2.1,0<=o/\o<=100000):=by
 constructor
 . intro h
   simp only[jS,Zb,Za,aB,xW,yX,Bool.or_eq_true,bD,Zu,wP,gL] at h
   obtain⟨h1,h2,⟨h3,h4⟩,h5,h6,h7⟩:=h
   refine⟨⟨by omega,h2,h3,h4⟩,fun m hm=>?_,yO (R:=fun(a b:Int)=>a<b) (fun _ _ _=>Int.lt_trans) (0:Int) _ fun j j0 j1=>?_,h6,h7⟩
   . obtain⟨j,hj,rfl⟩:=aAn hm (0:Int)
     exact(h5 j hj).1
   . rcases(h5 j j1).2 with h|h
     . omega
     . exact h
 . rintro⟨⟨h1,h2,h3,h4⟩,h5,h6,h7,h8⟩
   simp only[jS,Zb,Za,aB,xW,yX,Bool.or_eq_true,bD,Zu,wP,gL]
   refine⟨by omega,h2,⟨h3,h4⟩,fun j hj=>⟨h5 _ (yK hj _),?_⟩,h7,h8⟩
   rcases Nat.eq_zero_or_pos j with h|h
   . exact .inl h
   . exact .inr (aAW h6 h hj)
theorem aJW:(l:List Int)->(a:Int)->(∀m∈l,a<=m/\m<=3)->l.Pairwise (·< ·)->l.length<=(4-a).toNat
 |[],_,_,_=>Nat.zero_le _
 |m::r,a,h,hp=>by
  have h1:=h m List.mem_cons_self
  have:=aJW r (m+1) (fun x hx=>by have:=(List.pairwise_cons.1 hp).1 x hx;have:=h x (Zo _ hx);omega) (List.pairwise_cons.1 hp).2
  simp only[Zg];omega
theorem aKw{g:aJ}{rows:Int}(h:jS g rows=true)(hr:rows<=4):oY g=true/\g.2.1.length<=4:=by
 obtain⟨⟨h1,h2,h3,h4⟩,h5,h6,h7,h8⟩:=aAG.1 h
 have:=aJW g.2.1 0 h5 h6
 rw[aIK]
 omega
def aMS(m:aK)(w:Int):Prop:=0<=m.1/\m.1<=3/\0<=m.2.1/\m.2.1<=3/\0<=m.2.2.1/\m.2.2.1<=100000/\-1<=m.2.2.2.1/\m.2.2.2.1<=100000/\(m.2.2.2.2.1.length:Int)<=w/\(m.2.2.2.2.1.length:Int)<=m.2.2.2.1+1/\(0<=m.2.2.2.1->0<m.2.2.2.2.1.length)
def aBu(m:aK)(w:Int):Prop:=aMS m w/\(∀j,j<m.2.2.2.2.1.length->(m.2.2.2.2.1.getD j nW).1=m.2.2.2.1-((m.2.2.2.2.1.length:Int)-1-j))/\(∀x∈m.2.2.2.2.1,0<=x.2.1/\x.2.1<=100000)/\m.2.2.2.2.1.Pairwise (fun a b=>a.2.1<b.2.1)
theorem aB1{xs:List eN}:(∀j,j<xs.length->aE0 xs j=true)↔xs.Pairwise (fun a b=>a.2.1<b.2.1):=by
 constructor
 . intro h
   refine yO (R:=fun(a b:eN)=>a.2.1<b.2.1) (fun _ _ _=>Int.lt_trans) nW _ fun j h0 h1=>?_
   have:=h j h1
   simp only[aE0,Bool.or_eq_true,Za] at this
   rcases this with h|h
   . omega
   . exact h
 . intro h j hj
   simp only[aE0,Bool.or_eq_true,Za]
   rcases Nat.eq_zero_or_pos j with h0|h0
   . exact .inl h0
   . exact .inr (aAW h h0 hj)
theorem uK{m:aK}{w:Int}(hw:w<=1000000):dC m w=true↔aBu m w:=by
 constructor
 . intro h
   simp only[dC,Zb,Za,aAL,aB,xW,aCV,Bool.not_eq_true',Bool.and_eq_false_iff,Zv] at h
   obtain⟨h1,h2,h3,h4,⟨h5,h6⟩,⟨h7,h8⟩,⟨h9,h10⟩,h11,h12⟩:=h
   rw[iV (n:=m.2.2.2.1+1) (by omega) (by omega)] at h3
   refine⟨⟨h5,h6,h7,h8,h9,h10,h11,h12,h2,h3,fun h=>by omega⟩,fun j hj=>?_,fun x hx=>?_,aB1.1 fun j hj=>(h1 j hj).2.2⟩
   . have:=(h1 j hj).1
     rw[iV (n:=(m.2.2.2.2.1.length:Int)-1) (by omega) (by omega),iV (n:=(m.2.2.2.2.1.length:Int)-1-j) (by omega) (by omega),iV (by omega) (by omega)] at this
     exact this
   . obtain⟨j,hj,rfl⟩:=aAn hx nW
     exact(h1 j hj).2.1
 . rintro⟨⟨h5,h6,h7,h8,h9,h10,h11,h12,h2,h3,h4⟩,k1,k2,k3⟩
   simp only[dC,Zb,Za,aAL,aB,xW,aCV,Bool.not_eq_true',Bool.and_eq_false_iff,Zv]
   rw[iV (n:=m.2.2.2.1+1) (by omega) (by omega)]
   refine⟨fun j hj=>⟨?_,k2 _ (yK hj _),aB1.2 k3 j hj⟩,h2,h3,by omega,⟨h5,h6⟩,⟨h7,h8⟩,⟨h9,h10⟩,h11,h12⟩
   rw[iV (n:=(m.2.2.2.2.1.length:Int)-1) (by omega) (by omega),iV (n:=(m.2.2.2.2.1.length:Int)-1-j) (by omega) (by omega),iV (by omega) (by omega)]
   exact k1 j hj
theorem aDa{m:aK}{w:Int}(hw:w<=1000000)(h:aBu m w):dF m w=true:=by
 obtain⟨⟨h5,h6,h7,h8,h9,h10,h11,h12,h2,h3,h4⟩,k1,k2,k3⟩:=h
 simp only[dF,Zb,Za,aAL,aB,xW,aCX]
 refine⟨⟨⟨h5,h6⟩,⟨h7,h8⟩,⟨h9,h10⟩,h11,h12⟩,h2,?_,fun j hj=>⟨?_,k2 _ (yK hj _),aB1.2 k3 j hj⟩⟩
 . by_cases e:m.2.2.2.1=-1
   . rw[Zd e,Zd (p:=(m.2.2.2.2.1.length:Int)=0) (by omega)];rfl
   . rw[decide_eq_false e,decide_eq_false (p:=(m.2.2.2.2.1.length:Int)=0) (by have:=h4 (by omega);omega)];rfl
 . rw[iV (n:=m.2.2.2.1-(m.2.2.2.2.1.length:Int)) (by omega) (by omega),iV (n:=m.2.2.2.1-(m.2.2.2.2.1.length:Int)+1) (by omega) (by omega),iV (by omega) (by omega)]
   have:=k1 j hj
   omega
def ltM(a b:aK):Prop:=a.1<b.1\/(a.1=b.1/\a.2.1<b.2.1)
theorem tS{mk:aK->Int->Bool}{s:aW}{ms:List aK}:qC (uH mk s ms) 0 ms.length=true↔(∀m∈ms,mk m s.2.1=true/\m.1<s.1)/\ms.Pairwise ltM:=by
 rw[xW]
 constructor
 . intro h
   refine⟨fun m hm=>?_,yO (R:=ltM) (fun a b c=>by unfold ltM;omega) rF _ fun j h0 h1=>?_⟩
   . obtain⟨j,hj,rfl⟩:=aAn hm rF
     have:=h j hj
     simp only[uH,Zb,Za] at this
     exact⟨this.1,this.2.1⟩
   . have:=h j h1
     simp only[uH,Zb,Bool.or_eq_true,Za,Bool.not_eq_true',Bool.and_eq_false_iff,Zv] at this
     unfold ltM
     omega
 . rintro⟨h1,h2⟩ j hj
   have ha:=h1 _ (yK hj rF)
   simp only[uH,Zb,Bool.or_eq_true,Za,Bool.not_eq_true',Bool.and_eq_false_iff,Zv]
   refine⟨ha.1,ha.2,?_⟩
   rcases Nat.eq_zero_or_pos j with h0|h0
   . exact .inl h0
   . have:=aAW (d:=rF) h2 h0 hj
     unfold ltM at this
     omega
open Classical in
noncomputable def B(p:Prop):Bool:=decide p
def aOR(s:aW)(rows:List cL)(ms:List aK):Prop:=(∀m∈ms,aBu m s.2.1/\m.1<s.1/\∀x∈m.2.2.2.2.1,x.2.1<(rows.getD m.1.toNat oR).2.1)/\ms.Pairwise ltM
def aHK(s:aW)(k:bI):Prop:=
 (dP s=true/\(k.1.length:Int)=s.1/\k.2.2.1.length=2/\k.2.2.2.2.1.length=4/\k.2.2.2.2.2.1.length=4/\0<=k.2.2.2.1/\k.2.2.2.1<=100000)/\(∀r∈k.1,pN r=true)/\(∀g∈k.2.2.1,jS g s.1=true)/\(∀d∈k.2.2.2.2.1,0<=d/\d<=100000)/\(∀a∈k.2.2.2.2.2.1,nJ a=true)/\aOR s k.1 k.2.1
theorem mD{s:aW}(h:dP s=true):1<=s.1/\s.1<=4/\1<=s.2.1/\s.2.1<=5/\1<=s.2.2.1/\s.2.2.1<=8/\0<=s.2.2.2.1/\s.2.2.2.1<=60:=by
 simp only[dP,aB,Zb,Za] at h
 omega
theorem aDx{s:aW}{k:bI}{mk:aK->Int->Bool}(hm:∀m w,w<=1000000->aBu m w->mk m w=true)(h:aHK s k):wA mk s k=true:=by
 obtain⟨⟨h0,h1,h2,h3,h4,h5,h6⟩,k1,k2,k3,k4,k5,k6⟩:=h
 have hs:=mD h0
 simp only[wA,Zb,Za,aB,bD,Zu]
 refine⟨h0,h1,by omega,⟨h5,h6⟩,by omega,k3,by omega,tS.2 ⟨fun m hm'=>⟨hm _ _ (by omega) (k5 m hm').1,(k5 m hm').2.1⟩,k6⟩,k1,k2,k4⟩
theorem aKs{s:aW}{k:bI}(h:aHK s k):bX s k=true:=aDx (fun _ _ hw h=>(uK hw).2 h) h
theorem aKC{s:aW}{k:bI}(h:aHK s k):dO s k=true:=aDx (fun _ _ hw h=>aDa hw h) h
theorem aDJ{α:Type}{f:α->Int}{n:Int}:(l:List α)->(a:Int)->(∀m∈l,a<=f m/\f m<n)->l.Pairwise (fun x y=>f x<f y)->l.length<=(n-a).toNat
 |[],_,_,_=>Nat.zero_le _
 |m::r,a,h,hp=>by
  have h1:=h m List.mem_cons_self
  have:=aDJ (f:=f) (n:=n) r (f m+1) (fun x hx=>by have h2:f m<f x:=(List.pairwise_cons.1 hp).1 x hx;have:=h x (Zo _ hx);omega) (List.pairwise_cons.1 hp).2
  simp only[Zg];omega
theorem aOq{r:cL}(h:pN r=true):aO1 r.2.2.1=true/\dI r.2.2.1=true:=by
 have:=(aFL.1 h).1.2.2.2
 rw[aLX,cC];omega
theorem not_true{b:Bool}(h:¬b=true):b=false:=by
 cases b
 . rfl
 . exact absurd rfl h
theorem aKL{s:aW}(h:dP s=true):aHK s (uD s):=by
 have hs:=mD h
 rw[show uD s=aGW s.1 from if_pos h]
 refine⟨⟨h,by show((List.replicate _ _).length:Int)=s.1;rw[List.length_replicate];omega,by rfl,by rfl,by rfl,Int.le_refl _,by show(0:Int)<=100000;omega⟩,fun r hr=>?_,fun g hg=>?_,fun d hd=>?_,fun a ha=>?_,fun m hm=>absurd hm List.not_mem_nil,List.Pairwise.nil⟩
 . rw[List.eq_of_mem_replicate hr];decide
 . rw[List.eq_of_mem_replicate hg]
   unfold pP
   rw[if_pos (by simp only[aB,Zb,Za];omega)]
   refine aAG.2 ⟨⟨rfl,by show((List.replicate _ _).length:Int)=s.1;rw[List.length_replicate];omega,by omega,by omega⟩,fun m hm=>absurd hm List.not_mem_nil,List.Pairwise.nil,fun b hb=>absurd hb List.not_mem_nil,fun o ho=>?_⟩
   rw[List.eq_of_mem_replicate ho];omega
 . rw[List.eq_of_mem_replicate hd];omega
 . rw[List.eq_of_mem_replicate ha];decide
def aJV(s:aW)(k:bI):Prop:=
 (dP s=true/\(k.1.length:Int)=s.1/\k.2.2.1.length=2/\k.2.2.2.2.1.length=4/\k.2.2.2.2.2.1.length=4/\0<=k.2.2.2.1/\k.2.2.2.1<=100000)/\(∀r∈k.1,pN r=true)/\(∀g∈k.2.2.1,jS g s.1=true)/\(∀d∈k.2.2.2.2.1,0<=d/\d<=100000)/\(∀a∈k.2.2.2.2.2.1,nJ a=true)/\(∀m∈k.2.1,aBu m s.2.1/\m.1<s.1)/\k.2.1.Pairwise ltM
theorem aKE{s:aW}{k:bI}:bX s k=true↔aJV s k:=by
 constructor
 . intro h
   simp only[bX,wA,Zb,Za,aB,bD,Zu] at h
   obtain⟨h0,h1,h2,h3,h4,h5,h6,h7,h8,h9,h10⟩:=h
   have hs:=mD h0
   have hm:=tS.1 h7
   exact⟨⟨h0,h1,by omega,by omega,by omega,h3.1,h3.2⟩,h8,h9,h5,h10,fun m hm'=>⟨(uK (by omega)).1 (hm.1 m hm').1,(hm.1 m hm').2⟩,hm.2⟩
 . rintro⟨⟨h0,h1,h2,h3,h4,h5,h6⟩,k1,k2,k3,k4,k5,k6⟩
   have hs:=mD h0
   simp only[bX,wA,Zb,Za,aB,bD,Zu]
   exact⟨h0,h1,by omega,⟨h5,h6⟩,by omega,k3,by omega,tS.2 ⟨fun m hm=>⟨(uK (by omega)).2 (k5 m hm).1,(k5 m hm).2⟩,k6⟩,k1,k2,k4⟩
theorem aMW{s:aW}{k:bI}(h:aHK s k):aJV s k:=⟨h.1,h.2.1,h.2.2.1,h.2.2.2.1,h.2.2.2.2.1,fun m hm=>⟨(h.2.2.2.2.2.1 m hm).1,(h.2.2.2.2.2.1 m hm).2.1⟩,h.2.2.2.2.2.2⟩
theorem aHV{w:Int}{ms:List aK}(h:∀m∈ms,aBu m w)(hp:ms.Pairwise ltM):ms.length<=16:=by
 have:=aDJ (f:=fun m:aK=>4*m.1+m.2.1) (n:=16) ms 0 (fun m hm=>by
  obtain⟨⟨h1,h2,h3,h4,_⟩,_⟩:=h m hm
  omega) (List.Pairwise.imp_of_mem (fun{a b} ha hb hab=>by
   obtain⟨⟨h1,h2,h3,h4,_⟩,_⟩:=h a ha
   obtain⟨⟨g1,g2,g3,g4,_⟩,_⟩:=h b hb
   unfold ltM at hab
   omega) hp)
 omega
theorem aMv{s:aW}{k:bI}(h:aJV s k):tJ k=true/\k.2.1.length<=16:=by
 obtain⟨⟨h0,h1,h2,h3,h4,h5,h6⟩,k1,k2,k3,k4,k5,k6⟩:=h
 have hs:=mD h0
 have hm:=aHV (fun m hm=>(k5 m hm).1) k6
 simp only[tJ,Zb,Zu,cC]
 refine⟨⟨by omega,fun r hr=>cC.1 (aOq (k1 r hr)).2,by omega,fun m hm=>?_,by omega,fun g hg=>(aKw (k2 g hg) hs.2.1).1,by omega,by omega⟩,hm⟩
 obtain⟨⟨⟨_,_,_,_,_,_,_,_,h2,_⟩,_⟩,_⟩:=k5 m hm
 omega
theorem aI2{b:List Int}:bQ b=true↔∀x∈b,0<=x/\x<=255:=by
 simp only[bQ,Zu,Zb,Za]
theorem aFo(t:List UInt8):bQ (fT t)=true:=by
 rw[aI2]
 intro x hx
 obtain⟨c,_,rfl⟩:=List.mem_map.1 hx
 have:=c.toNat_lt
 omega
theorem aFs{α β:Type}{a b:β}{f:β->Option α}{v:Option α}(h:a=b)(r:f b=v):letB a f=v:=by subst h;exact r
theorem qS{α:Type}{g:α->Int}{c:Int}:(xs:List α)->(∀x∈xs,g x<=c)->bJ g xs<=xs.length*c
 |[],_=>by simp[bJ]
 |a::r,h=>by
  have h1:=h a List.mem_cons_self
  have h2:=qS r fun x hx=>h x (Zo _ hx)
  have e:((r.length+1:Nat):Int)*c=r.length*c+c:=by
   rw[Int.natCast_add,Int.add_mul];simp
  simp only[bJ,Zg]
  rw[e];omega
theorem aOQ{l:List Int}(h:l.Pairwise (·< ·))(h2:∀m∈l,0<=m/\m<=3):l.length<=4:=by
 have:=aDJ (f:=fun m:Int=>m) (n:=4) l 0 (fun m hm=>by have:=h2 m hm;omega) h
 omega
section
variable {α β:Type}
def bd(f:R->R×α)(g:α->R->R×β):R->R×β:=fun s=>g (f s).2 (f s).1
def rt(x:α):R->R×α:=fun s=>(s,x)
def kW(one:β->R->R×β)(good:Bool):Nat->β->R->R×β
 |0,b,s=>(s,b)
 |n+1,b,s=>if s.2.2.1=good then kW one good n (one b s).2 (one b s).1 else(s,b)
def aAk(one:β->R->R×β):Nat->β->R->R×β
 |0,b,s=>(s,b)
 |n+1,b,s=>aAk one n (one b s).2 (one b s).1
theorem uR(one:β->R->R×β)(good:Bool)(s:R)(b:β){n i:Int}(h:¬i<n):(s,b)=kW one good (n-i).toNat b s:=by
 rw[show(n-i).toNat=0 by omega];rfl
theorem tP(one:β->R->R×β)(good:Bool)(s:R)(b:β)(n:Nat)(h:¬s.2.2.1=good):(s,b)=kW one good n b s:=by
 cases n with
 |zero=>rfl
 |succ n=>exact(if_neg h).symm
theorem aAb(one:β->R->R×β)(good:Bool)(s:R)(b:β){n i:Int}(h:i<n)(hf:s.2.2.1=good):kW one good (n-(i+1)).toNat (one b s).2 (one b s).1=kW one good (n-i).toNat b s:=by
 rw[show(n-i).toNat=(n-(i+1)).toNat+1 by omega,kW,if_pos hf]
theorem aGF(one:β->R->R×β)(s:R)(b:β){n i:Int}(h:¬i<n):(s,b)=aAk one (n-i).toNat b s:=by
 rw[show(n-i).toNat=0 by omega];rfl
theorem aJA(one:β->R->R×β)(s:R)(b:β){n i:Int}(h:i<n):aAk one (n-(i+1)).toNat (one b s).2 (one b s).1=aAk one (n-i).toNat b s:=by
 rw[show(n-i).toNat=(n-(i+1)).toNat+1 by omega,aAk]
def lp(n i:Int)(c:Nat):Bool:=decide (n<=2147483647)&&(decide (0<=i)&&decide ((c:Int)<=i+1000))
theorem aE3{n i:Int}{c:Nat}(h:lp n i c=true):n<=2147483647/\0<=i/\(c:Int)<=i+1000:=by
 simpa only[lp,Zb,Za] using h
theorem aBe{n i:Int}{c:Nat}(h:lp n i c=true)(hlt:i<n):wrap .i64 (i+1)=i+1:=by
 have:=aE3 h
 exact iV (by omega) (by omega)
theorem yJ{n i:Int}{xs:List α}(h:lp n i xs.length=true)(_:i<n)(a:α):lp n (i+1) (xs++[a]).length=true:=by
 have:=aE3 h
 simp only[lp,Zb,Za,Zf,Zg,Zh];omega
theorem aIg{n i:Int}{c:Nat}(h:lp n i c=true)(hlt:i<n):c<=4000000000:=by
 have:=aE3 h
 omega
theorem aD5{xs:List α}(h:xs.length<=4000000000)(a:α):xs.length+length (a::([]:List α))<=lT:=by
 simp only[Zg,Zh,lT];omega
theorem aCA{n i:Int}{xs:List α}(h:lp n i xs.length=true)(hlt:i<n)(a:α):xs.length+length (a::([]:List α))<=lT:=aD5 (aIg h hlt) a
theorem aBc{n i:Int}(hlt:i<n):(n-(i+1)).toNat<(n-i).toNat:=by omega
theorem yI{n:Int}{c:Nat}(h:n<=2147483647)(hc:c<=1000):lp n 0 c=true:=by
 simp only[lp,Zb,Za];omega
theorem qN{a b:Bool}(h1:a=true)(h2:b=true):(a&&b)=true:=by rw[h1,h2];rfl
end
def Inb(s:R):Prop:=bQ s.1=true/\s.1.length<=16777000/\0<=s.2.1/\s.2.1<=(s.1.length:Int)
def Adv(s t:R):Prop:=t.1=s.1/\(Inb s->Inb t/\s.2.1<=t.2.1)/\(t.2.2.1=true->s.2.2.1=true)
theorem aKD{s t u:R}(h1:Adv s t)(h2:Adv t u):Adv s u:=
 ⟨h2.1.trans h1.1,fun h=>⟨(h2.2.1 (h1.2.1 h).1).1,Int.le_trans (h1.2.1 h).2 (h2.2.1 (h1.2.1 h).1).2⟩,fun h=>h1.2.2 (h2.2.2 h)⟩
section
variable {α β:Type}
def Rk(f' f:R->R×α):Prop:=∀s,Adv s (f s).1/\(s.1.length<=16777000->f' (pC s)=(pC (f s).1,(f s).2))
def Fw(f:R->R×α):Prop:=∀s,Inb s->(f s).1.2.2.1=true->s.2.1<(f s).1.2.1
theorem aAa(x:α):Rk (rt x) (rt x):=fun _=>⟨⟨rfl,fun h=>⟨h,Int.le_refl _⟩,id⟩,fun _=>rfl⟩
variable {f' f:R->R×α} {g' g:α->R->R×β}
theorem oF(h:Rk f' f)(hg:∀a,Rk (g' a) (g a)):Rk (bd f' g') (bd f g):=fun s=>by
 obtain⟨h1,h2⟩:=h s
 obtain⟨g1,g2⟩:=hg (f s).2 (f s).1
 refine⟨aKD h1 g1,fun hl=>?_⟩
 show g' (f' (pC s)).2 (f' (pC s)).1=_
 rw[h2 hl]
 exact g2 (by rw[h1.1];exact hl)
theorem aF5(h:Fw f)(hk:Rk f' f)(hg:∀a,Rk (g' a) (g a)):Fw (bd f g):=fun s hs ht=>by
 obtain⟨h1,_⟩:=hk s
 obtain⟨g1,_⟩:=hg (f s).2 (f s).1
 exact Int.lt_of_lt_of_le (h s hs (g1.2.2 ht)) (g1.2.1 (h1.2.1 hs).1).2
end
section
variable {β:Type} {one' one:β->R->R×β}
theorem aLn(h:∀b,Rk (one' b) (one b)):(n:Nat)->(b:β)->Rk (kW one' false n b) (kW one true n b)
 |0,b=>fun s=>aAa b s
 |n+1,b=>fun s=>by
  by_cases hf:s.2.2.1=true
  . have e1:kW one true (n+1) b s=bd (one b) (kW one true n) s:=if_pos hf
    have e2:kW one' false (n+1) b (pC s)=bd (one' b) (kW one' false n) (pC s):=if_pos (by simp[pC,hf])
    rw[e1,e2]
    exact oF (h b) (aLn h n) s
  . have e1:kW one true (n+1) b s=rt b s:=if_neg hf
    have e2:kW one' false (n+1) b (pC s)=rt b (pC s):=if_neg (by simpa [pC] using hf)
    rw[e1,e2]
    exact aAa b s
theorem aJM(h:∀b,Rk (one' b) (one b)):(n:Nat)->(b:β)->Rk (aAk one' n b) (aAk one n b)
 |0,b=>fun s=>aAa b s
 |n+1,b=>fun s=>oF (h b) (aJM h n) s
theorem aIm{good:Bool}{P:β->Prop}(hp:∀b s,P b->P (one b s).2):(n:Nat)->(b:β)->(s:R)->P b->P (kW one good n b s).2
 |0,_,_,h=>h
 |n+1,b,s,h=>by
  by_cases hf:s.2.2.1=good
  . rw[show kW one good (n+1) b s=kW one good n (one b s).2 (one b s).1 from if_pos hf]
    exact aIm hp n _ _ (hp b s h)
  . rw[show kW one good (n+1) b s=(s,b) from if_neg hf]
    exact h
theorem aGR{P:β->Prop}(hp:∀b s,P b->P (one b s).2):(n:Nat)->(b:β)->(s:R)->P b->P (aAk one n b s).2
 |0,_,_,h=>h
 |n+1,b,s,h=>aGR hp n _ _ (hp b s h)
theorem aDw{c:β->Nat}(hc:∀b s,c (one b s).2<=c b+1):(n:Nat)->(b:β)->(s:R)->c (aAk one n b s).2<=c b+n
 |0,_,_=>Nat.le_refl _
 |n+1,b,s=>by
  have h1:=hc b s
  have h2:=aDw hc n (one b s).2 (one b s).1
  rw[aAk];omega
theorem aHr(hk:∀b,Rk (one' b) (one b)){P:β->Prop}(hp:∀b s,Inb s->P b->P (one b s).2):(n:Nat)->(b:β)->(s:R)->Inb s->P b->P (kW one true n b s).2
 |0,_,_,_,h=>h
 |n+1,b,s,hi,h=>by
  by_cases hf:s.2.2.1=true
  . rw[show kW one true (n+1) b s=kW one true n (one b s).2 (one b s).1 from if_pos hf]
    exact aHr hk hp n _ _ ((hk b s).1.2.1 hi).1 (hp b s hi h)
  . rw[show kW one true (n+1) b s=(s,b) from if_neg hf]
    exact h
theorem aHZ(hk:∀b,Rk (one' b) (one b))(hw:∀b,Fw (one b)){c:β->Nat}(hc:∀b s,c (one b s).2<=c b+1):(n:Nat)->(b:β)->(s:R)->Inb s->(c (kW one true n b s).2:Int)<=c b+((s.1.length:Int)-s.2.1)+1
 |0,b,s,h=>by
  have:=h.2.2.2
  show(c b:Int)<=_
  omega
 |n+1,b,s,h=>by
  have h4:=h.2.2.2
  by_cases hf:s.2.2.1=true
  . rw[show kW one true (n+1) b s=kW one true n (one b s).2 (one b s).1 from if_pos hf]
    have h1:=hc b s
    obtain⟨a1,a2,a3⟩:=(hk b s).1
    obtain⟨i1,i2⟩:=a2 h
    by_cases hg:(one b s).1.2.2.1=true
    . have:=aHZ hk hw hc n (one b s).2 (one b s).1 i1
      have h2:=hw b s h hg
      rw[a1] at this
      omega
    . rw[<-tP one true (one b s).1 (one b s).2 n hg]
      show(c (one b s).2:Int)<=_
      omega
  . rw[show kW one true (n+1) b s=(s,b) from if_neg hf]
    show(c b:Int)<=_
    omega
end
theorem wC(s:R):Adv s (aA s).1/\(Inb s->(aA s).1.2.2.1=true->s.2.1<(aA s).1.2.1):=by
 unfold aA aEo
 split
 . rename_i h
   refine⟨⟨rfl,fun hs=>?_,fun _=>h.1⟩,fun hs _=>?_⟩
   . obtain⟨g0,g1,g2,g3,g4,g5⟩:=nG hs.1 h.2
     exact⟨⟨hs.1,hs.2.1,by show 0<=(dM s.1 s.2.1).2.1;omega,g4⟩,by show s.2.1<=(dM s.1 s.2.1).2.1;omega⟩
   . obtain⟨g0,g1,g2,g3,g4,g5⟩:=nG hs.1 h.2
     exact g3
 . exact⟨⟨rfl,fun hs=>⟨hs,Int.le_refl _⟩,fun h=>absurd h Bool.false_ne_true⟩,fun _ h=>absurd h Bool.false_ne_true⟩
theorem mY:Rk aC aA:=fun s=>⟨(wC s).1,fun h=>aC5 (by omega)⟩
theorem aFX:Fw aA:=fun s=>(wC s).2
theorem aFU:Rk aV aP:=fun s=>by
 refine⟨?_,fun h=>aEP (by omega)⟩
 unfold aP aDG
 split
 case isFalse=>exact⟨rfl,fun hs=>⟨hs,Int.le_refl _⟩,fun h=>absurd h Bool.false_ne_true⟩
 rename_i h
 refine⟨rfl,fun hs=>?_,fun _=>h.1⟩
 obtain⟨_,h⟩:=h
 unfold aDo at *
 by_cases hn:(dM s.1 s.2.1).2.2=true
 case neg=>rw[if_neg hn] at h;cases h
 rw[if_pos hn] at *
 obtain⟨g0,g1,g2,g3,g4,g5⟩:=nG hs.1 hn
 by_cases hl:(s.1.length:Int)-(dM s.1 s.2.1).2.1<(dM s.1 s.2.1).1
 . rw[if_pos hl] at h;cases h
 rw[if_neg hl]
 exact⟨⟨hs.1,hs.2.1,by show 0<=(dM s.1 s.2.1).2.1+(dM s.1 s.2.1).1;omega,by show(dM s.1 s.2.1).2.1+(dM s.1 s.2.1).1<=(s.1.length:Int);omega⟩,by show s.2.1<=(dM s.1 s.2.1).2.1+(dM s.1 s.2.1).1;omega⟩
section
variable (num:R->R×Int) (txt:R->R×List UInt8) (good:Bool)
def gS{β:Type}(one:β->R->R×β)(b:β):R->R×β:=bd num fun n=>kW one good (n-0).toNat b
def aJy:R->R×eO:=bd num fun a=>bd txt fun b=>bd txt fun c=>bd num fun d=>bd num fun e=>rt (a,(b,(c,(d,(e,())))))
def qA(x:cL):R->R×cL:=bd (aJy num txt) fun e=>rt (x.1,(x.2.1,(x.2.2.1++[e],x.2.2.2)))
def aJt:R->R×cL:=bd num fun a=>bd num fun b=>gS num good (qA num txt) (a,(b,([],())))
def qB(m:aK):R->R×aK:=bd num fun a=>bd num fun b=>rt (m.1,(m.2.1,(m.2.2.1,(m.2.2.2.1,(m.2.2.2.2.1++[(a,(b,()))],m.2.2.2.2.2)))))
def aAP:R->R×aK:=bd num fun a=>bd num fun b=>bd num fun c=>bd num fun d=>gS num good (qB num) (a,(b,(c,(wrap .i64 (d-1),([],())))))
def nU(g:aJ):R->R×aJ:=bd num fun a=>bd num fun b=>rt (g.1,(g.2.1++[a],(g.2.2.1++[b],g.2.2.2)))
def uS(g:aJ):R->R×aJ:=bd num fun a=>rt (g.1,(g.2.1,(g.2.2.1,(g.2.2.2.1++[a],g.2.2.2.2))))
def aBo(rows:Int):R->R×aJ:=bd num fun a=>bd (gS num good (nU num) (a,([],([],([],()))))) fun g=>aAk (uS num) (rows-0).toNat g
def lX(k:bI):R->R×bI:=bd (aJt num txt good) fun r=>rt (k.1++[r],k.2)
def gR(k:bI):R->R×bI:=bd (aAP num good) fun m=>rt (k.1,(k.2.1++[m],k.2.2))
def fZ(rows:Int)(k:bI):R->R×bI:=bd (aBo num good rows) fun g=>rt (k.1,(k.2.1,(k.2.2.1++[g],k.2.2.2)))
def qU(k:bI):R->R×bI:=bd num fun a=>bd num fun b=>bd num fun c=>bd txt fun d=>bd txt fun e=>
 rt (k.1,(k.2.1,(k.2.2.1,(k.2.2.2.1,(k.2.2.2.2.1++[a],(k.2.2.2.2.2.1++[(b,(wrap .i64 (c-1),(d,(e,()))))],k.2.2.2.2.2.2))))))
def aCH(k:bI):R->R×bI:=bd num fun t=>aAk (qU num txt) (4-0:Int).toNat (k.1,(k.2.1,(k.2.2.1,(t,k.2.2.2.2))))
def aF1(rows:Int)(k:bI):R->R×bI:=bd (gS num good (fZ num good rows) k) (aCH num txt)
def aEm(rows:Int)(k:bI):R->R×bI:=bd (gS num good (gR num good) k) (aF1 num txt good rows)
def aEu(rows:Int):R->R×bI:=bd (gS num good (lX num txt good) mN) (aEm num txt good rows)
end
theorem tR{β:Type}{one' one:β->R->R×β}(h:∀b,Rk (one' b) (one b))(b:β):Rk (gS aC false one' b) (gS aA true one b):=oF mY fun _=>aLn h _ b
theorem aLe:Rk (aJy aC aV) (aJy aA aP):=oF mY fun _=>oF aFU fun _=>oF aFU fun _=>oF mY fun _=>oF mY fun _=>aAa _
theorem aNW:Fw (aJy aA aP):=aF5 aFX mY fun _=>oF aFU fun _=>oF aFU fun _=>oF mY fun _=>oF mY fun _=>aAa _
theorem aCM(x:cL):Rk (qA aC aV x) (qA aA aP x):=oF aLe fun _=>aAa _
theorem aKo(x:cL):Fw (qA aA aP x):=aF5 aNW aLe fun _=>aAa _
theorem aNk:Rk (aJt aC aV false) (aJt aA aP true):=oF mY fun _=>oF mY fun _=>tR aCM _
theorem aOf:Fw (aJt aA aP true):=aF5 aFX mY fun _=>oF mY fun _=>tR aCM _
theorem aAY(m:aK):Rk (qB aC m) (qB aA m):=oF mY fun _=>oF mY fun _=>aAa _
theorem aKN(m:aK):Fw (qB aA m):=aF5 aFX mY fun _=>oF mY fun _=>aAa _
theorem aJI:Rk (aAP aC false) (aAP aA true):=oF mY fun _=>oF mY fun _=>oF mY fun _=>oF mY fun _=>tR aAY _
theorem aNf:Fw (aAP aA true):=aF5 aFX mY fun _=>oF mY fun _=>oF mY fun _=>oF mY fun _=>tR aAY _
theorem aC1(g:aJ):Rk (nU aC g) (nU aA g):=oF mY fun _=>oF mY fun _=>aAa _
theorem aI9(g:aJ):Fw (nU aA g):=aF5 aFX mY fun _=>oF mY fun _=>aAa _
theorem aI5(g:aJ):Rk (uS aC g) (uS aA g):=oF mY fun _=>aAa _
theorem aJD(rows:Int):Rk (aBo aC false rows) (aBo aA true rows):=oF mY fun _=>oF (tR aC1 _) fun _=>aJM aI5 _ _
theorem aNc(rows:Int):Fw (aBo aA true rows):=aF5 aFX mY fun _=>oF (tR aC1 _) fun _=>aJM aI5 _ _
theorem aAI(k:bI):Rk (lX aC aV false k) (lX aA aP true k):=oF aNk fun _=>aAa _
theorem aM2(k:bI):Fw (lX aA aP true k):=aF5 aOf aNk fun _=>aAa _
theorem wD(k:bI):Rk (gR aC false k) (gR aA true k):=oF aJI fun _=>aAa _
theorem aJn(k:bI):Fw (gR aA true k):=aF5 aNf aJI fun _=>aAa _
theorem aBv(rows:Int)(k:bI):Rk (fZ aC false rows k) (fZ aA true rows k):=oF (aJD rows) fun _=>aAa _
theorem aJf(rows:Int)(k:bI):Fw (fZ aA true rows k):=aF5 (aNc rows) (aJD rows) fun _=>aAa _
theorem aKP(k:bI):Rk (qU aC aV k) (qU aA aP k):=oF mY fun _=>oF mY fun _=>oF mY fun _=>oF aFU fun _=>oF aFU fun _=>aAa _
theorem aNJ(rows:Int):Rk (aEu aC aV false rows) (aEu aA aP true rows):=
 oF (tR aAI _) fun _=>oF (tR wD _) fun _=>oF (tR (aBv rows) _) fun _=>oF mY fun _=>aJM aKP _ _
section
variable {β:Type} {one' one:β->R->R×β}
theorem wB(hk:∀b,Rk (one' b) (one b))(hw:∀b,Fw (one b)){c:β->Nat}(hc:∀b s,c (one b s).2<=c b+1)(b:β)(s:R)(hs:Inb s):c (gS aA true one b s).2<=c b+16777001:=by
 have h1:=((wC s).1.2.1 hs).1
 have:=aHZ hk hw hc ((aA s).2-0).toNat b (aA s).1 h1
 show c (kW one true ((aA s).2-0).toNat b (aA s).1).2<=_
 obtain⟨_,h2,h3,_⟩:=h1
 omega
theorem aCd(hk:∀b,Rk (one' b) (one b)){P:β->Prop}(hp:∀b s,Inb s->P b->P (one b s).2)(b:β)(s:R)(hs:Inb s)(h:P b):P (gS aA true one b s).2:=
 aHr hk hp _ b _ ((wC s).1.2.1 hs).1 h
theorem sP{num:R->R×Int}{good:Bool}{P:β->Prop}(hp:∀b s,P b->P (one b s).2)(b:β)(s:R)(h:P b):P (gS num good one b s).2:=aIm hp _ b _ h
end
theorem aFu{α:Type}(xs:List α)(a:α):(xs++[a]).length<=xs.length+1:=by simp
theorem aOy{s:R}(h:Inb s):dI (aJt aA aP true s).2.2.2.1=true:=by
 have h1:=((wC s).1.2.1 h).1
 have h2:=((wC (aA s).1).1.2.1 h1).1
 have:=wB aCM aKo (c:=fun x:cL=>x.2.2.1.length) (fun b s=>aFu _ _) ((aA s).2,((aA (aA s).1).2,([],()))) (aA (aA s).1).1 h2
 exact cC.2 (Nat.le_trans this (by show 0+16777001<=16777216;decide))
theorem aME{s:R}(h:Inb s):dI (aAP aA true s).2.2.2.2.2.1=true/\∀x∈(aAP aA true s).2.2.2.2.2.1,0<=x.1:=by
 have h1:=((wC s).1.2.1 h).1
 have h2:=((wC (aA s).1).1.2.1 h1).1
 have h3:=((wC (aA (aA s).1).1).1.2.1 h2).1
 have h4:=((wC (aA (aA (aA s).1).1).1).1.2.1 h3).1
 refine⟨cC.2 (Nat.le_trans (wB aAY aKN (c:=fun x:aK=>x.2.2.2.2.1.length) (fun b s=>aFu _ _) _ _ h4) (by show 0+16777001<=16777216;decide)),?_⟩
 refine aCd aAY (P:=fun x:aK=>∀y∈x.2.2.2.2.1,0<=y.1) (fun b s hs hb y hy=>?_) _ _ h4 (fun y hy=>absurd hy List.not_mem_nil)
 rcases Zp.1 hy with hy|hy
 . exact hb y hy
 . rw[Zq.1 hy]
   exact(kF hs.1).1
theorem aMp{s:R}{rows:Int}(hr:rows<=1000)(h:Inb s):oY (aBo aA true rows s).2=true:=by
 have h1:=((wC s).1.2.1 h).1
 have c1:=wB aC1 aI9 (c:=fun g:aJ=>g.2.1.length) (fun b s=>aFu _ _) ((aA s).2,([],([],([],())))) (aA s).1 h1
 have c2:=wB aC1 aI9 (c:=fun g:aJ=>g.2.2.1.length) (fun b s=>aFu _ _) ((aA s).2,([],([],([],())))) (aA s).1 h1
 have c3:=sP (num:=aA) (good:=true) (one:=nU aA) (P:=fun g:aJ=>g.2.2.2.1=[]) (fun _ _ h=>h) ((aA s).2,([],([],([],())))) (aA s).1 rfl
 show oY (aAk (uS aA) (rows-0).toNat (gS aA true (nU aA) ((aA s).2,([],([],([],())))) (aA s).1).2 (gS aA true (nU aA) ((aA s).2,([],([],([],())))) (aA s).1).1).2=true
 generalize gS aA true (nU aA) ((aA s).2,([],([],([],())))) (aA s).1=v at *
 have d1:=aGR (one:=uS aA) (P:=fun g:aJ=>g.2.1=v.2.2.1/\g.2.2.1=v.2.2.2.1) (fun _ _ h=>h) (rows-0).toNat v.2 v.1 ⟨rfl,rfl⟩
 have d2:=aDw (one:=uS aA) (c:=fun g:aJ=>g.2.2.2.1.length) (fun b s=>aFu _ _) (rows-0).toNat v.2 v.1
 simp only[c3,Zh] at d2
 simp only[oY,Zb,cC,d1.1,d1.2]
 simp only[Zh] at c1 c2
 exact⟨by omega,by omega,by omega⟩
theorem aNZ{s:R}{rows:Int}(hr:rows<=1000)(h:Inb s):tJ (aEu aA aP true rows s).2=true/\∀m∈(aEu aA aP true rows s).2.2.1,∀x∈m.2.2.2.2.1,0<=x.1:=by
 have a1:=wB aAI aM2 (c:=fun k:bI=>k.1.length) (fun b s=>aFu _ _) mN s h
 have a2:=aCd aAI (P:=fun k:bI=>(∀r∈k.1,dI r.2.2.1=true)/\k.2=mN.2) (fun b t ht hb=>⟨fun r hr=>by
  rcases Zp.1 hr with hr|hr
  . exact hb.1 r hr
  . rw[Zq.1 hr];exact aOy ht,hb.2⟩) mN s h ⟨fun r hr=>absurd hr List.not_mem_nil,rfl⟩
 have a3:=((tR aAI mN s).1.2.1 h).1
 unfold aEu bd
 generalize gS aA true (lX aA aP true) mN s=v1 at *
 have b1:=wB wD aJn (c:=fun k:bI=>k.2.1.length) (fun b s=>aFu _ _) v1.2 v1.1 a3
 have b2:=aCd wD (P:=fun k:bI=>k.1=v1.2.1/\(∀m∈k.2.1,dI m.2.2.2.2.1=true/\∀x∈m.2.2.2.2.1,0<=x.1)/\k.2.2=mN.2.2) (fun b t ht hb=>⟨hb.1,fun r hr=>by
  rcases Zp.1 hr with hr|hr
  . exact hb.2.1 r hr
  . rw[Zq.1 hr];exact aME ht,hb.2.2⟩) v1.2 v1.1 a3 ⟨rfl,fun r hr=>by rw[a2.2] at hr;exact absurd hr List.not_mem_nil,by rw[a2.2]⟩
 have b3:=((tR wD v1.2 v1.1).1.2.1 a3).1
 unfold aEm bd
 rw[a2.2] at b1
 generalize gS aA true (gR aA true) v1.2 v1.1=v2 at *
 have c1:=wB (aBv rows) (aJf rows) (c:=fun k:bI=>k.2.2.1.length) (fun b s=>aFu _ _) v2.2 v2.1 b3
 have c2:=aCd (aBv rows) (P:=fun k:bI=>k.1=v2.2.1/\k.2.1=v2.2.2.1/\(∀g∈k.2.2.1,oY g=true)/\k.2.2.2=mN.2.2.2) (fun b t ht hb=>⟨hb.1,hb.2.1,fun r hr0=>by
  rcases Zp.1 hr0 with hr'|hr'
  . exact hb.2.2.1 r hr'
  . rw[Zq.1 hr'];exact aMp hr ht,hb.2.2.2⟩) v2.2 v2.1 b3 ⟨rfl,rfl,fun r hr=>by rw[b2.2.2] at hr;exact absurd hr List.not_mem_nil,by rw[b2.2.2]⟩
 rw[b2.2.2] at c1
 unfold aF1 bd
 generalize gS aA true (fZ aA true rows) v2.2 v2.1=v3 at *
 simp only[aCH,bd]
 generalize (aA v3.1).2=t
 have d1:=aGR (one:=qU aA aP) (P:=fun k:bI=>k.1=v3.2.1/\k.2.1=v3.2.2.1/\k.2.2.1=v3.2.2.2.1) (fun _ _ h=>h) (4-0:Int).toNat (v3.2.1,(v3.2.2.1,(v3.2.2.2.1,(t,v3.2.2.2.2.2)))) (aA v3.1).1 ⟨rfl,rfl,rfl⟩
 have d2:=aDw (one:=qU aA aP) (c:=fun k:bI=>k.2.2.2.2.1.length) (fun b s=>aFu _ _) (4-0:Int).toNat (v3.2.1,(v3.2.2.1,(v3.2.2.2.1,(t,v3.2.2.2.2.2)))) (aA v3.1).1
 have d3:=aDw (one:=qU aA aP) (c:=fun k:bI=>k.2.2.2.2.2.1.length) (fun b s=>aFu _ _) (4-0:Int).toNat (v3.2.1,(v3.2.2.1,(v3.2.2.2.1,(t,v3.2.2.2.2.2)))) (aA v3.1).1
 have z1:v3.2.2.2.2.2=mN.2.2.2.2:=congrArg Prod.snd c2.2.2.2
 have z2:v3.2.2.2.2.2.1.length=0:=by rw[z1];rfl
 have z3:v3.2.2.2.2.2.2.1.length=0:=by rw[z1];rfl
 simp only[z2,z3] at d2 d3
 generalize aAk (qU aA aP) (4-0:Int).toNat (v3.2.1,(v3.2.2.1,(v3.2.2.2.1,(t,v3.2.2.2.2.2)))) (aA v3.1).1=w at *
 obtain⟨d4,d5,d6⟩:=d1
 rw[c2.1,b2.1] at d4
 rw[c2.2.1] at d5
 rw[d5]
 refine⟨?_,fun m hm=>(b2.2.1 m hm).2⟩
 simp only[tJ,Zb,Zu,d4,d5,d6,cC]
 exact⟨Nat.le_trans a1 (by decide),fun r hr=>cC.1 (a2.1 r hr),Nat.le_trans b1 (by decide),fun m hm=>cC.1 (b2.2.1 m hm).1,Nat.le_trans c1 (by decide),c2.2.2.1,Nat.le_trans d2 (by decide),Nat.le_trans d3 (by decide)⟩
def lY(s:R):R×cL:=aJt aA aP true s
namespace lY
abbrev S6:Type:=(Int×(Int×(jT×(Int×(Int×(Unit×((List eO)×aHJ)))))))
abbrev O6:Type:=(jT×(Int×(Int×(Unit×((List eO)×aHJ)))))
def F6(x4:Int)(x5:Int)(x6:Unit)(x7:List eO)(v:R×cL):O6:=(v.1,(x4,(x5,(x6,(x7,(v.2.1,(v.2.2.1,(v.2.2.2.2,(v.2.2.2.1,())))))))))
def pre6:S6->Bool:=fun(x1,x2,_,_,_,_,_,_,_,_,x11,_)=>lp x1 x2 x11.length
def fn6:S6->O6:=fun(x1,x2,x3,x4,x5,x6,x7,x8,x9,x10,x11,_)=>F6 x4 x5 x6 x7 (kW (qA aA aP) true (x1-x2).toNat (x8,(x9,(x11,x10))) x3)
def mu6:S6->Nat:=fun(x1,x2,_,_,_,_,_,_,_,_,_,_)=>(x1-x2).toNat
noncomputable def aNF(x1:Int)(x2:Int)(x3:jT)(x4:Int)(x5:Int)(x6:Unit)(x7:(List eO))(x8:Int)(x9:Int)(x10:Unit)(x11:(List eO)):Option ((Int×(Int×(jT×(Int×(Int×(Unit×((List eO)×aHJ)))))))⊕(jT×(Int×(Int×(Unit×((List eO)×aHJ)))))):=
 if(decide (x2<x1))=true then
 if x3.2.2.1=true then
 letB (aA x3) fun v1=>
 letB (aP v1.1) fun v2=>
 letB (aP v2.1) fun v3=>
 letB (aA v3.1) fun v4=>
 letB (aA v4.1) fun v5=>
 if(decide (length x11+length ((v1.2,(v2.2,(v3.2,(v4.2,(v5.2,())))))::([]:List eO))<=lT))=true then
 some (.inl (x1,((wrap .i64 (x2+(1:Int))),(v5.1,(x4,(x5,(x6,(x7,(x8,(x9,(x10,((List.append x11 ((v1.2,(v2.2,(v3.2,(v4.2,(v5.2,())))))::([]:List eO))),()))))))))))))
 else
 none
 else
 some (.inr (x3,(x4,(x5,(x6,(x7,(x8,(x9,(x10,(x11,()))))))))))
 else
 some (.inr (x3,(x4,(x5,(x6,(x7,(x8,(x9,(x10,(x11,()))))))))))
abbrev wf(x0:jT):Prop:=fW [(.ref oS .f)] (x0,())
noncomputable def aR(x0:jT):Option ((jT×Unit)×(cL×Unit)):=
 letB (aA x0) fun v1=>
 letB (aA v1.1) fun v2=>
 letB (aA v2.1) fun v3=>
 if(lY.pre6 (v3.2,((0:Int),(v3.1,((0:Int),((0:Int),((),(([]:List eO),(v1.2,(v2.2,((),(([]:List eO),()))))))))))))=true then
 letB (lY.fn6 (v3.2,((0:Int),(v3.1,((0:Int),((0:Int),((),(([]:List eO),(v1.2,(v2.2,((),(([]:List eO),())))))))))))) fun v4=>
 some ((v4.1,()),((v4.2.2.2.2.2.1,(v4.2.2.2.2.2.2.1,(v4.2.2.2.2.2.2.2.2.1,v4.2.2.2.2.2.2.2.1))),()))
 else
 none
theorem ok6(x1 x2 x3 x4 x5 x6 x7 x8 x9 x10 x11)(hp:pre6 (x1,(x2,(x3,(x4,(x5,(x6,(x7,(x8,(x9,(x10,(x11,())))))))))))=true):Rounds pre6 mu6 fn6 (x1,(x2,(x3,(x4,(x5,(x6,(x7,(x8,(x9,(x10,(x11,()))))))))))) (aNF x1 x2 x3 x4 x5 x6 x7 x8 x9 x10 x11):=by
 have h1:lp x1 x2 x11.length=true:=hp
 unfold aNF
 by_cases hlt:x2<x1
 case neg=>exact jC (by rw[Za];exact hlt) (congrArg (F6 x4 x5 x6 x7) (uR (qA aA aP) true x3 (x8,(x9,(x11,x10))) hlt))
 by_cases hf:x3.2.2.1=true
 case neg=>exact fO (Zd hlt) (jC hf (congrArg (F6 x4 x5 x6 x7) (tP (qA aA aP) true x3 (x8,(x9,(x11,x10))) _ hf)))
 rw[aBe h1 hlt]
 exact fO (Zd hlt) (fO hf (lV (lV (lV (lV (lV (fO (Zd (aCA h1 hlt _)) ⟨yJ h1 hlt _,aBc hlt,congrArg (F6 x4 x5 x6 x7) (aAb (qA aA aP) true x3 (x8,(x9,(x11,x10))) hlt hf)⟩)))))))
theorem eq(x0:R)(hw:wf x0):aR x0=some (((lY x0).1,()),((lY x0).2,())):=by
 have hb:bQ x0.1=true:=gN hw.1.1.2
 have hn:=kF (s:=(aA (aA x0).1).1) (by simp only[cI];exact hb)
 unfold aR
 exact cU (cU (cU (dS (show pre6 _=true from yI hn.2 (Nat.zero_le _)) (cU rfl))))
end lY
def yA(s:R)(x:cL):R×cL:=qA aC aV x s
namespace yA
def pre(_:R)(x:cL):Bool:=decide (x.2.2.1.length<=4000000000)
abbrev wf(x0:jT)(x1:cL):Prop:=fW [(.cell 1 oS),(.ref oS .f),(.ref aAj .o)] (x0,(x1,()))
noncomputable def aR(x0:jT)(x1:cL):Option ((jT×(cL×Unit))×Unit):=
 letB (aC x0) fun v1=>
 letB (aV v1.1) fun v2=>
 letB (aV v2.1) fun v3=>
 letB (aC v3.1) fun v4=>
 letB (aC v4.1) fun v5=>
 if(decide (length x1.2.2.1+length ((v1.2,(v2.2,(v3.2,(v4.2,(v5.2,())))))::([]:List eO))<=lT))=true then
 some ((v5.1,((x1.1,(x1.2.1,((List.append x1.2.2.1 ((v1.2,(v2.2,(v3.2,(v4.2,(v5.2,())))))::([]:List eO))),x1.2.2.2))),())),())
 else
 none
theorem eq(x0:R)(x1:cL)(_:wf x0 x1)(hp:pre x0 x1=true):aR x0 x1=some (((yA x0 x1).1,((yA x0 x1).2,())),()):=by
 unfold aR
 exact cU (cU (cU (cU (cU (dS (Zd (aD5 (Ze hp) _)) rfl)))))
end yA
def jU(s:R)(x:cL):R×cL:=gS aC false (qA aC aV) x s
namespace jU
abbrev S2:Type:=(Int×(Int×(jT×aHJ)))
abbrev O2:Type:=(jT×aHJ)
def pre(_:R)(x:cL):Bool:=decide (x.2.2.1.length<=1000)
def F2(v:R×cL):O2:=(v.1,(v.2.1,(v.2.2.1,(v.2.2.2.2,(v.2.2.2.1,())))))
def pre2:S2->Bool:=fun(x1,x2,_,_,_,_,x7,_)=>lp x1 x2 x7.length
def fn2:S2->O2:=fun(x1,x2,x3,x4,x5,x6,x7,_)=>F2 (kW (qA aC aV) false (x1-x2).toNat (x4,(x5,(x7,x6))) x3)
def kY:S2->Nat:=fun(x1,x2,_,_,_,_,_,_)=>(x1-x2).toNat
noncomputable def cW(x1:Int)(x2:Int)(x3:jT)(x4:Int)(x5:Int)(x6:Unit)(x7:(List eO)):Option ((Int×(Int×(jT×aHJ)))⊕(jT×aHJ)):=
 if(decide (x2<x1))=true then
 if(!x3.2.2.1)=true then
 if(yA.pre x3 (x4,(x5,(x7,x6))))=true then
 letB (yA x3 (x4,(x5,(x7,x6)))) fun v1=>
 some (.inl (x1,((wrap .i64 (x2+(1:Int))),(v1.1,(v1.2.1,(v1.2.2.1,(v1.2.2.2.2,v1.2.2.2)))))))
 else
 none
 else
 some (.inr (x3,(x4,(x5,(x6,(x7,()))))))
 else
 some (.inr (x3,(x4,(x5,(x6,(x7,()))))))
abbrev wf(x0:jT)(x1:cL):Prop:=fW [(.ref oS .f),(.cell 0 oS),(.ref aAj .o)] (x0,(x1,()))
noncomputable def aR(x0:jT)(x1:cL):Option ((jT×(cL×Unit))×Unit):=
 letB (aC x0) fun v1=>
 if(jU.pre2 (v1.2,((0:Int),(v1.1,(x1.1,(x1.2.1,(x1.2.2.2,x1.2.2)))))))=true then
 letB (jU.fn2 (v1.2,((0:Int),(v1.1,(x1.1,(x1.2.1,(x1.2.2.2,x1.2.2))))))) fun v2=>
 some ((v2.1,((v2.2.1,(v2.2.2.1,(v2.2.2.2.2.1,v2.2.2.2.1))),())),())
 else
 none
theorem qO(x1 x2 x3 x4 x5 x6 x7)(hp:pre2 (x1,(x2,(x3,(x4,(x5,(x6,(x7,())))))))=true):Rounds pre2 kY fn2 (x1,(x2,(x3,(x4,(x5,(x6,(x7,()))))))) (cW x1 x2 x3 x4 x5 x6 x7):=by
 have h1:lp x1 x2 x7.length=true:=hp
 unfold cW
 by_cases hlt:x2<x1
 case neg=>exact jC (by rw[Za];exact hlt) (congrArg (F2) (uR (qA aC aV) false x3 (x4,(x5,(x7,x6))) hlt))
 by_cases hf:x3.2.2.1=false
 case neg=>exact fO (Zd hlt) (jC (by simpa using hf) (congrArg (F2) (tP (qA aC aV) false x3 (x4,(x5,(x7,x6))) _ hf)))
 rw[aBe h1 hlt]
 exact fO (Zd hlt) (fO (by rw[hf];rfl) (fO (Zd (aIg h1 hlt)) (lV ⟨yJ h1 hlt _,aBc hlt,congrArg (F2) (aAb (qA aC aV) false x3 (x4,(x5,(x7,x6))) hlt hf)⟩)))
theorem eq(x0:R)(x1:cL)(hw:wf x0 x1)(hp:pre x0 x1=true):aR x0 x1=some (((jU x0 x1).1,((jU x0 x1).2,())),()):=by
 have hn:=oO (s:=x0) (gN hw.1.1.2)
 unfold aR
 exact cU (dS (show pre2 _=true from yI hn.2 (Ze hp)) (cU rfl))
end jU
def nX(s:R):R×cL:=aJt aC aV false s
namespace nX
abbrev wf(x0:jT):Prop:=fW [(.ref oS .f)] (x0,())
noncomputable def aR(x0:jT):Option ((jT×Unit)×(cL×Unit)):=
 letB (aC x0) fun v1=>
 letB (aC v1.1) fun v2=>
 if(jU.pre v2.1 (v1.2,(v2.2,(([]:List eO),()))))=true then
 letB (jU v2.1 (v1.2,(v2.2,(([]:List eO),())))) fun v3=>
 some ((v3.1,()),(v3.2,()))
 else
 none
theorem eq(x0:R)(_:wf x0):aR x0=some (((nX x0).1,()),((nX x0).2,())):=by
 unfold aR
 exact cU (cU (dS (show jU.pre _ _=true from rfl) (cU rfl)))
end nX
def jP(s:R):R×aK:=aAP aA true s
namespace jP
abbrev S8:Type:=(Int×(Int×aMO))
abbrev O8:Type:=aMO
def F8(x4:Int)(x5:Int)(x6:Int)(x7:Int)(x8:Unit)(x9:List eN)(v:R×aK):O8:=(v.1,(x4,(x5,(x6,(x7,(x8,(x9,(v.2.1,(v.2.2.1,(v.2.2.2.1,(v.2.2.2.2.1,(v.2.2.2.2.2.2,(v.2.2.2.2.2.1,())))))))))))))
def pre8:S8->Bool:=fun(x1,x2,_,_,_,_,_,_,_,_,_,_,_,_,x15,_)=>lp x1 x2 x15.length
def fn8:S8->O8:=fun(x1,x2,x3,x4,x5,x6,x7,x8,x9,x10,x11,x12,x13,x14,x15,_)=>F8 x4 x5 x6 x7 x8 x9 (kW (qB aA) true (x1-x2).toNat (x10,(x11,(x12,(x13,(x15,x14))))) x3)
def mu8:S8->Nat:=fun(x1,x2,_,_,_,_,_,_,_,_,_,_,_,_,_,_)=>(x1-x2).toNat
noncomputable def aJ4(x1:Int)(x2:Int)(x3:jT)(x4:Int)(x5:Int)(x6:Int)(x7:Int)(x8:Unit)(x9:(List eN))(x10:Int)(x11:Int)(x12:Int)(x13:Int)(x14:Unit)(x15:(List eN)):Option ((Int×(Int×aMO))⊕aMO):=
 if(decide (x2<x1))=true then
 if x3.2.2.1=true then
 letB (aA x3) fun v1=>
 letB (aA v1.1) fun v2=>
 if(decide (length x15+length ((v1.2,(v2.2,()))::([]:List eN))<=lT))=true then
 some (.inl (x1,((wrap .i64 (x2+(1:Int))),(v2.1,(x4,(x5,(x6,(x7,(x8,(x9,(x10,(x11,(x12,(x13,(x14,((List.append x15 ((v1.2,(v2.2,()))::([]:List eN))),()))))))))))))))))
 else
 none
 else
 some (.inr (x3,(x4,(x5,(x6,(x7,(x8,(x9,(x10,(x11,(x12,(x13,(x14,(x15,()))))))))))))))
 else
 some (.inr (x3,(x4,(x5,(x6,(x7,(x8,(x9,(x10,(x11,(x12,(x13,(x14,(x15,()))))))))))))))
abbrev wf(x0:jT):Prop:=fW [(.ref oS .f)] (x0,())
noncomputable def aR(x0:jT):Option ((jT×Unit)×(aK×Unit)):=
 letB (aA x0) fun v1=>
 letB (aA v1.1) fun v2=>
 letB (aA v2.1) fun v3=>
 letB (aA v3.1) fun v4=>
 letB (aA v4.1) fun v5=>
 if(jP.pre8 (v5.2,((0:Int),(v5.1,((0:Int),((0:Int),((0:Int),((0:Int),((),(([]:List eN),(v1.2,(v2.2,(v3.2,((wrap .i64 (v4.2-(1:Int))),((),(([]:List eN),()))))))))))))))))=true then
 letB (jP.fn8 (v5.2,((0:Int),(v5.1,((0:Int),((0:Int),((0:Int),((0:Int),((),(([]:List eN),(v1.2,(v2.2,(v3.2,((wrap .i64 (v4.2-(1:Int))),((),(([]:List eN),())))))))))))))))) fun v6=>
 some ((v6.1,()),((v6.2.2.2.2.2.2.2.1,(v6.2.2.2.2.2.2.2.2.1,(v6.2.2.2.2.2.2.2.2.2.1,(v6.2.2.2.2.2.2.2.2.2.2.1,(v6.2.2.2.2.2.2.2.2.2.2.2.2.1,v6.2.2.2.2.2.2.2.2.2.2.2.1))))),()))
 else
 none
theorem ok8(x1 x2 x3 x4 x5 x6 x7 x8 x9 x10 x11 x12 x13 x14 x15)(hp:pre8 (x1,(x2,(x3,(x4,(x5,(x6,(x7,(x8,(x9,(x10,(x11,(x12,(x13,(x14,(x15,())))))))))))))))=true):Rounds pre8 mu8 fn8 (x1,(x2,(x3,(x4,(x5,(x6,(x7,(x8,(x9,(x10,(x11,(x12,(x13,(x14,(x15,()))))))))))))))) (aJ4 x1 x2 x3 x4 x5 x6 x7 x8 x9 x10 x11 x12 x13 x14 x15):=by
 have h1:lp x1 x2 x15.length=true:=hp
 unfold aJ4
 by_cases hlt:x2<x1
 case neg=>exact jC (by rw[Za];exact hlt) (congrArg (F8 x4 x5 x6 x7 x8 x9) (uR (qB aA) true x3 (x10,(x11,(x12,(x13,(x15,x14))))) hlt))
 by_cases hf:x3.2.2.1=true
 case neg=>exact fO (Zd hlt) (jC hf (congrArg (F8 x4 x5 x6 x7 x8 x9) (tP (qB aA) true x3 (x10,(x11,(x12,(x13,(x15,x14))))) _ hf)))
 rw[aBe h1 hlt]
 exact fO (Zd hlt) (fO hf (lV (lV (fO (Zd (aCA h1 hlt _)) ⟨yJ h1 hlt _,aBc hlt,congrArg (F8 x4 x5 x6 x7 x8 x9) (aAb (qB aA) true x3 (x10,(x11,(x12,(x13,(x15,x14))))) hlt hf)⟩))))
theorem eq(x0:R)(hw:wf x0):aR x0=some (((jP x0).1,()),((jP x0).2,())):=by
 have hb:bQ x0.1=true:=gN hw.1.1.2
 have hn:=kF (s:=(aA (aA (aA (aA x0).1).1).1).1) (by simp only[cI];exact hb)
 unfold aR
 exact cU (cU (cU (cU (cU (dS (show pre8 _=true from yI hn.2 (Nat.zero_le _)) (cU rfl))))))
end jP
def qX(s:R)(x:aK):R×aK:=qB aC x s
namespace qX
def pre(_:R)(x:aK):Bool:=decide (x.2.2.2.2.1.length<=4000000000)
abbrev wf(x0:jT)(x1:aK):Prop:=fW [(.cell 1 oS),(.ref oS .f),(.ref aBr .o)] (x0,(x1,()))
noncomputable def aR(x0:jT)(x1:aK):Option ((jT×(aK×Unit))×Unit):=
 letB (aC x0) fun v1=>
 letB (aC v1.1) fun v2=>
 if(decide (length x1.2.2.2.2.1+length ((v1.2,(v2.2,()))::([]:List eN))<=lT))=true then
 some ((v2.1,((x1.1,(x1.2.1,(x1.2.2.1,(x1.2.2.2.1,((List.append x1.2.2.2.2.1 ((v1.2,(v2.2,()))::([]:List eN))),x1.2.2.2.2.2))))),())),())
 else
 none
theorem eq(x0:R)(x1:aK)(_:wf x0 x1)(hp:pre x0 x1=true):aR x0 x1=some (((qX x0 x1).1,((qX x0 x1).2,())),()):=by
 unfold aR
 exact cU (cU (dS (Zd (aD5 (Ze hp) _)) rfl))
end qX
def gV(s:R)(x:aK):R×aK:=gS aC false (qB aC) x s
namespace gV
abbrev S2:Type:=(Int×(Int×(jT×aL4)))
abbrev O2:Type:=(jT×aL4)
def pre(_:R)(x:aK):Bool:=decide (x.2.2.2.2.1.length<=1000)
def F2(v:R×aK):O2:=(v.1,(v.2.1,(v.2.2.1,(v.2.2.2.1,(v.2.2.2.2.1,(v.2.2.2.2.2.2,(v.2.2.2.2.2.1,())))))))
def pre2:S2->Bool:=fun(x1,x2,_,_,_,_,_,_,x9,_)=>lp x1 x2 x9.length
def fn2:S2->O2:=fun(x1,x2,x3,x4,x5,x6,x7,x8,x9,_)=>F2 (kW (qB aC) false (x1-x2).toNat (x4,(x5,(x6,(x7,(x9,x8))))) x3)
def kY:S2->Nat:=fun(x1,x2,_,_,_,_,_,_,_,_)=>(x1-x2).toNat
noncomputable def cW(x1:Int)(x2:Int)(x3:jT)(x4:Int)(x5:Int)(x6:Int)(x7:Int)(x8:Unit)(x9:(List eN)):Option ((Int×(Int×(jT×aL4)))⊕(jT×aL4)):=
 if(decide (x2<x1))=true then
 if(!x3.2.2.1)=true then
 if(qX.pre x3 (x4,(x5,(x6,(x7,(x9,x8))))))=true then
 letB (qX x3 (x4,(x5,(x6,(x7,(x9,x8)))))) fun v1=>
 some (.inl (x1,((wrap .i64 (x2+(1:Int))),(v1.1,(v1.2.1,(v1.2.2.1,(v1.2.2.2.1,(v1.2.2.2.2.1,(v1.2.2.2.2.2.2,v1.2.2.2.2.2)))))))))
 else
 none
 else
 some (.inr (x3,(x4,(x5,(x6,(x7,(x8,(x9,()))))))))
 else
 some (.inr (x3,(x4,(x5,(x6,(x7,(x8,(x9,()))))))))
abbrev wf(x0:jT)(x1:aK):Prop:=fW [(.ref oS .f),(.cell 0 oS),(.ref aBr .o)] (x0,(x1,()))
noncomputable def aR(x0:jT)(x1:aK):Option ((jT×(aK×Unit))×Unit):=
 letB (aC x0) fun v1=>
 if(gV.pre2 (v1.2,((0:Int),(v1.1,(x1.1,(x1.2.1,(x1.2.2.1,(x1.2.2.2.1,(x1.2.2.2.2.2,x1.2.2.2.2)))))))))=true then
 letB (gV.fn2 (v1.2,((0:Int),(v1.1,(x1.1,(x1.2.1,(x1.2.2.1,(x1.2.2.2.1,(x1.2.2.2.2.2,x1.2.2.2.2))))))))) fun v2=>
 some ((v2.1,((v2.2.1,(v2.2.2.1,(v2.2.2.2.1,(v2.2.2.2.2.1,(v2.2.2.2.2.2.2.1,v2.2.2.2.2.2.1))))),())),())
 else
 none
theorem qO(x1 x2 x3 x4 x5 x6 x7 x8 x9)(hp:pre2 (x1,(x2,(x3,(x4,(x5,(x6,(x7,(x8,(x9,())))))))))=true):Rounds pre2 kY fn2 (x1,(x2,(x3,(x4,(x5,(x6,(x7,(x8,(x9,()))))))))) (cW x1 x2 x3 x4 x5 x6 x7 x8 x9):=by
 have h1:lp x1 x2 x9.length=true:=hp
 unfold cW
 by_cases hlt:x2<x1
 case neg=>exact jC (by rw[Za];exact hlt) (congrArg (F2) (uR (qB aC) false x3 (x4,(x5,(x6,(x7,(x9,x8))))) hlt))
 by_cases hf:x3.2.2.1=false
 case neg=>exact fO (Zd hlt) (jC (by simpa using hf) (congrArg (F2) (tP (qB aC) false x3 (x4,(x5,(x6,(x7,(x9,x8))))) _ hf)))
 rw[aBe h1 hlt]
 exact fO (Zd hlt) (fO (by rw[hf];rfl) (fO (Zd (aIg h1 hlt)) (lV ⟨yJ h1 hlt _,aBc hlt,congrArg (F2) (aAb (qB aC) false x3 (x4,(x5,(x6,(x7,(x9,x8))))) hlt hf)⟩)))
theorem eq(x0:R)(x1:aK)(hw:wf x0 x1)(hp:pre x0 x1=true):aR x0 x1=some (((gV x0 x1).1,((gV x0 x1).2,())),()):=by
 have hn:=oO (s:=x0) (gN hw.1.1.2)
 unfold aR
 exact cU (dS (show pre2 _=true from yI hn.2 (Ze hp)) (cU rfl))
end gV
def lF(s:R):R×aK:=aAP aC false s
namespace lF
abbrev wf(x0:jT):Prop:=fW [(.ref oS .f)] (x0,())
noncomputable def aR(x0:jT):Option ((jT×Unit)×(aK×Unit)):=
 letB (aC x0) fun v1=>
 letB (aC v1.1) fun v2=>
 letB (aC v2.1) fun v3=>
 letB (aC v3.1) fun v4=>
 if(gV.pre v4.1 (v1.2,(v2.2,(v3.2,((wrap .i64 (v4.2-(1:Int))),(([]:List eN),()))))))=true then
 letB (gV v4.1 (v1.2,(v2.2,(v3.2,((wrap .i64 (v4.2-(1:Int))),(([]:List eN),())))))) fun v5=>
 some ((v5.1,()),(v5.2,()))
 else
 none
theorem eq(x0:R)(_:wf x0):aR x0=some (((lF x0).1,()),((lF x0).2,())):=by
 unfold aR
 exact cU (cU (cU (cU (dS (show gV.pre _ _=true from rfl) (cU rfl)))))
end lF
def gJ(s:R)(rows:Int):R×aJ:=aBo aA true rows s
namespace gJ
abbrev S5:Type:=(Int×(Int×(Int×aDg)))
abbrev O5:Type:=(Int×aDg)
abbrev S12:Type:=(Int×(Int×aDg))
abbrev O12:Type:=aDg
def pre(_:R)(rows:Int):Bool:=decide (rows<=1000)
def F5(x1:Int)(x5:Int)(x6:Unit)(x7:List Int)(x8:List Int)(x9:List Int)(v:R×aJ):O5:=(x1,(v.1,(x5,(x6,(x7,(x8,(x9,(v.2.1,(v.2.2.2.2.2,(v.2.2.1,(v.2.2.2.1,(v.2.2.2.2.1,()))))))))))))
def pre5:S5->Bool:=fun(_,x2,x3,_,_,_,_,_,_,_,_,x12,x13,_,_)=>lp x2 x3 x12.length&&(lp x2 x3 x13.length)
def fn5:S5->O5:=fun(x1,x2,x3,x4,x5,x6,x7,x8,x9,x10,x11,x12,x13,x14,_)=>F5 x1 x5 x6 x7 x8 x9 (kW (nU aA) true (x2-x3).toNat (x10,(x12,(x13,(x14,x11)))) x4)
def mu5:S5->Nat:=fun(_,x2,x3,_,_,_,_,_,_,_,_,_,_,_,_)=>(x2-x3).toNat
def F12(x4:Int)(x5:Unit)(x6:List Int)(x7:List Int)(x8:List Int)(v:R×aJ):O12:=(v.1,(x4,(x5,(x6,(x7,(x8,(v.2.1,(v.2.2.2.2.2,(v.2.2.1,(v.2.2.2.1,(v.2.2.2.2.1,())))))))))))
def pre12:S12->Bool:=fun(x1,x2,_,_,_,_,_,_,_,_,_,_,x13,_)=>lp x1 x2 x13.length
def fn12:S12->O12:=fun(x1,x2,x3,x4,x5,x6,x7,x8,x9,x10,x11,x12,x13,_)=>F12 x4 x5 x6 x7 x8 (aAk (uS aA) (x1-x2).toNat (x9,(x11,(x12,(x13,x10)))) x3)
def aOs:S12->Nat:=fun(x1,x2,_,_,_,_,_,_,_,_,_,_,_,_)=>(x1-x2).toNat
noncomputable def tX(x1:Int)(x2:Int)(x3:Int)(x4:jT)(x5:Int)(x6:Unit)(x7:(List Int))(x8:(List Int))(x9:(List Int))(x10:Int)(x11:Unit)(x12:(List Int))(x13:(List Int))(x14:(List Int)):Option ((Int×(Int×(Int×aDg)))⊕(Int×aDg)):=
 if(decide (x3<x2))=true then
 if x4.2.2.1=true then
 letB (aA x4) fun v1=>
 if(decide (length x12+length (v1.2::([]:List Int))<=lT))=true then
 letB (aA v1.1) fun v2=>
 if(decide (length x13+length (v2.2::([]:List Int))<=lT))=true then
 some (.inl (x1,(x2,((wrap .i64 (x3+(1:Int))),(v2.1,(x5,(x6,(x7,(x8,(x9,(x10,(x11,((List.append x12 (v1.2::([]:List Int))),((List.append x13 (v2.2::([]:List Int))),(x14,())))))))))))))))
 else
 none
 else
 none
 else
 some (.inr (x1,(x4,(x5,(x6,(x7,(x8,(x9,(x10,(x11,(x12,(x13,(x14,())))))))))))))
 else
 some (.inr (x1,(x4,(x5,(x6,(x7,(x8,(x9,(x10,(x11,(x12,(x13,(x14,())))))))))))))
noncomputable def aLD(x1:Int)(x2:Int)(x3:jT)(x4:Int)(x5:Unit)(x6:(List Int))(x7:(List Int))(x8:(List Int))(x9:Int)(x10:Unit)(x11:(List Int))(x12:(List Int))(x13:(List Int)):Option ((Int×(Int×aDg))⊕aDg):=
 if(decide (x2<x1))=true then
 letB (aA x3) fun v1=>
 if(decide (length x13+length (v1.2::([]:List Int))<=lT))=true then
 some (.inl (x1,((wrap .i64 (x2+(1:Int))),(v1.1,(x4,(x5,(x6,(x7,(x8,(x9,(x10,(x11,(x12,((List.append x13 (v1.2::([]:List Int))),()))))))))))))))
 else
 none
 else
 some (.inr (x3,(x4,(x5,(x6,(x7,(x8,(x9,(x10,(x11,(x12,(x13,()))))))))))))
abbrev wf(x0:jT)(x1:Int):Prop:=fW [(.ref oS .f),(.val (.int .i64) .f)] (x0,(x1,()))
noncomputable def aR(x0:jT)(x1:Int):Option ((jT×Unit)×aAs):=
 letB (aA x0) fun v1=>
 letB (aA v1.1) fun v2=>
 if(gJ.pre5 (x1,(v2.2,((0:Int),(v2.1,((0:Int),((),(([]:List Int),(([]:List Int),(([]:List Int),(v1.2,((),(([]:List Int),(([]:List Int),(([]:List Int),())))))))))))))))=true then
 letB (gJ.fn5 (x1,(v2.2,((0:Int),(v2.1,((0:Int),((),(([]:List Int),(([]:List Int),(([]:List Int),(v1.2,((),(([]:List Int),(([]:List Int),(([]:List Int),()))))))))))))))) fun v3=>
 if(gJ.pre12 (v3.1,((0:Int),v3.2)))=true then
 letB (gJ.fn12 (v3.1,((0:Int),v3.2))) fun v4=>
 some ((v4.1,()),((v4.2.2.2.2.2.2.1,(v4.2.2.2.2.2.2.2.2.1,(v4.2.2.2.2.2.2.2.2.2.1,(v4.2.2.2.2.2.2.2.2.2.2.1,v4.2.2.2.2.2.2.2.1)))),()))
 else
 none
 else
 none
theorem ok5(x1 x2 x3 x4 x5 x6 x7 x8 x9 x10 x11 x12 x13 x14)(hp:pre5 (x1,(x2,(x3,(x4,(x5,(x6,(x7,(x8,(x9,(x10,(x11,(x12,(x13,(x14,()))))))))))))))=true):Rounds pre5 mu5 fn5 (x1,(x2,(x3,(x4,(x5,(x6,(x7,(x8,(x9,(x10,(x11,(x12,(x13,(x14,())))))))))))))) (tX x1 x2 x3 x4 x5 x6 x7 x8 x9 x10 x11 x12 x13 x14):=by
 have hp:(lp x2 x3 x12.length&&(lp x2 x3 x13.length))=true:=hp
 simp only[Zb] at hp
 obtain⟨h1,h2⟩:=hp
 unfold tX
 by_cases hlt:x3<x2
 case neg=>exact jC (by rw[Za];exact hlt) (congrArg (F5 x1 x5 x6 x7 x8 x9) (uR (nU aA) true x4 (x10,(x12,(x13,(x14,x11)))) hlt))
 by_cases hf:x4.2.2.1=true
 case neg=>exact fO (Zd hlt) (jC hf (congrArg (F5 x1 x5 x6 x7 x8 x9) (tP (nU aA) true x4 (x10,(x12,(x13,(x14,x11)))) _ hf)))
 rw[aBe h1 hlt]
 exact fO (Zd hlt) (fO hf (lV (fO (Zd (aCA h1 hlt _)) (lV (fO (Zd (aCA h2 hlt _)) ⟨qN (yJ h1 hlt _) (yJ h2 hlt _),aBc hlt,congrArg (F5 x1 x5 x6 x7 x8 x9) (aAb (nU aA) true x4 (x10,(x12,(x13,(x14,x11)))) hlt hf)⟩)))))
theorem aON(x1 x2 x3 x4 x5 x6 x7 x8 x9 x10 x11 x12 x13)(hp:pre12 (x1,(x2,(x3,(x4,(x5,(x6,(x7,(x8,(x9,(x10,(x11,(x12,(x13,())))))))))))))=true):Rounds pre12 aOs fn12 (x1,(x2,(x3,(x4,(x5,(x6,(x7,(x8,(x9,(x10,(x11,(x12,(x13,()))))))))))))) (aLD x1 x2 x3 x4 x5 x6 x7 x8 x9 x10 x11 x12 x13):=by
 have h1:lp x1 x2 x13.length=true:=hp
 unfold aLD
 by_cases hlt:x2<x1
 case neg=>exact jC (by rw[Za];exact hlt) (congrArg (F12 x4 x5 x6 x7 x8) (aGF (uS aA) x3 (x9,(x11,(x12,(x13,x10)))) hlt))
 rw[aBe h1 hlt]
 exact fO (Zd hlt) (lV (fO (Zd (aCA h1 hlt _)) ⟨yJ h1 hlt _,aBc hlt,congrArg (F12 x4 x5 x6 x7 x8) (aJA (uS aA) x3 (x9,(x11,(x12,(x13,x10)))) hlt)⟩))
theorem eq(x0:R)(x1:Int)(hw:wf x0 x1)(hp:pre x0 x1=true):aR x0 x1=some (((gJ x0 x1).1,()),((gJ x0 x1).2,())):=by
 have hr:x1<=1000:=Ze hp
 have hb:bQ x0.1=true:=gN hw.1.1.2
 have hn:=kF (s:=(aA x0).1) (by simp only[cI];exact hb)
 have s1:=sP (num:=aA) (good:=true) (one:=nU aA) (P:=fun g:aJ=>g.2.2.2.1=[]) (fun _ _ h=>h) ((aA x0).2,([],([],([],())))) (aA x0).1 rfl
 unfold aR
 refine cU (cU (dS (show pre5 _=true from qN (yI hn.2 (Nat.zero_le _)) (yI hn.2 (Nat.zero_le _))) (cU (dS (show pre12 _=true from yI (c:=(gS aA true (nU aA) ((aA x0).2,([],([],([],())))) (aA x0).1).2.2.2.2.1.length) (show x1<=2147483647 by omega) (by rw[s1];exact Nat.zero_le _)) (cU ?_)))))
 rfl
end gJ
def qZ(g:aJ)(s:R):aJ×R:=((nU aC g s).2,(nU aC g s).1)
namespace qZ
def pre(g:aJ)(_:R):Bool:=decide (g.2.1.length<=4000000000)&&decide (g.2.2.1.length<=4000000000)
abbrev wf(x0:aJ)(x1:jT):Prop:=fW [(.ref aAh .o),(.cell 2 oS),(.ref oS .f)] (x0,(x1,()))
noncomputable def aR(x0:aJ)(x1:jT):Option ((aJ×(jT×Unit))×Unit):=
 letB (aC x1) fun v1=>
 if(decide (length x0.2.1+length (v1.2::([]:List Int))<=lT))=true then
 letB (aC v1.1) fun v2=>
 if(decide (length x0.2.2.1+length (v2.2::([]:List Int))<=lT))=true then
 some (((x0.1,((List.append x0.2.1 (v1.2::([]:List Int))),((List.append x0.2.2.1 (v2.2::([]:List Int))),x0.2.2.2))),(v2.1,())),())
 else
 none
 else
 none
theorem eq(x0:aJ)(x1:R)(_:wf x0 x1)(hp:pre x0 x1=true):aR x0 x1=some (((qZ x0 x1).1,((qZ x0 x1).2,())),()):=by
 simp only[pre,Zb,Za] at hp
 unfold aR
 exact cU (dS (Zd (aD5 hp.1 _)) (cU (dS (Zd (aD5 hp.2 _)) rfl)))
end qZ
def gX(s:R)(g:aJ):R×aJ:=gS aC false (nU aC) g s
namespace gX
abbrev S2:Type:=(Int×(Int×aN6))
abbrev O2:Type:=aN6
def pre(_:R)(g:aJ):Bool:=decide (g.2.1.length<=1000)&&decide (g.2.2.1.length<=1000)
def F2(v:R×aJ):O2:=(v.1,(v.2.1,(v.2.2.2.2.2,(v.2.2.1,(v.2.2.2.1,(v.2.2.2.2.1,()))))))
def pre2:S2->Bool:=fun(x1,x2,_,_,_,x6,x7,_,_)=>lp x1 x2 x6.length&&(lp x1 x2 x7.length)
def fn2:S2->O2:=fun(x1,x2,x3,x4,x5,x6,x7,x8,_)=>F2 (kW (nU aC) false (x1-x2).toNat (x4,(x6,(x7,(x8,x5)))) x3)
def kY:S2->Nat:=fun(x1,x2,_,_,_,_,_,_,_)=>(x1-x2).toNat
noncomputable def cW(x1:Int)(x2:Int)(x3:jT)(x4:Int)(x5:Unit)(x6:(List Int))(x7:(List Int))(x8:(List Int)):Option ((Int×(Int×aN6))⊕aN6):=
 if(decide (x2<x1))=true then
 if(!x3.2.2.1)=true then
 if(qZ.pre (x4,(x6,(x7,(x8,x5)))) x3)=true then
 letB (qZ (x4,(x6,(x7,(x8,x5)))) x3) fun v1=>
 some (.inl (x1,((wrap .i64 (x2+(1:Int))),(v1.2,(v1.1.1,(v1.1.2.2.2.2,v1.1.2))))))
 else
 none
 else
 some (.inr (x3,(x4,(x5,(x6,(x7,(x8,())))))))
 else
 some (.inr (x3,(x4,(x5,(x6,(x7,(x8,())))))))
abbrev wf(x0:jT)(x1:aJ):Prop:=fW [(.ref oS .f),(.ref aAh .o),(.cell 0 oS)] (x0,(x1,()))
noncomputable def aR(x0:jT)(x1:aJ):Option ((jT×aAs)×Unit):=
 letB (aC x0) fun v1=>
 if(gX.pre2 (v1.2,((0:Int),(v1.1,(x1.1,(x1.2.2.2.2,x1.2))))))=true then
 letB (gX.fn2 (v1.2,((0:Int),(v1.1,(x1.1,(x1.2.2.2.2,x1.2)))))) fun v2=>
 some ((v2.1,((v2.2.1,(v2.2.2.2.1,(v2.2.2.2.2.1,(v2.2.2.2.2.2.1,v2.2.2.1)))),())),())
 else
 none
theorem qO(x1 x2 x3 x4 x5 x6 x7 x8)(hp:pre2 (x1,(x2,(x3,(x4,(x5,(x6,(x7,(x8,()))))))))=true):Rounds pre2 kY fn2 (x1,(x2,(x3,(x4,(x5,(x6,(x7,(x8,())))))))) (cW x1 x2 x3 x4 x5 x6 x7 x8):=by
 have hp:(lp x1 x2 x6.length&&(lp x1 x2 x7.length))=true:=hp
 simp only[Zb] at hp
 obtain⟨h1,h2⟩:=hp
 unfold cW
 by_cases hlt:x2<x1
 case neg=>exact jC (by rw[Za];exact hlt) (congrArg (F2) (uR (nU aC) false x3 (x4,(x6,(x7,(x8,x5)))) hlt))
 by_cases hf:x3.2.2.1=false
 case neg=>exact fO (Zd hlt) (jC (by simpa using hf) (congrArg (F2) (tP (nU aC) false x3 (x4,(x6,(x7,(x8,x5)))) _ hf)))
 rw[aBe h1 hlt]
 exact fO (Zd hlt) (fO (by rw[hf];rfl) (fO (qN (Zd (aIg h1 hlt)) (Zd (aIg h2 hlt))) (lV ⟨qN (yJ h1 hlt _) (yJ h2 hlt _),aBc hlt,congrArg (F2) (aAb (nU aC) false x3 (x4,(x6,(x7,(x8,x5)))) hlt hf)⟩)))
theorem eq(x0:R)(x1:aJ)(hw:wf x0 x1)(hp:pre x0 x1=true):aR x0 x1=some (((gX x0 x1).1,((gX x0 x1).2,())),()):=by
 have hn:=oO (s:=x0) (gN hw.1.1.2)
 simp only[pre,Zb,Za] at hp
 unfold aR
 exact cU (dS (show pre2 _=true from qN (yI hn.2 hp.1) (yI hn.2 hp.2)) (cU rfl))
end gX
def gZ(s:R)(rows:Int):R×aJ:=aBo aC false rows s
namespace gZ
abbrev S4:Type:=(Int×(Int×aDg))
abbrev O4:Type:=aDg
def pre(_:R)(rows:Int):Bool:=decide (rows<=1000)
def F4(x4:Int)(x5:Unit)(x6:List Int)(x7:List Int)(x8:List Int)(v:R×aJ):O4:=(v.1,(x4,(x5,(x6,(x7,(x8,(v.2.1,(v.2.2.2.2.2,(v.2.2.1,(v.2.2.2.1,(v.2.2.2.2.1,())))))))))))
def pre4:S4->Bool:=fun(x1,x2,_,_,_,_,_,_,_,_,_,_,x13,_)=>lp x1 x2 x13.length
def fn4:S4->O4:=fun(x1,x2,x3,x4,x5,x6,x7,x8,x9,x10,x11,x12,x13,_)=>F4 x4 x5 x6 x7 x8 (aAk (uS aC) (x1-x2).toNat (x9,(x11,(x12,(x13,x10)))) x3)
def qD:S4->Nat:=fun(x1,x2,_,_,_,_,_,_,_,_,_,_,_,_)=>(x1-x2).toNat
noncomputable def hJ(x1:Int)(x2:Int)(x3:jT)(x4:Int)(x5:Unit)(x6:(List Int))(x7:(List Int))(x8:(List Int))(x9:Int)(x10:Unit)(x11:(List Int))(x12:(List Int))(x13:(List Int)):Option ((Int×(Int×aDg))⊕aDg):=
 if(decide (x2<x1))=true then
 letB (aC x3) fun v1=>
 if(decide (length x13+length (v1.2::([]:List Int))<=lT))=true then
 some (.inl (x1,((wrap .i64 (x2+(1:Int))),(v1.1,(x4,(x5,(x6,(x7,(x8,(x9,(x10,(x11,(x12,((List.append x13 (v1.2::([]:List Int))),()))))))))))))))
 else
 none
 else
 some (.inr (x3,(x4,(x5,(x6,(x7,(x8,(x9,(x10,(x11,(x12,(x13,()))))))))))))
abbrev wf(x0:jT)(x1:Int):Prop:=fW [(.ref oS .f),(.val (.int .i64) .f)] (x0,(x1,()))
noncomputable def aR(x0:jT)(x1:Int):Option ((jT×Unit)×aAs):=
 letB (aC x0) fun v1=>
 if(gX.pre v1.1 (v1.2,(([]:List Int),(([]:List Int),(([]:List Int),())))))=true then
 letB (gX v1.1 (v1.2,(([]:List Int),(([]:List Int),(([]:List Int),()))))) fun v2=>
 if(gZ.pre4 (x1,((0:Int),(v2.1,((0:Int),((),(([]:List Int),(([]:List Int),(([]:List Int),(v2.2.1,(v2.2.2.2.2.2,v2.2.2)))))))))))=true then
 letB (gZ.fn4 (x1,((0:Int),(v2.1,((0:Int),((),(([]:List Int),(([]:List Int),(([]:List Int),(v2.2.1,(v2.2.2.2.2.2,v2.2.2))))))))))) fun v3=>
 some ((v3.1,()),((v3.2.2.2.2.2.2.1,(v3.2.2.2.2.2.2.2.2.1,(v3.2.2.2.2.2.2.2.2.2.1,(v3.2.2.2.2.2.2.2.2.2.2.1,v3.2.2.2.2.2.2.2.1)))),()))
 else
 none
 else
 none
theorem zE(x1 x2 x3 x4 x5 x6 x7 x8 x9 x10 x11 x12 x13)(hp:pre4 (x1,(x2,(x3,(x4,(x5,(x6,(x7,(x8,(x9,(x10,(x11,(x12,(x13,())))))))))))))=true):Rounds pre4 qD fn4 (x1,(x2,(x3,(x4,(x5,(x6,(x7,(x8,(x9,(x10,(x11,(x12,(x13,()))))))))))))) (hJ x1 x2 x3 x4 x5 x6 x7 x8 x9 x10 x11 x12 x13):=by
 have h1:lp x1 x2 x13.length=true:=hp
 unfold hJ
 by_cases hlt:x2<x1
 case neg=>exact jC (by rw[Za];exact hlt) (congrArg (F4 x4 x5 x6 x7 x8) (aGF (uS aC) x3 (x9,(x11,(x12,(x13,x10)))) hlt))
 rw[aBe h1 hlt]
 exact fO (Zd hlt) (lV (fO (Zd (aCA h1 hlt _)) ⟨yJ h1 hlt _,aBc hlt,congrArg (F4 x4 x5 x6 x7 x8) (aJA (uS aC) x3 (x9,(x11,(x12,(x13,x10)))) hlt)⟩))
theorem eq(x0:R)(x1:Int)(_:wf x0 x1)(hp:pre x0 x1=true):aR x0 x1=some (((gZ x0 x1).1,()),((gZ x0 x1).2,())):=by
 have hr:x1<=1000:=Ze hp
 have s1:=sP (num:=aC) (good:=false) (one:=nU aC) (P:=fun g:aJ=>g.2.2.2.1=[]) (fun _ _ h=>h) ((aC x0).2,([],([],([],())))) (aC x0).1 rfl
 unfold aR
 refine cU (dS (show gX.pre _ _=true from rfl) (cU (dS (show pre4 _=true from yI (c:=(gS aC false (nU aC) ((aC x0).2,([],([],([],())))) (aC x0).1).2.2.2.2.1.length) (show x1<=2147483647 by omega) (by rw[s1];exact Nat.zero_le _)) (cU ?_))))
 rfl
end gZ
def eP(s:R)(rows:Int):R×bI:=aEu aA aP true rows s
namespace eP
abbrev S4:Type:=(Int×(Int×aDk))
abbrev O4:Type:=aDk
abbrev S10:Type:=(Int×(Int×aDk))
abbrev O10:Type:=aDk
abbrev S16:Type:=(Int×(Int×aDk))
abbrev O16:Type:=(jT×zt3)
abbrev S22:Type:=aDk
abbrev O22:Type:=(jT×zt3)
def pre(_:R)(rows:Int):Bool:=decide (rows<=1000)
def F4(x1:Int)(x5:Int)(x6:Unit)(x7:List cL)(x8:List aK)(x9:List aJ)(x10:List Int)(x11:List aM)(v:R×bI):O4:=(x1,(v.1,(x5,(x6,(x7,(x8,(x9,(x10,(x11,(v.2.2.2.2.1,(v.2.2.2.2.2.2.2,(v.2.1,(v.2.2.1,(v.2.2.2.1,(v.2.2.2.2.2.1,(v.2.2.2.2.2.2.1,()))))))))))))))))
def pre4:S4->Bool:=fun(_,x2,x3,_,_,_,_,_,_,_,_,_,_,x14,_,_,_,_,_)=>lp x2 x3 x14.length
def fn4:S4->O4:=fun(x1,x2,x3,x4,x5,x6,x7,x8,x9,x10,x11,x12,x13,x14,x15,x16,x17,x18,_)=>F4 x1 x5 x6 x7 x8 x9 x10 x11 (kW (lX aA aP true) true (x2-x3).toNat (x14,(x15,(x16,(x12,(x17,(x18,x13)))))) x4)
def qD:S4->Nat:=fun(_,x2,x3,_,_,_,_,_,_,_,_,_,_,_,_,_,_,_,_)=>(x2-x3).toNat
def F10(x1:Int)(x5:Int)(x6:Unit)(x7:List cL)(x8:List aK)(x9:List aJ)(x10:List Int)(x11:List aM)(v:R×bI):O10:=(x1,(v.1,(x5,(x6,(x7,(x8,(x9,(x10,(x11,(v.2.2.2.2.1,(v.2.2.2.2.2.2.2,(v.2.1,(v.2.2.1,(v.2.2.2.1,(v.2.2.2.2.2.1,(v.2.2.2.2.2.2.1,()))))))))))))))))
def pre10:S10->Bool:=fun(_,x2,x3,_,_,_,_,_,_,_,_,_,_,_,x15,_,_,_,_)=>lp x2 x3 x15.length
def fn10:S10->O10:=fun(x1,x2,x3,x4,x5,x6,x7,x8,x9,x10,x11,x12,x13,x14,x15,x16,x17,x18,_)=>F10 x1 x5 x6 x7 x8 x9 x10 x11 (kW (gR aA true) true (x2-x3).toNat (x14,(x15,(x16,(x12,(x17,(x18,x13)))))) x4)
def aLr:S10->Nat:=fun(_,x2,x3,_,_,_,_,_,_,_,_,_,_,_,_,_,_,_,_)=>(x2-x3).toNat
def F16(x5:Int)(x6:Unit)(x7:List cL)(x8:List aK)(x9:List aJ)(x10:List Int)(x11:List aM)(v:R×bI):O16:=(v.1,(x5,(x6,(x7,(x8,(x9,(x10,(x11,(v.2.2.2.2.1,(v.2.2.2.2.2.2.2,(v.2.1,(v.2.2.1,(v.2.2.2.1,(v.2.2.2.2.2.1,(v.2.2.2.2.2.2.1,())))))))))))))))
def pre16:S16->Bool:=fun(x1,x2,x3,_,_,_,_,_,_,_,_,_,_,_,_,x16,_,_,_)=>decide (x1<=1000)&&(lp x2 x3 x16.length)
def fn16:S16->O16:=fun(x1,x2,x3,x4,x5,x6,x7,x8,x9,x10,x11,x12,x13,x14,x15,x16,x17,x18,_)=>F16 x5 x6 x7 x8 x9 x10 x11 (kW (fZ aA true x1) true (x2-x3).toNat (x14,(x15,(x16,(x12,(x17,(x18,x13)))))) x4)
def aOz:S16->Nat:=fun(_,x2,x3,_,_,_,_,_,_,_,_,_,_,_,_,_,_,_,_)=>(x2-x3).toNat
def F22(x3:Int)(x4:Unit)(x5:List cL)(x6:List aK)(x7:List aJ)(x8:List Int)(x9:List aM)(v:R×bI):O22:=(v.1,(x3,(x4,(x5,(x6,(x7,(x8,(x9,(v.2.2.2.2.1,(v.2.2.2.2.2.2.2,(v.2.1,(v.2.2.1,(v.2.2.2.1,(v.2.2.2.2.2.1,(v.2.2.2.2.2.2.1,())))))))))))))))
def pre22:S22->Bool:=fun(x1,_,_,_,_,_,_,_,_,_,_,_,_,_,x15,x16,_)=>lp 4 x1 x15.length&&(lp 4 x1 x16.length)
def fn22:S22->O22:=fun(x1,x2,x3,x4,x5,x6,x7,x8,x9,x10,x11,x12,x13,x14,x15,x16,_)=>F22 x3 x4 x5 x6 x7 x8 x9 (aAk (qU aA aP) (4-x1).toNat (x12,(x13,(x14,(x10,(x15,(x16,x11)))))) x2)
def aOr:S22->Nat:=fun(x1,_,_,_,_,_,_,_,_,_,_,_,_,_,_,_,_)=>(4-x1).toNat
noncomputable def hJ(x1:Int)(x2:Int)(x3:Int)(x4:jT)(x5:Int)(x6:Unit)(x7:(List cL))(x8:(List aK))(x9:(List aJ))(x10:(List Int))(x11:(List aM))(x12:Int)(x13:Unit)(x14:(List cL))(x15:(List aK))(x16:(List aJ))(x17:(List Int))(x18:(List aM)):Option ((Int×(Int×aDk))⊕aDk):=
 if(decide (x3<x2))=true then
 if x4.2.2.1=true then
 letB (lY x4) fun v1=>
 if(decide (length x14+length (v1.2::([]:List cL))<=lT))=true then
 some (.inl (x1,(x2,((wrap .i64 (x3+(1:Int))),(v1.1,(x5,(x6,(x7,(x8,(x9,(x10,(x11,(x12,(x13,((List.append x14 (v1.2::([]:List cL))),(x15,(x16,(x17,(x18,())))))))))))))))))))
 else
 none
 else
 some (.inr (x1,(x4,(x5,(x6,(x7,(x8,(x9,(x10,(x11,(x12,(x13,(x14,(x15,(x16,(x17,(x18,())))))))))))))))))
 else
 some (.inr (x1,(x4,(x5,(x6,(x7,(x8,(x9,(x10,(x11,(x12,(x13,(x14,(x15,(x16,(x17,(x18,())))))))))))))))))
noncomputable def aEC(x1:Int)(x2:Int)(x3:Int)(x4:jT)(x5:Int)(x6:Unit)(x7:(List cL))(x8:(List aK))(x9:(List aJ))(x10:(List Int))(x11:(List aM))(x12:Int)(x13:Unit)(x14:(List cL))(x15:(List aK))(x16:(List aJ))(x17:(List Int))(x18:(List aM)):Option ((Int×(Int×aDk))⊕aDk):=
 if(decide (x3<x2))=true then
 if x4.2.2.1=true then
 letB (jP x4) fun v1=>
 if(decide (length x15+length (v1.2::([]:List aK))<=lT))=true then
 some (.inl (x1,(x2,((wrap .i64 (x3+(1:Int))),(v1.1,(x5,(x6,(x7,(x8,(x9,(x10,(x11,(x12,(x13,(x14,((List.append x15 (v1.2::([]:List aK))),(x16,(x17,(x18,())))))))))))))))))))
 else
 none
 else
 some (.inr (x1,(x4,(x5,(x6,(x7,(x8,(x9,(x10,(x11,(x12,(x13,(x14,(x15,(x16,(x17,(x18,())))))))))))))))))
 else
 some (.inr (x1,(x4,(x5,(x6,(x7,(x8,(x9,(x10,(x11,(x12,(x13,(x14,(x15,(x16,(x17,(x18,())))))))))))))))))
noncomputable def aLG(x1:Int)(x2:Int)(x3:Int)(x4:jT)(x5:Int)(x6:Unit)(x7:(List cL))(x8:(List aK))(x9:(List aJ))(x10:(List Int))(x11:(List aM))(x12:Int)(x13:Unit)(x14:(List cL))(x15:(List aK))(x16:(List aJ))(x17:(List Int))(x18:(List aM)):Option ((Int×(Int×aDk))⊕(jT×zt3)):=
 if(decide (x3<x2))=true then
 if x4.2.2.1=true then
 if(gJ.pre x4 x1)=true then
 letB (gJ x4 x1) fun v1=>
 if(decide (length x16+length (v1.2::([]:List aJ))<=lT))=true then
 some (.inl (x1,(x2,((wrap .i64 (x3+(1:Int))),(v1.1,(x5,(x6,(x7,(x8,(x9,(x10,(x11,(x12,(x13,(x14,(x15,((List.append x16 (v1.2::([]:List aJ))),(x17,(x18,())))))))))))))))))))
 else
 none
 else
 none
 else
 some (.inr (x4,(x5,(x6,(x7,(x8,(x9,(x10,(x11,(x12,(x13,(x14,(x15,(x16,(x17,(x18,()))))))))))))))))
 else
 some (.inr (x4,(x5,(x6,(x7,(x8,(x9,(x10,(x11,(x12,(x13,(x14,(x15,(x16,(x17,(x18,()))))))))))))))))
noncomputable def aLu(x1:Int)(x2:jT)(x3:Int)(x4:Unit)(x5:(List cL))(x6:(List aK))(x7:(List aJ))(x8:(List Int))(x9:(List aM))(x10:Int)(x11:Unit)(x12:(List cL))(x13:(List aK))(x14:(List aJ))(x15:(List Int))(x16:(List aM)):Option (aDk⊕(jT×zt3)):=
 if(decide (x1<(4:Int)))=true then
 letB (aA x2) fun v1=>
 if(decide (length x15+length (v1.2::([]:List Int))<=lT))=true then
 letB (aA v1.1) fun v2=>
 letB (aA v2.1) fun v3=>
 letB (aP v3.1) fun v4=>
 letB (aP v4.1) fun v5=>
 if(decide (length x16+length ((v2.2,((wrap .i64 (v3.2-(1:Int))),(v4.2,(v5.2,()))))::([]:List aM))<=lT))=true then
 some (.inl ((wrap .i64 (x1+(1:Int))),(v5.1,(x3,(x4,(x5,(x6,(x7,(x8,(x9,(x10,(x11,(x12,(x13,(x14,((List.append x15 (v1.2::([]:List Int))),((List.append x16 ((v2.2,((wrap .i64 (v3.2-(1:Int))),(v4.2,(v5.2,()))))::([]:List aM))),())))))))))))))))))
 else
 none
 else
 none
 else
 some (.inr (x2,(x3,(x4,(x5,(x6,(x7,(x8,(x9,(x10,(x11,(x12,(x13,(x14,(x15,(x16,()))))))))))))))))
abbrev wf(x0:jT)(x1:Int):Prop:=fW [(.ref oS .f),(.val (.int .i64) .f)] (x0,(x1,()))
noncomputable def aR(x0:jT)(x1:Int):Option ((jT×Unit)×(bI×Unit)):=
 letB (aA x0) fun v1=>
 if(eP.pre4 (x1,(v1.2,((0:Int),(v1.1,((0:Int),((),(([]:List cL),(([]:List aK),(([]:List aJ),(([]:List Int),(([]:List aM),aN8))))))))))))=true then
 letB (eP.fn4 (x1,(v1.2,((0:Int),(v1.1,((0:Int),((),(([]:List cL),(([]:List aK),(([]:List aJ),(([]:List Int),(([]:List aM),aN8)))))))))))) fun v2=>
 letB (aA v2.2.1) fun v3=>
 if(eP.pre10 (v2.1,(v3.2,((0:Int),(v3.1,v2.2.2)))))=true then
 letB (eP.fn10 (v2.1,(v3.2,((0:Int),(v3.1,v2.2.2))))) fun v4=>
 letB (aA v4.2.1) fun v5=>
 if(eP.pre16 (v4.1,(v5.2,((0:Int),(v5.1,v4.2.2)))))=true then
 letB (eP.fn16 (v4.1,(v5.2,((0:Int),(v5.1,v4.2.2))))) fun v6=>
 letB (aA v6.1) fun v7=>
 if(eP.pre22 ((0:Int),(v7.1,(v6.2.1,(v6.2.2.1,(v6.2.2.2.1,(v6.2.2.2.2.1,(v6.2.2.2.2.2.1,(v6.2.2.2.2.2.2.1,(v6.2.2.2.2.2.2.2.1,(v7.2,v6.2.2.2.2.2.2.2.2.2)))))))))))=true then
 letB (eP.fn22 ((0:Int),(v7.1,(v6.2.1,(v6.2.2.1,(v6.2.2.2.1,(v6.2.2.2.2.1,(v6.2.2.2.2.2.1,(v6.2.2.2.2.2.2.1,(v6.2.2.2.2.2.2.2.1,(v7.2,v6.2.2.2.2.2.2.2.2.2))))))))))) fun v8=>
 some ((v8.1,()),((v8.2.2.2.2.2.2.2.2.2.2.1,(v8.2.2.2.2.2.2.2.2.2.2.2.1,(v8.2.2.2.2.2.2.2.2.2.2.2.2.1,(v8.2.2.2.2.2.2.2.2.1,(v8.2.2.2.2.2.2.2.2.2.2.2.2.2.1,(v8.2.2.2.2.2.2.2.2.2.2.2.2.2.2.1,v8.2.2.2.2.2.2.2.2.2.1)))))),()))
 else
 none
 else
 none
 else
 none
 else
 none
theorem zE(x1 x2 x3 x4 x5 x6 x7 x8 x9 x10 x11 x12 x13 x14 x15 x16 x17 x18)(hp:pre4 (x1,(x2,(x3,(x4,(x5,(x6,(x7,(x8,(x9,(x10,(x11,(x12,(x13,(x14,(x15,(x16,(x17,(x18,()))))))))))))))))))=true):Rounds pre4 qD fn4 (x1,(x2,(x3,(x4,(x5,(x6,(x7,(x8,(x9,(x10,(x11,(x12,(x13,(x14,(x15,(x16,(x17,(x18,())))))))))))))))))) (hJ x1 x2 x3 x4 x5 x6 x7 x8 x9 x10 x11 x12 x13 x14 x15 x16 x17 x18):=by
 have h1:lp x2 x3 x14.length=true:=hp
 unfold hJ
 by_cases hlt:x3<x2
 case neg=>exact jC (by rw[Za];exact hlt) (congrArg (F4 x1 x5 x6 x7 x8 x9 x10 x11) (uR (lX aA aP true) true x4 (x14,(x15,(x16,(x12,(x17,(x18,x13)))))) hlt))
 by_cases hf:x4.2.2.1=true
 case neg=>exact fO (Zd hlt) (jC hf (congrArg (F4 x1 x5 x6 x7 x8 x9 x10 x11) (tP (lX aA aP true) true x4 (x14,(x15,(x16,(x12,(x17,(x18,x13)))))) _ hf)))
 rw[aBe h1 hlt]
 exact fO (Zd hlt) (fO hf (lV (fO (Zd (aCA h1 hlt _)) ⟨yJ h1 hlt _,aBc hlt,congrArg (F4 x1 x5 x6 x7 x8 x9 x10 x11) (aAb (lX aA aP true) true x4 (x14,(x15,(x16,(x12,(x17,(x18,x13)))))) hlt hf)⟩)))
theorem aNx(x1 x2 x3 x4 x5 x6 x7 x8 x9 x10 x11 x12 x13 x14 x15 x16 x17 x18)(hp:pre10 (x1,(x2,(x3,(x4,(x5,(x6,(x7,(x8,(x9,(x10,(x11,(x12,(x13,(x14,(x15,(x16,(x17,(x18,()))))))))))))))))))=true):Rounds pre10 aLr fn10 (x1,(x2,(x3,(x4,(x5,(x6,(x7,(x8,(x9,(x10,(x11,(x12,(x13,(x14,(x15,(x16,(x17,(x18,())))))))))))))))))) (aEC x1 x2 x3 x4 x5 x6 x7 x8 x9 x10 x11 x12 x13 x14 x15 x16 x17 x18):=by
 have h1:lp x2 x3 x15.length=true:=hp
 unfold aEC
 by_cases hlt:x3<x2
 case neg=>exact jC (by rw[Za];exact hlt) (congrArg (F10 x1 x5 x6 x7 x8 x9 x10 x11) (uR (gR aA true) true x4 (x14,(x15,(x16,(x12,(x17,(x18,x13)))))) hlt))
 by_cases hf:x4.2.2.1=true
 case neg=>exact fO (Zd hlt) (jC hf (congrArg (F10 x1 x5 x6 x7 x8 x9 x10 x11) (tP (gR aA true) true x4 (x14,(x15,(x16,(x12,(x17,(x18,x13)))))) _ hf)))
 rw[aBe h1 hlt]
 exact fO (Zd hlt) (fO hf (lV (fO (Zd (aCA h1 hlt _)) ⟨yJ h1 hlt _,aBc hlt,congrArg (F10 x1 x5 x6 x7 x8 x9 x10 x11) (aAb (gR aA true) true x4 (x14,(x15,(x16,(x12,(x17,(x18,x13)))))) hlt hf)⟩)))
theorem aP4(x1 x2 x3 x4 x5 x6 x7 x8 x9 x10 x11 x12 x13 x14 x15 x16 x17 x18)(hp:pre16 (x1,(x2,(x3,(x4,(x5,(x6,(x7,(x8,(x9,(x10,(x11,(x12,(x13,(x14,(x15,(x16,(x17,(x18,()))))))))))))))))))=true):Rounds pre16 aOz fn16 (x1,(x2,(x3,(x4,(x5,(x6,(x7,(x8,(x9,(x10,(x11,(x12,(x13,(x14,(x15,(x16,(x17,(x18,())))))))))))))))))) (aLG x1 x2 x3 x4 x5 x6 x7 x8 x9 x10 x11 x12 x13 x14 x15 x16 x17 x18):=by
 have hp:(decide (x1<=1000)&&(lp x2 x3 x16.length))=true:=hp
 simp only[Zb] at hp
 obtain⟨he,h1⟩:=hp
 unfold aLG
 by_cases hlt:x3<x2
 case neg=>exact jC (by rw[Za];exact hlt) (congrArg (F16 x5 x6 x7 x8 x9 x10 x11) (uR (fZ aA true x1) true x4 (x14,(x15,(x16,(x12,(x17,(x18,x13)))))) hlt))
 by_cases hf:x4.2.2.1=true
 case neg=>exact fO (Zd hlt) (jC hf (congrArg (F16 x5 x6 x7 x8 x9 x10 x11) (tP (fZ aA true x1) true x4 (x14,(x15,(x16,(x12,(x17,(x18,x13)))))) _ hf)))
 rw[aBe h1 hlt]
 exact fO (Zd hlt) (fO hf (fO he (lV (fO (Zd (aCA h1 hlt _)) ⟨qN he (yJ h1 hlt _),aBc hlt,congrArg (F16 x5 x6 x7 x8 x9 x10 x11) (aAb (fZ aA true x1) true x4 (x14,(x15,(x16,(x12,(x17,(x18,x13)))))) hlt hf)⟩))))
theorem aOZ(x1 x2 x3 x4 x5 x6 x7 x8 x9 x10 x11 x12 x13 x14 x15 x16)(hp:pre22 (x1,(x2,(x3,(x4,(x5,(x6,(x7,(x8,(x9,(x10,(x11,(x12,(x13,(x14,(x15,(x16,()))))))))))))))))=true):Rounds pre22 aOr fn22 (x1,(x2,(x3,(x4,(x5,(x6,(x7,(x8,(x9,(x10,(x11,(x12,(x13,(x14,(x15,(x16,())))))))))))))))) (aLu x1 x2 x3 x4 x5 x6 x7 x8 x9 x10 x11 x12 x13 x14 x15 x16):=by
 have hp:(lp 4 x1 x15.length&&(lp 4 x1 x16.length))=true:=hp
 simp only[Zb] at hp
 obtain⟨h1,h2⟩:=hp
 unfold aLu
 by_cases hlt:x1<4
 case neg=>exact jC (by rw[Za];exact hlt) (congrArg (F22 x3 x4 x5 x6 x7 x8 x9) (aGF (qU aA aP) x2 (x12,(x13,(x14,(x10,(x15,(x16,x11)))))) hlt))
 rw[aBe h1 hlt]
 exact fO (Zd hlt) (lV (fO (Zd (aCA h1 hlt _)) (lV (lV (lV (lV (fO (Zd (aCA h2 hlt _)) ⟨qN (yJ h1 hlt _) (yJ h2 hlt _),aBc hlt,congrArg (F22 x3 x4 x5 x6 x7 x8 x9) (aJA (qU aA aP) x2 (x12,(x13,(x14,(x10,(x15,(x16,x11)))))) hlt)⟩)))))))
theorem eq(x0:R)(x1:Int)(hw:wf x0 x1)(hp:pre x0 x1=true):aR x0 x1=some (((eP x0 x1).1,()),((eP x0 x1).2,())):=by
 have hb:bQ x0.1=true:=gN hw.1.1.2
 have n1:=(kF hb).2
 unfold aR
 refine cU (dS (show pre4 _=true from yI n1 (Nat.zero_le _)) (aFs (show fn4 _=F4 x1 0 () [] [] [] [] [] (gS aA true (lX aA aP true) mN x0) from rfl) ?_))
 show _=some (((aEm aA aP true x1 (gS aA true (lX aA aP true) mN x0).2 (gS aA true (lX aA aP true) mN x0).1).1,()),((aEm aA aP true x1 (gS aA true (lX aA aP true) mN x0).2 (gS aA true (lX aA aP true) mN x0).1).2,()))
 have e1:=(tR aAI mN x0).1.1
 have s1:=sP (num:=aA) (good:=true) (one:=lX aA aP true) (P:=fun k:bI=>k.2=mN.2) (fun _ _ h=>h) mN x0 rfl
 generalize gS aA true (lX aA aP true) mN x0=v1 at *
 have hb1:bQ v1.1.1=true:=by rw[e1];exact hb
 have n2:=(kF hb1).2
 refine cU (dS (show pre10 _=true from yI (c:=v1.2.2.1.length) n2 (by rw[s1];exact Nat.zero_le _)) (aFs (show fn10 _=F10 x1 0 () [] [] [] [] [] (gS aA true (gR aA true) v1.2 v1.1) from rfl) ?_))
 show _=some (((aF1 aA aP true x1 (gS aA true (gR aA true) v1.2 v1.1).2 (gS aA true (gR aA true) v1.2 v1.1).1).1,()),((aF1 aA aP true x1 (gS aA true (gR aA true) v1.2 v1.1).2 (gS aA true (gR aA true) v1.2 v1.1).1).2,()))
 have e2:=(tR wD v1.2 v1.1).1.1
 have s2:=sP (num:=aA) (good:=true) (one:=gR aA true) (P:=fun k:bI=>k.2.2=mN.2.2) (fun _ _ h=>h) v1.2 v1.1 (by rw[s1])
 generalize gS aA true (gR aA true) v1.2 v1.1=v2 at *
 have hb2:bQ v2.1.1=true:=by rw[e2];exact hb1
 have n3:=(kF hb2).2
 refine cU (dS (show pre16 _=true from qN hp (yI (c:=v2.2.2.2.1.length) n3 (by rw[s2];exact Nat.zero_le _))) (aFs (show fn16 _=F16 0 () [] [] [] [] [] (gS aA true (fZ aA true x1) v2.2 v2.1) from rfl) ?_))
 show _=some (((aCH aA aP (gS aA true (fZ aA true x1) v2.2 v2.1).2 (gS aA true (fZ aA true x1) v2.2 v2.1).1).1,()),((aCH aA aP (gS aA true (fZ aA true x1) v2.2 v2.1).2 (gS aA true (fZ aA true x1) v2.2 v2.1).1).2,()))
 have s3:=sP (num:=aA) (good:=true) (one:=fZ aA true x1) (P:=fun k:bI=>k.2.2.2=mN.2.2.2) (fun _ _ h=>h) v2.2 v2.1 (by rw[s2])
 generalize gS aA true (fZ aA true x1) v2.2 v2.1=v3 at *
 have z1:v3.2.2.2.2.2=mN.2.2.2.2:=congrArg Prod.snd s3
 exact cU (dS (show pre22 _=true from qN (yI (c:=v3.2.2.2.2.2.1.length) (by decide) (by rw[z1];exact Nat.zero_le _)) (yI (c:=v3.2.2.2.2.2.2.1.length) (by decide) (by rw[z1];exact Nat.zero_le _))) (cU rfl))
end eP
def oU(k:bI)(s:R):bI×R:=((lX aC aV false k s).2,(lX aC aV false k s).1)
namespace oU
def pre(k:bI)(_:R):Bool:=decide (k.1.length<=4000000000)
abbrev wf(x0:bI)(x1:jT):Prop:=fW [(.ref zk1 .o),(.cell 2 oS),(.ref oS .f)] (x0,(x1,()))
noncomputable def aR(x0:bI)(x1:jT):Option ((bI×(jT×Unit))×Unit):=
 letB (nX x1) fun v1=>
 if(decide (length x0.1+length (v1.2::([]:List cL))<=lT))=true then
 some ((((List.append x0.1 (v1.2::([]:List cL))),x0.2),(v1.1,())),())
 else
 none
theorem eq(x0:bI)(x1:R)(_:wf x0 x1)(hp:pre x0 x1=true):aR x0 x1=some (((oU x0 x1).1,((oU x0 x1).2,())),()):=by
 unfold aR
 exact cU (dS (Zd (aD5 (Ze hp) _)) rfl)
end oU
def fP(s:R)(k:bI):R×bI:=gS aC false (lX aC aV false) k s
namespace fP
abbrev S2:Type:=(Int×(Int×(jT×aDp)))
abbrev O2:Type:=(jT×aDp)
def pre(_:R)(k:bI):Bool:=decide (k.1.length<=1000)
def F2(v:R×bI):O2:=(v.1,(v.2.2.2.2.1,(v.2.2.2.2.2.2.2,(v.2.1,(v.2.2.1,(v.2.2.2.1,(v.2.2.2.2.2.1,(v.2.2.2.2.2.2.1,()))))))))
def pre2:S2->Bool:=fun(x1,x2,_,_,_,x6,_,_,_,_,_)=>lp x1 x2 x6.length
def fn2:S2->O2:=fun(x1,x2,x3,x4,x5,x6,x7,x8,x9,x10,_)=>F2 (kW (lX aC aV false) false (x1-x2).toNat (x6,(x7,(x8,(x4,(x9,(x10,x5)))))) x3)
def kY:S2->Nat:=fun(x1,x2,_,_,_,_,_,_,_,_,_)=>(x1-x2).toNat
noncomputable def cW(x1:Int)(x2:Int)(x3:jT)(x4:Int)(x5:Unit)(x6:(List cL))(x7:(List aK))(x8:(List aJ))(x9:(List Int))(x10:(List aM)):Option ((Int×(Int×(jT×aDp)))⊕(jT×aDp)):=
 if(decide (x2<x1))=true then
 if(!x3.2.2.1)=true then
 if(oU.pre (x6,(x7,(x8,(x4,(x9,(x10,x5)))))) x3)=true then
 letB (oU (x6,(x7,(x8,(x4,(x9,(x10,x5)))))) x3) fun v1=>
 some (.inl (x1,((wrap .i64 (x2+(1:Int))),(v1.2,(v1.1.2.2.2.1,(v1.1.2.2.2.2.2.2,(v1.1.1,(v1.1.2.1,(v1.1.2.2.1,v1.1.2.2.2.2)))))))))
 else
 none
 else
 some (.inr (x3,(x4,(x5,(x6,(x7,(x8,(x9,(x10,())))))))))
 else
 some (.inr (x3,(x4,(x5,(x6,(x7,(x8,(x9,(x10,())))))))))
abbrev wf(x0:jT)(x1:bI):Prop:=fW [(.ref oS .f),(.ref zk1 .o),(.cell 0 oS)] (x0,(x1,()))
noncomputable def aR(x0:jT)(x1:bI):Option ((jT×(bI×Unit))×Unit):=
 letB (aC x0) fun v1=>
 if(fP.pre2 (v1.2,((0:Int),(v1.1,(x1.2.2.2.1,(x1.2.2.2.2.2.2,(x1.1,(x1.2.1,(x1.2.2.1,x1.2.2.2.2)))))))))=true then
 letB (fP.fn2 (v1.2,((0:Int),(v1.1,(x1.2.2.2.1,(x1.2.2.2.2.2.2,(x1.1,(x1.2.1,(x1.2.2.1,x1.2.2.2.2))))))))) fun v2=>
 some ((v2.1,((v2.2.2.2.1,(v2.2.2.2.2.1,(v2.2.2.2.2.2.1,(v2.2.1,(v2.2.2.2.2.2.2.1,(v2.2.2.2.2.2.2.2.1,v2.2.2.1)))))),())),())
 else
 none
theorem qO(x1 x2 x3 x4 x5 x6 x7 x8 x9 x10)(hp:pre2 (x1,(x2,(x3,(x4,(x5,(x6,(x7,(x8,(x9,(x10,()))))))))))=true):Rounds pre2 kY fn2 (x1,(x2,(x3,(x4,(x5,(x6,(x7,(x8,(x9,(x10,())))))))))) (cW x1 x2 x3 x4 x5 x6 x7 x8 x9 x10):=by
 have h1:lp x1 x2 x6.length=true:=hp
 unfold cW
 by_cases hlt:x2<x1
 case neg=>exact jC (by rw[Za];exact hlt) (congrArg (F2) (uR (lX aC aV false) false x3 (x6,(x7,(x8,(x4,(x9,(x10,x5)))))) hlt))
 by_cases hf:x3.2.2.1=false
 case neg=>exact fO (Zd hlt) (jC (by simpa using hf) (congrArg (F2) (tP (lX aC aV false) false x3 (x6,(x7,(x8,(x4,(x9,(x10,x5)))))) _ hf)))
 rw[aBe h1 hlt]
 exact fO (Zd hlt) (fO (by rw[hf];rfl) (fO (Zd (aIg h1 hlt)) (lV ⟨yJ h1 hlt _,aBc hlt,congrArg (F2) (aAb (lX aC aV false) false x3 (x6,(x7,(x8,(x4,(x9,(x10,x5)))))) hlt hf)⟩)))
theorem eq(x0:R)(x1:bI)(hw:wf x0 x1)(hp:pre x0 x1=true):aR x0 x1=some (((fP x0 x1).1,((fP x0 x1).2,())),()):=by
 have hn:=oO (s:=x0) (gN hw.1.1.2)
 unfold aR
 exact cU (dS (show pre2 _=true from yI hn.2 (Ze hp)) (cU rfl))
end fP
def oW(k:bI)(s:R):bI×R:=((gR aC false k s).2,(gR aC false k s).1)
namespace oW
def pre(k:bI)(_:R):Bool:=decide (k.2.1.length<=4000000000)
abbrev wf(x0:bI)(x1:jT):Prop:=fW [(.ref zk1 .o),(.cell 2 oS),(.ref oS .f)] (x0,(x1,()))
noncomputable def aR(x0:bI)(x1:jT):Option ((bI×(jT×Unit))×Unit):=
 letB (lF x1) fun v1=>
 if(decide (length x0.2.1+length (v1.2::([]:List aK))<=lT))=true then
 some (((x0.1,((List.append x0.2.1 (v1.2::([]:List aK))),x0.2.2)),(v1.1,())),())
 else
 none
theorem eq(x0:bI)(x1:R)(_:wf x0 x1)(hp:pre x0 x1=true):aR x0 x1=some (((oW x0 x1).1,((oW x0 x1).2,())),()):=by
 unfold aR
 exact cU (dS (Zd (aD5 (Ze hp) _)) rfl)
end oW
def fN(s:R)(k:bI):R×bI:=gS aC false (gR aC false) k s
namespace fN
abbrev S2:Type:=(Int×(Int×(jT×aDp)))
abbrev O2:Type:=(jT×aDp)
def pre(_:R)(k:bI):Bool:=decide (k.2.1.length<=1000)
def F2(v:R×bI):O2:=(v.1,(v.2.2.2.2.1,(v.2.2.2.2.2.2.2,(v.2.1,(v.2.2.1,(v.2.2.2.1,(v.2.2.2.2.2.1,(v.2.2.2.2.2.2.1,()))))))))
def pre2:S2->Bool:=fun(x1,x2,_,_,_,_,x7,_,_,_,_)=>lp x1 x2 x7.length
def fn2:S2->O2:=fun(x1,x2,x3,x4,x5,x6,x7,x8,x9,x10,_)=>F2 (kW (gR aC false) false (x1-x2).toNat (x6,(x7,(x8,(x4,(x9,(x10,x5)))))) x3)
def kY:S2->Nat:=fun(x1,x2,_,_,_,_,_,_,_,_,_)=>(x1-x2).toNat
noncomputable def cW(x1:Int)(x2:Int)(x3:jT)(x4:Int)(x5:Unit)(x6:(List cL))(x7:(List aK))(x8:(List aJ))(x9:(List Int))(x10:(List aM)):Option ((Int×(Int×(jT×aDp)))⊕(jT×aDp)):=
 if(decide (x2<x1))=true then
 if(!x3.2.2.1)=true then
 if(oW.pre (x6,(x7,(x8,(x4,(x9,(x10,x5)))))) x3)=true then
 letB (oW (x6,(x7,(x8,(x4,(x9,(x10,x5)))))) x3) fun v1=>
 some (.inl (x1,((wrap .i64 (x2+(1:Int))),(v1.2,(v1.1.2.2.2.1,(v1.1.2.2.2.2.2.2,(v1.1.1,(v1.1.2.1,(v1.1.2.2.1,v1.1.2.2.2.2)))))))))
 else
 none
 else
 some (.inr (x3,(x4,(x5,(x6,(x7,(x8,(x9,(x10,())))))))))
 else
 some (.inr (x3,(x4,(x5,(x6,(x7,(x8,(x9,(x10,())))))))))
abbrev wf(x0:jT)(x1:bI):Prop:=fW [(.ref oS .f),(.ref zk1 .o),(.cell 0 oS)] (x0,(x1,()))
noncomputable def aR(x0:jT)(x1:bI):Option ((jT×(bI×Unit))×Unit):=
 letB (aC x0) fun v1=>
 if(fN.pre2 (v1.2,((0:Int),(v1.1,(x1.2.2.2.1,(x1.2.2.2.2.2.2,(x1.1,(x1.2.1,(x1.2.2.1,x1.2.2.2.2)))))))))=true then
 letB (fN.fn2 (v1.2,((0:Int),(v1.1,(x1.2.2.2.1,(x1.2.2.2.2.2.2,(x1.1,(x1.2.1,(x1.2.2.1,x1.2.2.2.2))))))))) fun v2=>
 some ((v2.1,((v2.2.2.2.1,(v2.2.2.2.2.1,(v2.2.2.2.2.2.1,(v2.2.1,(v2.2.2.2.2.2.2.1,(v2.2.2.2.2.2.2.2.1,v2.2.2.1)))))),())),())
 else
 none
theorem qO(x1 x2 x3 x4 x5 x6 x7 x8 x9 x10)(hp:pre2 (x1,(x2,(x3,(x4,(x5,(x6,(x7,(x8,(x9,(x10,()))))))))))=true):Rounds pre2 kY fn2 (x1,(x2,(x3,(x4,(x5,(x6,(x7,(x8,(x9,(x10,())))))))))) (cW x1 x2 x3 x4 x5 x6 x7 x8 x9 x10):=by
 have h1:lp x1 x2 x7.length=true:=hp
 unfold cW
 by_cases hlt:x2<x1
 case neg=>exact jC (by rw[Za];exact hlt) (congrArg (F2) (uR (gR aC false) false x3 (x6,(x7,(x8,(x4,(x9,(x10,x5)))))) hlt))
 by_cases hf:x3.2.2.1=false
 case neg=>exact fO (Zd hlt) (jC (by simpa using hf) (congrArg (F2) (tP (gR aC false) false x3 (x6,(x7,(x8,(x4,(x9,(x10,x5)))))) _ hf)))
 rw[aBe h1 hlt]
 exact fO (Zd hlt) (fO (by rw[hf];rfl) (fO (Zd (aIg h1 hlt)) (lV ⟨yJ h1 hlt _,aBc hlt,congrArg (F2) (aAb (gR aC false) false x3 (x6,(x7,(x8,(x4,(x9,(x10,x5)))))) hlt hf)⟩)))
theorem eq(x0:R)(x1:bI)(hw:wf x0 x1)(hp:pre x0 x1=true):aR x0 x1=some (((fN x0 x1).1,((fN x0 x1).2,())),()):=by
 have hn:=oO (s:=x0) (gN hw.1.1.2)
 unfold aR
 exact cU (dS (show pre2 _=true from yI hn.2 (Ze hp)) (cU rfl))
end fN
def nZ(k:bI)(s:R)(p:aW):bI×(R×aW):=((fZ aC false p.1 k s).2,((fZ aC false p.1 k s).1,p))
namespace nZ
def pre(k:bI)(_:R)(p:aW):Bool:=decide (p.1<=1000)&&decide (k.2.2.1.length<=4000000000)
abbrev wf(x0:bI)(x1:jT)(x2:aW):Prop:=fW [(.ref zk1 .o),(.cell 2 oS),(.ref oS .f),(.ref wG .o)] (x0,(x1,(x2,())))
noncomputable def aR(x0:bI)(x1:jT)(x2:aW):Option ((bI×(jT×(aW×Unit)))×Unit):=
 if(gZ.pre x1 x2.1)=true then
 letB (gZ x1 x2.1) fun v1=>
 if(decide (length x0.2.2.1+length (v1.2::([]:List aJ))<=lT))=true then
 some (((x0.1,(x0.2.1,((List.append x0.2.2.1 (v1.2::([]:List aJ))),x0.2.2.2))),(v1.1,(x2,()))),())
 else
 none
 else
 none
theorem eq(x0:bI)(x1:R)(x2:aW)(_:wf x0 x1 x2)(hp:pre x0 x1 x2=true):aR x0 x1 x2=some (((nZ x0 x1 x2).1,((nZ x0 x1 x2).2.1,((nZ x0 x1 x2).2.2,()))),()):=by
 simp only[pre,Zb,Za] at hp
 unfold aR
 exact dS (show gZ.pre _ _=true from Zd hp.1) (cU (dS (Zd (aD5 hp.2 _)) rfl))
end nZ
def eM(s:R)(k:bI)(p:aW):R×(bI×aW):=((gS aC false (fZ aC false p.1) k s).1,((gS aC false (fZ aC false p.1) k s).2,p))
namespace eM
abbrev S2:Type:=(Int×(Int×aMT))
abbrev O2:Type:=aMT
def pre(_:R)(k:bI)(p:aW):Bool:=decide (p.1<=1000)&&decide (k.2.2.1.length<=1000)
def F2(x11:aW)(v:R×bI):O2:=(v.1,(v.2.2.2.2.1,(v.2.2.2.2.2.2.2,(v.2.1,(v.2.2.1,(v.2.2.2.1,(v.2.2.2.2.2.1,(v.2.2.2.2.2.2.1,(x11,())))))))))
def pre2:S2->Bool:=fun(x1,x2,_,_,_,_,_,x8,_,_,x11,_)=>decide (x11.1<=1000)&&(lp x1 x2 x8.length)
def fn2:S2->O2:=fun(x1,x2,x3,x4,x5,x6,x7,x8,x9,x10,x11,_)=>F2 x11 (kW (fZ aC false x11.1) false (x1-x2).toNat (x6,(x7,(x8,(x4,(x9,(x10,x5)))))) x3)
def kY:S2->Nat:=fun(x1,x2,_,_,_,_,_,_,_,_,_,_)=>(x1-x2).toNat
noncomputable def cW(x1:Int)(x2:Int)(x3:jT)(x4:Int)(x5:Unit)(x6:(List cL))(x7:(List aK))(x8:(List aJ))(x9:(List Int))(x10:(List aM))(x11:aW):Option ((Int×(Int×aMT))⊕aMT):=
 if(decide (x2<x1))=true then
 if(!x3.2.2.1)=true then
 if(nZ.pre (x6,(x7,(x8,(x4,(x9,(x10,x5)))))) x3 x11)=true then
 letB (nZ (x6,(x7,(x8,(x4,(x9,(x10,x5)))))) x3 x11) fun v1=>
 some (.inl (x1,((wrap .i64 (x2+(1:Int))),(v1.2.1,(v1.1.2.2.2.1,(v1.1.2.2.2.2.2.2,(v1.1.1,(v1.1.2.1,(v1.1.2.2.1,(v1.1.2.2.2.2.1,(v1.1.2.2.2.2.2.1,(v1.2.2,()))))))))))))
 else
 none
 else
 some (.inr (x3,(x4,(x5,(x6,(x7,(x8,(x9,(x10,(x11,()))))))))))
 else
 some (.inr (x3,(x4,(x5,(x6,(x7,(x8,(x9,(x10,(x11,()))))))))))
abbrev wf(x0:jT)(x1:bI)(x2:aW):Prop:=fW [(.ref oS .f),(.ref zk1 .o),(.cell 0 oS),(.ref wG .o)] (x0,(x1,(x2,())))
noncomputable def aR(x0:jT)(x1:bI)(x2:aW):Option ((jT×(bI×(aW×Unit)))×Unit):=
 letB (aC x0) fun v1=>
 if(eM.pre2 (v1.2,((0:Int),(v1.1,(x1.2.2.2.1,(x1.2.2.2.2.2.2,(x1.1,(x1.2.1,(x1.2.2.1,(x1.2.2.2.2.1,(x1.2.2.2.2.2.1,(x2,()))))))))))))=true then
 letB (eM.fn2 (v1.2,((0:Int),(v1.1,(x1.2.2.2.1,(x1.2.2.2.2.2.2,(x1.1,(x1.2.1,(x1.2.2.1,(x1.2.2.2.2.1,(x1.2.2.2.2.2.1,(x2,())))))))))))) fun v2=>
 some ((v2.1,((v2.2.2.2.1,(v2.2.2.2.2.1,(v2.2.2.2.2.2.1,(v2.2.1,(v2.2.2.2.2.2.2.1,(v2.2.2.2.2.2.2.2.1,v2.2.2.1)))))),v2.2.2.2.2.2.2.2.2)),())
 else
 none
theorem qO(x1 x2 x3 x4 x5 x6 x7 x8 x9 x10 x11)(hp:pre2 (x1,(x2,(x3,(x4,(x5,(x6,(x7,(x8,(x9,(x10,(x11,())))))))))))=true):Rounds pre2 kY fn2 (x1,(x2,(x3,(x4,(x5,(x6,(x7,(x8,(x9,(x10,(x11,()))))))))))) (cW x1 x2 x3 x4 x5 x6 x7 x8 x9 x10 x11):=by
 have hp:(decide (x11.1<=1000)&&(lp x1 x2 x8.length))=true:=hp
 simp only[Zb] at hp
 obtain⟨he,h1⟩:=hp
 unfold cW
 by_cases hlt:x2<x1
 case neg=>exact jC (by rw[Za];exact hlt) (congrArg (F2 x11) (uR (fZ aC false x11.1) false x3 (x6,(x7,(x8,(x4,(x9,(x10,x5)))))) hlt))
 by_cases hf:x3.2.2.1=false
 case neg=>exact fO (Zd hlt) (jC (by simpa using hf) (congrArg (F2 x11) (tP (fZ aC false x11.1) false x3 (x6,(x7,(x8,(x4,(x9,(x10,x5)))))) _ hf)))
 rw[aBe h1 hlt]
 exact fO (Zd hlt) (fO (by rw[hf];rfl) (fO (qN he (Zd (aIg h1 hlt))) (lV ⟨qN he (yJ h1 hlt _),aBc hlt,congrArg (F2 x11) (aAb (fZ aC false x11.1) false x3 (x6,(x7,(x8,(x4,(x9,(x10,x5)))))) hlt hf)⟩)))
theorem eq(x0:R)(x1:bI)(x2:aW)(hw:wf x0 x1 x2)(hp:pre x0 x1 x2=true):aR x0 x1 x2=some (((eM x0 x1 x2).1,((eM x0 x1 x2).2.1,((eM x0 x1 x2).2.2,()))),()):=by
 have hn:=oO (s:=x0) (gN hw.1.1.2)
 simp only[pre,Zb,Za] at hp
 unfold aR
 exact cU (dS (show pre2 _=true from qN (Zd hp.1) (yI hn.2 hp.2)) (cU rfl))
end eM
theorem aHP{m:aK}{w:Int}(hw:w<=1000000)(hn:∀x∈m.2.2.2.2.1,0<=x.1)(h:dF m w=true):aBu m w:=by
 simp only[dF,Zb,Za,aAL,aB,xW,aCX,beq_iff_eq,decide_eq_decide] at h
 obtain⟨⟨⟨h5,h6⟩,⟨h7,h8⟩,⟨h9,h10⟩,h11,h12⟩,h2,h3,h1⟩:=h
 have hq:∀j,j<m.2.2.2.2.1.length->(m.2.2.2.2.1.getD j nW).1=m.2.2.2.1-(m.2.2.2.2.1.length:Int)+1+(j:Int):=fun j hj=>by
  have:=(h1 j hj).1
  rw[iV (n:=m.2.2.2.1-(m.2.2.2.2.1.length:Int)) (by omega) (by omega),iV (n:=m.2.2.2.1-(m.2.2.2.2.1.length:Int)+1) (by omega) (by omega),iV (by omega) (by omega)] at this
  exact this
 have hl:(m.2.2.2.2.1.length:Int)<=m.2.2.2.1+1:=by
  by_cases h0:0<m.2.2.2.2.1.length
  . have e1:=hq 0 h0
    have e2:=hn _ (yK h0 nW)
    omega
  . omega
 refine⟨⟨h5,h6,h7,h8,h9,h10,h11,h12,h2,hl,fun h=>by omega⟩,fun j hj=>(hq j hj).trans (by omega),fun x hx=>?_,aB1.1 fun j hj=>(h1 j hj).2.2⟩
 obtain⟨j,hj,rfl⟩:=aAn hx nW
 exact(h1 j hj).2.1
theorem aD7{s:aW}{k:bI}(hn:∀m∈k.2.1,∀x∈m.2.2.2.2.1,0<=x.1):dO s k=bX s k:=by
 rw[Bool.eq_iff_iff]
 simp only[dO,bX,wA,Zb]
 constructor
 . rintro⟨h0,h1,h2,h3,h4,h5,h6,h7,hr⟩
   have hs:=mD h0
   have hm:=tS.1 h7
   exact⟨h0,h1,h2,h3,h4,h5,h6,tS.2 ⟨fun m hm'=>⟨(uK (by omega)).2 (aHP (by omega) (hn m hm') (hm.1 m hm').1),(hm.1 m hm').2⟩,hm.2⟩,hr⟩
 . rintro⟨h0,h1,h2,h3,h4,h5,h6,h7,hr⟩
   have hs:=mD h0
   have hm:=tS.1 h7
   exact⟨h0,h1,h2,h3,h4,h5,h6,tS.2 ⟨fun m hm'=>⟨aDa (by omega) ((uK (by omega)).1 (hm.1 m hm').1),(hm.1 m hm').2⟩,hm.2⟩,hr⟩
def aBg(rows:Int)(b:List Int):R×bI:=aEu aA aP true rows (b,(0,(true,())))
def aGO(s:aW)(b:List Int)(w:R×bI):Bool:=w.1.2.2.1&&(decide (w.1.2.1=(b.length:Int))&&bX s w.2)
def pW(s:aW)(b:List Int):bI×Bool:=if dP s=true then(if aGO s b (aBg s.1 b)=true then((aBg s.1 b).2,true) else(mN,false)) else(mN,false)
abbrev kA:=pW
abbrev iO:=pW
def bOk(b:List Int):Bool:=bQ b&&decide (b.length<=16777000)
theorem aLT{b:List Int}(h:bOk b=true)(f:Bool):Inb (b,(0,(f,()))):=by
 simp only[bOk,Zb,Za] at h
 exact⟨h.1,h.2,Int.le_refl _,Int.natCast_nonneg _⟩
theorem aGq{s:aW}{b:List Int}(hb:bOk b=true)(hs:dP s=true):tJ (aBg s.1 b).2=true/\∀m∈(aBg s.1 b).2.2.1,∀x∈m.2.2.2.2.1,0<=x.1:=by
 have:=mD hs
 exact aNZ (by omega) (aLT hb true)
theorem aLZ{s:aW}{b:List Int}(hb:bOk b=true)(h:(pW s b).2=true):tJ (pW s b).1=true/\dO s (pW s b).1=bX s (pW s b).1:=by
 unfold pW at *
 by_cases hs:dP s=true
 case neg=>rw[if_neg hs] at h;cases h
 rw[if_pos hs] at *
 by_cases hk:aGO s b (aBg s.1 b)=true
 case neg=>rw[if_neg hk] at h;cases h
 rw[if_pos hk]
 obtain⟨k1,k2⟩:=aGq hb hs
 exact⟨k1,aD7 k2⟩
namespace kA
def pre(_:aW)(b:List Int):Bool:=bOk b
abbrev wf(x0:aW)(x1:(List Int)):Prop:=fW [(.val wG .f),(.val wM .f)] (x0,(x1,()))
noncomputable def aR(x0:aW)(x1:(List Int)):Option (Unit×(bI×(Bool×Unit))):=
 letB (dP x0) fun v1=>
 if(!v1)=true then
 some ((),(aBX,(false,())))
 else
 if(eP.pre (x1,((0:Int),(true,()))) x0.1)=true then
 letB (eP (x1,((0:Int),(true,()))) x0.1) fun v2=>
 if(!v2.1.2.2.1)=true then
 some ((),(aBX,(false,())))
 else
 if(!(decide (v2.1.2.1=((length x1:Nat):Int))))=true then
 some ((),(aBX,(false,())))
 else
 if(bX.pre x0 v2.2)=true then
 letB (bX x0 v2.2) fun v3=>
 if(!v3)=true then
 some ((),(aBX,(false,())))
 else
 some ((),(v2.2,(true,())))
 else
 none
 else
 none
theorem eq(x0:aW)(x1:List Int)(_:wf x0 x1)(hp:pre x0 x1=true):aR x0 x1=some ((),((kA x0 x1).1,((kA x0 x1).2,()))):=by
 unfold aR kA pW
 refine cU ?_
 by_cases hs:dP x0=true
 case neg=>rw[if_neg hs];exact dS (by simp[hs]) rfl
 have hf:=mD hs
 have hk:=(aGq hp hs).1
 rw[if_pos hs]
 refine mF (by simp[hs]) (dS (show eP.pre _ _=true from Zd (by omega)) (aFs (show eP _ _=aBg x0.1 x1 from rfl) ?_))
 unfold aGO
 generalize aBg x0.1 x1=w at *
 obtain⟨⟨b,i,f,_⟩,k⟩:=w
 cases f
 . exact dS rfl rfl
 refine mF Bool.false_ne_true ?_
 by_cases hi:i=(x1.length:Int)
 case neg=>rw[decide_eq_false hi];exact dS (by simp[hi]) rfl
 rw[Zd hi]
 refine mF (by simp[hi]) (dS (show bX.pre _ _=true from hk) (cU ?_))
 show(if(!bX x0 k)=true then _ else _)=_
 cases bX x0 k
 . exact dS rfl rfl
 . exact mF Bool.false_ne_true rfl
end kA
namespace iO
abbrev S10:Type:=((List Int)×(Int×aMB))
abbrev O10:Type:=((List Int)×aMB)
def pre(_:aW)(b:List Int):Bool:=bOk b
def F10(x1:List Int)(x3:aW)(x4:Int)(x5:Unit)(x6:List cL)(x7:List aK)(x8:List aJ)(x9:List Int)(x10:List aM)(v:R×bI):O10:=(x1,(x3,(x4,(x5,(x6,(x7,(x8,(x9,(x10,(v.1,(v.2.2.2.2.1,(v.2.2.2.2.2.2.2,(v.2.1,(v.2.2.1,(v.2.2.2.1,(v.2.2.2.2.2.1,(v.2.2.2.2.2.2.1,())))))))))))))))))
def pre10:S10->Bool:=fun(_,x2,_,_,_,_,_,_,_,_,_,_,_,_,_,_,x17,x18,_)=>lp 4 x2 x17.length&&(lp 4 x2 x18.length)
def fn10:S10->O10:=fun(x1,x2,x3,x4,x5,x6,x7,x8,x9,x10,x11,x12,x13,x14,x15,x16,x17,x18,_)=>F10 x1 x3 x4 x5 x6 x7 x8 x9 x10 (aAk (qU aC aV) (4-x2).toNat (x14,(x15,(x16,(x12,(x17,(x18,x13)))))) x11)
def aLr:S10->Nat:=fun(_,x2,_,_,_,_,_,_,_,_,_,_,_,_,_,_,_,_,_)=>(4-x2).toNat
noncomputable def aEC(x1:(List Int))(x2:Int)(x3:aW)(x4:Int)(x5:Unit)(x6:(List cL))(x7:(List aK))(x8:(List aJ))(x9:(List Int))(x10:(List aM))(x11:jT)(x12:Int)(x13:Unit)(x14:(List cL))(x15:(List aK))(x16:(List aJ))(x17:(List Int))(x18:(List aM)):Option (((List Int)×(Int×aMB))⊕((List Int)×aMB)):=
 if(decide (x2<(4:Int)))=true then
 letB (aC x11) fun v1=>
 if(decide (length x17+length (v1.2::([]:List Int))<=lT))=true then
 letB (aC v1.1) fun v2=>
 letB (aC v2.1) fun v3=>
 letB (aV v3.1) fun v4=>
 letB (aV v4.1) fun v5=>
 if(decide (length x18+length ((v2.2,((wrap .i64 (v3.2-(1:Int))),(v4.2,(v5.2,()))))::([]:List aM))<=lT))=true then
 some (.inl (x1,((wrap .i64 (x2+(1:Int))),(x3,(x4,(x5,(x6,(x7,(x8,(x9,(x10,(v5.1,(x12,(x13,(x14,(x15,(x16,((List.append x17 (v1.2::([]:List Int))),((List.append x18 ((v2.2,((wrap .i64 (v3.2-(1:Int))),(v4.2,(v5.2,()))))::([]:List aM))),())))))))))))))))))))
 else
 none
 else
 none
 else
 some (.inr (x1,(x3,(x4,(x5,(x6,(x7,(x8,(x9,(x10,(x11,(x12,(x13,(x14,(x15,(x16,(x17,(x18,()))))))))))))))))))
abbrev wf(x0:aW)(x1:(List Int)):Prop:=fW [(.val wG .f),(.val wM .f)] (x0,(x1,()))
noncomputable def aR(x0:aW)(x1:(List Int)):Option (Unit×(bI×(Bool×Unit))):=
 letB (dP x0) fun v1=>
 if(!v1)=true then
 some ((),(aBX,(false,())))
 else
 if(fP.pre (x1,tH) aBX)=true then
 letB (fP (x1,tH) aBX) fun v2=>
 if(fN.pre v2.1 v2.2)=true then
 letB (fN v2.1 v2.2) fun v3=>
 if(eM.pre v3.1 v3.2 x0)=true then
 letB (eM v3.1 v3.2 x0) fun v4=>
 letB (aC v4.1) fun v5=>
 if(iO.pre10 (x1,((0:Int),(v4.2.2,((0:Int),((),(([]:List cL),(([]:List aK),(([]:List aJ),(([]:List Int),(([]:List aM),(v5.1,(v5.2,(v4.2.1.2.2.2.2.2.2,(v4.2.1.1,(v4.2.1.2.1,(v4.2.1.2.2.1,v4.2.1.2.2.2.2)))))))))))))))))=true then
 letB (iO.fn10 (x1,((0:Int),(v4.2.2,((0:Int),((),(([]:List cL),(([]:List aK),(([]:List aJ),(([]:List Int),(([]:List aM),(v5.1,(v5.2,(v4.2.1.2.2.2.2.2.2,(v4.2.1.1,(v4.2.1.2.1,(v4.2.1.2.2.1,v4.2.1.2.2.2.2))))))))))))))))) fun v6=>
 if v6.2.2.2.2.2.2.2.2.2.1.2.2.1=true then
 some ((),(aBX,(false,())))
 else
 if(!(decide (v6.2.2.2.2.2.2.2.2.2.1.2.1=((length v6.1:Nat):Int))))=true then
 some ((),(aBX,(false,())))
 else
 if(dO.pre v6.2.1 (v6.2.2.2.2.2.2.2.2.2.2.2.2.1,(v6.2.2.2.2.2.2.2.2.2.2.2.2.2.1,(v6.2.2.2.2.2.2.2.2.2.2.2.2.2.2.1,(v6.2.2.2.2.2.2.2.2.2.2.1,(v6.2.2.2.2.2.2.2.2.2.2.2.2.2.2.2.1,(v6.2.2.2.2.2.2.2.2.2.2.2.2.2.2.2.2.1,v6.2.2.2.2.2.2.2.2.2.2.2.1)))))))=true then
 letB (dO v6.2.1 (v6.2.2.2.2.2.2.2.2.2.2.2.2.1,(v6.2.2.2.2.2.2.2.2.2.2.2.2.2.1,(v6.2.2.2.2.2.2.2.2.2.2.2.2.2.2.1,(v6.2.2.2.2.2.2.2.2.2.2.1,(v6.2.2.2.2.2.2.2.2.2.2.2.2.2.2.2.1,(v6.2.2.2.2.2.2.2.2.2.2.2.2.2.2.2.2.1,v6.2.2.2.2.2.2.2.2.2.2.2.1))))))) fun v7=>
 if(!v7)=true then
 some ((),(aBX,(false,())))
 else
 some ((),((v6.2.2.2.2.2.2.2.2.2.2.2.2.1,(v6.2.2.2.2.2.2.2.2.2.2.2.2.2.1,(v6.2.2.2.2.2.2.2.2.2.2.2.2.2.2.1,(v6.2.2.2.2.2.2.2.2.2.2.1,(v6.2.2.2.2.2.2.2.2.2.2.2.2.2.2.2.1,(v6.2.2.2.2.2.2.2.2.2.2.2.2.2.2.2.2.1,v6.2.2.2.2.2.2.2.2.2.2.2.1)))))),(true,())))
 else
 none
 else
 none
 else
 none
 else
 none
 else
 none
theorem aNx(x1 x2 x3 x4 x5 x6 x7 x8 x9 x10 x11 x12 x13 x14 x15 x16 x17 x18)(hp:pre10 (x1,(x2,(x3,(x4,(x5,(x6,(x7,(x8,(x9,(x10,(x11,(x12,(x13,(x14,(x15,(x16,(x17,(x18,()))))))))))))))))))=true):Rounds pre10 aLr fn10 (x1,(x2,(x3,(x4,(x5,(x6,(x7,(x8,(x9,(x10,(x11,(x12,(x13,(x14,(x15,(x16,(x17,(x18,())))))))))))))))))) (aEC x1 x2 x3 x4 x5 x6 x7 x8 x9 x10 x11 x12 x13 x14 x15 x16 x17 x18):=by
 have hp:(lp 4 x2 x17.length&&(lp 4 x2 x18.length))=true:=hp
 simp only[Zb] at hp
 obtain⟨h1,h2⟩:=hp
 unfold aEC
 by_cases hlt:x2<4
 case neg=>exact jC (by rw[Za];exact hlt) (congrArg (F10 x1 x3 x4 x5 x6 x7 x8 x9 x10) (aGF (qU aC aV) x11 (x14,(x15,(x16,(x12,(x17,(x18,x13)))))) hlt))
 rw[aBe h1 hlt]
 exact fO (Zd hlt) (lV (fO (Zd (aCA h1 hlt _)) (lV (lV (lV (lV (fO (Zd (aCA h2 hlt _)) ⟨qN (yJ h1 hlt _) (yJ h2 hlt _),aBc hlt,congrArg (F10 x1 x3 x4 x5 x6 x7 x8 x9 x10) (aJA (qU aC aV) x11 (x14,(x15,(x16,(x12,(x17,(x18,x13)))))) hlt)⟩)))))))
theorem eq(x0:aW)(x1:List Int)(_:wf x0 x1)(hp:pre x0 x1=true):aR x0 x1=some ((),((iO x0 x1).1,((iO x0 x1).2,()))):=by
 unfold aR iO pW
 refine cU ?_
 by_cases hs:dP x0=true
 case neg=>rw[if_neg hs];exact dS (by simp[hs]) rfl
 have hf:=mD hs
 obtain⟨hk,hq⟩:=aGq hp hs
 have hi:=aD7 (s:=x0) hq
 have H:aEm aC aV false x0.1 (gS aC false (lX aC aV false) mN (x1,(0,(false,())))).2 (gS aC false (lX aC aV false) mN (x1,(0,(false,())))).1=(pC (aBg x0.1 x1).1,(aBg x0.1 x1).2):=
  (aNJ x0.1 (x1,(0,(true,())))).2 (aLT hp true).2.1
 rw[if_pos hs]
 unfold aGO
 generalize aBg x0.1 x1=w at *
 have s1:=sP (num:=aC) (good:=false) (one:=lX aC aV false) (P:=fun k:bI=>k.2=mN.2) (fun _ _ h=>h) mN (x1,(0,(false,()))) rfl
 refine mF (by simp[hs]) (dS (show fP.pre _ _=true from rfl) (aFs (show fP _ _=gS aC false (lX aC aV false) mN (x1,(0,(false,()))) from rfl) ?_))
 generalize gS aC false (lX aC aV false) mN (x1,(0,(false,())))=v1 at *
 have H:aF1 aC aV false x0.1 (gS aC false (gR aC false) v1.2 v1.1).2 (gS aC false (gR aC false) v1.2 v1.1).1=(pC w.1,w.2):=H
 have s2:=sP (num:=aC) (good:=false) (one:=gR aC false) (P:=fun k:bI=>k.2.2=mN.2.2) (fun _ _ h=>h) v1.2 v1.1 (by rw[s1])
 refine dS (show fN.pre _ _=true from Zd (by rw[s1];exact Nat.zero_le _)) (aFs (show fN _ _=gS aC false (gR aC false) v1.2 v1.1 from rfl) ?_)
 generalize gS aC false (gR aC false) v1.2 v1.1=v2 at *
 have H:aCH aC aV (gS aC false (fZ aC false x0.1) v2.2 v2.1).2 (gS aC false (fZ aC false x0.1) v2.2 v2.1).1=(pC w.1,w.2):=H
 have s3:=sP (num:=aC) (good:=false) (one:=fZ aC false x0.1) (P:=fun k:bI=>k.2.2.2=mN.2.2.2) (fun _ _ h=>h) v2.2 v2.1 (by rw[s2])
 refine dS (show eM.pre _ _ _=true from qN (Zd (by omega)) (Zd (by rw[s2];exact Nat.zero_le _))) (aFs (show eM _ _ _=((gS aC false (fZ aC false x0.1) v2.2 v2.1).1,((gS aC false (fZ aC false x0.1) v2.2 v2.1).2,x0)) from rfl) ?_)
 generalize gS aC false (fZ aC false x0.1) v2.2 v2.1=v3 at *
 have z1:v3.2.2.2.2.2=mN.2.2.2.2:=congrArg Prod.snd s3
 refine cU (dS (show pre10 _=true from qN (yI (c:=v3.2.2.2.2.2.1.length) (by decide) (by rw[z1];exact Nat.zero_le _)) (yI (c:=v3.2.2.2.2.2.2.1.length) (by decide) (by rw[z1];exact Nat.zero_le _))) (aFs ((show fn10 _=F10 x1 x0 0 () [] [] [] [] [] (aCH aC aV v3.2 v3.1) from rfl).trans (congrArg (F10 x1 x0 0 () [] [] [] [] []) H)) ?_))
 obtain⟨⟨b,i,f,_⟩,k⟩:=w
 cases f
 . exact dS rfl rfl
 refine mF (show ¬(false=true) from Bool.false_ne_true) ?_
 by_cases hi':i=(x1.length:Int)
 case neg=>rw[decide_eq_false hi'];exact dS (show(!decide (i=(x1.length:Int)))=true by simp[hi']) rfl
 rw[Zd hi']
 refine mF (show ¬(!decide (i=(x1.length:Int)))=true by simp[hi']) (dS (show dO.pre x0 k=true from hk) (aFs (show dO x0 k=bX x0 k from hi) ?_))
 cases bX x0 k
 . exact dS rfl rfl
 . exact mF Bool.false_ne_true rfl
end iO
theorem aEY{r:eE}(h:jE r=true):bOk (fT r.2.2.2.2.2.1)=true:=by
 have:=(wR h).2
 have e:(fT r.2.2.2.2.2.1).length=r.2.2.2.2.2.1.length:=List.length_map ..
 unfold bOk
 rw[aFo,Bool.true_and,Za,e]
 omega
def iA(p:aW)(h:jV)(r:eE):jV:=
 if r.1=1 then(r.2.1,(r.2.2.1,h.2.2))
 else if r.1=2 then
  (if(uU h.2.2.1 r.2.2.2.1 r.2.1 r.2.2.2.2.1).2=true then(h.1,(h.2.1,((uU h.2.2.1 r.2.2.2.1 r.2.1 r.2.2.2.2.1).1,h.2.2.2))) else h)
 else if r.1=3 then
  (if(pW p (fT r.2.2.2.2.2.1)).2=true then
   (if r.2.2.2.1<=h.2.2.1.1 then h else
    if rD h.2.2.1 r.2.2.2.1=r.2.1 then(h.1,(h.2.1,(aBH h.2.2.1 r.2.2.2.1,((pW p (fT r.2.2.2.2.2.1)).1,h.2.2.2.2))))
    else(h.1,(h.2.1,((r.2.2.2.1,(r.2.1,([],()))),((pW p (fT r.2.2.2.2.2.1)).1,h.2.2.2.2)))))
   else h)
 else h
abbrev nF:=iA
namespace nF
def pre(_:aW)(h:jV)(r:eE):Bool:=dI h.2.2.1.2.2.1&&jE r
abbrev wf(x0:aW)(x1:rL)(x2:eE):Prop:=fW [(.val wG .f),(.val aEM .o),(.val aHu .f)] (x0,(x1,(x2,())))
noncomputable def aR(x0:aW)(x1:rL)(x2:eE):Option (Unit×(rL×Unit)):=
 if(decide (x2.1=(1:Int)))=true then
 some ((),((x2.2.1,(x2.2.2.1,x1.2.2)),()))
 else
 if(decide (x2.1=(2:Int)))=true then
 if(eB.pre x1.2.2.1 x2.2.2.2.1 x2.2.1 x2.2.2.2.2.1)=true then
 letB (uU x1.2.2.1 x2.2.2.2.1 x2.2.1 x2.2.2.2.2.1) fun v1=>
 if v1.2=true then
 some ((),((x1.1,(x1.2.1,(v1.1,x1.2.2.2))),()))
 else
 some ((),(x1,()))
 else
 none
 else
 if(decide (x2.1=(3:Int)))=true then
 if(decide (length x2.2.2.2.2.2.1<=lT))=true then
 if(kA.pre x0 (fT x2.2.2.2.2.2.1))=true then
 letB (pW x0 (fT x2.2.2.2.2.2.1)) fun v2=>
 if(!v2.2)=true then
 some ((),(x1,()))
 else
 if(decide (x2.2.2.2.1<=x1.2.2.1.1))=true then
 some ((),(x1,()))
 else
 letB (rD x1.2.2.1 x2.2.2.2.1) fun v3=>
 if(decide (v3=x2.2.1))=true then
 if(lO.pre x1.2.2.1 x2.2.2.2.1)=true then
 letB (aBH x1.2.2.1 x2.2.2.2.1) fun v4=>
 some ((),((x1.1,(x1.2.1,(v4,(v2.1,x1.2.2.2.2)))),()))
 else
 none
 else
 some ((),((x1.1,(x1.2.1,((x2.2.2.2.1,(x2.2.1,(([]:List aL),()))),(v2.1,x1.2.2.2.2)))),()))
 else
 none
 else
 none
 else
 some ((),(x1,()))
theorem eq(x0:aW)(x1:jV)(x2:eE)(_:wf x0 x1 x2)(hp:pre x0 x1 x2=true):aR x0 x1 x2=some ((),(nF x0 x1 x2,())):=by
 simp only[pre,Zb] at hp
 obtain⟨hs,hn⟩:=hp
 obtain⟨hl,ht⟩:=wR hn
 have hb:=aEY hn
 unfold aR nF iA
 by_cases c1:x2.1=1
 . rw[if_pos c1];exact dS (Zd c1) rfl
 rw[if_neg c1]
 refine mF (by rw[Za];exact c1) ?_
 by_cases c2:x2.1=2
 . rw[if_pos c2]
   refine dS (Zd c2) (dS (show eB.pre _ _ _ _=true from qN hs (cC.2 (by omega))) (cU ?_))
   by_cases c:(uU x1.2.2.1 x2.2.2.2.1 x2.2.1 x2.2.2.2.2.1).2=true
   . simp only[if_pos c]
   . simp only[if_neg c]
 rw[if_neg c2]
 refine mF (by rw[Za];exact c2) ?_
 by_cases c3:x2.1=3
 case neg=>rw[if_neg c3];exact mF (by rw[Za];exact c3) rfl
 rw[if_pos c3]
 refine dS (Zd c3) (dS (Zd (show _<=lT by simp only[lT];omega)) (dS (show kA.pre _ _=true from hb) (cU ?_)))
 by_cases c:(pW x0 (fT x2.2.2.2.2.2.1)).2=true
 case neg=>rw[if_neg c];exact dS (by rw[Bool.not_eq_true',<-Bool.not_eq_true];exact c) rfl
 rw[if_pos c]
 refine mF (by rw[c];exact Bool.false_ne_true) ?_
 by_cases d:x2.2.2.2.1<=x1.2.2.1.1
 . rw[if_pos d];exact dS (Zd d) rfl
 rw[if_neg d]
 refine mF (by rw[Za];exact d) (cU ?_)
 by_cases t:rD x1.2.2.1 x2.2.2.2.1=x2.2.1
 . rw[if_pos t];exact dS (Zd t) (dS (show lO.pre _ _=true from hs) (cU rfl))
 . rw[if_neg t];exact mF (by rw[Za];exact t) rfl
end nF
def aCP(p:aW)(h:jV):Bool:=dI h.2.2.1.2.2.1&&(tJ h.2.2.2.1&&(!dP p||(cO p h&&cM p h)))
theorem uG{p:aW}{h:jV}:aCP p h=true↔dI h.2.2.1.2.2.1=true/\tJ h.2.2.2.1=true/\(dP p=true->cO p h=true/\cM p h=true):=by
 unfold aCP
 cases dP p<;>simp
theorem aFP{mk:aK->Int->Bool}{p:aW}{h:jV}(hs:dP p=false):uO (wA mk) p h=false:=by
 unfold uO wA
 rw[hs]
 simp
def nT(p:aW)(h:jV)(r:eE):jV:=if dP p=true/\jE r=true/\cO p (iA p h r)=true then iA p h r else h
abbrev mR:=nT
abbrev mJ:=nT
theorem tZ{p:aW}{h:jV}{r:eE}(hc:dP p=false\/jE r=false\/iA p h r=h):nT p h r=h:=by
 unfold nT
 rcases hc with hc|hc|hc
 . exact if_neg (by rw[hc];exact fun h=>Bool.false_ne_true h.1)
 . exact if_neg (by rw[hc];exact fun h=>Bool.false_ne_true h.2.1)
 . rw[hc];split<;>rfl
theorem aFJ{p:aW}{h:jV}{r:eE}(hs:dP p=true)(hn:jE r=true):nT p h r=if cO p (iA p h r)=true then iA p h r else h:=by
 unfold nT
 by_cases hq:cO p (iA p h r)=true
 . rw[if_pos ⟨hs,hn,hq⟩,if_pos hq]
 . rw[if_neg fun h=>hq h.2.2,if_neg hq]
theorem aIL{p:aW}{h:jV}{r:eE}(hs:dP p=true)(hn:jE r=true)(hi:aCP p h=true):tJ (iA p h r).2.2.2.1=true/\cM p (iA p h r)=cO p (iA p h r):=by
 obtain⟨h1,h2,h3⟩:=uG.1 hi
 have key:(iA p h r).2.2.2.1=h.2.2.2.1\/((pW p (fT r.2.2.2.2.2.1)).2=true/\(iA p h r).2.2.2.1=(pW p (fT r.2.2.2.2.2.1)).1):=by
  unfold iA
  repeat' split
  all_goals first|exact .inl rfl|exact .inr ⟨by assumption,rfl⟩
 have e:tJ (iA p h r).2.2.2.1=true/\dO p (iA p h r).2.2.2.1=bX p (iA p h r).2.2.2.1:=by
  rcases key with k|⟨c,k⟩
  . rw[k]
    obtain⟨g1,g2⟩:=h3 hs
    simp only[cO,cM,uO,Zb] at g1 g2
    exact⟨h2,by rw[g1.2.2.2.2,g2.2.2.2.2]⟩
  . rw[k]
    exact aLZ (aEY hn) c
 refine⟨e.1,?_⟩
 unfold cM cO uO
 rw[e.2]
theorem aEX{p:aW}{h:jV}{r:eE}(hi:aCP p h=true):aCP p (nT p h r)=true:=by
 by_cases hc:dP p=true/\jE r=true/\cO p (iA p h r)=true
 case neg=>rw[show nT p h r=h from if_neg hc];exact hi
 rw[show nT p h r=iA p h r from if_pos hc]
 obtain⟨c1,c2,c3⟩:=hc
 obtain⟨k1,k2⟩:=aIL c1 c2 hi
 refine uG.2 ⟨?_,k1,fun _=>⟨c3,by rw[k2];exact c3⟩⟩
 simp only[cO,uO,Zb] at c3
 have:=zX c3.2.2.1
 rw[cC]
 omega
namespace mR
def pre(p:aW)(h:jV)(_:eE):Bool:=aCP p h
abbrev wf(x0:aW)(x1:rL)(x2:eE):Prop:=fW [(.val wG .f),(.val aEM .f),(.val aHu .f)] (x0,(x1,(x2,())))
noncomputable def aR(x0:aW)(x1:rL)(x2:eE):Option (Unit×(rL×Unit)):=
 if(cO.pre x0 x1)=true then
 letB (cO x0 x1) fun v1=>
 if(!v1)=true then
 if(gH.pre x1)=true then
 letB (gH x1) fun v2=>
 some ((),(v2,()))
 else
 none
 else
 letB (jE x2) fun v3=>
 if(!v3)=true then
 if(gH.pre x1)=true then
 letB (gH x1) fun v4=>
 some ((),(v4,()))
 else
 none
 else
 if(gH.pre x1)=true then
 letB (gH x1) fun v5=>
 if(nF.pre x0 v5 x2)=true then
 letB (iA x0 v5 x2) fun v6=>
 if(cO.pre x0 v6)=true then
 letB (cO x0 v6) fun v7=>
 if(!v7)=true then
 if(gH.pre x1)=true then
 some ((),(v5,()))
 else
 none
 else
 some ((),(v6,()))
 else
 none
 else
 none
 else
 none
 else
 none
theorem eq(x0:aW)(x1:jV)(x2:eE)(_:wf x0 x1 x2)(hp:pre x0 x1 x2=true):aR x0 x1 x2=some ((),(mR x0 x1 x2,())):=by
 obtain⟨h1,h2,h3⟩:=uG.1 hp
 have hc:gH.pre x1=true:=qN h1 h2
 show _=some ((),(nT x0 x1 x2,()))
 unfold aR
 refine dS (show cO.pre _ _=true from h2) (cU ?_)
 cases hs:dP x0
 . rw[tZ (.inl hs)]
   exact dS (by rw[show cO x0 x1=false from aFP hs];rfl) (dS hc (cU rfl))
 refine mF (by rw[(h3 hs).1];exact Bool.false_ne_true) (cU ?_)
 cases hn:jE x2
 . rw[tZ (.inr (.inl hn))]
   exact dS rfl (dS hc (cU rfl))
 rw[aFJ hs hn]
 refine mF Bool.false_ne_true (dS hc (cU (dS (show nF.pre _ _ _=true from qN h1 hn) (cU ?_))))
 refine dS (show cO.pre _ _=true from(aIL hs hn hp).1) (cU ?_)
 show(if(!cO x0 (iA x0 x1 x2))=true then _ else _)=_
 cases hq:cO x0 (iA x0 x1 x2)
 . exact dS rfl (dS hc rfl)
 . exact mF Bool.false_ne_true rfl
end mR
theorem aEb{p:aW}{h out:jV}{r:eE}(hi:aCP p h=true)(hs:dP p=true)(hn:jE r=true)(e:iA p h r=out):
 (if cM.pre p out=true then letB (cM p out) fun v=>if(!v)=true then(if cD.pre h=true then some ((),(h,())) else none) else some ((),(out,())) else none)=some ((),(nT p h r,())):=by
 subst e
 obtain⟨h1,h2,_⟩:=uG.1 hi
 obtain⟨k1,k2⟩:=aIL hs hn hi
 refine dS (show cM.pre _ _=true from k1) (aFs k2 ?_)
 rw[aFJ hs hn]
 cases hq:cO p (iA p h r)
 . exact dS rfl (dS (show cD.pre h=true from qN h1 h2) rfl)
 . exact mF Bool.false_ne_true rfl
theorem aNC{r:eE}(h:jE r=true)(c1:¬r.1=1)(c2:¬r.1=2):r.1=3:=by
 simp only[jE,aGV,Zb] at h
 rw[if_neg c1,if_neg c2] at h
 by_cases c3:r.1=3
 . exact c3
 . rw[if_neg c3] at h;exact absurd h.2.2.2.2 Bool.false_ne_true
namespace mJ
def pre(p:aW)(h:jV)(_:eE):Bool:=aCP p h
abbrev wf(x0:aW)(x1:rL)(x2:eE):Prop:=fW [(.val wG .f),(.val aEM .f),(.val aHu .f)] (x0,(x1,(x2,())))
noncomputable def aR(x0:aW)(x1:rL)(x2:eE):Option (Unit×(rL×Unit)):=
 if(cM.pre x0 x1)=true then
 letB (cM x0 x1) fun v1=>
 if(!v1)=true then
 if(cD.pre x1)=true then
 letB (cD x1) fun v2=>
 some ((),(v2,()))
 else
 none
 else
 letB (jE x2) fun v3=>
 if(!v3)=true then
 if(cD.pre x1)=true then
 letB (cD x1) fun v4=>
 some ((),(v4,()))
 else
 none
 else
 if(cD.pre x1)=true then
 if(decide (x2.1=(1:Int)))=true then
 letB (cD x1) fun v5=>
 if(cM.pre x0 (x2.2.1,(x2.2.2.1,v5.2.2)))=true then
 letB (cM x0 (x2.2.1,(x2.2.2.1,v5.2.2))) fun v6=>
 if(!v6)=true then
 if(cD.pre x1)=true then
 some ((),(v5,()))
 else
 none
 else
 some ((),((x2.2.1,(x2.2.2.1,v5.2.2)),()))
 else
 none
 else
 if(decide (x2.1=(2:Int)))=true then
 if(eA.pre x1.2.2.1 x2.2.2.2.1 x2.2.1 x2.2.2.2.2.1)=true then
 letB (uU x1.2.2.1 x2.2.2.2.1 x2.2.1 x2.2.2.2.2.1) fun v7=>
 if v7.2=true then
 letB (cD x1) fun v8=>
 if(cM.pre x0 (v8.1,(v8.2.1,(v7.1,v8.2.2.2))))=true then
 letB (cM x0 (v8.1,(v8.2.1,(v7.1,v8.2.2.2)))) fun v9=>
 if(!v9)=true then
 if(cD.pre x1)=true then
 some ((),(v8,()))
 else
 none
 else
 some ((),((v8.1,(v8.2.1,(v7.1,v8.2.2.2))),()))
 else
 none
 else
 letB (cD x1) fun v10=>
 if(cM.pre x0 v10)=true then
 letB (cM x0 v10) fun v11=>
 if(!v11)=true then
 if(cD.pre x1)=true then
 some ((),(v10,()))
 else
 none
 else
 some ((),(v10,()))
 else
 none
 else
 none
 else
 if(decide (length x2.2.2.2.2.2.1<=lT))=true then
 if(iO.pre x0 (fT x2.2.2.2.2.2.1))=true then
 letB (pW x0 (fT x2.2.2.2.2.2.1)) fun v12=>
 if(!v12.2)=true then
 letB (cD x1) fun v13=>
 some ((),(v13,()))
 else
 if(decide (x2.2.2.2.1<=x1.2.2.1.1))=true then
 letB (cD x1) fun v14=>
 some ((),(v14,()))
 else
 letB (rD x1.2.2.1 x2.2.2.2.1) fun v15=>
 if(decide (v15=x2.2.1))=true then
 if(lS.pre x1.2.2.1 x2.2.2.2.1)=true then
 letB (cD x1) fun v16=>
 letB (aBH x1.2.2.1 x2.2.2.2.1) fun v17=>
 if(cM.pre x0 (v16.1,(v16.2.1,(v17,(v12.1,v16.2.2.2.2)))))=true then
 letB (cM x0 (v16.1,(v16.2.1,(v17,(v12.1,v16.2.2.2.2))))) fun v18=>
 if(!v18)=true then
 if(cD.pre x1)=true then
 some ((),(v16,()))
 else
 none
 else
 some ((),((v16.1,(v16.2.1,(v17,(v12.1,v16.2.2.2.2)))),()))
 else
 none
 else
 none
 else
 letB (cD x1) fun v19=>
 if(cM.pre x0 (v19.1,(v19.2.1,((x2.2.2.2.1,(x2.2.1,(([]:List aL),()))),(v12.1,v19.2.2.2.2)))))=true then
 letB (cM x0 (v19.1,(v19.2.1,((x2.2.2.2.1,(x2.2.1,(([]:List aL),()))),(v12.1,v19.2.2.2.2))))) fun v20=>
 if(!v20)=true then
 if(cD.pre x1)=true then
 some ((),(v19,()))
 else
 none
 else
 some ((),((v19.1,(v19.2.1,((x2.2.2.2.1,(x2.2.1,(([]:List aL),()))),(v12.1,v19.2.2.2.2)))),()))
 else
 none
 else
 none
 else
 none
 else
 none
 else
 none
theorem eq(x0:aW)(x1:jV)(x2:eE)(_:wf x0 x1 x2)(hp:pre x0 x1 x2=true):aR x0 x1 x2=some ((),(mJ x0 x1 x2,())):=by
 obtain⟨h1,h2,h3⟩:=uG.1 hp
 have hc:cD.pre x1=true:=qN h1 h2
 show _=some ((),(nT x0 x1 x2,()))
 unfold aR
 refine dS (show cM.pre _ _=true from h2) (cU ?_)
 cases hs:dP x0
 . rw[tZ (.inl hs)]
   exact dS (by rw[show cM x0 x1=false from aFP hs];rfl) (dS hc (cU rfl))
 refine mF (by rw[(h3 hs).2];exact Bool.false_ne_true) (cU ?_)
 cases hn:jE x2
 . rw[tZ (.inr (.inl hn))]
   exact dS rfl (dS hc (cU rfl))
 obtain⟨hl,ht⟩:=wR hn
 have hb:=aEY hn
 refine mF Bool.false_ne_true (dS hc ?_)
 by_cases c1:x2.1=1
 . exact dS (Zd c1) (cU (aEb (out:=(x2.2.1,(x2.2.2.1,x1.2.2))) hp hs hn (if_pos c1)))
 refine mF (by rw[Za];exact c1) ?_
 by_cases c2:x2.1=2
 . have e0:iA x0 x1 x2=(if(uU x1.2.2.1 x2.2.2.2.1 x2.2.1 x2.2.2.2.2.1).2=true then(x1.1,(x1.2.1,((uU x1.2.2.1 x2.2.2.2.1 x2.2.1 x2.2.2.2.2.1).1,x1.2.2.2))) else x1):=(if_neg c1).trans (if_pos c2)
   refine dS (Zd c2) (dS (show eA.pre _ _ _ _=true from qN h1 (cC.2 (by omega))) (cU ?_))
   by_cases c:(uU x1.2.2.1 x2.2.2.2.1 x2.2.1 x2.2.2.2.2.1).2=true
   . rw[if_pos c] at e0
     exact dS c (cU (aEb hp hs hn e0))
   . rw[if_neg c] at e0
     exact mF c (cU (aEb hp hs hn e0))
 have c3:=aNC hn c1 c2
 have e0:iA x0 x1 x2=_:=(if_neg c1).trans ((if_neg c2).trans (if_pos c3))
 refine mF (by rw[Za];exact c2) (dS (Zd (show _<=lT by simp only[lT];omega)) (dS (show iO.pre _ _=true from hb) (cU ?_)))
 by_cases c:(pW x0 (fT x2.2.2.2.2.2.1)).2=true
 case neg=>
  rw[if_neg c] at e0
  rw[tZ (.inr (.inr e0))]
  exact dS (by rw[Bool.not_eq_true',<-Bool.not_eq_true];exact c) (cU rfl)
 rw[if_pos c] at e0
 refine mF (by rw[c];exact Bool.false_ne_true) ?_
 by_cases d:x2.2.2.2.1<=x1.2.2.1.1
 . rw[if_pos d] at e0
   rw[tZ (.inr (.inr e0))]
   exact dS (Zd d) (cU rfl)
 rw[if_neg d] at e0
 refine mF (by rw[Za];exact d) (cU ?_)
 by_cases t:rD x1.2.2.1 x2.2.2.2.1=x2.2.1
 . rw[if_pos t] at e0
   exact dS (Zd t) (dS (show lS.pre _ _=true from h1) (cU (cU (aEb hp hs hn e0))))
 . rw[if_neg t] at e0
   exact mF (by rw[Za];exact t) (cU (aEb hp hs hn e0))
end mJ
def aAB(p:aW)(b:List Int):jV:=List.foldl (nT p) (pY p) (aBY b).1
abbrev kR:=aAB
abbrev kC:=aAB
def aBm(p:aW)(h:jV)(i:Int)(l:List eE):Bool:=aCP p h&&(decide (l.length<=16777216)&&decide (0<=i))
theorem aLU{p:aW}{h:jV}{i:Int}{l:List eE}(hlt:¬i<(l.length:Int)):h=List.foldl (nT p) h (l.drop i.toNat):=by
 rw[Zt (by omega)];rfl
theorem aNo{i:Int}{l:List eE}(h0:0<=i)(hlt:i<(l.length:Int)):l.length-(i+1).toNat<l.length-i.toNat:=by omega
theorem aNm{p:aW}{h:jV}{i:Int}{l:List eE}(hp:aBm p h i l=true)(hlt:i<(l.length:Int)):
 0<=i/\aCP p h=true/\wrap .i64 (i+1)=i+1/\aBm p (nT p h (l.getD i.toNat aBa)) (i+1) l=true/\
  List.foldl (nT p) (nT p h (l.getD i.toNat aBa)) (l.drop (i+1).toNat)=List.foldl (nT p) h (l.drop i.toNat):=by
 simp only[aBm,Zb,Za] at hp
 obtain⟨h1,h2,h3⟩:=hp
 refine⟨h3,h1,iV (by omega) (by omega),?_,?_⟩
 . simp only[aBm,Zb,Za]
   exact⟨aEX h1,h2,by omega⟩
 . have hn:i.toNat<l.length:=by omega
   rw[Zn hn,eV hn,show(i+1).toNat=i.toNat+1 by omega]
   rfl
theorem aDd(p:aW):aCP p (pY p)=true:=by
 unfold pY
 by_cases hs:dP p=true
 . rw[if_pos hs]
   have hk:=aKL hs
   refine uG.2 ⟨rfl,(aMv (aMW hk)).1,fun _=>⟨?_,?_⟩⟩
   . simp only[cO,uO,Zb]
     exact⟨rfl,rfl,rfl,rfl,aKs hk⟩
   . simp only[cM,uO,Zb]
     exact⟨rfl,rfl,rfl,rfl,aKC hk⟩
 . rw[if_neg hs]
   exact uG.2 ⟨rfl,rfl,fun h=>absurd h hs⟩
theorem aHs{p:aW}:(l:List eE)->(h:jV)->aCP p h=true->aCP p (List.foldl (nT p) h l)=true
 |[],_,hi=>hi
 |_::l,_,hi=>aHs l _ (aEX hi)
theorem aKG{b:List Int}(hb:bQ b=true):5*((aBY b).1.length:Int)<=(b.length:Int):=(aJu hb b.length 0 [] (by simp) (by omega) (by omega) (by simp) (by simp)).1
theorem aHM{p:aW}{b:List Int}(h:bOk b=true):aBm p (pY p) 0 (aBY b).1=true:=by
 simp only[bOk,Zb,Za] at h
 have:=aKG h.1
 simp only[aBm,Zb,Za]
 exact⟨aDd p,by omega,Int.le_refl _⟩
theorem aFv{b:List Int}(h:bOk b=true):dI b=true:=by
 simp only[bOk,Zb,Za] at h
 rw[cC];omega
namespace kR
abbrev S4:Type:=aN4
abbrev O4:Type:=aN5
def pre(_:aW)(b:List Int):Bool:=bOk b
def F4(x3:Int)(x4:Int)(x5:Int)(x6:Int)(x7:Unit)(x8:Int)(x9:Unit)(x10:Unit)(x11:List aL)(x12:List cL)(x13:List aK)(x14:List aJ)(x15:List Int)(x16:List aM)(v:jV):O4:=(x3,(x4,(x5,(x6,(x7,(x8,(x9,(x10,(x11,(x12,(x13,(x14,(x15,(x16,(v.1,(v.2.1,(v.2.2.1.1,(v.2.2.1.2.1,(v.2.2.1.2.2.2,(v.2.2.2.1.2.2.2.1,(v.2.2.2.1.2.2.2.2.2.2,(v.2.2.2.2,(v.2.2.1.2.2.1,(v.2.2.2.1.1,(v.2.2.2.1.2.1,(v.2.2.2.1.2.2.1,(v.2.2.2.1.2.2.2.2.1,(v.2.2.2.1.2.2.2.2.2.1,()))))))))))))))))))))))))))))
def pre4:S4->Bool:=fun(x1,x2,_,_,_,_,_,_,_,_,_,_,_,_,_,_,x17,x18,x19,x20,x21,x22,x23,x24,x25,x26,x27,x28,x29,x30,x31,_)=>aBm x2 (x17,(x18,((x19,(x20,(x25,x21))),((x26,(x27,(x28,(x22,(x29,(x30,x23)))))),x24)))) x1 x31
def fn4:S4->O4:=fun(x1,x2,x3,x4,x5,x6,x7,x8,x9,x10,x11,x12,x13,x14,x15,x16,x17,x18,x19,x20,x21,x22,x23,x24,x25,x26,x27,x28,x29,x30,x31,_)=>F4 x3 x4 x5 x6 x7 x8 x9 x10 x11 x12 x13 x14 x15 x16 (List.foldl (nT x2) (x17,(x18,((x19,(x20,(x25,x21))),((x26,(x27,(x28,(x22,(x29,(x30,x23)))))),x24)))) (x31.drop x1.toNat))
def qD:S4->Nat:=fun(x1,_,_,_,_,_,_,_,_,_,_,_,_,_,_,_,_,_,_,_,_,_,_,_,_,_,_,_,_,_,x31,_)=>x31.length-x1.toNat
noncomputable def hJ(x1:Int)(x2:aW)(x3:Int)(x4:Int)(x5:Int)(x6:Int)(x7:Unit)(x8:Int)(x9:Unit)(x10:Unit)(x11:(List aL))(x12:(List cL))(x13:(List aK))(x14:(List aJ))(x15:(List Int))(x16:(List aM))(x17:Int)(x18:Int)(x19:Int)(x20:Int)(x21:Unit)(x22:Int)(x23:Unit)(x24:Unit)(x25:(List aL))(x26:(List cL))(x27:(List aK))(x28:(List aJ))(x29:(List Int))(x30:(List aM))(x31:(List eE)):Option (aN4⊕aN5):=
 if(decide (x1<((length x31:Nat):Int)))=true then
 if(decide ((0:Int)<=x1))=true then
 if(decide (x1<((length x31:Nat):Int)))=true then
 if(mR.pre x2 (x17,(x18,((x19,(x20,(x25,x21))),((x26,(x27,(x28,(x22,(x29,(x30,x23)))))),x24)))) (List.getD x31 (Int.toNat x1) aBa))=true then
 letB (mR x2 (x17,(x18,((x19,(x20,(x25,x21))),((x26,(x27,(x28,(x22,(x29,(x30,x23)))))),x24)))) (List.getD x31 (Int.toNat x1) aBa)) fun v1=>
 some (.inl ((wrap .i64 (x1+(1:Int))),(x2,(x3,(x4,(x5,(x6,(x7,(x8,(x9,(x10,(x11,(x12,(x13,(x14,(x15,(x16,(v1.1,(v1.2.1,(v1.2.2.1.1,(v1.2.2.1.2.1,(v1.2.2.1.2.2.2,(v1.2.2.2.1.2.2.2.1,(v1.2.2.2.1.2.2.2.2.2.2,(v1.2.2.2.2,(v1.2.2.1.2.2.1,(v1.2.2.2.1.1,(v1.2.2.2.1.2.1,(v1.2.2.2.1.2.2.1,(v1.2.2.2.1.2.2.2.2.1,(v1.2.2.2.1.2.2.2.2.2.1,(x31,()))))))))))))))))))))))))))))))))
 else
 none
 else
 none
 else
 none
 else
 some (.inr (x3,(x4,(x5,(x6,(x7,(x8,(x9,(x10,(x11,(x12,(x13,(x14,(x15,(x16,(x17,(x18,(x19,(x20,(x21,(x22,(x23,(x24,(x25,(x26,(x27,(x28,(x29,(x30,())))))))))))))))))))))))))))))
abbrev wf(x0:aW)(x1:(List Int)):Prop:=fW [(.val wG .f),(.val wM .f)] (x0,(x1,()))
noncomputable def aR(x0:aW)(x1:(List Int)):Option (Unit×(rL×Unit)):=
 if(kI.pre x0)=true then
 if(kP.pre x1)=true then
 letB (pY x0) fun v1=>
 letB (aBY x1) fun v2=>
 if(kR.pre4 ((0:Int),(x0,((0:Int),((0:Int),((0:Int),((0:Int),((),((0:Int),((),((),(([]:List aL),(([]:List cL),(([]:List aK),(([]:List aJ),(([]:List Int),(([]:List aM),(v1.1,(v1.2.1,(v1.2.2.1.1,(v1.2.2.1.2.1,(v1.2.2.1.2.2.2,(v1.2.2.2.1.2.2.2.1,(v1.2.2.2.1.2.2.2.2.2.2,(v1.2.2.2.2,(v1.2.2.1.2.2.1,(v1.2.2.2.1.1,(v1.2.2.2.1.2.1,(v1.2.2.2.1.2.2.1,(v1.2.2.2.1.2.2.2.2.1,(v1.2.2.2.1.2.2.2.2.2.1,(v2.1,()))))))))))))))))))))))))))))))))=true then
 letB (kR.fn4 ((0:Int),(x0,((0:Int),((0:Int),((0:Int),((0:Int),((),((0:Int),((),((),(([]:List aL),(([]:List cL),(([]:List aK),(([]:List aJ),(([]:List Int),(([]:List aM),(v1.1,(v1.2.1,(v1.2.2.1.1,(v1.2.2.1.2.1,(v1.2.2.1.2.2.2,(v1.2.2.2.1.2.2.2.1,(v1.2.2.2.1.2.2.2.2.2.2,(v1.2.2.2.2,(v1.2.2.1.2.2.1,(v1.2.2.2.1.1,(v1.2.2.2.1.2.1,(v1.2.2.2.1.2.2.1,(v1.2.2.2.1.2.2.2.2.1,(v1.2.2.2.1.2.2.2.2.2.1,(v2.1,())))))))))))))))))))))))))))))))) fun v3=>
 some ((),((v3.2.2.2.2.2.2.2.2.2.2.2.2.2.2.1,(v3.2.2.2.2.2.2.2.2.2.2.2.2.2.2.2.1,((v3.2.2.2.2.2.2.2.2.2.2.2.2.2.2.2.2.1,(v3.2.2.2.2.2.2.2.2.2.2.2.2.2.2.2.2.2.1,(v3.2.2.2.2.2.2.2.2.2.2.2.2.2.2.2.2.2.2.2.2.2.2.1,v3.2.2.2.2.2.2.2.2.2.2.2.2.2.2.2.2.2.2.1))),((v3.2.2.2.2.2.2.2.2.2.2.2.2.2.2.2.2.2.2.2.2.2.2.2.1,(v3.2.2.2.2.2.2.2.2.2.2.2.2.2.2.2.2.2.2.2.2.2.2.2.2.1,(v3.2.2.2.2.2.2.2.2.2.2.2.2.2.2.2.2.2.2.2.2.2.2.2.2.2.1,(v3.2.2.2.2.2.2.2.2.2.2.2.2.2.2.2.2.2.2.2.1,(v3.2.2.2.2.2.2.2.2.2.2.2.2.2.2.2.2.2.2.2.2.2.2.2.2.2.2.1,(v3.2.2.2.2.2.2.2.2.2.2.2.2.2.2.2.2.2.2.2.2.2.2.2.2.2.2.2.1,v3.2.2.2.2.2.2.2.2.2.2.2.2.2.2.2.2.2.2.2.2.1)))))),v3.2.2.2.2.2.2.2.2.2.2.2.2.2.2.2.2.2.2.2.2.2.1)))),()))
 else
 none
 else
 none
 else
 none
theorem zE(x1 x2 x3 x4 x5 x6 x7 x8 x9 x10 x11 x12 x13 x14 x15 x16 x17 x18 x19 x20 x21 x22 x23 x24 x25 x26 x27 x28 x29 x30 x31)(hp:pre4 (x1,(x2,(x3,(x4,(x5,(x6,(x7,(x8,(x9,(x10,(x11,(x12,(x13,(x14,(x15,(x16,(x17,(x18,(x19,(x20,(x21,(x22,(x23,(x24,(x25,(x26,(x27,(x28,(x29,(x30,(x31,())))))))))))))))))))))))))))))))=true):Rounds pre4 qD fn4 (x1,(x2,(x3,(x4,(x5,(x6,(x7,(x8,(x9,(x10,(x11,(x12,(x13,(x14,(x15,(x16,(x17,(x18,(x19,(x20,(x21,(x22,(x23,(x24,(x25,(x26,(x27,(x28,(x29,(x30,(x31,()))))))))))))))))))))))))))))))) (hJ x1 x2 x3 x4 x5 x6 x7 x8 x9 x10 x11 x12 x13 x14 x15 x16 x17 x18 x19 x20 x21 x22 x23 x24 x25 x26 x27 x28 x29 x30 x31):=by
 have hq:(aBm x2 (x17,(x18,((x19,(x20,(x25,x21))),((x26,(x27,(x28,(x22,(x29,(x30,x23)))))),x24)))) x1 x31)=true:=hp
 unfold hJ
 by_cases hlt:x1<((length x31:Nat):Int)
 case neg=>exact jC (by rw[Za];exact hlt) (congrArg (F4 x3 x4 x5 x6 x7 x8 x9 x10 x11 x12 x13 x14 x15 x16) (aLU (p:=x2) (h:=(x17,(x18,((x19,(x20,(x25,x21))),((x26,(x27,(x28,(x22,(x29,(x30,x23)))))),x24))))) hlt))
 obtain⟨h1,h2,h3,h4,h5⟩:=aNm (p:=x2) (h:=(x17,(x18,((x19,(x20,(x25,x21))),((x26,(x27,(x28,(x22,(x29,(x30,x23)))))),x24))))) (i:=x1) (l:=x31) hq hlt
 rw[h3]
 exact fO (Zd hlt) (fO (Zd h1) (fO (Zd hlt) (fO h2 (lV ⟨h4,aNo h1 hlt,congrArg (F4 x3 x4 x5 x6 x7 x8 x9 x10 x11 x12 x13 x14 x15 x16) h5⟩))))
theorem eq(x0:aW)(x1:List Int)(_:wf x0 x1)(hp:pre x0 x1=true):aR x0 x1=some ((),(kR x0 x1,())):=by
 unfold aR
 exact dS (show kI.pre _=true from rfl) (dS (show kP.pre _=true from aFv hp) (cU (cU (dS (show pre4 _=true from aHM hp) (cU rfl)))))
end kR
namespace kC
abbrev S4:Type:=(Int×aN4)
abbrev O4:Type:=aN5
def pre(_:aW)(b:List Int):Bool:=bOk b
def F4(x4:Int)(x5:Int)(x6:Int)(x7:Int)(x8:Unit)(x9:Int)(x10:Unit)(x11:Unit)(x12:List aL)(x13:List cL)(x14:List aK)(x15:List aJ)(x16:List Int)(x17:List aM)(v:jV):O4:=(x4,(x5,(x6,(x7,(x8,(x9,(x10,(x11,(x12,(x13,(x14,(x15,(x16,(x17,(v.1,(v.2.1,(v.2.2.1.1,(v.2.2.1.2.1,(v.2.2.1.2.2.2,(v.2.2.2.1.2.2.2.1,(v.2.2.2.1.2.2.2.2.2.2,(v.2.2.2.2,(v.2.2.1.2.2.1,(v.2.2.2.1.1,(v.2.2.2.1.2.1,(v.2.2.2.1.2.2.1,(v.2.2.2.1.2.2.2.2.1,(v.2.2.2.1.2.2.2.2.2.1,()))))))))))))))))))))))))))))
def pre4:S4->Bool:=fun(x1,x2,x3,_,_,_,_,_,_,_,_,_,_,_,_,_,_,x18,x19,x20,x21,x22,x23,x24,x25,x26,x27,x28,x29,x30,x31,x32,_)=>decide (x1=((length x32:Nat):Int))&&aBm x3 (x18,(x19,((x20,(x21,(x26,x22))),((x27,(x28,(x29,(x23,(x30,(x31,x24)))))),x25)))) x2 x32
def fn4:S4->O4:=fun(_,x2,x3,x4,x5,x6,x7,x8,x9,x10,x11,x12,x13,x14,x15,x16,x17,x18,x19,x20,x21,x22,x23,x24,x25,x26,x27,x28,x29,x30,x31,x32,_)=>F4 x4 x5 x6 x7 x8 x9 x10 x11 x12 x13 x14 x15 x16 x17 (List.foldl (nT x3) (x18,(x19,((x20,(x21,(x26,x22))),((x27,(x28,(x29,(x23,(x30,(x31,x24)))))),x25)))) (x32.drop x2.toNat))
def qD:S4->Nat:=fun(_,x2,_,_,_,_,_,_,_,_,_,_,_,_,_,_,_,_,_,_,_,_,_,_,_,_,_,_,_,_,_,x32,_)=>x32.length-x2.toNat
noncomputable def hJ(x1:Int)(x2:Int)(x3:aW)(x4:Int)(x5:Int)(x6:Int)(x7:Int)(x8:Unit)(x9:Int)(x10:Unit)(x11:Unit)(x12:(List aL))(x13:(List cL))(x14:(List aK))(x15:(List aJ))(x16:(List Int))(x17:(List aM))(x18:Int)(x19:Int)(x20:Int)(x21:Int)(x22:Unit)(x23:Int)(x24:Unit)(x25:Unit)(x26:(List aL))(x27:(List cL))(x28:(List aK))(x29:(List aJ))(x30:(List Int))(x31:(List aM))(x32:(List eE)):Option ((Int×aN4)⊕aN5):=
 if(decide (x2<x1))=true then
 if(decide ((0:Int)<=x2))=true then
 if(decide (x2<((length x32:Nat):Int)))=true then
 if(mJ.pre x3 (x18,(x19,((x20,(x21,(x26,x22))),((x27,(x28,(x29,(x23,(x30,(x31,x24)))))),x25)))) (List.getD x32 (Int.toNat x2) aBa))=true then
 letB (mJ x3 (x18,(x19,((x20,(x21,(x26,x22))),((x27,(x28,(x29,(x23,(x30,(x31,x24)))))),x25)))) (List.getD x32 (Int.toNat x2) aBa)) fun v1=>
 some (.inl (x1,((wrap .i64 (x2+(1:Int))),(x3,(x4,(x5,(x6,(x7,(x8,(x9,(x10,(x11,(x12,(x13,(x14,(x15,(x16,(x17,(v1.1,(v1.2.1,(v1.2.2.1.1,(v1.2.2.1.2.1,(v1.2.2.1.2.2.2,(v1.2.2.2.1.2.2.2.1,(v1.2.2.2.1.2.2.2.2.2.2,(v1.2.2.2.2,(v1.2.2.1.2.2.1,(v1.2.2.2.1.1,(v1.2.2.2.1.2.1,(v1.2.2.2.1.2.2.1,(v1.2.2.2.1.2.2.2.2.1,(v1.2.2.2.1.2.2.2.2.2.1,(x32,())))))))))))))))))))))))))))))))))
 else
 none
 else
 none
 else
 none
 else
 some (.inr (x4,(x5,(x6,(x7,(x8,(x9,(x10,(x11,(x12,(x13,(x14,(x15,(x16,(x17,(x18,(x19,(x20,(x21,(x22,(x23,(x24,(x25,(x26,(x27,(x28,(x29,(x30,(x31,())))))))))))))))))))))))))))))
abbrev wf(x0:aW)(x1:(List Int)):Prop:=fW [(.val wG .f),(.val wM .f)] (x0,(x1,()))
noncomputable def aR(x0:aW)(x1:(List Int)):Option (Unit×(rL×Unit)):=
 if(kN.pre x0)=true then
 if(kO.pre x1)=true then
 letB (aBY x1) fun v1=>
 letB (pY x0) fun v2=>
 if(kC.pre4 (((length v1.1:Nat):Int),((0:Int),(x0,((0:Int),((0:Int),((0:Int),((0:Int),((),((0:Int),((),((),(([]:List aL),(([]:List cL),(([]:List aK),(([]:List aJ),(([]:List Int),(([]:List aM),(v2.1,(v2.2.1,(v2.2.2.1.1,(v2.2.2.1.2.1,(v2.2.2.1.2.2.2,(v2.2.2.2.1.2.2.2.1,(v2.2.2.2.1.2.2.2.2.2.2,(v2.2.2.2.2,(v2.2.2.1.2.2.1,(v2.2.2.2.1.1,(v2.2.2.2.1.2.1,(v2.2.2.2.1.2.2.1,(v2.2.2.2.1.2.2.2.2.1,(v2.2.2.2.1.2.2.2.2.2.1,(v1.1,())))))))))))))))))))))))))))))))))=true then
 letB (kC.fn4 (((length v1.1:Nat):Int),((0:Int),(x0,((0:Int),((0:Int),((0:Int),((0:Int),((),((0:Int),((),((),(([]:List aL),(([]:List cL),(([]:List aK),(([]:List aJ),(([]:List Int),(([]:List aM),(v2.1,(v2.2.1,(v2.2.2.1.1,(v2.2.2.1.2.1,(v2.2.2.1.2.2.2,(v2.2.2.2.1.2.2.2.1,(v2.2.2.2.1.2.2.2.2.2.2,(v2.2.2.2.2,(v2.2.2.1.2.2.1,(v2.2.2.2.1.1,(v2.2.2.2.1.2.1,(v2.2.2.2.1.2.2.1,(v2.2.2.2.1.2.2.2.2.1,(v2.2.2.2.1.2.2.2.2.2.1,(v1.1,()))))))))))))))))))))))))))))))))) fun v3=>
 some ((),((v3.2.2.2.2.2.2.2.2.2.2.2.2.2.2.1,(v3.2.2.2.2.2.2.2.2.2.2.2.2.2.2.2.1,((v3.2.2.2.2.2.2.2.2.2.2.2.2.2.2.2.2.1,(v3.2.2.2.2.2.2.2.2.2.2.2.2.2.2.2.2.2.1,(v3.2.2.2.2.2.2.2.2.2.2.2.2.2.2.2.2.2.2.2.2.2.2.1,v3.2.2.2.2.2.2.2.2.2.2.2.2.2.2.2.2.2.2.1))),((v3.2.2.2.2.2.2.2.2.2.2.2.2.2.2.2.2.2.2.2.2.2.2.2.1,(v3.2.2.2.2.2.2.2.2.2.2.2.2.2.2.2.2.2.2.2.2.2.2.2.2.1,(v3.2.2.2.2.2.2.2.2.2.2.2.2.2.2.2.2.2.2.2.2.2.2.2.2.2.1,(v3.2.2.2.2.2.2.2.2.2.2.2.2.2.2.2.2.2.2.2.1,(v3.2.2.2.2.2.2.2.2.2.2.2.2.2.2.2.2.2.2.2.2.2.2.2.2.2.2.1,(v3.2.2.2.2.2.2.2.2.2.2.2.2.2.2.2.2.2.2.2.2.2.2.2.2.2.2.2.1,v3.2.2.2.2.2.2.2.2.2.2.2.2.2.2.2.2.2.2.2.2.1)))))),v3.2.2.2.2.2.2.2.2.2.2.2.2.2.2.2.2.2.2.2.2.2.1)))),()))
 else
 none
 else
 none
 else
 none
theorem zE(x1 x2 x3 x4 x5 x6 x7 x8 x9 x10 x11 x12 x13 x14 x15 x16 x17 x18 x19 x20 x21 x22 x23 x24 x25 x26 x27 x28 x29 x30 x31 x32)(hp:pre4 (x1,(x2,(x3,(x4,(x5,(x6,(x7,(x8,(x9,(x10,(x11,(x12,(x13,(x14,(x15,(x16,(x17,(x18,(x19,(x20,(x21,(x22,(x23,(x24,(x25,(x26,(x27,(x28,(x29,(x30,(x31,(x32,()))))))))))))))))))))))))))))))))=true):Rounds pre4 qD fn4 (x1,(x2,(x3,(x4,(x5,(x6,(x7,(x8,(x9,(x10,(x11,(x12,(x13,(x14,(x15,(x16,(x17,(x18,(x19,(x20,(x21,(x22,(x23,(x24,(x25,(x26,(x27,(x28,(x29,(x30,(x31,(x32,())))))))))))))))))))))))))))))))) (hJ x1 x2 x3 x4 x5 x6 x7 x8 x9 x10 x11 x12 x13 x14 x15 x16 x17 x18 x19 x20 x21 x22 x23 x24 x25 x26 x27 x28 x29 x30 x31 x32):=by
 have hq:(decide (x1=((length x32:Nat):Int))&&aBm x3 (x18,(x19,((x20,(x21,(x26,x22))),((x27,(x28,(x29,(x23,(x30,(x31,x24)))))),x25)))) x2 x32)=true:=hp
 simp only[Zb,Za] at hq
 obtain⟨rfl,hq⟩:=hq
 unfold hJ
 by_cases hlt:x2<((length x32:Nat):Int)
 case neg=>exact jC (by rw[Za];exact hlt) (congrArg (F4 x4 x5 x6 x7 x8 x9 x10 x11 x12 x13 x14 x15 x16 x17) (aLU (p:=x3) (h:=(x18,(x19,((x20,(x21,(x26,x22))),((x27,(x28,(x29,(x23,(x30,(x31,x24)))))),x25))))) hlt))
 obtain⟨h1,h2,h3,h4,h5⟩:=aNm (p:=x3) (h:=(x18,(x19,((x20,(x21,(x26,x22))),((x27,(x28,(x29,(x23,(x30,(x31,x24)))))),x25))))) (i:=x2) (l:=x32) hq hlt
 rw[h3]
 exact fO (Zd hlt) (fO (Zd h1) (fO (Zd hlt) (fO h2 (lV ⟨qN (Zd rfl) h4,aNo h1 hlt,congrArg (F4 x4 x5 x6 x7 x8 x9 x10 x11 x12 x13 x14 x15 x16 x17) h5⟩))))
theorem eq(x0:aW)(x1:List Int)(_:wf x0 x1)(hp:pre x0 x1=true):aR x0 x1=some ((),(kC x0 x1,())):=by
 unfold aR
 exact dS (show kN.pre _=true from rfl) (dS (show kO.pre _=true from aFv hp) (cU (cU (dS (show pre4 _=true from qN (Zd rfl) (aHM hp)) (cU rfl)))))
end kC
theorem aKh{s:aW}{k:bI}(h:aJV s k):fU k<=10000:=by
 obtain⟨⟨h0,h1,h2,h3,h4,h5,h6⟩,k1,k2,k3,k4,k5,k6⟩:=h
 have hs:=mD h0
 have hm:=aHV (fun m hm=>(k5 m hm).1) k6
 have r1:∀r∈k.1,cK r<=500:=fun r hr=>by
  have:=(aFL.1 (k1 r hr)).1.2.2.2
  have h1:=qS (g:=gF) (c:=5) r.2.2.1 fun _ _=>Int.le_refl _
  simp only[cK];omega
 have m1:∀m∈k.2.1,bN m<=50:=fun m hm=>by
  obtain⟨⟨⟨_,_,_,_,_,_,_,_,h9,_⟩,_⟩,_⟩:=k5 m hm
  have h1:=qS (g:=gE) (c:=2) m.2.2.2.2.1 fun _ _=>Int.le_refl _
  simp only[bN];omega
 have g1:∀g∈k.2.2.1,bY g<=50:=fun g hg=>by
  have hg':=aAG.1 (k2 g hg)
  have hl:=aOQ hg'.2.2.1 hg'.2.1
  have e1:=qS (g:=bO) (c:=1) g.2.1 fun _ _=>Int.le_refl _
  have e2:=qS (g:=bO) (c:=1) g.2.2.1 fun _ _=>Int.le_refl _
  have e3:=qS (g:=bO) (c:=1) g.2.2.2.1 fun _ _=>Int.le_refl _
  have e4:=hg'.1.1
  have e5:=hg'.1.2.1
  simp only[bY];omega
 have b1:=qS k.1 r1
 have b2:=qS k.2.1 m1
 have b3:=qS k.2.2.1 g1
 have b4:=qS (g:=bO) (c:=1) k.2.2.2.2.1 fun _ _=>Int.le_refl _
 have b5:=qS (g:=dL) (c:=4) k.2.2.2.2.2.1 fun _ _=>Int.le_refl _
 simp only[fU]
 omega
theorem aJK{p:aW}(hs:dP p=false):(l:List eE)->(h:jV)->List.foldl (nT p) h l=h
 |[],_=>rfl
 |r::l,h=>by rw[List.foldl_cons,tZ (.inl hs),aJK hs l h]
theorem aIN(p:aW)(b:List Int):fV (aAB p b)<=20000:=by
 cases hs:dP p
 . have:=aHY p
   rw[show aAB p b=pY p from aJK hs _ _]
   omega
 . have c:=((uG.1 (aHs (aBY b).1 _ (aDd p))).2.2 hs).1
   simp only[cO,uO,Zb] at c
   have h1:=zX c.2.2.1
   have h2:=aKh (aKE.1 c.2.2.2.2)
   show fV (List.foldl (nT p) (pY p) (aBY b).1)<=20000
   simp only[fV,iU,wT]
   omega
def jF(_:aW)(_:List Int):Bool:=true
namespace jF
abbrev wf(x0:aW)(x1:(List Int)):Prop:=fW [(.val wG .f),(.val wM .f)] (x0,(x1,()))
noncomputable def aR(x0:aW)(x1:(List Int)):Option kZ:=
 if(decide ((1048576:Int)<((length x1:Nat):Int)))=true then
 some ((),(true,()))
 else
 if(eJ.pre x1)=true then
 letB (mC x0) fun v1=>
 letB (eJ x1) fun v2=>
 if(kR.pre v1 v2)=true then
 if(eJ.pre x1)=true then
 if(kC.pre v1 v2)=true then
 letB (aAB v1 v2) fun v3=>
 letB (aAB v1 v2) fun v4=>
 letB (lN v3 v4) fun v5=>
 if(!v5)=true then
 some ((),(false,()))
 else
 if(eJ.pre x1)=true then
 letB (jQ v2 v2) fun v6=>
 if(!v6)=true then
 some ((),(false,()))
 else
 if(eH.pre v2 (1:Int))=true then
 letB (eH v2 (1:Int)) fun v7=>
 if(decide (v7.2<(0:Int)))=true then
 some ((),(false,()))
 else
 if(!v5)=true then
 some ((),(false,()))
 else
 if(fA.pre v3 (1:Int))=true then
 letB (fA v3 (1:Int)) fun v8=>
 if(fJ.pre (v3.1,(v3.2.1,((v3.2.2.1.1,(v3.2.2.1.2.1,(v8.1.2.2.1.2.2.1,v3.2.2.1.2.2.2))),((v8.1.2.2.2.1.1,(v8.1.2.2.2.1.2.1,(v8.1.2.2.2.1.2.2.1,(v3.2.2.2.1.2.2.2.1,(v8.1.2.2.2.1.2.2.2.2.1,(v8.1.2.2.2.1.2.2.2.2.2.1,v3.2.2.2.1.2.2.2.2.2.2)))))),v3.2.2.2.2)))) (1:Int))=true then
 letB (fJ (v3.1,(v3.2.1,((v3.2.2.1.1,(v3.2.2.1.2.1,(v8.1.2.2.1.2.2.1,v3.2.2.1.2.2.2))),((v8.1.2.2.2.1.1,(v8.1.2.2.2.1.2.1,(v8.1.2.2.2.1.2.2.1,(v3.2.2.2.1.2.2.2.1,(v8.1.2.2.2.1.2.2.2.2.1,(v8.1.2.2.2.1.2.2.2.2.2.1,v3.2.2.2.1.2.2.2.2.2.2)))))),v3.2.2.2.2)))) (1:Int)) fun v9=>
 if(decide (v9<(0:Int)))=true then
 some ((),(false,()))
 else
 if(!(decide (v9=v8.2)))=true then
 some ((),(false,()))
 else
 if(eJ.pre x1)=true then
 if(kC.pre v1 v2)=true then
 letB (aAB v1 v2) fun v10=>
 letB (lN v10 v4) fun v11=>
 if(!v11)=true then
 some ((),(false,()))
 else
 if(fJ.pre (v3.1,(v3.2.1,((v3.2.2.1.1,(v3.2.2.1.2.1,(v8.1.2.2.1.2.2.1,v3.2.2.1.2.2.2))),((v8.1.2.2.2.1.1,(v8.1.2.2.2.1.2.1,(v8.1.2.2.2.1.2.2.1,(v3.2.2.2.1.2.2.2.1,(v8.1.2.2.2.1.2.2.2.2.1,(v8.1.2.2.2.1.2.2.2.2.2.1,v3.2.2.2.1.2.2.2.2.2.2)))))),v3.2.2.2.2)))) (1:Int))=true then
 if(decide (v9<(0:Int)))=true then
 some ((),(false,()))
 else
 if(!(decide (v9=v8.2)))=true then
 some ((),(false,()))
 else
 some ((),(true,()))
 else
 none
 else
 none
 else
 none
 else
 none
 else
 none
 else
 none
 else
 none
 else
 none
 else
 none
 else
 none
 else
 none
theorem eq(x0:aW)(x1:List Int)(hw:wf x0 x1):aR x0 x1=some ((),(jF x0 x1,())):=by
 unfold aR
 simp only[letB]
 by_cases h:(1048576:Int)<(x1.length:Int)
 . rw[if_pos (Zd h)];rfl
 have hb:bQ x1=true:=gN hw.2.1.2
 have hO:bOk x1=true:=by
  simp only[bOk,Zb,Za]
  exact⟨hb,by omega⟩
 have p1:eJ.pre x1=true:=aJd (by omega)
 have e0:eJ x1=x1:=rfl
 have e1:mC x0=x0:=rfl
 have p2:kR.pre x0 x1=true:=hO
 have p3:kC.pre x0 x1=true:=hO
 have hcb:=aFw x1
 have p5:eH.pre x1 1=true:=aF3 (by omega) (by omega)
 have n2:¬1+bJ oI x1<0:=by omega
 have hc:=aIN x0 x1
 rw[if_neg (by rw[Za];exact h)]
 simp only[p1,e0,e1,p2,p3,p5,n2,aGY,if_true]
 generalize aAB x0 x1=v at *
 have hc0:=aH4 v
 have p6:fA.pre v 1=true:=aGy (by omega) (by omega)
 have em:(v.1,(v.2.1,((v.2.2.1.1,(v.2.2.1.2.1,((lB v 1).2.2.1.2.2.1,v.2.2.1.2.2.2))),(((lB v 1).2.2.2.1.1,((lB v 1).2.2.2.1.2.1,((lB v 1).2.2.2.1.2.2.1,(v.2.2.2.1.2.2.2.1,((lB v 1).2.2.2.1.2.2.2.2.1,((lB v 1).2.2.2.1.2.2.2.2.2.1,v.2.2.2.1.2.2.2.2.2.2)))))),v.2.2.2.2))))=lB v 1:=rfl
 have p7:fJ.pre (lB v 1) 1=true:=aGK (by omega) (by rw[aBk];omega)
 have e3:=aFb v 1
 have n1:¬1+fV v<0:=by omega
 simp only[p6,p7,e3,n1,em,aIu,lN,jQ,pT,decide_true,decide_false,Bool.not_true,Zj,if_true,if_false]
 rfl
end jF
end Go.Aw.Pl
