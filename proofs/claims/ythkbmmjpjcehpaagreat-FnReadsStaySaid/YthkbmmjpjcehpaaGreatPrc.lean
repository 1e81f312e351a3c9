import Derived.Test.YthkbmmjpjcehpaaGreatPrb
namespace Go.Aw.Pl
open Go.IntKind (wrap)
open List (length)
open Go Go.Aw
set_option linter.unusedVariables false
set_option linter.unusedSimpArgs false
set_option maxHeartbeats 1000000
namespace jT
abbrev S5:Type:=(Int×(Int×aIF))
abbrev O5:Type:=aIF
def pre5:S5->Bool:=fun(x1,x2,x3,_,_,_,x7,_)=>decide (x1=(x7.length:Int))&&(decide (0<=x2)&&(decide (x2<=(x7.length:Int))&&(decide (x7.length<=1000)&&(x7.drop x2.toNat).all fun g=>pN g x3)))
def mu5:S5->Nat:=fun(_,x2,_,_,_,_,x7,_)=>x7.length-x2.toNat
def fn5:S5->O5:=fun(_,x2,x3,x4,x5,x6,x7,x8)=>(x3,x4,x5,x6,x7.take x2.toNat++(x7.drop x2.toNat).map (fun g=>lQ g x3),x8)
noncomputable def rG(x1:Int)(x2:Int)(x3:Int)(x4:Unit)(x5:(List bW))(x6:(List aC))(x7:(List aE))(x8:(List Int))(x9:(List aF))(x10:aF):Option ((Int×(Int×aIF))⊕aIF):=
 if(decide (x2<x1))=true then
 if(decide ((0:Int)<=x2))=true then
 if(decide (x2<((length x7:Nat):Int)))=true then
 if(gI.pre (List.getD x7 (Int.toNat x2) qX) x3)=true then
 if(decide ((0:Int)<=x2))=true then
 if(decide (x2<((length x7:Nat):Int)))=true then
 some (.inl (x1,((wrap .i64 (x2+(1:Int))),(x3,(x4,(x5,(x6,((List.modify x7 (Int.toNat x2) (fun z=>(lQ (List.getD x7 (Int.toNat x2) qX) x3))),(x8,(x9,(x10,())))))))))))
 else
 none
 else
 none
 else
 none
 else
 none
 else
 none
 else
 some (.inr (x3,(x4,(x5,(x6,(x7,(x8,(x9,(x10,())))))))))
abbrev wf(x0:bB)(x1:aP)(x2:fQ):Prop:=iM [(.ref zk1 .o),(.val vY .f),(.val wN .f)] (x0,(x1,(x2,())))
noncomputable def aQ(x0:bB)(x1:aP)(x2:fQ):Option ((bB×Unit)×uW):=
 if(decide (x2.2.2.1=(8:Int)))=true then
 if(jT.pre5 (((length x0.2.2.1:Nat):Int),((0:Int),((if(decide ((100000:Int)<(wrap .i64 (x0.2.2.2.1+x2.2.2.2.1))))=true then(100000:Int) else(wrap .i64 (x0.2.2.2.1+x2.2.2.2.1))),(x0.2.2.2.2.2.2,(x0.1,(x0.2.1,(x0.2.2.1,(x0.2.2.2.2.1,(x0.2.2.2.2.2.1,(((0:Int),mP),())))))))))))=true then
 letB (jT.fn5 (((length x0.2.2.1:Nat):Int),((0:Int),((if(decide ((100000:Int)<(wrap .i64 (x0.2.2.2.1+x2.2.2.2.1))))=true then(100000:Int) else(wrap .i64 (x0.2.2.2.1+x2.2.2.2.1))),(x0.2.2.2.2.2.2,(x0.1,(x0.2.1,(x0.2.2.1,(x0.2.2.2.2.1,(x0.2.2.2.2.2.1,(((0:Int),mP),()))))))))))) fun v1=>
 some (((v1.2.2.1,(v1.2.2.2.1,(v1.2.2.2.2.1,(v1.1,(v1.2.2.2.2.2.1,(v1.2.2.2.2.2.2.1,v1.2.1)))))),()),(((0:Int),(v1.1,(([]:List UInt8),(([]:List UInt8),())))),()))
 else
 none
 else
 if(decide (x2.2.2.1=(4:Int)))=true then
 if(decide (x2.2.2.1=(4:Int)))=true then
 if(decide ((2:Int)<=x2.2.2.2.1))=true then
 some ((x0,()),(((9:Int),mP),()))
 else
 if(dB.pre x0 x2)=true then
 letB (dB x0 x2) fun v2=>
 some ((v2.1,()),(v2.2,()))
 else
 none
 else
 if(decide (((length x0.1:Nat):Int)<=x2.2.2.2.1))=true then
 some ((x0,()),(((5:Int),mP),()))
 else
 if(fJ.pre x0 x1 x2)=true then
 letB (fJ x0 x1 x2) fun v3=>
 some ((v3.1,()),(v3.2,()))
 else
 none
 else
 if(decide (x2.2.2.1=(5:Int)))=true then
 if(decide (x2.2.2.1=(5:Int)))=true then
 if(decide ((2:Int)<=x2.2.2.2.1))=true then
 some ((x0,()),(((9:Int),mP),()))
 else
 if(dB.pre x0 x2)=true then
 letB (dB x0 x2) fun v4=>
 some ((v4.1,()),(v4.2,()))
 else
 none
 else
 if(decide (((length x0.1:Nat):Int)<=x2.2.2.2.1))=true then
 some ((x0,()),(((5:Int),mP),()))
 else
 if(fJ.pre x0 x1 x2)=true then
 letB (fJ x0 x1 x2) fun v5=>
 some ((v5.1,()),(v5.2,()))
 else
 none
 else
 if(decide (x2.2.2.1=(6:Int)))=true then
 if(decide (x2.2.2.1=(6:Int)))=true then
 if(decide ((2:Int)<=x2.2.2.2.1))=true then
 some ((x0,()),(((9:Int),mP),()))
 else
 if(dB.pre x0 x2)=true then
 letB (dB x0 x2) fun v6=>
 some ((v6.1,()),(v6.2,()))
 else
 none
 else
 if(decide (((length x0.1:Nat):Int)<=x2.2.2.2.1))=true then
 some ((x0,()),(((5:Int),mP),()))
 else
 if(fJ.pre x0 x1 x2)=true then
 letB (fJ x0 x1 x2) fun v7=>
 some ((v7.1,()),(v7.2,()))
 else
 none
 else
 if(decide (x2.2.2.1=(7:Int)))=true then
 if(decide ((2:Int)<=x2.2.2.2.1))=true then
 some ((x0,()),(((9:Int),mP),()))
 else
 if(dB.pre x0 x2)=true then
 letB (dB x0 x2) fun v8=>
 some ((v8.1,()),(v8.2,()))
 else
 none
 else
 if(decide (((length x0.1:Nat):Int)<=x2.2.2.2.1))=true then
 some ((x0,()),(((5:Int),mP),()))
 else
 if(fJ.pre x0 x1 x2)=true then
 letB (fJ x0 x1 x2) fun v9=>
 some ((v9.1,()),(v9.2,()))
 else
 none
theorem ok5(x1 x2 x3:Int)(x4:Unit)(x5:List bW)(x6:List aC)(x7:List aE)(x8:List Int)(x9:List aF)(x10:aF)(hp:pre5 (x1,(x2,(x3,(x4,(x5,(x6,(x7,(x8,(x9,(x10,()))))))))))=true):
 aX pre5 mu5 fn5 (x1,(x2,(x3,(x4,(x5,(x6,(x7,(x8,(x9,(x10,())))))))))) (rG x1 x2 x3 x4 x5 x6 x7 x8 x9 x10):=by
 simp only[pre5,Zb,Za,Zu] at hp
 obtain⟨rfl,h1,h2,h3,h4⟩:=hp
 unfold rG
 by_cases hlt:x2<(x7.length:Int)
 . have hn:x2.toNat<x7.length:=by omega
   have e1:=Zn hn
   have ht:pN x7[x2.toNat] x3=true:=h4 _ (by rw[e1];exact List.mem_cons_self)
   have es:(x2+1).toNat=x2.toNat+1:=by omega
   rw[dR hn,lN (n:=x2+1) (by omega) (by omega),nX]
   refine bU (Zd hlt) (bU (Zd h1) (bU (Zd hlt) (bU (show gI.pre _ _=true from ht) (bU (Zd h1) (bU (Zd hlt) ⟨?_,?_,?_⟩)))))
   . simp only[pre5,Zb,Za,Zu,List.length_set,es]
     refine⟨trivial,by omega,by omega,h3,fun g hg=>h4 g ?_⟩
     rw[List.drop_set_of_lt (by omega)] at hg
     rw[e1];exact Zo _ hg
   . simp only[mu5,List.length_set];omega
   . simp only[fn5,es]
     rw[List.drop_set_of_lt (by omega),e1,List.take_add_one,List.getElem?_set_self hn,List.take_set_of_le (Nat.le_refl _)]
     simp only[Option.toList,List.map_cons,Zk,List.cons_append,List.nil_append]
 . refine dJ (by rw[Za];exact hlt) ?_
   simp only[aX,fn5]
   rw[Zt (by omega),List.take_of_length_le (by omega)]
   simp
noncomputable def pre(k:bB)(s:aP)(c:fQ):Bool:=B (yB s k c)
theorem eq(x1:bB)(x0:aP)(x2:fQ)(_:wf x1 x0 x2)(hp:pre x1 x0 x2=true):aQ x1 x0 x2=some (((jT x1 x0 x2).1,()),((jT x1 x0 x2).2,())):=by
 have hcp:=cP.1 hp
 obtain⟨hk,hc,hw⟩:=hcp
 have hk':=hk
 obtain⟨⟨h0,h1,h2,h3,h4,h5,h6⟩,k1,k2,k3,k4,k5⟩:=hk'
 have hs:=fT h0
 have cf:=jF hc hw
 have tk:=aCr (cP.1 hp)
 have hrow:∀{A:Option ((bB×Unit)×uW)},¬x2.2.2.1=8->aA x2.2.2.1 4 7=false->A=(if decide ((x1.1.length:Int)<=x2.2.2.2.1)=true then some ((x1,()),(mK 5 0,())) else if fJ.pre x1 x0 x2=true then letB (fJ x1 x0 x2) fun v=>some ((v.1,()),(v.2,())) else none)->Wp A (fun r=>(r.1.1,r.2.1)=mH x0 x1 x2):=by
  rintro A e8 ew rfl
  have e:mH x0 x1 x2=if x0.1<=x2.2.2.2.1 then(x1,mK 5 0) else sA x0 x1 x2:=by
   unfold mH
   rw[if_neg e8,ew];rfl
  rw[e]
  refine cF (fun c=>?_) fun c=>?_
  . rw[Za] at c
    rw[if_pos (show x0.1<=x2.2.2.2.1 by omega)];exact aH rfl
  . rw[Za] at c
    rw[if_neg (show ¬x0.1<=x2.2.2.2.1 by omega)]
    exact aG (show fJ.pre x1 x0 x2=true from cP.2 ⟨cP.1 hp,by omega⟩) (bR (aH rfl))
 have hgrp:∀{A:Option ((bB×Unit)×uW)},¬x2.2.2.1=8->aA x2.2.2.1 4 7=true->A=(if decide ((2:Int)<=x2.2.2.2.1)=true then some ((x1,()),(mK 9 0,())) else if dB.pre x1 x2=true then letB (dB x1 x2) fun v=>some ((v.1,()),(v.2,())) else none)->Wp A (fun r=>(r.1.1,r.2.1)=mH x0 x1 x2):=by
  rintro A e8 ew rfl
  have e:mH x0 x1 x2=if 2<=x2.2.2.2.1 then(x1,mK 9 0) else nL x0 x1 x2:=by
   unfold mH
   rw[if_neg e8,ew];rfl
  rw[e]
  refine cF (fun c=>?_) fun c=>?_
  . rw[Za] at c
    rw[if_pos c];exact aH rfl
  . rw[Za] at c
    rw[if_neg c]
    refine aG (show dB.pre x1 x2=true from cP.2 ⟨⟨x0,cP.1 hp⟩,by omega⟩) (bR (aH ?_))
    rw[aCC hk]
 refine aEk ?_
 unfold aQ
 show Wp (α:=(bB×Unit)×uW) _ (fun r=>(r.1.1,r.2.1)=mH x0 x1 x2)
 have win:∀n:Int,aA n 4 7=true↔4<=n/\n<=7:=fun n=>by simp only[aA,Zb,Za]
 refine cF (fun c1=>?_) fun c1=>?_
 . rw[Za] at c1
   have ew:wrap .i64 (x1.2.2.2.1+x2.2.2.2.1)=x1.2.2.2.1+x2.2.2.2.1:=lN (by omega) (by omega)
   have et:(if decide ((100000:Int)<wrap .i64 (x1.2.2.2.1+x2.2.2.2.1))=true then(100000:Int) else wrap .i64 (x1.2.2.2.1+x2.2.2.2.1))=yG x1 x2:=by
    rw[ew]
    unfold yG aFE
    simp only[Za]
   rw[et]
   unfold mH
   rw[if_pos c1]
   refine aG ?_ (bR (aH ?_))
   . show(decide ((x1.2.2.1.length:Int)=(x1.2.2.1.length:Int))&&(decide ((0:Int)<=0)&&(decide ((0:Int)<=(x1.2.2.1.length:Int))&&(decide (x1.2.2.1.length<=1000)&&(x1.2.2.1.drop (Int.toNat 0)).all fun g=>pN g (yG x1 x2)))))=true
     simp only[Zb,Za,Zu]
     exact⟨trivial,by omega,by omega,by omega,fun g hg=>aEK (k2 g hg) hs.2.1 tk.1 tk.2⟩
   . rfl
 rw[Za] at c1
 refine cF (fun c2=>?_) fun c2=>?_
 . rw[Za] at c2
   exact aG (Zd c2) (hgrp c1 ((win _).2 (by omega)) rfl)
 refine cF (fun c3=>?_) fun c3=>?_
 . rw[Za] at c3
   exact aG (Zd c3) (hgrp c1 ((win _).2 (by omega)) rfl)
 refine cF (fun c4=>?_) fun c4=>?_
 . rw[Za] at c4
   exact aG (Zd c4) (hgrp c1 ((win _).2 (by omega)) rfl)
 refine cF (fun c5=>?_) fun c5=>?_
 . rw[Za] at c5
   exact hgrp c1 ((win _).2 (by omega)) rfl
 rw[Za] at c2 c3 c4 c5
 refine hrow c1 ?_ rfl
 cases h:aA x2.2.2.1 4 7
 . rfl
 . have:=(win _).1 h
   omega
end jT
def iR(k:bB)(s:aP)(c:fQ):bB×aF:=qD s k c
namespace iR
noncomputable def pre(k:bB)(s:aP)(c:fQ):Bool:=B (kD s k/\kZ c=true)
abbrev wf(x0:bB)(x1:aP)(x2:fQ):Prop:=iM [(.ref zk1 .o),(.val vY .f),(.val wN .f)] (x0,(x1,(x2,())))
noncomputable def aQ(x0:bB)(x1:aP)(x2:fQ):Option ((bB×Unit)×uW):=
 if(decide (x2.1=(-1:Int)))=true then
 some ((x0,()),(((0:Int),mP),()))
 else
 if(decide ((0:Int)<=x2.1))=true then
 if(decide (x2.1<((length x0.2.2.2.2.1:Nat):Int)))=true then
 if(decide (x2.2.1<=(List.getD x0.2.2.2.2.1 (Int.toNat x2.1) (0:Int))))=true then
 if(decide ((0:Int)<=x2.1))=true then
 if(decide (x2.1<((length x0.2.2.2.2.2.1:Nat):Int)))=true then
 some ((x0,()),((List.getD x0.2.2.2.2.2.1 (Int.toNat x2.1) ((0:Int),mP)),()))
 else
 none
 else
 none
 else
 if(jT.pre x0 x1 x2)=true then
 if(decide ((0:Int)<=x2.1))=true then
 letB (jT x0 x1 x2) fun v1=>
 if(decide (x2.1<((length v1.1.2.2.2.2.1:Nat):Int)))=true then
 if(decide ((0:Int)<=x2.1))=true then
 if(decide (x2.1<((length v1.1.2.2.2.2.2.1:Nat):Int)))=true then
 some (((v1.1.1,(v1.1.2.1,(v1.1.2.2.1,(v1.1.2.2.2.1,((List.modify v1.1.2.2.2.2.1 (Int.toNat x2.1) (fun z=>x2.2.1)),((List.modify v1.1.2.2.2.2.2.1 (Int.toNat x2.1) (fun z=>v1.2)),v1.1.2.2.2.2.2.2)))))),()),(v1.2,()))
 else
 none
 else
 none
 else
 none
 else
 none
 else
 none
 else
 none
 else
 none
theorem eq(x1:bB)(x0:aP)(x2:fQ)(_:wf x1 x0 x2)(hp:pre x1 x0 x2=true):aQ x1 x0 x2=some (((iR x1 x0 x2).1,()),((iR x1 x0 x2).2,())):=by
 obtain⟨hk,hc⟩:=cP.1 hp
 refine aEk ?_
 unfold aQ
 show Wp (α:=(bB×Unit)×uW) _ (fun r=>(r.1.1,r.2.1)=qD x0 x1 x2)
 unfold qD
 refine cF (fun c1=>?_) fun c1=>?_
 . rw[Za] at c1;rw[if_pos (show x2.1<0 by omega)]
   exact aH rfl
 rw[Za] at c1
 have hw:0<=x2.1:=by rcases aFh hc with h|h<;>omega
 rw[if_neg (show ¬x2.1<0 by omega)]
 have cf:=jF hc hw
 have hd:x2.1<(x1.2.2.2.2.1.length:Int):=by have:=hk.1.2.2.2.1;omega
 have hl:x2.1<(x1.2.2.2.2.2.1.length:Int):=by have:=hk.1.2.2.2.2.1;omega
 have hcp:yB x0 x1 x2:=⟨hk,hc,hw⟩
 have hn:=(aC8 hcp).1.1
 refine aG (Zd hw) (aG (Zd hd) (cF (fun c2=>?_) fun c2=>?_))
 . rw[Za] at c2;rw[if_pos c2]
   exact aG (Zd hw) (aG (Zd hl) (aH rfl))
 . rw[Za] at c2;rw[if_neg c2]
   exact aG (show jT.pre x1 x0 x2=true from cP.2 hcp) (aG (Zd hw) (bR (aG (Zd (show x2.1<((mH x0 x1 x2).1.2.2.2.2.1.length:Int) by have:=hn.2.2.2.1;omega)) (aG (Zd hw) (aG (Zd (show x2.1<((mH x0 x1 x2).1.2.2.2.2.2.1.length:Int) by have:=hn.2.2.2.2.1;omega)) (aH rfl))))))
end iR
def aCz(s:aP)(k:bB):Prop:=tX k=true/\(dK s=true->kD s k)
theorem aGb{s:aP}{k:bB}{c:fQ}(h:aCz s k):aCz s (kI s k c).1:=by
 have h2:=(wE (c:=c) h.2).1
 refine⟨?_,h2⟩
 cases hs:dK s
 . unfold kI;rw[hs];exact h.1
 . exact aBK (h2 hs)
theorem aAv(s:aP):aCz s (gA s):=by
 refine⟨?_,xT⟩
 cases hs:dK s
 . rw[show gA s=_ from if_neg (by rw[hs];exact Bool.false_ne_true)];rfl
 . exact aBK (xT hs)
abbrev cU:aP->bB->fQ->bB×aF:=kI
namespace cU
noncomputable def pre(s:aP)(k:bB)(_:fQ):Bool:=B (aCz s k)
abbrev wf(x0:aP)(x1:bB)(x2:fQ):Prop:=iM [(.val vY .f),(.val zk1 .f),(.val wN .f)] (x0,(x1,(x2,())))
noncomputable def aQ(x0:aP)(x1:bB)(x2:fQ):Option (Unit×(bB×uW)):=
 if(dU.pre x1)=true then
 if(dY.pre x0 x1)=true then
 letB (dY x0 x1) fun v1=>
 if(!v1)=true then
 letB (dU x1) fun v2=>
 some ((),(v2,(((0:Int),mP),())))
 else
 letB (kZ x2) fun v3=>
 if(!v3)=true then
 letB (dU x1) fun v4=>
 some ((),(v4,(((0:Int),mP),())))
 else
 letB (dU x1) fun v5=>
 if(iR.pre v5 x0 x2)=true then
 letB (iR v5 x0 x2) fun v6=>
 some ((),(v6.1,(v6.2,())))
 else
 none
 else
 none
 else
 none
theorem eq(x0:aP)(x1:bB)(x2:fQ)(_:wf x0 x1 x2)(hp:pre x0 x1 x2=true):aQ x0 x1 x2=some ((),((kI x0 x1 x2).1,((kI x0 x1 x2).2,()))):=by
 obtain⟨hS,hP⟩:=cP.1 hp
 have e:dY x0 x1=dK x0:=by
  cases hs:dK x0
  . unfold dY aCi;rw[hs];rfl
  . exact aCW (hP hs)
 refine wH ?_
 unfold aQ
 rw[show dU x1=x1 from rfl]
 refine aG (show dU.pre x1=true from hS) (aG (show dY.pre x0 x1=true from hS) (bR ?_))
 rw[e]
 unfold kI
 cases hs:dK x0
 . exact aG rfl (bR (aH rfl))
 refine eG (by decide) (bR ?_)
 cases hc:kZ x2
 . exact aG rfl (bR (aH rfl))
 exact eG (by decide) (bR (aG (show iR.pre x1 x0 x2=true from cP.2 ⟨hP hs,hc⟩) (bR (aH rfl))))
end cU
abbrev dG:aP->List fQ->bB×List aF:=dV
namespace dG
abbrev S4:Type:=((List fQ)×(Int×(Int×(aP×aGS))))
abbrev O4:Type:=aGS
noncomputable def pre4:S4->Bool:=fun(x1,x2,x3,x4,_,_,_,_,_,_,_,x12,x13,x14,x15,x16,x17,x18,x19,_)=>bQ x1&&(decide (x2=(x1.length:Int))&&(decide (0<=x3)&&(decide (x3<=(x1.length:Int))&&(decide ((x19.length:Int)=x3)&&B (aCz x4 (x14,(x15,(x16,(x12,(x17,(x18,x13)))))))))))
def kU:S4->Nat:=fun(x1,_,x3,_)=>x1.length-x3.toNat
def Q4(s:S4)(o:O4):Prop:=match s,o with
 |(x1,_,x3,x4,_,_,_,_,_,_,_,x12,x13,x14,x15,x16,x17,x18,x19,_),(_,_,_,_,_,_,_,o12,o13,o14,o15,o16,o17,o18,o19,_)=>
  ((o14,(o15,(o16,(o12,(o17,(o18,o13)))))),o19)=pR x4 (x14,(x15,(x16,(x12,(x17,(x18,x13)))))) x19 (x1.drop x3.toNat)
noncomputable def eO(x1:(List fQ))(x2:Int)(x3:Int)(x4:aP)(x5:Int)(x6:Unit)(x7:(List bW))(x8:(List aC))(x9:(List aE))(x10:(List Int))(x11:(List aF))(x12:Int)(x13:Unit)(x14:(List bW))(x15:(List aC))(x16:(List aE))(x17:(List Int))(x18:(List aF))(x19:(List aF)):Option (((List fQ)×(Int×(Int×(aP×aGS))))⊕aGS):=
 if(decide (x3<x2))=true then
 if(decide ((0:Int)<=x3))=true then
 if(decide (x3<((length x1:Nat):Int)))=true then
 if(cU.pre x4 (x14,(x15,(x16,(x12,(x17,(x18,x13)))))) (List.getD x1 (Int.toNat x3) aDJ))=true then
 letB (cU x4 (x14,(x15,(x16,(x12,(x17,(x18,x13)))))) (List.getD x1 (Int.toNat x3) aDJ)) fun v1=>
 if(decide (length x19+length (v1.2::([]:List aF))<=gO))=true then
 some (.inl (x1,(x2,((wrap .i64 (x3+(1:Int))),(x4,(x5,(x6,(x7,(x8,(x9,(x10,(x11,(v1.1.2.2.2.1,(v1.1.2.2.2.2.2.2,(v1.1.1,(v1.1.2.1,(v1.1.2.2.1,(v1.1.2.2.2.2.1,(v1.1.2.2.2.2.2.1,((List.append x19 (v1.2::([]:List aF))),()))))))))))))))))))))
 else
 none
 else
 none
 else
 none
 else
 none
 else
 some (.inr (x5,(x6,(x7,(x8,(x9,(x10,(x11,(x12,(x13,(x14,(x15,(x16,(x17,(x18,(x19,()))))))))))))))))
theorem wp4:∀s,pre4 s=true->Wp ((fun(x:S4)=>eO x.1 x.2.1 x.2.2.1 x.2.2.2.1 x.2.2.2.2.1 x.2.2.2.2.2.1 x.2.2.2.2.2.2.1 x.2.2.2.2.2.2.2.1 x.2.2.2.2.2.2.2.2.1 x.2.2.2.2.2.2.2.2.2.1 x.2.2.2.2.2.2.2.2.2.2.1 x.2.2.2.2.2.2.2.2.2.2.2.1 x.2.2.2.2.2.2.2.2.2.2.2.2.1 x.2.2.2.2.2.2.2.2.2.2.2.2.2.1 x.2.2.2.2.2.2.2.2.2.2.2.2.2.2.1 x.2.2.2.2.2.2.2.2.2.2.2.2.2.2.2.1 x.2.2.2.2.2.2.2.2.2.2.2.2.2.2.2.2.1 x.2.2.2.2.2.2.2.2.2.2.2.2.2.2.2.2.2.1 x.2.2.2.2.2.2.2.2.2.2.2.2.2.2.2.2.2.2.1) s) (hJ pre4 kU Q4 s):=by
 rintro⟨x1,x2,x3,x4,x5,x6,x7,x8,x9,x10,x11,x12,x13,x14,x15,x16,x17,x18,x19,⟨⟩⟩ hp
 simp only[pre4,Zb,Za,cP] at hp
 obtain⟨hs,rfl,h1,h2,h3,hk⟩:=hp
 have hs':=bJ.1 hs
 show Wp (eO x1 _ x3 x4 x5 x6 x7 x8 x9 x10 x11 x12 x13 x14 x15 x16 x17 x18 x19) _
 unfold eO
 generalize hK:((x14,(x15,(x16,(x12,(x17,(x18,x13)))))):bB)=K at hk ⊢
 have q14:x14=K.1:=by rw[<-hK]
 have q15:x15=K.2.1:=by rw[<-hK]
 have q16:x16=K.2.2.1:=by rw[<-hK]
 have q12:x12=K.2.2.2.1:=by rw[<-hK]
 have q17:x17=K.2.2.2.2.1:=by rw[<-hK]
 have q18:x18=K.2.2.2.2.2.1:=by rw[<-hK]
 clear hK
 subst q14 q15 q16 q12 q17 q18
 by_cases hlt:x3<(x1.length:Int)
 . have hn:x3.toNat<x1.length:=by omega
   have e1:=Zn hn
   rw[dR hn,lN (n:=x3+1) (by omega) (by omega)]
   have hl:∀a:aF,decide (x19.length+(a::([]:List aF)).length<=gO)=true:=fun a=>by
    simp only[Za,Zg,Zh,gO];omega
   refine aG (Zd hlt) (aG (Zd h1) (aG (Zd hlt) (aG (show cU.pre x4 K x1[x3.toNat]=true from cP.2 hk) (bR (aG (hl _) (aH ⟨?_,by simp only[kU];omega,?_⟩))))))
   . simp only[pre4,Zb,Za,cP,List.append_eq,Zf,Zg,Zh]
     exact⟨hs,trivial,by omega,by omega,by omega,aGb hk⟩
   . rintro⟨_,_,_,_,_,_,_,o12,o13,o14,o15,o16,o17,o18,o19,⟨⟩⟩ ho
     refine ho.trans ?_
     show pR x4 (kI x4 K x1[x3.toNat]).1 (x19++[(kI x4 K x1[x3.toNat]).2]) (x1.drop (x3+1).toNat)=pR x4 K x19 (x1.drop x3.toNat)
     rw[e1,show(x3+1).toNat=x3.toNat+1 by omega]
     simp only[pR]
 . refine eG (by rw[Za];exact hlt) (aH ?_)
   show(K,x19)=pR x4 K x19 (x1.drop x3.toNat)
   rw[Zt (by omega)];rfl
noncomputable def fn4:S4->O4:=zS (fun(x:S4)=>eO x.1 x.2.1 x.2.2.1 x.2.2.2.1 x.2.2.2.2.1 x.2.2.2.2.2.1 x.2.2.2.2.2.2.1 x.2.2.2.2.2.2.2.1 x.2.2.2.2.2.2.2.2.1 x.2.2.2.2.2.2.2.2.2.1 x.2.2.2.2.2.2.2.2.2.2.1 x.2.2.2.2.2.2.2.2.2.2.2.1 x.2.2.2.2.2.2.2.2.2.2.2.2.1 x.2.2.2.2.2.2.2.2.2.2.2.2.2.1 x.2.2.2.2.2.2.2.2.2.2.2.2.2.2.1 x.2.2.2.2.2.2.2.2.2.2.2.2.2.2.2.1 x.2.2.2.2.2.2.2.2.2.2.2.2.2.2.2.2.1 x.2.2.2.2.2.2.2.2.2.2.2.2.2.2.2.2.2.1 x.2.2.2.2.2.2.2.2.2.2.2.2.2.2.2.2.2.2.1) kU
theorem vZ(x1:List fQ)(x2 x3:Int)(x4:aP)(x5:Int)(x6:Unit)(x7:List bW)(x8:List aC)(x9:List aE)(x10:List Int)(x11:List aF)(x12:Int)(x13:Unit)(x14:List bW)(x15:List aC)(x16:List aE)(x17:List Int)(x18 x19:List aF)(hp:pre4 (x1,(x2,(x3,(x4,(x5,(x6,(x7,(x8,(x9,(x10,(x11,(x12,(x13,(x14,(x15,(x16,(x17,(x18,(x19,())))))))))))))))))))=true):
 aX pre4 kU fn4 (x1,(x2,(x3,(x4,(x5,(x6,(x7,(x8,(x9,(x10,(x11,(x12,(x13,(x14,(x15,(x16,(x17,(x18,(x19,()))))))))))))))))))) (eO x1 x2 x3 x4 x5 x6 x7 x8 x9 x10 x11 x12 x13 x14 x15 x16 x17 x18 x19):=oN wp4 hp
def pre(_:aP)(l:List fQ):Bool:=bQ l
abbrev wf(x0:aP)(x1:(List fQ)):Prop:=iM [(.val vY .f),(.val (.sl 0 wN) .f)] (x0,(x1,()))
noncomputable def aQ(x0:aP)(x1:(List fQ)):Option (Unit×(bB×((List aF)×Unit))):=
 if(fG.pre x0)=true then
 letB (gA x0) fun v1=>
 if(dG.pre4 (x1,(((length x1:Nat):Int),((0:Int),(x0,((0:Int),((),(([]:List bW),(([]:List aC),(([]:List aE),(([]:List Int),(([]:List aF),(v1.2.2.2.1,(v1.2.2.2.2.2.2,(v1.1,(v1.2.1,(v1.2.2.1,(v1.2.2.2.2.1,(v1.2.2.2.2.2.1,(([]:List aF),()))))))))))))))))))))=true then
 letB (dG.fn4 (x1,(((length x1:Nat):Int),((0:Int),(x0,((0:Int),((),(([]:List bW),(([]:List aC),(([]:List aE),(([]:List Int),(([]:List aF),(v1.2.2.2.1,(v1.2.2.2.2.2.2,(v1.1,(v1.2.1,(v1.2.2.1,(v1.2.2.2.2.1,(v1.2.2.2.2.2.1,(([]:List aF),())))))))))))))))))))) fun v2=>
 some ((),((v2.2.2.2.2.2.2.2.2.2.1,(v2.2.2.2.2.2.2.2.2.2.2.1,(v2.2.2.2.2.2.2.2.2.2.2.2.1,(v2.2.2.2.2.2.2.2.1,(v2.2.2.2.2.2.2.2.2.2.2.2.2.1,(v2.2.2.2.2.2.2.2.2.2.2.2.2.2.1,v2.2.2.2.2.2.2.2.2.1)))))),v2.2.2.2.2.2.2.2.2.2.2.2.2.2.2))
 else
 none
 else
 none
theorem eq(x0:aP)(x1:List fQ)(_:wf x0 x1)(hp:pre x0 x1=true):aQ x0 x1=some ((),((dV x0 x1).1,((dV x0 x1).2,()))):=by
 have hs:bQ x1=true:=hp
 refine wH ?_
 unfold aQ
 have hq:pre4 (x1,((x1.length:Int),((0:Int),(x0,((0:Int),((),(([]:List bW),(([]:List aC),(([]:List aE),(([]:List Int),(([]:List aF),((gA x0).2.2.2.1,((gA x0).2.2.2.2.2.2,((gA x0).1,((gA x0).2.1,((gA x0).2.2.1,((gA x0).2.2.2.2.1,((gA x0).2.2.2.2.2.1,(([]:List aF),())))))))))))))))))))=true:=by
  show(bQ x1&&(decide ((x1.length:Int)=(x1.length:Int))&&(decide ((0:Int)<=0)&&(decide ((0:Int)<=(x1.length:Int))&&(decide (((([]:List aF).length:Nat):Int)=0)&&B (aCz x0 (gA x0)))))))=true
  simp only[Zb,Za,cP]
  exact⟨hs,trivial,by omega,by omega,rfl,aAv x0⟩
 refine aG (show fG.pre x0=true from rfl) (bR (aG hq (cW (rI wp4 hq:Q4 _ (fn4 _)) ?_)))
 rintro⟨_,_,_,_,_,_,_,o12,o13,o14,o15,o16,o17,o18,o19,⟨⟩⟩ ho
 exact aH ho
end dG
theorem aGy{s:aP}(h:dK s=false):(l:List fQ)->(k:bB)->(out:List aF)->(pR s k out l).1=k
 |[],_,_=>rfl
 |c::r,k,out=>by
  simp only[pR]
  rw[aGy h r]
  unfold kI
  rw[h];rfl
theorem aBs{s:aP}(h:dK s=false)(l:List fQ):(dV s l).1=gA s:=aGy h l _ _
theorem aFJ{s:aP}(h:dK s=false):gA s=aJE:=if_neg (by rw[h];exact Bool.false_ne_true)
def cS(_ _:List Int):Bool:=true
namespace cS
abbrev S4:Type:=((List Int)×((List Int)×(Int×Unit)))
abbrev O4:Type:=((Bool×Unit)⊕Unit)
noncomputable def pre4:S4->Bool:=fun(x1,x2,x3,_)=>B (x1=x2/\0<=x3/\x3<=(x1.length:Int)/\x1.length<=16777216)
def kU:S4->Nat:=fun(x1,_,x3,_)=>x1.length-x3.toNat
def fn4:S4->O4:=fun _=>.inr ()
noncomputable def eO(x1:(List Int))(x2:(List Int))(x3:Int):Option (((List Int)×((List Int)×(Int×Unit)))⊕((Bool×Unit)⊕Unit)):=
 if(decide (x3<((length x1:Nat):Int)))=true then
 if(decide ((0:Int)<=x3))=true then
 if(decide (x3<((length x1:Nat):Int)))=true then
 if(decide ((0:Int)<=x3))=true then
 if(decide (x3<((length x2:Nat):Int)))=true then
 if(!(decide ((List.getD x1 (Int.toNat x3) (0:Int))=(List.getD x2 (Int.toNat x3) (0:Int)))))=true then
 some (.inr (.inl (false,())))
 else
 some (.inl (x1,(x2,((wrap .i64 (x3+(1:Int))),()))))
 else
 none
 else
 none
 else
 none
 else
 none
 else
 some (.inr (.inr ()))
abbrev wf(x0:(List Int))(x1:(List Int)):Prop:=iM [(.val (.sl 0 (.int .i64)) .f),(.val (.sl 0 (.int .i64)) .f)] (x0,(x1,()))
noncomputable def aQ(x0:(List Int))(x1:(List Int)):Option mV:=
 if(!(decide (((length x0:Nat):Int)=((length x1:Nat):Int))))=true then
  some ((),(false,()))
 else
  if(cS.pre4 (x0,(x1,((0:Int),()))))=true then
   letB (cS.fn4 (x0,(x1,((0:Int),())))) fun v1=>
   match v1 with
   |.inl y=>
    some ((),y)
   |.inr y=>
    some ((),(true,()))
  else
   none
theorem vZ(x1 x2:List Int)(x3:Int)(hp:pre4 (x1,(x2,(x3,())))=true):aX pre4 kU fn4 (x1,(x2,(x3,()))) (eO x1 x2 x3):=by
 simp only[pre4,cP] at hp
 obtain⟨rfl,h1,h2,h3⟩:=hp
 unfold eO
 by_cases hlt:x3<(x1.length:Int)
 . rw[lN (n:=x3+1) (by omega) (by omega)]
   refine bU (Zd hlt) (bU (Zd h1) (bU (Zd hlt) (bU (Zd h1) (bU (Zd hlt) (dJ (kE _) ⟨?_,by simp only[kU];omega,rfl⟩)))))
   simp only[pre4,cP];exact⟨trivial,by omega,by omega,h3⟩
 . exact dJ (by rw[Za];exact hlt) rfl
noncomputable def pre(a b:List Int):Bool:=B (a=b/\a.length<=16777216)
theorem eq(x0 x1:List Int)(_:wf x0 x1)(hp:pre x0 x1=true):aQ x0 x1=some ((),(cS x0 x1,())):=by
 obtain⟨rfl,h⟩:=cP.1 hp
 unfold aQ
 refine dC (kE _) (bO ?_ (eK rfl))
 simp only[pre4,cP];exact⟨trivial,by omega,by omega,h⟩
end cS
def gS(_ _:bW):Bool:=true
namespace gS
abbrev S4:Type:=(Int×(bW×(bW×Unit)))
abbrev O4:Type:=((Bool×Unit)⊕Unit)
noncomputable def pre4:S4->Bool:=fun(x1,x2,x3,_)=>B (x2=x3/\0<=x1/\x1<=(x2.2.2.1.length:Int)/\x2.2.2.1.length<=16777216)
def kU:S4->Nat:=fun(x1,x2,_,_)=>x2.2.2.1.length-x1.toNat
def fn4:S4->O4:=fun _=>.inr ()
noncomputable def eO(x1:Int)(x2:bW)(x3:bW):Option ((Int×(bW×(bW×Unit)))⊕((Bool×Unit)⊕Unit)):=
 if(decide (x1<((length x2.2.2.1:Nat):Int)))=true then
 if(decide ((0:Int)<=x1))=true then
 if(decide (x1<((length x2.2.2.1:Nat):Int)))=true then
 if(decide ((0:Int)<=x1))=true then
 if(decide (x1<((length x3.2.2.1:Nat):Int)))=true then
 if(!((decide ((List.getD x2.2.2.1 (Int.toNat x1) kH).1=(List.getD x3.2.2.1 (Int.toNat x1) kH).1))&&(((List.getD x2.2.2.1 (Int.toNat x1) kH).2.1==(List.getD x3.2.2.1 (Int.toNat x1) kH).2.1)&&(((List.getD x2.2.2.1 (Int.toNat x1) kH).2.2.1==(List.getD x3.2.2.1 (Int.toNat x1) kH).2.2.1)&&((decide ((List.getD x2.2.2.1 (Int.toNat x1) kH).2.2.2.1=(List.getD x3.2.2.1 (Int.toNat x1) kH).2.2.2.1))&&(decide ((List.getD x2.2.2.1 (Int.toNat x1) kH).2.2.2.2.1=(List.getD x3.2.2.1 (Int.toNat x1) kH).2.2.2.2.1)))))))=true then
 some (.inr (.inl (false,())))
 else
 some (.inl ((wrap .i64 (x1+(1:Int))),(x2,(x3,()))))
 else
 none
 else
 none
 else
 none
 else
 none
 else
 some (.inr (.inr ()))
abbrev wf(x0:bW)(x1:bW):Prop:=iM [(.val tK .f),(.val tK .f)] (x0,(x1,()))
noncomputable def aQ(x0:bW)(x1:bW):Option mV:=
 if(!(decide (x0.1=x1.1)))=true then
  some ((),(false,()))
 else
  if(!(decide (x0.2.1=x1.2.1)))=true then
   some ((),(false,()))
  else
   if(!(decide (((length x0.2.2.1:Nat):Int)=((length x1.2.2.1:Nat):Int))))=true then
    some ((),(false,()))
   else
    if(gS.pre4 ((0:Int),(x0,(x1,()))))=true then
     letB (gS.fn4 ((0:Int),(x0,(x1,())))) fun v1=>
     match v1 with
     |.inl y=>
      some ((),y)
     |.inr y=>
      some ((),(true,()))
    else
     none
theorem vZ(x1:Int)(x2 x3:bW)(hp:pre4 (x1,(x2,(x3,())))=true):aX pre4 kU fn4 (x1,(x2,(x3,()))) (eO x1 x2 x3):=by
 simp only[pre4,cP] at hp
 obtain⟨rfl,h1,h2,h3⟩:=hp
 unfold eO
 by_cases hlt:x1<(x2.2.2.1.length:Int)
 . rw[lN (n:=x1+1) (by omega) (by omega)]
   refine bU (Zd hlt) (bU (Zd h1) (bU (Zd hlt) (bU (Zd h1) (bU (Zd hlt) (dJ (by simp) ⟨?_,by simp only[kU];omega,rfl⟩)))))
   simp only[pre4,cP];exact⟨trivial,by omega,by omega,h3⟩
 . exact dJ (by rw[Za];exact hlt) rfl
noncomputable def pre(a b:bW):Bool:=B (a=b/\a.2.2.1.length<=16777216)
theorem eq(x0 x1:bW)(_:wf x0 x1)(hp:pre x0 x1=true):aQ x0 x1=some ((),(gS x0 x1,())):=by
 obtain⟨rfl,h⟩:=cP.1 hp
 unfold aQ
 refine dC (kE _) (dC (kE _) (dC (kE _) (bO ?_ (eK rfl))))
 simp only[pre4,cP];exact⟨trivial,by omega,by omega,h⟩
end gS
def fM(_ _:aC):Bool:=true
namespace fM
abbrev S4:Type:=(Int×(aC×(aC×Unit)))
abbrev O4:Type:=((Bool×Unit)⊕Unit)
noncomputable def pre4:S4->Bool:=fun(x1,x2,x3,_)=>B (x2=x3/\0<=x1/\x1<=(x2.2.2.2.2.1.length:Int)/\x2.2.2.2.2.1.length<=16777216)
def kU:S4->Nat:=fun(x1,x2,_,_)=>x2.2.2.2.2.1.length-x1.toNat
def fn4:S4->O4:=fun _=>.inr ()
noncomputable def eO(x1:Int)(x2:aC)(x3:aC):Option ((Int×(aC×(aC×Unit)))⊕((Bool×Unit)⊕Unit)):=
 if(decide (x1<((length x2.2.2.2.2.1:Nat):Int)))=true then
 if(decide ((0:Int)<=x1))=true then
 if(decide (x1<((length x2.2.2.2.2.1:Nat):Int)))=true then
 if(decide ((0:Int)<=x1))=true then
 if(decide (x1<((length x3.2.2.2.2.1:Nat):Int)))=true then
 if(!((decide ((List.getD x2.2.2.2.2.1 (Int.toNat x1) pV).1=(List.getD x3.2.2.2.2.1 (Int.toNat x1) pV).1))&&(decide ((List.getD x2.2.2.2.2.1 (Int.toNat x1) pV).2.1=(List.getD x3.2.2.2.2.1 (Int.toNat x1) pV).2.1))))=true then
 some (.inr (.inl (false,())))
 else
 some (.inl ((wrap .i64 (x1+(1:Int))),(x2,(x3,()))))
 else
 none
 else
 none
 else
 none
 else
 none
 else
 some (.inr (.inr ()))
abbrev wf(x0:aC)(x1:aC):Prop:=iM [(.val wQ .f),(.val wQ .f)] (x0,(x1,()))
noncomputable def aQ(x0:aC)(x1:aC):Option mV:=
 if(!(decide (x0.1=x1.1)))=true then
  some ((),(false,()))
 else
  if(!(decide (x0.2.1=x1.2.1)))=true then
   some ((),(false,()))
  else
   if(!(decide (x0.2.2.1=x1.2.2.1)))=true then
    some ((),(false,()))
   else
    if(!(decide (x0.2.2.2.1=x1.2.2.2.1)))=true then
     some ((),(false,()))
    else
     if(!(decide (((length x0.2.2.2.2.1:Nat):Int)=((length x1.2.2.2.2.1:Nat):Int))))=true then
      some ((),(false,()))
     else
      if(fM.pre4 ((0:Int),(x0,(x1,()))))=true then
       letB (fM.fn4 ((0:Int),(x0,(x1,())))) fun v1=>
       match v1 with
       |.inl y=>
        some ((),y)
       |.inr y=>
        some ((),(true,()))
      else
       none
theorem vZ(x1:Int)(x2 x3:aC)(hp:pre4 (x1,(x2,(x3,())))=true):aX pre4 kU fn4 (x1,(x2,(x3,()))) (eO x1 x2 x3):=by
 simp only[pre4,cP] at hp
 obtain⟨rfl,h1,h2,h3⟩:=hp
 unfold eO
 by_cases hlt:x1<(x2.2.2.2.2.1.length:Int)
 . rw[lN (n:=x1+1) (by omega) (by omega)]
   refine bU (Zd hlt) (bU (Zd h1) (bU (Zd hlt) (bU (Zd h1) (bU (Zd hlt) (dJ (by simp) ⟨?_,by simp only[kU];omega,rfl⟩)))))
   simp only[pre4,cP];exact⟨trivial,by omega,by omega,h3⟩
 . exact dJ (by rw[Za];exact hlt) rfl
noncomputable def pre(a b:aC):Bool:=B (a=b/\a.2.2.2.2.1.length<=16777216)
theorem eq(x0 x1:aC)(_:wf x0 x1)(hp:pre x0 x1=true):aQ x0 x1=some ((),(fM x0 x1,())):=by
 obtain⟨rfl,h⟩:=cP.1 hp
 unfold aQ
 refine dC (kE _) (dC (kE _) (dC (kE _) (dC (kE _) (dC (kE _) (bO ?_ (eK rfl))))))
 simp only[pre4,cP];exact⟨trivial,by omega,by omega,h⟩
end fM
def gH(_ _:aE):Bool:=true
namespace gH
abbrev wf(x0:aE)(x1:aE):Prop:=iM [(.val zk9 .f),(.val zk9 .f)] (x0,(x1,()))
noncomputable def aQ(x0:aE)(x1:aE):Option mV:=
 if(decide (x0.1=x1.1))=true then
 if(cS.pre x0.2.1 x1.2.1)=true then
 letB (cS x0.2.1 x1.2.1) fun v1=>
 if v1=true then
 if(cS.pre x0.2.2.1 x1.2.2.1)=true then
 letB (cS x0.2.2.1 x1.2.2.1) fun v2=>
 if v2=true then
 if(cS.pre x0.2.2.2.1 x1.2.2.2.1)=true then
 letB (cS x0.2.2.2.1 x1.2.2.2.1) fun v3=>
 some ((),(v3,()))
 else
 none
 else
 some ((),(false,()))
 else
 none
 else
 some ((),(false,()))
 else
 none
 else
 some ((),(false,()))
noncomputable def pre(a b:aE):Bool:=B (a=b/\gC a=true)
theorem eq(x0 x1:aE)(_:wf x0 x1)(hp:pre x0 x1=true):aQ x0 x1=some ((),(gH x0 x1,())):=by
 obtain⟨rfl,h⟩:=cP.1 hp
 have hg:=iQ.1 h
 unfold aQ
 have s:∀l:List Int,l.length<=16777216->cS.pre l l=true:=fun l h=>cP.2 ⟨rfl,h⟩
 exact bO (Zd rfl) (bO (s _ hg.1) (eK (bO rfl (bO (s _ hg.2.1) (eK (bO rfl (bO (s _ hg.2.2) (eK rfl))))))))
end gH
theorem uN{k:bB}:tX k=true↔k.1.length<=16777216/\(∀r∈k.1,r.2.2.1.length<=16777216)/\k.2.1.length<=16777216/\(∀m∈k.2.1,m.2.2.2.2.1.length<=16777216)/\k.2.2.1.length<=16777216/\(∀g∈k.2.2.1,gC g=true)/\k.2.2.2.2.1.length<=16777216/\k.2.2.2.2.2.1.length<=16777216:=by
 simp only[tX,Zb,Zu,bJ]
def bN(_ _:bB):Bool:=true
namespace bN
abbrev S4:Type:=(Int×aA0)
abbrev O4:Type:=((Bool×Unit)⊕aA0)
abbrev S9:Type:=(Int×aA0)
abbrev O9:Type:=((Bool×Unit)⊕aA0)
abbrev S14:Type:=(Int×aA0)
abbrev O14:Type:=((Bool×Unit)⊕aA0)
abbrev S19:Type:=(Int×aA0)
abbrev O19:Type:=((Bool×Unit)⊕Unit)
noncomputable def pre4:S4->Bool:=fun(x1,x2,x3,_)=>B (x2=x3/\tX x2=true/\0<=x1/\x1<=(x2.1.length:Int))
def kU:S4->Nat:=fun(x1,x2,_,_)=>x2.1.length-x1.toNat
def fn4:S4->O4:=fun(_,x2,x3,_)=>.inr (x2,(x3,()))
noncomputable def pre9:S9->Bool:=fun(x1,x2,x3,_)=>B (x2=x3/\tX x2=true/\0<=x1/\x1<=(x2.2.1.length:Int))
def mu9:S9->Nat:=fun(x1,x2,_,_)=>x2.2.1.length-x1.toNat
def fn9:S9->O9:=fun(_,x2,x3,_)=>.inr (x2,(x3,()))
noncomputable def pre14:S14->Bool:=fun(x1,x2,x3,_)=>B (x2=x3/\tX x2=true/\0<=x1/\x1<=(x2.2.2.1.length:Int))
def aDt:S14->Nat:=fun(x1,x2,_,_)=>x2.2.2.1.length-x1.toNat
def fn14:S14->O14:=fun(_,x2,x3,_)=>.inr (x2,(x3,()))
noncomputable def pre19:S19->Bool:=fun(x1,x2,x3,_)=>B (x2=x3/\tX x2=true/\0<=x1/\x1<=(x2.2.2.2.2.2.1.length:Int))
def aKh:S19->Nat:=fun(x1,x2,_,_)=>x2.2.2.2.2.2.1.length-x1.toNat
def fn19:S19->O19:=fun _=>.inr ()
noncomputable def eO(x1:Int)(x2:bB)(x3:bB):Option ((Int×aA0)⊕((Bool×Unit)⊕aA0)):=
 if(decide (x1<((length x2.1:Nat):Int)))=true then
 if(decide ((0:Int)<=x1))=true then
 if(decide (x1<((length x2.1:Nat):Int)))=true then
 if(decide ((0:Int)<=x1))=true then
 if(decide (x1<((length x3.1:Nat):Int)))=true then
 if(gS.pre (List.getD x2.1 (Int.toNat x1) mQ) (List.getD x3.1 (Int.toNat x1) mQ))=true then
 letB (gS (List.getD x2.1 (Int.toNat x1) mQ) (List.getD x3.1 (Int.toNat x1) mQ)) fun v1=>
 if(!v1)=true then
 some (.inr (.inl (false,())))
 else
 some (.inl ((wrap .i64 (x1+(1:Int))),(x2,(x3,()))))
 else
 none
 else
 none
 else
 none
 else
 none
 else
 none
 else
 some (.inr (.inr (x2,(x3,()))))
noncomputable def aCh(x1:Int)(x2:bB)(x3:bB):Option ((Int×aA0)⊕((Bool×Unit)⊕aA0)):=
 if(decide (x1<((length x2.2.1:Nat):Int)))=true then
 if(decide ((0:Int)<=x1))=true then
 if(decide (x1<((length x2.2.1:Nat):Int)))=true then
 if(decide ((0:Int)<=x1))=true then
 if(decide (x1<((length x3.2.1:Nat):Int)))=true then
 if(fM.pre (List.getD x2.2.1 (Int.toNat x1) kK) (List.getD x3.2.1 (Int.toNat x1) kK))=true then
 letB (fM (List.getD x2.2.1 (Int.toNat x1) kK) (List.getD x3.2.1 (Int.toNat x1) kK)) fun v1=>
 if(!v1)=true then
 some (.inr (.inl (false,())))
 else
 some (.inl ((wrap .i64 (x1+(1:Int))),(x2,(x3,()))))
 else
 none
 else
 none
 else
 none
 else
 none
 else
 none
 else
 some (.inr (.inr (x2,(x3,()))))
noncomputable def aC2(x1:Int)(x2:bB)(x3:bB):Option ((Int×aA0)⊕((Bool×Unit)⊕aA0)):=
 if(decide (x1<((length x2.2.2.1:Nat):Int)))=true then
 if(decide ((0:Int)<=x1))=true then
 if(decide (x1<((length x2.2.2.1:Nat):Int)))=true then
 if(decide ((0:Int)<=x1))=true then
 if(decide (x1<((length x3.2.2.1:Nat):Int)))=true then
 if(gH.pre (List.getD x2.2.2.1 (Int.toNat x1) qX) (List.getD x3.2.2.1 (Int.toNat x1) qX))=true then
 letB (gH (List.getD x2.2.2.1 (Int.toNat x1) qX) (List.getD x3.2.2.1 (Int.toNat x1) qX)) fun v1=>
 if(!v1)=true then
 some (.inr (.inl (false,())))
 else
 some (.inl ((wrap .i64 (x1+(1:Int))),(x2,(x3,()))))
 else
 none
 else
 none
 else
 none
 else
 none
 else
 none
 else
 some (.inr (.inr (x2,(x3,()))))
noncomputable def aI3(x1:Int)(x2:bB)(x3:bB):Option ((Int×aA0)⊕((Bool×Unit)⊕Unit)):=
 if(decide (x1<((length x2.2.2.2.2.2.1:Nat):Int)))=true then
 if(decide ((0:Int)<=x1))=true then
 if(decide (x1<((length x2.2.2.2.2.2.1:Nat):Int)))=true then
 if(decide ((0:Int)<=x1))=true then
 if(decide (x1<((length x3.2.2.2.2.2.1:Nat):Int)))=true then
 if(!((decide ((List.getD x2.2.2.2.2.2.1 (Int.toNat x1) ((0:Int),mP)).1=(List.getD x3.2.2.2.2.2.1 (Int.toNat x1) ((0:Int),mP)).1))&&((decide ((List.getD x2.2.2.2.2.2.1 (Int.toNat x1) ((0:Int),mP)).2.1=(List.getD x3.2.2.2.2.2.1 (Int.toNat x1) ((0:Int),mP)).2.1))&&(((List.getD x2.2.2.2.2.2.1 (Int.toNat x1) ((0:Int),mP)).2.2.1==(List.getD x3.2.2.2.2.2.1 (Int.toNat x1) ((0:Int),mP)).2.2.1)&&((List.getD x2.2.2.2.2.2.1 (Int.toNat x1) ((0:Int),mP)).2.2.2.1==(List.getD x3.2.2.2.2.2.1 (Int.toNat x1) ((0:Int),mP)).2.2.2.1)))))=true then
 some (.inr (.inl (false,())))
 else
 some (.inl ((wrap .i64 (x1+(1:Int))),(x2,(x3,()))))
 else
 none
 else
 none
 else
 none
 else
 none
 else
 some (.inr (.inr ()))
abbrev wf(x0:bB)(x1:bB):Prop:=iM [(.val zk1 .f),(.val zk1 .f)] (x0,(x1,()))
noncomputable def aQ(x0:bB)(x1:bB):Option mV:=
 if(!(decide (x0.2.2.2.1=x1.2.2.2.1)))=true then
  some ((),(false,()))
 else
  if(cS.pre x0.2.2.2.2.1 x1.2.2.2.2.1)=true then
   letB (cS x0.2.2.2.2.1 x1.2.2.2.2.1) fun v1=>
   if(!v1)=true then
    some ((),(false,()))
   else
    if(!(decide (((length x0.1:Nat):Int)=((length x1.1:Nat):Int))))=true then
     some ((),(false,()))
    else
     if(!(decide (((length x0.2.1:Nat):Int)=((length x1.2.1:Nat):Int))))=true then
      some ((),(false,()))
     else
      if(!(decide (((length x0.2.2.1:Nat):Int)=((length x1.2.2.1:Nat):Int))))=true then
       some ((),(false,()))
      else
       if(!(decide (((length x0.2.2.2.2.2.1:Nat):Int)=((length x1.2.2.2.2.2.1:Nat):Int))))=true then
        some ((),(false,()))
       else
        if(bN.pre4 ((0:Int),(x0,(x1,()))))=true then
         letB (bN.fn4 ((0:Int),(x0,(x1,())))) fun v2=>
         match v2 with
         |.inl y=>
          some ((),y)
         |.inr y=>
          if(bN.pre9 ((0:Int),y))=true then
           letB (bN.fn9 ((0:Int),y)) fun v3=>
           match v3 with
           |.inl y_1=>
            some ((),y_1)
           |.inr y_1=>
            if(bN.pre14 ((0:Int),y_1))=true then
             letB (bN.fn14 ((0:Int),y_1)) fun v4=>
             match v4 with
             |.inl y_2=>
              some ((),y_2)
             |.inr y_2=>
              if(bN.pre19 ((0:Int),y_2))=true then
               letB (bN.fn19 ((0:Int),y_2)) fun v5=>
               match v5 with
               |.inl y_3=>
                some ((),y_3)
               |.inr y_3=>
                some ((),(true,()))
              else
               none
            else
             none
          else
           none
        else
         none
  else
   none
theorem vZ(x1:Int)(x2 x3:bB)(hp:pre4 (x1,(x2,(x3,())))=true):aX pre4 kU fn4 (x1,(x2,(x3,()))) (eO x1 x2 x3):=by
 simp only[pre4,cP] at hp
 obtain⟨rfl,hk,h1,h2⟩:=hp
 obtain⟨k1,k2,k3,k4,k5,k6,k7,k8⟩:=uN.1 hk
 unfold eO
 by_cases hlt:x1<(x2.1.length:Int)
 . rw[lN (n:=x1+1) (by omega) (by omega)]
   refine bU (Zd hlt) (bU (Zd h1) (bU (Zd hlt) (bU (Zd h1) (bU (Zd hlt) (bU (show gS.pre _ _=true from cP.2 ⟨rfl,k2 _ (iO (by omega) _)⟩) (tO (dJ Bool.false_ne_true ⟨?_,by simp only[kU];omega,rfl⟩)))))))
   simp only[pre4,cP];exact⟨trivial,hk,by omega,by omega⟩
 . exact dJ (by rw[Za];exact hlt) rfl
theorem ok9(x1:Int)(x2 x3:bB)(hp:pre9 (x1,(x2,(x3,())))=true):aX pre9 mu9 fn9 (x1,(x2,(x3,()))) (aCh x1 x2 x3):=by
 simp only[pre9,cP] at hp
 obtain⟨rfl,hk,h1,h2⟩:=hp
 obtain⟨k1,k2,k3,k4,k5,k6,k7,k8⟩:=uN.1 hk
 unfold aCh
 by_cases hlt:x1<(x2.2.1.length:Int)
 . rw[lN (n:=x1+1) (by omega) (by omega)]
   refine bU (Zd hlt) (bU (Zd h1) (bU (Zd hlt) (bU (Zd h1) (bU (Zd hlt) (bU (show fM.pre _ _=true from cP.2 ⟨rfl,k4 _ (iO (by omega) _)⟩) (tO (dJ Bool.false_ne_true ⟨?_,by simp only[mu9];omega,rfl⟩)))))))
   simp only[pre9,cP];exact⟨trivial,hk,by omega,by omega⟩
 . exact dJ (by rw[Za];exact hlt) rfl
theorem aK4(x1:Int)(x2 x3:bB)(hp:pre14 (x1,(x2,(x3,())))=true):aX pre14 aDt fn14 (x1,(x2,(x3,()))) (aC2 x1 x2 x3):=by
 simp only[pre14,cP] at hp
 obtain⟨rfl,hk,h1,h2⟩:=hp
 obtain⟨k1,k2,k3,k4,k5,k6,k7,k8⟩:=uN.1 hk
 unfold aC2
 by_cases hlt:x1<(x2.2.2.1.length:Int)
 . rw[lN (n:=x1+1) (by omega) (by omega)]
   refine bU (Zd hlt) (bU (Zd h1) (bU (Zd hlt) (bU (Zd h1) (bU (Zd hlt) (bU (show gH.pre _ _=true from cP.2 ⟨rfl,k6 _ (iO (by omega) _)⟩) (tO (dJ Bool.false_ne_true ⟨?_,by simp only[aDt];omega,rfl⟩)))))))
   simp only[pre14,cP];exact⟨trivial,hk,by omega,by omega⟩
 . exact dJ (by rw[Za];exact hlt) rfl
theorem aL6(x1:Int)(x2 x3:bB)(hp:pre19 (x1,(x2,(x3,())))=true):aX pre19 aKh fn19 (x1,(x2,(x3,()))) (aI3 x1 x2 x3):=by
 simp only[pre19,cP] at hp
 obtain⟨rfl,hk,h1,h2⟩:=hp
 obtain⟨k1,k2,k3,k4,k5,k6,k7,k8⟩:=uN.1 hk
 unfold aI3
 by_cases hlt:x1<(x2.2.2.2.2.2.1.length:Int)
 . rw[lN (n:=x1+1) (by omega) (by omega)]
   refine bU (Zd hlt) (bU (Zd h1) (bU (Zd hlt) (bU (Zd h1) (bU (Zd hlt) (dJ (by simp) ⟨?_,by simp only[aKh];omega,rfl⟩)))))
   simp only[pre19,cP];exact⟨trivial,hk,by omega,by omega⟩
 . exact dJ (by rw[Za];exact hlt) rfl
noncomputable def pre(a b:bB):Bool:=B (a=b/\tX a=true)
theorem eq(x0 x1:bB)(_:wf x0 x1)(hp:pre x0 x1=true):aQ x0 x1=some ((),(bN x0 x1,())):=by
 obtain⟨rfl,hk⟩:=cP.1 hp
 obtain⟨k1,k2,k3,k4,k5,k6,k7,k8⟩:=uN.1 hk
 unfold aQ
 refine dC (kE _) (bO (show cS.pre _ _=true from cP.2 ⟨rfl,k7⟩) (eK (dC Bool.false_ne_true (dC (kE _) (dC (kE _) (dC (kE _) (dC (kE _) (bO ?_ (eK ?_)))))))))
 . simp only[pre4,cP];exact⟨trivial,hk,by omega,by omega⟩
 simp only[fn4]
 refine bO ?_ (eK ?_)
 . simp only[pre9,cP];exact⟨trivial,hk,by omega,by omega⟩
 simp only[fn9]
 refine bO ?_ (eK ?_)
 . simp only[pre14,cP];exact⟨trivial,hk,by omega,by omega⟩
 simp only[fn14]
 refine bO ?_ (eK rfl)
 simp only[pre19,cP];exact⟨trivial,hk,by omega,by omega⟩
end bN
namespace fH
def pre(c:kM):Bool:=mE c
abbrev wf(x0:lX):Prop:=iM [(.ref aB9 .f)] (x0,())
noncomputable def aQ(x0:lX):Option ((lX×Unit)×(aP×Unit)):=
 if(dS.pre x0)=true then
 letB (dS x0) fun v1=>
 if(aJ.pre v1.1 (12:Int))=true then
 letB (aJ v1.1 (12:Int)) fun v2=>
 if(decide (v2.2=(0:Int)))=true then
 if(aK.pre v2.1 ((-1:Int)::((0:Int)::((4:Int)::((5:Int)::([]:List Int))))))=true then
 letB (aK v2.1 ((-1:Int)::((0:Int)::((4:Int)::((5:Int)::([]:List Int)))))) fun v3=>
 some ((v3.1,()),((v3.2,v1.2.2),()))
 else
 none
 else
 if(decide (v2.2=(1:Int)))=true then
 if(aK.pre v2.1 ((0:Int)::((6:Int)::([]:List Int))))=true then
 letB (aK v2.1 ((0:Int)::((6:Int)::([]:List Int)))) fun v4=>
 some ((v4.1,()),((v1.2.1,(v4.2,v1.2.2.2)),()))
 else
 none
 else
 if(decide (v2.2=(2:Int)))=true then
 if(aK.pre v2.1 ((0:Int)::((9:Int)::([]:List Int))))=true then
 letB (aK v2.1 ((0:Int)::((9:Int)::([]:List Int)))) fun v5=>
 some ((v5.1,()),((v1.2.1,(v1.2.2.1,(v5.2,v1.2.2.2.2))),()))
 else
 none
 else
 if(decide (v2.2=(3:Int)))=true then
 if(aK.pre v2.1 ((-1:Int)::((60:Int)::((61:Int)::([]:List Int)))))=true then
 letB (aK v2.1 ((-1:Int)::((60:Int)::((61:Int)::([]:List Int))))) fun v6=>
 some ((v6.1,()),((v1.2.1,(v1.2.2.1,(v1.2.2.2.1,(v6.2,v1.2.2.2.2.2)))),()))
 else
 none
 else
 some ((v2.1,()),(v1.2,()))
 else
 none
 else
 none
theorem wp(x0:kM)(hp:pre x0=true):Wp (aQ x0) (fun r=>dP (fun _=>True) (r.1.1,r.2.1)):=by
 unfold aQ
 have hp:mE x0=true:=hp
 refine aG (show dS.pre x0=true from hp) (cW (yA hp) fun a ha=>aG (show aJ.pre a.1 _=true from ha.1) (cW (eJ ha.1) fun b hb=>?_))
 have pk:∀{l:List Int},0<l.length->aK.pre b.1 l=true:=fun h=>kW hb.1 h
 refine cF (fun _=>?_) fun _=>cF (fun _=>?_) fun _=>cF (fun _=>?_) fun _=>cF (fun _=>?_) fun _=>aH ⟨hb.1,trivial⟩
 all_goals exact aG (pk (by simp)) (cW (eY (pk (by simp))) fun c hc=>aH ⟨hc.1,trivial⟩)
noncomputable def val(x0:kM):kM×aP:=((yP (aQ x0)).1.1,(yP (aQ x0)).2.1)
theorem eq(x0:kM)(_:wf x0)(hp:pre x0=true):aQ x0=some (((val x0).1,()),((val x0).2,())):=(jP (wp x0 hp)).1
end fH
noncomputable def fH(x0:kM):kM×aP:=fH.val x0
theorem wW{x0:kM}(hp:mE x0=true):dP (fun _=>True) (fH x0):=(jP (fH.wp x0 hp)).2
namespace cG
def pre(x:List Int):Bool:=bQ x
abbrev wf(x0:(List Int)):Prop:=iM [(.val (.sl 0 (.int .u8)) .f)] (x0,())
noncomputable def aQ(x0:(List Int)):Option (Unit×(aP×((List fQ)×Unit))):=
 if(dW.pre x0)=true then
 letB (dW x0) fun v1=>
 if(fH.pre v1)=true then
 letB (fH v1) fun v2=>
 if(cV.pre v2.1 (20:Int))=true then
 letB (cV v2.1 (20:Int)) fun v3=>
 if(decide ((0:Int)<((length v3.2:Nat):Int)))=true then
 if(dL.pre v3.1 (6:Int))=true then
 letB (dL v3.1 (6:Int)) fun v4=>
 if v4.2=true then
 if(decide ((0:Int)<=(0:Int)))=true then
 if(decide ((0:Int)<((length v3.2:Nat):Int)))=true then
 if(iL.pre v4.1 (List.getD v3.2 (Int.toNat (0:Int)) aDJ))=true then
 if(decide ((0:Int)<=(0:Int)))=true then
 if(decide ((0:Int)<((length v3.2:Nat):Int)))=true then
 some ((),(v2.2,((List.modify v3.2 (Int.toNat (0:Int)) (fun z=>(iL v4.1 (List.getD v3.2 (Int.toNat (0:Int)) aDJ)).2)),())))
 else
 none
 else
 none
 else
 none
 else
 none
 else
 none
 else
 some ((),(v2.2,(v3.2,())))
 else
 none
 else
 some ((),(v2.2,(v3.2,())))
 else
 none
 else
 none
 else
 none
theorem wp(x0:List Int)(hp:pre x0=true):Wp (aQ x0) (fun r=>r.2.2.1.length<=20):=by
 unfold aQ
 have hp:bQ x0=true:=hp
 have cp:∀{c:kM},mE c=true->cV.pre c 20=true:=fun h=>by simp only[cV.pre,h,Bool.true_and];decide
 refine aG (show dW.pre x0=true from hp) (cW (tI hp) fun a ha=>aG (show fH.pre a=true from ha) (cW (wW ha) fun b hb=>aG (cp hb.1) (cW (zA (cp hb.1)) fun c hc=>?_)))
 have hl:(c.2.length:Int)<=20:=hc.2.1
 refine cF (fun h=>?_) fun h=>aH (by show c.2.length<=20;omega)
 rw[Za] at h
 refine aG (show dL.pre c.1 6=true from hc.1) (cW (sM hc.1) fun d hd=>cF (fun _=>?_) fun _=>aH (by show c.2.length<=20;omega))
 refine aG (by decide) (aG (Zd h) (aG (show iL.pre d.1 _=true from hd.1) (aG (by decide) (aG (Zd h) (aH ?_)))))
 show(List.modify c.2 _ _).length<=20
 rw[List.length_modify];omega
noncomputable def val(x0:List Int):aP×List fQ:=((yP (aQ x0)).2.1,(yP (aQ x0)).2.2.1)
theorem eq(x0:List Int)(_:wf x0)(hp:pre x0=true):aQ x0=some ((),((val x0).1,((val x0).2,()))):=(jP (wp x0 hp)).1
end cG
noncomputable def cG(x0:List Int):aP×List fQ:=cG.val x0
theorem rK{x0:List Int}(hp:bQ x0=true):(cG x0).2.length<=20:=(jP (cG.wp x0 hp)).2
namespace fL
def pre(x:List Int):Bool:=bQ x
abbrev wf(x0:(List Int)):Prop:=iM [(.val (.sl 0 (.int .u8)) .f)] (x0,())
noncomputable def aQ(x0:(List Int)):Option (Unit×(aP×Unit)):=
 if(dW.pre x0)=true then
 letB (dW x0) fun v1=>
 if(fH.pre v1)=true then
 letB (fH v1) fun v2=>
 some ((),(v2.2,()))
 else
 none
 else
 none
theorem wp(x0:List Int)(hp:pre x0=true):Wp (aQ x0) (fun _=>True):=by
 unfold aQ
 have hp:bQ x0=true:=hp
 exact aG (show dW.pre x0=true from hp) (cW (tI hp) fun a ha=>aG (show fH.pre a=true from ha) (cW (wW ha) fun b hb=>aH trivial))
noncomputable def val(x0:List Int):aP:=(yP (aQ x0)).2.1
theorem eq(x0:List Int)(_:wf x0)(hp:pre x0=true):aQ x0=some ((),(val x0,())):=(jP (wp x0 hp)).1
end fL
noncomputable def fL(x0:List Int):aP:=fL.val x0
namespace eX
def pre(x:List Int):Bool:=bQ x
abbrev wf(x0:(List Int)):Prop:=iM [(.val (.sl 0 (.int .u8)) .f)] (x0,())
noncomputable def aQ(x0:(List Int)):Option (Unit×uW):=
 if(dW.pre x0)=true then
 letB (dW x0) fun v1=>
 if(aK.pre v1 ((-2:Int)::((-1:Int)::((0:Int)::((100000:Int)::((100001:Int)::([]:List Int)))))))=true then
 letB (aK v1 ((-2:Int)::((-1:Int)::((0:Int)::((100000:Int)::((100001:Int)::([]:List Int))))))) fun v2=>
 if(aJ.pre v2.1 (12:Int))=true then
 letB (aJ v2.1 (12:Int)) fun v3=>
 if(dF.pre v3.1 (([]:List UInt8)::(((97:UInt8)::([]:List UInt8))::(((65:UInt8)::([]:List UInt8))::([]:List (List UInt8))))))=true then
 letB (dF v3.1 (([]:List UInt8)::(((97:UInt8)::([]:List UInt8))::(((65:UInt8)::([]:List UInt8))::([]:List (List UInt8)))))) fun v4=>
 some ((),(((wrap .i64 (v3.2-(1:Int))),(v2.2,(v4.2,(([]:List UInt8),())))),()))
 else
 none
 else
 none
 else
 none
 else
 none
theorem wp(x0:List Int)(hp:pre x0=true):Wp (aQ x0) (fun _=>True):=by
 unfold aQ
 have hp:bQ x0=true:=hp
 refine aG (show dW.pre x0=true from hp) (cW (tI hp) fun a ha=>aG (kW ha (by simp)) (cW (eY (kW ha (by simp))) fun b hb=>aG (show aJ.pre b.1 _=true from hb.1) (cW (eJ hb.1) fun c hc=>aG (uQ hc.1 (by simp)) (cW (sD (uQ hc.1 (by simp))) fun d hd=>aH trivial))))
noncomputable def val(x0:List Int):aF:=(yP (aQ x0)).2.1
theorem eq(x0:List Int)(_:wf x0)(hp:pre x0=true):aQ x0=some ((),(val x0,())):=(jP (wp x0 hp)).1
end eX
noncomputable def eX(x0:List Int):aF:=eX.val x0
theorem aC9{s:aP}:(l:List fQ)->(m:List fQ)->(k:bB)->(out:List aF)->pR s k out (l++m)=pR s (pR s k out l).1 (pR s k out l).2 m
 |[],_,_,_=>rfl
 |c::r,m,k,out=>by simp only[List.cons_append,pR];exact aC9 r m _ _
theorem aEY{s:aP}:(l:List fQ)->(k:bB)->(out:List aF)->∃t,(pR s k out l).2=out++t
 |[],_,out=>⟨[],(List.append_nil _).symm⟩
 |c::r,k,out=>by
  obtain⟨t,h⟩:=aEY (s:=s) r (kI s k c).1 (out++[(kI s k c).2])
  exact⟨(kI s k c).2::t,by simp only[pR];rw[h,Zk];rfl⟩
theorem aFS{s:aP}{l:List fQ}{i:Nat}(h:i<l.length):
 (dV s (l.take (i+1))).1=(kI s (dV s (l.take i)).1 l[i]).1/\(dV s l).2.getD i ((0:Int),mP)=(kI s (dV s (l.take i)).1 l[i]).2:=by
 have e1:l.take (i+1)=l.take i++[l[i]]:=List.take_succ_eq_append_getElem h
 have e2:dV s (l.take (i+1))=pR s (dV s (l.take i)).1 (dV s (l.take i)).2 [l[i]]:=by rw[e1];exact aC9 _ _ _ _
 have e3:dV s l=pR s (dV s (l.take (i+1))).1 (dV s (l.take (i+1))).2 (l.drop (i+1)):=by
  conv=>lhs;rw[<-List.take_append_drop (i+1) l]
  exact aC9 _ _ _ _
 have hl:(dV s (l.take i)).2.length=i:=by rw[(qP (s:=s) (l:=l.take i)).2.2,Zr];omega
 refine⟨by rw[e2];rfl,?_⟩
 obtain⟨t,ht⟩:=aEY (s:=s) (l.drop (i+1)) (dV s (l.take (i+1))).1 (dV s (l.take (i+1))).2
 rw[e3,ht,e2]
 simp only[pR]
 rw[Zk,List.getD_eq_getElem?_getD,List.getElem?_append_right (by omega),hl,Nat.sub_self]
 rfl
theorem aAz(s:aP)(l:List fQ):aCz s (dV s l).1:=by
 cases h:dK s
 . rw[aBs h];exact aAv s
 . have:=(qP (s:=s) (l:=l)).1
   exact⟨aBK (this h),this⟩
theorem aKk{x:List Int}(h:aE3 x=true)(hs:bQ x=true):0<=kX x 1:=by
 unfold kX
 have hs:=bJ.1 hs
 split
 . rename_i h1
   have hn:(1:Int).toNat<x.length:=by omega
   have:=aEs h hn
   rw[dR hn,lN (by omega) (by omega)];omega
 . rw[lN (n:=1*7) (by decide) (by decide),lN (n:=1*7+(x.length:Int)) (by omega) (by omega)]
   exact Int.tmod_nonneg _ (by omega)
def iB(_:List Int):Bool:=true
namespace iB
abbrev S11:Type:=aKu
abbrev O11:Type:=((Bool×Unit)⊕((List Int)×(aP×((List fQ)×aIs))))
abbrev S20:Type:=(Int×(Int×(aP×((List fQ)×(Int×(Unit×((List bW)×((List aC)×((List aE)×((List Int)×((List aF)×((List aF)×aIs))))))))))))
abbrev O20:Type:=((Bool×Unit)⊕(Int×(aP×aGS)))
noncomputable def pre11:S11->Bool:=fun(_,x2,_,_,_,_,_,_,_,_,_,x12,x13,_)=>B (x12=x13/\x12.all eL=true/\0<=x2/\x2<=(x12.length:Int)/\x12.length<=16777216)
def aCR:S11->Nat:=fun(_,x2,_,_,_,_,_,_,_,_,_,x12,_,_)=>x12.length-x2.toNat
def fn11:S11->O11:=fun(x1,_,x3,x4,x5,x6,x7,x8,x9,x10,x11,x12,_,_)=>.inr (x1,(x3,(x4,(x5,(x6,(x7,(x8,(x9,(x10,(x11,(x12,())))))))))))
noncomputable def pre20:S20->Bool:=fun(_,x2,x3,x4,_,_,_,_,_,_,_,x12,x13,x14,x15,x16,x17,x18,x19,_,_)=>B (x4.length<=16777216/\0<=x2/\x2<=(x4.length:Int)/\x12=(dV x3 x4).2/\(x15,(x16,(x17,(x13,(x18,(x19,x14))))))=(dV x3 (x4.take x2.toNat)).1)
def aJJ:S20->Nat:=fun(_,x2,_,x4,_)=>x4.length-x2.toNat
def fn20:S20->O20:=fun(x1,_,x3,x4,x5,x6,x7,x8,x9,x10,x11,_,_,_,_,_,_,_,_,x20,_)=>.inr (x1,(x3,(x5,(x6,(x7,(x8,(x9,(x10,(x11,((dV x3 x4).1.2.2.2.1,((dV x3 x4).1.2.2.2.2.2.2,((dV x3 x4).1.1,((dV x3 x4).1.2.1,((dV x3 x4).1.2.2.1,((dV x3 x4).1.2.2.2.2.1,((dV x3 x4).1.2.2.2.2.2.1,(x20,())))))))))))))))))
noncomputable def wO(x1:(List Int))(x2:Int)(x3:aP)(x4:(List fQ))(x5:Int)(x6:Unit)(x7:(List bW))(x8:(List aC))(x9:(List aE))(x10:(List Int))(x11:(List aF))(x12:(List aF))(x13:(List aF)):Option (aKu⊕((Bool×Unit)⊕((List Int)×(aP×((List fQ)×aIs))))):=
 if(decide (x2<((length x12:Nat):Int)))=true then
 if(decide ((0:Int)<=x2))=true then
 if(decide (x2<((length x12:Nat):Int)))=true then
 if(decide ((0:Int)<=x2))=true then
 if(decide (x2<((length x13:Nat):Int)))=true then
 if(!((decide ((List.getD x12 (Int.toNat x2) ((0:Int),mP)).1=(List.getD x13 (Int.toNat x2) ((0:Int),mP)).1))&&((decide ((List.getD x12 (Int.toNat x2) ((0:Int),mP)).2.1=(List.getD x13 (Int.toNat x2) ((0:Int),mP)).2.1))&&(((List.getD x12 (Int.toNat x2) ((0:Int),mP)).2.2.1==(List.getD x13 (Int.toNat x2) ((0:Int),mP)).2.2.1)&&((List.getD x12 (Int.toNat x2) ((0:Int),mP)).2.2.2.1==(List.getD x13 (Int.toNat x2) ((0:Int),mP)).2.2.2.1)))))=true then
 some (.inr (.inl (false,())))
 else
 if(decide ((0:Int)<=x2))=true then
 if(decide (x2<((length x12:Nat):Int)))=true then
 if(eE.pre (List.getD x12 (Int.toNat x2) ((0:Int),mP)))=true then
 letB (eL (List.getD x12 (Int.toNat x2) ((0:Int),mP))) fun v1=>
 if(!v1)=true then
 some (.inr (.inl (false,())))
 else
 some (.inl (x1,((wrap .i64 (x2+(1:Int))),(x3,(x4,(x5,(x6,(x7,(x8,(x9,(x10,(x11,(x12,(x13,()))))))))))))))
 else
 none
 else
 none
 else
 none
 else
 none
 else
 none
 else
 none
 else
 none
 else
 some (.inr (.inr (x1,(x3,(x4,(x5,(x6,(x7,(x8,(x9,(x10,(x11,(x12,())))))))))))))
noncomputable def aIh(x1:Int)(x2:Int)(x3:aP)(x4:(List fQ))(x5:Int)(x6:Unit)(x7:(List bW))(x8:(List aC))(x9:(List aE))(x10:(List Int))(x11:(List aF))(x12:(List aF))(x13:Int)(x14:Unit)(x15:(List bW))(x16:(List aC))(x17:(List aE))(x18:(List Int))(x19:(List aF))(x20:(List aF)):Option ((Int×(Int×(aP×((List fQ)×(Int×(Unit×((List bW)×((List aC)×((List aE)×((List Int)×((List aF)×((List aF)×aIs))))))))))))⊕((Bool×Unit)⊕(Int×(aP×aGS)))):=
 if(decide (x2<((length x4:Nat):Int)))=true then
 if(decide ((0:Int)<=x2))=true then
 if(decide (x2<((length x4:Nat):Int)))=true then
 if(cU.pre x3 (x15,(x16,(x17,(x13,(x18,(x19,x14)))))) (List.getD x4 (Int.toNat x2) aDJ))=true then
 if(decide ((0:Int)<=x2))=true then
 if(decide (x2<((length x12:Nat):Int)))=true then
 letB (cU x3 (x15,(x16,(x17,(x13,(x18,(x19,x14)))))) (List.getD x4 (Int.toNat x2) aDJ)) fun v1=>
 if(!((decide (v1.2.1=(List.getD x12 (Int.toNat x2) ((0:Int),mP)).1))&&((decide (v1.2.2.1=(List.getD x12 (Int.toNat x2) ((0:Int),mP)).2.1))&&((v1.2.2.2.1==(List.getD x12 (Int.toNat x2) ((0:Int),mP)).2.2.1)&&(v1.2.2.2.2.1==(List.getD x12 (Int.toNat x2) ((0:Int),mP)).2.2.2.1)))))=true then
 some (.inr (.inl (false,())))
 else
 some (.inl (x1,((wrap .i64 (x2+(1:Int))),(x3,(x4,(x5,(x6,(x7,(x8,(x9,(x10,(x11,(x12,(v1.1.2.2.2.1,(v1.1.2.2.2.2.2.2,(v1.1.1,(v1.1.2.1,(v1.1.2.2.1,(v1.1.2.2.2.2.1,(v1.1.2.2.2.2.2.1,(x20,())))))))))))))))))))))
 else
 none
 else
 none
 else
 none
 else
 none
 else
 none
 else
 some (.inr (.inr (x1,(x3,(x5,(x6,(x7,(x8,(x9,(x10,(x11,(x13,(x14,(x15,(x16,(x17,(x18,(x19,(x20,())))))))))))))))))))
abbrev wf(x0:(List Int)):Prop:=iM [(.val (.sl 0 (.int .u8)) .f)] (x0,())
noncomputable def aQ(x0:(List Int)):Option mV:=
 letB (lZ x0) fun v1=>
 if v1=true then
  some ((),(true,()))
 else
  if(cG.pre x0)=true then
   letB (cG x0) fun v2=>
   if(dG.pre v2.1 v2.2)=true then
    if(eN.pre v2.1 v2.2)=true then
     if(fL.pre x0)=true then
      if(eX.pre x0)=true then
       letB (dG v2.1 v2.2) fun v3=>
       letB (eN v2.1 v2.2) fun v4=>
       if(bN.pre v3.1 v4.1)=true then
        letB (bN v3.1 v4.1) fun v5=>
        if(!v5)=true then
         some ((),(false,()))
        else
         if(!(decide (((length v3.2:Nat):Int)=((length v4.2:Nat):Int))))=true then
          some ((),(false,()))
         else
          letB (fL x0) fun v6=>
          if(fG.pre v6)=true then
           if(fF.pre v6)=true then
            letB (gA v6) fun v7=>
            letB (gA v6) fun v8=>
            if(bN.pre v7 v8)=true then
             letB (bN v7 v8) fun v9=>
             if(!v9)=true then
              some ((),(false,()))
             else
              letB (eX x0) fun v10=>
              if(eE.pre v10)=true then
               if(iE.pre v10)=true then
                letB (eL v10) fun v11=>
                letB (eL v10) fun v12=>
                if(!(v11==v12))=true then
                 some ((),(false,()))
                else
                 if(iB.pre11 (x0,((0:Int),(v2.1,(v2.2,(v3.1.2.2.2.1,(v3.1.2.2.2.2.2.2,(v3.1.1,(v3.1.2.1,(v3.1.2.2.1,(v3.1.2.2.2.2.1,(v3.1.2.2.2.2.2.1,(v3.2,(v4.2,()))))))))))))))=true then
                  letB (iB.fn11 (x0,((0:Int),(v2.1,(v2.2,(v3.1.2.2.2.1,(v3.1.2.2.2.2.2.2,(v3.1.1,(v3.1.2.1,(v3.1.2.2.1,(v3.1.2.2.2.2.1,(v3.1.2.2.2.2.2.1,(v3.2,(v4.2,())))))))))))))) fun v13=>
                  match v13 with
                  |.inl y=>
                   some ((),y)
                  |.inr y=>
                   letB (dK y.2.1) fun v14=>
                   if(!v14)=true then
                    some ((),((decide (((length y.2.2.2.2.2.1:Nat):Int)=(0:Int))),()))
                   else
                    if(kX.pre y.1 (1:Int))=true then
                     if(!(decide ((wrap .i64 (((length y.2.2.1:Nat):Int)+(1:Int)))=(0:Int))))=true then
                      if(decide ((0:Int)<=(0:Int)))=true then
                       letB (kX y.1 (1:Int)) fun v15=>
                       if(decide ((0:Int)<=(Int.tmod v15 (wrap .i64 (((length y.2.2.1:Nat):Int)+(1:Int))))))=true then
                        if(decide ((Int.tmod v15 (wrap .i64 (((length y.2.2.1:Nat):Int)+(1:Int))))<=((length y.2.2.1:Nat):Int)))=true then
                         if(dG.pre y.2.1 (aW (Int.toNat (0:Int)) (Int.toNat (Int.tmod v15 (wrap .i64 (((length y.2.2.1:Nat):Int)+(1:Int))))) y.2.2.1))=true then
                          letB (dG y.2.1 (aW (Int.toNat (0:Int)) (Int.toNat (Int.tmod v15 (wrap .i64 (((length y.2.2.1:Nat):Int)+(1:Int))))) y.2.2.1)) fun v16=>
                          if(iB.pre20 ((Int.tmod v15 (wrap .i64 (((length y.2.2.1:Nat):Int)+(1:Int)))),((Int.tmod v15 (wrap .i64 (((length y.2.2.1:Nat):Int)+(1:Int)))),(y.2.1,(y.2.2.1,(y.2.2.2.1,(y.2.2.2.2.1,(y.2.2.2.2.2.1,(y.2.2.2.2.2.2.1,(y.2.2.2.2.2.2.2.1,(y.2.2.2.2.2.2.2.2.1,(y.2.2.2.2.2.2.2.2.2.1,(y.2.2.2.2.2.2.2.2.2.2.1,(v16.1.2.2.2.1,(v16.1.2.2.2.2.2.2,(v16.1.1,(v16.1.2.1,(v16.1.2.2.1,(v16.1.2.2.2.2.1,(v16.1.2.2.2.2.2.1,(v16.2,())))))))))))))))))))))=true then
                           letB (iB.fn20 ((Int.tmod v15 (wrap .i64 (((length y.2.2.1:Nat):Int)+(1:Int)))),((Int.tmod v15 (wrap .i64 (((length y.2.2.1:Nat):Int)+(1:Int)))),(y.2.1,(y.2.2.1,(y.2.2.2.1,(y.2.2.2.2.1,(y.2.2.2.2.2.1,(y.2.2.2.2.2.2.1,(y.2.2.2.2.2.2.2.1,(y.2.2.2.2.2.2.2.2.1,(y.2.2.2.2.2.2.2.2.2.1,(y.2.2.2.2.2.2.2.2.2.2.1,(v16.1.2.2.2.1,(v16.1.2.2.2.2.2.2,(v16.1.1,(v16.1.2.1,(v16.1.2.2.1,(v16.1.2.2.2.2.1,(v16.1.2.2.2.2.2.1,(v16.2,()))))))))))))))))))))) fun v17=>
                           match v17 with
                           |.inl y_1=>
                            some ((),y_1)
                           |.inr y_1=>
                            if(bN.pre (y_1.2.2.2.2.2.2.2.2.2.2.2.1,(y_1.2.2.2.2.2.2.2.2.2.2.2.2.1,(y_1.2.2.2.2.2.2.2.2.2.2.2.2.2.1,(y_1.2.2.2.2.2.2.2.2.2.1,(y_1.2.2.2.2.2.2.2.2.2.2.2.2.2.2.1,(y_1.2.2.2.2.2.2.2.2.2.2.2.2.2.2.2.1,y_1.2.2.2.2.2.2.2.2.2.2.1)))))) (y_1.2.2.2.2.1,(y_1.2.2.2.2.2.1,(y_1.2.2.2.2.2.2.1,(y_1.2.2.1,(y_1.2.2.2.2.2.2.2.1,(y_1.2.2.2.2.2.2.2.2.1,y_1.2.2.2.1)))))))=true then
                             letB (bN (y_1.2.2.2.2.2.2.2.2.2.2.2.1,(y_1.2.2.2.2.2.2.2.2.2.2.2.2.1,(y_1.2.2.2.2.2.2.2.2.2.2.2.2.2.1,(y_1.2.2.2.2.2.2.2.2.2.1,(y_1.2.2.2.2.2.2.2.2.2.2.2.2.2.2.1,(y_1.2.2.2.2.2.2.2.2.2.2.2.2.2.2.2.1,y_1.2.2.2.2.2.2.2.2.2.2.1)))))) (y_1.2.2.2.2.1,(y_1.2.2.2.2.2.1,(y_1.2.2.2.2.2.2.1,(y_1.2.2.1,(y_1.2.2.2.2.2.2.2.1,(y_1.2.2.2.2.2.2.2.2.1,y_1.2.2.2.1))))))) fun v18=>
                             if v18=true then
                              if(decide (((length y_1.2.2.2.2.2.2.2.2.2.2.2.2.2.2.2.2.1:Nat):Int)=y_1.1))=true then
                               if(dY.pre y_1.2.1 (y_1.2.2.2.2.1,(y_1.2.2.2.2.2.1,(y_1.2.2.2.2.2.2.1,(y_1.2.2.1,(y_1.2.2.2.2.2.2.2.1,(y_1.2.2.2.2.2.2.2.2.1,y_1.2.2.2.1)))))))=true then
                                letB (dY y_1.2.1 (y_1.2.2.2.2.1,(y_1.2.2.2.2.2.1,(y_1.2.2.2.2.2.2.1,(y_1.2.2.1,(y_1.2.2.2.2.2.2.2.1,(y_1.2.2.2.2.2.2.2.2.1,y_1.2.2.2.1))))))) fun v19=>
                                some ((),(v19,()))
                               else
                                none
                              else
                               some ((),(false,()))
                             else
                              some ((),(false,()))
                            else
                             none
                          else
                           none
                         else
                          none
                        else
                         none
                       else
                        none
                      else
                       none
                     else
                      none
                    else
                     none
                 else
                  none
               else
                none
              else
               none
            else
             none
           else
            none
          else
           none
       else
        none
      else
       none
     else
      none
    else
     none
   else
    none
  else
   none
theorem aHM(x1:List Int)(x2:Int)(x3:aP)(x4:List fQ)(x5:Int)(x6:Unit)(x7:List bW)(x8:List aC)(x9:List aE)(x10:List Int)(x11 x12 x13:List aF)(hp:pre11 (x1,(x2,(x3,(x4,(x5,(x6,(x7,(x8,(x9,(x10,(x11,(x12,(x13,())))))))))))))=true):
 aX pre11 aCR fn11 (x1,(x2,(x3,(x4,(x5,(x6,(x7,(x8,(x9,(x10,(x11,(x12,(x13,()))))))))))))) (wO x1 x2 x3 x4 x5 x6 x7 x8 x9 x10 x11 x12 x13):=by
 simp only[pre11,cP] at hp
 obtain⟨rfl,ha,h1,h2,h3⟩:=hp
 unfold wO
 by_cases hlt:x2<(x12.length:Int)
 . rw[lN (n:=x2+1) (by omega) (by omega)]
   have hok:eL (x12.getD x2.toNat ((0:Int),mP))=true:=Zu.1 ha _ (iO (by omega) _)
   refine bU (Zd hlt) (bU (Zd h1) (bU (Zd hlt) (bU (Zd h1) (bU (Zd hlt) (dJ (by simp) (bU (Zd h1) (bU (Zd hlt) (bU (show eE.pre _=true from Zd (Int.le_refl _)) (tO (dJ ?_ ⟨?_,by simp only[aCR];omega,rfl⟩))))))))))
   . rw[hok];decide
   . simp only[pre11,cP];exact⟨trivial,ha,by omega,by omega,h3⟩
 . exact dJ (by rw[Za];exact hlt) rfl
theorem aKO(x1 x2:Int)(x3:aP)(x4:List fQ)(x5:Int)(x6:Unit)(x7:List bW)(x8:List aC)(x9:List aE)(x10:List Int)(x11 x12:List aF)(x13:Int)(x14:Unit)(x15:List bW)(x16:List aC)(x17:List aE)(x18:List Int)(x19 x20:List aF)(hp:pre20 (x1,(x2,(x3,(x4,(x5,(x6,(x7,(x8,(x9,(x10,(x11,(x12,(x13,(x14,(x15,(x16,(x17,(x18,(x19,(x20,()))))))))))))))))))))=true):
 aX pre20 aJJ fn20 (x1,(x2,(x3,(x4,(x5,(x6,(x7,(x8,(x9,(x10,(x11,(x12,(x13,(x14,(x15,(x16,(x17,(x18,(x19,(x20,())))))))))))))))))))) (aIh x1 x2 x3 x4 x5 x6 x7 x8 x9 x10 x11 x12 x13 x14 x15 x16 x17 x18 x19 x20):=by
 simp only[pre20,cP] at hp
 obtain⟨h0,h1,h2,rfl,hK⟩:=hp
 unfold aIh
 rw[hK]
 by_cases hlt:x2<(x4.length:Int)
 . have hn:x2.toNat<x4.length:=by omega
   have hat:=aFS (s:=x3) hn
   have hal:(dV x3 x4).2.length=x4.length:=(qP (s:=x3) (l:=x4)).2.2
   rw[lN (n:=x2+1) (by omega) (by omega),dR hn,hat.2]
   refine bU (Zd hlt) (bU (Zd h1) (bU (Zd hlt) (bU (show cU.pre _ _ _=true from cP.2 (aAz _ _)) (bU (Zd h1) (bU (Zd (by omega)) (tO (dJ (by simp) ⟨?_,by simp only[aJJ];omega,rfl⟩)))))))
   simp only[pre20,cP]
   refine⟨h0,by omega,by omega,trivial,?_⟩
   rw[show(x2+1).toNat=x2.toNat+1 by omega,hat.1]
 . refine dJ (by rw[Za];exact hlt) ?_
   rw[List.take_of_length_le (by omega)] at hK
   simp only[aX,fn20,<-hK]
theorem eq(x0:List Int)(hw:wf x0):aQ x0=some ((),(iB x0,())):=by
 refine aCb ?_
 unfold aQ
 refine bR (cF (fun _=>aH rfl) fun hb=>?_)
 have hs:=aGs hb
 refine aG (show cG.pre x0=true from hs) (cW (P:=fun v:aP×List fQ=>v.2.length<=20) (rK hs) fun v hv=>?_)
 have hl:bQ v.2=true:=bJ.2 (by omega)
 have hA:=qP (s:=v.1) (l:=v.2)
 have hP:=aAz v.1 v.2
 refine aG (show dG.pre _ _=true from hl) (aG (show eN.pre _ _=true from hl) (aG (show fL.pre x0=true from hs) (aG (show eX.pre x0=true from hs) (bR (bR ?_)))))
 refine aG (show bN.pre _ _=true from cP.2 ⟨rfl,hP.1⟩) (bR (eG Bool.false_ne_true (eG (kE _) (bR (aG (show fG.pre _=true from rfl) (aG (show fF.pre _=true from rfl) (bR (bR ?_))))))))
 refine aG (show bN.pre _ _=true from cP.2 ⟨rfl,(aAv _).1⟩) (bR (eG Bool.false_ne_true (bR (aG (show eE.pre _=true from Zd (Int.le_refl _)) (aG (show iE.pre _=true from Zd (Int.le_refl _)) (bR (bR (eG (aBH _) (aG ?_ (bR ?_))))))))))
 . simp only[pre11,cP]
   exact⟨trivial,hA.2.1,by omega,by omega,by show(dV v.1 v.2).2.length<=_;rw[hA.2.2];omega⟩
 simp only[fn11]
 refine bR ?_
 cases hok:dK v.1
 . refine aG rfl (aH ?_)
   show decide (((dV v.1 v.2).1.1.length:Int)=0)=true
   rw[aBs hok,aFJ hok];rfl
 have hwl:=lN (n:=(v.2.length:Int)+1) (by omega) (by omega)
 have ha0:0<=kX x0 1:=aKk (aGe hw.1.2) hs
 rw[hwl]
 have m0:0<=Int.tmod (kX x0 1) ((v.2.length:Int)+1):=Int.tmod_nonneg _ ha0
 have m1:Int.tmod (kX x0 1) ((v.2.length:Int)+1)<(v.2.length:Int)+1:=Int.tmod_lt_of_pos _ (by omega)
 refine eG (by decide) (aG (show kX.pre _ _=true from Zd (by omega)) (aG (by simp only[Bool.not_eq_true',Zv];omega) (aG (by decide) (bR ?_))))
 generalize Int.tmod (kX x0 1) ((v.2.length:Int)+1)=m at *
 have hd:aW (Int.toNat 0) m.toNat v.2=v.2.take m.toNat:=by
  show List.take (m.toNat-0) (List.drop 0 v.2)=_
  rw[List.drop_zero,Nat.sub_zero]
 rw[hd]
 refine aG (Zd m0) (aG (Zd (by omega)) (aG (show dG.pre _ _=true from bJ.2 (by rw[Zr];omega)) (bR (aG ?_ (bR ?_)))))
 . simp only[pre20,cP]
   exact⟨by omega,m0,by omega,trivial,trivial⟩
 simp only[fn20]
 refine aG (show bN.pre (dV v.1 v.2).1 (dV v.1 v.2).1=true from cP.2 ⟨rfl,hP.1⟩) (bR (aG rfl (aG ?_ (aG (show dY.pre v.1 (dV v.1 v.2).1=true from hP.1) (bR (aH ?_))))))
 . rw[Za,show(dG v.1 (v.2.take m.toNat)).2.length=_ from(qP (s:=v.1) (l:=v.2.take m.toNat)).2.2,Zr];omega
 . exact aCW (hA.1 hok)
end iB
section
variable {S O α:Type} {pre:S->Bool} {mu:S->Nat} {fn:S->O} {s:S}
theorem aKn{a b:α}{f:α->Option (S⊕O)}(h:a=b)(r:aX pre mu fn s (f b)):aX pre mu fn s (letB a f):=by subst h;exact r
end
def pH(q r off:Int):fQ:=((0:Int),(q,((2:Int),(r,(off,mP)))))
def qG(q r:Int):fQ:=((1:Int),(q,((1:Int),(r,((0:Int),((9:Int),(((107:UInt8)::([]:List UInt8)),(([]:List UInt8),()))))))))
def aAL(it:aV):aF:=((0:Int),(it.1,(it.2.1,(it.2.2.1,()))))
theorem aJi{q r off:Int}(hq:1<=q/\q<=100000)(hr:0<=r/\r<=100000)(ho:0<=off/\off<=100000):kZ (pH q r off)=true:=by
 have hw:dQ []=true:=by decide
 unfold kZ pH
 rw[if_neg (show ¬(0:Int)=-1 by decide)]
 simp[aA,hw]
 omega
theorem aJ1{q r:Int}(hq:1<=q/\q<=100000)(hr:0<=r/\r<=100000):kZ (qG q r)=true:=by
 have hw:dQ []=true:=by decide
 have hw2:dQ [107]=true:=by decide
 unfold kZ qG
 rw[if_neg (show ¬(1:Int)=-1 by decide)]
 simp[aA,hw,hw2]
 omega
theorem aFk{it:aV}:(l:List aV)->l.Pairwise (fun a b=>a.1<b.1)->it∈l->l.find? (fun x=>decide (it.1<=x.1))=some it
 |[],_,h=>absurd h List.not_mem_nil
 |x::r,hp,h=>by
  have hp':=List.pairwise_cons.1 hp
  rcases List.mem_cons.1 h with rfl|h
  . rw[List.find?_cons,Zd (Int.le_refl _)]
  . have:=hp'.1 it h
    rw[List.find?_cons,decide_eq_false (by omega)]
    exact aFk r hp'.2 h
theorem aCU{R R':bW}{it:aV}{t:List aV}(h:fI R=true)(hm:it∈R.2.2.1)(h1:R'.1=R.1)(h2:R'.2.2.1=R.2.2.1++t):jA R' it.1=(it,0):=by
 have hr:=lO.1 h
 have hi:=hr.2.1 it hm
 unfold jA
 rw[if_neg (by rw[h1];omega),h2,List.find?_append,aFk _ hr.2.2 hm]
 rfl
theorem aFd{s:aP}{k:bB}{q r:Int}{it:aV}(hk:kD s k)(hr:0<=r/\r<s.1)(hg:jA (k.1.getD r.toNat mQ) it.1=(it,0))(hq:1<=q/\q<=100000)(ho:0<=it.1/\it.1<=100000)(hd:k.2.2.2.2.1.getD 0 0<q):
 kI s k (pH q r it.1)=(sZ k (pH q r it.1) (aAL it),aAL it):=by
 have hs:=fT hk.1.1
 have hc:=aJi (q:=q) (r:=r) (off:=it.1) hq (by omega) ho
 have e:mH s k (pH q r it.1)=(k,aAL it):=by
  unfold mH
  rw[if_neg (show ¬(pH q r it.1).2.2.1=8 by show ¬(2:Int)=8;decide),if_neg (show ¬aA (pH q r it.1).2.2.1 4 7=true by show ¬aA 2 4 7=true;decide),if_neg (show ¬s.1<=(pH q r it.1).2.2.2.1 by show ¬s.1<=r;omega)]
  unfold sA
  rw[if_neg (show ¬(pH q r it.1).2.2.1=1 by show ¬(2:Int)=1;decide),if_neg (show ¬(pH q r it.1).2.2.1=3 by show ¬(2:Int)=3;decide),if_pos (show(pH q r it.1).2.2.1=2 from rfl),
   show jA (fP k (pH q r it.1)) (pH q r it.1).2.2.2.2.1=(it,0) from hg]
  rfl
 unfold kI
 rw[hk.1.1,hc]
 show qD s k (pH q r it.1)=_
 unfold qD
 rw[if_neg (show ¬(pH q r it.1).1<0 by show ¬(0:Int)<0;decide),if_neg (show ¬(pH q r it.1).2.1<=k.2.2.2.2.1.getD (pH q r it.1).1.toNat 0 by show ¬q<=k.2.2.2.2.1.getD 0 0;omega),e]
theorem aHt{s:aP}{k:bB}{c:fQ}(hn:c.2.2.2.1.toNat<k.1.length):
 ((oB s k c).1.1.getD c.2.2.2.1.toNat mQ).1=(fP k c).1/\(∃t,((oB s k c).1.1.getD c.2.2.2.1.toNat mQ).2.2.1=(fP k c).2.2.1++t)/\(oB s k c).1.2.2.2.2.1=k.2.2.2.2.1:=by
 have self:(k.1.getD c.2.2.2.1.toNat mQ).1=(fP k c).1/\(∃t,(k.1.getD c.2.2.2.1.toNat mQ).2.2.1=(fP k c).2.2.1++t)/\k.2.2.2.2.1=k.2.2.2.2.1:=⟨rfl,⟨[],(List.append_nil _).symm⟩,rfl⟩
 unfold oB
 split
 . exact self
 split
 . exact self
 split
 . exact self
 split
 . exact self
 cases hb:(mY s k c).2.2
 . exact self
 . simp only[cond_true]
   rw[lS hn]
   refine⟨?_,?_,trivial⟩
   . unfold mY mF
     split<;>rfl
   . unfold mY mF
     split
     . exact⟨_,rfl⟩
     . exact⟨[],(List.append_nil _).symm⟩
theorem aHZ{s:aP}{k:bB}{q r:Int}(hk:kD s k)(hr:0<=r/\r<s.1)(hq:1<=q/\q<=100000)(hd:k.2.2.2.2.1.getD 1 0<q):
 kD s (kI s k (qG q r)).1/\((kI s k (qG q r)).1.1.getD r.toNat mQ).1=(k.1.getD r.toNat mQ).1/\(∃t,((kI s k (qG q r)).1.1.getD r.toNat mQ).2.2.1=(k.1.getD r.toNat mQ).2.2.1++t)/\(kI s k (qG q r)).1.2.2.2.2.1.getD 0 0=k.2.2.2.2.1.getD 0 0:=by
 have hs:=fT hk.1.1
 have hc:=aJ1 (q:=q) (r:=r) hq (by omega)
 have hl:r.toNat<k.1.length:=by have:=hk.1.2.1;omega
 have hP:=(wE (c:=qG q r) (fun _=>hk)).1 hk.1.1
 refine⟨hP,?_⟩
 have e:mH s k (qG q r)=oB s k (qG q r):=by
  unfold mH
  rw[if_neg (show ¬(qG q r).2.2.1=8 by show ¬(1:Int)=8;decide),if_neg (show ¬aA (qG q r).2.2.1 4 7=true by show ¬aA 1 4 7=true;decide),if_neg (show ¬s.1<=(qG q r).2.2.2.1 by show ¬s.1<=r;omega)]
  unfold sA
  rw[if_pos (show(qG q r).2.2.1=1 from rfl)]
 have e2:kI s k (qG q r)=(sZ (oB s k (qG q r)).1 (qG q r) (oB s k (qG q r)).2,(oB s k (qG q r)).2):=by
  unfold kI
  rw[hk.1.1,hc]
  show qD s k (qG q r)=_
  unfold qD
  rw[if_neg (show ¬(qG q r).1<0 by show ¬(1:Int)<0;decide),if_neg (show ¬(qG q r).2.1<=k.2.2.2.2.1.getD (qG q r).1.toNat 0 by show ¬q<=k.2.2.2.2.1.getD 1 0;omega),e]
 obtain⟨p1,p2,p3⟩:=aHt (s:=s) (k:=k) (c:=qG q r) hl
 rw[e2]
 refine⟨p1,p2,?_⟩
 show(List.modify (oB s k (qG q r)).1.2.2.2.2.1 1 (fun _=>q)).getD 0 0=_
 rw[p3,sH (by decide)]
def fK(_:List Int):Bool:=true
namespace fK
abbrev S14:Type:=(Int×(Int×(aP×zt6)))
abbrev O14:Type:=((Bool×Unit)⊕(Int×(aP×zt6)))
abbrev S11:Type:=(Int×(aP×zt6))
abbrev O11:Type:=((Bool×Unit)⊕Unit)
def aKq(d:List Int):Prop:=d.getD 0 0<=1000/\d.getD 1 0<=1000
noncomputable def pre14:S14->Bool:=fun(x1,x2,x3,x4,x5,x6,x7,x8,x9,x10,_)=>B (kD x3 (x6,(x7,(x8,(x4,(x9,(x10,x5))))))/\aKq x9/\(0<=x1/\x1<x3.1)/\0<=x2/\x2<=((x6.getD x1.toNat mQ).2.2.1.length:Int))
def aDt:S14->Nat:=fun(x1,x2,_,_,_,x6,_)=>(x6.getD x1.toNat mQ).2.2.1.length-x2.toNat
def fn14:S14->O14:=fun(x1,_,x3,x4,x5,x6,x7,x8,x9,x10,_)=>.inr (x1,(x3,(x4,(x5,(x6,(x7,(x8,(x9,(x10,())))))))))
noncomputable def pre11:S11->Bool:=fun(x1,x2,x3,x4,x5,x6,x7,x8,x9,_)=>B (kD x2 (x5,(x6,(x7,(x3,(x8,(x9,x4))))))/\aKq x8/\0<=x1/\x1<=100)
def aCR:S11->Nat:=fun(x1,x2,_)=>(x2.1-x1).toNat
def fn11:S11->O11:=fun _=>.inr ()
noncomputable def aC2(x1:Int)(x2:Int)(x3:aP)(x4:Int)(x5:Unit)(x6:(List bW))(x7:(List aC))(x8:(List aE))(x9:(List Int))(x10:(List aF)):Option ((Int×(Int×(aP×zt6)))⊕((Bool×Unit)⊕(Int×(aP×zt6)))):=
 if(decide ((0:Int)<=x1))=true then
 if(decide (x1<((length x6:Nat):Int)))=true then
 if(decide (x2<((length (List.getD x6 (Int.toNat x1) mQ).2.2.1:Nat):Int)))=true then
 if(decide ((0:Int)<=x1))=true then
 if(decide (x1<((length x6:Nat):Int)))=true then
 if(decide ((0:Int)<=x2))=true then
 if(decide (x2<((length (List.getD x6 (Int.toNat x1) mQ).2.2.1:Nat):Int)))=true then
 if(decide ((0:Int)<=(0:Int)))=true then
 if(decide ((0:Int)<((length x9:Nat):Int)))=true then
 if(cU.pre x3 (x6,(x7,(x8,(x4,(x9,(x10,x5)))))) ((0:Int),((wrap .i64 ((List.getD x9 (Int.toNat (0:Int)) (0:Int))+(1:Int))),((2:Int),(x1,((List.getD (List.getD x6 (Int.toNat x1) mQ).2.2.1 (Int.toNat x2) kH).1,mP))))))=true then
 letB (cU x3 (x6,(x7,(x8,(x4,(x9,(x10,x5)))))) ((0:Int),((wrap .i64 ((List.getD x9 (Int.toNat (0:Int)) (0:Int))+(1:Int))),((2:Int),(x1,((List.getD (List.getD x6 (Int.toNat x1) mQ).2.2.1 (Int.toNat x2) kH).1,mP)))))) fun v1=>
 if(!(decide (v1.2.1=(0:Int))))=true then
 some (.inr (.inl (false,())))
 else
 if(!(decide (v1.2.2.1=(List.getD (List.getD x6 (Int.toNat x1) mQ).2.2.1 (Int.toNat x2) kH).1)))=true then
 some (.inr (.inl (false,())))
 else
 if(!(v1.2.2.2.1==(List.getD (List.getD x6 (Int.toNat x1) mQ).2.2.1 (Int.toNat x2) kH).2.1))=true then
 some (.inr (.inl (false,())))
 else
 if(!(v1.2.2.2.2.1==(List.getD (List.getD x6 (Int.toNat x1) mQ).2.2.1 (Int.toNat x2) kH).2.2.1))=true then
 some (.inr (.inl (false,())))
 else
 if(decide ((0:Int)<=(1:Int)))=true then
 if(decide ((1:Int)<((length v1.1.2.2.2.2.1:Nat):Int)))=true then
 if(cU.pre x3 v1.1 ((1:Int),((wrap .i64 ((List.getD v1.1.2.2.2.2.1 (Int.toNat (1:Int)) (0:Int))+(1:Int))),((1:Int),(x1,((0:Int),((9:Int),(((107:UInt8)::([]:List UInt8)),(([]:List UInt8),())))))))))=true then
 letB (cU x3 v1.1 ((1:Int),((wrap .i64 ((List.getD v1.1.2.2.2.2.1 (Int.toNat (1:Int)) (0:Int))+(1:Int))),((1:Int),(x1,((0:Int),((9:Int),(((107:UInt8)::([]:List UInt8)),(([]:List UInt8),()))))))))) fun v2=>
 if(cU.pre x3 v2.1 ((0:Int),((wrap .i64 ((wrap .i64 ((List.getD x9 (Int.toNat (0:Int)) (0:Int))+(1:Int)))+(1:Int))),((2:Int),(x1,((List.getD (List.getD x6 (Int.toNat x1) mQ).2.2.1 (Int.toNat x2) kH).1,mP))))))=true then
 letB (cU x3 v2.1 ((0:Int),((wrap .i64 ((wrap .i64 ((List.getD x9 (Int.toNat (0:Int)) (0:Int))+(1:Int)))+(1:Int))),((2:Int),(x1,((List.getD (List.getD x6 (Int.toNat x1) mQ).2.2.1 (Int.toNat x2) kH).1,mP)))))) fun v3=>
 if(!((decide (v3.2.1=v1.2.1))&&((decide (v3.2.2.1=v1.2.2.1))&&((v3.2.2.2.1==v1.2.2.2.1)&&(v3.2.2.2.2.1==v1.2.2.2.2.1)))))=true then
 some (.inr (.inl (false,())))
 else
 some (.inl (x1,((wrap .i64 (x2+(1:Int))),(x3,(x4,(x5,(x6,(x7,(x8,(x9,(x10,())))))))))))
 else
 none
 else
 none
 else
 none
 else
 none
 else
 none
 else
 none
 else
 none
 else
 none
 else
 none
 else
 none
 else
 none
 else
 some (.inr (.inr (x1,(x3,(x4,(x5,(x6,(x7,(x8,(x9,(x10,())))))))))))
 else
 none
 else
 none
noncomputable def wO(x1:Int)(x2:aP)(x3:Int)(x4:Unit)(x5:(List bW))(x6:(List aC))(x7:(List aE))(x8:(List Int))(x9:(List aF)):Option ((Int×(aP×zt6))⊕((Bool×Unit)⊕Unit)):=
 if(decide (x1<x2.1))=true then
  if(fK.pre14 (x1,((0:Int),(x2,(x3,(x4,(x5,(x6,(x7,(x8,(x9,())))))))))))=true then
   letB (fK.fn14 (x1,((0:Int),(x2,(x3,(x4,(x5,(x6,(x7,(x8,(x9,()))))))))))) fun v1=>
   match v1 with
   |.inl y=>
    some (.inr (.inl y))
   |.inr y=>
    some (.inl ((wrap .i64 (y.1+(1:Int))),y.2))
  else
   none
 else
  some (.inr (.inr ()))
abbrev wf(x0:(List Int)):Prop:=iM [(.val (.sl 0 (.int .u8)) .f)] (x0,())
noncomputable def aQ(x0:(List Int)):Option mV:=
 letB (lZ x0) fun v1=>
 if v1=true then
  some ((),(true,()))
 else
  if(cG.pre x0)=true then
   letB (cG x0) fun v2=>
   if(dG.pre v2.1 v2.2)=true then
    if(eN.pre v2.1 v2.2)=true then
     letB (dG v2.1 v2.2) fun v3=>
     letB (eN v2.1 v2.2) fun v4=>
     if(bN.pre v3.1 v4.1)=true then
      letB (bN v3.1 v4.1) fun v5=>
      if(!v5)=true then
       some ((),(false,()))
      else
       letB (dK v2.1) fun v6=>
       if(!v6)=true then
        some ((),(true,()))
       else
        if(decide ((0:Int)<=(0:Int)))=true then
         if(decide ((0:Int)<((length v3.1.2.2.2.2.1:Nat):Int)))=true then
          if(decide ((1000:Int)<(List.getD v3.1.2.2.2.2.1 (Int.toNat (0:Int)) (0:Int))))=true then
           some ((),(true,()))
          else
           if(decide ((0:Int)<=(1:Int)))=true then
            if(decide ((1:Int)<((length v3.1.2.2.2.2.1:Nat):Int)))=true then
             if(decide ((1000:Int)<(List.getD v3.1.2.2.2.2.1 (Int.toNat (1:Int)) (0:Int))))=true then
              some ((),(true,()))
             else
              if(fK.pre11 ((0:Int),(v2.1,(v3.1.2.2.2.1,(v3.1.2.2.2.2.2.2,(v3.1.1,(v3.1.2.1,(v3.1.2.2.1,v3.1.2.2.2.2))))))))=true then
               letB (fK.fn11 ((0:Int),(v2.1,(v3.1.2.2.2.1,(v3.1.2.2.2.2.2.2,(v3.1.1,(v3.1.2.1,(v3.1.2.2.1,v3.1.2.2.2.2)))))))) fun v7=>
               match v7 with
               |.inl y=>
                some ((),y)
               |.inr y=>
                some ((),(true,()))
              else
               none
            else
             none
           else
            none
         else
          none
        else
         none
     else
      none
    else
     none
   else
    none
  else
   none
theorem aK4(x1 x2:Int)(x3:aP)(x4:Int)(x5:Unit)(x6:List bW)(x7:List aC)(x8:List aE)(x9:List Int)(x10:List aF)(hp:pre14 (x1,(x2,(x3,(x4,(x5,(x6,(x7,(x8,(x9,(x10,()))))))))))=true):
 aX pre14 aDt fn14 (x1,(x2,(x3,(x4,(x5,(x6,(x7,(x8,(x9,(x10,())))))))))) (aC2 x1 x2 x3 x4 x5 x6 x7 x8 x9 x10):=by
 have hp0:=hp
 simp only[pre14,cP] at hp
 obtain⟨hk,hd,⟨h0,h1⟩,h2,h3⟩:=hp
 have hs:=fT hk.1.1
 have hl:(x6.length:Int)=x3.1:=hk.1.2.1
 have hdl:x9.length=4:=hk.1.2.2.2.1
 have hn:x1.toNat<x6.length:=by omega
 have hR:fI (x6.getD x1.toNat mQ)=true:=hk.2.1 _ (iO hn _)
 have hr:=lO.1 hR
 have dn:∀j:Nat,j<4->0<=x9.getD j 0:=fun j hj=>(hk.2.2.2.1 _ (iO (show j<x9.length by omega) _)).1
 unfold aC2
 refine bU (Zd h0) (bU (Zd (by omega)) ?_)
 by_cases hlt:x2<((x6.getD x1.toNat mQ).2.2.1.length:Int)
 . have hit:(x6.getD x1.toNat mQ).2.2.1.getD x2.toNat kH∈(x6.getD x1.toNat mQ).2.2.1:=iO (by omega) _
   refine bU (Zd hlt) (bU (Zd h0) (bU (Zd (by omega)) (bU (Zd h2) (bU (Zd hlt) (bU (by decide) (bU (Zd (by omega)) ?_))))))
   rw[lN (n:=x2+1) (by omega) (by omega)]
   generalize (x6.getD x1.toNat mQ).2.2.1.getD x2.toNat kH=it at hit ⊢
   have hi:=hr.2.1 it hit
   have hio:0<=it.1/\it.1<=100000:=by have:=hr.1;omega
   have d0:=dn 0 (by decide)
   have d1:=dn 1 (by decide)
   have hd0:x9.getD (Int.toNat 0) 0<=1000:=hd.1
   have hd0':0<=x9.getD (Int.toNat 0) 0:=d0
   rw[lN (n:=x9.getD (Int.toNat 0) 0+1) (by omega) (by omega),lN (n:=x9.getD (Int.toNat 0) 0+1+1) (by omega) (by omega)]
   generalize hq:x9.getD (Int.toNat 0) 0=d at *
   have hq:x9.getD 0 0=d:=hq
   have g1:=aFd (q:=d+1) (r:=x1) hk ⟨h0,h1⟩ (aCU (t:=[]) hR hit rfl (List.append_nil _).symm) (by omega) hio (by show x9.getD 0 0<d+1;omega)
   have hk1:kD x3 (sZ (x6,(x7,(x8,(x4,(x9,(x10,x5)))))) (pH (d+1) x1 it.1) (aAL it)):=by
    have:=(wE (c:=pH (d+1) x1 it.1) (fun _=>hk)).1 hk.1.1
    rwa [g1] at this
   have st:∀{k:bB},kD x3 k->∀c,cU.pre x3 k c=true:=fun h c=>cP.2 ⟨aBK h,fun _=>h⟩
   refine bU (st hk _) (aKn g1 (dJ (kE _) (dJ (kE _) (dJ (aBH _) (dJ (aBH _) (bU (by decide) (bU (Zd ?_) ?_)))))))
   . show(1:Int)<((List.modify x9 _ _).length:Int)
     rw[List.length_modify];omega
   have e1:(sZ (x6,(x7,(x8,(x4,(x9,(x10,x5)))))) (pH (d+1) x1 it.1) (aAL it)).2.2.2.2.1.getD 1 0=x9.getD 1 0:=by
    show(List.modify x9 0 (fun _=>d+1)).getD 1 0=_
    rw[sH (by decide)]
   have e0:(sZ (x6,(x7,(x8,(x4,(x9,(x10,x5)))))) (pH (d+1) x1 it.1) (aAL it)).2.2.2.2.1.getD 0 0=d+1:=by
    show(List.modify x9 0 (fun _=>d+1)).getD 0 0=_
    rw[lS (by omega)]
   have hd1:x9.getD 1 0<=1000:=hd.2
   show aX pre14 aDt fn14 _ (if cU.pre x3 (sZ (x6,(x7,(x8,(x4,(x9,(x10,x5)))))) (pH (d+1) x1 it.1) (aAL it)) (qG (wrap .i64 ((sZ (x6,(x7,(x8,(x4,(x9,(x10,x5)))))) (pH (d+1) x1 it.1) (aAL it)).2.2.2.2.1.getD 1 0+1)) x1)=true then _ else _)
   refine bU (st hk1 _) (tO ?_)
   have ew:wrap .i64 ((sZ (x6,(x7,(x8,(x4,(x9,(x10,x5)))))) (pH (d+1) x1 it.1) (aAL it)).2.2.2.2.1.getD 1 0+1)=x9.getD 1 0+1:=by rw[e1];exact lN (by omega) (by omega)
   have p:=aHZ (q:=x9.getD 1 0+1) (r:=x1) hk1 ⟨h0,h1⟩ (by omega) (by rw[e1];omega)
   show aX pre14 aDt fn14 _ (if cU.pre x3 (kI x3 (sZ (x6,(x7,(x8,(x4,(x9,(x10,x5)))))) (pH (d+1) x1 it.1) (aAL it)) (qG (wrap .i64 ((sZ (x6,(x7,(x8,(x4,(x9,(x10,x5)))))) (pH (d+1) x1 it.1) (aAL it)).2.2.2.2.1.getD 1 0+1)) x1)).1 (pH (d+1+1) x1 it.1)=true then letB (kI x3 (kI x3 (sZ (x6,(x7,(x8,(x4,(x9,(x10,x5)))))) (pH (d+1) x1 it.1) (aAL it)) (qG (wrap .i64 ((sZ (x6,(x7,(x8,(x4,(x9,(x10,x5)))))) (pH (d+1) x1 it.1) (aAL it)).2.2.2.2.1.getD 1 0+1)) x1)).1 (pH (d+1+1) x1 it.1)) _ else none)
   rw[ew]
   obtain⟨p1,p2,⟨t,p3⟩,p4⟩:=p
   have g3:=aFd (q:=d+1+1) (r:=x1) p1 ⟨h0,h1⟩ (aCU (t:=t) hR hit p2 p3) (by omega) hio (by rw[p4,e0];omega)
   refine bU (st p1 _) (aKn g3 (dJ (by simp) ⟨?_,?_,rfl⟩))
   . simp only[pre14,cP];exact⟨hk,⟨by omega,by omega⟩,⟨h0,h1⟩,by omega,by omega⟩
   . simp only[aDt];omega
 . exact dJ (by rw[Za];exact hlt) rfl
theorem aHM(x1:Int)(x2:aP)(x3:Int)(x4:Unit)(x5:List bW)(x6:List aC)(x7:List aE)(x8:List Int)(x9:List aF)(hp:pre11 (x1,(x2,(x3,(x4,(x5,(x6,(x7,(x8,(x9,())))))))))=true):
 aX pre11 aCR fn11 (x1,(x2,(x3,(x4,(x5,(x6,(x7,(x8,(x9,()))))))))) (wO x1 x2 x3 x4 x5 x6 x7 x8 x9):=by
 simp only[pre11,cP] at hp
 obtain⟨hk,hd,h0,h1⟩:=hp
 have hs:=fT hk.1.1
 unfold wO
 by_cases hlt:x1<x2.1
 . refine bU (Zd hlt) (bU ?_ (tO ?_))
   . simp only[pre14,cP];exact⟨hk,hd,⟨h0,hlt⟩,by omega,by omega⟩
   simp only[fn14]
   rw[lN (n:=x1+1) (by omega) (by omega)]
   refine⟨?_,by simp only[aCR];omega,rfl⟩
   simp only[pre11,cP];exact⟨hk,hd,by omega,by omega⟩
 . exact dJ (by rw[Za];exact hlt) rfl
theorem eq(x0:List Int)(_:wf x0):aQ x0=some ((),(fK x0,())):=by
 refine aCb ?_
 unfold aQ
 refine bR (cF (fun _=>aH rfl) fun hb=>?_)
 have hs:=aGs hb
 refine aG (show cG.pre x0=true from hs) (cW (P:=fun v:aP×List fQ=>v.2.length<=20) (rK hs) fun v hv=>?_)
 have hl:bQ v.2=true:=bJ.2 (by omega)
 have hA:=qP (s:=v.1) (l:=v.2)
 have hP:=aAz v.1 v.2
 refine aG (show dG.pre _ _=true from hl) (aG (show eN.pre _ _=true from hl) (bR (bR (aG (show bN.pre _ _=true from cP.2 ⟨rfl,hP.1⟩) (bR (eG Bool.false_ne_true (bR ?_)))))))
 cases hok:dK v.1
 . exact aG rfl (aH rfl)
 have hk:=hA.1 hok
 have hdl:(dV v.1 v.2).1.2.2.2.2.1.length=4:=hk.1.2.2.2.1
 refine eG (by decide) (aG (by decide) (aG (Zd (show(0:Int)<((dV v.1 v.2).1.2.2.2.2.1.length:Int) by omega)) (cF (fun _=>aH rfl) fun c0=>aG (by decide) (aG (Zd (show(1:Int)<((dV v.1 v.2).1.2.2.2.2.1.length:Int) by omega)) (cF (fun _=>aH rfl) fun c1=>?_)))))
 rw[Za] at c0 c1
 refine aG ?_ (bR (aH rfl))
 simp only[pre11,cP]
 exact⟨hk,⟨Int.not_lt.1 c0,Int.not_lt.1 c1⟩,by omega,by omega⟩
end fK
end Go.Aw.Pl
