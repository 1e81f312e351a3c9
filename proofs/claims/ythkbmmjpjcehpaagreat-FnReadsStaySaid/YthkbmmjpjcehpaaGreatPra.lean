import Derived.Test.YthkbmmjpjcehpaaGreatAxM
namespace Go.Aw.Pl
open Go.IntKind (wrap)
open List (length)
open Go Go.Aw
set_option linter.unusedVariables false
set_option linter.unusedSimpArgs false
set_option maxHeartbeats 1000000
abbrev bS:=(Int×(Int×Unit))
abbrev aP:=(Int×(Int×bS))
abbrev aV:=(Int×((List UInt8)×((List UInt8)×bS)))
abbrev bW:=(Int×(Int×((List aV)×Unit)))
abbrev aC:=(Int×(Int×(Int×(Int×((List bS)×Unit)))))
abbrev aF:=(Int×(Int×((List UInt8)×((List UInt8)×Unit))))
abbrev fQ:=(Int×(Int×(Int×(Int×aF))))
abbrev aE:=(Int×((List Int)×((List Int)×((List Int)×Unit))))
abbrev bB:=((List bW)×((List aC)×((List aE)×(Int×((List Int)×((List aF)×Unit))))))
abbrev kK:=((0:Int),((0:Int),((0:Int),((0:Int),(([]:List bS),())))))
abbrev mP:=((0:Int),(([]:List UInt8),(([]:List UInt8),())))
abbrev qX:=((0:Int),(([]:List Int),(([]:List Int),(([]:List Int),()))))
abbrev zt6:Type:=(Int×(Unit×((List bW)×((List aC)×((List aE)×((List Int)×((List aF)×Unit)))))))
abbrev mQ:=((0:Int),((0:Int),(([]:List aV),())))
abbrev zk8:Ty:=(.pair (.int .i64) (.pair (.int .i64) .unit))
abbrev zk9:Ty:=(.pair (.int .i64) (.pair (.sl 0 (.int .i64)) (.pair (.sl 0 (.int .i64)) (.pair (.sl 0 (.int .i64)) .unit))))
abbrev aC1:Type:=(Int×(Int×(Unit×((List aV)×(Int×(Int×(Unit×((List aV)×Unit))))))))
abbrev xY:Type:=(Int×(Unit×((List bW)×((List aC)×((List aE)×((List Int)×((List aF)×zt6)))))))
abbrev wQ:Ty:=(.pair (.int .i64) (.pair (.int .i64) (.pair (.int .i64) (.pair (.int .i64) (.pair (.sl 0 zk8) .unit)))))
abbrev aBb:Type:=(Int×(Unit×((List Int)×((List Int)×((List Int)×(Int×(Unit×((List Int)×((List Int)×((List Int)×Unit))))))))))
abbrev mV:Type:=(Unit×(Bool×Unit))
abbrev aEM:Type:=((List aC)×((Int×((List Int)×((List aF)×Unit)))×((List bW)×((List aE)×zt6))))
abbrev lX:Type:=((List Int)×bS)
abbrev aBe:Type:=(Int×(Int×(Int×(Int×(Unit×((List bS)×Unit))))))
abbrev vY:Ty:=(.pair (.int .i64) (.pair (.int .i64) zk8))
abbrev pV:=((0:Int),((0:Int),()))
abbrev kH:=((0:Int),(([]:List UInt8),(([]:List UInt8),pV)))
abbrev aDJ:=((0:Int),((0:Int),((0:Int),((0:Int),((0:Int),mP)))))
abbrev aCE:Ty:=(.pair (.int .i64) (.pair .str (.pair .str zk8)))
abbrev tK:Ty:=(.pair (.int .i64) (.pair (.int .i64) (.pair (.sl 0 aCE) .unit)))
abbrev aDY:Ty:=(.pair (.int .i64) (.pair (.int .i64) (.pair .str (.pair .str .unit))))
abbrev zk1:Ty:=(.pair (.sl 0 tK) (.pair (.sl 0 wQ) (.pair (.sl 0 zk9) (.pair (.int .i64) (.pair (.sl 0 (.int .i64)) (.pair (.sl 0 aDY) .unit))))))
abbrev wN:Ty:=(.pair (.int .i64) (.pair (.int .i64) (.pair (.int .i64) (.pair (.int .i64) aDY))))
abbrev aIs:Type:=(Int×(Unit×((List bW)×((List aC)×((List aE)×((List Int)×((List aF)×((List aF)×Unit))))))))
abbrev aGS:Type:=(Int×(Unit×((List bW)×((List aC)×((List aE)×((List Int)×((List aF)×aIs)))))))
abbrev aIY:Type:=(Int×(Unit×((List bW)×((List aC)×((List aE)×((List Int)×((List aF)×((List aF)×zt6))))))))
abbrev aHV:=((0:Int),((0:Int),((0:Int),((0:Int),((0:Int),((),(([]:List bS),())))))))
abbrev aB9:Ty:=(.pair (.sl 0 (.int .u8)) zk8)
abbrev aA0:Type:=(bB×(bB×Unit))
abbrev yK:Type:=((List aC)×Unit)
abbrev aCT:Type:=(Int×(Int×(bW×aC1)))
abbrev aAC:Type:=(Unit×(Int×Unit))
abbrev uW:Type:=(aF×Unit)
abbrev aIF:Type:=(Int×(Unit×((List bW)×((List aC)×((List aE)×((List Int)×((List aF)×uW)))))))
abbrev aJt:Type:=(Int×(Unit×((List bW)×((List aC)×((List aE)×((List Int)×((List aF)×aIF)))))))
abbrev aCw:Type:=(Unit×(aE×Unit))
abbrev aKu:Type:=((List Int)×(Int×(aP×((List fQ)×(Int×(Unit×((List bW)×((List aC)×((List aE)×((List Int)×((List aF)×((List aF)×((List aF)×Unit)))))))))))))
theorem lN{n:Int}(h1:-9223372036854775808<=n)(h2:n<=9223372036854775807):wrap .i64 n=n:=by
 simp[wrap,IntKind.signed,IntKind.bits];omega
theorem aJZ{n:Int}:inK .i64 n↔-9223372036854775808<=n/\n<=9223372036854775807:=by
 unfold inK;rw[aGO,aGH]
theorem in8{n:Int}:inK .u8 n↔0<=n/\n<=255:=by
 unfold inK;rfl
theorem aDe:maxLen=9223372036854775807:=rfl
def bQ{α:Type}(xs:List α):Bool:=decide (xs.length<=16777216)
theorem bJ{α:Type}{xs:List α}:bQ xs=true↔xs.length<=16777216:=by simp[bQ]
theorem dR{α:Type}{xs:List α}{i:Nat}{d:α}(h:i<xs.length):xs.getD i d=xs[i]:=by
 rw[List.getD_eq_getElem?_getD,Zm h];rfl
def letB{α β:Type}(a:α)(f:α->β):β:=f a
open Classical in
noncomputable def same{α:Type}(a b:α):Bool:=decide (a=b)
theorem pF{α:Type}{a b:α}:same a b=true↔a=b:=by simp[same]
theorem nZ{α:Type}(a:α):same a a=true:=pF.2 rfl
theorem nX{α:Type}(l:List α)(i:Nat)(v:α):l.modify i (fun _=>v)=l.set i v:=by
 apply List.ext_getElem?
 intro j
 rw[List.getElem?_modify,List.getElem?_set]
 by_cases h:i=j
 . subst h
   rcases Nat.lt_or_ge i l.length with hl|hl
   . simp[hl]
   . simp[List.getElem?_eq_none hl,Nat.not_lt.2 hl]
 . simp[h]
def aA(n lo hi:Int):Bool:=decide (lo<=n)&&decide (n<=hi)
namespace aA
abbrev wf(x0:Int)(x1:Int)(x2:Int):Prop:=iM [(.val (.int .i64) .f),(.val (.int .i64) .f),(.val (.int .i64) .f)] (x0,(x1,(x2,())))
noncomputable def aQ(x0:Int)(x1:Int)(x2:Int):Option mV:=
 if(decide (x1<=x0))=true then
 some ((),((decide (x0<=x2)),()))
 else
 some ((),(false,()))
theorem eq(x0 x1 x2:Int)(_:wf x0 x1 x2):aQ x0 x1 x2=some ((),(aA x0 x1 x2,())):=by
 unfold aQ aA
 by_cases h:x1<=x0<;>simp[h]
end aA
abbrev eV:=aA
namespace eV
abbrev wf(x0:Int)(x1:Int)(x2:Int):Prop:=iM [(.val (.int .i64) .f),(.val (.int .i64) .f),(.val (.int .i64) .f)] (x0,(x1,(x2,())))
noncomputable def aQ(x0:Int)(x1:Int)(x2:Int):Option mV:=
 if(decide (x1<=x0))=true then
 some ((),((decide (x0<=x2)),()))
 else
 some ((),(false,()))
theorem eq(x0 x1 x2:Int)(_:wf x0 x1 x2):aQ x0 x1 x2=some ((),(eV x0 x1 x2,())):=by
 unfold aQ eV aA
 by_cases h:x1<=x0<;>simp[h]
end eV
def aAj(c:UInt8):Bool:=(decide (97<=c.toNat)&&decide (c.toNat<=122))||(decide (48<=c.toNat)&&decide (c.toNat<=57))||decide (c.toNat=32)
def dQ(s:List UInt8):Bool:=s.all aAj&&decide (s.length<=30)
abbrev TxS:=List UInt8×(Int×Unit)
def vW:TxS->Bool:=fun s=>decide (s.1.length<=maxLen)&&decide (0<=s.2.1)&&decide (s.2.1.toNat<=s.1.length)
def aCP:TxS->(Bool×Unit)⊕(List UInt8×Unit):=fun s=>if(s.1.drop s.2.1.toNat).all aAj=true then .inr (s.1,()) else .inl (false,())
def aGR:TxS->Nat:=fun s=>s.1.length-s.2.1.toNat
theorem aGJ{x1:List UInt8}{x2:Int}(hp:vW (x1,(x2,()))=true)(hlt:x2<(x1.length:Int)):
 0<=x2/\(aAj (x1.getD x2.toNat 0)=true->aX vW aGR aCP (x1,(x2,())) (some (.inl (x1,(wrap .i64 (x2+1),())))))/\
  (aAj (x1.getD x2.toNat 0)=false->aX vW aGR aCP (x1,(x2,())) (some (.inr (.inl (false,()))))):=by
 simp only[vW,Zb,Za] at hp
 obtain⟨⟨h1,h2⟩,h3⟩:=hp
 have hM:=aDe
 have hn:x2.toNat<x1.length:=by omega
 have e1:=Zn hn
 rw[dR hn]
 refine⟨h2,fun he=>?_,fun he=>?_⟩
 . simp only[aX,lN (n:=x2+1) (by omega) (by omega)]
   refine⟨?_,by simp only[aGR];omega,?_⟩
   . simp only[vW,Zb,Za]
     exact⟨⟨h1,by omega⟩,by omega⟩
   . simp only[aCP,show(x2+1).toNat=x2.toNat+1 by omega,e1,List.all_cons,he,Bool.true_and]
 . simp only[aX,aCP,e1,List.all_cons,he,Bool.false_and,Zj,if_false]
theorem aI8{x1:List UInt8}{x2:Int}(hp:vW (x1,(x2,()))=true)(hlt:¬x2<(x1.length:Int)):
 aX vW aGR aCP (x1,(x2,())) (some (.inr (.inr (x1,())))):=by
 simp only[vW,Zb,Za] at hp
 obtain⟨⟨h1,h2⟩,h3⟩:=hp
 simp only[aX,aCP]
 rw[Zt (by omega)]
 rfl
theorem aJz{x0:List UInt8}(h:x0.length<=maxLen):vW (x0,((0:Int),()))=true:=by simp[vW,h]
abbrev gG:=dQ
abbrev iA:=dQ
namespace gG
def pre2:=vW
def fn2:=aCP
def qY:=aGR
noncomputable def jX(x1:(List UInt8))(x2:Int):Option (((List UInt8)×(Int×Unit))⊕((Bool×Unit)⊕((List UInt8)×Unit))):=
 if(decide (x2<((length x1:Nat):Int)))=true then
 if(decide ((0:Int)<=x2))=true then
 if(decide (x2<((length x1:Nat):Int)))=true then
 if(decide (((UInt8.toNat (List.getD x1 (Int.toNat x2) 0):Nat):Int)<(97:Int)))=true then
 if(decide (((UInt8.toNat (List.getD x1 (Int.toNat x2) 0):Nat):Int)<(48:Int)))=true then
 if(!(decide (((UInt8.toNat (List.getD x1 (Int.toNat x2) 0):Nat):Int)=(32:Int))))=true then
 some (.inr (.inl (false,())))
 else
 some (.inl (x1,((wrap .i64 (x2+(1:Int))),())))
 else
 if(decide ((57:Int)<((UInt8.toNat (List.getD x1 (Int.toNat x2) 0):Nat):Int)))=true then
 if(!(decide (((UInt8.toNat (List.getD x1 (Int.toNat x2) 0):Nat):Int)=(32:Int))))=true then
 some (.inr (.inl (false,())))
 else
 some (.inl (x1,((wrap .i64 (x2+(1:Int))),())))
 else
 some (.inl (x1,((wrap .i64 (x2+(1:Int))),())))
 else
 if(decide ((122:Int)<((UInt8.toNat (List.getD x1 (Int.toNat x2) 0):Nat):Int)))=true then
 if(decide (((UInt8.toNat (List.getD x1 (Int.toNat x2) 0):Nat):Int)<(48:Int)))=true then
 if(!(decide (((UInt8.toNat (List.getD x1 (Int.toNat x2) 0):Nat):Int)=(32:Int))))=true then
 some (.inr (.inl (false,())))
 else
 some (.inl (x1,((wrap .i64 (x2+(1:Int))),())))
 else
 if(decide ((57:Int)<((UInt8.toNat (List.getD x1 (Int.toNat x2) 0):Nat):Int)))=true then
 if(!(decide (((UInt8.toNat (List.getD x1 (Int.toNat x2) 0):Nat):Int)=(32:Int))))=true then
 some (.inr (.inl (false,())))
 else
 some (.inl (x1,((wrap .i64 (x2+(1:Int))),())))
 else
 some (.inl (x1,((wrap .i64 (x2+(1:Int))),())))
 else
 some (.inl (x1,((wrap .i64 (x2+(1:Int))),())))
 else
 none
 else
 none
 else
 some (.inr (.inr (x1,())))
abbrev wf(x0:(List UInt8)):Prop:=iM [(.val .str .f)] (x0,())
noncomputable def aQ(x0:(List UInt8)):Option mV:=
 if(gG.pre2 (x0,((0:Int),())))=true then
  match(gG.fn2 (x0,((0:Int),()))) with
  |.inl y=>
   some ((),y)
  |.inr y=>
   some ((),((decide (((length y.1:Nat):Int)<=(30:Int))),()))
 else
  none
theorem ok2(x1:List UInt8)(x2:Int)(hp:pre2 (x1,(x2,()))=true):aX pre2 qY fn2 (x1,(x2,())) (jX x1 x2):=by
 unfold jX
 by_cases hlt:x2<(x1.length:Int)
 . obtain⟨h1,h2,h3⟩:=aGJ hp hlt
   simp only[hlt,h1,decide_true,if_true,Za,Bool.not_eq_true',Zv]
   generalize hc:(x1.getD x2.toNat 0)=c at *
   have hk:aAj c=true\/aAj c=false:=by cases aAj c<;>simp
   unfold aAj at hk h2 h3
   simp only[Bool.or_eq_true,Zb,Za,Bool.or_eq_false_iff,Bool.and_eq_false_iff,Zv] at hk h2 h3
   repeat' split
   all_goals first|(exact h2 (by omega))|(exact h3 (by omega))
 . simp only[hlt,decide_false,Zj,if_false]
   exact aI8 hp hlt
theorem eq(x0:List UInt8)(hw:wf x0):aQ x0=some ((),(gG x0,())):=by
 have h1:x0.length<=maxLen:=hw.1
 unfold aQ gG dQ
 rw[if_pos (show pre2 _=true from aJz h1)]
 simp only[fn2,aCP,Int.toNat_zero,List.drop_zero]
 by_cases h:x0.all aAj=true
 . rw[if_pos h,h]
   by_cases hl:x0.length<=30
   . simp[hl];omega
   . simp[hl];omega
 . rw[if_neg h];simp[h]
end gG
namespace iA
def pre2:=vW
def fn2:=aCP
def qY:=aGR
noncomputable def jX(x1:(List UInt8))(x2:Int):Option (((List UInt8)×(Int×Unit))⊕((Bool×Unit)⊕((List UInt8)×Unit))):=
 if(decide (x2<((length x1:Nat):Int)))=true then
 if(decide ((0:Int)<=x2))=true then
 if(decide (x2<((length x1:Nat):Int)))=true then
 if(decide ((97:Int)<=((UInt8.toNat (List.getD x1 (Int.toNat x2) 0):Nat):Int)))=true then
 if(decide (((UInt8.toNat (List.getD x1 (Int.toNat x2) 0):Nat):Int)<=(122:Int)))=true then
 if(!true)=true then
 some (.inr (.inl (false,())))
 else
 some (.inl (x1,((wrap .i64 (x2+(1:Int))),())))
 else
 if(decide ((48:Int)<=((UInt8.toNat (List.getD x1 (Int.toNat x2) 0):Nat):Int)))=true then
 if(decide (((UInt8.toNat (List.getD x1 (Int.toNat x2) 0):Nat):Int)<=(57:Int)))=true then
 if(!true)=true then
 some (.inr (.inl (false,())))
 else
 some (.inl (x1,((wrap .i64 (x2+(1:Int))),())))
 else
 if(!(decide (((UInt8.toNat (List.getD x1 (Int.toNat x2) 0):Nat):Int)=(32:Int))))=true then
 some (.inr (.inl (false,())))
 else
 some (.inl (x1,((wrap .i64 (x2+(1:Int))),())))
 else
 if(!(decide (((UInt8.toNat (List.getD x1 (Int.toNat x2) 0):Nat):Int)=(32:Int))))=true then
 some (.inr (.inl (false,())))
 else
 some (.inl (x1,((wrap .i64 (x2+(1:Int))),())))
 else
 if(decide ((48:Int)<=((UInt8.toNat (List.getD x1 (Int.toNat x2) 0):Nat):Int)))=true then
 if(decide (((UInt8.toNat (List.getD x1 (Int.toNat x2) 0):Nat):Int)<=(57:Int)))=true then
 if(!true)=true then
 some (.inr (.inl (false,())))
 else
 some (.inl (x1,((wrap .i64 (x2+(1:Int))),())))
 else
 if(!(decide (((UInt8.toNat (List.getD x1 (Int.toNat x2) 0):Nat):Int)=(32:Int))))=true then
 some (.inr (.inl (false,())))
 else
 some (.inl (x1,((wrap .i64 (x2+(1:Int))),())))
 else
 if(!(decide (((UInt8.toNat (List.getD x1 (Int.toNat x2) 0):Nat):Int)=(32:Int))))=true then
 some (.inr (.inl (false,())))
 else
 some (.inl (x1,((wrap .i64 (x2+(1:Int))),())))
 else
 none
 else
 none
 else
 some (.inr (.inr (x1,())))
abbrev wf(x0:(List UInt8)):Prop:=iM [(.val .str .f)] (x0,())
noncomputable def aQ(x0:(List UInt8)):Option mV:=
 if(iA.pre2 (x0,((0:Int),())))=true then
  match(iA.fn2 (x0,((0:Int),()))) with
  |.inl y=>
   some ((),y)
  |.inr y=>
   some ((),((decide (((length y.1:Nat):Int)<=(30:Int))),()))
 else
  none
theorem ok2(x1:List UInt8)(x2:Int)(hp:pre2 (x1,(x2,()))=true):aX pre2 qY fn2 (x1,(x2,())) (jX x1 x2):=by
 unfold jX
 by_cases hlt:x2<(x1.length:Int)
 . obtain⟨h1,h2,h3⟩:=aGJ hp hlt
   simp only[hlt,h1,decide_true,if_true,Za,Bool.not_eq_true',Zv,Bool.not_true,Zj,if_false]
   generalize hc:(x1.getD x2.toNat 0)=c at *
   have hk:aAj c=true\/aAj c=false:=by cases aAj c<;>simp
   unfold aAj at hk h2 h3
   simp only[Bool.or_eq_true,Zb,Za,Bool.or_eq_false_iff,Bool.and_eq_false_iff,Zv] at hk h2 h3
   repeat' split
   all_goals first|(exact h2 (by omega))|(exact h3 (by omega))
 . simp only[hlt,decide_false,Zj,if_false]
   exact aI8 hp hlt
theorem eq(x0:List UInt8)(hw:wf x0):aQ x0=some ((),(iA x0,())):=by
 have h1:x0.length<=maxLen:=hw.1
 unfold aQ iA dQ
 rw[if_pos (show pre2 _=true from aJz h1)]
 simp only[fn2,aCP,Int.toNat_zero,List.drop_zero]
 by_cases h:x0.all aAj=true
 . rw[if_pos h,h]
   by_cases hl:x0.length<=30
   . simp[hl];omega
   . simp[hl];omega
 . rw[if_neg h];simp[h]
end iA
def kZ(c:fQ):Bool:=
 if c.1=-1 then decide (c.1=-1)&&(decide (c.2.1=0)&&(decide (c.2.2.1=0)&&(decide (c.2.2.2.1=0)&&(decide (c.2.2.2.2.1=0)&&(decide (c.2.2.2.2.2.1=0)&&(c.2.2.2.2.2.2.1==[]&&c.2.2.2.2.2.2.2.1==[]))))))
 else aA c.1 0 3&&(aA c.2.1 1 100000&&(aA c.2.2.1 1 10&&(aA c.2.2.2.1 0 100000&&(aA c.2.2.2.2.1 0 100000&&(aA c.2.2.2.2.2.1 0 100000&&(dQ c.2.2.2.2.2.2.1&&dQ c.2.2.2.2.2.2.2.1))))))
abbrev mX:=kZ
abbrev mU:=kZ
namespace mX
abbrev wf(x0:fQ):Prop:=iM [(.val wN .f)] (x0,())
noncomputable def aQ(x0:fQ):Option mV:=
 if(decide (x0.1=(-1:Int)))=true then
 some ((),(((decide (x0.1=(-1:Int)))&&((decide (x0.2.1=(0:Int)))&&((decide (x0.2.2.1=(0:Int)))&&((decide (x0.2.2.2.1=(0:Int)))&&((decide (x0.2.2.2.2.1=(0:Int)))&&((decide (x0.2.2.2.2.2.1=(0:Int)))&&((x0.2.2.2.2.2.2.1==([]:List UInt8))&&(x0.2.2.2.2.2.2.2.1==([]:List UInt8))))))))),()))
 else
 if(aA x0.1 (0:Int) (3:Int))=true then
 if(aA x0.2.1 (1:Int) (100000:Int))=true then
 if(aA x0.2.2.1 (1:Int) (10:Int))=true then
 if(aA x0.2.2.2.1 (0:Int) (100000:Int))=true then
 if(aA x0.2.2.2.2.1 (0:Int) (100000:Int))=true then
 if(aA x0.2.2.2.2.2.1 (0:Int) (100000:Int))=true then
 if(dQ x0.2.2.2.2.2.2.1)=true then
 some ((),((dQ x0.2.2.2.2.2.2.2.1),()))
 else
 some ((),(false,()))
 else
 some ((),(false,()))
 else
 some ((),(false,()))
 else
 some ((),(false,()))
 else
 some ((),(false,()))
 else
 some ((),(false,()))
 else
 some ((),(false,()))
theorem eq(x0:fQ)(_:wf x0):aQ x0=some ((),(mX x0,())):=by
 unfold aQ mX kZ
 simp only[Za]
 split
 . rfl
 . cases aA x0.1 0 3<;>simp only[Zj,if_false,if_true,Bool.false_and,Bool.true_and]
   cases aA x0.2.1 1 100000<;>simp only[Zj,if_false,if_true,Bool.false_and,Bool.true_and]
   cases aA x0.2.2.1 1 10<;>simp only[Zj,if_false,if_true,Bool.false_and,Bool.true_and]
   cases aA x0.2.2.2.1 0 100000<;>simp only[Zj,if_false,if_true,Bool.false_and,Bool.true_and]
   cases aA x0.2.2.2.2.1 0 100000<;>simp only[Zj,if_false,if_true,Bool.false_and,Bool.true_and]
   cases aA x0.2.2.2.2.2.1 0 100000<;>simp only[Zj,if_false,if_true,Bool.false_and,Bool.true_and]
   cases dQ x0.2.2.2.2.2.2.1<;>simp only[Zj,if_false,if_true,Bool.false_and,Bool.true_and]
end mX
namespace mU
abbrev wf(x0:fQ):Prop:=iM [(.val wN .f)] (x0,())
noncomputable def aQ(x0:fQ):Option mV:=
 if(decide (x0.1=(-1:Int)))=true then
 some ((),(((decide (x0.1=(-1:Int)))&&((decide (x0.2.1=(0:Int)))&&((decide (x0.2.2.1=(0:Int)))&&((decide (x0.2.2.2.1=(0:Int)))&&((decide (x0.2.2.2.2.1=(0:Int)))&&((decide (x0.2.2.2.2.2.1=(0:Int)))&&((x0.2.2.2.2.2.2.1==([]:List UInt8))&&(x0.2.2.2.2.2.2.2.1==([]:List UInt8))))))))),()))
 else
 if(aA x0.1 (0:Int) (3:Int))=true then
 if(aA x0.2.1 (1:Int) (100000:Int))=true then
 if(aA x0.2.2.1 (1:Int) (10:Int))=true then
 if(aA x0.2.2.2.1 (0:Int) (100000:Int))=true then
 if(aA x0.2.2.2.2.1 (0:Int) (100000:Int))=true then
 if(aA x0.2.2.2.2.2.1 (0:Int) (100000:Int))=true then
 if(dQ x0.2.2.2.2.2.2.1)=true then
 some ((),((dQ x0.2.2.2.2.2.2.2.1),()))
 else
 some ((),(false,()))
 else
 some ((),(false,()))
 else
 some ((),(false,()))
 else
 some ((),(false,()))
 else
 some ((),(false,()))
 else
 some ((),(false,()))
 else
 some ((),(false,()))
theorem eq(x0:fQ)(_:wf x0):aQ x0=some ((),(mU x0,())):=by
 unfold aQ mU kZ
 simp only[Za]
 split
 . rfl
 . cases aA x0.1 0 3<;>simp only[Zj,if_false,if_true,Bool.false_and,Bool.true_and]
   cases aA x0.2.1 1 100000<;>simp only[Zj,if_false,if_true,Bool.false_and,Bool.true_and]
   cases aA x0.2.2.1 1 10<;>simp only[Zj,if_false,if_true,Bool.false_and,Bool.true_and]
   cases aA x0.2.2.2.1 0 100000<;>simp only[Zj,if_false,if_true,Bool.false_and,Bool.true_and]
   cases aA x0.2.2.2.2.1 0 100000<;>simp only[Zj,if_false,if_true,Bool.false_and,Bool.true_and]
   cases aA x0.2.2.2.2.2.1 0 100000<;>simp only[Zj,if_false,if_true,Bool.false_and,Bool.true_and]
   cases dQ x0.2.2.2.2.2.2.1<;>simp only[Zj,if_false,if_true,Bool.false_and,Bool.true_and]
end mU
section
variable {α:Type}
def lL(g:α->Bool):List α->Int->Int
 |[],_=>-1
 |a::r,i=>if g a=true then i else lL g r (i+1)
theorem aDr(g:α->Bool):(xs:List α)->(i:Int)->0<=i->-1<=lL g xs i/\(0<=lL g xs i↔xs.any g=true)
 |[],i,h=>by simp[lL]
 |a::r,i,h=>by
  simp only[lL,List.any_cons]
  by_cases ha:g a=true
  . simp[ha];omega
  . have:=aDr g r (i+1) (by omega)
    simp only[Bool.not_eq_true] at ha
    simp only[ha,Zj,if_false,Bool.false_or]
    exact this
abbrev IxS(α:Type):=List α×((α->Bool)×((α->Bool)×(Int×(Int×Unit))))
def qC:IxS α->Bool:=fun s=>decide (s.1.length<=maxLen)&&(decide (s.2.2.2.1=(s.1.length:Int))&&(decide (0<=s.2.2.2.2.1)&&(decide (s.2.2.2.2.1.toNat<=s.1.length)&&s.1.all s.2.1)))
def aA3:IxS α->(Int×Unit)⊕Unit:=fun s=>if lL s.2.2.1 (s.1.drop s.2.2.2.2.1.toNat) s.2.2.2.2.1<0 then .inr () else .inl (lL s.2.2.1 (s.1.drop s.2.2.2.2.1.toNat) s.2.2.2.2.1,())
def aDw:IxS α->Nat:=fun s=>s.1.length-s.2.2.2.2.1.toNat
theorem aAk{x1:List α}{x2 x3:α->Bool}{x4 x5:Int}(hp:qC (x1,(x2,(x3,(x4,(x5,())))))=true)(hlt:x5<x4)(d:α):
 0<=x5/\x5<(x1.length:Int)/\x2 (x1.getD x5.toNat d)=true/\(x3 (x1.getD x5.toNat d)=true->aX qC aDw aA3 (x1,(x2,(x3,(x4,(x5,()))))) (some (.inr (.inl (x5,())))))/\
  (¬x3 (x1.getD x5.toNat d)=true->aX qC aDw aA3 (x1,(x2,(x3,(x4,(x5,()))))) (some (.inl (x1,(x2,(x3,(x4,(wrap .i64 (x5+1),())))))))):=by
 simp only[qC,Zb,Za] at hp
 obtain⟨h1,rfl,h3,h4,h5⟩:=hp
 have hM:=aDe
 have hn:x5.toNat<x1.length:=by omega
 have e1:=Zn hn
 rw[dR hn]
 refine⟨h3,hlt,Zu.1 h5 _ (List.getElem_mem hn),fun he=>?_,fun he=>?_⟩
 . simp only[aX,aA3,e1,lL,he,if_true]
   rw[if_neg (by omega)]
 . simp only[aX,lN (n:=x5+1) (by omega) (by omega)]
   refine⟨?_,by simp only[aDw];omega,?_⟩
   . simp only[qC,Zb,Za]
     exact⟨h1,trivial,by omega,by omega,h5⟩
   . simp only[aA3,show(x5+1).toNat=x5.toNat+1 by omega,e1,lL,he,if_false]
     rfl
theorem aBD{x1:List α}{x2 x3:α->Bool}{x4 x5:Int}(hp:qC (x1,(x2,(x3,(x4,(x5,())))))=true)(hlt:¬x5<x4):
 aX qC aDw aA3 (x1,(x2,(x3,(x4,(x5,()))))) (some (.inr (.inr ()))):=by
 simp only[qC,Zb,Za] at hp
 obtain⟨h1,rfl,h3,h4,h5⟩:=hp
 simp only[aX,aA3]
 rw[Zt (by omega)]
 rfl
end
theorem aGF{α:Type}(f:α->Bool)(xs:List α):xs.any (fun x=>!f x)=!xs.all f:=by
 induction xs with
 |nil=>rfl
 |cons a r ih=>simp[ih,Bool.not_and]
theorem pC{n lo hi:Int}(h:aA n lo hi=true):lo<=n/\n<=hi:=by
 simpa [aA] using h
theorem aHu{w:Nat}{x:Int}(h0:0<=x)(h1:x.toNat<2^w):(BitVec.ofInt w x).toNat=x.toNat:=by
 rw[BitVec.toNat_ofInt]
 have:x%((2^w:Nat):Int)=x:=Int.emod_eq_of_lt h0 (by omega)
 rw[this]
def aKl(n:Nat):List Int:=if n<=127 then[] else((n%128+128:Nat):Int)::aKl (n/128)
termination_by n
decreasing_by omega
def aKm(n:Nat):Nat:=if n<=127 then n else aKm (n/128)
termination_by n
decreasing_by omega
def aKS(n:Nat):List Int:=aKl n++[(aKm n:Int)]
def aIB(n:Int):List Int:=if 0<=n/\n<=2147483647 then aKS n.toNat else[]
def aGp(s:List UInt8):List Int:=aIB s.length++lY s
def aKV(xs:List Int):List Int:=xs.flatMap aIB
def aE3(b:List Int):Bool:=b.all fun x=>decide (0<=x)&&decide (x<=255)
theorem aEs{b:List Int}(h:aE3 b=true){i:Nat}(hi:i<b.length):0<=b[i]/\b[i]<=255:=by
 have:=Zu.1 h _ (List.getElem_mem hi)
 simpa using this
theorem aGe{b:List Int}(h:∀(i:Nat) (x:Int),b[i]?=some x->inK .u8 x):aE3 b=true:=by
 refine Zu.2 fun x hx=>?_
 obtain⟨i,hi,rfl⟩:=List.getElem_of_mem hx
 have:=in8.1 (h i _ (Zm hi))
 simpa using this
abbrev R:=List Int×(Int×(Bool×Unit))
def dK(x:aP):Bool:=aA x.1 1 4&&(aA x.2.1 1 5&&(aA x.2.2.1 1 8&&aA x.2.2.2.1 0 60))
abbrev jL:=dK
abbrev gF:=dK
namespace jL
abbrev wf(x0:aP):Prop:=iM [(.val vY .f)] (x0,())
noncomputable def aQ(x0:aP):Option mV:=
 if(aA x0.1 (1:Int) (4:Int))=true then
 if(aA x0.2.1 (1:Int) (5:Int))=true then
 if(aA x0.2.2.1 (1:Int) (8:Int))=true then
 some ((),((aA x0.2.2.2.1 (0:Int) (60:Int)),()))
 else
 some ((),(false,()))
 else
 some ((),(false,()))
 else
 some ((),(false,()))
theorem eq(x0:aP)(_:wf x0):aQ x0=some ((),(jL x0,())):=by
 unfold aQ jL dK
 cases aA x0.1 1 4<;>cases aA x0.2.1 1 5<;>cases aA x0.2.2.1 1 8<;>simp
end jL
namespace gF
abbrev wf(x0:aP):Prop:=iM [(.val vY .f)] (x0,())
noncomputable def aQ(x0:aP):Option mV:=
 if(aA x0.1 (1:Int) (4:Int))=true then
 if(aA x0.2.1 (1:Int) (5:Int))=true then
 if(aA x0.2.2.1 (1:Int) (8:Int))=true then
 some ((),((aA x0.2.2.2.1 (0:Int) (60:Int)),()))
 else
 some ((),(false,()))
 else
 some ((),(false,()))
 else
 some ((),(false,()))
theorem eq(x0:aP)(_:wf x0):aQ x0=some ((),(gF x0,())):=by
 unfold aQ gF dK
 cases aA x0.1 1 4<;>cases aA x0.2.1 1 5<;>cases aA x0.2.2.1 1 8<;>simp
end gF
def oK(n:Int):aE:=if aA n 1 4=true then(0,([],([],(List.replicate n.toNat 0,())))) else(0,([],([],([],()))))
abbrev iC:=oK
abbrev iF:=oK
namespace iC
def pre(_:Int):Bool:=true
abbrev wf(x0:Int):Prop:=iM [(.val (.int .i64) .f)] (x0,())
noncomputable def aQ(x0:Int):Option aCw:=
 letB (aA x0 (1:Int) (4:Int)) fun v1=>
 if(!v1)=true then
 some ((),(qX,()))
 else
 if(decide ((0:Int)<=x0))=true then
 if(decide (x0<=x0))=true then
 if(decide (x0<=(4294967296:Int)))=true then
 some ((),(((0:Int),(([]:List Int),(([]:List Int),((List.replicate (Int.toNat x0) (0:Int)),())))),()))
 else
 none
 else
 none
 else
 none
theorem eq(x0:Int)(_:wf x0)(_:pre x0=true):aQ x0=some ((),(iC x0,())):=by
 unfold aQ iC oK
 simp only[letB]
 by_cases h:aA x0 1 4=true
 . have:=pC h
   rw[if_neg (by simp[h]),if_pos (by simp only[Za];omega),if_pos (by simp),if_pos (by simp only[Za];omega),if_pos h]
 . rw[if_pos (by simp[h]),if_neg h]
end iC
namespace iF
def pre(_:Int):Bool:=true
abbrev wf(x0:Int):Prop:=iM [(.val (.int .i64) .f)] (x0,())
noncomputable def aQ(x0:Int):Option aCw:=
 letB (aA x0 (1:Int) (4:Int)) fun v1=>
 if(!v1)=true then
 some ((),(qX,()))
 else
 if(decide ((0:Int)<=x0))=true then
 if(decide (x0<=x0))=true then
 if(decide (x0<=(4294967296:Int)))=true then
 some ((),(((0:Int),(([]:List Int),(([]:List Int),((List.replicate (Int.toNat x0) (0:Int)),())))),()))
 else
 none
 else
 none
 else
 none
theorem eq(x0:Int)(_:wf x0)(_:pre x0=true):aQ x0=some ((),(iF x0,())):=by
 unfold aQ iF oK
 simp only[letB]
 by_cases h:aA x0 1 4=true
 . have:=pC h
   rw[if_neg (by simp[h]),if_pos (by simp only[Za];omega),if_pos (by simp),if_pos (by simp only[Za];omega),if_pos h]
 . rw[if_pos (by simp[h]),if_neg h]
end iF
def aJE:bB:=([],([],([],(0,([],([],()))))))
def aGP(n:Int):bB:=(List.replicate n.toNat (0,(0,([],()))),([],(List.replicate 2 (oK n),(0,(List.replicate 4 0,(List.replicate 4 (0,(0,([],([],())))),()))))))
def gA(x:aP):bB:=if dK x=true then aGP x.1 else aJE
abbrev fF:=gA
abbrev fG:=gA
abbrev KnT:=Int×(Unit×((List bW)×((List aC)×((List aE)×((List Int)×((List aF)×zt6))))))
abbrev KnS:=Int×(aP×KnT)
def xE:KnS->Bool:=fun s=>decide (0<=s.1)&&decide (s.2.2.2.2.2.2.2.2.2.2.2.2.2.1.length<=s.1.toNat)
def aHm:KnS->KnT:=fun(i,x,x3,x4,x5,x6,x7,x8,x9,x10,x11,x12,x13,x14,x15,x16,_)=>
 (x3,(x4,(x5,(x6,(x7,(x8,(x9,(x10,(x11,(x12,(x13,(x14++List.replicate (2-i).toNat (oK x.1),(x15,(x16,()))))))))))))))
def aHL:KnS->Nat:=fun s=>(2-s.1).toNat
theorem aJF{x1:Int}{x2:aP}{x3:Int}{x4:Unit}{x5:List bW}{x6:List aC}{x7:List aE}{x8:List Int}{x9:List aF}{x10:Int}{x11:Unit}{x12:List bW}{x13:List aC}{x14:List aE}{x15:List Int}{x16:List aF}
 (hp:xE (x1,(x2,(x3,(x4,(x5,(x6,(x7,(x8,(x9,(x10,(x11,(x12,(x13,(x14,(x15,(x16,()))))))))))))))))=true) (hlt:x1<2):
 aX xE aHL aHm (x1,(x2,(x3,(x4,(x5,(x6,(x7,(x8,(x9,(x10,(x11,(x12,(x13,(x14,(x15,(x16,()))))))))))))))))
  (some (.inl ((wrap .i64 (x1+1)),(x2,(x3,(x4,(x5,(x6,(x7,(x8,(x9,(x10,(x11,(x12,(x13,((List.append x14 [oK x2.1]),(x15,(x16,())))))))))))))))))):=by
 simp only[xE,Zb,Za] at hp
 rw[lN (n:=x1+1) (by omega) (by omega)]
 simp only[aX]
 refine⟨?_,by simp only[aHL];omega,?_⟩
 . simp only[xE,Zb,Za,List.append_eq,Zf,Zg,Zh];omega
 . simp only[aHm,List.append_eq]
   rw[show(2-x1).toNat=(2-(x1+1)).toNat+1 by omega,List.replicate_succ,Zk];rfl
theorem aIE{x1:Int}{x2:aP}{x3:Int}{x4:Unit}{x5:List bW}{x6:List aC}{x7:List aE}{x8:List Int}{x9:List aF}{x10:Int}{x11:Unit}{x12:List bW}{x13:List aC}{x14:List aE}{x15:List Int}{x16:List aF}(hlt:¬x1<2):
 aX xE aHL aHm (x1,(x2,(x3,(x4,(x5,(x6,(x7,(x8,(x9,(x10,(x11,(x12,(x13,(x14,(x15,(x16,()))))))))))))))))
  (some (.inr (x3,(x4,(x5,(x6,(x7,(x8,(x9,(x10,(x11,(x12,(x13,(x14,(x15,(x16,())))))))))))))))):=by
 simp only[aX,aHm]
 rw[show(2-x1).toNat=0 by omega,List.replicate_zero,List.append_nil]
namespace fF
def pre(_:aP):Bool:=true
def pre5:=xE
def fn5:=aHm
def mu5:=aHL
noncomputable def rG(x1:Int)(x2:aP)(x3:Int)(x4:Unit)(x5:(List bW))(x6:(List aC))(x7:(List aE))(x8:(List Int))(x9:(List aF))(x10:Int)(x11:Unit)(x12:(List bW))(x13:(List aC))(x14:(List aE))(x15:(List Int))(x16:(List aF)):Option ((Int×(aP×xY))⊕xY):=
 if(decide (x1<(2:Int)))=true then
 if(iC.pre x2.1)=true then
 letB (oK x2.1) fun v1=>
 if(decide (length x14+length (v1::([]:List aE))<=gO))=true then
 some (.inl ((wrap .i64 (x1+(1:Int))),(x2,(x3,(x4,(x5,(x6,(x7,(x8,(x9,(x10,(x11,(x12,(x13,((List.append x14 (v1::([]:List aE))),(x15,(x16,())))))))))))))))))
 else
 none
 else
 none
 else
 some (.inr (x3,(x4,(x5,(x6,(x7,(x8,(x9,(x10,(x11,(x12,(x13,(x14,(x15,(x16,())))))))))))))))
abbrev wf(x0:aP):Prop:=iM [(.val vY .f)] (x0,())
noncomputable def aQ(x0:aP):Option (Unit×(bB×Unit)):=
 letB (dK x0) fun v1=>
 if(!v1)=true then
 some ((),((([]:List bW),(([]:List aC),(([]:List aE),((0:Int),(([]:List Int),(([]:List aF),())))))),()))
 else
 if(decide ((0:Int)<=x0.1))=true then
 if(decide (x0.1<=x0.1))=true then
 if(decide (x0.1<=(4294967296:Int)))=true then
 if(decide ((0:Int)<=(4:Int)))=true then
 if(decide ((4:Int)<=(4:Int)))=true then
 if(decide ((4:Int)<=(4294967296:Int)))=true then
 if(decide ((0:Int)<=(4:Int)))=true then
 if(decide ((4:Int)<=(4:Int)))=true then
 if(decide ((4:Int)<=(4294967296:Int)))=true then
 if(fF.pre5 ((0:Int),(x0,((0:Int),((),(([]:List bW),(([]:List aC),(([]:List aE),(([]:List Int),(([]:List aF),((0:Int),((),((List.replicate (Int.toNat x0.1) mQ),(([]:List aC),(([]:List aE),((List.replicate (Int.toNat (4:Int)) (0:Int)),((List.replicate (Int.toNat (4:Int)) ((0:Int),mP)),())))))))))))))))))=true then
 letB (fF.fn5 ((0:Int),(x0,((0:Int),((),(([]:List bW),(([]:List aC),(([]:List aE),(([]:List Int),(([]:List aF),((0:Int),((),((List.replicate (Int.toNat x0.1) mQ),(([]:List aC),(([]:List aE),((List.replicate (Int.toNat (4:Int)) (0:Int)),((List.replicate (Int.toNat (4:Int)) ((0:Int),mP)),()))))))))))))))))) fun v2=>
 some ((),((v2.2.2.2.2.2.2.2.2.2.1,(v2.2.2.2.2.2.2.2.2.2.2.1,(v2.2.2.2.2.2.2.2.2.2.2.2.1,(v2.2.2.2.2.2.2.2.1,(v2.2.2.2.2.2.2.2.2.2.2.2.2.1,(v2.2.2.2.2.2.2.2.2.2.2.2.2.2.1,v2.2.2.2.2.2.2.2.2.1)))))),()))
 else
 none
 else
 none
 else
 none
 else
 none
 else
 none
 else
 none
 else
 none
 else
 none
 else
 none
 else
 none
theorem ok5(x1:Int)(x2:aP)(x3:Int)(x4:Unit)(x5:List bW)(x6:List aC)(x7:List aE)(x8:List Int)(x9:List aF)(x10:Int)(x11:Unit)(x12:List bW)(x13:List aC)(x14:List aE)(x15:List Int)(x16:List aF)
 (hp:pre5 (x1,(x2,(x3,(x4,(x5,(x6,(x7,(x8,(x9,(x10,(x11,(x12,(x13,(x14,(x15,(x16,()))))))))))))))))=true):
 aX pre5 mu5 fn5 (x1,(x2,(x3,(x4,(x5,(x6,(x7,(x8,(x9,(x10,(x11,(x12,(x13,(x14,(x15,(x16,())))))))))))))))) (rG x1 x2 x3 x4 x5 x6 x7 x8 x9 x10 x11 x12 x13 x14 x15 x16):=by
 unfold rG
 simp only[letB]
 by_cases hlt:x1<2
 . have hp2:=hp
   simp only[pre5,xE,Zb,Za] at hp2
   rw[if_pos (by simp[hlt]),if_pos (show iC.pre _=true from rfl),if_pos (by simp only[Za,gO,Zg,Zh];omega)]
   exact aJF hp hlt
 . rw[if_neg (by simp[hlt])]
   exact aIE hlt
theorem eq(x0:aP)(_:wf x0)(_:pre x0=true):aQ x0=some ((),(fF x0,())):=by
 unfold aQ fF gA
 simp only[letB]
 by_cases h:dK x0=true
 case neg=>rw[if_pos (by simp[h]),if_neg h];rfl
 have hs:=h
 simp only[dK,Zb] at hs
 have:=pC hs.1
 rw[if_neg (by simp[h]),if_pos (by simp only[Za];omega),if_pos (by simp),if_pos (by simp only[Za];omega),if_pos (by decide),if_pos (by decide),if_pos (by decide),if_pos (by decide),if_pos (by decide),if_pos (by decide),
  if_pos (show pre5 _=true by simp[pre5,xE]),if_pos h]
 rfl
end fF
namespace fG
def pre(_:aP):Bool:=true
def pre5:=xE
def fn5:=aHm
def mu5:=aHL
noncomputable def rG(x1:Int)(x2:aP)(x3:Int)(x4:Unit)(x5:(List bW))(x6:(List aC))(x7:(List aE))(x8:(List Int))(x9:(List aF))(x10:Int)(x11:Unit)(x12:(List bW))(x13:(List aC))(x14:(List aE))(x15:(List Int))(x16:(List aF)):Option ((Int×(aP×xY))⊕xY):=
 if(decide (x1<(2:Int)))=true then
 if(iF.pre x2.1)=true then
 letB (oK x2.1) fun v1=>
 if(decide (length x14+length (v1::([]:List aE))<=gO))=true then
 some (.inl ((wrap .i64 (x1+(1:Int))),(x2,(x3,(x4,(x5,(x6,(x7,(x8,(x9,(x10,(x11,(x12,(x13,((List.append x14 (v1::([]:List aE))),(x15,(x16,())))))))))))))))))
 else
 none
 else
 none
 else
 some (.inr (x3,(x4,(x5,(x6,(x7,(x8,(x9,(x10,(x11,(x12,(x13,(x14,(x15,(x16,())))))))))))))))
abbrev wf(x0:aP):Prop:=iM [(.val vY .f)] (x0,())
noncomputable def aQ(x0:aP):Option (Unit×(bB×Unit)):=
 letB (dK x0) fun v1=>
 if(!v1)=true then
 some ((),((([]:List bW),(([]:List aC),(([]:List aE),((0:Int),(([]:List Int),(([]:List aF),())))))),()))
 else
 if(decide ((0:Int)<=x0.1))=true then
 if(decide (x0.1<=x0.1))=true then
 if(decide (x0.1<=(4294967296:Int)))=true then
 if(decide ((0:Int)<=(4:Int)))=true then
 if(decide ((4:Int)<=(4:Int)))=true then
 if(decide ((4:Int)<=(4294967296:Int)))=true then
 if(decide ((0:Int)<=(4:Int)))=true then
 if(decide ((4:Int)<=(4:Int)))=true then
 if(decide ((4:Int)<=(4294967296:Int)))=true then
 if(fG.pre5 ((0:Int),(x0,((0:Int),((),(([]:List bW),(([]:List aC),(([]:List aE),(([]:List Int),(([]:List aF),((0:Int),((),((List.replicate (Int.toNat x0.1) mQ),(([]:List aC),(([]:List aE),((List.replicate (Int.toNat (4:Int)) (0:Int)),((List.replicate (Int.toNat (4:Int)) ((0:Int),mP)),())))))))))))))))))=true then
 letB (fG.fn5 ((0:Int),(x0,((0:Int),((),(([]:List bW),(([]:List aC),(([]:List aE),(([]:List Int),(([]:List aF),((0:Int),((),((List.replicate (Int.toNat x0.1) mQ),(([]:List aC),(([]:List aE),((List.replicate (Int.toNat (4:Int)) (0:Int)),((List.replicate (Int.toNat (4:Int)) ((0:Int),mP)),()))))))))))))))))) fun v2=>
 some ((),((v2.2.2.2.2.2.2.2.2.2.1,(v2.2.2.2.2.2.2.2.2.2.2.1,(v2.2.2.2.2.2.2.2.2.2.2.2.1,(v2.2.2.2.2.2.2.2.1,(v2.2.2.2.2.2.2.2.2.2.2.2.2.1,(v2.2.2.2.2.2.2.2.2.2.2.2.2.2.1,v2.2.2.2.2.2.2.2.2.1)))))),()))
 else
 none
 else
 none
 else
 none
 else
 none
 else
 none
 else
 none
 else
 none
 else
 none
 else
 none
 else
 none
theorem ok5(x1:Int)(x2:aP)(x3:Int)(x4:Unit)(x5:List bW)(x6:List aC)(x7:List aE)(x8:List Int)(x9:List aF)(x10:Int)(x11:Unit)(x12:List bW)(x13:List aC)(x14:List aE)(x15:List Int)(x16:List aF)
 (hp:pre5 (x1,(x2,(x3,(x4,(x5,(x6,(x7,(x8,(x9,(x10,(x11,(x12,(x13,(x14,(x15,(x16,()))))))))))))))))=true):
 aX pre5 mu5 fn5 (x1,(x2,(x3,(x4,(x5,(x6,(x7,(x8,(x9,(x10,(x11,(x12,(x13,(x14,(x15,(x16,())))))))))))))))) (rG x1 x2 x3 x4 x5 x6 x7 x8 x9 x10 x11 x12 x13 x14 x15 x16):=by
 unfold rG
 simp only[letB]
 by_cases hlt:x1<2
 . have hp2:=hp
   simp only[pre5,xE,Zb,Za] at hp2
   rw[if_pos (by simp[hlt]),if_pos (show iF.pre _=true from rfl),if_pos (by simp only[Za,gO,Zg,Zh];omega)]
   exact aJF hp hlt
 . rw[if_neg (by simp[hlt])]
   exact aIE hlt
theorem eq(x0:aP)(_:wf x0)(_:pre x0=true):aQ x0=some ((),(fG x0,())):=by
 unfold aQ fG gA
 simp only[letB]
 by_cases h:dK x0=true
 case neg=>rw[if_pos (by simp[h]),if_neg h];rfl
 have hs:=h
 simp only[dK,Zb] at hs
 have:=pC hs.1
 rw[if_neg (by simp[h]),if_pos (by simp only[Za];omega),if_pos (by simp),if_pos (by simp only[Za];omega),if_pos (by decide),if_pos (by decide),if_pos (by decide),if_pos (by decide),if_pos (by decide),if_pos (by decide),
  if_pos (show pre5 _=true by simp[pre5,xE]),if_pos h]
 rfl
end fG
section
variable {S O:Type} {pre:S->Bool} {mu:S->Nat} {fn:S->O} {s:S}
theorem bU{c:Prop}[Decidable c]{A B:Option (S⊕O)}(h:c)(r:aX pre mu fn s A):aX pre mu fn s (if c then A else B):=by rw[if_pos h];exact r
theorem dJ{c:Prop}[Decidable c]{A B:Option (S⊕O)}(h:¬c)(r:aX pre mu fn s B):aX pre mu fn s (if c then A else B):=by rw[if_neg h];exact r
theorem tO{α:Type}{a:α}{f:α->Option (S⊕O)}(r:aX pre mu fn s (f a)):aX pre mu fn s (letB a f):=r
end
section
variable {α β:Type}
theorem bO{c:Prop}[Decidable c]{A B:Option α}{v:Option α}(h:c)(r:A=v):(if c then A else B)=v:=by rw[if_pos h];exact r
theorem dC{c:Prop}[Decidable c]{A B:Option α}{v:Option α}(h:¬c)(r:B=v):(if c then A else B)=v:=by rw[if_neg h];exact r
theorem eK{a:β}{f:β->Option α}{v:Option α}(r:f a=v):letB a f=v:=r
def qA(q:α->Bool)(xs:List α)(n i:Int)(out:List α):Bool:=bQ xs&&(xs.all q&&(decide (n=(xs.length:Int))&&(decide (0<=i)&&(decide (i<=(xs.length:Int))&&decide ((out.length:Int)<=i)))))
theorem xU{q:α->Bool}{xs:List α}{n i:Int}{out:List α}:qA q xs n i out=true↔xs.length<=16777216/\xs.all q=true/\n=(xs.length:Int)/\0<=i/\i<=(xs.length:Int)/\(out.length:Int)<=i:=by
 simp only[qA,Zb,Za,bJ]
theorem xG{q:α->Bool}{xs:List α}{n i:Int}{out:List α}(d:α)(hp:qA q xs n i out=true)(hlt:i<n):
 q (xs.getD i.toNat d)=true/\0<=i/\i<(xs.length:Int)/\out.length+length (xs.getD i.toNat d::([]:List α))<=gO/\wrap .i64 (i+1)=i+1/\
  qA q xs n (i+1) (out++[xs.getD i.toNat d])=true/\(out++[xs.getD i.toNat d])++xs.drop (i+1).toNat=out++xs.drop i.toNat/\xs.length-(i+1).toNat<xs.length-i.toNat:=by
 obtain⟨h1,h2,h3,h4,h5,h6⟩:=xU.1 hp
 have hn:i.toNat<xs.length:=by omega
 have e1:=Zn hn
 rw[dR hn]
 refine⟨Zu.1 h2 _ (List.getElem_mem _),h4,by omega,by simp only[Zg,Zh,gO];omega,lN (by omega) (by omega),?_,?_,by omega⟩
 . rw[xU]
   exact⟨h1,h2,h3,by omega,by omega,by simp only[Zf,Zg,Zh];omega⟩
 . rw[show(i+1).toNat=i.toNat+1 by omega,e1,Zk];rfl
theorem aAr{q:α->Bool}{xs:List α}{n i:Int}{out:List α}(hp:qA q xs n i out=true)(hlt:¬i<n):out++xs.drop i.toNat=out:=by
 obtain⟨h1,h2,h3,h4,h5,h6⟩:=xU.1 hp
 rw[Zt (by omega),List.append_nil]
theorem tL{q:α->Bool}{xs:List α}(h:bQ xs=true)(ha:xs.all q=true):qA q xs ((length xs:Nat):Int) 0 []=true:=by
 rw[xU];rw[bJ] at h
 exact⟨h,ha,rfl,by omega,by omega,by simp⟩
theorem rZ{xs:List α}(h:bQ xs=true):([]:List β).length+xs.length<=gO:=by
 rw[bJ] at h;simp only[Zh,gO];omega
end
def bA(x:bW):bW:=x
namespace bA
def pre(x:bW):Bool:=bQ x.2.2.1
abbrev wf(x0:bW):Prop:=iM [(.val tK .f)] (x0,())
noncomputable def aQ(x0:bW):Option (Unit×(bW×Unit)):=
 if(decide (length ([]:List aV)+length x0.2.2.1<=gO))=true then
 some ((),((x0.1,(x0.2.1,((List.append ([]:List aV) x0.2.2.1),x0.2.2.2))),()))
 else
 none
theorem eq(x0:bW)(_:wf x0)(hp:pre x0=true):aQ x0=some ((),(bA x0,())):=by
 unfold aQ
 have hp:bQ x0.2.2.1=true:=hp
 refine bO (Zd (rZ hp)) ?_
 rfl
end bA
def bK(x:bW):bW:=x
namespace bK
def pre(x:bW):Bool:=bQ x.2.2.1
abbrev wf(x0:bW):Prop:=iM [(.val tK .f)] (x0,())
noncomputable def aQ(x0:bW):Option (Unit×(bW×Unit)):=
 if(decide (length ([]:List aV)+length x0.2.2.1<=gO))=true then
 some ((),((x0.1,(x0.2.1,((List.append ([]:List aV) x0.2.2.1),()))),()))
 else
 none
theorem eq(x0:bW)(_:wf x0)(hp:pre x0=true):aQ x0=some ((),(bK x0,())):=by
 unfold aQ
 have hp:bQ x0.2.2.1=true:=hp
 refine bO (Zd (rZ hp)) ?_
 rfl
end bK
def aR(x:aC):aC:=x
namespace aR
def pre(x:aC):Bool:=bQ x.2.2.2.2.1
abbrev wf(x0:aC):Prop:=iM [(.val wQ .f)] (x0,())
noncomputable def aQ(x0:aC):Option (Unit×(aC×Unit)):=
 if(decide (length ([]:List bS)+length x0.2.2.2.2.1<=gO))=true then
 some ((),((x0.1,(x0.2.1,(x0.2.2.1,(x0.2.2.2.1,((List.append ([]:List bS) x0.2.2.2.2.1),x0.2.2.2.2.2))))),()))
 else
 none
theorem eq(x0:aC)(_:wf x0)(hp:pre x0=true):aQ x0=some ((),(aR x0,())):=by
 unfold aQ
 have hp:bQ x0.2.2.2.2.1=true:=hp
 refine bO (Zd (rZ hp)) ?_
 rfl
end aR
def aM(x:aC):aC:=x
namespace aM
def pre(x:aC):Bool:=bQ x.2.2.2.2.1
abbrev wf(x0:aC):Prop:=iM [(.val wQ .f)] (x0,())
noncomputable def aQ(x0:aC):Option (Unit×(aC×Unit)):=
 if(decide (length ([]:List bS)+length x0.2.2.2.2.1<=gO))=true then
 some ((),((x0.1,(x0.2.1,(x0.2.2.1,(x0.2.2.2.1,((List.append ([]:List bS) x0.2.2.2.2.1),x0.2.2.2.2.2))))),()))
 else
 none
theorem eq(x0:aC)(_:wf x0)(hp:pre x0=true):aQ x0=some ((),(aM x0,())):=by
 unfold aQ
 have hp:bQ x0.2.2.2.2.1=true:=hp
 refine bO (Zd (rZ hp)) ?_
 rfl
end aM
def dO(x:List Int):List Int:=x
namespace dO
def pre(x:List Int):Bool:=bQ x
abbrev wf(x0:(List Int)):Prop:=iM [(.val (.sl 0 (.int .i64)) .f)] (x0,())
noncomputable def aQ(x0:(List Int)):Option (Unit×((List Int)×Unit)):=
 if(decide (length ([]:List Int)+length x0<=gO))=true then
 some ((),((List.append ([]:List Int) x0),()))
 else
 none
theorem eq(x0:List Int)(_:wf x0)(hp:pre x0=true):aQ x0=some ((),(dO x0,())):=by
 unfold aQ
 refine bO (Zd (rZ hp)) ?_
 rfl
end dO
def gC(x:aE):Bool:=bQ x.2.1&&(bQ x.2.2.1&&bQ x.2.2.2.1)
def aS(x:aE):aE:=x
namespace aS
def pre(x:aE):Bool:=gC x
abbrev wf(x0:aE):Prop:=iM [(.val zk9 .f)] (x0,())
noncomputable def aQ(x0:aE):Option aCw:=
 if(dO.pre x0.2.1)=true then
 if(dO.pre x0.2.2.1)=true then
 if(dO.pre x0.2.2.2.1)=true then
 letB (dO x0.2.1) fun v1=>
 letB (dO x0.2.2.1) fun v2=>
 letB (dO x0.2.2.2.1) fun v3=>
 some ((),((x0.1,(v1,(v2,(v3,x0.2.2.2.2)))),()))
 else
 none
 else
 none
 else
 none
theorem eq(x0:aE)(_:wf x0)(hp:pre x0=true):aQ x0=some ((),(aS x0,())):=by
 simp only[pre,gC,Zb] at hp
 unfold aQ
 refine bO hp.1 (bO hp.2.1 (bO hp.2.2 ?_))
 rfl
end aS
def aU(x:aE):aE:=x
namespace aU
def pre(x:aE):Bool:=gC x
abbrev wf(x0:aE):Prop:=iM [(.val zk9 .f)] (x0,())
noncomputable def aQ(x0:aE):Option aCw:=
 if(decide (length ([]:List Int)+length x0.2.1<=gO))=true then
 if(decide (length ([]:List Int)+length x0.2.2.1<=gO))=true then
 if(decide (length ([]:List Int)+length x0.2.2.2.1<=gO))=true then
 some ((),((x0.1,((List.append ([]:List Int) x0.2.1),((List.append ([]:List Int) x0.2.2.1),((List.append ([]:List Int) x0.2.2.2.1),())))),()))
 else
 none
 else
 none
 else
 none
theorem eq(x0:aE)(_:wf x0)(hp:pre x0=true):aQ x0=some ((),(aU x0,())):=by
 simp only[pre,gC,Zb] at hp
 unfold aQ
 refine bO (Zd (rZ hp.1)) (bO (Zd (rZ hp.2.1)) (bO (Zd (rZ hp.2.2)) ?_))
 rfl
end aU
def cK(x:List aC):List aC:=x
namespace cK
abbrev S3:Type:=((List aC)×(Int×(Int×yK)))
abbrev O3:Type:=yK
def pre(x:List aC):Bool:=bQ x&&x.all aR.pre
def pre3:S3->Bool:=fun(x1,x2,x3,x4,_)=>qA aR.pre x1 x2 x3 x4
def fn3:S3->O3:=fun(x1,_,x3,x4,_)=>(x4++x1.drop x3.toNat,())
def mu3:S3->Nat:=fun(x1,_,x3,_,_)=>x1.length-x3.toNat
noncomputable def aAh(x1:(List aC))(x2:Int)(x3:Int)(x4:(List aC)):Option (((List aC)×(Int×(Int×yK)))⊕yK):=
 if(decide (x3<x2))=true then
 if(decide ((0:Int)<=x3))=true then
 if(decide (x3<((length x1:Nat):Int)))=true then
 if(aR.pre (List.getD x1 (Int.toNat x3) kK))=true then
 letB (aR (List.getD x1 (Int.toNat x3) kK)) fun v1=>
 if(decide (length x4+length (v1::([]:List aC))<=gO))=true then
 some (.inl (x1,(x2,((wrap .i64 (x3+(1:Int))),((List.append x4 (v1::([]:List aC))),())))))
 else
 none
 else
 none
 else
 none
 else
 none
 else
 some (.inr (x4,()))
abbrev wf(x0:(List aC)):Prop:=iM [(.val (.sl 0 wQ) .f)] (x0,())
noncomputable def aQ(x0:(List aC)):Option (Unit×yK):=
 if(cK.pre3 (x0,(((length x0:Nat):Int),((0:Int),(([]:List aC),())))))=true then
 letB (cK.fn3 (x0,(((length x0:Nat):Int),((0:Int),(([]:List aC),()))))) fun v1=>
 some ((),v1)
 else
 none
theorem ok3(x1 x2 x3 x4)(hp:pre3 (x1,(x2,(x3,(x4,()))))=true):aX pre3 mu3 fn3 (x1,(x2,(x3,(x4,())))) (aAh x1 x2 x3 x4):=by
 have hp:qA aR.pre x1 x2 x3 x4=true:=hp
 unfold aAh
 by_cases hlt:x3<x2
 . obtain⟨hq,h0,h1,h2,h3,h4,h5,h6⟩:=xG kK hp hlt
   rw[h3]
   refine bU (Zd hlt) ?_
   refine bU (Zd h0) ?_
   refine bU (Zd h1) ?_
   refine bU hq ?_
   refine tO ?_
   refine bU (Zd h2) ?_
   exact⟨h4,h6,congrArg (fun z:List aC=>((z,()):O3)) h5⟩
 . refine dJ (by rw[Za];exact hlt) ?_
   show _=_
   exact congrArg (fun z:List aC=>((z,()):O3)) (aAr hp hlt).symm
theorem eq(x0:List aC)(_:wf x0)(hp:pre x0=true):aQ x0=some ((),(cK x0,())):=by
 simp only[pre,Zb] at hp
 unfold aQ
 exact bO (show pre3 _=true from tL hp.1 hp.2) rfl
end cK
def dU(x:bB):bB:=x
namespace dU
abbrev S4:Type:=((List aE)×((List bW)×(Int×(Int×aEM))))
abbrev O4:Type:=((List aE)×aEM)
abbrev S9:Type:=((List aE)×(Int×(Int×aEM)))
abbrev O9:Type:=aEM
def pre(x:bB):Bool:=bQ x.1&&(x.1.all bA.pre&&(bQ x.2.1&&(x.2.1.all aR.pre&&(bQ x.2.2.1&&(x.2.2.1.all aS.pre&&(bQ x.2.2.2.2.1&&bQ x.2.2.2.2.2.1))))))
def pre4:S4->Bool:=fun(_,x2,x3,x4,_,_,x7,_,_,_,_,_,_,_,_,_)=>qA bA.pre x2 x3 x4 x7
def fn4:S4->O4:=fun(x1,x2,_,x4,x5,x6,x7,x8,x9,x10,x11,x12,x13,x14,x15,_)=>(x1,(x5,(x6,(x7++x2.drop x4.toNat,(x8,(x9,(x10,(x11,(x12,(x13,(x14,(x15,()))))))))))))
def kU:S4->Nat:=fun(_,x2,_,x4,_,_,_,_,_,_,_,_,_,_,_,_)=>x2.length-x4.toNat
def pre9:S9->Bool:=fun(x1,x2,x3,_,_,_,x7,_,_,_,_,_,_,_,_)=>qA aS.pre x1 x2 x3 x7
def fn9:S9->O9:=fun(x1,_,x3,x4,x5,x6,x7,x8,x9,x10,x11,x12,x13,x14,_)=>(x4,(x5,(x6,(x7++x1.drop x3.toNat,(x8,(x9,(x10,(x11,(x12,(x13,(x14,())))))))))))
def mu9:S9->Nat:=fun(x1,_,x3,_,_,_,_,_,_,_,_,_,_,_,_)=>x1.length-x3.toNat
noncomputable def eO(x1:(List aE))(x2:(List bW))(x3:Int)(x4:Int)(x5:(List aC))(x6:(Int×((List Int)×((List aF)×Unit))))(x7:(List bW))(x8:(List aE))(x9:Int)(x10:Unit)(x11:(List bW))(x12:(List aC))(x13:(List aE))(x14:(List Int))(x15:(List aF)):Option (((List aE)×((List bW)×(Int×(Int×aEM))))⊕((List aE)×aEM)):=
 if(decide (x4<x3))=true then
 if(decide ((0:Int)<=x4))=true then
 if(decide (x4<((length x2:Nat):Int)))=true then
 if(bA.pre (List.getD x2 (Int.toNat x4) mQ))=true then
 letB (bA (List.getD x2 (Int.toNat x4) mQ)) fun v1=>
 if(decide (length x7+length (v1::([]:List bW))<=gO))=true then
 some (.inl (x1,(x2,(x3,((wrap .i64 (x4+(1:Int))),(x5,(x6,((List.append x7 (v1::([]:List bW))),(x8,(x9,(x10,(x11,(x12,(x13,(x14,(x15,()))))))))))))))))
 else
 none
 else
 none
 else
 none
 else
 none
 else
 some (.inr (x1,(x5,(x6,(x7,(x8,(x9,(x10,(x11,(x12,(x13,(x14,(x15,())))))))))))))
noncomputable def aCh(x1:(List aE))(x2:Int)(x3:Int)(x4:(List aC))(x5:(Int×((List Int)×((List aF)×Unit))))(x6:(List bW))(x7:(List aE))(x8:Int)(x9:Unit)(x10:(List bW))(x11:(List aC))(x12:(List aE))(x13:(List Int))(x14:(List aF)):Option (((List aE)×(Int×(Int×aEM)))⊕aEM):=
 if(decide (x3<x2))=true then
 if(decide ((0:Int)<=x3))=true then
 if(decide (x3<((length x1:Nat):Int)))=true then
 if(aS.pre (List.getD x1 (Int.toNat x3) qX))=true then
 letB (aS (List.getD x1 (Int.toNat x3) qX)) fun v1=>
 if(decide (length x7+length (v1::([]:List aE))<=gO))=true then
 some (.inl (x1,(x2,((wrap .i64 (x3+(1:Int))),(x4,(x5,(x6,((List.append x7 (v1::([]:List aE))),(x8,(x9,(x10,(x11,(x12,(x13,(x14,())))))))))))))))
 else
 none
 else
 none
 else
 none
 else
 none
 else
 some (.inr (x4,(x5,(x6,(x7,(x8,(x9,(x10,(x11,(x12,(x13,(x14,()))))))))))))
abbrev wf(x0:bB):Prop:=iM [(.val zk1 .f)] (x0,())
noncomputable def aQ(x0:bB):Option (Unit×(bB×Unit)):=
 if(dU.pre4 (x0.2.2.1,(x0.1,(((length x0.1:Nat):Int),((0:Int),(x0.2.1,(x0.2.2.2,(([]:List bW),(([]:List aE),((0:Int),((),(([]:List bW),(([]:List aC),(([]:List aE),(([]:List Int),(([]:List aF),()))))))))))))))))=true then
 letB (dU.fn4 (x0.2.2.1,(x0.1,(((length x0.1:Nat):Int),((0:Int),(x0.2.1,(x0.2.2.2,(([]:List bW),(([]:List aE),((0:Int),((),(([]:List bW),(([]:List aC),(([]:List aE),(([]:List Int),(([]:List aF),())))))))))))))))) fun v1=>
 if(dU.pre9 (v1.1,(((length v1.1:Nat):Int),((0:Int),v1.2))))=true then
 letB (dU.fn9 (v1.1,(((length v1.1:Nat):Int),((0:Int),v1.2)))) fun v2=>
 if(cK.pre v2.1)=true then
 if(dO.pre v2.2.1.2.1)=true then
 if(decide (length ([]:List aF)+length v2.2.1.2.2.1<=gO))=true then
 letB (cK v2.1) fun v3=>
 letB (dO v2.2.1.2.1) fun v4=>
 some ((),((v2.2.2.1,(v3,(v2.2.2.2.1,(v2.2.1.1,(v4,((List.append ([]:List aF) v2.2.1.2.2.1),v2.2.1.2.2.2)))))),()))
 else
 none
 else
 none
 else
 none
 else
 none
 else
 none
theorem vZ(x1 x2 x3 x4 x5 x6 x7 x8 x9 x10 x11 x12 x13 x14 x15)(hp:pre4 (x1,(x2,(x3,(x4,(x5,(x6,(x7,(x8,(x9,(x10,(x11,(x12,(x13,(x14,(x15,())))))))))))))))=true):aX pre4 kU fn4 (x1,(x2,(x3,(x4,(x5,(x6,(x7,(x8,(x9,(x10,(x11,(x12,(x13,(x14,(x15,()))))))))))))))) (eO x1 x2 x3 x4 x5 x6 x7 x8 x9 x10 x11 x12 x13 x14 x15):=by
 have hp:qA bA.pre x2 x3 x4 x7=true:=hp
 unfold eO
 by_cases hlt:x4<x3
 . obtain⟨hq,h0,h1,h2,h3,h4,h5,h6⟩:=xG mQ hp hlt
   rw[h3]
   refine bU (Zd hlt) ?_
   refine bU (Zd h0) ?_
   refine bU (Zd h1) ?_
   refine bU hq ?_
   refine tO ?_
   refine bU (Zd h2) ?_
   exact⟨h4,h6,congrArg (fun z:List bW=>((x1,(x5,(x6,(z,(x8,(x9,(x10,(x11,(x12,(x13,(x14,(x15,())))))))))))):O4)) h5⟩
 . refine dJ (by rw[Za];exact hlt) ?_
   show _=_
   exact congrArg (fun z:List bW=>((x1,(x5,(x6,(z,(x8,(x9,(x10,(x11,(x12,(x13,(x14,(x15,())))))))))))):O4)) (aAr hp hlt).symm
theorem ok9(x1 x2 x3 x4 x5 x6 x7 x8 x9 x10 x11 x12 x13 x14)(hp:pre9 (x1,(x2,(x3,(x4,(x5,(x6,(x7,(x8,(x9,(x10,(x11,(x12,(x13,(x14,()))))))))))))))=true):aX pre9 mu9 fn9 (x1,(x2,(x3,(x4,(x5,(x6,(x7,(x8,(x9,(x10,(x11,(x12,(x13,(x14,())))))))))))))) (aCh x1 x2 x3 x4 x5 x6 x7 x8 x9 x10 x11 x12 x13 x14):=by
 have hp:qA aS.pre x1 x2 x3 x7=true:=hp
 unfold aCh
 by_cases hlt:x3<x2
 . obtain⟨hq,h0,h1,h2,h3,h4,h5,h6⟩:=xG qX hp hlt
   rw[h3]
   refine bU (Zd hlt) ?_
   refine bU (Zd h0) ?_
   refine bU (Zd h1) ?_
   refine bU hq ?_
   refine tO ?_
   refine bU (Zd h2) ?_
   exact⟨h4,h6,congrArg (fun z:List aE=>((x4,(x5,(x6,(z,(x8,(x9,(x10,(x11,(x12,(x13,(x14,()))))))))))):O9)) h5⟩
 . refine dJ (by rw[Za];exact hlt) ?_
   show _=_
   exact congrArg (fun z:List aE=>((x4,(x5,(x6,(z,(x8,(x9,(x10,(x11,(x12,(x13,(x14,()))))))))))):O9)) (aAr hp hlt).symm
theorem eq(x0:bB)(_:wf x0)(hp:pre x0=true):aQ x0=some ((),(dU x0,())):=by
 simp only[pre,Zb] at hp
 obtain⟨a1,a2,a3,a4,a5,a6,a7,a8⟩:=hp
 unfold aQ
 refine bO (show pre4 _=true from tL a1 a2) (eK ?_)
 refine bO (show pre9 _=true from tL a5 a6) (eK ?_)
 refine bO (show cK.pre x0.2.1=true by rw[cK.pre,a3,a4];rfl) ?_
 refine bO (show dO.pre x0.2.2.2.2.1=true from a7) ?_
 exact bO (Zd (rZ a8)) rfl
end dU
def eB(x:bB):bB:=x
namespace eB
abbrev S3:Type:=(Int×(bB×xY))
abbrev O3:Type:=(bB×xY)
abbrev S7:Type:=(Int×(bB×xY))
abbrev O7:Type:=(bB×xY)
abbrev S11:Type:=(Int×(bB×xY))
abbrev O11:Type:=xY
def pre(x:bB):Bool:=bQ x.1&&(x.1.all bK.pre&&(bQ x.2.1&&(x.2.1.all aM.pre&&(bQ x.2.2.1&&(x.2.2.1.all aU.pre&&(bQ x.2.2.2.2.1&&bQ x.2.2.2.2.2.1))))))
def pre3:S3->Bool:=fun(x1,x2,_,_,_,_,_,_,_,_,_,x12,_,_,_,_,_)=>qA bK.pre x2.1 ((length x2.1:Nat):Int) x1 x12
def fn3:S3->O3:=fun(x1,x2,x3,x4,x5,x6,x7,x8,x9,x10,x11,x12,x13,x14,x15,x16,_)=>(x2,(x3,(x4,(x5,(x6,(x7,(x8,(x9,(x10,(x11,(x12++x2.1.drop x1.toNat,(x13,(x14,(x15,(x16,())))))))))))))))
def mu3:S3->Nat:=fun(x1,x2,_,_,_,_,_,_,_,_,_,_,_,_,_,_,_)=>x2.1.length-x1.toNat
def pre7:S7->Bool:=fun(x1,x2,_,_,_,_,_,_,_,_,_,_,x13,_,_,_,_)=>qA aM.pre x2.2.1 ((length x2.2.1:Nat):Int) x1 x13
def fn7:S7->O7:=fun(x1,x2,x3,x4,x5,x6,x7,x8,x9,x10,x11,x12,x13,x14,x15,x16,_)=>(x2,(x3,(x4,(x5,(x6,(x7,(x8,(x9,(x10,(x11,(x12,(x13++x2.2.1.drop x1.toNat,(x14,(x15,(x16,())))))))))))))))
def mu7:S7->Nat:=fun(x1,x2,_,_,_,_,_,_,_,_,_,_,_,_,_,_,_)=>x2.2.1.length-x1.toNat
def pre11:S11->Bool:=fun(x1,x2,_,_,_,_,_,_,_,_,_,_,_,x14,_,_,_)=>qA aU.pre x2.2.2.1 ((length x2.2.2.1:Nat):Int) x1 x14
def fn11:S11->O11:=fun(x1,x2,x3,x4,x5,x6,x7,x8,x9,x10,x11,x12,x13,x14,x15,x16,_)=>(x3,(x4,(x5,(x6,(x7,(x8,(x9,(x10,(x11,(x12,(x13,(x14++x2.2.2.1.drop x1.toNat,(x15,(x16,()))))))))))))))
def aCR:S11->Nat:=fun(x1,x2,_,_,_,_,_,_,_,_,_,_,_,_,_,_,_)=>x2.2.2.1.length-x1.toNat
noncomputable def aAh(x1:Int)(x2:bB)(x3:Int)(x4:Unit)(x5:(List bW))(x6:(List aC))(x7:(List aE))(x8:(List Int))(x9:(List aF))(x10:Int)(x11:Unit)(x12:(List bW))(x13:(List aC))(x14:(List aE))(x15:(List Int))(x16:(List aF)):Option ((Int×(bB×xY))⊕(bB×xY)):=
 if(decide (x1<((length x2.1:Nat):Int)))=true then
 if(decide ((0:Int)<=x1))=true then
 if(decide (x1<((length x2.1:Nat):Int)))=true then
 if(bK.pre (List.getD x2.1 (Int.toNat x1) mQ))=true then
 letB (bK (List.getD x2.1 (Int.toNat x1) mQ)) fun v1=>
 if(decide (length x12+length (v1::([]:List bW))<=gO))=true then
 some (.inl ((wrap .i64 (x1+(1:Int))),(x2,(x3,(x4,(x5,(x6,(x7,(x8,(x9,(x10,(x11,((List.append x12 (v1::([]:List bW))),(x13,(x14,(x15,(x16,())))))))))))))))))
 else
 none
 else
 none
 else
 none
 else
 none
 else
 some (.inr (x2,(x3,(x4,(x5,(x6,(x7,(x8,(x9,(x10,(x11,(x12,(x13,(x14,(x15,(x16,()))))))))))))))))
noncomputable def aJT(x1:Int)(x2:bB)(x3:Int)(x4:Unit)(x5:(List bW))(x6:(List aC))(x7:(List aE))(x8:(List Int))(x9:(List aF))(x10:Int)(x11:Unit)(x12:(List bW))(x13:(List aC))(x14:(List aE))(x15:(List Int))(x16:(List aF)):Option ((Int×(bB×xY))⊕(bB×xY)):=
 if(decide (x1<((length x2.2.1:Nat):Int)))=true then
 if(decide ((0:Int)<=x1))=true then
 if(decide (x1<((length x2.2.1:Nat):Int)))=true then
 if(aM.pre (List.getD x2.2.1 (Int.toNat x1) kK))=true then
 letB (aM (List.getD x2.2.1 (Int.toNat x1) kK)) fun v1=>
 if(decide (length x13+length (v1::([]:List aC))<=gO))=true then
 some (.inl ((wrap .i64 (x1+(1:Int))),(x2,(x3,(x4,(x5,(x6,(x7,(x8,(x9,(x10,(x11,(x12,((List.append x13 (v1::([]:List aC))),(x14,(x15,(x16,())))))))))))))))))
 else
 none
 else
 none
 else
 none
 else
 none
 else
 some (.inr (x2,(x3,(x4,(x5,(x6,(x7,(x8,(x9,(x10,(x11,(x12,(x13,(x14,(x15,(x16,()))))))))))))))))
noncomputable def wO(x1:Int)(x2:bB)(x3:Int)(x4:Unit)(x5:(List bW))(x6:(List aC))(x7:(List aE))(x8:(List Int))(x9:(List aF))(x10:Int)(x11:Unit)(x12:(List bW))(x13:(List aC))(x14:(List aE))(x15:(List Int))(x16:(List aF)):Option ((Int×(bB×xY))⊕xY):=
 if(decide (x1<((length x2.2.2.1:Nat):Int)))=true then
 if(decide ((0:Int)<=x1))=true then
 if(decide (x1<((length x2.2.2.1:Nat):Int)))=true then
 if(aU.pre (List.getD x2.2.2.1 (Int.toNat x1) qX))=true then
 letB (aU (List.getD x2.2.2.1 (Int.toNat x1) qX)) fun v1=>
 if(decide (length x14+length (v1::([]:List aE))<=gO))=true then
 some (.inl ((wrap .i64 (x1+(1:Int))),(x2,(x3,(x4,(x5,(x6,(x7,(x8,(x9,(x10,(x11,(x12,(x13,((List.append x14 (v1::([]:List aE))),(x15,(x16,())))))))))))))))))
 else
 none
 else
 none
 else
 none
 else
 none
 else
 some (.inr (x3,(x4,(x5,(x6,(x7,(x8,(x9,(x10,(x11,(x12,(x13,(x14,(x15,(x16,())))))))))))))))
abbrev wf(x0:bB):Prop:=iM [(.val zk1 .f)] (x0,())
noncomputable def aQ(x0:bB):Option (Unit×(bB×Unit)):=
 if(decide (length ([]:List Int)+length x0.2.2.2.2.1<=gO))=true then
 if(decide (length ([]:List aF)+length x0.2.2.2.2.2.1<=gO))=true then
 if(eB.pre3 ((0:Int),(x0,((0:Int),((),(([]:List bW),(([]:List aC),(([]:List aE),(([]:List Int),(([]:List aF),(x0.2.2.2.1,((),(([]:List bW),(([]:List aC),(([]:List aE),((List.append ([]:List Int) x0.2.2.2.2.1),((List.append ([]:List aF) x0.2.2.2.2.2.1),())))))))))))))))))=true then
 letB (eB.fn3 ((0:Int),(x0,((0:Int),((),(([]:List bW),(([]:List aC),(([]:List aE),(([]:List Int),(([]:List aF),(x0.2.2.2.1,((),(([]:List bW),(([]:List aC),(([]:List aE),((List.append ([]:List Int) x0.2.2.2.2.1),((List.append ([]:List aF) x0.2.2.2.2.2.1),()))))))))))))))))) fun v1=>
 if(eB.pre7 ((0:Int),v1))=true then
 letB (eB.fn7 ((0:Int),v1)) fun v2=>
 if(eB.pre11 ((0:Int),v2))=true then
 letB (eB.fn11 ((0:Int),v2)) fun v3=>
 some ((),((v3.2.2.2.2.2.2.2.2.2.1,(v3.2.2.2.2.2.2.2.2.2.2.1,(v3.2.2.2.2.2.2.2.2.2.2.2.1,(v3.2.2.2.2.2.2.2.1,(v3.2.2.2.2.2.2.2.2.2.2.2.2.1,(v3.2.2.2.2.2.2.2.2.2.2.2.2.2.1,v3.2.2.2.2.2.2.2.2.1)))))),()))
 else
 none
 else
 none
 else
 none
 else
 none
 else
 none
theorem ok3(x1 x2 x3 x4 x5 x6 x7 x8 x9 x10 x11 x12 x13 x14 x15 x16)(hp:pre3 (x1,(x2,(x3,(x4,(x5,(x6,(x7,(x8,(x9,(x10,(x11,(x12,(x13,(x14,(x15,(x16,()))))))))))))))))=true):aX pre3 mu3 fn3 (x1,(x2,(x3,(x4,(x5,(x6,(x7,(x8,(x9,(x10,(x11,(x12,(x13,(x14,(x15,(x16,())))))))))))))))) (aAh x1 x2 x3 x4 x5 x6 x7 x8 x9 x10 x11 x12 x13 x14 x15 x16):=by
 have hp:qA bK.pre x2.1 ((length x2.1:Nat):Int) x1 x12=true:=hp
 unfold aAh
 by_cases hlt:x1<((length x2.1:Nat):Int)
 . obtain⟨hq,h0,h1,h2,h3,h4,h5,h6⟩:=xG mQ hp hlt
   rw[h3]
   refine bU (Zd hlt) ?_
   refine bU (Zd h0) ?_
   refine bU (Zd h1) ?_
   refine bU hq ?_
   refine tO ?_
   refine bU (Zd h2) ?_
   exact⟨h4,h6,congrArg (fun z:List bW=>((x2,(x3,(x4,(x5,(x6,(x7,(x8,(x9,(x10,(x11,(z,(x13,(x14,(x15,(x16,()))))))))))))))):O3)) h5⟩
 . refine dJ (by rw[Za];exact hlt) ?_
   show _=_
   exact congrArg (fun z:List bW=>((x2,(x3,(x4,(x5,(x6,(x7,(x8,(x9,(x10,(x11,(z,(x13,(x14,(x15,(x16,()))))))))))))))):O3)) (aAr hp hlt).symm
theorem ok7(x1 x2 x3 x4 x5 x6 x7 x8 x9 x10 x11 x12 x13 x14 x15 x16)(hp:pre7 (x1,(x2,(x3,(x4,(x5,(x6,(x7,(x8,(x9,(x10,(x11,(x12,(x13,(x14,(x15,(x16,()))))))))))))))))=true):aX pre7 mu7 fn7 (x1,(x2,(x3,(x4,(x5,(x6,(x7,(x8,(x9,(x10,(x11,(x12,(x13,(x14,(x15,(x16,())))))))))))))))) (aJT x1 x2 x3 x4 x5 x6 x7 x8 x9 x10 x11 x12 x13 x14 x15 x16):=by
 have hp:qA aM.pre x2.2.1 ((length x2.2.1:Nat):Int) x1 x13=true:=hp
 unfold aJT
 by_cases hlt:x1<((length x2.2.1:Nat):Int)
 . obtain⟨hq,h0,h1,h2,h3,h4,h5,h6⟩:=xG kK hp hlt
   rw[h3]
   refine bU (Zd hlt) ?_
   refine bU (Zd h0) ?_
   refine bU (Zd h1) ?_
   refine bU hq ?_
   refine tO ?_
   refine bU (Zd h2) ?_
   exact⟨h4,h6,congrArg (fun z:List aC=>((x2,(x3,(x4,(x5,(x6,(x7,(x8,(x9,(x10,(x11,(x12,(z,(x14,(x15,(x16,()))))))))))))))):O7)) h5⟩
 . refine dJ (by rw[Za];exact hlt) ?_
   show _=_
   exact congrArg (fun z:List aC=>((x2,(x3,(x4,(x5,(x6,(x7,(x8,(x9,(x10,(x11,(x12,(z,(x14,(x15,(x16,()))))))))))))))):O7)) (aAr hp hlt).symm
theorem aHM(x1 x2 x3 x4 x5 x6 x7 x8 x9 x10 x11 x12 x13 x14 x15 x16)(hp:pre11 (x1,(x2,(x3,(x4,(x5,(x6,(x7,(x8,(x9,(x10,(x11,(x12,(x13,(x14,(x15,(x16,()))))))))))))))))=true):aX pre11 aCR fn11 (x1,(x2,(x3,(x4,(x5,(x6,(x7,(x8,(x9,(x10,(x11,(x12,(x13,(x14,(x15,(x16,())))))))))))))))) (wO x1 x2 x3 x4 x5 x6 x7 x8 x9 x10 x11 x12 x13 x14 x15 x16):=by
 have hp:qA aU.pre x2.2.2.1 ((length x2.2.2.1:Nat):Int) x1 x14=true:=hp
 unfold wO
 by_cases hlt:x1<((length x2.2.2.1:Nat):Int)
 . obtain⟨hq,h0,h1,h2,h3,h4,h5,h6⟩:=xG qX hp hlt
   rw[h3]
   refine bU (Zd hlt) ?_
   refine bU (Zd h0) ?_
   refine bU (Zd h1) ?_
   refine bU hq ?_
   refine tO ?_
   refine bU (Zd h2) ?_
   exact⟨h4,h6,congrArg (fun z:List aE=>((x3,(x4,(x5,(x6,(x7,(x8,(x9,(x10,(x11,(x12,(x13,(z,(x15,(x16,())))))))))))))):O11)) h5⟩
 . refine dJ (by rw[Za];exact hlt) ?_
   show _=_
   exact congrArg (fun z:List aE=>((x3,(x4,(x5,(x6,(x7,(x8,(x9,(x10,(x11,(x12,(x13,(z,(x15,(x16,())))))))))))))):O11)) (aAr hp hlt).symm
theorem eq(x0:bB)(_:wf x0)(hp:pre x0=true):aQ x0=some ((),(eB x0,())):=by
 simp only[pre,Zb] at hp
 obtain⟨a1,a2,a3,a4,a5,a6,a7,a8⟩:=hp
 unfold aQ
 refine bO (Zd (rZ a7)) (bO (Zd (rZ a8)) ?_)
 refine bO (show pre3 _=true from tL a1 a2) (eK ?_)
 refine bO (show pre7 _=true from tL a3 a4) (eK ?_)
 exact bO (show pre11 _=true from tL a5 a6) (eK rfl)
end eB
def vH(ok:Nat->Bool):Nat->Nat->Bool
 |_,0=>true
 |i,k+1=>ok i&&vH ok (i+1) k
theorem aES{ok:Nat->Bool}:(k i:Nat)->(vH ok i k=true↔∀j,i<=j->j<i+k->ok j=true)
 |0,i=>by simp only[vH,true_iff];intro j h1 h2;omega
 |k+1,i=>by
  simp only[vH,Zb,aES k (i+1)]
  constructor
  . rintro⟨h1,h2⟩ j h3 h4
    rcases Nat.lt_or_ge i j with h|h
    . exact h2 j h (by omega)
    . rw[show j=i by omega];exact h1
  . intro h
    exact⟨h i (Nat.le_refl _) (by omega),fun j h1 h2=>h j (by omega) (by omega)⟩
theorem aAu{ok:Nat->Bool}{n:Nat}:vH ok 0 n=true↔∀j,j<n->ok j=true:=by
 rw[aES]
 exact⟨fun h j hj=>h j (Nat.zero_le _) (by omega),fun h j _ hj=>h j (by omega)⟩
theorem aHJ{α:Type}{p:α->Bool}{xs:List α}(h:xs.all p=true){i:Nat}(hi:i<xs.length)(d:α):p (xs.getD i d)=true:=by
 rw[dR hi];exact Zu.1 h _ (List.getElem_mem _)
section
variable {α β:Type}
def rC(n:Nat)(i:Int):Bool:=decide (n<=16777216)&&(decide (0<=i)&&decide (i<=(n:Int)))
def zY(ok:Nat->Bool)(n:Nat)(i:Int)(r:β):(Bool×Unit)⊕β:=cond (vH ok i.toNat (n-i.toNat)) (.inr r) (.inl (false,()))
theorem oH{n:Nat}{i:Int}(h:rC n i=true):n<=16777216/\0<=i/\i<=(n:Int):=by
 simpa only[rC,Zb,Za] using h
theorem zZ{n:Nat}{i:Int}(h:rC n i=true)(hlt:i<(n:Int)):
 wrap .i64 (i+1)=i+1/\rC n (i+1)=true/\n-(i+1).toNat<n-i.toNat/\(i+1).toNat=i.toNat+1:=by
 obtain⟨h1,h2,h3⟩:=oH h
 refine⟨lN (by omega) (by omega),?_,by omega,by omega⟩
 simp only[rC,Zb,Za];omega
theorem zU{n:Nat}{i:Int}(h:rC n i=true)(h0:0<i):wrap .i64 (i-1)=i-1/\0<=i-1/\i-1<(n:Int)/\(i-1).toNat=i.toNat-1/\¬i.toNat=0:=by
 obtain⟨h1,h2,h3⟩:=oH h
 exact⟨lN (by omega) (by omega),by omega,by omega,by omega,by omega⟩
theorem aA8{ok:Nat->Bool}{n:Nat}{i:Int}{r:β}(h:rC n i=true)(hlt:i<(n:Int))(hk:ok i.toNat=true):zY ok n (i+1) r=zY ok n i r:=by
 obtain⟨h1,h2,h3⟩:=oH h
 unfold zY
 rw[show n-i.toNat=(n-(i+1).toNat)+1 by omega,vH,hk,Bool.true_and,show(i+1).toNat=i.toNat+1 by omega]
theorem zR{ok:Nat->Bool}{n:Nat}{i:Int}{r:β}(h:rC n i=true)(hlt:i<(n:Int))(hk:ok i.toNat=false):.inl (false,())=zY ok n i r:=by
 obtain⟨h1,h2,h3⟩:=oH h
 unfold zY
 rw[show n-i.toNat=(n-(i+1).toNat)+1 by omega,vH,hk];rfl
theorem aBG{ok:Nat->Bool}{n:Nat}{i:Int}{r:β}(h:rC n i=true)(hlt:¬i<(n:Int)):.inr r=zY ok n i r:=by
 obtain⟨h1,h2,h3⟩:=oH h
 unfold zY
 rw[show n-i.toNat=0 by omega];rfl
theorem wM{n:Nat}(h:n<=16777216):rC n 0=true:=by simp[rC,h]
theorem aBC{ok:Nat->Bool}{n:Nat}{r:β}:zY ok n 0 r=cond (vH ok 0 n) (.inr r) (.inl (false,())):=by simp[zY]
end
def aC6(e:aV):Bool:=dQ e.2.1&&(dQ e.2.2.1&&(aA e.2.2.2.1 0 3&&aA e.2.2.2.2.1 0 100000))
def sK(x:bW)(j:Nat):Bool:=aA (x.2.2.1.getD j kH).1 x.1 (wrap .i64 (x.2.1-1))&&((decide (j=0)||decide ((x.2.2.1.getD (j-1) kH).1<(x.2.2.1.getD j kH).1))&&aC6 (x.2.2.1.getD j kH))
def fI(x:bW):Bool:=aA x.1 0 x.2.1&&(decide (x.2.1<=100000)&&(decide ((x.2.2.1.length:Int)<=80)&&vH (sK x) 0 x.2.2.1.length))
abbrev dN:=fI
abbrev eM:=fI
namespace dN
abbrev S4:Type:=((List aV)×(Int×(Int×(bW×Unit))))
abbrev O4:Type:=((Bool×Unit)⊕Unit)
def pre(x:bW):Bool:=bQ x.2.2.1
noncomputable def pre4:S4->Bool:=fun(x1,x2,x3,x4,_)=>same x1 x4.2.2.1&&(decide (x2=(x4.2.2.1.length:Int))&&rC x4.2.2.1.length x3)
def fn4:S4->O4:=fun(_,_,x3,x4,_)=>zY (sK x4) x4.2.2.1.length x3 ()
def kU:S4->Nat:=fun(_,_,x3,x4,_)=>x4.2.2.1.length-x3.toNat
noncomputable def eO(x1:(List aV))(x2:Int)(x3:Int)(x4:bW):Option (((List aV)×(Int×(Int×(bW×Unit))))⊕((Bool×Unit)⊕Unit)):=
 if(decide (x3<x2))=true then
 if(decide ((0:Int)<=x3))=true then
 if(decide (x3<((length x1:Nat):Int)))=true then
 letB (aA (List.getD x1 (Int.toNat x3) kH).1 x4.1 (wrap .i64 (x4.2.1-(1:Int)))) fun v1=>
 if(!v1)=true then
 some (.inr (.inl (false,())))
 else
 if(decide ((0:Int)<x3))=true then
 if(decide ((0:Int)<=(wrap .i64 (x3-(1:Int)))))=true then
 if(decide ((wrap .i64 (x3-(1:Int)))<((length x4.2.2.1:Nat):Int)))=true then
 if(decide ((List.getD x1 (Int.toNat x3) kH).1<=(List.getD x4.2.2.1 (Int.toNat (wrap .i64 (x3-(1:Int)))) kH).1))=true then
 some (.inr (.inl (false,())))
 else
 letB (dQ (List.getD x1 (Int.toNat x3) kH).2.1) fun v2=>
 if(!v2)=true then
 some (.inr (.inl (false,())))
 else
 letB (dQ (List.getD x1 (Int.toNat x3) kH).2.2.1) fun v3=>
 if(!v3)=true then
 some (.inr (.inl (false,())))
 else
 letB (aA (List.getD x1 (Int.toNat x3) kH).2.2.2.1 (0:Int) (3:Int)) fun v4=>
 if(!v4)=true then
 some (.inr (.inl (false,())))
 else
 letB (aA (List.getD x1 (Int.toNat x3) kH).2.2.2.2.1 (0:Int) (100000:Int)) fun v5=>
 if(!v5)=true then
 some (.inr (.inl (false,())))
 else
 some (.inl (x1,(x2,((wrap .i64 (x3+(1:Int))),(x4,())))))
 else
 none
 else
 none
 else
 letB (dQ (List.getD x1 (Int.toNat x3) kH).2.1) fun v6=>
 if(!v6)=true then
 some (.inr (.inl (false,())))
 else
 letB (dQ (List.getD x1 (Int.toNat x3) kH).2.2.1) fun v7=>
 if(!v7)=true then
 some (.inr (.inl (false,())))
 else
 letB (aA (List.getD x1 (Int.toNat x3) kH).2.2.2.1 (0:Int) (3:Int)) fun v8=>
 if(!v8)=true then
 some (.inr (.inl (false,())))
 else
 letB (aA (List.getD x1 (Int.toNat x3) kH).2.2.2.2.1 (0:Int) (100000:Int)) fun v9=>
 if(!v9)=true then
 some (.inr (.inl (false,())))
 else
 some (.inl (x1,(x2,((wrap .i64 (x3+(1:Int))),(x4,())))))
 else
 none
 else
 none
 else
 some (.inr (.inr ()))
abbrev wf(x0:bW):Prop:=iM [(.val tK .f)] (x0,())
noncomputable def aQ(x0:bW):Option mV:=
 letB (aA x0.1 (0:Int) x0.2.1) fun v1=>
 if(!v1)=true then
  some ((),(false,()))
 else
  if(decide ((100000:Int)<x0.2.1))=true then
   some ((),(false,()))
  else
   if(decide ((80:Int)<((length x0.2.2.1:Nat):Int)))=true then
    some ((),(false,()))
   else
    if(dN.pre4 (x0.2.2.1,(((length x0.2.2.1:Nat):Int),((0:Int),(x0,())))))=true then
     letB (dN.fn4 (x0.2.2.1,(((length x0.2.2.1:Nat):Int),((0:Int),(x0,()))))) fun v2=>
     match v2 with
     |.inl y=>
      some ((),y)
     |.inr y=>
      some ((),(true,()))
    else
     none
theorem vZ(x1:List aV)(x2 x3:Int)(x4:bW)(hp:pre4 (x1,(x2,(x3,(x4,()))))=true):aX pre4 kU fn4 (x1,(x2,(x3,(x4,())))) (eO x1 x2 x3 x4):=by
 simp only[pre4,Zb,Za,pF] at hp
 obtain⟨rfl,rfl,ha⟩:=hp
 obtain⟨h1,h2,h3⟩:=oH ha
 unfold eO
 by_cases hlt:x3<(x4.2.2.1.length:Int)
 . obtain⟨n1,n2,n3,n4⟩:=zZ ha hlt
   have nxt:sK x4 x3.toNat=true->aX pre4 kU fn4 (x4.2.2.1,((x4.2.2.1.length:Int),(x3,(x4,())))) (some (.inl (x4.2.2.1,((x4.2.2.1.length:Int),(x3+1,(x4,())))))):=
    fun h=>⟨by simp only[pre4,nZ,n2];simp,n3,aA8 ha hlt h⟩
   have stp:sK x4 x3.toNat=false->aX pre4 kU fn4 (x4.2.2.1,((x4.2.2.1.length:Int),(x3,(x4,())))) (some (.inr (.inl (false,())))):=fun h=>zR ha hlt h
   simp only[letB,n1,hlt,h2,decide_true,if_true]
   by_cases h0:0<x3
   . obtain⟨p1,p2,p3,p4,p5⟩:=zU ha h0
     simp only[p1,p2,p3,p4,h0,decide_true,if_true]
     simp only[sK,aC6,p5,decide_false,Bool.false_or] at nxt stp
     generalize x4.2.2.1.getD x3.toNat kH=e at *
     generalize x4.2.2.1.getD (x3.toNat-1) kH=e' at *
     generalize aA e.1 x4.1 (wrap .i64 (x4.2.1-1))=b1 at *
     generalize dQ e.2.1=b2 at *
     generalize dQ e.2.2.1=b3 at *
     generalize aA e.2.2.2.1 0 3=b4 at *
     generalize aA e.2.2.2.2.1 0 100000=b5 at *
     by_cases hd:e.1<=e'.1
     . simp only[hd,show ¬e'.1<e.1 by omega,decide_true,decide_false,if_true] at *
       cases b1<;>exact stp rfl
     . simp only[hd,show e'.1<e.1 by omega,decide_true,decide_false] at *
       cases b1
       . exact stp rfl
       cases b2
       . exact stp rfl
       cases b3
       . exact stp rfl
       cases b4
       . exact stp rfl
       cases b5
       . exact stp rfl
       . exact nxt rfl
   . have p5:x3.toNat=0:=by omega
     simp only[h0,decide_false,Zj,if_false]
     simp only[sK,aC6,p5,decide_true,Bool.true_or,Bool.true_and] at nxt stp ⊢
     generalize x4.2.2.1.getD 0 kH=e at *
     generalize aA e.1 x4.1 (wrap .i64 (x4.2.1-1))=b1 at *
     generalize dQ e.2.1=b2 at *
     generalize dQ e.2.2.1=b3 at *
     generalize aA e.2.2.2.1 0 3=b4 at *
     generalize aA e.2.2.2.2.1 0 100000=b5 at *
     cases b1
     . exact stp rfl
     cases b2
     . exact stp rfl
     cases b3
     . exact stp rfl
     cases b4
     . exact stp rfl
     cases b5
     . exact stp rfl
     . exact nxt rfl
 . rw[if_neg (by simp[hlt])]
   exact aBG ha hlt
theorem eq(x0:bW)(_:wf x0)(hp:pre x0=true):aQ x0=some ((),(dN x0,())):=by
 have hs:=bJ.1 hp
 unfold aQ dN fI
 simp only[letB]
 cases aA x0.1 0 x0.2.1
 . rfl
 by_cases h1:100000<x0.2.1
 . rw[if_neg (by decide),if_pos (Zd h1),decide_eq_false (p:=x0.2.1<=100000) (by omega)];rfl
 by_cases h2:80<(x0.2.2.1.length:Int)
 . rw[if_neg (by decide),if_neg (by simp[h1]),if_pos (Zd h2),Zd (p:=x0.2.1<=100000) (by omega),decide_eq_false (p:=(x0.2.2.1.length:Int)<=80) (by omega)];rfl
 rw[if_neg (by decide),if_neg (by simp[h1]),if_neg (by simp[h2]),Zd (p:=x0.2.1<=100000) (by omega),Zd (p:=(x0.2.2.1.length:Int)<=80) (by omega),
  if_pos (show pre4 _=true by simp only[pre4,nZ,wM hs];simp)]
 rw[show fn4 (x0.2.2.1,((x0.2.2.1.length:Int),((0:Int),(x0,()))))=_ from aBC]
 cases vH (sK x0) 0 x0.2.2.1.length<;>rfl
end dN
abbrev kQ:=aC6
namespace kQ
def pre(e:aV):Bool:=decide (e.1<=e.1)
abbrev wf(x0:aV):Prop:=iM [(.val aCE .f)] (x0,())
noncomputable def aQ(x0:aV):Option mV:=
 letB (dQ x0.2.1) fun v1=>
 if v1=true then
 letB (dQ x0.2.2.1) fun v2=>
 if v2=true then
 letB (aA x0.2.2.2.1 (0:Int) (3:Int)) fun v3=>
 if v3=true then
 letB (aA x0.2.2.2.2.1 (0:Int) (100000:Int)) fun v4=>
 some ((),(v4,()))
 else
 some ((),(false,()))
 else
 some ((),(false,()))
 else
 some ((),(false,()))
theorem eq(x0:aV)(_:wf x0)(_:pre x0=true):aQ x0=some ((),(kQ x0,())):=by
 unfold aQ
 show _=some ((),(aC6 x0,()))
 unfold aC6
 simp only[letB]
 cases dQ x0.2.1<;>cases dQ x0.2.2.1<;>cases aA x0.2.2.2.1 0 3<;>simp
end kQ
namespace eM
abbrev S2:Type:=(Int×(bW×Unit))
abbrev O2:Type:=((Bool×Unit)⊕(bW×Unit))
def pre(x:bW):Bool:=bQ x.2.2.1
def pre2:S2->Bool:=fun(x1,x2,_)=>rC x2.2.2.1.length x1
def fn2:S2->O2:=fun(x1,x2,_)=>zY (sK x2) x2.2.2.1.length x1 (x2,())
def qY:S2->Nat:=fun(x1,x2,_)=>x2.2.2.1.length-x1.toNat
noncomputable def jX(x1:Int)(x2:bW):Option ((Int×(bW×Unit))⊕((Bool×Unit)⊕(bW×Unit))):=
 if(decide (x1<((length x2.2.2.1:Nat):Int)))=true then
 if(decide ((0:Int)<=x1))=true then
 if(decide (x1<((length x2.2.2.1:Nat):Int)))=true then
 if(kQ.pre (List.getD x2.2.2.1 (Int.toNat x1) kH))=true then
 letB (aC6 (List.getD x2.2.2.1 (Int.toNat x1) kH)) fun v1=>
 if(!v1)=true then
 some (.inr (.inl (false,())))
 else
 if(decide ((0:Int)<=x1))=true then
 if(decide (x1<((length x2.2.2.1:Nat):Int)))=true then
 letB (aA (List.getD x2.2.2.1 (Int.toNat x1) kH).1 x2.1 (wrap .i64 (x2.2.1-(1:Int)))) fun v2=>
 if(!v2)=true then
 some (.inr (.inl (false,())))
 else
 if(decide ((0:Int)<x1))=true then
 if(decide ((0:Int)<=(wrap .i64 (x1-(1:Int)))))=true then
 if(decide ((wrap .i64 (x1-(1:Int)))<((length x2.2.2.1:Nat):Int)))=true then
 if(decide ((0:Int)<=x1))=true then
 if(decide (x1<((length x2.2.2.1:Nat):Int)))=true then
 if(decide ((List.getD x2.2.2.1 (Int.toNat x1) kH).1<=(List.getD x2.2.2.1 (Int.toNat (wrap .i64 (x1-(1:Int)))) kH).1))=true then
 some (.inr (.inl (false,())))
 else
 some (.inl ((wrap .i64 (x1+(1:Int))),(x2,())))
 else
 none
 else
 none
 else
 none
 else
 none
 else
 some (.inl ((wrap .i64 (x1+(1:Int))),(x2,())))
 else
 none
 else
 none
 else
 none
 else
 none
 else
 none
 else
 some (.inr (.inr (x2,())))
abbrev wf(x0:bW):Prop:=iM [(.val tK .f)] (x0,())
noncomputable def aQ(x0:bW):Option mV:=
 if(eM.pre2 ((0:Int),(x0,())))=true then
  letB (eM.fn2 ((0:Int),(x0,()))) fun v1=>
  match v1 with
  |.inl y=>
   some ((),y)
  |.inr y=>
   letB (aA y.1.1 (0:Int) y.1.2.1) fun v2=>
   if v2=true then
    if(decide (y.1.2.1<=(100000:Int)))=true then
     some ((),((decide (((length y.1.2.2.1:Nat):Int)<=(80:Int))),()))
    else
     some ((),(false,()))
   else
    some ((),(false,()))
 else
  none
theorem ok2(x1:Int)(x2:bW)(ha:pre2 (x1,(x2,()))=true):aX pre2 qY fn2 (x1,(x2,())) (jX x1 x2):=by
 have ha:rC x2.2.2.1.length x1=true:=ha
 obtain⟨h1,h2,h3⟩:=oH ha
 unfold jX
 by_cases hlt:x1<(x2.2.2.1.length:Int)
 . obtain⟨n1,n2,n3,n4⟩:=zZ ha hlt
   have nxt:sK x2 x1.toNat=true->aX pre2 qY fn2 (x1,(x2,())) (some (.inl (x1+1,(x2,())))):=fun h=>⟨n2,n3,aA8 ha hlt h⟩
   have stp:sK x2 x1.toNat=false->aX pre2 qY fn2 (x1,(x2,())) (some (.inr (.inl (false,())))):=fun h=>zR ha hlt h
   simp only[letB,n1,hlt,h2,decide_true,if_true,show kQ.pre (x2.2.2.1.getD x1.toNat kH)=true from Zd (Int.le_refl _)]
   by_cases h0:0<x1
   . obtain⟨p1,p2,p3,p4,p5⟩:=zU ha h0
     simp only[p1,p2,p3,p4,h0,decide_true,if_true]
     simp only[sK,p5,decide_false,Bool.false_or] at nxt stp
     generalize x2.2.2.1.getD x1.toNat kH=e at *
     generalize x2.2.2.1.getD (x1.toNat-1) kH=e' at *
     generalize aA e.1 x2.1 (wrap .i64 (x2.2.1-1))=b1 at *
     generalize aC6 e=b2 at *
     by_cases hd:e.1<=e'.1
     . simp only[hd,show ¬e'.1<e.1 by omega,decide_true,decide_false,if_true] at *
       cases b1<;>cases b2<;>exact stp rfl
     . simp only[hd,show e'.1<e.1 by omega,decide_true,decide_false] at *
       cases b1<;>cases b2
       . exact stp rfl
       . exact stp rfl
       . exact stp rfl
       . exact nxt rfl
   . have p5:x1.toNat=0:=by omega
     simp only[h0,decide_false,Zj,if_false]
     simp only[sK,p5,decide_true,Bool.true_or,Bool.true_and] at nxt stp ⊢
     generalize x2.2.2.1.getD 0 kH=e at *
     generalize aA e.1 x2.1 (wrap .i64 (x2.2.1-1))=b1 at *
     generalize aC6 e=b2 at *
     cases b1<;>cases b2
     . exact stp rfl
     . exact stp rfl
     . exact stp rfl
     . exact nxt rfl
 . rw[if_neg (by simp[hlt])]
   exact aBG ha hlt
theorem eq(x0:bW)(_:wf x0)(hp:pre x0=true):aQ x0=some ((),(eM x0,())):=by
 have hs:=bJ.1 hp
 unfold aQ eM fI
 rw[if_pos (show pre2 ((0:Int),(x0,()))=true from wM hs),show fn2 ((0:Int),(x0,()))=_ from aBC]
 simp only[letB]
 cases vH (sK x0) 0 x0.2.2.1.length
 . simp
 simp only[cond_true]
 cases aA x0.1 0 x0.2.1<;>cases decide (x0.2.1<=100000)<;>cases decide ((x0.2.2.1.length:Int)<=80)<;>rfl
end eM
def aFc(xs:List bS)(j:Nat):Bool:=decide (j=0)||decide ((xs.getD (j-1) pV).2.1<(xs.getD j pV).2.1)
def aBx(m:aC)(j:Nat):Bool:=decide ((m.2.2.2.2.1.getD j pV).1=wrap .i64 (wrap .i64 (wrap .i64 (m.2.2.2.1-(m.2.2.2.2.1.length:Int))+1)+(j:Int)))&&(aA (m.2.2.2.2.1.getD j pV).2.1 0 100000&&aFc m.2.2.2.2.1 j)
def aFG(m:aC):Bool:=aA m.1 0 3&&(aA m.2.1 0 3&&(aA m.2.2.1 0 100000&&aA m.2.2.2.1 (-1) 100000))
def dH(m:aC)(w:Int):Bool:=aFG m&&(decide ((m.2.2.2.2.1.length:Int)<=w)&&((decide (m.2.2.2.1=-1)==decide ((m.2.2.2.2.1.length:Int)=0))&&vH (aBx m) 0 m.2.2.2.2.1.length))
namespace dH
abbrev S4:Type:=((List bS)×(Int×(Int×(aC×Unit))))
abbrev O4:Type:=((Bool×Unit)⊕Unit)
def pre(x:aC)(_:Int):Bool:=bQ x.2.2.2.2.1
noncomputable def pre4:S4->Bool:=fun(x1,x2,x3,x4,_)=>same x1 x4.2.2.2.2.1&&(decide (x2=(x4.2.2.2.2.1.length:Int))&&rC x4.2.2.2.2.1.length x3)
def fn4:S4->O4:=fun(_,_,x3,x4,_)=>zY (aBx x4) x4.2.2.2.2.1.length x3 ()
def kU:S4->Nat:=fun(_,_,x3,x4,_)=>x4.2.2.2.2.1.length-x3.toNat
noncomputable def eO(x1:(List bS))(x2:Int)(x3:Int)(x4:aC):Option (((List bS)×(Int×(Int×(aC×Unit))))⊕((Bool×Unit)⊕Unit)):=
 if(decide (x3<x2))=true then
 if(decide ((0:Int)<=x3))=true then
 if(decide (x3<((length x1:Nat):Int)))=true then
 if(!(decide ((List.getD x1 (Int.toNat x3) pV).1=(wrap .i64 ((wrap .i64 ((wrap .i64 (x4.2.2.2.1-((length x4.2.2.2.2.1:Nat):Int)))+(1:Int)))+x3)))))=true then
 some (.inr (.inl (false,())))
 else
 letB (aA (List.getD x1 (Int.toNat x3) pV).2.1 (0:Int) (100000:Int)) fun v1=>
 if(!v1)=true then
 some (.inr (.inl (false,())))
 else
 if(decide ((0:Int)<x3))=true then
 if(decide ((0:Int)<=(wrap .i64 (x3-(1:Int)))))=true then
 if(decide ((wrap .i64 (x3-(1:Int)))<((length x4.2.2.2.2.1:Nat):Int)))=true then
 if(decide ((List.getD x1 (Int.toNat x3) pV).2.1<=(List.getD x4.2.2.2.2.1 (Int.toNat (wrap .i64 (x3-(1:Int)))) pV).2.1))=true then
 some (.inr (.inl (false,())))
 else
 some (.inl (x1,(x2,((wrap .i64 (x3+(1:Int))),(x4,())))))
 else
 none
 else
 none
 else
 some (.inl (x1,(x2,((wrap .i64 (x3+(1:Int))),(x4,())))))
 else
 none
 else
 none
 else
 some (.inr (.inr ()))
abbrev wf(x0:aC)(x1:Int):Prop:=iM [(.val wQ .f),(.val (.int .i64) .f)] (x0,(x1,()))
noncomputable def aQ(x0:aC)(x1:Int):Option mV:=
 letB (aA x0.1 (0:Int) (3:Int)) fun v1=>
 if(!v1)=true then
  some ((),(false,()))
 else
  letB (aA x0.2.1 (0:Int) (3:Int)) fun v2=>
  if(!v2)=true then
   some ((),(false,()))
  else
   letB (aA x0.2.2.1 (0:Int) (100000:Int)) fun v3=>
   if(!v3)=true then
    some ((),(false,()))
   else
    letB (aA x0.2.2.2.1 (-1:Int) (100000:Int)) fun v4=>
    if(!v4)=true then
     some ((),(false,()))
    else
     if(decide (x1<((length x0.2.2.2.2.1:Nat):Int)))=true then
      some ((),(false,()))
     else
      if(!((decide (x0.2.2.2.1=(-1:Int)))==(decide (((length x0.2.2.2.2.1:Nat):Int)=(0:Int)))))=true then
       some ((),(false,()))
      else
       if(dH.pre4 (x0.2.2.2.2.1,(((length x0.2.2.2.2.1:Nat):Int),((0:Int),(x0,())))))=true then
        letB (dH.fn4 (x0.2.2.2.2.1,(((length x0.2.2.2.2.1:Nat):Int),((0:Int),(x0,()))))) fun v5=>
        match v5 with
        |.inl y=>
         some ((),y)
        |.inr y=>
         some ((),(true,()))
       else
        none
theorem vZ(x1:List bS)(x2 x3:Int)(x4:aC)(hp:pre4 (x1,(x2,(x3,(x4,()))))=true):aX pre4 kU fn4 (x1,(x2,(x3,(x4,())))) (eO x1 x2 x3 x4):=by
 simp only[pre4,Zb,Za,pF] at hp
 obtain⟨rfl,rfl,ha⟩:=hp
 obtain⟨h1,h2,h3⟩:=oH ha
 unfold eO
 by_cases hlt:x3<(x4.2.2.2.2.1.length:Int)
 . obtain⟨n1,n2,n3,n4⟩:=zZ ha hlt
   have nxt:aBx x4 x3.toNat=true->aX pre4 kU fn4 (x4.2.2.2.2.1,((x4.2.2.2.2.1.length:Int),(x3,(x4,())))) (some (.inl (x4.2.2.2.2.1,((x4.2.2.2.2.1.length:Int),(x3+1,(x4,())))))):=
    fun h=>⟨by simp only[pre4,nZ,n2];simp,n3,aA8 ha hlt h⟩
   have stp:aBx x4 x3.toNat=false->aX pre4 kU fn4 (x4.2.2.2.2.1,((x4.2.2.2.2.1.length:Int),(x3,(x4,())))) (some (.inr (.inl (false,())))):=fun h=>zR ha hlt h
   simp only[letB,n1,hlt,h2,decide_true,if_true]
   simp only[aBx,aFc,Int.toNat_of_nonneg h2] at nxt stp
   by_cases h0:0<x3
   . obtain⟨p1,p2,p3,p4,p5⟩:=zU ha h0
     simp only[p1,p2,p3,p4,h0,decide_true,if_true]
     simp only[p5,decide_false,Bool.false_or] at nxt stp
     generalize x4.2.2.2.2.1.getD x3.toNat pV=e at *
     generalize x4.2.2.2.2.1.getD (x3.toNat-1) pV=e' at *
     generalize decide (e.1=_)=b1 at *
     generalize aA e.2.1 0 100000=b2 at *
     by_cases hd:e.2.1<=e'.2.1
     . simp only[hd,show ¬e'.2.1<e.2.1 by omega,decide_true,decide_false,if_true] at *
       cases b1<;>cases b2<;>exact stp rfl
     . simp only[hd,show e'.2.1<e.2.1 by omega,decide_true,decide_false] at *
       cases b1<;>cases b2
       . exact stp rfl
       . exact stp rfl
       . exact stp rfl
       . exact nxt rfl
   . have p5:x3.toNat=0:=by omega
     simp only[h0,decide_false,Zj,if_false]
     simp only[p5,decide_true,Bool.true_or,Bool.and_true] at nxt stp ⊢
     generalize x4.2.2.2.2.1.getD 0 pV=e at *
     generalize decide (e.1=_)=b1 at *
     generalize aA e.2.1 0 100000=b2 at *
     cases b1<;>cases b2
     . exact stp rfl
     . exact stp rfl
     . exact stp rfl
     . exact nxt rfl
 . rw[if_neg (by simp[hlt])]
   exact aBG ha hlt
theorem eq(x0:aC)(x1:Int)(_:wf x0 x1)(hp:pre x0 x1=true):aQ x0 x1=some ((),(dH x0 x1,())):=by
 have hs:=bJ.1 (show bQ x0.2.2.2.2.1=true from hp)
 unfold aQ dH aFG
 simp only[letB]
 rw[show pre4 (x0.2.2.2.2.1,((x0.2.2.2.2.1.length:Int),((0:Int),(x0,()))))=true by simp only[pre4,nZ,wM hs];simp,
  show fn4 (x0.2.2.2.2.1,((x0.2.2.2.2.1.length:Int),((0:Int),(x0,()))))=_ from aBC]
 generalize vH (aBx x0) 0 x0.2.2.2.2.1.length=b
 generalize (decide (x0.2.2.2.1=-1)==decide ((x0.2.2.2.2.1.length:Int)=0))=c
 by_cases h:x1<(x0.2.2.2.2.1.length:Int)
 . rw[Zd h,decide_eq_false (p:=(x0.2.2.2.2.1.length:Int)<=x1) (by omega)]
   cases aA x0.1 0 3<;>cases aA x0.2.1 0 3<;>cases aA x0.2.2.1 0 100000<;>cases aA x0.2.2.2.1 (-1) 100000<;>rfl
 . rw[decide_eq_false h,Zd (p:=(x0.2.2.2.2.1.length:Int)<=x1) (by omega)]
   cases aA x0.1 0 3<;>cases aA x0.2.1 0 3<;>cases aA x0.2.2.1 0 100000<;>cases aA x0.2.2.2.1 (-1) 100000<;>cases b<;>cases c<;>rfl
end dH
theorem aBE{α:Type}(x0:List α)(x1:(α->Bool)×(α->Bool)):
 (letB (aA3 (x0,(x1.1,(x1.2,(((length x0:Nat):Int),((0:Int),())))))) fun v=>match v with|.inl y=>some ((),y)|.inr y=>some ((),((-1:Int),())))=some ((),(lL x1.2 x0 0,())):=by
 have hlo:=(aDr x1.2 x0 0 (by omega)).1
 by_cases h:lL x1.2 x0 0<0
 . rw[show aA3 (x0,(x1.1,(x1.2,(((x0.length:Nat):Int),((0:Int),())))))=.inr () from if_pos h,show lL x1.2 x0 0=-1 by omega];rfl
 . rw[show aA3 (x0,(x1.1,(x1.2,(((x0.length:Nat):Int),((0:Int),())))))=.inl (lL x1.2 x0 0,()) from if_neg h];rfl
theorem aCu{α:Type}(p:α->Bool)(x0:List α):decide (0<=lL p x0 0)=x0.any p:=by
 rw[Bool.eq_iff_iff,Za]
 exact(aDr p x0 0 (by omega)).2
def bC(xs:List Int)(p:(Int->Bool)×(Int->Bool)):Int:=lL p.2 xs 0
namespace bC
def pre(xs:List Int)(p:(Int->Bool)×(Int->Bool)):Bool:=xs.all p.1
def pre2:=qC (α:=Int)
def fn2:=aA3 (α:=Int)
def qY:=aDw (α:=Int)
noncomputable def jX(x1:(List Int))(x2:(Int->Bool))(x3:(Int->Bool))(x4:Int)(x5:Int):Option (((List Int)×((Int->Bool)×((Int->Bool)×bS)))⊕((Int×Unit)⊕Unit)):=
 if(decide (x5<x4))=true then
 if(decide ((0:Int)<=x5))=true then
 if(decide (x5<((length x1:Nat):Int)))=true then
 if(x2 (List.getD x1 (Int.toNat x5) (0:Int)))=true then
 if(x3 (List.getD x1 (Int.toNat x5) (0:Int)))=true then
 some (.inr (.inl (x5,())))
 else
 some (.inl (x1,(x2,(x3,(x4,((wrap .i64 (x5+(1:Int))),()))))))
 else
 none
 else
 none
 else
 none
 else
 some (.inr (.inr ()))
abbrev wf(x0:(List Int))(x1:((Int->Bool)×(Int->Bool))):Prop:=iM [(.val (.sl 0 (.int .i64)) .f),(.fn (.int .i64) .bool)] (x0,(x1,()))
noncomputable def aQ(x0:(List Int))(x1:((Int->Bool)×(Int->Bool))):Option aAC:=
 if(bC.pre2 (x0,(x1.1,(x1.2,(((length x0:Nat):Int),((0:Int),()))))))=true then
  letB (bC.fn2 (x0,(x1.1,(x1.2,(((length x0:Nat):Int),((0:Int),())))))) fun v1=>
  match v1 with
  |.inl y=>
   some ((),y)
  |.inr y=>
   some ((),((-1:Int),()))
 else
  none
theorem ok2(x1:List Int)(x2 x3:Int->Bool)(x4 x5:Int)(hp:pre2 (x1,(x2,(x3,(x4,(x5,())))))=true):aX pre2 qY fn2 (x1,(x2,(x3,(x4,(x5,()))))) (jX x1 x2 x3 x4 x5):=by
 unfold jX
 by_cases hlt:x5<x4
 . obtain⟨h1,h2,h3,h4,h5⟩:=aAk hp hlt (0:Int)
   simp only[hlt,h1,h2,h3,decide_true,if_true]
   split
   . rename_i h;exact h4 h
   . rename_i h;exact h5 h
 . simp only[hlt,decide_false,Zj,if_false]
   exact aBD hp hlt
theorem eq(x0:List Int)(x1:(Int->Bool)×(Int->Bool))(hw:wf x0 x1)(hp:pre x0 x1=true):aQ x0 x1=some ((),(bC x0 x1,())):=by
 have h1:x0.length<=maxLen:=hw.1.1
 unfold aQ
 rw[if_pos (show pre2 _=true by simp only[pre2,qC,Zb,Za];exact⟨h1,trivial,by omega,by simp,hp⟩)]
 exact aBE x0 x1
end bC
def cE(xs:List Int)(p:(Int->Bool)×(Int->Bool)):Bool:=xs.any p.2
namespace cE
def pre(xs:List Int)(p:(Int->Bool)×(Int->Bool)):Bool:=xs.all p.1
abbrev wf(x0:(List Int))(x1:((Int->Bool)×(Int->Bool))):Prop:=iM [(.val (.sl 0 (.int .i64)) .f),(.fn (.int .i64) .bool)] (x0,(x1,()))
noncomputable def aQ(x0:(List Int))(x1:((Int->Bool)×(Int->Bool))):Option mV:=
 if(bC.pre x0 x1)=true then
 letB (bC x0 x1) fun v1=>
 some ((),((decide ((0:Int)<=v1)),()))
 else
 none
theorem eq(x0:List Int)(x1:(Int->Bool)×(Int->Bool))(_:wf x0 x1)(hp:pre x0 x1=true):aQ x0 x1=some ((),(cE x0 x1,())):=by
 unfold aQ
 exact bO (show bC.pre _ _=true from hp) (congrArg (fun b=>some ((),(b,()))) (aCu x1.2 x0))
end cE
def cM(xs:List bW)(p:(bW->Bool)×(bW->Bool)):Int:=lL p.2 xs 0
namespace cM
def pre(xs:List bW)(p:(bW->Bool)×(bW->Bool)):Bool:=xs.all p.1
def pre2:=qC (α:=bW)
def fn2:=aA3 (α:=bW)
def qY:=aDw (α:=bW)
noncomputable def jX(x1:(List bW))(x2:(bW->Bool))(x3:(bW->Bool))(x4:Int)(x5:Int):Option (((List bW)×((bW->Bool)×((bW->Bool)×bS)))⊕((Int×Unit)⊕Unit)):=
 if(decide (x5<x4))=true then
 if(decide ((0:Int)<=x5))=true then
 if(decide (x5<((length x1:Nat):Int)))=true then
 if(x2 (List.getD x1 (Int.toNat x5) mQ))=true then
 if(x3 (List.getD x1 (Int.toNat x5) mQ))=true then
 some (.inr (.inl (x5,())))
 else
 some (.inl (x1,(x2,(x3,(x4,((wrap .i64 (x5+(1:Int))),()))))))
 else
 none
 else
 none
 else
 none
 else
 some (.inr (.inr ()))
abbrev wf(x0:(List bW))(x1:((bW->Bool)×(bW->Bool))):Prop:=iM [(.val (.sl 0 tK) .f),(.fn tK .bool)] (x0,(x1,()))
noncomputable def aQ(x0:(List bW))(x1:((bW->Bool)×(bW->Bool))):Option aAC:=
 if(cM.pre2 (x0,(x1.1,(x1.2,(((length x0:Nat):Int),((0:Int),()))))))=true then
  letB (cM.fn2 (x0,(x1.1,(x1.2,(((length x0:Nat):Int),((0:Int),())))))) fun v1=>
  match v1 with
  |.inl y=>
   some ((),y)
  |.inr y=>
   some ((),((-1:Int),()))
 else
  none
theorem ok2(x1:List bW)(x2 x3:bW->Bool)(x4 x5:Int)(hp:pre2 (x1,(x2,(x3,(x4,(x5,())))))=true):aX pre2 qY fn2 (x1,(x2,(x3,(x4,(x5,()))))) (jX x1 x2 x3 x4 x5):=by
 unfold jX
 by_cases hlt:x5<x4
 . obtain⟨h1,h2,h3,h4,h5⟩:=aAk hp hlt mQ
   simp only[hlt,h1,h2,h3,decide_true,if_true]
   split
   . rename_i h;exact h4 h
   . rename_i h;exact h5 h
 . simp only[hlt,decide_false,Zj,if_false]
   exact aBD hp hlt
theorem eq(x0:List bW)(x1:(bW->Bool)×(bW->Bool))(hw:wf x0 x1)(hp:pre x0 x1=true):aQ x0 x1=some ((),(cM x0 x1,())):=by
 have h1:x0.length<=maxLen:=hw.1.1
 unfold aQ
 rw[if_pos (show pre2 _=true by simp only[pre2,qC,Zb,Za];exact⟨h1,trivial,by omega,by simp,hp⟩)]
 exact aBE x0 x1
end cM
def cH(xs:List bW)(p:(bW->Bool)×(bW->Bool)):Bool:=xs.any p.2
namespace cH
def pre(xs:List bW)(p:(bW->Bool)×(bW->Bool)):Bool:=xs.all p.1
abbrev wf(x0:(List bW))(x1:((bW->Bool)×(bW->Bool))):Prop:=iM [(.val (.sl 0 tK) .f),(.fn tK .bool)] (x0,(x1,()))
noncomputable def aQ(x0:(List bW))(x1:((bW->Bool)×(bW->Bool))):Option mV:=
 if(cM.pre x0 x1)=true then
 letB (cM x0 x1) fun v1=>
 some ((),((decide ((0:Int)<=v1)),()))
 else
 none
theorem eq(x0:List bW)(x1:(bW->Bool)×(bW->Bool))(_:wf x0 x1)(hp:pre x0 x1=true):aQ x0 x1=some ((),(cH x0 x1,())):=by
 unfold aQ
 exact bO (show cM.pre _ _=true from hp) (congrArg (fun b=>some ((),(b,()))) (aCu x1.2 x0))
end cH
def cD(xs:List aE)(p:(aE->Bool)×(aE->Bool)):Int:=lL p.2 xs 0
namespace cD
def pre(xs:List aE)(p:(aE->Bool)×(aE->Bool)):Bool:=xs.all p.1
def pre2:=qC (α:=aE)
def fn2:=aA3 (α:=aE)
def qY:=aDw (α:=aE)
noncomputable def jX(x1:(List aE))(x2:(aE->Bool))(x3:(aE->Bool))(x4:Int)(x5:Int):Option (((List aE)×((aE->Bool)×((aE->Bool)×bS)))⊕((Int×Unit)⊕Unit)):=
 if(decide (x5<x4))=true then
 if(decide ((0:Int)<=x5))=true then
 if(decide (x5<((length x1:Nat):Int)))=true then
 if(x2 (List.getD x1 (Int.toNat x5) qX))=true then
 if(x3 (List.getD x1 (Int.toNat x5) qX))=true then
 some (.inr (.inl (x5,())))
 else
 some (.inl (x1,(x2,(x3,(x4,((wrap .i64 (x5+(1:Int))),()))))))
 else
 none
 else
 none
 else
 none
 else
 some (.inr (.inr ()))
abbrev wf(x0:(List aE))(x1:((aE->Bool)×(aE->Bool))):Prop:=iM [(.val (.sl 0 zk9) .f),(.fn zk9 .bool)] (x0,(x1,()))
noncomputable def aQ(x0:(List aE))(x1:((aE->Bool)×(aE->Bool))):Option aAC:=
 if(cD.pre2 (x0,(x1.1,(x1.2,(((length x0:Nat):Int),((0:Int),()))))))=true then
  letB (cD.fn2 (x0,(x1.1,(x1.2,(((length x0:Nat):Int),((0:Int),())))))) fun v1=>
  match v1 with
  |.inl y=>
   some ((),y)
  |.inr y=>
   some ((),((-1:Int),()))
 else
  none
theorem ok2(x1:List aE)(x2 x3:aE->Bool)(x4 x5:Int)(hp:pre2 (x1,(x2,(x3,(x4,(x5,())))))=true):aX pre2 qY fn2 (x1,(x2,(x3,(x4,(x5,()))))) (jX x1 x2 x3 x4 x5):=by
 unfold jX
 by_cases hlt:x5<x4
 . obtain⟨h1,h2,h3,h4,h5⟩:=aAk hp hlt qX
   simp only[hlt,h1,h2,h3,decide_true,if_true]
   split
   . rename_i h;exact h4 h
   . rename_i h;exact h5 h
 . simp only[hlt,decide_false,Zj,if_false]
   exact aBD hp hlt
theorem eq(x0:List aE)(x1:(aE->Bool)×(aE->Bool))(hw:wf x0 x1)(hp:pre x0 x1=true):aQ x0 x1=some ((),(cD x0 x1,())):=by
 have h1:x0.length<=maxLen:=hw.1.1
 unfold aQ
 rw[if_pos (show pre2 _=true by simp only[pre2,qC,Zb,Za];exact⟨h1,trivial,by omega,by simp,hp⟩)]
 exact aBE x0 x1
end cD
def bY(xs:List aE)(p:(aE->Bool)×(aE->Bool)):Bool:=xs.any p.2
namespace bY
def pre(xs:List aE)(p:(aE->Bool)×(aE->Bool)):Bool:=xs.all p.1
abbrev wf(x0:(List aE))(x1:((aE->Bool)×(aE->Bool))):Prop:=iM [(.val (.sl 0 zk9) .f),(.fn zk9 .bool)] (x0,(x1,()))
noncomputable def aQ(x0:(List aE))(x1:((aE->Bool)×(aE->Bool))):Option mV:=
 if(cD.pre x0 x1)=true then
 letB (cD x0 x1) fun v1=>
 some ((),((decide ((0:Int)<=v1)),()))
 else
 none
theorem eq(x0:List aE)(x1:(aE->Bool)×(aE->Bool))(_:wf x0 x1)(hp:pre x0 x1=true):aQ x0 x1=some ((),(bY x0 x1,())):=by
 unfold aQ
 exact bO (show cD.pre _ _=true from hp) (congrArg (fun b=>some ((),(b,()))) (aCu x1.2 x0))
end bY
def bZ(xs:List aF)(p:(aF->Bool)×(aF->Bool)):Int:=lL p.2 xs 0
namespace bZ
def pre(xs:List aF)(p:(aF->Bool)×(aF->Bool)):Bool:=xs.all p.1
def pre2:=qC (α:=aF)
def fn2:=aA3 (α:=aF)
def qY:=aDw (α:=aF)
noncomputable def jX(x1:(List aF))(x2:(aF->Bool))(x3:(aF->Bool))(x4:Int)(x5:Int):Option (((List aF)×((aF->Bool)×((aF->Bool)×bS)))⊕((Int×Unit)⊕Unit)):=
 if(decide (x5<x4))=true then
 if(decide ((0:Int)<=x5))=true then
 if(decide (x5<((length x1:Nat):Int)))=true then
 if(x2 (List.getD x1 (Int.toNat x5) ((0:Int),mP)))=true then
 if(x3 (List.getD x1 (Int.toNat x5) ((0:Int),mP)))=true then
 some (.inr (.inl (x5,())))
 else
 some (.inl (x1,(x2,(x3,(x4,((wrap .i64 (x5+(1:Int))),()))))))
 else
 none
 else
 none
 else
 none
 else
 some (.inr (.inr ()))
abbrev wf(x0:(List aF))(x1:((aF->Bool)×(aF->Bool))):Prop:=iM [(.val (.sl 0 aDY) .f),(.fn aDY .bool)] (x0,(x1,()))
noncomputable def aQ(x0:(List aF))(x1:((aF->Bool)×(aF->Bool))):Option aAC:=
 if(bZ.pre2 (x0,(x1.1,(x1.2,(((length x0:Nat):Int),((0:Int),()))))))=true then
  letB (bZ.fn2 (x0,(x1.1,(x1.2,(((length x0:Nat):Int),((0:Int),())))))) fun v1=>
  match v1 with
  |.inl y=>
   some ((),y)
  |.inr y=>
   some ((),((-1:Int),()))
 else
  none
theorem ok2(x1:List aF)(x2 x3:aF->Bool)(x4 x5:Int)(hp:pre2 (x1,(x2,(x3,(x4,(x5,())))))=true):aX pre2 qY fn2 (x1,(x2,(x3,(x4,(x5,()))))) (jX x1 x2 x3 x4 x5):=by
 unfold jX
 by_cases hlt:x5<x4
 . obtain⟨h1,h2,h3,h4,h5⟩:=aAk hp hlt ((0:Int),mP)
   simp only[hlt,h1,h2,h3,decide_true,if_true]
   split
   . rename_i h;exact h4 h
   . rename_i h;exact h5 h
 . simp only[hlt,decide_false,Zj,if_false]
   exact aBD hp hlt
theorem eq(x0:List aF)(x1:(aF->Bool)×(aF->Bool))(hw:wf x0 x1)(hp:pre x0 x1=true):aQ x0 x1=some ((),(bZ x0 x1,())):=by
 have h1:x0.length<=maxLen:=hw.1.1
 unfold aQ
 rw[if_pos (show pre2 _=true by simp only[pre2,qC,Zb,Za];exact⟨h1,trivial,by omega,by simp,hp⟩)]
 exact aBE x0 x1
end bZ
def bM(xs:List aF)(p:(aF->Bool)×(aF->Bool)):Bool:=xs.any p.2
namespace bM
def pre(xs:List aF)(p:(aF->Bool)×(aF->Bool)):Bool:=xs.all p.1
abbrev wf(x0:(List aF))(x1:((aF->Bool)×(aF->Bool))):Prop:=iM [(.val (.sl 0 aDY) .f),(.fn aDY .bool)] (x0,(x1,()))
noncomputable def aQ(x0:(List aF))(x1:((aF->Bool)×(aF->Bool))):Option mV:=
 if(bZ.pre x0 x1)=true then
 letB (bZ x0 x1) fun v1=>
 some ((),((decide ((0:Int)<=v1)),()))
 else
 none
theorem eq(x0:List aF)(x1:(aF->Bool)×(aF->Bool))(_:wf x0 x1)(hp:pre x0 x1=true):aQ x0 x1=some ((),(bM x0 x1,())):=by
 unfold aQ
 exact bO (show bZ.pre _ _=true from hp) (congrArg (fun b=>some ((),(b,()))) (aCu x1.2 x0))
end bM
def cZ(n:Int):Bool:=aA n 0 3
namespace cZ
def pre(n:Int):Bool:=decide (n<=n)
abbrev wf(x0:Int):Prop:=iM [(.val (.int .i64) .f)] (x0,())
noncomputable def aQ(x0:Int):Option mV:=
 letB (aA x0 (0:Int) (3:Int)) fun v1=>
 some ((),(v1,()))
theorem eq(x0:Int)(_:wf x0)(_:pre x0=true):aQ x0=some ((),(cZ x0,())):=rfl
end cZ
def eD(n lo hi:Int):Bool:=!aA n lo hi
namespace eD
def pre(_ _ _:Int):Bool:=true
abbrev wf(x0:Int)(x1:Int)(x2:Int):Prop:=iM [(.val (.int .i64) .f),(.peek (.int .i64)),(.peek (.int .i64))] (x0,(x1,(x2,())))
noncomputable def aQ(x0:Int)(x1:Int)(x2:Int):Option mV:=
 letB (aA x0 x1 x2) fun v1=>
 some ((),((!v1),()))
theorem eq(x0 x1 x2:Int)(_:wf x0 x1 x2)(_:pre x0 x1 x2=true):aQ x0 x1 x2=some ((),(eD x0 x1 x2,())):=rfl
end eD
def bT(xs:List Int)(lo hi:Int):Bool:=xs.all fun n=>aA n lo hi
namespace bT
def pre(_:List Int)(lo _:Int):Bool:=decide (lo<=lo)
abbrev wf(x0:(List Int))(x1:Int)(x2:Int):Prop:=iM [(.val (.sl 0 (.int .i64)) .f),(.val (.int .i64) .f),(.val (.int .i64) .f)] (x0,(x1,(x2,())))
noncomputable def aQ(x0:(List Int))(x1:Int)(x2:Int):Option mV:=
 if(cE.pre x0 ((fun x=>(eD.pre x x1 x2)),(fun x=>(eD x x1 x2))))=true then
 letB (cE x0 ((fun x=>(eD.pre x x1 x2)),(fun x=>(eD x x1 x2)))) fun v1=>
 some ((),((!v1),()))
 else
 none
theorem eq(x0:List Int)(x1 x2:Int)(_:wf x0 x1 x2)(_:pre x0 x1 x2=true):aQ x0 x1 x2=some ((),(bT x0 x1 x2,())):=by
 unfold aQ
 refine bO (show cE.pre _ _=true by simp[cE.pre,eD.pre]) (congrArg (fun b=>some ((),(b,()))) ?_)
 show(!x0.any fun x=>!aA x x1 x2)=_
 rw[aGF,Bool.not_not];rfl
end bT
def eL(a:aF):Bool:=aA a.1 0 9&&(aA a.2.1 (-1) 100000&&(dQ a.2.2.1&&dQ a.2.2.2.1))
abbrev eE:=eL
abbrev iE:=eL
namespace eE
def pre(a:aF):Bool:=decide (a.1<=a.1)
abbrev wf(x0:aF):Prop:=iM [(.val aDY .f)] (x0,())
noncomputable def aQ(x0:aF):Option mV:=
 letB (aA x0.1 (0:Int) (9:Int)) fun v1=>
 if v1=true then
 letB (aA x0.2.1 (-1:Int) (100000:Int)) fun v2=>
 if v2=true then
 letB (dQ x0.2.2.1) fun v3=>
 if v3=true then
 letB (dQ x0.2.2.2.1) fun v4=>
 some ((),(v4,()))
 else
 some ((),(false,()))
 else
 some ((),(false,()))
 else
 some ((),(false,()))
theorem eq(x0:aF)(_:wf x0)(_:pre x0=true):aQ x0=some ((),(eE x0,())):=by
 unfold aQ eE eL
 simp only[letB]
 cases aA x0.1 0 9<;>cases aA x0.2.1 (-1) 100000<;>cases dQ x0.2.2.1<;>simp
end eE
namespace iE
def pre(a:aF):Bool:=decide (a.1<=a.1)
abbrev wf(x0:aF):Prop:=iM [(.val aDY .f)] (x0,())
noncomputable def aQ(x0:aF):Option mV:=
 letB (aA x0.1 (0:Int) (9:Int)) fun v1=>
 if v1=true then
 letB (aA x0.2.1 (-1:Int) (100000:Int)) fun v2=>
 if v2=true then
 letB (dQ x0.2.2.1) fun v3=>
 if v3=true then
 letB (dQ x0.2.2.2.1) fun v4=>
 some ((),(v4,()))
 else
 some ((),(false,()))
 else
 some ((),(false,()))
 else
 some ((),(false,()))
theorem eq(x0:aF)(_:wf x0)(_:pre x0=true):aQ x0=some ((),(iE x0,())):=by
 unfold aQ iE eL
 simp only[letB]
 cases aA x0.1 0 9<;>cases aA x0.2.1 (-1) 100000<;>cases dQ x0.2.2.1<;>simp
end iE
abbrev uJ:=cZ
def aB1(xs:List Int)(j:Nat):Bool:=uJ (xs.getD j (0:Int))&&(decide (j=0)||decide (xs.getD (j-1) (0:Int)<xs.getD j (0:Int)))
def iI(g:aE)(rows:Int):Bool:=decide ((g.2.2.1.length:Int)=(g.2.1.length:Int))&&(decide ((g.2.2.2.1.length:Int)=rows)&&(aA g.1 0 100000&&(vH (aB1 g.2.1) 0 g.2.1.length&&(bT g.2.2.1 0 100000&&bT g.2.2.2.1 0 100000))))
abbrev gU:=iI
namespace gU
abbrev S2:Type:=(Int×((List Int)×(Int×(Int×(aE×Unit)))))
abbrev O2:Type:=((Bool×Unit)⊕(Int×(aE×Unit)))
def pre(g:aE)(_:Int):Bool:=gC g
noncomputable def pre2:S2->Bool:=fun(_,x2,x3,x4,x5,_)=>same x2 x5.2.1&&(decide (x3=(x5.2.1.length:Int))&&rC x5.2.1.length x4)
def fn2:S2->O2:=fun(x1,_,_,x4,x5,_)=>zY (aB1 x5.2.1) x5.2.1.length x4 (x1,(x5,()))
def qY:S2->Nat:=fun(_,_,_,x4,x5,_)=>x5.2.1.length-x4.toNat
noncomputable def jX(x1:Int)(x2:(List Int))(x3:Int)(x4:Int)(x5:aE):Option ((Int×((List Int)×(Int×(Int×(aE×Unit)))))⊕((Bool×Unit)⊕(Int×(aE×Unit)))):=
 if(decide (x4<x3))=true then
 if(decide ((0:Int)<=x4))=true then
 if(decide (x4<((length x2:Nat):Int)))=true then
 if(cZ.pre (List.getD x2 (Int.toNat x4) (0:Int)))=true then
 letB (uJ (List.getD x2 (Int.toNat x4) (0:Int))) fun v1=>
 if(!v1)=true then
 some (.inr (.inl (false,())))
 else
 if(decide ((0:Int)<x4))=true then
 if(decide ((0:Int)<=(wrap .i64 (x4-(1:Int)))))=true then
 if(decide ((wrap .i64 (x4-(1:Int)))<((length x5.2.1:Nat):Int)))=true then
 if(decide ((List.getD x2 (Int.toNat x4) (0:Int))<=(List.getD x5.2.1 (Int.toNat (wrap .i64 (x4-(1:Int)))) (0:Int))))=true then
 some (.inr (.inl (false,())))
 else
 some (.inl (x1,(x2,(x3,((wrap .i64 (x4+(1:Int))),(x5,()))))))
 else
 none
 else
 none
 else
 some (.inl (x1,(x2,(x3,((wrap .i64 (x4+(1:Int))),(x5,()))))))
 else
 none
 else
 none
 else
 none
 else
 some (.inr (.inr (x1,(x5,()))))
abbrev wf(x0:aE)(x1:Int):Prop:=iM [(.val zk9 .f),(.val (.int .i64) .f)] (x0,(x1,()))
noncomputable def aQ(x0:aE)(x1:Int):Option mV:=
 if(gU.pre2 (x1,(x0.2.1,(((length x0.2.1:Nat):Int),((0:Int),(x0,()))))))=true then
  letB (gU.fn2 (x1,(x0.2.1,(((length x0.2.1:Nat):Int),((0:Int),(x0,())))))) fun v1=>
  match v1 with
  |.inl y=>
   some ((),y)
  |.inr y=>
   letB (aA y.2.1.1 (0:Int) (100000:Int)) fun v2=>
   if v2=true then
    if(decide (((length y.2.1.2.2.1:Nat):Int)=((length y.2.1.2.1:Nat):Int)))=true then
     if(bT.pre y.2.1.2.2.1 (0:Int) (100000:Int))=true then
      letB (bT y.2.1.2.2.1 (0:Int) (100000:Int)) fun v3=>
      if v3=true then
       if(decide (((length y.2.1.2.2.2.1:Nat):Int)=y.1))=true then
        if(bT.pre y.2.1.2.2.2.1 (0:Int) (100000:Int))=true then
         letB (bT y.2.1.2.2.2.1 (0:Int) (100000:Int)) fun v4=>
         some ((),(v4,()))
        else
         none
       else
        some ((),(false,()))
      else
       some ((),(false,()))
     else
      none
    else
     some ((),(false,()))
   else
    some ((),(false,()))
 else
  none
theorem ok2(x1:Int)(x2:List Int)(x3 x4:Int)(x5:aE)(hp:pre2 (x1,(x2,(x3,(x4,(x5,())))))=true):aX pre2 qY fn2 (x1,(x2,(x3,(x4,(x5,()))))) (jX x1 x2 x3 x4 x5):=by
 simp only[pre2,Zb,Za,pF] at hp
 obtain⟨rfl,rfl,ha⟩:=hp
 obtain⟨h1,h2,h3⟩:=oH ha
 unfold jX
 by_cases hlt:x4<(x5.2.1.length:Int)
 . obtain⟨n1,n2,n3,n4⟩:=zZ ha hlt
   have nxt:aB1 x5.2.1 x4.toNat=true->aX pre2 qY fn2 (x1,(x5.2.1,((x5.2.1.length:Int),(x4,(x5,()))))) (some (.inl (x1,(x5.2.1,((x5.2.1.length:Int),(x4+1,(x5,()))))))):=
    fun h=>⟨by simp only[pre2,nZ,n2];simp,n3,aA8 ha hlt h⟩
   have stp:aB1 x5.2.1 x4.toNat=false->aX pre2 qY fn2 (x1,(x5.2.1,((x5.2.1.length:Int),(x4,(x5,()))))) (some (.inr (.inl (false,())))):=fun h=>zR ha hlt h
   simp only[letB,n1,hlt,h2,decide_true,if_true,show cZ.pre (x5.2.1.getD x4.toNat (0:Int))=true from Zd (Int.le_refl _)]
   simp only[aB1] at nxt stp
   by_cases h0:0<x4
   . obtain⟨p1,p2,p3,p4,p5⟩:=zU ha h0
     simp only[p1,p2,p3,p4,h0,decide_true,if_true]
     simp only[p5,decide_false,Bool.false_or] at nxt stp
     generalize x5.2.1.getD x4.toNat (0:Int)=e at *
     generalize x5.2.1.getD (x4.toNat-1) (0:Int)=e' at *
     generalize uJ e=b1 at *
     by_cases hd:e<=e'
     . simp only[hd,show ¬e'<e by omega,decide_true,decide_false,if_true] at *
       cases b1<;>exact stp rfl
     . simp only[hd,show e'<e by omega,decide_true,decide_false] at *
       cases b1
       . exact stp rfl
       . exact nxt rfl
   . have p5:x4.toNat=0:=by omega
     simp only[h0,decide_false,Zj,if_false]
     simp only[p5,decide_true,Bool.true_or,Bool.and_true] at nxt stp ⊢
     generalize x5.2.1.getD 0 (0:Int)=e at *
     generalize uJ e=b1 at *
     cases b1
     . exact stp rfl
     . exact nxt rfl
 . rw[if_neg (by simp[hlt])]
   exact aBG ha hlt
theorem eq(x0:aE)(x1:Int)(_:wf x0 x1)(hp:pre x0 x1=true):aQ x0 x1=some ((),(gU x0 x1,())):=by
 have hp:gC x0=true:=hp
 simp only[gC,Zb,bJ] at hp
 unfold aQ gU iI
 rw[if_pos (show pre2 (x1,(x0.2.1,((x0.2.1.length:Int),((0:Int),(x0,())))))=true by simp only[pre2,nZ,wM hp.1];simp),
  show fn2 (x1,(x0.2.1,((x0.2.1.length:Int),((0:Int),(x0,())))))=_ from aBC]
 simp only[letB]
 cases vH (aB1 x0.2.1) 0 x0.2.1.length
 . simp
 simp only[cond_true,show ∀l:List Int,bT.pre l 0 100000=true from fun _=>rfl,if_true]
 cases aA x0.1 0 100000<;>cases decide ((x0.2.2.1.length:Int)=(x0.2.1.length:Int))<;>cases decide ((x0.2.2.2.1.length:Int)=x1)<;>cases bT x0.2.2.1 0 100000<;>rfl
end gU
def eP(r:bW):Bool:=!fI r
namespace eP
def pre(r:bW):Bool:=bQ r.2.2.1
abbrev wf(x0:bW):Prop:=iM [(.val tK .f)] (x0,())
noncomputable def aQ(x0:bW):Option mV:=
 if(dN.pre x0)=true then
 letB (fI x0) fun v1=>
 some ((),((!v1),()))
 else
 none
theorem eq(x0:bW)(_:wf x0)(hp:pre x0=true):aQ x0=some ((),(eP x0,())):=bO (show dN.pre x0=true from hp) rfl
end eP
def eR(g:aE)(s:aP):Bool:=!iI g s.1
namespace eR
def pre(g:aE)(_:aP):Bool:=gC g
abbrev wf(x0:aE)(x1:aP):Prop:=iM [(.val zk9 .f),(.peek vY)] (x0,(x1,()))
noncomputable def aQ(x0:aE)(x1:aP):Option mV:=
 if(gU.pre x0 x1.1)=true then
 letB (iI x0 x1.1) fun v1=>
 some ((),((!v1),()))
 else
 none
theorem eq(x0:aE)(x1:aP)(_:wf x0 x1)(hp:pre x0 x1=true):aQ x0 x1=some ((),(eR x0 x1,())):=bO (show gU.pre x0 x1.1=true from hp) rfl
end eR
def eF(a:aF):Bool:=!eL a
namespace eF
def pre(a:aF):Bool:=decide (a.1<=a.1)
abbrev wf(x0:aF):Prop:=iM [(.val aDY .f)] (x0,())
noncomputable def aQ(x0:aF):Option mV:=
 if(eE.pre x0)=true then
 letB (eL x0) fun v1=>
 some ((),((!v1),()))
 else
 none
theorem eq(x0:aF)(_:wf x0)(_:pre x0=true):aQ x0=some ((),(eF x0,())):=bO (show eE.pre x0=true from Zd (Int.le_refl _)) rfl
end eF
def yF(mk:aC->Int->Bool)(s:aP)(ms:List aC)(j:Nat):Bool:=
 mk (ms.getD j kK) s.2.1&&(decide ((ms.getD j kK).1<s.1)&&(decide (j=0)||(decide ((ms.getD (j-1) kK).1<=(ms.getD j kK).1)&&!(decide ((ms.getD (j-1) kK).1=(ms.getD j kK).1)&&decide ((ms.getD j kK).2.1<=(ms.getD (j-1) kK).2.1)))))
def aCi(mk:aC->Int->Bool)(s:aP)(k:bB):Bool:=
 dK s&&(decide ((k.1.length:Int)=s.1)&&(decide ((k.2.2.1.length:Int)=2)&&(aA k.2.2.2.1 0 100000&&(decide ((k.2.2.2.2.1.length:Int)=4)&&(bT k.2.2.2.2.1 0 100000&&(decide ((k.2.2.2.2.2.1.length:Int)=4)&&
  (vH (yF mk s k.2.1) 0 k.2.1.length&&(k.1.all fI&&(k.2.2.1.all (fun g=>iI g s.1)&&k.2.2.2.2.2.1.all eL)))))))))
def dY(s:aP)(k:bB):Bool:=aCi dH s k
theorem vN{α:Type}(f:α->Bool)(xs:List α):(!xs.any fun x=>!f x)=xs.all f:=by rw[aGF,Bool.not_not]
def tX(x:bB):Bool:=bQ x.1&&(x.1.all (fun r:bW=>bQ r.2.2.1)&&(bQ x.2.1&&(x.2.1.all (fun m:aC=>bQ m.2.2.2.2.1)&&(bQ x.2.2.1&&(x.2.2.1.all gC&&(bQ x.2.2.2.2.1&&bQ x.2.2.2.2.2.1))))))
namespace dY
abbrev S4:Type:=((List aC)×(Int×(Int×(aP×(bB×Unit)))))
abbrev O4:Type:=((Bool×Unit)⊕(aP×(bB×Unit)))
def pre(_:aP)(k:bB):Bool:=tX k
noncomputable def pre4:S4->Bool:=fun(x1,x2,x3,_,x5,_)=>same x1 x5.2.1&&(decide (x2=(x5.2.1.length:Int))&&(x5.2.1.all (fun m:aC=>bQ m.2.2.2.2.1)&&rC x5.2.1.length x3))
def fn4:S4->O4:=fun(_,_,x3,x4,x5,_)=>zY (yF dH x4 x5.2.1) x5.2.1.length x3 (x4,(x5,()))
def kU:S4->Nat:=fun(_,_,x3,_,x5,_)=>x5.2.1.length-x3.toNat
noncomputable def eO(x1:(List aC))(x2:Int)(x3:Int)(x4:aP)(x5:bB):Option (((List aC)×(Int×(Int×(aP×(bB×Unit)))))⊕((Bool×Unit)⊕(aP×(bB×Unit)))):=
 if(decide (x3<x2))=true then
 if(decide ((0:Int)<=x3))=true then
 if(decide (x3<((length x1:Nat):Int)))=true then
 if(dH.pre (List.getD x1 (Int.toNat x3) kK) x4.2.1)=true then
 letB (dH (List.getD x1 (Int.toNat x3) kK) x4.2.1) fun v1=>
 if(!v1)=true then
 some (.inr (.inl (false,())))
 else
 if(decide (x4.1<=(List.getD x1 (Int.toNat x3) kK).1))=true then
 some (.inr (.inl (false,())))
 else
 if(decide ((0:Int)<x3))=true then
 if(decide ((0:Int)<=(wrap .i64 (x3-(1:Int)))))=true then
 if(decide ((wrap .i64 (x3-(1:Int)))<((length x5.2.1:Nat):Int)))=true then
 if(decide ((List.getD x1 (Int.toNat x3) kK).1<(List.getD x5.2.1 (Int.toNat (wrap .i64 (x3-(1:Int)))) kK).1))=true then
 some (.inr (.inl (false,())))
 else
 if(decide ((0:Int)<=(wrap .i64 (x3-(1:Int)))))=true then
 if(decide ((wrap .i64 (x3-(1:Int)))<((length x5.2.1:Nat):Int)))=true then
 if(decide ((List.getD x5.2.1 (Int.toNat (wrap .i64 (x3-(1:Int)))) kK).1=(List.getD x1 (Int.toNat x3) kK).1))=true then
 if(decide ((0:Int)<=(wrap .i64 (x3-(1:Int)))))=true then
 if(decide ((wrap .i64 (x3-(1:Int)))<((length x5.2.1:Nat):Int)))=true then
 if(decide ((List.getD x1 (Int.toNat x3) kK).2.1<=(List.getD x5.2.1 (Int.toNat (wrap .i64 (x3-(1:Int)))) kK).2.1))=true then
 some (.inr (.inl (false,())))
 else
 some (.inl (x1,(x2,((wrap .i64 (x3+(1:Int))),(x4,(x5,()))))))
 else
 none
 else
 none
 else
 some (.inl (x1,(x2,((wrap .i64 (x3+(1:Int))),(x4,(x5,()))))))
 else
 none
 else
 none
 else
 none
 else
 none
 else
 some (.inl (x1,(x2,((wrap .i64 (x3+(1:Int))),(x4,(x5,()))))))
 else
 none
 else
 none
 else
 none
 else
 some (.inr (.inr (x4,(x5,()))))
abbrev wf(x0:aP)(x1:bB):Prop:=iM [(.val vY .f),(.val zk1 .f)] (x0,(x1,()))
noncomputable def aQ(x0:aP)(x1:bB):Option mV:=
 letB (dK x0) fun v1=>
 if(!v1)=true then
  some ((),(false,()))
 else
  if(!(decide (((length x1.1:Nat):Int)=x0.1)))=true then
   some ((),(false,()))
  else
   if(!(decide (((length x1.2.2.1:Nat):Int)=(2:Int))))=true then
    some ((),(false,()))
   else
    letB (aA x1.2.2.2.1 (0:Int) (100000:Int)) fun v2=>
    if(!v2)=true then
     some ((),(false,()))
    else
     if(!(decide (((length x1.2.2.2.2.1:Nat):Int)=(4:Int))))=true then
      some ((),(false,()))
     else
      if(bT.pre x1.2.2.2.2.1 (0:Int) (100000:Int))=true then
       letB (bT x1.2.2.2.2.1 (0:Int) (100000:Int)) fun v3=>
       if(!v3)=true then
        some ((),(false,()))
       else
        if(!(decide (((length x1.2.2.2.2.2.1:Nat):Int)=(4:Int))))=true then
         some ((),(false,()))
        else
         if(dY.pre4 (x1.2.1,(((length x1.2.1:Nat):Int),((0:Int),(x0,(x1,()))))))=true then
          letB (dY.fn4 (x1.2.1,(((length x1.2.1:Nat):Int),((0:Int),(x0,(x1,())))))) fun v4=>
          match v4 with
          |.inl y=>
           some ((),y)
          |.inr y=>
           if(cH.pre y.2.1.1 ((fun x=>(eP.pre x)),(fun x=>(eP x))))=true then
            if(bY.pre y.2.1.2.2.1 ((fun x=>(eR.pre x y.1)),(fun x=>(eR x y.1))))=true then
             if(bM.pre y.2.1.2.2.2.2.2.1 ((fun x=>(eF.pre x)),(fun x=>(eF x))))=true then
              letB (cH y.2.1.1 ((fun x=>(eP.pre x)),(fun x=>(eP x)))) fun v5=>
              if(!v5)=true then
               letB (bY y.2.1.2.2.1 ((fun x=>(eR.pre x y.1)),(fun x=>(eR x y.1)))) fun v6=>
               if(!v6)=true then
                letB (bM y.2.1.2.2.2.2.2.1 ((fun x=>(eF.pre x)),(fun x=>(eF x)))) fun v7=>
                some ((),((!v7),()))
               else
                some ((),(false,()))
              else
               some ((),(false,()))
             else
              none
            else
             none
           else
            none
         else
          none
      else
       none
theorem vZ(x1:List aC)(x2 x3:Int)(x4:aP)(x5:bB)(hp:pre4 (x1,(x2,(x3,(x4,(x5,())))))=true):aX pre4 kU fn4 (x1,(x2,(x3,(x4,(x5,()))))) (eO x1 x2 x3 x4 x5):=by
 simp only[pre4,Zb,Za,pF] at hp
 obtain⟨rfl,rfl,hs,ha⟩:=hp
 obtain⟨h1,h2,h3⟩:=oH ha
 unfold eO
 by_cases hlt:x3<(x5.2.1.length:Int)
 . obtain⟨n1,n2,n3,n4⟩:=zZ ha hlt
   have nxt:yF dH x4 x5.2.1 x3.toNat=true->aX pre4 kU fn4 (x5.2.1,((x5.2.1.length:Int),(x3,(x4,(x5,()))))) (some (.inl (x5.2.1,((x5.2.1.length:Int),(x3+1,(x4,(x5,()))))))):=
    fun h=>⟨by simp only[pre4,nZ,n2,hs];simp,n3,aA8 ha hlt h⟩
   have stp:yF dH x4 x5.2.1 x3.toNat=false->aX pre4 kU fn4 (x5.2.1,((x5.2.1.length:Int),(x3,(x4,(x5,()))))) (some (.inr (.inl (false,())))):=fun h=>zR ha hlt h
   have hq:dH.pre (x5.2.1.getD x3.toNat kK) x4.2.1=true:=aHJ hs (show x3.toNat<x5.2.1.length by omega) _
   simp only[letB,n1,hlt,h2,hq,decide_true,if_true]
   simp only[yF] at nxt stp
   generalize dH (x5.2.1.getD x3.toNat kK) x4.2.1=b1 at *
   by_cases h0:0<x3
   . obtain⟨p1,p2,p3,p4,p5⟩:=zU ha h0
     simp only[p1,p2,p3,p4,h0,decide_true,if_true]
     simp only[p5,decide_false,Bool.false_or] at nxt stp
     generalize x5.2.1.getD x3.toNat kK=e at *
     generalize x5.2.1.getD (x3.toNat-1) kK=e' at *
     cases b1
     . exact stp rfl
     by_cases c1:x4.1<=e.1
     . simp only[c1,show ¬e.1<x4.1 by omega,decide_true,decide_false] at *
       exact stp rfl
     by_cases c2:e.1<e'.1
     . simp only[c1,c2,show e.1<x4.1 by omega,show ¬e'.1<=e.1 by omega,decide_true,decide_false] at *
       exact stp rfl
     by_cases c3:e'.1=e.1
     . by_cases c4:e.2.1<=e'.2.1
       . simp only[c1,c2,c3,c4,show e.1<x4.1 by omega,show e'.1<=e.1 by omega,Int.le_refl,Int.lt_irrefl,decide_true,decide_false] at *
         exact stp rfl
       . simp only[c1,c2,c3,c4,show e.1<x4.1 by omega,show e'.1<=e.1 by omega,Int.le_refl,Int.lt_irrefl,decide_true,decide_false] at *
         exact nxt rfl
     . simp only[c1,c2,c3,show e.1<x4.1 by omega,show e'.1<=e.1 by omega,decide_true,decide_false] at *
       exact nxt rfl
   . have p5:x3.toNat=0:=by omega
     simp only[h0,decide_false,Zj,if_false]
     simp only[p5,decide_true,Bool.true_or,Bool.and_true] at nxt stp ⊢
     generalize x5.2.1.getD 0 kK=e at *
     cases b1
     . exact stp rfl
     by_cases c1:x4.1<=e.1
     . simp only[c1,show ¬e.1<x4.1 by omega,decide_true,decide_false] at *
       exact stp rfl
     . simp only[c1,show e.1<x4.1 by omega,decide_true,decide_false] at *
       exact nxt rfl
 . rw[if_neg (by simp[hlt])]
   exact aBG ha hlt
theorem eq(x0:aP)(x1:bB)(_:wf x0 x1)(hp:pre x0 x1=true):aQ x0 x1=some ((),(dY x0 x1,())):=by
 have hp:tX x1=true:=hp
 simp only[tX,Zb] at hp
 obtain⟨a1,a2,a3,a4,a5,a6,a7,a8⟩:=hp
 unfold aQ dY aCi
 simp only[letB]
 cases dK x0
 . rfl
 by_cases b1:(x1.1.length:Int)=x0.1
 case neg=>rw[if_neg (by decide),if_pos (by simp[b1]),decide_eq_false b1];rfl
 rw[if_neg (by decide),if_neg (by simp[b1]),Zd b1]
 by_cases b2:(x1.2.2.1.length:Int)=2
 case neg=>rw[if_pos (by simp[b2]),decide_eq_false b2];rfl
 rw[if_neg (by simp[b2]),Zd b2]
 cases aA x1.2.2.2.1 0 100000
 . rfl
 by_cases b3:(x1.2.2.2.2.1.length:Int)=4
 case neg=>rw[if_neg (by decide),if_pos (by simp[b3]),decide_eq_false b3];rfl
 rw[if_neg (by decide),if_neg (by simp[b3]),Zd b3,if_pos (show bT.pre x1.2.2.2.2.1 0 100000=true from rfl)]
 cases bT x1.2.2.2.2.1 0 100000
 . rfl
 by_cases b4:(x1.2.2.2.2.2.1.length:Int)=4
 case neg=>rw[if_neg (by decide),if_pos (by simp[b4]),decide_eq_false b4];rfl
 rw[if_neg (by decide),if_neg (by simp[b4]),Zd b4,
  if_pos (show pre4 (x1.2.1,((x1.2.1.length:Int),((0:Int),(x0,(x1,())))))=true by simp only[pre4,nZ,wM (bJ.1 a3),a4];simp),
  show fn4 (x1.2.1,((x1.2.1.length:Int),((0:Int),(x0,(x1,())))))=_ from aBC]
 cases vH (yF dH x0 x1.2.1) 0 x1.2.1.length
 . rfl
 simp only[cond_true]
 rw[if_pos (show cH.pre x1.1 ((fun x=>eP.pre x),fun x=>eP x)=true from a2),
  if_pos (show bY.pre x1.2.2.1 ((fun x=>eR.pre x x0),fun x=>eR x x0)=true from a6),
  if_pos (show bM.pre x1.2.2.2.2.2.1 ((fun x=>eF.pre x),fun x=>eF x)=true by simp[bM.pre,eF.pre]),
  show(!cH x1.1 ((fun x=>eP.pre x),fun x=>eP x))=x1.1.all fI from vN _ _,
  show(!bY x1.2.2.1 ((fun x=>eR.pre x x0),fun x=>eR x x0))=x1.2.2.1.all (fun g=>iI g x0.1) from vN (fun g=>iI g x0.1) _,
  show(!bM x1.2.2.2.2.2.1 ((fun x=>eF.pre x),fun x=>eF x))=x1.2.2.2.2.2.1.all eL from vN _ _]
 cases x1.1.all fI
 . rfl
 cases x1.2.2.1.all (fun g=>iI g x0.1)<;>rfl
end dY
def Wp{α:Type}(m:Option α)(Q:α->Prop):Prop:=∃a,m=some a/\Q a
section
variable {α β:Type} {Q:α->Prop}
theorem aH{a:α}(h:Q a):Wp (some a) Q:=⟨a,rfl,h⟩
theorem aG{c:Prop}[Decidable c]{A B:Option α}(h:c)(r:Wp A Q):Wp (if c then A else B) Q:=by rw[if_pos h];exact r
theorem eG{c:Prop}[Decidable c]{A B:Option α}(h:¬c)(r:Wp B Q):Wp (if c then A else B) Q:=by rw[if_neg h];exact r
theorem cF{c:Prop}[Decidable c]{A B:Option α}(h1:c->Wp A Q)(h2:¬c->Wp B Q):Wp (if c then A else B) Q:=by
 by_cases h:c
 . exact aG h (h1 h)
 . exact eG h (h2 h)
theorem bR{a:β}{f:β->Option α}(r:Wp (f a) Q):Wp (letB a f) Q:=r
theorem cW{P:β->Prop}{a:β}{f:β->Option α}(h:P a)(r:∀b,P b->Wp (f b) Q):Wp (letB a f) Q:=r a h
def yP[Inhabited α](m:Option α):α:=m.getD default
theorem jP[Inhabited α]{m:Option α}(h:Wp m Q):m=some (yP m)/\Q (yP m):=by
 obtain⟨a,rfl,h⟩:=h
 exact⟨rfl,h⟩
end
section
variable {S O:Type} [Inhabited O]
noncomputable def aBd(aQ:S->Option (S⊕O)):Nat->S->O
 |0,_=>default
 |n+1,s=>match aQ s with
  |some (.inl t)=>aBd aQ n t
  |some (.inr o)=>o
  |none=>default
noncomputable def zS(aQ:S->Option (S⊕O))(mu:S->Nat)(s:S):O:=aBd aQ (mu s+1) s
def hJ(pre:S->Bool)(mu:S->Nat)(Q:S->O->Prop)(s:S)(r:S⊕O):Prop:=match r with
 |.inl t=>pre t=true/\mu t<mu s/\∀o,Q t o->Q s o
 |.inr o=>Q s o
variable {pre:S->Bool} {mu:S->Nat} {Q:S->O->Prop} {aQ:S->Option (S⊕O)}
theorem aDk(h:∀s,pre s=true->Wp (aQ s) (hJ pre mu Q s)):(n m:Nat)->(s:S)->pre s=true->mu s<n->mu s<m->aBd aQ n s=aBd aQ m s
 |n+1,m+1,s,hp,h1,h2=>by
  obtain⟨r,e,hr⟩:=h s hp
  simp only[aBd,e]
  cases r with
  |inl t=>exact aDk h n m t hr.1 (by have:=hr.2.1;omega) (by have:=hr.2.1;omega)
  |inr o=>rfl
 |0,_,_,_,h1,_=>by omega
 |_+1,0,_,_,_,h2=>by omega
theorem aHU(h:∀s,pre s=true->Wp (aQ s) (hJ pre mu Q s)):(n:Nat)->(s:S)->pre s=true->mu s<n->Q s (aBd aQ n s)
 |n+1,s,hp,h1=>by
  obtain⟨r,e,hr⟩:=h s hp
  simp only[aBd,e]
  cases r with
  |inl t=>exact hr.2.2 _ (aHU h n t hr.1 (by have:=hr.2.1;omega))
  |inr o=>exact hr
 |0,_,_,h1=>by omega
theorem rI(h:∀s,pre s=true->Wp (aQ s) (hJ pre mu Q s)){s:S}(hp:pre s=true):Q s (zS aQ mu s):=aHU h _ s hp (Nat.lt_succ_self _)
theorem oN(h:∀s,pre s=true->Wp (aQ s) (hJ pre mu Q s)){s:S}(hp:pre s=true):aX pre mu (zS aQ mu) s (aQ s):=by
 obtain⟨r,e,hr⟩:=h s hp
 rw[e]
 cases r with
 |inl t=>
  refine⟨hr.1,hr.2.1,?_⟩
  show aBd aQ _ t=aBd aQ (mu s+1) s
  simp only[aBd,e]
  exact aDk h _ _ t hr.1 (Nat.lt_succ_self _) hr.2.1
 |inr o=>
  show o=aBd aQ (mu s+1) s
  simp only[aBd,e]
end
section
variable {S A B:Type} [Inhabited A]
noncomputable def aJk(aQ:S->Option (S⊕(A⊕B)))(mu:S->Nat)(s:S):A⊕B:=@zS S (A⊕B) ⟨.inl default⟩ aQ mu s
variable {pre:S->Bool} {mu:S->Nat} {Q:S->(A⊕B)->Prop} {aQ:S->Option (S⊕(A⊕B))}
theorem aHC(h:∀s,pre s=true->Wp (aQ s) (hJ pre mu Q s)){s:S}(hp:pre s=true):Q s (aJk aQ mu s):=@rI S (A⊕B) ⟨.inl default⟩ pre mu Q aQ h s hp
theorem aGx(h:∀s,pre s=true->Wp (aQ s) (hJ pre mu Q s)){s:S}(hp:pre s=true):aX pre mu (aJk aQ mu) s (aQ s):=@oN S (A⊕B) ⟨.inl default⟩ pre mu Q aQ h s hp
end
abbrev kM:Type:=List Int×bS
def mE(c:kM):Bool:=decide (0<=c.2.1)&&decide (c.1.length<=16777216)
theorem zG{c:kM}:mE c=true↔0<=c.2.1/\c.1.length<=16777216:=by simp only[mE,Zb,Za]
def dP{α:Type}(Q:α->Prop)(v:kM×α):Prop:=mE v.1=true/\Q v.2
theorem aIo(x:Int):0<=intBits .and .i64 x 255/\intBits .and .i64 x 255<=255:=by
 have h:(intBits .and .i64 x 255)=wrap .i64 (((BitVec.ofInt 64 x)&&&(BitVec.ofInt 64 255)).toNat:Int):=rfl
 rw[h,BitVec.toNat_and,aHu (x:=255) (by omega) (by decide)]
 have h2:(BitVec.ofInt 64 x).toNat&&&Int.toNat 255=(BitVec.ofInt 64 x).toNat%256:=Nat.and_two_pow_sub_one_eq_mod _ 8
 rw[h2,lN (by omega) (by omega)]
 omega
def mB(lo hi:Int)(n:Int):Prop:=lo<=n/\n<=hi
namespace dW
abbrev S3:Type:=lX
abbrev O3:Type:=((List Int)×(Int×Unit))
def pre3:S3->Bool:=fun(x1,_,x3,_)=>decide (0<=x3)&&decide (x1.length<=16777216)
def mu3:S3->Nat:=fun(x1,_,x3,_)=>x1.length-x3.toNat
noncomputable def aAh(x1:(List Int))(x2:Int)(x3:Int):Option (lX⊕((List Int)×(Int×Unit))):=
 if(decide (x3<((length x1:Nat):Int)))=true then
 if(decide (x3<(4000:Int)))=true then
 if(decide ((0:Int)<=x3))=true then
 if(decide (x3<((length x1:Nat):Int)))=true then
 some (.inl (x1,((intBits .and .i64 (wrap .i64 ((wrap .i64 ((wrap .i64 (x2*(131:Int)))+(wrap .i64 (List.getD x1 (Int.toNat x3) (0:Int)))))+(7:Int))) (1073741823:Int)),((wrap .i64 (x3+(1:Int))),()))))
 else
 none
 else
 none
 else
 some (.inr (x1,(x2,())))
 else
 some (.inr (x1,(x2,())))
theorem wp3:∀s,pre3 s=true->Wp ((fun(x:S3)=>aAh x.1 x.2.1 x.2.2.1) s) (hJ pre3 mu3 (fun _ (o:O3)=>o.1.length<=16777216) s):=by
 rintro⟨x1,x2,x3,⟨⟩⟩ hp
 simp only[pre3,Zb,Za] at hp
 show Wp (aAh x1 x2 x3) _
 unfold aAh
 refine cF (fun h1=>cF (fun h2=>?_) fun _=>aH hp.2) fun _=>aH hp.2
 rw[Za] at h1 h2
 refine aG (Zd hp.1) (aG (Zd h1) (aH ?_))
 refine⟨?_,?_,fun o h=>h⟩
 . simp only[pre3,Zb,Za,lN (n:=x3+1) (by omega) (by omega)];omega
 . simp only[mu3,lN (n:=x3+1) (by omega) (by omega)];omega
noncomputable def fn3:S3->O3:=zS (fun(x:S3)=>aAh x.1 x.2.1 x.2.2.1) mu3
theorem ok3(x1:List Int)(x2 x3:Int)(hp:pre3 (x1,(x2,(x3,())))=true):aX pre3 mu3 fn3 (x1,(x2,(x3,()))) (aAh x1 x2 x3):=oN wp3 hp
def pre(x:List Int):Bool:=bQ x
abbrev wf(x0:(List Int)):Prop:=iM [(.val (.sl 0 (.int .u8)) .f)] (x0,())
noncomputable def aQ(x0:(List Int)):Option (Unit×(lX×Unit)):=
 if(dW.pre3 (x0,((wrap .i64 ((24548:Int)+((length x0:Nat):Int))),((0:Int),()))))=true then
 letB (dW.fn3 (x0,((wrap .i64 ((24548:Int)+((length x0:Nat):Int))),((0:Int),())))) fun v1=>
 some ((),((v1.1,((0:Int),v1.2)),()))
 else
 none
theorem wp(x0:List Int)(hp:pre x0=true):Wp (aQ x0) (fun r=>mE r.2.1=true):=by
 have hs:=bJ.1 hp
 unfold aQ
 have h3:pre3 (x0,((wrap .i64 ((24548:Int)+(x0.length:Int))),((0:Int),())))=true:=by
  simp only[pre3,Zb,Za];omega
 refine aG h3 (cW (P:=fun o:O3=>o.1.length<=16777216) (rI wp3 h3) fun v hv=>aH ?_)
 rw[zG]
 exact⟨Int.le_refl _,hv⟩
noncomputable def val(x0:List Int):kM:=(yP (aQ x0)).2.1
theorem eq(x0:List Int)(_:wf x0)(hp:pre x0=true):aQ x0=some ((),(val x0,())):=(jP (wp x0 hp)).1
end dW
noncomputable def dW(x0:List Int):kM:=dW.val x0
theorem tI{x0:List Int}(hp:bQ x0=true):mE (dW x0)=true:=(jP (dW.wp x0 hp)).2
namespace eA
def pre(c:kM):Bool:=mE c
abbrev wf(x0:lX):Prop:=iM [(.ref aB9 .f)] (x0,())
noncomputable def aQ(x0:lX):Option ((lX×Unit)×(Int×Unit)):=
 if(decide ((0:Int)<=(33:Int)))=true then
 if(decide ((0:Int)<=(45:Int)))=true then
 if(decide (x0.2.1<((length x0.1:Nat):Int)))=true then
 if(decide ((0:Int)<=x0.2.1))=true then
 if(decide (x0.2.1<((length x0.1:Nat):Int)))=true then
 some (((x0.1,((wrap .i64 (x0.2.1+(1:Int))),((wrap .i64 ((wrap .i64 (x0.2.2.1*(6364136223846793005:Int)))+(1442695040888963407:Int))),x0.2.2.2))),()),((intBits .and .i64 (wrap .i64 ((intBits .and .i64 (intBits .xor .i64 (Int.fdiv (wrap .i64 ((wrap .i64 (x0.2.2.1*(6364136223846793005:Int)))+(1442695040888963407:Int))) (2^min (Int.toNat (33:Int)) (IntKind.bits .i64))) (Int.fdiv (wrap .i64 ((wrap .i64 (x0.2.2.1*(6364136223846793005:Int)))+(1442695040888963407:Int))) (2^min (Int.toNat (45:Int)) (IntKind.bits .i64)))) (255:Int))+(wrap .i64 (List.getD x0.1 (Int.toNat x0.2.1) (0:Int))))) (255:Int)),()))
 else
 none
 else
 none
 else
 some (((x0.1,(x0.2.1,((wrap .i64 ((wrap .i64 (x0.2.2.1*(6364136223846793005:Int)))+(1442695040888963407:Int))),x0.2.2.2))),()),((intBits .and .i64 (intBits .xor .i64 (Int.fdiv (wrap .i64 ((wrap .i64 (x0.2.2.1*(6364136223846793005:Int)))+(1442695040888963407:Int))) (2^min (Int.toNat (33:Int)) (IntKind.bits .i64))) (Int.fdiv (wrap .i64 ((wrap .i64 (x0.2.2.1*(6364136223846793005:Int)))+(1442695040888963407:Int))) (2^min (Int.toNat (45:Int)) (IntKind.bits .i64)))) (255:Int)),()))
 else
 none
 else
 none
theorem wp(x0:kM)(hp:pre x0=true):Wp (aQ x0) (fun r=>dP (mB 0 255) (r.1.1,r.2.1)):=by
 have hc:=zG.1 hp
 unfold aQ
 refine aG (by decide) (aG (by decide) (cF (fun h=>?_) fun _=>aH ⟨?_,aIo _⟩))
 . rw[Za] at h
   refine aG (Zd hc.1) (aG (Zd h) (aH ⟨?_,aIo _⟩))
   show mE _=true
   rw[zG]
   have:=lN (n:=x0.2.1+1) (by omega) (by omega)
   exact⟨by show 0<=wrap .i64 (x0.2.1+1);omega,hc.2⟩
 . show mE _=true
   rw[zG];exact hc
noncomputable def val(x0:kM):kM×Int:=((yP (aQ x0)).1.1,(yP (aQ x0)).2.1)
theorem eq(x0:kM)(_:wf x0)(hp:pre x0=true):aQ x0=some (((val x0).1,()),((val x0).2,())):=(jP (wp x0 hp)).1
end eA
noncomputable def eA(x0:kM):kM×Int:=eA.val x0
theorem nO{x0:kM}(hp:mE x0=true):dP (mB 0 255) (eA x0):=(jP (eA.wp x0 hp)).2
def aBO(n:Int)(r:Int):Prop:=0<=r/\(0<n->r<n)
namespace aJ
def pre(c:kM)(_:Int):Bool:=mE c
abbrev wf(x0:lX)(x1:Int):Prop:=iM [(.ref aB9 .f),(.val (.int .i64) .f)] (x0,(x1,()))
noncomputable def aQ(x0:lX)(x1:Int):Option ((lX×Unit)×(Int×Unit)):=
 if(decide (x1<=(0:Int)))=true then
 some ((x0,()),((0:Int),()))
 else
 if(decide (x1<=(256:Int)))=true then
 if(eA.pre x0)=true then
 if(!(decide (x1=(0:Int))))=true then
 letB (eA x0) fun v1=>
 some ((v1.1,()),((Int.tmod v1.2 x1),()))
 else
 none
 else
 none
 else
 if(eA.pre x0)=true then
 letB (eA x0) fun v2=>
 if(eA.pre v2.1)=true then
 letB (eA v2.1) fun v3=>
 if(eA.pre v3.1)=true then
 letB (eA v3.1) fun v4=>
 if(eA.pre v4.1)=true then
 if(!(decide (x1=(0:Int))))=true then
 letB (eA v4.1) fun v5=>
 some ((v5.1,()),((Int.tmod (wrap .i64 ((wrap .i64 ((wrap .i64 ((wrap .i64 (v2.2*(16777216:Int)))+(wrap .i64 (v3.2*(65536:Int)))))+(wrap .i64 (v4.2*(256:Int)))))+v5.2)) x1),()))
 else
 none
 else
 none
 else
 none
 else
 none
 else
 none
theorem aCd{a n:Int}(h:0<=a)(hn:0<n):aBO n (Int.tmod a n):=⟨Int.tmod_nonneg _ h,fun _=>Int.tmod_lt_of_pos _ hn⟩
theorem wp(x0:kM)(x1:Int)(hp:pre x0 x1=true):Wp (aQ x0 x1) (fun r=>dP (aBO x1) (r.1.1,r.2.1)):=by
 unfold aQ
 have hp:mE x0=true:=hp
 refine cF (fun h=>?_) fun h=>?_
 . rw[Za] at h
   exact aH ⟨hp,Int.le_refl _,fun h2=>by omega⟩
 rw[Za] at h
 have hn:(!decide (x1=0))=true:=by simp;omega
 have p:∀{c:kM},mE c=true->eA.pre c=true:=fun h=>h
 refine cF (fun h2=>?_) fun h2=>?_
 . exact aG (p hp) (aG hn (cW (nO hp) fun v hv=>aH ⟨hv.1,aCd hv.2.1 (by omega)⟩))
 . refine aG (p hp) (cW (nO hp) fun a ha=>aG (p ha.1) (cW (nO ha.1) fun b hb=>aG (p hb.1) (cW (nO hb.1) fun c hc=>aG (p hc.1) (aG hn (cW (nO hc.1) fun d hd=>aH ⟨hd.1,aCd ?_ (by omega)⟩)))))
   have a1:=ha.2;have b1:=hb.2;have c1:=hc.2;have d1:=hd.2
   simp only[mB] at a1 b1 c1 d1
   rw[lN (n:=a.2*16777216) (by omega) (by omega),lN (n:=b.2*65536) (by omega) (by omega),lN (n:=c.2*256) (by omega) (by omega),lN (n:=a.2*16777216+b.2*65536) (by omega) (by omega),lN (n:=a.2*16777216+b.2*65536+c.2*256) (by omega) (by omega),lN (by omega) (by omega)]
   omega
noncomputable def val(x0:kM)(x1:Int):kM×Int:=((yP (aQ x0 x1)).1.1,(yP (aQ x0 x1)).2.1)
theorem eq(x0:kM)(x1:Int)(_:wf x0 x1)(hp:pre x0 x1=true):aQ x0 x1=some (((val x0 x1).1,()),((val x0 x1).2,())):=(jP (wp x0 x1 hp)).1
end aJ
noncomputable def aJ(x0:kM)(x1:Int):kM×Int:=aJ.val x0 x1
theorem eJ{x0:kM}{x1:Int}(hp:mE x0=true):dP (aBO x1) (aJ x0 x1):=(jP (aJ.wp x0 x1 hp)).2
namespace dL
def pre(c:kM)(_:Int):Bool:=mE c
abbrev wf(x0:lX)(x1:Int):Prop:=iM [(.ref aB9 .f),(.val (.int .i64) .f)] (x0,(x1,()))
noncomputable def aQ(x0:lX)(x1:Int):Option ((lX×Unit)×(Bool×Unit)):=
 if(aJ.pre x0 x1)=true then
 letB (aJ x0 x1) fun v1=>
 some ((v1.1,()),((decide (v1.2=(0:Int))),()))
 else
 none
theorem wp(x0:kM)(x1:Int)(hp:pre x0 x1=true):Wp (aQ x0 x1) (fun r=>dP (fun _=>True) (r.1.1,r.2.1)):=by
 unfold aQ
 exact aG (show aJ.pre x0 x1=true from hp) (cW (eJ hp) fun v hv=>aH ⟨hv.1,trivial⟩)
noncomputable def val(x0:kM)(x1:Int):kM×Bool:=((yP (aQ x0 x1)).1.1,(yP (aQ x0 x1)).2.1)
theorem eq(x0:kM)(x1:Int)(_:wf x0 x1)(hp:pre x0 x1=true):aQ x0 x1=some (((val x0 x1).1,()),((val x0 x1).2,())):=(jP (wp x0 x1 hp)).1
end dL
noncomputable def dL(x0:kM)(x1:Int):kM×Bool:=dL.val x0 x1
theorem sM{x0:kM}{x1:Int}(hp:mE x0=true):dP (fun _=>True) (dL x0 x1):=(jP (dL.wp x0 x1 hp)).2
namespace aK
def pre(c:kM)(l:List Int):Bool:=mE c&&decide (0<l.length)
abbrev wf(x0:lX)(x1:(List Int)):Prop:=iM [(.ref aB9 .f),(.val (.sl 0 (.int .i64)) .o)] (x0,(x1,()))
noncomputable def aQ(x0:lX)(x1:(List Int)):Option ((lX×Unit)×(Int×Unit)):=
 if(aJ.pre x0 ((length x1:Nat):Int))=true then
 letB (aJ x0 ((length x1:Nat):Int)) fun v1=>
 if(decide ((0:Int)<=v1.2))=true then
 if(decide (v1.2<((length x1:Nat):Int)))=true then
 some ((v1.1,()),((List.getD x1 (Int.toNat v1.2) (0:Int)),()))
 else
 none
 else
 none
 else
 none
theorem wp(x0:kM)(x1:List Int)(hp:pre x0 x1=true):Wp (aQ x0 x1) (fun r=>dP (fun n=>n∈x1) (r.1.1,r.2.1)):=by
 unfold aQ
 simp only[pre,Zb,Za] at hp
 refine aG (show aJ.pre x0 _=true from hp.1) (cW (eJ hp.1) fun v hv=>?_)
 have h1:=hv.2.1
 have h2:=hv.2.2 (by omega)
 refine aG (Zd h1) (aG (Zd h2) (aH ⟨hv.1,?_⟩))
 show x1.getD v.2.toNat 0∈x1
 rw[dR (by omega)]
 exact List.getElem_mem _
noncomputable def val(x0:kM)(x1:List Int):kM×Int:=((yP (aQ x0 x1)).1.1,(yP (aQ x0 x1)).2.1)
theorem eq(x0:kM)(x1:List Int)(_:wf x0 x1)(hp:pre x0 x1=true):aQ x0 x1=some (((val x0 x1).1,()),((val x0 x1).2,())):=(jP (wp x0 x1 hp)).1
end aK
noncomputable def aK(x0:kM)(x1:List Int):kM×Int:=aK.val x0 x1
theorem eY{x0:kM}{x1:List Int}(hp:aK.pre x0 x1=true):dP (fun n=>n∈x1) (aK x0 x1):=(jP (aK.wp x0 x1 hp)).2
namespace dF
def pre(c:kM)(l:List (List UInt8)):Bool:=mE c&&decide (0<l.length)
abbrev wf(x0:lX)(x1:(List (List UInt8))):Prop:=iM [(.ref aB9 .f),(.val (.sl 0 .str) .o)] (x0,(x1,()))
noncomputable def aQ(x0:lX)(x1:(List (List UInt8))):Option ((lX×Unit)×((List UInt8)×Unit)):=
 if(aJ.pre x0 ((length x1:Nat):Int))=true then
 letB (aJ x0 ((length x1:Nat):Int)) fun v1=>
 if(decide ((0:Int)<=v1.2))=true then
 if(decide (v1.2<((length x1:Nat):Int)))=true then
 some ((v1.1,()),((List.getD x1 (Int.toNat v1.2) ([]:List UInt8)),()))
 else
 none
 else
 none
 else
 none
theorem wp(x0:kM)(x1:List (List UInt8))(hp:pre x0 x1=true):Wp (aQ x0 x1) (fun r=>dP (fun n=>n∈x1) (r.1.1,r.2.1)):=by
 unfold aQ
 simp only[pre,Zb,Za] at hp
 refine aG (show aJ.pre x0 _=true from hp.1) (cW (eJ hp.1) fun v hv=>?_)
 have h1:=hv.2.1
 have h2:=hv.2.2 (by omega)
 refine aG (Zd h1) (aG (Zd h2) (aH ⟨hv.1,?_⟩))
 show x1.getD v.2.toNat []∈x1
 rw[dR (by omega)]
 exact List.getElem_mem _
noncomputable def val(x0:kM)(x1:List (List UInt8)):kM×List UInt8:=((yP (aQ x0 x1)).1.1,(yP (aQ x0 x1)).2.1)
theorem eq(x0:kM)(x1:List (List UInt8))(_:wf x0 x1)(hp:pre x0 x1=true):aQ x0 x1=some (((val x0 x1).1,()),((val x0 x1).2,())):=(jP (wp x0 x1 hp)).1
end dF
noncomputable def dF(x0:kM)(x1:List (List UInt8)):kM×List UInt8:=dF.val x0 x1
theorem sD{x0:kM}{x1:List (List UInt8)}(hp:dF.pre x0 x1=true):dP (fun n=>n∈x1) (dF x0 x1):=(jP (dF.wp x0 x1 hp)).2
theorem kW{c:kM}{l:List Int}(h:mE c=true)(h2:0<l.length):aK.pre c l=true:=by simp only[aK.pre,h,Bool.true_and,Za];exact h2
theorem uQ{c:kM}{l:List (List UInt8)}(h:mE c=true)(h2:0<l.length):dF.pre c l=true:=by simp only[dF.pre,h,Bool.true_and,Za];exact h2
namespace dS
def pre(c:kM):Bool:=mE c
abbrev wf(x0:lX):Prop:=iM [(.ref aB9 .f)] (x0,())
noncomputable def aQ(x0:lX):Option ((lX×Unit)×(aP×Unit)):=
 if(aJ.pre x0 (3:Int))=true then
 letB (aJ x0 (3:Int)) fun v1=>
 if(aK.pre v1.1 ((1:Int)::((2:Int)::((5:Int)::([]:List Int)))))=true then
 letB (aK v1.1 ((1:Int)::((2:Int)::((5:Int)::([]:List Int))))) fun v2=>
 if(aK.pre v2.1 ((1:Int)::((2:Int)::((3:Int)::((8:Int)::([]:List Int))))))=true then
 letB (aK v2.1 ((1:Int)::((2:Int)::((3:Int)::((8:Int)::([]:List Int)))))) fun v3=>
 if(aK.pre v3.1 ((0:Int)::((1:Int)::((3:Int)::((10:Int)::([]:List Int))))))=true then
 letB (aK v3.1 ((0:Int)::((1:Int)::((3:Int)::((10:Int)::([]:List Int)))))) fun v4=>
 some ((v4.1,()),(((wrap .i64 ((1:Int)+v1.2)),(v2.2,(v3.2,(v4.2,())))),()))
 else
 none
 else
 none
 else
 none
 else
 none
theorem wp(x0:kM)(hp:pre x0=true):Wp (aQ x0) (fun r=>dP (fun s=>dK s=true) (r.1.1,r.2.1)):=by
 unfold aQ
 have hp:mE x0=true:=hp
 refine aG (show aJ.pre x0 _=true from hp) (cW (eJ hp) fun a ha=>aG (kW ha.1 (by decide)) (cW (eY (kW ha.1 (by decide))) fun b hb=>aG (kW hb.1 (by decide)) (cW (eY (kW hb.1 (by decide))) fun c hc=>aG (kW hc.1 (by decide)) (cW (eY (kW hc.1 (by decide))) fun d hd=>aH ⟨hd.1,?_⟩))))
 have a1:=ha.2.1;have a2:=ha.2.2 (by decide)
 have b1:=hb.2;have c1:=hc.2;have d1:=hd.2
 simp only[List.mem_cons,List.not_mem_nil,or_false] at b1 c1 d1
 show dK (wrap .i64 (1+a.2),(b.2,(c.2,(d.2,()))))=true
 rw[lN (n:=1+a.2) (by omega) (by omega)]
 simp only[dK,aA,Zb,Za]
 omega
noncomputable def val(x0:kM):kM×aP:=((yP (aQ x0)).1.1,(yP (aQ x0)).2.1)
theorem eq(x0:kM)(_:wf x0)(hp:pre x0=true):aQ x0=some (((val x0).1,()),((val x0).2,())):=(jP (wp x0 hp)).1
end dS
noncomputable def dS(x0:kM):kM×aP:=dS.val x0
theorem yA{x0:kM}(hp:mE x0=true):dP (fun s=>dK s=true) (dS x0):=(jP (dS.wp x0 hp)).2
namespace dM
def pre(c:kM):Bool:=mE c
abbrev wf(x0:lX):Prop:=iM [(.ref aB9 .f)] (x0,())
noncomputable def aQ(x0:lX):Option ((lX×Unit)×((List UInt8)×Unit)):=
 if(dF.pre x0 (([]:List UInt8)::(((97:UInt8)::([]:List UInt8))::(((98:UInt8)::([]:List UInt8))::(((107:UInt8)::((32:UInt8)::((49:UInt8)::([]:List UInt8))))::(((116:UInt8)::((101:UInt8)::((120:UInt8)::((116:UInt8)::([]:List UInt8)))))::([]:List (List UInt8))))))))=true then
 letB (dF x0 (([]:List UInt8)::(((97:UInt8)::([]:List UInt8))::(((98:UInt8)::([]:List UInt8))::(((107:UInt8)::((32:UInt8)::((49:UInt8)::([]:List UInt8))))::(((116:UInt8)::((101:UInt8)::((120:UInt8)::((116:UInt8)::([]:List UInt8)))))::([]:List (List UInt8)))))))) fun v1=>
 some ((v1.1,()),(v1.2,()))
 else
 none
theorem wp(x0:kM)(hp:pre x0=true):Wp (aQ x0) (fun r=>dP (fun t=>dQ t=true) (r.1.1,r.2.1)):=by
 unfold aQ
 have hp:mE x0=true:=hp
 refine aG (uQ hp (by decide)) (cW (sD (uQ hp (by decide))) fun v hv=>aH ⟨hv.1,?_⟩)
 have h:=hv.2
 simp only[List.mem_cons,List.not_mem_nil,or_false] at h
 show dQ v.2=true
 rcases h with h|h|h|h|h<;>rw[h]<;>decide
noncomputable def val(x0:kM):kM×List UInt8:=((yP (aQ x0)).1.1,(yP (aQ x0)).2.1)
theorem eq(x0:kM)(_:wf x0)(hp:pre x0=true):aQ x0=some (((val x0).1,()),((val x0).2,())):=(jP (wp x0 hp)).1
end dM
noncomputable def dM(x0:kM):kM×List UInt8:=dM.val x0
theorem sC{x0:kM}(hp:mE x0=true):dP (fun t=>dQ t=true) (dM x0):=(jP (dM.wp x0 hp)).2
def aIm(c:fQ):Prop:=c.1=0/\c.2.1=0/\mB 1 10 c.2.2.1/\mB 0 60 c.2.2.2.1/\mB 0 4 c.2.2.2.2.1/\mB 0 4 c.2.2.2.2.2.1/\dQ c.2.2.2.2.2.2.1=true/\dQ c.2.2.2.2.2.2.2.1=true
namespace eH
def pre(c:kM):Bool:=mE c
abbrev wf(x0:lX):Prop:=iM [(.ref aB9 .f)] (x0,())
noncomputable def aQ(x0:lX):Option ((lX×Unit)×(fQ×Unit)):=
 if(aK.pre x0 ((1:Int)::((1:Int)::((1:Int)::((2:Int)::((2:Int)::((3:Int)::((4:Int)::((4:Int)::((5:Int)::((6:Int)::((7:Int)::((8:Int)::((9:Int)::((10:Int)::([]:List Int))))))))))))))))=true then
 letB (aK x0 ((1:Int)::((1:Int)::((1:Int)::((2:Int)::((2:Int)::((3:Int)::((4:Int)::((4:Int)::((5:Int)::((6:Int)::((7:Int)::((8:Int)::((9:Int)::((10:Int)::([]:List Int)))))))))))))))) fun v1=>
 if(aJ.pre v1.1 (3:Int))=true then
 letB (aJ v1.1 (3:Int)) fun v2=>
 if(aJ.pre v2.1 (4:Int))=true then
 letB (aJ v2.1 (4:Int)) fun v3=>
 if(aJ.pre v3.1 (3:Int))=true then
 if(decide (v1.2=(1:Int)))=true then
 letB (aJ v3.1 (3:Int)) fun v4=>
 if(dM.pre v4.1)=true then
 letB (dM v4.1) fun v5=>
 if(dM.pre v5.1)=true then
 letB (dM v5.1) fun v6=>
 if(aK.pre v6.1 ((0:Int)::((0:Int)::((0:Int)::((1:Int)::([]:List Int))))))=true then
 letB (aK v6.1 ((0:Int)::((0:Int)::((0:Int)::((1:Int)::([]:List Int)))))) fun v7=>
 some ((v7.1,()),(((0:Int),((0:Int),(v1.2,(v2.2,(v3.2,(v7.2,(v5.2,(v6.2,())))))))),()))
 else
 none
 else
 none
 else
 none
 else
 if(decide (v1.2=(8:Int)))=true then
 letB (aJ v3.1 (3:Int)) fun v8=>
 if(aK.pre v8.1 ((0:Int)::((10:Int)::((60:Int)::([]:List Int)))))=true then
 letB (aK v8.1 ((0:Int)::((10:Int)::((60:Int)::([]:List Int))))) fun v9=>
 some ((v9.1,()),(((0:Int),((0:Int),(v1.2,(v9.2,(v3.2,(v8.2,(([]:List UInt8),(([]:List UInt8),())))))))),()))
 else
 none
 else
 letB (aJ v3.1 (3:Int)) fun v10=>
 some ((v10.1,()),(((0:Int),((0:Int),(v1.2,(v2.2,(v3.2,(v10.2,(([]:List UInt8),(([]:List UInt8),())))))))),()))
 else
 none
 else
 none
 else
 none
 else
 none
theorem wp(x0:kM)(hp:pre x0=true):Wp (aQ x0) (fun r=>dP aIm (r.1.1,r.2.1)):=by
 unfold aQ
 have hp:mE x0=true:=hp
 have p1:∀{c:kM} {n:Int},mE c=true->aJ.pre c n=true:=fun h=>h
 have p2:∀{c:kM},mE c=true->dM.pre c=true:=fun h=>h
 refine aG (kW hp (by decide)) (cW (eY (kW hp (by decide))) fun o ho=>?_)
 have ho2:=ho.2
 simp only[List.mem_cons,List.not_mem_nil,or_false] at ho2
 have o1:mB 1 10 o.2:=by simp only[mB];omega
 have ho:=ho.1
 have key:∀{a:Int},aBO 3 a->mB 0 60 a/\mB 0 4 a:=fun h=>by
  have h2:=h.2 (by decide)
  exact⟨⟨h.1,by omega⟩,h.1,by omega⟩
 have key4:∀{a:Int},aBO 4 a->mB 0 4 a:=fun h=>by
  have h2:=h.2 (by decide)
  exact⟨h.1,by omega⟩
 refine aG (p1 ho) (cW (eJ ho) fun a ha=>aG (p1 ha.1) (cW (eJ ha.1) fun b hb=>aG (p1 hb.1) (cF (fun e=>?_) fun _=>cF (fun e=>?_) fun e=>?_)))
 . refine cW (eJ hb.1) fun c hc=>aG (p2 hc.1) (cW (sC hc.1) fun d hd=>aG (p2 hd.1) (cW (sC hd.1) fun f hf=>aG (kW hf.1 (by decide)) (cW (eY (kW hf.1 (by decide))) fun g hg=>aH ⟨hg.1,rfl,rfl,o1,(key ha.2).1,key4 hb.2,?_,hd.2,hf.2⟩)))
   have:=hg.2
   simp only[List.mem_cons,List.not_mem_nil,or_false] at this
   show mB 0 4 g.2
   simp only[mB];omega
 . refine cW (eJ hb.1) fun c hc=>aG (kW hc.1 (by decide)) (cW (eY (kW hc.1 (by decide))) fun g hg=>aH ⟨hg.1,rfl,rfl,o1,?_,key4 hb.2,(key hc.2).2,rfl,rfl⟩)
   have:=hg.2
   simp only[List.mem_cons,List.not_mem_nil,or_false] at this
   show mB 0 60 g.2
   simp only[mB];omega
 . exact cW (eJ hb.1) fun c hc=>aH ⟨hc.1,rfl,rfl,o1,(key ha.2).1,key4 hb.2,(key hc.2).2,rfl,rfl⟩
noncomputable def val(x0:kM):kM×fQ:=((yP (aQ x0)).1.1,(yP (aQ x0)).2.1)
theorem eq(x0:kM)(_:wf x0)(hp:pre x0=true):aQ x0=some (((val x0).1,()),((val x0).2,())):=(jP (wp x0 hp)).1
end eH
noncomputable def eH(x0:kM):kM×fQ:=eH.val x0
theorem yL{x0:kM}(hp:mE x0=true):dP aIm (eH x0):=(jP (eH.wp x0 hp)).2
def aCk(c:fQ):Prop:=kZ c=true/\(c.1=-1\/(0<=c.1/\c.2.1<=6))
theorem aJp{c:fQ}{w q:Int}(h:aIm c)(hw:mB 0 3 w)(hq:mB 1 100000 q):kZ (w,(q,c.2.2))=true:=by
 obtain⟨_,_,h3,h4,h5,h6,h7,h8⟩:=h
 simp only[mB] at *
 unfold kZ
 rw[if_neg (by show ¬w=-1;omega)]
 simp only[aA,Zb,Za]
 exact⟨by omega,by omega,by omega,by omega,by omega,by omega,h7,h8⟩
theorem aJb:kZ ((-1:Int),((0:Int),((0:Int),((0:Int),((0:Int),mP)))))=true:=by decide
namespace dT
def pre(c:kM):Bool:=mE c
abbrev wf(x0:lX):Prop:=iM [(.ref aB9 .f)] (x0,())
noncomputable def aQ(x0:lX):Option ((lX×Unit)×(fQ×Unit)):=
 if(dL.pre x0 (10:Int))=true then
 letB (dL x0 (10:Int)) fun v1=>
 if v1.2=true then
 some ((v1.1,()),(((-1:Int),((0:Int),((0:Int),((0:Int),((0:Int),mP))))),()))
 else
 if(eH.pre v1.1)=true then
 letB (eH v1.1) fun v2=>
 if(aJ.pre v2.1 (4:Int))=true then
 letB (aJ v2.1 (4:Int)) fun v3=>
 if(aJ.pre v3.1 (6:Int))=true then
 letB (aJ v3.1 (6:Int)) fun v4=>
 some ((v4.1,()),((v3.2,((wrap .i64 ((1:Int)+v4.2)),v2.2.2.2)),()))
 else
 none
 else
 none
 else
 none
 else
 none
theorem wp(x0:kM)(hp:pre x0=true):Wp (aQ x0) (fun r=>dP aCk (r.1.1,r.2.1)):=by
 unfold aQ
 have hp:mE x0=true:=hp
 refine aG (show dL.pre x0 _=true from hp) (cW (sM hp) fun o ho=>cF (fun _=>aH ⟨ho.1,⟨aJb,.inl rfl⟩⟩) fun _=>?_)
 refine aG (show eH.pre o.1=true from ho.1) (cW (yL ho.1) fun a ha=>aG (show aJ.pre a.1 _=true from ha.1) (cW (eJ ha.1) fun b hb=>aG (show aJ.pre b.1 _=true from hb.1) (cW (eJ hb.1) fun c hc=>aH ⟨hc.1,?_⟩)))
 have b1:=hb.2.1;have b2:=hb.2.2 (by decide)
 have c1:=hc.2.1;have c2:=hc.2.2 (by decide)
 have e:=lN (n:=1+c.2) (by omega) (by omega)
 show aCk (b.2,(wrap .i64 (1+c.2),a.2.2.2))
 rw[e]
 exact⟨aJp ha.2 ⟨b1,by omega⟩ ⟨by omega,by omega⟩,.inr ⟨b1,by show 1+c.2<=6;omega⟩⟩
noncomputable def val(x0:kM):kM×fQ:=((yP (aQ x0)).1.1,(yP (aQ x0)).2.1)
theorem eq(x0:kM)(_:wf x0)(hp:pre x0=true):aQ x0=some (((val x0).1,()),((val x0).2,())):=(jP (wp x0 hp)).1
end dT
noncomputable def dT(x0:kM):kM×fQ:=dT.val x0
theorem xZ{x0:kM}(hp:mE x0=true):dP aCk (dT x0):=(jP (dT.wp x0 hp)).2
theorem aJ5{c:fQ}{q:Int}(h:kZ c=true)(h0:0<=c.1)(hq:mB 1 100000 q):kZ (c.1,(q,c.2.2))=true:=by
 unfold kZ at h ⊢
 rw[if_neg (by omega)] at h
 rw[if_neg (by show ¬c.1=-1;omega)]
 simp only[Zb] at h ⊢
 exact⟨h.1,by simp only[mB] at hq;simp only[aA,Zb,Za];exact hq,h.2.2⟩
def aIJ(n:Int)(l:List fQ):Prop:=(l.length:Int)<=n/\l.all kZ=true
namespace cV
abbrev S4:Type:=(Int×(Int×(lX×((List fQ)×Unit))))
abbrev O4:Type:=(lX×((List fQ)×Unit))
def pre4:S4->Bool:=fun(x1,x2,x3,x4,_)=>decide (x1<=100)&&(decide (0<=x2)&&(mE x3&&(decide ((x4.length:Int)=x2)&&x4.all kZ)))
def kU:S4->Nat:=fun(x1,x2,_,_,_)=>(x1-x2).toNat
def Q4(s:S4)(o:O4):Prop:=mE o.1=true/\aIJ (max s.1 s.2.1) o.2.1
noncomputable def eO(x1:Int)(x2:Int)(x3:lX)(x4:(List fQ)):Option ((Int×(Int×(lX×((List fQ)×Unit))))⊕(lX×((List fQ)×Unit))):=
 if(decide (x2<x1))=true then
 if(dT.pre x3)=true then
 letB (dT x3) fun v1=>
 if(decide ((0:Int)<=v1.2.1))=true then
 if(dL.pre v1.1 (4:Int))=true then
 letB (dL v1.1 (4:Int)) fun v2=>
 if(!v2.2)=true then
 if(decide (length x4+length ((v1.2.1,((wrap .i64 (x2+(1:Int))),v1.2.2.2))::([]:List fQ))<=gO))=true then
 some (.inl (x1,((wrap .i64 (x2+(1:Int))),(v2.1,((List.append x4 ((v1.2.1,((wrap .i64 (x2+(1:Int))),v1.2.2.2))::([]:List fQ))),())))))
 else
 none
 else
 if(decide (length x4+length (v1.2::([]:List fQ))<=gO))=true then
 some (.inl (x1,((wrap .i64 (x2+(1:Int))),(v2.1,((List.append x4 (v1.2::([]:List fQ))),())))))
 else
 none
 else
 none
 else
 if(decide (length x4+length (v1.2::([]:List fQ))<=gO))=true then
 some (.inl (x1,((wrap .i64 (x2+(1:Int))),(v1.1,((List.append x4 (v1.2::([]:List fQ))),())))))
 else
 none
 else
 none
 else
 some (.inr (x3,(x4,())))
theorem wp4:∀s,pre4 s=true->Wp ((fun(x:S4)=>eO x.1 x.2.1 x.2.2.1 x.2.2.2.1) s) (hJ pre4 kU Q4 s):=by
 rintro⟨x1,x2,x3,x4,⟨⟩⟩ hp
 simp only[pre4,Zb,Za] at hp
 obtain⟨h1,h2,h3,h4,h5⟩:=hp
 show Wp (eO x1 x2 x3 x4) _
 unfold eO
 refine cF (fun h=>?_) fun h=>aH ⟨h3,by show(x4.length:Int)<=max x1 x2;omega,h5⟩
 rw[Za] at h
 have e:=lN (n:=x2+1) (by omega) (by omega)
 have go:∀(c:kM) (k:fQ),mE c=true->kZ k=true->hJ pre4 kU Q4 (x1,x2,x3,x4,()) (.inl (x1,(wrap .i64 (x2+1),(c,(List.append x4 (k::([]:List fQ)),()))))):=by
  intro c k hc hk
  rw[e]
  refine⟨?_,?_,fun o ho=>?_⟩
  . simp only[pre4,Zb,Za,List.append_eq,Zf,Zg,Zh,List.all_append,List.all_cons,List.all_nil]
    exact⟨h1,by omega,hc,by omega,h5,hk,trivial⟩
  . simp only[kU];omega
  . obtain⟨o1,o2,o3⟩:=ho
    refine⟨o1,?_,o3⟩
    show(o.2.1.length:Int)<=max x1 x2
    have:(o.2.1.length:Int)<=max x1 (x2+1):=o2
    omega
 have hl:∀k:fQ,decide (x4.length+(k::([]:List fQ)).length<=gO)=true:=fun k=>by
  simp only[Za,Zg,Zh,gO];omega
 refine aG (show dT.pre x3=true from h3) (cW (xZ h3) fun v hv=>cF (fun h0=>?_) fun h0=>aG (hl _) (aH (go _ _ hv.1 hv.2.1)))
 rw[Za] at h0
 refine aG (show dL.pre v.1 _=true from hv.1) (cW (sM hv.1) fun o ho=>cF (fun _=>aG (hl _) (aH (go _ _ ho.1 ?_))) fun _=>aG (hl _) (aH (go _ _ ho.1 hv.2.1)))
 rw[e]
 exact aJ5 hv.2.1 h0 ⟨by omega,by omega⟩
noncomputable def fn4:S4->O4:=zS (fun(x:S4)=>eO x.1 x.2.1 x.2.2.1 x.2.2.2.1) kU
theorem vZ(x1 x2:Int)(x3:kM)(x4:List fQ)(hp:pre4 (x1,(x2,(x3,(x4,()))))=true):aX pre4 kU fn4 (x1,(x2,(x3,(x4,())))) (eO x1 x2 x3 x4):=oN wp4 hp
def pre(c:kM)(n:Int):Bool:=mE c&&(decide (0<=n)&&decide (n<=50))
abbrev wf(x0:lX)(x1:Int):Prop:=iM [(.ref aB9 .f),(.val (.int .i64) .f)] (x0,(x1,()))
noncomputable def aQ(x0:lX)(x1:Int):Option ((lX×Unit)×((List fQ)×Unit)):=
 if(aJ.pre x0 (wrap .i64 (x1+(1:Int))))=true then
 letB (aJ x0 (wrap .i64 (x1+(1:Int)))) fun v1=>
 if(cV.pre4 (v1.2,((0:Int),(v1.1,(([]:List fQ),())))))=true then
 letB (cV.fn4 (v1.2,((0:Int),(v1.1,(([]:List fQ),()))))) fun v2=>
 some ((v2.1,()),v2.2)
 else
 none
 else
 none
theorem wp(x0:kM)(x1:Int)(hp:pre x0 x1=true):Wp (aQ x0 x1) (fun r=>dP (aIJ x1) (r.1.1,r.2.1)):=by
 unfold aQ
 simp only[pre,Zb,Za] at hp
 obtain⟨h1,h2,h3⟩:=hp
 rw[lN (n:=x1+1) (by omega) (by omega)]
 refine aG (show aJ.pre x0 _=true from h1) (cW (eJ h1) fun v hv=>?_)
 have v1:=hv.2.1;have v2:=hv.2.2 (by omega)
 have hq:pre4 (v.2,((0:Int),(v.1,(([]:List fQ),()))))=true:=by
  simp only[pre4,Zb,Za,Zh,List.all_nil]
  exact⟨by omega,by omega,hv.1,rfl,trivial⟩
 refine aG hq (cW (rI wp4 hq:Q4 _ (fn4 _)) fun o ho=>aH ⟨ho.1,?_,ho.2.2⟩)
 have:(o.2.1.length:Int)<=max v.2 0:=ho.2.1
 show(o.2.1.length:Int)<=x1
 omega
noncomputable def val(x0:kM)(x1:Int):kM×List fQ:=((yP (aQ x0 x1)).1.1,(yP (aQ x0 x1)).2.1)
theorem eq(x0:kM)(x1:Int)(_:wf x0 x1)(hp:pre x0 x1=true):aQ x0 x1=some (((val x0 x1).1,()),((val x0 x1).2,())):=(jP (wp x0 x1 hp)).1
end cV
noncomputable def cV(x0:kM)(x1:Int):kM×List fQ:=cV.val x0 x1
theorem zA{x0:kM}{x1:Int}(hp:cV.pre x0 x1=true):dP (aIJ x1) (cV x0 x1):=(jP (cV.wp x0 x1 hp)).2
theorem aCb{β:Type}{m:Option (Unit×(β×Unit))}{v:β}(h:Wp m fun r=>r.2.1=v):m=some ((),(v,())):=by
 obtain⟨a,rfl,rfl⟩:=h
 rfl
theorem iQ{g:aE}:gC g=true↔g.2.1.length<=16777216/\g.2.2.1.length<=16777216/\g.2.2.2.1.length<=16777216:=by
 simp only[gC,Zb,bJ]
def upG(n:Int):Int:=if 100000<=n then n else n+1
namespace iT
def pre(n:Int):Bool:=decide (n<=n)
abbrev wf(x0:Int):Prop:=iM [(.val (.int .i64) .f)] (x0,())
noncomputable def aQ(x0:Int):Option aAC:=
 if(decide ((100000:Int)<=x0))=true then
 some ((),(x0,()))
 else
 some ((),((wrap .i64 (x0+(1:Int))),()))
theorem eq(x0:Int)(hw:wf x0)(_:pre x0=true):aQ x0=some ((),(upG x0,())):=by
 have h:=aJZ.1 hw.1
 unfold aQ upG
 by_cases h1:100000<=x0
 . rw[if_pos (Zd h1),if_pos h1]
 . rw[if_neg (by simpa using h1),if_neg h1,lN (by omega) (by omega)]
end iT
abbrev iT:=upG
def lI(g:aE)(i:Int):aE:=(g.1,(g.2.1.eraseIdx i.toNat,(g.2.2.1.eraseIdx i.toNat,g.2.2.2)))
theorem aAR{α:Type}{xs:List α}{i:Int}(h0:0<=i)(h1:i<(xs.length:Int))(h2:xs.length<=16777216):
 List.append (List.append ([]:List α) (aW (Int.toNat 0) i.toNat xs)) (aW (wrap .i64 (i+1)).toNat ((xs.length:Int)).toNat xs)=xs.eraseIdx i.toNat:=by
 rw[lN (n:=i+1) (by omega) (by omega)]
 show List.take (i.toNat-0) (List.drop 0 xs)++List.take (((xs.length:Int)).toNat-(i+1).toNat) (List.drop (i+1).toNat xs)=_
 rw[List.take_of_length_le (l:=List.drop (i+1).toNat xs) (by rw[Zs];omega),List.drop_zero,List.eraseIdx_eq_take_drop_succ,show(i+1).toNat=i.toNat+1 by omega];rfl
namespace dZ
def pre(g:aE)(i:Int):Bool:=gC g&&(decide (0<=i)&&decide (i<(g.2.1.length:Int)))
abbrev wf(x0:aE)(x1:Int):Prop:=iM [(.val zk9 .f),(.val (.int .i64) .f)] (x0,(x1,()))
noncomputable def aQ(x0:aE)(x1:Int):Option aCw:=
 if(aU.pre x0)=true then
 if(decide ((0:Int)<=(0:Int)))=true then
 if(decide ((0:Int)<=x1))=true then
 if(decide (x1<=((length x0.2.1:Nat):Int)))=true then
 if(decide (length ([]:List Int)+length (aW (Int.toNat (0:Int)) (Int.toNat x1) x0.2.1)<=gO))=true then
 if(decide ((0:Int)<=(wrap .i64 (x1+(1:Int)))))=true then
 if(decide ((wrap .i64 (x1+(1:Int)))<=((length x0.2.1:Nat):Int)))=true then
 if(decide (((length x0.2.1:Nat):Int)<=((length x0.2.1:Nat):Int)))=true then
 if(decide (length (List.append ([]:List Int) (aW (Int.toNat (0:Int)) (Int.toNat x1) x0.2.1))+length (aW (Int.toNat (wrap .i64 (x1+(1:Int)))) (Int.toNat ((length x0.2.1:Nat):Int)) x0.2.1)<=gO))=true then
 if(decide (x1<((length x0.2.2.1:Nat):Int)))=true then
 if(decide ((0:Int)<=(0:Int)))=true then
 if(decide ((0:Int)<=x1))=true then
 if(decide (x1<=((length x0.2.2.1:Nat):Int)))=true then
 if(decide (length ([]:List Int)+length (aW (Int.toNat (0:Int)) (Int.toNat x1) x0.2.2.1)<=gO))=true then
 if(decide ((0:Int)<=(wrap .i64 (x1+(1:Int)))))=true then
 if(decide ((wrap .i64 (x1+(1:Int)))<=((length x0.2.2.1:Nat):Int)))=true then
 if(decide (((length x0.2.2.1:Nat):Int)<=((length x0.2.2.1:Nat):Int)))=true then
 if(decide (length (List.append ([]:List Int) (aW (Int.toNat (0:Int)) (Int.toNat x1) x0.2.2.1))+length (aW (Int.toNat (wrap .i64 (x1+(1:Int)))) (Int.toNat ((length x0.2.2.1:Nat):Int)) x0.2.2.1)<=gO))=true then
 letB (aU x0) fun v1=>
 some ((),((v1.1,((List.append (List.append ([]:List Int) (aW (Int.toNat (0:Int)) (Int.toNat x1) x0.2.1)) (aW (Int.toNat (wrap .i64 (x1+(1:Int)))) (Int.toNat ((length x0.2.1:Nat):Int)) x0.2.1)),((List.append (List.append ([]:List Int) (aW (Int.toNat (0:Int)) (Int.toNat x1) x0.2.2.1)) (aW (Int.toNat (wrap .i64 (x1+(1:Int)))) (Int.toNat ((length x0.2.2.1:Nat):Int)) x0.2.2.1)),v1.2.2.2))),()))
 else
 none
 else
 none
 else
 none
 else
 none
 else
 none
 else
 none
 else
 none
 else
 none
 else
 letB (aU x0) fun v2=>
 some ((),((v2.1,((List.append (List.append ([]:List Int) (aW (Int.toNat (0:Int)) (Int.toNat x1) x0.2.1)) (aW (Int.toNat (wrap .i64 (x1+(1:Int)))) (Int.toNat ((length x0.2.1:Nat):Int)) x0.2.1)),v2.2.2)),()))
 else
 none
 else
 none
 else
 none
 else
 none
 else
 none
 else
 none
 else
 none
 else
 none
 else
 none
theorem eq(x0:aE)(x1:Int)(_:wf x0 x1)(hp:pre x0 x1=true):aQ x0 x1=some ((),(lI x0 x1,())):=by
 simp only[pre,Zb,Za] at hp
 obtain⟨hs,h1,h2⟩:=hp
 have hg:=iQ.1 hs
 have e:=lN (n:=x1+1) (by omega) (by omega)
 unfold aQ lI
 rw[aAR h1 h2 hg.1,e]
 refine bO (show aU.pre x0=true from hs) ?_
 repeat (first|(with_reducible refine eK ?_)|(with_reducible refine bO ?hs ?_;case hs=>(first|assumption|(simp only[Za,Bool.not_eq_true',Zv,Bool.not_eq_true,Zf,List.append_eq,Zg,Zh,aW,Zr,Zs,List.length_modify,List.length_eraseIdx,gO];omega)|(simp only[Za];omega)))|(with_reducible refine dC ?hs ?_;case hs=>(first|assumption|(simp only[Za,Bool.not_eq_true',Zv,Bool.not_eq_true,Zf,List.append_eq,Zg,Zh,aW,Zr,Zs,List.length_modify,List.length_eraseIdx,gO];omega)|(simp only[Za];omega))))
 by_cases h3:x1<(x0.2.2.1.length:Int)
 . rw[<-e,aAR h1 h3 hg.2.1,e]
   repeat (first|(with_reducible refine eK ?_)|(with_reducible refine bO ?hs ?_;case hs=>(first|assumption|(simp only[Za,Bool.not_eq_true',Zv,Bool.not_eq_true,Zf,List.append_eq,Zg,Zh,aW,Zr,Zs,List.length_modify,List.length_eraseIdx,gO];omega)|(simp only[Za];omega)))|(with_reducible refine dC ?hs ?_;case hs=>(first|assumption|(simp only[Za,Bool.not_eq_true',Zv,Bool.not_eq_true,Zf,List.append_eq,Zg,Zh,aW,Zr,Zs,List.length_modify,List.length_eraseIdx,gO];omega)|(simp only[Za];omega))))
   rfl
 . rw[List.eraseIdx_of_length_le (l:=x0.2.2.1) (by omega)]
   repeat (first|(with_reducible refine eK ?_)|(with_reducible refine bO ?hs ?_;case hs=>(first|assumption|(simp only[Za,Bool.not_eq_true',Zv,Bool.not_eq_true,Zf,List.append_eq,Zg,Zh,aW,Zr,Zs,List.length_modify,List.length_eraseIdx,gO];omega)|(simp only[Za];omega)))|(with_reducible refine dC ?hs ?_;case hs=>(first|assumption|(simp only[Za,Bool.not_eq_true',Zv,Bool.not_eq_true,Zf,List.append_eq,Zg,Zh,aW,Zr,Zs,List.length_modify,List.length_eraseIdx,gO];omega)|(simp only[Za];omega))))
   rfl
end dZ
abbrev dZ:=lI
theorem wU{g:aE}{i:Int}(h:gC g=true):gC (lI g i)=true:=by
 rw[iQ] at h ⊢
 have h1:(g.2.1.eraseIdx i.toNat).length<=g.2.1.length:=List.length_eraseIdx_le _ _
 have h2:(g.2.2.1.eraseIdx i.toNat).length<=g.2.2.1.length:=List.length_eraseIdx_le _ _
 exact⟨Nat.le_trans h1 h.1,Nat.le_trans h2 h.2.1,h.2.2⟩
def jI(who:Int):List Int->Int->Int
 |[],_=>-1
 |m::r,i=>if m=who then i else jI who r (i+1)
theorem tN{who:Int}:(l:List Int)->(i:Int)->0<=i->0<=jI who l i->i<=jI who l i/\jI who l i<i+l.length
 |[],_,_,h=>by simp only[jI] at h;omega
 |m::r,i,h0,h=>by
  simp only[jI,Zg] at h ⊢
  by_cases e:m=who
  . rw[if_pos e];omega
  . rw[if_neg e] at h ⊢
    have:=tN r (i+1) (by omega) h
    omega
theorem aAx{who:Int}:(l:List Int)->(i:Int)->0<=i->-1<=jI who l i
 |[],_,_=>by simp only[jI];omega
 |m::r,i,h0=>by
  simp only[jI]
  split
  . omega
  . exact aAx r (i+1) (by omega)
def atG(g:aE)(who:Int):Int:=jI who g.2.1 0
namespace jU
abbrev S2:Type:=(Int×(Int×(aE×Unit)))
abbrev O2:Type:=((Int×Unit)⊕Unit)
def pre2:S2->Bool:=fun(_,x2,x3,_)=>decide (0<=x2)&&(decide (x2<=(x3.2.1.length:Int))&&decide (x3.2.1.length<=16777216))
def fn2:S2->O2:=fun(x1,x2,x3,_)=>if 0<=jI x1 (x3.2.1.drop x2.toNat) x2 then .inl (jI x1 (x3.2.1.drop x2.toNat) x2,()) else .inr ()
def qY:S2->Nat:=fun(_,x2,x3,_)=>x3.2.1.length-x2.toNat
noncomputable def jX(x1:Int)(x2:Int)(x3:aE):Option ((Int×(Int×(aE×Unit)))⊕((Int×Unit)⊕Unit)):=
 if(decide (x2<((length x3.2.1:Nat):Int)))=true then
 if(decide ((0:Int)<=x2))=true then
 if(decide (x2<((length x3.2.1:Nat):Int)))=true then
 if(decide ((List.getD x3.2.1 (Int.toNat x2) (0:Int))=x1))=true then
 some (.inr (.inl (x2,())))
 else
 some (.inl (x1,((wrap .i64 (x2+(1:Int))),(x3,()))))
 else
 none
 else
 none
 else
 some (.inr (.inr ()))
abbrev wf(x0:aE)(x1:Int):Prop:=iM [(.val zk9 .f),(.val (.int .i64) .f)] (x0,(x1,()))
noncomputable def aQ(x0:aE)(x1:Int):Option aAC:=
 if(jU.pre2 (x1,((0:Int),(x0,()))))=true then
  letB (jU.fn2 (x1,((0:Int),(x0,())))) fun v1=>
  match v1 with
  |.inl y=>
   some ((),y)
  |.inr y=>
   some ((),((-1:Int),()))
 else
  none
theorem ok2(x1 x2:Int)(x3:aE)(hp:pre2 (x1,(x2,(x3,())))=true):aX pre2 qY fn2 (x1,(x2,(x3,()))) (jX x1 x2 x3):=by
 simp only[pre2,Zb,Za] at hp
 obtain⟨h1,h2,h3⟩:=hp
 unfold jX
 by_cases hlt:x2<(x3.2.1.length:Int)
 . have hn:x2.toNat<x3.2.1.length:=by omega
   have e1:=Zn hn
   refine bU (Zd hlt) (bU (Zd h1) (bU (Zd hlt) ?_))
   rw[dR hn,lN (n:=x2+1) (by omega) (by omega)]
   by_cases he:x3.2.1[x2.toNat]=x1
   . refine bU (Zd he) ?_
     show _=(if 0<=jI x1 (x3.2.1.drop x2.toNat) x2 then _ else _)
     rw[e1]
     simp only[jI,he,if_true]
     rw[if_pos h1]
   . refine dJ (by rw[Za];exact he) ⟨?_,by simp only[qY];omega,?_⟩
     . simp only[pre2,Zb,Za];omega
     . show(if 0<=jI x1 (x3.2.1.drop (x2+1).toNat) (x2+1) then _ else _)=(if 0<=jI x1 (x3.2.1.drop x2.toNat) x2 then _ else _)
       rw[e1,show(x2+1).toNat=x2.toNat+1 by omega]
       simp only[jI,he,if_false]
 . refine dJ (by rw[Za];exact hlt) ?_
   show _=(if 0<=jI x1 (x3.2.1.drop x2.toNat) x2 then _ else _)
   rw[Zt (by omega)]
   rfl
def pre(g:aE)(_:Int):Bool:=gC g
theorem eq(x0:aE)(x1:Int)(_:wf x0 x1)(hp:pre x0 x1=true):aQ x0 x1=some ((),(atG x0 x1,())):=by
 have hg:=iQ.1 (show gC x0=true from hp)
 unfold aQ
 refine bO (show pre2 (x1,((0:Int),(x0,())))=true by simp only[pre2,Zb,Za];omega) (eK ?_)
 have hd:fn2 (x1,((0:Int),(x0,())))=if 0<=atG x0 x1 then .inl (atG x0 x1,()) else .inr ():=rfl
 rw[hd]
 have:=aAx (who:=x1) x0.2.1 0 (Int.le_refl _)
 by_cases h:0<=atG x0 x1
 . rw[if_pos h]
 . rw[if_neg h,show atG x0 x1=-1 by unfold atG at h ⊢;omega]
end jU
abbrev jU:=atG
def qB(t:Int):List Int->List Int->List Int
 |m::ms,b::bs=>if b<t-50 then qB t ms bs else m::qB t ms bs
 |_,_=>[]
def qE(t:Int):List Int->List Int
 |[]=>[]
 |b::bs=>if b<t-50 then qE t bs else b::qE t bs
def qZ(t:Int)(bs:List Int):Bool:=bs.any fun b=>decide (b<t-50)
def lQ(g:aE)(t:Int):aE:=(cond (qZ t g.2.2.1) (upG g.1) g.1,(qB t g.2.1 g.2.2.1,(qE t g.2.2.1,g.2.2.2)))
theorem yM{t m b:Int}:(ms bs:List Int)->ms.length=bs.length->qB t (ms++[m]) (bs++[b])=qB t ms bs++(if b<t-50 then[] else[m])
 |[],[],_=>by simp only[List.nil_append,qB]
 |_::ms,_::bs,h=>by
  simp only[List.cons_append,qB,yM ms bs (by simpa using h)]
  split<;>rfl
 |[],_::_,h=>by cases h
 |_::_,[],h=>by cases h
theorem yW{t b:Int}:(bs:List Int)->qE t (bs++[b])=qE t bs++(if b<t-50 then[] else[b])
 |[]=>by simp only[List.nil_append,qE]
 |_::bs=>by
  simp only[List.cons_append,qE,yW bs]
  split<;>rfl
theorem lP{α:Type}{xs:List α}{n:Nat}(h:n<xs.length)(d:α):xs.take (n+1)=xs.take n++[xs.getD n d]:=by
 rw[List.take_add_one,dR h,Zm h];rfl
def pN(g:aE)(t:Int):Bool:=gC g&&(decide (g.2.2.1.length=g.2.1.length)&&(decide (0<=t)&&(decide (t<=100000)&&g.2.2.1.all fun b=>decide (0<=b)&&decide (b<=100000))))
theorem rU{g:aE}{t:Int}:pN g t=true↔gC g=true/\g.2.2.1.length=g.2.1.length/\0<=t/\t<=100000/\∀b∈g.2.2.1,0<=b/\b<=100000:=by
 simp only[pN,Zb,Za,Zu]
namespace gK
abbrev S4:Type:=(Int×(Bool×(Int×(aE×aBb))))
abbrev O4:Type:=(Bool×(aE×aBb))
noncomputable def pre4:S4->Bool:=fun(x1,_,x3,x4,_,_,_,_,_,_,_,x12,x13,x14,_)=>pN x4 x1&&(gC (0,(x12,(x13,(x14,()))))&&(decide (-1<=x3)&&(decide (x3<(x4.2.1.length:Int))&&(decide (x3<(x12.length:Int))&&(same (x12.take (x3+1).toNat) (x4.2.1.take (x3+1).toNat)&&(decide (x13.length=x12.length)&&same (x13.take (x3+1).toNat) (x4.2.2.1.take (x3+1).toNat)))))))
def kU:S4->Nat:=fun(_,_,x3,_)=>(x3+1).toNat
def Q4(s:S4)(o:O4):Prop:=match s,o with
 |(x1,x2,x3,x4,_,_,_,_,_,x10,_,x12,x13,x14,_),(o1,o4,_,_,_,_,_,o10,_,o12,o13,o14,_)=>
  o4=x4/\o10=x10/\o14=x14/\o1=(x2||qZ x1 (x4.2.2.1.take (x3+1).toNat))/\o12=qB x1 (x4.2.1.take (x3+1).toNat) (x4.2.2.1.take (x3+1).toNat)++x12.drop (x3+1).toNat/\o13=qE x1 (x4.2.2.1.take (x3+1).toNat)++x13.drop (x3+1).toNat
noncomputable def eO(x1:Int)(x2:Bool)(x3:Int)(x4:aE)(x5:Int)(x6:Unit)(x7:(List Int))(x8:(List Int))(x9:(List Int))(x10:Int)(x11:Unit)(x12:(List Int))(x13:(List Int))(x14:(List Int)):Option ((Int×(Bool×(Int×(aE×aBb))))⊕(Bool×(aE×aBb))):=
 if(decide ((0:Int)<=x3))=true then
 if(decide (x3<((length x4.2.2.1:Nat):Int)))=true then
 if(decide ((0:Int)<=x3))=true then
 if(decide (x3<((length x4.2.2.1:Nat):Int)))=true then
 if(decide ((List.getD x4.2.2.1 (Int.toNat x3) (0:Int))<x1))=true then
 if(decide ((0:Int)<=x3))=true then
 if(decide (x3<((length x4.2.2.1:Nat):Int)))=true then
 if(decide ((50:Int)<(wrap .i64 (x1-(List.getD x4.2.2.1 (Int.toNat x3) (0:Int))))))=true then
 if(dZ.pre (x10,(x12,(x13,(x14,x11)))) x3)=true then
 letB (lI (x10,(x12,(x13,(x14,x11)))) x3) fun v1=>
 some (.inl (x1,(true,((wrap .i64 (x3-(1:Int))),(x4,(x5,(x6,(x7,(x8,(x9,(v1.1,(v1.2.2.2.2,v1.2))))))))))))
 else
 none
 else
 if(decide ((0:Int)<=x3))=true then
 if(decide (x3<((length x4.2.2.1:Nat):Int)))=true then
 if(decide ((wrap .i64 (x1-(List.getD x4.2.2.1 (Int.toNat x3) (0:Int))))<(0:Int)))=true then
 if(dZ.pre (x10,(x12,(x13,(x14,x11)))) x3)=true then
 letB (lI (x10,(x12,(x13,(x14,x11)))) x3) fun v2=>
 some (.inl (x1,(true,((wrap .i64 (x3-(1:Int))),(x4,(x5,(x6,(x7,(x8,(x9,(v2.1,(v2.2.2.2.2,v2.2))))))))))))
 else
 none
 else
 some (.inl (x1,(x2,((wrap .i64 (x3-(1:Int))),(x4,(x5,(x6,(x7,(x8,(x9,(x10,(x11,(x12,(x13,(x14,())))))))))))))))
 else
 none
 else
 none
 else
 none
 else
 none
 else
 some (.inl (x1,(x2,((wrap .i64 (x3-(1:Int))),(x4,(x5,(x6,(x7,(x8,(x9,(x10,(x11,(x12,(x13,(x14,())))))))))))))))
 else
 none
 else
 none
 else
 some (.inl (x1,(x2,((wrap .i64 (x3-(1:Int))),(x4,(x5,(x6,(x7,(x8,(x9,(x10,(x11,(x12,(x13,(x14,())))))))))))))))
 else
 some (.inr (x2,(x4,(x5,(x6,(x7,(x8,(x9,(x10,(x11,(x12,(x13,(x14,())))))))))))))
theorem wp4:∀s,pre4 s=true->Wp ((fun(x:S4)=>eO x.1 x.2.1 x.2.2.1 x.2.2.2.1 x.2.2.2.2.1 x.2.2.2.2.2.1 x.2.2.2.2.2.2.1 x.2.2.2.2.2.2.2.1 x.2.2.2.2.2.2.2.2.1 x.2.2.2.2.2.2.2.2.2.1 x.2.2.2.2.2.2.2.2.2.2.1 x.2.2.2.2.2.2.2.2.2.2.2.1 x.2.2.2.2.2.2.2.2.2.2.2.2.1 x.2.2.2.2.2.2.2.2.2.2.2.2.2.1) s) (hJ pre4 kU Q4 s):=by
 rintro⟨x1,x2,x3,x4,x5,⟨⟩,x7,x8,x9,x10,⟨⟩,x12,x13,x14,⟨⟩⟩ hp
 simp only[pre4,Zb,Za,pF] at hp
 obtain⟨htp,hgs,h3,h4,h5,h6,h7,h8⟩:=hp
 obtain⟨t1,t2,t3,t4,t5⟩:=rU.1 htp
 have hg:=iQ.1 hgs
 have ht:=iQ.1 t1
 simp only[] at hg
 show Wp (eO x1 x2 x3 x4 x5 () x7 x8 x9 x10 () x12 x13 x14) _
 unfold eO
 by_cases h0:0<=x3
 . have hn1:x3.toNat<x4.2.1.length:=by omega
   have hn2:x3.toNat<x4.2.2.1.length:=by omega
   have hn3:x3.toNat<x12.length:=by omega
   have hn4:x3.toNat<x13.length:=by omega
   have es:(x3+1).toNat=x3.toNat+1:=by omega
   have e1:=lN (n:=x3-1) (by omega) (by omega)
   have em:(x3-1+1).toNat=x3.toNat:=by omega
   have hb:=t5 _ (List.getElem_mem hn2)
   have eb:x4.2.2.1.getD x3.toNat (0:Int)=x4.2.2.1[x3.toNat]:=dR hn2
   rw[es] at h6 h8
   have k12:x12.take x3.toNat=x4.2.1.take x3.toNat:=by
    have:=congrArg (List.take x3.toNat) h6
    rwa [List.take_take,List.take_take,Nat.min_eq_left (by omega)] at this
   have k13:x13.take x3.toNat=x4.2.2.1.take x3.toNat:=by
    have:=congrArg (List.take x3.toNat) h8
    rwa [List.take_take,List.take_take,Nat.min_eq_left (by omega)] at this
   have ew:=lN (n:=x1-x4.2.2.1[x3.toNat]) (by omega) (by omega)
   have hl:(x4.2.1.take x3.toNat).length=(x4.2.2.1.take x3.toNat).length:=by rw[Zr,Zr];omega
   -- kept
   have stay:¬x4.2.2.1[x3.toNat]<x1-50->hJ pre4 kU Q4 (x1,x2,x3,x4,x5,(),x7,x8,x9,x10,(),x12,x13,x14,()) (.inl (x1,(x2,((wrap .i64 (x3-1)),(x4,(x5,((),(x7,(x8,(x9,(x10,((),(x12,(x13,(x14,()))))))))))))))):=by
    intro hk
    rw[e1]
    refine⟨?_,by simp only[kU];omega,?_⟩
    . simp only[pre4,Zb,Za,pF,em]
      exact⟨htp,hgs,by omega,by omega,by omega,k12,h7,k13⟩
    . rintro⟨o1,o4,o5,⟨⟩,o7,o8,o9,o10,⟨⟩,o12,o13,o14,⟨⟩⟩ ⟨q1,q2,q3,q4,q5,q6⟩
      refine⟨q1,q2,q3,?_,?_,?_⟩
      . rw[q4,em,es,lP hn2 0,eb]
        simp only[qZ,List.any_append,List.any_cons,List.any_nil,decide_eq_false hk,Bool.or_false]
      . rw[q5,em,es,lP hn2 0,lP hn1 0,yM _ _ hl,eb,if_neg hk,Zk,Zn hn3]
        have:x12[x3.toNat]=x4.2.1.getD x3.toNat 0:=by
         have:(x12.take (x3.toNat+1)).getD x3.toNat 0=(x4.2.1.take (x3.toNat+1)).getD x3.toNat 0:=by rw[h6]
         rw[lP hn3 0,lP hn1 0,k12,dR hn3] at this
         have hlen:(x4.2.1.take x3.toNat).length=x3.toNat:=by rw[Zr];omega
         simpa [List.getD_eq_getElem?_getD,List.getElem?_append_right,hlen] using this
        rw[this];rfl
      . rw[q6,em,es,lP hn2 0,yW,eb,if_neg hk,Zk,Zn hn4]
        have:x13[x3.toNat]=x4.2.2.1[x3.toNat]:=by
         have:(x13.take (x3.toNat+1)).getD x3.toNat 0=(x4.2.2.1.take (x3.toNat+1)).getD x3.toNat 0:=by rw[h8]
         rw[lP hn4 0,lP hn2 0,k13,dR hn4] at this
         have hlen:(x4.2.2.1.take x3.toNat).length=x3.toNat:=by rw[Zr];omega
         rw[eb] at this
         rw[<-eb]
         simpa [List.getD_eq_getElem?_getD,List.getElem?_append_right,hlen] using this
        rw[this];rfl
   -- taken out
   have take:x4.2.2.1[x3.toNat]<x1-50->hJ pre4 kU Q4 (x1,x2,x3,x4,x5,(),x7,x8,x9,x10,(),x12,x13,x14,()) (.inl (x1,(true,((wrap .i64 (x3-1)),(x4,(x5,((),(x7,(x8,(x9,((lI (x10,(x12,(x13,(x14,())))) x3).1,((lI (x10,(x12,(x13,(x14,())))) x3).2.2.2.2,(lI (x10,(x12,(x13,(x14,())))) x3).2)))))))))))):=by
    intro hk
    rw[e1]
    have gs':gC (lI (0,(x12,(x13,(x14,())))) x3)=true:=wU hgs
    refine⟨?_,by simp only[kU];omega,?_⟩
    . show pre4 (x1,(true,(x3-1,(x4,(x5,((),(x7,(x8,(x9,(x10,((),(x12.eraseIdx x3.toNat,(x13.eraseIdx x3.toNat,(x14,()))))))))))))))=true
      simp only[pre4,Zb,Za,pF,em]
      refine⟨htp,gs',by omega,by omega,?_,?_,?_,?_⟩
      . rw[List.length_eraseIdx_of_lt hn3];omega
      . rw[List.eraseIdx_eq_take_drop_succ,List.take_append_of_le_length (by rw[Zr];omega),List.take_take,Nat.min_self];exact k12
      . rw[List.length_eraseIdx_of_lt hn3,List.length_eraseIdx_of_lt hn4];omega
      . rw[List.eraseIdx_eq_take_drop_succ,List.take_append_of_le_length (by rw[Zr];omega),List.take_take,Nat.min_self];exact k13
    . rintro⟨o1,o4,o5,⟨⟩,o7,o8,o9,o10,⟨⟩,o12,o13,o14,⟨⟩⟩ ⟨q1,q2,q3,q4,q5,q6⟩
      refine⟨q1,q2,q3,?_,?_,?_⟩
      . rw[q4,em,es,lP hn2 0,eb]
        simp only[qZ,List.any_append,List.any_cons,List.any_nil,Zd hk,Bool.or_true,Bool.true_or]
      . rw[q5,em,es,lP hn2 0,lP hn1 0,yM _ _ hl,eb,if_pos hk,List.append_nil]
        show _++List.drop x3.toNat (x12.eraseIdx x3.toNat)=_
        rw[List.eraseIdx_eq_take_drop_succ,List.drop_append_of_le_length (by rw[Zr];omega),List.drop_take,Nat.sub_self];rfl
      . rw[q6,em,es,lP hn2 0,yW,eb,if_pos hk,List.append_nil]
        show _++List.drop x3.toNat (x13.eraseIdx x3.toNat)=_
        rw[List.eraseIdx_eq_take_drop_succ,List.drop_append_of_le_length (by rw[Zr];omega),List.drop_take,Nat.sub_self];rfl
   have hpw:dZ.pre (x10,(x12,(x13,(x14,())))) x3=true:=by
    simp only[dZ.pre,Zb,Za]
    exact⟨hgs,h0,by omega⟩
   rw[eb]
   refine aG (Zd h0) (aG (Zd (by omega)) (aG (Zd h0) (aG (Zd (by omega)) (cF (fun c=>?_) fun c=>?_))))
   . rw[Za] at c
     refine aG (Zd h0) (aG (Zd (by omega)) (cF (fun d=>?_) fun d=>?_))
     . rw[Za,ew] at d
       exact aG hpw (bR (aH (take (by omega))))
     . rw[Za,ew] at d
       exact aG (Zd h0) (aG (Zd (by omega)) (eG (by rw[Za,ew];omega) (aH (stay (by omega)))))
   . rw[Za] at c
     exact aH (stay (by omega))
 . refine eG (by rw[Za];exact h0) (aH ?_)
   have:(x3+1).toNat=0:=by omega
   simp only[hJ,Q4,this,List.take_zero,List.drop_zero]
   exact⟨trivial,trivial,trivial,by simp[qZ],rfl,rfl⟩
noncomputable def fn4:S4->O4:=zS (fun(x:S4)=>eO x.1 x.2.1 x.2.2.1 x.2.2.2.1 x.2.2.2.2.1 x.2.2.2.2.2.1 x.2.2.2.2.2.2.1 x.2.2.2.2.2.2.2.1 x.2.2.2.2.2.2.2.2.1 x.2.2.2.2.2.2.2.2.2.1 x.2.2.2.2.2.2.2.2.2.2.1 x.2.2.2.2.2.2.2.2.2.2.2.1 x.2.2.2.2.2.2.2.2.2.2.2.2.1 x.2.2.2.2.2.2.2.2.2.2.2.2.2.1) kU
theorem vZ(x1:Int)(x2:Bool)(x3:Int)(x4:aE)(x5:Int)(x6:Unit)(x7 x8 x9:List Int)(x10:Int)(x11:Unit)(x12 x13 x14:List Int)(hp:pre4 (x1,(x2,(x3,(x4,(x5,(x6,(x7,(x8,(x9,(x10,(x11,(x12,(x13,(x14,()))))))))))))))=true):
 aX pre4 kU fn4 (x1,(x2,(x3,(x4,(x5,(x6,(x7,(x8,(x9,(x10,(x11,(x12,(x13,(x14,())))))))))))))) (eO x1 x2 x3 x4 x5 x6 x7 x8 x9 x10 x11 x12 x13 x14):=oN wp4 hp
def pre(g:aE)(t:Int):Bool:=pN g t
abbrev wf(x0:aE)(x1:Int):Prop:=iM [(.val zk9 .f),(.val (.int .i64) .f)] (x0,(x1,()))
noncomputable def aQ(x0:aE)(x1:Int):Option aCw:=
 if(aU.pre x0)=true then
 letB (aU x0) fun v1=>
 if(gK.pre4 (x1,(false,((wrap .i64 (((length x0.2.1:Nat):Int)-(1:Int))),(x0,((0:Int),((),(([]:List Int),(([]:List Int),(([]:List Int),(v1.1,(v1.2.2.2.2,v1.2))))))))))))=true then
 letB (gK.fn4 (x1,(false,((wrap .i64 (((length x0.2.1:Nat):Int)-(1:Int))),(x0,((0:Int),((),(([]:List Int),(([]:List Int),(([]:List Int),(v1.1,(v1.2.2.2.2,v1.2)))))))))))) fun v2=>
 if v2.1=true then
 if(iT.pre v2.2.1.1)=true then
 letB (upG v2.2.1.1) fun v3=>
 some ((),((v3,(v2.2.2.2.2.2.2.2.2.2.1,(v2.2.2.2.2.2.2.2.2.2.2.1,(v2.2.2.2.2.2.2.2.2.2.2.2.1,v2.2.2.2.2.2.2.2.2.1)))),()))
 else
 none
 else
 some ((),((v2.2.2.2.2.2.2.2.1,(v2.2.2.2.2.2.2.2.2.2.1,(v2.2.2.2.2.2.2.2.2.2.2.1,(v2.2.2.2.2.2.2.2.2.2.2.2.1,v2.2.2.2.2.2.2.2.2.1)))),()))
 else
 none
 else
 none
theorem eq(x0:aE)(x1:Int)(_:wf x0 x1)(hp:pre x0 x1=true):aQ x0 x1=some ((),(lQ x0 x1,())):=by
 obtain⟨t1,t2,t3,t4,t5⟩:=rU.1 (show pN x0 x1=true from hp)
 have hg:=iQ.1 t1
 refine aCb ?_
 unfold aQ
 have e1:=lN (n:=(x0.2.1.length:Int)-1) (by omega) (by omega)
 have en:((x0.2.1.length:Int)-1+1).toNat=x0.2.1.length:=by omega
 have hq:pre4 (x1,(false,((wrap .i64 ((x0.2.1.length:Int)-1)),(x0,((0:Int),((),(([]:List Int),(([]:List Int),(([]:List Int),((aU x0).1,((aU x0).2.2.2.2,(aU x0).2)))))))))))=true:=by
  rw[e1]
  show(pN x0 x1&&(gC (0,(x0.2.1,(x0.2.2.1,(x0.2.2.2.1,()))))&&(decide (-1<=(x0.2.1.length:Int)-1)&&(decide ((x0.2.1.length:Int)-1<(x0.2.1.length:Int))&&(decide ((x0.2.1.length:Int)-1<(x0.2.1.length:Int))&&(same (x0.2.1.take ((x0.2.1.length:Int)-1+1).toNat) (x0.2.1.take ((x0.2.1.length:Int)-1+1).toNat)&&(decide (x0.2.2.1.length=x0.2.1.length)&&same (x0.2.2.1.take ((x0.2.1.length:Int)-1+1).toNat) (x0.2.2.1.take ((x0.2.1.length:Int)-1+1).toNat))))))))=true
  simp only[nZ,Bool.and_true,Zb,Za,Bool.true_and]
  exact⟨hp,t1,by omega,by omega,by omega,t2⟩
 refine aG (show aU.pre x0=true from t1) (bR (aG hq (cW (rI wp4 hq:Q4 _ (fn4 _)) ?_)))
 rintro⟨o1,o4,o5,⟨⟩,o7,o8,o9,o10,⟨⟩,o12,o13,o14,⟨⟩⟩ ⟨q1,q2,q3,q4,q5,q6⟩
 simp only[e1,en] at q4 q5 q6
 have q4:o1=qZ x1 x0.2.2.1:=by rw[q4,Bool.false_or,List.take_of_length_le (by omega)]
 have q5:o12=qB x1 x0.2.1 x0.2.2.1:=by rw[q5,List.take_of_length_le (Nat.le_refl _),List.take_of_length_le (by omega)];show _++x0.2.1.drop _=_;rw[Zt (Nat.le_refl _),List.append_nil]
 have q6:o13=qE x1 x0.2.2.1:=by rw[q6,List.take_of_length_le (by omega)];show _++x0.2.2.1.drop _=_;rw[Zt (by omega),List.append_nil]
 have q3:o14=x0.2.2.2.1:=q3
 have q2:o10=x0.1:=q2
 subst q2 q3 q4 q5 q6
 rw[q1]
 unfold lQ
 cases qZ x1 x0.2.2.1
 . exact eG Bool.false_ne_true (aH rfl)
 . exact aG rfl (aG (show iT.pre _=true from Zd (Int.le_refl _)) (aH rfl))
end gK
abbrev gK:=lQ
def oA(who:Int):List Int->List Int->Nat
 |m::ms,_::bs=>if m<who then oA who ms bs+1 else 0
 |_,_=>0
theorem aAm{who:Int}:(ms bs:List Int)->oA who ms bs<=ms.length/\oA who ms bs<=bs.length
 |[],_=>⟨Nat.zero_le _,Nat.zero_le _⟩
 |_::_,[]=>⟨Nat.zero_le _,Nat.zero_le _⟩
 |m::ms,b::bs=>by
  have:=aAm (who:=who) ms bs
  simp only[oA,Zg]
  split<;>omega
def zF(k:Nat)(x:Int)(l:List Int):List Int:=l.take k++x::l.drop k
def iJ(g:aE)(who t:Int):aE:=
 if aA who 0 3=true then
  if 0<=atG g who then(if atG g who<(g.2.2.1.length:Int) then(g.1,(g.2.1,(g.2.2.1.modify (atG g who).toNat (fun _=>t),g.2.2.2))) else g)
  else(upG g.1,(zF (oA who g.2.1 g.2.2.1) who g.2.1,(zF (oA who g.2.1 g.2.2.1) t g.2.2.1,g.2.2.2)))
 else g
namespace fX
abbrev S10:Type:=(Int×(Int×(Int×(aE×aBb))))
abbrev O10:Type:=(Int×(Int×(Int×(aE×aBb))))
def pre10:S10->Bool:=fun(_,_,x3,x4,_)=>gC x4&&(decide (0<=x3)&&(decide (x3<=(x4.2.1.length:Int))&&decide (x3<=(x4.2.2.1.length:Int))))
def fn10:S10->O10:=fun(x1,x2,x3,x4,x5)=>(x1,x2,x3+(oA x1 (x4.2.1.drop x3.toNat) (x4.2.2.1.drop x3.toNat):Int),x4,x5)
def aJs:S10->Nat:=fun(_,_,x3,x4,_)=>x4.2.1.length-x3.toNat
def pre(g:aE)(_ _:Int):Bool:=gC g
noncomputable def aIC(x1:Int)(x2:Int)(x3:Int)(x4:aE)(x5:Int)(x6:Unit)(x7:(List Int))(x8:(List Int))(x9:(List Int))(x10:Int)(x11:Unit)(x12:(List Int))(x13:(List Int))(x14:(List Int)):Option ((Int×(Int×(Int×(aE×aBb))))⊕(Int×(Int×(Int×(aE×aBb))))):=
 if(decide (x3<((length x4.2.1:Nat):Int)))=true then
 if(decide (x3<((length x4.2.2.1:Nat):Int)))=true then
 if(decide ((0:Int)<=x3))=true then
 if(decide (x3<((length x4.2.1:Nat):Int)))=true then
 if(decide ((List.getD x4.2.1 (Int.toNat x3) (0:Int))<x1))=true then
 some (.inl (x1,(x2,((wrap .i64 (x3+(1:Int))),(x4,(x5,(x6,(x7,(x8,(x9,(x10,(x11,(x12,(x13,(x14,())))))))))))))))
 else
 some (.inr (x1,(x2,(x3,(x4,(x5,(x6,(x7,(x8,(x9,(x10,(x11,(x12,(x13,(x14,())))))))))))))))
 else
 none
 else
 none
 else
 some (.inr (x1,(x2,(x3,(x4,(x5,(x6,(x7,(x8,(x9,(x10,(x11,(x12,(x13,(x14,())))))))))))))))
 else
 some (.inr (x1,(x2,(x3,(x4,(x5,(x6,(x7,(x8,(x9,(x10,(x11,(x12,(x13,(x14,())))))))))))))))
abbrev wf(x0:aE)(x1:Int)(x2:Int):Prop:=iM [(.val zk9 .f),(.val (.int .i64) .f),(.val (.int .i64) .f)] (x0,(x1,(x2,())))
noncomputable def aQ(x0:aE)(x1:Int)(x2:Int):Option aCw:=
 if(aU.pre x0)=true then
 letB (aA x1 (0:Int) (3:Int)) fun v1=>
 if(!v1)=true then
 letB (aU x0) fun v2=>
 some ((),(v2,()))
 else
 if(jU.pre x0 x1)=true then
 letB (atG x0 x1) fun v3=>
 if(decide ((0:Int)<=v3))=true then
 letB (aU x0) fun v4=>
 if(decide (v3<((length v4.2.2.1:Nat):Int)))=true then
 if(decide ((0:Int)<=v3))=true then
 if(decide (v3<((length v4.2.2.1:Nat):Int)))=true then
 some ((),((v4.1,(v4.2.1,((List.modify v4.2.2.1 (Int.toNat v3) (fun z=>x2)),v4.2.2.2))),()))
 else
 none
 else
 none
 else
 some ((),(v4,()))
 else
 letB (aU x0) fun v5=>
 if(fX.pre10 (x1,(x2,((0:Int),(x0,((0:Int),((),(([]:List Int),(([]:List Int),(([]:List Int),(v5.1,(v5.2.2.2.2,v5.2))))))))))))=true then
 if(decide ((0:Int)<=(0:Int)))=true then
 letB (fX.fn10 (x1,(x2,((0:Int),(x0,((0:Int),((),(([]:List Int),(([]:List Int),(([]:List Int),(v5.1,(v5.2.2.2.2,v5.2)))))))))))) fun v6=>
 if(decide ((0:Int)<=v6.2.2.1))=true then
 if(decide (v6.2.2.1<=((length v6.2.2.2.1.2.1:Nat):Int)))=true then
 if(decide (length ([]:List Int)+length (aW (Int.toNat (0:Int)) (Int.toNat v6.2.2.1) v6.2.2.2.1.2.1)<=gO))=true then
 if(decide (length (List.append ([]:List Int) (aW (Int.toNat (0:Int)) (Int.toNat v6.2.2.1) v6.2.2.2.1.2.1))+length (v6.1::([]:List Int))<=gO))=true then
 if(decide ((0:Int)<=v6.2.2.1))=true then
 if(decide (v6.2.2.1<=((length v6.2.2.2.1.2.1:Nat):Int)))=true then
 if(decide (((length v6.2.2.2.1.2.1:Nat):Int)<=((length v6.2.2.2.1.2.1:Nat):Int)))=true then
 if(decide (length (List.append (List.append ([]:List Int) (aW (Int.toNat (0:Int)) (Int.toNat v6.2.2.1) v6.2.2.2.1.2.1)) (v6.1::([]:List Int)))+length (aW (Int.toNat v6.2.2.1) (Int.toNat ((length v6.2.2.2.1.2.1:Nat):Int)) v6.2.2.2.1.2.1)<=gO))=true then
 if(decide ((0:Int)<=(0:Int)))=true then
 if(decide ((0:Int)<=v6.2.2.1))=true then
 if(decide (v6.2.2.1<=((length v6.2.2.2.1.2.2.1:Nat):Int)))=true then
 if(decide (length ([]:List Int)+length (aW (Int.toNat (0:Int)) (Int.toNat v6.2.2.1) v6.2.2.2.1.2.2.1)<=gO))=true then
 if(decide (length (List.append ([]:List Int) (aW (Int.toNat (0:Int)) (Int.toNat v6.2.2.1) v6.2.2.2.1.2.2.1))+length (v6.2.1::([]:List Int))<=gO))=true then
 if(decide ((0:Int)<=v6.2.2.1))=true then
 if(decide (v6.2.2.1<=((length v6.2.2.2.1.2.2.1:Nat):Int)))=true then
 if(decide (((length v6.2.2.2.1.2.2.1:Nat):Int)<=((length v6.2.2.2.1.2.2.1:Nat):Int)))=true then
 if(decide (length (List.append (List.append ([]:List Int) (aW (Int.toNat (0:Int)) (Int.toNat v6.2.2.1) v6.2.2.2.1.2.2.1)) (v6.2.1::([]:List Int)))+length (aW (Int.toNat v6.2.2.1) (Int.toNat ((length v6.2.2.2.1.2.2.1:Nat):Int)) v6.2.2.2.1.2.2.1)<=gO))=true then
 if(iT.pre v6.2.2.2.1.1)=true then
 letB (upG v6.2.2.2.1.1) fun v7=>
 some ((),((v7,((List.append (List.append (List.append ([]:List Int) (aW (Int.toNat (0:Int)) (Int.toNat v6.2.2.1) v6.2.2.2.1.2.1)) (v6.1::([]:List Int))) (aW (Int.toNat v6.2.2.1) (Int.toNat ((length v6.2.2.2.1.2.1:Nat):Int)) v6.2.2.2.1.2.1)),((List.append (List.append (List.append ([]:List Int) (aW (Int.toNat (0:Int)) (Int.toNat v6.2.2.1) v6.2.2.2.1.2.2.1)) (v6.2.1::([]:List Int))) (aW (Int.toNat v6.2.2.1) (Int.toNat ((length v6.2.2.2.1.2.2.1:Nat):Int)) v6.2.2.2.1.2.2.1)),(v6.2.2.2.2.2.2.2.2.2.2.2.2.2.1,v6.2.2.2.2.2.2.2.2.2.2.1)))),()))
 else
 none
 else
 none
 else
 none
 else
 none
 else
 none
 else
 none
 else
 none
 else
 none
 else
 none
 else
 none
 else
 none
 else
 none
 else
 none
 else
 none
 else
 none
 else
 none
 else
 none
 else
 none
 else
 none
 else
 none
 else
 none
 else
 none
theorem aKJ(x1 x2 x3:Int)(x4:aE)(x5:Int)(x6:Unit)(x7 x8 x9:List Int)(x10:Int)(x11:Unit)(x12 x13 x14:List Int)(hp:pre10 (x1,(x2,(x3,(x4,(x5,(x6,(x7,(x8,(x9,(x10,(x11,(x12,(x13,(x14,()))))))))))))))=true):
 aX pre10 aJs fn10 (x1,(x2,(x3,(x4,(x5,(x6,(x7,(x8,(x9,(x10,(x11,(x12,(x13,(x14,())))))))))))))) (aIC x1 x2 x3 x4 x5 x6 x7 x8 x9 x10 x11 x12 x13 x14):=by
 simp only[pre10,Zb,Za] at hp
 obtain⟨hs,h1,h2,h3⟩:=hp
 have hg:=iQ.1 hs
 have stop:(oA x1 (x4.2.1.drop x3.toNat) (x4.2.2.1.drop x3.toNat))=0->aX pre10 aJs fn10 (x1,(x2,(x3,(x4,(x5,(x6,(x7,(x8,(x9,(x10,(x11,(x12,(x13,(x14,())))))))))))))) (some (.inr (x1,(x2,(x3,(x4,(x5,(x6,(x7,(x8,(x9,(x10,(x11,(x12,(x13,(x14,())))))))))))))))):=by
  intro h
  simp only[aX,fn10,h]
  simp
 unfold aIC
 by_cases a1:x3<(x4.2.1.length:Int)
 . by_cases a2:x3<(x4.2.2.1.length:Int)
   . have hn:x3.toNat<x4.2.1.length:=by omega
     have hn2:x3.toNat<x4.2.2.1.length:=by omega
     have e1:=Zn hn
     have e2:=Zn hn2
     refine bU (Zd a1) (bU (Zd a2) (bU (Zd h1) (bU (Zd a1) ?_)))
     rw[dR hn,lN (n:=x3+1) (by omega) (by omega)]
     by_cases c:x4.2.1[x3.toNat]<x1
     . refine bU (Zd c) ⟨?_,by simp only[aJs];omega,?_⟩
       . simp only[pre10,Zb,Za];exact⟨hs,by omega,by omega,by omega⟩
       . simp only[fn10]
         rw[e1,e2,show(x3+1).toNat=x3.toNat+1 by omega]
         simp only[oA,c,if_true]
         rw[show x3+1+((oA x1 (List.drop (x3.toNat+1) x4.2.1) (List.drop (x3.toNat+1) x4.2.2.1):Nat):Int)=x3+((oA x1 (List.drop (x3.toNat+1) x4.2.1) (List.drop (x3.toNat+1) x4.2.2.1)+1:Nat):Int) by omega]
     . refine dJ (by rw[Za];exact c) (stop ?_)
       rw[e1,e2]
       simp only[oA,c,if_false]
   . refine bU (Zd a1) (dJ (by rw[Za];exact a2) (stop ?_))
     rw[show x4.2.2.1.drop x3.toNat=[] from Zt (by omega)]
     cases x4.2.1.drop x3.toNat<;>rfl
 . refine dJ (by rw[Za];exact a1) (stop ?_)
   rw[show x4.2.1.drop x3.toNat=[] from Zt (by omega)]
   rfl
theorem aDh{l:List Int}{x:Int}{k:Nat}:List.append (List.append (List.append ([]:List Int) (aW (Int.toNat 0) k l)) (x::([]:List Int))) (aW k ((l.length:Int)).toNat l)=zF k x l:=by
 show(List.take (k-0) (List.drop 0 l)++[x])++List.take (((l.length:Int)).toNat-k) (List.drop k l)=_
 rw[List.take_of_length_le (l:=List.drop k l) (by rw[Zs];omega),Zk];rfl
theorem eq(x0:aE)(x1 x2:Int)(_:wf x0 x1 x2)(hp:pre x0 x1 x2=true):aQ x0 x1 x2=some ((),(iJ x0 x1 x2,())):=by
 have hs:gC x0=true:=hp
 have hg:=iQ.1 hs
 unfold aQ iJ
 refine bO (show aU.pre x0=true from hs) (eK ?_)
 cases hin:aA x1 0 3
 . rfl
 refine dC (by decide) (bO (show jU.pre x0 x1=true from hs) (eK ?_))
 rw[if_pos rfl]
 by_cases h0:0<=atG x0 x1
 . have:=tN (who:=x1) x0.2.1 0 (Int.le_refl _) h0
   refine bO (Zd h0) (eK ?_)
   rw[if_pos h0]
   by_cases h1:atG x0 x1<(x0.2.2.1.length:Int)
   . rw[if_pos h1]
     exact bO (Zd h1) (bO (Zd h0) (bO (Zd h1) rfl))
   . rw[if_neg h1]
     exact dC (by rw[Za];exact h1) rfl
 . rw[if_neg h0]
   refine dC (by rw[Za];exact h0) (eK (bO (show pre10 _=true by simp only[pre10,Zb,Za];exact⟨hs,by omega,by omega,by omega⟩) (bO (by decide) (eK ?_))))
   have hl:=aAm (who:=x1) x0.2.1 x0.2.2.1
   generalize hk:oA x1 x0.2.1 x0.2.2.1=k at hl ⊢
   have hf:fn10 (x1,(x2,((0:Int),(x0,((0:Int),((),(([]:List Int),(([]:List Int),(([]:List Int),((aU x0).1,((aU x0).2.2.2.2,(aU x0).2)))))))))))=(x1,(x2,((k:Int),(x0,((0:Int),((),(([]:List Int),(([]:List Int),(([]:List Int),(x0.1,((),(x0.2.1,(x0.2.2.1,(x0.2.2.2.1,())))))))))))))):=by
    simp only[fn10,Int.toNat_zero,List.drop_zero,hk,Int.zero_add];rfl
   rw[hf]
   simp only[]
   rw[aDh,aDh]
   refine bO (Zd (by omega)) (bO (Zd (by omega)) ?_)
   repeat (first|(with_reducible refine eK ?_)|(with_reducible refine bO ?hs ?_;case hs=>(first|assumption|(simp only[Za,Bool.not_eq_true',Zv,Bool.not_eq_true,Zf,List.append_eq,Zg,Zh,aW,Zr,Zs,List.length_modify,List.length_eraseIdx,gO];omega)|(simp only[Za];omega)))|(with_reducible refine dC ?hs ?_;case hs=>(first|assumption|(simp only[Za,Bool.not_eq_true',Zv,Bool.not_eq_true,Zf,List.append_eq,Zg,Zh,aW,Zr,Zs,List.length_modify,List.length_eraseIdx,gO];omega)|(simp only[Za];omega))))
   refine bO (show iT.pre _=true from Zd (Int.le_refl _)) (eK ?_)
   rfl
end fX
abbrev fX:=iJ
def fD(g:aE)(who:Int):aE:=if 0<=atG g who/\aA who 0 3=true then(upG g.1,(lI g (atG g who)).2) else g
namespace iD
def pre(g:aE)(_:Int):Bool:=gC g
abbrev wf(x0:aE)(x1:Int):Prop:=iM [(.val zk9 .f),(.val (.int .i64) .f)] (x0,(x1,()))
noncomputable def aQ(x0:aE)(x1:Int):Option aCw:=
 if(jU.pre x0 x1)=true then
 letB (atG x0 x1) fun v1=>
 if(decide (v1<(0:Int)))=true then
 if(aU.pre x0)=true then
 letB (aU x0) fun v2=>
 some ((),(v2,()))
 else
 none
 else
 letB (aA x1 (0:Int) (3:Int)) fun v3=>
 if(!v3)=true then
 if(aU.pre x0)=true then
 letB (aU x0) fun v4=>
 some ((),(v4,()))
 else
 none
 else
 if(dZ.pre x0 v1)=true then
 if(iT.pre x0.1)=true then
 letB (upG x0.1) fun v5=>
 letB (lI x0 v1) fun v6=>
 some ((),((v5,v6.2),()))
 else
 none
 else
 none
 else
 none
theorem eq(x0:aE)(x1:Int)(_:wf x0 x1)(hp:pre x0 x1=true):aQ x0 x1=some ((),(fD x0 x1,())):=by
 have hs:gC x0=true:=hp
 unfold aQ
 refine bO (show jU.pre x0 x1=true from hs) (eK ?_)
 by_cases h0:0<=atG x0 x1
 . have:=tN (who:=x1) x0.2.1 0 (Int.le_refl _) h0
   refine dC (by rw[Za];omega) (eK ?_)
   cases hin:aA x1 0 3
   . rw[show fD x0 x1=x0 from if_neg (by rw[hin];simp)]
     exact bO rfl (bO (show aU.pre x0=true from hs) rfl)
   . rw[show fD x0 x1=_ from if_pos ⟨h0,hin⟩]
     refine dC (by decide) (bO (show dZ.pre x0 _=true by simp only[dZ.pre,Zb,Za];exact⟨hs,h0,by unfold atG at *;omega⟩) (bO (show iT.pre _=true from Zd (Int.le_refl _)) rfl))
 . rw[show fD x0 x1=x0 from if_neg (fun h=>h0 h.1)]
   exact bO (by rw[Za];omega) (bO (show aU.pre x0=true from hs) rfl)
end iD
abbrev iD:=fD
def nK(g:aE)(row:Int):Int:=if(g.2.1.length:Int)=0\/row<0 then -1 else g.2.1.getD (Int.tmod row (g.2.1.length:Int)).toNat 0
namespace kL
def pre(g:aE)(_:Int):Bool:=gC g
abbrev wf(x0:aE)(x1:Int):Prop:=iM [(.val zk9 .f),(.val (.int .i64) .f)] (x0,(x1,()))
noncomputable def aQ(x0:aE)(x1:Int):Option aAC:=
 if(decide (((length x0.2.1:Nat):Int)=(0:Int)))=true then
 some ((),((-1:Int),()))
 else
 if(decide (x1<(0:Int)))=true then
 some ((),((-1:Int),()))
 else
 if(!(decide (((length x0.2.1:Nat):Int)=(0:Int))))=true then
 if(decide ((0:Int)<=(Int.tmod x1 ((length x0.2.1:Nat):Int))))=true then
 if(decide ((Int.tmod x1 ((length x0.2.1:Nat):Int))<((length x0.2.1:Nat):Int)))=true then
 some ((),((List.getD x0.2.1 (Int.toNat (Int.tmod x1 ((length x0.2.1:Nat):Int))) (0:Int)),()))
 else
 none
 else
 none
 else
 none
theorem eq(x0:aE)(x1:Int)(_:wf x0 x1)(_:pre x0 x1=true):aQ x0 x1=some ((),(nK x0 x1,())):=by
 unfold aQ
 by_cases h1:(x0.2.1.length:Int)=0
 . rw[show nK x0 x1=-1 from if_pos (Or.inl h1)]
   exact bO (Zd h1) rfl
 by_cases h2:x1<0
 . rw[show nK x0 x1=-1 from if_pos (Or.inr h2)]
   exact dC (by rw[Za];exact h1) (bO (Zd h2) rfl)
 rw[show nK x0 x1=_ from if_neg (fun h=>h.elim h1 h2)]
 have t1:=Int.tmod_nonneg (x0.2.1.length:Int) (show 0<=x1 by omega)
 have t2:=Int.tmod_lt_of_pos x1 (show 0<(x0.2.1.length:Int) by omega)
 exact dC (by rw[Za];exact h1) (dC (by rw[Za];exact h2) (bO (by simp only[Bool.not_eq_true',Zv];exact h1) (bO (Zd t1) (bO (Zd t2) rfl))))
end kL
abbrev kL:=nK
def qL(g:aE)(who gen row off:Int):Bool:=decide (gen=g.1)&&(aA row 0 ((g.2.2.2.1.length:Int)-1)&&(decide (nK g row=who)&&decide (g.2.2.2.1.getD row.toNat 0<=off)))
def gN(g:aE)(who gen row off:Int):aE×Bool:=if qL g who gen row off=true then((g.1,(g.2.1,(g.2.2.1,(g.2.2.2.1.modify row.toNat (fun _=>off),())))),true) else(g,false)
namespace hZ
def pre(g:aE)(_ _ _ _:Int):Bool:=gC g
abbrev wf(x0:aE)(x1:Int)(x2:Int)(x3:Int)(x4:Int):Prop:=iM [(.val zk9 .f),(.val (.int .i64) .f),(.val (.int .i64) .f),(.val (.int .i64) .f),(.val (.int .i64) .f)] (x0,(x1,(x2,(x3,(x4,())))))
noncomputable def aQ(x0:aE)(x1:Int)(x2:Int)(x3:Int)(x4:Int):Option (Unit×(aE×(Bool×Unit))):=
 if(aU.pre x0)=true then
 if(!(decide (x2=x0.1)))=true then
 letB (aU x0) fun v1=>
 some ((),(v1,(false,())))
 else
 letB (aA x3 (0:Int) (wrap .i64 (((length x0.2.2.2.1:Nat):Int)-(1:Int)))) fun v2=>
 if(!v2)=true then
 letB (aU x0) fun v3=>
 some ((),(v3,(false,())))
 else
 if(kL.pre x0 x3)=true then
 letB (nK x0 x3) fun v4=>
 if(!(decide (v4=x1)))=true then
 letB (aU x0) fun v5=>
 some ((),(v5,(false,())))
 else
 if(decide ((0:Int)<=x3))=true then
 if(decide (x3<((length x0.2.2.2.1:Nat):Int)))=true then
 if(decide (x4<(List.getD x0.2.2.2.1 (Int.toNat x3) (0:Int))))=true then
 letB (aU x0) fun v6=>
 some ((),(v6,(false,())))
 else
 if(decide ((0:Int)<=x3))=true then
 letB (aU x0) fun v7=>
 if(decide (x3<((length v7.2.2.2.1:Nat):Int)))=true then
 some ((),((v7.1,(v7.2.1,(v7.2.2.1,((List.modify v7.2.2.2.1 (Int.toNat x3) (fun z=>x4)),v7.2.2.2.2)))),(true,())))
 else
 none
 else
 none
 else
 none
 else
 none
 else
 none
 else
 none
theorem eq(x0:aE)(x1 x2 x3 x4:Int)(_:wf x0 x1 x2 x3 x4)(hp:pre x0 x1 x2 x3 x4=true):aQ x0 x1 x2 x3 x4=some ((),((gN x0 x1 x2 x3 x4).1,((gN x0 x1 x2 x3 x4).2,()))):=by
 have hs:gC x0=true:=hp
 have hg:=iQ.1 hs
 unfold aQ
 have no:qL x0 x1 x2 x3 x4=false->gN x0 x1 x2 x3 x4=(x0,false):=fun h=>if_neg (by rw[h];simp)
 rw[lN (n:=(x0.2.2.2.1.length:Int)-1) (by omega) (by omega)]
 refine bO (show aU.pre x0=true from hs) ?_
 by_cases h1:x2=x0.1
 case neg=>
  rw[no (by simp[qL,h1]),decide_eq_false h1];rfl
 rw[Zd h1]
 refine dC (by decide) (eK ?_)
 cases hin:aA x3 0 ((x0.2.2.2.1.length:Int)-1)
 . rw[no (by simp[qL,hin])];rfl
 have hw:=pC hin
 refine dC (by decide) (bO (show kL.pre x0 x3=true from hs) (eK ?_))
 by_cases h2:nK x0 x3=x1
 case neg=>rw[no (by simp[qL,h2]),decide_eq_false h2];rfl
 rw[Zd h2]
 refine dC (by decide) (bO (Zd hw.1) (bO (Zd (by omega)) ?_))
 by_cases h3:x4<x0.2.2.2.1.getD x3.toNat 0
 . rw[no (by simp only[qL,decide_eq_false (p:=x0.2.2.2.1.getD x3.toNat 0<=x4) (by omega),Bool.and_false])]
   exact bO (Zd h3) rfl
 . rw[show gN x0 x1 x2 x3 x4=_ from if_pos (by simp only[qL,Zd (p:=x0.2.2.2.1.getD x3.toNat 0<=x4) (by omega),Zd h1,Zd h2,hin];rfl)]
   exact dC (by rw[Za];exact h3) (bO (Zd hw.1) (eK (bO (Zd (show x3<(x0.2.2.2.1.length:Int) by omega)) rfl)))
end hZ
abbrev hZ:=gN
theorem wH{β γ:Type}{m:Option (Unit×(β×(γ×Unit)))}{v:β×γ}(h:Wp m fun r=>(r.2.1,r.2.2.1)=v):m=some ((),(v.1,(v.2,()))):=by
 obtain⟨a,rfl,rfl⟩:=h
 rfl
def kT(row who:Int)(m:aC):Bool:=decide (m.1=row)&&decide (m.2.1=who)
def jS(xs:List aC)(row who:Int):aC:=(xs.find? (kT row who)).getD (row,(who,((0:Int),((-1:Int),(([]:List bS),())))))
def uY(xs:List aC):Bool:=bQ xs&&xs.all fun m=>bQ m.2.2.2.2.1
theorem rB{xs:List aC}:uY xs=true↔xs.length<=16777216/\∀m∈xs,m.2.2.2.2.1.length<=16777216:=by
 simp only[uY,Zb,bJ,Zu]
namespace fU
abbrev S2:Type:=((List aC)×(Int×(Int×(Int×aBe))))
abbrev O2:Type:=(aBe⊕(Int×(Int×aBe)))
def pre2:S2->Bool:=fun(x1,_,_,x4,_)=>uY x1&&(decide (0<=x4)&&decide (x4<=(x1.length:Int)))
def qY:S2->Nat:=fun(x1,_,_,x4,_)=>x1.length-x4.toNat
def Q2(s:S2)(o:O2):Prop:=match o with
 |.inl y=>((s.1.drop s.2.2.2.1.toNat).find? (kT s.2.1 s.2.2.1))=some (y.1,(y.2.1,(y.2.2.1,(y.2.2.2.1,(y.2.2.2.2.2.1,())))))
 |.inr y=>((s.1.drop s.2.2.2.1.toNat).find? (kT s.2.1 s.2.2.1))=none/\y.1=s.2.1/\y.2.1=s.2.2.1
noncomputable def jX(x1:(List aC))(x2:Int)(x3:Int)(x4:Int)(x5:Int)(x6:Int)(x7:Int)(x8:Int)(x9:Unit)(x10:(List bS)):Option (((List aC)×(Int×(Int×(Int×aBe))))⊕(aBe⊕(Int×(Int×aBe)))):=
 if(decide (x4<((length x1:Nat):Int)))=true then
 if(decide ((0:Int)<=x4))=true then
 if(decide (x4<((length x1:Nat):Int)))=true then
 if(decide ((List.getD x1 (Int.toNat x4) kK).1=x2))=true then
 if(decide ((0:Int)<=x4))=true then
 if(decide (x4<((length x1:Nat):Int)))=true then
 if(decide ((List.getD x1 (Int.toNat x4) kK).2.1=x3))=true then
 if(decide ((0:Int)<=x4))=true then
 if(decide (x4<((length x1:Nat):Int)))=true then
 if(aM.pre (List.getD x1 (Int.toNat x4) kK))=true then
 letB (aM (List.getD x1 (Int.toNat x4) kK)) fun v1=>
 some (.inr (.inl (v1.1,(v1.2.1,(v1.2.2.1,(v1.2.2.2.1,(v1.2.2.2.2.2,v1.2.2.2.2)))))))
 else
 none
 else
 none
 else
 none
 else
 some (.inl (x1,(x2,(x3,((wrap .i64 (x4+(1:Int))),(x5,(x6,(x7,(x8,(x9,(x10,())))))))))))
 else
 none
 else
 none
 else
 some (.inl (x1,(x2,(x3,((wrap .i64 (x4+(1:Int))),(x5,(x6,(x7,(x8,(x9,(x10,())))))))))))
 else
 none
 else
 none
 else
 some (.inr (.inr (x2,(x3,(x5,(x6,(x7,(x8,(x9,(x10,()))))))))))
theorem wp2:∀s,pre2 s=true->Wp ((fun(x:S2)=>jX x.1 x.2.1 x.2.2.1 x.2.2.2.1 x.2.2.2.2.1 x.2.2.2.2.2.1 x.2.2.2.2.2.2.1 x.2.2.2.2.2.2.2.1 x.2.2.2.2.2.2.2.2.1 x.2.2.2.2.2.2.2.2.2.1) s) (hJ pre2 qY Q2 s):=by
 rintro⟨x1,x2,x3,x4,x5,x6,x7,x8,⟨⟩,x10,⟨⟩⟩ hp
 simp only[pre2,Zb,Za] at hp
 obtain⟨hs,h1,h2⟩:=hp
 have hm:=rB.1 hs
 show Wp (jX x1 x2 x3 x4 x5 x6 x7 x8 () x10) _
 unfold jX
 by_cases hlt:x4<(x1.length:Int)
 . have hn:x4.toNat<x1.length:=by omega
   have e1:=Zn hn
   rw[dR hn,lN (n:=x4+1) (by omega) (by omega)]
   have nxt:kT x2 x3 x1[x4.toNat]=false->hJ pre2 qY Q2 (x1,x2,x3,x4,x5,x6,x7,x8,(),x10,()) (.inl (x1,(x2,(x3,((x4+1),(x5,(x6,(x7,(x8,((),(x10,()))))))))))):=by
    intro hk
    refine⟨?_,by simp only[qY];omega,fun o ho=>?_⟩
    . simp only[pre2,Zb,Za];exact⟨hs,by omega,by omega⟩
    . have e:(x1.drop x4.toNat).find? (kT x2 x3)=(x1.drop (x4+1).toNat).find? (kT x2 x3):=by
       rw[e1,show(x4+1).toNat=x4.toNat+1 by omega,List.find?_cons,hk]
      cases o with
      |inl y=>exact e.trans ho
      |inr y=>exact⟨e.trans ho.1,ho.2⟩
   refine aG (Zd hlt) (aG (Zd h1) (aG (Zd hlt) (cF (fun a=>aG (Zd h1) (aG (Zd hlt) (cF (fun b=>?_) fun b=>?_))) fun a=>?_)))
   . rw[Za] at a b
     refine aG (Zd h1) (aG (Zd hlt) (aG (show aM.pre _=true from bJ.2 (hm.2 _ (List.getElem_mem hn))) (bR (aH ?_))))
     show(x1.drop x4.toNat).find? (kT x2 x3)=some x1[x4.toNat]
     rw[e1,List.find?_cons,show kT x2 x3 x1[x4.toNat]=true by simp[kT,a,b]]
   . rw[Za] at b
     exact aH (nxt (by simp[kT,b]))
   . rw[Za] at a
     exact aH (nxt (by simp[kT,a]))
 . refine eG (by rw[Za];exact hlt) (aH ?_)
   refine⟨?_,rfl,rfl⟩
   show(x1.drop x4.toNat).find? _=none
   rw[Zt (by omega)];rfl
noncomputable def fn2:S2->O2:=aJk (fun(x:S2)=>jX x.1 x.2.1 x.2.2.1 x.2.2.2.1 x.2.2.2.2.1 x.2.2.2.2.2.1 x.2.2.2.2.2.2.1 x.2.2.2.2.2.2.2.1 x.2.2.2.2.2.2.2.2.1 x.2.2.2.2.2.2.2.2.2.1) qY
theorem ok2(x1:List aC)(x2 x3 x4 x5 x6 x7 x8:Int)(x9:Unit)(x10:List bS)(hp:pre2 (x1,(x2,(x3,(x4,(x5,(x6,(x7,(x8,(x9,(x10,()))))))))))=true):
 aX pre2 qY fn2 (x1,(x2,(x3,(x4,(x5,(x6,(x7,(x8,(x9,(x10,())))))))))) (jX x1 x2 x3 x4 x5 x6 x7 x8 x9 x10):=aGx wp2 hp
def pre(xs:List aC)(_ _:Int):Bool:=uY xs
abbrev wf(x0:(List aC))(x1:Int)(x2:Int):Prop:=iM [(.val (.sl 0 wQ) .f),(.val (.int .i64) .f),(.val (.int .i64) .f)] (x0,(x1,(x2,())))
noncomputable def aQ(x0:(List aC))(x1:Int)(x2:Int):Option (Unit×(aC×Unit)):=
 if(fU.pre2 (x0,(x1,(x2,aHV))))=true then
  letB (fU.fn2 (x0,(x1,(x2,aHV)))) fun v1=>
  match v1 with
  |.inl y=>
   some ((),((y.1,(y.2.1,(y.2.2.1,(y.2.2.2.1,(y.2.2.2.2.2.1,y.2.2.2.2.1))))),()))
  |.inr y=>
   some ((),((y.1,(y.2.1,((0:Int),((-1:Int),(([]:List bS),()))))),()))
 else
  none
theorem eq(x0:List aC)(x1 x2:Int)(_:wf x0 x1 x2)(hp:pre x0 x1 x2=true):aQ x0 x1 x2=some ((),(jS x0 x1 x2,())):=by
 have hs:uY x0=true:=hp
 refine aCb ?_
 unfold aQ jS
 have hq:pre2 (x0,(x1,(x2,aHV)))=true:=by
  simp only[pre2,Zb,Za];exact⟨hs,by omega,by omega⟩
 refine aG hq (cW (aHC wp2 hq:Q2 _ (fn2 _)) fun o ho=>?_)
 cases o with
 |inl y=>
  have:x0.find? (kT x1 x2)=some (y.1,(y.2.1,(y.2.2.1,(y.2.2.2.1,(y.2.2.2.2.2.1,()))))):=ho
  rw[this]
  exact aH rfl
 |inr y=>
  obtain⟨h1,h2,h3⟩:=ho
  have:x0.find? (kT x1 x2)=none:=h1
  rw[this]
  simp only[] at h2 h3
  refine aH ?_
  show(y.1,(y.2.1,_))=_
  rw[h2,h3];rfl
end fU
abbrev fU:=jS
def cN(m:aC)(epoch seq:Int):Int×Int:=
 if epoch<m.2.2.1 then(4,0)
 else if m.2.2.1<epoch then(if seq=0 then(0,0) else(3,0))
 else if m.2.2.2.1<seq then(if wrap .i64 (seq-1)=m.2.2.2.1 then(0,0) else(3,0))
 else match m.2.2.2.2.1.find? (fun x=>decide (x.1=seq)) with
  |some x=>(1,x.2.1)
  |none=>(2,0)
namespace eS
abbrev S12:Type:=(Int×(Int×(aC×Unit)))
abbrev O12:Type:=(bS⊕Unit)
def pre12:S12->Bool:=fun(_,x2,x3,_)=>bQ x3.2.2.2.2.1&&(decide (0<=x2)&&decide (x2<=(x3.2.2.2.2.1.length:Int)))
def aFW:S12->Nat:=fun(_,x2,x3,_)=>x3.2.2.2.2.1.length-x2.toNat
def fn12:S12->O12:=fun(x1,x2,x3,_)=>match(x3.2.2.2.2.1.drop x2.toNat).find? (fun x=>decide (x.1=x1)) with
 |some x=>.inl (1,x.2)
 |none=>.inr ()
noncomputable def aBI(x1:Int)(x2:Int)(x3:aC):Option ((Int×(Int×(aC×Unit)))⊕(bS⊕Unit)):=
 if(decide (x2<((length x3.2.2.2.2.1:Nat):Int)))=true then
 if(decide ((0:Int)<=x2))=true then
 if(decide (x2<((length x3.2.2.2.2.1:Nat):Int)))=true then
 if(decide ((List.getD x3.2.2.2.2.1 (Int.toNat x2) pV).1=x1))=true then
 if(decide ((0:Int)<=x2))=true then
 if(decide (x2<((length x3.2.2.2.2.1:Nat):Int)))=true then
 some (.inr (.inl ((1:Int),(List.getD x3.2.2.2.2.1 (Int.toNat x2) pV).2)))
 else
 none
 else
 none
 else
 some (.inl (x1,((wrap .i64 (x2+(1:Int))),(x3,()))))
 else
 none
 else
 none
 else
 some (.inr (.inr ()))
abbrev wf(x0:aC)(x1:Int)(x2:Int):Prop:=iM [(.val wQ .f),(.val (.int .i64) .f),(.val (.int .i64) .f)] (x0,(x1,(x2,())))
noncomputable def aQ(x0:aC)(x1:Int)(x2:Int):Option (Unit×bS):=
 if(decide (x1<x0.2.2.1))=true then
  some ((),((4:Int),((0:Int),())))
 else
  if(decide (x0.2.2.1<x1))=true then
   if(decide (x2=(0:Int)))=true then
    some ((),pV)
   else
    some ((),((3:Int),((0:Int),())))
  else
   if(decide (x0.2.2.2.1<x2))=true then
    if(decide ((wrap .i64 (x2-(1:Int)))=x0.2.2.2.1))=true then
     some ((),pV)
    else
     some ((),((3:Int),((0:Int),())))
   else
    if(eS.pre12 (x2,((0:Int),(x0,()))))=true then
     letB (eS.fn12 (x2,((0:Int),(x0,())))) fun v1=>
     match v1 with
     |.inl y=>
      some ((),y)
     |.inr y=>
      some ((),((2:Int),((0:Int),())))
    else
     none
theorem aKg(x1 x2:Int)(x3:aC)(hp:pre12 (x1,(x2,(x3,())))=true):aX pre12 aFW fn12 (x1,(x2,(x3,()))) (aBI x1 x2 x3):=by
 simp only[pre12,Zb,Za] at hp
 obtain⟨hs,h1,h2⟩:=hp
 have hs':=bJ.1 hs
 unfold aBI
 by_cases hlt:x2<(x3.2.2.2.2.1.length:Int)
 . have hn:x2.toNat<x3.2.2.2.2.1.length:=by omega
   have e1:=Zn hn
   refine bU (Zd hlt) (bU (Zd h1) (bU (Zd hlt) ?_))
   rw[dR hn,lN (n:=x2+1) (by omega) (by omega)]
   by_cases c:x3.2.2.2.2.1[x2.toNat].1=x1
   . refine bU (Zd c) (bU (Zd h1) (bU (Zd hlt) ?_))
     simp only[aX,fn12]
     rw[e1,List.find?_cons,Zd c]
   . refine dJ (by rw[Za];exact c) ⟨?_,by simp only[aFW];omega,?_⟩
     . simp only[pre12,Zb,Za];exact⟨hs,by omega,by omega⟩
     . simp only[fn12]
       rw[e1,List.find?_cons,decide_eq_false c,show(x2+1).toNat=x2.toNat+1 by omega]
 . refine dJ (by rw[Za];exact hlt) ?_
   simp only[aX,fn12]
   rw[Zt (by omega)];rfl
def pre(m:aC)(_ _:Int):Bool:=bQ m.2.2.2.2.1
theorem eq(x0:aC)(x1 x2:Int)(_:wf x0 x1 x2)(hp:pre x0 x1 x2=true):aQ x0 x1 x2=some ((),((cN x0 x1 x2).1,((cN x0 x1 x2).2,()))):=by
 have hs:bQ x0.2.2.2.2.1=true:=hp
 have q:pre12 (x2,((0:Int),(x0,())))=true:=by
  simp only[pre12,Zb,Za];exact⟨hs,by omega,by omega⟩
 refine wH ?_
 unfold aQ cN
 by_cases c1:x1<x0.2.2.1
 . rw[if_pos (Zd c1),if_pos c1];exact aH rfl
 rw[if_neg (by rw[Za];exact c1),if_neg c1]
 by_cases c2:x0.2.2.1<x1
 . rw[if_pos (Zd c2),if_pos c2]
   by_cases c3:x2=0
   . rw[if_pos (Zd c3),if_pos c3];exact aH rfl
   . rw[if_neg (by rw[Za];exact c3),if_neg c3];exact aH rfl
 rw[if_neg (by rw[Za];exact c2),if_neg c2]
 by_cases c4:x0.2.2.2.1<x2
 . rw[if_pos (Zd c4),if_pos c4]
   by_cases c5:wrap .i64 (x2-1)=x0.2.2.2.1
   . rw[if_pos (Zd c5),if_pos c5];exact aH rfl
   . rw[if_neg (by rw[Za];exact c5),if_neg c5];exact aH rfl
 rw[if_neg (by rw[Za];exact c4),if_neg c4]
 refine aG q (bR ?_)
 simp only[fn12,Int.toNat_zero,List.drop_zero]
 cases x0.2.2.2.2.1.find? (fun x=>decide (x.1=x2))<;>exact aH rfl
end eS
abbrev eS:=cN
def pG(a b:Int):Int:=if b<a then a else b
namespace oV
abbrev wf(x0:Int)(x1:Int):Prop:=iM [(.val (.int .i64) .f),(.val (.int .i64) .f)] (x0,(x1,()))
noncomputable def aQ(x0:Int)(x1:Int):Option aAC:=
 if(decide (x1<x0))=true then
 some ((),(x0,()))
 else
 some ((),(x1,()))
theorem eq(x0 x1:Int)(_:wf x0 x1):aQ x0 x1=some ((),(pG x0 x1,())):=by
 unfold aQ pG
 by_cases h:x1<x0
 . rw[if_pos (Zd h),if_pos h]
 . rw[if_neg (by rw[Za];exact h),if_neg h]
end oV
abbrev oV:=pG
def oC(w:Int)(l:List bS):List bS:=l.drop (l.length-(pG w 0).toNat)
def iP(m:aC)(w epoch seq off:Int):aC:=
 if(cN m epoch seq).1=0 then(m.1,(m.2.1,(epoch,(seq,(oC w ((if m.2.2.1<epoch then[] else m.2.2.2.2.1)++[(seq,(off,()))]),()))))) else m
theorem yR{α:Type}{l:List α}{k:Int}(h0:0<=k):List.append ([]:List α) (aW k.toNat ((l.length:Int)).toNat l)=l.drop k.toNat:=by
 show List.take (((l.length:Int)).toNat-k.toNat) (List.drop k.toNat l)=_
 exact List.take_of_length_le (by rw[Zs];omega)
namespace jJ
def pre(m:aC)(_ _ _ _:Int):Bool:=bQ m.2.2.2.2.1
abbrev wf(x0:aC)(x1:Int)(x2:Int)(x3:Int)(x4:Int):Prop:=iM [(.val wQ .f),(.val (.int .i64) .f),(.val (.int .i64) .f),(.val (.int .i64) .f),(.val (.int .i64) .f)] (x0,(x1,(x2,(x3,(x4,())))))
noncomputable def aQ(x0:aC)(x1:Int)(x2:Int)(x3:Int)(x4:Int):Option (Unit×(aC×Unit)):=
 if(aM.pre x0)=true then
 if(eS.pre x0 x2 x3)=true then
 letB (cN x0 x2 x3) fun v1=>
 if(!(decide (v1.1=(0:Int))))=true then
 letB (aM x0) fun v2=>
 some ((),(v2,()))
 else
 if(decide (x0.2.2.1<x2))=true then
 if(decide (length ([]:List bS)+length ((x3,(x4,()))::([]:List bS))<=gO))=true then
 letB (pG x1 (0:Int)) fun v3=>
 if(decide (v3<((length (List.append ([]:List bS) ((x3,(x4,()))::([]:List bS))):Nat):Int)))=true then
 if(decide ((0:Int)<=(wrap .i64 (((length (List.append ([]:List bS) ((x3,(x4,()))::([]:List bS))):Nat):Int)-v3))))=true then
 if(decide ((wrap .i64 (((length (List.append ([]:List bS) ((x3,(x4,()))::([]:List bS))):Nat):Int)-v3))<=((length (List.append ([]:List bS) ((x3,(x4,()))::([]:List bS))):Nat):Int)))=true then
 if(decide (((length (List.append ([]:List bS) ((x3,(x4,()))::([]:List bS))):Nat):Int)<=((length (List.append ([]:List bS) ((x3,(x4,()))::([]:List bS))):Nat):Int)))=true then
 if(decide (length ([]:List bS)+length (aW (Int.toNat (wrap .i64 (((length (List.append ([]:List bS) ((x3,(x4,()))::([]:List bS))):Nat):Int)-v3))) (Int.toNat ((length (List.append ([]:List bS) ((x3,(x4,()))::([]:List bS))):Nat):Int)) (List.append ([]:List bS) ((x3,(x4,()))::([]:List bS))))<=gO))=true then
 letB (aM x0) fun v4=>
 some ((),((v4.1,(v4.2.1,(x2,(x3,((List.append ([]:List bS) (aW (Int.toNat (wrap .i64 (((length (List.append ([]:List bS) ((x3,(x4,()))::([]:List bS))):Nat):Int)-v3))) (Int.toNat ((length (List.append ([]:List bS) ((x3,(x4,()))::([]:List bS))):Nat):Int)) (List.append ([]:List bS) ((x3,(x4,()))::([]:List bS))))),v4.2.2.2.2.2))))),()))
 else
 none
 else
 none
 else
 none
 else
 none
 else
 letB (aM x0) fun v5=>
 some ((),((v5.1,(v5.2.1,(x2,(x3,((List.append ([]:List bS) ((x3,(x4,()))::([]:List bS))),v5.2.2.2.2.2))))),()))
 else
 none
 else
 letB (aM x0) fun v6=>
 if(decide (length v6.2.2.2.2.1+length ((x3,(x4,()))::([]:List bS))<=gO))=true then
 letB (pG x1 (0:Int)) fun v7=>
 if(decide (v7<((length (List.append v6.2.2.2.2.1 ((x3,(x4,()))::([]:List bS))):Nat):Int)))=true then
 if(decide ((0:Int)<=(wrap .i64 (((length (List.append v6.2.2.2.2.1 ((x3,(x4,()))::([]:List bS))):Nat):Int)-v7))))=true then
 if(decide ((wrap .i64 (((length (List.append v6.2.2.2.2.1 ((x3,(x4,()))::([]:List bS))):Nat):Int)-v7))<=((length (List.append v6.2.2.2.2.1 ((x3,(x4,()))::([]:List bS))):Nat):Int)))=true then
 if(decide (((length (List.append v6.2.2.2.2.1 ((x3,(x4,()))::([]:List bS))):Nat):Int)<=((length (List.append v6.2.2.2.2.1 ((x3,(x4,()))::([]:List bS))):Nat):Int)))=true then
 if(decide (length ([]:List bS)+length (aW (Int.toNat (wrap .i64 (((length (List.append v6.2.2.2.2.1 ((x3,(x4,()))::([]:List bS))):Nat):Int)-v7))) (Int.toNat ((length (List.append v6.2.2.2.2.1 ((x3,(x4,()))::([]:List bS))):Nat):Int)) (List.append v6.2.2.2.2.1 ((x3,(x4,()))::([]:List bS))))<=gO))=true then
 some ((),((v6.1,(v6.2.1,(x2,(x3,((List.append ([]:List bS) (aW (Int.toNat (wrap .i64 (((length (List.append v6.2.2.2.2.1 ((x3,(x4,()))::([]:List bS))):Nat):Int)-v7))) (Int.toNat ((length (List.append v6.2.2.2.2.1 ((x3,(x4,()))::([]:List bS))):Nat):Int)) (List.append v6.2.2.2.2.1 ((x3,(x4,()))::([]:List bS))))),v6.2.2.2.2.2))))),()))
 else
 none
 else
 none
 else
 none
 else
 none
 else
 some ((),((v6.1,(v6.2.1,(x2,(x3,((List.append v6.2.2.2.2.1 ((x3,(x4,()))::([]:List bS))),v6.2.2.2.2.2))))),()))
 else
 none
 else
 none
 else
 none
theorem eq(x0:aC)(x1 x2 x3 x4:Int)(_:wf x0 x1 x2 x3 x4)(hp:pre x0 x1 x2 x3 x4=true):aQ x0 x1 x2 x3 x4=some ((),(iP x0 x1 x2 x3 x4,())):=by
 have hs:bQ x0.2.2.2.2.1=true:=hp
 have hs':=bJ.1 hs
 have fin:∀l:List bS,l.length<=16777217->
  (¬pG x1 0<(l.length:Int)->oC x1 l=l)/\(pG x1 0<(l.length:Int)->wrap .i64 ((l.length:Int)-pG x1 0)=(l.length:Int)-pG x1 0/\0<=(l.length:Int)-pG x1 0/\(l.length:Int)-pG x1 0<=(l.length:Int)/\List.append ([]:List bS) (aW ((l.length:Int)-pG x1 0).toNat ((l.length:Int)).toNat l)=oC x1 l):=by
  intro l hl
  have hm:0<=pG x1 0:=by unfold pG;split<;>omega
  refine⟨fun h=>?_,fun h=>⟨lN (by omega) (by omega),by omega,by omega,?_⟩⟩
  . unfold oC
    rw[show l.length-(pG x1 0).toNat=0 by omega,List.drop_zero]
  . rw[yR (by omega)]
    unfold oC
    rw[show((l.length:Int)-pG x1 0).toNat=l.length-(pG x1 0).toNat by omega]
 unfold aQ
 rw[show aM x0=x0 from rfl]
 refine bO (show aM.pre x0=true from hs) (bO (show eS.pre x0 x2 x3=true from hs) (eK ?_))
 by_cases c1:(cN x0 x2 x3).1=0
 case neg=>
  rw[show iP x0 x1 x2 x3 x4=x0 from if_neg c1]
  exact bO (by simp only[Bool.not_eq_true',Zv];exact c1) rfl
 refine dC (by simp only[Bool.not_eq_true',Zv,Decidable.not_not];exact c1) ?_
 rw[show iP x0 x1 x2 x3 x4=_ from if_pos c1]
 by_cases c2:x0.2.2.1<x2
 . rw[if_pos c2]
   refine bO (Zd c2) (bO (by simp only[Za,Zg,Zh,gO];omega) (eK ?_))
   have hf:=fin (List.append ([]:List bS) [(x3,(x4,()))]) (by simp)
   have hll:(List.append ([]:List bS) [(x3,(x4,()))]).length<=16777217:=by simp
   show _=some ((),((x0.1,(x0.2.1,(x2,(x3,(oC x1 (List.append ([]:List bS) [(x3,(x4,()))]),()))))),()))
   generalize List.append ([]:List bS) [(x3,(x4,()))]=l at *
   by_cases c3:pG x1 0<(l.length:Int)
   . obtain⟨f1,f2,f3,f4⟩:=hf.2 c3
     rw[f1,<-f4]
     exact bO (Zd c3) (bO (Zd f2) (bO (Zd f3) (bO (Zd (Int.le_refl _)) (bO (by simp only[Za,Zh,aW,Zr,Zs,gO];omega) rfl))))
   . rw[hf.1 c3]
     exact dC (by rw[Za];exact c3) rfl
 . rw[if_neg c2]
   refine dC (by rw[Za];exact c2) (eK (bO (by simp only[Za,Zg,Zh,gO];exact Nat.le_trans (Nat.add_le_add_right hs' 1) (by decide)) (eK ?_)))
   have hll:(List.append x0.2.2.2.2.1 [(x3,(x4,()))]).length<=16777217:=by rw[List.append_eq,Zf,Zg,Zh];omega
   have hf:=fin (List.append x0.2.2.2.2.1 [(x3,(x4,()))]) hll
   show _=some ((),((x0.1,(x0.2.1,(x2,(x3,(oC x1 (List.append x0.2.2.2.2.1 [(x3,(x4,()))]),()))))),()))
   generalize List.append x0.2.2.2.2.1 [(x3,(x4,()))]=l at *
   by_cases c3:pG x1 0<(l.length:Int)
   . obtain⟨f1,f2,f3,f4⟩:=hf.2 c3
     rw[f1,<-f4]
     exact bO (Zd c3) (bO (Zd f2) (bO (Zd f3) (bO (Zd (Int.le_refl _)) (bO (by simp only[Za,Zh,aW,Zr,Zs,gO];omega) rfl))))
   . rw[hf.1 c3]
     exact dC (by rw[Za];exact c3) rfl
end jJ
abbrev jJ:=iP
def oD(x m:aC):Bool:=decide (m.1<x.1)||(decide (x.1=m.1)&&decide (m.2.1<x.2.1))
def gV(m:aC):Bool->List aC->List aC
 |p,[]=>cond p [] [m]
 |p,x::r=>cond (kT m.1 m.2.1 x) (cond p (gV m p r) (m::gV m true r)) (cond (!p&&oD x m) (m::x::gV m true r) (x::gV m p r))
def nB(xs:List aC)(m:aC):List aC:=gV m false xs
namespace gB
abbrev S4:Type:=((List aC)×(Bool×(Int×(aC×yK))))
abbrev O4:Type:=(Bool×(aC×yK))
def pre4:S4->Bool:=fun(x1,_,x3,x4,x5,_)=>uY x1&&(bQ x4.2.2.2.2.1&&(decide (0<=x3)&&(decide (x3<=(x1.length:Int))&&decide (x5.length<=2*x3.toNat))))
def kU:S4->Nat:=fun(x1,_,x3,_)=>x1.length-x3.toNat
def Q4(s:S4)(o:O4):Prop:=o.2.1=s.2.2.2.1/\o.2.2.1++cond o.1 [] [s.2.2.2.1]=s.2.2.2.2.1++gV s.2.2.2.1 s.2.1 (s.1.drop s.2.2.1.toNat)/\o.2.2.1.length<=2*s.1.length
noncomputable def eO(x1:(List aC))(x2:Bool)(x3:Int)(x4:aC)(x5:(List aC)):Option (((List aC)×(Bool×(Int×(aC×yK))))⊕(Bool×(aC×yK))):=
 if(decide (x3<((length x1:Nat):Int)))=true then
 if(decide ((0:Int)<=x3))=true then
 if(decide (x3<((length x1:Nat):Int)))=true then
 if(decide ((List.getD x1 (Int.toNat x3) kK).1=x4.1))=true then
 if(decide ((List.getD x1 (Int.toNat x3) kK).2.1=x4.2.1))=true then
 if(!x2)=true then
 if(aM.pre x4)=true then
 letB (aM x4) fun v1=>
 if(decide (length x5+length (v1::([]:List aC))<=gO))=true then
 some (.inl (x1,(true,((wrap .i64 (x3+(1:Int))),(x4,((List.append x5 (v1::([]:List aC))),()))))))
 else
 none
 else
 none
 else
 some (.inl (x1,(x2,((wrap .i64 (x3+(1:Int))),(x4,(x5,()))))))
 else
 if(!x2)=true then
 if(decide (x4.1<(List.getD x1 (Int.toNat x3) kK).1))=true then
 if(aM.pre x4)=true then
 letB (aM x4) fun v2=>
 if(decide (length x5+length (v2::([]:List aC))<=gO))=true then
 if(aM.pre (List.getD x1 (Int.toNat x3) kK))=true then
 letB (aM (List.getD x1 (Int.toNat x3) kK)) fun v3=>
 if(decide (length (List.append x5 (v2::([]:List aC)))+length (v3::([]:List aC))<=gO))=true then
 some (.inl (x1,(true,((wrap .i64 (x3+(1:Int))),(x4,((List.append (List.append x5 (v2::([]:List aC))) (v3::([]:List aC))),()))))))
 else
 none
 else
 none
 else
 none
 else
 none
 else
 if(decide ((List.getD x1 (Int.toNat x3) kK).1=x4.1))=true then
 if(decide (x4.2.1<(List.getD x1 (Int.toNat x3) kK).2.1))=true then
 if(aM.pre x4)=true then
 letB (aM x4) fun v4=>
 if(decide (length x5+length (v4::([]:List aC))<=gO))=true then
 if(aM.pre (List.getD x1 (Int.toNat x3) kK))=true then
 letB (aM (List.getD x1 (Int.toNat x3) kK)) fun v5=>
 if(decide (length (List.append x5 (v4::([]:List aC)))+length (v5::([]:List aC))<=gO))=true then
 some (.inl (x1,(true,((wrap .i64 (x3+(1:Int))),(x4,((List.append (List.append x5 (v4::([]:List aC))) (v5::([]:List aC))),()))))))
 else
 none
 else
 none
 else
 none
 else
 none
 else
 if(aM.pre (List.getD x1 (Int.toNat x3) kK))=true then
 letB (aM (List.getD x1 (Int.toNat x3) kK)) fun v6=>
 if(decide (length x5+length (v6::([]:List aC))<=gO))=true then
 some (.inl (x1,(x2,((wrap .i64 (x3+(1:Int))),(x4,((List.append x5 (v6::([]:List aC))),()))))))
 else
 none
 else
 none
 else
 if(aM.pre (List.getD x1 (Int.toNat x3) kK))=true then
 letB (aM (List.getD x1 (Int.toNat x3) kK)) fun v7=>
 if(decide (length x5+length (v7::([]:List aC))<=gO))=true then
 some (.inl (x1,(x2,((wrap .i64 (x3+(1:Int))),(x4,((List.append x5 (v7::([]:List aC))),()))))))
 else
 none
 else
 none
 else
 if(aM.pre (List.getD x1 (Int.toNat x3) kK))=true then
 letB (aM (List.getD x1 (Int.toNat x3) kK)) fun v8=>
 if(decide (length x5+length (v8::([]:List aC))<=gO))=true then
 some (.inl (x1,(x2,((wrap .i64 (x3+(1:Int))),(x4,((List.append x5 (v8::([]:List aC))),()))))))
 else
 none
 else
 none
 else
 if(!x2)=true then
 if(decide (x4.1<(List.getD x1 (Int.toNat x3) kK).1))=true then
 if(aM.pre x4)=true then
 letB (aM x4) fun v9=>
 if(decide (length x5+length (v9::([]:List aC))<=gO))=true then
 if(aM.pre (List.getD x1 (Int.toNat x3) kK))=true then
 letB (aM (List.getD x1 (Int.toNat x3) kK)) fun v10=>
 if(decide (length (List.append x5 (v9::([]:List aC)))+length (v10::([]:List aC))<=gO))=true then
 some (.inl (x1,(true,((wrap .i64 (x3+(1:Int))),(x4,((List.append (List.append x5 (v9::([]:List aC))) (v10::([]:List aC))),()))))))
 else
 none
 else
 none
 else
 none
 else
 none
 else
 if(decide ((List.getD x1 (Int.toNat x3) kK).1=x4.1))=true then
 if(decide (x4.2.1<(List.getD x1 (Int.toNat x3) kK).2.1))=true then
 if(aM.pre x4)=true then
 letB (aM x4) fun v11=>
 if(decide (length x5+length (v11::([]:List aC))<=gO))=true then
 if(aM.pre (List.getD x1 (Int.toNat x3) kK))=true then
 letB (aM (List.getD x1 (Int.toNat x3) kK)) fun v12=>
 if(decide (length (List.append x5 (v11::([]:List aC)))+length (v12::([]:List aC))<=gO))=true then
 some (.inl (x1,(true,((wrap .i64 (x3+(1:Int))),(x4,((List.append (List.append x5 (v11::([]:List aC))) (v12::([]:List aC))),()))))))
 else
 none
 else
 none
 else
 none
 else
 none
 else
 if(aM.pre (List.getD x1 (Int.toNat x3) kK))=true then
 letB (aM (List.getD x1 (Int.toNat x3) kK)) fun v13=>
 if(decide (length x5+length (v13::([]:List aC))<=gO))=true then
 some (.inl (x1,(x2,((wrap .i64 (x3+(1:Int))),(x4,((List.append x5 (v13::([]:List aC))),()))))))
 else
 none
 else
 none
 else
 if(aM.pre (List.getD x1 (Int.toNat x3) kK))=true then
 letB (aM (List.getD x1 (Int.toNat x3) kK)) fun v14=>
 if(decide (length x5+length (v14::([]:List aC))<=gO))=true then
 some (.inl (x1,(x2,((wrap .i64 (x3+(1:Int))),(x4,((List.append x5 (v14::([]:List aC))),()))))))
 else
 none
 else
 none
 else
 if(aM.pre (List.getD x1 (Int.toNat x3) kK))=true then
 letB (aM (List.getD x1 (Int.toNat x3) kK)) fun v15=>
 if(decide (length x5+length (v15::([]:List aC))<=gO))=true then
 some (.inl (x1,(x2,((wrap .i64 (x3+(1:Int))),(x4,((List.append x5 (v15::([]:List aC))),()))))))
 else
 none
 else
 none
 else
 none
 else
 none
 else
 some (.inr (x2,(x4,(x5,()))))
theorem wp4:∀s,pre4 s=true->Wp ((fun(x:S4)=>eO x.1 x.2.1 x.2.2.1 x.2.2.2.1 x.2.2.2.2.1) s) (hJ pre4 kU Q4 s):=by
 rintro⟨x1,x2,x3,x4,x5,⟨⟩⟩ hp
 simp only[pre4,Zb,Za] at hp
 obtain⟨hs,hx,h1,h2,h3⟩:=hp
 have hm:=rB.1 hs
 have hx':=bJ.1 hx
 show Wp (eO x1 x2 x3 x4 x5) _
 unfold eO
 by_cases hlt:x3<(x1.length:Int)
 . have hn:x3.toNat<x1.length:=by omega
   have e1:=Zn hn
   rw[dR hn,lN (n:=x3+1) (by omega) (by omega)]
   have hxe:=hm.2 _ (List.getElem_mem hn)
   generalize hge:x1[x3.toNat]=e at *
   have cp1:aM.pre x4=true:=hx
   have cp2:aM.pre e=true:=bJ.2 hxe
   have nx:∀(p:Bool) (y:List aC),y.length<=2->gV x4 x2 (x1.drop x3.toNat)=y++gV x4 p (x1.drop (x3.toNat+1))->
    hJ pre4 kU Q4 (x1,x2,x3,x4,x5,()) (.inl (x1,(p,((x3+1),(x4,(x5++y,())))))):=by
    intro p y hy he
    refine⟨?_,by simp only[kU];omega,?_⟩
    . simp only[pre4,Zb,Za,Zf]
      exact⟨hs,hx,by omega,by omega,by omega⟩
    . rintro⟨o1,o2,o3,⟨⟩⟩ ⟨q1,q2,q3⟩
      refine⟨q1,q2.trans ?_,q3⟩
      show(x5++y)++gV x4 p (x1.drop (x3+1).toNat)=x5++gV x4 x2 (x1.drop x3.toNat)
      rw[he,show(x3+1).toNat=x3.toNat+1 by omega,Zk]
   have l1:∀a:aC,decide (x5.length+(a::([]:List aC)).length<=gO)=true:=fun a=>by
    simp only[Za,Zg,Zh,gO];omega
   have l2:∀a b:aC,decide ((List.append x5 (a::([]:List aC))).length+(b::([]:List aC)).length<=gO)=true:=fun a b=>by
    simp only[Za,List.append_eq,Zf,Zg,Zh,gO];omega
   have set1:kT x4.1 x4.2.1 e=true->x2=false->gV x4 x2 (x1.drop x3.toNat)=[x4]++gV x4 true (x1.drop (x3.toNat+1)):=by
    intro a b;rw[e1,b];simp only[gV,a,cond_true,cond_false];rfl
   have set2:kT x4.1 x4.2.1 e=true->x2=true->gV x4 x2 (x1.drop x3.toNat)=[]++gV x4 x2 (x1.drop (x3.toNat+1)):=by
    intro a b;rw[e1,b];simp only[gV,a,cond_true];rfl
   have set3:kT x4.1 x4.2.1 e=false->x2=false->oD e x4=true->gV x4 x2 (x1.drop x3.toNat)=[x4,e]++gV x4 true (x1.drop (x3.toNat+1)):=by
    intro a b c;rw[e1,b];simp only[gV,a,c,cond_false,Bool.not_false,Bool.and_self,cond_true];rfl
   have set4:kT x4.1 x4.2.1 e=false->(!x2&&oD e x4)=false->gV x4 x2 (x1.drop x3.toNat)=[e]++gV x4 x2 (x1.drop (x3.toNat+1)):=by
    intro a b;rw[e1];simp only[gV,a,b,cond_false];rfl
   have fA:∀{p:Bool},(!p)=true->p=false:=by intro p h;cases p<;>simp_all
   have fB:∀{p:Bool},¬(!p)=true->p=true:=by intro p h;cases p<;>simp_all
   have keep1:∀(_:gV x4 x2 (x1.drop x3.toNat)=[e]++gV x4 x2 (x1.drop (x3.toNat+1))),
    Wp (if aM.pre e=true then letB (aM e) fun v=>if decide (x5.length+(v::([]:List aC)).length<=gO)=true then some (.inl (x1,(x2,((x3+1),(x4,(List.append x5 (v::([]:List aC)),())))))) else none else none) (hJ pre4 kU Q4 (x1,x2,x3,x4,x5,())):=
    fun h=>aG cp2 (bR (aG (l1 _) (aH (nx x2 [e] (by simp) h))))
   refine aG (Zd hlt) (aG (Zd h1) (aG (Zd hlt) (cF (fun a=>?_) fun a=>?_)))
   . rw[Za] at a
     refine cF (fun b=>?_) fun b=>?_
     . rw[Za] at b
       have hk:kT x4.1 x4.2.1 e=true:=by simp[kT,a,b]
       refine cF (fun c=>aG cp1 (bR (aG (l1 _) (aH (nx true [x4] (by simp) (set1 hk (fA c))))))) fun c=>aH ?_
       have:=nx x2 [] (by simp) (set2 hk (fB c))
       rwa [List.append_nil] at this
     . rw[Za] at b
       have hk:kT x4.1 x4.2.1 e=false:=by simp[kT,b]
       refine cF (fun c=>?_) fun c=>?_
       . refine cF (fun d=>?_) fun d=>?_
         . rw[Za] at d
           omega
         . refine cF (fun _=>cF (fun f=>?_) fun f=>?_) fun f=>?_
           . rw[Za] at f
             exact aG cp1 (bR (aG (l1 _) (aG cp2 (bR (aG (l2 _ _) (aH (by have:=nx true [x4,e] (by simp) (set3 hk (fA c) (by simp[oD,a,f]));simpa [aM] using this)))))))
           . rw[Za] at f
             exact keep1 (set4 hk (by simp[oD,a,f]))
           . exact absurd (Zd a) f
       . exact keep1 (set4 hk (by rw[fB c];rfl))
   . rw[Za] at a
     have hk:kT x4.1 x4.2.1 e=false:=by simp[kT,a]
     refine cF (fun c=>?_) fun c=>?_
     . refine cF (fun d=>?_) fun d=>?_
       . rw[Za] at d
         exact aG cp1 (bR (aG (l1 _) (aG cp2 (bR (aG (l2 _ _) (aH (by have:=nx true [x4,e] (by simp) (set3 hk (fA c) (by simp[oD,d]));simpa [aM] using this)))))))
       . rw[Za] at d
         refine eG (by rw[Za];exact a) (keep1 (set4 hk (by simp[oD,a,d])))
     . exact keep1 (set4 hk (by rw[fB c];rfl))
 . refine eG (by rw[Za];exact hlt) (aH ⟨rfl,?_,by show x5.length<=2*x1.length;omega⟩)
   show x5++cond x2 [] [x4]=x5++gV x4 x2 (x1.drop x3.toNat)
   rw[Zt (by omega)];rfl
noncomputable def fn4:S4->O4:=zS (fun(x:S4)=>eO x.1 x.2.1 x.2.2.1 x.2.2.2.1 x.2.2.2.2.1) kU
theorem vZ(x1:List aC)(x2:Bool)(x3:Int)(x4:aC)(x5:List aC)(hp:pre4 (x1,(x2,(x3,(x4,(x5,())))))=true):aX pre4 kU fn4 (x1,(x2,(x3,(x4,(x5,()))))) (eO x1 x2 x3 x4 x5):=oN wp4 hp
def pre(xs:List aC)(m:aC):Bool:=uY xs&&bQ m.2.2.2.2.1
abbrev wf(x0:(List aC))(x1:aC):Prop:=iM [(.val (.sl 0 wQ) .f),(.val wQ .f)] (x0,(x1,()))
noncomputable def aQ(x0:(List aC))(x1:aC):Option (Unit×yK):=
 if(gB.pre4 (x0,(false,((0:Int),(x1,(([]:List aC),()))))))=true then
 letB (gB.fn4 (x0,(false,((0:Int),(x1,(([]:List aC),())))))) fun v1=>
 if(!v1.1)=true then
 if(aM.pre v1.2.1)=true then
 letB (aM v1.2.1) fun v2=>
 if(decide (length v1.2.2.1+length (v2::([]:List aC))<=gO))=true then
 some ((),((List.append v1.2.2.1 (v2::([]:List aC))),()))
 else
 none
 else
 none
 else
 some ((),v1.2.2)
 else
 none
theorem eq(x0:List aC)(x1:aC)(_:wf x0 x1)(hp:pre x0 x1=true):aQ x0 x1=some ((),(nB x0 x1,())):=by
 simp only[pre,Zb] at hp
 have hm:=rB.1 hp.1
 refine aCb ?_
 unfold aQ
 have hq:pre4 (x0,(false,((0:Int),(x1,(([]:List aC),())))))=true:=by
  simp only[pre4,Zb,Za,Zh];exact⟨hp.1,hp.2,by omega,by omega,by omega⟩
 refine aG hq (cW (rI wp4 hq:Q4 _ (fn4 _)) ?_)
 rintro⟨o1,o2,o3,⟨⟩⟩ ⟨q1,q2,q3⟩
 have q1:o2=x1:=q1
 have q2:o3++cond o1 [] [x1]=nB x0 x1:=q2
 have q3:o3.length<=2*x0.length:=q3
 subst q1
 cases o1
 . refine aG rfl (aG (show aM.pre o2=true from hp.2) (bR (aG (by simp only[Za,Zg,Zh,gO];omega) (aH q2))))
 . refine eG Bool.false_ne_true (aH ?_)
   rw[<-q2]
   exact(List.append_nil _).symm
end gB
abbrev gB:=nB
def newRow(x:bW)(key text:List UInt8)(who t:Int):bW:=(x.1,(wrap .i64 (x.2.1+1),(List.append x.2.2.1 ((x.2.1,(key,(text,(who,(t,())))))::([]:List aV)),x.2.2.2)))
def mF(x:bW)(key text:List UInt8)(who t:Int):bW×(Int×Bool):=
 if(fI x&&fI (newRow x key text who t))=true then(newRow x key text who t,(x.2.1,true)) else(x,(0,false))
theorem aKs{β γ δ:Type}{m:Option (Unit×(β×(γ×(δ×Unit))))}{v:β×(γ×δ)}(h:Wp m fun r=>(r.2.1,(r.2.2.1,r.2.2.2.1))=v):m=some ((),(v.1,(v.2.1,(v.2.2,())))):=by
 obtain⟨a,rfl,rfl⟩:=h
 rfl
def aFf{α:Type}(xs:List α):Bool:=decide (xs.length<=16777000)
theorem zO{α:Type}{xs:List α}:aFf xs=true↔xs.length<=16777000:=by simp[aFf]
theorem aBP{α:Type}{xs:List α}(h:aFf xs=true):bQ xs=true:=by rw[bJ];rw[zO] at h;omega
namespace jZ
def pre(x:bW)(_ _:List UInt8)(_ _:Int):Bool:=aFf x.2.2.1
abbrev wf(x0:bW)(x1:(List UInt8))(x2:(List UInt8))(x3:Int)(x4:Int):Prop:=iM [(.val tK .f),(.val .str .f),(.val .str .f),(.val (.int .i64) .f),(.val (.int .i64) .f)] (x0,(x1,(x2,(x3,(x4,())))))
noncomputable def aQ(x0:bW)(x1:(List UInt8))(x2:(List UInt8))(x3:Int)(x4:Int):Option (Unit×(bW×(Int×(Bool×Unit)))):=
 if(bK.pre x0)=true then
 if(eM.pre x0)=true then
 letB (fI x0) fun v1=>
 if(!v1)=true then
 letB (bK x0) fun v2=>
 some ((),(v2,((0:Int),(false,()))))
 else
 letB (bK x0) fun v3=>
 if(decide (length v3.2.2.1+length ((x0.2.1,(x1,(x2,(x3,(x4,())))))::([]:List aV))<=gO))=true then
 if(eM.pre (v3.1,((wrap .i64 (x0.2.1+(1:Int))),((List.append v3.2.2.1 ((x0.2.1,(x1,(x2,(x3,(x4,())))))::([]:List aV))),v3.2.2.2))))=true then
 letB (fI (v3.1,((wrap .i64 (x0.2.1+(1:Int))),((List.append v3.2.2.1 ((x0.2.1,(x1,(x2,(x3,(x4,())))))::([]:List aV))),v3.2.2.2)))) fun v4=>
 if(!v4)=true then
 if(bK.pre x0)=true then
 some ((),(v3,((0:Int),(false,()))))
 else
 none
 else
 some ((),((v3.1,((wrap .i64 (x0.2.1+(1:Int))),((List.append v3.2.2.1 ((x0.2.1,(x1,(x2,(x3,(x4,())))))::([]:List aV))),v3.2.2.2))),(x0.2.1,(true,()))))
 else
 none
 else
 none
 else
 none
 else
 none
theorem eq(x0:bW)(x1 x2:List UInt8)(x3 x4:Int)(_:wf x0 x1 x2 x3 x4)(hp:pre x0 x1 x2 x3 x4=true):aQ x0 x1 x2 x3 x4=some ((),((mF x0 x1 x2 x3 x4).1,((mF x0 x1 x2 x3 x4).2.1,((mF x0 x1 x2 x3 x4).2.2,())))):=by
 have hs:aFf x0.2.2.1=true:=hp
 have hs':=zO.1 hs
 have h0:=aBP hs
 refine aKs ?_
 unfold aQ
 rw[show bK x0=x0 from rfl]
 have hn:eM.pre (newRow x0 x1 x2 x3 x4)=true:=by
  show bQ (List.append x0.2.2.1 _)=true
  rw[bJ,List.append_eq,Zf,Zg,Zh];omega
 refine aG (show bK.pre x0=true from h0) (aG (show eM.pre x0=true from h0) (bR (cF (fun c=>?_) fun c=>?_)))
 . refine bR (aH ?_)
   show(x0,((0:Int),false))=_
   exact(if_neg (by cases h:fI x0<;>simp_all)).symm
 . refine bR (aG (by simp only[Za,Zg,Zh,gO];exact Nat.le_trans (Nat.add_le_add_right hs' 1) (by decide)) (aG hn (bR (cF (fun d=>?_) fun d=>?_))))
   . refine aG (show bK.pre x0=true from h0) (aH ?_)
     show(x0,((0:Int),false))=_
     refine(if_neg (fun h=>?_)).symm
     rw[Zb] at h
     have d:(!fI (newRow x0 x1 x2 x3 x4))=true:=d
     rw[h.2] at d
     cases d
   . refine aH ?_
     refine(if_pos ?_).symm
     have c:fI x0=true:=by cases h:fI x0<;>simp_all
     have d:fI (newRow x0 x1 x2 x3 x4)=true:=by
      cases h:fI (newRow x0 x1 x2 x3 x4)
      . exact absurd (show(!fI (newRow x0 x1 x2 x3 x4))=true by rw[h];rfl) d
      . rfl
     rw[c,d];rfl
end jZ
abbrev jZ:=mF
def aJB:aV:=kH
def jA(x:bW)(off:Int):aV×Int:=
 if off<x.1 then(aJB,1) else match x.2.2.1.find? (fun it=>decide (off<=it.1)) with
  |some it=>(it,0)
  |none=>(aJB,2)
namespace jB
abbrev S4:Type:=(Int×(Int×(bW×(aV×Unit))))
abbrev O4:Type:=((Int×(aV×Unit))⊕(aV×Unit))
def pre4:S4->Bool:=fun(_,x2,x3,_)=>bQ x3.2.2.1&&(decide (0<=x2)&&decide (x2<=(x3.2.2.1.length:Int)))
def kU:S4->Nat:=fun(_,x2,x3,_)=>x3.2.2.1.length-x2.toNat
def fn4:S4->O4:=fun(x1,x2,x3,x4,_)=>match(x3.2.2.1.drop x2.toNat).find? (fun it=>decide (x1<=it.1)) with
 |some it=>.inl (0,(it,()))
 |none=>.inr (x4,())
noncomputable def eO(x1:Int)(x2:Int)(x3:bW)(x4:aV):Option ((Int×(Int×(bW×(aV×Unit))))⊕((Int×(aV×Unit))⊕(aV×Unit))):=
 if(decide (x2<((length x3.2.2.1:Nat):Int)))=true then
 if(decide ((0:Int)<=x2))=true then
 if(decide (x2<((length x3.2.2.1:Nat):Int)))=true then
 if(decide (x1<=(List.getD x3.2.2.1 (Int.toNat x2) kH).1))=true then
 if(decide ((0:Int)<=x2))=true then
 if(decide (x2<((length x3.2.2.1:Nat):Int)))=true then
 some (.inr (.inl ((0:Int),((List.getD x3.2.2.1 (Int.toNat x2) kH),()))))
 else
 none
 else
 none
 else
 some (.inl (x1,((wrap .i64 (x2+(1:Int))),(x3,(x4,())))))
 else
 none
 else
 none
 else
 some (.inr (.inr (x4,())))
abbrev wf(x0:bW)(x1:Int):Prop:=iM [(.val tK .f),(.val (.int .i64) .f)] (x0,(x1,()))
noncomputable def aQ(x0:bW)(x1:Int):Option (Unit×(aV×(Int×Unit))):=
 if(decide (x1<x0.1))=true then
  some ((),(kH,((1:Int),())))
 else
  if(jB.pre4 (x1,((0:Int),(x0,(kH,())))))=true then
   letB (jB.fn4 (x1,((0:Int),(x0,(kH,()))))) fun v1=>
   match v1 with
   |.inl y=>
    some ((),(y.2.1,(y.1,())))
   |.inr y=>
    some ((),(kH,((2:Int),())))
  else
   none
theorem vZ(x1 x2:Int)(x3:bW)(x4:aV)(hp:pre4 (x1,(x2,(x3,(x4,()))))=true):aX pre4 kU fn4 (x1,(x2,(x3,(x4,())))) (eO x1 x2 x3 x4):=by
 simp only[pre4,Zb,Za] at hp
 obtain⟨hs,h1,h2⟩:=hp
 have hs':=bJ.1 hs
 unfold eO
 by_cases hlt:x2<(x3.2.2.1.length:Int)
 . have hn:x2.toNat<x3.2.2.1.length:=by omega
   have e1:=Zn hn
   refine bU (Zd hlt) (bU (Zd h1) (bU (Zd hlt) ?_))
   rw[dR hn,lN (n:=x2+1) (by omega) (by omega)]
   by_cases c:x1<=x3.2.2.1[x2.toNat].1
   . refine bU (Zd c) (bU (Zd h1) (bU (Zd hlt) ?_))
     simp only[aX,fn4]
     rw[e1,List.find?_cons,Zd c]
   . refine dJ (by rw[Za];exact c) ⟨?_,by simp only[kU];omega,?_⟩
     . simp only[pre4,Zb,Za];exact⟨hs,by omega,by omega⟩
     . simp only[fn4]
       rw[e1,List.find?_cons,decide_eq_false c,show(x2+1).toNat=x2.toNat+1 by omega]
 . refine dJ (by rw[Za];exact hlt) ?_
   simp only[aX,fn4]
   rw[Zt (by omega)];rfl
def pre(x:bW)(_:Int):Bool:=bQ x.2.2.1
theorem eq(x0:bW)(x1:Int)(_:wf x0 x1)(hp:pre x0 x1=true):aQ x0 x1=some ((),((jA x0 x1).1,((jA x0 x1).2,()))):=by
 have hs:bQ x0.2.2.1=true:=hp
 refine wH ?_
 unfold aQ jA
 by_cases c1:x1<x0.1
 . rw[if_pos (Zd c1),if_pos c1];exact aH rfl
 rw[if_neg (by rw[Za];exact c1),if_neg c1]
 refine aG (show pre4 _=true by simp only[pre4,Zb,Za];exact⟨hs,by omega,by omega⟩) (bR ?_)
 simp only[fn4,Int.toNat_zero,List.drop_zero]
 cases x0.2.2.1.find? (fun it=>decide (x1<=it.1))<;>exact aH rfl
end jB
abbrev jB:=jA
def cL(n len:Int):Int:=wrap .i64 (Int.tdiv n len)
end Go.Aw.Pl
